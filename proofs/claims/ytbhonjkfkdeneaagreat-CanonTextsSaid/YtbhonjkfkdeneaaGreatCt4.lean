/-
  Parts of the way to the law, joined: rules for code over data, and what the functions return. Conditions stand at each.
-/
import Derived.Test.YtbhonjkfkdeneaaGreatCt3
import Derived.Test.YtbhonjkfkdeneaaGreatCt2
set_option linter.all false
noncomputable section
namespace Go.Av
open Go Go.Proofs
set_option maxRecDepth 10000
abbrev encL (x:Lx):DV:=lexD x.k x.t x.a
abbrev rBox (s:List Nat) (ls:List Lx) (r:RS):Ob:=.box [.d (.str s),.d (.sl 3 (ls.map encL)),.d (.int .i64 (r.pos:Nat)),.d (.int .i64 (r.f.1:Nat)),.d (.int .i64 (r.f.2:Nat)),.d (.int .i64 (r.alts:Nat)),.d (.int .i64 r.x.k),.sr 1 1 (r.x.tokens.map .str),.d (.str r.x.sep),.d (.str r.x.start),.sr 2 2 (r.x.rules.map encR)]
abbrev rO (s:List Nat) (ls:List Lx) (r:RS):List Ob:=[rBox s ls r,.room r.x.tokens.length 1,.room r.x.rules.length 2]
structure Bd (s:List Nat) (ls:List Lx) (r:RS):Prop where
 s:s.length<=1048576
 l:ls.length<=1048576
 pos:r.pos<=16777216
 alts:r.alts<=16777216
 toks:r.x.tokens.length<=2097152
 rules:r.x.rules.length<=1048576
 len:∀ x ∈ ls,x.t.length<=1048576
theorem okT4 (s:List Nat) (ls:List Lx) (r:RS) (h0:r.f.1=0):ACall Tryz.prog 106 [.bp 0 0] (rO s ls r) (.d (.bool true)) (rO s ls r):=by
 unfold rO rBox;rw [h0];refine acallW_of_run Yo (fnAt Tryz.func106 (by kernel_rfl) (by kernel_rfl):FnAt _ _ (mkFn Tryz.f106 [])) rfl rfl rfl rfl rfl ?_
 repeat' (first|refine zW [] ?_|(refine zB [] ?_ ?_<;>intro h<;>try exact zk h)|refine zX [] ?_|(refine zE ?_;(skip))|(((first|refine Yt ?_|skip);exact⟨trivial,_,_,rfl,rfl,.refl,wkE⟩))|((exfalso;(simp at h<;>omega)))|fail)
theorem okF4 (s:List Nat) (ls:List Lx) (r:RS) (h0:r.f.1≠0):ACall Tryz.prog 106 [.bp 0 0] (rO s ls r) (.d (.bool false)) (rO s ls r):=by
 have hv:AV.d (.bool (decide (((r.f.1:Nat):Int)=0)))=.d (.bool false):=by rw [decide_eq_false (by omega)]
 refine acallW_of_run Yo (fnAt Tryz.func106 (by kernel_rfl) (by kernel_rfl):FnAt _ _ (mkFn Tryz.f106 [])) rfl rfl rfl rfl rfl ?_
 repeat' (first|refine zW [] ?_|(refine zB [] ?_ ?_<;>intro h<;>try exact zk h)|refine zX [] ?_|(refine zE ?_;(skip))|(((first|refine Yt ?_|skip);exact⟨trivial,_,_,rfl,rfl,.refl,wkE⟩))|((exfalso;(simp at h<;>omega)))|fail)
theorem okB4 (s:List Nat) (ls:List Lx) (r:RS):ACall Tryz.prog 106 [.bp 0 0] (rO s ls r) (.d (.bool (decide (r.f.1=0)))) (rO s ls r):=by
 by_cases h0:r.f.1=0
 .rw [decide_eq_true h0];exact okT4 s ls r h0
 .rw [decide_eq_false h0];exact okF4 s ls r h0
theorem fail4 (s:List Nat) (ls:List Lx) (r:RS) (e a:Nat):ACall Tryz.prog 191 [.bp 0 0,.d (.int .i64 (e:Nat)),.d (.int .i64 (a:Nat))] (rO s ls r) (.tup []) (rO s ls (failR e a r)):=by
 by_cases h0:r.f.1=0
 .have c0:=okT4 s ls r h0
  rw [show failR e a r={ r with f:=(e,a) } by simp [failR,h0]];refine acallW_of_run Yo (fnAt Tryz.func191 (by kernel_rfl) (by kernel_rfl):FnAt _ _ (mkFn Tryz.f191 [])) rfl rfl rfl rfl rfl ?_
  repeat' (first|refine zW [] ?_|(refine zB [] ?_ ?_<;>intro h<;>try exact zk h)|refine zX [] ?_|refine oF (c0) ?_|refine eF (c0) ?_|(refine zE ?_;(skip))|(((first|refine Yt ?_|skip);exact⟨trivial,_,_,rfl,rfl,.refl,wkE⟩))|((exfalso;(simp at h<;>omega)))|fail)
 .have c0:=okF4 s ls r h0
  rw [show failR e a r=r by simp [failR,h0]];refine acallW_of_run Yo (fnAt Tryz.func191 (by kernel_rfl) (by kernel_rfl):FnAt _ _ (mkFn Tryz.f191 [])) rfl rfl rfl rfl rfl ?_
  repeat' (first|refine zW [] ?_|(refine zB [] ?_ ?_<;>intro h<;>try exact zk h)|refine zX [] ?_|refine oF (c0) ?_|refine eF (c0) ?_|(refine zE ?_;(skip))|(((first|refine Yt ?_|skip);exact⟨trivial,_,_,rfl,rfl,.refl,wkE⟩))|((exfalso;(simp at h<;>omega)))|fail)
theorem peek4 (s:List Nat) (ls:List Lx) (r:RS) (hb:Bd s ls r):ACall Tryz.prog 194 [.bp 0 0] (rO s ls r) (.d (encL (peekR s ls r).1)) (rO s ls (peekR s ls r).2):=by
 obtain⟨b1,b2,b3,b4,b5,b6,b7⟩:=hb;rcases Nat.lt_or_ge r.pos ls.length with hlt|hge
 .obtain⟨x,hx⟩:=get_ok hlt
  have he:peekR s ls r=(x,r):=by simp [peekR,hx]
  rw [he];refine acallW_of_run Yo (fnAt Tryz.func194 (by kernel_rfl) (by kernel_rfl):FnAt _ _ (mkFn Tryz.f194 [])) rfl rfl rfl rfl rfl ?_
  repeat' (first|refine zW [] ?_|(refine zB [] ?_ ?_<;>intro h<;>try exact zk h)|refine zX [] ?_|refine oI (frz:=[]) (v:=.d (.ep [.int .i64 (x.k:Nat),.str x.t,.int .i64 (x.a:Nat)])) ?_ (he:=by first|(simp [gD,cellsD,hx]<;>fail)|fail)|refine eI (v:=.d (.ep [.int .i64 (x.k:Nat),.str x.t,.int .i64 (x.a:Nat)])) ?_ (he:=by first|(simp [gD,cellsD,hx]<;>fail)|fail)|(refine zE ?_;(skip))|(((first|refine Yt ?_|skip);exact⟨trivial,_,_,rfl,rfl,.refl,wkE⟩))|((exfalso;(simp at h<;>omega)))|fail)
 .have he:peekR s ls r=(lx0,failR 5 s.length r):=by simp [peekR,List.getElem?_eq_none hge]
  have c0:=fail4 s ls r 5 s.length;rw [he];generalize failR 5 s.length r=r' at c0 |-;refine acallW_of_run Yo (fnAt Tryz.func194 (by kernel_rfl) (by kernel_rfl):FnAt _ _ (mkFn Tryz.f194 [])) rfl rfl rfl rfl rfl ?_
  repeat' (first|refine zW [] ?_|(refine zB [] ?_ ?_<;>intro h<;>try exact zk h)|refine zX [] ?_|refine oF (c0) ?_|refine eF (c0) ?_|(refine zE ?_;(skip))|(((first|refine Yt ?_|skip);exact⟨trivial,_,_,rfl,rfl,.refl,wkE⟩))|((exfalso;(simp at h<;>omega)))|fail)
theorem take4 (s:List Nat) (ls:List Lx) (r:RS) (hb:Bd s ls r):ACall Tryz.prog 190 [.bp 0 0] (rO s ls r) (.d (encL (takeR s ls r).1)) (rO s ls (takeR s ls r).2):=by
 have c0:=peek4 s ls r hb;have hp:(peekR s ls r).2.pos=r.pos:=by unfold peekR;split<;>simp [failR];split<;>rfl
 have hb3:=hb.pos;unfold takeR;generalize peekR s ls r=p at c0 hp |-;obtain⟨x,r1⟩:=p;simp only at c0 hp |-;have hinc:AV.d (.int .i64 (IntKind.i64.wrap ((r1.pos:Int)+1)))=.d (.int .i64 ((r1.pos+1:Nat):Int)):=congrArg (fun x=>AV.d (.int .i64 x)) ((congrArg IntKind.i64.wrap (show(r1.pos:Int)+1=((r1.pos+1:Nat):Int) by omega)).trans (wrap_nat (by omega)));refine acallW_of_run Yo (fnAt Tryz.func190 (by kernel_rfl) (by kernel_rfl):FnAt _ _ (mkFn Tryz.f190 [])) rfl rfl rfl rfl rfl ?_
 repeat' (first|refine oX (frz:=[]) (v:=.d (.int .i64 ((r1.pos+1:Nat):Int))) Yo ?_ (he:=(hinc))|refine eX (v:=.d (.int .i64 ((r1.pos+1:Nat):Int))) ?_ (he:=(hinc))|refine zW [] ?_|(refine zB [] ?_ ?_<;>intro h<;>try exact zk h)|refine zX [] ?_|refine oF (c0) ?_|refine eF (c0) ?_|(refine zE ?_;(skip))|(((first|refine Yt ?_|skip);exact⟨trivial,_,_,rfl,rfl,.refl,wkE⟩))|((exfalso;(simp at h<;>omega)))|fail)
theorem is4T (x:Lx) (k:Nat) (t:List Nat) (h1:x.k=k/\x.t=t):KnownCall Tryz.prog 232 [encL x,.int .i64 (k:Nat),.str t] (.d (.bool true)):=by
 obtain⟨h1,h2⟩:=h1;subst h1 h2;refine knownE Yo (fnAt Tryz.func232 (by kernel_rfl) (by kernel_rfl):FnAt _ _ (mkFn Tryz.f232 [])) ?_
 repeat' (first|refine zW [] ?_|(refine zB [] ?_ ?_<;>intro h<;>try exact zk h)|refine zX [] ?_|(refine zE ?_;((refine congrArg (fun b=>AV.d (.bool b)) ?_;simp_all)))|((exfalso;(simp at h<;>omega)))|fail)
theorem is4F (x:Lx) (k:Nat) (t:List Nat) (h1:¬ (x.k=k/\x.t=t)):KnownCall Tryz.prog 232 [encL x,.int .i64 (k:Nat),.str t] (.d (.bool false)):=by
 refine knownE Yo (fnAt Tryz.func232 (by kernel_rfl) (by kernel_rfl):FnAt _ _ (mkFn Tryz.f232 [])) ?_
 repeat' (first|refine zW [] ?_|(refine zB [] ?_ ?_<;>intro h<;>try exact zk h)|refine zX [] ?_|(refine zE ?_;((refine congrArg (fun b=>AV.d (.bool b)) ?_;simp_all<;>omega)))|((exfalso;(simp at h<;>omega)))|fail)
theorem must4 (s:List Nat) (ls:List Lx) (r:RS) (k:Nat) (t:List Nat) (hb:Bd s ls r):ACall Tryz.prog 189 [.bp 0 0,.d (.int .i64 (k:Nat)),.d (.str t)] (rO s ls r) (.tup []) (rO s ls (mustR s ls k t r)):=by
 have c0:=take4 s ls r hb;unfold mustR;generalize takeR s ls r=p at c0 |-;obtain⟨x,r1⟩:=p;simp only at c0 |-;by_cases h0:r1.f.1=0
 .have c1:=okT4 s ls r1 h0
  by_cases hc:x.k=k/\x.t=t
  .have c2:=is4T x k t hc
   rw [show mustX k t (x,r1)=r1 by simp [mustX,hc]];refine acallW_of_run Yo (fnAt Tryz.func189 (by kernel_rfl) (by kernel_rfl):FnAt _ _ (mkFn Tryz.f189 [])) rfl rfl rfl rfl rfl ?_
   repeat' (first|refine zW [] ?_|(refine zB [] ?_ ?_<;>intro h<;>try exact zk h)|refine zX [] ?_|refine oF (c0) ?_|refine eF (c0) ?_|refine oF (c1) ?_|refine eF (c1) ?_|refine zC (c2) ?_|(refine zE ?_;(skip))|(((first|refine Yt ?_|skip);exact⟨trivial,_,_,rfl,rfl,.refl,wkE⟩))|((exfalso;(simp at h<;>omega)))|fail)
  .have c2:=is4F x k t hc
   have c3:=fail4 s ls r1 3 x.a;rw [show mustX k t (x,r1)=failR 3 x.a r1 by simp only [mustX];rw [if_pos ⟨h0,hc⟩]];generalize failR 3 x.a r1=r2 at c3 |-;refine acallW_of_run Yo (fnAt Tryz.func189 (by kernel_rfl) (by kernel_rfl):FnAt _ _ (mkFn Tryz.f189 [])) rfl rfl rfl rfl rfl ?_
   repeat' (first|refine zW [] ?_|(refine zB [] ?_ ?_<;>intro h<;>try exact zk h)|refine zX [] ?_|refine oF (c0) ?_|refine eF (c0) ?_|refine oF (c1) ?_|refine eF (c1) ?_|refine oF (c3) ?_|refine eF (c3) ?_|refine zC (c2) ?_|(refine zE ?_;(skip))|(((first|refine Yt ?_|skip);exact⟨trivial,_,_,rfl,rfl,.refl,wkE⟩))|((exfalso;(simp at h<;>omega)))|fail)
 .have c1:=okF4 s ls r1 h0
  rw [show mustX k t (x,r1)=r1 by simp [mustX,h0]];refine acallW_of_run Yo (fnAt Tryz.func189 (by kernel_rfl) (by kernel_rfl):FnAt _ _ (mkFn Tryz.f189 [])) rfl rfl rfl rfl rfl ?_
  repeat' (first|refine zW [] ?_|(refine zB [] ?_ ?_<;>intro h<;>try exact zk h)|refine zX [] ?_|refine oF (c0) ?_|refine eF (c0) ?_|refine oF (c1) ?_|refine eF (c1) ?_|(refine zE ?_;(skip))|(((first|refine Yt ?_|skip);exact⟨trivial,_,_,rfl,rfl,.refl,wkE⟩))|((exfalso;(simp at h<;>omega)))|fail)
end Go.Av
end
noncomputable section
namespace Go.Av
open Go Go.Proofs
set_option maxRecDepth 10000
abbrev encK (v:Bool × Bool × Bool):DV:=.agg [.bool v.1,.bool v.2.1,.bool v.2.2]
abbrev encU (u:List Nat × Nat):DV:=.agg [.str u.1,.int .i64 (u.2:Nat)]
abbrev kvN (l:List (List Nat × Bool × Bool × Bool)):List (DV × DV):=(l.map fun p=>(p.1,encK p.2)).map fun p=>(.str p.1,p.2)
abbrev pBox (s:List Nat) (p:PS):Ob:=.box [.d (.str s),.d (.sl 3 (p.l.map encL)),.d (.int .i64 p.x.k),.sr 1 1 (p.x.tokens.map .str),.d (.str p.x.sep),.d (.str p.x.start),.sr 2 2 (p.x.rules.map encR),.mp 3,.sr 4 2 (p.uses.map encU),.d (.int .i64 (p.total:Nat))]
abbrev pO (s:List Nat) (p:PS):List Ob:=[pBox s p,.room p.x.tokens.length 1,.room p.x.rules.length 2,.map (kvN p.names),.room p.uses.length 2]
abbrev pE (p:PS):List Ob:=[.box [.d .any,.d .any,.d .any,.sr 1 1 (p.x.tokens.map .str),.d .any,.d .any,.d .any,.d .any,.d .any,.d .any],.room p.x.tokens.length 1,.gone,.gone,.gone]
abbrev refD (e:Fa):DV:=.iface 113 (.agg [.int .i64 (e.1:Nat),.int .i64 (e.2:Nat)])
section
variable {E:PT Ty} {H:Hd} {frz:List Nat} {rd:Operand->AV} {objs:List Ob} {o:Oper}
theorem kvN_find (l:List (List Nat × Bool × Bool × Bool)) (s:List Nat):(l.map fun p=>(p.1,encK p.2)).findIdx? (fun p=>p.1 == s)=l.findIdx? (fun p=>p.1 == s):=by
 rw [List.findIdx?_map];rfl
theorem evAny_know {t kt et:TypeId} {y yk:Ty} {yt:Ty} {m k:Operand} {i:Nat} (l:List (List Nat × Bool × Bool × Bool)) (s:List Nat) (hop:o.op=.lookup t m k false:=by rfl) (h1:E.get? t=some yt:=by rfl) (h2:yt.desc=.map kt et:=by rfl) (h3:E.get? et=some y:=by rfl) (h4:E.get? kt=some yk:=by rfl) (h5:yk.desc=.string:=by rfl)
  (hm:rd m=.mp i:=by rfl) (hi:objs[i]?=some (.map (kvN l)):=by rfl) (hk:rd k=.d (.str s):=by rfl) (hz:zeroD y=some (encK (false,false,false)):=by rfl) :
  evAny E H frz rd objs o=some (.d (encK (knowP l s)),none,true):=by
 have hf:=findKV_str (E:=E) (t:=kt) s (l.map fun p=>(p.1,encK p.2));rw [kvN_find] at hf;cases hj:l.findIdx? (fun p=>p.1 == s) with
 |none =>
  rw [hj] at hf;rw [evAny_lookup hop h1 h2 h3 h4 h5 hm hi hk hf hz];simp [knowP,hj]
 |some j =>
  obtain⟨g1,_,_⟩:=List.findIdx?_eq_some_iff_getElem.1 hj;rw [hj] at hf;simp only [Option.bind_some,List.getElem?_map,List.getElem?_eq_getElem g1,Option.map_some] at hf;rw [evAny_lookup hop h1 h2 h3 h4 h5 hm hi hk hf hz];simp [knowP,hj,g1]
theorem evAny_set {t kt et:TypeId} {yk:Ty} {yt:Ty} {m k v:Operand} {i:Nat} (l:List (List Nat × Bool × Bool × Bool)) (s:List Nat) (u:Bool × Bool × Bool) (hop:o.op=.mapUpdate t m k v:=by rfl) (h1:E.get? t=some yt:=by rfl) (h2:yt.desc=.map kt et:=by rfl) (h4:E.get? kt=some yk:=by rfl) (h5:yk.desc=.string:=by rfl)
  (hm:rd m=.mp i:=by rfl) (hi:objs[i]?=some (.map (kvN l)):=by rfl) (hk:rd k=.d (.str s):=by rfl) (hd:rd v=.d (encK u):=by rfl) :
  evAny E H frz rd objs o=some (.d .any,some (objs.set i (.map (kvN (setP l s u)))),true):=by
 have hf:=findKV_str (E:=E) (t:=kt) s (l.map fun p=>(p.1,encK p.2));rw [kvN_find] at hf;unfold setP;cases hj:l.findIdx? (fun p=>p.1 == s) with
 |none =>
  rw [hj] at hf;rw [evAny_mapUpdate hop h1 h2 h4 h5 hm hi hk hd hf]
  simp
 |some j =>
  obtain⟨g1,g2,_⟩:=List.findIdx?_eq_some_iff_getElem.1 hj;have g2:l[j].1=s:=by simpa using g2
  rw [hj] at hf;simp only [Option.bind_some,List.getElem?_map,List.getElem?_eq_getElem g1,Option.map_some] at hf;rw [evAny_mapChange hop h1 h2 h4 h5 hm hi hk hd hf];have:(kvN l).modify j (fun p=>(p.1,encK u))=kvN (l.set j (s,u)):=by
   apply List.ext_getElem?;intro n;simp only [List.getElem?_modify,List.getElem?_map,List.getElem?_set];by_cases hn:j=n
   .subst hn
    simp [g1,g2]
   .simp only [hn,if_false]
    cases l[n]?<;>simp
  rw [this]
end
theorem drop_one {l:List DV} {a:DV}:AV.d (.sl 3 (cutL (some 1) none (a :: l)))=.d (.sl 3 l):=by simp [cutL]
theorem failP (s:List Nat) (p:PS) (e a:Nat):ACall Tryz.prog 180 [.bp 0 0,.d (.int .i64 (e:Nat)),.d (.int .i64 (a:Nat))] (pO s p) (.pan (refD (e,a))) (pE p):=by
 refine acallP_of_run (fnAt Tryz.func180 (by kernel_rfl) (by kernel_rfl):FnAt _ _ (mkFn Tryz.f180 [])) rfl rfl rfl rfl ?_
 repeat' (first|refine zW [] ?_|(refine zB [] ?_ ?_<;>intro h<;>try exact zk h)|refine zX [] ?_|refine oPan ?_|(refine zE ?_;(skip))|(exact⟨rfl,rfl,wkE⟩)|fail)
theorem nextOkP (s:List Nat) (p:PS) (x:Lx) (l:List Lx) (hl:p.l=x :: l):ACall Tryz.prog 179 [.bp 0 0] (pO s p) (.d (encL x)) (pO s { p with l:=l }):=by
 unfold pO pBox;rw [hl,List.map_cons];refine acallW_of_run Yo (fnAt Tryz.func179 (by kernel_rfl) (by kernel_rfl):FnAt _ _ (mkFn Tryz.f179 [])) rfl rfl rfl rfl rfl ?_;have hcut:=drop_one (l:=l.map encL) (a:=encL x)
 repeat' (first|refine zW [] ?_|(refine zB [] ?_ ?_<;>intro h<;>try exact zk h)|refine zX [] ?_|refine oX (frz:=[]) (v:=.d (.sl 3 (l.map encL))) Yo ?_ (he:=hcut) (hf:=by first|(simp [cutC,maxC]<;>fail)|(simp [cutC,maxC];omega))|refine oI (frz:=[]) (v:=.d (.ep [.int .i64 (x.k:Nat),.str x.t,.int .i64 (x.a:Nat)])) ?_ (he:=by first|(simp [gD,cellsD,hl]<;>fail)|fail)|refine eI (v:=.d (.ep [.int .i64 (x.k:Nat),.str x.t,.int .i64 (x.a:Nat)])) ?_ (he:=by first|(simp [gD,cellsD,hl]<;>fail)|fail)|(refine zE ?_;(skip))|(((first|refine Yt ?_|skip);exact⟨trivial,_,_,rfl,rfl,.refl,wkE⟩))|((exfalso;(simp at h<;>omega)))|fail)
theorem nextEndP (s:List Nat) (p:PS) (hl:p.l=[]):ACall Tryz.prog 179 [.bp 0 0] (pO s p) (.pan (refD (5,s.length))) (pE p):=by
 have c0:=failP s p 5 s.length;unfold pO pBox at c0 |-;rw [hl] at c0 |-;refine acallP_of_run (fnAt Tryz.func179 (by kernel_rfl) (by kernel_rfl):FnAt _ _ (mkFn Tryz.f179 [])) rfl rfl rfl rfl ?_
 repeat' (first|refine zW [] ?_|(refine zB [] ?_ ?_<;>intro h<;>try exact zk h)|refine zX [] ?_|refine oFP (c0) ?_|(refine zE ?_;(skip))|(exact⟨rfl,rfl,wkE⟩)|((exfalso;(simp at h<;>omega)))|fail)
end Go.Av
end
noncomputable section
namespace Go.Av
open Go Go.Proofs
section
variable {s:List Nat} {ls:List Lx}
theorem failR_f {r:RS} {e a:Nat} (h:r.f.1≠0):failR e a r=r:=by simp [failR,h]
theorem peekR_f {r:RS} (h:r.f.1≠0):(peekR s ls r).2=r:=by
 unfold peekR;split
 .rfl
 .exact failR_f h
theorem takeR_f {r:RS} (h:r.f.1≠0):(takeR s ls r).2.f=r.f:=by simp [takeR,peekR_f h]
theorem mustX_f {k:Nat} {t:List Nat} {p:Lx × RS} (h:p.2.f.1≠0):mustX k t p=p.2:=by simp [mustX,h]
theorem mustR_f {k:Nat} {t:List Nat} {r:RS} (h:r.f.1≠0):(mustR s ls k t r).f=r.f:=by
 have:=takeR_f (s:=s) (ls:=ls) h;unfold mustR;rw [mustX_f (by rw [this];exact h),this]
theorem nextQ_f {t:List Nat} {r:RS} (h:r.f.1≠0):nextQ ls t r=(false,r):=by simp [nextQ,h]
theorem nameX_f {c:Bool} {p:Lx × RS} (h:p.2.f.1≠0):(nameX c p).2=p.2:=by simp [nameX,h]
theorem nameR_f {c:Bool} {r:RS} (h:r.f.1≠0):(nameR s ls c r).2.f=r.f:=by
 have:=takeR_f (s:=s) (ls:=ls) h;unfold nameR;rw [nameX_f (by rw [this];exact h),this]
theorem newR_f {l:List (List Nat)} {t:List Nat} {a:Nat} {r:RS} (h:r.f.1≠0):newR l t a r=r:=by unfold newR;split<;>simp [failR_f h]
theorem roomR_f {n w a:Nat} {r:RS} (h:r.f.1≠0):roomR n w a r=r:=by unfold roomR;split<;>simp [failR_f h]
theorem tokensR_f {n:Nat} {r:RS} (h:r.f.1≠0):tokensR s ls n r=r:=by cases n<;>simp [tokensR,h]
theorem sepR_f {r:RS} (h:r.f.1≠0):(sepR s ls r).f=r.f:=by
 have h1:=mustR_f (s:=s) (ls:=ls) (k:=1) (t:=wSep) h;have h1':(mustR s ls 1 wSep r).f.1≠0:=by rw [h1];exact h
 have h2:=peekR_f (s:=s) (ls:=ls) h1';have h3:(nameR s ls false (peekR s ls (mustR s ls 1 wSep r)).2).2.f=r.f:=by rw [h2,nameR_f h1',h1]
 simp only [sepR];rw [newR_f (by simp only [h3];exact h),mustR_f (by simp only [h3];exact h)];exact h3
theorem startR_f {r:RS} (h:r.f.1≠0):(startR s ls r).2.f=r.f:=by
 have h1:=mustR_f (s:=s) (ls:=ls) (k:=1) (t:=wStart) h;have h1':(mustR s ls 1 wStart r).f.1≠0:=by rw [h1];exact h
 have h2:=peekR_f (s:=s) (ls:=ls) h1';have h3:(nameR s ls true (peekR s ls (mustR s ls 1 wStart r)).2).2.f=r.f:=by rw [h2,nameR_f h1',h1]
 simp only [startR];rw [mustR_f (by simp only [h3];exact h)];exact h3
theorem altR_f {n:Nat} {acc:List (List Nat)} {r:RS} (h:r.f.1≠0):altR s ls n acc r=(acc,r):=by cases n<;>simp [altR,h]
theorem rulesR_f {n:Nat} {b:Bool} {r:RS} (h:r.f.1≠0):rulesR s ls n b r=r:=by cases n<;>simp [rulesR,h]
structure Rel (ls:List Lx) (r:RS) (p:PS):Prop where
 f:r.f=(0,0)
 l:p.l=ls.drop r.pos
 x:r.x=p.x
 n:r.alts=p.total
def Ok (ls:List Lx) (r:RS) (Q:PS->Prop):Except Fa PS->Prop
 |.ok q=>Rel ls r q/\Q q
 |.error e=>r.f=e/\e.1≠0
theorem Rel.f0 {r:RS} {p:PS} (h:Rel ls r p):r.f.1=0:=by rw [h.f]
theorem drop_at {i:Nat} {x:Lx} (h:ls[i]?=some x):ls.drop i=x :: ls.drop (i+1):=by
 obtain⟨h1,h2⟩:=List.getElem?_eq_some_iff.1 h;rw [List.drop_eq_getElem_cons h1,h2]
theorem Rel.cases {r:RS} {p:PS} (h:Rel ls r p):(∃ x,ls[r.pos]?=some x/\p.l=x :: ls.drop (r.pos+1)/\peekR s ls r=(x,r)/\takeR s ls r=(x,{ r with pos:=r.pos+1 })/\nextP s p=.ok (x,{ p with l:=ls.drop (r.pos+1) }) /\
   Rel ls { r with pos:=r.pos+1 } { p with l:=ls.drop (r.pos+1) }) \/
  (ls[r.pos]?=none/\p.l=[]/\peekR s ls r=(lx0,{ r with f:=(5,s.length) })/\takeR s ls r=(lx0,{ r with f:=(5,s.length),pos:=r.pos+1 })/\nextP s p=.error (5,s.length)):=by
 have h0:=h.f0;cases hx:ls[r.pos]? with
 |some x =>
  have hl:=h.l;rw [drop_at hx] at hl;refine .inl ⟨x,rfl,hl,by simp [peekR,hx],by simp [takeR,peekR,hx],by simp [nextP,hl],⟨h.f,rfl,h.x,h.n⟩⟩
 |none =>
  have hl:=h.l;rw [List.drop_eq_nil_of_le (List.getElem?_eq_none_iff.1 hx)] at hl;exact .inr ⟨rfl,hl,by simp [peekR,hx,failR,h0],by simp [takeR,peekR,hx,failR,h0],by simp [nextP,hl]⟩
theorem mustR_ok {r:RS} {p:PS} (h:Rel ls r p) (k:Nat) (t:List Nat):Ok ls (mustR s ls k t r) (fun q=>q={ p with l:=ls.drop (r.pos+1) }/\q.l.length<p.l.length/\(mustR s ls k t r).pos=r.pos+1/\∃ x,ls[r.pos]?=some x/\x.k=k/\x.t=t) (wantP s k t p):=by
 have h0:=h.f0;rcases h.cases (s:=s) with⟨x,hx,hl,_,e1,e2,hr⟩|⟨hx,hl,_,e1,e2⟩
 .by_cases hc:x.k=k/\x.t=t
  .have e:mustR s ls k t r={ r with pos:=r.pos+1 }:=by simp [mustR,mustX,e1,hc]
   simp only [wantP,e2,Except.bind,hc,and_self,if_true,Ok,e];exact⟨hr,(by first|exact trivial|rfl),by rw [hl];simp,(by first|exact trivial|rfl),x,hx,hc.1,hc.2⟩
  .simp only [wantP,e2,Except.bind,hc,if_false,Ok,mustR,mustX,e1,h0,not_false_iff,and_self,if_true,failR]
   exact⟨(by first|exact trivial|rfl),by simp⟩
 .simp [wantP,e2,Except.bind,Ok,mustR,mustX,e1]
theorem word_ok {r:RS} {p:PS} (h:Rel ls r p) (c:Bool):match wordP s (if c then capitalF else smallF) p with
  |.ok q=>q.2={ p with l:=ls.drop (r.pos+1) }/\q.2.l.length<p.l.length/\peekR s ls r=(q.1,r)/\nameR s ls c r=(q.1.t,{ r with pos:=r.pos+1 })/\Rel ls { r with pos:=r.pos+1 } q.2/\(if c then capitalF else smallF) q.1.t=true/\ls[r.pos]?=some q.1/\q.1.k=1
  |.error e=>e.1≠0/\((peekR s ls r).2=r/\(nameR s ls c r).2.f=e\/(peekR s ls r).2.f=e):=by
 have h0:=h.f0;rcases h.cases (s:=s) with⟨x,hx,hl,e0,e1,e2,hr⟩|⟨hx,hl,e0,e1,e2⟩
 .by_cases hk:x.k=1
  .by_cases hc:(if c then capitalF else smallF) x.t=true
   .have hc':(if c=true then capitalF x.t else smallF x.t)=true:=by cases c<;>simpa using hc
    simp only [wordP,e2,Except.bind,hk,ne_eq,not_true,if_false,hc,if_true];refine⟨trivial,by rw [hl];simp,e0,?_,hr,trivial,hx,trivial⟩;simp [nameR,nameX,e1,h0,hk,hc']
   .have hc':¬ (if c=true then capitalF x.t else smallF x.t)=true:=by cases c<;>simpa using hc
    simp only [wordP,e2,Except.bind,hk,ne_eq,not_true,if_false,hc];refine⟨by simp,.inl ⟨by rw [e0],?_⟩⟩;simp [nameR,nameX,e1,h0,hk,hc',failR]
  .simp only [wordP,e2,Except.bind,hk,ne_eq,not_false_iff,if_true]
   refine⟨by simp,.inl ⟨by rw [e0],?_⟩⟩;simp [nameR,nameX,e1,h0,hk,failR]
 .simp only [wordP,e2,Except.bind]
  exact⟨by simp,.inr (by rw [e0])⟩
theorem word_bad {r:RS} {c:Bool} {e:Fa} (he:e.1≠0) (h:(peekR s ls r).2=r/\(nameR s ls c r).2.f=e\/(peekR s ls r).2.f=e):(nameR s ls c (peekR s ls r).2).2.f=e:=by
 rcases h with⟨h1,h2⟩|h1
 .rw [h1,h2]
 .rw [nameR_f (by rw [h1];exact he),h1]
theorem knowP_set {l:List (List Nat × Bool × Bool × Bool)} {t u:List Nat} {v:Bool × Bool × Bool}:knowP (setP l t v) u=if u=t then v else knowP l u:=by
 have gen:∀ l:List (List Nat × Bool × Bool × Bool),knowP l u=((l.find? (fun p=>p.1 == u)).map (·.2)).getD (false,false,false):=by
  intro l;unfold knowP
  congr 1
  induction l with
  |nil=>rfl
  |cons a l ih =>
   rw [List.findIdx?_cons,List.find?_cons];cases ha:a.1 == u with
   |true=>simp
   |false =>
    simp only [Bool.false_eq_true,if_false];rw [<- ih];cases l.findIdx? (fun p=>p.1 == u)<;>simp
 rw [gen,gen];unfold setP;split
 .rename_i i hi
  obtain⟨h1,h2,h3⟩:=List.findIdx?_eq_some_iff_getElem.1 hi;have h2:l[i].1=t:=by simpa using h2
  have hsp:l=l.take i++l[i] :: l.drop (i+1):=by rw [<- List.drop_eq_getElem_cons h1,List.take_append_drop]
  have hset:l.set i (t,v)=l.take i++(t,v) :: l.drop (i+1):=by
   apply List.ext_getElem?;intro j;rw [List.getElem?_set];rcases Nat.lt_trichotomy j i with hj|hj|hj
   .rw [if_neg (by omega),List.getElem?_append_left (by simp;omega),List.getElem?_take,if_pos hj]
   .subst hj
    rw [if_pos rfl,if_pos h1,List.getElem?_append_right (by simp;omega)];simp [Nat.min_eq_left (Nat.le_of_lt h1)]
   .rw [if_neg (by omega),List.getElem?_append_right (by simp;omega)]
    obtain⟨d,rfl⟩:∃ d,j=i+1+d:=⟨j-(i+1),by omega⟩
    rw [List.length_take,Nat.min_eq_left (Nat.le_of_lt h1),show i+1+d-i=d+1 by omega]
    simp
  have hno:∀ u',(u'=t)->(l.take i).find? (fun p=>p.1 == u')=none:=by
   intro u' e;subst e;rw [List.find?_eq_none];intro x hx;obtain⟨j,hj,e⟩:=List.getElem_of_mem hx;have hj':j<i:=by simp at hj;omega
   have:=h3 j hj';rw [List.getElem_take] at e;subst e;simpa using this
  rw [hset]
  conv=>rhs;rw [hsp]
  rw [List.find?_append,List.find?_append,List.find?_cons,List.find?_cons];by_cases hu:u=t
  .rw [if_pos hu,hno u hu];simp [hu]
  .rw [if_neg hu]
   have a1:(t == u)=false:=by simpa using fun e=>hu e.symm
   have a2:(l[i].1 == u)=false:=by rw [h2];exact a1
   simp only [a1,a2]
 .rename_i hi
  have hno:∀ x ∈ l,¬ x.1=t:=by
   intro x hx;have:=List.findIdx?_eq_none_iff.1 hi x hx;simpa using this
  rw [List.find?_append];by_cases hu:u=t
  .subst hu
   rw [if_pos rfl,List.find?_eq_none.2 (by simpa using hno)]
   simp
  .rw [if_neg hu]
   have a1:(t == u)=false:=by simpa using fun e=>hu e.symm
   cases hf:l.find? (fun p=>p.1 == u)<;>simp [a1]
theorem small_cap {t:List Nat} (h:smallF t=true):capitalF t=false:=by
 simp only [smallF,capitalF,Bool.and_eq_true,decide_eq_true_eq] at h |-;rw [decide_eq_false (show ¬ t.getD 0 0<97 by omega),Bool.and_false]
theorem hasF_snoc {l:List (List Nat)} {t u:List Nat}:hasF (l++[t]) u=(hasF l u || decide (t=u)):=by simp [hasF]
def NH (p:PS):Prop:=(∀ t,knowP p.names t=(hasF p.x.tokens t,false,false))/\(∀ t ∈ p.x.tokens,smallF t=true)/\p.uses=[]/\p.x.rules=[]
theorem tokenR_ok {r:RS} {p:PS} (h:Rel ls r p) (hn:NH p):Ok ls (tokenR s ls r) (fun q=>NH q/\q.l.length+1=p.l.length) (tokenP s p):=by
 have hw:=word_ok (s:=s) h false;simp only [Bool.false_eq_true,if_false] at hw;unfold tokenP terminalP;cases hq:wordP s smallF p with
 |error e =>
  rw [hq] at hw;have h1:=word_bad hw.1 hw.2;have h3:(nameR s ls false (peekR s ls r).2).2.f.1≠0:=by rw [h1];exact hw.1
  simp only [Except.bind,Ok,tokenR];rw [newR_f h3,roomR_f h3];exact⟨h1,hw.1⟩
 |ok q =>
  rw [hq] at hw;obtain⟨e0,_,e1,e2,e3,e4,e5,_⟩:=hw;obtain⟨x,q⟩:=q;simp only at e0 e1 e2 e3 e4 e5;have h0:=h.f0;have hl:q.l.length+1=p.l.length:=by rw [h.l,drop_at e5,e0];rfl
  have hkn:knowP q.names x.t=(hasF p.x.tokens x.t,false,false):=by rw [e0];exact hn.1 _
  have hqt:q.x.tokens=p.x.tokens:=by rw [e0]
  simp only [Except.bind,tokenR,e1,e2,hkn,hqt];have hrt:r.x.tokens=p.x.tokens:=by rw [h.x]
  by_cases hh:hasF p.x.tokens x.t=true
  .rw [if_pos (by simp [hh])]
   refine⟨?_,by simp⟩;simp only [newR,hrt,hh,if_true];rw [roomR_f (by simp [failR,h0])];simp [failR,h0]
  .have hh:hasF p.x.tokens x.t=false:=by simpa using hh
   rw [if_neg (by simp [hh])];simp only [newR,hrt,hh,Bool.false_eq_true,if_false,true_and];by_cases h8:p.x.tokens.length=8
   .rw [if_pos h8]
    refine⟨?_,by simp⟩;simp [roomR,hrt,h8,failR,h0]
   .rw [if_neg h8]
    simp only [roomR,hrt,h8,if_false,Ok];refine⟨⟨h.f,e3.l,?_,e3.n⟩,⟨fun t=>?_,?_,?_,?_⟩,hl⟩
    .have:=h.x
     simp only [hqt,hrt,e0,this]
    .simp only [knowP_set,hasF_snoc]
     by_cases ht:t=x.t
     .subst ht;simp
     .rw [if_neg ht,show q.names=p.names by rw [e0],hn.1]
      simp [show ¬ x.t=t from fun e=>ht e.symm,hqt]
    .intro t ht
     simp only [List.mem_append,List.mem_singleton] at ht;rcases ht with ht|rfl
     .exact hn.2.1 t (by rw [<- hqt];exact ht)
     .exact e4
    .rw [e0];exact hn.2.2.1
    .rw [e0];exact hn.2.2.2
theorem isL_cons {t:List Nat} {l:List Lx} (h:isL t l=true):∃ x l',l=x :: l'/\x.k=3/\x.t=t:=by
 cases l with
 |nil=>cases h
 |cons x l'=>exact⟨x,l',rfl,by simpa [isL] using h⟩
theorem tokensR_ok:∀ (n m:Nat) {r:RS} {p:PS},Rel ls r p->NH p->p.l.length<n->p.l.length<=m->Ok ls (tokensR s ls n r) NH ((tokenP s p).bind fun p=>tokensLP s m p)
 |0,_,_,_,_,_,hn,_=>by omega
 |n+1,m,r,p,h,hN,hn,hm=>by
  have ht:=tokenR_ok (s:=s) h hN;simp only [tokensR,h.f0,if_true];cases hq:tokenP s p with
  |error e =>
   rw [hq] at ht;simp only [Except.bind,Ok];rw [nextQ_f (by rw [ht.1];exact ht.2)];exact ht
  |ok q =>
   rw [hq] at ht;obtain⟨hr,hN',hl⟩:=ht;simp only [Except.bind];obtain⟨m,rfl⟩:∃ k,m=k+1:=⟨m-1,by omega⟩
   unfold tokensLP;rw [hr.l];cases hc:isL sComma (ls.drop (tokenR s ls r).pos) with
   |false=>simp only [nextQ,hr.f0,hc];exact⟨hr,hN'⟩
   |true =>
    simp only [nextQ,hr.f0,hc,and_self,if_true];rcases hr.cases (s:=s) with⟨x,hx,hl2,_,_,e2,hr2⟩|⟨hx,hl2,_,_,e2⟩
    .rw [e2]
     simp only [Except.bind];have hl3:({ q with l:=ls.drop ((tokenR s ls r).pos+1) }:PS).l.length+1=q.l.length:=by rw [hl2];rfl
     exact tokensR_ok n m hr2 hN' (by omega) (by omega)
    .rw [hr.l] at hl2
     rw [hl2] at hc;cases hc
end
end Go.Av
end
noncomputable section
namespace Go.Av
open Go Go.Proofs
set_option maxRecDepth 10000
abbrev endO (s:List Nat) (p:PS):Except Fa PS->List Ob
 |.ok q=>pO s q
 |.error _=>pE p
abbrev endR:Except Fa PS->AV
 |.ok _=>.tup []
 |.error e=>.pan (refD e)
structure PB (p:PS):Prop where
 len:∀ x ∈ p.l,x.t.length<=1048576
 l:p.l.length<=100000
 toks:p.x.tokens.length<=1000
 rules:p.x.rules.length<=1000
 uses:p.uses.length+p.l.length<=200000
 total:p.total<=1000
theorem isPT (x:Lx) (k:Nat) (t:List Nat) (h1:x.k=k/\x.t=t):KnownCall Tryz.prog 186 [encL x,.int .i64 (k:Nat),.str t] (.d (.bool true)):=by
 obtain⟨h1,h2⟩:=h1;subst h1 h2;refine knownE Yo (fnAt Tryz.func186 (by kernel_rfl) (by kernel_rfl):FnAt _ _ (mkFn Tryz.f186 [])) ?_
 repeat' (first|refine zW [] ?_|(refine zB [] ?_ ?_<;>intro h<;>try exact zk h)|refine zX [] ?_|(refine zE ?_;((refine congrArg (fun b=>AV.d (.bool b)) ?_;simp_all)))|((exfalso;(simp at h<;>omega)))|fail)
theorem isPF (x:Lx) (k:Nat) (t:List Nat) (h1:¬ (x.k=k/\x.t=t)):KnownCall Tryz.prog 186 [encL x,.int .i64 (k:Nat),.str t] (.d (.bool false)):=by
 refine knownE Yo (fnAt Tryz.func186 (by kernel_rfl) (by kernel_rfl):FnAt _ _ (mkFn Tryz.f186 [])) ?_
 repeat' (first|refine zW [] ?_|(refine zB [] ?_ ?_<;>intro h<;>try exact zk h)|refine zX [] ?_|(refine zE ?_;((refine congrArg (fun b=>AV.d (.bool b)) ?_;simp_all<;>omega)))|((exfalso;(simp at h<;>omega)))|fail)
theorem wantC (s:List Nat) (p:PS) (k:Nat) (t:List Nat):ACall Tryz.prog 227 [.bp 0 0,.d (.int .i64 (k:Nat)),.d (.str t)] (pO s p) (endR (wantP s k t p)) (endO s p (wantP s k t p)):=by
 cases hl:p.l with
 |nil =>
  have c0:=nextEndP s p hl;rw [show wantP s k t p=.error (5,s.length) by simp [wantP,nextP,hl,Except.bind]];refine acallP_of_run (fnAt Tryz.func227 (by kernel_rfl) (by kernel_rfl):FnAt _ _ (mkFn Tryz.f227 [])) rfl rfl rfl rfl ?_
  repeat' (first|refine zW [] ?_|(refine zB [] ?_ ?_<;>intro h<;>try exact zk h)|refine zX [] ?_|refine oFP (c0) ?_|(refine zE ?_;(skip))|(exact⟨rfl,rfl,wkE⟩)|((exfalso;(simp at h<;>omega)))|fail)
 |cons x l =>
  have c0:=nextOkP s p x l hl;by_cases hc:x.k=k/\x.t=t
  .have c1:=isPT x k t hc
   rw [show wantP s k t p=.ok { p with l:=l } by simp [wantP,nextP,hl,Except.bind,hc]];refine acallW_of_run Yo (fnAt Tryz.func227 (by kernel_rfl) (by kernel_rfl):FnAt _ _ (mkFn Tryz.f227 [])) rfl rfl rfl rfl rfl ?_
   repeat' (first|refine zW [] ?_|(refine zB [] ?_ ?_<;>intro h<;>try exact zk h)|refine zX [] ?_|refine oF (c0) ?_|refine eF (c0) ?_|refine zC (c1) ?_|(refine zE ?_;(skip))|(((first|refine Yt ?_|skip);exact⟨trivial,_,_,rfl,rfl,.refl,wkE⟩))|((exfalso;(simp at h<;>omega)))|fail)
  .have c1:=isPF x k t hc
   have c2:=failP s { p with l:=l } 3 x.a;rw [show wantP s k t p=.error (3,x.a) by simp only [wantP,nextP,hl,Except.bind];rw [if_neg hc]];refine acallP_of_run (fnAt Tryz.func227 (by kernel_rfl) (by kernel_rfl):FnAt _ _ (mkFn Tryz.f227 [])) rfl rfl rfl rfl ?_
   repeat' (first|refine zW [] ?_|(refine zB [] ?_ ?_<;>intro h<;>try exact zk h)|refine zX [] ?_|refine oF (c0) ?_|refine eF (c0) ?_|refine zC (c1) ?_|refine oFP (c2) ?_|(refine zE ?_;(skip))|(exact⟨rfl,rfl,wkE⟩)|((exfalso;(simp at h<;>omega)))|fail)
theorem headC (s:List Nat) (p:PS) (t:List Nat):ACall Tryz.prog 178 [.bp 0 0,.d (.str t)] (pO s p) (endR (wantP s 1 t p)) (endO s p (wantP s 1 t p)):=by
 have c0:=wantC s p 1 t;cases h:wantP s 1 t p with
 |ok q =>
  rw [h] at c0;refine acallW_of_run Yo (fnAt Tryz.func178 (by kernel_rfl) (by kernel_rfl):FnAt _ _ (mkFn Tryz.f178 [])) rfl rfl rfl rfl rfl ?_
  repeat' (first|refine zW [] ?_|(refine zB [] ?_ ?_<;>intro h<;>try exact zk h)|refine zX [] ?_|refine oF (c0) ?_|refine eF (c0) ?_|(refine zE ?_;(skip))|(((first|refine Yt ?_|skip);exact⟨trivial,_,_,rfl,rfl,.refl,wkE⟩))|fail)
 |error e =>
  rw [h] at c0;refine acallP_of_run (fnAt Tryz.func178 (by kernel_rfl) (by kernel_rfl):FnAt _ _ (mkFn Tryz.f178 [])) rfl rfl rfl rfl ?_
  repeat' (first|refine zW [] ?_|(refine zB [] ?_ ?_<;>intro h<;>try exact zk h)|refine zX [] ?_|refine oFP (c0) ?_|(refine zE ?_;(skip))|(exact⟨rfl,rfl,wkE⟩)|fail)
theorem endC (s:List Nat) (p:PS):ACall Tryz.prog 182 [.bp 0 0] (pO s p) (endR (wantP s 3 sSemi p)) (endO s p (wantP s 3 sSemi p)):=by
 have c0:=wantC s p 3 sSemi;cases h:wantP s 3 sSemi p with
 |ok q =>
  rw [h] at c0;refine acallW_of_run Yo (fnAt Tryz.func182 (by kernel_rfl) (by kernel_rfl):FnAt _ _ (mkFn Tryz.f182 [])) rfl rfl rfl rfl rfl ?_
  repeat' (first|refine zW [] ?_|(refine zB [] ?_ ?_<;>intro h<;>try exact zk h)|refine zX [] ?_|refine oF (c0) ?_|refine eF (c0) ?_|(refine zE ?_;(skip))|(((first|refine Yt ?_|skip);exact⟨trivial,_,_,rfl,rfl,.refl,wkE⟩))|fail)
 |error e =>
  rw [h] at c0;refine acallP_of_run (fnAt Tryz.func182 (by kernel_rfl) (by kernel_rfl):FnAt _ _ (mkFn Tryz.f182 [])) rfl rfl rfl rfl ?_
  repeat' (first|refine zW [] ?_|(refine zB [] ?_ ?_<;>intro h<;>try exact zk h)|refine zX [] ?_|refine oFP (c0) ?_|(refine zE ?_;(skip))|(exact⟨rfl,rfl,wkE⟩)|fail)
theorem isCP (s:List Nat) (p:PS) (t:List Nat):ACall Tryz.prog 184 [.bp 0 0,.d (.str t)] (pO s p) (.d (.bool (isL t p.l))) (pO s p):=by
 cases hl:p.l with
 |nil =>
  unfold pO pBox;rw [hl,show isL t []=false from rfl];refine acallW_of_run Yo (fnAt Tryz.func184 (by kernel_rfl) (by kernel_rfl):FnAt _ _ (mkFn Tryz.f184 [])) rfl rfl rfl rfl rfl ?_
  repeat' (first|refine zW [] ?_|(refine zB [] ?_ ?_<;>intro h<;>try exact zk h)|refine zX [] ?_|(refine zE ?_;(skip))|(((first|refine Yt ?_|skip);exact⟨trivial,_,_,rfl,rfl,.refl,wkE⟩))|((exfalso;(simp at h<;>omega)))|fail)
 |cons x l =>
  unfold pO pBox;rw [hl,List.map_cons];by_cases hc:x.k=3/\x.t=t
  .have c1:=isPT x 3 t hc
   rw [show isL t (x :: l)=true by simp [isL,hc]];refine acallW_of_run Yo (fnAt Tryz.func184 (by kernel_rfl) (by kernel_rfl):FnAt _ _ (mkFn Tryz.f184 [])) rfl rfl rfl rfl rfl ?_
   repeat' (first|refine zW [] ?_|(refine zB [] ?_ ?_<;>intro h<;>try exact zk h)|refine zX [] ?_|refine zC (c1) ?_|refine oI (frz:=[]) (v:=.d (.ep [.int .i64 (x.k:Nat),.str x.t,.int .i64 (x.a:Nat)])) ?_ (he:=by first|(simp [gD,cellsD,hl]<;>fail)|fail)|refine eI (v:=.d (.ep [.int .i64 (x.k:Nat),.str x.t,.int .i64 (x.a:Nat)])) ?_ (he:=by first|(simp [gD,cellsD,hl]<;>fail)|fail)|(refine zE ?_;(skip))|(((first|refine Yt ?_|skip);exact⟨trivial,_,_,rfl,rfl,.refl,wkE⟩))|((exfalso;first|(simp at h<;>fail)|(simp at h;omega)))|fail)
  .have c1:=isPF x 3 t hc
   rw [show isL t (x :: l)=false by simp only [isL,decide_eq_false_iff_not];exact hc];refine acallW_of_run Yo (fnAt Tryz.func184 (by kernel_rfl) (by kernel_rfl):FnAt _ _ (mkFn Tryz.f184 [])) rfl rfl rfl rfl rfl ?_
   repeat' (first|refine zW [] ?_|(refine zB [] ?_ ?_<;>intro h<;>try exact zk h)|refine zX [] ?_|refine zC (c1) ?_|refine oI (frz:=[]) (v:=.d (.ep [.int .i64 (x.k:Nat),.str x.t,.int .i64 (x.a:Nat)])) ?_ (he:=by first|(simp [gD,cellsD,hl]<;>fail)|fail)|refine eI (v:=.d (.ep [.int .i64 (x.k:Nat),.str x.t,.int .i64 (x.a:Nat)])) ?_ (he:=by first|(simp [gD,cellsD,hl]<;>fail)|fail)|(refine zE ?_;(skip))|(((first|refine Yt ?_|skip);exact⟨trivial,_,_,rfl,rfl,.refl,wkE⟩))|((exfalso;first|(simp at h<;>fail)|(simp at h;omega)))|fail)
abbrev endRL:Except Fa (Lx × PS)->AV
 |.ok q=>.d (encL q.1)
 |.error e=>.pan (refD e)
abbrev endOL (s:List Nat) (p:PS):Except Fa (Lx × PS)->List Ob
 |.ok q=>pO s q.2
 |.error _=>pE p
theorem wordC (s:List Nat) (p:PS) (F:FuncId) (may:List Nat->Bool) (hb:∀ x ∈ p.l,x.t.length<=1048576) (hm:∀ t:List Nat,t.length<=1048576->KnownCall Tryz.prog F [.str t] (.d (.bool (may t)))) :
  ACall Tryz.prog 185 [.bp 0 0,.d (.fn (.func F) [] [])] (pO s p) (endRL (wordP s may p)) (endOL s p (wordP s may p)):=by
 cases hl:p.l with
 |nil =>
  have c0:=nextEndP s p hl;rw [show wordP s may p=.error (5,s.length) by simp [wordP,nextP,hl,Except.bind]];refine acallP_of_run (fnAt Tryz.func185 (by kernel_rfl) (by kernel_rfl):FnAt _ _ (mkFn Tryz.f185 [])) rfl rfl rfl rfl ?_
  repeat' (first|refine zW [] ?_|(refine zB [] ?_ ?_<;>intro h<;>try exact zk h)|refine zX [] ?_|refine oFP (c0) ?_|(refine zE ?_;(skip))|(exact⟨rfl,rfl,wkE⟩)|((exfalso;(simp at h<;>omega)))|fail)
 |cons x l =>
  have c0:=nextOkP s p x l hl;have cm:=hm x.t (hb x (by rw [hl];exact List.mem_cons_self));by_cases hk:x.k=1
  .have hkk:AV.d (.bool (((x.k:Nat):Int) != 1))=.d (.bool false):=by rw [hk];rfl
   cases hy:may x.t with
   |true =>
    rw [hy] at cm;rw [show wordP s may p=.ok (x,{ p with l:=l }) by simp [wordP,nextP,hl,Except.bind,hk,hy]];refine acallW_of_run Yo (fnAt Tryz.func185 (by kernel_rfl) (by kernel_rfl):FnAt _ _ (mkFn Tryz.f185 [])) rfl rfl rfl rfl rfl ?_
    repeat' (first|refine oX (frz:=[]) (v:=.d (.bool false)) Yo ?_ (he:=(hkk))|refine eX (v:=.d (.bool false)) ?_ (he:=(hkk))|refine zW [] ?_|(refine zB [] ?_ ?_<;>intro h<;>try exact zk h)|refine zX [] ?_|refine oF (c0) ?_|refine eF (c0) ?_|refine zC (cm) ?_|(refine zE ?_;(skip))|(((first|refine Yt ?_|skip);exact⟨trivial,_,_,rfl,rfl,.refl,wkE⟩))|((exfalso;(simp at h<;>omega)))|fail)
   |false =>
    rw [hy] at cm;have c2:=failP s { p with l:=l } 12 x.a;rw [show wordP s may p=.error (12,x.a) by simp [wordP,nextP,hl,Except.bind,hk,hy]];refine acallP_of_run (fnAt Tryz.func185 (by kernel_rfl) (by kernel_rfl):FnAt _ _ (mkFn Tryz.f185 [])) rfl rfl rfl rfl ?_
    repeat' (first|refine oX (frz:=[]) (v:=.d (.bool false)) Yo ?_ (he:=(hkk))|refine eX (v:=.d (.bool false)) ?_ (he:=(hkk))|refine zW [] ?_|(refine zB [] ?_ ?_<;>intro h<;>try exact zk h)|refine zX [] ?_|refine oF (c0) ?_|refine eF (c0) ?_|refine zC (cm) ?_|refine oFP (c2) ?_|(refine zE ?_;(skip))|(exact⟨rfl,rfl,wkE⟩)|((exfalso;(simp at h<;>omega)))|fail)
  .have c2:=failP s { p with l:=l } 3 x.a
   rw [show wordP s may p=.error (3,x.a) by simp [wordP,nextP,hl,Except.bind,hk]];refine acallP_of_run (fnAt Tryz.func185 (by kernel_rfl) (by kernel_rfl):FnAt _ _ (mkFn Tryz.f185 [])) rfl rfl rfl rfl ?_
   repeat' (first|refine zW [] ?_|(refine zB [] ?_ ?_<;>intro h<;>try exact zk h)|refine zX [] ?_|refine oF (c0) ?_|refine eF (c0) ?_|refine oFP (c2) ?_|(refine zE ?_;(skip))|(exact⟨rfl,rfl,wkE⟩)|((exfalso;(simp at h<;>omega)))|fail)
end Go.Av
end
noncomputable section
namespace Go.Av
open Go Go.Proofs
set_option maxRecDepth 10000
abbrev endRT:Except Fa (List Nat × PS)->AV
 |.ok q=>.d (.str q.1)
 |.error e=>.pan (refD e)
abbrev endOT (s:List Nat) (p:PS):Except Fa (List Nat × PS)->List Ob
 |.ok q=>pO s q.2
 |.error _=>pE p
theorem smallC:∀ t:List Nat,t.length<=1048576->KnownCall Tryz.prog 121 [.str t] (.d (.bool (smallF t))):=fun t h=>small t (by omega)
theorem capitalC:∀ t:List Nat,t.length<=1048576->KnownCall Tryz.prog 122 [.str t] (.d (.bool (capitalF t))):=fun t h=>capital t (by omega)
set_option maxHeartbeats 4000000 in
theorem terminalC (s:List Nat) (p:PS) (sep:Bool) (hb:PB p):ACall Tryz.prog 183 [.bp 0 0,.d (.bool sep)] (pO s p) (endRT (terminalP s sep p)) (endOT s p (terminalP s sep p)):=by
 have c0:=wordC s p _ smallF hb.len smallC;have ht:=hb.toks;unfold terminalP;cases hw:wordP s smallF p with
 |error e =>
  rw [hw] at c0;simp only [Except.bind];refine acallP_of_run (fnAt Tryz.func183 (by kernel_rfl) (by kernel_rfl):FnAt _ _ (mkFn Tryz.f183 [])) rfl rfl rfl rfl ?_
  repeat' (first|refine zW [] ?_|(refine zB [] ?_ ?_<;>intro h<;>try exact zk h)|refine zX [] ?_|refine oFP (c0) ?_|(refine zE ?_;(skip))|(exact⟨rfl,rfl,wkE⟩)|((exfalso;(simp at h<;>omega)))|fail)
 |ok q =>
  rw [hw] at c0;obtain⟨x,q⟩:=q;have hqx:q.x=p.x:=by
   unfold wordP nextP at hw;cases hl:p.l with
   |nil=>rw [hl] at hw;simp [Except.bind] at hw
   |cons y l =>
    rw [hl] at hw;simp only [Except.bind] at hw;split at hw
    .cases hw
    .split at hw
     .simp only [Except.ok.injEq,Prod.mk.injEq] at hw;rw [<- hw.2]
     .cases hw
  simp only [Except.bind];obtain⟨kk,hkk⟩:∃ kk,kk=knowP q.names x.t:=⟨_,rfl⟩
  rw [<- hkk];have eK:=hkk;obtain⟨a,b,c⟩:=kk;have e8:ACall Tryz.prog 180 [.bp 0 0,.d (.int .i64 (8:Nat)),.d (.int .i64 (x.a:Nat))] (pO s q) (.pan (refD (8,x.a))) (pE p):=by
   have:=failP s q 8 x.a;rw [show pE q=pE p by unfold pE;rw [hqx]] at this;exact this
  have e6:ACall Tryz.prog 180 [.bp 0 0,.d (.int .i64 (6:Nat)),.d (.int .i64 (x.a:Nat))] (pO s q) (.pan (refD (6,x.a))) (pE p):=by
   have:=failP s q 6 x.a;rw [show pE q=pE p by unfold pE;rw [hqx]] at this;exact this
  by_cases hab:a=true\/b=true
  .rw [if_pos (by simpa using hab)]
   cases a with
   |true =>
    refine acallP_of_run (fnAt Tryz.func183 (by kernel_rfl) (by kernel_rfl):FnAt _ _ (mkFn Tryz.f183 [])) rfl rfl rfl rfl ?_
    repeat' (first|refine zW [] ?_|(refine zB [] ?_ ?_<;>intro h<;>try exact zk h)|refine zX [] ?_|refine oF (c0) ?_|refine eF (c0) ?_|refine oFP (e8) ?_|refine eX ?_ (hv:=(evAny_know q.names x.t).trans (by rw [<- eK]))|(refine zE ?_;(skip))|(exact⟨rfl,rfl,wkE⟩)|((exfalso;(simp at h<;>omega)))|fail)
   |false =>
    cases b with
    |true =>
     refine acallP_of_run (fnAt Tryz.func183 (by kernel_rfl) (by kernel_rfl):FnAt _ _ (mkFn Tryz.f183 [])) rfl rfl rfl rfl ?_
     repeat' (first|refine zW [] ?_|(refine zB [] ?_ ?_<;>intro h<;>try exact zk h)|refine zX [] ?_|refine oF (c0) ?_|refine eF (c0) ?_|refine oFP (e8) ?_|refine eX ?_ (hv:=(evAny_know q.names x.t).trans (by rw [<- eK]))|(refine zE ?_;(skip))|(exact⟨rfl,rfl,wkE⟩)|((exfalso;(simp at h<;>omega)))|fail)
    |false=>simp at hab
  .rw [if_neg (by simpa using hab)]
   have ha:a=false:=by cases a<;>simp at hab |-
   have hb':b=false:=by cases b<;>simp at hab |-
   subst ha hb';cases sep with
   |true =>
    rw [if_neg (by simp)];refine acallW_of_run Yo (fnAt Tryz.func183 (by kernel_rfl) (by kernel_rfl):FnAt _ _ (mkFn Tryz.f183 [])) rfl rfl rfl rfl rfl ?_
    repeat' (first|refine zW [] ?_|(refine zB [] ?_ ?_<;>intro h<;>try exact zk h)|refine zX [] ?_|refine oF (c0) ?_|refine eF (c0) ?_|refine eX ?_ (hv:=(evAny_know q.names x.t).trans (by rw [<- eK]))|refine eX ?_ (hv:=evAny_set q.names x.t (false,true,false))|(refine zE ?_;(skip))|(((first|refine Yt ?_|skip);exact⟨trivial,_,_,rfl,rfl,.refl,wkE⟩))|((exfalso;(simp at h<;>omega)))|fail)
   |false =>
    by_cases h8:q.x.tokens.length=8
    .rw [if_pos ⟨rfl,h8⟩]
     refine acallP_of_run (fnAt Tryz.func183 (by kernel_rfl) (by kernel_rfl):FnAt _ _ (mkFn Tryz.f183 [])) rfl rfl rfl rfl ?_
     repeat' (first|refine zW [] ?_|(refine zB [] ?_ ?_<;>intro h<;>try exact zk h)|refine zX [] ?_|refine oF (c0) ?_|refine eF (c0) ?_|refine oFP (e6) ?_|refine eX ?_ (hv:=(evAny_know q.names x.t).trans (by rw [<- eK]))|(refine zE ?_;(skip))|(exact⟨rfl,rfl,wkE⟩)|((exfalso;(simp at h<;>omega)))|fail)
    .rw [if_neg (fun e=>h8 e.2)]
     refine acallW_of_run Yo (fnAt Tryz.func183 (by kernel_rfl) (by kernel_rfl):FnAt _ _ (mkFn Tryz.f183 [])) rfl rfl rfl rfl rfl ?_
     repeat' (first|refine zW [] ?_|(refine zB [] ?_ ?_<;>intro h<;>try exact zk h)|refine zX [] ?_|refine oF (c0) ?_|refine eF (c0) ?_|refine eX ?_ (hv:=(evAny_know q.names x.t).trans (by rw [<- eK]))|refine eX ?_ (hv:=evAny_set q.names x.t (true,false,false))|(refine zE ?_;(skip))|(((first|refine Yt ?_|skip);exact⟨trivial,_,_,rfl,rfl,.refl,wkE⟩))|((exfalso;(simp at h<;>omega)))|fail)
end Go.Av
end
noncomputable section
namespace Go.Av
open Go Go.Proofs
set_option maxRecDepth 10000
def classI (c:Int):Nat:=if signI c then 4 else if letterI c then 1 else if digitI c then 2 else if c == 95 then 3 else if blankI c then 5 else if c == 35 then 6 else 0
def isI64:Option (AV × Option (List Ob))->Nat->Bool
 |some (.d (.int .i64 (.ofNat n)),none),m=>Nat.beq n m
 |_,_=>false
theorem isI64_ok {r:Option (AV × Option (List Ob))} {m:Nat} (h:isI64 r m=true):r=some (.d (.int .i64 (m:Nat)),none):=by
 unfold isI64 at h;split at h
 .have:=Nat.eq_of_beq_eq_true h
  subst this;rfl
 .cases h
def allTo (p:Nat->Bool):Nat->Bool
 |0=>true
 |n+1=>p n && allTo p n
theorem allTo_ok {p:Nat->Bool}:∀ {n:Nat},allTo p n=true->∀ i,i<n->p i=true
 |0,_,i,hi=>by omega
 |n+1,h,i,hi=>by
  simp only [allTo,Bool.and_eq_true] at h;rcases Nat.lt_or_ge i n with h1|h1
  .exact allTo_ok h.2 i h1
  .rw [show i=n by omega];exact h.1
def classB (c:Nat):Bool:=isI64 (evBoth Et Ft.get? (hdlM .nil Et Ft.get? 1000 5) 1000 268 [.d (.int .u8 (c:Nat))] []) (classI (c:Nat))
def classC (k:Nat):Bool:=allTo (fun i=>classB (32*k+i)) 32
theorem classC0:classC 0=true:=by kernel_rfl
theorem classC1:classC 1=true:=by kernel_rfl
theorem classC2:classC 2=true:=by kernel_rfl
theorem classC3:classC 3=true:=by kernel_rfl
theorem classC4:classC 4=true:=by kernel_rfl
theorem classC5:classC 5=true:=by kernel_rfl
theorem classC6:classC 6=true:=by kernel_rfl
theorem classC7:classC 7=true:=by kernel_rfl
theorem classB_all (c:Nat) (h:c<256):classB c=true:=by
 have hk:classC (c / 32)=true:=by
  rcases(by omega:c / 32=0\/c / 32=1\/c / 32=2\/c / 32=3\/c / 32=4\/c / 32=5\/c / 32=6\/c / 32=7) with e|e|e|e|e|e|e|e<;>rw [e]
  .exact classC0
  .exact classC1
  .exact classC2
  .exact classC3
  .exact classC4
  .exact classC5
  .exact classC6
  .exact classC7
 have:=allTo_ok hk (c % 32) (by omega);simpa only [Nat.div_add_mod] using this
theorem classP (c:Nat) (h:c<256):KnownCall Tryz.prog 268 [.int .u8 (c:Nat)] (.d (.int .i64 (classI (c:Nat):Nat))) :=
 known (T:=.nil) trivial Yo (by kernel_rfl) Ft_ok (k:=1000) (n:=5) (isI64_ok (classB_all c h))
end Go.Av
end
noncomputable section
namespace Go.Av
open Go Go.Proofs
set_option maxRecDepth 10000
abbrev curO (s:List Nat) (p:Nat):Ob:=.box [.d (.str s),.d (.int .i64 (p:Nat))]
def clsAt (s:List Nat) (p:Nat):Nat:=match s[p]? with|some c=>classI (c:Nat)|none=>0
theorem curClass (X':List Ob) (s:List Nat) (p:Nat) (hb:∀ c ∈ s,c<256) (hl:s.length<=1048576) (hp:p<=s.length) :
  ACall Tryz.prog 252 [.bp 0 0] (curO s p :: X') (.d (.int .i64 (clsAt s p:Nat))) (curO s p :: X'):=by
 rcases Nat.lt_or_ge p s.length with hlt|hge
 .obtain⟨c,hc⟩:=get_ok hlt
  rw [show clsAt s p=classI (c:Nat) by simp [clsAt,hc]];have cc:=classP c (hb c (List.mem_of_getElem? hc));generalize classI (c:Nat)=k at cc |-;refine acall_of_run Yo (fnAt Tryz.func252 (by kernel_rfl) (by kernel_rfl):FnAt _ _ (mkFn Tryz.f252 [])) rfl rfl ?_
  repeat' (first|refine zW [] ?_|(refine zB [] ?_ ?_<;>intro h<;>try exact zk h)|refine zX [] ?_|refine oI (frz:=[]) (v:=.d (.int .u8 (c:Nat))) ?_ (he:=by first|(simp [gD,hc]<;>fail)|fail)|refine eI (v:=.d (.int .u8 (c:Nat))) ?_ (he:=by first|(simp [gD,hc]<;>fail)|fail)|refine zC (cc) ?_|(refine zE ?_;(skip))|((refine Yt ?_;exact⟨trivial,rfl,rfl⟩))|((exfalso;first|(simp at h<;>fail)|(simp at h;omega)))|fail)
 .have hpe:p=s.length:=by omega
  subst hpe;rw [show clsAt s s.length=0 by simp [clsAt]];refine acall_of_run Yo (fnAt Tryz.func252 (by kernel_rfl) (by kernel_rfl):FnAt _ _ (mkFn Tryz.f252 [])) rfl rfl ?_
  repeat' (first|refine zW [] ?_|(refine zB [] ?_ ?_<;>intro h<;>try exact zk h)|refine zX [] ?_|(refine zE ?_;(skip))|((refine Yt ?_;exact⟨trivial,rfl,rfl⟩))|((exfalso;first|(simp at h<;>fail)|(simp at h;omega)))|fail)
end Go.Av
end
noncomputable section
namespace Go.Av
open Go Go.Proofs
set_option maxRecDepth 10000
def inK (l:List Int) (k:Int):Bool:=l.any (fun x=>x == k)
def inC (l:List Int) (c:Int):Bool:=inK l (classI c:Nat)
set_option maxHeartbeats 1000000 in
theorem curPass (X':List Ob) (s:List Nat) (p:Nat) (l:List Int) (hb:∀ c ∈ s,c<256) (hl:s.length<=1048576) (hp:p<=s.length) (hll:l.length<=1048576) :
  ACall Tryz.prog 253 [.bp 0 0,.d (ints l)] (curO s p :: X') (.tup []) (curO s (p+runL (inC l) (s.drop p)) :: X'):=by
 obtain⟨X,hX⟩:∃ X,X=p+runL (inC l) (s.drop p):=⟨_,rfl⟩
 rw [<- hX];refine acall_of_run Yo (fnAt Tryz.func253 (by kernel_rfl) (by kernel_rfl):FnAt _ _ (mkFn Tryz.f253 [])) rfl rfl ?_
 repeat refine zS ?_
 refine Run.loop (fun q:Nat=>⟨PT.ofList [(0,.bp 0 0),(1,.d (ints l))],(curO s q :: X'),[]⟩) (fun q=>q<=s.length/\q+runL (inC l) (s.drop q)=X) (fun q=>s.length-q) p ⟨hp,hX.symm⟩ (weak_of (by repeat' (first|exact trivial|refine⟨rfl,?_⟩))) (fun q hq=>?_);obtain⟨hq1,hq2⟩:=hq;rcases Nat.lt_or_ge q s.length with hlt|hge
 .obtain⟨c,hc⟩:=get_ok hlt
  have hd:=drop_cons hc;rw [hd,runL] at hq2;have ck:clsAt s q=classI (c:Nat):=by simp [clsAt,hc]
  have cc:=curClass X' s q hb hl hq1;rw [ck] at cc;rw [show inC l (c:Nat)=inK l (classI (c:Nat):Nat) from rfl] at hq2;obtain⟨k,hk⟩:∃ k,k=classI (c:Nat):=⟨_,rfl⟩
  rw [<- hk] at cc hq2
  repeat' (first|refine zW [] ?_|(refine zB [] ?_ ?_<;>intro h<;>try exact zk h)|refine zX [] ?_|refine RunOps.call (by rfl) (by rfl) cc (by rfl) (by rfl) ?_|(refine zE ?_;(skip))|((exfalso;(simp at h<;>omega)))|fail)
  refine Run.loop (fun j:Nat=>⟨PT.ofList [(0,.bp 0 0),(1,.d (ints l)),(4,.d (.int .i64 (k:Nat))),(5,.d (.bool (inK (l.take j) (k:Nat)))),(20,.d (ints l)),(21,.d (.int .i64 (l.map (DV.int .i64)).length)),(22,.d (.int .i64 (j:Nat)))],(curO s q :: X'),[]⟩) (fun j=>j<=l.length) (fun j=>l.length-j) 0 (Nat.zero_le _) (weak_of (by repeat' (first|exact trivial|refine⟨rfl,?_⟩))) (fun j hj=>?_);rcases Nat.lt_or_ge j l.length with hjl|hjg
  .obtain⟨x,hx⟩:=get_ok hjl
   have hn:inK (l.take (j+1)) (k:Nat)=(inK (l.take j) (k:Nat) || (x == (k:Int))):=by unfold inK;rw [List.take_add_one,hx,List.any_append];simp
   cases hbj:inK (l.take j) (k:Nat) with
   |true =>
    rw [hbj,Bool.true_or] at hn
    repeat' (first|refine zW [] ?_|(refine zB [] ?_ ?_<;>intro h<;>try exact zk h)|refine zX [] ?_|refine oI (frz:=[]) (v:=.d (.ep [.int .i64 x])) ?_ (he:=by first|(simp [gD,cellsD,hx]<;>fail)|fail)|refine eI (v:=.d (.ep [.int .i64 x])) ?_ (he:=by first|(simp [gD,cellsD,hx]<;>fail)|fail)|(refine zE ?_;(skip))|(exact⟨j+1,hjl,by omega,weak_of ⟨by kernel_rfl,by kernel_rfl,by kernel_rfl,by rw [hn];kernel_rfl,by kernel_rfl,by kernel_rfl,(inc_get (k:=j) (by kernel_rfl) (by omega)),trivial⟩⟩)|((exfalso;(simp at h<;>omega)))|fail)
   |false =>
    rw [hbj,Bool.false_or] at hn;cases hxk:(x == (k:Int)) with
    |true =>
     rw [hxk] at hn;have hv:AV.d (.bool (x == (k:Int)))=.d (.bool true):=by rw [hxk]
     repeat' (first|refine oX (frz:=[]) (v:=.d (.bool true)) Yo ?_ (he:=(hv))|refine eX (v:=.d (.bool true)) ?_ (he:=(hv))|refine zW [] ?_|(refine zB [] ?_ ?_<;>intro h<;>try exact zk h)|refine zX [] ?_|refine oI (frz:=[]) (v:=.d (.ep [.int .i64 x])) ?_ (he:=by first|(simp [gD,cellsD,hx]<;>fail)|fail)|refine eI (v:=.d (.ep [.int .i64 x])) ?_ (he:=by first|(simp [gD,cellsD,hx]<;>fail)|fail)|(refine zE ?_;(skip))|(exact⟨j+1,hjl,by omega,weak_of ⟨by kernel_rfl,by kernel_rfl,by kernel_rfl,by rw [hn];kernel_rfl,by kernel_rfl,by kernel_rfl,(inc_get (k:=j) (by kernel_rfl) (by omega)),trivial⟩⟩)|((exfalso;(simp at h<;>omega)))|fail)
    |false =>
     rw [hxk] at hn;have hv:AV.d (.bool (x == (k:Int)))=.d (.bool false):=by rw [hxk]
     repeat' (first|refine oX (frz:=[]) (v:=.d (.bool false)) Yo ?_ (he:=(hv))|refine eX (v:=.d (.bool false)) ?_ (he:=(hv))|refine zW [] ?_|(refine zB [] ?_ ?_<;>intro h<;>try exact zk h)|refine zX [] ?_|refine oI (frz:=[]) (v:=.d (.ep [.int .i64 x])) ?_ (he:=by first|(simp [gD,cellsD,hx]<;>fail)|fail)|refine eI (v:=.d (.ep [.int .i64 x])) ?_ (he:=by first|(simp [gD,cellsD,hx]<;>fail)|fail)|(refine zE ?_;(skip))|(exact⟨j+1,hjl,by omega,weak_of ⟨by kernel_rfl,by kernel_rfl,by kernel_rfl,by rw [hn];kernel_rfl,by kernel_rfl,by kernel_rfl,(inc_get (k:=j) (by kernel_rfl) (by omega)),trivial⟩⟩)|((exfalso;(simp at h<;>omega)))|fail)
  .have hje:j=l.length:=by omega
   subst hje;rw [List.take_length];cases hbk:inK l (k:Nat) with
   |true =>
    rw [hbk,if_pos rfl] at hq2;have hinc:AV.d (.int .i64 (IntKind.i64.wrap ((q:Int)+1)))=.d (.int .i64 ((q+1:Nat):Int)):=congrArg (fun x=>AV.d (.int .i64 x)) ((congrArg IntKind.i64.wrap (show(q:Int)+1=((q+1:Nat):Int) by omega)).trans (wrap_nat (by omega)))
    repeat' (first|refine oX (frz:=[]) (v:=.d (.int .i64 ((q+1:Nat):Int))) Yo ?_ (he:=(hinc))|refine eX (v:=.d (.int .i64 ((q+1:Nat):Int))) ?_ (he:=(hinc))|refine zW [] ?_|(refine zB [] ?_ ?_<;>intro h<;>try exact zk h)|refine zX [] ?_|(refine zE ?_;(skip))|(exact⟨q+1,⟨hlt,by omega⟩,by omega,weak_of' (by rfl) rfl (by repeat' (first|exact trivial|refine⟨rfl,?_⟩))⟩)|((exfalso;(simp at h<;>omega)))|fail)
   |false =>
    rw [hbk] at hq2;have hqX:q=X:=by simpa using hq2
    subst hqX
    repeat' (first|refine zW [] ?_|(refine zB [] ?_ ?_<;>intro h<;>try exact zk h)|refine zX [] ?_|(refine zE ?_;(skip))|((refine Yt ?_;exact⟨trivial,rfl,rfl⟩))|((exfalso;(simp at h<;>omega)))|fail)
 .have hqX:q=X:=by rw [List.drop_eq_nil_of_le hge] at hq2;simpa [runL] using hq2
  subst hqX
  repeat' (first|refine zW [] ?_|(refine zB [] ?_ ?_<;>intro h<;>try exact zk h)|refine zX [] ?_|(refine zE ?_;(skip))|(exact⟨trivial,rfl,rfl⟩)|((exfalso;(simp at h<;>omega)))|fail)
end Go.Av
end
noncomputable section
namespace Go.Av
open Go Go.Proofs
set_option maxRecDepth 10000
theorem cls5_all:allTo (fun c=>inC [5] (c:Nat) == blankI (c:Nat)) 256=true:=by kernel_rfl
theorem cls6_all:allTo (fun c=>(classI (c:Nat) == 6) == decide (c=35)) 256=true:=by kernel_rfl
theorem cls5 {c:Nat} (h:c<256):inC [5] (c:Nat)=blankI (c:Nat):=by simpa using allTo_ok cls5_all c h
theorem cls6 {c:Nat} (h:c<256):classI (c:Nat)=6 ↔ c=35:=by
 have:=allTo_ok cls6_all c h;by_cases h1:c=35
 .simp [h1] at this |-;exact this
 .simp [h1] at this |-;exact this
theorem runL_congr {p q:Int->Bool}:∀ {l:List Nat},(∀ c ∈ l,p (c:Nat)=q (c:Nat))->runL p l=runL q l
 |[],_=>rfl
 |c :: l,h=>by
  rw [runL,runL,h c List.mem_cons_self,runL_congr fun d hd=>h d (List.mem_cons_of_mem _ hd)]
theorem passM_run:∀ l:List Nat,passM false l=runL blankI l+passM false (l.drop (runL blankI l))
 |[]=>rfl
 |c :: l=>by
  cases hb:blankI (c:Nat) with
  |true =>
   have ih:=passM_run l;rw [runL,if_pos hb,passM,if_pos hb,Nat.add_comm 1 (runL blankI l),List.drop_succ_cons];omega
  |false=>rw [runL,hb];simp
theorem runL_stop (p:Int->Bool):∀ (l:List Nat) (c:Nat),(l.drop (runL p l))[0]?=some c->p (c:Nat)=false
 |[],c,h=>by simp [runL] at h
 |d :: l,c,h=>by
  rw [runL] at h;cases hd:p (d:Nat) with
  |true =>
   rw [if_pos hd,Nat.add_comm,List.drop_succ_cons] at h;exact runL_stop p l c h
  |false =>
   rw [hd] at h;simp at h;subst h;exact hd
def skipB (s:List Nat) (p:Nat):Nat:=p+runL blankI (s.drop p)
theorem skipB_le {s:List Nat} {p:Nat} (h:p<=s.length):skipB s p<=s.length:=by
 have:=runL_le blankI (s.drop p);rw [List.length_drop] at this;unfold skipB;omega
theorem skipB_pass (s:List Nat) (p:Nat):skipB s p+passM false (s.drop (skipB s p))=p+passM false (s.drop p):=by
 have:=passM_run (s.drop p);rw [List.drop_drop] at this;unfold skipB;omega
theorem skipB_stop {s:List Nat} {p c:Nat} (h:s[skipB s p]?=some c):blankI (c:Nat)=false:=by
 refine runL_stop blankI (s.drop p) c ?_;rw [List.drop_drop,List.getElem?_drop,Nat.add_zero];exact h
theorem curBlank (X':List Ob) (s:List Nat) (p:Nat) (hb:∀ c ∈ s,c<256) (hl:s.length<=1048576) (hp:p<=s.length) :
  ACall Tryz.prog 253 [.bp 0 0,.d (ints [5])] (curO s p :: X') (.tup []) (curO s (skipB s p) :: X'):=by
 have:=curPass X' s p [5] hb hl hp (by simp)
 rwa [runL_congr fun c hc=>cls5 (hb c (List.mem_of_mem_drop hc))] at this
end Go.Av
end
noncomputable section
namespace Go.Av
open Go Go.Proofs
set_option maxRecDepth 10000
set_option maxHeartbeats 2000000 in
theorem scanGap (X':List Ob) (s:List Nat) (p:Nat) (hb:∀ c ∈ s,c<256) (hl:s.length<=1048576) (hp:p<=s.length) :
  ACall Tryz.prog 251 [.bp 0 0] (curO s p :: X') (.tup []) (curO s (atF4 s p) :: X'):=by
 obtain⟨X,hX⟩:∃ X,X=atF4 s p:=⟨_,rfl⟩
 rw [<- hX];unfold atF4 at hX;rw [<- skipB_pass] at hX;have c0:=curBlank X' s p hb hl hp;have hs0:=skipB_le hp;have ht0:∀ c,s[skipB s p]?=some c->blankI (c:Nat)=false:=fun c=>skipB_stop;generalize skipB s p=p0 at hX c0 hs0 ht0;refine acall_of_run Yo (fnAt Tryz.func251 (by kernel_rfl) (by kernel_rfl):FnAt _ _ (mkFn Tryz.f251 [5,15])) rfl rfl ?_
 repeat' (first|refine zW [5,15] ?_|(refine zB [5,15] ?_ ?_<;>intro h<;>try exact zk h)|refine zX [5,15] ?_|refine oA c0 ?_|(refine zE ?_;(skip))|(fail)|fail)
 refine Run.loop (fun q:Nat=>⟨PT.ofList [(0,.bp 0 0)],(curO s q :: X'),[]⟩) (fun q=>q<=s.length/\q+passM false (s.drop q)=X/\∀ c,s[q]?=some c->blankI (c:Nat)=false) (fun q=>s.length-q) p0 ⟨hs0,hX.symm,ht0⟩ (weak_of (by repeat' (first|exact trivial|refine⟨rfl,?_⟩))) (fun q hq=>?_);obtain⟨hq1,hq2,hq3⟩:=hq;have cc:=curClass X' s q hb hl hq1;by_cases h35:s[q]?=some 35
 .have hlt:=(List.getElem?_eq_some_iff.1 h35).1
  have hd:=drop_cons h35;have hX1:q+passM true (s.drop q)=X:=by rw [<- hq2,hd];simp [passM,blankI]
  rw [show clsAt s q=6 by simp only [clsAt,h35];rfl] at cc
  repeat' (first|refine zW [5,15] ?_|(refine zB [5,15] ?_ ?_<;>intro h<;>try exact zk h)|refine zX [5,15] ?_|refine oA cc ?_|(refine zE ?_;(skip))|((exfalso;(simp at h<;>omega)))|fail)
  refine Run.loop (fun j:Nat=>⟨PT.ofList [(0,.bp 0 0)],(curO s j :: X'),[]⟩) (fun j=>q<=j/\j<=s.length/\j+passM true (s.drop j)=X) (fun j=>s.length-j) q ⟨Nat.le_refl _,hq1,hX1⟩ (weak_of (by repeat' (first|exact trivial|refine⟨rfl,?_⟩))) (fun j hj=>?_);obtain⟨hj1,hj2,hj3⟩:=hj;rcases Nat.lt_or_ge j s.length with hjl|hjg
  .obtain⟨e,he⟩:=get_ok hjl
   have hde:=drop_cons he;by_cases h10:e=10
   .subst h10
    have hij:q≠j:=fun h=>by subst h;rw [h35] at he;cases he
    have hX2:j+passM false (s.drop j)=X:=by rw [<- hj3,hde];simp [passM,blankI]
    rw [<- skipB_pass] at hX2;have c1:=curBlank X' s j hb hl hj2;have hs1:=skipB_le hj2;have ht1:∀ c,s[skipB s j]?=some c->blankI (c:Nat)=false:=fun c=>skipB_stop;have hge1:j<=skipB s j:=Nat.le_add_right _ _;generalize skipB s j=p1 at hX2 c1 hs1 ht1 hge1
    repeat' (first|refine zW [5,15] ?_|(refine zB [5,15] ?_ ?_<;>intro h<;>try exact zk h)|refine zX [5,15] ?_|refine eI (v:=.d (.int .u8 ((10:Nat):Int))) ?_ (he:=by first|(simp [gD,he]<;>fail)|fail)|refine oA c1 ?_|(refine zE ?_;(skip))|(exact⟨p1,⟨hs1,hX2,ht1⟩,by omega,weak_of (by repeat' (first|exact trivial|refine⟨rfl,?_⟩))⟩)|((exfalso;(simp at h<;>omega)))|fail)
   .have hX2:j+1+passM true (s.drop (j+1))=X:=by rw [<- hj3,hde];simp [passM,h10];omega
    have hinc:AV.d (.int .i64 (IntKind.i64.wrap ((j:Int)+1)))=.d (.int .i64 ((j+1:Nat):Int)):=congrArg (fun x=>AV.d (.int .i64 x)) ((congrArg IntKind.i64.wrap (show(j:Int)+1=((j+1:Nat):Int) by omega)).trans (wrap_nat (by omega)))
    repeat' (first|refine oX (frz:=[5,15]) (v:=.d (.int .i64 ((j+1:Nat):Int))) Yo ?_ (he:=(hinc))|refine eX (v:=.d (.int .i64 ((j+1:Nat):Int))) ?_ (he:=(hinc))|refine zW [5,15] ?_|(refine zB [5,15] ?_ ?_<;>intro h<;>try exact zk h)|refine zX [5,15] ?_|refine eI (v:=.d (.int .u8 (e:Nat))) ?_ (he:=by first|(simp [gD,he]<;>fail)|fail)|(refine zE ?_;(skip))|(exact⟨j+1,⟨by omega,hjl,hX2⟩,by omega,weak_of' (by rfl) rfl (by repeat' (first|exact trivial|refine⟨rfl,?_⟩))⟩)|((exfalso;(simp at h<;>omega)))|fail)
  .have hje:j=s.length:=by omega
   subst hje;have hX2:s.length+passM false (s.drop s.length)=X:=by rw [<- hj3,List.drop_length];rfl
   rw [<- skipB_pass] at hX2;have c1:=curBlank X' s s.length hb hl hj2;have hs1:=skipB_le hj2;have ht1:∀ c,s[skipB s s.length]?=some c->blankI (c:Nat)=false:=fun c=>skipB_stop;have hge1:s.length<=skipB s s.length:=Nat.le_add_right _ _;generalize skipB s s.length=p1 at hX2 c1 hs1 ht1 hge1
   repeat' (first|refine zW [5,15] ?_|(refine zB [5,15] ?_ ?_<;>intro h<;>try exact zk h)|refine zX [5,15] ?_|refine oA c1 ?_|(refine zE ?_;(skip))|(exact⟨p1,⟨hs1,hX2,ht1⟩,by omega,weak_of (by repeat' (first|exact trivial|refine⟨rfl,?_⟩))⟩)|((exfalso;(simp at h<;>omega)))|fail)
 .have hqX:q=X:=by
   rcases Nat.lt_or_ge q s.length with hlt|hge
   .obtain⟨c,hc⟩:=get_ok hlt
    rw [drop_cons hc,passM,if_neg (by rw [hq3 c hc];simp),if_neg (fun e=>h35 (by rw [hc,e]))] at hq2;exact hq2
   .rw [List.drop_eq_nil_of_le hge] at hq2;exact hq2
  subst hqX;have hk:clsAt s q≠6:=by
   unfold clsAt;split
   .rename_i c hc
    intro e;exact h35 (by rw [hc,(cls6 (hb c (List.mem_of_getElem? hc))).1 e])
   .simp
  generalize clsAt s q=k at cc hk
  repeat' (first|refine zW [5,15] ?_|(refine zB [5,15] ?_ ?_<;>intro h<;>try exact zk h)|refine zX [5,15] ?_|refine oA cc ?_|(refine zE ?_;(skip))|(exact⟨trivial,rfl,rfl⟩)|((exfalso;(simp at h<;>omega)))|fail)
end Go.Av
end
noncomputable section
namespace Go.Av
open Go Go.Proofs
set_option maxRecDepth 10000
theorem cls123_all:allTo (fun c=>inC [1,2,3] (c:Nat) == wordI (c:Nat)) 256=true:=by kernel_rfl
theorem cls2_all:allTo (fun c=>inC [2] (c:Nat) == digitI (c:Nat)) 256=true:=by kernel_rfl
theorem curWord (X':List Ob) (s:List Nat) (p:Nat) (hb:∀ c ∈ s,c<256) (hl:s.length<=1048576) (hp:p<=s.length) :
  ACall Tryz.prog 253 [.bp 0 0,.d (ints [1,2,3])] (curO s p :: X') (.tup []) (curO s (p+runL wordI (s.drop p)) :: X'):=by
 have:=curPass X' s p [1,2,3] hb hl hp (by simp)
 rwa [runL_congr fun c hc=>show inC [1,2,3] (c:Nat)=wordI (c:Nat) by simpa using allTo_ok cls123_all c (hb c (List.mem_of_mem_drop hc))] at this
theorem curDigits (X':List Ob) (s:List Nat) (p:Nat) (hb:∀ c ∈ s,c<256) (hl:s.length<=1048576) (hp:p<=s.length) :
  ACall Tryz.prog 253 [.bp 0 0,.d (ints [2])] (curO s p :: X') (.tup []) (curO s (p+runL digitI (s.drop p)) :: X'):=by
 have:=curPass X' s p [2] hb hl hp (by simp)
 rwa [runL_congr fun c hc=>show inC [2] (c:Nat)=digitI (c:Nat) by simpa using allTo_ok cls2_all c (hb c (List.mem_of_mem_drop hc))] at this
abbrev nextO (s:List Nat) (q k:Nat) (t:List Nat) (a c d:Nat):List Ob:=[curO s q,.box [.d (.int .i64 (k:Nat)),.d (.str t),.d (.int .i64 (a:Nat))],.box [.d (.int .i64 (c:Nat)),.d (.int .i64 (d:Nat))]]
abbrev bxs:List Ob:=[.box [.d (.int .i64 0),.d (.str []),.d (.int .i64 0)],.box [.d (.int .i64 0),.d (.int .i64 0)]]
theorem scanEnd (s:List Nat) (p:Nat) (hb:∀ c ∈ s,c<256) (hl:s.length<=1048576) (hp:p<=s.length) (he:atF4 s p=s.length) :
  ACall Tryz.prog 226 [.bp 0 0] [curO s p] (.tup [.d (lexD 0 [] 0),.d (faultD 5 s.length)]) (nextO s s.length 0 [] 0 5 s.length):=by
 have cg:=scanGap bxs s p hb hl hp;rw [he] at cg;refine acall_of_run Yo (fnAt Tryz.func226 (by kernel_rfl) (by kernel_rfl):FnAt _ _ (mkFn Tryz.f226 [33,40])) rfl rfl ?_
 repeat' (first|refine zW [33,40] ?_|(refine zB [33,40] ?_ ?_<;>intro h<;>try exact zk h)|refine zX [33,40] ?_|refine oA cg ?_|(refine zE ?_;(skip))|((refine Yt ?_;exact⟨trivial,rfl,rfl⟩))|((exfalso;(simp at h<;>omega)))|fail)
theorem scanWord (s:List Nat) (p c:Nat) (hb:∀ c ∈ s,c<256) (hl:s.length<=1048576) (hp:p<=s.length) (hc:s[atF4 s p]?=some c) (hk:classI (c:Nat)=1) :
  ACall Tryz.prog 226 [.bp 0 0] [curO s p] (.tup [.d (lexD 1 ((s.drop (atF4 s p)).take (runL wordI (s.drop (atF4 s p)))) (atF4 s p)),.d (faultD 0 0)]) (nextO s (atF4 s p+runL wordI (s.drop (atF4 s p))) 1 ((s.drop (atF4 s p)).take (runL wordI (s.drop (atF4 s p)))) (atF4 s p) 0 0):=by
 have cg:=scanGap bxs s p hb hl hp;have hq:=atF4_le hp;generalize atF4 s p=q at cg hc hq |-;have hlt:=(List.getElem?_eq_some_iff.1 hc).1;have cc:=curClass bxs s q hb hl hq;rw [show clsAt s q=1 by simp only [clsAt,hc];exact hk] at cc;have cw:=curWord bxs s q hb hl hq;have hr:=runL_le wordI (s.drop q);rw [List.length_drop] at hr;generalize runL wordI (s.drop q)=n at cw hr |-;have hcut:(s.take (q+n)).drop q=(s.drop q).take n:=by rw [List.drop_take];congr 1;omega
 rw [<- hcut];refine acall_of_run Yo (fnAt Tryz.func226 (by kernel_rfl) (by kernel_rfl):FnAt _ _ (mkFn Tryz.f226 [33,40])) rfl rfl ?_
 repeat' (first|refine zW [33,40] ?_|(refine zB [33,40] ?_ ?_<;>intro h<;>try exact zk h)|refine zX [33,40] ?_|refine oA cg ?_|refine oA cc ?_|refine oA cw ?_|refine oX (frz:=[33,40]) Yo ?_ (hf:=(by first|(simp [cutC]<;>fail)|(simp [cutC];omega)))|refine eX ?_ (hf:=(by first|(simp [cutC]<;>fail)|(simp [cutC];omega)))|(refine zE ?_;(skip))|((refine Yt ?_;exact⟨trivial,rfl,rfl⟩))|((exfalso;(simp at h<;>omega)))|fail)
theorem scanSign (s:List Nat) (p c:Nat) (hb:∀ c ∈ s,c<256) (hl:s.length<=1048576) (hp:p<=s.length) (hc:s[atF4 s p]?=some c) (hk:classI (c:Nat)=4) :
  ACall Tryz.prog 226 [.bp 0 0] [curO s p] (.tup [.d (lexD 3 [c] (atF4 s p)),.d (faultD 0 0)]) (nextO s (atF4 s p+1) 3 [c] (atF4 s p) 0 0):=by
 have cg:=scanGap bxs s p hb hl hp;have hq:=atF4_le hp;generalize atF4 s p=q at cg hc hq |-;have hlt:=(List.getElem?_eq_some_iff.1 hc).1;have cc:=curClass bxs s q hb hl hq;rw [show clsAt s q=4 by simp only [clsAt,hc];exact hk] at cc;have hcut:(s.take (q+1)).drop q=[c]:=by rw [List.drop_take,drop_cons hc,show q+1-q=1 by omega];rfl
 have hinc:AV.d (.int .i64 (IntKind.i64.wrap ((q:Int)+1)))=.d (.int .i64 ((q+1:Nat):Int)):=congrArg (fun x=>AV.d (.int .i64 x)) ((congrArg IntKind.i64.wrap (show(q:Int)+1=((q+1:Nat):Int) by omega)).trans (wrap_nat (by omega)));rw [<- hcut];refine acall_of_run Yo (fnAt Tryz.func226 (by kernel_rfl) (by kernel_rfl):FnAt _ _ (mkFn Tryz.f226 [33,40])) rfl rfl ?_
 repeat' (first|refine oX (frz:=[33,40]) (v:=.d (.int .i64 ((q+1:Nat):Int))) Yo ?_ (he:=(hinc))|refine eX (v:=.d (.int .i64 ((q+1:Nat):Int))) ?_ (he:=(hinc))|refine zW [33,40] ?_|(refine zB [33,40] ?_ ?_<;>intro h<;>try exact zk h)|refine zX [33,40] ?_|refine oA cg ?_|refine oA cc ?_|refine oX (frz:=[33,40]) Yo ?_ (hf:=(by first|(simp [cutC]<;>fail)|(simp [cutC];omega)))|refine eX ?_ (hf:=(by first|(simp [cutC]<;>fail)|(simp [cutC];omega)))|(refine zE ?_;(skip))|((refine Yt ?_;exact⟨trivial,rfl,rfl⟩))|((exfalso;(simp at h<;>omega)))|fail)
theorem scanBad (s:List Nat) (p c:Nat) (hb:∀ c ∈ s,c<256) (hl:s.length<=1048576) (hp:p<=s.length) (hc:s[atF4 s p]?=some c) (h1:classI (c:Nat)≠1) (h2:classI (c:Nat)≠2) (h4:classI (c:Nat)≠4) :
  ACall Tryz.prog 226 [.bp 0 0] [curO s p] (.tup [.d (lexD 0 [] 0),.d (faultD 3 (atF4 s p))]) (nextO s (atF4 s p) 0 [] 0 3 (atF4 s p)):=by
 have cg:=scanGap bxs s p hb hl hp;have hq:=atF4_le hp;generalize atF4 s p=q at cg hc hq |-;have hlt:=(List.getElem?_eq_some_iff.1 hc).1;have cc:=curClass bxs s q hb hl hq;rw [show clsAt s q=classI (c:Nat) by simp only [clsAt,hc]] at cc;generalize classI (c:Nat)=k at cc h1 h2 h4;refine acall_of_run Yo (fnAt Tryz.func226 (by kernel_rfl) (by kernel_rfl):FnAt _ _ (mkFn Tryz.f226 [33,40])) rfl rfl ?_
 repeat' (first|refine zW [33,40] ?_|(refine zB [33,40] ?_ ?_<;>intro h<;>try exact zk h)|refine zX [33,40] ?_|refine oA cg ?_|refine oA cc ?_|(refine zE ?_;(skip))|((refine Yt ?_;exact⟨trivial,rfl,rfl⟩))|((exfalso;(simp at h<;>omega)))|fail)
end Go.Av
end
noncomputable section
namespace Go.Av
open Go Go.Proofs
set_option maxRecDepth 10000
set_option maxHeartbeats 2000000 in
theorem scanNum (s:List Nat) (p c:Nat) (hb:∀ c ∈ s,c<256) (hl:s.length<=1048576) (hp:p<=s.length) (hc:s[atF4 s p]?=some c) (hk:classI (c:Nat)=2)
  (hz:¬ (c=48/\1<runL digitI (s.drop (atF4 s p)))) (h1:clsAt s (atF4 s p+runL digitI (s.drop (atF4 s p)))≠1) (h3:clsAt s (atF4 s p+runL digitI (s.drop (atF4 s p)))≠3) :
  ACall Tryz.prog 226 [.bp 0 0] [curO s p] (.tup [.d (lexD 2 ((s.drop (atF4 s p)).take (runL digitI (s.drop (atF4 s p)))) (atF4 s p)),.d (faultD 0 0)]) (nextO s (atF4 s p+runL digitI (s.drop (atF4 s p))) 2 ((s.drop (atF4 s p)).take (runL digitI (s.drop (atF4 s p)))) (atF4 s p) 0 0):=by
 have cg:=scanGap bxs s p hb hl hp;have hq:=atF4_le hp;generalize atF4 s p=q at cg hc hq hz h1 h3 |-;have hlt:=(List.getElem?_eq_some_iff.1 hc).1;have cc:=curClass bxs s q hb hl hq;rw [show clsAt s q=2 by simp only [clsAt,hc];exact hk] at cc;have cw:=curDigits bxs s q hb hl hq;have hr:=runL_le digitI (s.drop q);rw [List.length_drop] at hr;generalize runL digitI (s.drop q)=n at cw hr hz h1 h3 |-;have c2:=curClass bxs s (q+n) hb hl (by omega);generalize clsAt s (q+n)=k at c2 h1 h3;have hcut:(s.take (q+n)).drop q=(s.drop q).take n:=by rw [List.drop_take];congr 1;omega
 have hinc:AV.d (.int .i64 (IntKind.i64.wrap ((q:Int)+1)))=.d (.int .i64 ((q+1:Nat):Int)):=congrArg (fun x=>AV.d (.int .i64 x)) ((congrArg IntKind.i64.wrap (show(q:Int)+1=((q+1:Nat):Int) by omega)).trans (wrap_nat (by omega)));rw [<- hcut];refine acall_of_run Yo (fnAt Tryz.func226 (by kernel_rfl) (by kernel_rfl):FnAt _ _ (mkFn Tryz.f226 [33,40])) rfl rfl ?_
 repeat' (first|refine oX (frz:=[33,40]) (v:=.d (.int .i64 ((q+1:Nat):Int))) Yo ?_ (he:=(hinc))|refine eX (v:=.d (.int .i64 ((q+1:Nat):Int))) ?_ (he:=(hinc))|refine zW [33,40] ?_|(refine zB [33,40] ?_ ?_<;>intro h<;>try exact zk h)|refine zX [33,40] ?_|refine oI (frz:=[33,40]) (v:=.d (.int .u8 (c:Nat))) ?_ (he:=by first|(simp [gD,hc]<;>fail)|fail)|refine oA cg ?_|refine oA cc ?_|refine oA cw ?_|refine oA c2 ?_|refine oX (frz:=[33,40]) Yo ?_ (hf:=(by first|(simp [cutC]<;>fail)|(simp [cutC];omega)))|refine eX ?_ (hf:=(by first|(simp [cutC]<;>fail)|(simp [cutC];omega)))|(refine zE ?_;(skip))|((refine Yt ?_;exact⟨trivial,rfl,rfl⟩))|((exfalso;(simp at h<;>omega)))|((exfalso;rename_i g1 g0;have e1:=of_decide_eq_true g0;simp at g1;omega))|fail)
end Go.Av
end
noncomputable section
namespace Go.Av
open Go Go.Proofs
set_option maxRecDepth 10000
structure NumT (t:List Nat):Prop where
 digs:∀ c ∈ t,48<=c/\c<=57
 ne:t≠[]
 zero:¬ (t[0]?=some 48/\1<t.length)
def NumL (ls:List Lx):Prop:=∀ x ∈ ls,x.k=2->NumT x.t
theorem digitI_iff {c:Nat}:digitI (c:Nat)=true ↔ 48<=c/\c<=57:=by
 simp only [digitI,Bool.and_eq_true,decide_eq_true_eq];omega
theorem runL_all {p:Int->Bool}:∀ {l:List Nat},(∀ c ∈ l,p (c:Nat)=true)->runL p l=l.length
 |[],_=>rfl
 |c :: l,h=>by
  rw [runL,if_pos (h c List.mem_cons_self),runL_all fun d hd=>h d (List.mem_cons_of_mem _ hd),List.length_cons];omega
theorem runL_pre {p:Int->Bool}:∀ {l:List Nat} {c:Nat},c ∈ l.take (runL p l)->p (c:Nat)=true
 |[],c,h=>by simp at h
 |d :: l,c,h=>by
  rw [runL] at h;cases hd:p (d:Nat) with
  |true =>
   rw [hd,if_pos rfl,Nat.add_comm,List.take_succ_cons] at h;rcases List.mem_cons.1 h with rfl|h
   .exact hd
   .exact runL_pre h
  |false=>rw [hd] at h;simp at h
theorem NumT.run {t:List Nat} (h:NumT t):runL digitI t=t.length:=runL_all fun c hc=>digitI_iff.2 (h.digs c hc)
theorem dig_not {c:Nat} (h:48<=c/\c<=57):signI (c:Nat)=false/\letterI (c:Nat)=false:=by
 have:∀ d,d<10->signI ((48+d:Nat):Int)=false/\letterI ((48+d:Nat):Int)=false:=by decide
 have:=this (c-48) (by omega)
 rwa [show 48+(c-48)=c by omega] at this
theorem NumT.begins {t:List Nat} (h:NumT t):beginsF t=(2,t):=by
 cases t with
 |nil=>exact absurd rfl h.ne
 |cons c l =>
  have hc:=h.digs c List.mem_cons_self;have hr:runL digitI l=l.length:=runL_all fun d hd=>digitI_iff.2 (h.digs d (List.mem_cons_of_mem _ hd));have hz:¬ ((c=48/\1<1+runL digitI l)\/∃ e,(c :: l)[1+runL digitI l]?=some e/\endI e=true):=by
   rintro(⟨h1,h2⟩|⟨e,h1,_⟩)
   .exact h.zero ⟨by simp [h1],by simp;omega⟩
   .rw [hr,List.getElem?_eq_none (by simp;omega)] at h1;cases h1
  have e:beginsF (c :: l)=if signI c then(3,[c]) else if letterI c then(1,(c :: l).take (1+runL wordI l)) else if digitI c then
   (if(c=48/\1<1+runL digitI l)\/(∃ e,(c :: l)[1+runL digitI l]?=some e/\endI e=true) then(0,[]) else(2,(c :: l).take (1+runL digitI l))) else(0,[]):=rfl
  rw [e,if_neg (by rw [(dig_not hc).1];simp),if_neg (by rw [(dig_not hc).2];simp),if_pos (digitI_iff.2 hc),if_neg hz,hr,List.take_of_length_le (by simp;omega)]
theorem beginsF_num {c:Nat} {l t:List Nat} (h:beginsF (c :: l)=(2,t)):NumT t:=by
 have e:beginsF (c :: l)=if signI c then(3,[c]) else if letterI c then(1,(c :: l).take (1+runL wordI l)) else if digitI c then
   (if(c=48/\1<1+runL digitI l)\/(∃ e,(c :: l)[1+runL digitI l]?=some e/\endI e=true) then(0,[]) else(2,(c :: l).take (1+runL digitI l))) else(0,[]):=rfl
 rw [e] at h;by_cases h1:signI c=true
 .rw [if_pos h1] at h;simp at h
 .rw [if_neg h1] at h
  by_cases h2:letterI c=true
  .rw [if_pos h2] at h;simp at h
  .rw [if_neg h2] at h
   by_cases h3:digitI c=true
   .rw [if_pos h3] at h
    by_cases h4:(c=48/\1<1+runL digitI l)\/(∃ e,(c :: l)[1+runL digitI l]?=some e/\endI e=true)
    .rw [if_pos h4] at h;simp at h
    .rw [if_neg h4] at h
     simp only [Prod.mk.injEq,true_and] at h;subst h;rw [Nat.add_comm,List.take_succ_cons];refine⟨fun d hd=>?_,by simp,fun hz=>?_⟩
     .rcases List.mem_cons.1 hd with rfl|hd
      .exact digitI_iff.1 h3
      .exact digitI_iff.1 (runL_pre hd)
     .have e1:c=48:=by have:=hz.1;simpa using this
      have e2:=hz.2;rw [List.length_cons,List.length_take] at e2;exact h4 (.inl ⟨e1,by omega⟩)
   .rw [if_neg h3] at h;simp at h
theorem decF_step {t:List Nat} {i c:Nat} (h:t[i]?=some c):decF (t.take (i+1))=10*decF (t.take i)+(c-48):=by
 unfold decF;rw [List.take_add_one,h,Option.toList_some,List.foldl_append];rfl
theorem decF_ge:∀ (l:List Nat) (n:Nat),n<=l.foldl (fun n c=>10*n+(c-48)) n
 |[],n=>Nat.le_refl _
 |c :: l,n=>Nat.le_trans (by omega) (decF_ge l (10*n+(c-48)))
theorem decF_le {t:List Nat} (i:Nat):decF (t.take i)<=decF t:=by
 conv=>rhs;rw [<- List.take_append_drop i t]
 unfold decF;rw [List.foldl_append];exact decF_ge _ _
abbrev numV (t:List Nat):Int:=if numOk t=true then(decF t:Nat) else 0
abbrev numE (t:List Nat):Nat:=if numOk t=true then 0 else 2
theorem num_big {t:List Nat} {i:Nat} (h:4<decF (t.take i)):numOk t=false:=by
 have:=decF_le (t:=t) i;simp only [numOk,decide_eq_false_iff_not];omega
theorem wrap8 {c:Nat} (h:48<=c/\c<=57):IntKind.u8.wrap ((c:Int)-48)=((c-48:Nat):Int):=by
 have:∀ d,d<10->IntKind.u8.wrap (((48+d:Nat):Int)-48)=(d:Int):=by decide
 have:=this (c-48) (by omega)
 rwa [show 48+(c-48)=c by omega] at this
theorem wrapB {x:Int} {n:Nat} (h:x=(n:Int)) (hn:n<=9223372036854775807):IntKind.i64.wrap x=(n:Int):=by
 subst h;unfold IntKind.wrap;simp [IntKind.bits,IntKind.signed];omega
theorem check4 (x:Lx) (h:x.k=2) (ht:NumT x.t) (hl:x.t.length<=1048576):KnownCall Tryz.prog 233 [encL x] (.d (.int .i64 0)):=by
 obtain⟨k,t,a⟩:=x;simp only at h ht hl;subst h;have hb:=ht.begins;cases t with
 |nil=>exact absurd rfl ht.ne
 |cons c l =>
  have cb:=begins4 c l hl;rw [hb] at cb;simp only at cb;refine knownE Yo (fnAt Tryz.func233 (by kernel_rfl) (by kernel_rfl):FnAt _ _ (mkFn Tryz.f233 [1])) ?_
  repeat' (first|refine zW [1] ?_|(refine zB [1] ?_ ?_<;>intro h<;>try exact zk h)|refine zX [1] ?_|refine zC (cb) ?_|(refine zE ?_;(rfl))|((exfalso;first|(simp at h<;>fail)|(simp at h;omega)))|fail)
set_option maxHeartbeats 2000000 in
theorem number4 (x:Lx) (h:x.k=2) (ht:NumT x.t) (hl:x.t.length<=1048576):KnownCall Tryz.prog 192 [encL x,.int .i64 1,.int .i64 4] (.tup [.d (.int .i64 (numV x.t)),.d (.int .i64 (numE x.t:Nat))]):=by
 have cc:=check4 x h ht hl;obtain⟨k,t,a⟩:=x;simp only at h ht hl cc |-;subst h;obtain⟨V,hV⟩:∃ V:Int × Nat,V=(numV t,numE t):=⟨_,rfl⟩
 rw [show numV t=V.1 by rw [hV],show numE t=V.2 by rw [hV]];refine knownE Yo (fnAt Tryz.func192 (by kernel_rfl) (by kernel_rfl):FnAt _ _ (mkFn Tryz.f192 [3])) ?_
 repeat' (first|refine zW [3] ?_|(refine zB [3] ?_ ?_<;>intro h<;>try exact zk h)|refine zX [3] ?_|refine zC (cc) ?_|(refine zE ?_;(skip))|((exfalso;first|(simp at h<;>fail)|(simp at h;omega)))|fail)
 refine Run.loop (fun i:Nat=>⟨PT.ofList [(1,.d (.int .i64 1)),(2,.d (.int .i64 4)),(3,.d (.ep [.int .i64 (2:Nat),.str t,.int .i64 (a:Nat)])),(9,.d (.int .i64 (decF (t.take i):Nat))),(10,.d (.int .i64 (i:Nat)))],[],[]⟩) (fun i=>i<=t.length/\decF (t.take i)<=9223372036854775807) (fun i=>t.length-i) 0 ⟨Nat.zero_le _,by simp [decF]⟩ (weak_of (by repeat' (first|exact trivial|refine⟨rfl,?_⟩))) (fun i hi=>?_);obtain⟨hi1,hi2⟩:=hi;rcases Nat.lt_or_ge i t.length with hlt|hge
 .obtain⟨c,hc⟩:=get_ok hlt
  have hd:=ht.digs c (List.mem_of_getElem? hc);have hs:=decF_step hc;obtain⟨n,hn⟩:∃ n,n=decF (t.take i):=⟨_,rfl⟩
  rw [<- hn] at hi2 hs |-;have v1:AV.d (.int .u8 (IntKind.u8.wrap ((c:Int)-48)))=.d (.int .u8 ((c-48:Nat):Int)):=by rw [wrap8 hd]
  have v2:AV.d (.int .i64 (IntKind.i64.wrap ((c-48:Nat):Int)))=.d (.int .i64 ((c-48:Nat):Int)):=by rw [wrapB rfl (by omega)]
  have v3:AV.d (.int .i64 (IntKind.i64.wrap (9223372036854775807-((c-48:Nat):Int))))=.d (.int .i64 ((9223372036854775807-(c-48):Nat):Int)):=by rw [wrapB (n:=9223372036854775807-(c-48)) (by omega) (by omega)]
  have v4:AV.d (.int .i64 (IntKind.i64.wrap (((9223372036854775807-(c-48):Nat):Int).tdiv 10)))=.d (.int .i64 (((9223372036854775807-(c-48)) / 10:Nat):Int)):=by
   rw [wrapB (n:=(9223372036854775807-(c-48)) / 10) (by rw [Int.tdiv_eq_ediv_of_nonneg (by omega)];omega) (by omega)]
  by_cases hbig:(9223372036854775807-(c-48)) / 10<n
  .have hV2:V=(0,2):=by
    rw [hV];have:numOk t=false:=num_big (i:=i+1) (by rw [hs];omega);simp [numV,numE,this]
   subst hV2
   repeat' (first|refine oX (frz:=[3]) (v:=.d (.int .i64 (((9223372036854775807-(c-48)) / 10:Nat):Int))) Yo ?_ (he:=(v4))|refine eX (v:=.d (.int .i64 (((9223372036854775807-(c-48)) / 10:Nat):Int))) ?_ (he:=(v4))|refine oX (frz:=[3]) (v:=.d (.int .i64 ((9223372036854775807-(c-48):Nat):Int))) Yo ?_ (he:=(v3))|refine eX (v:=.d (.int .i64 ((9223372036854775807-(c-48):Nat):Int))) ?_ (he:=(v3))|refine oX (frz:=[3]) (v:=.d (.int .i64 ((c-48:Nat):Int))) Yo ?_ (he:=(v2))|refine eX (v:=.d (.int .i64 ((c-48:Nat):Int))) ?_ (he:=(v2))|refine oX (frz:=[3]) (v:=.d (.int .u8 ((c-48:Nat):Int))) Yo ?_ (he:=(v1))|refine eX (v:=.d (.int .u8 ((c-48:Nat):Int))) ?_ (he:=(v1))|refine zW [3] ?_|(refine zB [3] ?_ ?_<;>intro h<;>try exact zk h)|refine zX [3] ?_|refine oI (frz:=[3]) (v:=.d (.int .u8 (c:Nat))) ?_ (he:=by first|(simp [gD,hc]<;>fail)|fail)|(refine zE ?_;(rfl))|((exfalso;first|(simp at h<;>fail)|(simp at h;omega)))|fail)
  .have v5:AV.d (.int .i64 (IntKind.i64.wrap (10*(n:Int))))=.d (.int .i64 ((10*n:Nat):Int)):=by rw [wrapB (n:=10*n) (by omega) (by omega)]
   have v6:AV.d (.int .i64 (IntKind.i64.wrap (((10*n:Nat):Int)+((c-48:Nat):Int))))=.d (.int .i64 ((10*n+(c-48):Nat):Int)):=by rw [wrapB (n:=10*n+(c-48)) (by omega) (by omega)]
   repeat' (first|refine oX (frz:=[3]) (v:=.d (.int .i64 ((10*n+(c-48):Nat):Int))) Yo ?_ (he:=(v6))|refine eX (v:=.d (.int .i64 ((10*n+(c-48):Nat):Int))) ?_ (he:=(v6))|refine oX (frz:=[3]) (v:=.d (.int .i64 ((10*n:Nat):Int))) Yo ?_ (he:=(v5))|refine eX (v:=.d (.int .i64 ((10*n:Nat):Int))) ?_ (he:=(v5))|refine oX (frz:=[3]) (v:=.d (.int .i64 (((9223372036854775807-(c-48)) / 10:Nat):Int))) Yo ?_ (he:=(v4))|refine eX (v:=.d (.int .i64 (((9223372036854775807-(c-48)) / 10:Nat):Int))) ?_ (he:=(v4))|refine oX (frz:=[3]) (v:=.d (.int .i64 ((9223372036854775807-(c-48):Nat):Int))) Yo ?_ (he:=(v3))|refine eX (v:=.d (.int .i64 ((9223372036854775807-(c-48):Nat):Int))) ?_ (he:=(v3))|refine oX (frz:=[3]) (v:=.d (.int .i64 ((c-48:Nat):Int))) Yo ?_ (he:=(v2))|refine eX (v:=.d (.int .i64 ((c-48:Nat):Int))) ?_ (he:=(v2))|refine oX (frz:=[3]) (v:=.d (.int .u8 ((c-48:Nat):Int))) Yo ?_ (he:=(v1))|refine eX (v:=.d (.int .u8 ((c-48:Nat):Int))) ?_ (he:=(v1))|refine zW [3] ?_|(refine zB [3] ?_ ?_<;>intro h<;>try exact zk h)|refine zX [3] ?_|refine oI (frz:=[3]) (v:=.d (.int .u8 (c:Nat))) ?_ (he:=by first|(simp [gD,hc]<;>fail)|fail)|(refine zE ?_;(skip))|(exact⟨i+1,⟨hlt,by rw [hs];omega⟩,by omega,weak_of ⟨by kernel_rfl,by kernel_rfl,by kernel_rfl,by rw [hs];kernel_rfl,(inc_get (k:=i) (by kernel_rfl) (by omega)),trivial⟩⟩)|((exfalso;first|(simp at h<;>fail)|(simp at h;omega)))|fail)
 .have hie:i=t.length:=by omega
  subst hie;rw [List.take_length] at hi2 |-;by_cases hr:1<=decF t/\decF t<=4
  .have hV2:V=(((decF t:Nat):Int),0):=by rw [hV];simp [numV,numE,numOk,hr]
   subst hV2
   repeat' (first|refine zW [3] ?_|(refine zB [3] ?_ ?_<;>intro h<;>try exact zk h)|refine zX [3] ?_|(refine zE ?_;(rfl))|((exfalso;first|(simp at h<;>fail)|(simp at h;omega)))|fail)
  .have hV2:V=(0,2):=by
    have hno:numOk t=false:=by simp only [numOk,decide_eq_false_iff_not];exact hr
    rw [hV];simp [numV,numE,hno]
   subst hV2
   rcases(show decF t<1\/4<decF t by omega) with hr1|hr1
   .skip
    repeat' (first|refine zW [3] ?_|(refine zB [3] ?_ ?_<;>intro h<;>try exact zk h)|refine zX [3] ?_|(refine zE ?_;(rfl))|((exfalso;first|(simp at h<;>fail)|(simp at h;omega)))|fail)
   .skip
    repeat' (first|refine zW [3] ?_|(refine zB [3] ?_ ?_<;>intro h<;>try exact zk h)|refine zX [3] ?_|(refine zE ?_;(rfl))|((exfalso;first|(simp at h<;>fail)|(simp at h;omega)))|fail)
end Go.Av
end
noncomputable section
namespace Go.Av
open Go Go.Proofs
set_option maxRecDepth 10000
theorem NumT.at0 {t:List Nat} (h:NumT t):atF4 t 0=0:=by
 cases t with
 |nil=>exact absurd rfl h.ne
 |cons c l =>
  have hc:=h.digs c List.mem_cons_self;have hb:blankI (c:Nat)=false:=by
   have:∀ d,d<10->blankI ((48+d:Nat):Int)=false:=by decide
   have:=this (c-48) (by omega)
   rwa [show 48+(c-48)=c by omega] at this
  simp only [atF4,List.drop_zero,passM,hb,Bool.false_eq_true,if_false];rw [if_neg (by omega)]
theorem NumT.class {t:List Nat} (h:NumT t) {c:Nat} (hc:t[0]?=some c):classI (c:Nat)=2:=by
 have hd:=h.digs c (List.mem_of_getElem? hc);have:∀ d,d<10->classI ((48+d:Nat):Int)=2:=by decide
 have:=this (c-48) (by omega)
 rwa [show 48+(c-48)=c by omega] at this
theorem checkP (x:Lx) (h:x.k=2) (ht:NumT x.t) (hl:x.t.length<=1048576):KnownCall Tryz.prog 228 [encL x] (.d (.int .i64 0)):=by
 obtain⟨k,t,a⟩:=x;simp only at h ht hl;subst h;obtain⟨c,hc⟩:=get_ok (show 0<t.length from List.length_pos_iff.2 ht.ne);have h0:=ht.at0;have hr:=ht.run;have cs:=scanNum t 0 c (fun c hc=>by have:=ht.digs c hc;omega) hl (Nat.zero_le _) (by rw [h0];exact hc) (ht.class hc)
  (by rw [h0,List.drop_zero,hr];rintro⟨e1,e2⟩;subst e1;exact ht.zero ⟨hc,e2⟩)
  (by rw [h0,List.drop_zero,hr,Nat.zero_add];simp [clsAt]) (by rw [h0,List.drop_zero,hr,Nat.zero_add];simp [clsAt])
 rw [h0,List.drop_zero,hr,List.take_length] at cs;refine knownE Yo (fnAt Tryz.func228 (by kernel_rfl) (by kernel_rfl):FnAt _ _ (mkFn Tryz.f228 [1])) ?_
 repeat' (first|refine zW [1] ?_|(refine zB [1] ?_ ?_<;>intro h<;>try exact zk h)|refine zX [1] ?_|refine oA cs ?_|(refine zE ?_;(rfl))|((exfalso;first|(simp at h<;>fail)|(simp at h;omega)))|fail)
set_option maxHeartbeats 2000000 in
theorem numberP (x:Lx) (h:x.k=2) (ht:NumT x.t) (hl:x.t.length<=1048576):KnownCall Tryz.prog 181 [encL x,.int .i64 1,.int .i64 4] (.tup [.d (.int .i64 (numV x.t)),.d (.int .i64 (numE x.t:Nat))]):=by
 have cc:=checkP x h ht hl;obtain⟨k,t,a⟩:=x;simp only at h ht hl cc |-;subst h;obtain⟨V,hV⟩:∃ V:Int × Nat,V=(numV t,numE t):=⟨_,rfl⟩
 rw [show numV t=V.1 by rw [hV],show numE t=V.2 by rw [hV]];refine knownE Yo (fnAt Tryz.func181 (by kernel_rfl) (by kernel_rfl):FnAt _ _ (mkFn Tryz.f181 [3])) ?_
 repeat' (first|refine zW [3] ?_|(refine zB [3] ?_ ?_<;>intro h<;>try exact zk h)|refine zX [3] ?_|refine zC (cc) ?_|(refine zE ?_;(skip))|((exfalso;first|(simp at h<;>fail)|(simp at h;omega)))|fail)
 refine Run.loop (fun i:Nat=>⟨PT.ofList [(1,.d (.int .i64 1)),(2,.d (.int .i64 4)),(3,.d (.ep [.int .i64 (2:Nat),.str t,.int .i64 (a:Nat)])),(9,.d (.int .i64 (decF (t.take i):Nat))),(22,.d (.int .i64 (t.length:Nat))),(23,.d (.int .i64 (i:Nat)))],[],[]⟩) (fun i=>i<=t.length/\decF (t.take i)<=9223372036854775807) (fun i=>t.length-i) 0 ⟨Nat.zero_le _,by simp [decF]⟩ (weak_of (by repeat' (first|exact trivial|refine⟨rfl,?_⟩))) (fun i hi=>?_);obtain⟨hi1,hi2⟩:=hi;rcases Nat.lt_or_ge i t.length with hlt|hge
 .obtain⟨c,hc⟩:=get_ok hlt
  have hd:=ht.digs c (List.mem_of_getElem? hc);have hs:=decF_step hc;obtain⟨n,hn⟩:∃ n,n=decF (t.take i):=⟨_,rfl⟩
  rw [<- hn] at hi2 hs |-;have v1:AV.d (.int .u8 (IntKind.u8.wrap ((c:Int)-48)))=.d (.int .u8 ((c-48:Nat):Int)):=by rw [wrap8 hd]
  have v2:AV.d (.int .i64 (IntKind.i64.wrap ((c-48:Nat):Int)))=.d (.int .i64 ((c-48:Nat):Int)):=by rw [wrapB rfl (by omega)]
  have v3:AV.d (.int .i64 (IntKind.i64.wrap (9223372036854775807-((c-48:Nat):Int))))=.d (.int .i64 ((9223372036854775807-(c-48):Nat):Int)):=by rw [wrapB (n:=9223372036854775807-(c-48)) (by omega) (by omega)]
  have v4:AV.d (.int .i64 (IntKind.i64.wrap (((9223372036854775807-(c-48):Nat):Int).tdiv 10)))=.d (.int .i64 (((9223372036854775807-(c-48)) / 10:Nat):Int)):=by
   rw [wrapB (n:=(9223372036854775807-(c-48)) / 10) (by rw [Int.tdiv_eq_ediv_of_nonneg (by omega)];omega) (by omega)]
  by_cases hbig:(9223372036854775807-(c-48)) / 10<n
  .have hV2:V=(0,2):=by
    rw [hV];have:numOk t=false:=num_big (i:=i+1) (by rw [hs];omega);simp [numV,numE,this]
   subst hV2
   repeat' (first|refine oX (frz:=[3]) (v:=.d (.int .i64 (((9223372036854775807-(c-48)) / 10:Nat):Int))) Yo ?_ (he:=(v4))|refine eX (v:=.d (.int .i64 (((9223372036854775807-(c-48)) / 10:Nat):Int))) ?_ (he:=(v4))|refine oX (frz:=[3]) (v:=.d (.int .i64 ((9223372036854775807-(c-48):Nat):Int))) Yo ?_ (he:=(v3))|refine eX (v:=.d (.int .i64 ((9223372036854775807-(c-48):Nat):Int))) ?_ (he:=(v3))|refine oX (frz:=[3]) (v:=.d (.int .i64 ((c-48:Nat):Int))) Yo ?_ (he:=(v2))|refine eX (v:=.d (.int .i64 ((c-48:Nat):Int))) ?_ (he:=(v2))|refine oX (frz:=[3]) (v:=.d (.int .u8 ((c-48:Nat):Int))) Yo ?_ (he:=(v1))|refine eX (v:=.d (.int .u8 ((c-48:Nat):Int))) ?_ (he:=(v1))|refine zW [3] ?_|(refine zB [3] ?_ ?_<;>intro h<;>try exact zk h)|refine zX [3] ?_|refine oI (frz:=[3]) (v:=.d (.int .u8 (c:Nat))) ?_ (he:=by first|(simp [gD,hc]<;>fail)|fail)|(refine zE ?_;(rfl))|((exfalso;first|(simp at h<;>fail)|(simp at h;omega)))|fail)
  .have v5:AV.d (.int .i64 (IntKind.i64.wrap (10*(n:Int))))=.d (.int .i64 ((10*n:Nat):Int)):=by rw [wrapB (n:=10*n) (by omega) (by omega)]
   have v6:AV.d (.int .i64 (IntKind.i64.wrap (((10*n:Nat):Int)+((c-48:Nat):Int))))=.d (.int .i64 ((10*n+(c-48):Nat):Int)):=by rw [wrapB (n:=10*n+(c-48)) (by omega) (by omega)]
   repeat' (first|refine oX (frz:=[3]) (v:=.d (.int .i64 ((10*n+(c-48):Nat):Int))) Yo ?_ (he:=(v6))|refine eX (v:=.d (.int .i64 ((10*n+(c-48):Nat):Int))) ?_ (he:=(v6))|refine oX (frz:=[3]) (v:=.d (.int .i64 ((10*n:Nat):Int))) Yo ?_ (he:=(v5))|refine eX (v:=.d (.int .i64 ((10*n:Nat):Int))) ?_ (he:=(v5))|refine oX (frz:=[3]) (v:=.d (.int .i64 (((9223372036854775807-(c-48)) / 10:Nat):Int))) Yo ?_ (he:=(v4))|refine eX (v:=.d (.int .i64 (((9223372036854775807-(c-48)) / 10:Nat):Int))) ?_ (he:=(v4))|refine oX (frz:=[3]) (v:=.d (.int .i64 ((9223372036854775807-(c-48):Nat):Int))) Yo ?_ (he:=(v3))|refine eX (v:=.d (.int .i64 ((9223372036854775807-(c-48):Nat):Int))) ?_ (he:=(v3))|refine oX (frz:=[3]) (v:=.d (.int .i64 ((c-48:Nat):Int))) Yo ?_ (he:=(v2))|refine eX (v:=.d (.int .i64 ((c-48:Nat):Int))) ?_ (he:=(v2))|refine oX (frz:=[3]) (v:=.d (.int .u8 ((c-48:Nat):Int))) Yo ?_ (he:=(v1))|refine eX (v:=.d (.int .u8 ((c-48:Nat):Int))) ?_ (he:=(v1))|refine zW [3] ?_|(refine zB [3] ?_ ?_<;>intro h<;>try exact zk h)|refine zX [3] ?_|refine oI (frz:=[3]) (v:=.d (.int .u8 (c:Nat))) ?_ (he:=by first|(simp [gD,hc]<;>fail)|fail)|(refine zE ?_;(skip))|(exact⟨i+1,⟨hlt,by rw [hs];omega⟩,by omega,weak_of ⟨by kernel_rfl,by kernel_rfl,by kernel_rfl,by rw [hs];kernel_rfl,by kernel_rfl,(inc_get (k:=i) (by kernel_rfl) (by omega)),trivial⟩⟩)|((exfalso;first|(simp at h<;>fail)|(simp at h;omega)))|fail)
 .have hie:i=t.length:=by omega
  subst hie;rw [List.take_length] at hi2 |-;by_cases hr:1<=decF t/\decF t<=4
  .have hV2:V=(((decF t:Nat):Int),0):=by rw [hV];simp [numV,numE,numOk,hr]
   subst hV2
   repeat' (first|refine zW [3] ?_|(refine zB [3] ?_ ?_<;>intro h<;>try exact zk h)|refine zX [3] ?_|(refine zE ?_;(rfl))|((exfalso;first|(simp at h<;>fail)|(simp at h;omega)))|fail)
  .have hV2:V=(0,2):=by
    have hno:numOk t=false:=by simp only [numOk,decide_eq_false_iff_not];exact hr
    rw [hV];simp [numV,numE,hno]
   subst hV2
   rcases(show decF t<1\/4<decF t by omega) with hr1|hr1
   .skip
    repeat' (first|refine zW [3] ?_|(refine zB [3] ?_ ?_<;>intro h<;>try exact zk h)|refine zX [3] ?_|(refine zE ?_;(rfl))|((exfalso;first|(simp at h<;>fail)|(simp at h;omega)))|fail)
   .skip
    repeat' (first|refine zW [3] ?_|(refine zB [3] ?_ ?_<;>intro h<;>try exact zk h)|refine zX [3] ?_|(refine zE ?_;(rfl))|((exfalso;first|(simp at h<;>fail)|(simp at h;omega)))|fail)
end Go.Av
end
noncomputable section
namespace Go.Av
open Go Go.Proofs
set_option maxRecDepth 10000
abbrev pG:List Ob:=[.gone,.gone,.gone,.gone,.gone]
abbrev endG (s:List Nat):Except Fa PS->List Ob
 |.ok q=>pO s q
 |.error _=>pG
theorem wantP_x {s:List Nat} {k:Nat} {t:List Nat} {p q:PS} (h:wantP s k t p=.ok q):q={ p with l:=q.l }/\p.l.length=q.l.length+1/\∀ x ∈ q.l,x ∈ p.l:=by
 unfold wantP nextP at h;cases hl:p.l with
 |nil=>rw [hl] at h;simp [Except.bind] at h
 |cons x l =>
  rw [hl] at h;simp only [Except.bind] at h;split at h
  .simp only [Except.ok.injEq] at h
   rw [<- h];exact⟨rfl,rfl,fun y hy=>List.mem_cons_of_mem _ hy⟩
  .cases h
theorem wordP_x {s:List Nat} {may:List Nat->Bool} {p:PS} {q:Lx × PS} (h:wordP s may p=.ok q):q.2={ p with l:=q.2.l }/\p.l=q.1 :: q.2.l:=by
 unfold wordP nextP at h;cases hl:p.l with
 |nil=>rw [hl] at h;simp [Except.bind] at h
 |cons x l =>
  rw [hl] at h;simp only [Except.bind] at h;split at h
  .cases h
  .split at h
   .simp only [Except.ok.injEq] at h
    rw [<- h];exact⟨rfl,rfl⟩
   .cases h
theorem terminalP_x {s:List Nat} {sep:Bool} {p:PS} {q:List Nat × PS} (h:terminalP s sep p=.ok q):q.2={ p with l:=q.2.l,names:=q.2.names }/\p.l.length=q.2.l.length+1/\(∀ x ∈ q.2.l,x ∈ p.l)/\(sep=false->p.x.tokens.length≠8):=by
 unfold terminalP at h;cases hw:wordP s smallF p with
 |error e=>rw [hw] at h;cases h
 |ok v =>
  rw [hw] at h;obtain⟨e1,e2⟩:=wordP_x hw;simp only [Except.bind] at h;split at h
  .cases h
  .split at h
   .cases h
   .rename_i hc
    simp only [Except.ok.injEq] at h;rw [<- h];have ex:v.2.x=p.x:=by rw [e1]
    refine⟨?_,by rw [e2];rfl,fun x hx=>by rw [e2];exact List.mem_cons_of_mem _ hx,fun hs e=>hc ⟨hs,by rw [ex];exact e⟩⟩;simp only;rw [e1]
theorem PB.of {p q:PS} (h:PB p) (hl:∀ x ∈ q.l,x ∈ p.l) (hll:q.l.length<=p.l.length) (ht:q.x.tokens.length<=1000) (hr:q.x.rules.length<=1000) (hu:q.uses.length+q.l.length<=200000) (hn:q.total<=1000):PB q :=
 ⟨fun x hx=>h.len x (hl x hx),Nat.le_trans hll h.l,ht,hr,hu,hn⟩
theorem PB.l' {p q:PS} (h:PB p) (e:q={ p with l:=q.l }) (hl:∀ x ∈ q.l,x ∈ p.l) (hll:q.l.length<=p.l.length):PB q :=
 h.of hl hll (by rw [e];exact h.toks) (by rw [e];exact h.rules) (by rw [e];have:=h.uses;simp only;omega) (by rw [e];exact h.total)
set_option maxHeartbeats 4000000 in
theorem lookC (s:List Nat) (p:PS) (hb:PB p) (hn:NumL p.l):ACall Tryz.prog 98 [.bp 0 0] (pO s p) (endR (lookP s p)) (endG s (lookP s p)):=by
 have c0:=headC s p wLook;unfold lookP;cases h0:wantP s 1 wLook p with
 |error e =>
  rw [h0] at c0;simp only [Except.bind];refine acallP_of_run (fnAt Tryz.func98 (by kernel_rfl) (by kernel_rfl):FnAt _ _ (mkFn Tryz.f98 [])) rfl rfl rfl rfl ?_
  repeat' (first|refine zW [] ?_|(refine zB [] ?_ ?_<;>intro h<;>try exact zk h)|refine zX [] ?_|refine oFP (c0) ?_|(refine zE ?_;(skip))|(exact⟨rfl,rfl,wkE⟩)|((exfalso;(simp at h<;>omega)))|fail)
 |ok q =>
  rw [h0] at c0;obtain⟨e1,e2,e3⟩:=wantP_x h0;simp only [Except.bind];cases hl:q.l with
  |nil =>
   have c1:=nextEndP s q hl;rw [show nextP s q=.error (5,s.length) by simp [nextP,hl]];refine acallP_of_run (fnAt Tryz.func98 (by kernel_rfl) (by kernel_rfl):FnAt _ _ (mkFn Tryz.f98 [])) rfl rfl rfl rfl ?_
   repeat' (first|refine zW [] ?_|(refine zB [] ?_ ?_<;>intro h<;>try exact zk h)|refine zX [] ?_|refine oF (c0) ?_|refine eF (c0) ?_|refine oFP (c1) ?_|(refine zE ?_;(skip))|(exact⟨rfl,rfl,wkE⟩)|((exfalso;(simp at h<;>omega)))|fail)
  |cons x l =>
   have c1:=nextOkP s q x l hl;rw [show nextP s q=.ok (x,{ q with l:=l }) by simp [nextP,hl]];simp only;have hx:x ∈ p.l:=e3 x (by rw [hl];exact List.mem_cons_self);by_cases hk:x.k=2
   .have hkk:AV.d (.bool (((x.k:Nat):Int) != 2))=.d (.bool false):=by rw [hk];rfl
    have cn:=numberP x hk (hn x hx hk) (hb.len x hx);unfold numV numE at cn;rw [if_neg (by simp [hk])];cases hv:numOk x.t with
    |true =>
     rw [hv,if_pos rfl,if_pos rfl] at cn;rw [if_pos rfl];have c2:=endC s { q with l:=l,x:={ q.x with k:=(decF x.t:Nat) } };cases h3:wantP s 3 sSemi { q with l:=l,x:={ q.x with k:=(decF x.t:Nat) } } with
     |error e =>
      rw [h3] at c2;refine acallP_of_run (fnAt Tryz.func98 (by kernel_rfl) (by kernel_rfl):FnAt _ _ (mkFn Tryz.f98 [])) rfl rfl rfl rfl ?_
      repeat' (first|refine oX (frz:=[]) (v:=.d (.bool false)) Yo ?_ (he:=(hkk))|refine eX (v:=.d (.bool false)) ?_ (he:=(hkk))|refine zW [] ?_|(refine zB [] ?_ ?_<;>intro h<;>try exact zk h)|refine zX [] ?_|refine oF (c0) ?_|refine eF (c0) ?_|refine oF (c1) ?_|refine eF (c1) ?_|refine zC (cn) ?_|refine oFP (c2) ?_|(refine zE ?_;(skip))|(exact⟨rfl,rfl,wkE⟩)|((exfalso;(simp at h<;>omega)))|fail)
     |ok q3 =>
      rw [h3] at c2;refine acallW_of_run Yo (fnAt Tryz.func98 (by kernel_rfl) (by kernel_rfl):FnAt _ _ (mkFn Tryz.f98 [])) rfl rfl rfl rfl rfl ?_
      repeat' (first|refine oX (frz:=[]) (v:=.d (.bool false)) Yo ?_ (he:=(hkk))|refine eX (v:=.d (.bool false)) ?_ (he:=(hkk))|refine zW [] ?_|(refine zB [] ?_ ?_<;>intro h<;>try exact zk h)|refine zX [] ?_|refine oF (c0) ?_|refine eF (c0) ?_|refine oF (c1) ?_|refine eF (c1) ?_|refine zC (cn) ?_|refine oF (c2) ?_|refine eF (c2) ?_|(refine zE ?_;(skip))|(((first|refine Yt ?_|skip);exact⟨trivial,_,_,rfl,rfl,.refl,wkE⟩))|((exfalso;(simp at h<;>omega)))|fail)
    |false =>
     rw [hv,if_neg (by simp),if_neg (by simp)] at cn;rw [if_neg (by simp)];have c2:=failP s { q with l:=l } 2 x.a;refine acallP_of_run (fnAt Tryz.func98 (by kernel_rfl) (by kernel_rfl):FnAt _ _ (mkFn Tryz.f98 [])) rfl rfl rfl rfl ?_
     repeat' (first|refine oX (frz:=[]) (v:=.d (.bool false)) Yo ?_ (he:=(hkk))|refine eX (v:=.d (.bool false)) ?_ (he:=(hkk))|refine zW [] ?_|(refine zB [] ?_ ?_<;>intro h<;>try exact zk h)|refine zX [] ?_|refine oF (c0) ?_|refine eF (c0) ?_|refine oF (c1) ?_|refine eF (c1) ?_|refine zC (cn) ?_|refine oFP (c2) ?_|(refine zE ?_;(skip))|(exact⟨rfl,rfl,wkE⟩)|((exfalso;(simp at h<;>omega)))|fail)
   .have c2:=failP s { q with l:=l } 3 x.a
    rw [if_pos hk];refine acallP_of_run (fnAt Tryz.func98 (by kernel_rfl) (by kernel_rfl):FnAt _ _ (mkFn Tryz.f98 [])) rfl rfl rfl rfl ?_
    repeat' (first|refine zW [] ?_|(refine zB [] ?_ ?_<;>intro h<;>try exact zk h)|refine zX [] ?_|refine oF (c0) ?_|refine eF (c0) ?_|refine oF (c1) ?_|refine eF (c1) ?_|refine oFP (c2) ?_|(refine zE ?_;(skip))|(exact⟨rfl,rfl,wkE⟩)|((exfalso;(simp at h<;>omega)))|fail)
theorem sepC (s:List Nat) (p:PS) (hb:PB p):ACall Tryz.prog 100 [.bp 0 0] (pO s p) (endR (sepQ s p)) (endG s (sepQ s p)):=by
 have c0:=headC s p wSep;unfold sepQ;cases h0:wantP s 1 wSep p with
 |error e =>
  rw [h0] at c0;simp only [Except.bind];refine acallP_of_run (fnAt Tryz.func100 (by kernel_rfl) (by kernel_rfl):FnAt _ _ (mkFn Tryz.f100 [])) rfl rfl rfl rfl ?_
  repeat' (first|refine zW [] ?_|(refine zB [] ?_ ?_<;>intro h<;>try exact zk h)|refine zX [] ?_|refine oFP (c0) ?_|(refine zE ?_;(skip))|(exact⟨rfl,rfl,wkE⟩)|((exfalso;(simp at h<;>omega)))|fail)
 |ok q =>
  rw [h0] at c0;obtain⟨e1,e2,e3⟩:=wantP_x h0;simp only [Except.bind];have c1:=terminalC s q true (hb.l' e1 e3 (by omega));cases h1:terminalP s true q with
  |error e =>
   rw [h1] at c1;refine acallP_of_run (fnAt Tryz.func100 (by kernel_rfl) (by kernel_rfl):FnAt _ _ (mkFn Tryz.f100 [])) rfl rfl rfl rfl ?_
   repeat' (first|refine zW [] ?_|(refine zB [] ?_ ?_<;>intro h<;>try exact zk h)|refine zX [] ?_|refine oF (c0) ?_|refine eF (c0) ?_|refine oFP (c1) ?_|(refine zE ?_;(skip))|(exact⟨rfl,rfl,wkE⟩)|((exfalso;(simp at h<;>omega)))|fail)
  |ok v =>
   rw [h1] at c1;obtain⟨t,v⟩:=v;have c2:=endC s { v with x:={ v.x with sep:=t } };simp only;cases h2:wantP s 3 sSemi { v with x:={ v.x with sep:=t } } with
   |error e =>
    rw [h2] at c2;refine acallP_of_run (fnAt Tryz.func100 (by kernel_rfl) (by kernel_rfl):FnAt _ _ (mkFn Tryz.f100 [])) rfl rfl rfl rfl ?_
    repeat' (first|refine zW [] ?_|(refine zB [] ?_ ?_<;>intro h<;>try exact zk h)|refine zX [] ?_|refine oF (c0) ?_|refine eF (c0) ?_|refine oF (c1) ?_|refine eF (c1) ?_|refine oFP (c2) ?_|(refine zE ?_;(skip))|(exact⟨rfl,rfl,wkE⟩)|((exfalso;(simp at h<;>omega)))|fail)
   |ok q3 =>
    rw [h2] at c2;refine acallW_of_run Yo (fnAt Tryz.func100 (by kernel_rfl) (by kernel_rfl):FnAt _ _ (mkFn Tryz.f100 [])) rfl rfl rfl rfl rfl ?_
    repeat' (first|refine zW [] ?_|(refine zB [] ?_ ?_<;>intro h<;>try exact zk h)|refine zX [] ?_|refine oF (c0) ?_|refine eF (c0) ?_|refine oF (c1) ?_|refine eF (c1) ?_|refine oF (c2) ?_|refine eF (c2) ?_|(refine zE ?_;(skip))|(((first|refine Yt ?_|skip);exact⟨trivial,_,_,rfl,rfl,.refl,wkE⟩))|((exfalso;(simp at h<;>omega)))|fail)
end Go.Av
end
noncomputable section
namespace Go.Av
open Go Go.Proofs
set_option maxRecDepth 10000
theorem tokenP_x {s:List Nat} {p q:PS} (h:tokenP s p=.ok q):∃ t v,terminalP s false p=.ok (t,v)/\q={ v with x:={ v.x with tokens:=v.x.tokens++[t] } }:=by
 unfold tokenP at h;cases hv:terminalP s false p with
 |error e=>rw [hv] at h;cases h
 |ok v =>
  rw [hv] at h;simp only [Except.bind,Except.ok.injEq] at h;exact⟨v.1,v.2,rfl,h.symm⟩
abbrev pOt (s:List Nat) (v:PS) (t:List Nat):List Ob:=[.box [.d (.str s),.d (.sl 3 (v.l.map encL)),.d (.int .i64 v.x.k),.sr 1 1 (v.x.tokens.map .str++[.str t]),.d (.str v.x.sep),.d (.str v.x.start),.sr 2 2 (v.x.rules.map encR),.mp 3,.sr 4 2 (v.uses.map encU),.d (.int .i64 (v.total:Nat))],.room (v.x.tokens.length+1) 1,.room v.x.rules.length 2,.map (kvN v.names),.room v.uses.length 2]
theorem pOt_eq (s:List Nat) (v:PS) (t:List Nat):pO s { v with x:={ v.x with tokens:=v.x.tokens++[t] } }=pOt s v t:=by
 unfold pO pBox pOt;simp only [List.map_append,List.map_cons,List.map_nil,List.length_append,List.length_cons,List.length_nil]
def KXu (s:List Nat) (rv:Array ResultVar) (R:Except Fa PS):Ex->S->Prop:=fun e st=>match R with
 |.ok q=>(match e with|.normal=>True|.ret=>True|_=>False)/\∃ objs2 r0,evLeave H0 st.dl none st.objs=some (none,objs2)/\evResults Et ⟨st.tm,objs2,[]⟩ rv=some r0/\AvR r0 (.tup [])/\WkObs objs2 (pO s q)
 |.error x=>e=.pan (refD x)/\st.dl=[]/\WkObs st.objs pG
theorem acallU {f:FuncId} {i:FnI} (hF:FnAt Tryz.prog f i) {args:List AV} {s:List Nat} {p:PS} {R:Except Fa PS} (hlen:args.length=i.np) (hle:Nat.ble i.np i.nt=true)
  (h:Run Tryz.prog i.nt (pO s p).length none i.body ⟨initTm 0 args .nil,pO s p,[]⟩ (KXu s i.results R)):ACall Tryz.prog f args (pO s p) (endR R) (endG s R):=by
 cases R with
 |ok q=>exact acallW_of_run Yo hF hlen hle rfl rfl rfl h
 |error x=>exact acallP_of_run hF hlen hle rfl rfl h
theorem terminalP_v {s:List Nat} {sep:Bool} {p:PS} {t:List Nat} {v:PS} (h:terminalP s sep p=.ok (t,v)):∃ l n,v=⟨l,p.x,n,p.uses,p.total⟩:=by
 have:=(terminalP_x h).1;exact⟨v.l,v.names,this⟩
set_option maxHeartbeats 8000000 in
theorem tokensC (s:List Nat) (p:PS) (hb:PB p) (h8:p.x.tokens.length<=8):ACall Tryz.prog 99 [.bp 0 0] (pO s p) (endR (tokensP s p)) (endG s (tokensP s p)):=by
 have c0:=headC s p wToken;unfold tokensP;cases h0:wantP s 1 wToken p with
 |error e =>
  rw [h0] at c0;simp only [Except.bind];refine acallP_of_run (fnAt Tryz.func99 (by kernel_rfl) (by kernel_rfl):FnAt _ _ (mkFn Tryz.f99 [12,29])) rfl rfl rfl rfl ?_
  repeat' (first|refine zW [12,29] ?_|(refine zB [12,29] ?_ ?_<;>intro h<;>try exact zk h)|refine zX [12,29] ?_|refine oFP (c0) ?_|(refine zE ?_;(skip))|(exact⟨rfl,rfl,wkE⟩)|((exfalso;(simp at h<;>omega)))|fail)
 |ok q =>
  rw [h0] at c0;obtain⟨e1,e2,e3⟩:=wantP_x h0;have hbq:=hb.l' e1 e3 (by omega);simp only [Except.bind];have ct:=terminalC s q false hbq;have htq:=hbq.toks;unfold tokenP;cases h1:terminalP s false q with
  |error e =>
   rw [h1] at ct;simp only [Except.bind];refine acallP_of_run (fnAt Tryz.func99 (by kernel_rfl) (by kernel_rfl):FnAt _ _ (mkFn Tryz.f99 [12,29])) rfl rfl rfl rfl ?_
   repeat' (first|refine zRn [12,29] ?_|refine oF (c0) ?_|refine eF (c0) ?_|fail)
   refine Run.drawP (frz:=[12,29]) Yo (by kernel_rfl) [(5,7)] 7 [8,9,13,10,11,12] (x:=refD e) (obP:=pE q) (by rfl) (by kernel_rfl) ?_ ?_
   .iterate 7 refine cX ?_
    refine cP ct ?_;iterate 6 refine cD ?_
    refine EvC.nil ⟨by kernel_rfl,⟨⟨_,_,_,_,_,_,_,rfl,rfl,rfl,rfl,rfl,rfl⟩,trivial⟩⟩
   .exact⟨rfl,rfl,wkE⟩
  |ok v =>
   rw [h1] at ct;obtain⟨t,v⟩:=v;obtain⟨y1,y2,y3,y4⟩:=terminalP_x h1;have y4:=y4 rfl;obtain⟨vl,vn,rfl⟩:=terminalP_v h1;simp only [Except.bind] at y2 y3 |-;obtain⟨p1,hp1⟩:∃ p1:PS,p1=⟨vl,{ q.x with tokens:=q.x.tokens++[t] },vn,q.uses,q.total⟩:=⟨_,rfl⟩
   have hO1:pO s p1=pOt s ⟨vl,q.x,vn,q.uses,q.total⟩ t:=by rw [hp1];exact pOt_eq s ⟨vl,q.x,vn,q.uses,q.total⟩ t
   have hq8:q.x.tokens.length<=100000:=by omega
   have h8q:q.x.tokens.length<=8:=by rw [e1];exact h8
   have hbV:∀ (l:List Lx) (X:Src) (n:List (List Nat × Bool × Bool × Bool)) (u:List (List Nat × Nat)) (k:Nat) (t:List Nat),(∀ x ∈ l,x ∈ q.l)->l.length<=q.l.length->X.tokens.length<=8->X.rules.length<=1000->u.length<=q.uses.length->k<=1000->PB ⟨l,{ X with tokens:=X.tokens++[t] },n,u,k⟩:=fun l X n u k t g1 g2 g3 g4 g5 g6 =>
    ⟨fun x hx=>hbq.len x (g1 x hx),by have:=hbq.l;simp only;omega,by simp;omega,g4,by have:=hbq.uses;simp only;omega,g6⟩
   have hb1:PB p1:=by rw [hp1];exact hbV vl q.x vn q.uses q.total t y3 (by omega) h8q hbq.rules (Nat.le_refl _) hbq.total
   obtain⟨R,hR⟩:∃ R,R=(tokensLP s (vl.length+1) p1).bind fun p=>wantP s 3 sSemi p:=⟨_,rfl⟩
   rw [hp1] at hR;simp only [Except.bind] at hR;rw [<- hR];refine acallU (fnAt Tryz.func99 (by kernel_rfl) (by kernel_rfl):FnAt _ _ (mkFn Tryz.f99 [12,29])) rfl rfl ?_
   repeat' (first|refine zRn [12,29] ?_|refine oF (c0) ?_|refine eF (c0) ?_|fail)
   refine Run.drawC (frz:=[12,29]) Yo (by kernel_rfl) [(5,7)] ?_;iterate 7 refine cX ?_
   refine cCall ct ?_;refine cX ?_;refine cX ?_ (hv:=app1) (hf:=rfl) (he:=rfl);iterate 4 refine cX ?_
   refine EvC.nil ⟨by kernel_rfl,⟨⟨_,_,_,_,_,_,_,rfl,rfl,rfl,rfl,rfl,rfl⟩,trivial⟩,?_⟩;refine Yq ?_;refine Yb ?_;refine Run.loopT (fun y:Nat × PS=>⟨PT.ofList [(0,.bp 0 0)],pO s y.2,[]⟩) (fun y=>((tokensLP s y.1 y.2).bind fun p=>wantP s 3 sSemi p)=R/\PB y.2/\y.2.x.tokens.length<=8/\y.2.l.length<y.1/\y.2.l.length<=q.l.length/\(∀ x ∈ y.2.l,x ∈ q.l)/\y.2.uses.length<=q.uses.length) (fun y=>y.1) (vl.length+1,p1)
    ⟨by rw [hR,hp1];rfl,hb1,by rw [hp1];simp;omega,by rw [hp1];simp only;omega,by rw [hp1];simp only;omega,by rw [hp1];exact y3,by rw [hp1];exact Nat.le_refl _⟩ (by show Tidy _ _ ⟨_,pO s p1,_⟩;rw [hO1];exact(ti _ 5)) (fun y hy=>?_)
   obtain⟨n,y⟩:=y;obtain⟨i1,i2,i3,i4,i5,i6,i7⟩:=hy;simp only at i1 i2 i3 i4 i5 i6 i7 |-;obtain⟨n,rfl⟩:∃ j,n=j+1:=⟨n-1,by omega⟩
   have ci:=isCP s y sComma;unfold tokensLP at i1;cases hc:isL sComma y.l with
   |false =>
    rw [hc] at ci i1;simp only [Bool.false_eq_true,if_false,Except.bind] at i1;have ce:=endC s y;rw [i1] at ce;cases R with
    |ok q9 =>
     repeat' (first|refine zW [12,29] ?_|(refine zB [12,29] ?_ ?_<;>intro h<;>try exact zk h)|refine zX [12,29] ?_|refine oF (ci) ?_|refine eF (ci) ?_|refine oF (ce) ?_|refine eF (ce) ?_|(refine zE ?_;(skip))|(((first|refine Yt ?_|skip);exact⟨trivial,_,_,rfl,rfl,.refl,wkE⟩))|((exfalso;(simp at h<;>omega)))|fail)
    |error e9 =>
     repeat' (first|refine zW [12,29] ?_|(refine zB [12,29] ?_ ?_<;>intro h<;>try exact zk h)|refine zX [12,29] ?_|refine oF (ci) ?_|refine eF (ci) ?_|refine oFP (ce) ?_|(refine zE ?_;(skip))|(exact⟨rfl,rfl,wkE⟩)|((exfalso;(simp at h<;>omega)))|fail)
   |true =>
    rw [hc,if_pos rfl] at i1;rw [hc] at ci;obtain⟨x,l,hl,_,_⟩:=isL_cons hc;have cn:=nextOkP s y x l hl;rw [show nextP s y=.ok (x,{ y with l:=l }) by simp [nextP,hl]] at i1;simp only [Except.bind] at i1;have hby:PB { y with l:=l }:=i2.of (fun z hz=>by rw [hl];exact List.mem_cons_of_mem _ hz) (by rw [hl];simp) i2.toks i2.rules (by have:=i2.uses;rw [hl] at this;simp at this |-;omega) i2.total;have cz:=terminalC s { y with l:=l } false hby;have hty:=i2.toks;unfold tokenP at i1;cases hz:terminalP s false { y with l:=l } with
    |error e9 =>
     rw [hz] at cz i1;simp only [Except.bind] at i1;subst i1
     repeat' (first|refine zN [12,29] ?_|(refine zB [12,29] ?_ ?_<;>intro h<;>try exact zk h)|refine zX [12,29] ?_|refine oF (ci) ?_|refine eF (ci) ?_|refine oF (cn) ?_|refine eF (cn) ?_|(refine zE ?_;(skip))|((exfalso;(simp at h<;>omega)))|fail)
     refine Run.drawP (frz:=[12,29]) Yo (by kernel_rfl) [(5,7)] 7 [8,9,13,10,11,12] (x:=refD e9) (obP:=pE { y with l:=l }) (by rfl) (by kernel_rfl) ?_ ?_
     .iterate 7 refine cX ?_
      refine cP cz ?_;iterate 6 refine cD ?_
      refine EvC.nil ⟨by kernel_rfl,⟨⟨_,_,_,_,_,_,_,rfl,rfl,rfl,rfl,rfl,rfl⟩,trivial⟩⟩
     .exact⟨rfl,rfl,wkE⟩
    |ok w =>
     rw [hz] at cz i1;obtain⟨tz,w⟩:=w;obtain⟨z1,z2,z3,z4⟩:=terminalP_x hz;have z4:=z4 rfl;obtain⟨wl,wn,rfl⟩:=terminalP_v hz;simp only [Except.bind] at i1 z2 z3 z4;have hlq:l.length<q.l.length/\l.length+1=y.l.length:=by rw [hl] at i5 |-;simp at i5 |-;omega
     have hmem:∀ x ∈ wl,x ∈ q.l:=fun x hx=>i6 x (by rw [hl];exact List.mem_cons_of_mem _ (z3 x hx));have h7:y.x.tokens.length<=7:=by omega
     have fin:∀ s1:S,Tidy 5 s1 ⟨PT.ofList [(0,.bp 0 0)],pOt s ⟨wl,y.x,wn,y.uses,y.total⟩ tz,[]⟩ ->
       ∃ x':Nat × PS,(((tokensLP s x'.1 x'.2).bind fun p=>wantP s 3 sSemi p)=R/\PB x'.2/\x'.2.x.tokens.length<=8/\x'.2.l.length<x'.1/\x'.2.l.length<=q.l.length/\(∀ x ∈ x'.2.l,x ∈ q.l)/\x'.2.uses.length<=q.uses.length)/\x'.1<n+1/\Tidy 5 s1 ⟨PT.ofList [(0,.bp 0 0)],pO s x'.2,[]⟩:=fun s1 ht =>
      ⟨(n,⟨wl,{ y.x with tokens:=y.x.tokens++[tz] },wn,y.uses,y.total⟩),⟨i1,hbV wl y.x wn y.uses y.total tz hmem (by omega) (by omega) i2.rules i7 i2.total,by simp;omega,by simp only;omega,by simp only;omega,hmem,i7⟩,Nat.lt_succ_self _,by
       show Tidy 5 s1 ⟨PT.ofList [(0,.bp 0 0)],pO s ⟨wl,{ y.x with tokens:=y.x.tokens++[tz] },wn,y.uses,y.total⟩,[]⟩
       rw [pOt_eq s ⟨wl,y.x,wn,y.uses,y.total⟩ tz];exact ht⟩
     repeat' (first|refine zN [12,29] ?_|(refine zB [12,29] ?_ ?_<;>intro h<;>try exact zk h)|refine zX [12,29] ?_|refine oF (ci) ?_|refine eF (ci) ?_|refine oF (cn) ?_|refine eF (cn) ?_|(refine zE ?_;(skip))|((exfalso;(simp at h<;>omega)))|fail)
     refine Run.drawC (frz:=[12,29]) Yo (by kernel_rfl) [(5,7)] ?_;iterate 7 refine cX ?_
     refine cCall cz ?_;refine cX ?_;refine cX ?_ (hv:=app1) (hf:=rfl) (he:=rfl);iterate 4 refine cX ?_
     refine EvC.nil ⟨by kernel_rfl,⟨⟨_,_,_,_,_,_,_,rfl,rfl,rfl,rfl,rfl,rfl⟩,trivial⟩,?_⟩
     repeat' (first|refine zW [12,29] ?_|(refine zB [12,29] ?_ ?_<;>intro h<;>try exact zk h)|refine zX [12,29] ?_|(refine zE ?_;(skip))|(exact fin _ (ti _ 5))|((exfalso;(simp at h<;>omega)))|fail)
end Go.Av
end
noncomputable section
namespace Go.Av
open Go Go.Proofs
set_option maxRecDepth 10000
theorem altMayC:∀ t:List Nat,t.length<=1048576->KnownCall Tryz.prog 229 [.str t] (.d (.bool (mayF t))):=fun t h=>by
 have c1:=small t (by omega);have c2:=capital t (by omega);unfold mayF;cases h1:smallF t with
 |true =>
  rw [h1] at c1;refine knownE Yo (fnAt Tryz.func229 (by kernel_rfl) (by kernel_rfl):FnAt _ _ (mkFn Tryz.f229 [])) ?_
  repeat' (first|refine zW [] ?_|(refine zB [] ?_ ?_<;>intro h<;>try exact zk h)|refine zX [] ?_|refine zC (c1) ?_|refine zC (c2) ?_|(refine zE ?_;(rfl))|((exfalso;(simp at h<;>omega)))|fail)
 |false =>
  rw [h1] at c1;rw [Bool.false_or];refine knownE Yo (fnAt Tryz.func229 (by kernel_rfl) (by kernel_rfl):FnAt _ _ (mkFn Tryz.f229 [])) ?_
  repeat' (first|refine zW [] ?_|(refine zB [] ?_ ?_<;>intro h<;>try exact zk h)|refine zX [] ?_|refine zC (c1) ?_|refine zC (c2) ?_|(refine zE ?_;(rfl))|((exfalso;(simp at h<;>omega)))|fail)
abbrev pOu (s:List Nat) (v:PS) (u:List Nat × Nat):List Ob:=[.box [.d (.str s),.d (.sl 3 (v.l.map encL)),.d (.int .i64 v.x.k),.sr 1 1 (v.x.tokens.map .str),.d (.str v.x.sep),.d (.str v.x.start),.sr 2 2 (v.x.rules.map encR),.mp 3,.sr 4 2 (v.uses.map encU++[encU u]),.d (.int .i64 (v.total:Nat))],.room v.x.tokens.length 1,.room v.x.rules.length 2,.map (kvN v.names),.room (v.uses.length+1) 2]
theorem pOu_eq (s:List Nat) (v:PS) (u:List Nat × Nat):pO s { v with uses:=v.uses++[u] }=pOu s v u:=by
 unfold pO pBox pOu;simp only [List.map_append,List.map_cons,List.map_nil,List.length_append,List.length_cons,List.length_nil]
set_option maxHeartbeats 4000000 in
theorem startC (s:List Nat) (p:PS) (hb:PB p):ACall Tryz.prog 101 [.bp 0 0] (pO s p) (endR (startP s p)) (endG s (startP s p)):=by
 have c0:=headC s p wStart;unfold startP;cases h0:wantP s 1 wStart p with
 |error e =>
  rw [h0] at c0;simp only [Except.bind];refine acallP_of_run (fnAt Tryz.func101 (by kernel_rfl) (by kernel_rfl):FnAt _ _ (mkFn Tryz.f101 [23])) rfl rfl rfl rfl ?_
  repeat' (first|refine zW [23] ?_|(refine zB [23] ?_ ?_<;>intro h<;>try exact zk h)|refine zX [23] ?_|refine oFP (c0) ?_|(refine zE ?_;(skip))|(exact⟨rfl,rfl,wkE⟩)|((exfalso;(simp at h<;>omega)))|fail)
 |ok q =>
  rw [h0] at c0;obtain⟨e1,e2,e3⟩:=wantP_x h0;have hbq:=hb.l' e1 e3 (by omega);simp only [Except.bind];have c1:=wordC s q _ capitalF hbq.len capitalC;cases h1:wordP s capitalF q with
  |error e =>
   rw [h1] at c1;refine acallP_of_run (fnAt Tryz.func101 (by kernel_rfl) (by kernel_rfl):FnAt _ _ (mkFn Tryz.f101 [23])) rfl rfl rfl rfl ?_
   repeat' (first|refine zW [23] ?_|(refine zB [23] ?_ ?_<;>intro h<;>try exact zk h)|refine zX [23] ?_|refine oF (c0) ?_|refine eF (c0) ?_|refine oFP (c1) ?_|(refine zE ?_;(skip))|(exact⟨rfl,rfl,wkE⟩)|((exfalso;(simp at h<;>omega)))|fail)
  |ok v =>
   rw [h1] at c1;obtain⟨x,v⟩:=v;have hu:v.uses.length<=200000:=by have:=(wordP_x h1).1;simp only at this;rw [this];have:=hbq.uses;simp only;omega
   simp only;have ec:=pOu_eq s { v with x:={ v.x with start:=x.t } } (x.t,x.a);have c2:=endC s { v with x:={ v.x with start:=x.t },uses:=v.uses++[(x.t,x.a)] };rw [show pO s { v with x:={ v.x with start:=x.t },uses:=v.uses++[(x.t,x.a)] }=pOu s { v with x:={ v.x with start:=x.t } } (x.t,x.a) from ec] at c2;cases h2:wantP s 3 sSemi { v with x:={ v.x with start:=x.t },uses:=v.uses++[(x.t,x.a)] } with
   |error e =>
    rw [h2] at c2;refine acallP_of_run (fnAt Tryz.func101 (by kernel_rfl) (by kernel_rfl):FnAt _ _ (mkFn Tryz.f101 [23])) rfl rfl rfl rfl ?_
    repeat' (first|refine zW [23] ?_|(refine zB [23] ?_ ?_<;>intro h<;>try exact zk h)|refine zX [23] ?_|refine oF (c0) ?_|refine eF (c0) ?_|refine oF (c1) ?_|refine eF (c1) ?_|refine oFP (c2) ?_|refine oX (frz:=[23]) Yo ?_ (hv:=app1) (hf:=rfl) (he:=rfl)|refine eX ?_ (hv:=app1) (hf:=rfl) (he:=rfl)|refine oX (frz:=[23]) Yo ?_ (hv:=app0) (hf:=rfl) (he:=rfl)|refine eX ?_ (hv:=app0) (hf:=rfl) (he:=rfl)|(refine zE ?_;(skip))|(exact⟨rfl,rfl,wkE⟩)|((exfalso;(simp at h<;>omega)))|fail)
   |ok q3 =>
    rw [h2] at c2;refine acallW_of_run Yo (fnAt Tryz.func101 (by kernel_rfl) (by kernel_rfl):FnAt _ _ (mkFn Tryz.f101 [23])) rfl rfl rfl rfl rfl ?_
    repeat' (first|refine zW [23] ?_|(refine zB [23] ?_ ?_<;>intro h<;>try exact zk h)|refine zX [23] ?_|refine oF (c0) ?_|refine eF (c0) ?_|refine oF (c1) ?_|refine eF (c1) ?_|refine oF (c2) ?_|refine eF (c2) ?_|refine oX (frz:=[23]) Yo ?_ (hv:=app1) (hf:=rfl) (he:=rfl)|refine eX ?_ (hv:=app1) (hf:=rfl) (he:=rfl)|refine oX (frz:=[23]) Yo ?_ (hv:=app0) (hf:=rfl) (he:=rfl)|refine eX ?_ (hv:=app0) (hf:=rfl) (he:=rfl)|(refine zE ?_;(skip))|(((first|refine Yt ?_|skip);exact⟨trivial,_,_,rfl,rfl,.refl,wkE⟩))|((exfalso;(simp at h<;>omega)))|fail)
abbrev endRA:Except Fa (List (List Nat) × PS)->AV
 |.ok v=>.d (strs v.1)
 |.error e=>.pan (refD e)
abbrev endOA (s:List Nat):Except Fa (List (List Nat) × PS)->List Ob
 |.ok v=>pO s v.2
 |.error _=>pG
def KXa (s:List Nat) (rv:Array ResultVar) (R:Except Fa (List (List Nat) × PS)):Ex->S->Prop:=fun e st=>match R with
 |.ok v=>(match e with|.normal=>True|.ret=>True|_=>False)/\∃ objs2 r0,evLeave H0 st.dl none st.objs=some (none,objs2)/\evResults Et ⟨st.tm,objs2,[]⟩ rv=some r0/\AvR r0 (.d (strs v.1))/\WkObs objs2 (pO s v.2)
 |.error x=>e=.pan (refD x)/\st.dl=[]/\WkObs st.objs pG
theorem acallA {f:FuncId} {i:FnI} (hF:FnAt Tryz.prog f i) {args:List AV} {s:List Nat} {p:PS} {R:Except Fa (List (List Nat) × PS)} (hlen:args.length=i.np) (hle:Nat.ble i.np i.nt=true)
  (h:Run Tryz.prog i.nt (pO s p).length none i.body ⟨initTm 0 args .nil,pO s p,[]⟩ (KXa s i.results R)):ACall Tryz.prog f args (pO s p) (endRA R) (endOA s R):=by
 cases R with
 |ok q=>exact acallW_of_run Yo hF hlen hle rfl rfl rfl h
 |error x=>exact acallP_of_run hF hlen hle rfl rfl h
theorem altQ_x {s:List Nat}:∀ (n:Nat) (acc:List (List Nat)) {p:PS} {v:List (List Nat) × PS},altQ s n acc p=.ok v->v.2.x=p.x/\v.2.names=p.names/\v.2.total=p.total/\(∀ x ∈ v.2.l,x ∈ p.l)/\v.2.l.length<=p.l.length/\v.2.uses.length+v.2.l.length=p.uses.length+p.l.length/\(acc.length<=6->v.1.length<=6)/\((∀ t ∈ acc,t.length<=1048576)->(∀ x ∈ p.l,x.t.length<=1048576)->∀ t ∈ v.1,t.length<=1048576)
 |0,acc,p,v,h=>by simp only [altQ,Except.ok.injEq] at h;rw [<- h];exact⟨rfl,rfl,rfl,fun _ h=>h,Nat.le_refl _,rfl,id,fun h _=>h⟩
 |n+1,acc,p,v,h=>by
  unfold altQ at h;cases hl:p.l with
  |nil =>
   rw [hl] at h;simp only [Except.ok.injEq] at h;rw [<- h,hl];exact⟨rfl,rfl,rfl,fun z hz=>(by first|exact hz|(rw [hl] at hz;exact hz)|(simp only [hl] at hz;exact hz)),by simp [hl],by simp [hl],id,fun h _=>h⟩
  |cons x l =>
   rw [hl] at h;simp only at h;split at h
   .cases hw:wordP s mayF p with
    |error e=>rw [hw] at h;cases h
    |ok q =>
     rw [hw] at h;obtain⟨w1,w2⟩:=wordP_x hw;simp only [Except.bind] at h;split at h
     .cases h
     .rename_i h6
      have ih:=altQ_x n _ h;have eq1:q.1=x/\q.2.l=l:=by rw [hl] at w2;simp only [List.cons.injEq] at w2;exact⟨w2.1.symm,w2.2.symm⟩
      obtain⟨i1,i2,i3,i4,i5,i6,i7,i8⟩:=ih;simp only at i1 i2 i3 i4 i5 i6;have ex:q.2.x=p.x:=by rw [w1]
      have en:q.2.names=p.names:=by rw [w1]
      have et:q.2.total=p.total:=by rw [w1]
      have eu:q.2.uses=p.uses:=by rw [w1]
      refine⟨i1.trans ex,i2.trans en,i3.trans et,fun y hy=>?_,?_,?_,fun ha=>i7 (by rw [List.length_append];simp;omega),fun ha hp=>i8 (fun t ht=>?_) (fun y hy=>hp y ?_)⟩
      .have:=i4 y hy;rw [eq1.2] at this;exact List.mem_cons_of_mem _ this
      .rw [eq1.2] at i5;simp;omega
      .rw [eq1.2,eu] at i6;simp at i6 |-;omega
      .rcases List.mem_append.1 ht with ht|ht
       .exact ha t ht
       .rw [List.mem_singleton.1 ht,eq1.1];exact hp x List.mem_cons_self
      .rw [eq1.2] at hy;exact List.mem_cons_of_mem _ hy
   .simp only [Except.ok.injEq] at h
    rw [<- h];exact⟨rfl,rfl,rfl,fun z hz=>(by first|exact hz|(rw [hl] at hz;exact hz)|(simp only [hl] at hz;exact hz)),by simp [hl],by simp [hl],id,fun h _=>h⟩
set_option maxHeartbeats 8000000 in
theorem altC (s:List Nat) (p:PS) (hb:PB p):ACall Tryz.prog 187 [.bp 0 0] (pO s p) (endRA (oneAltP s p)) (endOA s (oneAltP s p)):=by
 unfold oneAltP;obtain⟨R,hR⟩:∃ R,R=altQ s (p.l.length+1) [] p:=⟨_,rfl⟩
 rw [<- hR];refine acallA (fnAt Tryz.func187 (by kernel_rfl) (by kernel_rfl):FnAt _ _ (mkFn Tryz.f187 [33,45])) rfl rfl ?_
 repeat' (first|refine zW [33,45] ?_|(refine zB [33,45] ?_ ?_<;>intro h<;>try exact zk h)|refine zX [33,45] ?_|(refine zE ?_;(skip))|((exfalso;(simp at h<;>omega)))|fail)
 refine Run.mkRoom 3 1 [(0,.bp 0 0),(3,.sr 5 1 [])] (by kernel_rfl) (ofList_cases (by intro p hp;simp only [List.mem_cons,List.not_mem_nil,or_false] at hp;rcases hp with rfl|rfl<;>first|exact .inl ⟨rfl,rfl⟩|exact .inr (by kernel_rfl))) ?_;refine Run.loopT (fun y:Nat × List (List Nat) × PS=>⟨PT.ofList [(0,.bp 0 0),(3,.sr 5 1 (y.2.1.map .str))],pO s y.2.2++[.room y.2.1.length 1],[]⟩)
  (fun y=>altQ s y.1 y.2.1 y.2.2=R/\PB y.2.2/\y.2.2.l.length<y.1/\y.2.1.length<=6) (fun y=>y.1) (p.l.length+1,[],p) ⟨hR.symm,hb,Nat.lt_succ_self _,by simp⟩ (ti _ 6) (fun y hy=>?_)
 obtain⟨n,acc,y⟩:=y;obtain⟨i1,i2,i3,i4⟩:=hy;simp only at i1 i2 i3 i4 |-;obtain⟨n,rfl⟩:∃ j,n=j+1:=⟨n-1,by omega⟩
 unfold altQ at i1;cases hl:y.l with
 |nil =>
  rw [hl] at i1;simp only at i1;obtain⟨yl,yx,yn,yu,yt⟩:=y;simp only at hl;subst hl;subst i1
  repeat' (first|refine zW [33,45] ?_|(refine zB [33,45] ?_ ?_<;>intro h<;>try exact zk h)|refine zX [33,45] ?_|(refine zE ?_;(skip))|(((first|refine Yt ?_|skip);exact⟨trivial,_,_,rfl,rfl,.sr,wkE⟩))|((exfalso;(simp at h<;>omega)))|fail)
 |cons x l =>
  rw [hl] at i1;simp only at i1;by_cases hk:x.k=1
  .rw [if_pos hk] at i1
   have cw:=wordC s y _ mayF i2.len altMayC;have hu:y.uses.length<=200000:=by have:=i2.uses;omega
   cases hw:wordP s mayF y with
   |error e9 =>
    rw [hw] at cw i1;simp only [Except.bind] at i1;subst i1;unfold pO pBox at cw |-;rw [hl,List.map_cons] at cw |-
    repeat' (first|refine zW [33,45] ?_|(refine zB [33,45] ?_ ?_<;>intro h<;>try exact zk h)|refine zX [33,45] ?_|refine oFP (cw) ?_|refine oI (frz:=[33,45]) (v:=.d (.ep [.int .i64 (x.k:Nat),.str x.t,.int .i64 (x.a:Nat)])) ?_ (he:=by first|(simp [gD,cellsD,hl]<;>fail)|fail)|refine eI (v:=.d (.ep [.int .i64 (x.k:Nat),.str x.t,.int .i64 (x.a:Nat)])) ?_ (he:=by first|(simp [gD,cellsD,hl]<;>fail)|fail)|(refine zE ?_;(skip))|(exact⟨rfl,rfl,wkE⟩)|((exfalso;(simp at h<;>omega)))|fail)
   |ok v =>
    rw [hw] at cw i1;obtain⟨w1,w2⟩:=wordP_x hw;obtain⟨x',v⟩:=v;simp only at w1 w2;rw [hl] at w2;simp only [List.cons.injEq] at w2;obtain⟨rfl,w2⟩:=w2;simp only [Except.bind] at i1;have huv:v.uses.length<=200000:=by rw [w1];exact hu
    by_cases h6:acc.length=6
    .rw [if_pos h6] at i1
     subst i1;have cf:=failP s v 6 x.a;unfold pO pBox at cw |-;rw [hl,List.map_cons] at cw |-
     repeat' (first|refine zW [33,45] ?_|(refine zB [33,45] ?_ ?_<;>intro h<;>try exact zk h)|refine zX [33,45] ?_|refine oF (cw) ?_|refine eF (cw) ?_|refine oFP (cf) ?_|refine oI (frz:=[33,45]) (v:=.d (.ep [.int .i64 (x.k:Nat),.str x.t,.int .i64 (x.a:Nat)])) ?_ (he:=by first|(simp [gD,cellsD,hl]<;>fail)|fail)|refine eI (v:=.d (.ep [.int .i64 (x.k:Nat),.str x.t,.int .i64 (x.a:Nat)])) ?_ (he:=by first|(simp [gD,cellsD,hl]<;>fail)|fail)|(refine zE ?_;(skip))|(exact⟨rfl,rfl,wkE⟩)|((exfalso;(simp at h<;>omega)))|fail)
    .rw [if_neg h6] at i1
     have hbv:PB { v with uses:=v.uses++[(x.t,x.a)] }:=i2.of (fun z hz=>by rw [hl];simp only at hz;rw [<- w2] at hz;exact List.mem_cons_of_mem _ hz) (by simp only;rw [<- w2,hl];simp) (by simp only;rw [w1];exact i2.toks) (by simp only;rw [w1];exact i2.rules)
      (by have:=i2.uses;rw [hl] at this;simp only;rw [w1];simp only;rw [<- w2];simp at this |-;omega) (by simp only;rw [w1];exact i2.total)
     have fin:∀ s1:S,Tidy 5 s1 ⟨PT.ofList [(0,.bp 0 0),(3,.sr 5 1 (acc.map .str++[.str x.t]))],pOu s v (x.t,x.a)++[.room (acc.length+1) 1],[]⟩ ->
       ∃ y:Nat × List (List Nat) × PS,(altQ s y.1 y.2.1 y.2.2=R/\PB y.2.2/\y.2.2.l.length<y.1/\y.2.1.length<=6)/\y.1<n+1/\Tidy 5 s1 ⟨PT.ofList [(0,.bp 0 0),(3,.sr 5 1 (y.2.1.map .str))],pO s y.2.2++[.room y.2.1.length 1],[]⟩:=fun s1 ht =>
      ⟨(n,acc++[x.t],{ v with uses:=v.uses++[(x.t,x.a)] }),⟨i1,hbv,by simp only;rw [<- w2];rw [hl] at i3;simp at i3;omega,by simp;omega⟩,Nat.lt_succ_self _,by
       show Tidy 5 s1 ⟨PT.ofList [(0,.bp 0 0),(3,.sr 5 1 ((acc++[x.t]).map .str))],pO s { v with uses:=v.uses++[(x.t,x.a)] }++[.room (acc++[x.t]).length 1],[]⟩
       rw [pOu_eq];simpa using ht⟩
     unfold pO pBox at cw |-;rw [hl,List.map_cons] at cw |-
     repeat' (first|refine zW [33,45] ?_|(refine zB [33,45] ?_ ?_<;>intro h<;>try exact zk h)|refine zX [33,45] ?_|refine oF (cw) ?_|refine eF (cw) ?_|refine oI (frz:=[33,45]) (v:=.d (.ep [.int .i64 (x.k:Nat),.str x.t,.int .i64 (x.a:Nat)])) ?_ (he:=by first|(simp [gD,cellsD,hl]<;>fail)|fail)|refine eI (v:=.d (.ep [.int .i64 (x.k:Nat),.str x.t,.int .i64 (x.a:Nat)])) ?_ (he:=by first|(simp [gD,cellsD,hl]<;>fail)|fail)|refine oX (frz:=[33,45]) Yo ?_ (hv:=app1) (hf:=rfl) (he:=rfl)|refine eX ?_ (hv:=app1) (hf:=rfl) (he:=rfl)|refine oX (frz:=[33,45]) Yo ?_ (hv:=app0) (hf:=rfl) (he:=rfl)|refine eX ?_ (hv:=app0) (hf:=rfl) (he:=rfl)|(refine zE ?_;(skip))|(exact fin _ (ti _ 6))|((exfalso;(simp at h<;>omega)))|fail)
  .rw [if_neg hk] at i1
   obtain⟨yl,yx,yn,yu,yt⟩:=y;simp only at hl;subst hl;subst i1;have hl:x=x:=rfl
   repeat' (first|refine zW [33,45] ?_|(refine zB [33,45] ?_ ?_<;>intro h<;>try exact zk h)|refine zX [33,45] ?_|refine oI (frz:=[33,45]) (v:=.d (.ep [.int .i64 (x.k:Nat),.str x.t,.int .i64 (x.a:Nat)])) ?_ (he:=by first|(simp [gD,cellsD,hl]<;>fail)|fail)|refine eI (v:=.d (.ep [.int .i64 (x.k:Nat),.str x.t,.int .i64 (x.a:Nat)])) ?_ (he:=by first|(simp [gD,cellsD,hl]<;>fail)|fail)|(refine zE ?_;(skip))|(((first|refine Yt ?_|skip);exact⟨trivial,_,_,rfl,rfl,.sr,wkE⟩))|((exfalso;(simp at h<;>omega)))|fail)
end Go.Av
end
noncomputable section
namespace Go.Av
open Go Go.Proofs
section
variable {s:List Nat} {ls:List Lx}
theorem Ok.bad {r:RS} {Q Q':PS->Prop} {e:Fa} (h:Ok ls r Q (.error e)):Ok ls r Q' (.error e):=h
theorem lookR_ok {r:RS} {p:PS} (h:Rel ls r p) (hN:NH p):Ok ls (lookR s ls r) NH (lookP s p):=by
 have h1:=mustR_ok (s:=s) h 1 wLook;unfold lookP;simp only [lookR];generalize mustR s ls 1 wLook r=r1 at h1 |-;cases hq:wantP s 1 wLook p with
 |error e =>
  rw [hq] at h1;have h2:(takeR s ls r1).2.f=e:=by rw [takeR_f (by rw [h1.1];exact h1.2),h1.1]
  have h3:(takeR s ls r1).2.f.1≠0:=by rw [h2];exact h1.2
  simp only [h3,false_and,if_false,Except.bind,Ok];rw [mustR_f h3,h2];exact⟨rfl,h1.2⟩
 |ok q =>
  rw [hq] at h1;obtain⟨hr,e1,_⟩:=h1;simp only [Except.bind];rcases hr.cases (s:=s) with⟨x,hx,hl,_,e2,e3,hr2⟩|⟨hx,hl,_,e2,e3⟩
  .rw [e2,e3]
   simp only [hr.f0,true_and,ne_eq];by_cases hk:x.k=2
   .simp only [hk,not_true,if_false,hr.f0,if_true]
    cases hnum:numOk x.t with
    |true =>
     simp only [if_true];have hr3:Rel ls { r1 with pos:=r1.pos+1,x:={ r1.x with k:=(decF x.t:Nat) } } { q with l:=ls.drop (r1.pos+1),x:={ q.x with k:=(decF x.t:Nat) } }:=⟨hr.f,rfl,by simp only [hr.x],hr.n⟩
     have h4:=mustR_ok (s:=s) hr3 3 sSemi;cases hq4:wantP s 3 sSemi { q with l:=ls.drop (r1.pos+1),x:={ q.x with k:=(decF x.t:Nat) } } with
     |error e=>rw [hq4] at h4;exact h4
     |ok q4 =>
      rw [hq4] at h4;refine⟨h4.1,?_⟩;rw [h4.2.1,e1];exact hN
    |false =>
     simp only [Bool.false_eq_true,if_false,Ok];rw [mustR_f (by simp [failR,hr.f0])];simp [failR,hr.f0]
   .have hf:(failR 3 x.a { r1 with pos:=r1.pos+1 }).f=(3,x.a):=by simp [failR,hr.f0]
    have hf1:¬ (failR 3 x.a { r1 with pos:=r1.pos+1 }).f.1=0:=by rw [hf];simp
    simp only [hk,not_false_iff,if_true,hf1,if_false,Ok];rw [mustR_f hf1,hf]
    simp
  .rw [e2,e3]
   simp only [Ok];rw [if_neg (by simp),if_neg (by simp),mustR_f (by simp)]
   simp
theorem tokP_ok {r:RS} {p:PS} (h:Rel ls r p) (hN:NH p):Ok ls (mustR s ls 3 sSemi (tokensR s ls (ls.length+1) (mustR s ls 1 wToken r))) NH (tokensP s p):=by
 have h1:=mustR_ok (s:=s) h 1 wToken;unfold tokensP;generalize mustR s ls 1 wToken r=r1 at h1 |-;cases hq:wantP s 1 wToken p with
 |error e =>
  rw [hq] at h1;have h3:r1.f.1≠0:=by rw [h1.1];exact h1.2
  simp only [Except.bind,Ok];rw [tokensR_f h3,mustR_f h3];exact h1
 |ok q =>
  rw [hq] at h1;obtain⟨hr,e1,_⟩:=h1;have hN1:NH q:=by rw [e1];exact hN
  have hlen:q.l.length<=ls.length:=by rw [hr.l,List.length_drop];omega
  have ht:=tokensR_ok (s:=s) (ls.length+1) q.l.length hr hN1 (by omega) (Nat.le_refl _);have ho:=tokenR_ok (s:=s) hr hN1;simp only [Except.bind];cases hq2:tokenP s q with
  |error e =>
   rw [hq2] at ht;simp only [Except.bind,Ok] at ht |-;rw [mustR_f (by rw [ht.1];exact ht.2)];exact ht
  |ok q2 =>
   rw [hq2] at ht ho;have hl2:=ho.2.2;simp only [Except.bind] at ht |-;rw [hl2];cases hq3:tokensLP s q.l.length q2 with
   |error e =>
    rw [hq3] at ht;simp only [Ok] at ht |-;rw [mustR_f (by rw [ht.1];exact ht.2)];exact ht
   |ok q3 =>
    rw [hq3] at ht;simp only [Ok] at ht |-;have h4:=mustR_ok (s:=s) ht.1 3 sSemi;cases hq4:wantP s 3 sSemi q3 with
    |error e=>rw [hq4] at h4;exact h4
    |ok q4 =>
     rw [hq4] at h4;refine⟨h4.1,?_⟩;rw [h4.2.1];exact ht.2
structure NK (p:PS):Prop where
 know:∀ t,knowP p.names t=(hasF p.x.tokens t,decide (t=p.x.sep),hasF (ruleNames p.x) t)
 small:smallF p.x.sep=true
 caps:∀ t ∈ ruleNames p.x,capitalF t=true
 toks:∀ t ∈ p.x.tokens,smallF t=true
theorem sepR_ok {r:RS} {p:PS} (h:Rel ls r p) (hN:NH p):Ok ls (sepR s ls r) (fun q=>NK q/\q.uses=[]/\q.x.rules=[]) (sepQ s p):=by
 have h1:=mustR_ok (s:=s) h 1 wSep;unfold sepQ;simp only [sepR];generalize mustR s ls 1 wSep r=r1 at h1 |-;cases hq:wantP s 1 wSep p with
 |error e =>
  rw [hq] at h1;have h1':r1.f.1≠0:=by rw [h1.1];exact h1.2
  have h2:=peekR_f (s:=s) (ls:=ls) h1';have h3:(nameR s ls false (peekR s ls r1).2).2.f=r1.f:=by rw [h2,nameR_f h1']
  simp only [Except.bind,Ok];rw [newR_f (by simp only [h3];exact h1'),mustR_f (by simp only [h3];exact h1')];exact⟨h3.trans h1.1,h1.2⟩
 |ok q =>
  rw [hq] at h1;obtain⟨hr,e1,_⟩:=h1;have hN1:NH q:=by rw [e1];exact hN
  simp only [Except.bind];have hw:=word_ok (s:=s) hr false;simp only [Bool.false_eq_true,if_false] at hw;unfold terminalP;cases hq2:wordP s smallF q with
  |error e =>
   rw [hq2] at hw;have h4:=word_bad hw.1 hw.2;have h3:(nameR s ls false (peekR s ls r1).2).2.f.1≠0:=by rw [h4];exact hw.1
   simp only [Except.bind,Ok];rw [newR_f (by simp only [h4];exact hw.1),mustR_f (by simp only [h4];exact hw.1)];exact⟨h4,hw.1⟩
  |ok q2 =>
   rw [hq2] at hw;obtain⟨x,q2⟩:=q2;obtain⟨e0,_,e2,e3,e4,e5,_,_⟩:=hw;simp only at e0 e2 e3 e4 e5;have hkn:knowP q2.names x.t=(hasF q.x.tokens x.t,false,false):=by rw [e0];exact hN1.1 _
   have hrt:r1.x.tokens=q.x.tokens:=by rw [hr.x]
   simp only [Except.bind,e2,e3,hkn];by_cases hh:hasF q.x.tokens x.t=true
   .rw [if_pos (by simp [hh])]
    simp only [Ok,newR,hrt,hh,if_true];rw [mustR_f (by simp [failR,hr.f0])];simp [failR,hr.f0]
   .rw [if_neg (by simp [hh]),if_neg (by simp)]
    have hnew:∀ a (r':RS),newR r1.x.tokens x.t a r'=r':=fun a r'=>by rw [newR,hrt,if_neg (by simp [hh])]
    simp only [hnew];have hr3:Rel ls { r1 with pos:=r1.pos+1,x:={ r1.x with sep:=x.t } } { q2 with x:={ q2.x with sep:=x.t },names:=setP q2.names x.t (!true,true,false) }:=⟨hr.f,e4.l,by simp only [hr.x,e0],e4.n⟩
    have h5:=mustR_ok (s:=s) hr3 3 sSemi;cases hq5:wantP s 3 sSemi { q2 with x:={ q2.x with sep:=x.t },names:=setP q2.names x.t (!true,true,false) } with
    |error e=>rw [hq5] at h5;exact h5
    |ok q5 =>
     rw [hq5] at h5;have hrules:q2.x.rules=[]:=by rw [e0];exact hN1.2.2.2
     refine⟨h5.1,?_⟩;rw [h5.2.1];refine⟨⟨fun t=>?_,e5,?_,by simp only;rw [e0];exact hN1.2.1⟩,by simp only;rw [e0];exact hN1.2.2.1,hrules⟩
     .simp only [knowP_set,ruleNames,hrules]
      by_cases ht:t=x.t
      .subst ht
       have:hasF q2.x.tokens x.t=false:=by rw [e0];simpa using hh
       rw [if_pos rfl,this];simp [hasF]
      .rw [if_neg ht,show q2.names=q.names by rw [e0],hN1.1,show q2.x.tokens=q.x.tokens by rw [e0]]
       simp [ht,hasF]
     .intro t ht
      simp [ruleNames,hrules] at ht
theorem startR_ok {r:RS} {p:PS} (h:Rel ls r p) (hN:NK p/\p.uses=[]/\p.x.rules=[]):match startP s p with
  |.ok q=>Rel ls (startR s ls r).2 q/\NK q/\q.uses=[((startR s ls r).1.t,(startR s ls r).1.a)]/\q.x.rules=[]/\capitalF (startR s ls r).1.t=true
  |.error e=>(startR s ls r).2.f=e/\e.1≠0:=by
 have h1:=mustR_ok (s:=s) h 1 wStart;unfold startP;simp only [startR];generalize mustR s ls 1 wStart r=r1 at h1 |-;cases hq:wantP s 1 wStart p with
 |error e =>
  rw [hq] at h1;have h1':r1.f.1≠0:=by rw [h1.1];exact h1.2
  have h2:=peekR_f (s:=s) (ls:=ls) h1';have h3:(nameR s ls true (peekR s ls r1).2).2.f=r1.f:=by rw [h2,nameR_f h1']
  simp only [Except.bind];rw [mustR_f (by simp only [h3];exact h1')];exact⟨h3.trans h1.1,h1.2⟩
 |ok q =>
  rw [hq] at h1;obtain⟨hr,e1,_⟩:=h1;simp only [Except.bind];have hw:=word_ok (s:=s) hr true;simp only [if_true] at hw;cases hq2:wordP s capitalF q with
  |error e =>
   rw [hq2] at hw;have h4:=word_bad hw.1 hw.2;have h3:(nameR s ls true (peekR s ls r1).2).2.f.1≠0:=by rw [h4];exact hw.1
   simp only [Except.bind];rw [mustR_f (by simp only [h4];exact hw.1)];exact⟨h4,hw.1⟩
  |ok q2 =>
   rw [hq2] at hw;obtain⟨x,q2⟩:=q2;obtain⟨e0,_,e2,e3,e4,e5,_,_⟩:=hw;simp only at e0 e2 e3 e4 e5;simp only [Except.bind,e2,e3];have hr3:Rel ls { r1 with pos:=r1.pos+1,x:={ r1.x with start:=x.t } } { q2 with x:={ q2.x with start:=x.t },uses:=q2.uses++[(x.t,x.a)] }:=⟨hr.f,e4.l,by simp only [hr.x,e0],e4.n⟩
   have h5:=mustR_ok (s:=s) hr3 3 sSemi;cases hq5:wantP s 3 sSemi { q2 with x:={ q2.x with start:=x.t },uses:=q2.uses++[(x.t,x.a)] } with
   |error e=>rw [hq5] at h5;exact h5
   |ok q5 =>
    rw [hq5] at h5;refine⟨h5.1,?_⟩;rw [h5.2.1];have hN2:NK q2:=by rw [e0,e1];exact⟨hN.1.know,hN.1.small,hN.1.caps,hN.1.toks⟩
    refine⟨⟨hN2.know,hN2.small,hN2.caps,hN2.toks⟩,?_,?_,e5⟩
    .simp only;rw [e0,e1];simp only;rw [hN.2.1];rfl
    .simp only;rw [e0,e1];exact hN.2.2
def badR (chk:List Nat->Nat) (l:List Lx):Option Fa:=l.findSome? fun x=>if x.k=1/\chk x.t≠0 then some (chk x.t,x.a) else none
def badU (chk:List Nat->Nat) (l:List (List Nat × Nat)):Option Fa:=l.findSome? fun x=>if chk x.1≠0 then some (chk x.1,x.2) else none
def Use (ls:List Lx) (a:Nat) (N:List (List Nat)) (i:Nat) (U:List (List Nat × Nat)):Prop:=a<=i/\∀ chk:List Nat->Nat,(∀ n ∈ N,chk n=0)->badR chk ((ls.drop a).take (i-a))=badU chk U
theorem take_step {a i:Nat} {x:Lx} (h:ls[i]?=some x) (ha:a<=i):(ls.drop a).take (i+1-a)=(ls.drop a).take (i-a)++[x]:=by
 rw [show i+1-a=(i-a)+1 by omega,List.take_add_one,List.getElem?_drop,show a+(i-a)=i by omega,h];rfl
theorem Use.word {a i:Nat} {N:List (List Nat)} {U:List (List Nat × Nat)} {x:Lx} (h:Use ls a N i U) (hx:ls[i]?=some x) (hk:x.k=1):Use ls a N (i+1) (U++[(x.t,x.a)]) :=
 ⟨by have:=h.1;omega,fun chk hc=>by
  have:=h.2 chk hc;unfold badR badU at *;rw [take_step hx h.1,List.findSome?_append,List.findSome?_append,this];simp [List.findSome?,hk]⟩
theorem Use.none {a i:Nat} {N:List (List Nat)} {U:List (List Nat × Nat)} {x:Lx} (h:Use ls a N i U) (hx:ls[i]?=some x) (hk:x.k≠1\/x.t ∈ N):Use ls a N (i+1) U :=
 ⟨by have:=h.1;omega,fun chk hc=>by
  have:=h.2 chk hc;have hz:¬ (x.k=1/\chk x.t≠0):=fun e=>hk.elim (fun h=>h e.1) (fun h=>e.2 (hc _ h));unfold badR badU at *;rw [take_step hx h.1,List.findSome?_append,this,List.findSome?_cons,if_neg hz]
  simp⟩
theorem Use.more {a i:Nat} {N:List (List Nat)} {U:List (List Nat × Nat)} {t:List Nat} (h:Use ls a N i U):Use ls a (N++[t]) i U :=
 ⟨h.1,fun chk hc=>h.2 chk fun n hn=>hc n (List.mem_append_left _ hn)⟩
def UsesP (ls:List Lx) (a:Nat) (u0:List Nat × Nat) (N:List (List Nat)) (i:Nat) (p:PS):Prop:=∃ U,p.uses=u0 :: U/\Use ls a N i U
abbrev Keep (p q:PS):Prop:=q.x=p.x/\q.names=p.names
theorem altR_ok {a:Nat} {u0:List Nat × Nat} {N:List (List Nat)}:∀ (n m:Nat) (acc:List (List Nat)) {r:RS} {p:PS},Rel ls r p->UsesP ls a u0 N r.pos p->p.l.length<n->p.l.length<m ->
  match altQ s m acc p with
  |.ok v=>(altR s ls n acc r).1=v.1/\Keep p v.2/\v.2.l.length<=p.l.length/\((Rel ls (altR s ls n acc r).2 v.2/\UsesP ls a u0 N (altR s ls n acc r).2.pos v.2)\/(v.2.l=[]/\(altR s ls n acc r).2.f=(5,s.length)))
  |.error e=>(altR s ls n acc r).2.f=e/\e.1≠0
 |0,_,_,_,_,_,_,h,_=>by omega
 |_,0,_,_,_,_,_,_,h=>by omega
 |n+1,m+1,acc,r,p,h,hU,hn,hm=>by
  rcases h.cases (s:=s) with⟨x,hx,hl,e0,e1,e2,hr⟩|⟨hx,hl,e0,e1,e2⟩
  .simp only [altR,h.f0,if_true,e0,altQ,hl]
   by_cases hk:x.k=1
   .simp only [hk,if_true,e1,wordP,e2,Except.bind,ne_eq,not_true,if_false]
    by_cases hy:mayF x.t=true
    .simp only [hy,if_true]
     by_cases h6:acc.length=6
     .simp only [h6,if_true]
      have hf:(wordR 6 (x,{ r with pos:=r.pos+1 })).f=(6,x.a):=by simp [wordR,hy,roomR,failR,h.f0]
      rw [altR_f (by rw [hf];simp)];exact⟨hf,by simp⟩
     .simp only [h6,if_false]
      have he:wordR acc.length (x,{ r with pos:=r.pos+1 })={ r with pos:=r.pos+1 }:=by simp [wordR,hy,roomR,h6]
      rw [he];obtain⟨U,hU1,hU2⟩:=hU;have hr3:Rel ls { r with pos:=r.pos+1 } { p with l:=ls.drop (r.pos+1),uses:=p.uses++[(x.t,x.a)] }:=⟨hr.f,hr.l,hr.x,hr.n⟩
      have hl3:(ls.drop (r.pos+1)).length+1=p.l.length:=by rw [hl];rfl
      have ih:=altR_ok n m (acc++[x.t]) hr3 ⟨U++[(x.t,x.a)],by simp only;rw [hU1];rfl,hU2.word hx hk⟩ (by simp only;omega) (by simp only;omega);split
      .rename_i v hv
       rw [hv] at ih;exact⟨ih.1,ih.2.1,(by have h9:=ih.2.2.1;simp only at h9;first|omega|(simp only [List.length_cons];omega)),ih.2.2.2⟩
      .rename_i e hv
       rw [hv] at ih;exact ih
    .simp only [hy,if_false]
     have hf:(wordR acc.length (x,{ r with pos:=r.pos+1 })).f=(12,x.a):=by
      have:(failR 12 x.a { r with pos:=r.pos+1 }).f.1≠0:=by simp [failR,h.f0]
      simp only [wordR,hy];rw [if_neg (by simp),roomR_f this];simp [failR,h.f0]
     rw [altR_f (by rw [hf];simp)];exact⟨hf,by simp⟩
   .simp only [hk,if_false]
    exact⟨(by first|exact trivial|rfl),⟨rfl,rfl⟩,(by first|exact Nat.le_refl _|(rw [hl];exact Nat.le_refl _)),.inl ⟨h,hU⟩⟩
  .simp only [altR,h.f0,if_true,e0,altQ,hl]
   rw [if_neg (by simp)];exact⟨(by first|exact trivial|rfl),⟨rfl,rfl⟩,(by first|exact Nat.le_refl _|(rw [hl];exact Nat.le_refl _)),.inr ⟨(by first|exact hl|exact trivial),(by first|rfl|exact trivial)⟩⟩
end
end Go.Av
end
noncomputable section
namespace Go.Av
open Go Go.Proofs
section
variable {s:List Nat} {ls:List Lx}
theorem exb_ok {ε α β:Type} (a:α) (f:α->Except ε β):(Except.ok a:Except ε α).bind f=f a:=rfl
theorem altsR_ok {a:Nat} {u0:List Nat × Nat} {N:List (List Nat)}:∀ (n m:Nat) (acc:List (List (List Nat))) {r:RS} {p:PS} {x:Lx},Rel ls r p->UsesP ls a u0 N r.pos p->ls[r.pos-1]?=some x->p.l.length<n->p.l.length<m ->
  match (if p.total=24 then Except.error (6,x.a) else(oneAltP s { p with total:=p.total+1 }).bind fun v=>altsP s m false (acc++[v.1]) v.2) with
  |.ok v=>(altsR s ls n acc r).1=v.1/\Keep p v.2/\v.2.l.length<=p.l.length/\((Rel ls (altsR s ls n acc r).2 v.2/\UsesP ls a u0 N (altsR s ls n acc r).2.pos v.2)\/(v.2.l=[]/\(altsR s ls n acc r).2.f=(5,s.length)))
  |.error e=>(altsR s ls n acc r).2.f=e/\e.1≠0
 |0,_,_,_,_,_,_,_,_,h,_=>by omega
 |_,0,_,_,_,_,_,_,_,_,h=>by omega
 |n+1,m+1,acc,r,p,x,h,hU,hx,hn,hm=>by
  obtain⟨R1,hR1⟩:∃ R1,R1=oneAltR s ls r:=⟨_,rfl⟩
  have hV:altsR s ls (n+1) acc r=if(nextQ ls sBar R1.2).1=true then altsR s ls n (acc++[R1.1]) (nextQ ls sBar R1.2).2 else(acc++[R1.1],(nextQ ls sBar R1.2).2):=by rw [hR1];rfl
  rw [hV];unfold oneAltR at hR1;clear hV;have hat:(ls.getD (r.pos-1) lx0).a=x.a:=by rw [List.getD_eq_getElem?_getD,hx];rfl
  by_cases h24:p.total=24
  .rw [if_pos h24]
   have hf:(countR ls r).f=(6,x.a):=by simp only [countR,roomR,h.n,h24,if_true,failR,h.f0,hat]
   rw [altR_f (by rw [hf];simp)] at hR1;subst hR1;rw [nextQ_f (by simp only [hf];simp)];exact⟨hf,by simp⟩
  .rw [if_neg h24]
   have hc:countR ls r={ r with alts:=r.alts+1 }:=by simp only [countR,roomR,h.n,h24,if_false]
   rw [hc] at hR1;have hr1:Rel ls { r with alts:=r.alts+1 } { p with total:=p.total+1 }:=⟨h.f,h.l,h.x,by simp only [h.n]⟩
   have hlen:p.l.length<=ls.length:=by rw [h.l,List.length_drop];omega
   have h1:=altR_ok (s:=s) (a:=a) (u0:=u0) (N:=N) (ls.length+1) (p.l.length+1) [] hr1 hU (by simp only;omega) (by simp only;omega);unfold oneAltP;simp only at h1 |-;rw [<- hR1] at h1;clear hR1;cases hq:altQ s (p.l.length+1) [] { p with total:=p.total+1 } with
   |error e =>
    rw [hq] at h1;simp only [Except.bind];rw [nextQ_f (by rw [h1.1];exact h1.2)];exact h1
   |ok v =>
    rw [hq] at h1;obtain⟨e1,⟨k1,k2⟩,hl,hcase⟩:=h1;simp only [Except.bind];simp only at k1 k2 hl;rw [e1];unfold altsP;rcases hcase with⟨hr,hU1⟩|⟨hnil,hf⟩
    .cases hb:isL sBar v.2.l with
     |false =>
      have hb':isL sBar (ls.drop R1.2.pos)=false:=by rw [<- hr.l];exact hb
      simp only [true_and,if_true,nextQ,hr.f0,hb',Bool.false_eq_true,and_false,if_false]
      first|exact⟨trivial,⟨k1,k2⟩,hl,.inl ⟨hr,hU1⟩⟩|exact⟨⟨k1,k2⟩,hl,.inl ⟨hr,hU1⟩⟩
     |true =>
      have hb':isL sBar (ls.drop R1.2.pos)=true:=by rw [<- hr.l];exact hb
      simp only [nextQ,hr.f0,hb',and_self,if_true,Bool.true_eq_false,and_false,if_false,Bool.false_eq_true];rcases hr.cases (s:=s) with⟨y,hy,hl2,_,_,e3,hr2⟩|⟨hy,hl2,_,_,e3⟩
      .rw [e3]
       have hyb:y.k=3/\y.t=sBar:=by rw [hl2] at hb;simpa [isL] using hb
       simp only [Except.bind,hyb,and_self,if_true];obtain⟨U,hu1,hu2⟩:=hU1;have hl3:(ls.drop (R1.2.pos+1)).length+1=v.2.l.length:=by rw [hl2];rfl
       have ih:=altsR_ok n m (acc++[v.1]) (x:=y) hr2 ⟨U,hu1,hu2.none hy (.inl (by rw [hyb.1];omega))⟩ (by simpa using hy) (by simp only;omega) (by simp only;omega);simp only [Except.bind] at ih;split
       .rename_i w hw
        rw [hw] at ih;exact⟨ih.1,⟨ih.2.1.1.trans k1,ih.2.1.2.trans k2⟩,by have:=ih.2.2.1;omega,ih.2.2.2⟩
       .rename_i e hw
        rw [hw] at ih;exact ih
      .rw [hl2] at hb;cases hb
    .have hb:isL sBar v.2.l=false:=by rw [hnil];rfl
     rw [nextQ_f (by rw [hf];simp)];simp only [hb,and_self,if_true,Bool.false_eq_true,if_false]
     first|exact⟨trivial,⟨k1,k2⟩,hl,.inr ⟨hnil,hf⟩⟩|exact⟨⟨k1,k2⟩,hl,.inr ⟨hnil,hf⟩⟩
theorem ruleR_ok {a:Nat} {u0:List Nat × Nat} {r:RS} {p:PS} (h:Rel ls r p) (hN:NK p) (hU:UsesP ls a u0 (ruleNames p.x) r.pos p):match ruleQ s p with
  |.ok q=>Rel ls (ruleR s ls r) q/\NK q/\UsesP ls a u0 (ruleNames q.x) (ruleR s ls r).pos q/\q.l.length<p.l.length
  |.error e=>(ruleR s ls r).f=e/\e.1≠0:=by
 have hw:=word_ok (s:=s) h true;simp only [if_true] at hw;unfold ruleQ;simp only [ruleR];have stay:∀ (r1:RS) (l:List Nat) (n:Nat) (i:Nat),r1.f.1≠0->(mustR s ls 3 sSemi (if(mustR s ls 3 sEq (roomR n 8 i r1)).f.1=0 then altsR s ls (ls.length+1) [] (mustR s ls 3 sEq (roomR n 8 i r1)) else([],mustR s ls 3 sEq (roomR n 8 i r1))).2).f=r1.f:=by
  intro r1 l n i hf;have h1:=mustR_f (s:=s) (ls:=ls) (k:=3) (t:=sEq) hf;rw [roomR_f hf,if_neg (by rw [h1];exact hf),mustR_f (by simp only [h1];exact hf)];exact h1
 cases hq:wordP s capitalF p with
 |error e =>
  rw [hq] at hw;have h1:=word_bad hw.1 hw.2;have h3:(nameR s ls true (peekR s ls r).2).2.f.1≠0:=by rw [h1];exact hw.1
  simp only [Except.bind];rw [if_neg h3,stay _ [] _ _ h3];exact⟨h1,hw.1⟩
 |ok q =>
  rw [hq] at hw;obtain⟨x,q⟩:=q;obtain⟨e0,el,e2,e3,e4,e5,e6,e7⟩:=hw;simp only at e0 el e2 e3 e4 e5 e6 e7;have hkn:(knowP q.names x.t).2.2=hasF (ruleNames p.x) x.t:=by rw [e0];simp only [hN.know]
  have hrx:r.x=p.x:=h.x;have hqx:q.x=p.x:=by rw [e0]
  simp only [Except.bind,e2,e3,hkn,h.f0,if_true];cases hh:hasF (ruleNames p.x) x.t with
  |true =>
   have hnw:∀ a (r':RS),newR (ruleNames r.x) x.t a r'=failR 8 a r':=fun a r'=>by rw [newR,hrx,hh,if_pos rfl]
   simp only [if_true,hnw];have hf:(failR 8 x.a { r with pos:=r.pos+1 }).f=(8,x.a):=by simp [failR,h.f0]
   rw [stay _ [] _ _ (by rw [hf];simp),hf];exact⟨rfl,by simp⟩
  |false =>
   have hnw:∀ a (r':RS),newR (ruleNames r.x) x.t a r'=r':=fun a r'=>by rw [newR,hrx,hh,if_neg (by simp)]
   simp only [Bool.false_eq_true,if_false,hnw];by_cases h8:p.x.rules.length=8
   .rw [if_pos (by rw [hqx];exact h8)]
    have e8:roomR r.x.rules.length 8 x.a { r with pos:=r.pos+1 }={ r with pos:=r.pos+1,f:=(6,x.a) }:=by rw [roomR,hrx,if_pos h8];simp [failR,h.f0]
    have:=mustR_f (s:=s) (ls:=ls) (k:=3) (t:=sEq) (r:={ r with pos:=r.pos+1,f:=(6,x.a) }) (by simp);rw [e8,if_neg (by rw [this];simp),mustR_f (by simp only [this];simp)];exact⟨this,by simp⟩
   .rw [if_neg (by rw [hqx];exact h8)]
    have e8:roomR r.x.rules.length 8 x.a { r with pos:=r.pos+1 }={ r with pos:=r.pos+1 }:=by rw [roomR,hrx,if_neg h8]
    rw [e8];generalize hr1:({ r with pos:=r.pos+1 }:RS)=r1 at e4 |-;have hp1:r1.pos=r.pos+1:=by rw [<- hr1]
    obtain⟨U,hu1,hu2⟩:=hU;have hu3:Use ls a (ruleNames p.x++[x.t]) r1.pos U:=by rw [hp1];exact hu2.more.none e6 (.inr (by simp))
    obtain⟨q1,hq1⟩:∃ q1:PS,q1={ q with names:=setP q.names x.t (false,false,true) }:=⟨_,rfl⟩
    have hr4:Rel ls r1 q1:=by rw [hq1];exact⟨e4.f,e4.l,e4.x,e4.n⟩
    have hql:q1.l=q.l:=by rw [hq1]
    rw [<- hq1,<- hql];unfold altsP;simp only [Bool.true_eq_false,false_and,if_false,if_true];rcases hr4.cases (s:=s) with⟨y,hy,hl2,e9,e10,e11,hr2⟩|⟨hy,hl2,e9,e10,e11⟩
    .rw [e11]
     by_cases hyc:y.k=3/\y.t=sEq
     .have em:mustR s ls 3 sEq r1={ r1 with pos:=r1.pos+1 }:=by simp [mustR,mustX,e10,hyc]
      simp only [exb_ok,em];rw [if_pos hyc];simp only [hr4.f0,if_true];have hl3:(ls.drop (r1.pos+1)).length+1=q1.l.length:=by rw [hl2];rfl
      have hlen:q1.l.length<=ls.length:=by rw [hr4.l,List.length_drop];omega
      have hU5:UsesP ls a u0 (ruleNames p.x++[x.t]) (r1.pos+1) { q1 with l:=ls.drop (r1.pos+1) }:=⟨U,by simp only [hq1];rw [e0];exact hu1,hu3.none hy (.inl (by rw [hyc.1];omega))⟩
      have h6:=altsR_ok (s:=s) (ls.length+1) q1.l.length [] (x:=y) hr2 hU5 (by simpa using hy) (by simp only;omega) (by simp only;omega);simp only [List.nil_append] at h6 |-;have hbind:(if q1.total=24 then(Except.error (6,y.a):Except Fa (List (List (List Nat)) × PS)) else
        (oneAltP s { q1 with l:=ls.drop (r1.pos+1),total:=q1.total+1 }).bind fun v=>altsP s q1.l.length false ([]++[v.1]) v.2) =
       (if q1.total=24 then(Except.error (6,y.a):Except Fa (List (List (List Nat)) × PS)) else
        (oneAltP s { q1 with l:=ls.drop (r1.pos+1),total:=q1.total+1 }).bind fun v=>altsP s q1.l.length false [v.1] v.2):=rfl
      have hr7:({ r1 with pos:=r1.pos+1 }:RS).f.1=0:=hr4.f0;generalize altsR s ls (ls.length+1) [] { r1 with pos:=r1.pos+1 }=V at h6 |-;generalize (if q1.total=24 then(Except.error (6,y.a):Except Fa (List (List (List Nat)) × PS)) else
        (oneAltP s { q1 with l:=ls.drop (r1.pos+1),total:=q1.total+1 }).bind fun v=>altsP s q1.l.length false [v.1] v.2)=W at h6 |-
      cases W with
      |error e =>
       simp only [Except.bind] at h6 |-;rw [mustR_f (by rw [h6.1];exact h6.2)];exact h6
      |ok v =>
       simp only [Except.bind] at h6 |-;obtain⟨g1,⟨g2,g3⟩,g4,g5⟩:=h6;rcases g5 with⟨hr8,hU8⟩|⟨hnil,hf⟩
       .have h9:=mustR_ok (s:=s) hr8 3 sSemi
        cases hq9:wantP s 3 sSemi v.2 with
        |error e=>rw [hq9] at h9;exact h9
        |ok q9 =>
         rw [hq9] at h9;obtain⟨hr9,f1,f2,f3,z,hz1,hz2,_⟩:=h9;simp only at g2 g3 g4;have x9:q9.x=p.x:=by rw [f1];simp only;rw [g2,hq1];simp only;exact hqx
         have n9:q9.names=setP p.names x.t (false,false,true):=by rw [f1];simp only;rw [g3,hq1,e0]
         obtain⟨U8,hu81,hu82⟩:=hU8;refine⟨⟨hr9.f,hr9.l,?_,hr9.n⟩,⟨fun t=>?_,?_,?_,?_⟩,⟨U8,by simp only;rw [f1];exact hu81,?_⟩,?_⟩
         .simp only [hr9.x,g1]
         .simp only [n9,knowP_set,x9,ruleNames,List.map_append,List.map_cons,List.map_nil,hasF_snoc]
          have hcap:=small_cap (t:=t);by_cases ht:t=x.t
          .subst ht
           have a1:hasF p.x.tokens x.t=false:=by
            cases hc:hasF p.x.tokens x.t with
            |false=>rfl
            |true =>
             simp only [hasF,List.any_eq_true,decide_eq_true_eq] at hc;obtain⟨u,hu,rfl⟩:=hc;rw [small_cap (hN.toks _ hu)] at e5;cases e5
           have a2:¬ x.t=p.x.sep:=fun e=>by
            have:=small_cap hN.small;rw [<- e,e5] at this;cases this
           simp [a1,a2]
          .rw [if_neg ht,hN.know]
           simp [show ¬ x.t=t from fun e=>ht e.symm]
         .simp only [x9];exact hN.small
         .intro t ht
          simp only [ruleNames,x9,List.map_append,List.map_cons,List.map_nil,List.mem_append,List.mem_singleton] at ht;rcases ht with ht|rfl
          .exact hN.caps t ht
          .exact e5
         .simp only [x9];exact hN.toks
         .simp only [ruleNames,x9,List.map_append,List.map_cons,List.map_nil]
          rw [f3];exact hu82.none hz1 (.inl (by omega))
         .simp only at f2 |-
          have:q.l.length<p.l.length:=el;rw [hql] at hl3;omega
       .have hw5:wantP s 3 sSemi v.2=.error (5,s.length):=by simp [wantP,nextP,hnil,Except.bind]
        rw [hw5];simp only;rw [mustR_f (by rw [hf];simp)];exact⟨hf,by simp⟩
     .have em:mustR s ls 3 sEq r1=failR 3 y.a { r1 with pos:=r1.pos+1 }:=by
       simp only [mustR,mustX,e10,hr4.f0,true_and];rw [if_pos hyc]
      have hf:(failR 3 y.a { r1 with pos:=r1.pos+1 }).f=(3,y.a):=by simp [failR,hr4.f0]
      simp only [Except.bind];rw [em,if_neg hyc,if_neg (by rw [hf];simp),mustR_f (by simp only;rw [hf];simp)];exact⟨hf,by simp⟩
    .rw [e11]
     simp only [Except.bind];have h5:mustR s ls 3 sEq r1={ r1 with f:=(5,s.length),pos:=r1.pos+1 }:=by simp [mustR,mustX,e10]
     rw [h5];rw [if_neg (by simp),mustR_f (by simp)];exact⟨rfl,by simp⟩
theorem rulesR_ok {a:Nat} {u0:List Nat × Nat}:∀ (n m:Nat) (first:Bool) {r:RS} {p:PS},Rel ls r p->NK p->UsesP ls a u0 (ruleNames p.x) r.pos p->p.l.length<n->p.l.length<m ->
  match rulesP s m first p with
  |.ok q=>Rel ls (rulesR s ls n first r) q/\NK q/\UsesP ls a u0 (ruleNames q.x) (rulesR s ls n first r).pos q/\q.l=[]
  |.error e=>(rulesR s ls n first r).f=e/\e.1≠0
 |0,_,_,_,_,_,_,_,h,_=>by omega
 |_,0,_,_,_,_,_,_,_,h=>by omega
 |n+1,m+1,first,r,p,h,hN,hU,hn,hm=>by
  have hiff:0<p.l.length ↔ r.pos<ls.length:=by rw [h.l,List.length_drop];omega
  unfold rulesP rulesR;by_cases hc:first=true\/0<p.l.length
  .have h1:=ruleR_ok (s:=s) h hN hU
   rw [if_pos hc,if_pos ⟨h.f0,hc.imp id hiff.1⟩];cases hq:ruleQ s p with
   |error e =>
    rw [hq] at h1;simp only [Except.bind];rw [rulesR_f (by rw [h1.1];exact h1.2)];exact h1
   |ok q =>
    rw [hq] at h1;simp only [Except.bind];exact rulesR_ok n m false h1.1 h1.2.1 h1.2.2.1 (by have:=h1.2.2.2;omega) (by have:=h1.2.2.2;omega)
  .rw [if_neg hc,if_neg (fun e=>hc (e.2.imp id hiff.2))]
   refine⟨h,hN,hU,?_⟩;have:¬ 0<p.l.length:=fun e=>hc (.inr e);exact List.length_eq_zero_iff.1 (by omega)
theorem knownL_f:∀ {l:List Lx} {r:RS},r.f.1≠0->knownL l r=r
 |[],_,_=>rfl
 |x :: l,r,h=>by
  have:knownOneR x r=r:=by unfold knownOneR;split<;>simp [failR_f h]
  rw [knownL,this,knownL_f h]
theorem knownL_ok:∀ {l:List Lx} {r:RS},r.f=(0,0)->match badR (chkU r.x) l with
  |some e=>(knownL l r).f=e/\e.1≠0
  |none=>knownL l r=r
 |[],_,_=>rfl
 |x :: l,r,h=>by
  unfold badR;rw [List.findSome?_cons,knownL];by_cases hc:x.k=1/\chkU r.x x.t≠0
  .rw [if_pos hc]
   have e:knownOneR x r={ r with f:=(chkU r.x x.t,x.a) }:=by simp [knownOneR,hc,failR,h]
   rw [e,knownL_f (by simpa using hc.2)];exact⟨rfl,hc.2⟩
  .rw [if_neg hc]
   have e:knownOneR x r=r:=by simp only [knownOneR,hc,if_false]
   rw [e];exact knownL_ok h
theorem usedL_eq {nm:List (List Nat × Bool × Bool × Bool)}:∀ {l:List (List Nat × Nat)},usedL nm false l=match badU (chkP nm false) l with
  |some e=>.error e
  |none=>.ok ()
 |[]=>rfl
 |u :: l=>by
  unfold badU usedL;rw [List.findSome?_cons];by_cases hc:chkP nm false u.1≠0
  .rw [if_pos hc,if_pos hc]
  .rw [if_neg hc,if_neg hc]
   exact usedL_eq
theorem hasF_mem2 {l:List (List Nat)} {t:List Nat} (h:t ∈ l):hasF l t=true:=by
 simp only [hasF,List.any_eq_true,decide_eq_true_eq];exact⟨t,h,rfl⟩
theorem read_law (s:List Nat) (ls:List Lx):resR (readR s ls)=resP (readP s ls):=by
 have h0:Rel ls ⟨0,(0,0),0,src0⟩ ⟨ls,src0,[],[],0⟩:=⟨rfl,rfl,rfl,rfl⟩
 have n0:NH ⟨ls,src0,[],[],0⟩:=⟨fun t=>rfl,fun t h=>(by cases h),rfl,rfl⟩
 have bad:∀ {r:RS} {e:Fa},r.f=e->e.1≠0->resR r=resP (.error e):=fun {r e} h1 h2=>by simp [resR,h1,h2,resP]
 have head:∀ {e:Fa},(headR s ls ⟨0,(0,0),0,src0⟩).2.f=e->e.1≠0->resR (readR s ls)=resP (.error e):=fun {e} h1 h2=>by
  have h3:(headR s ls ⟨0,(0,0),0,src0⟩).2.f.1≠0:=by rw [h1];exact h2
  simp only [readR];rw [rulesR_f h3,if_neg h3];exact bad h1 h2
 unfold readP;have h1:=lookR_ok (s:=s) h0 n0;unfold headR at head;cases hq1:lookP s ⟨ls,src0,[],[],0⟩ with
 |error e =>
  rw [hq1] at h1;have a1:(lookR s ls ⟨0,(0,0),0,src0⟩).f.1≠0:=by rw [h1.1];exact h1.2
  have a2:=mustR_f (s:=s) (ls:=ls) (k:=1) (t:=wToken) a1;have a3:=tokensR_f (s:=s) (ls:=ls) (n:=ls.length+1) (r:=mustR s ls 1 wToken (lookR s ls ⟨0,(0,0),0,src0⟩)) (by rw [a2];exact a1);have a4:(mustR s ls 3 sSemi (tokensR s ls (ls.length+1) (mustR s ls 1 wToken (lookR s ls ⟨0,(0,0),0,src0⟩)))).f=e:=by rw [a3,mustR_f (by rw [a2];exact a1),a2,h1.1]
  refine head ?_ h1.2;rw [startR_f (by rw [sepR_f (by rw [a4];exact h1.2),a4];exact h1.2),sepR_f (by rw [a4];exact h1.2),a4]
 |ok p1 =>
  rw [hq1] at h1;have h2:=tokP_ok (s:=s) h1.1 h1.2;simp only [Except.bind];cases hq2:tokensP s p1 with
  |error e =>
   rw [hq2] at h2;refine head ?_ h2.2;rw [startR_f (by rw [sepR_f (by rw [h2.1];exact h2.2),h2.1];exact h2.2),sepR_f (by rw [h2.1];exact h2.2),h2.1]
  |ok p2 =>
   rw [hq2] at h2;have h3:=sepR_ok (s:=s) h2.1 h2.2;simp only;cases hq3:sepQ s p2 with
   |error e =>
    rw [hq3] at h3;refine head ?_ h3.2;rw [startR_f (by rw [h3.1];exact h3.2),h3.1]
   |ok p3 =>
    rw [hq3] at h3;have h4:=startR_ok (s:=s) h3.1 h3.2;simp only;cases hq4:startP s p3 with
    |error e =>
     rw [hq4] at h4;exact head h4.1 h4.2
    |ok p4 =>
     rw [hq4] at h4;obtain⟨hr4,hN4,hu4,hrul,hcap⟩:=h4;simp only;have hhead:headR s ls ⟨0,(0,0),0,src0⟩=startR s ls (sepR s ls (mustR s ls 3 sSemi (tokensR s ls (ls.length+1) (mustR s ls 1 wToken (lookR s ls ⟨0,(0,0),0,src0⟩))))):=rfl;simp only [readR];rw [hhead];generalize startR s ls (sepR s ls (mustR s ls 3 sSemi (tokensR s ls (ls.length+1) (mustR s ls 1 wToken (lookR s ls ⟨0,(0,0),0,src0⟩)))))=V at hr4 hu4 hcap |-;have hlen:p4.l.length<=ls.length:=by rw [hr4.l,List.length_drop];omega
     have hU4:UsesP ls V.2.pos (V.1.t,V.1.a) (ruleNames p4.x) V.2.pos p4:=⟨[],hu4,Nat.le_refl _,fun chk _=>by simp [badR,badU]⟩
     have h5:=rulesR_ok (s:=s) (ls.length+2) (p4.l.length+1) true hr4 hN4 hU4 (by omega) (by omega);generalize rulesR s ls (ls.length+2) true V.2=R5 at h5 |-;cases hq5:rulesP s (p4.l.length+1) true p4 with
     |error e =>
      rw [hq5] at h5;rw [if_neg (by rw [h5.1];exact h5.2)];exact bad h5.1 h5.2
     |ok p5 =>
      rw [hq5] at h5;obtain⟨hr5,hN5,⟨U,hu5,hue⟩,hnil⟩:=h5;simp only;rw [if_pos hr5.f0];have hall:(ls.drop V.2.pos).take (R5.pos-V.2.pos)=ls.drop V.2.pos:=by
       have:ls.length<=R5.pos:=by
        have:=hr5.l;rw [hnil] at this;exact List.drop_eq_nil_iff.1 this.symm
       rw [List.take_of_length_le (by rw [List.length_drop];omega)]
      have hsame:∀ t,chkP p5.names false t=chkU p5.x t:=fun t=>by
       simp only [chkP,hN5.know,chkU,decide_eq_true_eq,Bool.false_eq_true,false_or]
      have hzero:∀ n ∈ ruleNames p5.x,chkU p5.x n=0:=fun n hn=>by
       have:¬ n=p5.x.sep:=fun e=>by
        have h1:=hN5.caps n hn;rw [e,small_cap hN5.small] at h1;cases h1
       simp [chkU,this,hasF_mem2 hn]
      have hbad:=hue.2 (chkU p5.x) hzero;rw [hall] at hbad;have hcu:chkP p5.names false=chkU p5.x:=funext hsame;unfold usedP;rw [hu5,usedL,usedL_eq,hcu,<- hbad];have hst:¬ V.1.t=p5.x.sep:=fun e=>by rw [e,small_cap hN5.small] at hcap;cases hcap
      have hfirst:chkP p5.names true V.1.t=if hasF (ruleNames p5.x) V.1.t=false then 7 else 0:=by
       simp only [chkP,hN5.know,decide_eq_true_eq,hst,if_false,true_or,and_true]
      unfold knownR;rw [hr5.x];simp only [hfirst];cases hh:hasF (ruleNames p5.x) V.1.t with
      |false =>
       have hf:(failR 7 V.1.a R5).f=(7,V.1.a):=by simp [failR,hr5.f0]
       simp only [if_true,ne_eq];rw [knownL_f (by rw [hf];simp)];simp only [Except.bind];exact bad hf (by simp)
      |true =>
       simp only [Bool.true_eq_false,if_false,ne_eq,not_true];have h6:=knownL_ok (l:=ls.drop V.2.pos) hr5.f;rw [hr5.x] at h6;cases hb:badR (chkU p5.x) (ls.drop V.2.pos) with
       |some e =>
        rw [hb] at h6;simp only [Except.bind];exact bad h6.1 h6.2
       |none =>
        rw [hb] at h6;simp only at h6;rw [h6];simp only [Except.bind,resR,resP,hr5.f0,if_true,hr5.x]
end
end Go.Av
end
noncomputable section
namespace Go.Av
open Go Go.Proofs
set_option maxRecDepth 10000
section
variable {P:Program} {nt m:Nat} {ro':Option Nat} {x y:Code} {s:S} {K:Ex->S->Prop}
theorem Run.midE {α:Type} (S1:α->S) (C:α->Prop) (h1:Run P nt m ro' x s (fun e s1=>match e with|.normal=>∃ v,C v/\Tidy m s1 (S1 v)|e=>K e s1)) (h2:∀ v,C v->Run P nt m ro' y (S1 v) K) :
  Run P nt m ro' x s (fun e s1=>match e with|.normal=>Run P nt m ro' y s1 K|e=>K e s1) :=
 h1.mono fun e s1 h=>by
  cases e with
  |normal=>obtain⟨v,h3,h4⟩:=h;exact Run.tidy h4 (h2 v h3)
  |_=>exact h
end
abbrev boxM (x:Lx):Ob:=.box [.d (.int .i64 (x.k:Nat)),.d (.str x.t),.d (.int .i64 (x.a:Nat))]
abbrev pOr (s:List Nat) (v:PS) (r:SRule):List Ob:=[.box [.d (.str s),.d (.sl 3 (v.l.map encL)),.d (.int .i64 v.x.k),.sr 1 1 (v.x.tokens.map .str),.d (.str v.x.sep),.d (.str v.x.start),.sr 2 2 (v.x.rules.map encR++[encR r]),.mp 3,.sr 4 2 (v.uses.map encU),.d (.int .i64 (v.total:Nat))],.room v.x.tokens.length 1,.room (v.x.rules.length+1) 2,.map (kvN v.names),.room v.uses.length 2]
theorem pOr_eq (s:List Nat) (v:PS) (r:SRule):pO s { v with x:={ v.x with rules:=v.x.rules++[r] } }=pOr s v r:=by
 unfold pO pBox pOr;simp only [List.map_append,List.map_cons,List.map_nil,List.length_append,List.length_cons,List.length_nil]
set_option maxHeartbeats 8000000 in
theorem rulesC (s:List Nat) (p:PS) (hb:PB p) (hr8:p.x.rules.length<=8) (ht24:p.total<=24):ACall Tryz.prog 102 [.bp 0 0] (pO s p) (endR (rulesP s (p.l.length+1) true p)) (endG s (rulesP s (p.l.length+1) true p)):=by
 obtain⟨R,hR⟩:∃ R,R=rulesP s (p.l.length+1) true p:=⟨_,rfl⟩
 rw [<- hR];refine acallU (fnAt Tryz.func102 (by kernel_rfl) (by kernel_rfl):FnAt _ _ (mkFn Tryz.f102 [88,100])) rfl rfl ?_
 repeat' (first|refine zW [88,100] ?_|(refine zB [88,100] ?_ ?_<;>intro h<;>try exact zk h)|refine zX [88,100] ?_|(refine zE ?_;(skip))|((exfalso;(simp at h<;>omega)))|fail)
 refine Run.loopT (fun y:Nat × PS × Bool=>⟨PT.ofList [(0,.bp 0 0),(2,.d (.bool y.2.2))],pO s y.2.1,[]⟩)
  (fun y=>rulesP s y.1 y.2.2 y.2.1=R/\PB y.2.1/\y.2.1.l.length<y.1/\y.2.1.x.rules.length<=8/\y.2.1.total<=24) (fun y=>y.1) (p.l.length+1,p,true) ⟨hR.symm,hb,Nat.lt_succ_self _,hr8,ht24⟩ (ti _ 5) (fun y hy=>?_)
 obtain⟨n,y,first⟩:=y;obtain⟨i1,i2,i3,i4,i5⟩:=hy;simp only at i1 i2 i3 i4 i5 |-;obtain⟨n,rfl⟩:∃ j,n=j+1:=⟨n-1,by omega⟩
 unfold rulesP at i1;by_cases hc:first=true\/0<y.l.length
 .rw [if_pos hc] at i1
  have cw:=wordC s y _ capitalF i2.len capitalC;unfold ruleQ at i1;have hu:y.uses.length<=200000:=by have:=i2.uses;omega
  refine Yq ?_;refine Run.mid ⟨PT.ofList [(0,.bp 0 0)],pO s y,[]⟩ ?_ ?_
  .cases first with
   |true =>
    repeat' (first|refine zW [88,100] ?_|(refine zB [88,100] ?_ ?_<;>intro h<;>try exact zk h)|refine zX [88,100] ?_|(refine zE ?_;(skip))|(exact(by show Tidy _ _ _;exact(ti _ 5)))|((exfalso;(simp at h<;>omega)))|fail)
   |false =>
    have hne:y.l≠[]:=by
     intro e;rw [e] at hc;simp at hc
    repeat' (first|refine zW [88,100] ?_|(refine zB [88,100] ?_ ?_<;>intro h<;>try exact zk h)|refine zX [88,100] ?_|(refine zE ?_;(skip))|(exact(by show Tidy _ _ _;exact(ti _ 5)))|((exfalso;simp at h;exact hne h))|fail)
  refine Yq ?_;refine Yb ?_;cases hw:wordP s capitalF y with
  |error e9 =>
   rw [hw] at cw i1;simp only [Except.bind] at i1;subst i1
   repeat' (first|refine zN [88,100] ?_|(refine zB [88,100] ?_ ?_<;>intro h<;>try exact zk h)|refine zX [88,100] ?_|refine oFP (cw) ?_|(refine zE ?_;(skip))|(exact⟨rfl,rfl,wkE⟩)|((exfalso;(simp at h<;>omega)))|fail)
  |ok v =>
   rw [hw] at cw i1;obtain⟨w1,w2⟩:=wordP_x hw;obtain⟨x,q⟩:=v;simp only at w1 w2 cw;simp only [exb_ok] at i1;obtain⟨kk,eK⟩:∃ kk,kk=knowP q.names x.t:=⟨_,rfl⟩
   rw [<- eK] at i1;obtain⟨ka,kb,kc⟩:=kk;have f8:=failP s q 8 x.a;have f6:=failP s q 6 x.a;have hqx:q.x=y.x:=by rw [w1]
   have hqt:q.total=y.total:=by rw [w1]
   have hqu:q.uses=y.uses:=by rw [w1]
   have hql:y.l.length=q.l.length+1:=by rw [w2];rfl
   have hqm:∀ z ∈ q.l,z ∈ y.l:=fun z hz=>by rw [w2];exact List.mem_cons_of_mem _ hz
   repeat' (first|refine zRn [88,100] ?_|refine oF (cw) ?_|refine eF (cw) ?_|fail)
   refine Yq ?_;cases kc with
   |true =>
    simp only [if_true] at i1;simp only [Except.bind] at i1;subst i1
    repeat' (first|refine zW [88,100] ?_|(refine zB [88,100] ?_ ?_<;>intro h<;>try exact zk h)|refine zX [88,100] ?_|refine eX ?_ (hv:=(evAny_know q.names x.t).trans (by rw [<- eK]))|refine oFP (f8) ?_|(refine zE ?_;(skip))|(exact⟨rfl,rfl,wkE⟩)|((exfalso;(simp at h<;>omega)))|fail)
   |false =>
    simp only [Bool.false_eq_true,if_false] at i1;refine Run.mid ⟨PT.ofList [(0,.bp 0 0),(3,.bp 5 0)],pO s q++[boxM x],[]⟩ ?_ ?_
    .repeat' (first|refine zW [88,100] ?_|(refine zB [88,100] ?_ ?_<;>intro h<;>try exact zk h)|refine zX [88,100] ?_|refine eX ?_ (hv:=(evAny_know q.names x.t).trans (by rw [<- eK]))|(refine zE ?_;(skip))|(exact(by show Tidy _ _ _;exact(ti _ 6)))|((exfalso;(simp at h<;>omega)))|fail)
    refine Yq ?_;by_cases h8:q.x.rules.length=8
    .rw [if_pos h8] at i1
     simp only [Except.bind] at i1;subst i1
     repeat' (first|refine zW [88,100] ?_|(refine zB [88,100] ?_ ?_<;>intro h<;>try exact zk h)|refine zX [88,100] ?_|refine oFP (f6) ?_|(refine zE ?_;(skip))|(exact⟨rfl,rfl,wkE⟩)|((exfalso;(simp at h<;>omega)))|fail)
    .rw [if_neg h8] at i1
     refine Run.mid ⟨PT.ofList [(0,.bp 0 0),(3,.bp 5 0)],pO s q++[boxM x],[]⟩ ?_ ?_
     .repeat' (first|refine zW [88,100] ?_|(refine zB [88,100] ?_ ?_<;>intro h<;>try exact zk h)|refine zX [88,100] ?_|(refine zE ?_;(skip))|(exact(by show Tidy _ _ _;exact(ti _ 6)))|((exfalso;(simp at h<;>omega)))|fail)
     obtain⟨p1,hp1⟩:∃ p1:PS,p1={ q with names:=setP q.names x.t (false,false,true) }:=⟨_,rfl⟩
     have hp1x:p1.x=y.x:=by rw [hp1];exact hqx
     have hp1l:p1.l=q.l:=by rw [hp1]
     rw [<- hp1] at i1;have hbp:PB p1:=i2.of (fun z hz=>hqm z (by rw [hp1] at hz;exact hz)) (by rw [hp1l];omega) (by rw [hp1x];exact i2.toks) (by rw [hp1x];exact i2.rules) (by have:=i2.uses;rw [hp1];simp only;rw [hqu];omega) (by rw [hp1];simp only;rw [hqt];exact i2.total);obtain⟨RA,hRA⟩:∃ RA,RA=altsP s (q.l.length+1) true [] p1:=⟨_,rfl⟩
     rw [<- hRA] at i1
     repeat' (first|refine zR [88,100] ?_|refine eX ?_ (hv:=evAny_set q.names x.t (false,false,true))|fail)
     refine Yq ?_;refine Run.cellRoom 6 1 1 ?_;refine Run.midE (fun v:List (List (List Nat)) × PS=>⟨PT.ofList [(0,.bp 0 0),(4,.bp 6 0)],pO s v.2++[boxM x,.box [.d (.str x.t),.sr 7 1 (v.1.map strs)],.room v.1.length 1],[]⟩)
      (fun v=>RA=.ok v/\PB v.2/\v.2.x=y.x/\v.2.total<=24/\v.2.l.length<y.l.length/\(∀ z ∈ v.2.l,z ∈ y.l)/\v.2.uses.length+v.2.l.length<=200000) ?_ (fun v hv=>?_)
     .repeat refine zS ?_
      refine zX [88,100] ?_
      repeat refine zS ?_
      refine Run.loopT (fun z:Nat × List (List (List Nat)) × PS × Bool=>⟨PT.ofList [(0,.bp 0 0),(4,.bp 6 0),(5,.d (.str (cond z.2.2.2 sEq sBar)))],pO s z.2.2.1++[boxM x,.box [.d (.str x.t),.sr 7 1 (z.2.1.map strs)],.room z.2.1.length 1],[]⟩)
       (fun z=>altsP s z.1 z.2.2.2 z.2.1 z.2.2.1=RA/\PB z.2.2.1/\z.2.2.1.x=y.x/\z.2.2.1.total<=24/\z.2.2.1.l.length<z.1/\z.2.2.1.l.length<y.l.length/\(∀ u ∈ z.2.2.1.l,u ∈ y.l)/\z.2.1.length+z.1<=200000) (fun z=>z.1) (q.l.length+1,[],p1,true)
       ⟨hRA.symm,hbp,hp1x,by rw [hp1];simp only;omega,by rw [hp1l];exact Nat.lt_succ_self _,by rw [hp1l];omega,by rw [hp1l];exact hqm,by have:=i2.l;simp;omega⟩ (by rw [hp1];exact(ti _ 8)) (fun z hz=>?_)
      obtain⟨k,acc,z,b⟩:=z;obtain⟨j1,j2,j3,j4,j5,j6,j7,j8⟩:=hz;simp only at j1 j2 j3 j4 j5 j6 j7 j8 |-;obtain⟨k,rfl⟩:∃ j,k=j+1:=⟨k-1,by omega⟩
      unfold altsP at j1;have ci:=isCP s z sBar;have huz:z.uses.length<=200000:=by have:=j2.uses;omega
      by_cases hex:b=false/\isL sBar z.l=false
      .rw [if_pos hex] at j1
       obtain⟨rfl,hex⟩:=hex;rw [hex] at ci;have fin:∀ s1:S,Tidy 5 s1 ⟨PT.ofList [(0,.bp 0 0),(4,.bp 6 0)],pO s z++[boxM x,.box [.d (.str x.t),.sr 7 1 (acc.map strs)],.room acc.length 1],[]⟩ ->
         ∃ v:List (List (List Nat)) × PS,(RA=.ok v/\PB v.2/\v.2.x=y.x/\v.2.total<=24/\v.2.l.length<y.l.length/\(∀ z ∈ v.2.l,z ∈ y.l)/\v.2.uses.length+v.2.l.length<=200000)/\Tidy 5 s1 ⟨PT.ofList [(0,.bp 0 0),(4,.bp 6 0)],pO s v.2++[boxM x,.box [.d (.str x.t),.sr 7 1 (v.1.map strs)],.room v.1.length 1],[]⟩:=fun s1 ht =>
        ⟨(acc,z),⟨j1.symm,j2,j3,j4,j6,j7,j2.uses⟩,ht⟩
       repeat' (first|refine zW [88,100] ?_|(refine zB [88,100] ?_ ?_<;>intro h<;>try exact zk h)|refine zX [88,100] ?_|refine oF (ci) ?_|refine eF (ci) ?_|(refine zE ?_;(skip))|(exact fin _ (ti _ 8))|((exfalso;(simp at h<;>omega)))|fail)
      .rw [if_neg hex] at j1
       have hb1:b=true\/(b=false/\isL sBar z.l=true):=by
        cases b with
        |true=>exact .inl rfl
        |false=>exact .inr ⟨rfl,by simpa using hex⟩
       refine Yq ?_;refine Yb ?_;refine Yq ?_;refine Run.mid ⟨PT.ofList [(0,.bp 0 0),(4,.bp 6 0),(5,.d (.str (cond b sEq sBar)))],pO s z++[boxM x,.box [.d (.str x.t),.sr 7 1 (acc.map strs)],.room acc.length 1],[]⟩ ?_ ?_
       .rcases hb1 with rfl|⟨rfl,hb1⟩
        .repeat' (first|refine zW [88,100] ?_|(refine zB [88,100] ?_ ?_<;>intro h<;>try exact zk h)|refine zX [88,100] ?_|(refine zE ?_;(skip))|(exact(by show Tidy _ _ _;exact(ti _ 8)))|((exfalso;(simp at h<;>omega)))|fail)
        .rw [hb1] at ci
         repeat' (first|refine zW [88,100] ?_|(refine zB [88,100] ?_ ?_<;>intro h<;>try exact zk h)|refine zX [88,100] ?_|refine oF (ci) ?_|refine eF (ci) ?_|(refine zE ?_;(skip))|(exact(by show Tidy _ _ _;exact(ti _ 8)))|((exfalso;(simp at h<;>omega)))|fail)
       have eS:(if b=true then sEq else sBar)=cond b sEq sBar:=by cases b<;>rfl
       rw [eS] at j1;generalize cond b sEq sBar=sg at j1 |-;cases hl:z.l with
       |nil =>
        have cn:=nextEndP s z hl;rw [show nextP s z=.error (5,s.length) by simp [nextP,hl]] at j1;simp only [Except.bind] at j1;subst j1;simp only [Except.bind] at i1;subst i1
        repeat' (first|refine zN [88,100] ?_|(refine zB [88,100] ?_ ?_<;>intro h<;>try exact zk h)|refine zX [88,100] ?_|refine oFP (cn) ?_|(refine zE ?_;(skip))|(exact⟨rfl,rfl,wkE⟩)|((exfalso;(simp at h<;>omega)))|fail)
       |cons x2 l =>
        have cn:=nextOkP s z x2 l hl;rw [show nextP s z=.ok (x2,{ z with l:=l }) by simp [nextP,hl]] at j1;simp only [exb_ok] at j1;by_cases hsg:x2.k=3/\x2.t=sg
        .have cs:=isPT x2 3 sg hsg
         rw [if_pos hsg] at j1;by_cases h24:z.total=24
         .rw [if_pos h24] at j1
          subst j1;simp only [Except.bind] at i1;subst i1;have cf:=failP s { z with l:=l } 6 x2.a
          repeat' (first|refine zN [88,100] ?_|(refine zB [88,100] ?_ ?_<;>intro h<;>try exact zk h)|refine zX [88,100] ?_|refine oF (cn) ?_|refine eF (cn) ?_|refine zC (cs) ?_|refine oFP (cf) ?_|(refine zE ?_;(skip))|(exact⟨rfl,rfl,wkE⟩)|((exfalso;(simp at h<;>omega)))|fail)
         .rw [if_neg h24] at j1
          have hinc:AV.d (.int .i64 (IntKind.i64.wrap ((z.total:Int)+1)))=.d (.int .i64 ((z.total+1:Nat):Int)):=vN8 (by omega) (by omega);have hbz:PB { z with l:=l,total:=z.total+1 }:=j2.of (fun u hu=>by rw [hl];exact List.mem_cons_of_mem _ hu) (by rw [hl];simp) j2.toks j2.rules (by have:=j2.uses;rw [hl] at this;simp at this |-;omega) (by simp only;omega);have ca:=altC s { z with l:=l,total:=z.total+1 } hbz;have hacc:acc.length<=200000:=by omega
          cases hA:oneAltP s { z with l:=l,total:=z.total+1 } with
          |error e9 =>
           rw [hA] at ca j1;simp only [Except.bind] at j1;subst j1;simp only [Except.bind] at i1;subst i1
           repeat' (first|refine oX (frz:=[88,100]) (v:=.d (.int .i64 ((z.total+1:Nat):Int))) Yo ?_ (he:=(hinc))|refine eX (v:=.d (.int .i64 ((z.total+1:Nat):Int))) ?_ (he:=(hinc))|refine zN [88,100] ?_|(refine zB [88,100] ?_ ?_<;>intro h<;>try exact zk h)|refine zX [88,100] ?_|refine oF (cn) ?_|refine eF (cn) ?_|refine zC (cs) ?_|(refine zE ?_;(skip))|((exfalso;(simp at h<;>omega)))|fail)
           refine Run.drawP (frz:=[88,100]) Yo (by kernel_rfl) [(1,3)] 3 [4,5,6,7] (x:=refD e9) (obP:=pG++[boxM x,.box [.d (.str x.t),.sr 7 1 (acc.map strs)],.room acc.length 1,boxM x2]) (by rfl) (by kernel_rfl) ?_ ?_
           .iterate 3 refine cX ?_
            refine cP ca ?_;iterate 4 refine cD ?_
            refine EvC.nil ⟨by kernel_rfl,⟨⟨_,_,_,_,_,_,_,rfl,rfl,rfl,rfl,rfl,rfl⟩,trivial⟩⟩
           .exact⟨rfl,rfl,wkE⟩
          |ok w =>
           rw [hA] at ca j1;simp only [exb_ok] at j1;obtain⟨al,w⟩:=w;simp only at ca j1;obtain⟨a1,a2,a3,a4,a5,a6,a7,a8⟩:=altQ_x _ _ hA;simp only at a1 a2 a3 a4 a5 a6;have hbw:PB w:=hbz.of (fun u hu=>a4 u hu) (by simp only;exact a5) (by rw [a1];exact j2.toks) (by rw [a1];exact j2.rules) (by have:=hbz.uses;simp only at this;omega) (by omega);rw [hl] at j5 j6;simp only [List.length_cons] at j5 j6;have fin:∀ s1:S,Tidy 5 s1 ⟨PT.ofList [(0,.bp 0 0),(4,.bp 6 0),(5,.d (.str sBar))],pO s w++[boxM x,.box [.d (.str x.t),.sr 7 1 (acc.map strs++[strs al])],.room (acc.length+1) 1],[]⟩ ->
             ∃ z:Nat × List (List (List Nat)) × PS × Bool,(altsP s z.1 z.2.2.2 z.2.1 z.2.2.1=RA/\PB z.2.2.1/\z.2.2.1.x=y.x/\z.2.2.1.total<=24/\z.2.2.1.l.length<z.1/\z.2.2.1.l.length<y.l.length/\(∀ u ∈ z.2.2.1.l,u ∈ y.l)/\z.2.1.length+z.1<=200000)/\z.1<k+1 /\
              Tidy 5 s1 ⟨PT.ofList [(0,.bp 0 0),(4,.bp 6 0),(5,.d (.str (cond z.2.2.2 sEq sBar)))],pO s z.2.2.1++[boxM x,.box [.d (.str x.t),.sr 7 1 (z.2.1.map strs)],.room z.2.1.length 1],[]⟩:=fun s1 ht =>
            ⟨(k,acc++[al],w,false),⟨j1,hbw,a1.trans j3,by simp only;omega,by simp only;omega,by simp only;omega,fun u hu=>j7 u (by rw [hl];exact List.mem_cons_of_mem _ (a4 u hu)),by simp;omega⟩,Nat.lt_succ_self _,by simpa using ht⟩
           repeat' (first|refine oX (frz:=[88,100]) (v:=.d (.int .i64 ((z.total+1:Nat):Int))) Yo ?_ (he:=(hinc))|refine eX (v:=.d (.int .i64 ((z.total+1:Nat):Int))) ?_ (he:=(hinc))|refine zN [88,100] ?_|(refine zB [88,100] ?_ ?_<;>intro h<;>try exact zk h)|refine zX [88,100] ?_|refine oF (cn) ?_|refine eF (cn) ?_|refine zC (cs) ?_|(refine zE ?_;(skip))|((exfalso;(simp at h<;>omega)))|fail)
           refine Run.drawC (frz:=[88,100]) Yo (by kernel_rfl) [(1,3)] ?_;iterate 3 refine cX ?_
           refine cCall ca ?_;refine cX ?_;refine cX ?_ (hv:=app1) (hf:=rfl) (he:=rfl);iterate 2 refine cX ?_
           refine EvC.nil ⟨by kernel_rfl,⟨⟨_,_,_,_,_,_,_,rfl,rfl,rfl,rfl,rfl,rfl⟩,trivial⟩,?_⟩
           repeat' (first|refine zW [88,100] ?_|(refine zB [88,100] ?_ ?_<;>intro h<;>try exact zk h)|refine zX [88,100] ?_|(refine zE ?_;(skip))|(exact fin _ (ti _ 8))|((exfalso;(simp at h<;>omega)))|fail)
        .have cs:=isPF x2 3 sg hsg
         rw [if_neg hsg] at j1;subst j1;simp only [Except.bind] at i1;subst i1;have cf:=failP s { z with l:=l } 3 x2.a
         repeat' (first|refine zN [88,100] ?_|(refine zB [88,100] ?_ ?_<;>intro h<;>try exact zk h)|refine zX [88,100] ?_|refine oF (cn) ?_|refine eF (cn) ?_|refine zC (cs) ?_|refine oFP (cf) ?_|(refine zE ?_;(skip))|(exact⟨rfl,rfl,wkE⟩)|((exfalso;(simp at h<;>omega)))|fail)
     .obtain⟨alts',w⟩:=v
      obtain⟨v1,v2,v3,v4,v5,v6,v7⟩:=hv;simp only at v1 v2 v3 v4 v5 v6 v7;rw [v1] at i1;simp only [exb_ok] at i1;have ce:=endC s w;refine Run.cellData 6 1 ?_;cases hE:wantP s 3 sSemi w with
      |error e9 =>
       rw [hE] at ce i1;simp only [Except.bind] at i1;subst i1
       repeat' (first|refine zW [88,100] ?_|(refine zB [88,100] ?_ ?_<;>intro h<;>try exact zk h)|refine zX [88,100] ?_|refine oFP (ce) ?_|(refine zE ?_;(skip))|(exact⟨rfl,rfl,wkE⟩)|((exfalso;(simp at h<;>omega)))|fail)
      |ok w2' =>
       rw [hE] at ce i1;simp only [exb_ok] at i1;obtain⟨g1,g2,g3⟩:=wantP_x hE;have gx:w2'.x=y.x:=by rw [g1];exact v3
       have hr7:w2'.x.rules.length<=7:=by rw [gx];rw [hqx] at h8;omega
       have hbn:PB { w2' with x:={ w2'.x with rules:=w2'.x.rules++[⟨x.t,alts'⟩] } }:=v2.of g3 (by simp only;omega) (by simp only;rw [gx];exact i2.toks) (by simp;omega) (by simp only;rw [g1];simp only;omega) (by simp only;rw [g1];simp only;omega);have fin:∀ s1:S,Tidy 5 s1 ⟨PT.ofList [(0,.bp 0 0),(2,.d (.bool false))],pOr s w2' ⟨x.t,alts'⟩,[]⟩ ->
         ∃ y:Nat × PS × Bool,(rulesP s y.1 y.2.2 y.2.1=R/\PB y.2.1/\y.2.1.l.length<y.1/\y.2.1.x.rules.length<=8/\y.2.1.total<=24)/\y.1<n+1/\Tidy 5 s1 ⟨PT.ofList [(0,.bp 0 0),(2,.d (.bool y.2.2))],pO s y.2.1,[]⟩:=fun s1 ht =>
        ⟨(n,{ w2' with x:={ w2'.x with rules:=w2'.x.rules++[⟨x.t,alts'⟩] } },false),⟨i1,hbn,by simp only;omega,by simp;omega,by simp only;rw [g1];exact v4⟩,Nat.lt_succ_self _,by
         show Tidy 5 s1 ⟨PT.ofList [(0,.bp 0 0),(2,.d (.bool false))],pO s { w2' with x:={ w2'.x with rules:=w2'.x.rules++[⟨x.t,alts'⟩] } },[]⟩
         rw [pOr_eq];exact ht⟩
       repeat' (first|refine zW [88,100] ?_|(refine zB [88,100] ?_ ?_<;>intro h<;>try exact zk h)|refine zX [88,100] ?_|refine oF (ce) ?_|refine eF (ce) ?_|refine oX (frz:=[88,100]) Yo ?_ (hv:=app1) (hf:=rfl) (he:=rfl)|refine eX ?_ (hv:=app1) (hf:=rfl) (he:=rfl)|refine oX (frz:=[88,100]) Yo ?_ (hv:=app0) (hf:=rfl) (he:=rfl)|refine eX ?_ (hv:=app0) (hf:=rfl) (he:=rfl)|(refine zE ?_;(skip))|(exact fin _ (ti _ 5))|((exfalso;(simp at h<;>omega)))|fail)
 .rw [if_neg hc] at i1
  subst i1;have hf:first=false:=by cases first<;>simp at hc |-
  subst hf;have hge:¬ 0<y.l.length:=fun e=>hc (.inr e)
  repeat' (first|refine zW [88,100] ?_|(refine zB [88,100] ?_ ?_<;>intro h<;>try exact zk h)|refine zX [88,100] ?_|(refine zE ?_;(skip))|(((first|refine Yt ?_|skip);exact⟨trivial,_,_,rfl,rfl,.refl,wkE⟩))|((exfalso;(simp at h<;>omega)))|fail)
end Go.Av
end
noncomputable section
namespace Go.Av
open Go Go.Proofs
set_option maxRecDepth 10000
theorem peekR_x {s:List Nat} {ls:List Lx} {r:RS}:(peekR s ls r).2.x=r.x/\(peekR s ls r).2.pos=r.pos/\(peekR s ls r).2.alts=r.alts:=by
 unfold peekR failR;split
 .exact⟨rfl,rfl,rfl⟩
 .split<;>exact⟨rfl,rfl,rfl⟩
theorem peekR_t {s:List Nat} {ls:List Lx} {r:RS} (hb:Bd s ls r):(peekR s ls r).1.t.length<=1048576:=by
 unfold peekR;split
 .rename_i x hx
  exact hb.len x (List.mem_of_getElem? hx)
 .simp
theorem takeR_t {s:List Nat} {ls:List Lx} {r:RS} (hb:Bd s ls r):(takeR s ls r).1.t.length<=1048576:=peekR_t hb
theorem next4r (s:List Nat) (ls:List Lx) (r:RS) (t:List Nat) (hb:Bd s ls r):ACall Tryz.prog 193 [.bp 0 0,.d (.str t)] (rO s ls r) (.d (.bool (nextQ ls t r).1)) (rO s ls (nextQ ls t r).2):=by
 obtain⟨b1,b2,b3,b4,b5,b6,b7⟩:=hb;by_cases h0:r.f.1=0
 .have c0:=okT4 s ls r h0
  rcases Nat.lt_or_ge r.pos ls.length with hlt|hge
  .obtain⟨x,hx⟩:=get_ok hlt
   have hd:=drop_at hx;by_cases hc:x.k=3/\x.t=t
   .have c2:=is4T x 3 t hc
    have hinc:AV.d (.int .i64 (IntKind.i64.wrap ((r.pos:Int)+1)))=.d (.int .i64 ((r.pos+1:Nat):Int)):=congrArg (fun x=>AV.d (.int .i64 x)) ((congrArg IntKind.i64.wrap (show(r.pos:Int)+1=((r.pos+1:Nat):Int) by omega)).trans (wrap_nat (by omega)));rw [show nextQ ls t r=(true,{ r with pos:=r.pos+1 }) by simp [nextQ,h0,hd,isL,hc]];refine acallW_of_run Yo (fnAt Tryz.func193 (by kernel_rfl) (by kernel_rfl):FnAt _ _ (mkFn Tryz.f193 [])) rfl rfl rfl rfl rfl ?_
    repeat' (first|refine oX (frz:=[]) (v:=.d (.int .i64 ((r.pos+1:Nat):Int))) Yo ?_ (he:=(hinc))|refine eX (v:=.d (.int .i64 ((r.pos+1:Nat):Int))) ?_ (he:=(hinc))|refine zW [] ?_|(refine zB [] ?_ ?_<;>intro h<;>try exact zk h)|refine zX [] ?_|refine oF (c0) ?_|refine eF (c0) ?_|refine zC (c2) ?_|refine oI (frz:=[]) (v:=.d (.ep [.int .i64 (x.k:Nat),.str x.t,.int .i64 (x.a:Nat)])) ?_ (he:=by first|(simp [gD,cellsD,hx]<;>fail)|fail)|refine eI (v:=.d (.ep [.int .i64 (x.k:Nat),.str x.t,.int .i64 (x.a:Nat)])) ?_ (he:=by first|(simp [gD,cellsD,hx]<;>fail)|fail)|(refine zE ?_;(skip))|(((first|refine Yt ?_|skip);exact⟨trivial,_,_,rfl,rfl,.refl,wkE⟩))|((exfalso;(simp at h<;>omega)))|fail)
   .have c2:=is4F x 3 t hc
    rw [show nextQ ls t r=(false,r) by simp [nextQ,h0,hd,isL,hc]];refine acallW_of_run Yo (fnAt Tryz.func193 (by kernel_rfl) (by kernel_rfl):FnAt _ _ (mkFn Tryz.f193 [])) rfl rfl rfl rfl rfl ?_
    repeat' (first|refine zW [] ?_|(refine zB [] ?_ ?_<;>intro h<;>try exact zk h)|refine zX [] ?_|refine oF (c0) ?_|refine eF (c0) ?_|refine zC (c2) ?_|refine oI (frz:=[]) (v:=.d (.ep [.int .i64 (x.k:Nat),.str x.t,.int .i64 (x.a:Nat)])) ?_ (he:=by first|(simp [gD,cellsD,hx]<;>fail)|fail)|refine eI (v:=.d (.ep [.int .i64 (x.k:Nat),.str x.t,.int .i64 (x.a:Nat)])) ?_ (he:=by first|(simp [gD,cellsD,hx]<;>fail)|fail)|(refine zE ?_;(skip))|(((first|refine Yt ?_|skip);exact⟨trivial,_,_,rfl,rfl,.refl,wkE⟩))|((exfalso;(simp at h<;>omega)))|fail)
  .rw [show nextQ ls t r=(false,r) by simp [nextQ,List.drop_eq_nil_of_le hge,isL]]
   refine acallW_of_run Yo (fnAt Tryz.func193 (by kernel_rfl) (by kernel_rfl):FnAt _ _ (mkFn Tryz.f193 [])) rfl rfl rfl rfl rfl ?_
   repeat' (first|refine zW [] ?_|(refine zB [] ?_ ?_<;>intro h<;>try exact zk h)|refine zX [] ?_|refine oF (c0) ?_|refine eF (c0) ?_|(refine zE ?_;(skip))|(((first|refine Yt ?_|skip);exact⟨trivial,_,_,rfl,rfl,.refl,wkE⟩))|((exfalso;(simp at h<;>omega)))|fail)
 .have c0:=okF4 s ls r h0
  rw [show nextQ ls t r=(false,r) by simp [nextQ,h0]];refine acallW_of_run Yo (fnAt Tryz.func193 (by kernel_rfl) (by kernel_rfl):FnAt _ _ (mkFn Tryz.f193 [])) rfl rfl rfl rfl rfl ?_
  repeat' (first|refine zW [] ?_|(refine zB [] ?_ ?_<;>intro h<;>try exact zk h)|refine zX [] ?_|refine oF (c0) ?_|refine eF (c0) ?_|(refine zE ?_;(skip))|(((first|refine Yt ?_|skip);exact⟨trivial,_,_,rfl,rfl,.refl,wkE⟩))|((exfalso;(simp at h<;>omega)))|fail)
theorem name4r (s:List Nat) (ls:List Lx) (r:RS) (cap:Bool) (hb:Bd s ls r):ACall Tryz.prog 195 [.bp 0 0,.d (.bool cap)] (rO s ls r) (.d (.str (nameR s ls cap r).1)) (rO s ls (nameR s ls cap r).2):=by
 have ct:=take4 s ls r hb;have ht:=takeR_t hb;unfold nameR;generalize takeR s ls r=p at ct ht |-;obtain⟨x,r1⟩:=p;simp only at ct ht;have e1:(nameX cap (x,r1)).1=x.t:=rfl;rw [e1];have c3:=refSmall x.t (by omega);have c4:=refCapital x.t (by omega);by_cases h0:r1.f.1=0
 .have c0:=okT4 s ls r1 h0
  by_cases hk:x.k=1
  .cases hc:(if cap then capitalF x.t else smallF x.t) with
   |true =>
    have e2:(nameX cap (x,r1)).2=r1:=by simp only [nameX];rw [if_neg (by simp [h0]),if_neg (by simp [hk]),if_pos hc]
    rw [e2];cases cap with
    |true =>
     rw [show capitalF x.t=true by simpa using hc] at c4;refine acallW_of_run Yo (fnAt Tryz.func195 (by kernel_rfl) (by kernel_rfl):FnAt _ _ (mkFn Tryz.f195 [])) rfl rfl rfl rfl rfl ?_
     repeat' (first|refine zW [] ?_|(refine zB [] ?_ ?_<;>intro h<;>try exact zk h)|refine zX [] ?_|refine oF (ct) ?_|refine eF (ct) ?_|refine oF (c0) ?_|refine eF (c0) ?_|refine zC (c4) ?_|refine zC (c3) ?_|(refine zE ?_;(skip))|(((first|refine Yt ?_|skip);exact⟨trivial,_,_,rfl,rfl,.refl,wkE⟩))|((exfalso;(simp at h<;>omega)))|fail)
    |false =>
     rw [show smallF x.t=true by simpa using hc] at c3;refine acallW_of_run Yo (fnAt Tryz.func195 (by kernel_rfl) (by kernel_rfl):FnAt _ _ (mkFn Tryz.f195 [])) rfl rfl rfl rfl rfl ?_
     repeat' (first|refine zW [] ?_|(refine zB [] ?_ ?_<;>intro h<;>try exact zk h)|refine zX [] ?_|refine oF (ct) ?_|refine eF (ct) ?_|refine oF (c0) ?_|refine eF (c0) ?_|refine zC (c4) ?_|refine zC (c3) ?_|(refine zE ?_;(skip))|(((first|refine Yt ?_|skip);exact⟨trivial,_,_,rfl,rfl,.refl,wkE⟩))|((exfalso;(simp at h<;>omega)))|fail)
   |false =>
    have e2:(nameX cap (x,r1)).2=failR 12 x.a r1:=by simp only [nameX];rw [if_neg (by simp [h0]),if_neg (by simp [hk]),if_neg (by rw [hc];simp)]
    rw [e2];have c5:=fail4 s ls r1 12 x.a;generalize failR 12 x.a r1=r2 at c5 |-;cases cap with
    |true =>
     rw [show capitalF x.t=false by simpa using hc] at c4;refine acallW_of_run Yo (fnAt Tryz.func195 (by kernel_rfl) (by kernel_rfl):FnAt _ _ (mkFn Tryz.f195 [])) rfl rfl rfl rfl rfl ?_
     repeat' (first|refine zW [] ?_|(refine zB [] ?_ ?_<;>intro h<;>try exact zk h)|refine zX [] ?_|refine oF (ct) ?_|refine eF (ct) ?_|refine oF (c0) ?_|refine eF (c0) ?_|refine oF (c5) ?_|refine eF (c5) ?_|refine zC (c4) ?_|refine zC (c3) ?_|(refine zE ?_;(skip))|(((first|refine Yt ?_|skip);exact⟨trivial,_,_,rfl,rfl,.refl,wkE⟩))|((exfalso;(simp at h<;>omega)))|fail)
    |false =>
     rw [show smallF x.t=false by simpa using hc] at c3;refine acallW_of_run Yo (fnAt Tryz.func195 (by kernel_rfl) (by kernel_rfl):FnAt _ _ (mkFn Tryz.f195 [])) rfl rfl rfl rfl rfl ?_
     repeat' (first|refine zW [] ?_|(refine zB [] ?_ ?_<;>intro h<;>try exact zk h)|refine zX [] ?_|refine oF (ct) ?_|refine eF (ct) ?_|refine oF (c0) ?_|refine eF (c0) ?_|refine oF (c5) ?_|refine eF (c5) ?_|refine zC (c4) ?_|refine zC (c3) ?_|(refine zE ?_;(skip))|(((first|refine Yt ?_|skip);exact⟨trivial,_,_,rfl,rfl,.refl,wkE⟩))|((exfalso;(simp at h<;>omega)))|fail)
  .have e2:(nameX cap (x,r1)).2=failR 3 x.a r1:=by simp only [nameX];rw [if_neg (by simp [h0]),if_pos hk]
   rw [e2];have c5:=fail4 s ls r1 3 x.a;generalize failR 3 x.a r1=r2 at c5 |-;refine acallW_of_run Yo (fnAt Tryz.func195 (by kernel_rfl) (by kernel_rfl):FnAt _ _ (mkFn Tryz.f195 [])) rfl rfl rfl rfl rfl ?_
   repeat' (first|refine zW [] ?_|(refine zB [] ?_ ?_<;>intro h<;>try exact zk h)|refine zX [] ?_|refine oF (ct) ?_|refine eF (ct) ?_|refine oF (c0) ?_|refine eF (c0) ?_|refine oF (c5) ?_|refine eF (c5) ?_|(refine zE ?_;(skip))|(((first|refine Yt ?_|skip);exact⟨trivial,_,_,rfl,rfl,.refl,wkE⟩))|((exfalso;(simp at h<;>omega)))|fail)
 .have c0:=okF4 s ls r1 h0
  have e2:(nameX cap (x,r1)).2=r1:=by simp only [nameX];rw [if_pos h0]
  rw [e2];refine acallW_of_run Yo (fnAt Tryz.func195 (by kernel_rfl) (by kernel_rfl):FnAt _ _ (mkFn Tryz.f195 [])) rfl rfl rfl rfl rfl ?_
  repeat' (first|refine zW [] ?_|(refine zB [] ?_ ?_<;>intro h<;>try exact zk h)|refine zX [] ?_|refine oF (ct) ?_|refine eF (ct) ?_|refine oF (c0) ?_|refine eF (c0) ?_|(refine zE ?_;(skip))|(((first|refine Yt ?_|skip);exact⟨trivial,_,_,rfl,rfl,.refl,wkE⟩))|((exfalso;(simp at h<;>omega)))|fail)
end Go.Av
end
noncomputable section
namespace Go.Av
open Go Go.Proofs
set_option maxRecDepth 10000
theorem roomR_x {n w a:Nat} {r:RS}:(roomR n w a r).x=r.x/\(roomR n w a r).pos=r.pos/\(roomR n w a r).alts=r.alts:=by
 unfold roomR failR;split
 .split<;>exact⟨rfl,rfl,rfl⟩
 .exact⟨rfl,rfl,rfl⟩
theorem failR_x {e a:Nat} {r:RS}:(failR e a r).x=r.x/\(failR e a r).pos=r.pos/\(failR e a r).alts=r.alts:=by
 unfold failR;split<;>exact⟨rfl,rfl,rfl⟩
theorem takeR_x {s:List Nat} {ls:List Lx} {r:RS}:(takeR s ls r).2.x=r.x/\(takeR s ls r).2.pos=r.pos+1/\(takeR s ls r).2.alts=r.alts:=by
 have:=peekR_x (s:=s) (ls:=ls) (r:=r);simp only [takeR];exact⟨this.1,by rw [this.2.1],this.2.2⟩
theorem wordR_x {n:Nat} {p:Lx × RS}:(wordR n p).x=p.2.x/\(wordR n p).pos=p.2.pos/\(wordR n p).alts=p.2.alts:=by
 unfold wordR;obtain⟨a1,a2,a3⟩:=roomR_x (n:=n) (w:=6) (a:=p.1.a) (r:=if mayF p.1.t=true then p.2 else failR 12 p.1.a p.2);rw [a1,a2,a3];split
 .exact⟨rfl,rfl,rfl⟩
 .exact failR_x
theorem Bd.of {s:List Nat} {ls:List Lx} {r r':RS} (h:Bd s ls r) (hx:r'.x=r.x) (hp:r'.pos<=16777216) (ha:r'.alts<=16777216):Bd s ls r':=⟨h.s,h.l,hp,ha,by rw [hx];exact h.toks,by rw [hx];exact h.rules,h.len⟩
set_option maxHeartbeats 4000000 in
theorem oneAlt4 (s:List Nat) (ls:List Lx) (r:RS) (hb:Bd s ls r) (hpos:r.f.1=0->r.pos<=ls.length) (ha:r.alts<16777216) (hin:r.alts=24->1<=r.pos/\r.pos<=ls.length) :
  ACall Tryz.prog 197 [.bp 0 0] (rO s ls r) (.d (strs (oneAltR s ls r).1)) (rO s ls (oneAltR s ls r).2):=by
 have b1:=hb.s;have b2:=hb.l;have b7:=hb.len;unfold oneAltR countR;obtain⟨x1,x2,x3⟩:=roomR_x (n:=r.alts) (w:=24) (a:=(ls.getD (r.pos-1) lx0).a) (r:=r);obtain⟨R,hR⟩:∃ R,R=altR s ls (ls.length+1) [] { roomR r.alts 24 (ls.getD (r.pos-1) lx0).a r with alts:=r.alts+1 }:=⟨_,rfl⟩
 rw [<- hR];have hx:R.2.x=r.x:=by
  have gen:∀ (n:Nat) (acc:List (List Nat)) (r0:RS),(altR s ls n acc r0).2.x=r0.x:=by
   intro n
   induction n with
   |zero=>intro acc r0;rfl
   |succ n ih =>
    intro acc r0;simp only [altR];split
    .split
     .rw [ih,wordR_x.1,takeR_x.1,peekR_x.1]
     .exact peekR_x.1
    .rfl
  rw [hR,gen];exact x1
 have eR:rO s ls R.2=[rBox s ls R.2,.room r.x.tokens.length 1,.room r.x.rules.length 2]:=by unfold rO;rw [hx]
 rw [eR];have c6:=fail4 s ls r 6 (ls.getD (r.pos-1) lx0).a;refine acallW_of_run Yo (fnAt Tryz.func197 (by kernel_rfl) (by kernel_rfl):FnAt _ _ (mkFn Tryz.f197 [65])) rfl rfl rfl rfl rfl ?_
 repeat refine zS ?_
 refine zX [65] ?_
 repeat refine zS ?_
 iterate 5 refine zX [65] ?_
 repeat refine zS ?_
 refine Run.mid ⟨PT.ofList [(0,.bp 0 0)],rO s ls (roomR r.alts 24 (ls.getD (r.pos-1) lx0).a r),[]⟩ ?_ ?_
 .by_cases h24:r.alts=24
  .obtain⟨i1,i2⟩:=hin h24
   obtain⟨x,hx⟩:=get_ok (show r.pos-1<ls.length by omega);have hxa:(ls.getD (r.pos-1) lx0).a=x.a:=by rw [List.getD_eq_getElem?_getD,hx];rfl
   have hdec:AV.d (.int .i64 (IntKind.i64.wrap ((r.pos:Int)-1)))=.d (.int .i64 ((r.pos-1:Nat):Int)):=vN8 (by omega) (by omega);rw [hxa] at c6 |-;rw [show roomR r.alts 24 x.a r=failR 6 x.a r by simp [roomR,h24]];refine Run.condT (Eq.trans (b:=AV.d (.bool (((r.alts:Nat):Int) == 24))) rfl (by rw [h24];rfl)) ?_;obtain⟨y1,_,_⟩:=failR_x (e:=6) (a:=x.a) (r:=r);unfold rO rBox at c6 |-;rw [y1] at c6 |-;generalize failR 6 x.a r=r1 at c6 |-
   repeat' (first|refine oX (frz:=[65]) (v:=.d (.int .i64 ((r.pos-1:Nat):Int))) Yo ?_ (he:=(hdec))|refine eX (v:=.d (.int .i64 ((r.pos-1:Nat):Int))) ?_ (he:=(hdec))|refine zW [65] ?_|(refine zB [65] ?_ ?_<;>intro h<;>try exact zk h)|refine zX [65] ?_|refine oF (c6) ?_|refine eF (c6) ?_|refine oI (frz:=[65]) (v:=.d (.ep [.int .i64 (x.k:Nat),.str x.t,.int .i64 (x.a:Nat)])) ?_ (he:=by first|(simp [gD,cellsD,hx]<;>fail)|fail)|refine eI (v:=.d (.ep [.int .i64 (x.k:Nat),.str x.t,.int .i64 (x.a:Nat)])) ?_ (he:=by first|(simp [gD,cellsD,hx]<;>fail)|fail)|(refine zE ?_;(skip))|(exact(by show Tidy _ _ _;exact(ti _ 3)))|((exfalso;(simp at h<;>omega)))|fail)
  .rw [show roomR r.alts 24 (ls.getD (r.pos-1) lx0).a r=r by simp [roomR,h24]]
   refine Run.condF (Eq.trans (b:=AV.d (.bool (((r.alts:Nat):Int) == 24))) rfl (congrArg (fun b=>AV.d (.bool b)) (beq_eq_false_iff_ne.2 (by omega)))) ?_
   repeat' (first|refine zW [65] ?_|(refine zB [65] ?_ ?_<;>intro h<;>try exact zk h)|refine zX [65] ?_|(refine zE ?_;(skip))|(exact(by show Tidy _ _ _;exact(ti _ 3)))|((exfalso;(simp at h<;>omega)))|fail)
 .have hf0:(roomR r.alts 24 (ls.getD (r.pos-1) lx0).a r).f.1=0->r.f.1=0:=by
   unfold roomR failR;split
   .split
    .intro _;assumption
    .exact id
   .exact id
  generalize roomR r.alts 24 (ls.getD (r.pos-1) lx0).a r=r1 at x1 x2 x3 hR hf0 |-;unfold rO rBox;rw [x1,x3];have hinc:AV.d (.int .i64 (IntKind.i64.wrap ((r.alts:Int)+1)))=.d (.int .i64 ((r.alts+1:Nat):Int)):=vN8 (by omega) (by omega)
  repeat' (first|refine oX (frz:=[65]) (v:=.d (.int .i64 ((r.alts+1:Nat):Int))) Yo ?_ (he:=(hinc))|refine eX (v:=.d (.int .i64 ((r.alts+1:Nat):Int))) ?_ (he:=(hinc))|refine zW [65] ?_|(refine zB [65] ?_ ?_<;>intro h<;>try exact zk h)|refine zX [65] ?_|(refine zE ?_;(skip))|((exfalso;(simp at h<;>omega)))|fail)
  refine Run.mkRoom 3 1 [(0,.bp 0 0),(3,.sr 3 1 [])] (by kernel_rfl) (ofList_cases (by intro p hp;simp only [List.mem_cons,List.not_mem_nil,or_false] at hp;rcases hp with rfl|rfl<;>first|exact .inl ⟨rfl,rfl⟩|exact .inr (by kernel_rfl))) ?_;refine Run.loopT (fun y:Nat × List (List Nat) × RS=>⟨PT.ofList [(0,.bp 0 0),(3,.sr 3 1 (y.2.1.map .str))],[rBox s ls y.2.2,.room r.x.tokens.length 1,.room r.x.rules.length 2,.room y.2.1.length 1],[]⟩)
   (fun y=>y.2.2.x=r.x/\(y.2.2.f.1=0->y.2.2.pos<=ls.length)/\y.2.2.pos<=16777216/\y.2.2.alts<=16777216/\y.2.1.length+y.1<=ls.length+1/\ls.length<y.1+y.2.2.pos/\altR s ls y.1 y.2.1 y.2.2=R) (fun y=>y.1) (ls.length+1,[],{ r1 with alts:=r.alts+1 }) ⟨x1,fun h=>by simp only;rw [x2];exact hpos (hf0 h),by simp only;rw [x2];exact hb.pos,by simp only;omega,by simp,by simp only;omega,hR.symm⟩ (by simp only [rBox,x1];exact(ti _ 4)) (fun y hy=>?_)
  obtain⟨n,acc,r2⟩:=y;obtain⟨h1,h2,h3,h4,h5,h6,h7⟩:=hy;simp only at h1 h2 h3 h4 h5 h6 h7 |-;have hb2:Bd s ls r2:=hb.of h1 h3 h4;have eO:∀ r':RS,r'.x=r.x->rO s ls r'=[rBox s ls r',.room r.x.tokens.length 1,.room r.x.rules.length 2]:=fun r' e=>by unfold rO;rw [e]
  by_cases h0:r2.f.1=0
  .have c0:=okT4 s ls r2 h0
   have hp2:=h2 h0;obtain⟨n,rfl⟩:∃ k,n=k+1:=⟨n-1,by omega⟩
   have cp:=peek4 s ls r2 hb2;simp only [altR,h0,if_true] at h7;rw [eO _ h1] at c0 cp;rw [eO _ (peekR_x.1.trans h1)] at cp;rcases Nat.lt_or_ge r2.pos ls.length with hlt|hge
   .obtain⟨x,hx'⟩:=get_ok hlt
    have ep:peekR s ls r2=(x,r2):=by simp [peekR,hx']
    rw [ep] at cp h7;simp only at cp h7;by_cases hk:x.k=1
    .rw [if_pos hk] at h7
     have ct:=take4 s ls r2 hb2;have et:takeR s ls r2=(x,{ r2 with pos:=r2.pos+1 }):=by simp [takeR,ep]
     rw [et] at ct h7;simp only at ct h7;rw [eO r2 h1,eO { r2 with pos:=r2.pos+1 } h1] at ct;have hxt:=b7 x (List.mem_of_getElem? hx');have cs:=refSmall x.t (by omega);have cc:=refCapital x.t (by omega);obtain⟨r3,hr3⟩:∃ r3:RS,r3={ r2 with pos:=r2.pos+1 }:=⟨_,rfl⟩
     rw [<- hr3] at ct h7;have q1:r3.x=r.x:=by rw [hr3];exact h1
     have q2:r3.pos=r2.pos+1:=by rw [hr3]
     have q3:r3.alts<=16777216:=by rw [hr3];exact h4
     have q4:r3.f.1=0:=by rw [hr3];exact h0
     clear hr3;obtain⟨r4,hr4⟩:∃ r4,r4=if mayF x.t=true then r3 else failR 12 x.a r3:=⟨_,rfl⟩
     have w4:r4.x=r3.x/\r4.pos=r3.pos/\r4.alts=r3.alts:=by
      rw [hr4];split
      .exact⟨rfl,rfl,rfl⟩
      .exact failR_x
     obtain⟨r5,hr5⟩:∃ r5,r5=roomR acc.length 6 x.a r4:=⟨_,rfl⟩
     have w5:r5.x=r4.x/\r5.pos=r4.pos/\r5.alts=r4.alts:=by rw [hr5];exact roomR_x
     have e5:wordR acc.length (x,r3)=r5:=by rw [hr5,hr4];rfl
     rw [e5] at h7;have c4:mayF x.t=false->ACall Tryz.prog 191 [.bp 0 0,.d (.int .i64 (12:Nat)),.d (.int .i64 (x.a:Nat))] [rBox s ls r3,.room r.x.tokens.length 1,.room r.x.rules.length 2] (.tup []) [rBox s ls r4,.room r.x.tokens.length 1,.room r.x.rules.length 2]:=fun hm=>by
      have:=fail4 s ls r3 12 x.a;rw [eO _ q1,eO _ (failR_x.1.trans q1)] at this;rw [hr4,if_neg (by rw [hm];simp)];exact this
     have c5:acc.length=6->ACall Tryz.prog 191 [.bp 0 0,.d (.int .i64 (6:Nat)),.d (.int .i64 (x.a:Nat))] [rBox s ls r4,.room r.x.tokens.length 1,.room r.x.rules.length 2] (.tup []) [rBox s ls r5,.room r.x.tokens.length 1,.room r.x.rules.length 2]:=fun hm=>by
      have:=fail4 s ls r4 6 x.a;rw [eO _ (w4.1.trans q1),eO _ (failR_x.1.trans (w4.1.trans q1))] at this;rw [hr5,roomR,if_pos hm];exact this
     have g5:r5.x=r.x:=by rw [w5.1,w4.1,q1]
     have g6:r5.pos=r2.pos+1:=by rw [w5.2.1,w4.2.1,q2]
     have g7:r5.alts<=16777216:=by rw [w5.2.2,w4.2.2];exact q3
     have fin:∀ s1:S,Tidy 3 s1 ⟨PT.ofList [(0,.bp 0 0),(3,.sr 3 1 (acc.map .str++[DV.str x.t]))],[rBox s ls r5,.room r.x.tokens.length 1,.room r.x.rules.length 2,.room (acc.length+1) 1],[]⟩ ->
       ∃ x':Nat × List (List Nat) × RS,(x'.2.2.x=r.x/\(x'.2.2.f.1=0->x'.2.2.pos<=ls.length)/\x'.2.2.pos<=16777216/\x'.2.2.alts<=16777216/\x'.2.1.length+x'.1<=ls.length+1/\ls.length<x'.1+x'.2.2.pos/\altR s ls x'.1 x'.2.1 x'.2.2=R)/\x'.1<n+1 /\
        Tidy 3 s1 ⟨PT.ofList [(0,.bp 0 0),(3,.sr 3 1 (x'.2.1.map .str))],[rBox s ls x'.2.2,.room r.x.tokens.length 1,.room r.x.rules.length 2,.room x'.2.1.length 1],[]⟩:=fun s1 ht =>
      ⟨(n,acc++[x.t],r5),⟨g5,fun _=>by simp only;omega,by simp only;omega,g7,by simp only [List.length_append,List.length_cons,List.length_nil];omega,by simp only;omega,h7⟩,Nat.lt_succ_self _,by simpa using ht⟩
     have hk':AV.d (.bool (decide (((x.k:Nat):Int)=1)))=.d (.bool true):=by rw [hk];rfl
     by_cases h6l:acc.length=6
     .have c5:=c5 h6l
      cases hs:smallF x.t with
      |true =>
       have:r4=r3:=by rw [hr4,if_pos (by simp [mayF,hs])]
       subst this;rw [hs] at cs
       repeat' (first|refine zW [65] ?_|(refine zB [65] ?_ ?_<;>intro h<;>try exact zk h)|refine zX [65] ?_|refine oF (c0) ?_|refine eF (c0) ?_|refine oF (cp) ?_|refine eF (cp) ?_|refine oF (ct) ?_|refine eF (ct) ?_|refine oF (c5) ?_|refine eF (c5) ?_|refine zC (cs) ?_|refine zC (cc) ?_|refine oX (frz:=[65]) Yo ?_ (hv:=app1) (hf:=rfl) (he:=rfl)|refine eX ?_ (hv:=app1) (hf:=rfl) (he:=rfl)|refine oX (frz:=[65]) Yo ?_ (hv:=app0) (hf:=rfl) (he:=rfl)|refine eX ?_ (hv:=app0) (hf:=rfl) (he:=rfl)|(refine zE ?_;(skip))|(exact fin _ (ti _ 4))|((exfalso;(simp at h<;>omega)))|fail)
      |false =>
       rw [hs] at cs;cases hc:capitalF x.t with
       |true =>
        have:r4=r3:=by rw [hr4,if_pos (by simp [mayF,hc])]
        subst this;rw [hc] at cc
        repeat' (first|refine zW [65] ?_|(refine zB [65] ?_ ?_<;>intro h<;>try exact zk h)|refine zX [65] ?_|refine oF (c0) ?_|refine eF (c0) ?_|refine oF (cp) ?_|refine eF (cp) ?_|refine oF (ct) ?_|refine eF (ct) ?_|refine oF (c5) ?_|refine eF (c5) ?_|refine zC (cs) ?_|refine zC (cc) ?_|refine oX (frz:=[65]) Yo ?_ (hv:=app1) (hf:=rfl) (he:=rfl)|refine eX ?_ (hv:=app1) (hf:=rfl) (he:=rfl)|refine oX (frz:=[65]) Yo ?_ (hv:=app0) (hf:=rfl) (he:=rfl)|refine eX ?_ (hv:=app0) (hf:=rfl) (he:=rfl)|(refine zE ?_;(skip))|(exact fin _ (ti _ 4))|((exfalso;(simp at h<;>omega)))|fail)
       |false =>
        have c4:=c4 (by simp [mayF,hs,hc]);rw [hc] at cc
        repeat' (first|refine zW [65] ?_|(refine zB [65] ?_ ?_<;>intro h<;>try exact zk h)|refine zX [65] ?_|refine oF (c0) ?_|refine eF (c0) ?_|refine oF (cp) ?_|refine eF (cp) ?_|refine oF (ct) ?_|refine eF (ct) ?_|refine oF (c4) ?_|refine eF (c4) ?_|refine oF (c5) ?_|refine eF (c5) ?_|refine zC (cs) ?_|refine zC (cc) ?_|refine oX (frz:=[65]) Yo ?_ (hv:=app1) (hf:=rfl) (he:=rfl)|refine eX ?_ (hv:=app1) (hf:=rfl) (he:=rfl)|refine oX (frz:=[65]) Yo ?_ (hv:=app0) (hf:=rfl) (he:=rfl)|refine eX ?_ (hv:=app0) (hf:=rfl) (he:=rfl)|(refine zE ?_;(skip))|(exact fin _ (ti _ 4))|((exfalso;(simp at h<;>omega)))|fail)
     .have:r5=r4:=by rw [hr5,roomR,if_neg h6l]
      subst this;cases hs:smallF x.t with
      |true =>
       have:r5=r3:=by rw [hr4,if_pos (by simp [mayF,hs])]
       subst this;rw [hs] at cs
       repeat' (first|refine zW [65] ?_|(refine zB [65] ?_ ?_<;>intro h<;>try exact zk h)|refine zX [65] ?_|refine oF (c0) ?_|refine eF (c0) ?_|refine oF (cp) ?_|refine eF (cp) ?_|refine oF (ct) ?_|refine eF (ct) ?_|refine zC (cs) ?_|refine zC (cc) ?_|refine oX (frz:=[65]) Yo ?_ (hv:=app1) (hf:=rfl) (he:=rfl)|refine eX ?_ (hv:=app1) (hf:=rfl) (he:=rfl)|refine oX (frz:=[65]) Yo ?_ (hv:=app0) (hf:=rfl) (he:=rfl)|refine eX ?_ (hv:=app0) (hf:=rfl) (he:=rfl)|(refine zE ?_;(skip))|(exact fin _ (ti _ 4))|((exfalso;(simp at h<;>omega)))|fail)
      |false =>
       rw [hs] at cs;cases hc:capitalF x.t with
       |true =>
        have:r5=r3:=by rw [hr4,if_pos (by simp [mayF,hc])]
        subst this;rw [hc] at cc
        repeat' (first|refine zW [65] ?_|(refine zB [65] ?_ ?_<;>intro h<;>try exact zk h)|refine zX [65] ?_|refine oF (c0) ?_|refine eF (c0) ?_|refine oF (cp) ?_|refine eF (cp) ?_|refine oF (ct) ?_|refine eF (ct) ?_|refine zC (cs) ?_|refine zC (cc) ?_|refine oX (frz:=[65]) Yo ?_ (hv:=app1) (hf:=rfl) (he:=rfl)|refine eX ?_ (hv:=app1) (hf:=rfl) (he:=rfl)|refine oX (frz:=[65]) Yo ?_ (hv:=app0) (hf:=rfl) (he:=rfl)|refine eX ?_ (hv:=app0) (hf:=rfl) (he:=rfl)|(refine zE ?_;(skip))|(exact fin _ (ti _ 4))|((exfalso;(simp at h<;>omega)))|fail)
       |false =>
        have c4:=c4 (by simp [mayF,hs,hc]);rw [hc] at cc
        repeat' (first|refine zW [65] ?_|(refine zB [65] ?_ ?_<;>intro h<;>try exact zk h)|refine zX [65] ?_|refine oF (c0) ?_|refine eF (c0) ?_|refine oF (cp) ?_|refine eF (cp) ?_|refine oF (ct) ?_|refine eF (ct) ?_|refine oF (c4) ?_|refine eF (c4) ?_|refine zC (cs) ?_|refine zC (cc) ?_|refine oX (frz:=[65]) Yo ?_ (hv:=app1) (hf:=rfl) (he:=rfl)|refine eX ?_ (hv:=app1) (hf:=rfl) (he:=rfl)|refine oX (frz:=[65]) Yo ?_ (hv:=app0) (hf:=rfl) (he:=rfl)|refine eX ?_ (hv:=app0) (hf:=rfl) (he:=rfl)|(refine zE ?_;(skip))|(exact fin _ (ti _ 4))|((exfalso;(simp at h<;>omega)))|fail)
    .rw [if_neg hk] at h7
     subst h7
     repeat' (first|refine zW [65] ?_|(refine zB [65] ?_ ?_<;>intro h<;>try exact zk h)|refine zX [65] ?_|refine oF (c0) ?_|refine eF (c0) ?_|refine oF (cp) ?_|refine eF (cp) ?_|(refine zE ?_;(skip))|(((first|refine Yt ?_|skip);exact⟨trivial,_,_,rfl,rfl,.sr,wkE⟩))|((exfalso;(simp at h<;>omega)))|fail)
   .have ep:peekR s ls r2=(lx0,failR 5 s.length r2):=by simp [peekR,List.getElem?_eq_none hge]
    rw [ep] at cp h7;rw [if_neg (by simp)] at h7;simp only at cp h7;subst h7;simp only;generalize failR 5 s.length r2=r3 at cp
    repeat' (first|refine zW [65] ?_|(refine zB [65] ?_ ?_<;>intro h<;>try exact zk h)|refine zX [65] ?_|refine oF (c0) ?_|refine eF (c0) ?_|refine oF (cp) ?_|refine eF (cp) ?_|(refine zE ?_;(skip))|(((first|refine Yt ?_|skip);exact⟨trivial,_,_,rfl,rfl,.sr,wkE⟩))|((exfalso;(simp at h<;>omega)))|fail)
  .have c0:=okF4 s ls r2 h0
   rw [eO _ h1] at c0;rw [altR_f h0] at h7;subst h7
   repeat' (first|refine zW [65] ?_|(refine zB [65] ?_ ?_<;>intro h<;>try exact zk h)|refine zX [65] ?_|refine oF (c0) ?_|refine eF (c0) ?_|(refine zE ?_;(skip))|(((first|refine Yt ?_|skip);exact⟨trivial,_,_,rfl,rfl,.sr,wkE⟩))|((exfalso;(simp at h<;>omega)))|fail)
end Go.Av
end
noncomputable section
namespace Go.Av
open Go Go.Proofs
set_option maxRecDepth 10000
theorem mustR_x {s:List Nat} {ls:List Lx} {r:RS} {k:Nat} {t:List Nat}:(mustR s ls k t r).x=r.x/\(mustR s ls k t r).pos=r.pos+1/\(mustR s ls k t r).alts=r.alts:=by
 have h:=takeR_x (s:=s) (ls:=ls) (r:=r);unfold mustR mustX;split
 .have:=failR_x (e:=3) (a:=(takeR s ls r).1.a) (r:=(takeR s ls r).2)
  rw [this.1,this.2.1,this.2.2];exact h
 .exact h
theorem nameR_x {s:List Nat} {ls:List Lx} {r:RS} {c:Bool}:(nameR s ls c r).2.x=r.x/\(nameR s ls c r).2.pos=r.pos+1/\(nameR s ls c r).2.alts=r.alts:=by
 have h:=takeR_x (s:=s) (ls:=ls) (r:=r);have f3:=failR_x (e:=3) (a:=(takeR s ls r).1.a) (r:=(takeR s ls r).2);have f12:=failR_x (e:=12) (a:=(takeR s ls r).1.a) (r:=(takeR s ls r).2);unfold nameR nameX;simp only;by_cases h0:(takeR s ls r).2.f.1≠0
 .rw [if_pos h0];exact h
 .rw [if_neg h0]
  by_cases h1:(takeR s ls r).1.k≠1
  .rw [if_pos h1,f3.1,f3.2.1,f3.2.2];exact h
  .rw [if_neg h1]
   by_cases h2:(if c=true then capitalF (takeR s ls r).1.t else smallF (takeR s ls r).1.t)=true
   .rw [if_pos h2];exact h
   .rw [if_neg h2,f12.1,f12.2.1,f12.2.2];exact h
theorem newR_x {l:List (List Nat)} {t:List Nat} {a:Nat} {r:RS}:(newR l t a r).x=r.x/\(newR l t a r).pos=r.pos/\(newR l t a r).alts=r.alts:=by
 unfold newR;split
 .exact failR_x
 .exact⟨rfl,rfl,rfl⟩
theorem nextQ_x {ls:List Lx} {r:RS} {t:List Nat}:(nextQ ls t r).2.x=r.x/\(nextQ ls t r).2.pos<=r.pos+1/\(nextQ ls t r).2.alts=r.alts:=by
 unfold nextQ;split
 .exact⟨rfl,Nat.le_refl _,rfl⟩
 .exact⟨rfl,Nat.le_succ _,rfl⟩
theorem altR_x {s:List Nat} {ls:List Lx}:∀ (n:Nat) (acc:List (List Nat)) (r:RS),(altR s ls n acc r).2.x=r.x/\(altR s ls n acc r).2.alts=r.alts/\r.pos<=(altR s ls n acc r).2.pos/\((r.f.1=0->r.pos<=ls.length)->r.pos<=ls.length+2->(altR s ls n acc r).2.pos<=ls.length+2) /\
  ((r.f.1=0->r.pos<=ls.length)->(altR s ls n acc r).2.f.1=0->(altR s ls n acc r).2.pos<=ls.length)
 |0,acc,r=>⟨rfl,rfl,Nat.le_refl _,fun _ h=>h,fun h h'=>h h'⟩
 |n+1,acc,r=>by
  simp only [altR];split
  .rename_i h0
   split
   .rename_i hk
    have hlt:r.pos<ls.length:=by
     rcases Nat.lt_or_ge r.pos ls.length with h|h
     .exact h
     .rw [show(peekR s ls r).1=lx0 by simp [peekR,List.getElem?_eq_none h]] at hk
      cases hk
    have ih:=altR_x (s:=s) (ls:=ls) n (acc++[(takeR s ls (peekR s ls r).2).1.t]) (wordR acc.length (takeR s ls (peekR s ls r).2));have a1:=wordR_x (n:=acc.length) (p:=takeR s ls (peekR s ls r).2);have a2:=takeR_x (s:=s) (ls:=ls) (r:=(peekR s ls r).2);have a3:=peekR_x (s:=s) (ls:=ls) (r:=r);have hp:(wordR acc.length (takeR s ls (peekR s ls r).2)).pos=r.pos+1:=by rw [a1.2.1,a2.2.1,a3.2.1]
    refine⟨by rw [ih.1,a1.1,a2.1,a3.1],by rw [ih.2.1,a1.2.2,a2.2.2,a3.2.2],by have:=ih.2.2.1;omega,fun _ _=>ih.2.2.2.1 (fun _=>by omega) (by omega),fun _ h'=>ih.2.2.2.2 (fun _=>by omega) h'⟩
   .have a3:=peekR_x (s:=s) (ls:=ls) (r:=r)
    refine⟨a3.1,a3.2.2,by rw [a3.2.1];exact Nat.le_refl _,fun _ h=>by rw [a3.2.1];exact h,fun h _=>by rw [a3.2.1];exact h h0⟩
  .rename_i h0
   exact⟨rfl,rfl,Nat.le_refl _,fun _ h=>h,fun h h'=>h h'⟩
theorem roomR_f0 {n w a:Nat} {r:RS} (h:(roomR n w a r).f.1=0):r.f.1=0:=by
 unfold roomR failR at h;split at h
 .split at h
  .assumption
  .exact h
 .exact h
theorem oneAltR_x {s:List Nat} {ls:List Lx} {r:RS} (h:r.f.1=0->r.pos<=ls.length):(oneAltR s ls r).2.x=r.x/\(oneAltR s ls r).2.alts=r.alts+1/\(r.pos<=ls.length+2->(oneAltR s ls r).2.pos<=ls.length+2)/\((oneAltR s ls r).2.f.1=0->(oneAltR s ls r).2.pos<=ls.length):=by
 have a1:=roomR_x (n:=r.alts) (w:=24) (a:=(ls.getD (r.pos-1) lx0).a) (r:=r);have a2:=altR_x (s:=s) (ls:=ls) (ls.length+1) [] (countR ls r);have hf:(countR ls r).f.1=0->(countR ls r).pos<=ls.length:=fun h0=>by simp only [countR] at h0 |-;rw [a1.2.1];exact h (roomR_f0 h0)
 unfold oneAltR;refine⟨by rw [a2.1];exact a1.1,by rw [a2.2.1];simp only [countR],fun hp=>a2.2.2.2.1 hf (by simp only [countR];rw [a1.2.1];exact hp),a2.2.2.2.2 hf⟩
theorem nextQ_T {ls:List Lx} {r:RS} {t:List Nat} (h:(nextQ ls t r).1=true):nextQ ls t r=(true,{ r with pos:=r.pos+1 })/\r.f.1=0/\r.pos<ls.length:=by
 unfold nextQ at h |-;split at h
 .rename_i hc
  rw [if_pos hc];refine⟨rfl,hc.1,?_⟩;rcases Nat.lt_or_ge r.pos ls.length with hlt|hge
  .exact hlt
  .rw [List.drop_eq_nil_of_le hge] at hc;cases hc.2
 .cases h
theorem nextQ_F {ls:List Lx} {r:RS} {t:List Nat} (h:(nextQ ls t r).1=false):nextQ ls t r=(false,r):=by
 unfold nextQ at h |-;split at h
 .cases h
 .rename_i hc
  rw [if_neg hc]
theorem altsR_x {s:List Nat} {ls:List Lx}:∀ (n:Nat) (acc:List (List (List Nat))) (r:RS),(r.f.1=0->r.pos<=ls.length)->r.pos<=ls.length+2->(altsR s ls n acc r).2.x=r.x/\(altsR s ls n acc r).2.pos<=ls.length+2/\(altsR s ls n acc r).2.alts<=r.alts+n
 |0,acc,r,_,h=>⟨rfl,h,Nat.le_refl _⟩
 |n+1,acc,r,hf,h=>by
  have a1:=oneAltR_x (s:=s) (ls:=ls) hf;simp only [altsR];cases hq:(nextQ ls sBar (oneAltR s ls r).2).1 with
  |true =>
   obtain⟨e,q1,q2⟩:=nextQ_T hq;have ih:=altsR_x (s:=s) (ls:=ls) n (acc++[(oneAltR s ls r).1]) (nextQ ls sBar (oneAltR s ls r).2).2 (fun _=>by rw [e];simp only;omega) (by rw [e];simp only;omega);rw [if_pos rfl];refine⟨ih.1.trans (by rw [e];exact a1.1),ih.2.1,?_⟩;have ea:(nextQ ls sBar (oneAltR s ls r).2).2.alts=r.alts+1:=by rw [e];exact a1.2.1
   have:=ih.2.2;omega
  |false =>
   rw [if_neg (by simp),nextQ_F hq];exact⟨a1.1,a1.2.2.1 h,by have:=a1.2.1;simp only;omega⟩
end Go.Av
end
noncomputable section
namespace Go.Av
open Go Go.Proofs
set_option maxRecDepth 10000
theorem mustR_len {s:List Nat} {ls:List Lx} {r:RS} {k:Nat} {t:List Nat} (h:(mustR s ls k t r).f.1=0):r.f.1=0/\∃ x,ls[r.pos]?=some x/\r.pos<ls.length:=by
 by_cases h0:r.f.1=0
 .rcases Nat.lt_or_ge r.pos ls.length with hlt|hge
  .exact⟨h0,ls[r.pos],by simp [hlt],hlt⟩
  .exfalso
   have e:takeR s ls r=(lx0,{ r with f:=(5,s.length),pos:=r.pos+1 }):=by simp [takeR,peekR,List.getElem?_eq_none hge,failR,h0]
   unfold mustR mustX at h;rw [e] at h;simp at h
 .rw [mustR_f h0] at h
  exact absurd h h0
set_option maxHeartbeats 8000000 in
theorem rule4 (s:List Nat) (ls:List Lx) (r:RS) (hb:Bd s ls r) (hp0:r.pos<=ls.length+2) (hf:FitsX r.x) (ha:r.alts+ls.length<16777000) :
  ACall Tryz.prog 107 [.bp 0 0] (rO s ls r) (.tup []) (rO s ls (ruleR s ls r)):=by
 have b1:=hb.s;have b2:=hb.l;have b7:=hb.len;have cp:=peek4 s ls r hb;have tp:=peekR_t hb;have xp:=peekR_x (s:=s) (ls:=ls) (r:=r);simp only [ruleR];generalize peekR s ls r=p at cp tp xp |-;obtain⟨x0,r0⟩:=p;simp only at cp tp xp |-;have hb0:Bd s ls r0:=hb.of xp.1 (by rw [xp.2.1];exact hb.pos) (by rw [xp.2.2];exact hb.alts);have cn:=name4r s ls r0 true hb0;have xn:=nameR_x (s:=s) (ls:=ls) (r:=r0) (c:=true);generalize nameR s ls true r0=q at cn xn |-;obtain⟨nm,r1⟩:=q;simp only at cn xn |-;have f1:FitsX r1.x:=by rw [xn.1,xp.1];exact hf
 have cr:=rules08 r1.x f1;have ch:=has08 (ruleNames r1.x) nm (by have:=f1.rules;simp;omega);obtain⟨r2,hr2⟩:∃ r2,r2=if r1.f.1=0 then newR (ruleNames r1.x) nm x0.a r1 else r1:=⟨_,rfl⟩
 have x2:r2.x=r1.x/\r2.pos=r1.pos/\r2.alts=r1.alts:=by
  rw [hr2];split
  .exact newR_x
  .exact⟨rfl,rfl,rfl⟩
 rw [<- hr2];obtain⟨r3,hr3⟩:∃ r3,r3=roomR r2.x.rules.length 8 x0.a r2:=⟨_,rfl⟩
 have x3:r3.x=r2.x/\r3.pos=r2.pos/\r3.alts=r2.alts:=by rw [hr3];exact roomR_x
 rw [<- hr3];have c8:=fail4 s ls r1 8 x0.a;have c6:=fail4 s ls r2 6 x0.a;have eQ:∀ r':RS,r'.x=r.x->rO s ls r'=[rBox s ls r',.room r.x.tokens.length 1,.room r.x.rules.length 2]:=fun r' e=>by unfold rO;rw [e]
 have g1:r1.x=r.x:=xn.1.trans xp.1;have g2:r2.x=r.x:=x2.1.trans g1;have g3:r3.x=r.x:=x3.1.trans g2;have p3:r3.pos=r.pos+1:=by rw [x3.2.1,x2.2.1,xn.2.1,xp.2.1]
 have a3:r3.alts=r.alts:=by rw [x3.2.2,x2.2.2,xn.2.2,xp.2.2]
 have hb3:Bd s ls r3:=hb.of g3 (by omega) (by omega);have cm:=must4 s ls r3 3 sEq hb3;have x4:=mustR_x (s:=s) (ls:=ls) (r:=r3) (k:=3) (t:=sEq);have l4:=mustR_len (s:=s) (ls:=ls) (r:=r3) (k:=3) (t:=sEq);generalize mustR s ls 3 sEq r3=r4 at cm x4 l4 |-;obtain⟨v,hv⟩:∃ v,v=if r4.f.1=0 then altsR s ls (ls.length+1) [] r4 else([],r4):=⟨_,rfl⟩
 rw [<- hv];have g4:r4.x=r.x:=x4.1.trans g3;have p4:r4.pos=r.pos+2:=by rw [x4.2.1,p3]
 have a4:r4.alts=r.alts:=x4.2.2.trans a3;have hvx:v.2.x=r.x/\v.2.pos<=ls.length+5/\v.2.alts<=16777100:=by
  rw [hv];split
  .rename_i h0
   obtain⟨_,_,_,l5⟩:=l4 h0;have:=altsR_x (s:=s) (ls:=ls) (ls.length+1) [] r4 (fun _=>by omega) (by omega);exact⟨this.1.trans g4,by omega,by omega⟩
  .exact⟨g4,by simp only;omega,by simp only;omega⟩
 have hbv:Bd s ls v.2:=hb.of hvx.1 (by omega) (by omega);have cm2:=must4 s ls v.2 3 sSemi hbv;have x5:=mustR_x (s:=s) (ls:=ls) (r:=v.2) (k:=3) (t:=sSemi);generalize mustR s ls 3 sSemi v.2=r5 at cm2 x5 |-;have g5:r5.x=r.x:=x5.1.trans hvx.1;have eXr:rO s ls { r5 with x:={ r5.x with rules:=r5.x.rules++[⟨nm,v.1⟩] } }=[.box [.d (.str s),.d (.sl 3 (ls.map encL)),.d (.int .i64 (r5.pos:Nat)),.d (.int .i64 (r5.f.1:Nat)),.d (.int .i64 (r5.f.2:Nat)),.d (.int .i64 (r5.alts:Nat)),.d (.int .i64 r5.x.k),.sr 1 1 (r5.x.tokens.map .str),.d (.str r5.x.sep),.d (.str r5.x.start),.sr 2 2 (r5.x.rules.map encR++[encR ⟨nm,v.1⟩])],.room r.x.tokens.length 1,.room (r.x.rules.length+1) 2]:=by
  unfold rO rBox;simp only [g5,List.length_append,List.length_cons,List.length_nil,List.map_append,List.map_cons,List.map_nil]
 rw [eXr,eQ r rfl];rw [eQ r rfl,eQ r0 xp.1] at cp;rw [eQ r0 xp.1,eQ r1 g1] at cn;rw [eQ r3 g3,eQ r4 g4] at cm;rw [eQ v.2 hvx.1,eQ r5 g5] at cm2;rw [eQ r1 g1,eQ _ (failR_x.1.trans g1)] at c8;rw [eQ r2 g2,eQ _ (failR_x.1.trans g2)] at c6;refine acallW_of_run Yo (fnAt Tryz.func107 (by kernel_rfl) (by kernel_rfl):FnAt _ _ (mkFn Tryz.f107 [48,60])) rfl rfl rfl rfl rfl ?_
 repeat' (first|refine zR [48,60] ?_|refine oF (cp) ?_|refine eF (cp) ?_|refine oF (cn) ?_|refine eF (cn) ?_|fail)
 refine Yq ?_;refine Run.mid ⟨PT.ofList [(0,.bp 0 0),(2,.d (.int .i64 (x0.a:Nat))),(3,.d (.str nm))],[rBox s ls r2,.room r.x.tokens.length 1,.room r.x.rules.length 2],[]⟩ ?_ ?_
 .by_cases h0:r1.f.1=0
  .have c0:=okT4 s ls r1 h0
   rw [eQ r1 g1] at c0;rw [if_pos h0,newR] at hr2;unfold hasF at hr2;generalize (ruleNames r1.x).any (fun y=>decide (y=nm))=b at ch hr2;cases b with
   |true =>
    rw [if_pos rfl] at hr2;rw [<- hr2] at c8
    repeat' (first|refine zW [48,60] ?_|(refine zB [48,60] ?_ ?_<;>intro h<;>try exact zk h)|refine zX [48,60] ?_|refine oF (c0) ?_|refine eF (c0) ?_|refine oF (c8) ?_|refine eF (c8) ?_|refine oW cr ?_|refine zC (ch) ?_|(refine zE ?_;(skip))|(exact(by show Tidy _ _ _;exact(ti _ 3)))|((exfalso;(simp at h<;>omega)))|fail)
   |false =>
    rw [if_neg (by simp)] at hr2;subst hr2
    repeat' (first|refine zW [48,60] ?_|(refine zB [48,60] ?_ ?_<;>intro h<;>try exact zk h)|refine zX [48,60] ?_|refine oF (c0) ?_|refine eF (c0) ?_|refine oW cr ?_|refine zC (ch) ?_|(refine zE ?_;(skip))|(exact(by show Tidy _ _ _;exact(ti _ 3)))|((exfalso;(simp at h<;>omega)))|fail)
  .have c0:=okF4 s ls r1 h0
   rw [eQ r1 g1] at c0;rw [if_neg h0] at hr2;subst hr2
   repeat' (first|refine zW [48,60] ?_|(refine zB [48,60] ?_ ?_<;>intro h<;>try exact zk h)|refine zX [48,60] ?_|refine oF (c0) ?_|refine eF (c0) ?_|(refine zE ?_;(skip))|(exact(by show Tidy _ _ _;exact(ti _ 3)))|((exfalso;(simp at h<;>omega)))|fail)
 .refine Yq ?_
  refine Run.mid ⟨PT.ofList [(0,.bp 0 0),(2,.d (.int .i64 (x0.a:Nat))),(3,.d (.str nm))],[rBox s ls r3,.room r.x.tokens.length 1,.room r.x.rules.length 2],[]⟩ ?_ ?_
  .rw [roomR] at hr3
   by_cases h8:r2.x.rules.length=8
   .rw [if_pos h8] at hr3
    rw [<- hr3] at c6
    repeat' (first|refine zW [48,60] ?_|(refine zB [48,60] ?_ ?_<;>intro h<;>try exact zk h)|refine zX [48,60] ?_|refine oF (c6) ?_|refine eF (c6) ?_|(refine zE ?_;(skip))|(exact(by show Tidy _ _ _;exact(ti _ 3)))|((exfalso;(simp at h<;>omega)))|fail)
   .rw [if_neg h8] at hr3
    subst hr3
    repeat' (first|refine zW [48,60] ?_|(refine zB [48,60] ?_ ?_<;>intro h<;>try exact zk h)|refine zX [48,60] ?_|(refine zE ?_;(skip))|(exact(by show Tidy _ _ _;exact(ti _ 3)))|((exfalso;(simp at h<;>omega)))|fail)
  .repeat' (first|refine zR [48,60] ?_|refine oF (cm) ?_|refine eF (cm) ?_|fail)
   refine Yq ?_;refine Run.cellRoom 3 1 1 ?_;refine Run.mid ⟨PT.ofList [(0,.bp 0 0),(4,.bp 3 0)],[rBox s ls v.2,.room r.x.tokens.length 1,.room r.x.rules.length 2,.box [.d (.str nm),.sr 4 1 (v.1.map strs)],.room v.1.length 1],[]⟩ ?_ ?_
   .have c0:=okB4 s ls r4
    rw [eQ r4 g4] at c0;have hv0:(decide (r4.f.1=0)=true->altsR s ls (ls.length+1) [] r4=v/\r4.pos<=ls.length/\1<=r4.pos)/\(decide (r4.f.1=0)=false->v=([],r4)):=by
     refine⟨fun h=>?_,fun h=>?_⟩
     .have h0:=of_decide_eq_true h
      obtain⟨_,_,_,l5⟩:=l4 h0;exact⟨by rw [hv,if_pos h0],by omega,by omega⟩
     .have h0:=of_decide_eq_false h
      rw [hv,if_neg h0]
    generalize decide (r4.f.1=0)=b0 at c0 hv0
    repeat' (first|refine zW [48,60] ?_|(refine zB [48,60] ?_ ?_<;>intro h<;>try exact zk h)|refine zX [48,60] ?_|refine oF (c0) ?_|refine eF (c0) ?_|(refine zE ?_;(skip))|((exfalso;(simp at h<;>omega)))|fail)
    refine Run.loopT (fun y:(Nat × List (List (List Nat))) × RS × Bool=>⟨PT.ofList [(0,.bp 0 0),(4,.bp 3 0),(5,.d (.bool y.2.2))],[rBox s ls y.2.1,.room r.x.tokens.length 1,.room r.x.rules.length 2,.box [.d (.str nm),.sr 4 1 (y.1.2.map strs)],.room y.1.2.length 1],[]⟩)
     (fun y=>y.2.1.x=r.x/\y.1.2.length+y.1.1<=ls.length+1/\(y.2.2=true->altsR s ls y.1.1 y.1.2 y.2.1=v/\y.2.1.pos<=ls.length/\1<=y.2.1.pos/\y.2.1.alts+y.1.1<=16777100/\ls.length<y.1.1+y.2.1.pos)/\(y.2.2=false->v=(y.1.2,y.2.1)))
     (fun y=>y.1.1) ((ls.length+1,[]),r4,b0) ⟨g4,by simp,fun h=>⟨(hv0.1 h).1,(hv0.1 h).2.1,(hv0.1 h).2.2,by simp only;omega,by simp only;omega⟩,fun h=>hv0.2 h⟩ (ti _ 5) (fun y hy=>?_)
    obtain⟨⟨n,acc⟩,r6,b⟩:=y;obtain⟨h1,h2,h3,h4⟩:=hy;simp only at h1 h2 h3 h4 |-;cases b with
    |false =>
     have:=h4 rfl;subst this
     repeat' (first|refine zW [48,60] ?_|(refine zB [48,60] ?_ ?_<;>intro h<;>try exact zk h)|refine zX [48,60] ?_|(refine zE ?_;(skip))|(exact(by show Tidy _ _ _;exact(ti _ 5)))|((exfalso;(simp at h<;>omega)))|fail)
    |true =>
     obtain⟨k1,k2,k3,k4,k5⟩:=h3 rfl;obtain⟨n,rfl⟩:∃ j,n=j+1:=⟨n-1,by omega⟩
     have hb6:Bd s ls r6:=hb.of h1 (by omega) (by omega);have ca:=oneAlt4 s ls r6 hb6 (fun _=>k2) (by omega) (fun _=>⟨k3,k2⟩);have a1:=oneAltR_x (s:=s) (ls:=ls) (r:=r6) (fun _=>k2);have a2:r6.pos<=(oneAltR s ls r6).2.pos:=by
      have:=(altR_x (s:=s) (ls:=ls) (ls.length+1) [] (countR ls r6)).2.2.1;have h':=(roomR_x (n:=r6.alts) (w:=24) (a:=(ls.getD (r6.pos-1) lx0).a) (r:=r6)).2.1;have e':(countR ls r6).pos=r6.pos:=h';rw [e'] at this;exact this
     simp only [altsR] at k1;generalize oneAltR s ls r6=q1 at ca a1 a2 k1;obtain⟨al,r7⟩:=q1;simp only at ca a1 a2 k1;have g7:r7.x=r.x:=a1.1.trans h1;have a17:=a1.2.2.1 (by omega);have hb7:Bd s ls r7:=hb.of g7 (by omega) (by omega);have cq:=next4r s ls r7 sBar hb7;have q1:=nextQ_T (ls:=ls) (r:=r7) (t:=sBar);have q2:=nextQ_F (ls:=ls) (r:=r7) (t:=sBar);generalize nextQ ls sBar r7=Q at cq q1 q2 k1;obtain⟨b,r8⟩:=Q;simp only at cq q1 q2 k1;rw [eQ r6 h1,eQ r7 g7] at ca;have g8:r8.x=r.x:=by
      cases b with
      |true=>have:=(q1 rfl).1;simp only [Prod.mk.injEq] at this;rw [this.2];exact g7
      |false=>have:=q2 rfl;simp only [Prod.mk.injEq] at this;rw [this.2];exact g7
     rw [eQ r7 g7,eQ r8 g8] at cq
     repeat refine zS ?_
     refine zX [48,60] ?_
     repeat refine zS ?_
     refine Run.drawC (frz:=[48,60]) Yo (by kernel_rfl) [(1,3)] ?_;iterate 3 refine cX ?_
     refine cCall ca ?_;refine cX ?_;refine cX ?_ (hv:=app1) (hf:=rfl) (he:=rfl);iterate 2 refine cX ?_
     refine EvC.nil ⟨by kernel_rfl,⟨⟨_,_,_,_,_,_,_,rfl,rfl,rfl,rfl,rfl,rfl⟩,trivial⟩,?_⟩;have fin:∀ s1:S,Tidy 3 s1 ⟨PT.ofList [(0,.bp 0 0),(4,.bp 3 0),(5,.d (.bool b))],[rBox s ls r8,.room r.x.tokens.length 1,.room r.x.rules.length 2,.box [.d (.str nm),.sr 4 1 (acc.map strs++[strs al])],.room (acc.length+1) 1],[]⟩ ->
       ∃ y:(Nat × List (List (List Nat))) × RS × Bool,(y.2.1.x=r.x/\y.1.2.length+y.1.1<=ls.length+1/\(y.2.2=true->altsR s ls y.1.1 y.1.2 y.2.1=v/\y.2.1.pos<=ls.length/\1<=y.2.1.pos/\y.2.1.alts+y.1.1<=16777100/\ls.length<y.1.1+y.2.1.pos)/\(y.2.2=false->v=(y.1.2,y.2.1)))/\y.1.1<n+1 /\
        Tidy 3 s1 ⟨PT.ofList [(0,.bp 0 0),(4,.bp 3 0),(5,.d (.bool y.2.2))],[rBox s ls y.2.1,.room r.x.tokens.length 1,.room r.x.rules.length 2,.box [.d (.str nm),.sr 4 1 (y.1.2.map strs)],.room y.1.2.length 1],[]⟩:=fun s1 ht=>by
      refine⟨((n,acc++[al]),r8,b),⟨g8,by simp only [List.length_append,List.length_cons,List.length_nil];omega,fun hb'=>?_,fun hb'=>?_⟩,Nat.lt_succ_self _,by simpa using ht⟩
      .simp only at hb'
       subst hb';obtain⟨e1,e2,e3⟩:=q1 rfl;simp only [Prod.mk.injEq,true_and] at e1;rw [if_pos rfl] at k1;have ep:r8.pos=r7.pos+1:=by rw [e1]
       have ea:r8.alts=r7.alts:=by rw [e1]
       exact⟨k1,by simp only;omega,by simp only;omega,by simp only;omega,by simp only;omega⟩
      .simp only at hb'
       subst hb';rw [if_neg (by simp)] at k1;exact k1.symm
     repeat' (first|refine zW [48,60] ?_|(refine zB [48,60] ?_ ?_<;>intro h<;>try exact zk h)|refine zX [48,60] ?_|refine oF (cq) ?_|refine eF (cq) ?_|(refine zE ?_;(skip))|(exact fin _ (ti _ 5))|((exfalso;(simp at h<;>omega)))|fail)
   .refine Run.cellData 3 1 ?_
    have b6:r5.x.rules.length<=1048576:=by rw [g5];exact hb.rules
    have hrl:r.x.rules.length=(r5.x.rules.map encR).length:=by simp [g5]
    rw [hrl] at cm2 |-
    repeat' (first|refine zW [48,60] ?_|(refine zB [48,60] ?_ ?_<;>intro h<;>try exact zk h)|refine zX [48,60] ?_|refine oF (cm2) ?_|refine eF (cm2) ?_|refine oX (frz:=[48,60]) Yo ?_ (hv:=app1) (hf:=rfl) (he:=rfl)|refine eX ?_ (hv:=app1) (hf:=rfl) (he:=rfl)|refine oX (frz:=[48,60]) Yo ?_ (hv:=app0) (hf:=rfl) (he:=rfl)|refine eX ?_ (hv:=app0) (hf:=rfl) (he:=rfl)|(refine zE ?_;(skip))|(((first|refine Yt ?_|skip);exact⟨trivial,_,_,rfl,rfl,.refl,wkE⟩))|((exfalso;(simp at h<;>omega)))|fail)
end Go.Av
end
noncomputable section
namespace Go.Av
open Go Go.Proofs
set_option maxRecDepth 10000
theorem knownOneR_x {x:Lx} {r:RS}:(knownOneR x r).x=r.x/\(knownOneR x r).pos=r.pos/\(knownOneR x r).alts=r.alts:=by
 unfold knownOneR;split
 .exact failR_x
 .exact⟨rfl,rfl,rfl⟩
theorem knownL_x:∀ {l:List Lx} {r:RS},(knownL l r).x=r.x/\(knownL l r).pos=r.pos/\(knownL l r).alts=r.alts
 |[],_=>⟨rfl,rfl,rfl⟩
 |x :: l,r=>by
  have h1:=knownOneR_x (x:=x) (r:=r);have h2:=knownL_x (l:=l) (r:=knownOneR x r);rw [knownL];exact⟨h2.1.trans h1.1,h2.2.1.trans h1.2.1,h2.2.2.trans h1.2.2⟩
abbrev boxL (x:Lx):Ob:=.box [.d (.int .i64 (x.k:Nat)),.d (.str x.t),.d (.int .i64 (x.a:Nat))]
set_option maxHeartbeats 4000000 in
theorem known4 (s:List Nat) (ls:List Lx) (r:RS) (st:Lx) (p0:Nat) (hb:Bd s ls r) (hf:FitsX r.x) (hp:p0<=16777216) :
  ACall Tryz.prog 108 [.bp 0 0,.d (encL st),.d (.int .i64 (p0:Nat))] (rO s ls r) (.tup []) (rO s ls (knownR st (ls.drop p0) r)):=by
 have b2:=hb.l;have cr:=rules08 r.x hf;have hfr:=hf.rules;have hft:=hf.tokens;have ch:=has08 (ruleNames r.x) st.t (by simp;omega);have c7:=fail4 s ls r 7 st.a;have eQ:∀ r':RS,r'.x=r.x->rO s ls r'=[rBox s ls r',.room r.x.tokens.length 1,.room r.x.rules.length 2]:=fun r' e=>by unfold rO;rw [e]
 obtain⟨r1,hr1⟩:∃ r1,r1=if hasF (ruleNames r.x) st.t=false then failR 7 st.a r else r:=⟨_,rfl⟩
 have x1:r1.x=r.x/\r1.pos=r.pos/\r1.alts=r.alts:=by
  rw [hr1];split
  .exact failR_x
  .exact⟨rfl,rfl,rfl⟩
 obtain⟨R,hR⟩:∃ R,R=knownR st (ls.drop p0) r:=⟨_,rfl⟩
 have hR1:R=knownL (ls.drop p0) r1:=by rw [hR,hr1];rfl
 have xR:R.x=r.x:=by rw [hR1];exact knownL_x.1.trans x1.1
 rw [<- hR,eQ r rfl,eQ R xR];rw [eQ r rfl,eQ _ failR_x.1] at c7;refine acallW_of_run Yo (fnAt Tryz.func108 (by kernel_rfl) (by kernel_rfl):FnAt _ _ (mkFn Tryz.f108 [4])) rfl rfl rfl rfl rfl ?_
 repeat' (first|refine zR [4] ?_|refine oW cr ?_|fail)
 refine Yq ?_;refine Run.mid ⟨PT.ofList [(0,.bp 0 0),(2,.d (.int .i64 (p0:Nat))),(6,.d (strs (ruleNames r.x)))],[rBox s ls r1,.room r.x.tokens.length 1,.room r.x.rules.length 2],[]⟩ ?_ ?_
 .unfold hasF at hr1
  generalize (ruleNames r.x).any (fun y=>decide (y=st.t))=b at ch hr1;cases b with
  |true =>
   rw [if_neg (by simp)] at hr1;subst hr1
   repeat' (first|refine zW [4] ?_|(refine zB [4] ?_ ?_<;>intro h<;>try exact zk h)|refine zX [4] ?_|refine zC (ch) ?_|(refine zE ?_;(skip))|(exact(by show Tidy _ _ _;exact(ti _ 3)))|((exfalso;(simp at h<;>omega)))|fail)
  |false =>
   rw [if_pos rfl] at hr1;rw [<- hr1] at c7
   repeat' (first|refine zW [4] ?_|(refine zB [4] ?_ ?_<;>intro h<;>try exact zk h)|refine zX [4] ?_|refine zC (ch) ?_|refine oF (c7) ?_|refine eF (c7) ?_|(refine zE ?_;(skip))|(exact(by show Tidy _ _ _;exact(ti _ 3)))|((exfalso;(simp at h<;>omega)))|fail)
 repeat refine zS ?_
 iterate 2 refine zX [4] ?_
 repeat refine zS ?_
 refine Run.loopT (fun y:Nat × RS=>⟨PT.ofList [(0,.bp 0 0),(6,.d (strs (ruleNames r.x))),(7,.d (.int .i64 (y.1:Nat)))],[rBox s ls y.2,.room r.x.tokens.length 1,.room r.x.rules.length 2],[]⟩)
  (fun y=>y.2.x=r.x/\y.1<=16777216+1048576/\R=knownL (ls.drop y.1) y.2) (fun y=>ls.length-y.1) (p0,r1) ⟨x1.1,by simp only;omega,hR1⟩ (ti _ 3) (fun y hy=>?_)
 obtain⟨i,r2⟩:=y;obtain⟨h1,h2,h3⟩:=hy;simp only at h1 h2 h3 |-;rcases Nat.lt_or_ge i ls.length with hlt|hge
 .obtain⟨x,hx⟩:=get_ok hlt
  rw [drop_at hx,knownL] at h3;have hinc:AV.d (.int .i64 (IntKind.i64.wrap ((i:Int)+1)))=.d (.int .i64 ((i+1:Nat):Int)):=vN8 (by omega) (by omega);have fin:∀ (r3:RS) (s1:S),r3=knownOneR x r2->Tidy 3 s1 ⟨PT.ofList [(0,.bp 0 0),(6,.d (strs (ruleNames r.x))),(7,.d (.int .i64 ((i+1:Nat):Int)))],[rBox s ls r3,.room r.x.tokens.length 1,.room r.x.rules.length 2],[]⟩ ->
    ∃ y:Nat × RS,(y.2.x=r.x/\y.1<=16777216+1048576/\R=knownL (ls.drop y.1) y.2)/\ls.length-y.1<ls.length-i /\
     Tidy 3 s1 ⟨PT.ofList [(0,.bp 0 0),(6,.d (strs (ruleNames r.x))),(7,.d (.int .i64 (y.1:Nat)))],[rBox s ls y.2,.room r.x.tokens.length 1,.room r.x.rules.length 2],[]⟩:=fun r3 s1 he ht =>
   ⟨(i+1,r3),⟨by rw [he];exact knownOneR_x.1.trans h1,by simp only;omega,by rw [he];exact h3⟩,by simp only;omega,ht⟩
  by_cases hk:x.k=1
  .have hkk:AV.d (.bool (((x.k:Nat):Int) != 1))=.d (.bool false):=by rw [hk];rfl
   by_cases hs:x.t=r2.x.sep
   .have e1:knownOneR x r2=failR 14 x.a r2:=by simp [knownOneR,hk,chkU,hs]
    have c14:=fail4 s ls r2 14 x.a;rw [eQ r2 h1,eQ _ (failR_x.1.trans h1),<- e1] at c14;have fin':=fun s1=>fin _ s1 rfl;generalize knownOneR x r2=r3 at c14 fin'
    repeat' (first|refine oX (frz:=[4]) (v:=.d (.bool false)) Yo ?_ (he:=(hkk))|refine eX (v:=.d (.bool false)) ?_ (he:=(hkk))|refine oX (frz:=[4]) (v:=.d (.int .i64 ((i+1:Nat):Int))) Yo ?_ (he:=(hinc))|refine eX (v:=.d (.int .i64 ((i+1:Nat):Int))) ?_ (he:=(hinc))|refine zW [4] ?_|(refine zB [4] ?_ ?_<;>intro h<;>try exact zk h)|refine zX [4] ?_|refine oF (c14) ?_|refine eF (c14) ?_|refine oI (frz:=[4]) (v:=.d (.ep [.int .i64 (x.k:Nat),.str x.t,.int .i64 (x.a:Nat)])) ?_ (he:=by first|(simp [gD,cellsD,hx]<;>fail)|fail)|refine eI (v:=.d (.ep [.int .i64 (x.k:Nat),.str x.t,.int .i64 (x.a:Nat)])) ?_ (he:=by first|(simp [gD,cellsD,hx]<;>fail)|fail)|(refine zE ?_;(skip))|(exact fin' _ (ti _ 3))|((exfalso;first|(simp at h<;>omega)|(simp at h;exact absurd hs h)|(simp at h;exact absurd h hs)))|fail)
   .have cn:=has08 (ruleNames r.x) x.t (by simp;omega)
    have ct:=has08 r2.x.tokens x.t (by rw [h1];omega);have ec:chkU r2.x x.t=if hasF (ruleNames r.x) x.t=false/\hasF r2.x.tokens x.t=false then 7 else 0:=by rw [chkU,if_neg hs,h1]
    unfold hasF at ec;generalize (ruleNames r.x).any (fun y=>decide (y=x.t))=b1 at cn ec;generalize r2.x.tokens.any (fun y=>decide (y=x.t))=b2' at ct ec;cases b1 with
    |true =>
     have e1:knownOneR x r2=r2:=by simp [knownOneR,ec]
     repeat' (first|refine oX (frz:=[4]) (v:=.d (.bool false)) Yo ?_ (he:=(hkk))|refine eX (v:=.d (.bool false)) ?_ (he:=(hkk))|refine oX (frz:=[4]) (v:=.d (.int .i64 ((i+1:Nat):Int))) Yo ?_ (he:=(hinc))|refine eX (v:=.d (.int .i64 ((i+1:Nat):Int))) ?_ (he:=(hinc))|refine zW [4] ?_|(refine zB [4] ?_ ?_<;>intro h<;>try exact zk h)|refine zX [4] ?_|refine oI (frz:=[4]) (v:=.d (.ep [.int .i64 (x.k:Nat),.str x.t,.int .i64 (x.a:Nat)])) ?_ (he:=by first|(simp [gD,cellsD,hx]<;>fail)|fail)|refine eI (v:=.d (.ep [.int .i64 (x.k:Nat),.str x.t,.int .i64 (x.a:Nat)])) ?_ (he:=by first|(simp [gD,cellsD,hx]<;>fail)|fail)|refine zC (cn) ?_|refine oW ct ?_|refine eW ct ?_|(refine zE ?_;(skip))|(exact fin _ _ e1.symm (ti _ 3))|((exfalso;first|(simp at h<;>omega)|(simp at h;exact absurd hs h)|(simp at h;exact absurd h hs)))|fail)
    |false =>
     cases b2' with
     |true =>
      have e1:knownOneR x r2=r2:=by simp [knownOneR,ec]
      repeat' (first|refine oX (frz:=[4]) (v:=.d (.bool false)) Yo ?_ (he:=(hkk))|refine eX (v:=.d (.bool false)) ?_ (he:=(hkk))|refine oX (frz:=[4]) (v:=.d (.int .i64 ((i+1:Nat):Int))) Yo ?_ (he:=(hinc))|refine eX (v:=.d (.int .i64 ((i+1:Nat):Int))) ?_ (he:=(hinc))|refine zW [4] ?_|(refine zB [4] ?_ ?_<;>intro h<;>try exact zk h)|refine zX [4] ?_|refine oI (frz:=[4]) (v:=.d (.ep [.int .i64 (x.k:Nat),.str x.t,.int .i64 (x.a:Nat)])) ?_ (he:=by first|(simp [gD,cellsD,hx]<;>fail)|fail)|refine eI (v:=.d (.ep [.int .i64 (x.k:Nat),.str x.t,.int .i64 (x.a:Nat)])) ?_ (he:=by first|(simp [gD,cellsD,hx]<;>fail)|fail)|refine zC (cn) ?_|refine oW ct ?_|refine eW ct ?_|(refine zE ?_;(skip))|(exact fin _ _ e1.symm (ti _ 3))|((exfalso;first|(simp at h<;>omega)|(simp at h;exact absurd hs h)|(simp at h;exact absurd h hs)))|fail)
     |false =>
      have e1:knownOneR x r2=failR 7 x.a r2:=by simp [knownOneR,hk,ec]
      have c14:=fail4 s ls r2 7 x.a;rw [eQ r2 h1,eQ _ (failR_x.1.trans h1),<- e1] at c14;have fin':=fun s1=>fin _ s1 rfl;generalize knownOneR x r2=r3 at c14 fin'
      repeat' (first|refine oX (frz:=[4]) (v:=.d (.bool false)) Yo ?_ (he:=(hkk))|refine eX (v:=.d (.bool false)) ?_ (he:=(hkk))|refine oX (frz:=[4]) (v:=.d (.int .i64 ((i+1:Nat):Int))) Yo ?_ (he:=(hinc))|refine eX (v:=.d (.int .i64 ((i+1:Nat):Int))) ?_ (he:=(hinc))|refine zW [4] ?_|(refine zB [4] ?_ ?_<;>intro h<;>try exact zk h)|refine zX [4] ?_|refine oF (c14) ?_|refine eF (c14) ?_|refine oI (frz:=[4]) (v:=.d (.ep [.int .i64 (x.k:Nat),.str x.t,.int .i64 (x.a:Nat)])) ?_ (he:=by first|(simp [gD,cellsD,hx]<;>fail)|fail)|refine eI (v:=.d (.ep [.int .i64 (x.k:Nat),.str x.t,.int .i64 (x.a:Nat)])) ?_ (he:=by first|(simp [gD,cellsD,hx]<;>fail)|fail)|refine zC (cn) ?_|refine oW ct ?_|refine eW ct ?_|(refine zE ?_;(skip))|(exact fin' _ (ti _ 3))|((exfalso;first|(simp at h<;>omega)|(simp at h;exact absurd hs h)|(simp at h;exact absurd h hs)))|fail)
  .have e1:knownOneR x r2=r2:=by simp [knownOneR,hk]
   repeat' (first|refine oX (frz:=[4]) (v:=.d (.int .i64 ((i+1:Nat):Int))) Yo ?_ (he:=(hinc))|refine eX (v:=.d (.int .i64 ((i+1:Nat):Int))) ?_ (he:=(hinc))|refine zW [4] ?_|(refine zB [4] ?_ ?_<;>intro h<;>try exact zk h)|refine zX [4] ?_|refine oI (frz:=[4]) (v:=.d (.ep [.int .i64 (x.k:Nat),.str x.t,.int .i64 (x.a:Nat)])) ?_ (he:=by first|(simp [gD,cellsD,hx]<;>fail)|fail)|refine eI (v:=.d (.ep [.int .i64 (x.k:Nat),.str x.t,.int .i64 (x.a:Nat)])) ?_ (he:=by first|(simp [gD,cellsD,hx]<;>fail)|fail)|(refine zE ?_;(skip))|(exact fin _ _ e1.symm (ti _ 3))|((exfalso;(simp at h<;>omega)))|fail)
 .rw [List.drop_eq_nil_of_le hge,knownL] at h3
  subst h3
  repeat' (first|refine zW [4] ?_|(refine zB [4] ?_ ?_<;>intro h<;>try exact zk h)|refine zX [4] ?_|(refine zE ?_;(skip))|(((first|refine Yt ?_|skip);exact⟨trivial,_,_,rfl,rfl,.refl,wkE⟩))|((exfalso;(simp at h<;>omega)))|fail)
end Go.Av
end
noncomputable section
namespace Go.Av
open Go Go.Proofs
set_option maxRecDepth 10000
theorem tokenR_x {s:List Nat} {ls:List Lx} {r:RS}:(tokenR s ls r).x={ r.x with tokens:=r.x.tokens++[(nameR s ls false (peekR s ls r).2).1] }/\(tokenR s ls r).pos=r.pos+1/\(tokenR s ls r).alts=r.alts:=by
 have a1:=peekR_x (s:=s) (ls:=ls) (r:=r);simp only [tokenR];generalize peekR s ls r=p at a1 |-;have a2:=nameR_x (s:=s) (ls:=ls) (r:=p.2) (c:=false);generalize nameR s ls false p.2=q at a2 |-;have a3:=newR_x (l:=q.2.x.tokens) (t:=q.1) (a:=p.1.a) (r:=q.2);generalize newR q.2.x.tokens q.1 p.1.a q.2=q3 at a3 |-;have a4:=roomR_x (n:=q.2.x.tokens.length) (w:=8) (a:=p.1.a) (r:=q3);generalize roomR q.2.x.tokens.length 8 p.1.a q3=q4 at a4 |-;exact⟨by rw [a4.1,a3.1,a2.1,a1.1],by rw [a4.2.1,a3.2.1,a2.2.1,a1.2.1],by rw [a4.2.2,a3.2.2,a2.2.2,a1.2.2]⟩
theorem tokenR_len {s:List Nat} {ls:List Lx} {r:RS} (h0:r.f.1=0) (h:(tokenR s ls r).f.1=0):r.pos<ls.length:=by
 rcases Nat.lt_or_ge r.pos ls.length with hlt|hge
 .exact hlt
 .exfalso
  have e:peekR s ls r=(lx0,{ r with f:=(5,s.length) }):=by simp [peekR,List.getElem?_eq_none hge,failR,h0]
  simp only [tokenR,e] at h;have h3:(nameR s ls false { r with f:=(5,s.length) }).2.f=(5,s.length):=nameR_f (by simp);have h4:(nameR s ls false { r with f:=(5,s.length) }).2.f.1≠0:=by rw [h3];simp
  rw [newR_f h4,roomR_f h4,h3] at h;cases h
theorem tokensR_x {s:List Nat} {ls:List Lx}:∀ (n:Nat) (r:RS),(r.f.1=0->r.pos<=ls.length)->r.pos<=ls.length+3->(tokensR s ls n r).x.rules=r.x.rules/\(tokensR s ls n r).alts=r.alts/\(tokensR s ls n r).pos<=ls.length+3/\(tokensR s ls n r).x.tokens.length<=r.x.tokens.length+n
 |0,r,_,h=>⟨rfl,rfl,h,Nat.le_refl _⟩
 |n+1,r,hf,h=>by
  simp only [tokensR];by_cases h0:r.f.1=0
  .rw [if_pos h0]
   have a:=tokenR_x (s:=s) (ls:=ls) (r:=r);have al:(tokenR s ls r).x.tokens.length=r.x.tokens.length+1:=by rw [a.1];simp
   have ar:(tokenR s ls r).x.rules=r.x.rules:=by rw [a.1]
   have:=hf h0;cases hq:(nextQ ls sComma (tokenR s ls r)).1 with
   |true =>
    obtain⟨e,q1,q2⟩:=nextQ_T hq;rw [if_pos rfl,e];simp only;have ih:=tokensR_x (s:=s) (ls:=ls) n { tokenR s ls r with pos:=(tokenR s ls r).pos+1 } (fun _=>by simp only;omega) (by simp only;omega);exact⟨ih.1.trans ar,ih.2.1.trans a.2.2,ih.2.2.1,by have:=ih.2.2.2;simp only at this;omega⟩
   |false =>
    rw [if_neg (by simp),nextQ_F hq];exact⟨ar,a.2.2,by simp only;omega,by simp only;omega⟩
  .rw [if_neg h0];exact⟨rfl,rfl,h,by omega⟩
theorem takeR_num {s:List Nat} {ls:List Lx} {r:RS} (hn:NumL ls) (hk:(takeR s ls r).1.k=2):NumT (takeR s ls r).1.t:=by
 simp only [takeR] at hk |-;unfold peekR at hk |-;split
 .rename_i x hx
  rw [hx] at hk;exact hn x (List.mem_of_getElem? hx) hk
 .rename_i hx
  rw [hx] at hk;cases hk
abbrev Zl:Ob:=.box [.d (.int .i64 0),.d (.str []),.d (.int .i64 0)]
set_option maxHeartbeats 8000000 in
theorem head4 (s:List Nat) (ls:List Lx) (r:RS) (hb:Bd s ls r) (hn:NumL ls) (hp0:r.pos=0) (ha:r.alts=0) (ht0:r.x.tokens=[]) (hr0:r.x.rules=[]) :
  ACall Tryz.prog 105 [.bp 0 0] (rO s ls r) (.d (encL (headR s ls r).1)) [rBox s ls (headR s ls r).2,.room (headR s ls r).2.x.tokens.length 1,.room 0 2]:=by
 have b1:=hb.s;have b2:=hb.l;have b7:=hb.len;have eQ:∀ (T:List (List Nat)) (r':RS),r'.x.tokens=T->r'.x.rules=[]->rO s ls r'=[rBox s ls r',.room T.length 1,.room 0 2]:=fun T r' e1 e2=>by unfold rO;rw [e1,e2];rfl
 have c1:=must4 s ls r 1 wLook hb;have x1:=mustR_x (s:=s) (ls:=ls) (r:=r) (k:=1) (t:=wLook);simp only [headR,lookR];generalize mustR s ls 1 wLook r=r1 at c1 x1 |-;have hb1:Bd s ls r1:=hb.of x1.1 (by omega) (by omega);have c2:=take4 s ls r1 hb1;have x2:=takeR_x (s:=s) (ls:=ls) (r:=r1);have n2:=takeR_num (s:=s) (ls:=ls) (r:=r1) hn;have l2:=takeR_t hb1;generalize takeR s ls r1=p at c2 x2 n2 l2 |-;obtain⟨xn,r2⟩:=p;simp only at c2 x2 n2 l2 |-;have t1:r1.x=r.x:=x1.1;have t2:r2.x=r.x:=x2.1.trans t1;have c3:=fail4 s ls r2 3 xn.a;obtain⟨r3,hr3⟩:∃ r3,r3=if r2.f.1=0/\xn.k≠2 then failR 3 xn.a r2 else r2:=⟨_,rfl⟩
 rw [<- hr3];have t3:r3.x=r.x/\r3.pos=r2.pos/\r3.alts=r2.alts:=by
  rw [hr3];split
  .exact⟨failR_x.1.trans t2,failR_x.2.1,failR_x.2.2⟩
  .exact⟨t2,rfl,rfl⟩
 have k3:r3.f.1=0->xn.k=2:=by
  rw [hr3];by_cases h0:r2.f.1=0
  .by_cases hk:xn.k=2
   .exact fun _=>hk
   .rw [if_pos ⟨h0,hk⟩];simp [failR,h0]
  .rw [if_neg (fun e=>h0 e.1)];exact fun e=>absurd e h0
 have c5:=fail4 s ls r3 2 xn.a;obtain⟨r4,hr4⟩:∃ r4,r4=if r3.f.1=0 then(if numOk xn.t=true then { r3 with x:={ r3.x with k:=(decF xn.t:Nat) } } else { failR 2 xn.a r3 with x:={ r3.x with k:=0 } }) else r3:=⟨_,rfl⟩
 have e4:(if r3.f.1=0 then(if numOk xn.t=true then { r3 with x:={ r3.x with k:=(decF xn.t:Nat) } } else { failR 2 xn.a r3 with x:={ (failR 2 xn.a r3).x with k:=0 } }) else r3)=r4:=by rw [hr4,(failR_x (e:=2) (a:=xn.a) (r:=r3)).1]
 have t4:r4.x.tokens=[]/\r4.x.rules=[]/\r4.pos=2/\r4.alts=0:=by
  have f2:=failR_x (e:=2) (a:=xn.a) (r:=r3);have g1:r3.x.tokens=[]:=by rw [t3.1];exact ht0
  have g2:r3.x.rules=[]:=by rw [t3.1];exact hr0
  have g3:r3.pos=2:=by omega
  have g4:r3.alts=0:=by omega
  rw [hr4];split
  .split
   .exact⟨g1,g2,g3,g4⟩
   .exact⟨g1,g2,f2.2.1.trans g3,f2.2.2.trans g4⟩
  .exact⟨g1,g2,g3,g4⟩
 first|rw [e4]|rw [<- hr4]
 have mk:∀ (r':RS),r'.x.tokens.length<=ls.length+3->r'.x.rules=[]->r'.pos<=16777216->r'.alts<=16777216->Bd s ls r':=fun r' h1 h2 h3 h4=>⟨b1,b2,h3,h4,by omega,by rw [h2];simp,b7⟩
 have hb4:Bd s ls r4:=mk r4 (by rw [t4.1];simp) t4.2.1 (by omega) (by omega);have c6:=must4 s ls r4 3 sSemi hb4;have x6:=mustR_x (s:=s) (ls:=ls) (r:=r4) (k:=3) (t:=sSemi);generalize mustR s ls 3 sSemi r4=r6 at c6 x6 |-;have hb6:Bd s ls r6:=hb4.of x6.1 (by omega) (by omega);have c7:=must4 s ls r6 1 wToken hb6;have x7:=mustR_x (s:=s) (ls:=ls) (r:=r6) (k:=1) (t:=wToken);have l7:=mustR_len (s:=s) (ls:=ls) (r:=r6) (k:=1) (t:=wToken);generalize mustR s ls 1 wToken r6=r7 at c7 x7 l7 |-;have t7:r7.x.tokens=[]/\r7.x.rules=[]:=by rw [x7.1,x6.1];exact⟨t4.1,t4.2.1⟩
 have f7:r7.f.1=0->r7.pos<=ls.length:=fun h=>by obtain⟨_,_,_,h'⟩:=l7 h;omega
 obtain⟨rK,hrK⟩:∃ rK,rK=tokensR s ls (ls.length+1) r7:=⟨_,rfl⟩
 rw [<- hrK];have xK:rK.x.rules=[]/\rK.alts=0/\rK.pos<=ls.length+4/\rK.x.tokens.length<=ls.length+1:=by
  by_cases h0:r7.f.1=0
  .have:=tokensR_x (s:=s) (ls:=ls) (ls.length+1) r7 f7 (by have:=f7 h0;omega)
   rw [<- hrK,t7.1,t7.2] at this;exact⟨this.1,by omega,by omega,by have:=this.2.2.2;simp at this;omega⟩
  .rw [tokensR_f h0] at hrK
   rw [hrK];exact⟨t7.2,by omega,by omega,by rw [t7.1];simp⟩
 have hbK:Bd s ls rK:=mk rK (by omega) xK.1 (by omega) (by omega);have c8:=must4 s ls rK 3 sSemi hbK;have x8:=mustR_x (s:=s) (ls:=ls) (r:=rK) (k:=3) (t:=sSemi);generalize mustR s ls 3 sSemi rK=r8 at c8 x8 |-;simp only [sepR];have hb8:Bd s ls r8:=hbK.of x8.1 (by omega) (by omega);have c9:=must4 s ls r8 1 wSep hb8;have x9:=mustR_x (s:=s) (ls:=ls) (r:=r8) (k:=1) (t:=wSep);generalize mustR s ls 1 wSep r8=r9 at c9 x9 |-;have hb9:Bd s ls r9:=hb8.of x9.1 (by omega) (by omega);have c10:=peek4 s ls r9 hb9;have x10:=peekR_x (s:=s) (ls:=ls) (r:=r9);generalize peekR s ls r9=p10 at c10 x10 |-;obtain⟨xs,r10⟩:=p10;simp only at c10 x10 |-;have hb10:Bd s ls r10:=hb9.of x10.1 (by omega) (by omega);have c11:=name4r s ls r10 false hb10;have x11:=nameR_x (s:=s) (ls:=ls) (r:=r10) (c:=false);generalize nameR s ls false r10=p11 at c11 x11 |-;obtain⟨sp,r11⟩:=p11;simp only at c11 x11 |-;have xT:r11.x=rK.x:=by rw [x11.1,x10.1,x9.1,x8.1]
 obtain⟨r12,hr12⟩:∃ r12:RS,r12={ r11 with x:={ r11.x with sep:=sp } }:=⟨_,rfl⟩
 rw [<- hr12];have e12:r12.x.tokens=rK.x.tokens/\r12.x.rules=[]/\r12.pos<=ls.length+8/\r12.alts=0:=by rw [hr12];exact⟨by simp only [xT],by simp only [xT];exact xK.1,by simp only;omega,by simp only;omega⟩
 have ch:=has08 rK.x.tokens sp (by omega);have et:r11.x.tokens=rK.x.tokens:=by rw [xT]
 rw [et];have c13:=fail4 s ls r12 8 xs.a;obtain⟨r13,hr13⟩:∃ r13,r13=newR rK.x.tokens sp xs.a r12:=⟨_,rfl⟩
 rw [<- hr13];have x13:r13.x=r12.x/\r13.pos=r12.pos/\r13.alts=r12.alts:=by rw [hr13];exact newR_x
 have hb13:Bd s ls r13:=mk r13 (by rw [x13.1,e12.1];omega) (by rw [x13.1];exact e12.2.1) (by omega) (by omega);have c14:=must4 s ls r13 3 sSemi hb13;have x14:=mustR_x (s:=s) (ls:=ls) (r:=r13) (k:=3) (t:=sSemi);generalize mustR s ls 3 sSemi r13=r14 at c14 x14 |-;have hb14:Bd s ls r14:=hb13.of x14.1 (by omega) (by omega);simp only [startR];have c15:=must4 s ls r14 1 wStart hb14;have x15:=mustR_x (s:=s) (ls:=ls) (r:=r14) (k:=1) (t:=wStart);generalize mustR s ls 1 wStart r14=r15 at c15 x15 |-;have hb15:Bd s ls r15:=hb14.of x15.1 (by omega) (by omega);have c16:=peek4 s ls r15 hb15;have x16:=peekR_x (s:=s) (ls:=ls) (r:=r15);generalize peekR s ls r15=p16 at c16 x16 |-;obtain⟨xb,r16⟩:=p16;simp only at c16 x16 |-;have hb16:Bd s ls r16:=hb15.of x16.1 (by omega) (by omega);have c17:=name4r s ls r16 true hb16;have x17:=nameR_x (s:=s) (ls:=ls) (r:=r16) (c:=true);generalize nameR s ls true r16=p17 at c17 x17 |-;obtain⟨st,r17⟩:=p17;simp only at c17 x17 |-;have xU:r17.x=r12.x:=by rw [x17.1,x16.1,x15.1,x14.1,x13.1]
 obtain⟨r18,hr18⟩:∃ r18:RS,r18={ r17 with x:={ r17.x with start:=st } }:=⟨_,rfl⟩
 rw [<- hr18];have e18:r18.x.tokens=rK.x.tokens/\r18.x.rules=[]/\r18.pos<=ls.length+12/\r18.alts=0:=by rw [hr18];exact⟨by simp only [xU];exact e12.1,by simp only [xU];exact e12.2.1,by simp only;omega,by simp only;omega⟩
 have hb18:Bd s ls r18:=mk r18 (by rw [e18.1];omega) e18.2.1 (by omega) (by omega);have c19:=must4 s ls r18 3 sSemi hb18;have x19:=mustR_x (s:=s) (ls:=ls) (r:=r18) (k:=3) (t:=sSemi);generalize mustR s ls 3 sSemi r18=r19 at c19 x19 |-;have e19:r19.x.tokens=rK.x.tokens:=by rw [x19.1];exact e18.1
 rw [e19];rw [eQ [] r ht0 hr0];have q2:r2.x.tokens=[]/\r2.x.rules=[]:=by rw [t2];exact⟨ht0,hr0⟩
 have q3:r3.x.tokens=[]/\r3.x.rules=[]:=by rw [t3.1];exact⟨ht0,hr0⟩
 rw [eQ [] r ht0 hr0,eQ [] r1 (by rw [t1];exact ht0) (by rw [t1];exact hr0)] at c1;rw [eQ [] r1 (by rw [t1];exact ht0) (by rw [t1];exact hr0),eQ [] r2 q2.1 q2.2] at c2;rw [eQ [] r2 q2.1 q2.2,eQ [] _ (by rw [failR_x.1];exact q2.1) (by rw [failR_x.1];exact q2.2)] at c3;rw [eQ [] r3 q3.1 q3.2,eQ [] _ (by rw [failR_x.1];exact q3.1) (by rw [failR_x.1];exact q3.2)] at c5;rw [eQ [] r4 t4.1 t4.2.1,eQ [] r6 (by rw [x6.1];exact t4.1) (by rw [x6.1];exact t4.2.1)] at c6;rw [eQ [] r6 (by rw [x6.1];exact t4.1) (by rw [x6.1];exact t4.2.1),eQ [] r7 t7.1 t7.2] at c7;have q8:r8.x.tokens=rK.x.tokens/\r8.x.rules=[]:=by rw [x8.1];exact⟨rfl,xK.1⟩
 have q9:r9.x.tokens=rK.x.tokens/\r9.x.rules=[]:=by rw [x9.1];exact q8
 have q10:r10.x.tokens=rK.x.tokens/\r10.x.rules=[]:=by rw [x10.1];exact q9
 have q11:r11.x.tokens=rK.x.tokens/\r11.x.rules=[]:=by rw [x11.1];exact q10
 have q13:r13.x.tokens=rK.x.tokens/\r13.x.rules=[]:=by rw [x13.1];exact⟨e12.1,e12.2.1⟩
 have q14:r14.x.tokens=rK.x.tokens/\r14.x.rules=[]:=by rw [x14.1];exact q13
 have q15:r15.x.tokens=rK.x.tokens/\r15.x.rules=[]:=by rw [x15.1];exact q14
 have q16:r16.x.tokens=rK.x.tokens/\r16.x.rules=[]:=by rw [x16.1];exact q15
 have q17:r17.x.tokens=rK.x.tokens/\r17.x.rules=[]:=by rw [x17.1];exact q16
 have q19:r19.x.tokens=rK.x.tokens/\r19.x.rules=[]:=by rw [x19.1];exact⟨e18.1,e18.2.1⟩
 rw [eQ _ rK rfl xK.1,eQ _ r8 q8.1 q8.2] at c8;rw [eQ _ r8 q8.1 q8.2,eQ _ r9 q9.1 q9.2] at c9;rw [eQ _ r9 q9.1 q9.2,eQ _ r10 q10.1 q10.2] at c10;rw [eQ _ r10 q10.1 q10.2,eQ _ r11 q11.1 q11.2] at c11;have w13:(failR 8 xs.a r12).x=r12.x:=failR_x.1;rw [eQ _ r12 e12.1 e12.2.1,eQ rK.x.tokens (failR 8 xs.a r12) (by rw [w13];exact e12.1) (by rw [w13];exact e12.2.1)] at c13;rw [eQ _ r13 q13.1 q13.2,eQ _ r14 q14.1 q14.2] at c14;rw [eQ _ r14 q14.1 q14.2,eQ _ r15 q15.1 q15.2] at c15;rw [eQ _ r15 q15.1 q15.2,eQ _ r16 q16.1 q16.2] at c16;rw [eQ _ r16 q16.1 q16.2,eQ _ r17 q17.1 q17.2] at c17;rw [eQ _ r18 e18.1 e18.2.1,eQ _ r19 q19.1 q19.2] at c19;refine acallW_of_run Yo (fnAt Tryz.func105 (by kernel_rfl) (by kernel_rfl):FnAt _ _ (mkFn Tryz.f105 [87])) rfl rfl rfl rfl rfl ?_
 repeat' (first|refine zR [87] ?_|refine oF (c1) ?_|refine eF (c1) ?_|refine oF (c2) ?_|refine eF (c2) ?_|fail)
 refine Yq ?_;refine Run.mid ⟨PT.ofList [(0,.bp 0 0),(2,.bp 3 0),(3,.bp 4 0)],[rBox s ls r3,.room 0 1,.room 0 2,Zl,boxL xn],[]⟩ ?_ ?_
 .by_cases h0:r2.f.1=0
  .have c0:=okT4 s ls r2 h0
   rw [eQ [] r2 q2.1 q2.2] at c0;by_cases hk:xn.k=2
   .rw [if_neg (fun e=>e.2 hk)] at hr3
    subst hr3;have hkk:AV.d (.bool (((xn.k:Nat):Int) != 2))=.d (.bool false):=by rw [hk];rfl
    repeat' (first|refine oX (frz:=[87]) (v:=.d (.bool false)) Yo ?_ (he:=(hkk))|refine eX (v:=.d (.bool false)) ?_ (he:=(hkk))|refine zW [87] ?_|(refine zB [87] ?_ ?_<;>intro h<;>try exact zk h)|refine zX [87] ?_|refine oF (c0) ?_|refine eF (c0) ?_|(refine zE ?_;(skip))|(exact(by show Tidy _ _ _;exact(ti _ 5)))|((exfalso;(simp at h<;>omega)))|fail)
   .rw [if_pos ⟨h0,hk⟩] at hr3
    rw [<- hr3] at c3
    repeat' (first|refine zW [87] ?_|(refine zB [87] ?_ ?_<;>intro h<;>try exact zk h)|refine zX [87] ?_|refine oF (c0) ?_|refine eF (c0) ?_|refine oF (c3) ?_|refine eF (c3) ?_|(refine zE ?_;(skip))|(exact(by show Tidy _ _ _;exact(ti _ 5)))|((exfalso;(simp at h<;>omega)))|fail)
  .have c0:=okF4 s ls r2 h0
   rw [eQ [] r2 q2.1 q2.2] at c0;rw [if_neg (fun e=>h0 e.1)] at hr3;subst hr3
   repeat' (first|refine zW [87] ?_|(refine zB [87] ?_ ?_<;>intro h<;>try exact zk h)|refine zX [87] ?_|refine oF (c0) ?_|refine eF (c0) ?_|(refine zE ?_;(skip))|(exact(by show Tidy _ _ _;exact(ti _ 5)))|((exfalso;(simp at h<;>omega)))|fail)
 refine Yq ?_;refine Run.mid ⟨PT.ofList [(0,.bp 0 0),(2,.bp 3 0)],[rBox s ls r4,.room 0 1,.room 0 2,Zl],[]⟩ ?_ ?_
 .by_cases h0:r3.f.1=0
  .have c0:=okT4 s ls r3 h0
   rw [eQ [] r3 q3.1 q3.2] at c0;have cn:=number4 xn (k3 h0) (n2 (k3 h0)) l2;rw [if_pos h0] at hr4;unfold numV numE at cn;cases hb0:numOk xn.t with
   |true =>
    rw [hb0,if_pos rfl,if_pos rfl] at cn;rw [hb0,if_pos rfl] at hr4;subst hr4
    repeat' (first|refine zW [87] ?_|(refine zB [87] ?_ ?_<;>intro h<;>try exact zk h)|refine zX [87] ?_|refine oF (c0) ?_|refine eF (c0) ?_|refine zC (cn) ?_|(refine zE ?_;(skip))|(exact(by show Tidy _ _ _;exact(ti _ 4)))|((exfalso;(simp at h<;>omega)))|fail)
   |false =>
    rw [hb0,if_neg (by simp),if_neg (by simp)] at cn;rw [hb0,if_neg (by simp)] at hr4;have fx:=(failR_x (e:=2) (a:=xn.a) (r:=r3)).1;generalize failR 2 xn.a r3=r3' at c5 hr4 fx;rw [<- fx] at hr4;subst hr4
    repeat' (first|refine zW [87] ?_|(refine zB [87] ?_ ?_<;>intro h<;>try exact zk h)|refine zX [87] ?_|refine oF (c0) ?_|refine eF (c0) ?_|refine oF (c5) ?_|refine eF (c5) ?_|refine zC (cn) ?_|(refine zE ?_;(skip))|(exact(by show Tidy _ _ _;exact(ti _ 4)))|((exfalso;(simp at h<;>omega)))|fail)
  .have c0:=okF4 s ls r3 h0
   rw [eQ [] r3 q3.1 q3.2] at c0;rw [if_neg h0] at hr4;subst hr4
   repeat' (first|refine zW [87] ?_|(refine zB [87] ?_ ?_<;>intro h<;>try exact zk h)|refine zX [87] ?_|refine oF (c0) ?_|refine eF (c0) ?_|(refine zE ?_;(skip))|(exact(by show Tidy _ _ _;exact(ti _ 4)))|((exfalso;(simp at h<;>omega)))|fail)
 repeat' (first|refine zR [87] ?_|refine oF (c6) ?_|refine eF (c6) ?_|refine oF (c7) ?_|refine eF (c7) ?_|fail)
 refine Yq ?_;refine Run.mid ⟨PT.ofList [(0,.bp 0 0),(2,.bp 3 0)],[rBox s ls rK,.room rK.x.tokens.length 1,.room 0 2,Zl],[]⟩ ?_ ?_
 .repeat refine zS ?_
  refine zX [87] ?_
  repeat refine zS ?_
  refine Run.loopT (fun y:Nat × RS × Bool=>⟨PT.ofList [(0,.bp 0 0),(2,.bp 3 0),(6,.d (.bool y.2.2))],[rBox s ls y.2.1,.room y.2.1.x.tokens.length 1,.room 0 2,Zl],[]⟩)
   (fun y=>y.2.1.x.rules=[]/\y.2.1.alts=0/\(y.2.1.f.1=0->y.2.1.pos<=ls.length)/\y.2.1.pos<=ls.length+5/\y.2.1.x.tokens.length+y.1<=ls.length+1/\(y.2.2=true->tokensR s ls y.1 y.2.1=rK/\ls.length<y.1+y.2.1.pos)/\(y.2.2=false->y.2.1=rK))
   (fun y=>y.1) (ls.length+1,r7,true) ⟨t7.2,by simp only;omega,f7,by simp only;omega,by simp only [t7.1];simp,fun _=>⟨hrK.symm,by simp only;omega⟩,fun h=>by cases h⟩ (by simp only [t7.1];exact(ti _ 4)) (fun y hy=>?_)
  obtain⟨n,ra,b⟩:=y;obtain⟨h1,h2,h3,h4,h5,h6,h7⟩:=hy;simp only at h1 h2 h3 h4 h5 h6 h7 |-;have hba:Bd s ls ra:=mk ra (by omega) h1 (by omega) (by omega);cases b with
  |false =>
   have:=h7 rfl;subst this
   repeat' (first|refine zW [87] ?_|(refine zB [87] ?_ ?_<;>intro h<;>try exact zk h)|refine zX [87] ?_|(refine zE ?_;(skip))|(exact(by show Tidy _ _ _;exact(ti _ 4)))|((exfalso;(simp at h<;>omega)))|fail)
  |true =>
   obtain⟨k1,k2⟩:=h6 rfl;by_cases h0:ra.f.1=0
   .have c0:=okT4 s ls ra h0
    rw [eQ _ ra rfl h1] at c0;have hpa:=h3 h0;obtain⟨n,rfl⟩:∃ j,n=j+1:=⟨n-1,by omega⟩
    simp only [tokensR] at k1;rw [if_pos h0] at k1;have xt:=tokenR_x (s:=s) (ls:=ls) (r:=ra);have d1:=peek4 s ls ra hba;have y1:=peekR_x (s:=s) (ls:=ls) (r:=ra);obtain⟨rt,hrt⟩:∃ rt,rt=tokenR s ls ra:=⟨_,rfl⟩
    have hrt0:=hrt;rw [<- hrt] at k1 xt;simp only [tokenR] at hrt;generalize peekR s ls ra=pp at d1 y1 hrt xt;obtain⟨xp,ra1⟩:=pp;simp only at d1 y1 hrt xt;have hba1:Bd s ls ra1:=hba.of y1.1 (by omega) (by omega);have d2:=name4r s ls ra1 false hba1;have y2:=nameR_x (s:=s) (ls:=ls) (r:=ra1) (c:=false);generalize nameR s ls false ra1=pp2 at d2 y2 hrt xt;obtain⟨tn,ra2⟩:=pp2;simp only at d2 y2 hrt xt;have z2:ra2.x=ra.x:=y2.1.trans y1.1;have d3:=has08 ra2.x.tokens tn (by rw [z2];omega);have d4:=fail4 s ls ra2 8 xp.a;obtain⟨ra3,hra3⟩:∃ ra3,ra3=newR ra2.x.tokens tn xp.a ra2:=⟨_,rfl⟩
    rw [<- hra3] at hrt;have z3:ra3.x=ra.x:=by rw [hra3];exact newR_x.1.trans z2
    have d5:=fail4 s ls ra3 6 xp.a;obtain⟨ra4,hra4⟩:∃ ra4,ra4=roomR ra3.x.tokens.length 8 xp.a ra3:=⟨_,rfl⟩
    rw [show ra2.x.tokens.length=ra3.x.tokens.length by rw [z2,z3],<- hra4] at hrt;have z4:ra4.x=ra.x:=by rw [hra4];exact roomR_x.1.trans z3
    have zr:rt.x.tokens=ra.x.tokens++[tn]/\rt.x.rules=[]:=by rw [xt.1];exact⟨rfl,h1⟩
    have hbt:Bd s ls rt:=mk rt (by rw [zr.1];simp;omega) zr.2 (by omega) (by omega);have d6:=next4r s ls rt sComma hbt;have q1:=nextQ_T (ls:=ls) (r:=rt) (t:=sComma);have q2':=nextQ_F (ls:=ls) (r:=rt) (t:=sComma);generalize nextQ ls sComma rt=Q at d6 q1 q2' k1;obtain⟨b,rb⟩:=Q;simp only at d6 q1 q2' k1;have xb':rb.x=rt.x/\rb.alts=rt.alts:=by
     cases b with
     |true=>have:=(q1 rfl).1;simp only [Prod.mk.injEq,true_and] at this;rw [this];exact⟨rfl,rfl⟩
     |false=>have:=q2' rfl;simp only [Prod.mk.injEq,true_and] at this;rw [this];exact⟨rfl,rfl⟩
    rw [eQ _ ra rfl h1,eQ ra.x.tokens ra1 (by rw [y1.1]) (by rw [y1.1];exact h1)] at d1;rw [eQ ra.x.tokens ra1 (by rw [y1.1]) (by rw [y1.1];exact h1),eQ ra.x.tokens ra2 (by rw [z2]) (by rw [z2];exact h1)] at d2;rw [eQ ra.x.tokens ra2 (by rw [z2]) (by rw [z2];exact h1),eQ ra.x.tokens _ (by rw [failR_x.1,z2]) (by rw [failR_x.1,z2];exact h1)] at d4;rw [eQ ra.x.tokens ra3 (by rw [z3]) (by rw [z3];exact h1),eQ ra.x.tokens _ (by rw [failR_x.1,z3]) (by rw [failR_x.1,z3];exact h1)] at d5;rw [eQ (ra.x.tokens++[tn]) rt zr.1 zr.2,eQ (ra.x.tokens++[tn]) rb (by rw [xb'.1];exact zr.1) (by rw [xb'.1];exact zr.2)] at d6;have eb:rb.x.tokens=ra.x.tokens++[tn]:=by rw [xb'.1];exact zr.1
    have fin:∀ s1:S,Tidy 3 s1 ⟨PT.ofList [(0,.bp 0 0),(2,.bp 3 0),(6,.d (.bool b))],[rBox s ls rb,.room (ra.x.tokens.length+1) 1,.room 0 2,Zl],[]⟩ ->
      ∃ y:Nat × RS × Bool,(y.2.1.x.rules=[]/\y.2.1.alts=0/\(y.2.1.f.1=0->y.2.1.pos<=ls.length)/\y.2.1.pos<=ls.length+5/\y.2.1.x.tokens.length+y.1<=ls.length+1/\(y.2.2=true->tokensR s ls y.1 y.2.1=rK/\ls.length<y.1+y.2.1.pos)/\(y.2.2=false->y.2.1=rK))/\y.1<n+1 /\
       Tidy 3 s1 ⟨PT.ofList [(0,.bp 0 0),(2,.bp 3 0),(6,.d (.bool y.2.2))],[rBox s ls y.2.1,.room y.2.1.x.tokens.length 1,.room 0 2,Zl],[]⟩:=fun s1 ht=>by
     refine⟨(n,rb,b),⟨by simp only;rw [xb'.1];exact zr.2,by simp only;omega,?_,?_,by simp only [eb];simp;omega,fun hb'=>?_,fun hb'=>?_⟩,Nat.lt_succ_self _,by simp only [eb];rw [List.length_append];exact ht⟩
     .intro hf0
      cases b with
      |true=>obtain⟨e1,e2,e3⟩:=q1 rfl;simp only [Prod.mk.injEq,true_and] at e1;rw [e1];exact e3
      |false =>
       have e1:=q2' rfl;simp only [Prod.mk.injEq,true_and] at e1;simp only at hf0 |-;rw [e1] at hf0 |-;have hx:rt.pos=ra.pos+1:=xt.2.1;have:=tokenR_len (s:=s) (ls:=ls) h0 (by rw [<- hrt0];exact hf0);omega
     .cases b with
      |true=>obtain⟨e1,e2,e3⟩:=q1 rfl;simp only [Prod.mk.injEq,true_and] at e1;simp only [e1];omega
      |false=>have e1:=q2' rfl;simp only [Prod.mk.injEq,true_and] at e1;simp only [e1];omega
     .simp only at hb'
      subst hb';rw [if_pos rfl] at k1;obtain⟨e1,e2,e3⟩:=q1 rfl;simp only [Prod.mk.injEq,true_and] at e1;have:rb.pos=rt.pos+1:=by rw [e1]
      exact⟨k1,by simp only;omega⟩
     .simp only at hb'
      subst hb';rw [if_neg (by simp)] at k1;exact k1
    have eRt:rBox s ls rt=.box [.d (.str s),.d (.sl 3 (ls.map encL)),.d (.int .i64 (ra4.pos:Nat)),.d (.int .i64 (ra4.f.1:Nat)),.d (.int .i64 (ra4.f.2:Nat)),.d (.int .i64 (ra4.alts:Nat)),.d (.int .i64 ra4.x.k),.sr 1 1 (ra4.x.tokens.map .str++[.str tn]),.d (.str ra4.x.sep),.d (.str ra4.x.start),.sr 2 2 (ra4.x.rules.map encR)]:=by
     rw [hrt];unfold rBox;simp only [List.map_append,List.map_cons,List.map_nil]
    rw [eRt] at d6;have hrl:ra.x.tokens.length=(ra4.x.tokens.map DV.str).length:=by simp [z4]
    have hll:(ra4.x.tokens.map DV.str).length<=1048580:=by rw [<- hrl];omega
    simp only [List.length_append,List.length_cons,List.length_nil] at d6;rw [hrl] at c0 d1 d2 d4 d5 d6 fin |-;rw [newR] at hra3;unfold hasF at hra3;generalize ra2.x.tokens.any (fun y=>decide (y=tn))=b8 at d3 hra3;have hll2:ra4.x.tokens.length<=1048580:=by simpa using hll
    rw [roomR] at hra4;cases b8 with
    |true =>
     rw [if_pos rfl] at hra3;rw [<- hra3] at d4;by_cases h8:ra3.x.tokens.length=8
     .rw [if_pos h8] at hra4
      rw [<- hra4] at d5
      repeat' (first|refine zW [87] ?_|(refine zB [87] ?_ ?_<;>intro h<;>try exact zk h)|refine zX [87] ?_|refine oF (c0) ?_|refine eF (c0) ?_|refine oF (d1) ?_|refine eF (d1) ?_|refine oF (d2) ?_|refine eF (d2) ?_|refine oF (d4) ?_|refine eF (d4) ?_|refine oF (d5) ?_|refine eF (d5) ?_|refine oF (d6) ?_|refine eF (d6) ?_|refine oW d3 ?_|refine oX (frz:=[87]) Yo ?_ (hv:=app1) (hf:=rfl) (he:=rfl)|refine eX ?_ (hv:=app1) (hf:=rfl) (he:=rfl)|refine oX (frz:=[87]) Yo ?_ (hv:=app0) (hf:=rfl) (he:=rfl)|refine eX ?_ (hv:=app0) (hf:=rfl) (he:=rfl)|(refine zE ?_;(skip))|(exact fin _ (ti _ 4))|((exfalso;(simp at h<;>omega)))|fail)
     .rw [if_neg h8] at hra4
      subst hra4
      repeat' (first|refine zW [87] ?_|(refine zB [87] ?_ ?_<;>intro h<;>try exact zk h)|refine zX [87] ?_|refine oF (c0) ?_|refine eF (c0) ?_|refine oF (d1) ?_|refine eF (d1) ?_|refine oF (d2) ?_|refine eF (d2) ?_|refine oF (d4) ?_|refine eF (d4) ?_|refine oF (d6) ?_|refine eF (d6) ?_|refine oW d3 ?_|refine oX (frz:=[87]) Yo ?_ (hv:=app1) (hf:=rfl) (he:=rfl)|refine eX ?_ (hv:=app1) (hf:=rfl) (he:=rfl)|refine oX (frz:=[87]) Yo ?_ (hv:=app0) (hf:=rfl) (he:=rfl)|refine eX ?_ (hv:=app0) (hf:=rfl) (he:=rfl)|(refine zE ?_;(skip))|(exact fin _ (ti _ 4))|((exfalso;(simp at h<;>omega)))|fail)
    |false =>
     rw [if_neg (by simp)] at hra3;subst hra3;by_cases h8:ra3.x.tokens.length=8
     .rw [if_pos h8] at hra4
      rw [<- hra4] at d5
      repeat' (first|refine zW [87] ?_|(refine zB [87] ?_ ?_<;>intro h<;>try exact zk h)|refine zX [87] ?_|refine oF (c0) ?_|refine eF (c0) ?_|refine oF (d1) ?_|refine eF (d1) ?_|refine oF (d2) ?_|refine eF (d2) ?_|refine oF (d5) ?_|refine eF (d5) ?_|refine oF (d6) ?_|refine eF (d6) ?_|refine oW d3 ?_|refine oX (frz:=[87]) Yo ?_ (hv:=app1) (hf:=rfl) (he:=rfl)|refine eX ?_ (hv:=app1) (hf:=rfl) (he:=rfl)|refine oX (frz:=[87]) Yo ?_ (hv:=app0) (hf:=rfl) (he:=rfl)|refine eX ?_ (hv:=app0) (hf:=rfl) (he:=rfl)|(refine zE ?_;(skip))|(exact fin _ (ti _ 4))|((exfalso;(simp at h<;>omega)))|fail)
     .rw [if_neg h8] at hra4
      subst hra4
      repeat' (first|refine zW [87] ?_|(refine zB [87] ?_ ?_<;>intro h<;>try exact zk h)|refine zX [87] ?_|refine oF (c0) ?_|refine eF (c0) ?_|refine oF (d1) ?_|refine eF (d1) ?_|refine oF (d2) ?_|refine eF (d2) ?_|refine oF (d6) ?_|refine eF (d6) ?_|refine oW d3 ?_|refine oX (frz:=[87]) Yo ?_ (hv:=app1) (hf:=rfl) (he:=rfl)|refine eX ?_ (hv:=app1) (hf:=rfl) (he:=rfl)|refine oX (frz:=[87]) Yo ?_ (hv:=app0) (hf:=rfl) (he:=rfl)|refine eX ?_ (hv:=app0) (hf:=rfl) (he:=rfl)|(refine zE ?_;(skip))|(exact fin _ (ti _ 4))|((exfalso;(simp at h<;>omega)))|fail)
   .have c0:=okF4 s ls ra h0
    rw [eQ _ ra rfl h1] at c0;rw [tokensR_f h0] at k1;subst k1
    repeat' (first|refine zW [87] ?_|(refine zB [87] ?_ ?_<;>intro h<;>try exact zk h)|refine zX [87] ?_|refine oF (c0) ?_|refine eF (c0) ?_|(refine zE ?_;(skip))|(exact(by show Tidy _ _ _;exact(ti _ 4)))|((exfalso;(simp at h<;>omega)))|fail)
 repeat' (first|refine zR [87] ?_|refine oF (c8) ?_|refine eF (c8) ?_|refine oF (c9) ?_|refine eF (c9) ?_|refine oF (c10) ?_|refine eF (c10) ?_|refine oF (c11) ?_|refine eF (c11) ?_|fail)
 refine Yq ?_;refine Run.mid ⟨PT.ofList [(0,.bp 0 0),(2,.bp 3 0)],[rBox s ls r13,.room rK.x.tokens.length 1,.room 0 2,Zl],[]⟩ ?_ ?_
 .rw [newR] at hr13
  unfold hasF at hr13;rw [<- et] at ch hr13;generalize r11.x.tokens.any (fun y=>decide (y=sp))=b at ch hr13;subst hr12;cases b with
  |true =>
   rw [if_pos rfl] at hr13;rw [<- hr13] at c13
   repeat' (first|refine zW [87] ?_|(refine zB [87] ?_ ?_<;>intro h<;>try exact zk h)|refine zX [87] ?_|refine oF (c13) ?_|refine eF (c13) ?_|refine oW ch ?_|refine eW ch ?_|(refine zE ?_;(skip))|(exact(by show Tidy _ _ _;exact(ti _ 4)))|((exfalso;(simp at h<;>omega)))|fail)
  |false =>
   rw [if_neg (by simp)] at hr13;subst hr13
   repeat' (first|refine zW [87] ?_|(refine zB [87] ?_ ?_<;>intro h<;>try exact zk h)|refine zX [87] ?_|refine oW ch ?_|refine eW ch ?_|(refine zE ?_;(skip))|(exact(by show Tidy _ _ _;exact(ti _ 4)))|((exfalso;(simp at h<;>omega)))|fail)
 subst hr18
 repeat' (first|refine zW [87] ?_|(refine zB [87] ?_ ?_<;>intro h<;>try exact zk h)|refine zX [87] ?_|refine oF (c14) ?_|refine eF (c14) ?_|refine oF (c15) ?_|refine eF (c15) ?_|refine oF (c16) ?_|refine eF (c16) ?_|refine oF (c17) ?_|refine eF (c17) ?_|refine oF (c19) ?_|refine eF (c19) ?_|(refine zE ?_;(skip))|(((first|refine Yt ?_|skip);exact⟨trivial,_,_,rfl,rfl,.refl,wkE⟩))|((exfalso;(simp at h<;>omega)))|fail)
end Go.Av
end
noncomputable section
namespace Go.Av
open Go Go.Proofs
set_option maxRecDepth 10000
theorem DvTo.aggs:∀ {xs ys:List DV},xs.length=ys.length->(∀ (j:Nat) x y,xs[j]?=some x->ys[j]?=some y->DvTo x y)->DvTo (.agg xs) (.agg ys):=fun hl h=>.agg hl h
abbrev srcZ:DV:=.agg [.int .i64 0,.nilsl,.str [],.str [],.nilsl]
theorem srcZ_to:DvTo srcZ (encX src0):=DvTo.agg rfl (fun j x y hx hy=>match j,hx,hy with
 |0,hx,hy=>by simp at hx hy;subst hx hy;exact .refl
 |1,hx,hy=>by simp at hx hy;subst hx hy;exact .nil
 |2,hx,hy=>by simp at hx hy;subst hx hy;exact .refl
 |3,hx,hy=>by simp at hx hy;subst hx hy;exact .refl
 |4,hx,hy=>by simp at hx hy;subst hx hy;exact .nil
 |j+5,hx,_=>by simp at hx)
abbrev resX (r:Src × Fa):AV:=.tup [.d (encX r.1),.d (faultD r.2.1 r.2.2)]
structure LsB (ls:List Lx):Prop where
 l:ls.length<=100000
 len:∀ x ∈ ls,x.t.length<=1048576
section
variable {s:List Nat} {ls:List Lx}
theorem takeR_b (h:LsB ls) {r:RS}:(takeR s ls r).1.t.length<=1048576:=by
 simp only [takeR,peekR];split
 .rename_i x hx;exact h.len x (List.mem_of_getElem? hx)
 .simp
theorem altR_b (h:LsB ls):∀ (n:Nat) (acc:List (List Nat)) (r:RS),(∀ t ∈ acc,t.length<=1048576)->(altR s ls n acc r).1.length<=acc.length+n/\∀ t ∈ (altR s ls n acc r).1,t.length<=1048576
 |0,acc,r,ha=>⟨Nat.le_refl _,ha⟩
 |n+1,acc,r,ha=>by
  simp only [altR];split
  .split
   .have ih:=altR_b h n (acc++[(takeR s ls (peekR s ls r).2).1.t]) (wordR acc.length (takeR s ls (peekR s ls r).2)) (fun t ht=>by
     rcases List.mem_append.1 ht with ht|ht
     .exact ha t ht
     .rw [List.mem_singleton.1 ht];exact takeR_b h)
    refine⟨?_,ih.2⟩;have:=ih.1;rw [List.length_append,List.length_cons,List.length_nil] at this;omega
   .exact⟨by simp only;omega,ha⟩
  .exact⟨by simp only;omega,ha⟩
theorem altsR_b (h:LsB ls):∀ (n:Nat) (acc:List (List (List Nat))) (r:RS),(∀ a ∈ acc,a.length<=100001/\∀ t ∈ a,t.length<=1048576) ->
  (altsR s ls n acc r).1.length<=acc.length+n/\∀ a ∈ (altsR s ls n acc r).1,a.length<=100001/\∀ t ∈ a,t.length<=1048576
 |0,acc,r,ha=>⟨Nat.le_refl _,ha⟩
 |n+1,acc,r,ha=>by
  have h1:=altR_b (s:=s) h (ls.length+1) [] (countR ls r) (fun t ht=>by cases ht);have h2:∀ a ∈ acc++[(oneAltR s ls r).1],a.length<=100001/\∀ t ∈ a,t.length<=1048576:=fun a hm=>by
   rcases List.mem_append.1 hm with hm|hm
   .exact ha a hm
   .rw [List.mem_singleton.1 hm]
    exact⟨by have:=h1.1;have:=h.l;simp only [List.length_nil] at *;unfold oneAltR;omega,h1.2⟩
  simp only [altsR];split
  .have ih:=altsR_b h n _ (nextQ ls sBar (oneAltR s ls r).2).2 h2
   refine⟨?_,ih.2⟩;have:=ih.1;rw [List.length_append,List.length_cons,List.length_nil] at this;omega
  .exact⟨by simp,h2⟩
structure AltB (r:RS):Prop where
 most:r.alts<=25
 ok:r.f.1=0->r.alts<=24
theorem oneAltR_a {r:RS} (h:AltB r) (h0:r.f.1=0) (hp:r.pos<=ls.length):AltB (oneAltR s ls r).2:=by
 have a1:=oneAltR_x (s:=s) (ls:=ls) (r:=r) (fun _=>hp);have h24:=h.ok h0;refine⟨by omega,fun hf=>?_⟩;have hc:(countR ls r).f.1=0:=by
  by_cases hc:(countR ls r).f.1=0
  .exact hc
  .unfold oneAltR at hf
   rw [altR_f hc] at hf;exact absurd hf hc
 have hne:r.alts≠24:=fun e=>by
  simp only [countR,roomR,e,if_true,failR,h0] at hc;simp at hc
 omega
theorem altsR_a:∀ (n:Nat) (acc:List (List (List Nat))) (r:RS),AltB r->r.f.1=0->r.pos<=ls.length->AltB (altsR s ls n acc r).2/\((altsR s ls n acc r).2.f.1=0->(altsR s ls n acc r).2.pos<=ls.length/\r.pos<=(altsR s ls n acc r).2.pos)
 |0,acc,r,h,h0,hp=>⟨h,fun _=>⟨hp,Nat.le_refl _⟩⟩
 |n+1,acc,r,h,h0,hp=>by
  have a1:=oneAltR_a (s:=s) h h0 hp;have a2:=oneAltR_x (s:=s) (ls:=ls) (r:=r) (fun _=>hp);have a3:r.pos<=(oneAltR s ls r).2.pos:=by
   have h1:=(altR_x (s:=s) (ls:=ls) (ls.length+1) [] (countR ls r)).2.2.1;have h2:=(roomR_x (n:=r.alts) (w:=24) (a:=(ls.getD (r.pos-1) lx0).a) (r:=r)).2.1;have e':(countR ls r).pos=r.pos:=h2;rw [e'] at h1;exact h1
  simp only [altsR];cases hq:(nextQ ls sBar (oneAltR s ls r).2).1 with
  |true =>
   obtain⟨e,q1,q2⟩:=nextQ_T hq;rw [if_pos rfl,e];simp only;have ih:=altsR_a n (acc++[(oneAltR s ls r).1]) { (oneAltR s ls r).2 with pos:=(oneAltR s ls r).2.pos+1 } ⟨a1.most,a1.ok⟩ q1 q2;exact⟨ih.1,fun hf=>⟨(ih.2 hf).1,by have:=(ih.2 hf).2;simp only at this;omega⟩⟩
  |false =>
   rw [if_neg (by simp),nextQ_F hq];exact⟨a1,fun hf=>⟨a2.2.2.2 hf,a3⟩⟩
structure RuB (ls:List Lx) (r:RS):Prop where
 alts:AltB r
 fits:FitsX r.x
 rules:r.f.1=0->r.x.rules.length<=8
 pos:r.f.1=0->r.pos<=ls.length
 posM:r.pos<=ls.length+20
theorem ruleR_b (hl:LsB ls) {r:RS} (h:RuB ls r) (h0:r.f.1=0):RuB ls (ruleR s ls r)/\((ruleR s ls r).f.1=0->r.pos<(ruleR s ls r).pos)/\(ruleR s ls r).x.tokens=r.x.tokens/\(ruleR s ls r).x.rules.length=r.x.rules.length+1:=by
 have xp:=peekR_x (s:=s) (ls:=ls) (r:=r);have hp0:=h.pos h0;have hr8:=h.rules h0;have hal:=h.alts.ok h0;simp only [ruleR];generalize peekR s ls r=p at xp |-;obtain⟨x0,r0⟩:=p;simp only at xp |-;have xn:=nameR_x (s:=s) (ls:=ls) (r:=r0) (c:=true);have ln:(nameR s ls true r0).1.length<=1048576:=takeR_b hl;generalize nameR s ls true r0=q at xn ln |-;obtain⟨nm,r1⟩:=q;simp only at xn ln |-;obtain⟨r2,hr2⟩:∃ r2,r2=if r1.f.1=0 then newR (ruleNames r1.x) nm x0.a r1 else r1:=⟨_,rfl⟩
 have x2:r2.x=r1.x/\r2.pos=r1.pos/\r2.alts=r1.alts:=by
  rw [hr2];split
  .exact newR_x
  .exact⟨rfl,rfl,rfl⟩
 rw [<- hr2];obtain⟨r3,hr3⟩:∃ r3,r3=roomR r2.x.rules.length 8 x0.a r2:=⟨_,rfl⟩
 have x3:r3.x=r2.x/\r3.pos=r2.pos/\r3.alts=r2.alts:=by rw [hr3];exact roomR_x
 have g3:r3.x=r.x:=by rw [x3.1,x2.1,xn.1,xp.1]
 have p3:r3.pos=r.pos+1:=by rw [x3.2.1,x2.2.1,xn.2.1,xp.2.1]
 have a3:r3.alts=r.alts:=by rw [x3.2.2,x2.2.2,xn.2.2,xp.2.2]
 have w3:r3.f.1=0->r.x.rules.length≠8:=fun hf e=>by
  have e2:r2.x.rules.length=8:=by rw [x2.1,xn.1,xp.1];exact e
  rw [hr3,roomR,if_pos e2] at hf;unfold failR at hf;split at hf
  .simp at hf
  .rename_i hx;exact hx hf
 rw [<- hr3];have x4:=mustR_x (s:=s) (ls:=ls) (r:=r3) (k:=3) (t:=sEq);have l4:=mustR_len (s:=s) (ls:=ls) (r:=r3) (k:=3) (t:=sEq);generalize mustR s ls 3 sEq r3=r4 at x4 l4 |-;obtain⟨v,hv⟩:∃ v,v=if r4.f.1=0 then altsR s ls (ls.length+1) [] r4 else([],r4):=⟨_,rfl⟩
 rw [<- hv];have hvx:v.2.x=r.x/\v.2.pos<=ls.length+5/\AltB v.2/\(v.2.f.1=0->v.2.pos<=ls.length/\r.pos+2<=v.2.pos/\r.x.rules.length≠8)/\v.1.length<=100001/\∀ a ∈ v.1,a.length<=100001/\∀ t ∈ a,t.length<=1048576:=by
  rw [hv];split
  .rename_i h4
   obtain⟨h3,_,_,l5⟩:=l4 h4;have hb4:AltB r4:=⟨by omega,fun _=>by omega⟩
   have k1:=altsR_x (s:=s) (ls:=ls) (ls.length+1) [] r4 (fun _=>by omega) (by omega);have k2:=altsR_a (s:=s) (ls:=ls) (ls.length+1) [] r4 hb4 h4 (by omega);have k3:=altsR_b (s:=s) hl (ls.length+1) [] r4 (fun a ha=>by cases ha);exact⟨k1.1.trans (x4.1.trans g3),by omega,k2.1,fun hf=>⟨(k2.2 hf).1,by have:=(k2.2 hf).2;omega,w3 h3⟩,by have:=k3.1;have:=hl.l;simp only [List.length_nil] at *;omega,k3.2⟩
  .rename_i h4
   exact⟨x4.1.trans g3,by simp only;omega,⟨by simp only;omega,fun e=>absurd e h4⟩,fun e=>absurd e h4,by simp,fun a ha=>by cases ha⟩
 obtain⟨v1,v2,v3,v4,v5,v6⟩:=hvx;have x5:=mustR_x (s:=s) (ls:=ls) (r:=v.2) (k:=3) (t:=sSemi);have l5:=mustR_len (s:=s) (ls:=ls) (r:=v.2) (k:=3) (t:=sSemi);generalize mustR s ls 3 sSemi v.2=r5 at x5 l5 |-;have g5:r5.x=r.x:=x5.1.trans v1;have hf:=h.fits;simp only [g5];refine⟨⟨⟨by simp only;have:=v3.most;omega,fun e=>?_⟩,?_,fun e=>?_,fun e=>?_,by simp only;omega⟩,fun e=>?_,trivial,by simp⟩
 .obtain⟨e1,_,_,e2⟩:=l5 e
  have:=v3.ok e1;first|omega|(simp only;omega)
 .refine⟨hf.tokens,by simp;omega,fun ru hm=>?_,fun ru hm a ha=>?_,hf.sep,hf.start,hf.tokenS,fun ru hm=>?_,fun ru hm a ha t ht=>?_⟩<;>rcases List.mem_append.1 hm with hm|hm
  .exact hf.alts ru hm
  .rw [List.mem_singleton.1 hm];simp only;omega
  .exact hf.names ru hm a ha
  .rw [List.mem_singleton.1 hm] at ha;have:=(v6 a ha).1;omega
  .exact hf.ruleS ru hm
  .rw [List.mem_singleton.1 hm];exact ln
  .exact hf.nameS ru hm a ha t ht
  .rw [List.mem_singleton.1 hm] at ha;exact(v6 a ha).2 t ht
 .obtain⟨e1,_,_,e2⟩:=l5 e
  have:=(v4 e1).2.2
  simp;omega
 .obtain⟨e1,_,_,e2⟩:=l5 e
  first|omega|(simp only;omega)
 .obtain⟨e1,_,_,e2⟩:=l5 e
  have:=(v4 e1).2.1
  first|omega|(simp only;omega)
theorem tokensR_b (hl:LsB ls):∀ (n:Nat) (r:RS),(∀ t ∈ r.x.tokens,t.length<=1048576)->(tokensR s ls n r).x={ r.x with tokens:=(tokensR s ls n r).x.tokens }/\∀ t ∈ (tokensR s ls n r).x.tokens,t.length<=1048576
 |0,r,h=>⟨rfl,h⟩
 |n+1,r,h=>by
  have a:=tokenR_x (s:=s) (ls:=ls) (r:=r);have ht:∀ t ∈ (tokenR s ls r).x.tokens,t.length<=1048576:=fun t ht=>by
   rw [a.1] at ht;rcases List.mem_append.1 ht with ht|ht
   .exact h t ht
   .rw [List.mem_singleton.1 ht];exact takeR_b hl
  have hx:(tokenR s ls r).x={ r.x with tokens:=(tokenR s ls r).x.tokens }:=by rw [a.1]
  have q:=nextQ_x (ls:=ls) (r:=tokenR s ls r) (t:=sComma);simp only [tokensR];split
  .split
   .have ih:=tokensR_b hl n (nextQ ls sComma (tokenR s ls r)).2 (by rw [q.1];exact ht)
    refine⟨?_,ih.2⟩;rw [ih.1,q.1,hx]
   .rw [q.1];exact⟨hx,ht⟩
  .exact⟨rfl,h⟩
theorem headR_b (hl:LsB ls):RuB ls (headR s ls ⟨0,(0,0),0,src0⟩).2/\(headR s ls ⟨0,(0,0),0,src0⟩).2.x.rules=[]:=by
 simp only [headR];have xL:(lookR s ls ⟨0,(0,0),0,src0⟩).x.tokens=[]/\(lookR s ls ⟨0,(0,0),0,src0⟩).x.rules=[]/\(lookR s ls ⟨0,(0,0),0,src0⟩).x.sep=[]/\(lookR s ls ⟨0,(0,0),0,src0⟩).x.start=[]/\(lookR s ls ⟨0,(0,0),0,src0⟩).pos=3/\(lookR s ls ⟨0,(0,0),0,src0⟩).alts=0:=by
  simp only [lookR];have x1:=mustR_x (s:=s) (ls:=ls) (r:=⟨0,(0,0),0,src0⟩) (k:=1) (t:=wLook);generalize mustR s ls 1 wLook ⟨0,(0,0),0,src0⟩=r1 at x1 |-;have x2:=takeR_x (s:=s) (ls:=ls) (r:=r1);generalize takeR s ls r1=p at x2 |-;obtain⟨xn,r2⟩:=p;simp only at x1 x2 |-;have t2:r2.x=src0:=x2.1.trans x1.1;obtain⟨r3,hr3⟩:∃ r3,r3=if r2.f.1=0/\xn.k≠2 then failR 3 xn.a r2 else r2:=⟨_,rfl⟩
  have t3:r3.x=src0/\r3.pos=2/\r3.alts=0:=by
   rw [hr3];split
   .exact⟨failR_x.1.trans t2,by rw [failR_x.2.1];omega,by rw [failR_x.2.2];omega⟩
   .exact⟨t2,by omega,by omega⟩
  rw [<- hr3];have f2:=failR_x (e:=2) (a:=xn.a) (r:=r3);obtain⟨r4,hr4⟩:∃ r4:RS,r4.x.tokens=[]/\r4.x.rules=[]/\r4.x.sep=[]/\r4.x.start=[]/\r4.pos=2/\r4.alts=0/\r4=(if r3.f.1=0 then if numOk xn.t=true then { r3 with x:={ r3.x with k:=(decF xn.t:Nat) } } else { failR 2 xn.a r3 with x:={ r3.x with k:=0 } } else r3):=by
   refine⟨_,?_,?_,?_,?_,?_,?_,rfl⟩<;>split<;>(try split)<;>first|(simp only [t3.1]<;>fail)|simp [t3.1,t3.2.1,t3.2.2,f2.2.1,f2.2.2]
  obtain⟨k1,k2,k3,k4,k5,k6,k7⟩:=hr4;have x6:=mustR_x (s:=s) (ls:=ls) (r:=r4) (k:=3) (t:=sSemi);rw [k7] at x6 k1 k2 k3 k4 k5 k6;rw [x6.1,x6.2.1,x6.2.2];exact⟨k1,k2,k3,k4,by omega,by omega⟩
 generalize lookR s ls ⟨0,(0,0),0,src0⟩=rL at xL |-;have x7:=mustR_x (s:=s) (ls:=ls) (r:=rL) (k:=1) (t:=wToken);have l7:=mustR_len (s:=s) (ls:=ls) (r:=rL) (k:=1) (t:=wToken);generalize mustR s ls 1 wToken rL=r7 at x7 l7 |-;have hK:(tokensR s ls (ls.length+1) r7).x={ rL.x with tokens:=(tokensR s ls (ls.length+1) r7).x.tokens }/\(∀ t ∈ (tokensR s ls (ls.length+1) r7).x.tokens,t.length<=1048576)/\(tokensR s ls (ls.length+1) r7).x.tokens.length<=ls.length+1/\(tokensR s ls (ls.length+1) r7).pos<=ls.length+4/\(tokensR s ls (ls.length+1) r7).alts=0:=by
  have h1:=tokensR_b (s:=s) hl (ls.length+1) r7 (by rw [x7.1,xL.1];intro t ht;cases ht);rw [x7.1] at h1;by_cases h0:r7.f.1=0
  .obtain⟨_,_,_,l5⟩:=l7 h0
   have h2:=tokensR_x (s:=s) (ls:=ls) (ls.length+1) r7 (fun _=>by omega) (by omega);refine⟨h1.1,h1.2,?_,by omega,by omega⟩;have:=h2.2.2.2;rw [x7.1,xL.1] at this;simpa using this
  .refine⟨h1.1,h1.2,?_⟩
   rw [tokensR_f h0];exact⟨by rw [x7.1,xL.1];simp,by omega,by omega⟩
 generalize tokensR s ls (ls.length+1) r7=rK at hK |-;have x8:=mustR_x (s:=s) (ls:=ls) (r:=rK) (k:=3) (t:=sSemi);generalize mustR s ls 3 sSemi rK=r8 at x8 |-;simp only [sepR];have x9:=mustR_x (s:=s) (ls:=ls) (r:=r8) (k:=1) (t:=wSep);generalize mustR s ls 1 wSep r8=r9 at x9 |-;have x10:=peekR_x (s:=s) (ls:=ls) (r:=r9);generalize peekR s ls r9=p10 at x10 |-;have x11:=nameR_x (s:=s) (ls:=ls) (r:=p10.2) (c:=false);have n11:(nameR s ls false p10.2).1.length<=1048576:=takeR_b hl;generalize nameR s ls false p10.2=p11 at x11 n11 |-;obtain⟨sp,r11⟩:=p11;simp only at x11 n11 |-;have xT:r11.x=rK.x:=by rw [x11.1,x10.1,x9.1,x8.1]
 have x13:=newR_x (l:=r11.x.tokens) (t:=sp) (a:=p10.1.a) (r:={ r11 with x:={ r11.x with sep:=sp } });generalize newR r11.x.tokens sp p10.1.a { r11 with x:={ r11.x with sep:=sp } }=r13 at x13 |-;have x14:=mustR_x (s:=s) (ls:=ls) (r:=r13) (k:=3) (t:=sSemi);generalize mustR s ls 3 sSemi r13=r14 at x14 |-;simp only [startR];have x15:=mustR_x (s:=s) (ls:=ls) (r:=r14) (k:=1) (t:=wStart);generalize mustR s ls 1 wStart r14=r15 at x15 |-;have x16:=peekR_x (s:=s) (ls:=ls) (r:=r15);generalize peekR s ls r15=p16 at x16 |-;have x17:=nameR_x (s:=s) (ls:=ls) (r:=p16.2) (c:=true);have n17:(nameR s ls true p16.2).1.length<=1048576:=takeR_b hl;generalize nameR s ls true p16.2=p17 at x17 n17 |-;obtain⟨st,r17⟩:=p17;simp only at x17 n17 |-;have xU:r17.x={ rK.x with sep:=sp }:=by rw [x17.1,x16.1,x15.1,x14.1,x13.1,xT]
 have x19:=mustR_x (s:=s) (ls:=ls) (r:={ r17 with x:={ r17.x with start:=st } }) (k:=3) (t:=sSemi);have l19:=mustR_len (s:=s) (ls:=ls) (r:={ r17 with x:={ r17.x with start:=st } }) (k:=3) (t:=sSemi);generalize mustR s ls 3 sSemi { r17 with x:={ r17.x with start:=st } }=r19 at x19 l19 |-;have xV:r19.x={ rK.x with sep:=sp,start:=st }:=by rw [x19.1,xU]
 have hrul:r19.x.rules=[]:=by rw [xV];simp only;rw [hK.1];exact xL.2.1
 have htok:r19.x.tokens=rK.x.tokens:=by rw [xV]
 have hll:=hl.l;simp only at x13 x19 l19;refine⟨⟨⟨by omega,fun _=>by omega⟩,⟨by rw [htok];omega,by rw [hrul];simp,(by rw [hrul];intro r hr;cases hr),(by rw [hrul];intro r hr;cases hr),(by rw [xV];exact n11),(by rw [xV];exact n17),(by rw [htok];exact hK.2.1),(by rw [hrul];intro r hr;cases hr),(by rw [hrul];intro r hr;cases hr)⟩,fun _=>by rw [hrul];simp,fun e=>?_,by omega⟩,hrul⟩;obtain⟨_,_,_,e2⟩:=l19 e;omega
end
abbrev rBoxA (i j:Nat) (s:List Nat) (ls:List Lx) (r:RS):Ob:=.box [.d (.str s),.d (.sl 3 (ls.map encL)),.d (.int .i64 (r.pos:Nat)),.d (.int .i64 (r.f.1:Nat)),.d (.int .i64 (r.f.2:Nat)),.d (.int .i64 (r.alts:Nat)),.d (.int .i64 r.x.k),.sr i 1 (r.x.tokens.map .str),.d (.str r.x.sep),.d (.str r.x.start),.sr j 2 (r.x.rules.map encR)]
abbrev oZX:Ob:=.box [.d (.int .i64 0),.d .nilsl,.d (.str []),.d (.str []),.d .nilsl]
abbrev oZF:Ob:=.box [.d (.int .i64 0),.d (.int .i64 0)]
set_option maxHeartbeats 4000000 in
theorem parse4 (s:List Nat) (ls:List Lx) (hs:s.length<=1048576) (hl:LsB ls) (hn:NumL ls) (hlex:lexemesF s=(ls.map encL,0,0)) :
  KnownCall Tryz.prog 28 [.str s] (resX (resR (readR s ls))):=by
 have cl:=lexemes4 s hs;have hll:=hl.l;rw [hlex] at cl;obtain⟨r0,hr0⟩:∃ r0:RS,r0=⟨0,(0,0),0,src0⟩:=⟨_,rfl⟩
 have mk:∀ r:RS,RuB ls r->(r.f.1=0\/r.x.rules.length<=1048576)->Bd s ls r:=fun r h hr=>⟨hs,by omega,by have:=h.posM;omega,by have:=h.alts.most;omega,by have:=h.fits.tokens;omega,by have:=h.fits.rules;omega,hl.len⟩
 have ch:=head4 s ls r0 (by rw [hr0];exact⟨hs,by omega,by simp,by simp,by simp,by simp,hl.len⟩) hn (by rw [hr0]) (by rw [hr0]) (by rw [hr0]) (by rw [hr0]);have hh:=headR_b (s:=s) hl;simp only [readR];rw [<- hr0] at hh |-;generalize headR s ls r0=H at ch hh |-;obtain⟨st,rh⟩:=H;simp only at ch hh |-;rw [hr0] at ch;obtain⟨hh1,hh2⟩:=hh;obtain⟨R,hR⟩:∃ R,R=rulesR s ls (ls.length+2) true rh:=⟨_,rfl⟩
 rw [<- hR];refine knownE2 Yo (fnAt Tryz.func28 (by kernel_rfl) (by kernel_rfl):FnAt _ _ (mkFn Tryz.f28 [])) ?_
 repeat' (first|refine zR [] ?_|refine zC (cl) ?_|fail)
 refine Yq ?_;refine Run.mid ⟨PT.ofList [(0,.d (.str s)),(2,.bp 0 0),(3,.bp 1 0),(4,.d (.sl 3 (ls.map encL)))],[oZX,oZF,oZF],[]⟩ ?_ ?_
 .repeat' (first|refine zW [] ?_|(refine zB [] ?_ ?_<;>intro h<;>try exact zk h)|refine zX [] ?_|(refine Yt ?_;refine r2 ?_;first|done|(skip))|(exact(by show Tidy _ _ _;exact(ti _ 3)))|((exfalso;first|(simp at h<;>fail)|(simp at h;omega)))|fail)
 refine Run.seqR ?_;refine Run.mid ⟨PT.ofList [(2,.bp 0 0),(3,.bp 1 0),(4,.d (.sl 3 (ls.map encL))),(6,.bp 3 0)],[oZX,oZF,oZF,.box [.d (.str s),.d (.sl 3 (ls.map encL)),.d (.int .i64 0),.d (.int .i64 0),.d (.int .i64 0),.d (.int .i64 0),.d (.int .i64 0),.d .nilsl,.d (.str []),.d (.str []),.d .nilsl]],[]⟩ ?_ ?_
 .repeat' (first|refine zW [] ?_|(refine zB [] ?_ ?_<;>intro h<;>try exact zk h)|refine zX [] ?_|(refine Yt ?_;refine r2 ?_;first|done|(skip))|(exact(by show Tidy _ _ _;exact(ti _ 4)))|((exfalso;first|(simp at h<;>fail)|(simp at h;omega)))|fail)
 refine Run.cellRoom 3 7 1 ?_;refine Run.cellRoom 3 10 2 ?_
 repeat' (first|refine zR [] ?_|refine oE [3,4,5] ch ?_|fail)
 have hRb:RuB ls R/\(R.f.1=0\/R.x.rules.length<=1048576):=by
  have gen:∀ (n:Nat) (b:Bool) (r:RS),RuB ls r->RuB ls (rulesR s ls n b r):=by
   intro n
   induction n with
   |zero=>exact fun b r h=>h
   |succ n ih =>
    intro b r h;simp only [rulesR];split
    .rename_i hc
     exact ih false _ (ruleR_b (s:=s) hl h hc.1).1
    .exact h
  rw [hR];have:=gen (ls.length+2) true rh hh1;exact⟨this,.inr this.fits.rules⟩
 refine Yq ?_;refine Run.mid ⟨PT.ofList [(2,.bp 0 0),(3,.bp 1 0),(6,.bp 3 0),(7,.bp 6 0),(8,.d (.int .i64 (rh.pos:Nat)))],[oZX,oZF,oZF,rBoxA 4 5 s ls R,.room R.x.tokens.length 1,.room R.x.rules.length 2,boxL st],[]⟩ ?_ ?_
 .repeat refine zS ?_
  refine zX [] ?_
  repeat refine zS ?_
  refine Run.loopT (fun y:Nat × RS × Bool=>⟨PT.ofList [(2,.bp 0 0),(3,.bp 1 0),(4,.d (.sl 3 (ls.map encL))),(6,.bp 3 0),(7,.bp 6 0),(8,.d (.int .i64 (rh.pos:Nat))),(9,.d (.bool y.2.2))],[oZX,oZF,oZF,rBoxA 4 5 s ls y.2.1,.room y.2.1.x.tokens.length 1,.room y.2.1.x.rules.length 2,boxL st],[]⟩)
   (fun y=>RuB ls y.2.1/\rulesR s ls y.1 y.2.2 y.2.1=R/\(y.2.1.f.1=0->ls.length+1<=y.1+y.2.1.pos)) (fun y=>y.1) (ls.length+2,rh,true) ⟨hh1,hR.symm,fun _=>by simp only;omega⟩ (by simp only [hh2];exact(ti _ 7)) (fun y hy=>?_)
  obtain⟨n,r,b⟩:=y;obtain⟨h1,h2,h3⟩:=hy;simp only at h1 h2 h3 |-;by_cases h0:r.f.1=0
  .have c0:=okT4 s ls r h0
   have hp:=h1.pos h0;obtain⟨n,rfl⟩:∃ j,n=j+1:=⟨n-1,by have:=h3 h0;omega⟩
   have cr:=rule4 s ls r (mk r h1 (.inl h0)) (by omega) h1.fits (by have:=h1.alts.most;omega);have br:=ruleR_b (s:=s) hl h1 h0;simp only [rulesR] at h2;by_cases hc:b=true\/r.pos<ls.length
   .rw [if_pos ⟨h0,hc⟩] at h2
    obtain⟨b1,b2,b3,b4⟩:=br;generalize ruleR s ls r=r' at cr h2 b1 b2 b3 b4;have fin:∀ s1:S,Tidy 0 s1 ⟨PT.ofList [(2,.bp 0 0),(3,.bp 1 0),(4,.d (.sl 3 (ls.map encL))),(6,.bp 3 0),(7,.bp 6 0),(8,.d (.int .i64 (rh.pos:Nat))),(9,.d (.bool false))],[oZX,oZF,oZF,rBoxA 4 5 s ls r',.room r'.x.tokens.length 1,.room r'.x.rules.length 2,boxL st],[]⟩ ->
      ∃ y:Nat × RS × Bool,(RuB ls y.2.1/\rulesR s ls y.1 y.2.2 y.2.1=R/\(y.2.1.f.1=0->ls.length+1<=y.1+y.2.1.pos))/\y.1<n+1 /\
       Tidy 0 s1 ⟨PT.ofList [(2,.bp 0 0),(3,.bp 1 0),(4,.d (.sl 3 (ls.map encL))),(6,.bp 3 0),(7,.bp 6 0),(8,.d (.int .i64 (rh.pos:Nat))),(9,.d (.bool y.2.2))],[oZX,oZF,oZF,rBoxA 4 5 s ls y.2.1,.room y.2.1.x.tokens.length 1,.room y.2.1.x.rules.length 2,boxL st],[]⟩:=fun s1 ht =>
     ⟨(n,r',false),⟨b1,h2,fun hf=>by have:=b2 hf;have:=h3 h0;simp only;omega⟩,Nat.lt_succ_self _,ht⟩
    cases b with
    |true =>
     repeat' (first|refine zW [] ?_|(refine zB [] ?_ ?_<;>intro h<;>try exact zk h)|refine zX [] ?_|refine oE [3,4,5] c0 ?_|refine oE [3,4,5] cr ?_|(refine Yt ?_;refine r2 ?_;first|done|(skip))|(exact fin _ (ti _ 7))|((exfalso;(simp at h<;>omega)))|fail)
    |false =>
     have hlt:r.pos<ls.length:=by simpa using hc
     repeat' (first|refine zW [] ?_|(refine zB [] ?_ ?_<;>intro h<;>try exact zk h)|refine zX [] ?_|refine oE [3,4,5] c0 ?_|refine oE [3,4,5] cr ?_|(refine Yt ?_;refine r2 ?_;first|done|(skip))|(exact fin _ (ti _ 7))|((exfalso;(simp at h<;>omega)))|fail)
   .rw [if_neg (fun e=>hc e.2)] at h2
    subst h2;have hb:b=false:=by cases b<;>simp at hc |-
    subst hb;have hge:¬ r.pos<ls.length:=fun e=>hc (.inr e)
    repeat' (first|refine zW [] ?_|(refine zB [] ?_ ?_<;>intro h<;>try exact zk h)|refine zX [] ?_|refine oE [3,4,5] c0 ?_|(refine Yt ?_;refine r2 ?_;first|done|(skip))|(exact(by show Tidy _ _ _;exact(ti _ 7)))|((exfalso;(simp at h<;>omega)))|fail)
  .have c0:=okF4 s ls r h0
   rw [rulesR_f h0] at h2;subst h2
   repeat' (first|refine zW [] ?_|(refine zB [] ?_ ?_<;>intro h<;>try exact zk h)|refine zX [] ?_|refine oE [3,4,5] c0 ?_|(refine Yt ?_;refine r2 ?_;first|done|(skip))|(exact(by show Tidy _ _ _;exact(ti _ 7)))|((exfalso;(simp at h<;>omega)))|fail)
 have ck:=known4 s ls R st rh.pos (mk R hRb.1 hRb.2) hRb.1.fits (by have:=hh1.posM;omega);have xk:(knownR st (ls.drop rh.pos) R).x=R.x:=by
  simp only [knownR];rw [knownL_x.1];split
  .exact failR_x.1
  .rfl
 obtain⟨r9,hr9⟩:∃ r9,r9=if R.f.1=0 then knownR st (ls.drop rh.pos) R else R:=⟨_,rfl⟩
 have x9:r9.x=R.x:=by
  rw [hr9];split
  .exact xk
  .rfl
 rw [<- hr9];refine Yq ?_;refine Run.mid ⟨PT.ofList [(2,.bp 0 0),(3,.bp 1 0),(6,.bp 3 0)],[oZX,oZF,oZF,rBoxA 4 5 s ls r9,.room r9.x.tokens.length 1,.room r9.x.rules.length 2],[]⟩ ?_ ?_
 .by_cases h0:R.f.1=0
  .have c0:=okT4 s ls R h0
   rw [if_pos h0] at hr9;rw [<- hr9] at ck
   repeat' (first|refine zW [] ?_|(refine zB [] ?_ ?_<;>intro h<;>try exact zk h)|refine zX [] ?_|refine oE [3,4,5] c0 ?_|refine oE [3,4,5] ck ?_|(refine Yt ?_;refine r2 ?_;first|done|(skip))|(exact(by show Tidy _ _ _;exact(ti _ 6)))|((exfalso;(simp at h<;>omega)))|fail)
  .have c0:=okF4 s ls R h0
   rw [if_neg h0] at hr9;subst hr9
   repeat' (first|refine zW [] ?_|(refine zB [] ?_ ?_<;>intro h<;>try exact zk h)|refine zX [] ?_|refine oE [3,4,5] c0 ?_|(refine Yt ?_;refine r2 ?_;first|done|(skip))|(exact(by show Tidy _ _ _;exact(ti _ 6)))|((exfalso;(simp at h<;>omega)))|fail)
 by_cases h0:r9.f.1=0
 .have c0:=okT4 s ls r9 h0
  rw [show resR r9=(r9.x,(0,0)) by simp only [resR,h0,if_true]]
  repeat' (first|refine zW [] ?_|(refine zB [] ?_ ?_<;>intro h<;>try exact zk h)|refine zX [] ?_|refine oE [3,4,5] c0 ?_|(refine Yt ?_;refine r2 ?_;first|done|(exact .tup2 .refl .refl))|((exfalso;(simp at h<;>omega)))|fail)
 .have c0:=okF4 s ls r9 h0
  rw [show resR r9=(src0,r9.f) by simp only [resR,h0,if_false]]
  repeat' (first|refine zW [] ?_|(refine zB [] ?_ ?_<;>intro h<;>try exact zk h)|refine zX [] ?_|refine oE [3,4,5] c0 ?_|(refine Yt ?_;refine r2 ?_;first|done|(exact .tup2 srcZ_to .refl))|((exfalso;(simp at h<;>omega)))|fail)
end Go.Av
end
noncomputable section
namespace Go.Av
open Go Go.Proofs
theorem bind_ok {α β:Type} {x:Except Fa α} {f:α->Except Fa β} {r:β} (h:x.bind f=.ok r):∃ a,x=.ok a/\f a=.ok r:=by
 cases x with
 |error e=>cases h
 |ok a=>exact⟨a,rfl,h⟩
structure JP (ls:List Lx) (p:PS):Prop where
 mem:∀ x ∈ p.l,x ∈ ls
 l:p.l.length<=ls.length
 uses:p.uses.length+p.l.length<=ls.length
 toks:p.x.tokens.length<=8
 rules:p.x.rules.length<=8
 total:p.total<=24
section
variable {ls:List Lx} {s:List Nat}
theorem JP.pb {p:PS} (h:JP ls p) (hb:LsB ls):PB p :=
 ⟨fun x hx=>hb.len x (h.mem x hx),Nat.le_trans h.l hb.l,by have:=h.toks;omega,by have:=h.rules;omega,by have h1:=h.uses;have h2:=hb.l;omega,by have:=h.total;omega⟩
theorem JP.step {p q:PS} (h:JP ls p) (hm:∀ x ∈ q.l,x ∈ p.l) (hl:q.l.length<=p.l.length) (hu:q.uses.length+q.l.length<=p.uses.length+p.l.length) (ht:q.x.tokens.length<=8) (hr:q.x.rules.length<=8) (hn:q.total<=24):JP ls q :=
 ⟨fun x hx=>h.mem x (hm x hx),Nat.le_trans hl h.l,Nat.le_trans hu h.uses,ht,hr,hn⟩
theorem JP.want {p q:PS} {k:Nat} {t:List Nat} (h:JP ls p) (e:wantP s k t p=.ok q):JP ls q:=by
 obtain⟨e1,e2,e3⟩:=wantP_x e;refine h.step e3 (by omega) ?_ ?_ ?_ ?_<;>rw [e1]
 .simp only;omega
 .exact h.toks
 .exact h.rules
 .exact h.total
theorem nextP_x {p:PS} {x:Lx} {q:PS} (e:nextP s p=.ok (x,q)):q={ p with l:=q.l }/\p.l=x :: q.l:=by
 unfold nextP at e;cases hl:p.l with
 |nil=>rw [hl] at e;cases e
 |cons y l =>
  rw [hl] at e;simp only [Except.ok.injEq,Prod.mk.injEq] at e;obtain⟨rfl,rfl⟩:=e;exact⟨rfl,rfl⟩
theorem JP.cut {p q:PS} {x:Lx} (h:JP ls p) (e1:q={ p with l:=q.l }) (e2:p.l=x :: q.l):JP ls q/\q.uses=p.uses/\q.x=p.x/\q.total=p.total:=by
 refine⟨h.step (fun z hz=>by rw [e2];exact List.mem_cons_of_mem _ hz) (by rw [e2];simp) ?_ ?_ ?_ ?_,?_,?_,?_⟩<;>rw [e1]
 .rw [e2];simp
 .exact h.toks
 .exact h.rules
 .exact h.total
theorem JP.term {p v:PS} {sep:Bool} {t:List Nat} (h:JP ls p) (e:terminalP s sep p=.ok (t,v)):JP ls v/\v.x=p.x/\(sep=false->p.x.tokens.length≠8):=by
 obtain⟨y1,y2,y3,y4⟩:=terminalP_x e;simp only at y1 y2 y3;refine⟨h.step y3 (by omega) ?_ ?_ ?_ ?_,?_,y4⟩<;>rw [y1]
 .simp only;omega
 .exact h.toks
 .exact h.rules
 .exact h.total
theorem JP.look {p q:PS} (h:JP ls p) (e:lookP s p=.ok q):JP ls q:=by
 unfold lookP at e;obtain⟨p1,h1,e⟩:=bind_ok e;obtain⟨⟨x,p2⟩,h2,e⟩:=bind_ok e;have j1:=h.want h1;obtain⟨j2,_⟩:=j1.cut (nextP_x h2).1 (nextP_x h2).2;simp only at e;split at e
 .cases e
 .split at e
  .exact JP.want (p:={ p2 with x:={ p2.x with k:=(decF x.t:Nat) } }) ⟨j2.mem,j2.l,j2.uses,j2.toks,j2.rules,j2.total⟩ e
  .cases e
theorem JP.token {p q:PS} (h:JP ls p) (e:tokenP s p=.ok q):JP ls q:=by
 obtain⟨t,v,h1,rfl⟩:=tokenP_x e;obtain⟨j1,j2,j3⟩:=h.term h1;have:=h.toks;have j3:=j3 rfl;exact⟨j1.mem,j1.l,j1.uses,by simp only [List.length_append,List.length_cons,List.length_nil];rw [j2];omega,j1.rules,j1.total⟩
theorem JP.tokensL:∀ (n:Nat) {p q:PS},JP ls p->tokensLP s n p=.ok q->JP ls q
 |0,p,q,h,e=>by simp only [tokensLP,Except.ok.injEq] at e;rw [<- e];exact h
 |n+1,p,q,h,e=>by
  unfold tokensLP at e;split at e
  .obtain⟨⟨x,p1⟩,h1,e⟩:=bind_ok e
   obtain⟨p2,h2,e⟩:=bind_ok e;exact JP.tokensL n ((h.cut (nextP_x h1).1 (nextP_x h1).2).1.token h2) e
  .simp only [Except.ok.injEq] at e;rw [<- e];exact h
theorem JP.tokens {p q:PS} (h:JP ls p) (e:tokensP s p=.ok q):JP ls q:=by
 unfold tokensP at e;obtain⟨p1,h1,e⟩:=bind_ok e;obtain⟨p2,h2,e⟩:=bind_ok e;obtain⟨p3,h3,e⟩:=bind_ok e;exact((((h.want h1).token h2).tokensL _ h3)).want e
theorem JP.sep {p q:PS} (h:JP ls p) (e:sepQ s p=.ok q):JP ls q:=by
 unfold sepQ at e;obtain⟨p1,h1,e⟩:=bind_ok e;obtain⟨⟨t,p2⟩,h2,e⟩:=bind_ok e;have j:=((h.want h1).term h2).1;exact JP.want (p:={ p2 with x:={ p2.x with sep:=t } }) ⟨j.mem,j.l,j.uses,j.toks,j.rules,j.total⟩ e
theorem JP.start {p q:PS} (h:JP ls p) (e:startP s p=.ok q):JP ls q:=by
 unfold startP at e;obtain⟨p1,h1,e⟩:=bind_ok e;obtain⟨⟨x,p2⟩,h2,e⟩:=bind_ok e;have j1:=h.want h1;obtain⟨w1,w2⟩:=wordP_x h2;simp only at w1 w2;obtain⟨j,ju,_⟩:=j1.cut w1 w2;have hu:=j1.uses;rw [w2,List.length_cons] at hu;exact JP.want (p:={ p2 with x:={ p2.x with start:=x.t },uses:=p2.uses++[(x.t,x.a)] }) ⟨j.mem,j.l,by simp only [List.length_append,List.length_cons,List.length_nil];rw [ju];omega,j.toks,j.rules,j.total⟩ e
theorem JP.alt {p q:PS} {v:List (List Nat)} (h:JP ls p) (e:oneAltP s p=.ok (v,q)):JP ls q:=by
 obtain⟨a1,a2,a3,a4,a5,a6,_⟩:=altQ_x _ _ e;simp only at a1 a2 a3 a4 a5 a6;exact h.step a4 a5 (by omega) (by rw [a1];exact h.toks) (by rw [a1];exact h.rules) (by rw [a3];exact h.total)
theorem JP.alts:∀ (n:Nat) (b:Bool) (acc:List (List (List Nat))) {p:PS} {v:List (List (List Nat)) × PS},JP ls p->altsP s n b acc p=.ok v->JP ls v.2/\v.2.x=p.x
 |0,b,acc,p,v,h,e=>by simp only [altsP,Except.ok.injEq] at e;rw [<- e];exact⟨h,rfl⟩
 |n+1,b,acc,p,v,h,e=>by
  unfold altsP at e;split at e
  .simp only [Except.ok.injEq] at e;rw [<- e];exact⟨h,rfl⟩
  .obtain⟨⟨x,p1⟩,h1,e⟩:=bind_ok e
   obtain⟨j1,ju,jx,jt⟩:=h.cut (nextP_x h1).1 (nextP_x h1).2;simp only at e;by_cases hsg:x.k=3/\x.t=(if b=true then sEq else sBar)
   .rw [if_pos hsg] at e
    by_cases h24:p1.total=24
    .rw [if_pos h24] at e;cases e
    .rw [if_neg h24] at e
     obtain⟨⟨w,p2⟩,h2,e⟩:=bind_ok e;have:=j1.total;have j2:=JP.alt (p:={ p1 with total:=p1.total+1 }) ⟨j1.mem,j1.l,j1.uses,j1.toks,j1.rules,by simp only;omega⟩ h2;obtain⟨a1,_⟩:=altQ_x _ _ h2;obtain⟨j3,j4⟩:=JP.alts n false _ j2 e;exact⟨j3,j4.trans (Eq.trans a1 jx)⟩
   .rw [if_neg hsg] at e;cases e
theorem JP.rule {p q:PS} (h:JP ls p) (e:ruleQ s p=.ok q):JP ls q:=by
 unfold ruleQ at e;obtain⟨⟨x,p1⟩,h1,e⟩:=bind_ok e;obtain⟨w1,w2⟩:=wordP_x h1;simp only at w1 w2 e;obtain⟨j1,ju,jx,jt⟩:=h.cut w1 w2;split at e
 .cases e
 .split at e
  .cases e
  .rename_i h8
   obtain⟨v,h2,e⟩:=bind_ok e;obtain⟨p3,h3,e⟩:=bind_ok e;obtain⟨j2,j3⟩:=JP.alts _ _ _ (p:={ p1 with names:=setP p1.names x.t (false,false,true) }) ⟨j1.mem,j1.l,j1.uses,j1.toks,j1.rules,j1.total⟩ h2;have j4:=j2.want h3;have e3:p3.x=v.2.x:=by rw [(wantP_x h3).1]
   simp only [Except.ok.injEq] at e;rw [<- e];have:=j1.rules;exact⟨j4.mem,j4.l,j4.uses,j4.toks,by simp only [List.length_append,List.length_cons,List.length_nil];rw [e3,j3];simp only;omega,j4.total⟩
theorem JP.rulesL:∀ (n:Nat) (b:Bool) {p q:PS},JP ls p->rulesP s n b p=.ok q->JP ls q
 |0,b,p,q,h,e=>by simp only [rulesP,Except.ok.injEq] at e;rw [<- e];exact h
 |n+1,b,p,q,h,e=>by
  unfold rulesP at e;split at e
  .obtain⟨p1,h1,e⟩:=bind_ok e
   exact JP.rulesL n false (h.rule h1) e
  .simp only [Except.ok.injEq] at e;rw [<- e];exact h
end
def stepP (s:List Nat):Nat->PS->Except Fa PS
 |0,p=>lookP s p
 |1,p=>tokensP s p
 |2,p=>sepQ s p
 |3,p=>startP s p
 |4,p=>rulesP s (p.l.length+1) true p
 |_,p=>usedP p
def restP (s:List Nat):Nat->Nat->PS->Except Fa PS
 |0,_,p=>.ok p
 |n+1,k,p=>(stepP s k p).bind fun p=>restP s n (k+1) p
theorem readP_rest (s:List Nat) (ls:List Lx):readP s ls=restP s 6 0 ⟨ls,src0,[],[],0⟩:=by
 unfold readP;simp only [restP,stepP];have:∀ x:Except Fa PS,x.bind (fun p=>.ok p)=x:=fun x=>by cases x<;>rfl
 simp only [this]
theorem JP.stepL {ls:List Lx} {s:List Nat} {k:Nat} {p q:PS} (h:JP ls p) (e:stepP s k p=.ok q):JP ls q:=by
 match k,e with
 |0,e=>exact h.look e
 |1,e=>exact h.tokens e
 |2,e=>exact h.sep e
 |3,e=>exact h.start e
 |4,e=>exact JP.rulesL _ _ h e
 |k+5,e =>
  have e:usedP p=.ok q:=e;unfold usedP at e;obtain⟨_,_,e⟩:=bind_ok e;simp only [Except.ok.injEq] at e;rw [<- e];exact h
end Go.Av
end
noncomputable section
namespace Go.Av
open Go Go.Proofs
def altTx (a:List (List Nat)):List Nat:=a.flatMap fun s=>32 :: s
def barP:Nat->List Nat
 |0=>[]
 |_+1=>[32,124]
def altsTo (al:List (List (List Nat))):Nat->List Nat
 |0=>[]
 |n+1=>altsTo al n++barP n++altTx (al.getD n [])
def ruleP (r:SRule):List Nat:=r.name++[32,61]++altsTo r.alts r.alts.length++[32,59,10]
def headP (x:Src):List Nat:=[108,111,111,107,97,104,101,97,100,32]++[48+x.k.toNat]++[59,10,116,111,107,101,110,32]++List.intercalate [44,32] x.tokens++[59,10,115,101,112,97,114,97,116,111,114,32]++x.sep++[59,10,115,116,97,114,116,32]++x.start++[59,10]
def rulesTo (x:Src) (n:Nat):List Nat:=(x.rules.take n).flatMap ruleP
def printX (x:Src):List Nat:=headP x++rulesTo x x.rules.length
end Go.Av
end
noncomputable section
namespace Go.Av
open Go Go.Proofs
abbrev Tk:=Nat × List Nat
abbrev kt (x:Lx):Tk:=(x.k,x.t)
inductive LexR:List Nat->List Tk->Prop
 |nil:LexR [] []
 |blank {c:Nat} {l:List Nat} {ts:List Tk}:blankI c=true->LexR l ts->LexR (c :: l) ts
 |lex {w l:List Nat} {k:Nat} {ts:List Tk}:beginsF (w++l)=(k,w)->k≠0->LexR l ts->LexR (w++l) ((k,w) :: ts)
theorem begins_cons (c:Nat) (l:List Nat):beginsF (c :: l)=if signI c then(3,[c]) else if letterI c then(1,(c :: l).take (1+runL wordI l)) else if digitI c then
   (if(c=48/\1<1+runL digitI l)\/(∃ e,(c :: l)[1+runL digitI l]?=some e/\endI e=true) then(0,[]) else(2,(c :: l).take (1+runL digitI l))) else(0,[]):=rfl
theorem begins_pass {c:Nat} {l:List Nat} (h:(beginsF (c :: l)).1≠0):passM false (c :: l)=0:=by
 have e:beginsF (c :: l)=if signI c then(3,[c]) else if letterI c then(1,(c :: l).take (1+runL wordI l)) else if digitI c then
   (if(c=48/\1<1+runL digitI l)\/(∃ e,(c :: l)[1+runL digitI l]?=some e/\endI e=true) then(0,[]) else(2,(c :: l).take (1+runL digitI l))) else(0,[]):=rfl
 have key:(signI (c:Nat) || letterI (c:Nat) || digitI (c:Nat))=true:=by
  cases h1:signI (c:Nat) with
  |true=>rfl
  |false =>
   cases h2:letterI (c:Nat) with
   |true=>rfl
   |false =>
    cases h3:digitI (c:Nat) with
    |true=>rfl
    |false=>rw [e,h1,h2,h3] at h;simp at h
 have hb:blankI (c:Nat)=false/\c≠35:=by
  simp only [signI,letterI,digitI,blankI,Bool.or_eq_true,Bool.and_eq_true,beq_iff_eq,decide_eq_true_eq,Bool.or_eq_false_iff,beq_eq_false_iff_ne] at key |-;omega
 simp only [passM,hb.1,hb.2,if_false,Bool.false_eq_true]
theorem lexR_lexes {l:List Nat} {ts:List Tk} (h:LexR l ts):∀ (s:List Nat) (n a:Nat) (acc:List DV),s.drop a=l->a<=s.length->s.length+1<=n+a ->
  ∃ ls:List Lx,lexesF s n a acc=(acc++ls.map encL,0,0)/\ls.map kt=ts:=by
 induction h with
 |nil =>
  intro s n a acc hd ha hn;have:a=s.length:=by
   have:=congrArg List.length hd;rw [List.length_drop] at this;simp at this;omega
  subst this;obtain⟨m,rfl⟩:∃ m,n=m+1:=⟨n-1,by omega⟩
  refine⟨[],?_,rfl⟩;unfold lexesF;rw [if_pos (by unfold atF4;rw [List.drop_length];rfl)]
  simp
 |@blank c l ts hb _ ih =>
  intro s n a acc hd ha hn;have hlt:a<s.length:=by
   have:=congrArg List.length hd;rw [List.length_drop] at this;simp at this;omega
  have hd1:s.drop (a+1)=l:=by rw [<- List.drop_drop,hd];rfl
  obtain⟨m,rfl⟩:∃ m,n=m+1:=⟨n-1,by omega⟩
  obtain⟨ls,h1,h2⟩:=ih s (m+1) (a+1) acc hd1 hlt (by omega);refine⟨ls,?_,h2⟩;have hat:atF4 s a=atF4 s (a+1):=by
   unfold atF4;rw [hd,hd1];simp only [passM,hb,if_true];omega
  unfold lexesF at h1 |-;rw [hat];exact h1
 |@lex w l k ts hb hk _ ih =>
  intro s n a acc hd ha hn;have hw:w≠[]:=by
   intro e;subst e;cases l with
   |nil=>simp [beginsF] at hb;exact hk hb.symm
   |cons c l =>
    have:=beginsF_pos (c:=c) (l:=l) (by rw [show beginsF (c :: l)=(k,[]) from hb];exact hk);rw [show beginsF (c :: l)=(k,[]) from hb] at this;simp at this
  obtain⟨c,w',rfl⟩:∃ c w',w=c :: w':=by cases w with|nil=>exact absurd rfl hw|cons c w'=>exact⟨c,w',rfl⟩
  have hp:passM false (c :: w'++l)=0:=begins_pass (l:=w'++l) (by rw [show beginsF (c :: (w'++l))=(k,c :: w') from hb];exact hk);have hat:atF4 s a=a:=by unfold atF4;rw [hd,hp];rfl
  have hlen:=congrArg List.length hd;rw [List.length_drop,List.length_append] at hlen;simp only [List.length_cons] at hlen;obtain⟨m,rfl⟩:∃ m,n=m+1:=⟨n-1,by omega⟩
  have hd1:s.drop (a+(c :: w').length)=l:=by rw [<- List.drop_drop,hd];simp
  obtain⟨ls,h1,h2⟩:=ih s m (a+(c :: w').length) (acc++[lexD k (c :: w') a]) hd1 (by simp only [List.length_cons];omega) (by simp only [List.length_cons];omega);refine⟨⟨k,c :: w',a⟩ :: ls,?_,by simp [h2]⟩;unfold lexesF;rw [hat,hd,hb,if_neg (by omega),if_neg hk];simp only;rw [h1]
  simp
theorem runL_app (p:Int->Bool):∀ (w rest:List Nat),(∀ c ∈ w,p (c:Nat)=true)->(∀ c,rest[0]?=some c->p (c:Nat)=false)->runL p (w++rest)=w.length
 |[],[],_,_=>rfl
 |[],c :: rest,_,h=>by simp [runL,h c rfl]
 |a :: w,rest,h1,h2=>by
  have:=runL_app p w rest (fun c hc=>h1 c (List.mem_cons_of_mem _ hc)) h2;simp only [List.cons_append,runL,h1 a List.mem_cons_self,if_true,this,List.length_cons];omega
def IsW:List Nat->Prop
 |[]=>False
 |c :: l=>letterI (c:Nat)=true/\∀ d ∈ l,wordI (d:Nat)=true
theorem letter_nsign {c:Nat} (h:letterI (c:Nat)=true):signI (c:Nat)=false:=by
 simp only [letterI,signI,Bool.or_eq_true,Bool.and_eq_true,decide_eq_true_eq,Bool.or_eq_false_iff,beq_eq_false_iff_ne] at h |-;omega
theorem LexR.word {w rest:List Nat} {ts:List Tk} (hw:IsW w) (hr:∀ c,rest[0]?=some c->wordI (c:Nat)=false) (h:LexR rest ts):LexR (w++rest) ((1,w) :: ts):=by
 cases w with
 |nil=>exact hw.elim
 |cons c l =>
  refine LexR.lex ?_ (by decide) h
  show beginsF (c :: (l++rest))=(1,c :: l)
  rw [begins_cons,letter_nsign hw.1,hw.1,runL_app wordI l rest hw.2 hr];simp only [Bool.false_eq_true,if_false,if_true];rw [Nat.add_comm,List.take_succ_cons,List.take_left']
  rfl
theorem LexR.sign {c:Nat} {rest:List Nat} {ts:List Tk} (hc:signI (c:Nat)=true) (h:LexR rest ts):LexR (c :: rest) ((3,[c]) :: ts):=by
 refine LexR.lex (w:=[c]) ?_ (by decide) h
 show beginsF (c :: rest)=(3,[c])
 rw [begins_cons,hc];rfl
theorem LexR.num {k:Nat} {rest:List Nat} {ts:List Tk} (h1:1<=k) (h2:k<=9) (hr:∀ c,rest[0]?=some c->digitI (c:Nat)=false/\endI (c:Nat)=false) (h:LexR rest ts):LexR ((48+k) :: rest) ((2,[48+k]) :: ts):=by
 refine LexR.lex (w:=[48+k]) ?_ (by decide) h
 show beginsF ((48+k) :: rest)=(2,[48+k])
 have hs:signI ((48+k:Nat):Int)=false:=by simp only [signI,Bool.or_eq_false_iff,beq_eq_false_iff_ne];omega
 have hl:letterI ((48+k:Nat):Int)=false:=by simp only [letterI,Bool.or_eq_false_iff,Bool.and_eq_false_iff,decide_eq_false_iff_not];omega
 have hd:digitI ((48+k:Nat):Int)=true:=by simp only [digitI,Bool.and_eq_true,decide_eq_true_eq];omega
 have h0:runL digitI rest=0:=runL_app digitI [] rest (fun c hc=>by cases hc) (fun c hc=>(hr c hc).1);have hne:¬ ((48+k=48/\1<1+0)\/∃ e,((48+k) :: rest)[1+0]?=some e/\endI (e:Nat)=true):=by
  rintro(⟨h,_⟩|⟨e,h3,h4⟩)
  .omega
  .have h3:rest[0]?=some e:=by simpa using h3
   rw [(hr e h3).2] at h4;cases h4
 rw [begins_cons,hs,hl,hd,h0];simp only [Bool.false_eq_true,if_false,if_true];rw [if_neg hne]
 rfl
def commaW (l:List (List Nat)):List Nat:=l.flatMap fun s=>44 :: 32 :: s
theorem inter_comma:∀ (t:List Nat) (l:List (List Nat)),List.intercalate [44,32] (t :: l)=t++commaW l
 |t,[]=>by simp [List.intercalate,commaW]
 |t,u :: l=>by
  have:=inter_comma u l;simp only [List.intercalate,List.intersperse,List.flatten_cons] at this |-;rw [this];simp [commaW]
def altsW:Bool->List (List (List Nat))->List Nat
 |_,[]=>[]
 |first,a :: l=>(if first then [] else [32,124])++altTx a++altsW false l
theorem altsW_app:∀ (b:Bool) (al:List (List (List Nat))) (a:List (List Nat)),altsW b (al++[a])=altsW b al++(if b && al.isEmpty then [] else [32,124])++altTx a
 |b,[],a=>by cases b<;>simp [altsW]
 |b,x :: al,a=>by
  have:=altsW_app false al a;simp only [List.cons_append,altsW,this];cases b<;>simp
theorem altsTo_take (al:List (List (List Nat))):∀ n,n<=al.length->altsTo al n=altsW true (al.take n)
 |0,_=>rfl
 |n+1,h=>by
  obtain⟨a,ha⟩:∃ a,al[n]?=some a:=⟨al[n]'(by omega),List.getElem?_eq_getElem (by omega)⟩
  have h1:=altsTo_take al n (by omega);rw [List.take_add_one,ha]
  show _=altsW true (al.take n++[a])
  rw [altsW_app];simp only [altsTo,h1,List.getD_eq_getElem?_getD,ha,Option.getD_some];cases n with
  |zero=>rfl
  |succ n =>
   have:(al.take (n+1)).isEmpty=false:=by
    cases al with
    |nil=>simp at h
    |cons x l=>rfl
   rw [this];rfl
theorem altsTo_W (al:List (List (List Nat))):altsTo al al.length=altsW true al:=by
 rw [altsTo_take al _ (Nat.le_refl _),List.take_length]
def altsT:Bool->List (List (List Nat))->List Tk
 |_,[]=>[]
 |first,a :: l=>(if first then [] else [(3,sBar)])++a.map (fun s=>(1,s))++altsT false l
def ruleT (r:SRule):List Tk:=(1,r.name) :: (3,sEq) :: (altsT true r.alts++[(3,sSemi)])
def commaT (l:List (List Nat)):List Tk:=l.flatMap fun s=>[(3,sComma),(1,s)]
def toksX (x:Src):List Tk:=[(1,wLook),(2,[48+x.k.toNat]),(3,sSemi),(1,wToken)]++((1,x.tokens.headD []) :: commaT x.tokens.tail)++[(3,sSemi),(1,wSep),(1,x.sep),(3,sSemi),(1,wStart),(1,x.start),(3,sSemi)]++x.rules.flatMap ruleT
theorem LexR.sp {l:List Nat} {ts:List Tk} (h:LexR l ts):LexR (32 :: l) ts:=.blank rfl h
theorem LexR.nl {l:List Nat} {ts:List Tk} (h:LexR l ts):LexR (10 :: l) ts:=.blank rfl h
theorem sepHead {c:Nat} {l:List Nat} (h:wordI (c:Nat)=false):∀ d,(c :: l)[0]?=some d->wordI (d:Nat)=false:=fun d hd=>by
 simp at hd;rw [<- hd];exact h
theorem lexComma {rest:List Nat} {ts:List Tk} (hr:∀ c,rest[0]?=some c->wordI (c:Nat)=false) (h:LexR rest ts):∀ (l:List (List Nat)),(∀ s ∈ l,IsW s)->LexR (commaW l++rest) (commaT l++ts)/\∀ c,(commaW l++rest)[0]?=some c->wordI (c:Nat)=false
 |[],_=>⟨h,hr⟩
 |s :: l,hw=>by
  obtain⟨h1,h2⟩:=lexComma hr h l (fun s hs=>hw s (List.mem_cons_of_mem _ hs));have:=LexR.sign (c:=44) rfl (LexR.sp ((LexR.word (hw s List.mem_cons_self) h2 h1)));refine⟨?_,fun c hc=>?_⟩
  .simpa [commaW,commaT] using this
  .simp [commaW] at hc;rw [<- hc];rfl
theorem lexAlt {rest:List Nat} {ts:List Tk} (hr:∀ c,rest[0]?=some c->wordI (c:Nat)=false) (h:LexR rest ts):∀ (a:List (List Nat)),(∀ s ∈ a,IsW s)->LexR (altTx a++rest) (a.map (fun s=>(1,s))++ts)/\∀ c,(altTx a++rest)[0]?=some c->wordI (c:Nat)=false
 |[],_=>⟨h,hr⟩
 |s :: a,hw=>by
  obtain⟨h1,h2⟩:=lexAlt hr h a (fun s hs=>hw s (List.mem_cons_of_mem _ hs));have:=LexR.sp (LexR.word (hw s List.mem_cons_self) h2 h1);refine⟨?_,fun c hc=>?_⟩
  .simpa [altTx] using this
  .simp [altTx] at hc;rw [<- hc];rfl
theorem lexAlts {rest:List Nat} {ts:List Tk} (hr:∀ c,rest[0]?=some c->wordI (c:Nat)=false) (h:LexR rest ts):∀ (b:Bool) (al:List (List (List Nat))),(∀ a ∈ al,∀ s ∈ a,IsW s)->LexR (altsW b al++rest) (altsT b al++ts)/\∀ c,(altsW b al++rest)[0]?=some c->wordI (c:Nat)=false
 |_,[],_=>⟨h,hr⟩
 |b,a :: al,hw=>by
  obtain⟨h1,h2⟩:=lexAlts hr h false al (fun s hs=>hw s (List.mem_cons_of_mem _ hs));obtain⟨h3,h4⟩:=lexAlt h2 h1 a (hw a List.mem_cons_self);cases b with
  |true=>exact⟨by simpa [altsW,altsT] using h3,by simpa [altsW] using h4⟩
  |false =>
   have:=LexR.sp (LexR.sign (c:=124) rfl h3);refine⟨by simpa [altsW,altsT] using this,fun c hc=>?_⟩;simp [altsW] at hc;rw [<- hc];rfl
theorem lexRule {rest:List Nat} {ts:List Tk} (h:LexR rest ts) (r:SRule) (hn:IsW r.name) (hw:∀ a ∈ r.alts,∀ s ∈ a,IsW s):LexR (ruleP r++rest) (ruleT r++ts):=by
 have h0:LexR (32 :: 59 :: 10 :: rest) ((3,sSemi) :: ts):=LexR.sp (LexR.sign rfl (LexR.nl h));obtain⟨h1,h2⟩:=lexAlts (sepHead rfl) h0 true r.alts hw;have:=LexR.word hn (sepHead (c:=32) (l:=61 :: (altsW true r.alts++32 :: 59 :: 10 :: rest)) rfl) (LexR.sp (LexR.sign (c:=61) rfl h1));simpa [ruleP,ruleT,altsTo_W] using this
theorem lexRules:∀ (l:List SRule),(∀ r ∈ l,IsW r.name/\∀ a ∈ r.alts,∀ s ∈ a,IsW s)->LexR (l.flatMap ruleP) (l.flatMap ruleT)
 |[],_=>.nil
 |r :: l,h=>by
  simp only [List.flatMap_cons];exact lexRule (lexRules l (fun r hr=>h r (List.mem_cons_of_mem _ hr))) r (h r List.mem_cons_self).1 (h r List.mem_cons_self).2
theorem lexPrint (x:Src) (hk:1<=x.k/\x.k<=4) (h0:x.tokens≠[]) (ht:∀ s ∈ x.tokens,IsW s) (hs:IsW x.sep) (hS:IsW x.start) (hr:∀ r ∈ x.rules,IsW r.name/\∀ a ∈ r.alts,∀ s ∈ a,IsW s):LexR (printX x) (toksX x):=by
 have e0:=lexRules x.rules hr;have e1:=LexR.word (w:=wStart) ⟨rfl,by decide⟩ (sepHead (c:=32) (l:=x.start++59 :: 10 :: x.rules.flatMap ruleP) rfl) (LexR.sp (LexR.word hS (sepHead (c:=59) rfl) (LexR.sign rfl (LexR.nl e0))));have e2:=LexR.word (w:=wSep) ⟨rfl,by decide⟩ (sepHead (c:=32) rfl) (LexR.sp (LexR.word hs (sepHead (c:=59) rfl) (LexR.sign rfl (LexR.nl e1))));obtain⟨t,l,hl⟩:∃ t l,x.tokens=t :: l:=by cases h:x.tokens with|nil=>exact absurd h h0|cons t l=>exact⟨t,l,rfl⟩
 obtain⟨e3,e4⟩:=lexComma (sepHead (c:=59) rfl) (LexR.sign (c:=59) rfl (LexR.nl e2)) l (fun s hs=>ht s (by rw [hl];exact List.mem_cons_of_mem _ hs));have e5:=LexR.word (w:=wToken) ⟨rfl,by decide⟩ (sepHead (c:=32) rfl) (LexR.sp (LexR.word (ht t (by rw [hl];exact List.mem_cons_self)) e4 e3));have e6:=LexR.word (w:=wLook) ⟨rfl,by decide⟩ (sepHead (c:=32) rfl) (LexR.sp (LexR.num (k:=x.k.toNat) (by omega) (by omega) (fun c hc=>by simp at hc;rw [<- hc];exact⟨rfl,rfl⟩) (LexR.sign (c:=59) rfl (LexR.nl e5))));have a1:printX x=wLook++32 :: ((48+x.k.toNat) :: 59 :: 10 :: (wToken++32 :: (t++(commaW l++59 :: 10 :: (wSep++32 :: (x.sep++59 :: 10 :: (wStart++32 :: (x.start++59 :: 10 :: x.rules.flatMap ruleP)))))))):=by
  unfold printX headP rulesTo;rw [hl,inter_comma,List.take_length];simp [wLook,wToken,wSep,wStart]
 have a2:toksX x=(1,wLook) :: (2,[48+x.k.toNat]) :: (3,sSemi) :: (1,wToken) :: (1,t) :: (commaT l++(3,sSemi) :: (1,wSep) :: (1,x.sep) :: (3,sSemi) :: (1,wStart) :: (1,x.start) :: (3,sSemi) :: x.rules.flatMap ruleT):=by
  unfold toksX;rw [hl]
  simp
 rw [a1,a2];exact e6
end Go.Av
end

/-
  Parts of the way to the law, joined. Conditions stand at each.
-/
import Derived.Test.YtbbdpddeabojgaaLs1
import Derived.ProofKit
import Derived.KernelRfl
import Derived.Carry
import Derived.OpenShut
import Derived.SizedLaws
set_option linter.all false
noncomputable section
namespace Go.Av
open Go
def ExtIs (P:Program) (f:FuncId):Nat->Prop
 |0=>∀ x w,(callFunc f #[x]).run P w=.ok (.value x) w
 |t+1=>∃ ps,∀ x w,(callFunc f #[x]).run P w=((Extern.BytealgMakeNoZero.makeNoZero ps #[t] #[x]).run P w).andThen fun v w'=>.ok (.value v) w'
def FnIs (P:Program) (f:FuncId) (i:FnI):Prop :=
 match xk i.frz with
 |some k=>Nat.ble i.np i.nt=false/\ExtIs P f k
 |none=>∃ fn,P.funcs[f]?=some fn/\fn.body=some i.body/\fn.ntmps=i.nt/\fn.results=i.results/\(fn.name == "runtime.NumGoroutine")=false
def FnsOK (P:Program) (F:FuncId->Option FnI):Prop :=
 ∀ f i,F f=some i->FnIs P f i
theorem fnIs_of {P:Program} {f:FuncId} {i:FnI} (h:FnIs P f i) (hb:Nat.ble i.np i.nt=true) :
  ∃ fn,P.funcs[f]?=some fn/\fn.body=some i.body/\fn.ntmps=i.nt/\fn.results=i.results/\(fn.name == "runtime.NumGoroutine")=false:=by
 unfold FnIs at h;split at h
 .rw [hb] at h;cases h.1
 .exact h
theorem reps1 {D:DMap} {β:List Bi} {x:AV} {vs:Array Value} (h:Reps D β [x] vs):∃ v,vs=#[v]/\RepA D β x v:=by
 obtain⟨l⟩:=vs;obtain⟨h1,h2⟩:=h
 match l,h1 with
 |[v],_=>exact⟨v,rfl,h2 0 x v rfl rfl⟩
theorem evExt_ok {P:Program} {E:PT Ty} (hE:TyOK P E) {f:FuncId} {k:Nat} (h:ExtIs P f k) {args:List AV} {objs objs':List Ob} {r:AV} (he:evExt E k args objs=some (r,objs')):AExt P f args objs r objs':=by
 intro D β w vs hp hr;unfold evExt at he;split at he
 .simp only [Option.some.injEq,Prod.mk.injEq] at he
  obtain⟨rfl,rfl⟩:=he;obtain⟨v,rfl,hv⟩:=reps1 hr;exact⟨v,w,D,β,h v w,Step.refl hp,hv⟩
 .split at he
  .rename_i hm
   simp only [Option.some.injEq,Prod.mk.injEq] at he;obtain⟨rfl,rfl⟩:=he;obtain⟨v,rfl,hv⟩:=reps1 hr;obtain⟨ps,hps⟩:=h;obtain⟨u,w',D',β',e1,e2,e3⟩:=makeNoZero_ok hE hp ps _ hv _ _ _ hm rfl;exact⟨u,w',D',β',by rw [hps,e1];rfl,e2,e3⟩
  .cases he
 .cases he
theorem evOpn_ok {P:Program} {E:PT Ty} (hE:TyOK P E) {F:FuncId->Option FnI} (hF:FnsOK P F) {f:FuncId} {args:List AV} {objs objs':List Ob} {r:AV} {alt:Option (AV × List Ob)}
  (ha:alt=some (r,objs')->ACall P f args objs r objs') (h:evOpn E F f args objs alt=some (r,objs')):ACall P f args objs r objs'\/AExt P f args objs r objs':=by
 unfold evOpn at h;split at h
 .rename_i i hi
  split at h
  .rename_i k hk
   have:=hF f i hi;unfold FnIs at this;rw [hk] at this;exact .inr (evExt_ok hE this.2 h)
  .exact .inl (ha h)
 .cases h
section
variable {P:Program} {E:PT Ty} {H:Hd} {D0:DMap} {β0:List Bi} {o0:List Ob} {w0:World}
def resOf (tmps:Array Value):ResultVar->Sem Value
 |.tmp t=>pure (tmps.getD t undef)
 |.cell a t=>do loadVar t (<- asAddr (tmps.getD a undef))
theorem evRes_ok (hE:EnvOK P E) {D:DMap} {β:List Bi} {nt:Nat} {s:S} {tmps:Array Value} {w:World} (hp:Heap D β s.objs w) (ht:TmOK D β nt s.tm tmps) {r:ResultVar} {av:AV} (h:evRes E s r=some av) :
  ∃ v,(resOf tmps r).run P w=.ok v w/\RepA D β av v:=by
 cases r with
 |tmp t =>
  simp only [evRes,Option.some.injEq] at h;subst h;exact⟨_,rfl,ht.2 t⟩
 |cell a t =>
  simp only [evRes,Option.map_eq_some_iff] at h;obtain⟨⟨av',o',c⟩,h,rfl⟩:=h;have hrep:RepA D β (rd s.tm (.tmp a)) (tmps.getD a undef):=ht.2 a;have hsame:=(rf_load E t (rd s.tm (.tmp a))) s.objs s.objs (fun _ _=>rfl) _ _ _ h;obtain⟨rfl,_⟩:=hsame;cases hy:E.get? t with
  |none=>unfold loadR at h;rw [hy] at h;cases h
  |some y =>
   have hc:c=true:=by
    unfold loadR at h;rw [hy] at h
    revert h
    cases rd s.tm (.tmp a) with
    |d x =>
     cases x with
     |ep cs =>
      simp only [];cases isAggT y.desc with
      |true=>simp only [];split<;>intro h<;>simp [pureR] at h;exact h.2
      |false=>cases cs<;>intro h<;>simp [pureR] at h;exact h.2
     |_=>intro h;cases h
    |bp i off =>
     simp only [];cases s.objs[i]? with
     |none=>intro h;cases h
     |some ob =>
      simp only [];cases obCells ob with
      |none=>intro h;cases h
      |some cs =>
       simp only [];cases isAggT y.desc with
       |true=>simp only [];split<;>intro h<;>simp [pureR] at h;exact h.2
       |false=>simp only [];cases cs[off]?<;>intro h<;>simp [pureR] at h;exact h.2
    |_=>intro h;cases h
   obtain⟨v,h1,h3⟩:=(load_val (P:=P) hE.ty hp t hrep av' s.objs c h).2 hc;generalize hu:tmps.getD a undef=u at h1 hrep;cases u with
   |pointer p =>
    cases p with
    |none=>simp [Instr.loadAt,Instr.sureAddr,stuck,Sem.run_bind,Sem.run,Result.andThen] at h1
    |some ad =>
     exact⟨v,by simpa [Instr.loadAt,Instr.sureAddr,resOf,asAddr,hu] using h1,h3⟩
   |_=>simp [Instr.loadAt,Instr.sureAddr,stuck,Sem.run_bind,Sem.run,Result.andThen] at h1
theorem evResL_ok (hE:EnvOK P E) {D:DMap} {β:List Bi} {nt:Nat} {s:S} {tmps:Array Value} {w:World} (hp:Heap D β s.objs w) (ht:TmOK D β nt s.tm tmps):∀ (rs:List ResultVar) (avs:List AV),evResL E s rs=some avs ->
  ∃ vs:List Value,(rs.mapM (resOf tmps)).run P w=.ok vs w/\vs.length=avs.length/\∀ (j:Nat) c v,avs[j]?=some c->vs[j]?=some v->RepA D β c v
 |[],avs,h=>by
  simp only [evResL,Option.some.injEq] at h;subst h;exact⟨[],by simp,rfl,fun j c v hc=>by simp at hc⟩
 |r :: rs,avs,h=>by
  simp only [evResL] at h;split at h
  .rename_i v vs h1 h2
   simp only [Option.some.injEq] at h;subst h;obtain⟨u,hu,hr⟩:=evRes_ok hE hp ht h1;obtain⟨us,hus,hl,hrs⟩:=evResL_ok hE hp ht rs vs h2;refine⟨u :: us,?_,by simp [hl],fun j c x hc hx=>?_⟩
   .simp only [List.mapM_cons,Sem.run_bind,hu,Result.andThen_ok,hus,Sem.run_pure]
   .cases j with
    |zero=>simp at hc hx;subst hc hx;exact hr
    |succ j=>exact hrs j c x (by simpa using hc) (by simpa using hx)
  .cases h
theorem results_ok (hE:EnvOK P E) {D:DMap} {β:List Bi} {nt:Nat} {s:S} {fn:Func} {tmps:Array Value} {w:World} (hp:Heap D β s.objs w) (ht:TmOK D β nt s.tm tmps) {av:AV} (h:evResults E s fn.results=some av) :
  ∃ v,(results fn tmps).run P w=.ok v w/\RepA D β av v:=by
 have hres:results fn tmps=(do let vs <- fn.results.mapM (resOf tmps);pure (if h:vs.size=1 then vs[0] else .tuple vs)):=by
  unfold results;have:(fun r:ResultVar=>match r with|.tmp t=>(pure (tmps.getD t undef):Sem Value)|.cell a t=>do loadVar t (<- asAddr (tmps.getD a undef)))=resOf tmps:=by
   funext r;cases r<;>rfl
  rw [<- this]
  rfl
 unfold evResults at h;split at h
 .rename_i v h1
  simp only [Option.some.injEq] at h;subst h;obtain⟨us,hus,hl,hrs⟩:=evResL_ok hE hp ht _ _ h1
  match us,hl with
  |[u],_ =>
   refine⟨u,?_,hrs 0 _ u rfl rfl⟩;rw [hres,Array.mapM_eq_mapM_toList];simp [hus]
 .rename_i l hne h1
  simp only [Option.some.injEq] at h;subst h;obtain⟨us,hus,hl,hrs⟩:=evResL_ok hE hp ht _ _ h1;have hn:us.length≠1:=fun e=>by
   match l,hl.symm.trans e,hne with
   |[x],_,hne=>exact hne x rfl
  refine⟨.tuple us.toArray,?_,.tup (by simpa using hl) (fun j c v hc hv=>hrs j c v hc (by simpa using hv))⟩;rw [hres,Array.mapM_eq_mapM_toList];simp [hus,hn]
 .cases h
def MdOK (D:DMap):Md->FrameMode->Prop
 |.ret,u=>u=.returning
 |.pan x,u=>∃ v,u=.panicking [{ v:=v,recovered:=false }]/\RepD D x v
 |.caught x,u=>∃ v,u=.panicking [{ v:=v,recovered:=true }]/\RepD D x v
theorem MdOK.mono {D D':DMap} (hs:∀ ad v,D ad=some v->D' ad=some v) {m:Md} {u:FrameMode} (h:MdOK D m u):MdOK D' m u:=by
 cases m with
 |ret=>exact h
 |pan x=>obtain⟨v,h1,h2⟩:=h;exact⟨v,h1,h2.mono hs⟩
 |caught x=>obtain⟨v,h1,h2⟩:=h;exact⟨v,h1,h2.mono hs⟩
def SimS (D0:DMap) (β0:List Bi) (o0:List Ob) (w0:World) (nt:Nat) (s:S) (m:Md) (a:Act) (u:FrameMode) (w:World):Prop :=
 ∃ D β,Step D0 β0 o0 w0 D β s.objs w/\TmOK D β nt s.tm a.tmps/\DlOK D β s.dl a.defers/\MdOK D m u
theorem SimS.sim {nt:Nat} {s:S} {m:Md} {a:Act} {u:FrameMode} {w:World} (h:SimS D0 β0 o0 w0 nt s m a u w):Sim D0 β0 o0 w0 nt s a w:=by
 obtain⟨D,β,h1,h2,h3,_⟩:=h;exact⟨D,β,h1,h2,h3⟩
theorem SimS.put {nt:Nat} {s:S} {m':Md} {u':FrameMode} {a:Act} {w w':World} {D D':DMap} {β β':List Bi} {objs':List Ob} {tm':PT AV} {dst:Option Tmp} {av:AV} {v:Value}
  (h1:Step D0 β0 o0 w0 D β s.objs w) (h2:TmOK D β nt s.tm a.tmps) (h3:DlOK D β s.dl a.defers) (hs:Step D β s.objs w D' β' objs' w') (hv:RepA D' β' av v)
  (ht:setD nt s.tm dst av=some tm') (hm:MdOK D' m' u'):SimS D0 β0 o0 w0 nt ⟨tm',objs',s.dl⟩ m' (a.put dst v) u' w' :=
 ⟨D',β',h1.trans hs,(h2.mono hs.dsub hs.bext).put hv ht,by
  have:=h3.mono hs.dsub hs.bext;cases dst<;>exact this,hm⟩
theorem opS {o:Oper} {ρ:Operand->Value} {w:World} {X:Result Next->Prop} {v:Value} {w':World} (h:OpRun P ρ o w v w') (h1:X (.ok (.value v) w')) (h2:v=undef->X (.ok .skip w')):X ((execOp ρ o).run P w):=by
 rcases h with h|⟨h,rfl⟩
 .rw [h];exact h1
 .rw [h];exact h2 rfl
theorem evOpsS_ok (hE:EnvOK P E) {nt:Nat} {ops:Array Oper} {Q:Exit->Act->List Frame->World->Prop} {s':S} {m':Md} {c₀:Frame} {cs:List Frame}
  (hQ:∀ a u w,SimS D0 β0 o0 w0 nt s' m' a u w->Q .normal a ({ c₀ with mode:=u } :: cs) w) :
  ∀ (l:List Oper) (i:Nat) (s:S) (m:Md) (a:Act) (u:FrameMode) (w:World),(∀ k:Nat,k<l.length->ops[i+k]?=l[k]?)->evOpsS E nt ops l s m=some (s',m')->SimS D0 β0 o0 w0 nt s m a u w ->
   wpOpsSIn (FW none) 0 P ops Q (List.range' i l.length) a ({ c₀ with mode:=u } :: cs) w
 |[],i,s,m,a,u,w,_,h,hs=>by
  simp only [evOpsS,Option.some.injEq,Prod.mk.injEq] at h;obtain⟨rfl,rfl⟩:=h;exact hQ a u w hs
 |o :: l,i,s,m,a,u,w,hl,h,hs=>by
  have hi:ops[i]?=some o:=by have:=hl 0 (by simp);simpa using this
  have hl':∀ k:Nat,k<l.length->ops[i+1+k]?=l[k]?:=fun k hk=>by
   have:=hl (k+1) (by simp;omega);rw [show i+1+k=i+(k+1) by omega];simpa using this
  obtain⟨D,β,h1,h2,h3,h4⟩:=hs;simp only [List.length_cons,List.range'_succ,wpOpsSIn,hi];refine⟨fun _ _=>trivial,?_⟩;unfold evOpsS at h;cases hg:guardA ops (rd s.tm) o with
  |none=>rw [hg] at h;cases h
  |some b =>
   rw [hg] at h;rw [guard_ok (fun x=>h2.rd x) hg];cases b with
   |false=>cases h
   |true =>
    simp only [if_true] at h |-;split at h
    .rename_i hrec
     have hrun:(execOp a.eval o).run P w=.ok .recover w:=by
      unfold isRecover at hrec;split at hrec
      .rename_i as ts ho
       simp [execOp,ho,resolve,Deferred.ofValue,invoke,builtin]
      .cases hrec
     rw [hrun];simp only;split at h
     .rename_i x
      split at h
      .rename_i tm htm
       obtain⟨v,rfl,hv⟩:=h4;have hr:recoverD ({ c₀ with mode:=.panicking [{ v:=v,recovered:=false }] } :: cs)=some (v,{ c₀ with mode:=.panicking [{ v:=v,recovered:=true }] } :: cs):=rfl;rw [hr];simp only;exact evOpsS_ok hE hQ l (i+1) _ _ _ (.panicking [{ v:=v,recovered:=true }]) w hl' h (SimS.put h1 h2 h3 (Step.refl h1.heap) (.d hv) htm ⟨v,rfl,hv⟩)
      .cases h
     .rename_i hm
      split at h
      .rename_i tm htm
       have hr:recoverD ({ c₀ with mode:=u } :: cs)=none:=by
        cases m with
        |ret=>simp only [MdOK] at h4;subst h4;rfl
        |pan x=>exact absurd rfl (hm x)
        |caught x=>obtain⟨v,rfl,_⟩:=h4;rfl
       rw [hr];simp only;exact evOpsS_ok hE hQ l (i+1) _ _ _ u w hl' h (SimS.put h1 h2 h3 (Step.refl h1.heap) (.d .niliface) htm h4)
      .cases h
    .split at h
     .rename_i v objs' hop
      split at h
      .rename_i tm htm
       obtain⟨u1,w',D',β',hrun,hst,hrep⟩:=op_ok hE h1.heap (fun x=>h2.rd x) o hop rfl;have next:wpOpsSIn (FW none) 0 P ops Q (List.range' (i+1) l.length) (a.put o.dst u1) ({ c₀ with mode:=u } :: cs) w' :=
        evOpsS_ok hE hQ l (i+1) _ _ _ u w' hl' h (SimS.put h1 h2 h3 hst hrep htm (h4.mono hst.dsub))
       exact opS (X:=fun r=>match r with
        |.ok .recover w' =>
         match recoverD ({ c₀ with mode:=u } :: cs) with
         |some (v,cs')=>wpOpsSIn (FW none) 0 P ops Q (List.range' (i+1) l.length) (a.put o.dst v) cs' w'
         |none=>wpOpsSIn (FW none) 0 P ops Q (List.range' (i+1) l.length) (a.put o.dst .nilIface) ({ c₀ with mode:=u } :: cs) w'
        |.ok (.value v) w'=>wpOpsSIn (FW none) 0 P ops Q (List.range' (i+1) l.length) (a.put o.dst v) ({ c₀ with mode:=u } :: cs) w'
        |.ok .skip w'=>wpOpsSIn (FW none) 0 P ops Q (List.range' (i+1) l.length) (a.put o.dst undef) ({ c₀ with mode:=u } :: cs) w'
        |.halt (.panic v) w'=>Q (.panic [{ v,recovered:=false }]) a ({ c₀ with mode:=u } :: cs) w'
        |_=>False) hrun next (fun e=>by subst e;exact next)
      .cases h
     .cases h
theorem evS_ok (hE:EnvOK P E) (hH:HOK P H) (hm:P.follows .mixedOrders=true) {frz:List Nat} {nt:Nat} {c₀:Frame} {cs:List Frame}:∀ (n:Nat) (c:Code) (s:S) (m:Md) (e:Ex) (s':S) (m':Md),evS E H frz nt n c s m=some (e,s',m') ->
  isPanE e=false->∀ (Q:Exit->Act->List Frame->World->Prop) (a:Act) (u:FrameMode) (w:World),(∀ a u w,SimS D0 β0 o0 w0 nt s' m' a u w->Q (exOf e) a ({ c₀ with mode:=u } :: cs) w)->SimS D0 β0 o0 w0 nt s m a u w ->
   c.wpSIn (FW none) 0 P Q a ({ c₀ with mode:=u } :: cs) w:=by
 have plain:∀ (n:Nat) (c:Code) (s:S) (m:Md) (e:Ex) (s':S),evCode E H frz nt none n c s=some (e,s')->isPanE e=false->∀ (Q:Exit->Act->List Frame->World->Prop) (a:Act) (u:FrameMode) (w:World),
   (∀ a u w,SimS D0 β0 o0 w0 nt s' m a u w->Q (exOf e) a ({ c₀ with mode:=u } :: cs) w)->SimS D0 β0 o0 w0 nt s m a u w->c.wpSIn (FW none) 0 P Q a ({ c₀ with mode:=u } :: cs) w:=by
  intro n c s m e s' h hp Q a u w hQ hs;obtain⟨D,β,h1,h2,h3,h4⟩:=hs;refine wpSIn_of_wpIn rfl (evCode_ok hE hH hm (β0:=β) (D0:=D) (o0:=s.objs) (w0:=w) (ro':=none) (ro:=none) rfl n c s e s' h _ a w ⟨fun a' w' _ hs'=>?_,fun x hx=>by rw [hx] at hp;cases hp⟩ ⟨D,β,Step.refl h1.heap,h2,h3⟩);obtain⟨D',β',k1,k2,k3⟩:=hs';exact hQ a' u w' ⟨D',β',h1.trans k1,k2,k3,h4.mono k1.dsub⟩
 intro n
 induction n with
 |zero=>intro c s m e s' m' h;cases h
 |succ n ih =>
  intro c s m e s' m' h hp Q a u w hQ hs;have deft:(evCode E H frz nt none n c s).map (fun p=>(p.1,p.2,m))=some (e,s',m')->c.wpSIn (FW none) 0 P Q a ({ c₀ with mode:=u } :: cs) w:=by
   intro hd;simp only [Option.map_eq_some_iff,Prod.mk.injEq] at hd;obtain⟨⟨e1,s1⟩,hd,rfl,rfl,rfl⟩:=hd;exact plain n c s m e1 s1 hd hp Q a u w hQ hs
  cases c with
  |seq x y =>
   refine wpSIn_seq ?_;simp only [evS] at h;split at h
   .rename_i s1 m1 h1
    exact ih x s m _ s1 m1 h1 rfl _ a u w (fun a u w hs=>ih y s1 m1 e s' m' h hp Q a u w hQ hs) hs
   .rename_i hne
    refine ih x s m e s' m' h hp _ a u w (fun a u w hs=>?_) hs;cases e with
    |normal=>exact absurd h (hne s' m')
    |_=>exact hQ a u w hs
  |cond c x y =>
   simp only [evS] at h;split at h
   .rename_i hc
    exact wpSIn_cond (t:=true) (hs.sim.cond hc) (ih x s m e s' m' h hp Q a u w hQ hs)
   .rename_i hc
    exact wpSIn_cond (t:=false) (hs.sim.cond hc) (ih y s m e s' m' h hp Q a u w hQ hs)
   .cases h
  |region id ops draw =>
   simp only [evS] at h;split at h
   .simp only [Option.map_eq_some_iff,Prod.mk.injEq] at h
    obtain⟨⟨s1,m1⟩,h,rfl,rfl,rfl⟩:=h;refine wpSIn_region ?_;have:=evOpsS_ok hE (c₀:=c₀) (cs:=cs) (Q:=Q) hQ ops.toList 0 s m a u w (fun k _=>by simp) h hs;rw [List.range_eq_range'];simpa using this
   .exact deft h
  |skip=>exact deft h
  |label l=>exact deft h
  |exit id=>exact deft h
  |ret=>exact deft h
  |block id b=>exact deft h
  |loop b=>exact deft h
  |scope b=>exact deft h
  |rangeFunc f ps as b=>exact deft h
  |goto l=>exact deft h
  |refuse w=>exact deft h
theorem initTm_ok {D:DMap} {β:List Bi} {nt:Nat}:∀ (args:List AV) (vs:List Value) (i:Nat) (tm:PT AV) (tmps:Array Value),args.length=vs.length->(∀ (j:Nat) c v,args[j]?=some c->vs[j]?=some v->RepA D β c v) ->
  i+args.length<=nt->(∀ (j:Nat) v,vs[j]?=some v->tmps[i+j]?=some v)->TmOK D β nt tm tmps->TmOK D β nt (initTm i args tm) tmps
 |[],_,i,tm,tmps,_,_,_,_,h=>h
 |c :: args,[],i,tm,tmps,hl,_,_,_,_=>by simp at hl
 |c :: args,v :: vs,i,tm,tmps,hl,hr,hn,hv,h=>by
  have h0:=hv 0 v rfl;have h5:setD nt tm (some i) c=some (tm.set i c):=by
   simp [setD,show Nat.blt i nt=true by rw [Nat.blt_eq];simp at hn;omega]
  have h6:=TmOK.put (a:={ tmps:=tmps,defers:=[] }) h (hr 0 c v rfl rfl) h5;have hsame:tmps.setIfInBounds i v=tmps:=by
   apply Array.ext_getElem?;intro k;by_cases e:i=k
   .subst e
    simp only [Nat.add_zero] at h0;have:i<tmps.size:=(Array.getElem?_eq_some_iff.1 h0).1;simp [this,h0];exact(Array.getElem?_eq_some_iff.1 h0).2.symm
   .rw [Array.getElem?_setIfInBounds_ne e]
  simp only [Act.put,hsame] at h6;exact initTm_ok args vs (i+1) _ tmps (by simpa using hl) (fun j c v hc hv=>hr (j+1) c v (by simpa using hc) (by simpa using hv)) (by simp at hn;omega)
   (fun j u hu=>by have:=hv (j+1) u (by simpa using hu);rw [show i+1+j=i+(j+1) by omega];exact this) h6
theorem evDefer_ok (hE:EnvOK P E) (hH:HOK P H) (hm:P.follows .mixedOrders=true) {F:FuncId->Option FnI} (hF:FnsOK P F) {n:Nat} {f:FuncId} {args:List AV} {m:Option DV} {objs:List Ob} {m':Option DV} {objs':List Ob}
  (h:evDefer E F H n f args m objs=some (m',objs')):ADefer P f args m objs m' objs':=by
 unfold evDefer at h;split at h
 .rename_i i hi
  obtain⟨fn,h1,h2,h3,h4,h5⟩:=fnIs_of (hF f i hi) (by
   cases hb:Nat.ble i.np i.nt with
   |true=>rfl
   |false=>rw [hb,Bool.and_false] at h;cases h)
  refine⟨enters_of h1 h5 h2,fun D β w vs u hp hr hu=>?_⟩;split at h
  .rename_i hc
   simp only [Bool.and_eq_true] at hc;have hlen:=Nat.eq_of_beq_eq_true hc.1;have hle:=Nat.le_of_ble_eq_true hc.2;split at h
   .rename_i e s m1 hev
    split at h
    .rename_i r hfin hdl hres
     refine callsDIn_of_wpSIn (F:=FW none) h1 h2 trivial (fun c₀ cs hc0=>?_);have hsz:(vs++Array.replicate (fn.ntmps-vs.size) undef).size=i.nt:=by simp [h3,hr.1];omega
     have hmd:MdOK D (mdOf m) u:=by cases m<;>exact hu
     have sim0:SimS D β objs w i.nt ⟨initTm 0 args .nil,objs,[]⟩ (mdOf m) { tmps:=vs++Array.replicate (fn.ntmps-vs.size) undef,defers:=[] } u w:=by
      refine⟨D,β,Step.refl hp,initTm_ok args vs.toList 0 .nil _ (by simp [hr.1]) (fun j c v hc hv=>hr.2 j c v hc (by simpa using hv)) (by omega) (fun j v hv=>?_) ⟨hsz,fun t=>.d .any⟩,trivial,hmd⟩;have hv:vs[j]?=some v:=by simpa using hv
      rw [Nat.zero_add,Array.getElem?_append_left (Array.getElem?_eq_some_iff.1 hv).1];exact hv
     have hc1:c₀={ c₀ with mode:=u }:=by rw [<- hc0]
     have hpe:isPanE e=false:=by cases e<;>first|rfl|cases hfin
     have key:∀ (a:Act) (u':FrameMode) (w':World),SimS D β objs w i.nt s m1 a u' w'->a.defers=[]/\∃ u'',({ c₀ with mode:=u' }:Frame) :: cs={ c₀ with mode:=u'' } :: cs/\∃ v,(results fn a.tmps).run P w'=.ok v w' /\
       ∃ v1 D' β',Ending.returned v=.returned v1/\Step D β objs w D' β' objs' w'/\MdIs D' m' (settle u''):=by
      intro a u' w' hs;obtain⟨D',β',q1,q2,q3,q4⟩:=hs;obtain⟨v,hv,_⟩:=results_ok hE (s:=s) (fn:=fn) q1.heap q2 (by rw [h4];exact hres);refine⟨?_,u',rfl,v,hv,v,D',β',rfl,?_⟩
      .rw [hdl] at q3
       cases hds:a.defers with
       |nil=>rfl
       |cons d ds=>rw [hds] at q3;exact q3.elim
      .cases m1 with
       |ret =>
        simp only [Option.some.injEq,Prod.mk.injEq] at h;obtain⟨rfl,rfl⟩:=h;simp only [MdOK] at q4;subst q4;exact⟨q1,rfl⟩
       |pan x =>
        simp only [Option.some.injEq,Prod.mk.injEq] at h;obtain⟨rfl,rfl⟩:=h;obtain⟨v,rfl,hv⟩:=q4;exact⟨q1,v,rfl,hv⟩
       |caught x =>
        simp only [Option.some.injEq,Prod.mk.injEq] at h;obtain⟨rfl,rfl⟩:=h;obtain⟨v,rfl,hv⟩:=q4;exact⟨q1,rfl⟩
     rw [hc1];refine evS_ok hE hH hm n i.body _ _ e s m1 hev hpe _ _ u w (fun a u' w' hs=>?_) sim0;rw [<- hc1];cases e with
     |normal=>exact key a u' w' hs
     |ret=>exact key a u' w' hs
     |_=>cases hfin
    .cases h
   .cases h
  .cases h
 .cases h
theorem leave_ok (hH:HOK P H) {fn:Func} {tmps:Array Value} {R:Ending->World->Prop} {nt:Nat} {tm:PT AV} {m':Option DV} {objs':List Ob}
  (hR:m'=none->∀ D β w,Step D0 β0 o0 w0 D β objs' w->TmOK D β nt tm tmps->∃ v,(results fn tmps).run P w=.ok v w/\R (.returned v) w)
  (hP:∀ x,m'=some x->∀ D β w v,Step D0 β0 o0 w0 D β objs' w->RepD D x v->R (.panicked [{ v:=v,recovered:=false }]) w) :
  ∀ (dl:List Dl) (ds:List Deferred) (m:Option DV) (u:FrameMode) (objs:List Ob) (w:World) (D:DMap) (β:List Bi),evLeave H dl m objs=some (m',objs')->DlOK D β dl ds->MdIs D m u->Step D0 β0 o0 w0 D β objs w->TmOK D β nt tm tmps ->
   LeavesInM (FW none) 0 P fn tmps R ds u w
 |[],[],m,u,objs,w,D,β,hsh,_,hu,hs,ht=>by
  simp only [evLeave,Option.some.injEq,Prod.mk.injEq] at hsh;obtain⟨rfl,rfl⟩:=hsh;cases m with
  |none=>simp only [MdIs] at hu;subst hu;exact hR rfl D β w hs ht
  |some x=>obtain⟨v,rfl,hv⟩:=hu;exact hP x rfl D β w v hs hv
 |.mark i :: dl,d :: ds,m,u,objs,w,D,β,hsh,hdl,hu,hs,ht=>by
  obtain⟨⟨bi,hb,htar⟩,hdl⟩:=hdl;simp only [evLeave] at hsh;split at hsh
  .rename_i ho
   obtain⟨h1,h2,h3⟩:=hs.heap.hold i bi _ hb ho;have hbs:bi.blk<w.heap.size:=lt_of_getElem? h1;have hst:Step D β objs w D β (objs.set i (.raw (.deferred none))) (w.putObj bi.blk (.deferred none)) :=
    Step.put (o':=.deferred none) hs.heap hb ho rfl (fun b' hb'=>by simp [ownOf] at hb';exact hb'.symm) h3 ⟨putB_eq hbs,by simp,h3⟩
   refine⟨?_,.inl ⟨bi.blk,_,htar,run_takeDeferred h1,leave_ok hH hR hP dl ds m u _ _ D β hsh hdl hu (hs.trans hst) ht⟩⟩;cases m with
   |none=>simp only [MdIs] at hu;subst hu;simp
   |some x=>obtain⟨v,rfl,hv⟩:=hu;simp
  .cases hsh
 |.call g args :: dl,d :: ds,m,u,objs,w,D,β,hsh,hdl,hu,hs,ht=>by
  obtain⟨⟨cap,htar,hreps⟩,hdl⟩:=hdl;simp only [evLeave] at hsh;split at hsh
  .rename_i m1 objs1 hdf
   have hA:=hH.dfr _ _ _ _ _ _ hdf;have hne:u≠.run:=by
    cases m with
    |none=>simp only [MdIs] at hu;subst hu;simp
    |some x=>obtain⟨v,rfl,hv⟩:=hu;simp
   refine⟨hne,.inr ⟨fun h=>by simp at h,_,cap,g,d.args++cap,htar,?_,fun _ _=>trivial,?_⟩⟩
   .rw [htar];exact hA.1 _ _
   .refine CallsDIn.mono (F:=FW none) (n:=0) (hA.2 D β w _ u hs.heap hreps hu) (fun e u' w' he=>?_)
    obtain⟨v,D',β',rfl,hst,hmd⟩:=he;exact leave_ok hH hR hP dl ds m1 _ objs1 w' D' β' hsh (hdl.mono hst.dsub hst.bext) hmd (hs.trans hst) (ht.mono hst.dsub hst.bext)
  .cases hsh
 |[],_ :: _,_,_,_,_,_,_,_,h,_,_,_=>h.elim
 |.mark _ :: _,[],_,_,_,_,_,_,_,h,_,_,_=>h.elim
 |.call _ _ :: _,[],_,_,_,_,_,_,_,h,_,_,_=>h.elim
theorem evCall_ok (hE:EnvOK P E) (hH:HOK P H) (hm:P.follows .mixedOrders=true) {F:FuncId->Option FnI} (hF:FnsOK P F) {n:Nat} {f:FuncId} {args:List AV} {objs objs':List Ob} {r:AV}
  (h:evCall E F H n f args objs=some (r,objs')):ACall P f args objs r objs':=by
 unfold evCall at h;split at h
 .rename_i i hi
  obtain⟨fn,h1,h2,h3,h4,h5⟩:=fnIs_of (hF f i hi) (by
   cases hb:Nat.ble i.np i.nt with
   |true=>rfl
   |false=>rw [hb,Bool.and_false] at h;cases h)
  refine⟨enters_of h1 h5 h2,fun D β w vs hp hr=>?_⟩;split at h
  .rename_i hc
   simp only [Bool.and_eq_true] at hc;have hlen:=Nat.eq_of_beq_eq_true hc.1;have hle:=Nat.le_of_ble_eq_true hc.2;split at h
   .rename_i e s hev
    split at h
    .rename_i m hfin
     refine callsIn_of_wp_marks (F:=FW none) h1 h2 trivial ?_;have hsz:(vs++Array.replicate (fn.ntmps-vs.size) undef).size=i.nt:=by simp [h3,hr.1];omega
     have sim0:Sim D β objs w i.nt ⟨initTm 0 args .nil,objs,[]⟩ { tmps:=vs++Array.replicate (fn.ntmps-vs.size) undef,defers:=[] } w:=by
      refine⟨D,β,Step.refl hp,initTm_ok args vs.toList 0 .nil _ (by simp [hr.1]) (fun j c v hc hv=>hr.2 j c v hc (by simpa using hv)) (by omega) (fun j v hv=>?_) ⟨hsz,fun t=>.d .any⟩,trivial⟩;have hv:vs[j]?=some v:=by simpa using hv
      rw [Nat.zero_add,Array.getElem?_append_left (Array.getElem?_eq_some_iff.1 hv).1];exact hv
     have fin:∀ (a:Act) w' D1 β1 u,Step D β objs w D1 β1 s.objs w'->TmOK D1 β1 i.nt s.tm a.tmps->DlOK D1 β1 s.dl a.defers->MdIs D1 m u->LeavesInM (FW none) 0 P fn a.tmps (EndOK D β objs w r objs') a.defers u w':=by
      intro a w' D1 β1 u q1 q2 q3 q4;split at h
      .rename_i objs2 hlv
       split at h
       .rename_i r' hres
        simp only [Option.some.injEq,Prod.mk.injEq] at h;obtain⟨rfl,rfl⟩:=h;refine leave_ok hH (D0:=D) (β0:=β) (o0:=objs) (w0:=w) (fun _ D2 β2 w2 st2 tm2=>?_) (fun x hx=>by cases hx) s.dl a.defers m u s.objs w' D1 β1 hlv q3 q4 q1 q2;obtain⟨v,hv,hrep⟩:=results_ok hE (s:=⟨s.tm,objs2,[]⟩) (fn:=fn) st2.heap tm2 (by rw [h4];exact hres);exact⟨v,hv,.inl ⟨v,D2,β2,rfl,st2,hrep⟩⟩
       .cases h
      .rename_i x objs2 hlv
       simp only [Option.some.injEq,Prod.mk.injEq] at h;obtain⟨rfl,rfl⟩:=h;refine leave_ok hH (D0:=D) (β0:=β) (o0:=objs) (w0:=w) (fun hx=>by cases hx) (fun y hy D2 β2 w2 v st2 hv=>?_) s.dl a.defers m u s.objs w' D1 β1 hlv q3 q4 q1 q2;cases hy;exact .inr ⟨x,v,D2,β2,rfl,rfl,st2,hv⟩
      .cases h
     refine evCode_ok hE hH hm (β0:=β) (ro':=none) (ro:=none) rfl n i.body _ e s hev _ _ _ ⟨fun a w' hp hs=>?_,fun x hx a w' v D1 β1 k1 k2 k3 k4=>?_⟩ sim0
     .obtain⟨D1,β1,q1,q2,q3⟩:=hs
      cases e with
      |normal=>simp only [Option.some.injEq] at hfin;subst hfin;exact fin a w' D1 β1 .returning q1 q2 q3 rfl
      |ret=>simp only [Option.some.injEq] at hfin;subst hfin;exact fin a w' D1 β1 .returning q1 q2 q3 rfl
      |exit id=>cases hfin
      |goto l=>cases hfin
      |pan x=>cases hp
     .subst hx
      simp only [Option.some.injEq] at hfin;subst hfin;exact fin a w' D1 β1 _ k1 k2 k3 ⟨v,rfl,k4⟩
    .cases h
   .cases h
  .cases h
 .cases h
end
section
variable {P:Program} {E:PT Ty} {H:Hd}
theorem Heap.bare {D:DMap} {β:List Bi} {objs:List Ob} {w:World} (h:Heap D β objs w):Heap D [] [] w :=
 ⟨h.dh,rfl,fun i bi ob hb=>by simp at hb,fun i j bi bj oi oj b hb=>by simp at hb⟩
theorem not_own_nil {b:Nat}:¬ Own [] [] b:=by
 rintro⟨i,bi,ob,h,_⟩
 simp at h
theorem Step.bare {D D':DMap} {β β':List Bi} {objs objs':List Ob} {w w':World} (hp:Heap D β objs w) (h:Step D [] [] w D' β' objs' w'):Step D β objs w D' β objs w' where
 dsub:=h.dsub
 dnew ad v h1 h2:=(h.dnew ad v h1 h2).imp (fun h=>absurd h not_own_nil) id
 bext i x hx:=⟨x,hx,BiExt.refl x⟩
 heap:={
  dh:=h.heap.dh
  len:=hp.len
  hold:=fun i bi ob hb ho=>(hp.hold i bi ob hb ho).mono h.dsub (fun i x hx=>⟨x,hx,BiExt.refl x⟩)
   (fun ad v h1 h2 e=>by
    have hlt:=hp.own_lt ⟨i,bi,ob,hb,ho,e⟩;rcases h.dnew ad v h1 h2 with h|h
    .exact not_own_nil h
    .omega)
   (fun b hb'=>h.keep b (hp.own_lt ⟨i,bi,ob,hb,ho,hb'⟩) not_own_nil)
  disj:=hp.disj }
 size:=h.size
 keep k hk _:=h.keep k hk not_own_nil
 os:=h.os
 tape:=h.tape
 output:=h.output
 ownn b hb:=.inl hb
theorem allM_ok {α β:Type} {f:α->Option β}:∀ {l:List α} {r:List β},allM f l=some r->r.length=l.length/\∀ (j:Nat) y,r[j]?=some y->∃ x,l[j]?=some x/\f x=some y
 |[],r,h=>by simp only [allM,Option.some.injEq] at h;subst h;exact⟨rfl,fun j y hy=>by simp at hy⟩
 |a :: l,r,h=>by
  simp only [allM] at h;split at h
  .rename_i x r' h1 h2
   simp only [Option.some.injEq] at h;subst h;obtain⟨h3,h4⟩:=allM_ok h2;refine⟨by simp [h3],fun j y hy=>?_⟩;cases j with
   |zero=>simp at hy;subst hy;exact⟨a,rfl,h1⟩
   |succ j=>exact h4 j y (by simpa using hy)
  .cases h
def goneVec:Ob->Ob
 |.vec _ _ _ _ _=>.gone
 |o=>o
def VecAt (β:List Bi) (objs:List Ob) (ad:Addr):Prop :=
 ad.spot=none/\∃ (i:Nat),∃ bi ty ag sz n cs a cap,β[i]?=some bi/\objs[i]?=some (.vec ty ag sz n cs)/\bi.hist 0=some (some a,cap)/\bi.blk=ad.block/\ad.off<cs.length
open Classical in
noncomputable def frzD (D:DMap) (β:List Bi) (objs:List Ob) (w:World):DMap:=fun ad=>if VecAt β objs ad then w.cell? ad else D ad
theorem frz_step {D:DMap} {β:List Bi} {objs:List Ob} {w:World} (h:Heap D β objs w):Step D β objs w (frzD D β objs w) β (objs.map goneVec) w:=by
 have vec:∀ ad,VecAt β objs ad->Own β objs ad.block/\D ad=none/\∃ v,w.cell? ad=some v/\v.oneCell'=true:=by
  rintro⟨b,o,sp⟩ ⟨hsp,i,bi,ty,ag,sz,n,cs,a,cap,h1,h2,h3,h4,h5⟩
  simp only at hsp h4 h5;subst hsp;obtain⟨a',cap',k1,k2,k3,k4,k5,k6⟩:=h.hold i bi _ h1 h2;rw [h3] at k1;simp only [Option.some.injEq,Prod.mk.injEq] at k1;obtain⟨rfl,rfl⟩:=k1;obtain⟨rfl,vs,T,⟨g1,_⟩,g2,g3,g4,g5⟩:=k6 _ rfl;have hmul:n*sz<=cap*sz:=Nat.mul_le_mul_right _ k2;have hlt:o<vs.size:=by omega
  subst h4;refine⟨⟨i,bi,_,h1,h2,by simp [ownOf,h3]⟩,g5 _ rfl,vs[o],?_,g4 o _ (by simp [hlt])⟩;rw [cell_of_blk g1];simp [hlt]
 have sub:∀ ad v,D ad=some v->frzD D β objs w ad=some v:=fun ad v hd=>by
  unfold frzD;rw [if_neg (fun hv=>by rw [(vec ad hv).2.1] at hd;cases hd)];exact hd
 have new:∀ ad v,frzD D β objs w ad=some v->D ad=none->VecAt β objs ad/\w.cell? ad=some v:=fun ad v h1 h2=>by
  unfold frzD at h1;split at h1
  .rename_i hv;exact⟨hv,h1⟩
  .rw [h2] at h1;cases h1
 have get:∀ (i:Nat) o,(objs.map goneVec)[i]?=some o->∃ o',objs[i]?=some o'/\o=goneVec o':=fun i o ho=>by
  simp only [List.getElem?_map,Option.map_eq_some_iff] at ho;obtain⟨o',h1,h2⟩:=ho;exact⟨o',h1,h2.symm⟩
 have own:∀ (bi:Bi) o b,ownOf bi (goneVec o)=some b->goneVec o=o/\ownOf bi o=some b:=fun bi o b hb=>by
  cases o<;>first|exact⟨rfl,hb⟩|cases hb
 refine⟨sub,fun ad v h1 h2=>.inl (vec ad (new ad v h1 h2).1).1,fun i x hx=>⟨x,hx,BiExt.refl x⟩,⟨fun ad v hv=>?_,by simp [h.len],fun i bi o h1 h2=>?_,fun i j bi bj oi oj b h1 h2 h3 h4 h5 h6=>?_⟩,
  Nat.le_refl _,fun _ _ _=>rfl,rfl,rfl,⟨rfl,Nat.le_refl _⟩,?_⟩
 .cases h0:D ad with
  |some u =>
   have:=sub ad u h0;rw [this] at hv;cases hv;exact h.dh ad _ h0
  |none =>
   obtain⟨hv1,hv2⟩:=new ad v hv h0;obtain⟨_,_,u,e1,e2⟩:=vec ad hv1;rw [e1] at hv2;cases hv2;exact⟨hv1.1,e2,e1⟩
 .obtain⟨o',e1,rfl⟩:=get i o h2
  by_cases hg:goneVec o'=o'
  .rw [hg]
   refine(h.hold i bi o' h1 e1).mono sub (fun i x hx=>⟨x,hx,BiExt.refl x⟩) (fun ad v h3 h4 h5=>?_) (fun b _=>rfl);obtain⟨⟨hsp,j,bj,ty,ag,sz,n,cs,a,cap,q1,q2,q3,q4,q5⟩,_⟩:=new ad v h3 h4;have:i=j:=h.disj i j bi bj o' _ ad.block h1 q1 e1 q2 h5 (by
    obtain⟨a',cap',k1,k2,k3,k4,k5,k6⟩:=h.hold j bj _ q1 q2;rw [q3] at k1;simp only [Option.some.injEq,Prod.mk.injEq] at k1;obtain⟨rfl,rfl⟩:=k1;obtain⟨rfl,_⟩:=k6 _ rfl;simp [ownOf,q3,q4])
   subst this;rw [e1] at q2;cases q2;cases hg
  .cases o'<;>first|trivial|exact absurd rfl hg
 .obtain⟨oi',e1,rfl⟩:=get i oi h3
  obtain⟨oj',e2,rfl⟩:=get j oj h4;exact h.disj i j bi bj oi' oj' b h1 h2 e1 e2 (own _ _ _ h5).2 (own _ _ _ h6).2
 .rintro b ⟨i,bi,o,h1,h2,h3⟩
  obtain⟨o',e1,rfl⟩:=get i o h2;exact .inl ⟨i,bi,o',h1,e1,(own _ _ _ h3).2⟩
theorem dvOf_ok {D:DMap} {β:List Bi} {objs:List Ob} {w:World} (h:Heap D β objs w):∀ (k:Nat) (x:AV) (y:DV) (v:Value),dvOf objs k x=some y->RepA D β x v->RepD (frzD D β objs w) y v:=by
 have st:=frz_step h;intro k
 induction k with
 |zero =>
  intro x y v hx hr;cases x<;>simp only [dvOf,Option.some.injEq,reduceCtorEq] at hx
  .subst hx;cases hr with|d h=>exact st.repD h
  .subst hx;cases hr with|sr _ _ h=>exact st.repD h
 |succ k ih =>
  intro x y v hx hr;cases x with
  |d x=>simp only [dvOf,Option.some.injEq] at hx;subst hx;cases hr with|d h=>exact st.repD h
  |sr i sz es=>simp only [dvOf,Option.some.injEq] at hx;subst hx;cases hr with|sr _ _ h=>exact st.repD h
  |agg cs =>
   simp only [dvOf,Option.map_eq_some_iff] at hx;obtain⟨ds,hds,rfl⟩:=hx;obtain⟨h1,h2⟩:=allM_ok hds;cases hr with
   |agg h3 h4 h5 =>
    refine .agg (by rw [h3,h1]) h4 (fun j c v hc hv=>?_);obtain⟨x,hx,hf⟩:=h2 j c hc;exact ih x c v hf (h5 j x v hx hv)
  |vs i sz lo len =>
   simp only [dvOf] at hx;split at hx
   .rename_i ty ag szr n cs ho
    split at hx
    .rename_i hcond
     simp only [Option.map_eq_some_iff] at hx;obtain⟨ds,hds,rfl⟩:=hx;simp only [Bool.and_eq_true,Bool.or_eq_true] at hcond;obtain⟨⟨⟨h1,h2⟩,h3⟩,h4⟩:=hcond;have h1:=Nat.eq_of_beq_eq_true h1;have h2:=Nat.le_of_ble_eq_true h2;have h3:=Nat.le_of_ble_eq_true h3;have ha:ag=true\/sz=1:=h4.imp id (fun h=>Nat.eq_of_beq_eq_true h);subst h1;obtain⟨l1,l2⟩:=allM_ok hds;cases hr with
     |@vs _ _ _ _ cap c bi a ad hb hh hle hm hn hx0 =>
      obtain⟨a',cap',k1,k2,k3,k4,k5,k6⟩:=h.hold i bi _ hb ho;rw [hh] at k1;simp only [Option.some.injEq,Prod.mk.injEq] at k1;obtain⟨rfl,rfl⟩:=k1;have hmul:lo*szr+len*szr<=n*szr:=by rw [<- Nat.add_mul];exact Nat.mul_le_mul_right _ h2
      have hmul2:n*szr<=cap*szr:=Nat.mul_le_mul_right _ k2;have hdl:ds.length=len*szr:=by rw [l1];simp;omega
      have hcl:(chunk ag szr len ds).length=len:=chunk_length _ _ _ _;by_cases h0:len=0
      .subst h0
       refine .sl (es:=chunk ag szr 0 ds) [] (by simp [chunk]) hm (by simp [chunk]) (fun e=>⟨rfl,hn.2.1 e⟩) (by simp [chunk,flatD]) (fun ad e=>⟨.inr (hn.2.2 ad e),by simp⟩) (by simp)
      .obtain⟨rfl,hcap⟩:=hx0 (.inr (by omega))
       cases a with
       |none=>have:=hn.1 rfl;omega
       |some a0 =>
        obtain⟨rfl,vs,T,⟨g1,_⟩,g2,g3,g4,g5⟩:=k6 a0 rfl;have hdc:DCells (frzD D β objs w) ds ((vs.toList.drop (lo*szr)).take (len*szr)):=by
         refine⟨by simp;omega,fun j v hv=>?_,fun j c v hc hv=>?_⟩
         .obtain⟨hv,_⟩:=getElem?_take_of hv
          rw [List.getElem?_drop] at hv;exact g4 _ v (by simpa using hv)
         .obtain⟨hv,hj⟩:=getElem?_take_of hv
          rw [List.getElem?_drop] at hv;obtain⟨x,hx,hf⟩:=l2 j c hc;obtain⟨hx,_⟩:=getElem?_take_of hx;rw [List.getElem?_drop] at hx;exact ih x c v hf (g3 _ _ v hx (by simpa using hv))
        obtain⟨f1,f2⟩:=chunk_flat ha len ds (by omega) hdc.one;rw [List.take_of_length_le (by omega)] at f1;have:=sl_of (D:=frzD D β objs w) (b:=bi.blk) (off:=lo*szr) (cap:=c) f2 (by rw [hcl];exact hle) hm (by rw [f1];exact hdc) (fun j v hv=>by
         obtain⟨hv,hj⟩:=getElem?_take_of hv;rw [List.getElem?_drop] at hv;unfold frzD;rw [if_pos ⟨rfl,i,bi,ty,ag,szr,n,cs,_,cap,hb,ho,hh,rfl,by simp only;omega⟩,cell_of_blk g1];simpa using hv)
        rw [hcl] at this;simpa using this
    .cases hx
   .cases hx
  |_=>cases hx
theorem closeA_ok {D:DMap} {β:List Bi} {objs:List Ob} {w:World} (hp:Heap D β objs w) {k:Nat} {x y:AV} {v:Value} (h:closeA objs k x=some y) (hr:RepA D β x v) (β':List Bi):RepA (frzD D β objs w) β' y v:=by
 unfold closeA at h;split at h
 .rename_i vs
  simp only [Option.map_eq_some_iff] at h;obtain⟨l,h,rfl⟩:=h;obtain⟨h1,h2⟩:=allM_ok h;cases hr with
  |@tup _ us h3 h4 =>
   refine .tup (by rw [h3,h1]) (fun j c v hc hv=>?_);obtain⟨x,hx,hf⟩:=h2 j c hc;simp only [Option.map_eq_some_iff] at hf;obtain⟨d,hd,rfl⟩:=hf;exact .d (dvOf_ok hp k x d v hd (h4 j x v hx hv))
 .cases hr
 .simp only [Option.map_eq_some_iff] at h
  obtain⟨d,hd,rfl⟩:=h;exact .d (dvOf_ok hp k _ d v hd hr)
theorem allF_reps {D:DMap} {β β':List Bi} {args:List AV} {ds:List DV} (h:allF args=some ds) {vs:Array Value} (hr:Reps D β args vs):Reps D β' (ds.map .d) vs:=by
 obtain⟨h1,h2⟩:=allF_rep (D:=D) (β:=β) h;refine⟨by rw [hr.1];simp [h1],fun j c v hc hv=>?_⟩;simp only [List.getElem?_map,Option.map_eq_some_iff] at hc;obtain⟨d,hd,rfl⟩:=hc;exact .d (allF_at h hd (fun c hc=>hr.2 j c v hc hv))
theorem pure_call {f:FuncId} {args:List AV} {ds:List DV} {r r':AV} {objs':List Ob} (hc:allF args=some ds) (h:ACall P f (ds.map .d) [] r objs') {k:Nat} (hr:closeA objs' k r=some r') (o:List Ob):ACall P f args o r' o:=by
 refine⟨h.1,fun D β w vs hp hv=>(h.2 D [] w vs hp.bare (allF_reps hc hv)).mono fun e w' he=>?_⟩;rcases he with⟨v,D',β',rfl,hs,hrep⟩|⟨x,v,D',β',rfl,rfl,hs,hrep⟩
 .exact .inl ⟨v,_,β,rfl,(hs.trans (frz_step hs.heap)).bare hp,closeA_ok hs.heap hr hrep β⟩
 .simp only [closeA,Option.some.injEq] at hr
  subst hr;exact .inr ⟨x,v,_,β,rfl,rfl,(hs.trans (frz_step hs.heap)).bare hp,(frz_step hs.heap).repD hrep⟩
theorem Step.aside {D D0 D':DMap} {β β':List Bi} {objs objs':List Ob} {w w':World} (hp:Heap D β objs w) (h:Step D0 [] [] w D' β' objs' w'):Step D β objs w D β objs w' where
 dsub _ _ h:=h
 dnew _ _ h1 h2:=by rw [h2] at h1;cases h1
 bext i x hx:=⟨x,hx,BiExt.refl x⟩
 heap:={
  dh:=fun ad v hd=>by
   obtain⟨a,b,c⟩:=hp.dh ad v hd;exact⟨a,b,by rw [cell_congr (w:=w) (h.keep _ (hp.D_lt hd) not_own_nil)];exact c⟩
  len:=hp.len
  hold:=fun i bi ob hb ho=>(hp.hold i bi ob hb ho).mono (fun _ _ h=>h) (fun i x hx=>⟨x,hx,BiExt.refl x⟩) (fun ad v h1 h2=>by rw [h2] at h1;cases h1)
   (fun b hb'=>h.keep b (hp.own_lt ⟨i,bi,ob,hb,ho,hb'⟩) not_own_nil)
  disj:=hp.disj }
 size:=h.size
 keep k hk _:=h.keep k hk not_own_nil
 os:=h.os
 tape:=h.tape
 output:=h.output
 ownn b hb:=.inl hb
theorem flatDV_ok {D D':DMap}:∀ (k:Nat) (x:DV) (v:Value),flatDV k x=true->RepD D x v->RepD D' x v:=by
 intro k
 induction k with
 |zero=>intro x v h hr;cases hr<;>first|exact .bool|exact .int|exact .str (by assumption)|simp [flatDV] at h
 |succ k ih =>
  intro x v h hr;cases hr with
  |bool=>exact .bool
  |int=>exact .int
  |str hs=>exact .str hs
  |agg h1 h2 h3 =>
   simp only [flatDV,List.all_eq_true] at h;exact .agg h1 h2 (fun j c v hc hv=>ih c v (h c (List.mem_of_getElem? hc)) (h3 j c v hc hv))
  |_=>simp [flatDV] at h
theorem flatAV_ok {D D':DMap} {β β':List Bi} {x:AV} {v:Value} (h:flatAV x=true) (hr:RepA D β x v):RepA D' β' x v:=by
 unfold flatAV at h;split at h
 .cases hr with|d hr=>exact .d (flatDV_ok 8 _ _ h hr)
 .simp only [List.all_eq_true] at h
  cases hr with
  |tup h1 h2 =>
   refine .tup h1 (fun j c v hc hv=>?_);have:=h c (List.mem_of_getElem? hc);split at this
   .have hr:=h2 j _ v hc hv
    cases hr with|d hr=>exact .d (flatDV_ok 8 _ _ this hr)
   .cases this
 .cases h
theorem lent_call {f:FuncId} {args:List AV} {objs:List Ob} {ds:List DV} {r:AV} {objs':List Ob} (hd:allM (dvOf objs 8) args=some ds) (h:ACall P f (ds.map .d) [] r objs') (hf:flatAV r=true):ACall P f args objs r objs:=by
 refine⟨h.1,fun D β w vs hp hv=>?_⟩;have st:=frz_step hp;obtain⟨l1,l2⟩:=allM_ok hd;refine(h.2 (frzD D β objs w) [] w vs st.heap.bare ⟨by rw [hv.1];simp [l1],fun j c v hc hv'=>?_⟩).mono fun e w' he=>?_
 .simp only [List.getElem?_map,Option.map_eq_some_iff] at hc
  obtain⟨d,hd',rfl⟩:=hc;obtain⟨x,hx,hfx⟩:=l2 j d hd';exact .d (dvOf_ok hp 8 x d v hfx (hv.2 j x v hx hv'))
 .obtain⟨v,D',β',rfl,hs,hrep⟩:=he.ret (by cases r<;>first|rfl|cases hf)
  exact .inl ⟨v,D,β,rfl,hs.aside hp,flatAV_ok hf hrep⟩
end
def PT.AllAt {α:Type} (p:Nat->α->Prop):PT α->Prop
 |.nil=>True
 |.node l v r=>(match v with|some x=>p 0 x|none=>True)/\PT.AllAt (fun n=>p (2*n+1)) l/\PT.AllAt (fun n=>p (2*n+2)) r
theorem PT.allAt {α:Type}:∀ {t:PT α} {p:Nat->α->Prop},PT.AllAt p t->∀ {n:Nat} {x:α},t.get? n=some x->p n x
 |.nil,_,_,n,x,h=>by cases h
 |.node l v r,p,ha,n,x,h=>by
  obtain⟨h1,h2,h3⟩:=ha;rw [PT.get?_node] at h;cases hn:Nat.beq n 0 with
  |true =>
   have:n=0:=Nat.eq_of_beq_eq_true hn;subst this;simp only at h;subst h;exact h1
  |false =>
   have n0:=Nat.ne_of_beq_eq_false hn;simp only [hn] at h;cases hp:Nat.beq (n % 2) 1 with
   |true =>
    have p1:=Nat.eq_of_beq_eq_true hp;simp only [hp] at h;have:=PT.allAt h2 h
    rwa [show 2*(n / 2)+1=n by omega] at this
   |false =>
    have p1:=Nat.ne_of_beq_eq_false hp;simp only [hp] at h;have:=PT.allAt h3 h
    rwa [show 2*(n / 2-1)+2=n by omega] at this
def zerosOf:List Value->Option (List DV)
 |[]=>some []
 |v :: r=>match ofVal v,zerosOf r with
  |some x,some l=>some (x :: l)
  |_,_=>none
theorem zerosOf_ok:∀ {l:List Value} {ds:List DV},zerosOf l=some ds->ds.length=l.length/\∀ (j:Nat) c v,ds[j]?=some c->l[j]?=some v->RepD (fun _=>none) c v
 |[],ds,h=>by simp only [zerosOf,Option.some.injEq] at h;subst h;exact⟨rfl,fun j c v hc=>by simp at hc⟩
 |v :: r,ds,h=>by
  simp only [zerosOf] at h;split at h
  .rename_i x l h1 h2
   simp only [Option.some.injEq] at h;subst h;obtain⟨h3,h4⟩:=zerosOf_ok h2;refine⟨by simp [h3],fun j c u hc hu=>?_⟩;cases j with
   |zero=>simp at hc hu;subst hc hu;exact ofVal_rep h1
   |succ j=>exact h4 j c u (by simpa using hc) (by simpa using hu)
  .cases h
def allOne:List Value->Bool
 |[]=>true
 |v :: r=>v.oneCell' && allOne r
theorem allOne_ok:∀ {l:List Value},allOne l=true->∀ (j:Nat) v,l[j]?=some v->v.oneCell'=true
 |[],_,j,v,h=>by simp at h
 |u :: r,ha,j,v,h=>by
  simp only [allOne,Bool.and_eq_true] at ha;cases j with
  |zero=>simp at h;subst h;exact ha.1
  |succ j=>exact allOne_ok ha.2 j v (by simpa using h)
def zvOf (P:Program) (t:TypeId):List Value:=match P.info? t with
 |some i=>match i.zero with|some z=>z.cells.toList|none=>[]
 |none=>[]
def mkTy (P:Program) (t:TypeId):Ty :=
 ⟨(P.underlying t).getD .invalid,match P.info? t with|some i=>i.size|none=>0,match P.info? t with|some i=>i.bytes|none=>0,(zerosOf (zvOf P t)).getD []⟩
def isAggV:Value->Bool
 |.agg _=>true
 |_=>false
def okTy (P:Program) (t:TypeId):Bool :=
 match P.underlying t,P.info? t with
 |some d,some i=>match i.zero with
  |some z=>match zerosOf z.cells.toList with
   |some ds=>Nat.beq ds.length i.size && allOne z.cells.toList && (match isAggT d,isAggV z with|true,true=>true|false,false=>true|_,_=>false)
   |none=>false
  |none=>false
 |_,_=>false
theorem okTy_ok {P:Program} {t:TypeId} (h:okTy P t=true):TyOK1 P t (mkTy P t) /\
  ∀ zv i,P.info? t=some i->i.zero=some zv->(isAggT (mkTy P t).desc=true->∃ cs,zv=.agg cs)/\(isAggT (mkTy P t).desc=false->zv.cells=#[zv]):=by
 unfold okTy at h;split at h
 .rename_i d i hd hi
  split at h
  .rename_i z hz
   split at h
   .rename_i ds hds
    simp only [Bool.and_eq_true] at h;obtain⟨⟨h1,h2⟩,h3⟩:=h;have h1:=Nat.eq_of_beq_eq_true h1;obtain⟨h4,h5⟩:=zerosOf_ok hds;have e:zvOf P t=z.cells.toList:=by simp [zvOf,hi,hz]
    refine⟨⟨by simp [mkTy,hd],i,z,hi,by simp [mkTy,hi],by simp [mkTy,hi],hz,by rw [<- Array.length_toList,<- h4,h1];simp [mkTy,hi],by simp [mkTy,e,hds,hi,h1],?_,fun j v hv=>allOne_ok h2 j v (by simpa using hv)⟩,?_⟩
    .intro j c v hc hv
     simp only [mkTy,e,hds,Option.getD_some] at hc;exact h5 j c v hc (by simpa using hv)
    .intro zv i' hi' hzv
     rw [hi] at hi';cases hi';rw [hz] at hzv;cases hzv;simp only [mkTy,hd,Option.getD_some];cases ha:isAggT d<;>cases hb:isAggV z<;>simp [ha,hb] at h3
     .refine⟨fun h=>(by cases h),fun _=>?_⟩
      cases z<;>first|rfl|cases hb
     .refine⟨fun _=>?_,fun h=>by cases h⟩
      cases z<;>first|exact⟨_,rfl⟩|cases hb
   .cases h
  .cases h
 .cases h
def fieldsIn (E:PT Ty):List Field->Bool
 |[]=>true
 |f :: r=>(match E.get? f.type with|some _=>true|none=>false) && fieldsIn E r
def plainIn (P:Program) (t:TypeId):Bool :=
 match P.underlying t with
 |some (.struct fs)=>!P.stoodInHeld t && (fs.toList.all (fun f=>f.name != "_") && !P.eqGuardType P.depth t)
 |some (.array _ _)=>!P.eqGuardType P.depth t
 |_=>true
def tyIn (P:Program) (E:PT Ty) (t:TypeId):Bool:=plainIn P t && (okTy P t && match P.underlying t with|some (.struct fs)=>fieldsIn E fs.toList|_=>true)
theorem fieldsIn_ok {E:PT Ty}:∀ {l:List Field},fieldsIn E l=true->∀ (i:Nat) f,l[i]?=some f->∃ y,E.get? f.type=some y
 |[],_,i,f,h=>by simp at h
 |g :: r,ha,i,f,h=>by
  simp only [fieldsIn,Bool.and_eq_true] at ha;cases i with
  |zero =>
   simp at h;subst h;cases hg:E.get? g.type with
   |some y=>exact⟨y,rfl⟩
   |none=>rw [hg] at ha;cases ha.1
  |succ i=>exact fieldsIn_ok ha.2 i f (by simpa using h)
def TyAt (P:Program) (E:PT Ty) (t:Nat) (y:Ty):Prop:=y=mkTy P t/\tyIn P E t=true
theorem envOK_of {P:Program} {E:PT Ty} (h:PT.AllAt (TyAt P E) E):EnvOK P E where
 ty t y hy:=by
  obtain⟨rfl,h2⟩:=PT.allAt h hy;simp only [tyIn,Bool.and_eq_true] at h2;exact(okTy_ok h2.2.1).1
 zero t y hy:=by
  obtain⟨rfl,h2⟩:=PT.allAt h hy;simp only [tyIn,Bool.and_eq_true] at h2;exact(okTy_ok h2.2.1).2
 plain t y hy:=by
  obtain⟨rfl,h2⟩:=PT.allAt h hy;simp only [tyIn,Bool.and_eq_true] at h2;obtain⟨h2,h3,_⟩:=h2;have hu:=(okTy_ok h3).1.und;unfold plainIn at h2;rw [hu] at h2;refine⟨fun fs e=>?_,fun e=>?_⟩
  .rw [e] at h2
   simp only [Bool.and_eq_true,Bool.not_eq_true',List.all_eq_true,bne_iff_ne,ne_eq] at h2;exact⟨h2.1,h2.2.1⟩
  .cases hd:(mkTy P t).desc<;>rw [hd] at e h2<;>first
    |(cases e;done)
    |(simp only [Bool.and_eq_true,Bool.not_eq_true'] at h2;exact h2.2.2)
    |(simp only [Bool.not_eq_true'] at h2;exact h2)
 fields t fs hu hy i f hf:=by
  obtain⟨y,hy⟩:=hy;obtain⟨_,h2⟩:=PT.allAt h hy;simp only [tyIn,Bool.and_eq_true,hu] at h2;exact fieldsIn_ok h2.2.2 i f (by simpa using hf)
def mkFn (f:Func) (h:List Nat):FnI:=⟨f.ntmps,f.params.size+f.nfree,f.body.getD .skip,f.results,h⟩
def FnAt (P:Program) (n:Nat) (i:FnI):Prop:=FnIs P n i
theorem fnAt {P:Program} {n:Nat} {f:Func} {h:List Nat} (h1:P.funcs[n]?=some f) (h2:f.body.isSome=true) (h3:(f.name == "runtime.NumGoroutine")=false) (h4:xk h=none:=by rfl):FnAt P n (mkFn f h):=by
 unfold FnAt FnIs;rw [show(mkFn f h).frz=h from rfl,h4];exact⟨f,h1,by cases hb:f.body with|none=>rw [hb] at h2;cases h2|some c=>simp [mkFn,hb],rfl,rfl,h3⟩
theorem fnsOK_of {P:Program} {F:PT FnI} (h:PT.AllAt (FnAt P) F):FnsOK P F.get?:=fun _ _ hf=>PT.allAt h hf
def intEq:Int->Int->Bool
 |.ofNat a,.ofNat b=>Nat.beq a b
 |.negSucc a,.negSucc b=>Nat.beq a b
 |_,_=>false
theorem intEq_ok {a b:Int} (h:intEq a b=true):a=b:=by
 cases a<;>cases b<;>simp only [intEq] at h<;>first|rw [Nat.eq_of_beq_eq_true h]|cases h
def natsEq:List Nat->List Nat->Bool
 |[],[]=>true
 |a :: r,b :: s=>Nat.beq a b && natsEq r s
 |_,_=>false
theorem natsEq_ok:∀ {a b:List Nat},natsEq a b=true->a=b
 |[],[],_=>rfl
 |a :: r,b :: s,h=>by
  simp only [natsEq,Bool.and_eq_true] at h;rw [Nat.eq_of_beq_eq_true h.1,natsEq_ok h.2]
 |[],_ :: _,h=>by cases h
 |_ :: _,[],h=>by cases h
def eqL {α β:Type} (f:α->β->Bool):List α->List β->Bool
 |[],[]=>true
 |a :: r,b :: s=>f a b && eqL f r s
 |_,_=>false
theorem eqL_ok {α:Type} {f:α->α->Bool} (hf:∀ a b,f a b=true->a=b):∀ {a b:List α},eqL f a b=true->a=b
 |[],[],_=>rfl
 |a :: r,b :: s,h=>by
  simp only [eqL,Bool.and_eq_true] at h;rw [hf _ _ h.1,eqL_ok hf h.2]
 |[],_ :: _,h=>by cases h
 |_ :: _,[],h=>by cases h
def eqDV:Nat->DV->DV->Bool
 |0=>fun _ _=>false
 |n+1=>fun a b =>
  match a with
  |.int k x=>(match b with|.int k' y=>kindB k k' && intEq x y|_=>false)
  |.str x=>(match b with|.str y=>natsEq x y|_=>false)
  |.bool true=>(match b with|.bool true=>true|_=>false)
  |.bool false=>(match b with|.bool false=>true|_=>false)
  |.nilptr=>(match b with|.nilptr=>true|_=>false)
  |.nilfunc=>(match b with|.nilfunc=>true|_=>false)
  |.nilmap=>(match b with|.nilmap=>true|_=>false)
  |.niliface=>(match b with|.niliface=>true|_=>false)
  |.nilsl=>(match b with|.nilsl=>true|_=>false)
  |.sl s x=>(match b with|.sl s' y=>Nat.beq s s' && eqL (eqDV n) x y|_=>false)
  |.agg x=>(match b with|.agg y=>eqL (eqDV n) x y|_=>false)
  |.ep x=>(match b with|.ep y=>eqL (eqDV n) x y|_=>false)
  |.fn (.func f) x u=>(match b with|.fn (.func g) y v=>Nat.beq f g && (eqL (eqDV n) x y && eqL (eqDV n) u v)|_=>false)
  |.iface t x=>(match b with|.iface t' y=>Nat.beq t t' && eqDV n x y|_=>false)
  |_=>false
theorem eqDV_ok:∀ (n:Nat) (a b:DV),eqDV n a b=true->a=b:=by
 intro n
 induction n with
 |zero=>intro a b h;cases h
 |succ n ih =>
  intro a b h;have hl:∀ x y,eqL (eqDV n) x y=true->x=y:=fun x y=>eqL_ok ih;simp only [eqDV] at h;split at h
  .split at h
   .simp only [Bool.and_eq_true] at h;rw [kindB_eq h.1,intEq_ok h.2]
   .cases h
  .split at h
   .rw [natsEq_ok h]
   .cases h
  .split at h
   .rfl
   .cases h
  .split at h
   .rfl
   .cases h
  .split at h
   .rfl
   .cases h
  .split at h
   .rfl
   .cases h
  .split at h
   .rfl
   .cases h
  .split at h
   .rfl
   .cases h
  .split at h
   .rfl
   .cases h
  .split at h
   .simp only [Bool.and_eq_true] at h;rw [Nat.eq_of_beq_eq_true h.1,hl _ _ h.2]
   .cases h
  .split at h
   .rw [hl _ _ h]
   .cases h
  .split at h
   .rw [hl _ _ h]
   .cases h
  .split at h
   .simp only [Bool.and_eq_true] at h;rw [Nat.eq_of_beq_eq_true h.1,hl _ _ h.2.1,hl _ _ h.2.2]
   .cases h
  .split at h
   .simp only [Bool.and_eq_true] at h;rw [Nat.eq_of_beq_eq_true h.1,ih _ _ h.2]
   .cases h
  .cases h
def eqAD:AV->DV->Bool
 |.d x,y=>eqDV 12 x y
 |_,_=>false
theorem eqArgs_ok:∀ {args:List AV} {ds:List DV},eqL eqAD args ds=true->args=ds.map .d
 |[],[],_=>rfl
 |a :: r,b :: s,h=>by
  simp only [eqL,Bool.and_eq_true] at h;rw [eqArgs_ok h.2];obtain⟨h,_⟩:=h;unfold eqAD at h;split at h
  .rw [eqDV_ok _ _ _ h];rfl
  .cases h
 |[],_ :: _,h=>by cases h
 |_ :: _,[],h=>by cases h
abbrev Memo:=PT (List (List DV × AV))
def lookL (args:List AV):List (List DV × AV)->Option AV
 |[]=>none
 |e :: r=>match eqL eqAD args e.1 with
  |true=>some e.2
  |false=>lookL args r
def look (T:Memo) (f:FuncId) (args:List AV):Option AV :=
 match T.get? f with
 |some l=>match allF args with
  |some ds=>lookL (ds.map .d) l
  |none=>none
 |none=>none
def AllL {α:Type} (p:α->Prop):List α->Prop
 |[]=>True
 |a :: r=>p a/\AllL p r
def KnownCall (P:Program) (f:FuncId) (args:List DV) (r:AV):Prop:=∀ o,ACall P f (args.map .d) o r o
def MemoOK (P:Program) (T:Memo):Prop:=PT.AllAt (fun f l=>AllL (fun e=>KnownCall P f e.1 e.2) l) T
def T0:Memo:=.nil
theorem T0_ok {P:Program}:MemoOK P T0:=trivial
theorem lookL_ok {P:Program} {f:FuncId} {args:List AV} {r:AV}:∀ {l:List (List DV × AV)},AllL (fun e=>KnownCall P f e.1 e.2) l->lookL args l=some r->∀ o,ACall P f args o r o
 |[],_,h=>by cases h
 |e :: l,ha,h=>by
  simp only [lookL] at h;split at h
  .rename_i he
   simp only [Option.some.injEq] at h;subst h;rw [eqArgs_ok he];exact ha.1
  .exact lookL_ok ha.2 h
theorem look_ok {P:Program} {T:Memo} (hT:MemoOK P T) {f:FuncId} {args:List AV} {r:AV} (h:look T f args=some r):∀ o,ACall P f args o r o:=by
 unfold look at h;split at h
 .rename_i l hl
  split at h
  .rename_i ds hds
   have:=lookL_ok (PT.allAt hT hl) h;intro o;exact⟨(this o).1,fun D β w vs hp hv=>(this o).2 D β w vs hp (allF_reps hds hv)⟩
  .cases h
 .cases h
def evLook (T:Memo) (E:PT Ty) (F:FuncId->Option FnI) (H:Hd) (n:Nat) (f:FuncId) (args:List AV) (objs:List Ob):Option (AV × Option (List Ob)) :=
 match look T f args with
 |some r=>some (r,none)
 |none=>match (match allClosed args with|true=>false|false=>match F f with|some i=>memN 200001 i.frz|none=>false) with
  |true=>match allM (dvOf objs 8) args with
   |some ds=>match look T f (ds.map .d) with
    |some r=>match flatAV r with
     |true=>some (r,some objs)
     |false=>none
    |none=>evBoth E F H n f args objs
   |none=>none
  |false=>evBoth E F H n f args objs
def hdlM (T:Memo) (E:PT Ty) (F:FuncId->Option FnI) (k:Nat):Nat->Hd
 |0=>⟨fun _ _ _=>none,fun _ _ _=>none,fun _ _ _=>none,fun _ _ _ _=>none⟩
 |n+1=>⟨fun f args objs=>evLook T E F (hdlM T E F k n) k f args objs,fun i args objs=>evYield E (hdlM T E F k n) k i args objs,fun f args objs=>evOpn E F f args objs (evCall E F (hdlM T E F k n) k f args objs),fun f args m objs=>evDefer E F (hdlM T E F k n) k f args m objs⟩
section
variable {P:Program} {E:PT Ty} {H:Hd}
theorem evBoth_ok (hE:EnvOK P E) (hm:P.follows .mixedOrders=true) {F:FuncId->Option FnI} (hF:FnsOK P F) (ih:HOK P H) {k:Nat} {f:FuncId} {args:List AV} {objs:List Ob} {r:AV} {ob:Option (List Ob)}
  (h:evBoth E F H k f args objs=some (r,ob)):(∀ objs',ob=some objs'->ACall P f args objs r objs')/\(ob=none->∀ o,ACall P f args o r o):=by
 have call:((evCall E F H k f args objs).map fun p=>(p.1,some p.2))=some (r,ob)->(∀ objs',ob=some objs'->ACall P f args objs r objs')/\(ob=none->∀ o,ACall P f args o r o):=by
  intro hc;simp only [Option.map_eq_some_iff,Prod.mk.injEq] at hc;obtain⟨⟨a,b⟩,hc,e1,e2⟩:=hc;subst e1 e2;exact⟨fun o e=>(by cases e;exact evCall_ok hE ih hm hF hc),fun e=>(by cases e)⟩
 unfold evBoth at h;split at h
 .exact call h
 .split at h
  .split at h
   .rename_i r' hr
    simp only [Option.some.injEq,Prod.mk.injEq] at h;obtain⟨rfl,rfl⟩:=h;refine⟨fun _ e=>(by cases e),fun _ o=>?_⟩;unfold evPure at hr;split at hr
    .rename_i hc
     split at hr
     .rename_i r0 o0 he
      exact pure_call hc (evCall_ok hE ih hm hF he) hr o
     .cases hr
    .cases hr
   .exact call h
  .split at h
   .simp only [Option.map_eq_some_iff,Prod.mk.injEq] at h
    obtain⟨r',h,rfl,rfl⟩:=h;refine⟨fun objs' e=>?_,fun e=>by cases e⟩;cases e;unfold evLent at h;split at h
    .rename_i ds hds
     split at h
     .rename_i r0 o0 he
      split at h
      .rename_i hfl
       simp only [Option.some.injEq] at h;subst h;exact lent_call hds (evCall_ok hE ih hm hF he) hfl
      .cases h
     .cases h
    .cases h
   .exact call h
theorem evLook_ok {T:Memo} (hT:MemoOK P T) (hE:EnvOK P E) (hm:P.follows .mixedOrders=true) {F:FuncId->Option FnI} (hF:FnsOK P F) (ih:HOK P H) {k:Nat} {f:FuncId} {args:List AV} {objs:List Ob} {r:AV} {ob:Option (List Ob)}
  (h:evLook T E F H k f args objs=some (r,ob)):(∀ objs',ob=some objs'->ACall P f args objs r objs')/\(ob=none->∀ o,ACall P f args o r o):=by
 unfold evLook at h;split at h
 .rename_i r' hr
  simp only [Option.some.injEq,Prod.mk.injEq] at h;obtain⟨rfl,rfl⟩:=h;exact⟨fun _ e=>(by cases e),fun _=>look_ok hT hr⟩
 .split at h
  .split at h
   .rename_i ds hds
    split at h
    .rename_i r' hr
     split at h
     .rename_i hfl
      simp only [Option.some.injEq,Prod.mk.injEq] at h;obtain⟨rfl,rfl⟩:=h;refine⟨fun objs' e=>?_,fun e=>by cases e⟩;cases e;exact lent_call hds (look_ok hT hr []) hfl
     .cases h
    .exact evBoth_ok hE hm hF ih h
   .cases h
  .exact evBoth_ok hE hm hF ih h
theorem hdlM_ok {T:Memo} (hT:MemoOK P T) (hE:EnvOK P E) (hm:P.follows .mixedOrders=true) {F:FuncId->Option FnI} (hF:FnsOK P F) (k:Nat):∀ n,HOK P (hdlM T E F k n)
 |0=>⟨fun _ _ _ _ _ h=>(by cases h),fun _ _ _ _ h=>(by cases h),fun _ _ _ _ _ h=>(by cases h),fun _ _ _ _ _ h=>(by cases h),fun _ _ _ _ _ _ h=>(by cases h)⟩
 |n+1=>by
  have ih:=hdlM_ok hT hE hm hF k n;exact⟨fun f args objs r objs' h=>(evLook_ok hT hE hm hF ih h).1 objs' rfl,fun f args objs r h=>(evLook_ok hT hE hm hF ih h).2 rfl,
   fun i args objs r objs' h=>evYield_ok hE ih hm h,fun f args objs r objs' h=>evOpn_ok hE.ty hF (fun h=>evCall_ok hE ih hm hF h) h,fun f args m objs m' objs' h=>evDefer_ok hE ih hm hF h⟩
theorem known {T:Memo} (hT:MemoOK P T) (hE:EnvOK P E) (hm:P.follows .mixedOrders=true) {F:FuncId->Option FnI} (hF:FnsOK P F) {k n:Nat} {f:FuncId} {args:List DV} {r:AV}
  (h:evBoth E F (hdlM T E F k n) k f (args.map .d) []=some (r,none)):KnownCall P f args r :=
 (evBoth_ok hE hm hF (hdlM_ok hT hE hm hF k n) h).2 rfl
end
theorem kept_of_step {D D':DMap} {β':List Bi} {objs':List Ob} {w w':World} (h:Step D [] [] w D' β' objs' w') (may:MemPlace->Prop):w.keptBut w' may:=by
 refine⟨h.os,h.output.1,fun i hi=>?_⟩;have e:=h.keep i hi not_own_nil;rw [e];cases w.heap[i]? with
 |none=>rfl
 |some o=>cases o<;>first|rfl|exact⟨rfl,rfl,rfl,fun _ _=>rfl⟩|exact Or.inr ⟨rfl,rfl⟩
def Run (P:Program) (nt m:Nat) (ro':Option Nat) (c:Code) (s:S) (K:Ex->S->Prop):Prop :=
 ∀ (D0:DMap) (β0:List Bi) (o0:List Ob) (w0:World) (_:β0.length<=m) (ro:Option Nat) (Q:Exit->Act->World->Prop) (a:Act) (w:World),RoOK β0 ro' ro ->
  (∀ e s',K e s'->Post D0 β0 o0 w0 nt e s' Q)->Sim D0 β0 o0 w0 nt s a w->c.wpIn (FW ro) 0 P Q a w
def RunOps (P:Program) (nt m:Nat) (ro':Option Nat) (ops:Array Oper) (l:List Oper) (s:S) (K:Ex->S->Prop):Prop :=
 ∀ (D0:DMap) (β0:List Bi) (o0:List Ob) (w0:World) (_:β0.length<=m) (ro:Option Nat) (Q:Exit->Act->World->Prop) (a:Act) (w:World) (i:Nat),RoOK β0 ro' ro ->
  (∀ k:Nat,k<l.length->ops[i+k]?=l[k]?)->(∀ e s',K e s'->Post D0 β0 o0 w0 nt e s' Q)->Sim D0 β0 o0 w0 nt s a w->wpOpsIn (FW ro) 0 P ops Q (List.range' i l.length) a w
def allGet (tm:PT AV):List (Nat × AV)->Prop
 |[]=>True
 |(t,v) :: r=>tm.get? t=some v/\allGet tm r
def Weak (s s':S):Prop:=s'.objs=s.objs/\s'.dl=s.dl/\∀ t v,s'.tm.get? t=some v->s.tm.get? t=some v
def callOf (rd:Operand->AV):Op->Option (FuncId × List AV)
 |.call { callee:=.value f,args,.. }=>match rd f with
  |.d (.fn (.func g) a b)=>some (g,a.map .d++args.toList.map rd++b.map .d)
  |.fn (.func g) a b=>some (g,a++args.toList.map rd++b)
  |_=>none
 |_=>none
def H0:Hd:=⟨fun _ _ _=>none,fun _ _ _=>none,fun _ _ _=>none,fun _ _ _ _=>none⟩
section
variable {P:Program} {E:PT Ty} {frz:List Nat} {nt m:Nat} {ro':Option Nat} {K:Ex->S->Prop} {s:S}
theorem H0_ok:HOK P H0:=⟨fun _ _ _ _ _ h=>(by cases h),fun _ _ _ _ h=>(by cases h),fun _ _ _ _ _ h=>(by cases h),fun _ _ _ _ _ h=>(by cases h),fun _ _ _ _ _ _ h=>(by cases h)⟩
theorem ofList_get {α:Type}:∀ {l:List (Nat × α)} {t:Nat} {v:α},(PT.ofList l).get? t=some v->(t,v) ∈ l
 |[],t,v,h=>by cases h
 |(n,u) :: r,t,v,h=>by
  simp only [PT.ofList] at h;rcases PT.get?_set _ _ _ _ _ h with⟨rfl,rfl⟩|⟨_,h⟩|⟨rfl,rfl⟩
  .simp
  .exact List.mem_cons_of_mem _ (ofList_get h)
  .simp
theorem allGet_mem {tm:PT AV}:∀ {l:List (Nat × AV)},allGet tm l->∀ {t:Nat} {v:AV},(t,v) ∈ l->tm.get? t=some v
 |[],_,t,v,h=>by cases h
 |(n,u) :: r,ha,t,v,h=>by
  rcases List.mem_cons.1 h with e|h
  .cases e;exact ha.1
  .exact allGet_mem ha.2 h
theorem weak_of {tm:PT AV} {objs:List Ob} {dl:List Dl} {l:List (Nat × AV)} (h:allGet tm l):Weak ⟨tm,objs,dl⟩ ⟨PT.ofList l,objs,dl⟩ :=
 ⟨rfl,rfl,fun t v ht=>allGet_mem h (ofList_get ht)⟩
theorem weak_of' {s:S} {objs:List Ob} {dl:List Dl} {l:List (Nat × AV)} (ho:objs=s.objs) (hd:dl=s.dl) (h:allGet s.tm l):Weak s ⟨PT.ofList l,objs,dl⟩ :=
 ⟨ho,hd,fun t v ht=>allGet_mem h (ofList_get ht)⟩
theorem Sim.weak {D0:DMap} {β0:List Bi} {o0:List Ob} {w0:World} {s s':S} {a:Act} {w:World} (hw:Weak s s') (h:Sim D0 β0 o0 w0 nt s a w):Sim D0 β0 o0 w0 nt s' a w:=by
 obtain⟨D,β,h1,h2,h3⟩:=h;refine⟨D,β,by rw [hw.1];exact h1,⟨h2.1,fun t=>?_⟩,by rw [hw.2.1];exact h3⟩;cases ht:s'.tm.get? t with
 |none=>exact .d .any
 |some v =>
  have:=h2.2 t;rw [hw.2.2 t v ht] at this;exact this
theorem Run.weak {c:Code} {s':S} (hw:Weak s s') (h:Run P nt m ro' c s' K):Run P nt m ro' c s K :=
 fun D0 β0 o0 w0 hb0 ro Q a w hro hK hs=>h D0 β0 o0 w0 hb0 ro Q a w hro hK (hs.weak hw)
theorem Run.mono {c:Code} {K':Ex->S->Prop} (h:Run P nt m ro' c s K) (hk:∀ e s',K e s'->K' e s'):Run P nt m ro' c s K' :=
 fun D0 β0 o0 w0 hb0 ro Q a w hro hK hs=>h D0 β0 o0 w0 hb0 ro Q a w hro (fun e s' h=>hK e s' (hk e s' h)) hs
theorem Run.ev (hE:EnvOK P E) (hm:P.follows .mixedOrders=true) {H:Hd} (hH:HOK P H) {n:Nat} {c:Code} {e:Ex} {s':S} (h:evCode E H frz nt ro' n c s=some (e,s')) (k:K e s'):Run P nt m ro' c s K :=
 fun _ _ _ _ _ _ Q a w hro hK hs=>evCode_ok hE hH hm hro n c s e s' h Q a w (hK e s' k) hs
theorem Yk (h:K .normal s):Run P nt m ro' .skip s K:=fun _ _ _ _ _ _ _ a w _ hK hs=>wpIn_skip ((hK _ _ h).1 a w rfl hs)
theorem Run.label {l:Nat} (h:K .normal s):Run P nt m ro' (.label l) s K:=fun _ _ _ _ _ _ _ a w _ hK hs=>wpIn_label ((hK _ _ h).1 a w rfl hs)
theorem Ye {id:Nat} (h:K (.exit id) s):Run P nt m ro' (.exit id) s K:=fun _ _ _ _ _ _ _ a w _ hK hs=>wpIn_exit ((hK _ _ h).1 a w rfl hs)
theorem Yt (h:K .ret s):Run P nt m ro' .ret s K:=fun _ _ _ _ _ _ _ a w _ hK hs=>wpIn_ret ((hK _ _ h).1 a w rfl hs)
theorem post_of {D0:DMap} {β0:List Bi} {o0:List Ob} {w0:World} {e:Ex} {s':S} {Q Q':Exit->Act->World->Prop} (h:Post D0 β0 o0 w0 nt e s' Q) (h1:∀ x a w,x≠.normal->Q x a w->Q' x a w) (hn:e≠.normal):Post D0 β0 o0 w0 nt e s' Q' :=
 ⟨fun a w hp hs=>h1 _ a w (by cases e<;>simp_all [exOf]) (h.1 a w hp hs),fun x hx a w v D β k1 k2 k3 k4=>h1 _ a w (by simp) (h.2 x hx a w v D β k1 k2 k3 k4)⟩
theorem Yq {x y:Code} (h:Run P nt m ro' x s (fun e s1=>match e with|.normal=>Run P nt m ro' y s1 K|e=>K e s1)):Run P nt m ro' (.seq x y) s K:=by
 intro D0 β0 o0 w0 hb0 ro Q a w hro hK hs;refine wpIn_seq ?_;refine h D0 β0 o0 w0 hb0 ro _ a w hro (fun e s1 hk=>?_) hs;cases e with
 |normal=>exact⟨fun a w _ hs=>hk D0 β0 o0 w0 hb0 ro Q a w hro hK hs,fun x hx=>by cases hx⟩
 |_=>exact post_of (hK _ _ hk) (fun x a w hx h=>by cases x<;>first|exact absurd rfl hx|exact h) (by simp)
theorem Run.cond {c:Operand} {x y:Code} {b:Bool} (hc:rd s.tm c=.d (.bool b)) (h1:b=true->Run P nt m ro' x s K) (h2:b=false->Run P nt m ro' y s K):Run P nt m ro' (.cond c x y) s K:=by
 intro D0 β0 o0 w0 hb0 ro Q a w hro hK hs;cases b with
 |true=>exact wpIn_cond_true (hs.cond hc) (h1 rfl D0 β0 o0 w0 hb0 ro Q a w hro hK hs)
 |false=>exact wpIn_cond_false (hs.cond hc) (h2 rfl D0 β0 o0 w0 hb0 ro Q a w hro hK hs)
theorem Yb {id:Nat} {b:Code} (h:Run P nt m ro' b s (fun e s1=>match e with|.exit i=>(match Nat.beq i id with|true=>K .normal s1|false=>K (.exit i) s1)|e=>K e s1)):Run P nt m ro' (.block id b) s K:=by
 intro D0 β0 o0 w0 hb0 ro Q a w hro hK hs;refine wpIn_block ?_;refine h D0 β0 o0 w0 hb0 ro _ a w hro (fun e s1 hk=>?_) hs;cases e with
 |exit i =>
  refine⟨fun a w _ hs=>?_,fun x hx=>by cases hx⟩;simp only [exOf,Exit.inBlock];cases hb:Nat.beq i id with
  |true=>rw [if_pos (Nat.eq_of_beq_eq_true hb)];simp only [hb] at hk;exact(hK _ _ hk).1 a w rfl hs
  |false=>rw [if_neg (Nat.ne_of_beq_eq_false hb)];simp only [hb] at hk;exact(hK _ _ hk).1 a w rfl hs
 |_=>exact⟨fun a w hp hs=>(hK _ _ hk).1 a w hp hs,fun x hx a w v D β k1 k2 k3 k4=>(hK _ _ hk).2 x hx a w v D β k1 k2 k3 k4⟩
theorem Run.scope {b:Code} (h:Run P nt m ro' b s (fun e s1=>match e with|.goto _=>False|e=>K e s1)):Run P nt m ro' (.scope b) s K:=by
 intro D0 β0 o0 w0 hb0 ro Q a w hro hK hs;refine wpIn_scope ?_;refine h D0 β0 o0 w0 hb0 ro _ a w hro (fun e s1 hk=>?_) hs;cases e with
 |goto l=>exact hk.elim
 |_=>exact⟨fun a w hp hs=>(hK _ _ hk).1 a w hp hs,fun x hx a w v D β k1 k2 k3 k4=>(hK _ _ hk).2 x hx a w v D β k1 k2 k3 k4⟩
theorem Run.loop {α:Type} (St:α->S) (I:α->Prop) (mu:α->Nat) {b:Code} (x0:α) (h0:I x0) (hs0:Weak s (St x0))
  (h:∀ x,I x->Run P nt m ro' b (St x) (fun e s1=>match e with|.normal=>∃ x',I x'/\mu x'<mu x/\Weak s1 (St x')|e=>K e s1)):Run P nt m ro' (.loop b) s K:=by
 intro D0 β0 o0 w0 hb0 ro Q a w hro hK hs;refine wpIn_loop_n (fun k a w=>∃ x,I x/\mu x=k/\Sim D0 β0 o0 w0 nt (St x) a w) (k:=mu x0) ⟨x0,h0,rfl,hs.weak hs0⟩ (fun k a w hJ=>?_);obtain⟨x,hx,hm,hs⟩:=hJ;refine h x hx D0 β0 o0 w0 hb0 ro _ a w hro (fun e s1 hk=>?_) hs;cases e with
 |normal =>
  obtain⟨x',h1,h2,h3⟩:=hk;exact⟨fun a w _ hs=>⟨mu x',by omega,x',h1,rfl,hs.weak h3⟩,fun x hx=>by cases hx⟩
 |_=>exact post_of (hK _ _ hk) (fun x a w hx h=>by cases x<;>first|exact absurd rfl hx|exact h) (by simp)
def refA:Nat->Nat->AV->Bool
 |0,_,_=>false
 |k+1,n,x=>match x with
  |.d _=>true
  |.bp i _=>Nat.blt i n
  |.sr i _ _=>Nat.blt i n
  |.bs i _ _ _=>Nat.blt i n
  |.mp i=>Nat.blt i n
  |.yl i=>Nat.blt i n
  |.vs i _ _ _=>Nat.blt i n
  |.fn _ f c=>f.all (refA k n) && c.all (refA k n)
  |.agg cs=>cs.all (refA k n)
  |.tup cs=>cs.all (refA k n)
  |.pan _=>true
def ptAll {α:Type} (p:α->Bool):PT α->Bool
 |.nil=>true
 |.node l v r=>ptAll p l && (match v with|some x=>p x|none=>true) && ptAll p r
def refOb (n:Nat):Ob->Bool
 |.box cs=>cs.all (refA 8 n)
 |.vec _ _ _ _ cs=>cs.all (refA 8 n)
 |.tb _ cs=>cs.all (refA 8 n)
 |.loop tm _ _ _ _ _ _ _=>ptAll (refA 8 n) tm
 |_=>true
def refDl (n:Nat):Dl->Bool
 |.mark i=>Nat.blt i n
 |.call _ args=>args.all (refA 8 n)
def refS (n:Nat) (s:S):Bool:=ptAll (refA 8 n) s.tm && (s.objs.take n).all (refOb n) && s.dl.all (refDl n)
def S.trunc (n:Nat) (s:S):S:=⟨s.tm,s.objs.take n,s.dl⟩
theorem ptAll_get {α:Type} {p:α->Bool}:∀ {t:PT α} {n:Nat} {v:α},ptAll p t=true->t.get? n=some v->p v=true
 |.nil,_,_,_,h=>by cases h
 |.node l u r,n,v,ha,h=>by
  simp only [ptAll,Bool.and_eq_true] at ha;rw [PT.get?_node] at h;split at h
  .subst h;exact ha.1.2
  .split at h
   .exact ptAll_get ha.1.1 h
   .exact ptAll_get ha.2 h
theorem take_get {α:Type} {l:List α} {n i:Nat} {x:α} (h:l[i]?=some x) (hi:Nat.blt i n=true):(l.take n)[i]?=some x:=by
 rw [Nat.blt_eq] at hi;rw [List.getElem?_take,if_pos hi];exact h
theorem repA_take {D:DMap} {β:List Bi} {n:Nat}:∀ (k:Nat) {x:AV} {v:Value},refA k n x=true->RepA D β x v->RepA D (β.take n) x v:=by
 intro k
 induction k with
 |zero=>intro x v h;cases h
 |succ k ih =>
  intro x v h hr;cases hr with
  |d h1=>exact .d h1
  |bp h1=>exact .bp (take_get h1 h)
  |sr h1 h2 h3=>exact .sr (take_get h1 h) h2 h3
  |bs h1=>exact .bs (take_get h1 h)
  |mp h1=>exact .mp (take_get h1 h)
  |yl h1=>exact .yl (take_get h1 h)
  |vs h1 h2 h3 h4 h5 h6=>exact .vs (take_get h1 h) h2 h3 h4 h5 h6
  |fn h1 h2 r1 r2 =>
   simp only [refA,Bool.and_eq_true,List.all_eq_true] at h;exact .fn h1 h2 (fun j c v hc hv=>ih (h.1 c (List.mem_of_getElem? hc)) (r1 j c v hc hv)) (fun j c v hc hv=>ih (h.2 c (List.mem_of_getElem? hc)) (r2 j c v hc hv))
  |agg h1 h2 r =>
   simp only [refA,List.all_eq_true] at h;exact .agg h1 h2 (fun j c v hc hv=>ih (h c (List.mem_of_getElem? hc)) (r j c v hc hv))
  |tup h1 r =>
   simp only [refA,List.all_eq_true] at h;exact .tup h1 (fun j c v hc hv=>ih (h c (List.mem_of_getElem? hc)) (r j c v hc hv))
theorem holdsOb_take {D:DMap} {β:List Bi} {n:Nat} {w:World} {bi:Bi} {ob:Ob} (h:HoldsOb D β w bi ob) (hr:refOb n ob=true):HoldsOb D (β.take n) w bi ob:=by
 cases ob with
 |box cs =>
  simp only [refOb,List.all_eq_true] at hr;obtain⟨vs,T,h1,h2,h3,h4,h5⟩:=h;exact⟨vs,T,h1,h2,fun j c v hc hv=>repA_take 8 (hr c (List.mem_of_getElem? hc)) (h3 j c v hc hv),h4,h5⟩
 |tb ty cs =>
  simp only [refOb,List.all_eq_true] at hr;obtain⟨vs,T,h1,h2,h3,h4,h5⟩:=h;exact⟨vs,T,h1,h2,fun j c v hc hv=>repA_take 8 (hr c (List.mem_of_getElem? hc)) (h3 j c v hc hv),h4,h5⟩
 |vec ty ag sz k cs =>
  simp only [refOb,List.all_eq_true] at hr;obtain⟨a,cap,h1,h2,h3,h4,h5,h6⟩:=h;refine⟨a,cap,h1,h2,h3,h4,h5,fun ad ha=>?_⟩;obtain⟨g1,vs,T,g2,g3,g4,g5,g6⟩:=h6 ad ha;exact⟨g1,vs,T,g2,g3,fun j c v hc hv=>repA_take 8 (hr c (List.mem_of_getElem? hc)) (g4 j c v hc hv),g5,g6⟩
 |loop tm nt frz ps assign body st pend =>
  obtain⟨lp,h1,h2,h3,h4,h5,h6,h7,h8,h9⟩:=h;refine⟨lp,h1,h2,h3,h4,h5,h6,h7,fun t=>?_,h9⟩;have:=h8 t;cases ht:tm.get? t with
  |none=>exact .d .any
  |some v=>rw [ht] at this;exact repA_take 8 (ptAll_get hr ht) this
 |_=>exact h
theorem Step.trunc {D0 D:DMap} {β0 β:List Bi} {o0 objs:List Ob} {w0 w:World} (h:Step D0 β0 o0 w0 D β objs w) {n:Nat} (hn:β0.length<=n) (hr:(objs.take n).all (refOb n)=true):Step D0 β0 o0 w0 D (β.take n) (objs.take n) w:=by
 have get:∀ {α:Type} {l:List α} {i:Nat} {x:α},(l.take n)[i]?=some x->l[i]?=some x/\i<n:=fun h=>getElem?_take_of h;refine { h with bext:=fun i x hx=>?_,heap:=?_,ownn:=fun b hb=>?_ }
 .obtain⟨y,hy,he⟩:=h.bext i x hx
  have:=(List.getElem?_eq_some_iff.1 hx).1;exact⟨y,take_get hy (by rw [Nat.blt_eq];omega),he⟩
 .simp only [List.all_eq_true] at hr
  exact {
   dh:=h.heap.dh,len:=by simp [h.heap.len],hold:=fun i bi ob h1 h2=>holdsOb_take (h.heap.hold i bi ob (get h1).1 (get h2).1) (hr ob (List.mem_of_getElem? h2)),
   disj:=fun i j bi bj oi oj b h1 h2 h3 h4 h5 h6=>h.heap.disj i j bi bj oi oj b (get h1).1 (get h2).1 (get h3).1 (get h4).1 h5 h6 }
 .obtain⟨i,bi,ob,h1,h2,h3⟩:=hb
  exact h.ownn b ⟨i,bi,ob,(get h1).1,(get h2).1,h3⟩
theorem DlOK.take {D:DMap} {β:List Bi} {n:Nat}:∀ {l:List Dl} {ds:List Deferred},l.all (refDl n)=true->DlOK D β l ds->DlOK D (β.take n) l ds
 |[],[],_,_=>trivial
 |.mark i :: l,d :: ds,hr,⟨⟨bi,h1,h2⟩,h3⟩=>by
  simp only [List.all_cons,Bool.and_eq_true] at hr;exact⟨⟨bi,take_get h1 hr.1,h2⟩,DlOK.take hr.2 h3⟩
 |.call g args :: l,d :: ds,hr,⟨⟨cap,h1,h2⟩,h3⟩=>by
  simp only [List.all_cons,Bool.and_eq_true] at hr;obtain⟨hr1,hr2⟩:=hr;simp only [refDl,List.all_eq_true] at hr1;exact⟨⟨cap,h1,h2.1,fun j c v hc hv=>repA_take 8 (hr1 c (List.mem_of_getElem? hc)) (h2.2 j c v hc hv)⟩,DlOK.take hr2 h3⟩
theorem Sim.trunc {D0:DMap} {β0:List Bi} {o0:List Ob} {w0:World} {s:S} {a:Act} {w:World} {n:Nat} (hn:β0.length<=n) (hr:refS n s=true) (h:Sim D0 β0 o0 w0 nt s a w):Sim D0 β0 o0 w0 nt (s.trunc n) a w:=by
 simp only [refS,Bool.and_eq_true] at hr;obtain⟨D,β,h1,h2,h3⟩:=h;refine⟨D,β.take n,h1.trunc hn hr.1.2,⟨h2.1,fun t=>?_⟩,h3.take hr.2⟩;have:=h2.2 t;cases ht:s.tm.get? t with
 |none=>simp only [S.trunc,ht];exact .d .any
 |some v=>rw [ht] at this;simp only [S.trunc,ht];exact repA_take 8 (ptAll_get hr.1.1 ht) this
theorem Run.trunc {c:Code} (n:Nat) (hn:Nat.ble m n=true) (hr:refS n s=true) (h:Run P nt m ro' c (s.trunc n) K):Run P nt m ro' c s K :=
 fun D0 β0 o0 w0 hb0 ro Q a w hro hK hs=>h D0 β0 o0 w0 hb0 ro Q a w hro hK (hs.trunc (Nat.le_trans hb0 (Nat.le_of_ble_eq_true hn)) hr)
theorem Yg {id:Nat} {ops:Array Oper} (h:RunOps P nt m ro' ops ops.toList s K):Run P nt m ro' (.region id ops false) s K:=by
 intro D0 β0 o0 w0 hb0 ro Q a w hro hK hs;refine wpIn_region ?_;have:=h D0 β0 o0 w0 hb0 ro Q a w 0 hro (fun k _=>by simp) hK hs;rw [List.range_eq_range'];simpa using this
variable {ops:Array Oper} {l:List Oper} {o:Oper}
theorem Yn (h:K .normal s):RunOps P nt m ro' ops [] s K:=fun _ _ _ _ _ _ _ a w _ _ _ hK hs=>(hK _ _ h).1 a w rfl hs
theorem RunOps.does {v:AV} {objs':List Ob} {tm:PT AV} (hg:guardA ops (rd s.tm) o=some true) (h:OpDoes P o (rd s.tm) s.objs v objs') (hp:isPan v=false) (ht:setD nt s.tm o.dst v=some tm)
  (k:RunOps P nt m ro' ops l ⟨tm,objs',s.dl⟩ K):RunOps P nt m ro' ops (o :: l) s K:=by
 intro D0 β0 o0 w0 hb0 ro Q a w i hro hl hK hs;have hi:ops[i]?=some o:=by have:=hl 0 (by simp);simpa using this
 have hl':∀ k:Nat,k<l.length->ops[i+1+k]?=l[k]?:=fun k hk=>by
  have:=hl (k+1) (by simp;omega);rw [show i+1+k=i+(k+1) by omega];simpa using this
 obtain⟨D,β,h1,h2,h3⟩:=hs;simp only [List.length_cons,List.range'_succ,wpOpsIn,hi];rw [guard_ok (fun x=>h2.rd x) hg];simp only [if_true];refine h ro D β a w _ Q h1.heap (fun x=>h2.rd x) (fun u w' D' β' hst hrep=>?_) (fun y u w' D' β' hy hst hrep=>by subst hy;cases hp);exact k D0 β0 o0 w0 hb0 ro Q _ _ (i+1) hro hl' hK (Sim.put h1 h2 h3 hst hrep ht)
theorem RunOps.skip {tm:PT AV} (hg:guardA ops (rd s.tm) o=some false) (ht:setD nt s.tm o.dst (.tup [])=some tm) (k:RunOps P nt m ro' ops l ⟨tm,s.objs,s.dl⟩ K):RunOps P nt m ro' ops (o :: l) s K:=by
 intro D0 β0 o0 w0 hb0 ro Q a w i hro hl hK hs;have hi:ops[i]?=some o:=by have:=hl 0 (by simp);simpa using this
 have hl':∀ k:Nat,k<l.length->ops[i+1+k]?=l[k]?:=fun k hk=>by
  have:=hl (k+1) (by simp;omega);rw [show i+1+k=i+(k+1) by omega];simpa using this
 obtain⟨D,β,h1,h2,h3⟩:=hs;simp only [List.length_cons,List.range'_succ,wpOpsIn,hi];rw [guard_ok (fun x=>h2.rd x) hg];simp only [Bool.false_eq_true,if_false];refine⟨fun _ _=>trivial,?_⟩;exact k D0 β0 o0 w0 hb0 ro Q _ _ (i+1) hro hl' hK (Sim.put h1 h2 h3 (Step.refl h1.heap) (.tup rfl (fun j c v hc _=>by simp at hc)) ht)
theorem RunOps.guard {b:Bool} (hg:guardA ops (rd s.tm) o=some b) (h1:b=true->guardA ops (rd s.tm) o=some true->RunOps P nt m ro' ops (o :: l) s K)
  (h2:b=false->guardA ops (rd s.tm) o=some false->RunOps P nt m ro' ops (o :: l) s K):RunOps P nt m ro' ops (o :: l) s K:=by
 cases b with
 |true=>exact h1 rfl hg
 |false=>exact h2 rfl hg
def allQ (q:AV->Bool):List (Nat × AV)->Prop
 |[]=>True
 |(_,v) :: r=>q v=true/\allQ q r
theorem ptAll_single {α:Type} {p:α->Bool} {v:α} (hv:p v=true):∀ (f n:Nat),ptAll p (PT.single v f n)=true
 |0,n=>rfl
 |f+1,n=>by
  rw [PT.single_succ];cases Nat.beq n 0 with
  |true=>simp [ptAll,hv]
  |false=>cases Nat.beq (n % 2) 1 with
   |true=>simp [ptAll,ptAll_single hv f _]
   |false=>simp [ptAll,ptAll_single hv f _]
theorem ptAll_set {α:Type} {p:α->Bool} {v:α} (hv:p v=true):∀ {t:PT α} {n:Nat},ptAll p t=true->ptAll p (t.set n v)=true
 |.nil,n,_=>ptAll_single hv 64 n
 |.node l u r,n,h=>by
  simp only [ptAll,Bool.and_eq_true] at h;rw [PT.set_node];cases Nat.beq n 0 with
  |true=>simp [ptAll,hv,h.1.1,h.2]
  |false=>cases Nat.beq (n % 2) 1 with
   |true=>simp only [ptAll,Bool.and_eq_true];exact⟨⟨ptAll_set hv h.1.1,h.1.2⟩,h.2⟩
   |false=>simp only [ptAll,Bool.and_eq_true];exact⟨⟨h.1.1,h.1.2⟩,ptAll_set hv h.2⟩
theorem ptAll_ofList {q:AV->Bool}:∀ {l:List (Nat × AV)},allQ q l->ptAll q (PT.ofList l)=true
 |[],_=>rfl
 |(_,_) :: _,h=>ptAll_set h.1 (ptAll_ofList h.2)
theorem RunOps.op (hE:EnvOK P E) {v:AV} {ob:Option (List Ob)} {fl:Bool} {tm:PT AV} (hg:guardA ops (rd s.tm) o=some true) (hv:evAny E H0 frz (rd s.tm) s.objs o=some (v,ob,fl)) (hf:fl=true)
  (hp:isPan v=false) (ht:setD nt s.tm o.dst v=some tm) (k:RunOps P nt m ro' ops l ⟨tm,ob.getD s.objs,s.dl⟩ K):RunOps P nt m ro' ops (o :: l) s K:=by
 subst hf;exact RunOps.does hg (way_does hE H0_ok (way_of hv)) hp ht k
theorem call_does {rd:Operand->AV} {g:FuncId} {args:List AV} {objs objs':List Ob} {r:AV} (h:callOf rd o.op=some (g,args)) (hA:ACall P g args objs r objs'):OpDoes P o rd objs r objs':=by
 unfold callOf at h;split at h
 .rename_i f as ts ho
  split at h
  .rename_i g' x y hx
   simp only [Option.some.injEq,Prod.mk.injEq] at h;obtain⟨rfl,rfl⟩:=h;exact does_call ho (fun D β v hv=>fn_rep (by rw [hx] at hv;exact hv)) hA
  .rename_i g' x y hx
   simp only [Option.some.injEq,Prod.mk.injEq] at h;obtain⟨rfl,rfl⟩:=h;exact does_call ho (fun D β v hv=>fnA_rep (by rw [hx] at hv;exact hv)) hA
  .cases h
 .cases h
theorem RunOps.call {g:FuncId} {args:List AV} {r:AV} {objs':List Ob} {tm:PT AV} (hg:guardA ops (rd s.tm) o=some true) (hc:callOf (rd s.tm) o.op=some (g,args)) (hA:ACall P g args s.objs r objs')
  (hp:isPan r=false) (ht:setD nt s.tm o.dst r=some tm) (k:RunOps P nt m ro' ops l ⟨tm,objs',s.dl⟩ K):RunOps P nt m ro' ops (o :: l) s K :=
 RunOps.does hg (call_does hc hA) hp ht k
def EvD (P:Program) (E:PT Ty) (frz:List Nat) (nt:Nat) (ops:Array Oper) (s0:S) (i:Nat) (acc:List Eff) (l:List Oper) (s:S) (G:S->Prop):Prop :=
 ∃ (H:Nat->Hd) (es:List Eff) (s':S),(∀ j,HOK P (H j))/\evOps E H frz nt ops never never i l s=some (es,s')/\(∀ H',drawOK E H' frz nt ops never never s0 (acc++es)=true)/\G s'
theorem evOps_congrH {H H':Nat->Hd}:∀ {l:List Oper} {i:Nat} {s:S},(∀ j,i<=j->H j=H' j)->evOps E H frz nt ops never never i l s=evOps E H' frz nt ops never never i l s
 |[],_,_,_=>rfl
 |o :: l,i,s,h=>by
  have ih:∀ s,evOps E H frz nt ops never never (i+1) l s=evOps E H' frz nt ops never never (i+1) l s:=fun s=>evOps_congrH fun j hj=>h j (by omega);unfold evOps;simp only [ih,h i (Nat.le_refl _)]
theorem EvD.nil {s0:S} {i:Nat} {acc:List Eff} {G:S->Prop} (hd:∀ H',drawOK E H' frz nt ops never never s0 acc=true) (k:G s):EvD P E frz nt ops s0 i acc [] s G :=
 ⟨fun _=>H0,[],s,fun _=>H0_ok,rfl,by simpa using hd,k⟩
theorem EvD.any {H1:Hd} (h1:HOK P H1) {s0:S} {i:Nat} {acc:List Eff} {G:S->Prop} {v:AV} {ob:Option (List Ob)} {tm:PT AV} (hg:guardA ops (rd s.tm) o=some true) (hv:evAny E H1 frz (rd s.tm) s.objs o=some (v,ob,true))
  (hp:isPan v=false) (ht:setD nt s.tm o.dst v=some tm) (k:EvD P E frz nt ops s0 (i+1) (acc++[effOf (rd s.tm) s.objs o ob]) l ⟨tm,ob.getD s.objs,s.dl⟩ G):EvD P E frz nt ops s0 i acc (o :: l) s G:=by
 obtain⟨H,es,s',k1,k2,k3,k4⟩:=k;refine⟨fun j=>if j=i then H1 else H j,effOf (rd s.tm) s.objs o ob :: es,s',fun j=>?_,?_,fun H'=>by have:=k3 H';rw [List.append_assoc] at this;exact this,k4⟩
 .simp only;split
  .exact h1
  .exact k1 j
 .have hc:∀ s,evOps E (fun j=>if j=i then H1 else H j) frz nt ops never never (i+1) l s=evOps E H frz nt ops never never (i+1) l s:=fun s=>evOps_congrH fun j hj=>by show(if j=i then H1 else H j)=H j;rw [if_neg (by omega)]
  unfold evOps;simp only [never,hg,if_true,hv,hp,ht];rw [hc ⟨tm,ob.getD s.objs,s.dl⟩,k2]
theorem EvD.op {s0:S} {i:Nat} {acc:List Eff} {G:S->Prop} {v:AV} {ob:Option (List Ob)} {fl:Bool} {tm:PT AV} (hg:guardA ops (rd s.tm) o=some true) (hv:evAny E H0 frz (rd s.tm) s.objs o=some (v,ob,fl)) (hf:fl=true)
  (hp:isPan v=false) (ht:setD nt s.tm o.dst v=some tm) (k:EvD P E frz nt ops s0 (i+1) (acc++[effOf (rd s.tm) s.objs o ob]) l ⟨tm,ob.getD s.objs,s.dl⟩ G):EvD P E frz nt ops s0 i acc (o :: l) s G:=by
 subst hf;exact EvD.any H0_ok hg hv hp ht k
theorem EvD.skip {s0:S} {i:Nat} {acc:List Eff} {G:S->Prop} {tm:PT AV} (hg:guardA ops (rd s.tm) o=some false) (ht:setD nt s.tm o.dst (.tup [])=some tm) (k:EvD P E frz nt ops s0 (i+1) (acc++[.a none]) l ⟨tm,s.objs,s.dl⟩ G):EvD P E frz nt ops s0 i acc (o :: l) s G:=by
 obtain⟨H,es,s',k1,k2,k3,k4⟩:=k;refine⟨H,.a none :: es,s',k1,?_,fun H'=>by have:=k3 H';rw [List.append_assoc] at this;exact this,k4⟩;unfold evOps;simp only [never,hg,ht];rw [k2]
theorem EvD.guard {s0:S} {i:Nat} {acc:List Eff} {G:S->Prop} {b:Bool} (hg:guardA ops (rd s.tm) o=some b) (h1:b=true->guardA ops (rd s.tm) o=some true->EvD P E frz nt ops s0 i acc (o :: l) s G)
  (h2:b=false->guardA ops (rd s.tm) o=some false->EvD P E frz nt ops s0 i acc (o :: l) s G):EvD P E frz nt ops s0 i acc (o :: l) s G:=by
 cases b with
 |true=>exact h1 rfl hg
 |false=>exact h2 rfl hg
open Classical in
def oneH (g:FuncId) (args:List AV) (objs:List Ob) (r:AV) (ob:Option (List Ob)):Hd :=
 ⟨fun g' a' o'=>if g'=g/\a'=args/\(o'=objs\/ob=none) then some (r,ob) else none,fun _ _ _=>none,fun g' a' o'=>match ob with|some ob=>if g'=g/\a'=args/\o'=objs then some (r,ob) else none|none=>none,fun _ _ _ _=>none⟩
theorem oneH_call {g:FuncId} {args:List AV} {objs:List Ob} {r:AV} {ob:Option (List Ob)}:(oneH g args objs r ob).call g args objs=some (r,ob):=by simp [oneH]
theorem oneH_ok {g:FuncId} {args:List AV} {objs:List Ob} {r:AV} {ob:Option (List Ob)} (h1:∀ o',ob=some o'->ACall P g args objs r o') (h2:ob=none->∀ o,ACall P g args o r o):HOK P (oneH g args objs r ob):=by
 refine⟨fun g' a' o' r' ob' h=>?_,fun g' a' o' r' h o=>?_,fun _ _ _ _ _ h=>(by cases h),fun g' a' o' r' ob' h=>?_,fun _ _ _ _ _ _ h=>(by cases h)⟩
 .simp only [oneH] at h
  split at h
  .rename_i hc
   obtain⟨rfl,rfl,hc⟩:=hc;simp only [Option.some.injEq,Prod.mk.injEq] at h;obtain⟨rfl,rfl⟩:=h;rcases hc with rfl|hc
   .exact h1 _ rfl
   .cases hc
  .cases h
 .simp only [oneH] at h
  split at h
  .rename_i hc
   obtain⟨rfl,rfl,_⟩:=hc;simp only [Option.some.injEq,Prod.mk.injEq] at h;obtain⟨rfl,rfl⟩:=h;exact h2 rfl o
  .cases h
 .cases ob with
  |none=>cases h
  |some ob =>
   simp only [oneH] at h;split at h
   .rename_i hc
    obtain⟨rfl,rfl,rfl⟩:=hc;simp only [Option.some.injEq,Prod.mk.injEq] at h;obtain⟨rfl,rfl⟩:=h;exact .inl (h1 _ rfl)
   .cases h
theorem evAny_one {g:FuncId} {args:List AV} {r:AV} {ob:Option (List Ob)} {rd:Operand->AV} {objs:List Ob} (hc:callOf rd o.op=some (g,args)) (hh:hintO o.dst frz=false):evAny E (oneH g args objs r ob) frz rd objs o=some (r,ob,true):=by
 obtain⟨dst,op,ty,pos,after,guard⟩:=o;unfold callOf at hc;simp only at hc hh;split at hc
 .rename_i f as ts
  split at hc
  .rename_i g' x y hx
   simp only [Option.some.injEq,Prod.mk.injEq] at hc;obtain⟨rfl,rfl⟩:=hc;simp [evAny,hx,hh,oneH]
  .rename_i g' x y hx
   simp only [Option.some.injEq,Prod.mk.injEq] at hc;obtain⟨rfl,rfl⟩:=hc;simp [evAny,hx,oneH]
  .cases hc
 .cases hc
theorem EvD.call {s0:S} {i:Nat} {acc:List Eff} {G:S->Prop} {g:FuncId} {args:List AV} {r:AV} {tm:PT AV} (hg:guardA ops (rd s.tm) o=some true) (hc:callOf (rd s.tm) o.op=some (g,args)) (hh:hintO o.dst frz=false)
  (hA:∀ ob,ACall P g args ob r ob) (hp:isPan r=false) (ht:setD nt s.tm o.dst r=some tm) (k:EvD P E frz nt ops s0 (i+1) (acc++[effOf (rd s.tm) s.objs o none]) l ⟨tm,s.objs,s.dl⟩ G):EvD P E frz nt ops s0 i acc (o :: l) s G :=
 EvD.any (oneH_ok (objs:=s.objs) (ob:=none) (fun _ h=>by cases h) (fun _=>hA)) hg (evAny_one hc hh) hp ht k
theorem Yd (hE:EnvOK P E) (hm:P.follows .mixedOrders=true) {id:Nat} {ops:Array Oper} (h:EvD P E frz nt ops s 0 [] ops.toList s (fun s'=>K .normal s')):Run P nt m ro' (.region id ops true) s K :=
 fun _ _ _ _ _ _ Q a w _ hK hs=>by
  obtain⟨H,es,s',h1,h2,h3,h4⟩:=h;exact draw_sym hE h1 hm (hK _ _ h4) h2 (h3 H) hs
theorem RunOps.x (hE:EnvOK P E) {tm tm':PT AV} {objs objs':List Ob} {dl:List Dl} {v v':AV} {ob:Option (List Ob)} {fl:Bool} (hg:guardA ops (rd tm) o=some true) (hv:evAny E H0 frz (rd tm) objs o=some (v',ob,fl)) (hf:fl=true)
  (he:v'=v) (ho:ob.getD objs=objs') (hp:isPan v=false) (ht:setD nt tm o.dst v=some tm') (k:RunOps P nt m ro' ops l ⟨tm',objs',dl⟩ K):RunOps P nt m ro' ops (o :: l) ⟨tm,objs,dl⟩ K:=by
 subst he ho;exact RunOps.op hE hg hv hf hp ht k
theorem EvD.x {s0:S} {i:Nat} {acc:List Eff} {G:S->Prop} {tm tm':PT AV} {objs objs':List Ob} {dl:List Dl} {v v':AV} {ob:Option (List Ob)} {fl:Bool} (hg:guardA ops (rd tm) o=some true) (hv:evAny E H0 frz (rd tm) objs o=some (v',ob,fl)) (hf:fl=true)
  (he:v'=v) (ho:ob.getD objs=objs') (hp:isPan v=false) (ht:setD nt tm o.dst v=some tm') (k:EvD P E frz nt ops s0 (i+1) (acc++[effOf (rd tm) objs o ob]) l ⟨tm',objs',dl⟩ G):EvD P E frz nt ops s0 i acc (o :: l) ⟨tm,objs,dl⟩ G:=by
 subst he ho;exact EvD.op hg hv hf hp ht k
theorem RunOps.sx {tm tm':PT AV} {objs:List Ob} {dl:List Dl} (hg:guardA ops (rd tm) o=some false) (ht:setD nt tm o.dst (.tup [])=some tm') (k:RunOps P nt m ro' ops l ⟨tm',objs,dl⟩ K):RunOps P nt m ro' ops (o :: l) ⟨tm,objs,dl⟩ K:=RunOps.skip hg ht k
theorem EvD.sx {s0:S} {i:Nat} {acc:List Eff} {G:S->Prop} {tm tm':PT AV} {objs:List Ob} {dl:List Dl} (hg:guardA ops (rd tm) o=some false) (ht:setD nt tm o.dst (.tup [])=some tm') (k:EvD P E frz nt ops s0 (i+1) (acc++[.a none]) l ⟨tm',objs,dl⟩ G) :
  EvD P E frz nt ops s0 i acc (o :: l) ⟨tm,objs,dl⟩ G:=EvD.skip hg ht k
theorem RunOps.index (hE:EnvOK P E) {t:TypeId} {x ix:Operand} {e:TypeId} {yt ye:Ty} {sz:Nat} {es:List DV} {k:IntKind} {n:Int} {d:DV} {tm:PT AV} (hg:guardA ops (rd s.tm) o=some true) (ho:o.op=.indexAddr t x ix)
  (ht:E.get? t=some yt) (hd:yt.desc=.slice e) (he:E.get? e=some ye) (hz:Nat.beq ye.size sz=true) (hx:rd s.tm x=.d (.sl sz es)) (hi:rd s.tm ix=.d (.int k n)) (h0:0<=n) (hes:es[n.toNat]?=some d)
  (hs:setD nt s.tm o.dst (.d (.ep (cellsD d)))=some tm) (kk:RunOps P nt m ro' ops l ⟨tm,s.objs,s.dl⟩ K):RunOps P nt m ro' ops (o :: l) s K:=by
 have hlt:n.toNat<es.length:=(List.getElem?_eq_some_iff.1 hes).1;refine RunOps.op (frz:=[]) hE (v:=.d (.ep (cellsD d))) (ob:=none) (fl:=inB n es.length) hg ?_ ?_ rfl hs kk
 .obtain⟨desc,size,bytes,zero⟩:=yt
  subst hd;have:es.getD n.toNat .any=d:=by simp [List.getD_eq_getElem?_getD,hes]
  obtain⟨dst,op,ty,pos,after,guard⟩:=o;simp only at ho;subst ho;simp only [evAny,quiet,evOp,indexAddrR,ht,hi,he,hx,hz,if_true,Option.map_some,this]
 .simp [inB];omega
end
theorem calls_of_run {P:Program} {E:PT Ty} (hE:EnvOK P E) {f:FuncId} {i:FnI} (hF:FnAt P f i) {args:List AV} {objs:List Ob} {G:List Ob->AV->Prop} (hlen:args.length=i.np) (hle:Nat.ble i.np i.nt=true)
  (h:Run P i.nt objs.length none i.body ⟨initTm 0 args .nil,objs,[]⟩ (fun e s=>(match e with|.normal=>True|.ret=>True|_=>False)/\∃ objs' r,evLeave H0 s.dl none s.objs=some (none,objs')/\evResults E ⟨s.tm,objs',[]⟩ i.results=some r/\G objs' r)) :
  Enters P f/\∀ D β w vs,Heap D β objs w->Reps D β args vs->CallsIn (FW none) 0 P f vs w (fun e w'=>∃ objs' r,G objs' r/\EndOK D β objs w r objs' e w'):=by
 obtain⟨fn,h1,h2,h3,h4,h5⟩:=fnIs_of hF hle;have hle:=Nat.le_of_ble_eq_true hle;refine⟨enters_of h1 h5 h2,fun D β w vs hp hr=>?_⟩;refine callsIn_of_wp_marks (F:=FW none) h1 h2 trivial ?_;have hsz:(vs++Array.replicate (fn.ntmps-vs.size) undef).size=i.nt:=by simp [h3,hr.1];omega
 have sim0:Sim D β objs w i.nt ⟨initTm 0 args .nil,objs,[]⟩ { tmps:=vs++Array.replicate (fn.ntmps-vs.size) undef,defers:=[] } w:=by
  refine⟨D,β,Step.refl hp,initTm_ok args vs.toList 0 .nil _ (by simp [hr.1]) (fun j c v hc hv=>hr.2 j c v hc (by simpa using hv)) (by omega) (fun j v hv=>?_) ⟨hsz,fun t=>.d .any⟩,trivial⟩;have hv:vs[j]?=some v:=by simpa using hv
  rw [Nat.zero_add,Array.getElem?_append_left (Array.getElem?_eq_some_iff.1 hv).1];exact hv
 refine h D β objs w (by rw [hp.len];exact Nat.le_refl _) none _ _ _ rfl (fun e s hk=>?_) sim0;obtain⟨he,objs',r,hlv,hres,hG⟩:=hk;have fin:∀ (a:Act) w' D1 β1,Step D β objs w D1 β1 s.objs w'->TmOK D1 β1 i.nt s.tm a.tmps->DlOK D1 β1 s.dl a.defers->LeavesInM (FW none) 0 P fn a.tmps (fun e w'=>∃ objs' r,G objs' r/\EndOK D β objs w r objs' e w') a.defers .returning w':=by
  intro a w' D1 β1 q1 q2 q3;refine leave_ok H0_ok (D0:=D) (β0:=β) (o0:=objs) (w0:=w) (fun _ D2 β2 w2 st2 tm2=>?_) (fun x hx=>by cases hx) s.dl a.defers none .returning s.objs w' D1 β1 hlv q3 rfl q1 q2;obtain⟨v,hv,hrep⟩:=results_ok hE (s:=⟨s.tm,objs',[]⟩) (fn:=fn) st2.heap tm2 (by rw [h4];exact hres);exact⟨v,hv,objs',r,hG,.inl ⟨v,D2,β2,rfl,st2,hrep⟩⟩
 refine⟨fun a w' hp hs=>?_,fun x hx=>by subst hx;exact he.elim⟩;obtain⟨D1,β1,q1,q2,q3⟩:=hs;cases e with
 |normal=>exact fin a w' D1 β1 q1 q2 q3
 |ret=>exact fin a w' D1 β1 q1 q2 q3
 |_=>exact he.elim
theorem acall_of_run {P:Program} {E:PT Ty} (hE:EnvOK P E) {f:FuncId} {i:FnI} (hF:FnAt P f i) {args:List AV} {objs objs':List Ob} {r:AV} (hlen:args.length=i.np) (hle:Nat.ble i.np i.nt=true)
  (h:Run P i.nt objs.length none i.body ⟨initTm 0 args .nil,objs,[]⟩ (fun e s=>(match e with|.normal=>True|.ret=>True|_=>False)/\evLeave H0 s.dl none s.objs=some (none,objs')/\evResults E ⟨s.tm,objs',[]⟩ i.results=some r)) :
  ACall P f args objs r objs':=by
 obtain⟨g1,g2⟩:=calls_of_run (G:=fun o x=>o=objs'/\x=r) hE hF hlen hle (h.mono fun e s hk=>⟨hk.1,objs',r,hk.2.1,hk.2.2,rfl,rfl⟩);refine⟨g1,fun D β w vs hp hr=>(g2 D β w vs hp hr).mono fun e w' he=>?_⟩;obtain⟨_,_,⟨rfl,rfl⟩,he⟩:=he;exact he
theorem known_of_run {P:Program} {E:PT Ty} (hE:EnvOK P E) {f:FuncId} {i:FnI} (hF:FnAt P f i) {ds:List DV} {r:AV} (hlen:(ds.map AV.d).length=i.np) (hle:Nat.ble i.np i.nt=true)
  (h:Run P i.nt 0 none i.body ⟨initTm 0 (ds.map .d) .nil,[],[]⟩ (fun e s=>(match e with|.normal=>True|.ret=>True|_=>False)/\∃ objs' r0,evLeave H0 s.dl none s.objs=some (none,objs')/\evResults E ⟨s.tm,objs',[]⟩ i.results=some r0/\closeA objs' 8 r0=some r)) :
  KnownCall P f ds r:=by
 obtain⟨g1,g2⟩:=calls_of_run (objs:=[]) (G:=fun o x=>closeA o 8 x=some r) hE hF hlen hle h;intro o;refine⟨g1,fun D β w vs hp hv=>(g2 D [] w vs hp.bare ⟨hv.1,fun j c v hc hw=>?_⟩).mono fun e w' he=>?_⟩
 .have:=hv.2 j c v hc hw
  simp only [List.getElem?_map,Option.map_eq_some_iff] at hc;obtain⟨y,_,rfl⟩:=hc;cases this with
  |d h=>exact .d h
 .obtain⟨objs',r0,hr,⟨v,D',β',rfl,hs,hrep⟩|⟨x,v,D',β',rfl,rfl,hs,hrep⟩⟩:=he
  .exact .inl ⟨v,_,β,rfl,(hs.trans (frz_step hs.heap)).bare hp,closeA_ok hs.heap hr hrep β⟩
  .simp only [closeA,Option.some.injEq] at hr
   subst hr;exact .inr ⟨x,v,_,β,rfl,rfl,(hs.trans (frz_step hs.heap)).bare hp,(frz_step hs.heap).repD hrep⟩
def yieldOf (rd:Operand->AV):Op->Option (Nat × List AV)
 |.call { callee:=.value f,args,.. }=>match rd f with
  |.yl i=>some (i,args.toList.map rd)
  |_=>none
 |_=>none
section
variable {P:Program} {E:PT Ty} {frz:List Nat} {nt m:Nat} {ro':Option Nat} {K:Ex->S->Prop} {s:S} {ops:Array Oper} {l:List Oper} {o:Oper}
theorem yield_does {rd:Operand->AV} {i:Nat} {args:List AV} {objs objs':List Ob} {r:AV} (h:yieldOf rd o.op=some (i,args)) (hA:AYield P i args objs r objs'):OpDoes P o rd objs r objs':=by
 unfold yieldOf at h;split at h
 .rename_i f as ts ho
  split at h
  .rename_i j hf
   simp only [Option.some.injEq,Prod.mk.injEq] at h;obtain⟨rfl,rfl⟩:=h;exact does_yield ho hf hA
  .cases h
 .cases h
theorem RunOps.yield {i:Nat} {args:List AV} {r:AV} {objs':List Ob} {tm:PT AV} (hg:guardA ops (rd s.tm) o=some true) (hc:yieldOf (rd s.tm) o.op=some (i,args)) (hA:AYield P i args s.objs r objs')
  (hp:isPan r=false) (ht:setD nt s.tm o.dst r=some tm) (k:RunOps P nt m ro' ops l ⟨tm,objs',s.dl⟩ K):RunOps P nt m ro' ops (o :: l) s K :=
 RunOps.does hg (yield_does hc hA) hp ht k
theorem store_last {E:PT Ty} {t:TypeId} {y:Ty} (hy:E.get? t=some y) (o1:List Ob) (cs:List AV) {v:AV} (hk:knownA v=true) (hl:Nat.beq v.cells.length y.size=true) (hc:Nat.beq cs.length y.size=true) :
  storeR E t (.bp o1.length 0) v (o1++[.box cs])=some (.d .any,o1++[.box v.cells],true):=by
 have e1:=Nat.eq_of_beq_eq_true hl;have e2:=Nat.eq_of_beq_eq_true hc;have hget:(o1++[Ob.box cs])[o1.length]?=some (.box cs):=by simp
 have hset:(o1++[Ob.box cs]).set o1.length (.box (cs.take 0++v.cells++cs.drop (0+y.size)))=o1++[.box v.cells]:=by
  rw [List.set_append_right _ _ (Nat.le_refl _)];simp [<- e2]
 simp only [storeR,hy,hget,obCells,obPut,hk,hl,Nat.zero_add,e2,Nat.ble_eq_true_of_le (Nat.le_refl _),Bool.and_self,if_true,pureR];rw [Nat.zero_add] at hset;rw [hset]
theorem ayield_of_run {i:Nat} {args:List AV} {objs objs':List Ob} {r:AV} {tm:PT AV} {nt:Nat} {frz:List Nat} {ps:Array Tmp} {assign body:Code} {pend:Option Code}
  (ho:objs[i]?=some (.loop tm nt frz ps assign body .ready pend)) (hlen:args.length=ps.size) (hlt:ps.toList.all (fun t=>Nat.blt t nt)=true)
  (h:Run P nt objs.length (some i) assign ⟨setTms tm (ps.toList.zip args),objs,[]⟩ (fun e s1=>e=.normal/\∃ tm' nt' frz' ps' as' bd' pend',s1.objs[i]?=some (.loop tm' nt' frz' ps' as' bd' .ready pend') /\
   Run P nt objs.length (some i) body ⟨s1.tm,s1.objs.set i (.loop tm' nt' frz' ps' as' bd' .busy pend'),s1.dl⟩ (fun e s2=>∃ tm'' nt'' frz'' ps'' as'' bd'' st'' pend'',s2.objs[i]?=some (.loop tm'' nt'' frz'' ps'' as'' bd'' st'' pend'') /\
    match e with
    |.normal=>r=.d (.bool true)/\objs'=s2.objs.set i (.loop tm'' nt'' frz'' ps'' as'' bd'' .ready none)
    |.pan _=>False
    |e=>r=.d (.bool false)/\objs'=s2.objs.set i (.loop tm'' nt'' frz'' ps'' as'' bd'' .done (jumpOf e))))):AYield P i args objs r objs':=by
 intro D β w vs bi hp hb hr;simp only [List.all_eq_true] at hlt;have hlt:∀ t ∈ ps.toList,t<nt:=fun t ht=>by have:=hlt t ht;rw [Nat.blt_eq] at this;exact this
 obtain⟨lp,g1,g2,g3,g4,g5,g6,g7,g8⟩:=loop_set hp hb ho;refine⟨lp.fn,_,lp.assign,lp.body,run_yield g1 (by rw [g4,hr.1];exact hlen),roundIn_of_wpIn (F:=FW none) trivial ?_⟩;rw [g4,g5,g6];have hro:RoOK β (some i) (some bi.blk):=⟨bi,hb,rfl⟩
 have hm:β.length<=objs.length:=by rw [hp.len];exact Nat.le_refl _
 have sim0:Sim D β objs w nt ⟨setTms tm (ps.toList.zip args),objs,[]⟩ { tmps:=(ps.zip vs).foldl (fun tmps (t,a)=>tmps.setIfInBounds t a) lp.tmps,defers:=[] } w:=by
  refine⟨D,β,Step.refl hp,?_,trivial⟩;have:=setTms_ok ps.toList args vs.toList tm lp.tmps (by simp [hlen]) (by simp [hr.1]) hlt (fun j c v hc hv=>hr.2 j c v hc (by simpa using hv)) g7;have e:(ps.zip vs).foldl (fun tmps (t,a)=>tmps.setIfInBounds t a) lp.tmps=(ps.toList.zip vs.toList).foldl (fun tmps (t,a)=>tmps.setIfInBounds t a) lp.tmps:=by
   rw [<- Array.foldl_toList,Array.toList_zip]
  simp only [e];exact this
 refine h D β objs w hm (some bi.blk) _ _ _ hro (fun e s1 hk=>?_) sim0;obtain⟨rfl,tm',nt',frz',ps',as',bd',pend',ho1,hbody⟩:=hk;refine⟨fun a1 w1 _ hs1=>?_,fun x hx=>by cases hx⟩;obtain⟨D1,β1,q1,q2,q3⟩:=hs1;obtain⟨y1,hy1,hx1⟩:=q1.bext _ _ hb;obtain⟨lp1,k1,k2,k3,k4,k5,k6,k7,k8⟩:=loop_set q1.heap hy1 ho1;rw [hx1.1] at k1 k8;have hbeg:=run_beginRound (P:=P) k1 k2;refine⟨_,hbeg,?_⟩;have st1:=k8 .busy pend';have hlp1:({ lp1 with state:=.busy,pending:=pend' }:Loop)={ lp1 with state:=.busy }:=by rw [<- k3]
 rw [hlp1] at st1;refine hbody D β objs w hm (some bi.blk) _ _ _ hro (fun e s2 hk2=>?_) ⟨D1,β1,q1.trans st1,q2,q3⟩;obtain⟨tm'',nt'',frz'',ps'',as'',bd'',st'',pend'',ho2,hfin⟩:=hk2;refine⟨fun a2 w2 _ hs2=>?_,fun x hx=>by subst hx;exact hfin.elim⟩;obtain⟨D2,β2,t1,t2,t3⟩:=hs2;obtain⟨y2,hy2,hx2⟩:=t1.bext _ _ hb;obtain⟨lp2,m1,m2,m3,m4,m5,m6,m7,m8⟩:=loop_set t1.heap hy2 ho2;rw [hx2.1] at m1 m8;cases e with
 |normal =>
  obtain⟨rfl,rfl⟩:=hfin;exact⟨_,_,run_endRound none m1,.inl ⟨_,D2,β2,rfl,t1.trans (m8 .ready none),.d .bool⟩⟩
 |exit id =>
  obtain⟨rfl,rfl⟩:=hfin;exact⟨_,_,run_endRound (some (.exit id)) m1,.inl ⟨_,D2,β2,rfl,t1.trans (m8 .done (some (.exit id))),.d .bool⟩⟩
 |goto l =>
  obtain⟨rfl,rfl⟩:=hfin;exact⟨_,_,run_endRound (some (.goto l)) m1,.inl ⟨_,D2,β2,rfl,t1.trans (m8 .done (some (.goto l))),.d .bool⟩⟩
 |pan x=>exact hfin.elim
 |ret =>
  obtain⟨rfl,rfl⟩:=hfin;exact⟨_,_,run_endRound (some .ret) m1,.inl ⟨_,D2,β2,rfl,t1.trans (m8 .done (some .ret)),.d .bool⟩⟩
abbrev rangeObs (objs:List Ob) (tm:PT AV) (nt:Nat) (frz:List Nat) (ps:Array Tmp) (assign body:Code) (st:LoopState) (pend:Option Code):List Ob :=
 objs++[.raw (.deferred (some []))]++[.loop tm nt frz ps assign body st pend]
theorem Run.range (hE:EnvOK P E) (hm:P.follows .mixedOrders=true) {f:Operand} {g:FuncId} {a b:List DV} {ps:Array Tmp} {assign body:Code} {r:AV} {objs2:List Ob} {tm':PT AV} {nt':Nat} {frz':List Nat} {ps':Array Tmp} {as' bd':Code}
  {st:LoopState} {pend:Option Code} (hf:rd s.tm f=.d (.fn (.func g) a b))
  (hA:ACall P g (a.map .d++[.yl (s.objs.length+1)]++b.map .d) (rangeObs s.objs s.tm nt frz ps assign body .ready none) r objs2) (hp:isPan r=false)
  (h2:objs2[s.objs.length+1]?=some (.loop tm' nt' frz' ps' as' bd' st pend)) (hst:st≠.busy)
  (k:match pend with
   |none=>K .normal ⟨s.tm,objs2.set (s.objs.length+1) (.loop tm' nt' frz' ps' as' bd' .exhausted pend),.mark s.objs.length :: s.dl⟩
   |some .ret=>K .ret ⟨s.tm,objs2.set (s.objs.length+1) (.loop tm' nt' frz' ps' as' bd' .exhausted pend),.mark s.objs.length :: s.dl⟩
   |some (.exit id)=>K (.exit id) ⟨s.tm,objs2.set (s.objs.length+1) (.loop tm' nt' frz' ps' as' bd' .exhausted pend),.mark s.objs.length :: s.dl⟩
   |_=>False):Run P nt m none (.rangeFunc f ps assign body) s K:=by
 have hH:HOK P (oneH g (a.map .d++[.yl (s.objs.length+1)]++b.map .d) (rangeObs s.objs s.tm nt frz ps assign body .ready none) r (some objs2)) :=
  oneH_ok (fun o' e=>by cases e;exact hA) (fun e=>by cases e)
 have hcall:(oneH g (a.map .d++[.yl (s.objs.length+1)]++b.map .d) (rangeObs s.objs s.tm nt frz ps assign body .ready none) r (some objs2)).call g (a.map .d++[.yl (s.objs++[Ob.raw (.deferred (some []))]).length]++b.map .d)
   (s.objs++[.raw (.deferred (some []))]++[.loop s.tm nt frz ps assign body .ready none])=some (r,some objs2):=by
  have e:(s.objs++[Ob.raw (.deferred (some []))]).length=s.objs.length+1:=by simp
  rw [e];exact oneH_call
 have e1:(s.objs++[Ob.raw (.deferred (some []))]).length=s.objs.length+1:=by simp
 have hev:∀ x,evCode.jumpTo pend ⟨s.tm,objs2.set (s.objs.length+1) (.loop tm' nt' frz' ps' as' bd' .exhausted pend),.mark s.objs.length :: s.dl⟩=some x ->
   evCode E (oneH g (a.map .d++[.yl (s.objs.length+1)]++b.map .d) (rangeObs s.objs s.tm nt frz ps assign body .ready none) r (some objs2)) frz nt none 1 (.rangeFunc f ps assign body) s=some x:=by
  intro x hx;simp only [evCode,hf,evCode.rangeA,evCode.rangeB];rw [hcall];simp only [hp,e1,h2];cases st with
  |busy=>exact absurd rfl hst
  |_=>exact hx
 cases pend with
 |none=>exact Run.ev hE hm hH (hev _ rfl) k
 |some c=>cases c with
  |ret=>exact Run.ev hE hm hH (hev _ rfl) k
  |exit id=>exact Run.ev hE hm hH (hev _ rfl) k
  |_=>exact k.elim
end
def boolOp:Op->Bool
 |.binOp k _ _ _ _=>match k with
  |.eql|.neq|.lss|.leq|.gtr|.geq=>true
  |_=>false
 |.unOp .not _ _=>true
 |.lookup _ _ _ false=>true
 |.indexAddr _ _ _=>false
 |_=>false
section
variable {P:Program} {E:PT Ty} {frz:List Nat} {nt m:Nat} {ro':Option Nat} {K:Ex->S->Prop} {s:S} {ops:Array Oper} {l:List Oper} {o:Oper}
theorem Run.condT {c:Operand} {x y:Code} (hc:rd s.tm c=.d (.bool true)) (h1:Run P nt m ro' x s K):Run P nt m ro' (.cond c x y) s K:=Run.cond hc (fun _=>h1) (fun h=>by cases h)
theorem Run.condF {c:Operand} {x y:Code} (hc:rd s.tm c=.d (.bool false)) (h1:Run P nt m ro' y s K):Run P nt m ro' (.cond c x y) s K:=Run.cond hc (fun h=>by cases h) (fun _=>h1)
theorem RunOps.xb (hE:EnvOK P E) {tm tm1 tm0:PT AV} {objs objs':List Ob} {dl:List Dl} {b:Bool} {ob:Option (List Ob)} {fl:Bool} (hb:boolOp o.op=true) (hg:guardA ops (rd tm) o=some true)
  (hv:evAny E H0 frz (rd tm) objs o=some (.d (.bool b),ob,fl)) (hf:fl=true) (ho:ob.getD objs=objs') (ht1:setD nt tm o.dst (.d (.bool true))=some tm1) (ht0:setD nt tm o.dst (.d (.bool false))=some tm0)
  (k1:b=true->RunOps P nt m ro' ops l ⟨tm1,objs',dl⟩ K) (k0:b=false->RunOps P nt m ro' ops l ⟨tm0,objs',dl⟩ K):RunOps P nt m ro' ops (o :: l) ⟨tm,objs,dl⟩ K:=by
 cases b with
 |true=>exact RunOps.x hE hg hv hf rfl ho rfl ht1 (k1 rfl)
 |false=>exact RunOps.x hE hg hv hf rfl ho rfl ht0 (k0 rfl)
theorem EvD.xb {tm tm1 tm0:PT AV} {objs objs':List Ob} {dl:List Dl} {s0:S} {i:Nat} {acc:List Eff} {G:S->Prop} {b:Bool} {ob:Option (List Ob)} {fl:Bool} (hb:boolOp o.op=true) (hg:guardA ops (rd tm) o=some true)
  (hv:evAny E H0 frz (rd tm) objs o=some (.d (.bool b),ob,fl)) (hf:fl=true) (ho:ob.getD objs=objs') (ht1:setD nt tm o.dst (.d (.bool true))=some tm1) (ht0:setD nt tm o.dst (.d (.bool false))=some tm0)
  (k1:b=true->EvD P E frz nt ops s0 (i+1) (acc++[effOf (rd tm) objs o ob]) l ⟨tm1,objs',dl⟩ G) (k0:b=false->EvD P E frz nt ops s0 (i+1) (acc++[effOf (rd tm) objs o ob]) l ⟨tm0,objs',dl⟩ G):EvD P E frz nt ops s0 i acc (o :: l) ⟨tm,objs,dl⟩ G:=by
 cases b with
 |true=>exact EvD.x hg hv hf rfl ho rfl ht1 (k1 rfl)
 |false=>exact EvD.x hg hv hf rfl ho rfl ht0 (k0 rfl)
theorem RunOps.kc {tm tm':PT AV} {objs:List Ob} {dl:List Dl} {g:FuncId} {ds:List DV} {r:AV} (hK:KnownCall P g ds r) (hg:guardA ops (rd tm) o=some true) (hc:callOf (rd tm) o.op=some (g,ds.map .d))
  (hp:isPan r=false) (ht:setD nt tm o.dst r=some tm') (k:RunOps P nt m ro' ops l ⟨tm',objs,dl⟩ K):RunOps P nt m ro' ops (o :: l) ⟨tm,objs,dl⟩ K :=
 RunOps.call hg hc (hK objs) hp ht k
theorem RunOps.kb {tm tm1 tm0:PT AV} {objs:List Ob} {dl:List Dl} {g:FuncId} {ds:List DV} {b:Bool} (hK:KnownCall P g ds (.d (.bool b))) (hg:guardA ops (rd tm) o=some true) (hc:callOf (rd tm) o.op=some (g,ds.map .d))
  (ht1:setD nt tm o.dst (.d (.bool true))=some tm1) (ht0:setD nt tm o.dst (.d (.bool false))=some tm0)
  (k1:b=true->RunOps P nt m ro' ops l ⟨tm1,objs,dl⟩ K) (k0:b=false->RunOps P nt m ro' ops l ⟨tm0,objs,dl⟩ K):RunOps P nt m ro' ops (o :: l) ⟨tm,objs,dl⟩ K:=by
 cases b with
 |true=>exact RunOps.kc hK hg hc rfl ht1 (k1 rfl)
 |false=>exact RunOps.kc hK hg hc rfl ht0 (k0 rfl)
theorem EvD.kc {tm tm':PT AV} {objs:List Ob} {dl:List Dl} {s0:S} {i:Nat} {acc:List Eff} {G:S->Prop} {g:FuncId} {ds:List DV} {r:AV} (hK:KnownCall P g ds r) (hg:guardA ops (rd tm) o=some true) (hc:callOf (rd tm) o.op=some (g,ds.map .d)) (hh:hintO o.dst frz=false)
  (hp:isPan r=false) (ht:setD nt tm o.dst r=some tm') (k:EvD P E frz nt ops s0 (i+1) (acc++[effOf (rd tm) objs o none]) l ⟨tm',objs,dl⟩ G):EvD P E frz nt ops s0 i acc (o :: l) ⟨tm,objs,dl⟩ G :=
 EvD.call hg hc hh (fun o'=>hK o') hp ht k
theorem EvD.kb {tm tm1 tm0:PT AV} {objs:List Ob} {dl:List Dl} {s0:S} {i:Nat} {acc:List Eff} {G:S->Prop} {g:FuncId} {ds:List DV} {b:Bool} (hK:KnownCall P g ds (.d (.bool b))) (hg:guardA ops (rd tm) o=some true) (hc:callOf (rd tm) o.op=some (g,ds.map .d)) (hh:hintO o.dst frz=false)
  (ht1:setD nt tm o.dst (.d (.bool true))=some tm1) (ht0:setD nt tm o.dst (.d (.bool false))=some tm0)
  (k1:b=true->EvD P E frz nt ops s0 (i+1) (acc++[effOf (rd tm) objs o none]) l ⟨tm1,objs,dl⟩ G) (k0:b=false->EvD P E frz nt ops s0 (i+1) (acc++[effOf (rd tm) objs o none]) l ⟨tm0,objs,dl⟩ G):EvD P E frz nt ops s0 i acc (o :: l) ⟨tm,objs,dl⟩ G:=by
 cases b with
 |true=>exact EvD.kc hK hg hc hh rfl ht1 (k1 rfl)
 |false=>exact EvD.kc hK hg hc hh rfl ht0 (k0 rfl)
theorem RunOps.next (hE:EnvOK P E) {tm tm':PT AV} {objs objs':List Ob} {dl:List Dl} {x:Operand} {i pos r n:Nat} {str:List Nat} (hop:o.op=.next x true) (hx:rd tm x=.bp i 0) (hi:objs[i]?=some (.sit str pos)) (hlt:pos<str.length) (hd:decL str pos=(r,n))
  (hg:guardA ops (rd tm) o=some true) (ho:objs.set i (.sit str (pos+n))=objs') (ht:setD nt tm o.dst (.tup [.d (.bool true),.d (.int .i64 pos),.d (.int .i32 r)])=some tm') (k:RunOps P nt m ro' ops l ⟨tm',objs',dl⟩ K):RunOps P nt m ro' ops (o :: l) ⟨tm,objs,dl⟩ K:=by
 subst ho;have hb:Nat.blt pos str.length=true:=by rw [Nat.blt_eq];exact hlt
 refine RunOps.op (frz:=[]) hE (v:=.tup [.d (.bool true),.d (.int .i64 pos),.d (.int .i32 r)]) (ob:=some (objs.set i (.sit str (pos+n)))) (fl:=true) hg ?_ rfl rfl ht k;obtain⟨dst,op,ty,pos,after,guard⟩:=o;simp only at hop;subst hop;simp only [evAny,quiet,evOp,nextR,hx,hi,hb,hd,pureR]
 rfl
end
section
variable {E:PT Ty} {H:Hd} {frz:List Nat} {rd:Operand->AV} {objs:List Ob} {o:Oper}
theorem evAny_app {args:Array Operand} {tys:Array TypeId} {a b:Operand} {ts tx e:TypeId} {yts z:Ty} {i n sz szr szx k:Nat} {es ys:List DV} (hop:o.op=.call ⟨.builtin .append,args,tys⟩) (ha:args.toList=[a,b]) (ht:tys.toList=[ts,tx])
  (hv:hintV o.dst frz=false) (h1:E.get? ts=some yts) (h2:yts.desc=.slice e) (h3:E.get? e=some z) (h4:appSrc E z tx (rd b) objs=some (szx,ys)) (h5:(Nat.ble 1 z.size && Nat.ble 1 z.bytes)=true) (hk:z.size=k) (h6:szx=k\/ys=[])
  (h7:rd a=.sr i sz es) (h8:objs[i]?=some (.room n szr)) (h9:szr=k) (h10:sz=k) (h11:Nat.ble z.bytes 65536=true) (hn:n=es.length) (hlen:es.length+ys.length<=16777216) :
  evAny E H frz rd objs o=some (.sr i k (es++ys),some (objs.set i (.room (n+ys.length) k)),true):=by
 obtain⟨dst,op,ty,pos,after,guard⟩:=o;obtain⟨desc,size,bytes,zero⟩:=yts;simp only at hop h2 hv;subst hop h2 h9 h10 hk;have hb:∀ q:Nat,Nat.beq q q=true:=fun q=>Nat.beq_refl q;have hs:srcSz szx z.size ys=z.size:=by
  rcases h6 with rfl|rfl
  .cases ys<;>rfl
  .rfl
 have hm:Nat.ble ((es.length+ys.length)*z.bytes) 1099511627776=true:=Nat.ble_eq_true_of_le (Nat.le_trans (Nat.mul_le_mul hlen (Nat.le_of_ble_eq_true h11)) (by decide));subst hn;simp only [evAny,ha,ht,hv,appendR,h1,appSrc0,h3,h4,h5,hs,hb,h7,h8,hm,Bool.and_self,if_true,Option.map_some]
theorem evAny_app0 {args:Array Operand} {tys:Array TypeId} {a b:Operand} {ts tx e:TypeId} {yts z:Ty} {szx k:Nat} {ys:List DV} (hop:o.op=.call ⟨.builtin .append,args,tys⟩) (ha:args.toList=[a,b]) (ht:tys.toList=[ts,tx])
  (hv:hintV o.dst frz=false) (h1:E.get? ts=some yts) (h2:yts.desc=.slice e) (h3:E.get? e=some z) (h4:appSrc E z tx (rd b) objs=some (szx,ys)) (h5:(Nat.ble 1 z.size && Nat.ble 1 z.bytes)=true) (hk:z.size=k) (h6:szx=k\/ys=[])
  (h7:rd a=.d .nilsl) (h11:Nat.ble z.bytes 65536=true) (hlen:ys.length<=16777216) :
  evAny E H frz rd objs o=some (.sr objs.length k ys,some (objs++[.room ys.length k]),true):=by
 obtain⟨dst,op,ty,pos,after,guard⟩:=o;obtain⟨desc,size,bytes,zero⟩:=yts;simp only at hop h2 hv;subst hop h2 hk;have hb:∀ q:Nat,Nat.beq q q=true:=fun q=>Nat.beq_refl q;have hs:srcSz szx z.size ys=z.size:=by
  rcases h6 with rfl|rfl
  .cases ys<;>rfl
  .rfl
 have hm:Nat.ble (ys.length*z.bytes) 1099511627776=true:=Nat.ble_eq_true_of_le (Nat.le_trans (Nat.mul_le_mul hlen (Nat.le_of_ble_eq_true h11)) (by decide));simp only [evAny,ha,ht,hv,appendR,h1,appSrc0,h3,h4,h5,hs,hb,h7,hm,Bool.and_self,if_true,Option.map_some]
end
def asData:AV->AV
 |.sr _ sz es=>.d (.sl sz es)
 |.agg vs=>match allD (vs.map fun v=>match v with|.sr _ sz es=>.d (.sl sz es)|v=>v) with
  |some ds=>.d (.agg ds)
  |none=>.agg vs
 |v=>v
def allTidy (tm:PT AV):List (Nat × AV)->Prop
 |[]=>True
 |(t,v) :: r=>(tm.get? t=some v\/(tm.get? t).map asData=some v)/\allTidy tm r
theorem allTidy_mem {tm:PT AV}:∀ {l:List (Nat × AV)},allTidy tm l->∀ {t:Nat} {v:AV},(t,v) ∈ l->tm.get? t=some v\/(tm.get? t).map asData=some v
 |[],_,t,v,h=>by cases h
 |(n,u) :: r,ha,t,v,h=>by
  rcases List.mem_cons.1 h with e|h
  .cases e;exact ha.1
  .exact allTidy_mem ha.2 h
theorem sr_data {D:DMap} {β:List Bi} {i sz:Nat} {es:List DV} {x:Value} (h:RepA D β (.sr i sz es) x):RepA D β (.d (.sl sz es)) x:=by
 cases h with
 |sr h hh hd=>exact .d hd
theorem asData_ok {D:DMap} {β:List Bi} {v:AV} {x:Value} (h:RepA D β v x):RepA D β (asData v) x:=by
 unfold asData;split
 .exact sr_data h
 .rename_i vs
  split
  .rename_i ds hds
   cases h with
   |agg h h1 hr =>
    have hm:=allD_some hds;have hl:vs.length=ds.length:=by have:=congrArg List.length hm;simpa using this
    refine .d (.agg (by rw [h,hl]) h1 fun j c v hc hv=>?_);have hjv:(vs.map fun v=>match v with|.sr _ sz es=>AV.d (.sl sz es)|v=>v)[j]?=some (.d c):=by rw [hm];simp [hc]
    rw [List.getElem?_map] at hjv;cases hj:vs[j]? with
    |none=>rw [hj] at hjv;cases hjv
    |some y =>
     rw [hj] at hjv;have hy:=hr j y v hj hv;simp only [Option.map_some,Option.some.injEq] at hjv;have:RepA D β (.d c) v:=by
      rw [<- hjv];split
      .exact sr_data hy
      .exact hy
     cases this with
     |d h=>exact h
  .exact h
 .exact h
theorem Sim.tidy {nt:Nat} {D0:DMap} {β0:List Bi} {o0:List Ob} {w0:World} {s s':S} {a:Act} {w:World} (ho:s'.objs=s.objs) (hd:s'.dl=s.dl) (hw:∀ t v,s'.tm.get? t=some v->s.tm.get? t=some v\/(s.tm.get? t).map asData=some v)
  (h:Sim D0 β0 o0 w0 nt s a w):Sim D0 β0 o0 w0 nt s' a w:=by
 obtain⟨D,β,h1,h2,h3⟩:=h;refine⟨D,β,by rw [ho];exact h1,⟨h2.1,fun t=>?_⟩,by rw [hd];exact h3⟩;cases ht:s'.tm.get? t with
 |none=>exact .d .any
 |some v =>
  have:=h2.2 t;rcases hw t v ht with e|e
  .rw [e] at this;exact this
  .cases hs:s.tm.get? t with
   |none=>rw [hs] at e;cases e
   |some u =>
    rw [hs] at e this;simp only [Option.map_some,Option.some.injEq] at e;subst e;exact asData_ok this
def Tidy (m:Nat) (s s':S):Prop:=∃ (l:List (Nat × AV)) (n:Nat),m<=n/\refS n ⟨PT.ofList l,s.objs,s.dl⟩=true/\allTidy s.tm l/\s'=⟨PT.ofList l,s.objs.take n,s.dl⟩
theorem Sim.tidyL {nt:Nat} {D0:DMap} {β0:List Bi} {o0:List Ob} {w0:World} {s s':S} {a:Act} {w:World} {m:Nat} (hn:β0.length<=m) (hl:Tidy m s s') (h:Sim D0 β0 o0 w0 nt s a w):Sim D0 β0 o0 w0 nt s' a w:=by
 obtain⟨l,n,h1,h2,h3,rfl⟩:=hl;exact(Sim.tidy (s:=s) (s':=⟨PT.ofList l,s.objs,s.dl⟩) rfl rfl (fun t v ht=>allTidy_mem h3 (ofList_get ht)) h).trunc (Nat.le_trans hn h1) h2
section
variable {P:Program} {frz:List Nat} {nt m:Nat} {ro':Option Nat} {K:Ex->S->Prop} {s:S} {ops:Array Oper} {l:List Oper}
theorem Run.tidy {c:Code} {s':S} (ht:Tidy m s s') (h:Run P nt m ro' c s' K):Run P nt m ro' c s K :=
 fun D0 β0 o0 w0 hb0 ro Q a w hro hK hs=>h D0 β0 o0 w0 hb0 ro Q a w hro hK (hs.tidyL hb0 ht)
theorem RunOps.tidy {s':S} (ht:Tidy m s s') (h:RunOps P nt m ro' ops l s' K):RunOps P nt m ro' ops l s K :=
 fun D0 β0 o0 w0 hb0 ro Q a w i hro hops hK hs=>h D0 β0 o0 w0 hb0 ro Q a w i hro hops hK (hs.tidyL hb0 ht)
theorem Run.loopT {α:Type} (St:α->S) (I:α->Prop) (mu:α->Nat) {b:Code} (x0:α) (h0:I x0) (hs0:Tidy m s (St x0))
  (h:∀ x,I x->Run P nt m ro' b (St x) (fun e s1=>match e with|.normal=>∃ x',I x'/\mu x'<mu x/\Tidy m s1 (St x')|e=>K e s1)):Run P nt m ro' (.loop b) s K:=by
 intro D0 β0 o0 w0 hb0 ro Q a w hro hK hs;refine wpIn_loop_n (fun k a w=>∃ x,I x/\mu x=k/\Sim D0 β0 o0 w0 nt (St x) a w) (k:=mu x0) ⟨x0,h0,rfl,hs.tidyL hb0 hs0⟩ (fun k a w hJ=>?_);obtain⟨x,hx,hm,hs⟩:=hJ;refine h x hx D0 β0 o0 w0 hb0 ro _ a w hro (fun e s1 hk=>?_) hs;cases e with
 |normal =>
  obtain⟨x',h1,h2,h3⟩:=hk;exact⟨fun a w _ hs=>⟨mu x',by omega,x',h1,rfl,hs.tidyL hb0 h3⟩,fun x hx=>by cases hx⟩
 |_=>exact post_of (hK _ _ hk) (fun x a w hx h=>by cases x<;>first|exact absurd rfl hx|exact h) (by simp)
theorem tidy_of {tm:PT AV} {objs objs':List Ob} {dl:List Dl} {k:Nat} (l:List (Nat × AV)) (n:Nat) (ho:objs.take n=objs') (hn:Nat.ble k n=true) (h:allTidy tm l) (hl:allQ (refA 8 n) l) (hr:objs'.all (refOb n)=true) (hd:dl.all (refDl n)=true) :
  Tidy k ⟨tm,objs,dl⟩ ⟨PT.ofList l,objs',dl⟩:=by
 subst ho;exact⟨l,n,Nat.le_of_ble_eq_true hn,by simp only [refS,ptAll_ofList hl,hr,hd,Bool.and_self],h,rfl⟩
end
inductive DvTo:DV->DV->Prop
 |refl {x:DV}:DvTo x x
 |nil {sz:Nat}:DvTo .nilsl (.sl sz [])
 |agg {xs ys:List DV} (hl:xs.length=ys.length) (h:∀ (j:Nat) x y,xs[j]?=some x->ys[j]?=some y->DvTo x y):DvTo (.agg xs) (.agg ys)
theorem DvTo.rep {D:DMap} {x y:DV} (h:DvTo x y):∀ {v:Value},RepD D x v->RepD D y v:=by
 induction h with
 |refl=>exact fun h=>h
 |nil =>
  intro v h;cases h;exact .sl (sz:=_) (es:=[]) (a:=none) (cap:=0) [] (by simp) (by decide) (fun e he=>by cases he) (fun _=>⟨rfl,rfl⟩) rfl (fun ad h=>by cases h) (fun j c v hc=>by simp [flatD] at hc)
 |agg hl _ ih =>
  intro v h;cases h with
  |agg h h1 hr =>
   refine .agg (by rw [h,hl]) h1 fun j c v hc hv=>?_;have hj:=(List.getElem?_eq_some_iff.1 hc).1;rw [<- hl] at hj;exact ih j _ c (List.getElem?_eq_getElem hj) hc (hr j _ v (List.getElem?_eq_getElem hj) hv)
inductive AvTo:AV->AV->Prop
 |d {x y:DV} (h:DvTo x y):AvTo (.d x) (.d y)
 |tup2 {a b c d:DV} (h:DvTo a c) (h':DvTo b d):AvTo (.tup [.d a,.d b]) (.tup [.d c,.d d])
 |refl {x:AV}:AvTo x x
theorem AvTo.rep {D:DMap} {β:List Bi} {x y:AV} (h:AvTo x y) {v:Value} (hr:RepA D β x v):RepA D β y v:=by
 cases h with
 |d h=>cases hr with
  |d k=>exact .d (h.rep k)
 |refl=>exact hr
 |tup2 h h' =>
  cases hr with
  |tup hs hr =>
   refine .tup (by simpa using hs) fun j c v hc hv=>?_;rcases j with _|_|j
   .simp at hc;subst hc
    have:=hr 0 (.d _) v rfl hv;cases this with
    |d k=>exact .d (h.rep k)
   .simp at hc;subst hc
    have:=hr 1 (.d _) v rfl hv;cases this with
    |d k=>exact .d (h'.rep k)
   .simp at hc
theorem AvTo.pan {x:DV} {y:AV} (h:AvTo (.pan x) y):y=.pan x:=by cases h;rfl
theorem known_of_run2 {P:Program} {E:PT Ty} (hE:EnvOK P E) {f:FuncId} {i:FnI} (hF:FnAt P f i) {ds:List DV} {r:AV} (hlen:(ds.map AV.d).length=i.np) (hle:Nat.ble i.np i.nt=true)
  (h:Run P i.nt 0 none i.body ⟨initTm 0 (ds.map .d) .nil,[],[]⟩ (fun e s=>(match e with|.normal=>True|.ret=>True|_=>False)/\∃ objs' r0 r1,evLeave H0 s.dl none s.objs=some (none,objs')/\evResults E ⟨s.tm,objs',[]⟩ i.results=some r0/\closeA objs' 8 r0=some r1/\AvTo r1 r)) :
  KnownCall P f ds r:=by
 obtain⟨g1,g2⟩:=calls_of_run (objs:=[]) (G:=fun o x=>∃ r1,closeA o 8 x=some r1/\AvTo r1 r) hE hF hlen hle (h.mono fun e s hk=>by
  obtain⟨k1,o1,r0,r1,k2,k3,k4,k5⟩:=hk;exact⟨k1,o1,r0,k2,k3,r1,k4,k5⟩)
 intro o;refine⟨g1,fun D β w vs hp hv=>(g2 D [] w vs hp.bare ⟨hv.1,fun j c v hc hw=>?_⟩).mono fun e w' he=>?_⟩
 .have:=hv.2 j c v hc hw
  simp only [List.getElem?_map,Option.map_eq_some_iff] at hc;obtain⟨y,_,rfl⟩:=hc;cases this with
  |d h=>exact .d h
 .obtain⟨objs',r0,⟨r1,hr,hto⟩,⟨v,D',β',rfl,hs,hrep⟩|⟨x,v,D',β',rfl,rfl,hs,hrep⟩⟩:=he
  .exact .inl ⟨v,_,β,rfl,(hs.trans (frz_step hs.heap)).bare hp,hto.rep (closeA_ok hs.heap hr hrep β)⟩
  .simp only [closeA,Option.some.injEq] at hr
   subst hr;exact .inr ⟨x,v,_,β,hto.pan,rfl,(hs.trans (frz_step hs.heap)).bare hp,(frz_step hs.heap).repD hrep⟩
section
variable {P:Program} {E:PT Ty} {frz:List Nat} {nt m:Nat} {ro':Option Nat} {K:Ex->S->Prop} {ops:Array Oper} {l:List Oper} {o:Oper} {tm tm' tm1 tm0:PT AV} {objs objs':List Ob} {dl:List Dl} {b:Bool} {ob:Option (List Ob)} {fl:Bool} {s s0:S} {i:Nat} {acc:List Eff} {G:S->Prop} {g:FuncId} {ds:List DV} {r:AV}
theorem eX {v v':AV} (k:EvD P E frz nt ops s0 (i+1) (acc++[effOf (rd tm) objs o ob]) l ⟨tm',objs',dl⟩ G) (hg:guardA ops (rd tm) o=some true:=by rfl) (hv:evAny E H0 frz (rd tm) objs o=some (v',ob,fl):=by rfl) (hf:fl=true:=by rfl)
  (he:v'=v:=by first|(conv=>lhs;dsimp only)|rfl) (ho:ob.getD objs=objs':=by first|(conv=>lhs;dsimp only [Option.getD])|rfl) (hp:isPan v=false:=by rfl) (ht:setD nt tm o.dst v=some tm':=by rfl) :
  EvD P E frz nt ops s0 i acc (o :: l) ⟨tm,objs,dl⟩ G:=EvD.x hg hv hf he ho hp ht k
theorem eB (k1:b=true->EvD P E frz nt ops s0 (i+1) (acc++[effOf (rd tm) objs o ob]) l ⟨tm1,objs',dl⟩ G) (k0:b=false->EvD P E frz nt ops s0 (i+1) (acc++[effOf (rd tm) objs o ob]) l ⟨tm0,objs',dl⟩ G) (hb:boolOp o.op=true:=by rfl) (hg:guardA ops (rd tm) o=some true:=by rfl)
  (hv:evAny E H0 frz (rd tm) objs o=some (.d (.bool b),ob,fl):=by rfl) (hf:fl=true:=by rfl) (ho:ob.getD objs=objs':=by first|(conv=>lhs;dsimp only [Option.getD])|rfl) (ht1:setD nt tm o.dst (.d (.bool true))=some tm1:=by rfl) (ht0:setD nt tm o.dst (.d (.bool false))=some tm0:=by rfl) :
  EvD P E frz nt ops s0 i acc (o :: l) ⟨tm,objs,dl⟩ G:=EvD.xb hb hg hv hf ho ht1 ht0 k1 k0
theorem oS (k:RunOps P nt m ro' ops l ⟨tm',objs,dl⟩ K) (hg:guardA ops (rd tm) o=some false:=by rfl) (ht:setD nt tm o.dst (.tup [])=some tm':=by rfl):RunOps P nt m ro' ops (o :: l) ⟨tm,objs,dl⟩ K:=RunOps.sx hg ht k
theorem eS (k:EvD P E frz nt ops s0 (i+1) (acc++[.a none]) l ⟨tm',objs,dl⟩ G) (hg:guardA ops (rd tm) o=some false:=by rfl) (ht:setD nt tm o.dst (.tup [])=some tm':=by rfl):EvD P E frz nt ops s0 i acc (o :: l) ⟨tm,objs,dl⟩ G:=EvD.sx hg ht k
theorem eN (k:G s) (hd:∀ H',drawOK E H' frz nt ops never never s0 acc=true:=by intro _;kernel_rfl):EvD P E frz nt ops s0 i acc [] s G:=EvD.nil hd k
theorem cT {c:Operand} {x y:Code} (k:Run P nt m ro' x s K) (hc:rd s.tm c=.d (.bool true):=by rfl):Run P nt m ro' (.cond c x y) s K:=Run.condT hc k
theorem cF {c:Operand} {x y:Code} (k:Run P nt m ro' y s K) (hc:rd s.tm c=.d (.bool false):=by rfl):Run P nt m ro' (.cond c x y) s K:=Run.condF hc k
theorem oC (hK:KnownCall P g ds r) (k:RunOps P nt m ro' ops l ⟨tm',objs,dl⟩ K) (hg:guardA ops (rd tm) o=some true:=by rfl) (hc:callOf (rd tm) o.op=some (g,ds.map .d):=by rfl)
  (hp:isPan r=false:=by rfl) (ht:setD nt tm o.dst r=some tm':=by rfl):RunOps P nt m ro' ops (o :: l) ⟨tm,objs,dl⟩ K:=RunOps.kc hK hg hc hp ht k
theorem eC (hK:KnownCall P g ds r) (k:EvD P E frz nt ops s0 (i+1) (acc++[effOf (rd tm) objs o none]) l ⟨tm',objs,dl⟩ G) (hg:guardA ops (rd tm) o=some true:=by rfl) (hc:callOf (rd tm) o.op=some (g,ds.map .d):=by rfl) (hh:hintO o.dst frz=false:=by rfl)
  (hp:isPan r=false:=by rfl) (ht:setD nt tm o.dst r=some tm':=by rfl):EvD P E frz nt ops s0 i acc (o :: l) ⟨tm,objs,dl⟩ G:=EvD.kc hK hg hc hh hp ht k
theorem oK (hK:KnownCall P g ds (.d (.bool b))) (k1:b=true->RunOps P nt m ro' ops l ⟨tm1,objs,dl⟩ K) (k0:b=false->RunOps P nt m ro' ops l ⟨tm0,objs,dl⟩ K) (hg:guardA ops (rd tm) o=some true:=by rfl) (hc:callOf (rd tm) o.op=some (g,ds.map .d):=by rfl)
  (ht1:setD nt tm o.dst (.d (.bool true))=some tm1:=by rfl) (ht0:setD nt tm o.dst (.d (.bool false))=some tm0:=by rfl):RunOps P nt m ro' ops (o :: l) ⟨tm,objs,dl⟩ K:=RunOps.kb hK hg hc ht1 ht0 k1 k0
theorem eK (hK:KnownCall P g ds (.d (.bool b))) (k1:b=true->EvD P E frz nt ops s0 (i+1) (acc++[effOf (rd tm) objs o none]) l ⟨tm1,objs,dl⟩ G) (k0:b=false->EvD P E frz nt ops s0 (i+1) (acc++[effOf (rd tm) objs o none]) l ⟨tm0,objs,dl⟩ G) (hg:guardA ops (rd tm) o=some true:=by rfl)
  (hc:callOf (rd tm) o.op=some (g,ds.map .d):=by rfl) (hh:hintO o.dst frz=false:=by rfl) (ht1:setD nt tm o.dst (.d (.bool true))=some tm1:=by rfl) (ht0:setD nt tm o.dst (.d (.bool false))=some tm0:=by rfl) :
  EvD P E frz nt ops s0 i acc (o :: l) ⟨tm,objs,dl⟩ G:=EvD.kb hK hg hc hh ht1 ht0 k1 k0
abbrev EndK (E:PT Ty) (rv:Array ResultVar) (r:AV):Ex->S->Prop:=fun e s=>(match e with|.normal=>True|.ret=>True|_=>False)/\∃ objs' r0,evLeave H0 s.dl none s.objs=some (none,objs')/\evResults E ⟨s.tm,objs',[]⟩ rv=some r0/\closeA objs' 8 r0=some r
variable {rv:Array ResultVar} {r0:AV}
theorem rD (r':AV) (k:r'=r) (h1:evLeave H0 s.dl none s.objs=some (none,objs'):=by rfl) (h2:evResults E ⟨s.tm,objs',[]⟩ rv=some r0:=by rfl) (h3:closeA objs' 8 r0=some r':=by rfl):EndK E rv r .ret s :=
 ⟨trivial,_,_,h1,h2,by rw [h3,k]⟩
theorem rB {x:Bool} (k:AV.d (.bool x)=r) (h1:evLeave H0 s.dl none s.objs=some (none,objs'):=by rfl) (h2:evResults E ⟨s.tm,objs',[]⟩ rv=some r0:=by rfl) (h3:closeA objs' 8 r0=some (.d (.bool x)):=by rfl):EndK E rv r .ret s:=rD _ k h1 h2 h3
theorem rI {x:IntKind} {y:Int} (k:AV.d (.int x y)=r) (h1:evLeave H0 s.dl none s.objs=some (none,objs'):=by rfl) (h2:evResults E ⟨s.tm,objs',[]⟩ rv=some r0:=by rfl) (h3:closeA objs' 8 r0=some (.d (.int x y)):=by rfl):EndK E rv r .ret s:=rD _ k h1 h2 h3
theorem rA {x:List DV} (k:AV.d (.agg x)=r) (h1:evLeave H0 s.dl none s.objs=some (none,objs'):=by rfl) (h2:evResults E ⟨s.tm,objs',[]⟩ rv=some r0:=by rfl) (h3:closeA objs' 8 r0=some (.d (.agg x)):=by rfl):EndK E rv r .ret s:=rD _ k h1 h2 h3
theorem rII {x x':IntKind} {y y':Int} (k:AV.tup [.d (.int x y),.d (.int x' y')]=r) (h1:evLeave H0 s.dl none s.objs=some (none,objs'):=by rfl) (h2:evResults E ⟨s.tm,objs',[]⟩ rv=some r0:=by rfl) (h3:closeA objs' 8 r0=some (.tup [.d (.int x y),.d (.int x' y')]):=by rfl):EndK E rv r .ret s:=rD _ k h1 h2 h3
theorem rSI {x':IntKind} {y:List Nat} {y':Int} (k:AV.tup [.d (.str y),.d (.int x' y')]=r) (h1:evLeave H0 s.dl none s.objs=some (none,objs'):=by rfl) (h2:evResults E ⟨s.tm,objs',[]⟩ rv=some r0:=by rfl) (h3:closeA objs' 8 r0=some (.tup [.d (.str y),.d (.int x' y')]):=by rfl):EndK E rv r .ret s:=rD _ k h1 h2 h3
theorem rT {x:List AV} (k:AV.tup x=r) (h1:evLeave H0 s.dl none s.objs=some (none,objs'):=by rfl) (h2:evResults E ⟨s.tm,objs',[]⟩ rv=some r0:=by rfl) (h3:closeA objs' 8 r0=some (.tup x):=by rfl):EndK E rv r .ret s:=rD _ k h1 h2 h3
theorem rS {x:DV} (k:AV.d x=r) (h1:evLeave H0 s.dl none s.objs=some (none,objs'):=by rfl) (h2:evResults E ⟨s.tm,objs',[]⟩ rv=some r0:=by rfl) (h3:closeA objs' 8 r0=some (.d x):=by rfl):EndK E rv r .ret s:=rD _ k h1 h2 h3
abbrev EndK2 (E:PT Ty) (rv:Array ResultVar) (r:AV):Ex->S->Prop:=fun e s=>(match e with|.normal=>True|.ret=>True|_=>False)/\∃ objs' r0 r1,evLeave H0 s.dl none s.objs=some (none,objs')/\evResults E ⟨s.tm,objs',[]⟩ rv=some r0/\closeA objs' 8 r0=some r1/\AvTo r1 r
theorem r2 {r1:AV} (k:AvTo r1 r) (h1:evLeave H0 s.dl none s.objs=some (none,objs'):=by rfl) (h2:evResults E ⟨s.tm,objs',[]⟩ rv=some r0:=by rfl) (h3:closeA objs' 8 r0=some r1:=by rfl):EndK2 E rv r .ret s :=
 ⟨trivial,_,_,_,h1,h2,h3,k⟩
theorem knownE (hE:EnvOK P E) {f:FuncId} {i:FnI} (hF:FnAt P f i) {ds:List DV} {r:AV} (h:Run P i.nt 0 none i.body ⟨initTm 0 (ds.map .d) .nil,[],[]⟩ (EndK E i.results r)) (hlen:(ds.map AV.d).length=i.np:=by rfl) (hle:Nat.ble i.np i.nt=true:=by rfl) :
  KnownCall P f ds r:=known_of_run hE hF hlen hle h
theorem knownE2 (hE:EnvOK P E) {f:FuncId} {i:FnI} (hF:FnAt P f i) {ds:List DV} {r:AV} (h:Run P i.nt 0 none i.body ⟨initTm 0 (ds.map .d) .nil,[],[]⟩ (EndK2 E i.results r)) (hlen:(ds.map AV.d).length=i.np:=by rfl) (hle:Nat.ble i.np i.nt=true:=by rfl) :
  KnownCall P f ds r:=known_of_run2 hE hF hlen hle h
theorem inc_get {t:Nat} {k:Nat} (h:tm.get? t=some (.d (.int .i64 (IntKind.i64.wrap ((k+1:Nat):Int))))) (hk:k+1<=1099511627776):tm.get? t=some (.d (.int .i64 ((k+1:Nat):Int))) :=
 h.trans (congrArg (fun n=>some (AV.d (.int .i64 n))) (wrap_nat hk))
end
section
variable {E:PT Ty} {H:Hd} {frz:List Nat} {rd:Operand->AV} {objs:List Ob} {o:Oper} {args:Array Operand} {tys:Array TypeId} {a b:Operand} {ts tx e:TypeId} {yts z:Ty} {i n sz szr szx k:Nat} {es ys:List DV}
theorem app1 (hop:o.op=.call ⟨.builtin .append,args,tys⟩:=by rfl) (ha:args.toList=[a,b]:=by rfl) (ht:tys.toList=[ts,tx]:=by rfl)
  (hv:hintV o.dst frz=false:=by rfl) (h1:E.get? ts=some yts:=by rfl) (h2:yts.desc=.slice e:=by rfl) (h3:E.get? e=some z:=by rfl) (h4:appSrc E z tx (rd b) objs=some (szx,ys):=by rfl) (h5:(Nat.ble 1 z.size && Nat.ble 1 z.bytes)=true:=by rfl) (hk:z.size=k:=by rfl)
  (h6:szx=k\/ys=[]:=by first|rfl|(exact Or.inl rfl)|(exact Or.inr rfl))
  (h7:rd a=.sr i sz es:=by rfl) (h8:objs[i]?=some (.room n szr):=by rfl) (h9:szr=k:=by rfl) (h10:sz=k:=by rfl) (h11:Nat.ble z.bytes 65536=true:=by rfl) (hn:n=es.length:=by first|rfl|(simp [chunk,cutL]<;>fail)|(simp [chunk,cutL];omega)) (hlen:es.length+ys.length<=16777216:=by first|(simp [chunk,cutL]<;>fail)|(simp [chunk,cutL];omega)) :
  evAny E H frz rd objs o=some (.sr i k (es++ys),some (objs.set i (.room (n+ys.length) k)),true):=evAny_app hop ha ht hv h1 h2 h3 h4 h5 hk h6 h7 h8 h9 h10 h11 hn hlen
theorem app0 (hop:o.op=.call ⟨.builtin .append,args,tys⟩:=by rfl) (ha:args.toList=[a,b]:=by rfl) (ht:tys.toList=[ts,tx]:=by rfl)
  (hv:hintV o.dst frz=false:=by rfl) (h1:E.get? ts=some yts:=by rfl) (h2:yts.desc=.slice e:=by rfl) (h3:E.get? e=some z:=by rfl) (h4:appSrc E z tx (rd b) objs=some (szx,ys):=by rfl) (h5:(Nat.ble 1 z.size && Nat.ble 1 z.bytes)=true:=by rfl) (hk:z.size=k:=by rfl)
  (h6:szx=k\/ys=[]:=by first|rfl|(exact Or.inl rfl)|(exact Or.inr rfl))
  (h7:rd a=.d .nilsl:=by rfl) (h11:Nat.ble z.bytes 65536=true:=by rfl) (hlen:ys.length<=16777216:=by first|(simp [chunk,cutL]<;>fail)|(simp [chunk,cutL];omega)) :
  evAny E H frz rd objs o=some (.sr objs.length k ys,some (objs++[.room ys.length k]),true):=evAny_app0 hop ha ht hv h1 h2 h3 h4 h5 hk h6 h7 h11 hlen
end
section
variable {P:Program} {E:PT Ty} {frz:List Nat} {nt m:Nat} {ro':Option Nat} {K:Ex->S->Prop} {ops:Array Oper} {l:List Oper} {o:Oper} {tm tm' tm1 tm0:PT AV} {objs:List Ob} {dl:List Dl} {b:Bool} {s0:S} {i:Nat} {acc:List Eff} {G:S->Prop} {g:FuncId} {ds:List DV} {args:List AV} {r:AV}
theorem oL (hK:KnownCall P g ds r) (k:RunOps P nt m ro' ops l ⟨tm',objs,dl⟩ K) (hg:guardA ops (rd tm) o=some true:=by rfl) (hc:callOf (rd tm) o.op=some (g,args):=by rfl) (hd:allM (dvOf objs 8) args=some ds:=by rfl) (hf:flatAV r=true:=by rfl)
  (hp:isPan r=false:=by rfl) (ht:setD nt tm o.dst r=some tm':=by rfl):RunOps P nt m ro' ops (o :: l) ⟨tm,objs,dl⟩ K:=RunOps.call hg hc (lent_call hd (hK []) hf) hp ht k
theorem eL (hK:KnownCall P g ds r) (k:EvD P E frz nt ops s0 (i+1) (acc++[effOf (rd tm) objs o (some objs)]) l ⟨tm',objs,dl⟩ G) (hg:guardA ops (rd tm) o=some true:=by rfl) (hc:callOf (rd tm) o.op=some (g,args):=by rfl)
  (hd:allM (dvOf objs 8) args=some ds:=by rfl) (hf:flatAV r=true:=by rfl) (hh:hintO o.dst frz=false:=by rfl) (hp:isPan r=false:=by rfl) (ht:setD nt tm o.dst r=some tm':=by rfl):EvD P E frz nt ops s0 i acc (o :: l) ⟨tm,objs,dl⟩ G :=
 EvD.any (oneH_ok (objs:=objs) (ob:=some objs) (fun o' h=>by cases h;exact lent_call hd (hK []) hf) (fun h=>by cases h)) hg (evAny_one hc hh) hp ht k
end
section
variable {P:Program} {E:PT Ty} {nt m:Nat} {ro':Option Nat} {K:Ex->S->Prop} {ops:Array Oper} {l:List Oper} {o:Oper} {tm tm1 tm0:PT AV} {objs:List Ob} {dl:List Dl}
end
theorem Run.mkRoom {P:Program} {nt m:Nat} {ro':Option Nat} {K:Ex->S->Prop} {c:Code} {tm:PT AV} {objs:List Ob} {dl:List Dl} (t sz:Nat) (l:List (Nat × AV)) (ht:tm.get? t=some (.d .nilsl)) (hl:∀ t' v,(PT.ofList l).get? t'=some v->(t'=t/\v=.sr objs.length sz [])\/tm.get? t'=some v)
  (h:Run P nt m ro' c ⟨PT.ofList l,objs++[.room 0 sz],dl⟩ K):Run P nt m ro' c ⟨tm,objs,dl⟩ K:=by
 intro D0 β0 o0 w0 hb0 ro Q a w hro hK hs;obtain⟨D,β,h1,h2,h3⟩:=hs;obtain⟨β2,st,hr2⟩:=room_full h1.heap (sz:=sz) (es:=[]) (A:=none) (.sl (es:=[]) [] (Nat.le_refl _) (Nat.zero_le _) (by simp) (fun _=>⟨rfl,rfl⟩) rfl (fun ad e=>by cases e) (by simp));refine h D0 β0 o0 w0 hb0 ro Q a w hro hK ⟨D,β2,h1.trans st,?_,h3.mono st.dsub st.bext⟩;have h2m:=h2.mono st.dsub st.bext;refine⟨h2.1,fun t'=>?_⟩;cases hv:(PT.ofList l).get? t' with
 |none=>exact .d .any
 |some v =>
  rcases hl t' v hv with⟨rfl,rfl⟩|ho
  .have:=h2.2 t'
   simp only at this;rw [ht] at this;cases this with
   |d this =>
    generalize a.tmps.getD t' undef=x at this |-;cases this;exact hr2
  .have:=h2m.2 t'
   simp only at this;rw [ho] at this;exact this
section
variable {P:Program} {E:PT Ty} {frz:List Nat} {nt m:Nat} {ro':Option Nat} {K:Ex->S->Prop} {ops:Array Oper} {l:List Oper} {o:Oper} {tm tm':PT AV} {objs objs':List Ob} {dl:List Dl} {s0:S} {i:Nat} {acc:List Eff} {G:S->Prop} {g:FuncId} {args:List AV} {r:AV}
theorem oA (hA:ACall P g args objs r objs') (k:RunOps P nt m ro' ops l ⟨tm',objs',dl⟩ K) (hg:guardA ops (rd tm) o=some true:=by rfl) (hc:callOf (rd tm) o.op=some (g,args):=by rfl)
  (hp:isPan r=false:=by rfl) (ht:setD nt tm o.dst r=some tm':=by rfl):RunOps P nt m ro' ops (o :: l) ⟨tm,objs,dl⟩ K:=RunOps.call hg hc hA hp ht k
theorem eA (hA:ACall P g args objs r objs') (k:EvD P E frz nt ops s0 (i+1) (acc++[effOf (rd tm) objs o (some objs')]) l ⟨tm',objs',dl⟩ G) (hg:guardA ops (rd tm) o=some true:=by rfl) (hc:callOf (rd tm) o.op=some (g,args):=by rfl)
  (hh:hintO o.dst frz=false:=by rfl) (hp:isPan r=false:=by rfl) (ht:setD nt tm o.dst r=some tm':=by rfl):EvD P E frz nt ops s0 i acc (o :: l) ⟨tm,objs,dl⟩ G :=
 EvD.any (oneH_ok (objs:=objs) (ob:=some objs') (fun o' h=>by cases h;exact hA) (fun h=>by cases h)) hg (evAny_one hc hh) hp ht k
end
def dvS:AV->Option DV
 |.d x=>some x
 |.sr _ sz es=>some (.sl sz es)
 |_=>none
theorem lent_data {P:Program} {f:FuncId} {args:List AV} {objs:List Ob} {ds:List DV} {r:AV} (hd:allM dvS args=some ds) (h:KnownCall P f ds r):ACall P f args objs r objs:=by
 refine⟨(h objs).1,fun D β w vs hp hv=>(h objs).2 D β w vs hp ?_⟩;obtain⟨l1,l2⟩:=allM_ok hd;refine⟨by rw [hv.1];simp [l1],fun j c v hc hv'=>?_⟩;simp only [List.getElem?_map,Option.map_eq_some_iff] at hc;obtain⟨d,hd',rfl⟩:=hc;obtain⟨x,hx,hfx⟩:=l2 j d hd';have hr:=hv.2 j x v hx hv';cases x<;>simp only [dvS,Option.some.injEq,reduceCtorEq] at hfx
 .subst hfx;exact hr
 .subst hfx;exact sr_data hr
section
variable {P:Program} {E:PT Ty} {frz:List Nat} {nt m:Nat} {ro':Option Nat} {K:Ex->S->Prop} {ops:Array Oper} {l:List Oper} {o:Oper} {tm tm':PT AV} {objs:List Ob} {dl:List Dl} {s0:S} {i:Nat} {acc:List Eff} {G:S->Prop} {g:FuncId} {ds:List DV} {args:List AV} {r:AV}
theorem oM (hK:KnownCall P g ds r) (k:RunOps P nt m ro' ops l ⟨tm',objs,dl⟩ K) (hg:guardA ops (rd tm) o=some true:=by rfl) (hc:callOf (rd tm) o.op=some (g,args):=by rfl) (hd:allM dvS args=some ds:=by rfl)
  (hp:isPan r=false:=by rfl) (ht:setD nt tm o.dst r=some tm':=by rfl):RunOps P nt m ro' ops (o :: l) ⟨tm,objs,dl⟩ K:=RunOps.call hg hc (lent_data hd hK) hp ht k
theorem eM (hK:KnownCall P g ds r) (k:EvD P E frz nt ops s0 (i+1) (acc++[effOf (rd tm) objs o (some objs)]) l ⟨tm',objs,dl⟩ G) (hg:guardA ops (rd tm) o=some true:=by rfl) (hc:callOf (rd tm) o.op=some (g,args):=by rfl)
  (hd:allM dvS args=some ds:=by rfl) (hh:hintO o.dst frz=false:=by rfl) (hp:isPan r=false:=by rfl) (ht:setD nt tm o.dst r=some tm':=by rfl):EvD P E frz nt ops s0 i acc (o :: l) ⟨tm,objs,dl⟩ G :=
 EvD.any (oneH_ok (objs:=objs) (ob:=some objs) (fun o' h=>by cases h;exact lent_data hd hK) (fun h=>by cases h)) hg (evAny_one hc hh) hp ht k
end
theorem Run.nilRow {P:Program} {nt m:Nat} {ro':Option Nat} {K:Ex->S->Prop} {c:Code} {tm:PT AV} {objs:List Ob} {dl:List Dl} (t sz:Nat) (l:List (Nat × AV)) (ht:tm.get? t=some (.d .nilsl)) (hl:∀ t' v,(PT.ofList l).get? t'=some v->(t'=t/\v=.d (.sl sz []))\/tm.get? t'=some v)
  (h:Run P nt m ro' c ⟨PT.ofList l,objs,dl⟩ K):Run P nt m ro' c ⟨tm,objs,dl⟩ K:=by
 intro D0 β0 o0 w0 hb0 ro Q a w hro hK hs;obtain⟨D,β,h1,h2,h3⟩:=hs;refine h D0 β0 o0 w0 hb0 ro Q a w hro hK ⟨D,β,h1,⟨h2.1,fun t'=>?_⟩,h3⟩;cases hv:(PT.ofList l).get? t' with
 |none=>exact .d .any
 |some v =>
  have h2t:=h2.2 t';simp only at h2t;rcases hl t' v hv with⟨rfl,rfl⟩|ho
  .rw [ht] at h2t
   cases h2t with
   |d h2t=>exact .d (DvTo.nil.rep h2t)
  .rw [ho] at h2t
   exact h2t
theorem RunOps.nilRow {P:Program} {nt m:Nat} {ro':Option Nat} {K:Ex->S->Prop} {ops:Array Oper} {lo:List Oper} {tm:PT AV} {objs:List Ob} {dl:List Dl} (t sz:Nat) (l:List (Nat × AV)) (ht:tm.get? t=some (.d .nilsl)) (hl:∀ t' v,(PT.ofList l).get? t'=some v->(t'=t/\v=.d (.sl sz []))\/tm.get? t'=some v)
  (h:RunOps P nt m ro' ops lo ⟨PT.ofList l,objs,dl⟩ K):RunOps P nt m ro' ops lo ⟨tm,objs,dl⟩ K:=by
 intro D0 β0 o0 w0 hb0 ro Q a w i hro hlo hK hs;obtain⟨D,β,h1,h2,h3⟩:=hs;refine h D0 β0 o0 w0 hb0 ro Q a w i hro hlo hK ⟨D,β,h1,⟨h2.1,fun t'=>?_⟩,h3⟩;cases hv:(PT.ofList l).get? t' with
 |none=>exact .d .any
 |some v =>
  have h2t:=h2.2 t';simp only at h2t;rcases hl t' v hv with⟨rfl,rfl⟩|ho
  .rw [ht] at h2t
   cases h2t with
   |d h2t=>exact .d (DvTo.nil.rep h2t)
  .rw [ho] at h2t
   exact h2t
theorem ofList_cases {l:List (Nat × AV)} {Q:Nat->AV->Prop} (h:∀ p ∈ l,Q p.1 p.2):∀ t v,(PT.ofList l).get? t=some v->Q t v:=fun t v hv=>h (t,v) (ofList_get hv)
def heapD (w:World):DMap:=fun ad=>match w.cell? ad with
 |some v=>if v.oneCell'=true/\ad.spot=none then some v else none
 |none=>none
theorem heapD_some {w:World} {ad:Addr} {v:Value}:heapD w ad=some v ↔ w.cell? ad=some v/\v.oneCell'=true/\ad.spot=none:=by
 unfold heapD;cases w.cell? ad with
 |none=>simp
 |some u =>
  by_cases h:u.oneCell'=true/\ad.spot=none
  .simp only [if_pos h,Option.some.injEq]
   refine⟨fun e=>by subst e;exact⟨rfl,h⟩,fun e=>e.1⟩
  .simp only [if_neg h,Option.some.injEq]
   constructor
   .intro e;cases e
   .rintro⟨rfl,h2⟩;exact absurd h2 h
theorem heapD_heap (w:World):Heap (heapD w) [] [] w :=
 ⟨fun ad v h=>by obtain⟨h1,h2,h3⟩:=heapD_some.1 h;exact⟨h3,h2,h1⟩,rfl,fun i bi ob hb=>by simp at hb,fun i j bi bj oi oj b hb=>by simp at hb⟩
theorem below_of_step {D D':DMap} {β':List Bi} {objs':List Ob} {w w':World} (h:Step D [] [] w D' β' objs' w'):RowKit.Below w.heap.size w w' :=
 ⟨h.os,h.tape,h.output.1,h.size,fun k hk=>h.keep k hk not_own_nil⟩
theorem calls_with {P:Program} {f:FuncId} {ds:List DV} (h:KnownCall P f ds (.d (.bool true))) (w:World) (args:Array Value) (hn:args.size=ds.length)
  (hr:∀ (j:Nat) c v,ds[j]?=some c->args[j]?=some v->RepD (heapD w) c v) :
  Calls P f args w fun e w'=>e=.returned (.bool true)/\(∀ may,w.keptBut w' may)/\RowKit.Below w.heap.size w w':=by
 have h1:=(h []).2 (heapD w) [] w args (heapD_heap w) ⟨by simpa using hn,fun j c v hc hv=>by
  simp only [List.getElem?_map,Option.map_eq_some_iff] at hc;obtain⟨c',hc',rfl⟩:=hc;exact .d (hr j c' v hc' hv)⟩
 refine(CallsIn.calls h1 ?_).mono fun e w' he=>?_
 .exact fun _ d hd=>(by cases hd)
 .obtain⟨v,D',β',rfl,hs,hv⟩:=he.ret rfl
  cases hv with
  |d hv=>cases hv;exact⟨rfl,fun may=>kept_of_step hs may,below_of_step hs⟩
structure CellsRep (D:DMap) (x:DV) (cs:List Value):Prop where
 len:(cellsD x).length=cs.length
 one:∀ v ∈ cs,v.oneCell'=true
 rep:∀ (j:Nat) c v,(cellsD x)[j]?=some c->cs[j]?=some v->RepD D c v
section
variable {H:Type} {enc:TypeId × Value->H} {P:Program} {w:World} {spare:Nat->Bool} {held:Bool} {fuel:Nat} {t:TypeId} {cs:List Value} {x:DataW H × List MemPlace}
theorem CellsRep.leaf {D:DMap} {x:DV} {v:Value} (hx:cellsD x=[x]) (hv:v.oneCell'=true) (h:RepD D x v):CellsRep D x [v] :=
 ⟨by rw [hx];rfl,fun u hu=>by simp only [List.mem_singleton] at hu;subst hu;exact hv,fun j c u hc hu=>by
  rw [hx] at hc;cases j with
  |zero=>simp at hc hu;subst hc hu;exact h
  |succ j=>simp at hc⟩
theorem cr_int {k:IntKind} (ht:P.underlying t=some (.int k)) (h:DataW.trod enc P w 0 spare held fuel t cs=some x):∃ n,CellsRep (heapD w) (.int k n) cs/\(Lit.int k n).wf=true:=by
 obtain⟨n,rfl,_,hw⟩:=DataW.trod_int ht h;exact⟨n,.leaf rfl rfl .int,hw⟩
theorem cells_get {a:Addr} {n:Nat} {r:List Value} (h:w.cells? 0 a n=some r):r.length=n/\∀ j,j<n->w.cell? (a.add j)=r[j]?:=by
 unfold World.cells? at h;rw [if_pos (Nat.zero_le _)] at h;exact⟨by simpa using mapM_some_length h,fun j hj=>mapM_some_get h j j (by simp [hj])⟩
theorem spot_of_cell {a:Addr} {v:Value} (h:w.cell? a=some v):a.spot=none:=(blk_of_cell h).elim fun _ h=>h.elim fun _ h=>h.elim fun _ h=>h.2.2
theorem cr_slice {α:Type} (f:α->DV) {e:TypeId} {sz:Nat} (Q:α->Prop) (ht:P.underlying t=some (.slice e)) (hsz:P.cellsOf e=sz) (h1:1<=sz) (hsp:∀ b,spare b=true)
  (elem:∀ (n:Nat) (cs':List Value) (y:DataW H × List MemPlace),cs'.length=sz->DataW.trod enc P w 0 spare held n e cs'=some y->∃ d,CellsRep (heapD w) (f d) cs'/\Q d)
  (h:DataW.trod enc P w 0 spare held fuel t cs=some x):∃ l:List α,CellsRep (heapD w) (.sl sz (l.map f)) cs/\l.length<=maxLen/\∀ d ∈ l,Q d:=by
 rcases DataW.trod_slice ht h with⟨rfl,_⟩|⟨a,len,cap,elems,rest,n,rfl,rfl,_,_,hlc,hcm,hel,hget,hrest,_⟩
 .refine⟨[],.leaf rfl rfl ?_,Nat.zero_le _,by simp⟩
  exact .sl (es:=[]) [] (Nat.le_refl _) (Nat.zero_le _) (by simp) (fun _=>⟨rfl,rfl⟩) rfl (fun ad e=>by cases e) (by simp)
 .subst hsz
  have hspot:cap=0\/a.spot=none:=by
   rcases Nat.eq_zero_or_pos cap with h0|h0
   .exact .inl h0
   .right
    have hex:∃ r,w.cells? 0 (a.add 0) (P.cellsOf e)=some r:=by
     rcases Nat.eq_zero_or_pos len with hl|hl
     .obtain⟨hr1,hr2⟩:=hrest (hsp _)
      have h2:=hr2 0 (by omega);rw [List.getElem?_eq_getElem (by omega),show(len+0)*P.cellsOf e=0 from by simp [hl]] at h2;simp only [Option.bind_eq_some_iff] at h2;obtain⟨r,hr,_⟩:=h2;exact⟨r,hr⟩
     .have h2:=hget 0 hl
      rw [List.getElem?_eq_getElem (by omega)] at h2;simp only [Option.bind_eq_some_iff,Nat.zero_mul] at h2;obtain⟨r,hr,_⟩:=h2;exact⟨r,hr⟩
    obtain⟨r,hr⟩:=hex;obtain⟨g1,g2⟩:=cells_get hr;have g3:=g2 0 (by omega);rw [List.getElem?_eq_getElem (by omega)] at g3;have:=spot_of_cell g3;simpa [Addr.add] using this
  have hone:∀ i,i<len->∃ d r,CellsRep (heapD w) (f d) r/\Q d/\r.length=P.cellsOf e/\∀ j,j<P.cellsOf e->w.cell? ((a.add (i*P.cellsOf e)).add j)=r[j]?:=by
   intro i hi;have h2:=hget i hi;rw [List.getElem?_eq_getElem (by omega)] at h2;simp only [Option.bind_eq_some_iff] at h2;obtain⟨r,hr,hy⟩:=h2;obtain⟨g1,g2⟩:=cells_get hr;obtain⟨d,hd,hq⟩:=elem n r _ g1 hy;exact⟨d,r,hd,hq,g1,g2⟩
  have hlist:∀ m,m<=len->∃ (l:List α) (vs:List Value),l.length=m/\(∀ d ∈ l,Q d)/\(∀ d ∈ l,(cellsD (f d)).length=P.cellsOf e)/\vs.length=m*P.cellsOf e/\(flatD (l.map f)).length=vs.length /\
    (∀ v ∈ vs,v.oneCell'=true)/\(∀ (j:Nat) v,vs[j]?=some v->w.cell? ⟨a.block,a.off+j,none⟩=some v)/\(∀ (j:Nat) c v,(flatD (l.map f))[j]?=some c->vs[j]?=some v->RepD (heapD w) c v):=by
   intro m
   induction m with
   |zero=>exact fun _=>⟨[],[],rfl,by simp,by simp,by simp,rfl,by simp,by simp,by simp⟩
   |succ m ih =>
    intro hm;obtain⟨l,vs,i1,i2,i3,i4,i5,i6,i7,i8⟩:=ih (by omega);obtain⟨d,r,k1,k2,k3,k4⟩:=hone m (by omega);have hsp0:a.spot=none:=hspot.resolve_left (by omega);have hfl:flatD ((l++[d]).map f)=flatD (l.map f)++cellsD (f d):=by simp [flatD]
    refine⟨l++[d],vs++r,by simp [i1],?_,?_,by rw [List.length_append,i4,k3,Nat.succ_mul],by rw [hfl,List.length_append,List.length_append,i5,k1.len],?_,?_,?_⟩
    .intro q hq
     rcases List.mem_append.1 hq with hq|hq
     .exact i2 q hq
     .simp only [List.mem_singleton] at hq;subst hq;exact k2
    .intro q hq
     rcases List.mem_append.1 hq with hq|hq
     .exact i3 q hq
     .simp only [List.mem_singleton] at hq;subst hq;rw [k1.len,k3]
    .intro v hv
     rcases List.mem_append.1 hv with hv|hv
     .exact i6 v hv
     .exact k1.one v hv
    .intro j v hv
     rcases Nat.lt_or_ge j vs.length with hj|hj
     .rw [List.getElem?_append_left hj] at hv;exact i7 j v hv
     .rw [List.getElem?_append_right hj] at hv
      have hjr:j-vs.length<r.length:=(List.getElem?_eq_some_iff.1 hv).1;have:=k4 (j-vs.length) (by omega);rw [addr_add hsp0,addr_add rfl,hv] at this;simp only at this;rw [<- this];have:a.off+m*P.cellsOf e+(j-vs.length)=a.off+j:=by omega
      rw [this]
    .intro j c v hc hv
     rw [hfl] at hc;rcases Nat.lt_or_ge j vs.length with hj|hj
     .rw [List.getElem?_append_left hj] at hv
      rw [List.getElem?_append_left (by omega)] at hc;exact i8 j c v hc hv
     .rw [List.getElem?_append_right hj] at hv
      rw [List.getElem?_append_right (by omega),i5] at hc;exact k1.rep _ c v hc hv
  obtain⟨l,vs,i1,i2,i3,i4,i5,i6,i7,i8⟩:=hlist len (Nat.le_refl _);refine⟨l,.leaf rfl rfl ?_,by omega,i2⟩;subst i1;rw [<- List.length_map (as:=l) f];refine .sl vs (by simpa using hlc) hcm (fun y hy=>?_) (fun e=>by cases e) i5.symm (fun ad e=>?_) i8
  .obtain⟨d,hd,rfl⟩:=List.mem_map.1 hy
   exact i3 d hd
  .cases e
   refine⟨hspot,fun j v hj=>heapD_some.2 ⟨i7 j v hj,i6 v (List.mem_of_getElem? hj),rfl⟩⟩
theorem cr_agg {D:DMap} {cs:List Value} (xs:List DV) (hl:xs.length=cs.length) (h:∀ (j:Nat) x v,xs[j]?=some x->cs[j]?=some v->cellsD x=[x]/\CellsRep D x [v]):CellsRep D (.agg xs) cs:=by
 refine⟨hl,fun v hv=>?_,fun j c v hc hv=>?_⟩
 .obtain⟨j,hj,e⟩:=List.getElem_of_mem hv
  obtain⟨x,hx⟩:∃ x,xs[j]?=some x:=⟨xs[j]'(by omega),by simp⟩
  exact(h j x v hx (by rw [List.getElem?_eq_getElem hj,e])).2.one v (by simp)
 .obtain⟨h1,h2⟩:=h j c v hc hv
  exact h2.rep 0 c v (by rw [h1];rfl) rfl
def AllRep (D:DMap):List DV->List Value->Prop
 |[],[]=>True
 |x :: xs,v :: vs=>(cellsD x=[x]/\CellsRep D x [v])/\AllRep D xs vs
 |_,_=>False
theorem allRep_len {D:DMap}:∀ {xs:List DV} {cs:List Value},AllRep D xs cs->xs.length=cs.length
 |[],[],_=>rfl
 |_ :: _,_ :: _,h=>by simp [allRep_len h.2]
theorem allRep_get {D:DMap}:∀ {xs:List DV} {cs:List Value},AllRep D xs cs->∀ (j:Nat) x v,xs[j]?=some x->cs[j]?=some v->cellsD x=[x]/\CellsRep D x [v]
 |[],[],_,j,x,v,hx,_=>by simp at hx
 |x :: xs,v :: vs,h,0,y,u,hx,hv=>by simp at hx hv;subst hx hv;exact h.1
 |x :: xs,v :: vs,h,j+1,y,u,hx,hv=>allRep_get h.2 j y u (by simpa using hx) (by simpa using hv)
theorem cr_all {D:DMap} {xs:List DV} {cs:List Value} (h:AllRep D xs cs):CellsRep D (.agg xs) cs:=cr_agg xs (allRep_len h) (allRep_get h)
theorem trod_field {fs:Array Field} (ht:P.underlying t=some (.struct fs)) (h:DataW.trod enc P w 0 spare held fuel t cs=some x) (i:Nat) {f:Field} {v:Value} (hf:fs[i]?=some f) (h1:P.cellsOf f.type=1)
  (hv:cs[f.offset]?=some v):∃ n y,DataW.trod enc P w 0 spare held n f.type [v]=some y:=by
 obtain⟨xs,n,_,_,hl,hxl,hff⟩:=DataW.trod_struct ht h;have h2:=hff i f hf;have hi:i<xs.length:=by rw [hxl];exact(Array.getElem?_eq_some_iff.1 hf).1
 rw [h1,List.getElem?_eq_getElem hi] at h2;refine⟨n,xs[i],?_⟩;rw [<- h2]
 congr 1
 obtain⟨ho,e⟩:=List.getElem?_eq_some_iff.1 hv;rw [List.drop_eq_getElem_cons ho,e]
 rfl
theorem rep_leaf {D:DMap} {x:DV} {v:Value} (hx:cellsD x=[x]) (h:CellsRep D x [v]):RepD D x v:=h.rep 0 x v (by rw [hx];rfl) rfl
theorem arg_int {r:Reach} {b0:Nat} {k:IntKind} {v:Value} {d:DataW H} {ps:List MemPlace} (ht:P.underlying t=some (.int k)) (hval:Value.okWide P w r b0 t v) (h:DataW.Trod enc P w 0 spare held t v d ps) :
  ∃ n,RepD (heapD w) (.int k n) v/\(Lit.int k n).wf=true:=by
 obtain⟨n,rfl,_,_,hw⟩:=ChangeShapes.open_int ht hval h;exact⟨n,.int,hw⟩
theorem leaf_cells {desc:TypeDesc} {r:Reach} {b0:Nat} {v:Value} (ht:P.underlying t=some desc) (hd:desc=.string\/∃ e,desc=.slice e) (hval:Value.okWide P w r b0 t v):v.cells.toList=[v]:=by
 cases v with
 |agg cs=>rcases hd with rfl|⟨e,rfl⟩<;>simp [Value.okWide,ht,Cell.okWide,Cell.ok] at hval
 |_=>rfl
theorem arg_slice {r:Reach} {b0:Nat} {v:Value} {d:DataW H} {ps:List MemPlace} {e:TypeId} {R:List DV->Prop} {sz:Nat} (ht:P.underlying t=some (.slice e)) (hval:Value.okWide P w r b0 t v) (h:DataW.Trod enc P w 0 spare held t v d ps)
  (hc:∀ n x,DataW.trod enc P w 0 spare held n t [v]=some x->∃ es,CellsRep (heapD w) (.sl sz es) [v]/\R es):∃ es,RepD (heapD w) (.sl sz es) v/\R es:=by
 obtain⟨n,h⟩:=h;rw [leaf_cells ht (.inr ⟨e,rfl⟩) hval] at h;obtain⟨es,hs,h1⟩:=hc n _ h;exact⟨es,rep_leaf rfl hs,h1⟩
theorem trodAll_below {W W':World} (hl:laidOutB P=true) (hb:RowKit.Below W.heap.size W W'):∀ {ts:List TypeId} {vs:List Value} {ds:List (DataW H)} {ps:List MemPlace},(ts.all fun t=>P.readableRec t && decide (t<P.types.size))=true ->
  DataW.TrodAll enc P W 0 (fun _=>true) true ts vs ds ps->(∀ p ∈ ps,p.block<W.heap.size)->DataW.TrodAll enc P W' 0 (fun b=>decide (b<W.heap.size)) true ts vs ds ps
 |[],[],[],_,_,h,_=>h
 |t :: ts,v :: vs,d :: ds,_,ht,⟨p,q,h1,h2,e⟩,hlt=>by
  simp only [List.all_cons,Bool.and_eq_true,decide_eq_true_eq] at ht;exact⟨p,q,RowKit.Below.trod hl ht.1.1 ht.1.2 h1 hb (fun y hy=>hlt y (by rw [e];exact List.mem_append_left _ hy)),trodAll_below hl hb ht.2 h2 (fun y hy=>hlt y (by rw [e];exact List.mem_append_right _ hy)),e⟩
end
section
variable {H:Type} {enc:TypeId × Value->H} {P:Program} {w:World} {spare:Nat->Bool} {held:Bool} {fuel:Nat} {t:TypeId} {cs:List Value} {x:DataW H × List MemPlace} {B:Nat}
end
def reA (ρ:Nat->Nat):Nat->AV->AV
 |0,_=>.d .any
 |_+1,.d x=>.d x
 |_+1,.bp i off=>.bp (ρ i) off
 |_+1,.sr i sz es=>.sr (ρ i) sz es
 |_+1,.bs i off len cap=>.bs (ρ i) off len cap
 |_+1,.mp i=>.mp (ρ i)
 |k+1,.agg cs=>.agg (cs.map (reA ρ k))
 |k+1,.tup cs=>.tup (cs.map (reA ρ k))
 |_+1,.vs i sz lo len=>.vs (ρ i) sz lo len
 |_+1,_=>.d .any
def reO (ρ:Nat->Nat):Ob->Ob
 |.box cs=>.box (cs.map (reA ρ 8))
 |.room m sz=>.room m sz
 |.map kvs=>.map kvs
 |.raw o=>.raw o
 |.sit s p=>.sit s p
 |.vec t ag sz m cs=>.vec t ag sz m (cs.map (reA ρ 8))
 |.tb t cs=>.tb t (cs.map (reA ρ 8))
 |_=>.gone
def okA (n:Nat):Nat->AV->Bool
 |0,_=>false
 |_+1,.d _=>true
 |_+1,.bp i _=>Nat.blt i n
 |_+1,.sr i _ _=>Nat.blt i n
 |_+1,.bs i _ _ _=>Nat.blt i n
 |_+1,.mp i=>Nat.blt i n
 |_+1,.vs i _ _ _=>Nat.blt i n
 |k+1,.agg cs=>cs.all (okA n k)
 |_+1,_=>false
def okO (n:Nat):Ob->Bool
 |.box cs=>cs.all (okA n 8)
 |.tb _ cs=>cs.all (okA n 8)
 |.vec _ _ _ _ cs=>cs.all (okA n 8)
 |.loop ..=>false
 |_=>true
theorem reA_ok {D:DMap} {β β2:List Bi} {ρ:Nat->Nat} (look:∀ i x,β[i]?=some x->β2[ρ i]?=some x):∀ (k:Nat) {x:AV} {v:Value},RepA D β x v->RepA D β2 (reA ρ k x) v:=by
 intro k
 induction k with
 |zero=>exact fun _=>.d .any
 |succ k ih =>
  intro x v h;cases h with
  |d h=>exact .d h
  |bp h=>exact .bp (look _ _ h)
  |sr h hh hd=>exact .sr (look _ _ h) hh hd
  |bs h=>exact .bs (look _ _ h)
  |mp h=>exact .mp (look _ _ h)
  |fn=>exact .d .any
  |agg h h1 hr =>
   refine .agg (by simp [h]) h1 fun j c v hc hv=>?_;simp only [List.getElem?_map,Option.map_eq_some_iff] at hc;obtain⟨y,hy,rfl⟩:=hc;exact ih (hr j y v hy hv)
  |tup h hr =>
   refine .tup (by simp [h]) fun j c v hc hv=>?_;simp only [List.getElem?_map,Option.map_eq_some_iff] at hc;obtain⟨y,hy,rfl⟩:=hc;exact ih (hr j y v hy hv)
  |yl h=>exact .d .any
  |vs h hh hc hm hn hx=>exact .vs (look _ _ h) hh hc hm hn hx
theorem reA_back {D:DMap} {β β2:List Bi} {ρ:Nat->Nat} {n:Nat} (look:∀ i,i<n->β[i]?=β2[ρ i]?):∀ (k:Nat) {x:AV} {v:Value},okA n k x=true->RepA D β2 (reA ρ k x) v->RepA D β x v:=by
 have lk:∀ {i:Nat} {bi:Bi},Nat.blt i n=true->β2[ρ i]?=some bi->β[i]?=some bi:=fun h1 h2=>by
  rw [Nat.blt_eq] at h1;rw [look _ h1];exact h2
 intro k
 induction k with
 |zero=>intro x v h;cases h
 |succ k ih =>
  intro x v ho h;cases x with
  |d x=>cases h with|d h=>exact .d h
  |bp i off=>cases h with|bp h=>exact .bp (lk ho h)
  |sr i sz es=>cases h with|sr h hh hd=>exact .sr (lk ho h) hh hd
  |bs i off len cap=>cases h with|bs h=>exact .bs (lk ho h)
  |mp i=>cases h with|mp h=>exact .mp (lk ho h)
  |vs i sz lo len=>cases h with|vs h hh hc hm hn hx=>exact .vs (lk ho h) hh hc hm hn hx
  |agg cs =>
   simp only [okA,List.all_eq_true] at ho;cases h with
   |agg h h1 hr =>
    refine .agg (by simpa using h) h1 fun j c v hc hv=>?_;exact ih (ho c (List.mem_of_getElem? hc)) (hr j _ v (by simp [hc]) hv)
  |_=>cases ho
theorem reO_own {ρ:Nat->Nat} {bi:Bi} {ob:Ob} {b:Nat} (h:ownOf bi (reO ρ ob)=some b):ownOf bi ob=some b:=by
 cases ob<;>first|exact h|(simp only [reO,ownOf] at h |-;exact h)|(simp only [reO,ownOf] at h;cases h)
theorem reO_own' {ρ:Nat->Nat} {n:Nat} {bi:Bi} {ob:Ob} {b:Nat} (ho:okO n ob=true) (h:ownOf bi ob=some b):ownOf bi (reO ρ ob)=some b:=by
 cases ob<;>first|exact h|(simp only [reO,ownOf] at h |-;exact h)|cases ho
theorem reO_ok {D:DMap} {β β2:List Bi} {ρ:Nat->Nat} {w:World} {bi:Bi} {ob:Ob} (look:∀ i x,β[i]?=some x->β2[ρ i]?=some x) (h:HoldsOb D β w bi ob):HoldsOb D β2 w bi (reO ρ ob):=by
 have cell:∀ {cs:List AV} {vs:Array Value},(∀ (j:Nat) c v,cs[j]?=some c->vs[j]?=some v->RepA D β c v)->∀ (j:Nat) c v,(cs.map (reA ρ 8))[j]?=some c->vs[j]?=some v->RepA D β2 c v:=by
  intro cs vs h j c v hc hv;simp only [List.getElem?_map,Option.map_eq_some_iff] at hc;obtain⟨y,hy,rfl⟩:=hc;exact reA_ok look 8 (h j y v hy hv)
 cases ob with
 |box cs=>obtain⟨vs,T,g1,g2,g3,g4,g5⟩:=h;exact⟨vs,T,g1,by simp [g2],cell g3,g4,g5⟩
 |tb ty cs=>obtain⟨vs,T,g1,g2,g3,g4,g5⟩:=h;exact⟨vs,T,g1,by simp [g2],cell g3,g4,g5⟩
 |vec ty ag sz m cs =>
  obtain⟨a,cap,g1,g2,g3,g4,g5,g6⟩:=h;refine⟨a,cap,g1,g2,g3,by simp [g4],g5,fun ad e=>?_⟩;obtain⟨k1,vs,T,k2,k3,k4,k5,k6⟩:=g6 ad e;exact⟨k1,vs,T,k2,k3,cell k4,k5,k6⟩
 |loop=>trivial
 |gone=>trivial
 |_=>exact h
theorem reO_back {D:DMap} {β β2:List Bi} {ρ:Nat->Nat} {n:Nat} {w:World} {bi:Bi} {ob:Ob} (look:∀ i,i<n->β[i]?=β2[ρ i]?) (ho:okO n ob=true) (h:HoldsOb D β2 w bi (reO ρ ob)):HoldsOb D β w bi ob:=by
 have cell:∀ {cs:List AV} {vs:Array Value},cs.all (okA n 8)=true->(∀ (j:Nat) c v,(cs.map (reA ρ 8))[j]?=some c->vs[j]?=some v->RepA D β2 c v)->∀ (j:Nat) c v,cs[j]?=some c->vs[j]?=some v->RepA D β c v:=by
  intro cs vs ho h j c v hc hv;simp only [List.all_eq_true] at ho;exact reA_back look 8 (ho c (List.mem_of_getElem? hc)) (h j _ v (by simp [hc]) hv)
 cases ob with
 |box cs=>obtain⟨vs,T,g1,g2,g3,g4,g5⟩:=h;exact⟨vs,T,g1,by simpa using g2,cell ho g3,g4,g5⟩
 |tb ty cs=>obtain⟨vs,T,g1,g2,g3,g4,g5⟩:=h;exact⟨vs,T,g1,by simpa using g2,cell ho g3,g4,g5⟩
 |vec ty ag sz m cs =>
  obtain⟨a,cap,g1,g2,g3,g4,g5,g6⟩:=h;refine⟨a,cap,g1,g2,g3,by simpa using g4,g5,fun ad e=>?_⟩;obtain⟨k1,vs,T,k2,k3,k4,k5,k6⟩:=g6 ad e;exact⟨k1,vs,T,k2,k3,cell ho k4,k5,k6⟩
 |loop=>cases ho
 |gone=>trivial
 |_=>exact h
theorem find_range {n k:Nat} {p:Nat->Bool} (hk:k<n) (h1:p k=true) (h2:∀ i,i<n->p i=true->i=k):(List.range n).find? p=some k:=by
 cases hf:(List.range n).find? p with
 |none=>rw [List.find?_eq_none] at hf;exact absurd h1 (hf k (List.mem_range.2 hk))
 |some j =>
  have h3:=List.find?_some hf;have h4:=List.mem_of_find?_eq_some hf;rw [h2 j (List.mem_range.1 h4) h3]
def atOf (pos:List Nat) (m:Nat) (k:Nat):Nat:=match pos[k]? with|some p=>p|none=>m+(k-pos.length)
def reR (ρ:Nat->Nat):AV->AV
 |.pan x=>.pan x
 |r=>reA ρ 8 r
theorem reR_of {ρ:Nat->Nat} {r:AV} (h:isPan r=false):reR ρ r=reA ρ 8 r:=by cases r<;>first|rfl|cases h
theorem ACall.embedR {P:Program} {f:FuncId} {args:List AV} {A A':List Ob} {r:AV} (h:ACall P f args A r A') {Big Big':List Ob} {pos:List Nat} (hl:pos.length=A.length) (hnd:pos.Nodup)
  (hB:∀ (k:Nat) ob,A[k]?=some ob->∃ p,pos[k]?=some p/\Big[p]?=some (reO (atOf pos Big.length) ob)) (hok:A.all (okO A.length)=true) (hargs:args.all (okA A.length 8)=true)
  (h1:Big'.length+A.length=Big.length+A'.length) (h2:∀ p,p<Big.length->p ∉ pos->Big'[p]?=Big[p]?)
  (h3:∀ (k:Nat) ob,A'[k]?=some ob->Big'[atOf pos Big.length k]?=some (reO (atOf pos Big.length) ob)) :
  ACall P f (args.map (reA (atOf pos Big.length) 8)) Big (reR (atOf pos Big.length) r) Big':=by
 generalize hρ:atOf pos Big.length=ρ at *;refine⟨h.1,fun D β w vs hh hv=>?_⟩
 let z:Bi:=⟨0,fun _=>none⟩
 have hpos:∀ (k p:Nat),pos[k]?=some p->p<Big.length:=fun k p hk=>by
  have hkl:k<A.length:=by rw [<- hl];exact(List.getElem?_eq_some_iff.1 hk).1
  obtain⟨p',e1,e2⟩:=hB k A[k] (by simp [hkl]);rw [hk] at e1;cases e1;exact(List.getElem?_eq_some_iff.1 e2).1
 have ρlow:∀ (k p:Nat),pos[k]?=some p->ρ k=p:=fun k p hk=>by subst hρ;simp [atOf,hk]
 have ρhigh:∀ k:Nat,A.length<=k->ρ k=Big.length+(k-A.length):=fun k hk=>by
  subst hρ;simp only [atOf];rw [List.getElem?_eq_none (by omega),hl]
 have posAt:∀ k:Nat,k<A.length->∃ p,pos[k]?=some p/\ρ k=p/\p<Big.length:=fun k hk=>by
  have hk':k<pos.length:=by omega
  refine⟨pos[k],by simp [hk'],ρlow _ _ (by simp [hk']),hpos k _ (by simp [hk'])⟩
 have ρinj:∀ i j:Nat,ρ i=ρ j->i=j:=fun i j e=>by
  rcases Nat.lt_or_ge i A.length with hi|hi<;>rcases Nat.lt_or_ge j A.length with hj|hj
  .obtain⟨p,a1,a2,a3⟩:=posAt i hi
   obtain⟨q,b1,b2,b3⟩:=posAt j hj;have e':p=q:=by omega
   subst e';exact(List.getElem?_inj (by omega) hnd).1 (by rw [a1,b1])
  .obtain⟨p,a1,a2,a3⟩:=posAt i hi
   have:=ρhigh j hj;omega
  .obtain⟨p,a1,a2,a3⟩:=posAt j hj
   have:=ρhigh i hi;omega
  .have:=ρhigh i hi
   have:=ρhigh j hj;omega
 have hβl:=hh.len
 let βs:List Bi:=pos.map fun p=>β.getD p z
 have βsAt:∀ i,i<A.length->βs[i]?=β[ρ i]?:=fun i hi=>by
  obtain⟨p,a1,a2,a3⟩:=posAt i hi;have hpβ:p<β.length:=by omega
  simp only [βs,List.getElem?_map,a1,a2,Option.map_some,List.getD_eq_getElem?_getD];simp [hpβ]
 have hβs:βs.length=A.length:=by simp [βs,hl]
 have okAt:∀ (k:Nat) ob,A[k]?=some ob->okO A.length ob=true:=fun k ob hk=>by
  simp only [List.all_eq_true] at hok;exact hok ob (List.mem_of_getElem? hk)
 have small:Heap D βs A w:=by
  refine⟨hh.dh,hβs,fun i bi ob a b=>?_,fun i j bi bj oi oj b a1 a2 b1 b2 c1 c2=>?_⟩
  .have hi:i<A.length:=(List.getElem?_eq_some_iff.1 b).1
   rw [βsAt i hi] at a;obtain⟨p,e1,e2⟩:=hB i ob b;rw [ρlow _ _ e1] at a;exact reO_back βsAt (okAt i ob b) (hh.hold p bi _ a e2)
  .have hi:i<A.length:=(List.getElem?_eq_some_iff.1 b1).1
   have hj:j<A.length:=(List.getElem?_eq_some_iff.1 b2).1;rw [βsAt i hi] at a1;rw [βsAt j hj] at a2;obtain⟨p,e1,e2⟩:=hB i oi b1;obtain⟨q,f1,f2⟩:=hB j oj b2;rw [ρlow _ _ e1] at a1;rw [ρlow _ _ f1] at a2;have:=hh.disj p q bi bj _ _ b a1 a2 e2 f2 (reO_own' (okAt i oi b1) c1) (reO_own' (okAt j oj b2) c2);exact ρinj i j (by rw [ρlow _ _ e1,ρlow _ _ f1,this])
 have ownUp:∀ b,Own βs A b->∃ (i p:Nat),∃ bi ob,i<A.length/\ρ i=p/\β[p]?=some bi/\A[i]?=some ob/\Big[p]?=some (reO ρ ob)/\ownOf bi (reO ρ ob)=some b:=by
  rintro b ⟨i,bi,ob,a,b',c⟩;have hi:i<A.length:=(List.getElem?_eq_some_iff.1 b').1;rw [βsAt i hi] at a;obtain⟨p,e1,e2⟩:=hB i ob b';rw [ρlow _ _ e1] at a;exact⟨i,p,bi,ob,hi,ρlow _ _ e1,a,b',e2,reO_own' (okAt i ob b') c⟩
 refine(h.2 D βs w vs small ⟨by simpa using hv.1,fun j c v hc hw=>?_⟩).mono fun e w' he=>?_
 .have:=hv.2 j (reA ρ 8 c) v (by simp [hc]) hw
  simp only [List.all_eq_true] at hargs;exact reA_back βsAt 8 (hargs c (List.mem_of_getElem? hc)) this
 obtain⟨D',β',hs,fin⟩:∃ D' β',Step D βs A w D' β' A' w'/\∀ β2:List Bi,(∀ i x,β'[i]?=some x->β2[ρ i]?=some x)->Step D β Big w D' β2 Big' w'->EndOK D β Big w (reR ρ r) Big' e w':=by
  rcases he with⟨v,D',β',rfl,hs,hrv⟩|⟨x,v,D',β',rfl,rfl,hs,hrv⟩
  .exact⟨D',β',hs,fun β2 look st=>.inl ⟨v,D',β2,rfl,st,by rw [reR_of hrv.noPan];exact reA_ok look 8 hrv⟩⟩
  .exact⟨D',β',hs,fun β2 look st=>.inr ⟨x,v,D',β2,rfl,rfl,st,hrv⟩⟩
 have hl':=hs.heap.len;have hge:A.length<=A'.length:=by
  rcases Nat.lt_or_ge A'.length A.length with hlt|hge
  .obtain⟨y,hy,_⟩:=hs.bext A'.length (βs[A'.length]'(by omega)) (by simp)
   have:=(List.getElem?_eq_some_iff.1 hy).1;omega
  .exact hge
 let β2:List Bi:=(List.range Big'.length).map fun p=>match (List.range A'.length).find? (fun k=>ρ k == p) with|some k=>β'.getD k z|none=>β.getD p z
 have β2len:β2.length=Big'.length:=by simp [β2]
 have ρltB:∀ k,k<A'.length->ρ k<Big'.length:=fun k hk=>by
  rcases Nat.lt_or_ge k A.length with h'|h'
  .obtain⟨p,a1,a2,a3⟩:=posAt k h';omega
  .have:=ρhigh k h';omega
 have β2at:∀ k,k<A'.length->β2[ρ k]?=β'[k]?:=fun k hk=>by
  have hk':k<β'.length:=by omega
  have hf:(List.range A'.length).find? (fun k'=>ρ k' == ρ k)=some k:=find_range hk (by simp) fun i _ e'=>ρinj _ _ (by simpa using e');simp only [β2,List.getElem?_map,List.getElem?_range (ρltB k hk),Option.map_some,hf,List.getD_eq_getElem?_getD];simp [hk']
 have β2old:∀ p,p<Big.length->p ∉ pos->β2[p]?=β[p]?:=fun p hp' hn=>by
  have hpl:p<Big'.length:=by omega
  have hf:(List.range A'.length).find? (fun k=>ρ k == p)=none:=by
   rw [List.find?_eq_none];intro k hk;simp only [List.mem_range] at hk;simp only [beq_iff_eq];intro e';rcases Nat.lt_or_ge k A.length with h'|h'
   .obtain⟨q,a1,a2,a3⟩:=posAt k h'
    exact hn (by rw [show p=q by omega];exact List.mem_of_getElem? a1)
   .have:=ρhigh k h';omega
  simp only [β2,List.getElem?_map,List.getElem?_range hpl,Option.map_some,hf,List.getD_eq_getElem?_getD];have:p<β.length:=by omega
  simp [this]
 have look2:∀ i x,β'[i]?=some x->β2[ρ i]?=some x:=fun i x hx=>by
  rw [β2at i (by have:=(List.getElem?_eq_some_iff.1 hx).1;omega)];exact hx
 have cut:∀ (p:Nat) bi ob,β2[p]?=some bi->Big'[p]?=some ob->(p<Big.length/\p ∉ pos/\β[p]?=some bi/\Big[p]?=some ob)\/(∃ k o,ρ k=p/\β'[k]?=some bi/\A'[k]?=some o/\ob=reO ρ o):=by
  intro p bi ob a b;have hpl:p<Big'.length:=(List.getElem?_eq_some_iff.1 b).1;have few:∀ k,k<A'.length->ρ k=p->∃ k o,ρ k=p/\β'[k]?=some bi/\A'[k]?=some o/\ob=reO ρ o:=fun k hk e'=>by
   refine⟨k,A'[k],e',by rw [<- β2at k hk,e'];exact a,by simp [hk],?_⟩;have:=h3 k A'[k] (by simp [hk]);rw [e',b] at this;exact Option.some.inj this
  rcases Nat.lt_or_ge p Big.length with hp'|hp'
  .by_cases hm:p ∈ pos
   .obtain⟨k,hk,e'⟩:=List.getElem_of_mem hm
    exact .inr (few k (by omega) (ρlow k p (by rw [List.getElem?_eq_getElem hk,e'])))
   .exact .inl ⟨hp',hm,by rw [<- β2old p hp' hm];exact a,by rw [<- h2 p hp' hm];exact b⟩
  .exact .inr (few (A.length+(p-Big.length)) (by omega) (by rw [ρhigh _ (by omega)];omega))
 have other:∀ (p:Nat) bi ob b,p<Big.length->p ∉ pos->β[p]?=some bi->Big[p]?=some ob->ownOf bi ob=some b->¬ Own βs A b:=by
  intro p bi ob b h1 hn a1 a2 a3 ho;obtain⟨i,q,bj,oj,c0,c1,c2,_,c3,c4⟩:=ownUp b ho;have:=hh.disj p q bi bj _ _ b a1 c2 a2 c3 a3 c4;obtain⟨q',d1,d2,_⟩:=posAt i c0;exact hn (by rw [show p=q' by omega];exact List.mem_of_getElem? d1)
 have upOwn:∀ b,Own βs A b->Own β Big b:=fun b ho=>by
  obtain⟨i,q,bj,oj,c0,c1,c2,_,c3,c4⟩:=ownUp b ho;exact⟨q,bj,_,c2,c3,c4⟩
 have few2:∀ (k:Nat) bi o b,β'[k]?=some bi->A'[k]?=some o->ownOf bi o=some b->Own βs A b\/w.heap.size<=b:=fun k bi o b a1 a2 a3=>hs.ownn b ⟨k,bi,o,a1,a2,a3⟩;have st:Step D β Big w D' β2 Big' w':=by
  refine⟨hs.dsub,fun ad v a b=>(hs.dnew ad v a b).imp (upOwn _) id,fun p x hx=>?_,⟨hs.heap.dh,by rw [β2len],fun p bi ob a b=>?_,fun p q bi bj oi oj b a1 a2 b1 b2 c1 c2=>?_⟩,hs.size,fun k hk hn=>hs.keep k hk (fun ho=>hn (upOwn k ho)),
   hs.os,hs.tape,hs.output,?_⟩
  .have hpb:p<Big.length:=by have:=(List.getElem?_eq_some_iff.1 hx).1;omega
   by_cases hm:p ∈ pos
   .obtain⟨k,hk,e'⟩:=List.getElem_of_mem hm
    have hkp:ρ k=p:=ρlow k p (by rw [List.getElem?_eq_getElem hk,e']);obtain⟨y,hy,hxy⟩:=hs.bext k x (by rw [βsAt k (by omega),hkp];exact hx);exact⟨y,by rw [<- hkp];exact look2 k y hy,hxy⟩
   .exact⟨x,by rw [β2old p hpb hm];exact hx,BiExt.refl x⟩
  .rcases cut p bi ob a b with⟨p1,p2,p3,p4⟩|⟨k,o,e',k1,k2,rfl⟩
   .refine(hh.hold p bi ob p3 p4).mono hs.dsub (fun q x hx=>?_) (fun ad v h5 h6 h7=>?_) (fun b' hb'=>?_)
    .have hpb:q<Big.length:=by have:=(List.getElem?_eq_some_iff.1 hx).1;omega
     by_cases hm:q ∈ pos
     .obtain⟨k,hk,e'⟩:=List.getElem_of_mem hm
      have hkp:ρ k=q:=ρlow k q (by rw [List.getElem?_eq_getElem hk,e']);obtain⟨y,hy,hxy⟩:=hs.bext k x (by rw [βsAt k (by omega),hkp];exact hx);exact⟨y,by rw [<- hkp];exact look2 k y hy,hxy⟩
     .exact⟨x,by rw [β2old q hpb hm];exact hx,BiExt.refl x⟩
    .rcases hs.dnew ad v h5 h6 with h8|h8
     .exact other p bi ob _ p1 p2 p3 p4 h7 h8
     .have:=hh.own_lt ⟨p,bi,ob,p3,p4,h7⟩;omega
    .exact hs.keep b' (hh.own_lt ⟨p,bi,ob,p3,p4,hb'⟩) (other p bi ob b' p1 p2 p3 p4 hb')
   .exact reO_ok look2 (hs.heap.hold k bi o k1 k2)
  .rcases cut p bi oi a1 b1 with⟨p1,p2,p3,p4⟩|⟨k,o,e',k1,k2,rfl⟩<;>rcases cut q bj oj a2 b2 with⟨q1,q2,q3,q4⟩|⟨k',o',e'',k1',k2',rfl⟩
   .exact hh.disj p q bi bj oi oj b p3 q3 p4 q4 c1 c2
   .exfalso
    rcases few2 k' bj o' b k1' k2' (reO_own c2) with h8|h8
    .exact other p bi oi b p1 p2 p3 p4 c1 h8
    .have:=hh.own_lt ⟨p,bi,oi,p3,p4,c1⟩;omega
   .exfalso
    rcases few2 k bi o b k1 k2 (reO_own c1) with h8|h8
    .exact other q bj oj b q1 q2 q3 q4 c2 h8
    .have:=hh.own_lt ⟨q,bj,oj,q3,q4,c2⟩;omega
   .have:=hs.heap.disj k k' bi bj o o' b k1 k1' k2 k2' (reO_own c1) (reO_own c2)
    rw [<- e',<- e'',this]
  .rintro b ⟨p,bi,ob,a1,a2,a3⟩
   rcases cut p bi ob a1 a2 with⟨p1,p2,p3,p4⟩|⟨k,o,e',k1,k2,rfl⟩
   .exact .inl ⟨p,bi,ob,p3,p4,a3⟩
   .exact(few2 k bi o b k1 k2 (reO_own a3)).imp (upOwn b) id
 exact fin β2 look2 st
section
variable {P:Program} {frz:List Nat} {nt m:Nat} {ro':Option Nat} {K:Ex->S->Prop} {s:S} {ops:Array Oper} {l:List Oper}
end
inductive DvN:DV->DV->Prop
 |refl {x:DV}:DvN x x
 |nil {sz:Nat}:DvN .nilsl (.sl sz [])
 |agg {xs ys:List DV} (hl:xs.length=ys.length) (h:∀ (j:Nat) x y,xs[j]?=some x->ys[j]?=some y->DvN x y):DvN (.agg xs) (.agg ys)
 |sl {sz:Nat} {xs ys:List DV} (hn:xs.length=ys.length) (hl:(flatD xs).length=(flatD ys).length) (hs:∀ e ∈ ys,(cellsD e).length=sz)
   (h:∀ (j:Nat) x y,(flatD xs)[j]?=some x->(flatD ys)[j]?=some y->DvN x y):DvN (.sl sz xs) (.sl sz ys)
theorem DvN.rep {D:DMap} {x y:DV} (h:DvN x y):∀ {v:Value},RepD D x v->RepD D y v:=by
 induction h with
 |refl=>exact fun h=>h
 |nil=>exact fun h=>DvTo.nil.rep h
 |agg hl _ ih =>
  intro v h;cases h with
  |agg h h1 hr =>
   refine .agg (by rw [h,hl]) h1 fun j c v hc hv=>?_;have hj:=(List.getElem?_eq_some_iff.1 hc).1;rw [<- hl] at hj;exact ih j _ c (List.getElem?_eq_getElem hj) hc (hr j _ v (List.getElem?_eq_getElem hj) hv)
 |sl hn hl hs _ ih =>
  intro v h;cases h with
  |sl vs hc hm hsz hno hv hD hr =>
   rw [hn];refine .sl vs (by omega) hm hs (fun e=>⟨List.length_eq_zero_iff.1 (by rw [<- hn,(hno e).1];rfl),(hno e).2⟩) (by rw [hv,hl]) hD fun j c v hc hv'=>?_;have hj:=(List.getElem?_eq_some_iff.1 hc).1;rw [<- hl] at hj;exact ih j _ c (List.getElem?_eq_getElem hj) hc (hr j _ v (List.getElem?_eq_getElem hj) hv')
theorem DvN.map {α:Type} {f g:α->DV} {n:Nat} (hf:∀ a,(cellsD (f a)).length=n) (hg:∀ a,(cellsD (g a)).length=n) (l:List α) (h:∀ a ∈ l,∀ (i:Nat) x y,(cellsD (f a))[i]?=some x->(cellsD (g a))[i]?=some y->DvN x y):DvN (.sl n (l.map f)) (.sl n (l.map g)):=by
 have hlen:∀ (k:α->DV),(∀ a,(cellsD (k a)).length=n)->∀ l:List α,(flatD (l.map k)).length=l.length*n:=fun k hk l=>by
  induction l with
  |nil=>simp [flatD]
  |cons a l ih =>
   simp only [List.map_cons,flatD,List.flatMap_cons,List.length_append,List.length_cons] at ih |-;rw [hk,ih,Nat.succ_mul];omega
 have hget:∀ (l:List α) (j:Nat) x y,(∀ a ∈ l,∀ (i:Nat) x y,(cellsD (f a))[i]?=some x->(cellsD (g a))[i]?=some y->DvN x y)->(flatD (l.map f))[j]?=some x->(flatD (l.map g))[j]?=some y->DvN x y:=by
  intro l
  induction l with
  |nil=>intro j x y _ hx;simp [flatD] at hx
  |cons a l ih =>
   intro j x y h hx hy;simp only [List.map_cons,flatD,List.flatMap_cons] at hx hy ih;rcases Nat.lt_or_ge j n with hj|hj
   .rw [List.getElem?_append_left (by rw [hf];exact hj)] at hx
    rw [List.getElem?_append_left (by rw [hg];exact hj)] at hy;exact h a (List.mem_cons_self ..) j x y hx hy
   .rw [List.getElem?_append_right (by rw [hf];exact hj),hf] at hx
    rw [List.getElem?_append_right (by rw [hg];exact hj),hg] at hy;exact ih _ x y (fun b hb=>h b (List.mem_cons_of_mem _ hb)) hx hy
 exact .sl (by simp) (by rw [hlen f hf,hlen g hg]) (fun e he=>by obtain⟨a,_,rfl⟩:=List.mem_map.1 he;exact hg a) fun j x y hx hy=>hget l j x y h hx hy
inductive AvD:AV->DV->Prop
 |any {x:AV}:AvD x .any
 |d {x y:DV} (h:DvN x y):AvD (.d x) y
 |sr {i sz:Nat} {es:List DV} {y:DV} (h:DvN (.sl sz es) y):AvD (.sr i sz es) y
 |agg {xs:List AV} {ys:List DV} (hl:xs.length=ys.length) (h:∀ (j:Nat) x y,xs[j]?=some x->ys[j]?=some y->AvD x y):AvD (.agg xs) (.agg ys)
 |dagg {xs ys:List DV} (hl:xs.length=ys.length) (h:∀ (j:Nat) x y,xs[j]?=some x->ys[j]?=some y->AvD (.d x) y):AvD (.d (.agg xs)) (.agg ys)
theorem AvD.rep {D:DMap} {β:List Bi} {x:AV} {y:DV} (h:AvD x y):∀ {v:Value},RepA D β x v->RepD D y v:=by
 induction h with
 |any=>exact fun _=>.any
 |d h =>
  intro v hr;cases hr with
  |d hr=>exact h.rep hr
 |sr h =>
  intro v hr;have hr:=sr_data hr;cases hr with
  |d hr=>exact h.rep hr
 |agg hl _ ih =>
  intro v hr;cases hr with
  |agg g1 g2 g3 =>
   refine .agg (by rw [g1,hl]) g2 fun j c v hc hv=>?_;have hj:=(List.getElem?_eq_some_iff.1 hc).1;rw [<- hl] at hj;exact ih j _ c (List.getElem?_eq_getElem hj) hc (g3 j _ v (List.getElem?_eq_getElem hj) hv)
 |dagg hl _ ih =>
  intro v hr;cases hr with
  |d hr =>
   cases hr with
   |agg g1 g2 g3 =>
    refine .agg (by rw [g1,hl]) g2 fun j c v hc hv=>?_;have hj:=(List.getElem?_eq_some_iff.1 hc).1;rw [<- hl] at hj;exact ih j _ c (List.getElem?_eq_getElem hj) hc (.d (g3 j _ v (List.getElem?_eq_getElem hj) hv))
def AvDs:List AV->List DV->Prop
 |[],[]=>True
 |x :: xs,y :: ys=>AvD x y/\AvDs xs ys
 |_,_=>False
theorem AvDs.len:∀ {xs:List AV} {ys:List DV},AvDs xs ys->xs.length=ys.length
 |[],[],_=>rfl
 |_ :: _,_ :: _,h=>by simp [AvDs.len h.2]
theorem AvDs.get:∀ {xs:List AV} {ys:List DV},AvDs xs ys->∀ (j:Nat) x y,xs[j]?=some x->ys[j]?=some y->AvD x y
 |[],[],_,j,x,y,hx,_=>by simp at hx
 |_ :: _,_ :: _,h,0,x,y,hx,hy=>by simp at hx hy;subst hx hy;exact h.1
 |_ :: _,_ :: _,h,j+1,x,y,hx,hy=>AvDs.get h.2 j x y (by simpa using hx) (by simpa using hy)
section
variable {P:Program} {E:PT Ty} {frz:List Nat} {nt m:Nat} {ro':Option Nat} {K:Ex->S->Prop} {ops:Array Oper} {l:List Oper} {o:Oper} {tm tm':PT AV} {objs:List Ob} {dl:List Dl} {s0:S} {i:Nat} {acc:List Eff} {G:S->Prop} {g:FuncId} {ds:List DV} {args:List AV} {r:AV}
end
def shA (n:Nat):Nat->AV->AV
 |0,_=>.d .any
 |_+1,.d x=>.d x
 |_+1,.bp i off=>.bp (n+i) off
 |_+1,.sr i sz es=>.sr (n+i) sz es
 |_+1,.bs i off len cap=>.bs (n+i) off len cap
 |_+1,.mp i=>.mp (n+i)
 |k+1,.agg cs=>.agg (cs.map (shA n k))
 |k+1,.tup cs=>.tup (cs.map (shA n k))
 |_+1,.vs i sz lo len=>.vs (n+i) sz lo len
 |_+1,_=>.d .any
def shO (n:Nat):Ob->Ob
 |.box cs=>.box (cs.map (shA n 8))
 |.room m sz=>.room m sz
 |.map kvs=>.map kvs
 |.raw o=>.raw o
 |.sit s p=>.sit s p
 |.vec t ag sz m cs=>.vec t ag sz m (cs.map (shA n 8))
 |.tb t cs=>.tb t (cs.map (shA n 8))
 |_=>.gone
theorem shA_ok {D:DMap} {β0 β:List Bi}:∀ (k:Nat) {x:AV} {v:Value},RepA D β x v->RepA D (β0++β) (shA β0.length k x) v:=by
 have look:∀ {i:Nat} {bi:Bi},β[i]?=some bi->(β0++β)[β0.length+i]?=some bi:=fun h=>by
  rw [List.getElem?_append_right (by omega),Nat.add_sub_cancel_left];exact h
 intro k
 induction k with
 |zero=>exact fun _=>.d .any
 |succ k ih =>
  intro x v h;cases h with
  |d h=>exact .d h
  |bp h=>exact .bp (look h)
  |sr h hh hd=>exact .sr (look h) hh hd
  |bs h=>exact .bs (look h)
  |mp h=>exact .mp (look h)
  |fn=>exact .d .any
  |agg h h1 hr =>
   refine .agg (by simp [h]) h1 fun j c v hc hv=>?_;simp only [List.getElem?_map,Option.map_eq_some_iff] at hc;obtain⟨y,hy,rfl⟩:=hc;exact ih (hr j y v hy hv)
  |tup h hr =>
   refine .tup (by simp [h]) fun j c v hc hv=>?_;simp only [List.getElem?_map,Option.map_eq_some_iff] at hc;obtain⟨y,hy,rfl⟩:=hc;exact ih (hr j y v hy hv)
  |yl h=>exact .d .any
  |vs h hh hc hm hn hx=>exact .vs (look h) hh hc hm hn hx
theorem shO_own {n:Nat} {bi:Bi} {ob:Ob} {b:Nat} (h:ownOf bi (shO n ob)=some b):ownOf bi ob=some b:=by
 cases ob<;>first|exact h|(simp only [shO,ownOf] at h |-;exact h)|(simp only [shO,ownOf] at h;cases h)
theorem shO_ok {D:DMap} {β0 β:List Bi} {w:World} {bi:Bi} {ob:Ob} (h:HoldsOb D β w bi ob):HoldsOb D (β0++β) w bi (shO β0.length ob):=by
 cases ob with
 |box cs =>
  obtain⟨vs,T,g1,g2,g3,g4,g5⟩:=h;refine⟨vs,T,g1,by simp [g2],fun j c v hc hv=>?_,g4,g5⟩;simp only [List.getElem?_map,Option.map_eq_some_iff] at hc;obtain⟨y,hy,rfl⟩:=hc;exact shA_ok 8 (g3 j y v hy hv)
 |tb ty cs =>
  obtain⟨vs,T,g1,g2,g3,g4,g5⟩:=h;refine⟨vs,T,g1,by simp [g2],fun j c v hc hv=>?_,g4,g5⟩;simp only [List.getElem?_map,Option.map_eq_some_iff] at hc;obtain⟨y,hy,rfl⟩:=hc;exact shA_ok 8 (g3 j y v hy hv)
 |vec ty ag sz m cs =>
  obtain⟨a,cap,g1,g2,g3,g4,g5,g6⟩:=h;refine⟨a,cap,g1,g2,g3,by simp [g4],g5,fun ad e=>?_⟩;obtain⟨k1,vs,T,k2,k3,k4,k5,k6⟩:=g6 ad e;refine⟨k1,vs,T,k2,k3,fun j c v hc hv=>?_,k5,k6⟩;simp only [List.getElem?_map,Option.map_eq_some_iff] at hc;obtain⟨y,hy,rfl⟩:=hc;exact shA_ok 8 (k4 j y v hy hv)
 |loop=>trivial
 |gone=>trivial
 |_=>exact h
theorem Step.lift {D D':DMap} {β β':List Bi} {objs objs':List Ob} {w w':World} (hp:Heap D β objs w) (h:Step D [] [] w D' β' objs' w'):Step D β objs w D' (β++β') (objs++objs'.map (shO objs.length)) w':=by
 have hb:=h.bare hp;have hl:=hp.len;have hl':=h.heap.len;have cut:∀ (i:Nat) bi ob,(β++β')[i]?=some bi->(objs++objs'.map (shO objs.length))[i]?=some ob->(β[i]?=some bi/\objs[i]?=some ob)\/(objs.length<=i/\β'[i-objs.length]?=some bi/\∃ ob',objs'[i-objs.length]?=some ob'/\ob=shO objs.length ob'):=by
  intro i bi ob h1 h2;rcases Nat.lt_or_ge i objs.length with hi|hi
  .rw [List.getElem?_append_left (by omega)] at h1
   rw [List.getElem?_append_left hi] at h2;exact .inl ⟨h1,h2⟩
  .rw [List.getElem?_append_right (by omega),hl] at h1
   rw [List.getElem?_append_right hi,List.getElem?_map,Option.map_eq_some_iff] at h2;obtain⟨o,h2,e⟩:=h2;exact .inr ⟨hi,h1,o,h2,e.symm⟩
 have new:∀ (i:Nat) bi ob b,β'[i]?=some bi->objs'[i]?=some ob->ownOf bi ob=some b->w.heap.size<=b:=fun i bi ob b h1 h2 h3=>(h.ownn b ⟨i,bi,ob,h1,h2,h3⟩).elim (fun h=>absurd h not_own_nil) id;refine⟨h.dsub,hb.dnew,fun i x hx=>⟨x,?_,BiExt.refl x⟩,⟨h.heap.dh,by simp [hl,hl'],fun i bi ob h1 h2=>?_,fun i j bi bj oi oj b h1 h2 h3 h4 h5 h6=>?_⟩,h.size,hb.keep,h.os,h.tape,h.output,?_⟩
 .rw [List.getElem?_append_left (List.getElem?_eq_some_iff.1 hx).1];exact hx
 .rcases cut i bi ob h1 h2 with⟨a,b⟩|⟨a,b,o,c,rfl⟩
  .refine(hb.heap.hold i bi ob a b).mono (fun _ _ h=>h) (fun k x hx=>⟨x,?_,BiExt.refl x⟩) (fun ad v h3 h4=>by rw [h3] at h4;cases h4) (fun _ _=>rfl)
   rw [List.getElem?_append_left (List.getElem?_eq_some_iff.1 hx).1];exact hx
  .have:=shO_ok (β0:=β) (h.heap.hold _ bi o b c)
   rwa [hl] at this
 .rcases cut i bi oi h1 h3 with⟨a1,b1⟩|⟨a1,b1,o1,c1,rfl⟩<;>rcases cut j bj oj h2 h4 with⟨a2,b2⟩|⟨a2,b2,o2,c2,rfl⟩
  .exact hp.disj i j bi bj oi oj b a1 a2 b1 b2 h5 h6
  .have:=hp.own_lt ⟨i,bi,oi,a1,b1,h5⟩
   have:=new _ _ _ _ b2 c2 (shO_own h6);omega
  .have:=hp.own_lt ⟨j,bj,oj,a2,b2,h6⟩
   have:=new _ _ _ _ b1 c1 (shO_own h5);omega
  .have:=h.heap.disj _ _ bi bj o1 o2 b b1 b2 c1 c2 (shO_own h5) (shO_own h6)
   omega
 .rintro b ⟨i,bi,ob,h1,h2,h3⟩
  rcases cut i bi ob h1 h2 with⟨a1,b1⟩|⟨a1,b1,o1,c1,rfl⟩
  .exact .inl ⟨i,bi,ob,a1,b1,h3⟩
  .exact .inr (new _ _ _ _ b1 c1 (shO_own h3))
theorem ACall.lift {P:Program} {f:FuncId} {ds:List DV} {r:AV} {objs':List Ob} (h:ACall P f (ds.map .d) [] r objs') (hp:isPan r=false) (objs:List Ob):ACall P f (ds.map .d) objs (shA objs.length 8 r) (objs++objs'.map (shO objs.length)):=by
 refine⟨h.1,fun D β w vs hh hv=>(h.2 D [] w vs hh.bare ⟨hv.1,fun j c v hc hw=>?_⟩).mono fun e w' he=>?_⟩
 .have:=hv.2 j c v hc hw
  simp only [List.getElem?_map,Option.map_eq_some_iff] at hc;obtain⟨d,_,rfl⟩:=hc;cases this with
  |d this=>exact .d this
 .rcases he with⟨v,D',β',rfl,hs,hv⟩|⟨x,v,D',β',hx,_⟩
  .have:=shA_ok (β0:=β) 8 hv
   rw [hh.len] at this;exact .inl ⟨v,D',β++β',rfl,hs.lift hh,this⟩
  .rw [hx] at hp;cases hp
open Classical in
noncomputable def boxD (D:DMap) (b n:Nat) (w:World):DMap:=fun ad=>if ad.block=b/\ad.spot=none/\ad.off<n then w.cell? ad else D ad
theorem box_freeze {D:DMap} {β:List Bi} {objs:List Ob} {w:World} (h:Heap D β objs w) {i:Nat} {bi:Bi} {ds:List DV} (hb:β[i]?=some bi) (ho:objs[i]?=some (.box (ds.map .d))) :
  Step D β objs w (boxD D bi.blk ds.length w) β (objs.set i .gone) w/\∀ off,off<=ds.length->RepD (boxD D bi.blk ds.length w) (.ep (ds.drop off)) (.pointer (some ⟨bi.blk,off,none⟩)):=by
 obtain⟨vs,T,g1,g2,g3,g4,g5⟩:=h.hold i bi _ hb ho;rw [List.length_map] at g2;have cell:∀ ad:Addr,ad.block=bi.blk->ad.spot=none->ad.off<ds.length->∃ v,w.cell? ad=some v/\vs[ad.off]?=some v/\v.oneCell'=true:=by
  rintro⟨b,o,sp⟩ h1 h2 h3
  simp only at h1 h2 h3;subst h1 h2;have hlt:o<vs.size:=by omega
  refine⟨vs[o],?_,by simp [hlt],g4 o _ (by simp [hlt])⟩;rw [cell_of_blk g1];simp [hlt]
 have sub:∀ ad v,D ad=some v->boxD D bi.blk ds.length w ad=some v:=fun ad v hd=>by
  unfold boxD;rw [if_neg (fun hv=>by rw [g5 ad hv.1] at hd;cases hd)];exact hd
 have new:∀ ad v,boxD D bi.blk ds.length w ad=some v->D ad=none->(ad.block=bi.blk/\ad.spot=none/\ad.off<ds.length)/\w.cell? ad=some v:=fun ad v h1 h2=>by
  unfold boxD at h1;split at h1
  .rename_i hv;exact⟨hv,h1⟩
  .rw [h2] at h1;cases h1
 have get:∀ (j:Nat) o,(objs.set i .gone)[j]?=some o->(j=i/\o=.gone)\/(j≠i/\objs[j]?=some o):=fun j o hj=>by
  by_cases hij:i=j
  .subst hij
   rw [List.getElem?_set_self (List.getElem?_eq_some_iff.1 ho).1] at hj;cases hj;exact .inl ⟨rfl,rfl⟩
  .rw [List.getElem?_set_ne hij] at hj;exact .inr ⟨fun e=>hij e.symm,hj⟩
 refine⟨⟨sub,fun ad v h1 h2=>.inl ⟨i,bi,_,hb,ho,by rw [(new ad v h1 h2).1.1];rfl⟩,fun i x hx=>⟨x,hx,BiExt.refl x⟩,⟨fun ad v hv=>?_,by simp [h.len],fun j bj o h1 h2=>?_,fun j k bj bk oj ok b h1 h2 h3 h4 h5 h6=>?_⟩,
  Nat.le_refl _,fun _ _ _=>rfl,rfl,rfl,⟨rfl,Nat.le_refl _⟩,?_⟩,fun off hoff=>?_⟩
 .cases h0:D ad with
  |some u =>
   have:=sub ad u h0;rw [this] at hv;cases hv;exact h.dh ad _ h0
  |none =>
   obtain⟨⟨e1,e2,e3⟩,hv2⟩:=new ad v hv h0;obtain⟨u,k1,_,k3⟩:=cell ad e1 e2 e3;rw [k1] at hv2;cases hv2;exact⟨e2,k3,k1⟩
 .rcases get j o h2 with⟨rfl,rfl⟩|⟨hne,h2⟩
  .trivial
  .refine(h.hold j bj o h1 h2).mono sub (fun i x hx=>⟨x,hx,BiExt.refl x⟩) (fun ad v h3 h4 h5=>?_) (fun b _=>rfl)
   exact hne (h.disj j i bj bi o _ ad.block h1 hb h2 ho h5 (by rw [(new ad v h3 h4).1.1];rfl))
 .rcases get j oj h3 with⟨rfl,rfl⟩|⟨_,h3⟩
  .cases h5
  .rcases get k ok h4 with⟨rfl,rfl⟩|⟨_,h4⟩
   .cases h6
   .exact h.disj j k bj bk oj ok b h1 h2 h3 h4 h5 h6
 .rintro b ⟨j,bj,oj,h1,h2,h3⟩
  rcases get j oj h2 with⟨rfl,rfl⟩|⟨_,h2⟩
  .cases h3
  .exact .inl ⟨j,bj,oj,h1,h2,h3⟩
 .refine .ep (vs.toList.drop off) rfl (by simp;omega) (fun j v hj=>?_) (fun j c v hc hv=>?_)
  .rw [List.getElem?_drop] at hj
   have hj:vs[off+j]?=some v:=by simpa using hj
   have hlt:off+j<ds.length:=by have:=(Array.getElem?_eq_some_iff.1 hj).1;omega
   obtain⟨u,k1,k2,_⟩:=cell ⟨bi.blk,off+j,none⟩ rfl rfl hlt;simp only at k2;rw [hj] at k2;cases k2;unfold boxD;rw [if_pos ⟨rfl,rfl,hlt⟩];exact k1
  .rw [List.getElem?_drop] at hc hv
   have:=g3 (off+j) (.d c) v (by simp [hc]) (by simpa using hv);cases this with
   |d this=>exact this.mono sub
section
variable {P:Program} {nt m:Nat} {ro':Option Nat} {K:Ex->S->Prop} {c:Code} {tm tm':PT AV} {objs objs':List Ob} {dl:List Dl}
theorem Run.freeze (i:Nat) {ds:List DV} (h:Run P nt m ro' c ⟨tm',objs',[]⟩ K) (hi:objs[i]?=some (.box (ds.map .d))) (he:objs.set i .gone=objs')
  (ht:∀ t v,tm'.get? t=some v->tm.get? t=some v\/∃ off,off<=ds.length/\tm.get? t=some (.bp i off)/\v=.d (.ep (ds.drop off))):Run P nt m ro' c ⟨tm,objs,[]⟩ K:=by
 subst he;intro D0 β0 o0 w0 hb0 ro Q a w hro hK hs;obtain⟨D,β,h1,h2,h3⟩:=hs;have hil:=(List.getElem?_eq_some_iff.1 hi).1;obtain⟨bi,hb⟩:∃ bi,β[i]?=some bi:=⟨β[i]'(by rw [h1.heap.len];exact hil),by simp [h1.heap.len,hil]⟩
 obtain⟨st,hr⟩:=box_freeze h1.heap hb hi;refine h D0 β0 o0 w0 hb0 ro Q a w hro hK ⟨_,β,h1.trans st,⟨h2.1,fun t=>?_⟩,h3.mono st.dsub st.bext⟩;cases hv:tm'.get? t with
 |none=>exact .d .any
 |some v =>
  rcases ht t v hv with e|⟨off,h4,h5,rfl⟩
  .have:=h2.2 t
   rw [e] at this;exact st.repA this
  .have:=h2.2 t
   rw [h5] at this;simp only [Option.getD_some] at this |-;generalize a.tmps.getD t undef=u at this |-;cases this with
   |bp hb'=>rw [hb] at hb';cases hb';exact .d (hr off h4)
end
def WkCs:List AV->List AV->Prop
 |[],[]=>True
 |c :: cs,d :: ds=>(d=.d .any\/d=c)/\WkCs cs ds
 |_,_=>False
inductive WkOb:Ob->Ob->Prop
 |gone {a:Ob}:WkOb a .gone
 |box {cs ds:List AV} (h:WkCs cs ds):WkOb (.box cs) (.box ds)
 |refl {a:Ob}:WkOb a a
def WkObs:List Ob->List Ob->Prop
 |_,[]=>True
 |a :: l,b :: m=>WkOb a b/\WkObs l m
 |[],_ :: _=>False
theorem WkCs.get:∀ {cs ds:List AV},WkCs cs ds->cs.length=ds.length/\∀ (j:Nat) c d,cs[j]?=some c->ds[j]?=some d->d=.d .any\/d=c
 |[],[],_=>⟨rfl,fun j c d h=>by simp at h⟩
 |c :: cs,d :: ds,⟨h1,h2⟩=>⟨by simp [h2.get.1],fun j c' d' hc hd=>match j with
  |0=>by simp at hc hd;subst hc hd;exact h1
  |j+1=>h2.get.2 j c' d' (by simpa using hc) (by simpa using hd)⟩
 |[],_ :: _,h=>h.elim
 |_ :: _,[],h=>h.elim
theorem WkObs.get:∀ {l m:List Ob},WkObs l m->∀ (j:Nat) b,m[j]?=some b->∃ a,l[j]?=some a/\WkOb a b
 |_,[],_,j,b,h=>by simp at h
 |a :: l,b :: m,⟨h1,h2⟩,j,b',h=>match j,h with
  |0,h=>by simp at h;subst h;exact⟨a,rfl,h1⟩
  |j+1,h=>by
   obtain⟨a',h3,h4⟩:=h2.get j b' (by simpa using h);exact⟨a',by simpa using h3,h4⟩
 |[],_ :: _,h,_,_,_=>h.elim
theorem WkOb.own {bi:Bi} {a b:Ob} (h:WkOb a b) {n:Nat} (ho:ownOf bi b=some n):ownOf bi a=some n:=by
 cases h with
 |gone=>cases ho
 |box _=>exact ho
 |refl=>exact ho
theorem WkOb.holds {D:DMap} {β:List Bi} {w:World} {bi:Bi} {a b:Ob} (h:WkOb a b) (hh:HoldsOb D β w bi a):HoldsOb D β w bi b:=by
 cases h with
 |gone=>trivial
 |refl=>exact hh
 |box hc =>
  obtain⟨vs,T,h1,h2,h3,h4,h5⟩:=hh;obtain⟨g1,g2⟩:=hc.get;refine⟨vs,T,h1,by omega,fun j d v hd hv=>?_,h4,h5⟩;rename_i cs ds;have hj:j<cs.length:=by have:=(List.getElem?_eq_some_iff.1 hd).1;omega
  rcases g2 j cs[j] d (by simp [hj]) hd with rfl|rfl
  .exact .d .any
  .exact h3 j _ v (by simp [hj]) hv
theorem Step.weak {D0 D:DMap} {β0 β:List Bi} {o0 objs objs':List Ob} {w0 w:World} (h:Step D0 β0 o0 w0 D β objs w) (hw:WkObs objs objs') (hn:β0.length<=objs'.length) (hr:objs'.all (refOb objs'.length)=true):Step D0 β0 o0 w0 D (β.take objs'.length) objs' w:=by
 have get:∀ {α:Type} {l:List α} {i n:Nat} {x:α},(l.take n)[i]?=some x->l[i]?=some x/\i<n:=fun h=>getElem?_take_of h;have hle:objs'.length<=objs.length:=by
  rcases Nat.lt_or_ge objs.length objs'.length with hlt|hge
  .obtain⟨a,ha,_⟩:=hw.get objs.length objs'[objs.length] (by simp [hlt])
   have:=(List.getElem?_eq_some_iff.1 ha).1;omega
  .exact hge
 simp only [List.all_eq_true] at hr;refine { h with bext:=fun i x hx=>?_,heap:=⟨h.heap.dh,by simp [h.heap.len,hle],fun i bi ob h1 h2=>?_,fun i j bi bj oi oj b h1 h2 h3 h4 h5 h6=>?_⟩,ownn:=fun b hb=>?_ }
 .obtain⟨y,hy,he⟩:=h.bext i x hx
  have:=(List.getElem?_eq_some_iff.1 hx).1;exact⟨y,take_get hy (by rw [Nat.blt_eq];omega),he⟩
 .obtain⟨a,ha,hab⟩:=hw.get i ob h2
  exact holdsOb_take (hab.holds (h.heap.hold i bi a (get h1).1 ha)) (hr ob (List.mem_of_getElem? h2))
 .obtain⟨a,ha,hab⟩:=hw.get i oi h3
  obtain⟨c,hc,hcd⟩:=hw.get j oj h4;exact h.heap.disj i j bi bj a c b (get h1).1 (get h2).1 ha hc (hab.own h5) (hcd.own h6)
 .obtain⟨i,bi,ob,h1,h2,h3⟩:=hb
  obtain⟨a,ha,hab⟩:=hw.get i ob h2;exact h.ownn b ⟨i,bi,a,(get h1).1,ha,hab.own h3⟩
inductive AvR:AV->AV->Prop
 |refl {x:AV}:AvR x x
 |sr {i sz:Nat} {es:List DV}:AvR (.sr i sz es) (.d (.sl sz es))
 |d {x y:DV} (h:DvN x y):AvR (.d x) (.d y)
section
variable {P:Program} {E:PT Ty} {frz:List Nat} {nt m:Nat} {ro':Option Nat} {K:Ex->S->Prop} {ops:Array Oper} {l:List Oper} {o:Oper} {tm tm':PT AV} {objs objs':List Ob} {dl:List Dl} {s0:S} {i:Nat} {acc:List Eff} {G:S->Prop} {g:FuncId} {args:List AV} {r:AV} {A A' X:List Ob} {x:DV}
end
def EvC (P:Program) (E:PT Ty) (frz:List Nat) (nt:Nat) (ops:Array Oper) (dead pk:Nat->Bool) (PN:DV->List Ob->Prop) (i:Nat) (acc:List Eff) (sts:List S) (l:List Oper) (s:S) (G:List Eff->List S->S->Prop):Prop :=
 ∃ (H:Nat->Hd) (es:List Eff) (ss:List S) (s':S),(∀ j,HOK P (H j))/\evOps E H frz nt ops dead pk i l s=some (es,s')/\ss.length=l.length /\
  (∀ k,k<l.length->∃ es' sk,ss[k]?=some sk/\evOps E H frz nt ops dead pk i (l.take k) s=some (es',sk)) /\
  (∀ k o sk x ob,l[k]?=some o->ss[k]?=some sk->pk (i+k)=true->evAny E (H (i+k)) frz (rd sk.tm) sk.objs o=some (.pan x,ob,true)->PN x (ob.getD sk.objs))/\G (acc++es) (sts++ss) s'
section
variable {P:Program} {E:PT Ty} {frz:List Nat} {nt:Nat} {ops:Array Oper} {dead pk:Nat->Bool} {PN:DV->List Ob->Prop} {i:Nat} {acc:List Eff} {sts:List S} {l:List Oper} {o:Oper} {s:S} {G:List Eff->List S->S->Prop}
theorem evOps_congrC {H H':Nat->Hd}:∀ {l:List Oper} {i:Nat} {s:S},(∀ j,i<=j->H j=H' j)->evOps E H frz nt ops dead pk i l s=evOps E H' frz nt ops dead pk i l s
 |[],_,_,_=>rfl
 |o :: l,i,s,h=>by
  have ih:∀ s,evOps E H frz nt ops dead pk (i+1) l s=evOps E H' frz nt ops dead pk (i+1) l s:=fun s=>evOps_congrC fun j hj=>h j (by omega);unfold evOps;simp only [ih,h i (Nat.le_refl _)]
theorem EvC.nil (k:G acc sts s):EvC P E frz nt ops dead pk PN i acc sts [] s G :=
 ⟨fun _=>H0,[],[],s,fun _=>H0_ok,rfl,rfl,fun k hk=>absurd hk (Nat.not_lt_zero _),fun k o sk x ob h=>by simp at h,by simpa using k⟩
theorem EvC.step {H1:Hd} (h1:HOK P H1) {e:Eff} {s1:S} (hstep:∀ H:Nat->Hd,H i=H1->∀ l',evOps E H frz nt ops dead pk i (o :: l') s=(evOps E H frz nt ops dead pk (i+1) l' s1).map fun p=>(e :: p.1,p.2))
  (hpn:∀ x ob,pk i=true->evAny E H1 frz (rd s.tm) s.objs o=some (.pan x,ob,true)->PN x (ob.getD s.objs)) (k:EvC P E frz nt ops dead pk PN (i+1) (acc++[e]) (sts++[s]) l s1 G):EvC P E frz nt ops dead pk PN i acc sts (o :: l) s G:=by
 obtain⟨H,es,ss,s',k1,k2,k3,k4,k5,k6⟩:=k;obtain⟨H',hH'⟩:∃ H':Nat->Hd,H'=fun j=>if j=i then H1 else H j:=⟨_,rfl⟩
 have hi:H' i=H1:=by rw [hH'];simp
 have hj:∀ j,j≠i->H' j=H j:=fun j hj=>by rw [hH'];simp [hj]
 have hc:∀ l s,evOps E H' frz nt ops dead pk (i+1) l s=evOps E H frz nt ops dead pk (i+1) l s:=fun l s=>evOps_congrC fun j h=>hj j (by omega);refine⟨H',e :: es,s :: ss,s',fun j=>?_,?_,by simp [k3],fun k hk=>?_,fun k o' sk x ob ho hs hp hv=>?_,?_⟩
 .by_cases h:j=i
  .subst h;rw [hi];exact h1
  .rw [hj j h];exact k1 j
 .rw [hstep H' hi,hc,k2];rfl
 .cases k with
  |zero=>exact⟨[],s,rfl,rfl⟩
  |succ k =>
   obtain⟨es',sk,g1,g2⟩:=k4 k (by simpa using hk);exact⟨e :: es',sk,by simpa using g1,by rw [List.take_succ_cons,hstep H' hi,hc,g2];rfl⟩
 .cases k with
  |zero =>
   simp at ho hs;subst ho hs;rw [Nat.add_zero,hi] at hv;exact hpn x ob (by simpa using hp) hv
  |succ k =>
   rw [show i+(k+1)=i+1+k by omega] at hp hv;rw [hj _ (by omega)] at hv;exact k5 k o' sk x ob (by simpa using ho) (by simpa using hs) hp hv
 .simpa [List.append_assoc] using k6
theorem EvC.any {H1:Hd} (h1:HOK P H1) {v:AV} {ob:Option (List Ob)} {tm:PT AV} (hd:dead i=false) (hpk:pk i=false) (hg:guardA ops (rd s.tm) o=some true) (hv:evAny E H1 frz (rd s.tm) s.objs o=some (v,ob,true))
  (hp:isPan v=false) (ht:setD nt s.tm o.dst v=some tm) (k:EvC P E frz nt ops dead pk PN (i+1) (acc++[effOf (rd s.tm) s.objs o ob]) (sts++[s]) l ⟨tm,ob.getD s.objs,s.dl⟩ G):EvC P E frz nt ops dead pk PN i acc sts (o :: l) s G:=by
 refine EvC.step h1 (fun H hi l'=>?_) (fun x ob' hp'=>by rw [hpk] at hp';cases hp') k;rw [evOps];simp only [hd,hpk,hg,hi,hv,hp,ht];cases evOps E H frz nt ops dead pk (i+1) l' ⟨tm,ob.getD s.objs,s.dl⟩<;>rfl
theorem EvC.pan {H1:Hd} (h1:HOK P H1) {x:DV} {ob:Option (List Ob)} {tm:PT AV} (hd:dead i=false) (hpk:pk i=true) (hg:guardA ops (rd s.tm) o=some true) (hv:evAny E H1 frz (rd s.tm) s.objs o=some (.pan x,ob,true)) (hpn:PN x (ob.getD s.objs))
  (ht:setD nt s.tm o.dst (.d .any)=some tm) (k:EvC P E frz nt ops dead pk PN (i+1) (acc++[.b none]) (sts++[s]) l ⟨tm,ob.getD s.objs,s.dl⟩ G):EvC P E frz nt ops dead pk PN i acc sts (o :: l) s G:=by
 refine EvC.step h1 (fun H hi l'=>?_) (fun x' ob' _ hv'=>?_) k
 .rw [evOps]
  simp only [hd,hpk,hg,hi,hv,ht];cases evOps E H frz nt ops dead pk (i+1) l' ⟨tm,ob.getD s.objs,s.dl⟩<;>rfl
 .rw [hv] at hv'
  simp only [Option.some.injEq,Prod.mk.injEq,AV.pan.injEq] at hv';obtain⟨rfl,rfl,_⟩:=hv';exact hpn
def AnsAt (E:PT Ty) (ops:Array Oper) (ss:List S) (p:Nat × Nat):Prop :=
 ∃ o si sj sk v u1 u2,ops[p.1]?=some o/\ss[p.1]?=some si/\ss[p.2]?=some sj/\ss[p.2+1]?=some sk/\evOp E (rd si.tm) sj.objs o.op=some (v,u1,true)/\evOp E (rd si.tm) sk.objs o.op=some (v,u2,true)
def AnsAll (E:PT Ty) (ops:Array Oper) (ss:List S):List (Nat × Nat)->Prop
 |[]=>True
 |p :: l=>AnsAt E ops ss p/\AnsAll E ops ss l
def excB:List (Nat × Nat)->Nat->Nat->Bool
 |[],_,_=>false
 |p :: l,i,j=>(Nat.beq p.1 i && Nat.beq p.2 j) || excB l i j
theorem ansAll_get {ss:List S}:∀ {l:List (Nat × Nat)},AnsAll E ops ss l->∀ {i j:Nat},excB l i j=true->AnsAt E ops ss (i,j)
 |[],_,_,_,h=>by cases h
 |p :: l,⟨h1,h2⟩,i,j,h=>by
  simp only [excB,Bool.or_eq_true,Bool.and_eq_true] at h;rcases h with⟨a,b⟩|h
  .have e1:=Nat.eq_of_beq_eq_true a
   have e2:=Nat.eq_of_beq_eq_true b;obtain⟨p1,p2⟩:=p;simp only at e1 e2;subst e1 e2;exact h1
  .exact ansAll_get h2 h
theorem draw_start {D0:DMap} {β0:List Bi} {o0:List Ob} {w0:World} {A:Nat} {es:List Eff} {s':S} {H:Nat->Hd} {st:Nat->S} {vs:Nat->AV} (C:DrawC E H frz nt ops dead pk A s es s' st vs) {a:Act} {w:World} (hs:Sim D0 β0 o0 w0 nt s a w) :
  Inv ops s es st vs nt D0 β0 o0 w0 (Array.replicate ops.size false) a w.drew:=by
 have rep0:∀ i,(Array.replicate ops.size false).getD i false=false:=fun i=>by
  simp only [Array.getD_eq_getD_getElem?,Array.getElem?_replicate];split<;>rfl
 obtain⟨D,β,h1,h2,h3⟩:=hs;refine⟨by simp,fun i o ho h=>(by rw [rep0] at h;cases h),0,Nat.zero_le _,fun i q hi=>⟨fun h=>(by rw [rep0] at h;cases h),fun h=>(by omega)⟩,D,β,?_,h2.1,fun t=>?_,h3⟩
 .rw [C.tr.first];exact h1.trans (Step.drew h1.heap)
 .rw [valAt_none fun i hi=>by rw [Wrote,rep0] at hi;exact absurd hi.1 (by simp)]
  exact h2.2 t
theorem drawC_of {H:Nat->Hd} {es:List Eff} {ss:List S} {s':S} {exc:List (Nat × Nat)} (k2:evOps E H frz nt ops dead pk 0 ops.toList s=some (es,s')) (k3:ss.length=ops.toList.length)
  (k4:∀ k,k<ops.toList.length->∃ es' sk,ss[k]?=some sk/\evOps E H frz nt ops dead pk 0 (ops.toList.take k) s=some (es',sk)) (hd:drawB E ops es (excB exc)=true) (hx:AnsAll E ops ss exc) :
  ∃ A st vs,DrawC E H frz nt ops dead pk A s es s' st vs:=by
 refine drawC_gen k2 hd (fun i j h st pre li lj=>?_);obtain⟨o,si,sj,sk,v,u1,u2,e0,e1,e2,e3,e4,e5⟩:=ansAll_get hx h;have at':∀ k x,ss[k]?=some x->st k=x:=fun k x hk=>by
  have hkl:k<ops.toList.length:=by rw [<- k3];exact(List.getElem?_eq_some_iff.1 hk).1
  obtain⟨es',y,g1,g2⟩:=k4 k hkl;obtain⟨es2,g3⟩:=pre k (by simp at hkl;omega);rw [g2] at g3;simp only [Option.some.injEq,Prod.mk.injEq] at g3;rw [hk] at g1;cases g1;exact g3.2.symm
 simp only at e0 e1 e2 e3;rw [at' _ _ e1,at' _ _ e2,at' _ _ e3];exact⟨o,v,u1,u2,e0,e4,e5⟩
variable {m:Nat} {ro':Option Nat} {K:Ex->S->Prop}
theorem Run.drawC (hE:EnvOK P E) (hm:P.follows .mixedOrders=true) {id:Nat} (exc:List (Nat × Nat)) (h:EvC P E frz nt ops never never (fun _ _=>True) 0 [] [] ops.toList s (fun es ss s'=>drawB E ops es (excB exc)=true/\AnsAll E ops ss exc/\K .normal s')) :
  Run P nt m ro' (.region id ops true) s K:=fun D0 β0 o0 w0 _ ro Q a w _ hK hs=>by
 obtain⟨H,es,ss,s',k1,k2,k3,k4,_,k6,k7,k8⟩:=h;simp only [List.nil_append] at k6 k7;obtain⟨A,st,vs,C⟩:=drawC_of k2 k3 k4 k6 k7;have rep0:∀ i,(Array.replicate ops.size false).getD i false=false:=fun i=>by
  simp only [Array.getD_eq_getD_getElem?,Array.getElem?_replicate];split<;>rfl
 have hleft:left ops.size (Array.replicate ops.size false)<=ops.size:=by
  unfold left;exact Nat.le_trans (List.length_filter_le _ _) (by simp)
 exact wpIn_region_any hm ((draw_walk hE k1 C (fun i h=>by cases h) (fun _ a w hs=>(hK _ _ k8).1 a w rfl hs) (fun i o x ob _ h=>by cases h) ops.size).1 _ a _ hleft (draw_start C hs) (fun p h=>by cases h))
end
section
variable {P:Program} {E:PT Ty} {frz:List Nat} {nt:Nat} {ops:Array Oper} {dead pk:Nat->Bool} {PN:DV->List Ob->Prop} {i:Nat} {acc:List Eff} {sts:List S} {l:List Oper} {o:Oper} {G:List Eff->List S->S->Prop} {tm tm':PT AV} {objs objs' A A' X:List Ob} {dl:List Dl} {g:FuncId} {args:List AV} {r:AV} {x:DV}
theorem cX {v v':AV} {ob:Option (List Ob)} {fl:Bool} (k:EvC P E frz nt ops dead pk PN (i+1) (acc++[effOf (rd tm) objs o ob]) (sts++[⟨tm,objs,dl⟩]) l ⟨tm',objs',dl⟩ G) (hd:dead i=false:=by rfl) (hpk:pk i=false:=by rfl) (hg:guardA ops (rd tm) o=some true:=by rfl)
  (hv:evAny E H0 frz (rd tm) objs o=some (v',ob,fl):=by rfl) (hf:fl=true:=by rfl) (he:v'=v:=by first|(conv=>lhs;dsimp only)|rfl) (ho:ob.getD objs=objs':=by first|(conv=>lhs;dsimp only [Option.getD])|rfl) (hp:isPan v=false:=by rfl) (ht:setD nt tm o.dst v=some tm':=by rfl) :
  EvC P E frz nt ops dead pk PN i acc sts (o :: l) ⟨tm,objs,dl⟩ G:=by
 subst he ho hf;exact EvC.any H0_ok hd hpk hg hv hp ht k
end
section
variable {P:Program} {nt m:Nat} {ro':Option Nat} {x y:Code} {s:S} {K:Ex->S->Prop}
end
section
variable {P:Program} {nt m:Nat} {ro':Option Nat} {c:Code} {K:Ex->S->Prop} {tm:PT AV} {objs objs':List Ob} {dl:List Dl}
end
def putL:List Ob->List Nat->List Ob->List Ob
 |B,p :: ps,o :: os=>putL (B.set p o) ps os
 |B,_,_=>B
theorem putL_len:∀ {B:List Ob} {ps:List Nat} {os:List Ob},(putL B ps os).length=B.length
 |B,[],os=>by cases os<;>rfl
 |B,_ :: _,[]=>rfl
 |B,p :: ps,o :: os=>by rw [putL,putL_len,List.length_set]
theorem putL_old:∀ {B:List Ob} {ps:List Nat} {os:List Ob} {q:Nat},q ∉ ps->(putL B ps os)[q]?=B[q]?
 |B,[],os,_,_=>by cases os<;>rfl
 |B,_ :: _,[],_,_=>rfl
 |B,p :: ps,o :: os,q,h=>by
  rw [putL,putL_old (fun hq=>h (List.mem_cons_of_mem _ hq)),List.getElem?_set_ne (fun e=>h (by rw [e];exact List.mem_cons_self))]
theorem putL_at:∀ {B:List Ob} {ps:List Nat} {os:List Ob} {k p:Nat} {o:Ob},ps.Nodup->(∀ p ∈ ps,p<B.length)->ps[k]?=some p->os[k]?=some o->(putL B ps os)[p]?=some o
 |B,[],_,_,_,_,_,_,h,_=>by simp at h
 |B,_ :: _,[],_,_,_,_,_,_,h=>by simp at h
 |B,q :: ps,o' :: os,0,p,o,hn,hl,h1,h2=>by
  simp at h1 h2;subst h1 h2;rw [putL,putL_old (List.nodup_cons.1 hn).1,List.getElem?_set_self (hl _ List.mem_cons_self)]
 |B,q :: ps,o' :: os,k+1,p,o,hn,hl,h1,h2=>by
  rw [putL];exact putL_at (List.nodup_cons.1 hn).2 (fun p hp=>by rw [List.length_set];exact hl p (List.mem_cons_of_mem _ hp)) (by simpa using h1) (by simpa using h2)
def obsAt (ρ:Nat->Nat) (B:List Ob):List Nat->List Ob->Prop
 |[],[]=>True
 |p :: ps,o :: os=>B[p]?=some (reO ρ o)/\obsAt ρ B ps os
 |_,_=>False
theorem obsAt_get {ρ:Nat->Nat} {B:List Ob}:∀ {ps:List Nat} {os:List Ob},obsAt ρ B ps os->∀ (k:Nat) o,os[k]?=some o->∃ p,ps[k]?=some p/\B[p]?=some (reO ρ o)
 |[],[],_,k,o,h=>by simp at h
 |p :: ps,o' :: os,h,0,o,ho=>by simp at ho;subst ho;exact⟨p,rfl,h.1⟩
 |p :: ps,o' :: os,h,k+1,o,ho=>obsAt_get h.2 k o (by simpa using ho)
 |[],_ :: _,h,_,_,_=>h.elim
 |_ :: _,[],h,_,_,_=>h.elim
theorem ACall.at' {P:Program} {f:FuncId} {args:List AV} {A A':List Ob} {r:AV} (h:ACall P f args A r A') (pos:List Nat) {Big:List Ob} (hl:pos.length=A.length) (hl':A'.length=A.length) (hnd:pos.Nodup)
  (hB:obsAt (atOf pos Big.length) Big pos A) (hok:A.all (okO A.length)=true) (hargs:args.all (okA A.length 8)=true) :
  ACall P f (args.map (reA (atOf pos Big.length) 8)) Big (reR (atOf pos Big.length) r) (putL Big pos (A'.map (reO (atOf pos Big.length)))):=by
 have hlt:∀ p ∈ pos,p<Big.length:=fun p hp=>by
  obtain⟨k,hk,e⟩:=List.getElem_of_mem hp;have hkA:k<A.length:=by omega
  obtain⟨q,e1,e2⟩:=obsAt_get hB k A[k] (List.getElem?_eq_getElem hkA);rw [List.getElem?_eq_getElem hk,e] at e1;cases e1;exact(List.getElem?_eq_some_iff.1 e2).1
 refine h.embedR hl hnd (obsAt_get hB) hok hargs (by rw [putL_len,hl']) (fun p _ hn=>putL_old hn) (fun k ob hk=>?_);have hkl:k<pos.length:=by rw [hl,<- hl'];exact(List.getElem?_eq_some_iff.1 hk).1
 have e:atOf pos Big.length k=pos[k]:=by simp [atOf,hkl]
 exact putL_at (k:=k) hnd hlt (by rw [e];exact List.getElem?_eq_getElem hkl) (by rw [List.getElem?_map,hk];rfl)
section
variable {P:Program} {E:PT Ty} {frz:List Nat} {nt m:Nat} {ro':Option Nat} {K:Ex->S->Prop} {ops:Array Oper} {l:List Oper} {o:Oper} {tm tm':PT AV} {objs objs':List Ob} {dl:List Dl} {g:FuncId} {args args':List AV} {r r':AV} {A A':List Ob} {x:DV}
end
set_option maxRecDepth 10000
theorem Run.dropLast {P:Program} {nt m:Nat} {ro':Option Nat} {K:Ex->S->Prop} {c:Code} {tm:PT AV} {O:List Ob} {ds:List DV} (l:List (Nat × AV)) (h:Run P nt m ro' c ⟨PT.ofList l,O,[]⟩ K) (hm:m<=O.length) (hO:O.all (refOb O.length)=true)
  (ht:∀ t v,(PT.ofList l).get? t=some v->tm.get? t=some v\/∃ off,off<=ds.length/\tm.get? t=some (.bp O.length off)/\v=.d (.ep (ds.drop off))) (hr:allQ (refA 8 O.length) l):Run P nt m ro' c ⟨tm,O++[.box (ds.map .d)],[]⟩ K:=by
 refine Run.freeze O.length (tm':=PT.ofList l) (objs':=O++[.gone]) (ds:=ds) ?_ (by simp) (by rw [List.set_append_right _ _ (Nat.le_refl _)];simp) ht;refine Run.trunc O.length (by simpa using hm) ?_ ?_
 .simp only [refS,ptAll_ofList hr,List.take_left,hO,List.all_nil,Bool.and_self]
 .simpa [S.trunc] using h
theorem Run.imp {P:Program} {nt m:Nat} {ro':Option Nat} {K K':Ex->S->Prop} {c:Code} {s:S} (h:Run P nt m ro' c s K) (f:∀ e s',K e s'->K' e s'):Run P nt m ro' c s K' :=
 fun D0 β0 o0 w0 hb0 ro Q a w hro hK hs=>h D0 β0 o0 w0 hb0 ro Q a w hro (fun e s1 hk=>hK e s1 (f e s1 hk)) hs
theorem ayield_box {P:Program} {L:Nat} {B B' X X':List Ob} {args:List AV} {tm:PT AV} {nt:Nat} {frz:List Nat} {qs:Array Tmp} {assign body:Code} (ds:List DV) (l:List (Nat × AV))
  (hlen:args.length=qs.size) (hlt:qs.toList.all (fun t=>Nat.blt t nt)=true) (hB:B.length=L) (hB':B'.length=L)
  (hBr:B.all (refOb (L+2+X.length))=true) (hXr:X.all (refOb (L+2+X.length))=true) (hT:ptAll (refA 8 (L+2+X.length)) tm=true) (hl:allQ (refA 8 (L+2+X.length)) l)
  (has:Run P nt (L+2+X.length) (some (L+1)) assign ⟨setTms tm (qs.toList.zip args),rangeObs B tm nt frz qs assign body .ready none++X,[]⟩ (fun e s1=>e=.normal/\∃ tmA,s1=⟨tmA,(rangeObs B tm nt frz qs assign body .ready none++X)++[.box (ds.map .d)],[]⟩ /\
   (∀ t v,(PT.ofList l).get? t=some v->tmA.get? t=some v\/∃ off,off<=ds.length/\tmA.get? t=some (.bp (rangeObs B tm nt frz qs assign body .ready none++X).length off)/\v=.d (.ep (ds.drop off)))))
  (hbody:∀ a b,refOb (L+2+X.length) a=true->refOb (L+2+X.length) b=true->Run P nt (L+2+X.length) (some (L+1)) body ⟨PT.ofList l,B++[a,b]++X,[]⟩ (fun e s2=>e=.normal/\s2.objs=B'++[a,b]++X')) :
  AYield P (L+1) args (rangeObs B tm nt frz qs assign body .ready none++X) (.d (.bool true)) (rangeObs B' tm nt frz qs assign body .ready none++X'):=by
 have hO:∀ st,(rangeObs B tm nt frz qs assign body st none++X).length=L+2+X.length:=fun st=>by simp [rangeObs,hB];omega
 have hget:∀ (C:List Ob) st (Z:List Ob),C.length=L->(rangeObs C tm nt frz qs assign body st none++Z)[L+1]?=some (.loop tm nt frz qs assign body st none):=fun C st Z hC=>by
  subst hC;simp [rangeObs]
 have hset:∀ (C:List Ob) st st' (Z:List Ob),C.length=L->(rangeObs C tm nt frz qs assign body st none++Z).set (L+1) (.loop tm nt frz qs assign body st' none)=rangeObs C tm nt frz qs assign body st' none++Z:=fun C st st' Z hC=>by
  subst hC;rw [List.set_append_left _ _ (by simp [rangeObs])]
  congr 1
  unfold rangeObs;rw [List.set_append_right _ _ (by simp)]
  simp
 refine ayield_of_run (i:=L+1) (hget B _ X hB) hlen hlt ?_;rw [hO];refine has.imp ?_;rintro e s1 ⟨rfl,tmA,rfl,htA⟩;refine⟨rfl,tm,nt,frz,qs,assign,body,none,?_,?_⟩
 .show(rangeObs B tm nt frz qs assign body .ready none++X++[Ob.box (ds.map .d)])[L+1]?=_
  rw [List.append_assoc];exact hget B _ _ hB
 .show Run P nt _ _ body ⟨tmA,(rangeObs B tm nt frz qs assign body .ready none++X++[Ob.box (ds.map .d)]).set (L+1) (.loop tm nt frz qs assign body .busy none),[]⟩ _
  rw [List.append_assoc,hset B _ _ _ hB,<- List.append_assoc];have hloop:refOb (L+2+X.length) (.loop tm nt frz qs assign body .busy none)=true:=by simp only [refOb,hT,Bool.and_self]
  refine Run.dropLast (ds:=ds) l ?_ (by rw [hO];exact Nat.le_refl _) ?_ (fun t v hv=>?_) (by rw [hO];exact hl)
  .rw [show rangeObs B tm nt frz qs assign body .busy none++X=B++[Ob.raw (.deferred (some [])),Ob.loop tm nt frz qs assign body .busy none]++X from by simp [rangeObs]]
   refine(hbody _ _ rfl hloop).imp ?_;rintro e ⟨tm2,o2,d2⟩ ⟨rfl,he⟩;simp only at he;subst he;have e1:∀ st,B'++[Ob.raw (.deferred (some [])),Ob.loop tm nt frz qs assign body st none]++X'=rangeObs B' tm nt frz qs assign body st none++X':=fun st=>by simp [rangeObs]
   refine⟨tm,nt,frz,qs,assign,body,.busy,none,?_,rfl,?_⟩
   .show(B'++_++X')[L+1]?=_
    rw [e1];exact hget B' _ _ hB'
   .show _=(B'++_++X').set (L+1) _
    rw [e1,hset B' _ _ _ hB']
  .rw [hO]
   unfold rangeObs;simp only [List.all_append,hBr,hXr,List.all_cons,List.all_nil,Bool.true_and,Bool.and_true,hloop]
   rfl
  .rcases htA t v hv with h1|h1
   .exact .inl h1
   .rw [hO] at h1 |-;exact .inr h1
section
variable {E:PT Ty} {H:Hd} {frz:List Nat} {rd:Operand->AV} {O:List Ob} {o:Oper} {t:TypeId} {x xv:Operand} {y:Ty} {cs:List AV} {v:AV} {i:Nat}
theorem evAny_store_last (hop:o.op=.store t x xv:=by rfl) (hy:E.get? t=some y:=by rfl) (hx:rd x=.bp i 0:=by rfl) (hi:i=O.length:=by rfl) (hv:rd xv=v:=by rfl) (hk:knownA v=true:=by rfl) (hl:Nat.beq v.cells.length y.size=true:=by rfl) (hc:Nat.beq cs.length y.size=true:=by rfl) :
  evAny E H frz rd (O++[.box cs]) o=some (.d .any,some (O++[.box v.cells]),true):=by
 subst hi;obtain⟨dst,op,ty,pos,after,guard⟩:=o;simp only at hop;subst hop;have h1:evAny E H frz rd (O++[.box cs]) ⟨dst,.store t x xv,ty,pos,after,guard⟩=Option.map (fun(p:AV × List Ob × Bool)=>(p.1,some p.2.1,p.2.2)) (storeR E t (.bp O.length 0) v (O++[.box cs])):=by
  simp only [evAny,quiet,evOp,hx,hv]
 rw [h1,store_last hy O cs hk hl hc]
 rfl
end
abbrev OpK:=PT Ty->Hd->List Nat->(Operand->AV)->List Ob->Option Tmp->R2
def qm (r:R):R2:=r.map fun p=>(p.1,none,p.2.2)
def lm (r:R):R2:=r.map fun p=>(p.1,some p.2.1,p.2.2)
def pm (v:AV):R2:=some (v,none,true)
def getF (t:PT AV):Nat->Option AV :=
 PT.rec (motive:=fun _=>Nat->Option AV) (fun _=>none)
  (fun _ v _ gl gr n=>Bool.rec (motive:=fun _=>Option AV) (Bool.rec (motive:=fun _=>Option AV) (gr (Nat.pred (Nat.div n 2))) (gl (Nat.div n 2)) (Nat.beq (Nat.mod n 2) 1)) v (Nat.beq n 0)) t
def setPF (t:PT AV):Nat->AV->PT AV :=
 PT.rec (motive:=fun _=>Nat->AV->PT AV) (fun n v=>PT.single v 64 n)
  (fun l u r sl sr n v=>Bool.rec (motive:=fun _=>PT AV) (Bool.rec (motive:=fun _=>PT AV) (.node l u (sr (Nat.pred (Nat.div n 2)) v)) (.node (sl (Nat.div n 2) v) u r) (Nat.beq (Nat.mod n 2) 1)) (.node l (some v) r) (Nat.beq n 0)) t
def orAny (o:Option AV):AV:=Option.rec (motive:=fun _=>AV) (.d .any) (fun v=>v) o
def rdF (tm:PT AV) (x:Operand):AV :=
 Operand.rec (motive:=fun _=>PT AV->AV) (fun t tm=>orAny (getF tm t)) (fun v _=>.d ((ofVal v).getD .any)) (fun _ _=>.d .any) (fun f _=>.d (.fn (.func f) [] [])) x tm
theorem rdF_eq:rdF=rd:=by
 funext tm x
 cases x with
 |tmp t =>
  show orAny (tm.get? t)=(tm.get? t).getD (.d .any)
  cases tm.get? t<;>rfl
 |_=>rfl
def dOf:AV->Option DV:=AV.rec (motive_1:=fun _=>Option DV) (motive_2:=fun _=>Option DV) (fun x=>some x) (fun _ _=>none) (fun _ _ _=>none) (fun _ _ _ _=>none) (fun _=>none) (fun _ _ _ _ _=>none) (fun _ _=>none) (fun _ _=>none) (fun _=>none)
 (fun _ _ _ _=>none) (fun _=>none) none (fun _ _ _ _=>none)
theorem dOf_ok {x:AV} {y:DV} (h:dOf x=some y):x=.d y:=by
 cases x<;>first|(cases h;done)|(cases h;rfl)
def iOf:DV->Option (IntKind × Int):=fun x=>DV.casesOn (motive_1:=fun _=>Option (IntKind × Int)) x none (fun _=>none) (fun k n=>some (k,n)) (fun _=>none) none none none none none (fun _ _=>none) (fun _=>none) (fun _ _ _=>none) (fun _=>none) (fun _ _=>none)
theorem iOf_ok {x:DV} {p:IntKind × Int} (h:iOf x=some p):x=.int p.1 p.2:=by
 cases x<;>first|(cases h;done)|(cases h;rfl)
def diOf (x:AV):Option (IntKind × Int):=Option.rec (motive:=fun _=>Option (IntKind × Int)) none iOf (dOf x)
theorem diOf_ok {x:AV} {p:IntKind × Int} (h:diOf x=some p):x=.d (.int p.1 p.2):=by
 unfold diOf at h;cases hd:dOf x with
 |none=>rw [hd] at h;cases h
 |some y=>rw [hd] at h;rw [dOf_ok hd,iOf_ok h]
def kB:IntKind->IntKind->Bool :=
 IntKind.rec (motive:=fun _=>IntKind->Bool)
  (IntKind.rec (motive:=fun _=>Bool) true false false false false false false false) (IntKind.rec (motive:=fun _=>Bool) false true false false false false false false)
  (IntKind.rec (motive:=fun _=>Bool) false false true false false false false false) (IntKind.rec (motive:=fun _=>Bool) false false false true false false false false)
  (IntKind.rec (motive:=fun _=>Bool) false false false false true false false false) (IntKind.rec (motive:=fun _=>Bool) false false false false false true false false)
  (IntKind.rec (motive:=fun _=>Bool) false false false false false false true false) (IntKind.rec (motive:=fun _=>Bool) false false false false false false false true)
theorem kB_eq (k k':IntKind):kB k k'=kindB k k':=by cases k<;>cases k'<;>rfl
def wrapF (k:IntKind) (n:Int):Int :=
 Int.rec (motive:=fun _=>IntKind->Int) (fun m k=>Bool.rec (motive:=fun _=>Int) (k.wrap (.ofNat m)) (.ofNat m) (Nat.ble m 127)) (fun m k=>k.wrap (.negSucc m)) n k
theorem wrapF_eq (k:IntKind) (n:Int):wrapF k n=k.wrap n:=by
 cases n with
 |negSucc m=>rfl
 |ofNat m =>
  show Bool.rec (motive:=fun _=>Int) (k.wrap (.ofNat m)) (.ofNat m) (Nat.ble m 127)=_
  cases h:Nat.ble m 127 with
  |false=>rfl
  |true =>
   have:=Nat.le_of_ble_eq_true h
   show Int.ofNat m=k.wrap (Int.ofNat m)
   have e:(Int.ofNat m)=(m:Int):=rfl;rw [e];cases k<;>simp [IntKind.wrap,IntKind.bits,IntKind.signed]<;>omega
def ltI (a b:Int):Bool :=
 Int.rec (motive:=fun _=>Int->Bool) (fun a=>Int.rec (motive:=fun _=>Bool) (fun b=>Nat.ble (a+1) b) (fun _=>false)) (fun a=>Int.rec (motive:=fun _=>Bool) (fun _=>true) (fun b=>Nat.ble (b+1) a)) a b
theorem ltI_eq (a b:Int):ltI a b=decide (a<b):=by
 cases a with
 |ofNat a=>cases b with
  |ofNat b =>
   show Nat.ble (a+1) b=_
   cases h:Nat.ble (a+1) b with
   |true=>have:=Nat.le_of_ble_eq_true h;simp;omega
   |false =>
    have:¬ a+1<=b:=fun h'=>by rw [Nat.ble_eq_true_of_le h'] at h;cases h
    simp;omega
  |negSucc b=>show false=_;simp;omega
 |negSucc a=>cases b with
  |ofNat b=>show true=_;simp;omega
  |negSucc b =>
   show Nat.ble (b+1) a=_
   cases h:Nat.ble (b+1) a with
   |true=>have:=Nat.le_of_ble_eq_true h;simp;omega
   |false =>
    have:¬ b+1<=a:=fun h'=>by rw [Nat.ble_eq_true_of_le h'] at h;cases h
    simp;omega
def eqI (a b:Int):Bool :=
 Int.rec (motive:=fun _=>Int->Bool) (fun a=>Int.rec (motive:=fun _=>Bool) (fun b=>Nat.beq a b) (fun _=>false)) (fun a=>Int.rec (motive:=fun _=>Bool) (fun _=>false) (fun b=>Nat.beq a b)) a b
theorem beq_dec (a b:Nat):Nat.beq a b=decide (a=b):=by
 cases h:Nat.beq a b with
 |true=>rw [Nat.eq_of_beq_eq_true h];simp
 |false=>simp [Nat.ne_of_beq_eq_false h]
theorem eqI_eq (a b:Int):eqI a b=(a == b):=by
 rw [Bool.eq_iff_iff];rw [beq_iff_eq];cases a with
 |ofNat a=>cases b with
  |ofNat b=>show Nat.beq a b=true ↔ _;rw [beq_dec];simp;omega
  |negSucc b=>show false=true ↔ _;simp
 |negSucc a=>cases b with
  |ofNat b=>show false=true ↔ _;simp
  |negSucc b=>show Nat.beq a b=true ↔ _;rw [beq_dec];simp
abbrev IK:=IntKind->IntKind->Int->Int->List Ob->R2
def slowI (op:BinOp) (k k':IntKind) (a b:Int) (objs:List Ob):R2 :=
 qm (match op with
  |.shl|.shr=>(shiftI op k a b).map fun p=>(.d (.int k p.1),objs,p.2)
  |_=>if kindB k k' then(intI op k a b).map fun p=>(.d p.1,objs,p.2) else none)
def opI (v:DV) (g:Bool):R2:=Bool.rec (motive:=fun _=>R2) none (pm (.d v)) g
def intF:BinOp->IK :=
 BinOp.rec (motive:=fun _=>IK)
  (fun k k' a b _=>opI (.int k (wrapF k (Int.add a b))) (kB k k')) (fun k k' a b _=>opI (.int k (wrapF k (Int.sub a b))) (kB k k')) (fun k k' a b _=>opI (.int k (wrapF k (Int.mul a b))) (kB k k'))
  (slowI .quo) (slowI .rem) (slowI .and) (slowI .or) (slowI .xor) (slowI .shl) (slowI .shr) (slowI .andNot)
  (fun k k' a b _=>opI (.bool (eqI a b)) (kB k k')) (fun k k' a b _=>opI (.bool (!(eqI a b))) (kB k k')) (fun k k' a b _=>opI (.bool (ltI a b)) (kB k k')) (fun k k' a b _=>opI (.bool (!(ltI b a))) (kB k k'))
  (fun k k' a b _=>opI (.bool (ltI b a)) (kB k k')) (fun k k' a b _=>opI (.bool (!(ltI a b))) (kB k k'))
theorem intF_eq (op:BinOp) (k k':IntKind) (a b:Int) (objs:List Ob):intF op k k' a b objs=slowI op k k' a b objs:=by
 have go:∀ (v:DV) (x:Option (DV × Bool)),x=some (v,true)->opI v (kB k k')=qm (if kindB k k' then x.map fun p=>(.d p.1,objs,p.2) else none):=by
  intro v x hx;subst hx;rw [kB_eq];cases kindB k k'<;>rfl
 have e1:(decide (a<=b))=!(ltI b a):=by rw [ltI_eq];by_cases h:a<=b<;>simp [h]<;>omega
 have e2:(decide (a >= b))=!(ltI a b):=by rw [ltI_eq];by_cases h:a >= b<;>simp [h]<;>omega
 cases op<;>first
  |rfl
  |(refine go _ _ ?_;simp only [intI,wrapF_eq,eqI_eq,ltI_eq,e1,e2,bne];done)
  |(refine go _ _ ?_;simp only [intI,wrapF_eq];rfl)
  |(refine go _ _ ?_;simp only [intI,wrapF_eq,eqI_eq,e1,e2,bne];simp [ltI_eq])
def binF (E:PT Ty) (op:BinOp) (t:TypeId) (lit:Bool) (x y:AV) (objs:List Ob):R2 :=
 Option.rec (motive:=fun _=>PT Ty->BinOp->TypeId->Bool->AV->AV->List Ob->R2) (fun E op t lit x y objs=>qm (binR E op t lit x y objs))
  (fun p E op t lit x y objs=>Option.rec (motive:=fun _=>(IntKind × Int)->PT Ty->BinOp->TypeId->Bool->AV->AV->List Ob->R2) (fun _ E op t lit x y objs=>qm (binR E op t lit x y objs))
   (fun q p _ op _ _ _ _ objs=>intF op p.1 q.1 p.2 q.2 objs) (diOf y) p E op t lit x y objs) (diOf x) E op t lit x y objs
theorem binF_eq (E:PT Ty) (op:BinOp) (t:TypeId) (lit:Bool) (x y:AV) (objs:List Ob):binF E op t lit x y objs=qm (binR E op t lit x y objs):=by
 unfold binF;cases hx:diOf x with
 |none=>rfl
 |some p =>
  dsimp only;cases hy:diOf y with
  |none=>rfl
  |some q =>
   dsimp only;rw [diOf_ok hx,diOf_ok hy]
   show intF op p.1 q.1 p.2 q.2 objs=_
   rw [intF_eq]
   rfl
def valueF (f:Operand) (args:Array Operand) (H:Hd) (frz:List Nat) (rd:Operand->AV) (objs:List Ob) (dst:Option Tmp):R2 :=
 match rd f with
 |.d (.fn (.func g) a b)=>match hintO dst frz with
  |true=>(H.opn g (a.map .d++args.toList.map rd++b.map .d) objs).map fun p=>(p.1,some p.2,true)
  |false=>(H.call g (a.map .d++args.toList.map rd++b.map .d) objs).map fun p=>(p.1,p.2,true)
 |.fn (.func g) a b=>(H.call g (a++args.toList.map rd++b) objs).map fun p=>(p.1,p.2,true)
 |.yl i=>(H.yld i (args.toList.map rd) objs).map fun p=>(p.1,some p.2,true)
 |_=>none
def appendF (args:Array Operand) (ts:Array TypeId) (E:PT Ty) (frz:List Nat) (rd:Operand->AV) (objs:List Ob) (dst:Option Tmp):R2 :=
 match args.toList,ts.toList with
 |[s,x],[ts,tx]=>(appendR E (hintV dst frz) ts tx (rd s) (rd x) objs).map fun p=>(p.1,some p.2.1,p.2.2)
 |_,_=>none
abbrev BK:=Array Operand->Array TypeId->OpK
def quietB (b:Builtin):BK:=fun args ts E _ _ rd objs _=>qm (evOp E rd objs (.call ⟨.builtin b,args,ts⟩))
def loudB (b:Builtin):BK:=fun args ts E _ _ rd objs _=>lm (evOp E rd objs (.call ⟨.builtin b,args,ts⟩))
def callF (c:Callee):BK :=
 Callee.rec (motive:=fun _=>BK) (fun f args _ _ H frz rd objs dst=>valueF f args H frz rd objs dst) (fun r m args ts E _ _ rd objs _=>lm (evOp E rd objs (.call ⟨.invoke r m,args,ts⟩)))
  (fun b=>match b with
   |.append=>fun args ts E _ frz rd objs dst=>appendF args ts E frz rd objs dst
   |.unsafeSliceData=>quietB .unsafeSliceData|.len=>quietB .len|.cap=>quietB .cap|.min=>quietB .min|.max=>quietB .max
   |b=>loudB b) c
def boxF (e:TypeId) (x:Operand):OpK:=fun E _ frz rd objs dst =>
 match (match dst with|some d=>memN d frz|none=>false) && (match allF (rd x).cells with|some _=>true|none=>false) with
 |true=>(boxER (rd x) objs).map fun p=>(p.1,none,p.2.2)
 |false=>(evOp E rd objs (.box e x)).map fun p=>(p.1,some p.2.1,p.2.2)
def rowF (t:TypeId) (len:Nat) (parts:Array (Nat × Operand)):OpK:=fun E _ frz rd objs dst =>
 match (match dst with|some d=>memN d frz|none=>false) with
 |true=>(buildSliceR E false t len (parts.toList.map fun p=>(p.1,rd p.2)) objs).map fun p=>(p.1,none,p.2.2)
 |false=>match hintV dst frz with
  |true=>(buildVecR E t len (parts.toList.map fun p=>(p.1,rd p.2)) objs).map fun p=>(p.1,some p.2.1,p.2.2)
  |false=>(evOp E rd objs (.buildSlice t len parts)).map fun p=>(p.1,some p.2.1,p.2.2)
def panicF (x:Operand):OpK:=fun _ _ _ rd _ _=>match rd x with
 |.d (.iface t v)=>some (.pan (.iface t v),none,true)
 |_=>none
def loudO (o:Op):OpK:=fun E _ _ rd objs _=>lm (evOp E rd objs o)
def quietO (o:Op):OpK:=fun E _ _ rd objs _=>qm (evOp E rd objs o)
def sliceF (t:TypeId) (x:Operand) (lo hi:Option Operand) (mx:Option Operand):OpK :=
 Option.rec (motive:=fun _=>TypeId->Operand->Option Operand->Option Operand->OpK) (fun t x lo hi E _ _ rd objs _=>qm (sliceR E t (rd x) (lo.map rd) (hi.map rd) none objs))
  (fun mx t x lo hi=>loudO (.slice t x lo hi (some mx))) mx t x lo hi
def opF:Op->OpK :=
 Op.rec (motive:=fun _=>OpK)
  (fun x _ _ _ rd _ _=>pm (rd x))
  (fun x _ _ _ rd _ _=>pm (rd x))
  (fun c a b _ _ _ rd objs _=>qm (pickR (rd c) (rd a) (rd b) objs))
  (fun t E _ _ _ objs _=>lm (allocR E t objs))
  boxF
  (fun t parts E _ _ rd objs _=>qm (buildR E t (parts.toList.map fun p=>(p.1,rd p.2)) objs))
  rowF
  (fun t m k v=>loudO (.insert t m k v))
  (fun t a E _ _ rd objs _=>qm (loadR E t (rd a) objs))
  (fun t a v E _ _ rd objs _=>lm (storeR E t (rd a) (rd v) objs))
  (fun g=>loudO (.ready g))
  (fun g=>loudO (.waits g))
  (fun x _ _ _ rd objs _=>qm (nilCheckR (rd x) objs))
  (fun op t x y _ E _ _ rd objs _=>binF E op t (isC x || isC y) (rd x) (rd y) objs)
  (fun op _ x _ _ _ rd objs _=>qm (unR op (rd x) objs))
  (fun s d x=>quietO (.convert s d x))
  (fun d x=>loudO (.sliceToArrayPointer d x))
  (fun t x E _ _ rd objs _=>qm (mkIfaceR E t (rd x) objs))
  (fun f a b _ _ _ rd objs _=>qm (funcR f (a.toList.map rd) (b.toList.map rd) objs))
  (fun t r=>loudO (.makeMap t r))
  (fun t s=>loudO (.makeChan t s))
  (fun t l c=>loudO (.makeSlice t l c))
  sliceF
  (fun t x f E _ _ rd objs _=>qm (fieldAddrR E t (rd x) f objs))
  (fun t x f E _ _ rd objs _=>qm (fieldR E t (rd x) f objs))
  (fun t x i E _ _ rd objs _=>qm (indexAddrR E t (rd x) (rd i) objs))
  (fun t x i E _ _ rd objs _=>qm (indexR E t (rd x) (rd i) objs))
  (fun t x i ok E _ _ rd objs _=>qm (lookupR E t (rd x) (rd i) ok objs))
  (fun t m k v=>loudO (.mapUpdate t m k v))
  (fun t m k=>loudO (.mapEntry t m k))
  (fun t m s v=>loudO (.entryStore t m s v))
  (fun t x=>loudO (.range t x))
  (fun i s=>loudO (.next i s))
  (fun i=>loudO (.entry i))
  (fun x t a ok E _ _ rd objs _=>qm (assertR E a ok (rd x) objs))
  (fun t i _ _ _ rd objs _=>qm (extractR (rd t) i objs))
  (fun c=>callF c.callee c.args c.argTypes)
  (fun c=>loudO (.go c))
  (fun c=>loudO (.defer c))
  panicF
  (fun c x=>loudO (.send c x))
  (fun t c ok=>loudO (.recv t c ok))
  (fun cs b=>loudO (.select cs b))
theorem opF_eq (E:PT Ty) (H:Hd) (frz:List Nat) (rd:Operand->AV) (objs:List Ob) (o:Oper):opF o.op E H frz rd objs o.dst=evAny E H frz rd objs o:=by
 obtain⟨dst,op,ty,pos,after,guard⟩:=o;cases op with
 |binOp op t x y yt=>exact binF_eq E op t _ _ _ objs
 |slice t x lo hi mx=>cases mx<;>rfl
 |call c =>
  obtain⟨callee,args,ts⟩:=c;cases callee with
  |value f=>rfl
  |invoke r m=>rfl
  |builtin b=>cases b<;>rfl
 |_=>rfl
def guardF (ops:Array Oper) (rd:Operand->AV) (o:Oper):Option Bool :=
 Option.rec (motive:=fun _=>Array Oper->(Operand->AV)->Oper->Option Bool) (fun _ _ _=>some true) (fun _ ops rd o=>guardA ops rd o) o.guard ops rd o
theorem guardF_eq (ops:Array Oper) (rd:Operand->AV) (o:Oper):guardF ops rd o=guardA ops rd o:=by
 obtain⟨dst,op,ty,pos,after,guard⟩:=o;cases guard<;>rfl
def setF (nt:Nat) (tm:PT AV) (dst:Option Tmp) (v:AV):Option (PT AV) :=
 Option.rec (motive:=fun _=>Nat->PT AV->AV->Option (PT AV)) (fun _ tm _=>some tm) (fun d nt tm v=>Bool.rec (motive:=fun _=>Option (PT AV)) none (some (setPF tm d v)) (Nat.ble (Nat.succ d) nt)) dst nt tm v
theorem setF_eq (nt:Nat) (tm:PT AV) (dst:Option Tmp) (v:AV):setF nt tm dst v=setD nt tm dst v:=by
 cases dst with
 |none=>rfl
 |some d =>
  show Bool.rec (motive:=fun _=>Option (PT AV)) none (some (tm.set d v)) (Nat.ble (d+1) nt)=(match Nat.blt d nt with|true=>some (tm.set d v)|false=>none)
  show _=(match Nat.ble (d+1) nt with|true=>some (tm.set d v)|false=>none)
  cases Nat.ble (d+1) nt<;>rfl
def panOf:AV->Option DV:=AV.rec (motive_1:=fun _=>Option DV) (motive_2:=fun _=>Option DV) (fun _=>none) (fun _ _=>none) (fun _ _ _=>none) (fun _ _ _ _=>none) (fun _=>none) (fun _ _ _ _ _=>none) (fun _ _=>none) (fun _ _=>none) (fun _=>none)
 (fun _ _ _ _=>none) (fun x=>some x) none (fun _ _ _ _=>none)
abbrev XR:=Option (Ex × S)
def goX (nt:Nat) (dst:Option Tmp) (ih:S->XR) (tm:PT AV) (objs:List Ob) (dl:List Dl) (v:AV):XR :=
 Option.rec (motive:=fun _=>(S->XR)->List Ob->List Dl->XR) (fun _ _ _=>none) (fun tm ih objs dl=>ih ⟨tm,objs,dl⟩) (setF nt tm dst v) ih objs dl
def ansX (nt:Nat) (o:Oper) (ih:S->XR) (s:S) (v:AV) (ob:Option (List Ob)):XR :=
 Option.rec (motive:=fun _=>Nat->Oper->(S->XR)->S->AV->Option (List Ob)->XR) (fun nt o ih s v ob=>goX nt o.dst ih s.tm (ob.getD s.objs) s.dl v) (fun x _ _ _ s _ ob=>some (.pan x,⟨s.tm,ob.getD s.objs,s.dl⟩)) (panOf v) nt o ih s v ob
def slowX (E:PT Ty) (H:Hd) (nt:Nat) (df:Bool) (o:Oper) (ih:S->XR) (s:S):XR :=
 match isDefer o.op with
 |true=>match df,deferOf (rd s.tm) o.op,o.dst with
  |true,some (g,args),none=>ih ⟨s.tm,s.objs,.call g args :: s.dl⟩
  |_,_,_=>none
 |false=>none
def doX (E:PT Ty) (H:Hd) (frz:List Nat) (nt:Nat) (df:Bool) (o:Oper) (ih:S->XR) (s:S):XR :=
 Option.rec (motive:=fun _=>PT Ty->Hd->Nat->Bool->Oper->(S->XR)->S->XR) slowX
  (fun p _ _ nt _ o ih s=>Prod.rec (motive:=fun _=>Nat->Oper->(S->XR)->S->XR)
   (fun v q nt o ih s=>Prod.rec (motive:=fun _=>AV->Nat->Oper->(S->XR)->S->XR) (fun ob fl v nt o ih s=>Bool.rec (motive:=fun _=>XR) none (ansX nt o ih s v ob) fl) q v nt o ih s) p nt o ih s)
  (opF o.op E H frz (rdF s.tm) s.objs o.dst) E H nt df o ih s
def skipX (nt:Nat) (o:Oper) (ih:S->XR) (s:S):XR:=goX nt o.dst ih s.tm s.objs s.dl (.tup [])
def stepX (E:PT Ty) (H:Hd) (frz:List Nat) (nt:Nat) (df:Bool) (ops:Array Oper) (o:Oper) (_:List Oper) (ih:S->XR) (s:S):XR :=
 Option.rec (motive:=fun _=>PT Ty->Hd->List Nat->Nat->Bool->Oper->(S->XR)->S->XR) (fun _ _ _ _ _ _ _ _=>none)
  (fun b=>Bool.rec (motive:=fun _=>PT Ty->Hd->List Nat->Nat->Bool->Oper->(S->XR)->S->XR) (fun _ _ _ nt _ o ih s=>skipX nt o ih s) doX b) (guardF ops (rdF s.tm) o) E H frz nt df o ih s
def nilX (s:S):XR:=some (.normal,s)
def evOpsXF (E:PT Ty) (H:Hd) (frz:List Nat) (nt:Nat) (df:Bool) (ops:Array Oper) (l:List Oper) (s:S):XR :=
 List.rec (motive:=fun _=>S->XR) nilX (stepX E H frz nt df ops) l s
theorem goX_eq (nt:Nat) (dst:Option Tmp) (ih:S->XR) (tm:PT AV) (objs:List Ob) (dl:List Dl) (v:AV):goX nt dst ih tm objs dl v=match setD nt tm dst v with|some tm=>ih ⟨tm,objs,dl⟩|none=>none:=by
 unfold goX;rw [setF_eq];cases setD nt tm dst v<;>rfl
theorem ansX_eq (nt:Nat) (o:Oper) (ih:S->XR) (s:S) (v:AV) (ob:Option (List Ob)):ansX nt o ih s v ob=match v with
  |.pan x=>some (.pan x,⟨s.tm,ob.getD s.objs,s.dl⟩)
  |v=>match setD nt s.tm o.dst v with|some tm=>ih ⟨tm,ob.getD s.objs,s.dl⟩|none=>none:=by
 unfold ansX;cases v<;>first|rfl|exact goX_eq _ _ _ _ _ _ _
theorem evAny_defer {E:PT Ty} {H:Hd} {frz:List Nat} {rd:Operand->AV} {objs:List Ob} {o:Oper} (h:isDefer o.op=true):evAny E H frz rd objs o=none:=by
 obtain⟨dst,op,ty,pos,after,guard⟩:=o;cases op<;>first|(cases h;done)|rfl
theorem doX_eq (E:PT Ty) (H:Hd) (frz:List Nat) (nt:Nat) (df:Bool) (o:Oper) (ih:S->XR) (s:S):doX E H frz nt df o ih s =
  match isDefer o.op with
   |true=>match df,deferOf (rd s.tm) o.op,o.dst with
    |true,some (g,args),none=>ih ⟨s.tm,s.objs,.call g args :: s.dl⟩
    |_,_,_=>none
   |false=>match evAny E H frz (rd s.tm) s.objs o with
    |some (v,ob,true)=>match v with
     |.pan x=>some (.pan x,⟨s.tm,ob.getD s.objs,s.dl⟩)
     |v=>match setD nt s.tm o.dst v with
      |some tm=>ih ⟨tm,ob.getD s.objs,s.dl⟩
      |none=>none
    |_=>none:=by
 unfold doX;rw [rdF_eq,opF_eq];cases hd:isDefer o.op with
 |true =>
  rw [evAny_defer hd]
  show slowX E H nt df o ih s=_
  unfold slowX;rw [hd]
 |false =>
  cases hv:evAny E H frz (rd s.tm) s.objs o with
  |none =>
   show slowX E H nt df o ih s=_
   unfold slowX;rw [hd]
  |some p =>
   obtain⟨v,ob,fl⟩:=p;cases fl with
   |false=>rfl
   |true=>exact ansX_eq nt o ih s v ob
theorem evOpsXF_eq (E:PT Ty) (H:Hd) (frz:List Nat) (nt:Nat) (df:Bool) (ops:Array Oper):∀ (l:List Oper) (s:S),evOpsXF E H frz nt df ops l s=evOpsX E H frz nt df ops l s
 |[],s=>rfl
 |o :: l,s=>by
  show stepX E H frz nt df ops o l (evOpsXF E H frz nt df ops l) s=_
  have hl:evOpsXF E H frz nt df ops l=evOpsX E H frz nt df ops l:=funext fun s=>evOpsXF_eq E H frz nt df ops l s;rw [hl];unfold stepX evOpsX;rw [rdF_eq,guardF_eq];cases hg:guardA ops (rd s.tm) o with
  |none=>rfl
  |some b =>
   cases b with
   |true=>exact doX_eq E H frz nt df o _ s
   |false=>exact goX_eq _ _ _ _ _ _ _
abbrev CK:=PT Ty->Hd->List Nat->Nat->Option Nat->(Code->S->XR)->S->XR
def seqK (ih:Code->S->XR) (b:Code) (r:XR):XR :=
 Option.rec (motive:=fun _=>(Code->S->XR)->Code->XR) (fun _ _=>none)
  (fun p=>Prod.rec (motive:=fun _=>(Code->S->XR)->Code->XR) (fun e s1=>Ex.rec (motive:=fun _=>S->(Code->S->XR)->Code->XR) (fun s ih b=>ih b s) (fun i s _ _=>some (.exit i,s)) (fun l s _ _=>some (.goto l,s)) (fun s _ _=>some (.ret,s)) (fun x s _ _=>some (.pan x,s)) e s1) p) r ih b
def blockK (id:Nat) (r:XR):XR :=
 Option.rec (motive:=fun _=>Nat->XR) (fun _=>none)
  (fun p=>Prod.rec (motive:=fun _=>Nat->XR) (fun e s1=>Ex.rec (motive:=fun _=>S->Nat->XR) (fun s _=>some (.normal,s)) (fun i s id=>Bool.rec (motive:=fun _=>XR) (some (.exit i,s)) (some (.normal,s)) (Nat.beq i id)) (fun l s _=>some (.goto l,s)) (fun s _=>some (.ret,s)) (fun x s _=>some (.pan x,s)) e s1) p) r id
def scopeK (r:XR):XR:=match r with
 |some (.goto _,_)=>none
 |r=>r
def bOf:DV->Option Bool:=fun x=>DV.casesOn (motive_1:=fun _=>Option Bool) x none (fun b=>some b) (fun _ _=>none) (fun _=>none) none none none none none (fun _ _=>none) (fun _=>none) (fun _ _ _=>none) (fun _=>none) (fun _ _=>none)
def boolOf (x:AV):Option Bool:=Option.rec (motive:=fun _=>Option Bool) none bOf (dOf x)
def condK (c:Option Bool) (a b:Code) (ih:Code->S->XR) (s:S):XR :=
 Option.rec (motive:=fun _=>Code->Code->(Code->S->XR)->S->XR) (fun _ _ _ _=>none) (fun t=>Bool.rec (motive:=fun _=>Code->Code->(Code->S->XR)->S->XR) (fun _ b ih s=>ih b s) (fun a _ ih s=>ih a s) t) c a b ih s
theorem condK_eq (v:AV) (a b:Code) (ih:Code->S->XR) (s:S):condK (boolOf v) a b ih s=match v with
  |.d (.bool true)=>ih a s
  |.d (.bool false)=>ih b s
  |_=>none:=by
 cases v with
 |d x=>cases x with
  |bool t=>cases t<;>rfl
  |_=>rfl
 |_=>rfl
def rangeK (f:Operand) (ps:Array Tmp) (assign body:Code) (H:Hd) (frz:List Nat) (nt:Nat) (ro:Option Nat) (s:S):XR :=
 match rd s.tm f with
 |.d (.fn (.func g) a b)=>evCode.rangeA H frz nt ro g (a.map .d) (b.map .d) ps assign body s
 |.fn (.func g) a b=>evCode.rangeA H frz nt ro g a b ps assign body s
 |_=>none
def codeF:Code->CK :=
 Code.rec (motive:=fun _=>CK)
  (fun _ _ _ _ _ _ s=>some (.normal,s))
  (fun _ ops draw E H frz nt ro _ s=>Bool.rec (motive:=fun _=>PT Ty->Hd->List Nat->Nat->Option Nat->Array Oper->S->XR) (fun E H frz nt ro ops s=>evOpsXF E H frz nt (noRound ro) ops ops.toList s) (fun E H frz nt _ ops s=>evDraw E H frz nt ops s) draw E H frz nt ro ops s)
  (fun a b _ _ _ _ _ _ _ ih s=>seqK ih b (ih a s))
  (fun c a b _ _ _ _ _ _ _ ih s=>condK (boolOf (rdF s.tm c)) a b ih s)
  (fun id b _ _ _ _ _ _ ih s=>blockK id (ih b s))
  (fun b _ _ _ _ _ _ ih s=>seqK ih (.loop b) (ih b s))
  (fun f ps assign body _ _ _ H frz nt ro _ s=>rangeK f ps assign body H frz nt ro s)
  (fun id _ _ _ _ _ _ s=>some (.exit id,s))
  (fun b _ _ _ _ _ _ ih s=>scopeK (ih b s))
  (fun _ _ _ _ _ _ _ s=>some (.normal,s))
  (fun _ _ _ _ _ _ _ _=>none)
  (fun _ _ _ _ _ _ s=>some (.ret,s))
  (fun _ _ _ _ _ _ _ _=>none)
def evCodeF (E:PT Ty) (H:Hd) (frz:List Nat) (nt:Nat) (ro:Option Nat) (n:Nat):Code->S->XR :=
 Nat.rec (motive:=fun _=>Code->S->XR) (fun _ _=>none) (fun _ ih c s=>codeF c E H frz nt ro ih s) n
theorem seqK_eq (ih:Code->S->XR) (b:Code) (r:XR):seqK ih b r=match r with|some (.normal,s1)=>ih b s1|r=>r:=by
 cases r with
 |none=>rfl
 |some p=>obtain⟨e,s⟩:=p;cases e<;>rfl
theorem blockK_eq (id:Nat) (r:XR):blockK id r=match r with
  |some (.exit id',s1)=>match Nat.beq id' id with
   |true=>some (.normal,s1)
   |false=>some (.exit id',s1)
  |r=>r:=by
 cases r with
 |none=>rfl
 |some p =>
  obtain⟨e,s⟩:=p;cases e with
  |exit i =>
   show Bool.rec (motive:=fun _=>XR) (some (.exit i,s)) (some (.normal,s)) (Nat.beq i id)=match Nat.beq i id with
    |true=>some (.normal,s)
    |false=>some (.exit i,s)
   cases Nat.beq i id<;>rfl
  |_=>rfl
theorem evCodeF_eq (E:PT Ty) (H:Hd) (frz:List Nat) (nt:Nat) (ro:Option Nat):∀ (n:Nat),evCodeF E H frz nt ro n=evCode E H frz nt ro n
 |0=>by funext c s;rfl
 |n+1=>by
  funext c s
  show codeF c E H frz nt ro (evCodeF E H frz nt ro n) s=_
  rw [evCodeF_eq E H frz nt ro n];unfold codeF;rw [rdF_eq];cases c with
  |region id ops draw =>
   cases draw with
   |true=>rfl
   |false=>exact evOpsXF_eq E H frz nt (noRound ro) ops ops.toList s
  |seq a b=>exact seqK_eq _ b _
  |loop b=>exact seqK_eq _ (.loop b) _
  |block id b=>exact blockK_eq id _
  |cond c a b=>exact condK_eq _ a b _ s
  |_=>rfl
def evCallF (E:PT Ty) (F:FuncId->Option FnI) (H:Hd) (n:Nat) (f:FuncId) (args:List AV) (objs:List Ob):Option (AV × List Ob) :=
 match F f with
 |some i =>
  match Nat.beq args.length i.np && Nat.ble i.np i.nt with
  |true =>
   match evCodeF E H i.frz i.nt none n i.body ⟨initTm 0 args .nil,objs,[]⟩ with
   |some (e,s) =>
    match (match e with|.normal=>some none|.ret=>some none|.pan x=>some (some x)|_=>none) with
    |some m=>match evLeave H s.dl m s.objs with
     |some (none,objs')=>match evResults E ⟨s.tm,objs',[]⟩ i.results with
      |some r=>some (r,objs')
      |none=>none
     |some (some x,objs')=>some (.pan x,objs')
     |none=>none
    |none=>none
   |none=>none
  |false=>none
 |none=>none
theorem evCallF_eq:@evCallF=@evCall:=by
 funext E F H n f args objs
 unfold evCallF evCall;simp only [evCodeF_eq]
 rfl
def evYieldF (E:PT Ty) (H:Hd) (n:Nat) (i:Nat) (args:List AV) (objs:List Ob):Option (AV × List Ob) :=
 match objs[i]? with
 |some (.loop tm nt frz ps assign body .ready _) =>
  match Nat.beq args.length ps.size && ps.toList.all (fun t=>Nat.blt t nt) with
  |true =>
   match evCodeF E H frz nt (some i) n assign ⟨setTms tm (ps.toList.zip args),objs,[]⟩ with
   |some (.normal,s1) =>
    match s1.objs[i]? with
    |some (.loop tm' nt' frz' ps' as' bd' .ready pend') =>
     match evCodeF E H frz nt (some i) n body ⟨s1.tm,s1.objs.set i (.loop tm' nt' frz' ps' as' bd' .busy pend'),s1.dl⟩ with
     |some (e,s2) =>
      match s2.objs[i]? with
      |some (.loop tm'' nt'' frz'' ps'' as'' bd'' _ _) =>
       match e with
       |.normal=>some (.d (.bool true),s2.objs.set i (.loop tm'' nt'' frz'' ps'' as'' bd'' .ready none))
       |.pan _=>none
       |e=>some (.d (.bool false),s2.objs.set i (.loop tm'' nt'' frz'' ps'' as'' bd'' .done (jumpOf e)))
      |_=>none
     |none=>none
    |_=>none
   |_=>none
  |false=>none
 |_=>none
theorem evYieldF_eq:@evYieldF=@evYield:=by
 funext E H n i args objs
 unfold evYieldF evYield;simp only [evCodeF_eq]
 rfl
def evPureF (E:PT Ty) (F:FuncId->Option FnI) (H:Hd) (n:Nat) (f:FuncId) (args:List AV):Option AV :=
 match allF args with
 |some ds=>match evCallF E F H n f (ds.map .d) [] with
  |some (r,o)=>closeA o 8 r
  |none=>none
 |none=>none
def evLentF (E:PT Ty) (F:FuncId->Option FnI) (H:Hd) (n:Nat) (f:FuncId) (args:List AV) (objs:List Ob):Option AV :=
 match allM (dvOf objs 8) args with
 |some ds=>match evCallF E F H n f (ds.map .d) [] with
  |some (r,_)=>match flatAV r with
   |true=>some r
   |false=>none
  |none=>none
 |none=>none
def evBothF (E:PT Ty) (F:FuncId->Option FnI) (H:Hd) (n:Nat) (f:FuncId) (args:List AV) (objs:List Ob):Option (AV × Option (List Ob)) :=
 match (match F f with|some i=>memN 200000 i.frz|none=>false) with
 |true=>(evCallF E F H n f args objs).map fun p=>(p.1,some p.2)
 |false=>match allClosed args with
  |true=>match evPureF E F H n f args with
   |some r=>some (r,none)
   |none=>(evCallF E F H n f args objs).map fun p=>(p.1,some p.2)
  |false=>match (match F f with|some i=>memN 200001 i.frz|none=>false) with
   |true=>(evLentF E F H n f args objs).map fun r=>(r,some objs)
   |false=>(evCallF E F H n f args objs).map fun p=>(p.1,some p.2)
theorem evBothF_eq:@evBothF=@evBoth:=by
 funext E F H n f args objs
 unfold evBothF evBoth evPureF evPure evLentF evLent;simp only [evCallF_eq]
 rfl
def evLookF (T:Memo) (E:PT Ty) (F:FuncId->Option FnI) (H:Hd) (n:Nat) (f:FuncId) (args:List AV) (objs:List Ob):Option (AV × Option (List Ob)) :=
 match look T f args with
 |some r=>some (r,none)
 |none=>match (match allClosed args with|true=>false|false=>match F f with|some i=>memN 200001 i.frz|none=>false) with
  |true=>match allM (dvOf objs 8) args with
   |some ds=>match look T f (ds.map .d) with
    |some r=>match flatAV r with
     |true=>some (r,some objs)
     |false=>none
    |none=>evBothF E F H n f args objs
   |none=>none
  |false=>evBothF E F H n f args objs
theorem evLookF_eq:@evLookF=@evLook:=by
 funext T E F H n f args objs
 unfold evLookF evLook;simp only [evBothF_eq]<;>rfl
def hdlF (T:Memo) (E:PT Ty) (F:FuncId->Option FnI) (k n:Nat):Hd :=
 Nat.rec (motive:=fun _=>Hd) ⟨fun _ _ _=>none,fun _ _ _=>none,fun _ _ _=>none,fun _ _ _ _=>none⟩ (fun _ h=>⟨evLookF T E F h k,evYieldF E h k,fun f args objs=>evOpn E F f args objs (evCallF E F h k f args objs),evDefer E F h k⟩) n
theorem hdlF_eq (T:Memo) (E:PT Ty) (F:FuncId->Option FnI) (k:Nat):∀ n,hdlF T E F k n=hdlM T E F k n
 |0=>rfl
 |n+1=>by
  show(⟨evLookF T E F (hdlF T E F k n) k,evYieldF E (hdlF T E F k n) k,fun f args objs=>evOpn E F f args objs (evCallF E F (hdlF T E F k n) k f args objs),evDefer E F (hdlF T E F k n) k⟩:Hd)=_
  rw [hdlF_eq T E F k n,evLookF_eq,evYieldF_eq,evCallF_eq]
  rfl
theorem knownF {P:Program} {E:PT Ty} {T:Memo} (hT:MemoOK P T) (hE:EnvOK P E) (hm:P.follows .mixedOrders=true) {F:FuncId->Option FnI} (hF:FnsOK P F) {k n:Nat} {f:FuncId} {args:List DV} {r:AV}
  (h:evBothF E F (hdlF T E F k n) k f (args.map .d) []=some (r,none)):KnownCall P f args r:=by
 rw [evBothF_eq,hdlF_eq] at h;exact known hT hE hm hF h
end Go.Av
end

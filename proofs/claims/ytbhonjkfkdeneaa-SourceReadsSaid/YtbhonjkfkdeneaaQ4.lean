/-
  Parts of the way to the law, joined: rules for code over data, and what the functions return. Conditions stand at each.
-/
import Derived.Test.YtbhonjkfkdeneaaQ3
import Derived.Test.YtbhonjkfkdeneaaQ2
import Derived.Shelf.Strings.OnBuilder
import Derived.Test.YtbhonjkfkdeneaaProg
set_option linter.all false
noncomputable section
namespace Go.Av
open Go Go.Proofs
set_option maxRecDepth 10000
theorem altMayC:∀ t:List Nat,t.length≤1048576→KnownCall Try.prog 62 [.str t] (.d (.bool (mayF t))):=fun t h=>by
 have c1:=small t (by omega)
 have c2:=capital t (by omega)
 unfold mayF
 cases h1:smallF t with
 |true =>
  rw [h1] at c1
  refine knownE Yo (fnAt Try.func62 (by kernel_rfl) (by kernel_rfl):FnAt _ _ (mkFn Try.f62 [])) ?_
  repeat' (first|refine Yg ?_|refine Yq ?_|(refine oB (frz:=[]) Yo ?_ ?_<;>intro h<;>first|(exfalso;simp at h;first|done|omega)|skip)|(refine eB ?_ ?_<;>intro h<;>first|(exfalso;simp at h;first|done|omega)|skip)|refine oX (frz:=[]) Yo ?_|refine oS ?_|refine Yn ?_|refine Yk ?_|refine cT ?_|refine cF ?_|refine Yb ?_|refine Ye ?_|refine Yd (frz:=[]) Yo (by kernel_rfl) ?_|refine eX ?_|refine eS ?_|refine eN ?_|refine oC (c1) ?_|refine eC (c1) ?_|refine oC (c2) ?_|refine eC (c2) ?_|(refine Yt ?_;(first|refine rB ?_|refine rI ?_|refine rA ?_|refine rII ?_|refine rSI ?_|refine rT ?_|refine rS ?_);first|done|(rfl))|((exfalso;(simp at h<;>omega)))|fail)
 |false =>
  rw [h1] at c1
  rw [Bool.false_or]
  refine knownE Yo (fnAt Try.func62 (by kernel_rfl) (by kernel_rfl):FnAt _ _ (mkFn Try.f62 [])) ?_
  repeat' (first|refine Yg ?_|refine Yq ?_|(refine oB (frz:=[]) Yo ?_ ?_<;>intro h<;>first|(exfalso;simp at h;first|done|omega)|skip)|(refine eB ?_ ?_<;>intro h<;>first|(exfalso;simp at h;first|done|omega)|skip)|refine oX (frz:=[]) Yo ?_|refine oS ?_|refine Yn ?_|refine Yk ?_|refine cT ?_|refine cF ?_|refine Yb ?_|refine Ye ?_|refine Yd (frz:=[]) Yo (by kernel_rfl) ?_|refine eX ?_|refine eS ?_|refine eN ?_|refine oC (c1) ?_|refine eC (c1) ?_|refine oC (c2) ?_|refine eC (c2) ?_|(refine Yt ?_;(first|refine rB ?_|refine rI ?_|refine rA ?_|refine rII ?_|refine rSI ?_|refine rT ?_|refine rS ?_);first|done|(rfl))|((exfalso;(simp at h<;>omega)))|fail)
abbrev pOu (s:List Nat) (v:PS) (u:List Nat × Nat):List Ob:=[.box [.d (.str s),.d (.sl 3 (v.l.map encL)),.d (.int .i64 v.x.k),.sr 1 1 (v.x.tokens.map .str),.d (.str v.x.sep),.d (.str v.x.start),.sr 2 2 (v.x.rules.map encR),.mp 3,.sr 4 2 (v.uses.map encU++[encU u]),.d (.int .i64 (v.total:Nat))],.room v.x.tokens.length 1,.room v.x.rules.length 2,.map (kvN v.names),.room (v.uses.length+1) 2]
theorem pOu_eq (s:List Nat) (v:PS) (u:List Nat × Nat):pO s { v with uses:=v.uses++[u] }=pOu s v u:=by
 unfold pO pBox pOu;simp only [List.map_append,List.map_cons,List.map_nil,List.length_append,List.length_cons,List.length_nil]
set_option maxHeartbeats 4000000 in
theorem startC (s:List Nat) (p:PS) (hb:PB p):ACall Try.prog 18 [.bp 0 0] (pO s p) (endR (startP s p)) (endG s (startP s p)):=by
 have c0:=headC s p wStart
 unfold startP
 cases h0:wantP s 1 wStart p with
 |error e =>
  rw [h0] at c0
  simp only [Except.bind]
  refine acallP_of_run (fnAt Try.func18 (by kernel_rfl) (by kernel_rfl):FnAt _ _ (mkFn Try.f18 [23])) rfl rfl rfl rfl ?_
  repeat' (first|refine Yg ?_|refine Yq ?_|(refine oB (frz:=[23]) Yo ?_ ?_<;>intro h<;>first|(exfalso;simp at h;first|done|omega)|skip)|(refine eB ?_ ?_<;>intro h<;>first|(exfalso;simp at h;first|done|omega)|skip)|refine oX (frz:=[23]) Yo ?_|refine oS ?_|refine Yn ?_|refine Yk ?_|refine cT ?_|refine cF ?_|refine Yb ?_|refine Ye ?_|refine Yd (frz:=[23]) Yo (by kernel_rfl) ?_|refine eX ?_|refine eS ?_|refine eN ?_|refine oFP (c0) ?_|(refine Yt ?_;(first|refine rB ?_|refine rI ?_|refine rA ?_|refine rII ?_|refine rSI ?_|refine rT ?_|refine rS ?_);first|done|(skip))|(exact⟨rfl,rfl,(by repeat' (first|exact trivial|refine⟨.refl,?_⟩|refine⟨.gone,?_⟩|refine⟨.box (by repeat' (first|exact trivial|refine⟨.inr rfl,?_⟩|refine⟨.inl rfl,?_⟩)),?_⟩))⟩)|((exfalso;(simp at h<;>omega)))|fail)
 |ok q =>
  rw [h0] at c0
  obtain⟨e1,e2,e3⟩:=wantP_x h0
  have hbq:=hb.l' e1 e3 (by omega)
  simp only [Except.bind]
  have c1:=wordC s q _ capitalF hbq.len capitalC
  cases h1:wordP s capitalF q with
  |error e =>
   rw [h1] at c1
   refine acallP_of_run (fnAt Try.func18 (by kernel_rfl) (by kernel_rfl):FnAt _ _ (mkFn Try.f18 [23])) rfl rfl rfl rfl ?_
   repeat' (first|refine Yg ?_|refine Yq ?_|(refine oB (frz:=[23]) Yo ?_ ?_<;>intro h<;>first|(exfalso;simp at h;first|done|omega)|skip)|(refine eB ?_ ?_<;>intro h<;>first|(exfalso;simp at h;first|done|omega)|skip)|refine oX (frz:=[23]) Yo ?_|refine oS ?_|refine Yn ?_|refine Yk ?_|refine cT ?_|refine cF ?_|refine Yb ?_|refine Ye ?_|refine Yd (frz:=[23]) Yo (by kernel_rfl) ?_|refine eX ?_|refine eS ?_|refine eN ?_|refine oF (c0) ?_|refine eF (c0) ?_|refine oFP (c1) ?_|(refine Yt ?_;(first|refine rB ?_|refine rI ?_|refine rA ?_|refine rII ?_|refine rSI ?_|refine rT ?_|refine rS ?_);first|done|(skip))|(exact⟨rfl,rfl,(by repeat' (first|exact trivial|refine⟨.refl,?_⟩|refine⟨.gone,?_⟩|refine⟨.box (by repeat' (first|exact trivial|refine⟨.inr rfl,?_⟩|refine⟨.inl rfl,?_⟩)),?_⟩))⟩)|((exfalso;(simp at h<;>omega)))|fail)
  |ok v =>
   rw [h1] at c1
   obtain⟨x,v⟩:=v
   have hu:v.uses.length≤200000:=by have:=(wordP_x h1).1;simp only at this;rw [this];have:=hbq.uses;simp only;omega
   simp only
   have ec:=pOu_eq s { v with x:={ v.x with start:=x.t } } (x.t,x.a)
   have c2:=endC s { v with x:={ v.x with start:=x.t },uses:=v.uses++[(x.t,x.a)] }
   rw [show pO s { v with x:={ v.x with start:=x.t },uses:=v.uses++[(x.t,x.a)] }=pOu s { v with x:={ v.x with start:=x.t } } (x.t,x.a) from ec] at c2
   cases h2:wantP s 3 sSemi { v with x:={ v.x with start:=x.t },uses:=v.uses++[(x.t,x.a)] } with
   |error e =>
    rw [h2] at c2
    refine acallP_of_run (fnAt Try.func18 (by kernel_rfl) (by kernel_rfl):FnAt _ _ (mkFn Try.f18 [23])) rfl rfl rfl rfl ?_
    repeat' (first|refine Yg ?_|refine Yq ?_|(refine oB (frz:=[23]) Yo ?_ ?_<;>intro h<;>first|(exfalso;simp at h;first|done|omega)|skip)|(refine eB ?_ ?_<;>intro h<;>first|(exfalso;simp at h;first|done|omega)|skip)|refine oX (frz:=[23]) Yo ?_|refine oS ?_|refine Yn ?_|refine Yk ?_|refine cT ?_|refine cF ?_|refine Yb ?_|refine Ye ?_|refine Yd (frz:=[23]) Yo (by kernel_rfl) ?_|refine eX ?_|refine eS ?_|refine eN ?_|refine oF (c0) ?_|refine eF (c0) ?_|refine oF (c1) ?_|refine eF (c1) ?_|refine oFP (c2) ?_|refine oX (frz:=[23]) Yo ?_ (hv:=app1) (hf:=rfl) (he:=rfl)|refine eX ?_ (hv:=app1) (hf:=rfl) (he:=rfl)|refine oX (frz:=[23]) Yo ?_ (hv:=app0) (hf:=rfl) (he:=rfl)|refine eX ?_ (hv:=app0) (hf:=rfl) (he:=rfl)|(refine Yt ?_;(first|refine rB ?_|refine rI ?_|refine rA ?_|refine rII ?_|refine rSI ?_|refine rT ?_|refine rS ?_);first|done|(skip))|(exact⟨rfl,rfl,(by repeat' (first|exact trivial|refine⟨.refl,?_⟩|refine⟨.gone,?_⟩|refine⟨.box (by repeat' (first|exact trivial|refine⟨.inr rfl,?_⟩|refine⟨.inl rfl,?_⟩)),?_⟩))⟩)|((exfalso;(simp at h<;>omega)))|fail)
   |ok q3 =>
    rw [h2] at c2
    refine acallW_of_run Yo (fnAt Try.func18 (by kernel_rfl) (by kernel_rfl):FnAt _ _ (mkFn Try.f18 [23])) rfl rfl rfl rfl rfl ?_
    repeat' (first|refine Yg ?_|refine Yq ?_|(refine oB (frz:=[23]) Yo ?_ ?_<;>intro h<;>first|(exfalso;simp at h;first|done|omega)|skip)|(refine eB ?_ ?_<;>intro h<;>first|(exfalso;simp at h;first|done|omega)|skip)|refine oX (frz:=[23]) Yo ?_|refine oS ?_|refine Yn ?_|refine Yk ?_|refine cT ?_|refine cF ?_|refine Yb ?_|refine Ye ?_|refine Yd (frz:=[23]) Yo (by kernel_rfl) ?_|refine eX ?_|refine eS ?_|refine eN ?_|refine oF (c0) ?_|refine eF (c0) ?_|refine oF (c1) ?_|refine eF (c1) ?_|refine oF (c2) ?_|refine eF (c2) ?_|refine oX (frz:=[23]) Yo ?_ (hv:=app1) (hf:=rfl) (he:=rfl)|refine eX ?_ (hv:=app1) (hf:=rfl) (he:=rfl)|refine oX (frz:=[23]) Yo ?_ (hv:=app0) (hf:=rfl) (he:=rfl)|refine eX ?_ (hv:=app0) (hf:=rfl) (he:=rfl)|(refine Yt ?_;(first|refine rB ?_|refine rI ?_|refine rA ?_|refine rII ?_|refine rSI ?_|refine rT ?_|refine rS ?_);first|done|(skip))|(((first|refine Yt ?_|skip);exact⟨trivial,_,_,rfl,rfl,.refl,(by repeat' (first|exact trivial|refine⟨.refl,?_⟩|refine⟨.gone,?_⟩|refine⟨.box (by repeat' (first|exact trivial|refine⟨.inr rfl,?_⟩|refine⟨.inl rfl,?_⟩)),?_⟩))⟩))|((exfalso;(simp at h<;>omega)))|fail)
abbrev endRA:Except Fa (List (List Nat) × PS)→AV
 |.ok v=>.d (strs v.1)
 |.error e=>.pan (refD e)
abbrev endOA (s:List Nat):Except Fa (List (List Nat) × PS)→List Ob
 |.ok v=>pO s v.2
 |.error _=>pG
def KXa (s:List Nat) (rv:Array ResultVar) (R:Except Fa (List (List Nat) × PS)):Ex→S→Prop:=fun e st=>match R with
 |.ok v=>(match e with|.normal=>True|.ret=>True|_=>False)∧∃ objs2 r0,evLeave H0 st.dl none st.objs=some (none,objs2)∧evResults Et ⟨st.tm,objs2,[]⟩ rv=some r0∧AvR r0 (.d (strs v.1))∧WkObs objs2 (pO s v.2)
 |.error x=>e=.pan (refD x)∧st.dl=[]∧WkObs st.objs pG
theorem acallA {f:FuncId} {i:FnI} (hF:FnAt Try.prog f i) {args:List AV} {s:List Nat} {p:PS} {R:Except Fa (List (List Nat) × PS)} (hlen:args.length=i.np) (hle:Nat.ble i.np i.nt=true)
  (h:Run Try.prog i.nt (pO s p).length none i.body ⟨initTm 0 args .nil,pO s p,[]⟩ (KXa s i.results R)):ACall Try.prog f args (pO s p) (endRA R) (endOA s R):=by
 cases R with
 |ok q=>exact acallW_of_run Yo hF hlen hle rfl rfl rfl h
 |error x=>exact acallP_of_run hF hlen hle rfl rfl h
theorem altQ_x {s:List Nat}:∀ (n:Nat) (acc:List (List Nat)) {p:PS} {v:List (List Nat) × PS},altQ s n acc p=.ok v→v.2.x=p.x∧v.2.names=p.names∧v.2.total=p.total∧(∀ x ∈ v.2.l,x ∈ p.l)∧v.2.l.length≤p.l.length∧v.2.uses.length+v.2.l.length=p.uses.length+p.l.length∧(acc.length≤6→v.1.length≤6)∧((∀ t ∈ acc,t.length≤1048576)→(∀ x ∈ p.l,x.t.length≤1048576)→∀ t ∈ v.1,t.length≤1048576)
 |0,acc,p,v,h=>by simp only [altQ,Except.ok.injEq] at h;rw [← h];exact⟨rfl,rfl,rfl,fun _ h=>h,Nat.le_refl _,rfl,id,fun h _=>h⟩
 |n+1,acc,p,v,h=>by
  unfold altQ at h
  cases hl:p.l with
  |nil =>
   rw [hl] at h
   simp only [Except.ok.injEq] at h
   rw [← h,hl]
   exact⟨rfl,rfl,rfl,fun z hz=>(by first|exact hz|(rw [hl] at hz;exact hz)|(simp only [hl] at hz;exact hz)),by simp [hl],by simp [hl],id,fun h _=>h⟩
  |cons x l =>
   rw [hl] at h
   simp only at h
   split at h
   ·cases hw:wordP s mayF p with
    |error e=>rw [hw] at h;cases h
    |ok q =>
     rw [hw] at h
     obtain⟨w1,w2⟩:=wordP_x hw
     simp only [Except.bind] at h
     split at h
     ·cases h
     ·rename_i h6
      have ih:=altQ_x n _ h
      have eq1:q.1=x∧q.2.l=l:=by rw [hl] at w2;simp only [List.cons.injEq] at w2;exact⟨w2.1.symm,w2.2.symm⟩
      obtain⟨i1,i2,i3,i4,i5,i6,i7,i8⟩:=ih
      simp only at i1 i2 i3 i4 i5 i6
      have ex:q.2.x=p.x:=by rw [w1]
      have en:q.2.names=p.names:=by rw [w1]
      have et:q.2.total=p.total:=by rw [w1]
      have eu:q.2.uses=p.uses:=by rw [w1]
      refine⟨i1.trans ex,i2.trans en,i3.trans et,fun y hy=>?_,?_,?_,fun ha=>i7 (by rw [List.length_append];simp;omega),fun ha hp=>i8 (fun t ht=>?_) (fun y hy=>hp y ?_)⟩
      ·have:=i4 y hy;rw [eq1.2] at this;exact List.mem_cons_of_mem _ this
      ·rw [eq1.2] at i5;simp;omega
      ·rw [eq1.2,eu] at i6;simp at i6 ⊢;omega
      ·rcases List.mem_append.1 ht with ht|ht
       ·exact ha t ht
       ·rw [List.mem_singleton.1 ht,eq1.1];exact hp x List.mem_cons_self
      ·rw [eq1.2] at hy;exact List.mem_cons_of_mem _ hy
   ·simp only [Except.ok.injEq] at h
    rw [← h]
    exact⟨rfl,rfl,rfl,fun z hz=>(by first|exact hz|(rw [hl] at hz;exact hz)|(simp only [hl] at hz;exact hz)),by simp [hl],by simp [hl],id,fun h _=>h⟩
set_option maxHeartbeats 8000000 in
theorem altC (s:List Nat) (p:PS) (hb:PB p):ACall Try.prog 49 [.bp 0 0] (pO s p) (endRA (oneAltP s p)) (endOA s (oneAltP s p)):=by
 unfold oneAltP
 obtain⟨R,hR⟩:∃ R,R=altQ s (p.l.length+1) [] p:=⟨_,rfl⟩
 rw [← hR]
 refine acallA (fnAt Try.func49 (by kernel_rfl) (by kernel_rfl):FnAt _ _ (mkFn Try.f49 [33,45])) rfl rfl ?_
 repeat' (first|refine Yg ?_|refine Yq ?_|(refine oB (frz:=[33,45]) Yo ?_ ?_<;>intro h<;>first|(exfalso;simp at h;first|done|omega)|skip)|(refine eB ?_ ?_<;>intro h<;>first|(exfalso;simp at h;first|done|omega)|skip)|refine oX (frz:=[33,45]) Yo ?_|refine oS ?_|refine Yn ?_|refine Yk ?_|refine cT ?_|refine cF ?_|refine Yb ?_|refine Ye ?_|refine Yd (frz:=[33,45]) Yo (by kernel_rfl) ?_|refine eX ?_|refine eS ?_|refine eN ?_|(refine Yt ?_;(first|refine rB ?_|refine rI ?_|refine rA ?_|refine rII ?_|refine rSI ?_|refine rT ?_|refine rS ?_);first|done|(skip))|((exfalso;(simp at h<;>omega)))|fail)
 refine Run.mkRoom 3 1 [(0,.bp 0 0),(3,.sr 5 1 [])] (by kernel_rfl) (ofList_cases (by intro p hp;simp only [List.mem_cons,List.not_mem_nil,or_false] at hp;rcases hp with rfl|rfl<;>first|exact .inl ⟨rfl,rfl⟩|exact .inr (by kernel_rfl))) ?_
 refine Run.loopT (fun y:Nat × List (List Nat) × PS=>⟨PT.ofList [(0,.bp 0 0),(3,.sr 5 1 (y.2.1.map .str))],pO s y.2.2++[.room y.2.1.length 1],[]⟩)
  (fun y=>altQ s y.1 y.2.1 y.2.2=R∧PB y.2.2∧y.2.2.l.length<y.1∧y.2.1.length≤6) (fun y=>y.1) (p.l.length+1,[],p) ⟨hR.symm,hb,Nat.lt_succ_self _,by simp⟩ (tidy_of (objs:=_) _ 6 (by rfl) rfl (by repeat' (first|exact trivial|refine⟨(Or.inl rfl),?_⟩|refine⟨(Or.inr rfl),?_⟩|fail)) (by repeat' (first|exact trivial|refine⟨rfl,?_⟩|fail)) rfl rfl) (fun y hy=>?_)
 obtain⟨n,acc,y⟩:=y
 obtain⟨i1,i2,i3,i4⟩:=hy
 simp only at i1 i2 i3 i4 ⊢
 obtain⟨n,rfl⟩:∃ j,n=j+1:=⟨n-1,by omega⟩
 unfold altQ at i1
 cases hl:y.l with
 |nil =>
  rw [hl] at i1
  simp only at i1
  obtain⟨yl,yx,yn,yu,yt⟩:=y
  simp only at hl
  subst hl
  subst i1
  repeat' (first|refine Yg ?_|refine Yq ?_|(refine oB (frz:=[33,45]) Yo ?_ ?_<;>intro h<;>first|(exfalso;simp at h;first|done|omega)|skip)|(refine eB ?_ ?_<;>intro h<;>first|(exfalso;simp at h;first|done|omega)|skip)|refine oX (frz:=[33,45]) Yo ?_|refine oS ?_|refine Yn ?_|refine Yk ?_|refine cT ?_|refine cF ?_|refine Yb ?_|refine Ye ?_|refine Yd (frz:=[33,45]) Yo (by kernel_rfl) ?_|refine eX ?_|refine eS ?_|refine eN ?_|(refine Yt ?_;(first|refine rB ?_|refine rI ?_|refine rA ?_|refine rII ?_|refine rSI ?_|refine rT ?_|refine rS ?_);first|done|(skip))|(((first|refine Yt ?_|skip);exact⟨trivial,_,_,rfl,rfl,.sr,(by repeat' (first|exact trivial|refine⟨.refl,?_⟩|refine⟨.gone,?_⟩|refine⟨.box (by repeat' (first|exact trivial|refine⟨.inr rfl,?_⟩|refine⟨.inl rfl,?_⟩)),?_⟩))⟩))|((exfalso;(simp at h<;>omega)))|fail)
 |cons x l =>
  rw [hl] at i1
  simp only at i1
  by_cases hk:x.k=1
  ·rw [if_pos hk] at i1
   have cw:=wordC s y _ mayF i2.len altMayC
   have hu:y.uses.length≤200000:=by have:=i2.uses;omega
   cases hw:wordP s mayF y with
   |error e9 =>
    rw [hw] at cw i1
    simp only [Except.bind] at i1
    subst i1
    unfold pO pBox at cw ⊢
    rw [hl,List.map_cons] at cw ⊢
    repeat' (first|refine Yg ?_|refine Yq ?_|(refine oB (frz:=[33,45]) Yo ?_ ?_<;>intro h<;>first|(exfalso;simp at h;first|done|omega)|skip)|(refine eB ?_ ?_<;>intro h<;>first|(exfalso;simp at h;first|done|omega)|skip)|refine oX (frz:=[33,45]) Yo ?_|refine oS ?_|refine Yn ?_|refine Yk ?_|refine cT ?_|refine cF ?_|refine Yb ?_|refine Ye ?_|refine Yd (frz:=[33,45]) Yo (by kernel_rfl) ?_|refine eX ?_|refine eS ?_|refine eN ?_|refine oFP (cw) ?_|refine oX (frz:=[33,45]) (v:=.d (.ep [.int .i64 (x.k:Nat),.str x.t,.int .i64 (x.a:Nat)])) Yo ?_ (hf:=(by first|(simp [inB]<;>fail)|(simp [inB];omega))) (he:=(by first|(simp [List.getD_eq_getElem?_getD,cellsD,hl]<;>fail)|fail))|refine eX (v:=.d (.ep [.int .i64 (x.k:Nat),.str x.t,.int .i64 (x.a:Nat)])) ?_ (hf:=(by first|(simp [inB]<;>fail)|(simp [inB];omega))) (he:=(by first|(simp [List.getD_eq_getElem?_getD,cellsD,hl]<;>fail)|fail))|(refine Yt ?_;(first|refine rB ?_|refine rI ?_|refine rA ?_|refine rII ?_|refine rSI ?_|refine rT ?_|refine rS ?_);first|done|(skip))|(exact⟨rfl,rfl,(by repeat' (first|exact trivial|refine⟨.refl,?_⟩|refine⟨.gone,?_⟩|refine⟨.box (by repeat' (first|exact trivial|refine⟨.inr rfl,?_⟩|refine⟨.inl rfl,?_⟩)),?_⟩))⟩)|((exfalso;(simp at h<;>omega)))|fail)
   |ok v =>
    rw [hw] at cw i1
    obtain⟨w1,w2⟩:=wordP_x hw
    obtain⟨x',v⟩:=v
    simp only at w1 w2
    rw [hl] at w2
    simp only [List.cons.injEq] at w2
    obtain⟨rfl,w2⟩:=w2
    simp only [Except.bind] at i1
    have huv:v.uses.length≤200000:=by rw [w1];exact hu
    by_cases h6:acc.length=6
    ·rw [if_pos h6] at i1
     subst i1
     have cf:=failP s v 6 x.a
     unfold pO pBox at cw ⊢
     rw [hl,List.map_cons] at cw ⊢
     repeat' (first|refine Yg ?_|refine Yq ?_|(refine oB (frz:=[33,45]) Yo ?_ ?_<;>intro h<;>first|(exfalso;simp at h;first|done|omega)|skip)|(refine eB ?_ ?_<;>intro h<;>first|(exfalso;simp at h;first|done|omega)|skip)|refine oX (frz:=[33,45]) Yo ?_|refine oS ?_|refine Yn ?_|refine Yk ?_|refine cT ?_|refine cF ?_|refine Yb ?_|refine Ye ?_|refine Yd (frz:=[33,45]) Yo (by kernel_rfl) ?_|refine eX ?_|refine eS ?_|refine eN ?_|refine oF (cw) ?_|refine eF (cw) ?_|refine oFP (cf) ?_|refine oX (frz:=[33,45]) (v:=.d (.ep [.int .i64 (x.k:Nat),.str x.t,.int .i64 (x.a:Nat)])) Yo ?_ (hf:=(by first|(simp [inB]<;>fail)|(simp [inB];omega))) (he:=(by first|(simp [List.getD_eq_getElem?_getD,cellsD,hl]<;>fail)|fail))|refine eX (v:=.d (.ep [.int .i64 (x.k:Nat),.str x.t,.int .i64 (x.a:Nat)])) ?_ (hf:=(by first|(simp [inB]<;>fail)|(simp [inB];omega))) (he:=(by first|(simp [List.getD_eq_getElem?_getD,cellsD,hl]<;>fail)|fail))|(refine Yt ?_;(first|refine rB ?_|refine rI ?_|refine rA ?_|refine rII ?_|refine rSI ?_|refine rT ?_|refine rS ?_);first|done|(skip))|(exact⟨rfl,rfl,(by repeat' (first|exact trivial|refine⟨.refl,?_⟩|refine⟨.gone,?_⟩|refine⟨.box (by repeat' (first|exact trivial|refine⟨.inr rfl,?_⟩|refine⟨.inl rfl,?_⟩)),?_⟩))⟩)|((exfalso;(simp at h<;>omega)))|fail)
    ·rw [if_neg h6] at i1
     have hbv:PB { v with uses:=v.uses++[(x.t,x.a)] }:=i2.of (fun z hz=>by rw [hl];simp only at hz;rw [← w2] at hz;exact List.mem_cons_of_mem _ hz) (by simp only;rw [← w2,hl];simp) (by simp only;rw [w1];exact i2.toks) (by simp only;rw [w1];exact i2.rules)
      (by have:=i2.uses;rw [hl] at this;simp only;rw [w1];simp only;rw [← w2];simp at this ⊢;omega) (by simp only;rw [w1];exact i2.total)
     have fin:∀ s1:S,Tidy 5 s1 ⟨PT.ofList [(0,.bp 0 0),(3,.sr 5 1 (acc.map .str++[.str x.t]))],pOu s v (x.t,x.a)++[.room (acc.length+1) 1],[]⟩ →
       ∃ y:Nat × List (List Nat) × PS,(altQ s y.1 y.2.1 y.2.2=R∧PB y.2.2∧y.2.2.l.length<y.1∧y.2.1.length≤6)∧y.1<n+1∧Tidy 5 s1 ⟨PT.ofList [(0,.bp 0 0),(3,.sr 5 1 (y.2.1.map .str))],pO s y.2.2++[.room y.2.1.length 1],[]⟩:=fun s1 ht =>
      ⟨(n,acc++[x.t],{ v with uses:=v.uses++[(x.t,x.a)] }),⟨i1,hbv,by simp only;rw [← w2];rw [hl] at i3;simp at i3;omega,by simp;omega⟩,Nat.lt_succ_self _,by
       show Tidy 5 s1 ⟨PT.ofList [(0,.bp 0 0),(3,.sr 5 1 ((acc++[x.t]).map .str))],pO s { v with uses:=v.uses++[(x.t,x.a)] }++[.room (acc++[x.t]).length 1],[]⟩
       rw [pOu_eq]
       simpa using ht⟩
     unfold pO pBox at cw ⊢
     rw [hl,List.map_cons] at cw ⊢
     repeat' (first|refine Yg ?_|refine Yq ?_|(refine oB (frz:=[33,45]) Yo ?_ ?_<;>intro h<;>first|(exfalso;simp at h;first|done|omega)|skip)|(refine eB ?_ ?_<;>intro h<;>first|(exfalso;simp at h;first|done|omega)|skip)|refine oX (frz:=[33,45]) Yo ?_|refine oS ?_|refine Yn ?_|refine Yk ?_|refine cT ?_|refine cF ?_|refine Yb ?_|refine Ye ?_|refine Yd (frz:=[33,45]) Yo (by kernel_rfl) ?_|refine eX ?_|refine eS ?_|refine eN ?_|refine oF (cw) ?_|refine eF (cw) ?_|refine oX (frz:=[33,45]) (v:=.d (.ep [.int .i64 (x.k:Nat),.str x.t,.int .i64 (x.a:Nat)])) Yo ?_ (hf:=(by first|(simp [inB]<;>fail)|(simp [inB];omega))) (he:=(by first|(simp [List.getD_eq_getElem?_getD,cellsD,hl]<;>fail)|fail))|refine eX (v:=.d (.ep [.int .i64 (x.k:Nat),.str x.t,.int .i64 (x.a:Nat)])) ?_ (hf:=(by first|(simp [inB]<;>fail)|(simp [inB];omega))) (he:=(by first|(simp [List.getD_eq_getElem?_getD,cellsD,hl]<;>fail)|fail))|refine oX (frz:=[33,45]) Yo ?_ (hv:=app1) (hf:=rfl) (he:=rfl)|refine eX ?_ (hv:=app1) (hf:=rfl) (he:=rfl)|refine oX (frz:=[33,45]) Yo ?_ (hv:=app0) (hf:=rfl) (he:=rfl)|refine eX ?_ (hv:=app0) (hf:=rfl) (he:=rfl)|(refine Yt ?_;(first|refine rB ?_|refine rI ?_|refine rA ?_|refine rII ?_|refine rSI ?_|refine rT ?_|refine rS ?_);first|done|(skip))|(exact fin _ (tidy_of (objs:=_) _ 6 (by rfl) rfl (by repeat' (first|exact trivial|refine⟨(Or.inl rfl),?_⟩|refine⟨(Or.inr rfl),?_⟩|fail)) (by repeat' (first|exact trivial|refine⟨rfl,?_⟩|fail)) rfl rfl))|((exfalso;(simp at h<;>omega)))|fail)
  ·rw [if_neg hk] at i1
   obtain⟨yl,yx,yn,yu,yt⟩:=y
   simp only at hl
   subst hl
   subst i1
   have hl:x=x:=rfl
   repeat' (first|refine Yg ?_|refine Yq ?_|(refine oB (frz:=[33,45]) Yo ?_ ?_<;>intro h<;>first|(exfalso;simp at h;first|done|omega)|skip)|(refine eB ?_ ?_<;>intro h<;>first|(exfalso;simp at h;first|done|omega)|skip)|refine oX (frz:=[33,45]) Yo ?_|refine oS ?_|refine Yn ?_|refine Yk ?_|refine cT ?_|refine cF ?_|refine Yb ?_|refine Ye ?_|refine Yd (frz:=[33,45]) Yo (by kernel_rfl) ?_|refine eX ?_|refine eS ?_|refine eN ?_|refine oX (frz:=[33,45]) (v:=.d (.ep [.int .i64 (x.k:Nat),.str x.t,.int .i64 (x.a:Nat)])) Yo ?_ (hf:=(by first|(simp [inB]<;>fail)|(simp [inB];omega))) (he:=(by first|(simp [List.getD_eq_getElem?_getD,cellsD,hl]<;>fail)|fail))|refine eX (v:=.d (.ep [.int .i64 (x.k:Nat),.str x.t,.int .i64 (x.a:Nat)])) ?_ (hf:=(by first|(simp [inB]<;>fail)|(simp [inB];omega))) (he:=(by first|(simp [List.getD_eq_getElem?_getD,cellsD,hl]<;>fail)|fail))|(refine Yt ?_;(first|refine rB ?_|refine rI ?_|refine rA ?_|refine rII ?_|refine rSI ?_|refine rT ?_|refine rS ?_);first|done|(skip))|(((first|refine Yt ?_|skip);exact⟨trivial,_,_,rfl,rfl,.sr,(by repeat' (first|exact trivial|refine⟨.refl,?_⟩|refine⟨.gone,?_⟩|refine⟨.box (by repeat' (first|exact trivial|refine⟨.inr rfl,?_⟩|refine⟨.inl rfl,?_⟩)),?_⟩))⟩))|((exfalso;(simp at h<;>omega)))|fail)
end Go.Av
end
noncomputable section
namespace Go.Av
open Go Go.Proofs
section
variable {s:List Nat} {ls:List Lx}
theorem Ok.bad {r:RS} {Q Q':PS→Prop} {e:Fa} (h:Ok ls r Q (.error e)):Ok ls r Q' (.error e):=h
theorem lookR_ok {r:RS} {p:PS} (h:Rel ls r p) (hN:NH p):Ok ls (lookR s ls r) NH (lookP s p):=by
 have h1:=mustR_ok (s:=s) h 1 wLook
 unfold lookP
 simp only [lookR]
 generalize mustR s ls 1 wLook r=r1 at h1 ⊢
 cases hq:wantP s 1 wLook p with
 |error e =>
  rw [hq] at h1
  have h2:(takeR s ls r1).2.f=e:=by rw [takeR_f (by rw [h1.1];exact h1.2),h1.1]
  have h3:(takeR s ls r1).2.f.1≠0:=by rw [h2];exact h1.2
  simp only [h3,false_and,if_false,Except.bind,Ok]
  rw [mustR_f h3,h2]
  exact⟨rfl,h1.2⟩
 |ok q =>
  rw [hq] at h1
  obtain⟨hr,e1,_⟩:=h1
  simp only [Except.bind]
  rcases hr.cases (s:=s) with⟨x,hx,hl,_,e2,e3,hr2⟩|⟨hx,hl,_,e2,e3⟩
  ·rw [e2,e3]
   simp only [hr.f0,true_and,ne_eq]
   by_cases hk:x.k=2
   ·simp only [hk,not_true,if_false,hr.f0,if_true]
    cases hnum:numOk x.t with
    |true =>
     simp only [if_true]
     have hr3:Rel ls { r1 with pos:=r1.pos+1,x:={ r1.x with k:=(decF x.t:Nat) } } { q with l:=ls.drop (r1.pos+1),x:={ q.x with k:=(decF x.t:Nat) } }:=⟨hr.f,rfl,by simp only [hr.x],hr.n⟩
     have h4:=mustR_ok (s:=s) hr3 3 sSemi
     cases hq4:wantP s 3 sSemi { q with l:=ls.drop (r1.pos+1),x:={ q.x with k:=(decF x.t:Nat) } } with
     |error e=>rw [hq4] at h4;exact h4
     |ok q4 =>
      rw [hq4] at h4
      refine⟨h4.1,?_⟩
      rw [h4.2.1,e1]
      exact hN
    |false =>
     simp only [Bool.false_eq_true,if_false,Ok]
     rw [mustR_f (by simp [failR,hr.f0])]
     simp [failR,hr.f0]
   ·have hf:(failR 3 x.a { r1 with pos:=r1.pos+1 }).f=(3,x.a):=by simp [failR,hr.f0]
    have hf1:¬ (failR 3 x.a { r1 with pos:=r1.pos+1 }).f.1=0:=by rw [hf];simp
    simp only [hk,not_false_iff,if_true,hf1,if_false,Ok]
    rw [mustR_f hf1,hf]
    simp
  ·rw [e2,e3]
   simp only [Ok]
   rw [if_neg (by simp),if_neg (by simp),mustR_f (by simp)]
   simp
theorem tokP_ok {r:RS} {p:PS} (h:Rel ls r p) (hN:NH p):Ok ls (mustR s ls 3 sSemi (tokensR s ls (ls.length+1) (mustR s ls 1 wToken r))) NH (tokensP s p):=by
 have h1:=mustR_ok (s:=s) h 1 wToken
 unfold tokensP
 generalize mustR s ls 1 wToken r=r1 at h1 ⊢
 cases hq:wantP s 1 wToken p with
 |error e =>
  rw [hq] at h1
  have h3:r1.f.1≠0:=by rw [h1.1];exact h1.2
  simp only [Except.bind,Ok]
  rw [tokensR_f h3,mustR_f h3]
  exact h1
 |ok q =>
  rw [hq] at h1
  obtain⟨hr,e1,_⟩:=h1
  have hN1:NH q:=by rw [e1];exact hN
  have hlen:q.l.length≤ls.length:=by rw [hr.l,List.length_drop];omega
  have ht:=tokensR_ok (s:=s) (ls.length+1) q.l.length hr hN1 (by omega) (Nat.le_refl _)
  have ho:=tokenR_ok (s:=s) hr hN1
  simp only [Except.bind]
  cases hq2:tokenP s q with
  |error e =>
   rw [hq2] at ht
   simp only [Except.bind,Ok] at ht ⊢
   rw [mustR_f (by rw [ht.1];exact ht.2)]
   exact ht
  |ok q2 =>
   rw [hq2] at ht ho
   have hl2:=ho.2.2
   simp only [Except.bind] at ht ⊢
   rw [hl2]
   cases hq3:tokensLP s q.l.length q2 with
   |error e =>
    rw [hq3] at ht
    simp only [Ok] at ht ⊢
    rw [mustR_f (by rw [ht.1];exact ht.2)]
    exact ht
   |ok q3 =>
    rw [hq3] at ht
    simp only [Ok] at ht ⊢
    have h4:=mustR_ok (s:=s) ht.1 3 sSemi
    cases hq4:wantP s 3 sSemi q3 with
    |error e=>rw [hq4] at h4;exact h4
    |ok q4 =>
     rw [hq4] at h4
     refine⟨h4.1,?_⟩
     rw [h4.2.1]
     exact ht.2
structure NK (p:PS):Prop where
 know:∀ t,knowP p.names t=(hasF p.x.tokens t,decide (t=p.x.sep),hasF (ruleNames p.x) t)
 small:smallF p.x.sep=true
 caps:∀ t ∈ ruleNames p.x,capitalF t=true
 toks:∀ t ∈ p.x.tokens,smallF t=true
theorem sepR_ok {r:RS} {p:PS} (h:Rel ls r p) (hN:NH p):Ok ls (sepR s ls r) (fun q=>NK q∧q.uses=[]∧q.x.rules=[]) (sepQ s p):=by
 have h1:=mustR_ok (s:=s) h 1 wSep
 unfold sepQ
 simp only [sepR]
 generalize mustR s ls 1 wSep r=r1 at h1 ⊢
 cases hq:wantP s 1 wSep p with
 |error e =>
  rw [hq] at h1
  have h1':r1.f.1≠0:=by rw [h1.1];exact h1.2
  have h2:=peekR_f (s:=s) (ls:=ls) h1'
  have h3:(nameR s ls false (peekR s ls r1).2).2.f=r1.f:=by rw [h2,nameR_f h1']
  simp only [Except.bind,Ok]
  rw [newR_f (by simp only [h3];exact h1'),mustR_f (by simp only [h3];exact h1')]
  exact⟨h3.trans h1.1,h1.2⟩
 |ok q =>
  rw [hq] at h1
  obtain⟨hr,e1,_⟩:=h1
  have hN1:NH q:=by rw [e1];exact hN
  simp only [Except.bind]
  have hw:=word_ok (s:=s) hr false
  simp only [Bool.false_eq_true,if_false] at hw
  unfold terminalP
  cases hq2:wordP s smallF q with
  |error e =>
   rw [hq2] at hw
   have h4:=word_bad hw.1 hw.2
   have h3:(nameR s ls false (peekR s ls r1).2).2.f.1≠0:=by rw [h4];exact hw.1
   simp only [Except.bind,Ok]
   rw [newR_f (by simp only [h4];exact hw.1),mustR_f (by simp only [h4];exact hw.1)]
   exact⟨h4,hw.1⟩
  |ok q2 =>
   rw [hq2] at hw
   obtain⟨x,q2⟩:=q2
   obtain⟨e0,_,e2,e3,e4,e5,_,_⟩:=hw
   simp only at e0 e2 e3 e4 e5
   have hkn:knowP q2.names x.t=(hasF q.x.tokens x.t,false,false):=by rw [e0];exact hN1.1 _
   have hrt:r1.x.tokens=q.x.tokens:=by rw [hr.x]
   simp only [Except.bind,e2,e3,hkn]
   by_cases hh:hasF q.x.tokens x.t=true
   ·rw [if_pos (by simp [hh])]
    simp only [Ok,newR,hrt,hh,if_true]
    rw [mustR_f (by simp [failR,hr.f0])]
    simp [failR,hr.f0]
   ·rw [if_neg (by simp [hh]),if_neg (by simp)]
    have hnew:∀ a (r':RS),newR r1.x.tokens x.t a r'=r':=fun a r'=>by rw [newR,hrt,if_neg (by simp [hh])]
    simp only [hnew]
    have hr3:Rel ls { r1 with pos:=r1.pos+1,x:={ r1.x with sep:=x.t } } { q2 with x:={ q2.x with sep:=x.t },names:=setP q2.names x.t (!true,true,false) }:=⟨hr.f,e4.l,by simp only [hr.x,e0],e4.n⟩
    have h5:=mustR_ok (s:=s) hr3 3 sSemi
    cases hq5:wantP s 3 sSemi { q2 with x:={ q2.x with sep:=x.t },names:=setP q2.names x.t (!true,true,false) } with
    |error e=>rw [hq5] at h5;exact h5
    |ok q5 =>
     rw [hq5] at h5
     have hrules:q2.x.rules=[]:=by rw [e0];exact hN1.2.2.2
     refine⟨h5.1,?_⟩
     rw [h5.2.1]
     refine⟨⟨fun t=>?_,e5,?_,by simp only;rw [e0];exact hN1.2.1⟩,by simp only;rw [e0];exact hN1.2.2.1,hrules⟩
     ·simp only [knowP_set,ruleNames,hrules]
      by_cases ht:t=x.t
      ·subst ht
       have:hasF q2.x.tokens x.t=false:=by rw [e0];simpa using hh
       rw [if_pos rfl,this];simp [hasF]
      ·rw [if_neg ht,show q2.names=q.names by rw [e0],hN1.1,show q2.x.tokens=q.x.tokens by rw [e0]]
       simp [ht,hasF]
     ·intro t ht
      simp [ruleNames,hrules] at ht
theorem startR_ok {r:RS} {p:PS} (h:Rel ls r p) (hN:NK p∧p.uses=[]∧p.x.rules=[]):match startP s p with
  |.ok q=>Rel ls (startR s ls r).2 q∧NK q∧q.uses=[((startR s ls r).1.t,(startR s ls r).1.a)]∧q.x.rules=[]∧capitalF (startR s ls r).1.t=true
  |.error e=>(startR s ls r).2.f=e∧e.1≠0:=by
 have h1:=mustR_ok (s:=s) h 1 wStart
 unfold startP
 simp only [startR]
 generalize mustR s ls 1 wStart r=r1 at h1 ⊢
 cases hq:wantP s 1 wStart p with
 |error e =>
  rw [hq] at h1
  have h1':r1.f.1≠0:=by rw [h1.1];exact h1.2
  have h2:=peekR_f (s:=s) (ls:=ls) h1'
  have h3:(nameR s ls true (peekR s ls r1).2).2.f=r1.f:=by rw [h2,nameR_f h1']
  simp only [Except.bind]
  rw [mustR_f (by simp only [h3];exact h1')]
  exact⟨h3.trans h1.1,h1.2⟩
 |ok q =>
  rw [hq] at h1
  obtain⟨hr,e1,_⟩:=h1
  simp only [Except.bind]
  have hw:=word_ok (s:=s) hr true
  simp only [if_true] at hw
  cases hq2:wordP s capitalF q with
  |error e =>
   rw [hq2] at hw
   have h4:=word_bad hw.1 hw.2
   have h3:(nameR s ls true (peekR s ls r1).2).2.f.1≠0:=by rw [h4];exact hw.1
   simp only [Except.bind]
   rw [mustR_f (by simp only [h4];exact hw.1)]
   exact⟨h4,hw.1⟩
  |ok q2 =>
   rw [hq2] at hw
   obtain⟨x,q2⟩:=q2
   obtain⟨e0,_,e2,e3,e4,e5,_,_⟩:=hw
   simp only at e0 e2 e3 e4 e5
   simp only [Except.bind,e2,e3]
   have hr3:Rel ls { r1 with pos:=r1.pos+1,x:={ r1.x with start:=x.t } } { q2 with x:={ q2.x with start:=x.t },uses:=q2.uses++[(x.t,x.a)] }:=⟨hr.f,e4.l,by simp only [hr.x,e0],e4.n⟩
   have h5:=mustR_ok (s:=s) hr3 3 sSemi
   cases hq5:wantP s 3 sSemi { q2 with x:={ q2.x with start:=x.t },uses:=q2.uses++[(x.t,x.a)] } with
   |error e=>rw [hq5] at h5;exact h5
   |ok q5 =>
    rw [hq5] at h5
    refine⟨h5.1,?_⟩
    rw [h5.2.1]
    have hN2:NK q2:=by rw [e0,e1];exact⟨hN.1.know,hN.1.small,hN.1.caps,hN.1.toks⟩
    refine⟨⟨hN2.know,hN2.small,hN2.caps,hN2.toks⟩,?_,?_,e5⟩
    ·simp only;rw [e0,e1];simp only;rw [hN.2.1];rfl
    ·simp only;rw [e0,e1];exact hN.2.2
def badR (chk:List Nat→Nat) (l:List Lx):Option Fa:=l.findSome? fun x=>if x.k=1∧chk x.t≠0 then some (chk x.t,x.a) else none
def badU (chk:List Nat→Nat) (l:List (List Nat × Nat)):Option Fa:=l.findSome? fun x=>if chk x.1≠0 then some (chk x.1,x.2) else none
def Use (ls:List Lx) (a:Nat) (N:List (List Nat)) (i:Nat) (U:List (List Nat × Nat)):Prop:=a≤i∧∀ chk:List Nat→Nat,(∀ n ∈ N,chk n=0)→badR chk ((ls.drop a).take (i-a))=badU chk U
theorem take_step {a i:Nat} {x:Lx} (h:ls[i]?=some x) (ha:a≤i):(ls.drop a).take (i+1-a)=(ls.drop a).take (i-a)++[x]:=by
 rw [show i+1-a=(i-a)+1 by omega,List.take_add_one,List.getElem?_drop,show a+(i-a)=i by omega,h];rfl
theorem Use.word {a i:Nat} {N:List (List Nat)} {U:List (List Nat × Nat)} {x:Lx} (h:Use ls a N i U) (hx:ls[i]?=some x) (hk:x.k=1):Use ls a N (i+1) (U++[(x.t,x.a)]) :=
 ⟨by have:=h.1;omega,fun chk hc=>by
  have:=h.2 chk hc
  unfold badR badU at *
  rw [take_step hx h.1,List.findSome?_append,List.findSome?_append,this]
  simp [List.findSome?,hk]⟩
theorem Use.none {a i:Nat} {N:List (List Nat)} {U:List (List Nat × Nat)} {x:Lx} (h:Use ls a N i U) (hx:ls[i]?=some x) (hk:x.k≠1∨x.t ∈ N):Use ls a N (i+1) U :=
 ⟨by have:=h.1;omega,fun chk hc=>by
  have:=h.2 chk hc
  have hz:¬ (x.k=1∧chk x.t≠0):=fun e=>hk.elim (fun h=>h e.1) (fun h=>e.2 (hc _ h))
  unfold badR badU at *
  rw [take_step hx h.1,List.findSome?_append,this,List.findSome?_cons,if_neg hz]
  simp⟩
theorem Use.more {a i:Nat} {N:List (List Nat)} {U:List (List Nat × Nat)} {t:List Nat} (h:Use ls a N i U):Use ls a (N++[t]) i U :=
 ⟨h.1,fun chk hc=>h.2 chk fun n hn=>hc n (List.mem_append_left _ hn)⟩
def UsesP (ls:List Lx) (a:Nat) (u0:List Nat × Nat) (N:List (List Nat)) (i:Nat) (p:PS):Prop:=∃ U,p.uses=u0 :: U∧Use ls a N i U
abbrev Keep (p q:PS):Prop:=q.x=p.x∧q.names=p.names
theorem altR_ok {a:Nat} {u0:List Nat × Nat} {N:List (List Nat)}:∀ (n m:Nat) (acc:List (List Nat)) {r:RS} {p:PS},Rel ls r p→UsesP ls a u0 N r.pos p→p.l.length<n→p.l.length<m →
  match altQ s m acc p with
  |.ok v=>(altR s ls n acc r).1=v.1∧Keep p v.2∧v.2.l.length≤p.l.length∧((Rel ls (altR s ls n acc r).2 v.2∧UsesP ls a u0 N (altR s ls n acc r).2.pos v.2)∨(v.2.l=[]∧(altR s ls n acc r).2.f=(5,s.length)))
  |.error e=>(altR s ls n acc r).2.f=e∧e.1≠0
 |0,_,_,_,_,_,_,h,_=>by omega
 |_,0,_,_,_,_,_,_,h=>by omega
 |n+1,m+1,acc,r,p,h,hU,hn,hm=>by
  rcases h.cases (s:=s) with⟨x,hx,hl,e0,e1,e2,hr⟩|⟨hx,hl,e0,e1,e2⟩
  ·simp only [altR,h.f0,if_true,e0,altQ,hl]
   by_cases hk:x.k=1
   ·simp only [hk,if_true,e1,wordP,e2,Except.bind,ne_eq,not_true,if_false]
    by_cases hy:mayF x.t=true
    ·simp only [hy,if_true]
     by_cases h6:acc.length=6
     ·simp only [h6,if_true]
      have hf:(wordR 6 (x,{ r with pos:=r.pos+1 })).f=(6,x.a):=by simp [wordR,hy,roomR,failR,h.f0]
      rw [altR_f (by rw [hf];simp)]
      exact⟨hf,by simp⟩
     ·simp only [h6,if_false]
      have he:wordR acc.length (x,{ r with pos:=r.pos+1 })={ r with pos:=r.pos+1 }:=by simp [wordR,hy,roomR,h6]
      rw [he]
      obtain⟨U,hU1,hU2⟩:=hU
      have hr3:Rel ls { r with pos:=r.pos+1 } { p with l:=ls.drop (r.pos+1),uses:=p.uses++[(x.t,x.a)] }:=⟨hr.f,hr.l,hr.x,hr.n⟩
      have hl3:(ls.drop (r.pos+1)).length+1=p.l.length:=by rw [hl];rfl
      have ih:=altR_ok n m (acc++[x.t]) hr3 ⟨U++[(x.t,x.a)],by simp only;rw [hU1];rfl,hU2.word hx hk⟩ (by simp only;omega) (by simp only;omega)
      split
      ·rename_i v hv
       rw [hv] at ih
       exact⟨ih.1,ih.2.1,(by have h9:=ih.2.2.1;simp only at h9;first|omega|(simp only [List.length_cons];omega)),ih.2.2.2⟩
      ·rename_i e hv
       rw [hv] at ih
       exact ih
    ·simp only [hy,if_false]
     have hf:(wordR acc.length (x,{ r with pos:=r.pos+1 })).f=(12,x.a):=by
      have:(failR 12 x.a { r with pos:=r.pos+1 }).f.1≠0:=by simp [failR,h.f0]
      simp only [wordR,hy]
      rw [if_neg (by simp),roomR_f this]
      simp [failR,h.f0]
     rw [altR_f (by rw [hf];simp)]
     exact⟨hf,by simp⟩
   ·simp only [hk,if_false]
    exact⟨(by first|exact trivial|rfl),⟨rfl,rfl⟩,(by first|exact Nat.le_refl _|(rw [hl];exact Nat.le_refl _)),.inl ⟨h,hU⟩⟩
  ·simp only [altR,h.f0,if_true,e0,altQ,hl]
   rw [if_neg (by simp)]
   exact⟨(by first|exact trivial|rfl),⟨rfl,rfl⟩,(by first|exact Nat.le_refl _|(rw [hl];exact Nat.le_refl _)),.inr ⟨(by first|exact hl|exact trivial),(by first|rfl|exact trivial)⟩⟩
end
end Go.Av
end
noncomputable section
namespace Go.Av
open Go Go.Proofs
section
variable {s:List Nat} {ls:List Lx}
theorem exb_ok {ε α β:Type} (a:α) (f:α→Except ε β):(Except.ok a:Except ε α).bind f=f a:=rfl
theorem altsR_ok {a:Nat} {u0:List Nat × Nat} {N:List (List Nat)}:∀ (n m:Nat) (acc:List (List (List Nat))) {r:RS} {p:PS} {x:Lx},Rel ls r p→UsesP ls a u0 N r.pos p→ls[r.pos-1]?=some x→p.l.length<n→p.l.length<m →
  match (if p.total=24 then Except.error (6,x.a) else(oneAltP s { p with total:=p.total+1 }).bind fun v=>altsP s m false (acc++[v.1]) v.2) with
  |.ok v=>(altsR s ls n acc r).1=v.1∧Keep p v.2∧v.2.l.length≤p.l.length∧((Rel ls (altsR s ls n acc r).2 v.2∧UsesP ls a u0 N (altsR s ls n acc r).2.pos v.2)∨(v.2.l=[]∧(altsR s ls n acc r).2.f=(5,s.length)))
  |.error e=>(altsR s ls n acc r).2.f=e∧e.1≠0
 |0,_,_,_,_,_,_,_,_,h,_=>by omega
 |_,0,_,_,_,_,_,_,_,_,h=>by omega
 |n+1,m+1,acc,r,p,x,h,hU,hx,hn,hm=>by
  obtain⟨R1,hR1⟩:∃ R1,R1=oneAltR s ls r:=⟨_,rfl⟩
  have hV:altsR s ls (n+1) acc r=if(nextQ ls sBar R1.2).1=true then altsR s ls n (acc++[R1.1]) (nextQ ls sBar R1.2).2 else(acc++[R1.1],(nextQ ls sBar R1.2).2):=by rw [hR1];rfl
  rw [hV]
  unfold oneAltR at hR1
  clear hV
  have hat:(ls.getD (r.pos-1) lx0).a=x.a:=by rw [List.getD_eq_getElem?_getD,hx];rfl
  by_cases h24:p.total=24
  ·rw [if_pos h24]
   have hf:(countR ls r).f=(6,x.a):=by simp only [countR,roomR,h.n,h24,if_true,failR,h.f0,hat]
   rw [altR_f (by rw [hf];simp)] at hR1
   subst hR1
   rw [nextQ_f (by simp only [hf];simp)]
   exact⟨hf,by simp⟩
  ·rw [if_neg h24]
   have hc:countR ls r={ r with alts:=r.alts+1 }:=by simp only [countR,roomR,h.n,h24,if_false]
   rw [hc] at hR1
   have hr1:Rel ls { r with alts:=r.alts+1 } { p with total:=p.total+1 }:=⟨h.f,h.l,h.x,by simp only [h.n]⟩
   have hlen:p.l.length≤ls.length:=by rw [h.l,List.length_drop];omega
   have h1:=altR_ok (s:=s) (a:=a) (u0:=u0) (N:=N) (ls.length+1) (p.l.length+1) [] hr1 hU (by simp only;omega) (by simp only;omega)
   unfold oneAltP
   simp only at h1 ⊢
   rw [← hR1] at h1
   clear hR1
   cases hq:altQ s (p.l.length+1) [] { p with total:=p.total+1 } with
   |error e =>
    rw [hq] at h1
    simp only [Except.bind]
    rw [nextQ_f (by rw [h1.1];exact h1.2)]
    exact h1
   |ok v =>
    rw [hq] at h1
    obtain⟨e1,⟨k1,k2⟩,hl,hcase⟩:=h1
    simp only [Except.bind]
    simp only at k1 k2 hl
    rw [e1]
    unfold altsP
    rcases hcase with⟨hr,hU1⟩|⟨hnil,hf⟩
    ·cases hb:isL sBar v.2.l with
     |false =>
      have hb':isL sBar (ls.drop R1.2.pos)=false:=by rw [← hr.l];exact hb
      simp only [true_and,if_true,nextQ,hr.f0,hb',Bool.false_eq_true,and_false,if_false]
      first|exact⟨trivial,⟨k1,k2⟩,hl,.inl ⟨hr,hU1⟩⟩|exact⟨⟨k1,k2⟩,hl,.inl ⟨hr,hU1⟩⟩
     |true =>
      have hb':isL sBar (ls.drop R1.2.pos)=true:=by rw [← hr.l];exact hb
      simp only [nextQ,hr.f0,hb',and_self,if_true,Bool.true_eq_false,and_false,if_false,Bool.false_eq_true]
      rcases hr.cases (s:=s) with⟨y,hy,hl2,_,_,e3,hr2⟩|⟨hy,hl2,_,_,e3⟩
      ·rw [e3]
       have hyb:y.k=3∧y.t=sBar:=by rw [hl2] at hb;simpa [isL] using hb
       simp only [Except.bind,hyb,and_self,if_true]
       obtain⟨U,hu1,hu2⟩:=hU1
       have hl3:(ls.drop (R1.2.pos+1)).length+1=v.2.l.length:=by rw [hl2];rfl
       have ih:=altsR_ok n m (acc++[v.1]) (x:=y) hr2 ⟨U,hu1,hu2.none hy (.inl (by rw [hyb.1];omega))⟩ (by simpa using hy) (by simp only;omega) (by simp only;omega)
       simp only [Except.bind] at ih
       split
       ·rename_i w hw
        rw [hw] at ih
        exact⟨ih.1,⟨ih.2.1.1.trans k1,ih.2.1.2.trans k2⟩,by have:=ih.2.2.1;omega,ih.2.2.2⟩
       ·rename_i e hw
        rw [hw] at ih
        exact ih
      ·rw [hl2] at hb;cases hb
    ·have hb:isL sBar v.2.l=false:=by rw [hnil];rfl
     rw [nextQ_f (by rw [hf];simp)]
     simp only [hb,and_self,if_true,Bool.false_eq_true,if_false]
     first|exact⟨trivial,⟨k1,k2⟩,hl,.inr ⟨hnil,hf⟩⟩|exact⟨⟨k1,k2⟩,hl,.inr ⟨hnil,hf⟩⟩
theorem ruleR_ok {a:Nat} {u0:List Nat × Nat} {r:RS} {p:PS} (h:Rel ls r p) (hN:NK p) (hU:UsesP ls a u0 (ruleNames p.x) r.pos p):match ruleQ s p with
  |.ok q=>Rel ls (ruleR s ls r) q∧NK q∧UsesP ls a u0 (ruleNames q.x) (ruleR s ls r).pos q∧q.l.length<p.l.length
  |.error e=>(ruleR s ls r).f=e∧e.1≠0:=by
 have hw:=word_ok (s:=s) h true
 simp only [if_true] at hw
 unfold ruleQ
 simp only [ruleR]
 have stay:∀ (r1:RS) (l:List Nat) (n:Nat) (i:Nat),r1.f.1≠0→(mustR s ls 3 sSemi (if(mustR s ls 3 sEq (roomR n 8 i r1)).f.1=0 then altsR s ls (ls.length+1) [] (mustR s ls 3 sEq (roomR n 8 i r1)) else([],mustR s ls 3 sEq (roomR n 8 i r1))).2).f=r1.f:=by
  intro r1 l n i hf
  have h1:=mustR_f (s:=s) (ls:=ls) (k:=3) (t:=sEq) hf
  rw [roomR_f hf,if_neg (by rw [h1];exact hf),mustR_f (by simp only [h1];exact hf)]
  exact h1
 cases hq:wordP s capitalF p with
 |error e =>
  rw [hq] at hw
  have h1:=word_bad hw.1 hw.2
  have h3:(nameR s ls true (peekR s ls r).2).2.f.1≠0:=by rw [h1];exact hw.1
  simp only [Except.bind]
  rw [if_neg h3,stay _ [] _ _ h3]
  exact⟨h1,hw.1⟩
 |ok q =>
  rw [hq] at hw
  obtain⟨x,q⟩:=q
  obtain⟨e0,el,e2,e3,e4,e5,e6,e7⟩:=hw
  simp only at e0 el e2 e3 e4 e5 e6 e7
  have hkn:(knowP q.names x.t).2.2=hasF (ruleNames p.x) x.t:=by rw [e0];simp only [hN.know]
  have hrx:r.x=p.x:=h.x
  have hqx:q.x=p.x:=by rw [e0]
  simp only [Except.bind,e2,e3,hkn,h.f0,if_true]
  cases hh:hasF (ruleNames p.x) x.t with
  |true =>
   have hnw:∀ a (r':RS),newR (ruleNames r.x) x.t a r'=failR 8 a r':=fun a r'=>by rw [newR,hrx,hh,if_pos rfl]
   simp only [if_true,hnw]
   have hf:(failR 8 x.a { r with pos:=r.pos+1 }).f=(8,x.a):=by simp [failR,h.f0]
   rw [stay _ [] _ _ (by rw [hf];simp),hf]
   exact⟨rfl,by simp⟩
  |false =>
   have hnw:∀ a (r':RS),newR (ruleNames r.x) x.t a r'=r':=fun a r'=>by rw [newR,hrx,hh,if_neg (by simp)]
   simp only [Bool.false_eq_true,if_false,hnw]
   by_cases h8:p.x.rules.length=8
   ·rw [if_pos (by rw [hqx];exact h8)]
    have e8:roomR r.x.rules.length 8 x.a { r with pos:=r.pos+1 }={ r with pos:=r.pos+1,f:=(6,x.a) }:=by rw [roomR,hrx,if_pos h8];simp [failR,h.f0]
    have:=mustR_f (s:=s) (ls:=ls) (k:=3) (t:=sEq) (r:={ r with pos:=r.pos+1,f:=(6,x.a) }) (by simp)
    rw [e8,if_neg (by rw [this];simp),mustR_f (by simp only [this];simp)]
    exact⟨this,by simp⟩
   ·rw [if_neg (by rw [hqx];exact h8)]
    have e8:roomR r.x.rules.length 8 x.a { r with pos:=r.pos+1 }={ r with pos:=r.pos+1 }:=by rw [roomR,hrx,if_neg h8]
    rw [e8]
    generalize hr1:({ r with pos:=r.pos+1 }:RS)=r1 at e4 ⊢
    have hp1:r1.pos=r.pos+1:=by rw [← hr1]
    obtain⟨U,hu1,hu2⟩:=hU
    have hu3:Use ls a (ruleNames p.x++[x.t]) r1.pos U:=by rw [hp1];exact hu2.more.none e6 (.inr (by simp))
    obtain⟨q1,hq1⟩:∃ q1:PS,q1={ q with names:=setP q.names x.t (false,false,true) }:=⟨_,rfl⟩
    have hr4:Rel ls r1 q1:=by rw [hq1];exact⟨e4.f,e4.l,e4.x,e4.n⟩
    have hql:q1.l=q.l:=by rw [hq1]
    rw [← hq1,← hql]
    unfold altsP
    simp only [Bool.true_eq_false,false_and,if_false,if_true]
    rcases hr4.cases (s:=s) with⟨y,hy,hl2,e9,e10,e11,hr2⟩|⟨hy,hl2,e9,e10,e11⟩
    ·rw [e11]
     by_cases hyc:y.k=3∧y.t=sEq
     ·have em:mustR s ls 3 sEq r1={ r1 with pos:=r1.pos+1 }:=by simp [mustR,mustX,e10,hyc]
      simp only [exb_ok,em]
      rw [if_pos hyc]
      simp only [hr4.f0,if_true]
      have hl3:(ls.drop (r1.pos+1)).length+1=q1.l.length:=by rw [hl2];rfl
      have hlen:q1.l.length≤ls.length:=by rw [hr4.l,List.length_drop];omega
      have hU5:UsesP ls a u0 (ruleNames p.x++[x.t]) (r1.pos+1) { q1 with l:=ls.drop (r1.pos+1) }:=⟨U,by simp only [hq1];rw [e0];exact hu1,hu3.none hy (.inl (by rw [hyc.1];omega))⟩
      have h6:=altsR_ok (s:=s) (ls.length+1) q1.l.length [] (x:=y) hr2 hU5 (by simpa using hy) (by simp only;omega) (by simp only;omega)
      simp only [List.nil_append] at h6 ⊢
      have hbind:(if q1.total=24 then(Except.error (6,y.a):Except Fa (List (List (List Nat)) × PS)) else
        (oneAltP s { q1 with l:=ls.drop (r1.pos+1),total:=q1.total+1 }).bind fun v=>altsP s q1.l.length false ([]++[v.1]) v.2) =
       (if q1.total=24 then(Except.error (6,y.a):Except Fa (List (List (List Nat)) × PS)) else
        (oneAltP s { q1 with l:=ls.drop (r1.pos+1),total:=q1.total+1 }).bind fun v=>altsP s q1.l.length false [v.1] v.2):=rfl
      have hr7:({ r1 with pos:=r1.pos+1 }:RS).f.1=0:=hr4.f0
      generalize altsR s ls (ls.length+1) [] { r1 with pos:=r1.pos+1 }=V at h6 ⊢
      generalize (if q1.total=24 then(Except.error (6,y.a):Except Fa (List (List (List Nat)) × PS)) else
        (oneAltP s { q1 with l:=ls.drop (r1.pos+1),total:=q1.total+1 }).bind fun v=>altsP s q1.l.length false [v.1] v.2)=W at h6 ⊢
      cases W with
      |error e =>
       simp only [Except.bind] at h6 ⊢
       rw [mustR_f (by rw [h6.1];exact h6.2)]
       exact h6
      |ok v =>
       simp only [Except.bind] at h6 ⊢
       obtain⟨g1,⟨g2,g3⟩,g4,g5⟩:=h6
       rcases g5 with⟨hr8,hU8⟩|⟨hnil,hf⟩
       ·have h9:=mustR_ok (s:=s) hr8 3 sSemi
        cases hq9:wantP s 3 sSemi v.2 with
        |error e=>rw [hq9] at h9;exact h9
        |ok q9 =>
         rw [hq9] at h9
         obtain⟨hr9,f1,f2,f3,z,hz1,hz2,_⟩:=h9
         simp only at g2 g3 g4
         have x9:q9.x=p.x:=by rw [f1];simp only;rw [g2,hq1];simp only;exact hqx
         have n9:q9.names=setP p.names x.t (false,false,true):=by rw [f1];simp only;rw [g3,hq1,e0]
         obtain⟨U8,hu81,hu82⟩:=hU8
         refine⟨⟨hr9.f,hr9.l,?_,hr9.n⟩,⟨fun t=>?_,?_,?_,?_⟩,⟨U8,by simp only;rw [f1];exact hu81,?_⟩,?_⟩
         ·simp only [hr9.x,g1]
         ·simp only [n9,knowP_set,x9,ruleNames,List.map_append,List.map_cons,List.map_nil,hasF_snoc]
          have hcap:=small_cap (t:=t)
          by_cases ht:t=x.t
          ·subst ht
           have a1:hasF p.x.tokens x.t=false:=by
            cases hc:hasF p.x.tokens x.t with
            |false=>rfl
            |true =>
             simp only [hasF,List.any_eq_true,decide_eq_true_eq] at hc
             obtain⟨u,hu,rfl⟩:=hc
             rw [small_cap (hN.toks _ hu)] at e5;cases e5
           have a2:¬ x.t=p.x.sep:=fun e=>by
            have:=small_cap hN.small
            rw [← e,e5] at this;cases this
           simp [a1,a2]
          ·rw [if_neg ht,hN.know]
           simp [show ¬ x.t=t from fun e=>ht e.symm]
         ·simp only [x9];exact hN.small
         ·intro t ht
          simp only [ruleNames,x9,List.map_append,List.map_cons,List.map_nil,List.mem_append,List.mem_singleton] at ht
          rcases ht with ht|rfl
          ·exact hN.caps t ht
          ·exact e5
         ·simp only [x9];exact hN.toks
         ·simp only [ruleNames,x9,List.map_append,List.map_cons,List.map_nil]
          rw [f3]
          exact hu82.none hz1 (.inl (by omega))
         ·simp only at f2 ⊢
          have:q.l.length<p.l.length:=el
          rw [hql] at hl3
          omega
       ·have hw5:wantP s 3 sSemi v.2=.error (5,s.length):=by simp [wantP,nextP,hnil,Except.bind]
        rw [hw5]
        simp only
        rw [mustR_f (by rw [hf];simp)]
        exact⟨hf,by simp⟩
     ·have em:mustR s ls 3 sEq r1=failR 3 y.a { r1 with pos:=r1.pos+1 }:=by
       simp only [mustR,mustX,e10,hr4.f0,true_and]
       rw [if_pos hyc]
      have hf:(failR 3 y.a { r1 with pos:=r1.pos+1 }).f=(3,y.a):=by simp [failR,hr4.f0]
      simp only [Except.bind]
      rw [em,if_neg hyc,if_neg (by rw [hf];simp),mustR_f (by simp only;rw [hf];simp)]
      exact⟨hf,by simp⟩
    ·rw [e11]
     simp only [Except.bind]
     have h5:mustR s ls 3 sEq r1={ r1 with f:=(5,s.length),pos:=r1.pos+1 }:=by simp [mustR,mustX,e10]
     rw [h5]
     rw [if_neg (by simp),mustR_f (by simp)]
     exact⟨rfl,by simp⟩
theorem rulesR_ok {a:Nat} {u0:List Nat × Nat}:∀ (n m:Nat) (first:Bool) {r:RS} {p:PS},Rel ls r p→NK p→UsesP ls a u0 (ruleNames p.x) r.pos p→p.l.length<n→p.l.length<m →
  match rulesP s m first p with
  |.ok q=>Rel ls (rulesR s ls n first r) q∧NK q∧UsesP ls a u0 (ruleNames q.x) (rulesR s ls n first r).pos q∧q.l=[]
  |.error e=>(rulesR s ls n first r).f=e∧e.1≠0
 |0,_,_,_,_,_,_,_,h,_=>by omega
 |_,0,_,_,_,_,_,_,_,h=>by omega
 |n+1,m+1,first,r,p,h,hN,hU,hn,hm=>by
  have hiff:0<p.l.length ↔ r.pos<ls.length:=by rw [h.l,List.length_drop];omega
  unfold rulesP rulesR
  by_cases hc:first=true∨0<p.l.length
  ·have h1:=ruleR_ok (s:=s) h hN hU
   rw [if_pos hc,if_pos ⟨h.f0,hc.imp id hiff.1⟩]
   cases hq:ruleQ s p with
   |error e =>
    rw [hq] at h1
    simp only [Except.bind]
    rw [rulesR_f (by rw [h1.1];exact h1.2)]
    exact h1
   |ok q =>
    rw [hq] at h1
    simp only [Except.bind]
    exact rulesR_ok n m false h1.1 h1.2.1 h1.2.2.1 (by have:=h1.2.2.2;omega) (by have:=h1.2.2.2;omega)
  ·rw [if_neg hc,if_neg (fun e=>hc (e.2.imp id hiff.2))]
   refine⟨h,hN,hU,?_⟩
   have:¬ 0<p.l.length:=fun e=>hc (.inr e)
   exact List.length_eq_zero_iff.1 (by omega)
theorem knownL_f:∀ {l:List Lx} {r:RS},r.f.1≠0→knownL l r=r
 |[],_,_=>rfl
 |x :: l,r,h=>by
  have:knownOneR x r=r:=by unfold knownOneR;split<;>simp [failR_f h]
  rw [knownL,this,knownL_f h]
theorem knownL_ok:∀ {l:List Lx} {r:RS},r.f=(0,0)→match badR (chkU r.x) l with
  |some e=>(knownL l r).f=e∧e.1≠0
  |none=>knownL l r=r
 |[],_,_=>rfl
 |x :: l,r,h=>by
  unfold badR
  rw [List.findSome?_cons,knownL]
  by_cases hc:x.k=1∧chkU r.x x.t≠0
  ·rw [if_pos hc]
   have e:knownOneR x r={ r with f:=(chkU r.x x.t,x.a) }:=by simp [knownOneR,hc,failR,h]
   rw [e,knownL_f (by simpa using hc.2)]
   exact⟨rfl,hc.2⟩
  ·rw [if_neg hc]
   have e:knownOneR x r=r:=by simp only [knownOneR,hc,if_false]
   rw [e]
   exact knownL_ok h
theorem usedL_eq {nm:List (List Nat × Bool × Bool × Bool)}:∀ {l:List (List Nat × Nat)},usedL nm false l=match badU (chkP nm false) l with
  |some e=>.error e
  |none=>.ok ()
 |[]=>rfl
 |u :: l=>by
  unfold badU usedL
  rw [List.findSome?_cons]
  by_cases hc:chkP nm false u.1≠0
  ·rw [if_pos hc,if_pos hc]
  ·rw [if_neg hc,if_neg hc]
   exact usedL_eq
theorem hasF_mem2 {l:List (List Nat)} {t:List Nat} (h:t ∈ l):hasF l t=true:=by
 simp only [hasF,List.any_eq_true,decide_eq_true_eq]
 exact⟨t,h,rfl⟩
theorem read_law (s:List Nat) (ls:List Lx):resR (readR s ls)=resP (readP s ls):=by
 have h0:Rel ls ⟨0,(0,0),0,src0⟩ ⟨ls,src0,[],[],0⟩:=⟨rfl,rfl,rfl,rfl⟩
 have n0:NH ⟨ls,src0,[],[],0⟩:=⟨fun t=>rfl,fun t h=>(by cases h),rfl,rfl⟩
 have bad:∀ {r:RS} {e:Fa},r.f=e→e.1≠0→resR r=resP (.error e):=fun {r e} h1 h2=>by simp [resR,h1,h2,resP]
 have head:∀ {e:Fa},(headR s ls ⟨0,(0,0),0,src0⟩).2.f=e→e.1≠0→resR (readR s ls)=resP (.error e):=fun {e} h1 h2=>by
  have h3:(headR s ls ⟨0,(0,0),0,src0⟩).2.f.1≠0:=by rw [h1];exact h2
  simp only [readR]
  rw [rulesR_f h3,if_neg h3]
  exact bad h1 h2
 unfold readP
 have h1:=lookR_ok (s:=s) h0 n0
 unfold headR at head
 cases hq1:lookP s ⟨ls,src0,[],[],0⟩ with
 |error e =>
  rw [hq1] at h1
  have a1:(lookR s ls ⟨0,(0,0),0,src0⟩).f.1≠0:=by rw [h1.1];exact h1.2
  have a2:=mustR_f (s:=s) (ls:=ls) (k:=1) (t:=wToken) a1
  have a3:=tokensR_f (s:=s) (ls:=ls) (n:=ls.length+1) (r:=mustR s ls 1 wToken (lookR s ls ⟨0,(0,0),0,src0⟩)) (by rw [a2];exact a1)
  have a4:(mustR s ls 3 sSemi (tokensR s ls (ls.length+1) (mustR s ls 1 wToken (lookR s ls ⟨0,(0,0),0,src0⟩)))).f=e:=by rw [a3,mustR_f (by rw [a2];exact a1),a2,h1.1]
  refine head ?_ h1.2
  rw [startR_f (by rw [sepR_f (by rw [a4];exact h1.2),a4];exact h1.2),sepR_f (by rw [a4];exact h1.2),a4]
 |ok p1 =>
  rw [hq1] at h1
  have h2:=tokP_ok (s:=s) h1.1 h1.2
  simp only [Except.bind]
  cases hq2:tokensP s p1 with
  |error e =>
   rw [hq2] at h2
   refine head ?_ h2.2
   rw [startR_f (by rw [sepR_f (by rw [h2.1];exact h2.2),h2.1];exact h2.2),sepR_f (by rw [h2.1];exact h2.2),h2.1]
  |ok p2 =>
   rw [hq2] at h2
   have h3:=sepR_ok (s:=s) h2.1 h2.2
   simp only
   cases hq3:sepQ s p2 with
   |error e =>
    rw [hq3] at h3
    refine head ?_ h3.2
    rw [startR_f (by rw [h3.1];exact h3.2),h3.1]
   |ok p3 =>
    rw [hq3] at h3
    have h4:=startR_ok (s:=s) h3.1 h3.2
    simp only
    cases hq4:startP s p3 with
    |error e =>
     rw [hq4] at h4
     exact head h4.1 h4.2
    |ok p4 =>
     rw [hq4] at h4
     obtain⟨hr4,hN4,hu4,hrul,hcap⟩:=h4
     simp only
     have hhead:headR s ls ⟨0,(0,0),0,src0⟩=startR s ls (sepR s ls (mustR s ls 3 sSemi (tokensR s ls (ls.length+1) (mustR s ls 1 wToken (lookR s ls ⟨0,(0,0),0,src0⟩))))):=rfl
     simp only [readR]
     rw [hhead]
     generalize startR s ls (sepR s ls (mustR s ls 3 sSemi (tokensR s ls (ls.length+1) (mustR s ls 1 wToken (lookR s ls ⟨0,(0,0),0,src0⟩)))))=V at hr4 hu4 hcap ⊢
     have hlen:p4.l.length≤ls.length:=by rw [hr4.l,List.length_drop];omega
     have hU4:UsesP ls V.2.pos (V.1.t,V.1.a) (ruleNames p4.x) V.2.pos p4:=⟨[],hu4,Nat.le_refl _,fun chk _=>by simp [badR,badU]⟩
     have h5:=rulesR_ok (s:=s) (ls.length+2) (p4.l.length+1) true hr4 hN4 hU4 (by omega) (by omega)
     generalize rulesR s ls (ls.length+2) true V.2=R5 at h5 ⊢
     cases hq5:rulesP s (p4.l.length+1) true p4 with
     |error e =>
      rw [hq5] at h5
      rw [if_neg (by rw [h5.1];exact h5.2)]
      exact bad h5.1 h5.2
     |ok p5 =>
      rw [hq5] at h5
      obtain⟨hr5,hN5,⟨U,hu5,hue⟩,hnil⟩:=h5
      simp only
      rw [if_pos hr5.f0]
      have hall:(ls.drop V.2.pos).take (R5.pos-V.2.pos)=ls.drop V.2.pos:=by
       have:ls.length≤R5.pos:=by
        have:=hr5.l
        rw [hnil] at this
        exact List.drop_eq_nil_iff.1 this.symm
       rw [List.take_of_length_le (by rw [List.length_drop];omega)]
      have hsame:∀ t,chkP p5.names false t=chkU p5.x t:=fun t=>by
       simp only [chkP,hN5.know,chkU,decide_eq_true_eq,Bool.false_eq_true,false_or]
      have hzero:∀ n ∈ ruleNames p5.x,chkU p5.x n=0:=fun n hn=>by
       have:¬ n=p5.x.sep:=fun e=>by
        have h1:=hN5.caps n hn
        rw [e,small_cap hN5.small] at h1;cases h1
       simp [chkU,this,hasF_mem2 hn]
      have hbad:=hue.2 (chkU p5.x) hzero
      rw [hall] at hbad
      have hcu:chkP p5.names false=chkU p5.x:=funext hsame
      unfold usedP
      rw [hu5,usedL,usedL_eq,hcu,← hbad]
      have hst:¬ V.1.t=p5.x.sep:=fun e=>by rw [e,small_cap hN5.small] at hcap;cases hcap
      have hfirst:chkP p5.names true V.1.t=if hasF (ruleNames p5.x) V.1.t=false then 7 else 0:=by
       simp only [chkP,hN5.know,decide_eq_true_eq,hst,if_false,true_or,and_true]
      unfold knownR
      rw [hr5.x]
      simp only [hfirst]
      cases hh:hasF (ruleNames p5.x) V.1.t with
      |false =>
       have hf:(failR 7 V.1.a R5).f=(7,V.1.a):=by simp [failR,hr5.f0]
       simp only [if_true,ne_eq]
       rw [knownL_f (by rw [hf];simp)]
       simp only [Except.bind]
       exact bad hf (by simp)
      |true =>
       simp only [Bool.true_eq_false,if_false,ne_eq,not_true]
       have h6:=knownL_ok (l:=ls.drop V.2.pos) hr5.f
       rw [hr5.x] at h6
       cases hb:badR (chkU p5.x) (ls.drop V.2.pos) with
       |some e =>
        rw [hb] at h6
        simp only [Except.bind]
        exact bad h6.1 h6.2
       |none =>
        rw [hb] at h6
        simp only at h6
        rw [h6]
        simp only [Except.bind,resR,resP,hr5.f0,if_true,hr5.x]
end
end Go.Av
end
noncomputable section
namespace Go.Av
open Go Go.Proofs
set_option maxRecDepth 10000
section
variable {P:Program} {nt m:Nat} {ro':Option Nat} {x y:Code} {s:S} {K:Ex→S→Prop}
theorem Run.midE {α:Type} (S1:α→S) (C:α→Prop) (h1:Run P nt m ro' x s (fun e s1=>match e with|.normal=>∃ v,C v∧Tidy m s1 (S1 v)|e=>K e s1)) (h2:∀ v,C v→Run P nt m ro' y (S1 v) K) :
  Run P nt m ro' x s (fun e s1=>match e with|.normal=>Run P nt m ro' y s1 K|e=>K e s1) :=
 h1.mono fun e s1 h=>by
  cases e with
  |normal=>obtain⟨v,h3,h4⟩:=h;exact Run.tidy h4 (h2 v h3)
  |_=>exact h
end
abbrev boxM (x:Lx):Ob:=.box [.d (.int .i64 (x.k:Nat)),.d (.str x.t),.d (.int .i64 (x.a:Nat))]
abbrev pOr (s:List Nat) (v:PS) (r:SRule):List Ob:=[.box [.d (.str s),.d (.sl 3 (v.l.map encL)),.d (.int .i64 v.x.k),.sr 1 1 (v.x.tokens.map .str),.d (.str v.x.sep),.d (.str v.x.start),.sr 2 2 (v.x.rules.map encR++[encR r]),.mp 3,.sr 4 2 (v.uses.map encU),.d (.int .i64 (v.total:Nat))],.room v.x.tokens.length 1,.room (v.x.rules.length+1) 2,.map (kvN v.names),.room v.uses.length 2]
theorem pOr_eq (s:List Nat) (v:PS) (r:SRule):pO s { v with x:={ v.x with rules:=v.x.rules++[r] } }=pOr s v r:=by
 unfold pO pBox pOr;simp only [List.map_append,List.map_cons,List.map_nil,List.length_append,List.length_cons,List.length_nil]
set_option maxHeartbeats 8000000 in
theorem rulesC (s:List Nat) (p:PS) (hb:PB p) (hr8:p.x.rules.length≤8) (ht24:p.total≤24):ACall Try.prog 19 [.bp 0 0] (pO s p) (endR (rulesP s (p.l.length+1) true p)) (endG s (rulesP s (p.l.length+1) true p)):=by
 obtain⟨R,hR⟩:∃ R,R=rulesP s (p.l.length+1) true p:=⟨_,rfl⟩
 rw [← hR]
 refine acallU (fnAt Try.func19 (by kernel_rfl) (by kernel_rfl):FnAt _ _ (mkFn Try.f19 [88,100])) rfl rfl ?_
 repeat' (first|refine Yg ?_|refine Yq ?_|(refine oB (frz:=[88,100]) Yo ?_ ?_<;>intro h<;>first|(exfalso;simp at h;first|done|omega)|skip)|(refine eB ?_ ?_<;>intro h<;>first|(exfalso;simp at h;first|done|omega)|skip)|refine oX (frz:=[88,100]) Yo ?_|refine oS ?_|refine Yn ?_|refine Yk ?_|refine cT ?_|refine cF ?_|refine Yb ?_|refine Ye ?_|refine Yd (frz:=[88,100]) Yo (by kernel_rfl) ?_|refine eX ?_|refine eS ?_|refine eN ?_|(refine Yt ?_;(first|refine rB ?_|refine rI ?_|refine rA ?_|refine rII ?_|refine rSI ?_|refine rT ?_|refine rS ?_);first|done|(skip))|((exfalso;(simp at h<;>omega)))|fail)
 refine Run.loopT (fun y:Nat × PS × Bool=>⟨PT.ofList [(0,.bp 0 0),(2,.d (.bool y.2.2))],pO s y.2.1,[]⟩)
  (fun y=>rulesP s y.1 y.2.2 y.2.1=R∧PB y.2.1∧y.2.1.l.length<y.1∧y.2.1.x.rules.length≤8∧y.2.1.total≤24) (fun y=>y.1) (p.l.length+1,p,true) ⟨hR.symm,hb,Nat.lt_succ_self _,hr8,ht24⟩ (tidy_of (objs:=_) _ 5 (by rfl) rfl (by repeat' (first|exact trivial|refine⟨(Or.inl rfl),?_⟩|refine⟨(Or.inr rfl),?_⟩|fail)) (by repeat' (first|exact trivial|refine⟨rfl,?_⟩|fail)) rfl rfl) (fun y hy=>?_)
 obtain⟨n,y,first⟩:=y
 obtain⟨i1,i2,i3,i4,i5⟩:=hy
 simp only at i1 i2 i3 i4 i5 ⊢
 obtain⟨n,rfl⟩:∃ j,n=j+1:=⟨n-1,by omega⟩
 unfold rulesP at i1
 by_cases hc:first=true∨0<y.l.length
 ·rw [if_pos hc] at i1
  have cw:=wordC s y _ capitalF i2.len capitalC
  unfold ruleQ at i1
  have hu:y.uses.length≤200000:=by have:=i2.uses;omega
  refine Yq ?_
  refine Run.mid ⟨PT.ofList [(0,.bp 0 0)],pO s y,[]⟩ ?_ ?_
  ·cases first with
   |true =>
    repeat' (first|refine Yg ?_|refine Yq ?_|(refine oB (frz:=[88,100]) Yo ?_ ?_<;>intro h<;>first|(exfalso;simp at h;first|done|omega)|skip)|(refine eB ?_ ?_<;>intro h<;>first|(exfalso;simp at h;first|done|omega)|skip)|refine oX (frz:=[88,100]) Yo ?_|refine oS ?_|refine Yn ?_|refine Yk ?_|refine cT ?_|refine cF ?_|refine Yb ?_|refine Ye ?_|refine Yd (frz:=[88,100]) Yo (by kernel_rfl) ?_|refine eX ?_|refine eS ?_|refine eN ?_|(refine Yt ?_;(first|refine rB ?_|refine rI ?_|refine rA ?_|refine rII ?_|refine rSI ?_|refine rT ?_|refine rS ?_);first|done|(skip))|(exact(by show Tidy _ _ _;exact(tidy_of (objs:=_) _ 5 (by rfl) rfl (by repeat' (first|exact trivial|refine⟨(Or.inl rfl),?_⟩|refine⟨(Or.inr rfl),?_⟩|fail)) (by repeat' (first|exact trivial|refine⟨rfl,?_⟩|fail)) rfl rfl)))|((exfalso;(simp at h<;>omega)))|fail)
   |false =>
    have hne:y.l≠[]:=by
     intro e
     rw [e] at hc
     simp at hc
    repeat' (first|refine Yg ?_|refine Yq ?_|(refine oB (frz:=[88,100]) Yo ?_ ?_<;>intro h<;>first|(exfalso;simp at h;first|done|omega)|skip)|(refine eB ?_ ?_<;>intro h<;>first|(exfalso;simp at h;first|done|omega)|skip)|refine oX (frz:=[88,100]) Yo ?_|refine oS ?_|refine Yn ?_|refine Yk ?_|refine cT ?_|refine cF ?_|refine Yb ?_|refine Ye ?_|refine Yd (frz:=[88,100]) Yo (by kernel_rfl) ?_|refine eX ?_|refine eS ?_|refine eN ?_|(refine Yt ?_;(first|refine rB ?_|refine rI ?_|refine rA ?_|refine rII ?_|refine rSI ?_|refine rT ?_|refine rS ?_);first|done|(skip))|(exact(by show Tidy _ _ _;exact(tidy_of (objs:=_) _ 5 (by rfl) rfl (by repeat' (first|exact trivial|refine⟨(Or.inl rfl),?_⟩|refine⟨(Or.inr rfl),?_⟩|fail)) (by repeat' (first|exact trivial|refine⟨rfl,?_⟩|fail)) rfl rfl)))|((exfalso;simp at h;exact hne h))|fail)
  refine Yq ?_
  refine Yb ?_
  cases hw:wordP s capitalF y with
  |error e9 =>
   rw [hw] at cw i1
   simp only [Except.bind] at i1
   subst i1
   repeat' (first|refine Yg ?_|refine Yq ?_|(refine oB (frz:=[88,100]) Yo ?_ ?_<;>intro h<;>first|(exfalso;simp at h;first|done|omega)|skip)|(refine eB ?_ ?_<;>intro h<;>first|(exfalso;simp at h;first|done|omega)|skip)|refine oX (frz:=[88,100]) Yo ?_|refine oS ?_|refine Yn ?_|refine Yk ?_|refine cT ?_|refine cF ?_|refine Yb ?_|refine Ye ?_|refine eX ?_|refine eS ?_|refine eN ?_|refine oFP (cw) ?_|(refine Yt ?_;(first|refine rB ?_|refine rI ?_|refine rA ?_|refine rII ?_|refine rSI ?_|refine rT ?_|refine rS ?_);first|done|(skip))|(exact⟨rfl,rfl,(by repeat' (first|exact trivial|refine⟨.refl,?_⟩|refine⟨.gone,?_⟩|refine⟨.box (by repeat' (first|exact trivial|refine⟨.inr rfl,?_⟩|refine⟨.inl rfl,?_⟩)),?_⟩))⟩)|((exfalso;(simp at h<;>omega)))|fail)
  |ok v =>
   rw [hw] at cw i1
   obtain⟨w1,w2⟩:=wordP_x hw
   obtain⟨x,q⟩:=v
   simp only at w1 w2 cw
   simp only [exb_ok] at i1
   obtain⟨kk,eK⟩:∃ kk,kk=knowP q.names x.t:=⟨_,rfl⟩
   rw [← eK] at i1
   obtain⟨ka,kb,kc⟩:=kk
   have f8:=failP s q 8 x.a
   have f6:=failP s q 6 x.a
   have hqx:q.x=y.x:=by rw [w1]
   have hqt:q.total=y.total:=by rw [w1]
   have hqu:q.uses=y.uses:=by rw [w1]
   have hql:y.l.length=q.l.length+1:=by rw [w2];rfl
   have hqm:∀ z ∈ q.l,z ∈ y.l:=fun z hz=>by rw [w2];exact List.mem_cons_of_mem _ hz
   repeat' (first|refine Yg ?_|refine Run.seqR ?_|refine oX (frz:=[88,100]) Yo ?_|refine oS ?_|refine Yn ?_|refine eX ?_|refine eS ?_|refine eN ?_|refine oF (cw) ?_|refine eF (cw) ?_|fail)
   refine Yq ?_
   cases kc with
   |true =>
    simp only [if_true] at i1
    simp only [Except.bind] at i1
    subst i1
    repeat' (first|refine Yg ?_|refine Yq ?_|(refine oB (frz:=[88,100]) Yo ?_ ?_<;>intro h<;>first|(exfalso;simp at h;first|done|omega)|skip)|(refine eB ?_ ?_<;>intro h<;>first|(exfalso;simp at h;first|done|omega)|skip)|refine oX (frz:=[88,100]) Yo ?_|refine oS ?_|refine Yn ?_|refine Yk ?_|refine cT ?_|refine cF ?_|refine Yb ?_|refine Ye ?_|refine Yd (frz:=[88,100]) Yo (by kernel_rfl) ?_|refine eX ?_|refine eS ?_|refine eN ?_|refine eX ?_ (hv:=(evAny_know q.names x.t).trans (by rw [← eK]))|refine oFP (f8) ?_|(refine Yt ?_;(first|refine rB ?_|refine rI ?_|refine rA ?_|refine rII ?_|refine rSI ?_|refine rT ?_|refine rS ?_);first|done|(skip))|(exact⟨rfl,rfl,(by repeat' (first|exact trivial|refine⟨.refl,?_⟩|refine⟨.gone,?_⟩|refine⟨.box (by repeat' (first|exact trivial|refine⟨.inr rfl,?_⟩|refine⟨.inl rfl,?_⟩)),?_⟩))⟩)|((exfalso;(simp at h<;>omega)))|fail)
   |false =>
    simp only [Bool.false_eq_true,if_false] at i1
    refine Run.mid ⟨PT.ofList [(0,.bp 0 0),(3,.bp 5 0)],pO s q++[boxM x],[]⟩ ?_ ?_
    ·repeat' (first|refine Yg ?_|refine Yq ?_|(refine oB (frz:=[88,100]) Yo ?_ ?_<;>intro h<;>first|(exfalso;simp at h;first|done|omega)|skip)|(refine eB ?_ ?_<;>intro h<;>first|(exfalso;simp at h;first|done|omega)|skip)|refine oX (frz:=[88,100]) Yo ?_|refine oS ?_|refine Yn ?_|refine Yk ?_|refine cT ?_|refine cF ?_|refine Yb ?_|refine Ye ?_|refine Yd (frz:=[88,100]) Yo (by kernel_rfl) ?_|refine eX ?_|refine eS ?_|refine eN ?_|refine eX ?_ (hv:=(evAny_know q.names x.t).trans (by rw [← eK]))|(refine Yt ?_;(first|refine rB ?_|refine rI ?_|refine rA ?_|refine rII ?_|refine rSI ?_|refine rT ?_|refine rS ?_);first|done|(skip))|(exact(by show Tidy _ _ _;exact(tidy_of (objs:=_) _ 6 (by rfl) rfl (by repeat' (first|exact trivial|refine⟨(Or.inl rfl),?_⟩|refine⟨(Or.inr rfl),?_⟩|fail)) (by repeat' (first|exact trivial|refine⟨rfl,?_⟩|fail)) rfl rfl)))|((exfalso;(simp at h<;>omega)))|fail)
    refine Yq ?_
    by_cases h8:q.x.rules.length=8
    ·rw [if_pos h8] at i1
     simp only [Except.bind] at i1
     subst i1
     repeat' (first|refine Yg ?_|refine Yq ?_|(refine oB (frz:=[88,100]) Yo ?_ ?_<;>intro h<;>first|(exfalso;simp at h;first|done|omega)|skip)|(refine eB ?_ ?_<;>intro h<;>first|(exfalso;simp at h;first|done|omega)|skip)|refine oX (frz:=[88,100]) Yo ?_|refine oS ?_|refine Yn ?_|refine Yk ?_|refine cT ?_|refine cF ?_|refine Yb ?_|refine Ye ?_|refine Yd (frz:=[88,100]) Yo (by kernel_rfl) ?_|refine eX ?_|refine eS ?_|refine eN ?_|refine oFP (f6) ?_|(refine Yt ?_;(first|refine rB ?_|refine rI ?_|refine rA ?_|refine rII ?_|refine rSI ?_|refine rT ?_|refine rS ?_);first|done|(skip))|(exact⟨rfl,rfl,(by repeat' (first|exact trivial|refine⟨.refl,?_⟩|refine⟨.gone,?_⟩|refine⟨.box (by repeat' (first|exact trivial|refine⟨.inr rfl,?_⟩|refine⟨.inl rfl,?_⟩)),?_⟩))⟩)|((exfalso;(simp at h<;>omega)))|fail)
    ·rw [if_neg h8] at i1
     refine Run.mid ⟨PT.ofList [(0,.bp 0 0),(3,.bp 5 0)],pO s q++[boxM x],[]⟩ ?_ ?_
     ·repeat' (first|refine Yg ?_|refine Yq ?_|(refine oB (frz:=[88,100]) Yo ?_ ?_<;>intro h<;>first|(exfalso;simp at h;first|done|omega)|skip)|(refine eB ?_ ?_<;>intro h<;>first|(exfalso;simp at h;first|done|omega)|skip)|refine oX (frz:=[88,100]) Yo ?_|refine oS ?_|refine Yn ?_|refine Yk ?_|refine cT ?_|refine cF ?_|refine Yb ?_|refine Ye ?_|refine Yd (frz:=[88,100]) Yo (by kernel_rfl) ?_|refine eX ?_|refine eS ?_|refine eN ?_|(refine Yt ?_;(first|refine rB ?_|refine rI ?_|refine rA ?_|refine rII ?_|refine rSI ?_|refine rT ?_|refine rS ?_);first|done|(skip))|(exact(by show Tidy _ _ _;exact(tidy_of (objs:=_) _ 6 (by rfl) rfl (by repeat' (first|exact trivial|refine⟨(Or.inl rfl),?_⟩|refine⟨(Or.inr rfl),?_⟩|fail)) (by repeat' (first|exact trivial|refine⟨rfl,?_⟩|fail)) rfl rfl)))|((exfalso;(simp at h<;>omega)))|fail)
     obtain⟨p1,hp1⟩:∃ p1:PS,p1={ q with names:=setP q.names x.t (false,false,true) }:=⟨_,rfl⟩
     have hp1x:p1.x=y.x:=by rw [hp1];exact hqx
     have hp1l:p1.l=q.l:=by rw [hp1]
     rw [← hp1] at i1
     have hbp:PB p1:=i2.of (fun z hz=>hqm z (by rw [hp1] at hz;exact hz)) (by rw [hp1l];omega) (by rw [hp1x];exact i2.toks) (by rw [hp1x];exact i2.rules) (by have:=i2.uses;rw [hp1];simp only;rw [hqu];omega) (by rw [hp1];simp only;rw [hqt];exact i2.total)
     obtain⟨RA,hRA⟩:∃ RA,RA=altsP s (q.l.length+1) true [] p1:=⟨_,rfl⟩
     rw [← hRA] at i1
     repeat' (first|refine Yg ?_|refine Run.seqR ?_|refine oX (frz:=[88,100]) Yo ?_|refine oS ?_|refine Yn ?_|refine Yd (frz:=[88,100]) Yo (by kernel_rfl) ?_|refine eX ?_|refine eS ?_|refine eN ?_|refine eX ?_ (hv:=evAny_set q.names x.t (false,false,true))|fail)
     refine Yq ?_
     refine Run.cellRoom 6 1 1 ?_
     refine Run.midE (fun v:List (List (List Nat)) × PS=>⟨PT.ofList [(0,.bp 0 0),(4,.bp 6 0)],pO s v.2++[boxM x,.box [.d (.str x.t),.sr 7 1 (v.1.map strs)],.room v.1.length 1],[]⟩)
      (fun v=>RA=.ok v∧PB v.2∧v.2.x=y.x∧v.2.total≤24∧v.2.l.length<y.l.length∧(∀ z ∈ v.2.l,z ∈ y.l)∧v.2.uses.length+v.2.l.length≤200000) ?_ (fun v hv=>?_)
     ·repeat (first|refine Yq ?_|refine Yg ?_|refine Yn ?_|refine Yk ?_|refine cT ?_|refine cF ?_|refine Yb ?_|refine Ye ?_)
      refine oX (frz:=[88,100]) Yo ?_
      repeat (first|refine Yq ?_|refine Yg ?_|refine Yn ?_|refine Yk ?_|refine cT ?_|refine cF ?_|refine Yb ?_|refine Ye ?_)
      refine Run.loopT (fun z:Nat × List (List (List Nat)) × PS × Bool=>⟨PT.ofList [(0,.bp 0 0),(4,.bp 6 0),(5,.d (.str (cond z.2.2.2 sEq sBar)))],pO s z.2.2.1++[boxM x,.box [.d (.str x.t),.sr 7 1 (z.2.1.map strs)],.room z.2.1.length 1],[]⟩)
       (fun z=>altsP s z.1 z.2.2.2 z.2.1 z.2.2.1=RA∧PB z.2.2.1∧z.2.2.1.x=y.x∧z.2.2.1.total≤24∧z.2.2.1.l.length<z.1∧z.2.2.1.l.length<y.l.length∧(∀ u ∈ z.2.2.1.l,u ∈ y.l)∧z.2.1.length+z.1≤200000) (fun z=>z.1) (q.l.length+1,[],p1,true)
       ⟨hRA.symm,hbp,hp1x,by rw [hp1];simp only;omega,by rw [hp1l];exact Nat.lt_succ_self _,by rw [hp1l];omega,by rw [hp1l];exact hqm,by have:=i2.l;simp;omega⟩ (by rw [hp1];exact(tidy_of (objs:=_) _ 8 (by rfl) rfl (by repeat' (first|exact trivial|refine⟨(Or.inl rfl),?_⟩|refine⟨(Or.inr rfl),?_⟩|fail)) (by repeat' (first|exact trivial|refine⟨rfl,?_⟩|fail)) rfl rfl)) (fun z hz=>?_)
      obtain⟨k,acc,z,b⟩:=z
      obtain⟨j1,j2,j3,j4,j5,j6,j7,j8⟩:=hz
      simp only at j1 j2 j3 j4 j5 j6 j7 j8 ⊢
      obtain⟨k,rfl⟩:∃ j,k=j+1:=⟨k-1,by omega⟩
      unfold altsP at j1
      have ci:=isCP s z sBar
      have huz:z.uses.length≤200000:=by have:=j2.uses;omega
      by_cases hex:b=false∧isL sBar z.l=false
      ·rw [if_pos hex] at j1
       obtain⟨rfl,hex⟩:=hex
       rw [hex] at ci
       have fin:∀ s1:S,Tidy 5 s1 ⟨PT.ofList [(0,.bp 0 0),(4,.bp 6 0)],pO s z++[boxM x,.box [.d (.str x.t),.sr 7 1 (acc.map strs)],.room acc.length 1],[]⟩ →
         ∃ v:List (List (List Nat)) × PS,(RA=.ok v∧PB v.2∧v.2.x=y.x∧v.2.total≤24∧v.2.l.length<y.l.length∧(∀ z ∈ v.2.l,z ∈ y.l)∧v.2.uses.length+v.2.l.length≤200000)∧Tidy 5 s1 ⟨PT.ofList [(0,.bp 0 0),(4,.bp 6 0)],pO s v.2++[boxM x,.box [.d (.str x.t),.sr 7 1 (v.1.map strs)],.room v.1.length 1],[]⟩:=fun s1 ht =>
        ⟨(acc,z),⟨j1.symm,j2,j3,j4,j6,j7,j2.uses⟩,ht⟩
       repeat' (first|refine Yg ?_|refine Yq ?_|(refine oB (frz:=[88,100]) Yo ?_ ?_<;>intro h<;>first|(exfalso;simp at h;first|done|omega)|skip)|(refine eB ?_ ?_<;>intro h<;>first|(exfalso;simp at h;first|done|omega)|skip)|refine oX (frz:=[88,100]) Yo ?_|refine oS ?_|refine Yn ?_|refine Yk ?_|refine cT ?_|refine cF ?_|refine Yb ?_|refine Ye ?_|refine Yd (frz:=[88,100]) Yo (by kernel_rfl) ?_|refine eX ?_|refine eS ?_|refine eN ?_|refine oF (ci) ?_|refine eF (ci) ?_|(refine Yt ?_;(first|refine rB ?_|refine rI ?_|refine rA ?_|refine rII ?_|refine rSI ?_|refine rT ?_|refine rS ?_);first|done|(skip))|(exact fin _ (tidy_of (objs:=_) _ 8 (by rfl) rfl (by repeat' (first|exact trivial|refine⟨(Or.inl rfl),?_⟩|refine⟨(Or.inr rfl),?_⟩|fail)) (by repeat' (first|exact trivial|refine⟨rfl,?_⟩|fail)) rfl rfl))|((exfalso;(simp at h<;>omega)))|fail)
      ·rw [if_neg hex] at j1
       have hb1:b=true∨(b=false∧isL sBar z.l=true):=by
        cases b with
        |true=>exact .inl rfl
        |false=>exact .inr ⟨rfl,by simpa using hex⟩
       refine Yq ?_
       refine Yb ?_
       refine Yq ?_
       refine Run.mid ⟨PT.ofList [(0,.bp 0 0),(4,.bp 6 0),(5,.d (.str (cond b sEq sBar)))],pO s z++[boxM x,.box [.d (.str x.t),.sr 7 1 (acc.map strs)],.room acc.length 1],[]⟩ ?_ ?_
       ·rcases hb1 with rfl|⟨rfl,hb1⟩
        ·repeat' (first|refine Yg ?_|refine Yq ?_|(refine oB (frz:=[88,100]) Yo ?_ ?_<;>intro h<;>first|(exfalso;simp at h;first|done|omega)|skip)|(refine eB ?_ ?_<;>intro h<;>first|(exfalso;simp at h;first|done|omega)|skip)|refine oX (frz:=[88,100]) Yo ?_|refine oS ?_|refine Yn ?_|refine Yk ?_|refine cT ?_|refine cF ?_|refine Yb ?_|refine Ye ?_|refine Yd (frz:=[88,100]) Yo (by kernel_rfl) ?_|refine eX ?_|refine eS ?_|refine eN ?_|(refine Yt ?_;(first|refine rB ?_|refine rI ?_|refine rA ?_|refine rII ?_|refine rSI ?_|refine rT ?_|refine rS ?_);first|done|(skip))|(exact(by show Tidy _ _ _;exact(tidy_of (objs:=_) _ 8 (by rfl) rfl (by repeat' (first|exact trivial|refine⟨(Or.inl rfl),?_⟩|refine⟨(Or.inr rfl),?_⟩|fail)) (by repeat' (first|exact trivial|refine⟨rfl,?_⟩|fail)) rfl rfl)))|((exfalso;(simp at h<;>omega)))|fail)
        ·rw [hb1] at ci
         repeat' (first|refine Yg ?_|refine Yq ?_|(refine oB (frz:=[88,100]) Yo ?_ ?_<;>intro h<;>first|(exfalso;simp at h;first|done|omega)|skip)|(refine eB ?_ ?_<;>intro h<;>first|(exfalso;simp at h;first|done|omega)|skip)|refine oX (frz:=[88,100]) Yo ?_|refine oS ?_|refine Yn ?_|refine Yk ?_|refine cT ?_|refine cF ?_|refine Yb ?_|refine Ye ?_|refine Yd (frz:=[88,100]) Yo (by kernel_rfl) ?_|refine eX ?_|refine eS ?_|refine eN ?_|refine oF (ci) ?_|refine eF (ci) ?_|(refine Yt ?_;(first|refine rB ?_|refine rI ?_|refine rA ?_|refine rII ?_|refine rSI ?_|refine rT ?_|refine rS ?_);first|done|(skip))|(exact(by show Tidy _ _ _;exact(tidy_of (objs:=_) _ 8 (by rfl) rfl (by repeat' (first|exact trivial|refine⟨(Or.inl rfl),?_⟩|refine⟨(Or.inr rfl),?_⟩|fail)) (by repeat' (first|exact trivial|refine⟨rfl,?_⟩|fail)) rfl rfl)))|((exfalso;(simp at h<;>omega)))|fail)
       have eS:(if b=true then sEq else sBar)=cond b sEq sBar:=by cases b<;>rfl
       rw [eS] at j1
       generalize cond b sEq sBar=sg at j1 ⊢
       cases hl:z.l with
       |nil =>
        have cn:=nextEndP s z hl
        rw [show nextP s z=.error (5,s.length) by simp [nextP,hl]] at j1
        simp only [Except.bind] at j1
        subst j1
        simp only [Except.bind] at i1
        subst i1
        repeat' (first|refine Yg ?_|refine Yq ?_|(refine oB (frz:=[88,100]) Yo ?_ ?_<;>intro h<;>first|(exfalso;simp at h;first|done|omega)|skip)|(refine eB ?_ ?_<;>intro h<;>first|(exfalso;simp at h;first|done|omega)|skip)|refine oX (frz:=[88,100]) Yo ?_|refine oS ?_|refine Yn ?_|refine Yk ?_|refine cT ?_|refine cF ?_|refine Yb ?_|refine Ye ?_|refine eX ?_|refine eS ?_|refine eN ?_|refine oFP (cn) ?_|(refine Yt ?_;(first|refine rB ?_|refine rI ?_|refine rA ?_|refine rII ?_|refine rSI ?_|refine rT ?_|refine rS ?_);first|done|(skip))|(exact⟨rfl,rfl,(by repeat' (first|exact trivial|refine⟨.refl,?_⟩|refine⟨.gone,?_⟩|refine⟨.box (by repeat' (first|exact trivial|refine⟨.inr rfl,?_⟩|refine⟨.inl rfl,?_⟩)),?_⟩))⟩)|((exfalso;(simp at h<;>omega)))|fail)
       |cons x2 l =>
        have cn:=nextOkP s z x2 l hl
        rw [show nextP s z=.ok (x2,{ z with l:=l }) by simp [nextP,hl]] at j1
        simp only [exb_ok] at j1
        by_cases hsg:x2.k=3∧x2.t=sg
        ·have cs:=isPT x2 3 sg hsg
         rw [if_pos hsg] at j1
         by_cases h24:z.total=24
         ·rw [if_pos h24] at j1
          subst j1
          simp only [Except.bind] at i1
          subst i1
          have cf:=failP s { z with l:=l } 6 x2.a
          repeat' (first|refine Yg ?_|refine Yq ?_|(refine oB (frz:=[88,100]) Yo ?_ ?_<;>intro h<;>first|(exfalso;simp at h;first|done|omega)|skip)|(refine eB ?_ ?_<;>intro h<;>first|(exfalso;simp at h;first|done|omega)|skip)|refine oX (frz:=[88,100]) Yo ?_|refine oS ?_|refine Yn ?_|refine Yk ?_|refine cT ?_|refine cF ?_|refine Yb ?_|refine Ye ?_|refine eX ?_|refine eS ?_|refine eN ?_|refine oF (cn) ?_|refine eF (cn) ?_|refine oC (cs) ?_|refine eC (cs) ?_|refine oFP (cf) ?_|(refine Yt ?_;(first|refine rB ?_|refine rI ?_|refine rA ?_|refine rII ?_|refine rSI ?_|refine rT ?_|refine rS ?_);first|done|(skip))|(exact⟨rfl,rfl,(by repeat' (first|exact trivial|refine⟨.refl,?_⟩|refine⟨.gone,?_⟩|refine⟨.box (by repeat' (first|exact trivial|refine⟨.inr rfl,?_⟩|refine⟨.inl rfl,?_⟩)),?_⟩))⟩)|((exfalso;(simp at h<;>omega)))|fail)
         ·rw [if_neg h24] at j1
          have hinc:AV.d (.int .i64 (IntKind.i64.wrap ((z.total:Int)+1)))=.d (.int .i64 ((z.total+1:Nat):Int)):=vN8 (by omega) (by omega)
          have hbz:PB { z with l:=l,total:=z.total+1 }:=j2.of (fun u hu=>by rw [hl];exact List.mem_cons_of_mem _ hu) (by rw [hl];simp) j2.toks j2.rules (by have:=j2.uses;rw [hl] at this;simp at this ⊢;omega) (by simp only;omega)
          have ca:=altC s { z with l:=l,total:=z.total+1 } hbz
          have hacc:acc.length≤200000:=by omega
          cases hA:oneAltP s { z with l:=l,total:=z.total+1 } with
          |error e9 =>
           rw [hA] at ca j1
           simp only [Except.bind] at j1
           subst j1
           simp only [Except.bind] at i1
           subst i1
           repeat' (first|refine oX (frz:=[88,100]) (v:=.d (.int .i64 ((z.total+1:Nat):Int))) Yo ?_ (he:=(hinc))|refine eX (v:=.d (.int .i64 ((z.total+1:Nat):Int))) ?_ (he:=(hinc))|refine Yg ?_|refine Yq ?_|(refine oB (frz:=[88,100]) Yo ?_ ?_<;>intro h<;>first|(exfalso;simp at h;first|done|omega)|skip)|(refine eB ?_ ?_<;>intro h<;>first|(exfalso;simp at h;first|done|omega)|skip)|refine oX (frz:=[88,100]) Yo ?_|refine oS ?_|refine Yn ?_|refine Yk ?_|refine cT ?_|refine cF ?_|refine Yb ?_|refine Ye ?_|refine eX ?_|refine eS ?_|refine eN ?_|refine oF (cn) ?_|refine eF (cn) ?_|refine oC (cs) ?_|refine eC (cs) ?_|(refine Yt ?_;(first|refine rB ?_|refine rI ?_|refine rA ?_|refine rII ?_|refine rSI ?_|refine rT ?_|refine rS ?_);first|done|(skip))|((exfalso;(simp at h<;>omega)))|fail)
           refine Run.drawP (frz:=[88,100]) Yo (by kernel_rfl) [(1,3)] 3 [4,5,6,7] (x:=refD e9) (obP:=pG++[boxM x,.box [.d (.str x.t),.sr 7 1 (acc.map strs)],.room acc.length 1,boxM x2]) (by rfl) (by kernel_rfl) ?_ ?_
           ·iterate 3 refine cX ?_
            refine cP ca ?_
            iterate 4 refine cD ?_
            refine EvC.nil ⟨by kernel_rfl,⟨⟨_,_,_,_,_,_,_,rfl,rfl,rfl,rfl,rfl,rfl⟩,trivial⟩⟩
           ·exact⟨rfl,rfl,(by repeat' (first|exact trivial|refine⟨.refl,?_⟩|refine⟨.gone,?_⟩|refine⟨.box (by repeat' (first|exact trivial|refine⟨.inr rfl,?_⟩|refine⟨.inl rfl,?_⟩)),?_⟩))⟩
          |ok w =>
           rw [hA] at ca j1
           simp only [exb_ok] at j1
           obtain⟨al,w⟩:=w
           simp only at ca j1
           obtain⟨a1,a2,a3,a4,a5,a6,a7,a8⟩:=altQ_x _ _ hA
           simp only at a1 a2 a3 a4 a5 a6
           have hbw:PB w:=hbz.of (fun u hu=>a4 u hu) (by simp only;exact a5) (by rw [a1];exact j2.toks) (by rw [a1];exact j2.rules) (by have:=hbz.uses;simp only at this;omega) (by omega)
           rw [hl] at j5 j6
           simp only [List.length_cons] at j5 j6
           have fin:∀ s1:S,Tidy 5 s1 ⟨PT.ofList [(0,.bp 0 0),(4,.bp 6 0),(5,.d (.str sBar))],pO s w++[boxM x,.box [.d (.str x.t),.sr 7 1 (acc.map strs++[strs al])],.room (acc.length+1) 1],[]⟩ →
             ∃ z:Nat × List (List (List Nat)) × PS × Bool,(altsP s z.1 z.2.2.2 z.2.1 z.2.2.1=RA∧PB z.2.2.1∧z.2.2.1.x=y.x∧z.2.2.1.total≤24∧z.2.2.1.l.length<z.1∧z.2.2.1.l.length<y.l.length∧(∀ u ∈ z.2.2.1.l,u ∈ y.l)∧z.2.1.length+z.1≤200000)∧z.1<k+1 ∧
              Tidy 5 s1 ⟨PT.ofList [(0,.bp 0 0),(4,.bp 6 0),(5,.d (.str (cond z.2.2.2 sEq sBar)))],pO s z.2.2.1++[boxM x,.box [.d (.str x.t),.sr 7 1 (z.2.1.map strs)],.room z.2.1.length 1],[]⟩:=fun s1 ht =>
            ⟨(k,acc++[al],w,false),⟨j1,hbw,a1.trans j3,by simp only;omega,by simp only;omega,by simp only;omega,fun u hu=>j7 u (by rw [hl];exact List.mem_cons_of_mem _ (a4 u hu)),by simp;omega⟩,Nat.lt_succ_self _,by simpa using ht⟩
           repeat' (first|refine oX (frz:=[88,100]) (v:=.d (.int .i64 ((z.total+1:Nat):Int))) Yo ?_ (he:=(hinc))|refine eX (v:=.d (.int .i64 ((z.total+1:Nat):Int))) ?_ (he:=(hinc))|refine Yg ?_|refine Yq ?_|(refine oB (frz:=[88,100]) Yo ?_ ?_<;>intro h<;>first|(exfalso;simp at h;first|done|omega)|skip)|(refine eB ?_ ?_<;>intro h<;>first|(exfalso;simp at h;first|done|omega)|skip)|refine oX (frz:=[88,100]) Yo ?_|refine oS ?_|refine Yn ?_|refine Yk ?_|refine cT ?_|refine cF ?_|refine Yb ?_|refine Ye ?_|refine eX ?_|refine eS ?_|refine eN ?_|refine oF (cn) ?_|refine eF (cn) ?_|refine oC (cs) ?_|refine eC (cs) ?_|(refine Yt ?_;(first|refine rB ?_|refine rI ?_|refine rA ?_|refine rII ?_|refine rSI ?_|refine rT ?_|refine rS ?_);first|done|(skip))|((exfalso;(simp at h<;>omega)))|fail)
           refine Run.drawC (frz:=[88,100]) Yo (by kernel_rfl) [(1,3)] ?_
           iterate 3 refine cX ?_
           refine cCall ca ?_
           refine cX ?_
           refine cX ?_ (hv:=app1) (hf:=rfl) (he:=rfl)
           iterate 2 refine cX ?_
           refine EvC.nil ⟨by kernel_rfl,⟨⟨_,_,_,_,_,_,_,rfl,rfl,rfl,rfl,rfl,rfl⟩,trivial⟩,?_⟩
           repeat' (first|refine Yg ?_|refine Yq ?_|(refine oB (frz:=[88,100]) Yo ?_ ?_<;>intro h<;>first|(exfalso;simp at h;first|done|omega)|skip)|(refine eB ?_ ?_<;>intro h<;>first|(exfalso;simp at h;first|done|omega)|skip)|refine oX (frz:=[88,100]) Yo ?_|refine oS ?_|refine Yn ?_|refine Yk ?_|refine cT ?_|refine cF ?_|refine Yb ?_|refine Ye ?_|refine Yd (frz:=[88,100]) Yo (by kernel_rfl) ?_|refine eX ?_|refine eS ?_|refine eN ?_|(refine Yt ?_;(first|refine rB ?_|refine rI ?_|refine rA ?_|refine rII ?_|refine rSI ?_|refine rT ?_|refine rS ?_);first|done|(skip))|(exact fin _ (tidy_of (objs:=_) _ 8 (by rfl) rfl (by repeat' (first|exact trivial|refine⟨(Or.inl rfl),?_⟩|refine⟨(Or.inr rfl),?_⟩|fail)) (by repeat' (first|exact trivial|refine⟨rfl,?_⟩|fail)) rfl rfl))|((exfalso;(simp at h<;>omega)))|fail)
        ·have cs:=isPF x2 3 sg hsg
         rw [if_neg hsg] at j1
         subst j1
         simp only [Except.bind] at i1
         subst i1
         have cf:=failP s { z with l:=l } 3 x2.a
         repeat' (first|refine Yg ?_|refine Yq ?_|(refine oB (frz:=[88,100]) Yo ?_ ?_<;>intro h<;>first|(exfalso;simp at h;first|done|omega)|skip)|(refine eB ?_ ?_<;>intro h<;>first|(exfalso;simp at h;first|done|omega)|skip)|refine oX (frz:=[88,100]) Yo ?_|refine oS ?_|refine Yn ?_|refine Yk ?_|refine cT ?_|refine cF ?_|refine Yb ?_|refine Ye ?_|refine eX ?_|refine eS ?_|refine eN ?_|refine oF (cn) ?_|refine eF (cn) ?_|refine oC (cs) ?_|refine eC (cs) ?_|refine oFP (cf) ?_|(refine Yt ?_;(first|refine rB ?_|refine rI ?_|refine rA ?_|refine rII ?_|refine rSI ?_|refine rT ?_|refine rS ?_);first|done|(skip))|(exact⟨rfl,rfl,(by repeat' (first|exact trivial|refine⟨.refl,?_⟩|refine⟨.gone,?_⟩|refine⟨.box (by repeat' (first|exact trivial|refine⟨.inr rfl,?_⟩|refine⟨.inl rfl,?_⟩)),?_⟩))⟩)|((exfalso;(simp at h<;>omega)))|fail)
     ·obtain⟨alts',w⟩:=v
      obtain⟨v1,v2,v3,v4,v5,v6,v7⟩:=hv
      simp only at v1 v2 v3 v4 v5 v6 v7
      rw [v1] at i1
      simp only [exb_ok] at i1
      have ce:=endC s w
      refine Run.cellData 6 1 ?_
      cases hE:wantP s 3 sSemi w with
      |error e9 =>
       rw [hE] at ce i1
       simp only [Except.bind] at i1
       subst i1
       repeat' (first|refine Yg ?_|refine Yq ?_|(refine oB (frz:=[88,100]) Yo ?_ ?_<;>intro h<;>first|(exfalso;simp at h;first|done|omega)|skip)|(refine eB ?_ ?_<;>intro h<;>first|(exfalso;simp at h;first|done|omega)|skip)|refine oX (frz:=[88,100]) Yo ?_|refine oS ?_|refine Yn ?_|refine Yk ?_|refine cT ?_|refine cF ?_|refine Yb ?_|refine Ye ?_|refine Yd (frz:=[88,100]) Yo (by kernel_rfl) ?_|refine eX ?_|refine eS ?_|refine eN ?_|refine oFP (ce) ?_|(refine Yt ?_;(first|refine rB ?_|refine rI ?_|refine rA ?_|refine rII ?_|refine rSI ?_|refine rT ?_|refine rS ?_);first|done|(skip))|(exact⟨rfl,rfl,(by repeat' (first|exact trivial|refine⟨.refl,?_⟩|refine⟨.gone,?_⟩|refine⟨.box (by repeat' (first|exact trivial|refine⟨.inr rfl,?_⟩|refine⟨.inl rfl,?_⟩)),?_⟩))⟩)|((exfalso;(simp at h<;>omega)))|fail)
      |ok w2' =>
       rw [hE] at ce i1
       simp only [exb_ok] at i1
       obtain⟨g1,g2,g3⟩:=wantP_x hE
       have gx:w2'.x=y.x:=by rw [g1];exact v3
       have hr7:w2'.x.rules.length≤7:=by rw [gx];rw [hqx] at h8;omega
       have hbn:PB { w2' with x:={ w2'.x with rules:=w2'.x.rules++[⟨x.t,alts'⟩] } }:=v2.of g3 (by simp only;omega) (by simp only;rw [gx];exact i2.toks) (by simp;omega) (by simp only;rw [g1];simp only;omega) (by simp only;rw [g1];simp only;omega)
       have fin:∀ s1:S,Tidy 5 s1 ⟨PT.ofList [(0,.bp 0 0),(2,.d (.bool false))],pOr s w2' ⟨x.t,alts'⟩,[]⟩ →
         ∃ y:Nat × PS × Bool,(rulesP s y.1 y.2.2 y.2.1=R∧PB y.2.1∧y.2.1.l.length<y.1∧y.2.1.x.rules.length≤8∧y.2.1.total≤24)∧y.1<n+1∧Tidy 5 s1 ⟨PT.ofList [(0,.bp 0 0),(2,.d (.bool y.2.2))],pO s y.2.1,[]⟩:=fun s1 ht =>
        ⟨(n,{ w2' with x:={ w2'.x with rules:=w2'.x.rules++[⟨x.t,alts'⟩] } },false),⟨i1,hbn,by simp only;omega,by simp;omega,by simp only;rw [g1];exact v4⟩,Nat.lt_succ_self _,by
         show Tidy 5 s1 ⟨PT.ofList [(0,.bp 0 0),(2,.d (.bool false))],pO s { w2' with x:={ w2'.x with rules:=w2'.x.rules++[⟨x.t,alts'⟩] } },[]⟩
         rw [pOr_eq];exact ht⟩
       repeat' (first|refine Yg ?_|refine Yq ?_|(refine oB (frz:=[88,100]) Yo ?_ ?_<;>intro h<;>first|(exfalso;simp at h;first|done|omega)|skip)|(refine eB ?_ ?_<;>intro h<;>first|(exfalso;simp at h;first|done|omega)|skip)|refine oX (frz:=[88,100]) Yo ?_|refine oS ?_|refine Yn ?_|refine Yk ?_|refine cT ?_|refine cF ?_|refine Yb ?_|refine Ye ?_|refine Yd (frz:=[88,100]) Yo (by kernel_rfl) ?_|refine eX ?_|refine eS ?_|refine eN ?_|refine oF (ce) ?_|refine eF (ce) ?_|refine oX (frz:=[88,100]) Yo ?_ (hv:=app1) (hf:=rfl) (he:=rfl)|refine eX ?_ (hv:=app1) (hf:=rfl) (he:=rfl)|refine oX (frz:=[88,100]) Yo ?_ (hv:=app0) (hf:=rfl) (he:=rfl)|refine eX ?_ (hv:=app0) (hf:=rfl) (he:=rfl)|(refine Yt ?_;(first|refine rB ?_|refine rI ?_|refine rA ?_|refine rII ?_|refine rSI ?_|refine rT ?_|refine rS ?_);first|done|(skip))|(exact fin _ (tidy_of (objs:=_) _ 5 (by rfl) rfl (by repeat' (first|exact trivial|refine⟨(Or.inl rfl),?_⟩|refine⟨(Or.inr rfl),?_⟩|fail)) (by repeat' (first|exact trivial|refine⟨rfl,?_⟩|fail)) rfl rfl))|((exfalso;(simp at h<;>omega)))|fail)
 ·rw [if_neg hc] at i1
  subst i1
  have hf:first=false:=by cases first<;>simp at hc ⊢
  subst hf
  have hge:¬ 0<y.l.length:=fun e=>hc (.inr e)
  repeat' (first|refine Yg ?_|refine Yq ?_|(refine oB (frz:=[88,100]) Yo ?_ ?_<;>intro h<;>first|(exfalso;simp at h;first|done|omega)|skip)|(refine eB ?_ ?_<;>intro h<;>first|(exfalso;simp at h;first|done|omega)|skip)|refine oX (frz:=[88,100]) Yo ?_|refine oS ?_|refine Yn ?_|refine Yk ?_|refine cT ?_|refine cF ?_|refine Yb ?_|refine Ye ?_|refine Yd (frz:=[88,100]) Yo (by kernel_rfl) ?_|refine eX ?_|refine eS ?_|refine eN ?_|(refine Yt ?_;(first|refine rB ?_|refine rI ?_|refine rA ?_|refine rII ?_|refine rSI ?_|refine rT ?_|refine rS ?_);first|done|(skip))|(((first|refine Yt ?_|skip);exact⟨trivial,_,_,rfl,rfl,.refl,(by repeat' (first|exact trivial|refine⟨.refl,?_⟩|refine⟨.gone,?_⟩|refine⟨.box (by repeat' (first|exact trivial|refine⟨.inr rfl,?_⟩|refine⟨.inl rfl,?_⟩)),?_⟩))⟩))|((exfalso;(simp at h<;>omega)))|fail)
end Go.Av
end
noncomputable section
namespace Go.Av
open Go Go.Proofs
set_option maxRecDepth 10000
end Go.Av
end
noncomputable section
namespace Go.Av
open Go Go.Proofs
set_option maxRecDepth 10000
theorem Bd.of {s:List Nat} {ls:List Lx} {r r':RS} (h:Bd s ls r) (hx:r'.x=r.x) (hp:r'.pos≤16777216) (ha:r'.alts≤16777216):Bd s ls r':=⟨h.s,h.l,hp,ha,by rw [hx];exact h.toks,by rw [hx];exact h.rules,h.len⟩
end Go.Av
end
noncomputable section
namespace Go.Av
open Go Go.Proofs
set_option maxRecDepth 10000
end Go.Av
end
noncomputable section
namespace Go.Av
open Go Go.Proofs
set_option maxRecDepth 10000
end Go.Av
end
noncomputable section
namespace Go.Av
open Go Go.Proofs
set_option maxRecDepth 10000
end Go.Av
end
noncomputable section
namespace Go.Av
open Go Go.Proofs
set_option maxRecDepth 10000
end Go.Av
end
noncomputable section
namespace Go.Av
open Go Go.Proofs
set_option maxRecDepth 10000
abbrev srcZ:DV:=.agg [.int .i64 0,.nilsl,.str [],.str [],.nilsl]
theorem srcZ_to:DvTo srcZ (encX src0):=DvTo.agg rfl (fun j x y hx hy=>match j,hx,hy with
 |0,hx,hy=>by simp at hx hy;subst hx hy;exact .refl
 |1,hx,hy=>by simp at hx hy;subst hx hy;exact .nil
 |2,hx,hy=>by simp at hx hy;subst hx hy;exact .refl
 |3,hx,hy=>by simp at hx hy;subst hx hy;exact .refl
 |4,hx,hy=>by simp at hx hy;subst hx hy;exact .nil
 |j+5,hx,_=>by simp at hx)
abbrev resX (r:Src × Fa):AV:=.tup [.d (encX r.1),.d (faultD r.2.1 r.2.2)]
structure LsB (ls:List Lx):Prop where
 l:ls.length≤100000
 len:∀ x ∈ ls,x.t.length≤1048576
section
variable {s:List Nat} {ls:List Lx}
structure AltB (r:RS):Prop where
 most:r.alts≤25
 ok:r.f.1=0→r.alts≤24
structure RuB (ls:List Lx) (r:RS):Prop where
 alts:AltB r
 fits:FitsX r.x
 rules:r.f.1=0→r.x.rules.length≤8
 pos:r.f.1=0→r.pos≤ls.length
 posM:r.pos≤ls.length+20
end
abbrev oZX:Ob:=.box [.d (.int .i64 0),.d .nilsl,.d (.str []),.d (.str []),.d .nilsl]
abbrev oZF:Ob:=.box [.d (.int .i64 0),.d (.int .i64 0)]
end Go.Av
end
noncomputable section
namespace Go.Av
open Go Go.Proofs
theorem bind_ok {α β:Type} {x:Except Fa α} {f:α→Except Fa β} {r:β} (h:x.bind f=.ok r):∃ a,x=.ok a∧f a=.ok r:=by
 cases x with
 |error e=>cases h
 |ok a=>exact⟨a,rfl,h⟩
structure JP (ls:List Lx) (p:PS):Prop where
 mem:∀ x ∈ p.l,x ∈ ls
 l:p.l.length≤ls.length
 uses:p.uses.length+p.l.length≤ls.length
 toks:p.x.tokens.length≤8
 rules:p.x.rules.length≤8
 total:p.total≤24
section
variable {ls:List Lx} {s:List Nat}
theorem JP.pb {p:PS} (h:JP ls p) (hb:LsB ls):PB p :=
 ⟨fun x hx=>hb.len x (h.mem x hx),Nat.le_trans h.l hb.l,by have:=h.toks;omega,by have:=h.rules;omega,by have h1:=h.uses;have h2:=hb.l;omega,by have:=h.total;omega⟩
theorem JP.step {p q:PS} (h:JP ls p) (hm:∀ x ∈ q.l,x ∈ p.l) (hl:q.l.length≤p.l.length) (hu:q.uses.length+q.l.length≤p.uses.length+p.l.length) (ht:q.x.tokens.length≤8) (hr:q.x.rules.length≤8) (hn:q.total≤24):JP ls q :=
 ⟨fun x hx=>h.mem x (hm x hx),Nat.le_trans hl h.l,Nat.le_trans hu h.uses,ht,hr,hn⟩
theorem JP.want {p q:PS} {k:Nat} {t:List Nat} (h:JP ls p) (e:wantP s k t p=.ok q):JP ls q:=by
 obtain⟨e1,e2,e3⟩:=wantP_x e
 refine h.step e3 (by omega) ?_ ?_ ?_ ?_<;>rw [e1]
 ·simp only;omega
 ·exact h.toks
 ·exact h.rules
 ·exact h.total
theorem nextP_x {p:PS} {x:Lx} {q:PS} (e:nextP s p=.ok (x,q)):q={ p with l:=q.l }∧p.l=x :: q.l:=by
 unfold nextP at e
 cases hl:p.l with
 |nil=>rw [hl] at e;cases e
 |cons y l =>
  rw [hl] at e
  simp only [Except.ok.injEq,Prod.mk.injEq] at e
  obtain⟨rfl,rfl⟩:=e
  exact⟨rfl,rfl⟩
theorem JP.cut {p q:PS} {x:Lx} (h:JP ls p) (e1:q={ p with l:=q.l }) (e2:p.l=x :: q.l):JP ls q∧q.uses=p.uses∧q.x=p.x∧q.total=p.total:=by
 refine⟨h.step (fun z hz=>by rw [e2];exact List.mem_cons_of_mem _ hz) (by rw [e2];simp) ?_ ?_ ?_ ?_,?_,?_,?_⟩<;>rw [e1]
 ·rw [e2];simp
 ·exact h.toks
 ·exact h.rules
 ·exact h.total
theorem JP.term {p v:PS} {sep:Bool} {t:List Nat} (h:JP ls p) (e:terminalP s sep p=.ok (t,v)):JP ls v∧v.x=p.x∧(sep=false→p.x.tokens.length≠8):=by
 obtain⟨y1,y2,y3,y4⟩:=terminalP_x e
 simp only at y1 y2 y3
 refine⟨h.step y3 (by omega) ?_ ?_ ?_ ?_,?_,y4⟩<;>rw [y1]
 ·simp only;omega
 ·exact h.toks
 ·exact h.rules
 ·exact h.total
theorem JP.look {p q:PS} (h:JP ls p) (e:lookP s p=.ok q):JP ls q:=by
 unfold lookP at e
 obtain⟨p1,h1,e⟩:=bind_ok e
 obtain⟨⟨x,p2⟩,h2,e⟩:=bind_ok e
 have j1:=h.want h1
 obtain⟨j2,_⟩:=j1.cut (nextP_x h2).1 (nextP_x h2).2
 simp only at e
 split at e
 ·cases e
 ·split at e
  ·exact JP.want (p:={ p2 with x:={ p2.x with k:=(decF x.t:Nat) } }) ⟨j2.mem,j2.l,j2.uses,j2.toks,j2.rules,j2.total⟩ e
  ·cases e
theorem JP.token {p q:PS} (h:JP ls p) (e:tokenP s p=.ok q):JP ls q:=by
 obtain⟨t,v,h1,rfl⟩:=tokenP_x e
 obtain⟨j1,j2,j3⟩:=h.term h1
 have:=h.toks
 have j3:=j3 rfl
 exact⟨j1.mem,j1.l,j1.uses,by simp only [List.length_append,List.length_cons,List.length_nil];rw [j2];omega,j1.rules,j1.total⟩
theorem JP.tokensL:∀ (n:Nat) {p q:PS},JP ls p→tokensLP s n p=.ok q→JP ls q
 |0,p,q,h,e=>by simp only [tokensLP,Except.ok.injEq] at e;rw [← e];exact h
 |n+1,p,q,h,e=>by
  unfold tokensLP at e
  split at e
  ·obtain⟨⟨x,p1⟩,h1,e⟩:=bind_ok e
   obtain⟨p2,h2,e⟩:=bind_ok e
   exact JP.tokensL n ((h.cut (nextP_x h1).1 (nextP_x h1).2).1.token h2) e
  ·simp only [Except.ok.injEq] at e;rw [← e];exact h
theorem JP.tokens {p q:PS} (h:JP ls p) (e:tokensP s p=.ok q):JP ls q:=by
 unfold tokensP at e
 obtain⟨p1,h1,e⟩:=bind_ok e
 obtain⟨p2,h2,e⟩:=bind_ok e
 obtain⟨p3,h3,e⟩:=bind_ok e
 exact((((h.want h1).token h2).tokensL _ h3)).want e
theorem JP.sep {p q:PS} (h:JP ls p) (e:sepQ s p=.ok q):JP ls q:=by
 unfold sepQ at e
 obtain⟨p1,h1,e⟩:=bind_ok e
 obtain⟨⟨t,p2⟩,h2,e⟩:=bind_ok e
 have j:=((h.want h1).term h2).1
 exact JP.want (p:={ p2 with x:={ p2.x with sep:=t } }) ⟨j.mem,j.l,j.uses,j.toks,j.rules,j.total⟩ e
theorem JP.start {p q:PS} (h:JP ls p) (e:startP s p=.ok q):JP ls q:=by
 unfold startP at e
 obtain⟨p1,h1,e⟩:=bind_ok e
 obtain⟨⟨x,p2⟩,h2,e⟩:=bind_ok e
 have j1:=h.want h1
 obtain⟨w1,w2⟩:=wordP_x h2
 simp only at w1 w2
 obtain⟨j,ju,_⟩:=j1.cut w1 w2
 have hu:=j1.uses
 rw [w2,List.length_cons] at hu
 exact JP.want (p:={ p2 with x:={ p2.x with start:=x.t },uses:=p2.uses++[(x.t,x.a)] }) ⟨j.mem,j.l,by simp only [List.length_append,List.length_cons,List.length_nil];rw [ju];omega,j.toks,j.rules,j.total⟩ e
theorem JP.alt {p q:PS} {v:List (List Nat)} (h:JP ls p) (e:oneAltP s p=.ok (v,q)):JP ls q:=by
 obtain⟨a1,a2,a3,a4,a5,a6,_⟩:=altQ_x _ _ e
 simp only at a1 a2 a3 a4 a5 a6
 exact h.step a4 a5 (by omega) (by rw [a1];exact h.toks) (by rw [a1];exact h.rules) (by rw [a3];exact h.total)
theorem JP.alts:∀ (n:Nat) (b:Bool) (acc:List (List (List Nat))) {p:PS} {v:List (List (List Nat)) × PS},JP ls p→altsP s n b acc p=.ok v→JP ls v.2∧v.2.x=p.x
 |0,b,acc,p,v,h,e=>by simp only [altsP,Except.ok.injEq] at e;rw [← e];exact⟨h,rfl⟩
 |n+1,b,acc,p,v,h,e=>by
  unfold altsP at e
  split at e
  ·simp only [Except.ok.injEq] at e;rw [← e];exact⟨h,rfl⟩
  ·obtain⟨⟨x,p1⟩,h1,e⟩:=bind_ok e
   obtain⟨j1,ju,jx,jt⟩:=h.cut (nextP_x h1).1 (nextP_x h1).2
   simp only at e
   by_cases hsg:x.k=3∧x.t=(if b=true then sEq else sBar)
   ·rw [if_pos hsg] at e
    by_cases h24:p1.total=24
    ·rw [if_pos h24] at e;cases e
    ·rw [if_neg h24] at e
     obtain⟨⟨w,p2⟩,h2,e⟩:=bind_ok e
     have:=j1.total
     have j2:=JP.alt (p:={ p1 with total:=p1.total+1 }) ⟨j1.mem,j1.l,j1.uses,j1.toks,j1.rules,by simp only;omega⟩ h2
     obtain⟨a1,_⟩:=altQ_x _ _ h2
     obtain⟨j3,j4⟩:=JP.alts n false _ j2 e
     exact⟨j3,j4.trans (Eq.trans a1 jx)⟩
   ·rw [if_neg hsg] at e;cases e
theorem JP.rule {p q:PS} (h:JP ls p) (e:ruleQ s p=.ok q):JP ls q:=by
 unfold ruleQ at e
 obtain⟨⟨x,p1⟩,h1,e⟩:=bind_ok e
 obtain⟨w1,w2⟩:=wordP_x h1
 simp only at w1 w2 e
 obtain⟨j1,ju,jx,jt⟩:=h.cut w1 w2
 split at e
 ·cases e
 ·split at e
  ·cases e
  ·rename_i h8
   obtain⟨v,h2,e⟩:=bind_ok e
   obtain⟨p3,h3,e⟩:=bind_ok e
   obtain⟨j2,j3⟩:=JP.alts _ _ _ (p:={ p1 with names:=setP p1.names x.t (false,false,true) }) ⟨j1.mem,j1.l,j1.uses,j1.toks,j1.rules,j1.total⟩ h2
   have j4:=j2.want h3
   have e3:p3.x=v.2.x:=by rw [(wantP_x h3).1]
   simp only [Except.ok.injEq] at e
   rw [← e]
   have:=j1.rules
   exact⟨j4.mem,j4.l,j4.uses,j4.toks,by simp only [List.length_append,List.length_cons,List.length_nil];rw [e3,j3];simp only;omega,j4.total⟩
theorem JP.rulesL:∀ (n:Nat) (b:Bool) {p q:PS},JP ls p→rulesP s n b p=.ok q→JP ls q
 |0,b,p,q,h,e=>by simp only [rulesP,Except.ok.injEq] at e;rw [← e];exact h
 |n+1,b,p,q,h,e=>by
  unfold rulesP at e
  split at e
  ·obtain⟨p1,h1,e⟩:=bind_ok e
   exact JP.rulesL n false (h.rule h1) e
  ·simp only [Except.ok.injEq] at e;rw [← e];exact h
end
def stepP (s:List Nat):Nat→PS→Except Fa PS
 |0,p=>lookP s p
 |1,p=>tokensP s p
 |2,p=>sepQ s p
 |3,p=>startP s p
 |4,p=>rulesP s (p.l.length+1) true p
 |_,p=>usedP p
def restP (s:List Nat):Nat→Nat→PS→Except Fa PS
 |0,_,p=>.ok p
 |n+1,k,p=>(stepP s k p).bind fun p=>restP s n (k+1) p
theorem readP_rest (s:List Nat) (ls:List Lx):readP s ls=restP s 6 0 ⟨ls,src0,[],[],0⟩:=by
 unfold readP
 simp only [restP,stepP]
 have:∀ x:Except Fa PS,x.bind (fun p=>.ok p)=x:=fun x=>by cases x<;>rfl
 simp only [this]
theorem JP.stepL {ls:List Lx} {s:List Nat} {k:Nat} {p q:PS} (h:JP ls p) (e:stepP s k p=.ok q):JP ls q:=by
 match k,e with
 |0,e=>exact h.look e
 |1,e=>exact h.tokens e
 |2,e=>exact h.sep e
 |3,e=>exact h.start e
 |4,e=>exact JP.rulesL _ _ h e
 |k+5,e =>
  have e:usedP p=.ok q:=e
  unfold usedP at e
  obtain⟨_,_,e⟩:=bind_ok e
  simp only [Except.ok.injEq] at e
  rw [← e];exact h
end Go.Av
end
noncomputable section
namespace Go.Av
open Go Go.Proofs
def altTx (a:List (List Nat)):List Nat:=a.flatMap fun s=>32 :: s
def barP:Nat→List Nat
 |0=>[]
 |_+1=>[32,124]
def altsTo (al:List (List (List Nat))):Nat→List Nat
 |0=>[]
 |n+1=>altsTo al n++barP n++altTx (al.getD n [])
def ruleP (r:SRule):List Nat:=r.name++[32,61]++altsTo r.alts r.alts.length++[32,59,10]
def headP (x:Src):List Nat:=[108,111,111,107,97,104,101,97,100,32]++[48+x.k.toNat]++[59,10,116,111,107,101,110,32]++List.intercalate [44,32] x.tokens++[59,10,115,101,112,97,114,97,116,111,114,32]++x.sep++[59,10,115,116,97,114,116,32]++x.start++[59,10]
def rulesTo (x:Src) (n:Nat):List Nat:=(x.rules.take n).flatMap ruleP
def printX (x:Src):List Nat:=headP x++rulesTo x x.rules.length
end Go.Av
end
noncomputable section
namespace Go.Av
open Go Go.Proofs
abbrev Tk:=Nat × List Nat
abbrev kt (x:Lx):Tk:=(x.k,x.t)
inductive LexR:List Nat→List Tk→Prop
 |nil:LexR [] []
 |blank {c:Nat} {l:List Nat} {ts:List Tk}:blankI c=true→LexR l ts→LexR (c :: l) ts
 |lex {w l:List Nat} {k:Nat} {ts:List Tk}:beginsF (w++l)=(k,w)→k≠0→LexR l ts→LexR (w++l) ((k,w) :: ts)
theorem begins_cons (c:Nat) (l:List Nat):beginsF (c :: l)=if signI c then(3,[c]) else if letterI c then(1,(c :: l).take (1+runL wordI l)) else if digitI c then
   (if(c=48∧1<1+runL digitI l)∨(∃ e,(c :: l)[1+runL digitI l]?=some e∧endI e=true) then(0,[]) else(2,(c :: l).take (1+runL digitI l))) else(0,[]):=rfl
theorem begins_pass {c:Nat} {l:List Nat} (h:(beginsF (c :: l)).1≠0):passM false (c :: l)=0:=by
 have e:beginsF (c :: l)=if signI c then(3,[c]) else if letterI c then(1,(c :: l).take (1+runL wordI l)) else if digitI c then
   (if(c=48∧1<1+runL digitI l)∨(∃ e,(c :: l)[1+runL digitI l]?=some e∧endI e=true) then(0,[]) else(2,(c :: l).take (1+runL digitI l))) else(0,[]):=rfl
 have key:(signI (c:Nat) || letterI (c:Nat) || digitI (c:Nat))=true:=by
  cases h1:signI (c:Nat) with
  |true=>rfl
  |false =>
   cases h2:letterI (c:Nat) with
   |true=>rfl
   |false =>
    cases h3:digitI (c:Nat) with
    |true=>rfl
    |false=>rw [e,h1,h2,h3] at h;simp at h
 have hb:blankI (c:Nat)=false∧c≠35:=by
  simp only [signI,letterI,digitI,blankI,Bool.or_eq_true,Bool.and_eq_true,beq_iff_eq,decide_eq_true_eq,Bool.or_eq_false_iff,beq_eq_false_iff_ne] at key ⊢
  omega
 simp only [passM,hb.1,hb.2,if_false,Bool.false_eq_true]
theorem lexR_lexes {l:List Nat} {ts:List Tk} (h:LexR l ts):∀ (s:List Nat) (n a:Nat) (acc:List DV),s.drop a=l→a≤s.length→s.length+1≤n+a →
  ∃ ls:List Lx,lexesF s n a acc=(acc++ls.map encL,0,0)∧ls.map kt=ts:=by
 induction h with
 |nil =>
  intro s n a acc hd ha hn
  have:a=s.length:=by
   have:=congrArg List.length hd
   rw [List.length_drop] at this
   simp at this;omega
  subst this
  obtain⟨m,rfl⟩:∃ m,n=m+1:=⟨n-1,by omega⟩
  refine⟨[],?_,rfl⟩
  unfold lexesF
  rw [if_pos (by unfold atF4;rw [List.drop_length];rfl)]
  simp
 |@blank c l ts hb _ ih =>
  intro s n a acc hd ha hn
  have hlt:a<s.length:=by
   have:=congrArg List.length hd
   rw [List.length_drop] at this
   simp at this;omega
  have hd1:s.drop (a+1)=l:=by rw [← List.drop_drop,hd];rfl
  obtain⟨m,rfl⟩:∃ m,n=m+1:=⟨n-1,by omega⟩
  obtain⟨ls,h1,h2⟩:=ih s (m+1) (a+1) acc hd1 hlt (by omega)
  refine⟨ls,?_,h2⟩
  have hat:atF4 s a=atF4 s (a+1):=by
   unfold atF4
   rw [hd,hd1]
   simp only [passM,hb,if_true];omega
  unfold lexesF at h1 ⊢
  rw [hat];exact h1
 |@lex w l k ts hb hk _ ih =>
  intro s n a acc hd ha hn
  have hw:w≠[]:=by
   intro e
   subst e
   cases l with
   |nil=>simp [beginsF] at hb;exact hk hb.symm
   |cons c l =>
    have:=beginsF_pos (c:=c) (l:=l) (by rw [show beginsF (c :: l)=(k,[]) from hb];exact hk)
    rw [show beginsF (c :: l)=(k,[]) from hb] at this
    simp at this
  obtain⟨c,w',rfl⟩:∃ c w',w=c :: w':=by cases w with|nil=>exact absurd rfl hw|cons c w'=>exact⟨c,w',rfl⟩
  have hp:passM false (c :: w'++l)=0:=begins_pass (l:=w'++l) (by rw [show beginsF (c :: (w'++l))=(k,c :: w') from hb];exact hk)
  have hat:atF4 s a=a:=by unfold atF4;rw [hd,hp];rfl
  have hlen:=congrArg List.length hd
  rw [List.length_drop,List.length_append] at hlen
  simp only [List.length_cons] at hlen
  obtain⟨m,rfl⟩:∃ m,n=m+1:=⟨n-1,by omega⟩
  have hd1:s.drop (a+(c :: w').length)=l:=by rw [← List.drop_drop,hd];simp
  obtain⟨ls,h1,h2⟩:=ih s m (a+(c :: w').length) (acc++[lexD k (c :: w') a]) hd1 (by simp only [List.length_cons];omega) (by simp only [List.length_cons];omega)
  refine⟨⟨k,c :: w',a⟩ :: ls,?_,by simp [h2]⟩
  unfold lexesF
  rw [hat,hd,hb,if_neg (by omega),if_neg hk]
  simp only
  rw [h1]
  simp
theorem runL_app (p:Int→Bool):∀ (w rest:List Nat),(∀ c ∈ w,p (c:Nat)=true)→(∀ c,rest[0]?=some c→p (c:Nat)=false)→runL p (w++rest)=w.length
 |[],[],_,_=>rfl
 |[],c :: rest,_,h=>by simp [runL,h c rfl]
 |a :: w,rest,h1,h2=>by
  have:=runL_app p w rest (fun c hc=>h1 c (List.mem_cons_of_mem _ hc)) h2
  simp only [List.cons_append,runL,h1 a List.mem_cons_self,if_true,this,List.length_cons];omega
def IsW:List Nat→Prop
 |[]=>False
 |c :: l=>letterI (c:Nat)=true∧∀ d ∈ l,wordI (d:Nat)=true
theorem letter_nsign {c:Nat} (h:letterI (c:Nat)=true):signI (c:Nat)=false:=by
 simp only [letterI,signI,Bool.or_eq_true,Bool.and_eq_true,decide_eq_true_eq,Bool.or_eq_false_iff,beq_eq_false_iff_ne] at h ⊢
 omega
theorem LexR.word {w rest:List Nat} {ts:List Tk} (hw:IsW w) (hr:∀ c,rest[0]?=some c→wordI (c:Nat)=false) (h:LexR rest ts):LexR (w++rest) ((1,w) :: ts):=by
 cases w with
 |nil=>exact hw.elim
 |cons c l =>
  refine LexR.lex ?_ (by decide) h
  show beginsF (c :: (l++rest))=(1,c :: l)
  rw [begins_cons,letter_nsign hw.1,hw.1,runL_app wordI l rest hw.2 hr]
  simp only [Bool.false_eq_true,if_false,if_true]
  rw [Nat.add_comm,List.take_succ_cons,List.take_left']
  rfl
theorem LexR.sign {c:Nat} {rest:List Nat} {ts:List Tk} (hc:signI (c:Nat)=true) (h:LexR rest ts):LexR (c :: rest) ((3,[c]) :: ts):=by
 refine LexR.lex (w:=[c]) ?_ (by decide) h
 show beginsF (c :: rest)=(3,[c])
 rw [begins_cons,hc];rfl
theorem LexR.num {k:Nat} {rest:List Nat} {ts:List Tk} (h1:1≤k) (h2:k≤9) (hr:∀ c,rest[0]?=some c→digitI (c:Nat)=false∧endI (c:Nat)=false) (h:LexR rest ts):LexR ((48+k) :: rest) ((2,[48+k]) :: ts):=by
 refine LexR.lex (w:=[48+k]) ?_ (by decide) h
 show beginsF ((48+k) :: rest)=(2,[48+k])
 have hs:signI ((48+k:Nat):Int)=false:=by simp only [signI,Bool.or_eq_false_iff,beq_eq_false_iff_ne];omega
 have hl:letterI ((48+k:Nat):Int)=false:=by simp only [letterI,Bool.or_eq_false_iff,Bool.and_eq_false_iff,decide_eq_false_iff_not];omega
 have hd:digitI ((48+k:Nat):Int)=true:=by simp only [digitI,Bool.and_eq_true,decide_eq_true_eq];omega
 have h0:runL digitI rest=0:=runL_app digitI [] rest (fun c hc=>by cases hc) (fun c hc=>(hr c hc).1)
 have hne:¬ ((48+k=48∧1<1+0)∨∃ e,((48+k) :: rest)[1+0]?=some e∧endI (e:Nat)=true):=by
  rintro(⟨h,_⟩|⟨e,h3,h4⟩)
  ·omega
  ·have h3:rest[0]?=some e:=by simpa using h3
   rw [(hr e h3).2] at h4;cases h4
 rw [begins_cons,hs,hl,hd,h0]
 simp only [Bool.false_eq_true,if_false,if_true]
 rw [if_neg hne]
 rfl
def commaW (l:List (List Nat)):List Nat:=l.flatMap fun s=>44 :: 32 :: s
theorem inter_comma:∀ (t:List Nat) (l:List (List Nat)),List.intercalate [44,32] (t :: l)=t++commaW l
 |t,[]=>by simp [List.intercalate,commaW]
 |t,u :: l=>by
  have:=inter_comma u l
  simp only [List.intercalate,List.intersperse,List.flatten_cons] at this ⊢
  rw [this]
  simp [commaW]
def altsW:Bool→List (List (List Nat))→List Nat
 |_,[]=>[]
 |first,a :: l=>(if first then [] else [32,124])++altTx a++altsW false l
theorem altsW_app:∀ (b:Bool) (al:List (List (List Nat))) (a:List (List Nat)),altsW b (al++[a])=altsW b al++(if b && al.isEmpty then [] else [32,124])++altTx a
 |b,[],a=>by cases b<;>simp [altsW]
 |b,x :: al,a=>by
  have:=altsW_app false al a
  simp only [List.cons_append,altsW,this]
  cases b<;>simp
theorem altsTo_take (al:List (List (List Nat))):∀ n,n≤al.length→altsTo al n=altsW true (al.take n)
 |0,_=>rfl
 |n+1,h=>by
  obtain⟨a,ha⟩:∃ a,al[n]?=some a:=⟨al[n]'(by omega),List.getElem?_eq_getElem (by omega)⟩
  have h1:=altsTo_take al n (by omega)
  rw [List.take_add_one,ha]
  show _=altsW true (al.take n++[a])
  rw [altsW_app]
  simp only [altsTo,h1,List.getD_eq_getElem?_getD,ha,Option.getD_some]
  cases n with
  |zero=>rfl
  |succ n =>
   have:(al.take (n+1)).isEmpty=false:=by
    cases al with
    |nil=>simp at h
    |cons x l=>rfl
   rw [this];rfl
theorem altsTo_W (al:List (List (List Nat))):altsTo al al.length=altsW true al:=by
 rw [altsTo_take al _ (Nat.le_refl _),List.take_length]
def altsT:Bool→List (List (List Nat))→List Tk
 |_,[]=>[]
 |first,a :: l=>(if first then [] else [(3,sBar)])++a.map (fun s=>(1,s))++altsT false l
def ruleT (r:SRule):List Tk:=(1,r.name) :: (3,sEq) :: (altsT true r.alts++[(3,sSemi)])
def commaT (l:List (List Nat)):List Tk:=l.flatMap fun s=>[(3,sComma),(1,s)]
def toksX (x:Src):List Tk:=[(1,wLook),(2,[48+x.k.toNat]),(3,sSemi),(1,wToken)]++((1,x.tokens.headD []) :: commaT x.tokens.tail)++[(3,sSemi),(1,wSep),(1,x.sep),(3,sSemi),(1,wStart),(1,x.start),(3,sSemi)]++x.rules.flatMap ruleT
theorem LexR.sp {l:List Nat} {ts:List Tk} (h:LexR l ts):LexR (32 :: l) ts:=.blank rfl h
theorem LexR.nl {l:List Nat} {ts:List Tk} (h:LexR l ts):LexR (10 :: l) ts:=.blank rfl h
theorem sepHead {c:Nat} {l:List Nat} (h:wordI (c:Nat)=false):∀ d,(c :: l)[0]?=some d→wordI (d:Nat)=false:=fun d hd=>by
 simp at hd;rw [← hd];exact h
theorem lexComma {rest:List Nat} {ts:List Tk} (hr:∀ c,rest[0]?=some c→wordI (c:Nat)=false) (h:LexR rest ts):∀ (l:List (List Nat)),(∀ s ∈ l,IsW s)→LexR (commaW l++rest) (commaT l++ts)∧∀ c,(commaW l++rest)[0]?=some c→wordI (c:Nat)=false
 |[],_=>⟨h,hr⟩
 |s :: l,hw=>by
  obtain⟨h1,h2⟩:=lexComma hr h l (fun s hs=>hw s (List.mem_cons_of_mem _ hs))
  have:=LexR.sign (c:=44) rfl (LexR.sp ((LexR.word (hw s List.mem_cons_self) h2 h1)))
  refine⟨?_,fun c hc=>?_⟩
  ·simpa [commaW,commaT] using this
  ·simp [commaW] at hc;rw [← hc];rfl
theorem lexAlt {rest:List Nat} {ts:List Tk} (hr:∀ c,rest[0]?=some c→wordI (c:Nat)=false) (h:LexR rest ts):∀ (a:List (List Nat)),(∀ s ∈ a,IsW s)→LexR (altTx a++rest) (a.map (fun s=>(1,s))++ts)∧∀ c,(altTx a++rest)[0]?=some c→wordI (c:Nat)=false
 |[],_=>⟨h,hr⟩
 |s :: a,hw=>by
  obtain⟨h1,h2⟩:=lexAlt hr h a (fun s hs=>hw s (List.mem_cons_of_mem _ hs))
  have:=LexR.sp (LexR.word (hw s List.mem_cons_self) h2 h1)
  refine⟨?_,fun c hc=>?_⟩
  ·simpa [altTx] using this
  ·simp [altTx] at hc;rw [← hc];rfl
theorem lexAlts {rest:List Nat} {ts:List Tk} (hr:∀ c,rest[0]?=some c→wordI (c:Nat)=false) (h:LexR rest ts):∀ (b:Bool) (al:List (List (List Nat))),(∀ a ∈ al,∀ s ∈ a,IsW s)→LexR (altsW b al++rest) (altsT b al++ts)∧∀ c,(altsW b al++rest)[0]?=some c→wordI (c:Nat)=false
 |_,[],_=>⟨h,hr⟩
 |b,a :: al,hw=>by
  obtain⟨h1,h2⟩:=lexAlts hr h false al (fun s hs=>hw s (List.mem_cons_of_mem _ hs))
  obtain⟨h3,h4⟩:=lexAlt h2 h1 a (hw a List.mem_cons_self)
  cases b with
  |true=>exact⟨by simpa [altsW,altsT] using h3,by simpa [altsW] using h4⟩
  |false =>
   have:=LexR.sp (LexR.sign (c:=124) rfl h3)
   refine⟨by simpa [altsW,altsT] using this,fun c hc=>?_⟩
   simp [altsW] at hc;rw [← hc];rfl
theorem lexRule {rest:List Nat} {ts:List Tk} (h:LexR rest ts) (r:SRule) (hn:IsW r.name) (hw:∀ a ∈ r.alts,∀ s ∈ a,IsW s):LexR (ruleP r++rest) (ruleT r++ts):=by
 have h0:LexR (32 :: 59 :: 10 :: rest) ((3,sSemi) :: ts):=LexR.sp (LexR.sign rfl (LexR.nl h))
 obtain⟨h1,h2⟩:=lexAlts (sepHead rfl) h0 true r.alts hw
 have:=LexR.word hn (sepHead (c:=32) (l:=61 :: (altsW true r.alts++32 :: 59 :: 10 :: rest)) rfl) (LexR.sp (LexR.sign (c:=61) rfl h1))
 simpa [ruleP,ruleT,altsTo_W] using this
theorem lexRules:∀ (l:List SRule),(∀ r ∈ l,IsW r.name∧∀ a ∈ r.alts,∀ s ∈ a,IsW s)→LexR (l.flatMap ruleP) (l.flatMap ruleT)
 |[],_=>.nil
 |r :: l,h=>by
  simp only [List.flatMap_cons]
  exact lexRule (lexRules l (fun r hr=>h r (List.mem_cons_of_mem _ hr))) r (h r List.mem_cons_self).1 (h r List.mem_cons_self).2
theorem lexPrint (x:Src) (hk:1≤x.k∧x.k≤4) (h0:x.tokens≠[]) (ht:∀ s ∈ x.tokens,IsW s) (hs:IsW x.sep) (hS:IsW x.start) (hr:∀ r ∈ x.rules,IsW r.name∧∀ a ∈ r.alts,∀ s ∈ a,IsW s):LexR (printX x) (toksX x):=by
 have e0:=lexRules x.rules hr
 have e1:=LexR.word (w:=wStart) ⟨rfl,by decide⟩ (sepHead (c:=32) (l:=x.start++59 :: 10 :: x.rules.flatMap ruleP) rfl) (LexR.sp (LexR.word hS (sepHead (c:=59) rfl) (LexR.sign rfl (LexR.nl e0))))
 have e2:=LexR.word (w:=wSep) ⟨rfl,by decide⟩ (sepHead (c:=32) rfl) (LexR.sp (LexR.word hs (sepHead (c:=59) rfl) (LexR.sign rfl (LexR.nl e1))))
 obtain⟨t,l,hl⟩:∃ t l,x.tokens=t :: l:=by cases h:x.tokens with|nil=>exact absurd h h0|cons t l=>exact⟨t,l,rfl⟩
 obtain⟨e3,e4⟩:=lexComma (sepHead (c:=59) rfl) (LexR.sign (c:=59) rfl (LexR.nl e2)) l (fun s hs=>ht s (by rw [hl];exact List.mem_cons_of_mem _ hs))
 have e5:=LexR.word (w:=wToken) ⟨rfl,by decide⟩ (sepHead (c:=32) rfl) (LexR.sp (LexR.word (ht t (by rw [hl];exact List.mem_cons_self)) e4 e3))
 have e6:=LexR.word (w:=wLook) ⟨rfl,by decide⟩ (sepHead (c:=32) rfl) (LexR.sp (LexR.num (k:=x.k.toNat) (by omega) (by omega) (fun c hc=>by simp at hc;rw [← hc];exact⟨rfl,rfl⟩) (LexR.sign (c:=59) rfl (LexR.nl e5))))
 have a1:printX x=wLook++32 :: ((48+x.k.toNat) :: 59 :: 10 :: (wToken++32 :: (t++(commaW l++59 :: 10 :: (wSep++32 :: (x.sep++59 :: 10 :: (wStart++32 :: (x.start++59 :: 10 :: x.rules.flatMap ruleP)))))))):=by
  unfold printX headP rulesTo
  rw [hl,inter_comma,List.take_length]
  simp [wLook,wToken,wSep,wStart]
 have a2:toksX x=(1,wLook) :: (2,[48+x.k.toNat]) :: (3,sSemi) :: (1,wToken) :: (1,t) :: (commaT l++(3,sSemi) :: (1,wSep) :: (1,x.sep) :: (3,sSemi) :: (1,wStart) :: (1,x.start) :: (3,sSemi) :: x.rules.flatMap ruleT):=by
  unfold toksX
  rw [hl]
  simp
 rw [a1,a2]
 exact e6
end Go.Av
end
noncomputable section
namespace Go.Av
open Go Go.Proofs
section
variable {s:List Nat} {ls:List Lx}
def AT (ls:List Lx) (r:RS) (l:List Tk):Prop:=r.f=(0,0)∧(ls.drop r.pos).map kt=l
theorem AT.cons {r:RS} {k:Nat} {t:List Nat} {l:List Tk} (h:AT ls r ((k,t) :: l)):∃ x,ls[r.pos]?=some x∧x.k=k∧x.t=t∧ls.drop r.pos=x :: ls.drop (r.pos+1)∧(ls.drop (r.pos+1)).map kt=l:=by
 obtain⟨_,h⟩:=h
 cases hd:ls.drop r.pos with
 |nil=>rw [hd] at h;cases h
 |cons x m =>
  rw [hd] at h
  simp only [List.map_cons,List.cons.injEq,Prod.mk.injEq] at h
  have hx:ls[r.pos]?=some x:=by rw [← List.head?_drop,hd];rfl
  have hm:ls.drop (r.pos+1)=m:=by rw [← List.drop_drop,hd];rfl
  exact⟨x,hx,h.1.1,h.1.2,by rw [hm],by rw [hm];exact h.2⟩
theorem AT.len {r:RS} {l:List Tk} (h:AT ls r l):l.length+r.pos≤ls.length∨l=[]:=by
 have:=congrArg List.length h.2
 rw [List.length_map,List.length_drop] at this
 cases l with
 |nil=>exact .inr rfl
 |cons x l=>simp at this;left;simp;omega
theorem AT.len' {r:RS} {l:List Tk} (h:AT ls r l):l.length≤ls.length:=by
 have:=congrArg List.length h.2
 rw [List.length_map,List.length_drop] at this
 omega
theorem AT.peek {r:RS} {k:Nat} {t:List Nat} {l:List Tk} (h:AT ls r ((k,t) :: l)):∃ a,peekR s ls r=(⟨k,t,a⟩,r):=by
 obtain⟨x,h1,h2,h3,_,_⟩:=h.cons
 refine⟨x.a,?_⟩
 unfold peekR
 rw [h1,← h2,← h3]
theorem AT.take {r:RS} {k:Nat} {t:List Nat} {l:List Tk} (h:AT ls r ((k,t) :: l)):∃ a,takeR s ls r=(⟨k,t,a⟩,{ r with pos:=r.pos+1 })∧AT ls { r with pos:=r.pos+1 } l:=by
 obtain⟨a,h1⟩:=h.peek (s:=s)
 obtain⟨x,_,_,_,_,h5⟩:=h.cons
 exact⟨a,by unfold takeR;rw [h1],h.1,h5⟩
theorem AT.must {r:RS} {k:Nat} {t:List Nat} {l:List Tk} (h:AT ls r ((k,t) :: l)):mustR s ls k t r={ r with pos:=r.pos+1 }∧AT ls { r with pos:=r.pos+1 } l:=by
 obtain⟨a,h1,h2⟩:=h.take (s:=s)
 refine⟨?_,h2⟩
 unfold mustR mustX
 rw [h1,if_neg (by simp)]
theorem AT.name {r:RS} {cap:Bool} {t:List Nat} {l:List Tk} (h:AT ls r ((1,t) :: l)) (hc:(if cap then capitalF t else smallF t)=true):nameR s ls cap r=(t,{ r with pos:=r.pos+1 })∧AT ls { r with pos:=r.pos+1 } l:=by
 obtain⟨a,h1,h2⟩:=h.take (s:=s)
 refine⟨?_,h2⟩
 have h0:=h.1
 unfold nameR nameX
 rw [h1]
 simp only [h0,ne_eq,not_true_eq_false,if_false,hc,if_true]
theorem AT.nextT {r:RS} {t:List Nat} {l:List Tk} (h:AT ls r ((3,t) :: l)):nextQ ls t r=(true,{ r with pos:=r.pos+1 })∧AT ls { r with pos:=r.pos+1 } l:=by
 obtain⟨x,_,h2,h3,h4,h5⟩:=h.cons
 refine⟨?_,h.1,h5⟩
 unfold nextQ
 rw [h4,if_pos ⟨by rw [h.1],by simp [isL,h2,h3]⟩]
theorem AT.nextF {r:RS} {u t:List Nat} {k:Nat} {l:List Tk} (h:AT ls r ((k,u) :: l)) (hn:¬ (k=3∧u=t)):nextQ ls t r=(false,r):=by
 obtain⟨x,_,h2,h3,h4,_⟩:=h.cons
 unfold nextQ
 rw [h4,if_neg (by rintro⟨_,e⟩;simp only [isL,decide_eq_true_eq] at e;rw [h2,h3] at e;exact hn e)]
theorem AT.x {r:RS} {l:List Tk} (h:AT ls r l) (y:Src):AT ls { r with x:=y } l:=h
theorem has_false {l:List (List Nat)} {t:List Nat} (h:t ∉ l):hasF l t=false:=by
 simp only [hasF,List.any_eq_false,decide_eq_true_eq]
 intro y hy e
 exact h (e ▸ hy)
theorem AT.token {r:RS} {t:List Nat} {l:List Tk} (h:AT ls r ((1,t) :: l)) (ht:smallF t=true) (hn:t ∉ r.x.tokens) (h8:r.x.tokens.length≠8):tokenR s ls r={ r with pos:=r.pos+1,x:={ r.x with tokens:=r.x.tokens++[t] } }∧AT ls { r with pos:=r.pos+1 } l:=by
 obtain⟨a,h1⟩:=h.peek (s:=s)
 obtain⟨h2,h3⟩:=h.name (s:=s) (cap:=false) ht
 refine⟨?_,h3⟩
 unfold tokenR
 simp only [h1,h2,newR,has_false hn,roomR,h8,if_false,Bool.false_eq_true]
theorem AT.tokens:∀ (l:List (List Nat)) (n:Nat) (r:RS) (t:List Nat) (rest:List Tk),AT ls r ((1,t) :: (commaT l++(3,sSemi) :: rest))→l.length<n→(∀ u ∈ t :: l,smallF u=true)→(r.x.tokens++t :: l).Nodup→r.x.tokens.length+(t :: l).length≤8 →
  ∃ p,tokensR s ls n r={ r with pos:=p,x:={ r.x with tokens:=r.x.tokens++t :: l } }∧AT ls { r with pos:=p } ((3,sSemi) :: rest)
 |[],n,r,t,rest,h,hn,hs,hd,h8=>by
  obtain⟨n,rfl⟩:∃ m,n=m+1:=⟨n-1,by simp at hn;omega⟩
  have hnt:t ∉ r.x.tokens:=fun hm=>by
   have:=(List.nodup_append.1 hd).2.2 t hm t (by simp)
   exact this rfl
  obtain⟨h1,h2⟩:=h.token (s:=s) (hs t (by simp)) hnt (by simp at h8;omega)
  have h2:AT ls { r with pos:=r.pos+1,x:={ r.x with tokens:=r.x.tokens++[t] } } ((3,sSemi) :: rest):=h2
  refine⟨r.pos+1,?_,h2⟩
  unfold tokensR
  rw [if_pos (by rw [h.1])]
  simp only [h1]
  rw [h2.nextF (by decide)]
  simp
 |u :: l,n,r,t,rest,h,hn,hs,hd,h8=>by
  obtain⟨n,rfl⟩:∃ m,n=m+1:=⟨n-1,by simp at hn;omega⟩
  have hnt:t ∉ r.x.tokens:=fun hm=>by
   have:=(List.nodup_append.1 hd).2.2 t hm t (by simp)
   exact this rfl
  obtain⟨h1,h2⟩:=h.token (s:=s) (hs t (by simp)) hnt (by simp at h8;omega)
  have h2:AT ls { r with pos:=r.pos+1,x:={ r.x with tokens:=r.x.tokens++[t] } } ((3,sComma) :: (1,u) :: (commaT l++(3,sSemi) :: rest)):=by
   refine⟨h2.1,?_⟩
   have:=h2.2
   simpa [commaT] using this
  obtain⟨h3,h4⟩:=h2.nextT
  obtain⟨p,h5,h6⟩:=AT.tokens l n _ u rest h4 (by simp at hn;omega) (fun v hv=>hs v (List.mem_cons_of_mem _ hv)) (by simpa using hd) (by simp at h8 ⊢;omega)
  refine⟨p,?_,h6⟩
  unfold tokensR
  rw [if_pos (by rw [h.1])]
  simp only [h1,h3,if_true]
  rw [h5]
  simp
theorem AT.alt:∀ (a:List (List Nat)) (n:Nat) (acc:List (List Nat)) (r:RS) (k:Nat) (u:List Nat) (rest:List Tk),AT ls r (a.map (fun t=>(1,t))++(k,u) :: rest)→k≠1→a.length<n→(∀ t ∈ a,mayF t=true)→acc.length+a.length≤6 →
  ∃ p,altR s ls n acc r=(acc++a,{ r with pos:=p })∧AT ls { r with pos:=p } ((k,u) :: rest)
 |[],n,acc,r,k,u,rest,h,hk,hn,hm,h6=>by
  obtain⟨n,rfl⟩:∃ m,n=m+1:=⟨n-1,by simp at hn;omega⟩
  have h:AT ls r ((k,u) :: rest):=h
  obtain⟨a,h1⟩:=h.peek (s:=s)
  refine⟨r.pos,?_,h⟩
  unfold altR
  rw [if_pos (by rw [h.1]),h1]
  simp only [hk,if_false,List.append_nil]
 |t :: a,n,acc,r,k,u,rest,h,hk,hn,hm,h6=>by
  obtain⟨n,rfl⟩:∃ m,n=m+1:=⟨n-1,by simp at hn;omega⟩
  have h:AT ls r ((1,t) :: (a.map (fun t=>(1,t))++(k,u) :: rest)):=h
  obtain⟨b,h1⟩:=h.peek (s:=s)
  obtain⟨b2,h2,h3⟩:=h.take (s:=s)
  simp only [List.length_cons] at h6 hn
  obtain⟨p,h4,h5⟩:=AT.alt a n (acc++[t]) _ k u rest h3 hk (by omega) (fun t ht=>hm t (List.mem_cons_of_mem _ ht)) (by simp only [List.length_append,List.length_cons,List.length_nil];omega)
  refine⟨p,?_,h5⟩
  unfold altR
  rw [if_pos (by rw [h.1]),h1]
  simp only [if_true,h2,wordR,hm t List.mem_cons_self,roomR]
  rw [if_neg (show ¬ acc.length=6 by omega),h4]
  simp
theorem AT.alts:∀ (al:List (List (List Nat))) (a:List (List Nat)) (n:Nat) (acc:List (List (List Nat))) (r:RS) (rest:List Tk),AT ls r (a.map (fun t=>(1,t))++(altsT false al++(3,sSemi) :: rest))→al.length<n→(∀ b ∈ a :: al,b.length≤6∧∀ t ∈ b,mayF t=true)→r.alts+(a :: al).length≤24 →
  ∃ p,altsR s ls n acc r=(acc++a :: al,{ r with pos:=p,alts:=r.alts+(a :: al).length })∧AT ls { r with pos:=p } ((3,sSemi) :: rest)
 |[],a,n,acc,r,rest,h,hn,hb,h24=>by
  obtain⟨n,rfl⟩:∃ m,n=m+1:=⟨n-1,by simp at hn;omega⟩
  have h:AT ls r (a.map (fun t=>(1,t))++(3,sSemi) :: rest):=h
  have hl:=h.len'
  simp only [List.length_append,List.length_map,List.length_cons] at hl
  have hc:countR ls r={ r with alts:=r.alts+1 }:=by simp at h24;simp only [countR,roomR];rw [if_neg (by omega)]
  obtain⟨p,h1,h2⟩:=AT.alt (s:=s) a (ls.length+1) [] (countR ls r) 3 sSemi rest (by rw [hc];exact h) (by decide) (by omega) (hb a (by simp)).2 (by have:=(hb a (by simp)).1;simpa using this)
  rw [hc] at h1 h2
  simp only at h1 h2
  have h2:AT ls { r with alts:=r.alts+1,pos:=p } ((3,sSemi) :: rest):=h2
  refine⟨p,?_,h2⟩
  unfold altsR oneAltR
  simp only [hc,h1]
  rw [AT.nextF h2 (by decide)]
  simp
 |b :: al,a,n,acc,r,rest,h,hn,hb,h24=>by
  obtain⟨n,rfl⟩:∃ m,n=m+1:=⟨n-1,by simp at hn;omega⟩
  have h:AT ls r (a.map (fun t=>(1,t))++(3,sBar) :: (b.map (fun t=>(1,t))++(altsT false al++(3,sSemi) :: rest))):=by
   refine⟨h.1,?_⟩
   have:=h.2
   simpa [altsT] using this
  have hl:=h.len'
  simp only [List.length_append,List.length_map,List.length_cons] at hl
  have hc:countR ls r={ r with alts:=r.alts+1 }:=by simp at h24;simp only [countR,roomR];rw [if_neg (by omega)]
  obtain⟨p,h1,h2⟩:=AT.alt (s:=s) a (ls.length+1) [] (countR ls r) 3 sBar _ (by rw [hc];exact h) (by decide) (by omega) (hb a (by simp)).2 (by have:=(hb a (by simp)).1;simpa using this)
  rw [hc] at h1 h2
  simp only at h1 h2
  have h2:AT ls { r with alts:=r.alts+1,pos:=p } _:=h2
  obtain⟨h3,h4⟩:=h2.nextT
  obtain⟨q,h5,h6⟩:=AT.alts al b n (acc++[a]) _ rest h4 (by simp at hn;omega) (fun c hc=>hb c (List.mem_cons_of_mem _ hc)) (by simp at h24 ⊢;omega)
  refine⟨q,?_,h6⟩
  unfold altsR oneAltR
  simp only [hc,h1,h3,if_true]
  simp only [List.nil_append,h5]
  simp;omega
theorem AT.rule {r:RS} {u:SRule} {rest:List Tk} (h:AT ls r (ruleT u++rest)) (hc:capitalF u.name=true) (hn:u.name ∉ ruleNames r.x) (h8:r.x.rules.length≠8) (hne:u.alts≠[]) (hb:∀ b ∈ u.alts,b.length≤6∧∀ t ∈ b,mayF t=true) (h24:r.alts+u.alts.length≤24) :
  ∃ p,ruleR s ls r={ r with pos:=p,alts:=r.alts+u.alts.length,x:={ r.x with rules:=r.x.rules++[u] } }∧AT ls { r with pos:=p } rest:=by
 obtain⟨a,al,ha⟩:∃ a al,u.alts=a :: al:=by cases h:u.alts with|nil=>exact absurd h hne|cons a al=>exact⟨a,al,rfl⟩
 have h:AT ls r ((1,u.name) :: (3,sEq) :: (a.map (fun t=>(1,t))++(altsT false al++(3,sSemi) :: rest))):=by
  refine⟨h.1,?_⟩
  have:=h.2
  simpa [ruleT,ha,altsT] using this
 have hl:=h.len'
 simp only [List.length_append,List.length_map,List.length_cons] at hl
 have hal:al.length≤(altsT false al).length:=by
  clear ha hl h
  induction al with
  |nil=>simp
  |cons x l ih=>simp [altsT];omega
 obtain⟨b0,h1⟩:=h.peek (s:=s)
 obtain⟨h2,h3⟩:=h.name (s:=s) (cap:=true) hc
 obtain⟨h4,h5⟩:=h3.must (s:=s)
 obtain⟨p,h6,h7⟩:=AT.alts (s:=s) al a (ls.length+1) [] _ rest h5 (by omega) (by rw [← ha];exact hb) (by simp only;rw [← ha];exact h24)
 simp only at h6 h7
 have h7:AT ls { r with pos:=p,alts:=r.alts+(a :: al).length } ((3,sSemi) :: rest):=h7
 obtain⟨h8',h9⟩:=h7.must (s:=s)
 simp only at h8' h9
 refine⟨p+1,?_,h9⟩
 have hf:r.f.1=0:=by rw [h.1]
 unfold ruleR
 simp only [h1,h2,hf,if_true,newR,has_false hn,roomR,h8,if_false,Bool.false_eq_true,h4,h6,List.nil_append,h8']
 rw [← ha]
theorem AT.rules:∀ (l:List SRule) (n:Nat) (b:Bool) (r:RS),AT ls r (l.flatMap ruleT)→(b=true→l≠[])→l.length<n→(∀ u ∈ l,capitalF u.name=true∧u.alts≠[]∧∀ b ∈ u.alts,b.length≤6∧∀ t ∈ b,mayF t=true)→(ruleNames r.x++l.map (·.name)).Nodup→r.x.rules.length+l.length≤8→r.alts+(l.map (·.alts.length)).sum≤24 →
  ∃ p a,rulesR s ls n b r={ r with pos:=p,alts:=a,x:={ r.x with rules:=r.x.rules++l } }
 |[],n,b,r,h,hb,hn,hu,hd,h8,h24=>by
  obtain⟨n,rfl⟩:∃ m,n=m+1:=⟨n-1,by simp at hn;omega⟩
  have hb:b=false:=by cases b with|true=>exact absurd rfl (hb rfl)|false=>rfl
  subst hb
  have hp:¬ r.pos<ls.length:=fun hlt=>by
   have:=congrArg List.length h.2
   rw [List.length_map,List.length_drop] at this
   simp at this;omega
  refine⟨r.pos,r.alts,?_⟩
  unfold rulesR
  rw [if_neg (by rintro⟨_,h|h⟩;cases h;exact hp h)]
  simp
 |u :: l,n,b,r,h,hb,hn,hu,hd,h8,h24=>by
  obtain⟨n,rfl⟩:∃ m,n=m+1:=⟨n-1,by simp at hn;omega⟩
  obtain⟨u1,u2,u3⟩:=hu u List.mem_cons_self
  have h:AT ls r (ruleT u++l.flatMap ruleT):=h
  have hpos:r.pos<ls.length:=by
   obtain⟨x,hx,_⟩:=AT.cons (ls:=ls) (r:=r) (k:=1) (t:=u.name) (l:=((3,sEq) :: (altsT true u.alts++[(3,sSemi)]))++l.flatMap ruleT) ⟨h.1,by rw [h.2];rfl⟩
   exact(List.getElem?_eq_some_iff.1 hx).1
  have hnn:u.name ∉ ruleNames r.x:=fun hm=>(List.nodup_append.1 hd).2.2 _ hm u.name (by simp) rfl
  simp only [List.map_cons,List.sum_cons] at h24
  obtain⟨p,h1,h2⟩:=h.rule (s:=s) u1 hnn (by simp at h8;omega) u2 u3 (by omega)
  have h2:AT ls { r with pos:=p,alts:=r.alts+u.alts.length,x:={ r.x with rules:=r.x.rules++[u] } } (l.flatMap ruleT):=h2
  obtain⟨q,a,h3⟩:=AT.rules l n false _ h2 (fun h=>by cases h) (by simp at hn;omega) (fun v hv=>hu v (List.mem_cons_of_mem _ hv)) (by simpa [ruleNames] using hd) (by simp at h8 ⊢;omega) (by simp only;omega)
  refine⟨q,a,?_⟩
  unfold rulesR
  rw [if_pos ⟨by rw [h.1],.inr hpos⟩,h1,h3]
  simp
end
end Go.Av
end
noncomputable section
namespace Go.Av
open Go Go.Proofs
structure SoundX (x:Src):Prop where
 k:1≤x.k∧x.k≤4
 tok0:x.tokens≠[]
 rul0:x.rules≠[]
 alt0:∀ r ∈ x.rules,r.alts≠[]
 alt6:∀ r ∈ x.rules,∀ a ∈ r.alts,a.length≤6
 tok8:x.tokens.length≤8
 rul8:x.rules.length≤8
 sum:(x.rules.map (·.alts.length)).sum≤24
 tokS:∀ s ∈ x.tokens,smallF s=true
 sepS:smallF x.sep=true
 startC:capitalF x.start=true
 rulC:∀ r ∈ x.rules,capitalF r.name=true
 altM:∀ r ∈ x.rules,∀ a ∈ r.alts,∀ s ∈ a,mayF s=true
 nodT:(x.tokens++[x.sep]).Nodup
 nodR:(ruleNames x).Nodup
 noSep:∀ r ∈ x.rules,∀ a ∈ r.alts,x.sep ∉ a
 known:∀ r ∈ x.rules,∀ a ∈ r.alts,∀ s ∈ a,s ∈ ruleNames x∨s ∈ x.tokens
 start:x.start ∈ ruleNames x
theorem hasF_iff {l:List (List Nat)} {t:List Nat}:hasF l t=true ↔ t ∈ l:=by
 simp only [hasF,List.any_eq_true,decide_eq_true_eq]
 exact⟨fun⟨y,h1,h2⟩=>h2 ▸ h1,fun h=>⟨t,h,rfl⟩⟩
theorem soundX {x:Src} (h:checkX x=0):SoundX x:=by
 unfold checkX at h
 by_cases h1:x.k<1∨4<x.k
 ·rw [if_pos h1] at h;cases h
 rw [if_neg h1] at h
 cases h2:shortX x with
 |true=>rw [h2] at h;cases h
 |false =>
 cases h3:fullX x with
 |true=>rw [h2,h3] at h;cases h
 |false =>
 cases h4:misX x with
 |true=>rw [h2,h3,h4] at h;cases h
 |false =>
 cases h5:twoX x with
 |true=>rw [h2,h3,h4,h5] at h;cases h
 |false =>
 cases h6:usesX x x.sep with
 |true=>rw [h2,h3,h4,h5,h6] at h;cases h
 |false =>
 cases h7:unkX x with
 |true=>rw [h2,h3,h4,h5,h6,h7] at h;cases h
 |false =>
 clear h
 simp only [shortX,Bool.or_eq_false_iff,List.any_eq_false,List.isEmpty_iff,Bool.not_eq_true] at h2
 simp only [fullX,Bool.or_eq_false_iff,List.any_eq_false,decide_eq_false_iff_not,longA,decide_eq_true_eq,Bool.not_eq_true,List.any_eq_true,not_exists,not_and] at h3
 simp only [misX,Bool.or_eq_false_iff,List.any_eq_false,Bool.not_eq_true,Bool.not_eq_false',misR,noName,Bool.and_eq_false_iff,Bool.not_eq_true',Bool.not_eq_false] at h4
 simp only [twoX,Bool.or_eq_false_iff,smallsX] at h5
 simp only [usesX,usesR,List.any_eq_false,Bool.not_eq_true,List.any_eq_false] at h6
 simp only [unkX,unkR,unkS,Bool.or_eq_false_iff,List.any_eq_false,Bool.not_eq_true,Bool.and_eq_false_iff,Bool.not_eq_false',hasF_iff] at h7
 obtain⟨⟨a1,a2⟩,a3⟩:=h2
 obtain⟨⟨⟨b1,b2⟩,b3⟩,b4⟩:=h3
 obtain⟨⟨⟨c1,c2⟩,c3⟩,c4⟩:=h4
 refine⟨by omega,?_,?_,?_,?_,by omega,by omega,?_,?_,c3,c4,?_,?_,Decidable.not_not.1 (of_decide_eq_false h5.1),Decidable.not_not.1 (of_decide_eq_false h5.2),?_,?_,h7.2⟩
 ·intro e;rw [e] at a2;simp at a2
 ·intro e;rw [e] at a3;simp at a3
 ·exact fun r hr e=>a1 r hr (by simpa using e)
 ·exact fun r hr a ha=>by have:=b1 r hr a ha;omega
 ·have:=b4
  unfold sumTo at this
  rw [List.take_length] at this
  omega
 ·exact c1
 ·exact fun r hr=>(c2 r hr).1
 ·exact fun r hr a ha s hs=>by
   have:=(c2 r hr).2 a ha s hs
   unfold mayF
   rcases this with h|h<;>simp [h]
 ·exact fun r hr a ha hm=>by
   have:=h6 r hr a ha
   rw [hasF_iff.2 hm] at this;cases this
 ·exact fun r hr a ha s hs=>h7.1 r hr a ha s hs
theorem name_isW {t:List Nat} (h:nameF t=0):IsW t:=by
 have hw:wordF t=0:=by
  unfold nameF at h
  split at h
  ·omega
  ·exact h
 unfold wordF at hw
 split at hw
 ·cases hw
 ·rename_i hne
  split at hw
  ·cases hw
  ·rename_i hb
   cases t with
   |nil=>exact absurd rfl hne
   |cons c l =>
    have hall:∀ i,¬ badAt (c :: l) i:=fun i hi=>hb ⟨i,hi⟩
    refine⟨?_,fun d hd=>?_⟩
    ·cases hl:letterF (c:Nat) with
     |true=>exact hl
     |false=>exact absurd ⟨c,rfl,hl,.inl rfl⟩ (hall 0)
    ·obtain⟨i,hi,rfl⟩:=List.getElem_of_mem hd
     unfold wordI
     cases hl:letterF (l[i]:Nat) with
     |true=>rw [show letterI ((l[i]:Nat):Int)=true from hl];rfl
     |false =>
      cases hd2:digitF (l[i]:Nat) with
      |true=>rw [show digitI ((l[i]:Nat):Int)=true from hd2];simp
      |false =>
       by_cases h95:((l[i]:Nat):Int)=95
       ·simp [h95]
       ·exact absurd ⟨l[i],by simp [hi],hl,.inr ⟨hd2,h95⟩⟩ (hall (i+1))
theorem small_name {t:List Nat} (h:smallF t=true):nameF t=0:=by
 simp only [smallF,Bool.and_eq_true,decide_eq_true_eq] at h;exact h.1
theorem capital_name {t:List Nat} (h:capitalF t=true):nameF t=0:=by
 simp only [capitalF,Bool.and_eq_true,decide_eq_true_eq] at h;exact h.1
theorem small_cap2 {t:List Nat} (h:smallF t=true) (h2:capitalF t=true):False:=by
 simp only [smallF,capitalF,Bool.and_eq_true,decide_eq_true_eq] at h h2;omega
theorem may_name {t:List Nat} (h:mayF t=true):nameF t=0:=by
 unfold mayF at h
 rw [Bool.or_eq_true] at h
 exact h.elim small_name capital_name
theorem lexSound {x:Src} (h:SoundX x):LexR (printX x) (toksX x) :=
 lexPrint x h.k h.tok0 (fun s hs=>name_isW (small_name (h.tokS s hs))) (name_isW (small_name h.sepS)) (name_isW (capital_name h.startC))
  (fun r hr=>⟨name_isW (capital_name (h.rulC r hr)),fun a ha s hs=>name_isW (may_name (h.altM r hr a ha s hs))⟩)
section
variable {s:List Nat} {ls:List Lx}
theorem AT.look {r:RS} {k:Nat} {rest:List Tk} (h:AT ls r ((1,wLook) :: (2,[48+k]) :: (3,sSemi) :: rest)) (hk:1≤k∧k≤4):lookR s ls r={ r with pos:=r.pos+3,x:={ r.x with k:=(k:Nat) } }∧AT ls { r with pos:=r.pos+3 } rest:=by
 obtain⟨h1,h2⟩:=h.must (s:=s)
 obtain⟨a,h3,h4⟩:=h2.take (s:=s)
 have h4:AT ls { r with pos:=r.pos+2,x:={ r.x with k:=(k:Nat) } } ((3,sSemi) :: rest):=h4
 obtain⟨h5,h6⟩:=h4.must (s:=s)
 have hf:r.f.1=0:=by rw [h.1]
 have hn:numOk [48+k]=true:=by simp [numOk,decF];omega
 have hd:decF [48+k]=k:=by simp [decF]
 refine⟨?_,h6⟩
 unfold lookR
 simp only [h1,h3,hf,ne_eq,not_true_eq_false,and_false,if_false,if_true,hn,hd]
 exact h5
theorem knownL_id {r:RS}:∀ (l:List Lx),(∀ x ∈ l,x.k=1→chkU r.x x.t=0)→knownL l r=r
 |[],_=>rfl
 |x :: l,h=>by
  unfold knownL knownOneR
  rw [if_neg (by rintro⟨h1,h2⟩;exact h2 (h x List.mem_cons_self h1))]
  exact knownL_id l (fun y hy=>h y (List.mem_cons_of_mem _ hy))
theorem mem_altsT:∀ (b:Bool) (al:List (List (List Nat))) (t:List Nat),(1,t) ∈ altsT b al→∃ a ∈ al,t ∈ a
 |_,[],t,h=>by cases h
 |b,a :: al,t,h=>by
  simp only [altsT,List.mem_append,List.mem_map] at h
  rcases h with(h|⟨u,h1,h2⟩)|h
  ·cases b with
   |true=>cases h
   |false=>simp at h
  ·simp only [Prod.mk.injEq,true_and] at h2
   exact⟨a,List.mem_cons_self,h2 ▸ h1⟩
  ·obtain⟨c,h1,h2⟩:=mem_altsT false al t h
   exact⟨c,List.mem_cons_of_mem _ h1,h2⟩
theorem commaT_len:∀ l:List (List Nat),l.length≤(commaT l).length
 |[]=>Nat.le_refl _
 |u :: l=>by
  have:=commaT_len l
  show l.length+1≤((3,sComma) :: (1,u) :: commaT l).length
  simp only [List.length_cons];omega
theorem readPrint {x:Src} (h:SoundX x) (hls:ls.map kt=toksX x):resR (readR s ls)=(x,(0,0)):=by
 obtain⟨t,l,hl⟩:∃ t l,x.tokens=t :: l:=by cases e:x.tokens with|nil=>exact absurd e h.tok0|cons t l=>exact⟨t,l,rfl⟩
 have hk:=h.k
 have a0:AT ls ⟨0,(0,0),0,src0⟩ ((1,wLook) :: (2,[48+x.k.toNat]) :: (3,sSemi) :: (1,wToken) :: (1,t) :: (commaT l++(3,sSemi) :: (1,wSep) :: (1,x.sep) :: (3,sSemi) :: (1,wStart) :: (1,x.start) :: (3,sSemi) :: x.rules.flatMap ruleT)):=by
  refine⟨rfl,?_⟩
  show(ls.drop 0).map kt=_
  rw [List.drop_zero,hls]
  unfold toksX
  rw [hl]
  simp
 obtain⟨e1,a1⟩:=a0.look (s:=s) (by omega)
 have a1:=a1.x { src0 with k:=(x.k.toNat:Nat) }
 obtain⟨e2,a2⟩:=a1.must (s:=s)
 have hlen:=a2.len'
 have hcl:=commaT_len l
 simp only [List.length_cons,List.length_append] at hlen
 have hnd:=(List.nodup_append.1 h.nodT).1
 rw [hl] at hnd
 obtain⟨p,e3,a3⟩:=AT.tokens (s:=s) l (ls.length+1) _ t _ a2 (by omega) (by rw [← hl];exact h.tokS) (by simpa [src0] using hnd) (by simp only [src0,List.length_nil];rw [← hl];have:=h.tok8;omega)
 have a3:=a3.x { src0 with k:=(x.k.toNat:Nat),tokens:=x.tokens }
 obtain⟨e4,a4⟩:=a3.must (s:=s)
 obtain⟨e5,a5⟩:=a4.must (s:=s)
 obtain⟨b6,e6⟩:=a5.peek (s:=s)
 obtain⟨e7,a7⟩:=a5.name (s:=s) (cap:=false) h.sepS
 have a7:=a7.x { src0 with k:=(x.k.toNat:Nat),tokens:=x.tokens,sep:=x.sep }
 obtain⟨e8,a8⟩:=a7.must (s:=s)
 obtain⟨e9,a9⟩:=a8.must (s:=s)
 obtain⟨b10,e10⟩:=a9.peek (s:=s)
 obtain⟨e11,a11⟩:=a9.name (s:=s) (cap:=true) h.startC
 have a11:=a11.x { src0 with k:=(x.k.toNat:Nat),tokens:=x.tokens,sep:=x.sep,start:=x.start }
 obtain⟨e12,a12⟩:=a11.must (s:=s)
 have hsepT:x.sep ∉ x.tokens:=fun hm=>(List.nodup_append.1 h.nodT).2.2 _ hm x.sep (by simp) rfl
 have eH:headR s ls ⟨0,(0,0),0,src0⟩=(⟨1,x.start,b10⟩,{ pos:=p+1+1+1+1+1+1+1,f:=(0,0),alts:=0,x:={ src0 with k:=(x.k.toNat:Nat),tokens:=x.tokens,sep:=x.sep,start:=x.start } }):=by
  unfold headR
  rw [e1]
  simp only at e2 e3 e4 e5 e6 e7 e8 e9 e10 e11 e12 ⊢
  rw [e2,e3]
  simp only [src0,List.nil_append,← hl] at e2 e3 e4 e5 e6 e7 e8 e9 e10 e11 e12 ⊢
  rw [e4]
  unfold sepR
  rw [e5]
  simp only [e6,e7,newR,has_false hsepT,Bool.false_eq_true,if_false]
  rw [e8]
  unfold startR
  rw [e9]
  simp only [e10,e11]
  rw [e12]
 obtain⟨q,aa,e13⟩:=AT.rules (s:=s) x.rules (ls.length+2) true _ a12 (fun _=>h.rul0) (by
   have:=a12.len'
   have hr:x.rules.length≤(x.rules.flatMap ruleT).length:=by
    generalize x.rules=rl
    induction rl with
    |nil=>simp
    |cons u l ih=>rw [List.flatMap_cons];simp only [ruleT,List.length_append,List.length_cons];omega
   omega) (fun u hu=>⟨h.rulC u hu,h.alt0 u hu,fun b hb=>⟨h.alt6 u hu b hb,h.altM u hu b hb⟩⟩) (by simpa [ruleNames,src0] using h.nodR) (by simp only [src0,List.length_nil];have:=h.rul8;omega) (by simp only;have:=h.sum;omega)
 have hx:(⟨(x.k.toNat:Nat),x.tokens,x.sep,x.start,x.rules⟩:Src)=x:=by
  obtain⟨k,tk,sp,st,rl⟩:=x
  simp only at hk ⊢
  rw [Int.toNat_of_nonneg (by omega)]
 unfold readR
 rw [eH]
 simp only [src0,List.nil_append] at e13 ⊢
 rw [hx] at e13
 rw [e13]
 simp only [if_true]
 have hstart:hasF (ruleNames x) x.start=true:=hasF_iff.2 h.start
 unfold knownR
 simp only [hstart,Bool.true_eq_false,if_false]
 rw [knownL_id]
 ·rfl
 ·intro y hy hy1
  have hm:kt y ∈ x.rules.flatMap ruleT:=by
   have:=a12.2
   simp only at this
   rw [← this]
   exact List.mem_map_of_mem hy
  obtain⟨r,hr,hm⟩:=List.mem_flatMap.1 hm
  have hm:(1,y.t) ∈ ruleT r:=by
   have e:kt y=(1,y.t):=by rw [← hy1]
   rw [← e];exact hm
  simp only [ruleT,List.mem_cons,List.mem_append,List.not_mem_nil,or_false,Prod.mk.injEq,true_and] at hm
  unfold chkU
  rcases hm with hm|hm|hm|hm
  ·have h1:¬ y.t=x.sep:=fun e=>small_cap2 h.sepS (by rw [← e,hm];exact h.rulC r hr)
   have h2:hasF (ruleNames x) y.t=true:=hasF_iff.2 (by rw [hm];exact List.mem_map_of_mem hr)
   rw [if_neg h1,h2];rfl
  ·exact absurd hm.1 (by decide)
  ·obtain⟨a,ha,hta⟩:=mem_altsT _ _ _ hm
   have h1:¬ y.t=x.sep:=fun e=>h.noSep r hr a ha (e ▸ hta)
   rw [if_neg h1]
   rcases h.known r hr a ha _ hta with h2|h2
   ·rw [hasF_iff.2 h2];rfl
   ·rw [if_neg (by rintro⟨_,h3⟩;rw [hasF_iff.2 h2] at h3;cases h3)]
  ·exact absurd hm.1 (by decide)
theorem roundX {x:Src} (h:checkX x=0) (hl:(printX x).length≤2000):∃ ls:List Lx,lexemesF (printX x)=(ls.map encL,0,0)∧∀ s,resR (readR s ls)=(x,(0,0)):=by
 have hs:=soundX h
 obtain⟨ls,h1,h2⟩:=lexR_lexes (lexSound hs) (printX x) ((printX x).length+1) 0 [] rfl (Nat.zero_le _) (Nat.le_refl _)
 refine⟨ls,?_,fun s=>readPrint hs h2⟩
 unfold lexemesF
 rw [if_neg (by omega),h1]
 simp
end
end Go.Av
end
noncomputable section
namespace Go.Av
open Go Go.Proofs
theorem ofSound {x:Src} (h:SoundX x):checkX x=0:=by
 unfold checkX
 rw [if_neg (by have:=h.k;omega)]
 have h2:shortX x=false:=by
  simp only [shortX,Bool.or_eq_false_iff,List.any_eq_false,Bool.not_eq_true]
  refine⟨⟨fun r hr=>?_,?_⟩,?_⟩
  ·have:=h.alt0 r hr
   cases e:r.alts with|nil=>exact absurd e this|cons a l=>rfl
  ·cases e:x.tokens with|nil=>exact absurd e h.tok0|cons a l=>rfl
  ·cases e:x.rules with|nil=>exact absurd e h.rul0|cons a l=>rfl
 have h3:fullX x=false:=by
  simp only [fullX,Bool.or_eq_false_iff,List.any_eq_false,decide_eq_false_iff_not,longA,decide_eq_true_eq,List.any_eq_true,not_exists,not_and]
  refine⟨⟨⟨fun r hr a ha=>by have:=h.alt6 r hr a ha;omega,by have:=h.tok8;omega⟩,by have:=h.rul8;omega⟩,?_⟩
  unfold sumTo
  rw [List.take_length]
  have:=h.sum;omega
 have h4:misX x=false:=by
  simp only [misX,Bool.or_eq_false_iff,List.any_eq_false,misR,noName]
  refine⟨⟨⟨fun t ht=>by simp [h.tokS t ht],fun r hr=>?_⟩,by simp [h.sepS]⟩,by simp [h.startC]⟩
  simp only [h.rulC r hr,Bool.not_true,Bool.false_or,List.any_eq_true,not_exists,not_and]
  intro a ha t ht
  have:=h.altM r hr a ha t ht
  unfold mayF at this
  cases h1:smallF t<;>cases h2:capitalF t<;>simp_all [noName]
 have h5:twoX x=false:=by
  simp only [twoX,Bool.or_eq_false_iff,smallsX]
  exact⟨decide_eq_false (not_not_intro h.nodT),decide_eq_false (not_not_intro h.nodR)⟩
 have h6:usesX x x.sep=false:=by
  simp only [usesX,usesR,List.any_eq_false,List.any_eq_true,not_exists,not_and]
  intro r hr a ha e
  exact h.noSep r hr a ha (hasF_iff.1 e)
 have h7:unkX x=false:=by
  simp only [unkX,unkR,unkS,Bool.or_eq_false_iff,List.any_eq_false,List.any_eq_true,not_exists,not_and,Bool.not_eq_false']
  refine⟨fun r hr a ha t ht e=>?_,hasF_iff.2 h.start⟩
  simp only [Bool.and_eq_true,Bool.not_eq_true'] at e
  rcases h.known r hr a ha t ht with h1|h1
  ·rw [hasF_iff.2 h1] at e;cases e.1
  ·rw [hasF_iff.2 h1] at e;cases e.2
 rw [h2,h3,h4,h5,h6,h7];rfl
section
variable {s:List Nat}
theorem wordP_full {may:List Nat→Bool} {p:PS} {x:Lx} {q:PS} (h:wordP s may p=.ok (x,q)):may x.t=true∧q={ p with l:=q.l }:=by
 unfold wordP at h
 obtain⟨⟨y,p1⟩,h1,h⟩:=bind_ok h
 simp only at h
 split at h
 ·cases h
 ·split at h
  ·rename_i hm
   simp only [Except.ok.injEq,Prod.mk.injEq] at h
   obtain⟨rfl,rfl⟩:=h
   exact⟨hm,(nextP_x h1).1⟩
  ·cases h
theorem termP_full {sep:Bool} {p v:PS} {t:List Nat} (h:terminalP s sep p=.ok (t,v)):smallF t=true∧(knowP p.names t).1=false∧(knowP p.names t).2.1=false∧v={ p with l:=v.l,names:=setP p.names t (!sep,sep,false) }:=by
 unfold terminalP at h
 obtain⟨⟨y,p1⟩,h1,h⟩:=bind_ok h
 obtain⟨w1,w2⟩:=wordP_full h1
 simp only at h
 split at h
 ·cases h
 ·rename_i hk
  split at h
  ·cases h
  ·simp only [Except.ok.injEq,Prod.mk.injEq] at h
   obtain⟨rfl,rfl⟩:=h
   have hn:p1.names=p.names:=by rw [w2]
   rw [hn] at hk
   simp only [not_or,Bool.not_eq_true] at hk
   refine⟨w1,hk.1,hk.2,?_⟩
   conv=>lhs;rw [w2]
theorem wantP_e {k:Nat} {t:List Nat} {p q:PS} (h:wantP s k t p=.ok q):q={ p with l:=q.l }:=(wantP_x h).1
structure H1 (p:PS):Prop where
 know:∀ t,knowP p.names t=(hasF p.x.tokens t,false,false)
 small:∀ t ∈ p.x.tokens,smallF t=true
 nod:p.x.tokens.Nodup
 rules:p.x.rules=[]
 uses:p.uses=[]
 total:p.total=0
theorem H1.cut {p q:PS} (h:H1 p) (e:q={ p with l:=q.l }):H1 q∧q.x=p.x:=by
 rw [e];exact⟨⟨h.know,h.small,h.nod,h.rules,h.uses,h.total⟩,rfl⟩
theorem look_k {p q:PS} (h:H1 p) (e:lookP s p=.ok q):H1 q∧1≤q.x.k∧q.x.k≤4:=by
 unfold lookP at e
 obtain⟨p1,h1,e⟩:=bind_ok e
 obtain⟨⟨x,p2⟩,h2,e⟩:=bind_ok e
 have j1:=(h.cut (wantP_e h1)).1
 have j2:=(j1.cut (nextP_x h2).1).1
 simp only at e
 split at e
 ·cases e
 ·split at e
  ·rename_i hn
   have j3:H1 { p2 with x:={ p2.x with k:=(decF x.t:Nat) } }:=⟨j2.know,j2.small,j2.nod,j2.rules,j2.uses,j2.total⟩
   obtain⟨j4,j5⟩:=j3.cut (wantP_e e)
   simp only [numOk,decide_eq_true_eq] at hn
   refine⟨j4,?_⟩
   rw [j5];simp only;omega
  ·cases e
theorem token_H {p q:PS} (h:H1 p) (e:tokenP s p=.ok q):H1 q∧q.x.tokens≠[]∧q.x.k=p.x.k:=by
 obtain⟨t,v,h1,rfl⟩:=tokenP_x e
 obtain⟨t1,t2,t3,t4⟩:=termP_full h1
 have hx:v.x=p.x:=by rw [t4]
 have hn:v.names=setP p.names t (!false,false,false):=by rw [t4]
 have ht:t ∉ p.x.tokens:=fun hm=>by
  rw [h.know] at t2
  simp only at t2
  rw [hasF_iff.2 hm] at t2;cases t2
 refine⟨⟨fun u=>?_,fun u hu=>?_,?_,?_,?_,?_⟩,by simp,by simp only [hx]⟩
 ·simp only [hn,knowP_set,hx,hasF_snoc,h.know]
  by_cases hu:u=t
  ·subst hu;simp
  ·have:¬ t=u:=fun e=>hu e.symm
   simp [hu,this]
 ·simp only [hx,List.mem_append,List.mem_singleton] at hu
  rcases hu with hu|rfl
  ·exact h.small u hu
  ·exact t1
 ·simp only [hx]
  rw [List.nodup_append]
  exact⟨h.nod,by simp,fun a ha b hb e=>ht (by rw [List.mem_singleton.1 hb] at e;exact e ▸ ha)⟩
 ·simp only [hx];exact h.rules
 ·rw [t4];exact h.uses
 ·rw [t4];exact h.total
theorem tokensL_H:∀ (n:Nat) {p q:PS},H1 p→p.x.tokens≠[]→tokensLP s n p=.ok q→H1 q∧q.x.tokens≠[]∧q.x.k=p.x.k
 |0,p,q,h,h0,e=>by simp only [tokensLP,Except.ok.injEq] at e;rw [← e];exact⟨h,h0,rfl⟩
 |n+1,p,q,h,h0,e=>by
  unfold tokensLP at e
  split at e
  ·obtain⟨⟨x,p1⟩,h1,e⟩:=bind_ok e
   obtain⟨p2,h2,e⟩:=bind_ok e
   obtain⟨j1,j2⟩:=h.cut (nextP_x h1).1
   obtain⟨k1,k2,k3⟩:=token_H j1 h2
   obtain⟨l1,l2,l3⟩:=tokensL_H n k1 k2 e
   exact⟨l1,l2,by rw [l3,k3,j2]⟩
  ·simp only [Except.ok.injEq] at e;rw [← e];exact⟨h,h0,rfl⟩
theorem tokens_H {p q:PS} (h:H1 p) (e:tokensP s p=.ok q):H1 q∧q.x.tokens≠[]∧q.x.k=p.x.k:=by
 unfold tokensP at e
 obtain⟨p1,h1,e⟩:=bind_ok e
 obtain⟨p2,h2,e⟩:=bind_ok e
 obtain⟨p3,h3,e⟩:=bind_ok e
 obtain⟨j1,j2⟩:=h.cut (wantP_e h1)
 obtain⟨k1,k2,k3⟩:=token_H j1 h2
 obtain⟨l1,l2,l3⟩:=tokensL_H _ k1 k2 h3
 obtain⟨m1,m2⟩:=l1.cut (wantP_e e)
 exact⟨m1,by rw [m2];exact l2,by rw [m2,l3,k3,j2]⟩
structure H2 (p:PS):Prop where
 know:∀ t,knowP p.names t=(hasF p.x.tokens t,decide (t=p.x.sep),hasF (ruleNames p.x) t)
 k:1≤p.x.k∧p.x.k≤4
 tok0:p.x.tokens≠[]
 tokS:∀ t ∈ p.x.tokens,smallF t=true
 sepS:smallF p.x.sep=true
 nodT:(p.x.tokens++[p.x.sep]).Nodup
 nodR:(ruleNames p.x).Nodup
 rulC:∀ r ∈ p.x.rules,capitalF r.name=true
 alt0:∀ r ∈ p.x.rules,r.alts≠[]
 alt6:∀ r ∈ p.x.rules,∀ a ∈ r.alts,a.length≤6
 altM:∀ r ∈ p.x.rules,∀ a ∈ r.alts,∀ t ∈ a,mayF t=true
 uses:∀ r ∈ p.x.rules,∀ a ∈ r.alts,∀ t ∈ a,t ∈ p.uses.tail.map (·.1)
 total:p.total=(p.x.rules.map (·.alts.length)).sum
theorem H2.cut {p q:PS} (h:H2 p) (e:q={ p with l:=q.l }):H2 q:=by
 rw [e];exact⟨h.know,h.k,h.tok0,h.tokS,h.sepS,h.nodT,h.nodR,h.rulC,h.alt0,h.alt6,h.altM,h.uses,h.total⟩
theorem sep_H {p q:PS} (h:H1 p) (h0:p.x.tokens≠[]) (hk:1≤p.x.k∧p.x.k≤4) (e:sepQ s p=.ok q):H2 q∧q.uses=[]∧q.x.rules=[]:=by
 unfold sepQ at e
 obtain⟨p1,h1,e⟩:=bind_ok e
 obtain⟨⟨t,v⟩,h2,e⟩:=bind_ok e
 obtain⟨j1,jx⟩:=h.cut (wantP_e h1)
 obtain⟨t1,t2,t3,t4⟩:=termP_full h2
 simp only at e t4
 have e':=wantP_e e
 have hx:v.x=p.x:=by rw [t4];exact jx
 have hn:v.names=setP p1.names t (!true,true,false):=by rw [t4]
 have hu:v.uses=[]:=by rw [t4];exact j1.uses
 have htt:v.total=0:=by rw [t4];exact j1.total
 have hr:=h.rules
 have ht:t ∉ p.x.tokens:=fun hm=>by
  rw [j1.know,jx] at t2
  simp only at t2
  rw [hasF_iff.2 hm] at t2;cases t2
 rw [e']
 refine⟨⟨fun u=>?_,?_,?_,?_,t1,?_,?_,?_,?_,?_,?_,?_,?_⟩,hu,?_⟩
 ·simp only [hn,knowP_set,hx,j1.know,jx,ruleNames,hr,List.map_nil]
  by_cases hut:u=t
  ·subst hut
   have:hasF p.x.tokens u=false:=has_false ht
   simp only [this]
   simp [hasF]
  ·simp [hut,hasF]
 ·simp only [hx];exact hk
 ·simp only [hx];exact h0
 ·simp only [hx];exact h.small
 ·simp only [hx]
  rw [List.nodup_append]
  exact⟨h.nod,by simp,fun a ha b hb e=>ht (by rw [List.mem_singleton.1 hb] at e;exact e ▸ ha)⟩
 all_goals simp [hx,hr,ruleNames,htt]
theorem start_H {p q:PS} (h:H2 p) (hu:p.uses=[]) (hr:p.x.rules=[]) (e:startP s p=.ok q):H2 q∧capitalF q.x.start=true∧(∃ a,q.uses=[(q.x.start,a)])∧q.x.rules=[]:=by
 unfold startP at e
 obtain⟨p1,h1,e⟩:=bind_ok e
 obtain⟨⟨x,p2⟩,h2,e⟩:=bind_ok e
 have j1:=h.cut (wantP_e h1)
 obtain⟨w1,w2⟩:=wordP_full h2
 have j2:=j1.cut w2
 simp only at e
 have e':=wantP_e e
 have h1':=wantP_e h1
 have ux:p2.uses=[]:=by rw [w2];simp only;rw [h1'];exact hu
 have xx:p2.x=p.x:=by rw [w2];simp only;rw [h1']
 rw [e']
 refine⟨⟨j2.know,j2.k,j2.tok0,j2.tokS,j2.sepS,j2.nodT,j2.nodR,j2.rulC,j2.alt0,j2.alt6,j2.altM,fun r hr'=>?_,j2.total⟩,w1,⟨x.a,by simp [ux]⟩,by simp only;rw [xx];exact hr⟩
 simp only at hr'
 rw [xx,hr] at hr';cases hr'
theorem altQ_H:∀ (n:Nat) (acc:List (List Nat)) {p:PS} {v:List (List Nat) × PS},altQ s n acc p=.ok v→(acc.length≤6→v.1.length≤6)∧((∀ t ∈ acc,mayF t=true)→∀ t ∈ v.1,mayF t=true)∧(∃ U,v.2.uses=p.uses++U∧∀ t ∈ v.1,t ∈ acc∨t ∈ U.map (·.1))∧v.2={ p with l:=v.2.l,uses:=v.2.uses }
 |0,acc,p,v,h=>by simp only [altQ,Except.ok.injEq] at h;rw [← h];exact⟨id,id,⟨[],by simp,fun t ht=>.inl ht⟩,rfl⟩
 |n+1,acc,p,v,h=>by
  unfold altQ at h
  cases hl:p.l with
  |nil=>rw [hl] at h;simp only [Except.ok.injEq] at h;rw [← h];exact⟨id,id,⟨[],by simp,fun t ht=>.inl ht⟩,rfl⟩
  |cons x l =>
   rw [hl] at h
   simp only at h
   split at h
   ·obtain⟨⟨y,q⟩,h1,h⟩:=bind_ok h
    obtain⟨w1,w2⟩:=wordP_full h1
    simp only at h
    split at h
    ·cases h
    ·rename_i h6
     obtain⟨i1,i2,⟨U,i3,i4⟩,i5⟩:=altQ_H n _ h
     refine⟨fun ha=>i1 (by simp;omega),fun ha=>i2 (fun t ht=>?_),⟨(y.t,y.a) :: U,?_,fun t ht=>?_⟩,?_⟩
     ·rcases List.mem_append.1 ht with ht|ht
      ·exact ha t ht
      ·rw [List.mem_singleton.1 ht];exact w1
     ·rw [i3];simp only;rw [show q.uses=p.uses by rw [w2]];simp
     ·rcases i4 t ht with ht|ht
      ·rcases List.mem_append.1 ht with ht|ht
       ·exact .inl ht
       ·rw [List.mem_singleton.1 ht];exact .inr (by simp)
      ·exact .inr (by simp only [List.map_cons,List.mem_cons];exact .inr ht)
     ·conv=>lhs;rw [i5]
      conv=>lhs;rw [w2]
   ·simp only [Except.ok.injEq] at h;rw [← h];exact⟨id,id,⟨[],by simp,fun t ht=>.inl ht⟩,rfl⟩
theorem altsP_H:∀ (n:Nat) (b:Bool) (acc:List (List (List Nat))) {p:PS} {v:List (List (List Nat)) × PS},p.l.length<n→altsP s n b acc p=.ok v→(b=true∨acc≠[])→(∀ a ∈ acc,a.length≤6∧∀ t ∈ a,mayF t=true) →
  v.1≠[]∧(∀ a ∈ v.1,a.length≤6∧∀ t ∈ a,mayF t=true)∧(∃ U,v.2.uses=p.uses++U∧∀ a ∈ v.1,a ∈ acc∨∀ t ∈ a,t ∈ U.map (·.1))∧v.2={ p with l:=v.2.l,uses:=v.2.uses,total:=v.2.total }∧v.2.total+acc.length=p.total+v.1.length
 |0,b,acc,p,v,hn,h,_,_=>by omega
 |n+1,b,acc,p,v,hn,h,h0,ha=>by
  unfold altsP at h
  split at h
  ·rename_i hc
   simp only [Except.ok.injEq] at h
   rw [← h]
   refine⟨?_,ha,⟨[],by simp,fun a ha=>.inl ha⟩,rfl,rfl⟩
   rcases h0 with h0|h0
   ·rw [h0] at hc;cases hc.1
   ·exact h0
  ·obtain⟨⟨x,p1⟩,h1,h⟩:=bind_ok h
   obtain⟨n1,n2⟩:=nextP_x h1
   simp only at h
   by_cases hsg:x.k=3∧x.t=(if b=true then sEq else sBar)
   ·rw [if_pos hsg] at h
    by_cases h24:p1.total=24
    ·rw [if_pos h24] at h;cases h
    ·rw [if_neg h24] at h
     obtain⟨⟨w,p2⟩,h2,h⟩:=bind_ok h
     obtain⟨a1,a2,⟨U,a3,a4⟩,a5⟩:=altQ_H _ _ h2
     obtain⟨_,_,_,_,x5,_⟩:=altQ_x _ _ h2
     simp only at a1 a2 a3 a4 a5 h x5
     have hlen:p.l.length=p1.l.length+1:=by rw [n2];rfl
     obtain⟨b1,b2,⟨V,b3,b4⟩,b5,b6⟩:=altsP_H n false (acc++[w]) (p:=p2) (by omega) h (.inr (by simp)) (fun a hm=>by
      rcases List.mem_append.1 hm with hm|hm
      ·exact ha a hm
      ·rw [List.mem_singleton.1 hm];exact⟨a1 (by simp),a2 (fun t ht=>by cases ht)⟩)
     have hpu:p1.uses=p.uses:=by rw [n1]
     have hpt:p1.total=p.total:=by rw [n1]
     have hp2:p2.total=p1.total+1:=by rw [a5]
     refine⟨b1,b2,⟨U++V,by rw [b3,a3,hpu];simp,fun a hm=>?_⟩,?_,?_⟩
     ·rcases b4 a hm with hm|hm
      ·rcases List.mem_append.1 hm with hm|hm
       ·exact .inl hm
       ·right
        rw [List.mem_singleton.1 hm]
        intro t ht
        rcases a4 t ht with h9|h9
        ·cases h9
        ·simp only [List.map_append,List.mem_append];exact .inl h9
      ·right;intro t ht;simp only [List.map_append,List.mem_append];exact .inr (hm t ht)
     ·conv=>lhs;rw [b5]
      conv=>lhs;rw [a5]
      conv=>lhs;rw [n1]
     ·simp only [List.length_append,List.length_cons,List.length_nil] at b6
      omega
   ·rw [if_neg hsg] at h;cases h
theorem rule_H {p q:PS} (h:H2 p) (hu:p.uses≠[]) (e:ruleQ s p=.ok q):H2 q∧q.uses.head?=p.uses.head?∧q.x.start=p.x.start∧q.x.rules≠[]:=by
 unfold ruleQ at e
 obtain⟨⟨x,p1⟩,h1,e⟩:=bind_ok e
 obtain⟨w1,w2⟩:=wordP_full h1
 simp only at e
 split at e
 ·cases e
 ·rename_i hk
  split at e
  ·cases e
  ·obtain⟨v,h2,e⟩:=bind_ok e
   obtain⟨p3,h3,e⟩:=bind_ok e
   have hx:p1.x=p.x:=by rw [w2]
   have hn:p1.names=p.names:=by rw [w2]
   have huu:p1.uses=p.uses:=by rw [w2]
   have htt:p1.total=p.total:=by rw [w2]
   obtain⟨b1,b2,⟨V,b3,b4⟩,b5,b6⟩:=altsP_H _ _ _ (p:={ p1 with names:=setP p1.names x.t (false,false,true) }) (Nat.lt_succ_self _) h2 (.inl rfl) (fun a ha=>by cases ha)
   simp only at b3 b5 b6
   have e3:=wantP_e h3
   have x3:p3.x=p.x:=by rw [e3];simp only;rw [b5];exact hx
   have n3:p3.names=setP p.names x.t (false,false,true):=by rw [e3];simp only;rw [b5];simp only;rw [hn]
   have u3:p3.uses=p.uses++V:=by rw [e3];simp only;rw [b3,huu]
   have t3:p3.total=p.total+v.1.length:=by rw [e3];simp only;simp only [List.length_nil] at b6;omega
   simp only [Except.ok.injEq] at e
   rw [hn,h.know] at hk
   simp only [Bool.not_eq_true] at hk
   have hnr:x.t ∉ ruleNames p.x:=fun hm=>by rw [hasF_iff.2 hm] at hk;cases hk
   have hnt:x.t ∉ p.x.tokens:=fun hm=>small_cap2 (h.tokS _ hm) w1
   have hns:¬ x.t=p.x.sep:=fun he=>small_cap2 h.sepS (he ▸ w1)
   obtain⟨u0,ul,hul⟩:∃ u0 ul,p.uses=u0 :: ul:=by cases e:p.uses with|nil=>exact absurd e hu|cons u l=>exact⟨u,l,rfl⟩
   rw [← e]
   refine⟨⟨fun t=>?_,?_,?_,?_,?_,?_,?_,?_,?_,?_,?_,?_,?_⟩,?_,?_,by simp⟩
   ·simp only [n3,knowP_set,x3,h.know,ruleNames,List.map_append,List.map_cons,List.map_nil,hasF_snoc]
    by_cases hut:t=x.t
    ·subst hut
     have:hasF p.x.tokens x.t=false:=has_false hnt
     simp [this,hns]
    ·have:¬ x.t=t:=fun e=>hut e.symm
     simp [hut,this]
   ·simp only [x3];exact h.k
   ·simp only [x3];exact h.tok0
   ·simp only [x3];exact h.tokS
   ·simp only [x3];exact h.sepS
   ·simp only [x3];exact h.nodT
   ·simp only [x3,ruleNames,List.map_append,List.map_cons,List.map_nil]
    rw [List.nodup_append]
    exact⟨h.nodR,by simp,fun a ha b hb e=>hnr (by rw [List.mem_singleton.1 hb] at e;exact e ▸ ha)⟩
   ·intro r hr
    simp only [x3,List.mem_append,List.mem_singleton] at hr
    rcases hr with hr|rfl
    ·exact h.rulC r hr
    ·exact w1
   ·intro r hr
    simp only [x3,List.mem_append,List.mem_singleton] at hr
    rcases hr with hr|rfl
    ·exact h.alt0 r hr
    ·exact b1
   ·intro r hr
    simp only [x3,List.mem_append,List.mem_singleton] at hr
    rcases hr with hr|rfl
    ·exact h.alt6 r hr
    ·exact fun a ha=>(b2 a ha).1
   ·intro r hr
    simp only [x3,List.mem_append,List.mem_singleton] at hr
    rcases hr with hr|rfl
    ·exact h.altM r hr
    ·exact fun a ha=>(b2 a ha).2
   ·intro r hr a ha t ht
    simp only [x3,List.mem_append,List.mem_singleton] at hr
    have hold:=fun h1 h2=>h.uses r h1 a h2 t ht
    simp only [u3,hul,List.cons_append,List.tail_cons,List.map_append,List.mem_append] at hold ⊢
    rcases hr with hr|rfl
    ·exact .inl (hold hr ha)
    ·rcases b4 a ha with h9|h9
     ·cases h9
     ·exact .inr (h9 t ht)
   ·simp only [t3,x3,List.map_append,List.map_cons,List.map_nil,List.sum_append,List.sum_cons,List.sum_nil,h.total];omega
   ·simp only [u3,hul];rfl
   ·simp only [x3]
theorem rulesL_H:∀ (n:Nat) (b:Bool) {p q:PS},H2 p→p.uses≠[]→(b=true∧0<n∨p.x.rules≠[])→rulesP s n b p=.ok q→H2 q∧q.uses.head?=p.uses.head?∧q.x.start=p.x.start∧q.x.rules≠[]
 |0,b,p,q,h,hu,h0,e=>by
  simp only [rulesP,Except.ok.injEq] at e
  rw [← e]
  exact⟨h,rfl,rfl,by rcases h0 with h0|h0;exact absurd h0.2 (by decide);exact h0⟩
 |n+1,b,p,q,h,hu,h0,e=>by
  unfold rulesP at e
  by_cases hc:b=true∨0<p.l.length
  ·rw [if_pos hc] at e
   obtain⟨p1,h1,e⟩:=bind_ok e
   obtain⟨j1,j2,j3,j4⟩:=rule_H h hu h1
   obtain⟨k1,k2,k3,k4⟩:=rulesL_H n false j1 (fun he=>by rw [he] at j2;cases hp:p.uses with|nil=>exact hu hp|cons a l=>rw [hp] at j2;cases j2) (.inr j4) e
   exact⟨k1,k2.trans j2,k3.trans j3,k4⟩
  ·rw [if_neg hc] at e
   simp only [Except.ok.injEq] at e
   rw [← e]
   exact⟨h,rfl,rfl,by rcases h0 with h0|h0;exact absurd (.inl h0.1) hc;exact h0⟩
theorem usedL_ok {nm:List (List Nat × Bool × Bool × Bool)}:∀ (b:Bool) (l:List (List Nat × Nat)),usedL nm b l=.ok ()→(∀ u l',l=u :: l'→chkP nm b u.1=0∧∀ w ∈ l',chkP nm false w.1=0)
 |_,[],_,u,l',h=>by cases h
 |b,u :: l,h,u',l',he=>by
  simp only [List.cons.injEq] at he
  obtain⟨rfl,rfl⟩:=he
  unfold usedL at h
  split at h
  ·cases h
  ·rename_i h0
   refine⟨Decidable.not_not.1 h0,fun w hw=>?_⟩
   cases l with
   |nil=>cases hw
   |cons v m =>
    obtain⟨i1,i2⟩:=usedL_ok false (v :: m) h v m rfl
    rcases List.mem_cons.1 hw with rfl|hw
    ·exact i1
    ·exact i2 w hw
theorem readSound {ls:List Lx} {q:PS} (e:readP s ls=.ok q):checkX q.x=0:=by
 have j0:JP ls ⟨ls,src0,[],[],0⟩:=⟨fun _ h=>h,Nat.le_refl _,by simp,by simp,by simp,by simp⟩
 have h0:H1 ⟨ls,src0,[],[],0⟩:=⟨(fun t=>rfl),(fun t ht=>(nomatch ht)),List.nodup_nil,rfl,rfl,rfl⟩
 unfold readP at e
 obtain⟨p1,e1,e⟩:=bind_ok e
 obtain⟨p2,e2,e⟩:=bind_ok e
 obtain⟨p3,e3,e⟩:=bind_ok e
 obtain⟨p4,e4,e⟩:=bind_ok e
 obtain⟨p5,e5,e⟩:=bind_ok e
 have j5:=JP.rulesL _ _ ((((j0.look e1).tokens e2).sep e3).start e4) e5
 obtain⟨a1,a2⟩:=look_k h0 e1
 obtain⟨b1,b2,b3⟩:=tokens_H a1 e2
 obtain⟨c1,c2,c3⟩:=sep_H b1 b2 (by rw [b3];exact a2) e3
 obtain⟨d1,d2,⟨a,d3⟩,d4⟩:=start_H c1 c2 c3 e4
 obtain⟨f1,f2,f3,f4⟩:=rulesL_H _ _ d1 (by rw [d3];simp) (.inl ⟨rfl,Nat.succ_pos _⟩) e5
 unfold usedP at e
 obtain⟨_,g1,e⟩:=bind_ok e
 simp only [Except.ok.injEq] at e
 subst e
 rw [d3] at f2
 obtain⟨ul,hul⟩:∃ ul,p5.uses=(p4.x.start,a) :: ul:=by
  cases hp:p5.uses with
  |nil=>rw [hp] at f2;cases f2
  |cons u l=>rw [hp] at f2;simp only [List.head?_cons,Option.some.injEq] at f2;exact⟨l,by rw [f2]⟩
 obtain⟨k1,k2⟩:=usedL_ok _ _ g1 _ _ hul
 have chk:∀ (b:Bool) (t:List Nat),chkP p5.names b t=0→¬ t=p5.x.sep∧(t ∈ ruleNames p5.x∨b=false∧t ∈ p5.x.tokens):=fun b t hc=>by
  unfold chkP at hc
  rw [f1.know] at hc
  simp only [decide_eq_true_eq] at hc
  split at hc
  ·cases hc
  ·rename_i hs
   refine⟨hs,?_⟩
   split at hc
   ·cases hc
   ·rename_i hr
    cases h1:hasF (ruleNames p5.x) t with
    |true=>exact .inl (hasF_iff.1 h1)
    |false =>
     rw [h1] at hr
     simp only [true_and,not_or,Bool.not_eq_true,Bool.not_eq_false] at hr
     exact .inr ⟨hr.1,hasF_iff.1 hr.2⟩
 have kn:∀ r ∈ p5.x.rules,∀ a ∈ r.alts,∀ t ∈ a,¬ t=p5.x.sep∧(t ∈ ruleNames p5.x∨t ∈ p5.x.tokens):=fun r hr a ha t ht=>by
  have hm:=f1.uses r hr a ha t ht
  rw [hul] at hm
  obtain⟨w,hw,rfl⟩:=List.mem_map.1 hm
  obtain⟨h1,h2⟩:=chk false w.1 (k2 w hw)
  exact⟨h1,h2.imp id And.right⟩
 have st:=(chk true p4.x.start k1).2
 refine ofSound ⟨f1.k,f1.tok0,f4,f1.alt0,f1.alt6,j5.toks,j5.rules,by rw [← f1.total];exact j5.total,f1.tokS,f1.sepS,by rw [f3];exact d2,f1.rulC,f1.altM,f1.nodT,f1.nodR,fun r hr a ha hm=>(kn r hr a ha _ hm).1 rfl,fun r hr a ha t ht=>(kn r hr a ha t ht).2,?_⟩
 rw [f3]
 rcases st with h|h
 ·exact h
 ·exact absurd h.1 (by decide)
end
end Go.Av
end
noncomputable section
namespace Go.Av
open Go Go.Proofs
def FineE {α:Type} (N:Nat) (Q:α→Prop):Except Fa α→Prop
 |.ok a=>Q a
 |.error e=>e.1≠0∧e.2≤N
theorem FineE.bind {α β:Type} {N:Nat} {Q:α→Prop} {R:β→Prop} {x:Except Fa α} {f:α→Except Fa β} (h:FineE N Q x) (hf:∀ a,Q a→FineE N R (f a)):FineE N R (x.bind f):=by
 cases x with
 |error e=>exact h
 |ok a=>exact hf a h
def PosOK (N:Nat) (p:PS):Prop:=(∀ x ∈ p.l,x.a≤N)∧∀ u ∈ p.uses,u.2≤N
section
variable {s:List Nat} {N:Nat} (hN:s.length≤N)
include hN
theorem nextE {p:PS} (h:PosOK N p):FineE N (fun q=>q.1.a≤N∧PosOK N q.2) (nextP s p):=by
 unfold nextP
 cases hl:p.l with
 |nil=>exact⟨by simp,hN⟩
 |cons x l=>exact⟨h.1 x (by rw [hl];simp),fun y hy=>h.1 y (by rw [hl];exact List.mem_cons_of_mem _ hy),h.2⟩
theorem wantE {k:Nat} {t:List Nat} {p:PS} (h:PosOK N p):FineE N (PosOK N) (wantP s k t p) :=
 (nextE hN h).bind fun q hq=>by
  split
  ·exact hq.2
  ·exact⟨by simp,hq.1⟩
theorem wordE {may:List Nat→Bool} {p:PS} (h:PosOK N p):FineE N (fun q=>q.1.a≤N∧PosOK N q.2) (wordP s may p) :=
 (nextE hN h).bind fun q hq=>by
  split
  ·exact⟨by simp,hq.1⟩
  ·split
   ·exact hq
   ·exact⟨by simp,hq.1⟩
theorem termE {sep:Bool} {p:PS} (h:PosOK N p):FineE N (fun q=>PosOK N q.2) (terminalP s sep p) :=
 (wordE hN h).bind fun q hq=>by
  split
  ·exact⟨by simp,hq.1⟩
  ·split
   ·exact⟨by simp,hq.1⟩
   ·exact hq.2
theorem lookE {p:PS} (h:PosOK N p):FineE N (PosOK N) (lookP s p) :=
 (wantE hN h).bind fun p1 h1=>(nextE hN h1).bind fun q hq=>by
  split
  ·exact⟨by simp,hq.1⟩
  ·split
   ·exact wantE hN hq.2
   ·exact⟨by simp,hq.1⟩
theorem tokenE {p:PS} (h:PosOK N p):FineE N (PosOK N) (tokenP s p):=(termE hN h).bind fun _ hq=>hq
theorem tokensLE:∀ (n:Nat) {p:PS},PosOK N p→FineE N (PosOK N) (tokensLP s n p)
 |0,_,h=>h
 |n+1,p,h=>by
  unfold tokensLP
  split
  ·exact(nextE hN h).bind fun q hq=>(tokenE hN hq.2).bind fun p2 h2=>tokensLE n h2
  ·exact h
theorem tokensE {p:PS} (h:PosOK N p):FineE N (PosOK N) (tokensP s p) :=
 (wantE hN h).bind fun _ h1=>(tokenE hN h1).bind fun _ h2=>(tokensLE hN _ h2).bind fun _ h3=>wantE hN h3
theorem sepE {p:PS} (h:PosOK N p):FineE N (PosOK N) (sepQ s p) :=
 (wantE hN h).bind fun _ h1=>(termE hN h1).bind fun q hq=>wantE hN (p:={ q.2 with x:={ q.2.x with sep:=q.1 } }) hq
theorem use_more {p:PS} {t:List Nat} {a:Nat} (h:PosOK N p) (ha:a≤N):∀ u ∈ p.uses++[(t,a)],u.2≤N:=fun u hu=>by
 rcases List.mem_append.1 hu with hu|hu
 ·exact h.2 u hu
 ·rw [List.mem_singleton.1 hu];exact ha
theorem startE {p:PS} (h:PosOK N p):FineE N (PosOK N) (startP s p) :=
 (wantE hN h).bind fun _ h1=>(wordE hN h1).bind fun q hq=>wantE hN (p:={ q.2 with x:={ q.2.x with start:=q.1.t },uses:=q.2.uses++[(q.1.t,q.1.a)] }) ⟨hq.2.1,use_more hN hq.2 hq.1⟩
theorem altE:∀ (n:Nat) (acc:List (List Nat)) {p:PS},PosOK N p→FineE N (fun v=>PosOK N v.2) (altQ s n acc p)
 |0,_,_,h=>h
 |n+1,acc,p,h=>by
  unfold altQ
  cases p.l with
  |nil=>exact h
  |cons x l =>
   simp only
   split
   ·refine(wordE hN h).bind fun q hq=>?_
    split
    ·exact⟨by simp,hq.1⟩
    ·exact altE n _ ⟨hq.2.1,use_more hN hq.2 hq.1⟩
   ·exact h
theorem altsE:∀ (n:Nat) (b:Bool) (acc:List (List (List Nat))) {p:PS},PosOK N p→FineE N (fun v=>PosOK N v.2) (altsP s n b acc p)
 |0,_,_,_,h=>h
 |n+1,b,acc,p,h=>by
  unfold altsP
  split
  ·exact h
  ·refine(nextE hN h).bind fun q hq=>?_
   by_cases hsg:q.1.k=3∧q.1.t=(if b=true then sEq else sBar)
   ·rw [if_pos hsg]
    split
    ·exact⟨by simp,hq.1⟩
    ·exact(altE hN _ _ (p:={ q.2 with total:=q.2.total+1 }) hq.2).bind fun v hv=>altsE n false _ hv
   ·rw [if_neg hsg]
    exact⟨by simp,hq.1⟩
theorem ruleE {p:PS} (h:PosOK N p):FineE N (PosOK N) (ruleQ s p) :=
 (wordE hN h).bind fun q hq=>by
  split
  ·exact⟨by simp,hq.1⟩
  ·split
   ·exact⟨by simp,hq.1⟩
   ·exact(altsE hN _ _ _ (p:={ q.2 with names:=setP q.2.names q.1.t (false,false,true) }) hq.2).bind fun v hv=>(wantE hN hv).bind fun p3 h3=>h3
theorem rulesE:∀ (n:Nat) (b:Bool) {p:PS},PosOK N p→FineE N (PosOK N) (rulesP s n b p)
 |0,_,_,h=>h
 |n+1,b,p,h=>by
  unfold rulesP
  split
  ·exact(ruleE hN h).bind fun p1 h1=>rulesE n false h1
  ·exact h
omit hN in
theorem usedE {nm:List (List Nat × Bool × Bool × Bool)}:∀ (b:Bool) (l:List (List Nat × Nat)),(∀ u ∈ l,u.2≤N)→FineE N (fun _=>True) (usedL nm b l)
 |_,[],_=>trivial
 |b,u :: l,h=>by
  unfold usedL
  split
  ·rename_i h0
   exact⟨h0,h u List.mem_cons_self⟩
  ·exact usedE false l (fun w hw=>h w (List.mem_cons_of_mem _ hw))
theorem readE {ls:List Lx} (hl:∀ x ∈ ls,x.a≤N):FineE N (fun _=>True) (readP s ls) :=
 (lookE hN (p:=⟨ls,src0,[],[],0⟩) ⟨hl,fun u hu=>by cases hu⟩).bind fun _ h1=>(tokensE hN h1).bind fun _ h2=>(sepE hN h2).bind fun _ h3=>(startE hN h3).bind fun _ h4=>(rulesE hN _ _ h4).bind fun p5 h5 =>
  FineE.bind (Q:=fun _=>True) (usedE true p5.uses h5.2) fun _ _=>trivial
end
theorem lexesF_at (s:List Nat):∀ (n a:Nat) (acc:List Lx),a≤s.length→s.length+1≤n+a→(∀ x ∈ acc,x.a≤s.length) →
  (∃ ls:List Lx,lexesF s n a (acc.map encL)=(ls.map encL,0,0)∧∀ x ∈ ls,x.a≤s.length)∨∃ e q,lexesF s n a (acc.map encL)=([],e,q)∧e≠0∧q≤s.length
 |0,a,acc,h1,h3,h4=>by omega
 |n+1,a,acc,h1,h3,h4=>by
  have hle:=atF4_le h1
  have hge:a≤atF4 s a:=Nat.le_add_right _ _
  unfold lexesF
  by_cases hp:atF4 s a=s.length
  ·rw [if_pos hp]
   exact .inl ⟨acc,rfl,h4⟩
  ·rw [if_neg hp]
   by_cases hk:(beginsF (s.drop (atF4 s a))).1=0
   ·rw [if_pos hk]
    exact .inr ⟨3,_,rfl,by decide,hle⟩
   ·rw [if_neg hk]
    obtain⟨c,hc⟩:=get_ok (show atF4 s a<s.length by omega)
    have hd:=drop_cons hc
    have hbl:=beginsF_len (s.drop (atF4 s a))
    rw [List.length_drop] at hbl
    have hb1:1≤(beginsF (s.drop (atF4 s a))).2.length:=by rw [hd] at hk ⊢;exact beginsF_pos hk
    have:=lexesF_at s n (atF4 s a+(beginsF (s.drop (atF4 s a))).2.length) (acc++[⟨(beginsF (s.drop (atF4 s a))).1,(beginsF (s.drop (atF4 s a))).2,atF4 s a⟩]) (by omega) (by omega) (fun x hx=>by
     rcases List.mem_append.1 hx with hx|hx
     ·exact h4 x hx
     ·rw [List.mem_singleton.1 hx];exact hle)
    rw [List.map_append] at this
    exact this
end Go.Av
end
noncomputable section
namespace Go.Av
open Go Go.Proofs
set_option maxRecDepth 10000
set_option maxHeartbeats 4000000 in
theorem usedC (s:List Nat) (p:PS) (hb:PB p):ACall Try.prog 20 [.bp 0 0] (pO s p) (endR (usedP p)) (endG s (usedP p)):=by
 have hu:p.uses.length≤200000:=by have:=hb.uses;omega
 obtain⟨R,hR⟩:∃ R,R=usedP p:=⟨_,rfl⟩
 have hR':R=(usedL p.names true p.uses).bind fun _=>.ok p:=hR
 rw [← hR]
 refine acallU (fnAt Try.func20 (by kernel_rfl) (by kernel_rfl):FnAt _ _ (mkFn Try.f20 [])) rfl rfl ?_
 repeat' (first|refine Yg ?_|refine Yq ?_|(refine oB (frz:=[]) Yo ?_ ?_<;>intro h<;>first|(exfalso;simp at h;first|done|omega)|skip)|(refine eB ?_ ?_<;>intro h<;>first|(exfalso;simp at h;first|done|omega)|skip)|refine oX (frz:=[]) Yo ?_|refine oS ?_|refine Yn ?_|refine Yk ?_|refine cT ?_|refine cF ?_|refine Yb ?_|refine Ye ?_|refine Yd (frz:=[]) Yo (by kernel_rfl) ?_|refine eX ?_|refine eS ?_|refine eN ?_|(refine Yt ?_;(first|refine rB ?_|refine rI ?_|refine rA ?_|refine rII ?_|refine rSI ?_|refine rT ?_|refine rS ?_);first|done|(skip))|((exfalso;(simp at h<;>omega)))|fail)
 refine Run.loopT (fun i:Nat=>⟨PT.ofList [(0,.bp 0 0),(8,.sr 4 2 (p.uses.map encU)),(9,.d (.int .i64 (p.uses.map encU).length)),(10,.d (.int .i64 (i:Nat)))],pO s p,[]⟩)
  (fun i=>i≤p.uses.length∧R=(usedL p.names (decide (i=0)) (p.uses.drop i)).bind fun _=>.ok p) (fun i=>p.uses.length-i) 0 ⟨Nat.zero_le _,hR'⟩ (tidy_of (objs:=_) _ 5 (by rfl) rfl (by repeat' (first|exact trivial|refine⟨(Or.inl rfl),?_⟩|refine⟨(Or.inr rfl),?_⟩|fail)) (by repeat' (first|exact trivial|refine⟨rfl,?_⟩|fail)) rfl rfl) (fun i hi=>?_)
 obtain⟨h1,h2⟩:=hi
 rcases Nat.lt_or_ge i p.uses.length with hlt|hge
 ·obtain⟨u,hux⟩:=get_ok hlt
  have hd:p.uses.drop i=u :: p.uses.drop (i+1):=by
   obtain⟨g1,g2⟩:=List.getElem?_eq_some_iff.1 hux
   rw [List.drop_eq_getElem_cons g1,g2]
  obtain⟨t,a0⟩:=u
  rw [hd,usedL] at h2
  obtain⟨kk,eK⟩:∃ kk,kk=knowP p.names t:=⟨_,rfl⟩
  have hch:chkP p.names (decide (i=0)) t=if kk.2.1=true then 14 else if kk.2.2=false∧(decide (i=0)=true∨kk.1=false) then 7 else 0:=by rw [eK];rfl
  simp only at h2
  rw [hch] at h2
  have hinc:AV.d (.int .i64 (IntKind.i64.wrap ((i:Int)+1)))=.d (.int .i64 ((i+1:Nat):Int)):=vN8 (by omega) (by omega)
  have hi0:AV.d (.bool (((i:Nat):Int) == 0))=.d (.bool (decide (i=0))):=by
   congr 2
   by_cases e:i=0
   ·subst e;rfl
   ·have:¬ ((i:Nat):Int)=0:=by omega
    simp [e]
  obtain⟨ba,bb,bc⟩:=kk
  have fin:∀ s1:S,R=(usedL p.names false (p.uses.drop (i+1))).bind (fun _=>.ok p)→Tidy 5 s1 ⟨PT.ofList [(0,.bp 0 0),(8,.sr 4 2 (p.uses.map encU)),(9,.d (.int .i64 (p.uses.map encU).length)),(10,.d (.int .i64 ((i+1:Nat):Int)))],pO s p,[]⟩ →
    ∃ x:Nat,(x≤p.uses.length∧R=(usedL p.names (decide (x=0)) (p.uses.drop x)).bind fun _=>.ok p)∧p.uses.length-x<p.uses.length-i∧Tidy 5 s1 ⟨PT.ofList [(0,.bp 0 0),(8,.sr 4 2 (p.uses.map encU)),(9,.d (.int .i64 (p.uses.map encU).length)),(10,.d (.int .i64 (x:Nat)))],pO s p,[]⟩:=fun s1 hr ht =>
   ⟨i+1,⟨hlt,by rw [hr];simp⟩,by omega,ht⟩
  cases bb with
  |true =>
   simp only [if_true] at h2
   rw [if_pos (by simp)] at h2
   simp only [Except.bind] at h2
   subst h2
   have cf:=failP s p 14 a0
   repeat' (first|refine Yg ?_|refine Yq ?_|(refine oB (frz:=[]) Yo ?_ ?_<;>intro h<;>first|(exfalso;simp at h;first|done|omega)|skip)|(refine eB ?_ ?_<;>intro h<;>first|(exfalso;simp at h;first|done|omega)|skip)|refine oX (frz:=[]) Yo ?_|refine oS ?_|refine Yn ?_|refine Yk ?_|refine cT ?_|refine cF ?_|refine Yb ?_|refine Ye ?_|refine Yd (frz:=[]) Yo (by kernel_rfl) ?_|refine eX ?_|refine eS ?_|refine eN ?_|refine oX (frz:=[]) (v:=.d (.ep [.str t,.int .i64 (a0:Nat)])) Yo ?_ (hf:=(by first|(simp [inB]<;>fail)|(simp [inB];omega))) (he:=(by first|(simp [List.getD_eq_getElem?_getD,cellsD,hux]<;>fail)|fail))|refine eX (v:=.d (.ep [.str t,.int .i64 (a0:Nat)])) ?_ (hf:=(by first|(simp [inB]<;>fail)|(simp [inB];omega))) (he:=(by first|(simp [List.getD_eq_getElem?_getD,cellsD,hux]<;>fail)|fail))|refine eX ?_ (hv:=(evAny_know p.names t).trans (by rw [← eK]))|refine oFP (cf) ?_|(refine Yt ?_;(first|refine rB ?_|refine rI ?_|refine rA ?_|refine rII ?_|refine rSI ?_|refine rT ?_|refine rS ?_);first|done|(skip))|(exact⟨rfl,rfl,(by repeat' (first|exact trivial|refine⟨.refl,?_⟩|refine⟨.gone,?_⟩|refine⟨.box (by repeat' (first|exact trivial|refine⟨.inr rfl,?_⟩|refine⟨.inl rfl,?_⟩)),?_⟩))⟩)|((exfalso;(simp at h<;>omega)))|fail)
  |false =>
   simp only [Bool.false_eq_true,if_false] at h2
   cases bc with
   |true =>
    simp only [Bool.true_eq_false,false_and,if_false,ne_eq,not_true] at h2
    repeat' (first|refine oX (frz:=[]) (v:=.d (.int .i64 ((i+1:Nat):Int))) Yo ?_ (he:=(hinc))|refine eX (v:=.d (.int .i64 ((i+1:Nat):Int))) ?_ (he:=(hinc))|refine Yg ?_|refine Yq ?_|(refine oB (frz:=[]) Yo ?_ ?_<;>intro h<;>first|(exfalso;simp at h;first|done|omega)|skip)|(refine eB ?_ ?_<;>intro h<;>first|(exfalso;simp at h;first|done|omega)|skip)|refine oX (frz:=[]) Yo ?_|refine oS ?_|refine Yn ?_|refine Yk ?_|refine cT ?_|refine cF ?_|refine Yb ?_|refine Ye ?_|refine Yd (frz:=[]) Yo (by kernel_rfl) ?_|refine eX ?_|refine eS ?_|refine eN ?_|refine oX (frz:=[]) (v:=.d (.ep [.str t,.int .i64 (a0:Nat)])) Yo ?_ (hf:=(by first|(simp [inB]<;>fail)|(simp [inB];omega))) (he:=(by first|(simp [List.getD_eq_getElem?_getD,cellsD,hux]<;>fail)|fail))|refine eX (v:=.d (.ep [.str t,.int .i64 (a0:Nat)])) ?_ (hf:=(by first|(simp [inB]<;>fail)|(simp [inB];omega))) (he:=(by first|(simp [List.getD_eq_getElem?_getD,cellsD,hux]<;>fail)|fail))|refine eX ?_ (hv:=(evAny_know p.names t).trans (by rw [← eK]))|(refine Yt ?_;(first|refine rB ?_|refine rI ?_|refine rA ?_|refine rII ?_|refine rSI ?_|refine rT ?_|refine rS ?_);first|done|(skip))|(exact fin _ h2 (tidy_of (objs:=_) _ 5 (by rfl) rfl (by repeat' (first|exact trivial|refine⟨(Or.inl rfl),?_⟩|refine⟨(Or.inr rfl),?_⟩|fail)) (by repeat' (first|exact trivial|refine⟨rfl,?_⟩|fail)) rfl rfl))|((exfalso;(simp at h<;>omega)))|fail)
   |false =>
    have cf:=failP s p 7 a0
    by_cases e:i=0
    ·have hd0:decide (i=0)=true:=decide_eq_true e
     rw [hd0] at h2 hi0
     simp only [true_or,and_self,if_true] at h2
     rw [if_pos (by simp)] at h2
     simp only [Except.bind] at h2
     subst h2
     repeat' (first|refine oX (frz:=[]) (v:=.d (.bool true)) Yo ?_ (he:=(hi0))|refine eX (v:=.d (.bool true)) ?_ (he:=(hi0))|refine Yg ?_|refine Yq ?_|(refine oB (frz:=[]) Yo ?_ ?_<;>intro h<;>first|(exfalso;simp at h;first|done|omega)|skip)|(refine eB ?_ ?_<;>intro h<;>first|(exfalso;simp at h;first|done|omega)|skip)|refine oX (frz:=[]) Yo ?_|refine oS ?_|refine Yn ?_|refine Yk ?_|refine cT ?_|refine cF ?_|refine Yb ?_|refine Ye ?_|refine Yd (frz:=[]) Yo (by kernel_rfl) ?_|refine eX ?_|refine eS ?_|refine eN ?_|refine oX (frz:=[]) (v:=.d (.ep [.str t,.int .i64 (a0:Nat)])) Yo ?_ (hf:=(by first|(simp [inB]<;>fail)|(simp [inB];omega))) (he:=(by first|(simp [List.getD_eq_getElem?_getD,cellsD,hux]<;>fail)|fail))|refine eX (v:=.d (.ep [.str t,.int .i64 (a0:Nat)])) ?_ (hf:=(by first|(simp [inB]<;>fail)|(simp [inB];omega))) (he:=(by first|(simp [List.getD_eq_getElem?_getD,cellsD,hux]<;>fail)|fail))|refine eX ?_ (hv:=(evAny_know p.names t).trans (by rw [← eK]))|refine oFP (cf) ?_|(refine Yt ?_;(first|refine rB ?_|refine rI ?_|refine rA ?_|refine rII ?_|refine rSI ?_|refine rT ?_|refine rS ?_);first|done|(skip))|(exact⟨rfl,rfl,(by repeat' (first|exact trivial|refine⟨.refl,?_⟩|refine⟨.gone,?_⟩|refine⟨.box (by repeat' (first|exact trivial|refine⟨.inr rfl,?_⟩|refine⟨.inl rfl,?_⟩)),?_⟩))⟩)|((exfalso;(simp at h<;>omega)))|fail)
    ·have hd0:decide (i=0)=false:=decide_eq_false e
     rw [hd0] at h2 hi0
     cases ba with
     |true =>
      simp only [Bool.false_eq_true,Bool.true_eq_false,or_self,and_false,if_false,ne_eq,not_true] at h2
      repeat' (first|refine oX (frz:=[]) (v:=.d (.bool false)) Yo ?_ (he:=(hi0))|refine eX (v:=.d (.bool false)) ?_ (he:=(hi0))|refine oX (frz:=[]) (v:=.d (.int .i64 ((i+1:Nat):Int))) Yo ?_ (he:=(hinc))|refine eX (v:=.d (.int .i64 ((i+1:Nat):Int))) ?_ (he:=(hinc))|refine Yg ?_|refine Yq ?_|(refine oB (frz:=[]) Yo ?_ ?_<;>intro h<;>first|(exfalso;simp at h;first|done|omega)|skip)|(refine eB ?_ ?_<;>intro h<;>first|(exfalso;simp at h;first|done|omega)|skip)|refine oX (frz:=[]) Yo ?_|refine oS ?_|refine Yn ?_|refine Yk ?_|refine cT ?_|refine cF ?_|refine Yb ?_|refine Ye ?_|refine Yd (frz:=[]) Yo (by kernel_rfl) ?_|refine eX ?_|refine eS ?_|refine eN ?_|refine oX (frz:=[]) (v:=.d (.ep [.str t,.int .i64 (a0:Nat)])) Yo ?_ (hf:=(by first|(simp [inB]<;>fail)|(simp [inB];omega))) (he:=(by first|(simp [List.getD_eq_getElem?_getD,cellsD,hux]<;>fail)|fail))|refine eX (v:=.d (.ep [.str t,.int .i64 (a0:Nat)])) ?_ (hf:=(by first|(simp [inB]<;>fail)|(simp [inB];omega))) (he:=(by first|(simp [List.getD_eq_getElem?_getD,cellsD,hux]<;>fail)|fail))|refine eX ?_ (hv:=(evAny_know p.names t).trans (by rw [← eK]))|(refine Yt ?_;(first|refine rB ?_|refine rI ?_|refine rA ?_|refine rII ?_|refine rSI ?_|refine rT ?_|refine rS ?_);first|done|(skip))|(exact fin _ h2 (tidy_of (objs:=_) _ 5 (by rfl) rfl (by repeat' (first|exact trivial|refine⟨(Or.inl rfl),?_⟩|refine⟨(Or.inr rfl),?_⟩|fail)) (by repeat' (first|exact trivial|refine⟨rfl,?_⟩|fail)) rfl rfl))|((exfalso;(simp at h<;>omega)))|fail)
     |false =>
      simp only [Bool.false_eq_true,false_or,and_self,if_true] at h2
      rw [if_pos (by simp)] at h2
      simp only [Except.bind] at h2
      subst h2
      repeat' (first|refine oX (frz:=[]) (v:=.d (.bool false)) Yo ?_ (he:=(hi0))|refine eX (v:=.d (.bool false)) ?_ (he:=(hi0))|refine Yg ?_|refine Yq ?_|(refine oB (frz:=[]) Yo ?_ ?_<;>intro h<;>first|(exfalso;simp at h;first|done|omega)|skip)|(refine eB ?_ ?_<;>intro h<;>first|(exfalso;simp at h;first|done|omega)|skip)|refine oX (frz:=[]) Yo ?_|refine oS ?_|refine Yn ?_|refine Yk ?_|refine cT ?_|refine cF ?_|refine Yb ?_|refine Ye ?_|refine Yd (frz:=[]) Yo (by kernel_rfl) ?_|refine eX ?_|refine eS ?_|refine eN ?_|refine oX (frz:=[]) (v:=.d (.ep [.str t,.int .i64 (a0:Nat)])) Yo ?_ (hf:=(by first|(simp [inB]<;>fail)|(simp [inB];omega))) (he:=(by first|(simp [List.getD_eq_getElem?_getD,cellsD,hux]<;>fail)|fail))|refine eX (v:=.d (.ep [.str t,.int .i64 (a0:Nat)])) ?_ (hf:=(by first|(simp [inB]<;>fail)|(simp [inB];omega))) (he:=(by first|(simp [List.getD_eq_getElem?_getD,cellsD,hux]<;>fail)|fail))|refine eX ?_ (hv:=(evAny_know p.names t).trans (by rw [← eK]))|refine oFP (cf) ?_|(refine Yt ?_;(first|refine rB ?_|refine rI ?_|refine rA ?_|refine rII ?_|refine rSI ?_|refine rT ?_|refine rS ?_);first|done|(skip))|(exact⟨rfl,rfl,(by repeat' (first|exact trivial|refine⟨.refl,?_⟩|refine⟨.gone,?_⟩|refine⟨.box (by repeat' (first|exact trivial|refine⟨.inr rfl,?_⟩|refine⟨.inl rfl,?_⟩)),?_⟩))⟩)|((exfalso;(simp at h<;>omega)))|fail)
 ·have hie:i=p.uses.length:=by omega
  subst hie
  rw [List.drop_length,usedL] at h2
  simp only [Except.bind] at h2
  subst h2
  repeat' (first|refine Yg ?_|refine Yq ?_|(refine oB (frz:=[]) Yo ?_ ?_<;>intro h<;>first|(exfalso;simp at h;first|done|omega)|skip)|(refine eB ?_ ?_<;>intro h<;>first|(exfalso;simp at h;first|done|omega)|skip)|refine oX (frz:=[]) Yo ?_|refine oS ?_|refine Yn ?_|refine Yk ?_|refine cT ?_|refine cF ?_|refine Yb ?_|refine Ye ?_|refine Yd (frz:=[]) Yo (by kernel_rfl) ?_|refine eX ?_|refine eS ?_|refine eN ?_|(refine Yt ?_;(first|refine rB ?_|refine rI ?_|refine rA ?_|refine rII ?_|refine rSI ?_|refine rT ?_|refine rS ?_);first|done|(skip))|(((first|refine Yt ?_|skip);exact⟨trivial,_,_,rfl,rfl,.refl,(by repeat' (first|exact trivial|refine⟨.refl,?_⟩|refine⟨.gone,?_⟩|refine⟨.box (by repeat' (first|exact trivial|refine⟨.inr rfl,?_⟩|refine⟨.inl rfl,?_⟩)),?_⟩))⟩))|((exfalso;(simp at h<;>omega)))|fail)
end Go.Av
end
noncomputable section
namespace Go.Av
open Go Go.Proofs
theorem lexesF_ls (s:List Nat):∀ (n a:Nat) (acc:List Lx),a≤s.length→acc.length≤a→s.length+1≤n+a→(∀ x ∈ acc,x.t.length≤s.length∧(x.k=2→NumT x.t)) →
  (∃ ls:List Lx,lexesF s n a (acc.map encL)=(ls.map encL,0,0)∧ls.length≤s.length∧∀ x ∈ ls,x.t.length≤s.length∧(x.k=2→NumT x.t))∨∃ e q,lexesF s n a (acc.map encL)=([],e,q)∧e≠0
 |0,a,acc,h1,h2,h3,h4=>by omega
 |n+1,a,acc,h1,h2,h3,h4=>by
  have hle:=atF4_le h1
  have hge:a≤atF4 s a:=Nat.le_add_right _ _
  unfold lexesF
  by_cases hp:atF4 s a=s.length
  ·rw [if_pos hp]
   exact .inl ⟨acc,rfl,by omega,h4⟩
  ·rw [if_neg hp]
   by_cases hk:(beginsF (s.drop (atF4 s a))).1=0
   ·rw [if_pos hk]
    exact .inr ⟨3,_,rfl,by decide⟩
   ·rw [if_neg hk]
    obtain⟨c,hc⟩:=get_ok (show atF4 s a<s.length by omega)
    have hd:=drop_cons hc
    have hbl:=beginsF_len (s.drop (atF4 s a))
    rw [List.length_drop] at hbl
    have hb1:1≤(beginsF (s.drop (atF4 s a))).2.length:=by rw [hd] at hk ⊢;exact beginsF_pos hk
    have hn:(beginsF (s.drop (atF4 s a))).1=2→NumT (beginsF (s.drop (atF4 s a))).2:=fun h=>by
     rw [hd] at h ⊢
     exact beginsF_num (c:=c) (l:=s.drop (atF4 s a+1)) (Prod.ext h rfl)
    have:=lexesF_ls s n (atF4 s a+(beginsF (s.drop (atF4 s a))).2.length) (acc++[⟨(beginsF (s.drop (atF4 s a))).1,(beginsF (s.drop (atF4 s a))).2,atF4 s a⟩]) (by omega) (by simp;omega) (by omega) (fun x hx=>by
     rcases List.mem_append.1 hx with hx|hx
     ·exact h4 x hx
     ·rw [List.mem_singleton.1 hx]
      exact⟨by simp only;omega,hn⟩)
    rw [List.map_append] at this
    exact this
theorem lexemesF_ls (s:List Nat) (hl:s.length≤1048576) :
  (∃ ls:List Lx,lexemesF s=(ls.map encL,0,0)∧LsB ls∧NumL ls)∨∃ e q,lexemesF s=([],e,q)∧e≠0:=by
 unfold lexemesF
 by_cases h2:2000<s.length
 ·rw [if_pos h2];exact .inr ⟨4,2000,rfl,by decide⟩
 ·rw [if_neg h2]
  rcases lexesF_ls s (s.length+1) 0 [] (Nat.zero_le _) (Nat.le_refl _) (Nat.le_refl _) (fun x hx=>by cases hx) with⟨ls,h3,h4,h5⟩|h
  ·exact .inl ⟨ls,h3,⟨by omega,fun x hx=>by have:=(h5 x hx).1;omega⟩,fun x hx=>(h5 x hx).2⟩
  ·exact .inr h
end Go.Av
end
noncomputable section
namespace Go.Av
open Go Go.Proofs
set_option maxRecDepth 10000
set_option maxHeartbeats 4000000 in
theorem scanNumBad (s:List Nat) (p c:Nat) (hb:∀ c ∈ s,c<256) (hl:s.length≤1048576) (hp:p≤s.length) (hc:s[atF4 s p]?=some c) (hk:classI (c:Nat)=2)
  (hz:(c=48∧1<runL digitI (s.drop (atF4 s p)))∨clsAt s (atF4 s p+runL digitI (s.drop (atF4 s p)))=1∨clsAt s (atF4 s p+runL digitI (s.drop (atF4 s p)))=3) :
  ACall Try.prog 59 [.bp 0 0] [curO s p] (.tup [.d (lexD 0 [] 0),.d (faultD 3 (atF4 s p))]) (nextO s (atF4 s p+runL digitI (s.drop (atF4 s p))) 0 [] 0 3 (atF4 s p)):=by
 have cg:=scanGap bxs s p hb hl hp
 have hq:=atF4_le hp
 generalize atF4 s p=q at cg hc hq hz ⊢
 have hlt:=(List.getElem?_eq_some_iff.1 hc).1
 have cc:=curClass bxs s q hb hl hq
 rw [show clsAt s q=2 by simp only [clsAt,hc];exact hk] at cc
 have cw:=curDigits bxs s q hb hl hq
 have hr:=runL_le digitI (s.drop q)
 rw [List.length_drop] at hr
 generalize runL digitI (s.drop q)=n at cw hr hz ⊢
 have c2:=curClass bxs s (q+n) hb hl (by omega)
 generalize clsAt s (q+n)=k at c2 hz
 have hinc:AV.d (.int .i64 (IntKind.i64.wrap ((q:Int)+1)))=.d (.int .i64 ((q+1:Nat):Int)):=congrArg (fun x=>AV.d (.int .i64 x)) ((congrArg IntKind.i64.wrap (show(q:Int)+1=((q+1:Nat):Int) by omega)).trans (wrap_nat (by omega)))
 by_cases h48:c=48
 ·subst h48
  by_cases h1n:1<n
  ·refine acall_of_run Yo (fnAt Try.func59 (by kernel_rfl) (by kernel_rfl):FnAt _ _ (mkFn Try.f59 [33,40])) rfl rfl ?_
   repeat' (first|refine oX (frz:=[33,40]) (v:=.d (.int .i64 ((q+1:Nat):Int))) Yo ?_ (he:=(hinc))|refine eX (v:=.d (.int .i64 ((q+1:Nat):Int))) ?_ (he:=(hinc))|refine Yg ?_|refine Yq ?_|(refine oB (frz:=[33,40]) Yo ?_ ?_<;>intro h<;>first|(exfalso;simp at h;first|done|omega)|skip)|(refine eB ?_ ?_<;>intro h<;>first|(exfalso;simp at h;first|done|omega)|skip)|refine oX (frz:=[33,40]) Yo ?_|refine oS ?_|refine Yn ?_|refine Yk ?_|refine cT ?_|refine cF ?_|refine Yb ?_|refine Ye ?_|refine Yd (frz:=[33,40]) Yo (by kernel_rfl) ?_|refine eX ?_|refine eS ?_|refine eN ?_|refine oX (frz:=[33,40]) (v:=.d (.int .u8 ((48:Nat):Int))) Yo ?_ (hf:=by first|(simp [inB]<;>fail)|(simp [inB];omega)) (he:=by first|(simp [List.getD_eq_getElem?_getD,hc]<;>fail)|fail)|refine oA cg ?_|refine oA cc ?_|refine oA cw ?_|refine oA c2 ?_|(refine Yt ?_;(first|refine rB ?_|refine rI ?_|refine rA ?_|refine rII ?_|refine rSI ?_|refine rT ?_|refine rS ?_);first|done|(skip))|((refine Yt ?_;exact⟨trivial,rfl,rfl⟩))|((exfalso;(simp at h<;>omega)))|fail)
  ·have hz:k=1∨k=3:=by rcases hz with hz|hz;exact absurd hz.2 h1n;exact hz
   rcases hz with rfl|rfl
   ·refine acall_of_run Yo (fnAt Try.func59 (by kernel_rfl) (by kernel_rfl):FnAt _ _ (mkFn Try.f59 [33,40])) rfl rfl ?_
    repeat' (first|refine oX (frz:=[33,40]) (v:=.d (.int .i64 ((q+1:Nat):Int))) Yo ?_ (he:=(hinc))|refine eX (v:=.d (.int .i64 ((q+1:Nat):Int))) ?_ (he:=(hinc))|refine Yg ?_|refine Yq ?_|(refine oB (frz:=[33,40]) Yo ?_ ?_<;>intro h<;>first|(exfalso;simp at h;first|done|omega)|skip)|(refine eB ?_ ?_<;>intro h<;>first|(exfalso;simp at h;first|done|omega)|skip)|refine oX (frz:=[33,40]) Yo ?_|refine oS ?_|refine Yn ?_|refine Yk ?_|refine cT ?_|refine cF ?_|refine Yb ?_|refine Ye ?_|refine Yd (frz:=[33,40]) Yo (by kernel_rfl) ?_|refine eX ?_|refine eS ?_|refine eN ?_|refine oX (frz:=[33,40]) (v:=.d (.int .u8 ((48:Nat):Int))) Yo ?_ (hf:=by first|(simp [inB]<;>fail)|(simp [inB];omega)) (he:=by first|(simp [List.getD_eq_getElem?_getD,hc]<;>fail)|fail)|refine oA cg ?_|refine oA cc ?_|refine oA cw ?_|refine oA c2 ?_|(refine Yt ?_;(first|refine rB ?_|refine rI ?_|refine rA ?_|refine rII ?_|refine rSI ?_|refine rT ?_|refine rS ?_);first|done|(skip))|((refine Yt ?_;exact⟨trivial,rfl,rfl⟩))|((exfalso;(simp at h<;>omega)))|fail)
   ·refine acall_of_run Yo (fnAt Try.func59 (by kernel_rfl) (by kernel_rfl):FnAt _ _ (mkFn Try.f59 [33,40])) rfl rfl ?_
    repeat' (first|refine oX (frz:=[33,40]) (v:=.d (.int .i64 ((q+1:Nat):Int))) Yo ?_ (he:=(hinc))|refine eX (v:=.d (.int .i64 ((q+1:Nat):Int))) ?_ (he:=(hinc))|refine Yg ?_|refine Yq ?_|(refine oB (frz:=[33,40]) Yo ?_ ?_<;>intro h<;>first|(exfalso;simp at h;first|done|omega)|skip)|(refine eB ?_ ?_<;>intro h<;>first|(exfalso;simp at h;first|done|omega)|skip)|refine oX (frz:=[33,40]) Yo ?_|refine oS ?_|refine Yn ?_|refine Yk ?_|refine cT ?_|refine cF ?_|refine Yb ?_|refine Ye ?_|refine Yd (frz:=[33,40]) Yo (by kernel_rfl) ?_|refine eX ?_|refine eS ?_|refine eN ?_|refine oX (frz:=[33,40]) (v:=.d (.int .u8 ((48:Nat):Int))) Yo ?_ (hf:=by first|(simp [inB]<;>fail)|(simp [inB];omega)) (he:=by first|(simp [List.getD_eq_getElem?_getD,hc]<;>fail)|fail)|refine oA cg ?_|refine oA cc ?_|refine oA cw ?_|refine oA c2 ?_|(refine Yt ?_;(first|refine rB ?_|refine rI ?_|refine rA ?_|refine rII ?_|refine rSI ?_|refine rT ?_|refine rS ?_);first|done|(skip))|((refine Yt ?_;exact⟨trivial,rfl,rfl⟩))|((exfalso;(simp at h<;>omega)))|fail)
 ·have hz:k=1∨k=3:=by rcases hz with hz|hz;exact absurd hz.1 h48;exact hz
  rcases hz with rfl|rfl
  ·refine acall_of_run Yo (fnAt Try.func59 (by kernel_rfl) (by kernel_rfl):FnAt _ _ (mkFn Try.f59 [33,40])) rfl rfl ?_
   repeat' (first|refine oX (frz:=[33,40]) (v:=.d (.int .i64 ((q+1:Nat):Int))) Yo ?_ (he:=(hinc))|refine eX (v:=.d (.int .i64 ((q+1:Nat):Int))) ?_ (he:=(hinc))|refine Yg ?_|refine Yq ?_|(refine oB (frz:=[33,40]) Yo ?_ ?_<;>intro h<;>first|(exfalso;simp at h;first|done|omega)|skip)|(refine eB ?_ ?_<;>intro h<;>first|(exfalso;simp at h;first|done|omega)|skip)|refine oX (frz:=[33,40]) Yo ?_|refine oS ?_|refine Yn ?_|refine Yk ?_|refine cT ?_|refine cF ?_|refine Yb ?_|refine Ye ?_|refine Yd (frz:=[33,40]) Yo (by kernel_rfl) ?_|refine eX ?_|refine eS ?_|refine eN ?_|refine oX (frz:=[33,40]) (v:=.d (.int .u8 (c:Nat))) Yo ?_ (hf:=by first|(simp [inB]<;>fail)|(simp [inB];omega)) (he:=by first|(simp [List.getD_eq_getElem?_getD,hc]<;>fail)|fail)|refine oA cg ?_|refine oA cc ?_|refine oA cw ?_|refine oA c2 ?_|(refine Yt ?_;(first|refine rB ?_|refine rI ?_|refine rA ?_|refine rII ?_|refine rSI ?_|refine rT ?_|refine rS ?_);first|done|(skip))|((refine Yt ?_;exact⟨trivial,rfl,rfl⟩))|((exfalso;(simp at h<;>omega)))|fail)
  ·refine acall_of_run Yo (fnAt Try.func59 (by kernel_rfl) (by kernel_rfl):FnAt _ _ (mkFn Try.f59 [33,40])) rfl rfl ?_
   repeat' (first|refine oX (frz:=[33,40]) (v:=.d (.int .i64 ((q+1:Nat):Int))) Yo ?_ (he:=(hinc))|refine eX (v:=.d (.int .i64 ((q+1:Nat):Int))) ?_ (he:=(hinc))|refine Yg ?_|refine Yq ?_|(refine oB (frz:=[33,40]) Yo ?_ ?_<;>intro h<;>first|(exfalso;simp at h;first|done|omega)|skip)|(refine eB ?_ ?_<;>intro h<;>first|(exfalso;simp at h;first|done|omega)|skip)|refine oX (frz:=[33,40]) Yo ?_|refine oS ?_|refine Yn ?_|refine Yk ?_|refine cT ?_|refine cF ?_|refine Yb ?_|refine Ye ?_|refine Yd (frz:=[33,40]) Yo (by kernel_rfl) ?_|refine eX ?_|refine eS ?_|refine eN ?_|refine oX (frz:=[33,40]) (v:=.d (.int .u8 (c:Nat))) Yo ?_ (hf:=by first|(simp [inB]<;>fail)|(simp [inB];omega)) (he:=by first|(simp [List.getD_eq_getElem?_getD,hc]<;>fail)|fail)|refine oA cg ?_|refine oA cc ?_|refine oA cw ?_|refine oA c2 ?_|(refine Yt ?_;(first|refine rB ?_|refine rI ?_|refine rA ?_|refine rII ?_|refine rSI ?_|refine rT ?_|refine rS ?_);first|done|(skip))|((refine Yt ?_;exact⟨trivial,rfl,rfl⟩))|((exfalso;(simp at h<;>omega)))|fail)
theorem ACall.weak {P:Program} {f:FuncId} {args:List AV} {A O A':List Ob} {r:AV} (h:ACall P f args A r O) (hw:WkObs O A') (hl:A'.length=A.length) (hr:A'.all (refOb A'.length)=true) (hrr:refA 8 A'.length r=true):ACall P f args A r A':=by
 refine⟨h.1,fun D β w vs hp hv=>(h.2 D β w vs hp hv).mono fun e w' he=>?_⟩
 have hn:β.length≤A'.length:=by rw [hp.len,hl];exact Nat.le_refl _
 rcases he with⟨v,D',β',rfl,hs,hrep⟩|⟨y,v,D',β',rfl,rfl,hs,hrep⟩
 ·exact .inl ⟨v,D',_,rfl,hs.weak hw hn hr,repA_take 8 hrr hrep⟩
 ·exact .inr ⟨y,v,D',_,rfl,rfl,hs.weak hw hn hr,hrep⟩
theorem cut3 {s:List Nat} {q k:Nat} {t:List Nat} {a c d:Nat}:WkObs (nextO s q k t a c d) [curO s q]:=⟨.refl,trivial⟩
theorem class_iff {c:Nat} (h:c<256):(classI (c:Nat)=4 ↔ signI (c:Nat)=true)∧(classI (c:Nat)=1 ↔ letterI (c:Nat)=true)∧(classI (c:Nat)=2 ↔ digitI (c:Nat)=true)∧((classI (c:Nat)=1∨classI (c:Nat)=3) ↔ endI (c:Nat)=true):=by
 have h0:allTo (fun c=>((classI (c:Nat) == 4) == signI (c:Nat)) && ((classI (c:Nat) == 1) == letterI (c:Nat)) && ((classI (c:Nat) == 2) == digitI (c:Nat)) && (((classI (c:Nat) == 1) || (classI (c:Nat) == 3)) == endI (c:Nat))) 256=true:=by kernel_rfl
 have:=allTo_ok h0 c h
 simp only [Bool.and_eq_true,beq_iff_eq] at this
 obtain⟨⟨⟨h1,h2⟩,h3⟩,h4⟩:=this
 refine⟨by rw [← h1];simp,by rw [← h2];simp,by rw [← h3];simp,by rw [← h4];simp⟩
abbrev scanT (s:List Nat) (p:Nat):AV :=
 if atF4 s p=s.length then .tup [.d (lexD 0 [] 0),.d (faultD 5 s.length)]
 else if(beginsF (s.drop (atF4 s p))).1=0 then .tup [.d (lexD 0 [] 0),.d (faultD 3 (atF4 s p))]
 else .tup [.d (lexD (beginsF (s.drop (atF4 s p))).1 (beginsF (s.drop (atF4 s p))).2 (atF4 s p)),.d (faultD 0 0)]
theorem scanAll (s:List Nat) (p:Nat) (hb:∀ c ∈ s,c<256) (hl:s.length≤1048576) (hp:p≤s.length) :
  ∃ p',p'≤s.length∧((beginsF (s.drop (atF4 s p))).1≠0→p'=atF4 s p+(beginsF (s.drop (atF4 s p))).2.length)∧ACall Try.prog 59 [.bp 0 0] [curO s p] (scanT s p) [curO s p']:=by
 unfold scanT
 have hq:=atF4_le hp
 by_cases he:atF4 s p=s.length
 ·rw [if_pos he]
  refine⟨s.length,Nat.le_refl _,fun h=>?_,(scanEnd s p hb hl hp he).weak cut3 rfl rfl rfl⟩
  rw [he,List.drop_length] at h
  simp [beginsF] at h
 ·rw [if_neg he]
  obtain⟨c,hc⟩:=get_ok (show atF4 s p<s.length by omega)
  have hlt:atF4 s p<s.length:=by omega
  have hd:=drop_cons hc
  have hc256:=hb c (List.mem_of_getElem? hc)
  obtain⟨k4,k1,k2,_⟩:=class_iff hc256
  have sW:=scanWord s p c hb hl hp hc
  have sS:=scanSign s p c hb hl hp hc
  have sN:=scanNum s p c hb hl hp hc
  have sM:=scanNumBad s p c hb hl hp hc
  have sB:=scanBad s p c hb hl hp hc
  have rW:=runL_le wordI (s.drop (atF4 s p))
  have rD:=runL_le digitI (s.drop (atF4 s p))
  rw [List.length_drop] at rW rD
  have e:∀ l,beginsF (c :: l)=if signI c then(3,[c]) else if letterI c then(1,(c :: l).take (1+runL wordI l)) else if digitI c then
   (if(c=48∧1<1+runL digitI l)∨(∃ e,(c :: l)[1+runL digitI l]?=some e∧endI e=true) then(0,[]) else(2,(c :: l).take (1+runL digitI l))) else(0,[]):=fun _=>rfl
  by_cases h4:signI (c:Nat)=true
  ·have eB:beginsF (s.drop (atF4 s p))=(3,[c]):=by rw [hd,e,if_pos h4]
   rw [eB,if_neg (by simp)]
   exact⟨_,hlt,fun _=>rfl,(sS (k4.2 h4)).weak cut3 rfl rfl rfl⟩
  ·by_cases h1:letterI (c:Nat)=true
   ·have hw:wordI (c:Nat)=true:=by simp [wordI,h1]
    have eR:runL wordI (s.drop (atF4 s p))=1+runL wordI (s.drop (atF4 s p+1)):=by rw [hd,runL,if_pos hw]
    have eB:beginsF (s.drop (atF4 s p))=(1,(s.drop (atF4 s p)).take (runL wordI (s.drop (atF4 s p)))):=by
     rw [eR];conv=>lhs;rw [hd]
     rw [e,if_neg h4,if_pos h1,← hd]
    rw [eB,if_neg (by simp)]
    refine⟨_,?_,fun _=>?_,(sW (k1.2 h1)).weak cut3 rfl rfl rfl⟩
    ·omega
    ·simp only [List.length_take,List.length_drop];omega
   ·by_cases h2:digitI (c:Nat)=true
    ·have eR:runL digitI (s.drop (atF4 s p))=1+runL digitI (s.drop (atF4 s p+1)):=by rw [hd,runL,if_pos h2]
     have hcls:(∃ e,(s.drop (atF4 s p))[runL digitI (s.drop (atF4 s p))]?=some e∧endI e=true) ↔ (clsAt s (atF4 s p+runL digitI (s.drop (atF4 s p)))=1∨clsAt s (atF4 s p+runL digitI (s.drop (atF4 s p)))=3):=by
      rw [List.getElem?_drop]
      unfold clsAt
      cases hx:s[atF4 s p+runL digitI (s.drop (atF4 s p))]? with
      |none=>simp
      |some d =>
       have:=(class_iff (hb d (List.mem_of_getElem? hx))).2.2.2
       simp only [Option.some.injEq,exists_eq_left']
       exact this.symm
     have eB:beginsF (s.drop (atF4 s p))=if(c=48∧1<runL digitI (s.drop (atF4 s p)))∨(∃ e,(s.drop (atF4 s p))[runL digitI (s.drop (atF4 s p))]?=some e∧endI e=true) then(0,[]) else(2,(s.drop (atF4 s p)).take (runL digitI (s.drop (atF4 s p)))):=by
      rw [eR]
      conv=>lhs;rw [hd]
      rw [e,if_neg h4,if_neg h1,if_pos h2,← hd]
     by_cases hz:(c=48∧1<runL digitI (s.drop (atF4 s p)))∨(∃ e,(s.drop (atF4 s p))[runL digitI (s.drop (atF4 s p))]?=some e∧endI e=true)
     ·rw [if_pos hz] at eB
      rw [eB,if_pos rfl]
      exact⟨_,by omega,fun h=>absurd rfl h,(sM (k2.2 h2) (hz.imp id hcls.1)).weak cut3 rfl rfl rfl⟩
     ·rw [if_neg hz] at eB
      rw [eB,if_neg (by simp)]
      have hz2:=fun h=>hz (.inr (hcls.2 h))
      refine⟨_,?_,fun _=>?_,(sN (k2.2 h2) (fun h=>hz (.inl h)) (fun h=>hz2 (.inl h)) (fun h=>hz2 (.inr h))).weak cut3 rfl rfl rfl⟩
      ·omega
      ·simp only [List.length_take,List.length_drop];omega
    ·have eB:beginsF (s.drop (atF4 s p))=(0,[]):=by rw [hd,e,if_neg h4,if_neg h1,if_neg h2]
     rw [eB,if_pos rfl]
     exact⟨_,hq,fun h=>absurd rfl h,(sB (fun h=>h1 (k1.1 h)) (fun h=>h2 (k2.1 h)) (fun h=>h4 (k4.1 h))).weak cut3 rfl rfl rfl⟩
end Go.Av
end
noncomputable section
namespace Go.Av
open Go Go.Proofs
set_option maxRecDepth 10000
def lexesG (s:List Nat):Nat→Nat→List DV→List DV × Nat × Nat
 |0,_,acc=>(acc,5,s.length)
 |n+1,a,acc=>if atF4 s a=s.length then(acc,5,s.length) else if(beginsF (s.drop (atF4 s a))).1=0 then(acc,3,atF4 s a)
  else lexesG s n (atF4 s a+(beginsF (s.drop (atF4 s a))).2.length) (acc++[lexD (beginsF (s.drop (atF4 s a))).1 (beginsF (s.drop (atF4 s a))).2 (atF4 s a)])
abbrev endLx (r:List DV × Nat × Nat):List DV × Nat × Nat:=if r.2.1=5 then(r.1,0,0) else([],r.2)
theorem lexesG_F (s:List Nat):∀ (n a:Nat) (acc:List DV),a≤s.length→s.length+1≤n+a→endLx (lexesG s n a acc)=lexesF s n a acc∧((lexesG s n a acc).2.1=5∧(lexesG s n a acc).2.2=s.length∨(lexesG s n a acc).2.1=3)
 |0,a,acc,h1,h2=>by omega
 |n+1,a,acc,h1,h2=>by
  have hle:=atF4_le h1
  have hge:a≤atF4 s a:=Nat.le_add_right _ _
  unfold lexesG lexesF
  by_cases hp:atF4 s a=s.length
  ·rw [if_pos hp,if_pos hp];exact⟨rfl,.inl ⟨rfl,rfl⟩⟩
  ·rw [if_neg hp,if_neg hp]
   by_cases hk:(beginsF (s.drop (atF4 s a))).1=0
   ·rw [if_pos hk,if_pos hk];exact⟨rfl,.inr rfl⟩
   ·rw [if_neg hk,if_neg hk]
    obtain⟨c,hc⟩:=get_ok (show atF4 s a<s.length by omega)
    have hd:=drop_cons hc
    have hbl:=beginsF_len (s.drop (atF4 s a))
    rw [List.length_drop] at hbl
    have:1≤(beginsF (s.drop (atF4 s a))).2.length:=by rw [hd] at hk ⊢;exact beginsF_pos hk
    exact lexesG_F s n _ _ (by omega) (by omega)
abbrev eachF (s:List Nat):DV:=.fn (.func 58) [] [.ep [.str s]]
theorem eachC (s:List Nat):KnownCall Try.prog 39 [.str s] (.d (eachF s)):=by
 refine knownE Yo (fnAt Try.func39 (by kernel_rfl) (by kernel_rfl):FnAt _ _ (mkFn Try.f39 [1])) ?_
 repeat (first|refine oX (frz:=[1]) Yo ?_|refine oS ?_|refine Yn ?_|refine Yg ?_|refine Yq ?_|refine Yk ?_|refine Yb ?_|refine Ye ?_|refine Yd (frz:=[1]) Yo (by kernel_rfl) ?_|refine eX ?_|refine eS ?_|refine eN ?_)
 refine Yt ?_
 refine⟨trivial,_,_,by rfl,by rfl,Eq.trans (b:=some (.d (eachF s))) (by kernel_rfl) ?_⟩
 rfl
abbrev lxO (tm:PT AV) (nt:Nat) (frz:List Nat) (qs:Array Tmp) (ab bd:Code) (acc:List DV):List Ob :=
 [.box [.d .nilsl],.box [.d (.int .i64 0),.d (.int .i64 0)],.box [.sr 3 3 acc],.room acc.length 3,.raw (.deferred (some [])),.loop tm nt frz qs ab bd .ready none]
abbrev lxE (tm:PT AV) (nt:Nat) (frz:List Nat) (qs:Array Tmp) (ab bd:Code) (acc:List DV) (v:AV) (c a:Nat):List Ob :=
 [.box [v],.box [.d (.int .i64 (c:Nat)),.d (.int .i64 (a:Nat))],.box [.sr 3 3 acc],.room acc.length 3,.raw (.deferred (some [])),.loop tm nt frz qs ab bd .done (some .ret)]
abbrev lxR (tm:PT AV) (nt:Nat) (frz:List Nat) (qs:Array Tmp) (ab bd:Code) (r:List DV × Nat × Nat):List Ob :=
 if r.2.1=5 then lxE tm nt frz qs ab bd r.1 (.sr 3 3 r.1) 0 0 else lxE tm nt frz qs ab bd r.1 (.d .nilsl) r.2.1 r.2.2
set_option maxHeartbeats 4000000 in
theorem each1 (s:List Nat) (hb:∀ c ∈ s,c<256) (hl:s.length≤2000) (tm:PT AV) (nt:Nat) (frz:List Nat) (qs:Array Tmp) (ab bd:Code) (hT:∀ n,ptAll (refA 8 (6+n)) tm=true)
  (hok:∀ (acc:List DV) (p k a:Nat) (t:List Nat),acc.length≤2000→AYield Try.prog 5 [.d (lexD k t a),.d (faultD 0 0)] (lxO tm nt frz qs ab bd acc++[curO s p,.box [.d (.int .i64 (k:Nat)),.d (.str t),.d (.int .i64 (a:Nat))],.box [.d (.int .i64 (0:Nat)),.d (.int .i64 (0:Nat))]]) (.d (.bool true)) (lxO tm nt frz qs ab bd (acc++[lexD k t a])++[curO s p,.box [.d (.int .i64 (k:Nat)),.d (.str t),.d (.int .i64 (a:Nat))],.box [.d (.int .i64 (0:Nat)),.d (.int .i64 (0:Nat))]]))
  (hend:∀ (acc:List DV) (p c a:Nat),(c=5∨c=3)→AYield Try.prog 5 [.d (lexD 0 [] 0),.d (faultD c a)] (lxO tm nt frz qs ab bd acc++[curO s p,.box [.d (.int .i64 (0:Nat)),.d (.str []),.d (.int .i64 (0:Nat))],.box [.d (.int .i64 (c:Nat)),.d (.int .i64 (a:Nat))]]) (.d (.bool false)) (lxR tm nt frz qs ab bd (acc,c,a)++[curO s p,.box [.d (.int .i64 (0:Nat)),.d (.str []),.d (.int .i64 (0:Nat))],.box [.d (.int .i64 (c:Nat)),.d (.int .i64 (a:Nat))]])) :
  ACall Try.prog 58 [.yl 5,.d (.ep [.str s])] (lxO tm nt frz qs ab bd []) (.tup []) (lxR tm nt frz qs ab bd (lexesG s (s.length+1) 0 [])):=by
 obtain⟨R,hR⟩:∃ R,R=lexesG s (s.length+1) 0 []:=⟨_,rfl⟩
 rw [← hR]
 have hlR:(lxR tm nt frz qs ab bd R).length=6:=by unfold lxR;split<;>rfl
 have hrR:(lxR tm nt frz qs ab bd R).all (refOb 6)=true:=by
  unfold lxR
  split<;>(simp only [lxE,List.all_cons,List.all_nil,Bool.and_true];simp only [refOb,hT 0];rfl)
 have hrf:∀ (acc:List DV) (p:Nat),(lxO tm nt frz qs ab bd acc++[curO s p]).all (refOb 7)=true:=fun acc p=>by
  simp only [lxO,List.cons_append,List.nil_append,List.all_cons,List.all_nil,Bool.and_true];simp only [refOb,hT 1];rfl
 refine acallW_of_run Yo (fnAt Try.func58 (by kernel_rfl) (by kernel_rfl):FnAt _ _ (mkFn Try.f58 [])) rfl rfl hlR (by rw [hlR];exact hrR) rfl ?_
 repeat (first|refine oX (frz:=[]) Yo ?_|refine oS ?_|refine Yn ?_|refine Yg ?_|refine Yq ?_|refine Yk ?_|refine Yb ?_|refine Ye ?_|refine Yd (frz:=[]) Yo (by kernel_rfl) ?_|refine eX ?_|refine eS ?_|refine eN ?_)
 refine Run.loopT (fun y:Nat × Nat × List DV=>⟨PT.ofList [(0,.yl 5),(3,.bp 6 0)],lxO tm nt frz qs ab bd y.2.2++[curO s y.2.1],[]⟩) (fun y=>y.2.1≤s.length∧y.2.2.length≤y.2.1∧s.length+1≤y.1+y.2.1∧lexesG s y.1 y.2.1 y.2.2=R) (fun y=>s.length-y.2.1) (s.length+1,0,[]) ⟨Nat.zero_le _,Nat.le_refl _,Nat.le_refl _,hR.symm⟩ (tidy_of (objs:=_) _ 7 (by rfl) rfl (by repeat' (first|exact trivial|refine⟨(Or.inl rfl),?_⟩|refine⟨(Or.inr rfl),?_⟩|fail)) (by repeat' (first|exact trivial|refine⟨rfl,?_⟩|fail)) (hrf [] 0) rfl) (fun y hy=>?_)
 obtain⟨n,a,acc⟩:=y
 obtain⟨hy1,hy2,hy3,hy4⟩:=hy
 simp only at hy1 hy2 hy3 hy4 ⊢
 obtain⟨m,rfl⟩:∃ m,n=m+1:=⟨n-1,by omega⟩
 obtain⟨p',hp1,hp2,cn⟩:=scanAll s a hb (by omega) hy1
 have hle:=atF4_le hy1
 have hge:a≤atF4 s a:=Nat.le_add_right _ _
 unfold lexesG at hy4
 unfold scanT at cn
 generalize atF4 s a=p at cn hle hge hy4 hp2
 by_cases hp:p=s.length
 ·rw [if_pos hp] at cn hy4
  subst hy4
  repeat' (first|refine Yg ?_|refine Yq ?_|(refine oB (frz:=[]) Yo ?_ ?_<;>intro h<;>first|(exfalso;simp at h;first|done|omega)|skip)|(refine eB ?_ ?_<;>intro h<;>first|(exfalso;simp at h;first|done|omega)|skip)|refine oX (frz:=[]) Yo ?_|refine oS ?_|refine Yn ?_|refine Yk ?_|refine cT ?_|refine cF ?_|refine Yb ?_|refine Ye ?_|refine Yd (frz:=[]) Yo (by kernel_rfl) ?_|refine eX ?_|refine eS ?_|refine eN ?_|refine oE [6] cn ?_|refine RunOps.yield (by rfl) (by rfl) (hend acc p' 5 s.length (.inl rfl)) (by rfl) (by rfl) ?_|(refine Yt ?_;(first|refine rB ?_|refine rI ?_|refine rA ?_|refine rII ?_|refine rSI ?_|refine rT ?_|refine rS ?_);first|done|(skip))|(((first|refine Yt ?_|skip);exact⟨trivial,_,_,rfl,rfl,.refl,(by repeat' (first|exact trivial|refine⟨.refl,?_⟩|refine⟨.gone,?_⟩|refine⟨.box (by repeat' (first|exact trivial|refine⟨.inr rfl,?_⟩|refine⟨.inl rfl,?_⟩)),?_⟩))⟩))|((exfalso;first|(simp at h<;>fail)|(simp at h;omega)))|fail)
 ·rw [if_neg hp] at cn hy4
  obtain⟨c,hc⟩:=get_ok (show p<s.length by omega)
  have hd:=drop_cons hc
  have hbl:=beginsF_len (s.drop p)
  have hbp:(beginsF (s.drop p)).1≠0→1≤(beginsF (s.drop p)).2.length:=by rw [hd];exact beginsF_pos
  rw [List.length_drop] at hbl
  generalize beginsF (s.drop p)=b at cn hbl hbp hy4 hp2
  obtain⟨k,t⟩:=b
  simp only at cn hbl hbp hy4 hp2
  by_cases hk:k=0
  ·rw [if_pos hk] at cn hy4
   subst hy4
   repeat' (first|refine Yg ?_|refine Yq ?_|(refine oB (frz:=[]) Yo ?_ ?_<;>intro h<;>first|(exfalso;simp at h;first|done|omega)|skip)|(refine eB ?_ ?_<;>intro h<;>first|(exfalso;simp at h;first|done|omega)|skip)|refine oX (frz:=[]) Yo ?_|refine oS ?_|refine Yn ?_|refine Yk ?_|refine cT ?_|refine cF ?_|refine Yb ?_|refine Ye ?_|refine Yd (frz:=[]) Yo (by kernel_rfl) ?_|refine eX ?_|refine eS ?_|refine eN ?_|refine oE [6] cn ?_|refine RunOps.yield (by rfl) (by rfl) (hend acc p' 3 p (.inr rfl)) (by rfl) (by rfl) ?_|(refine Yt ?_;(first|refine rB ?_|refine rI ?_|refine rA ?_|refine rII ?_|refine rSI ?_|refine rT ?_|refine rS ?_);first|done|(skip))|(((first|refine Yt ?_|skip);exact⟨trivial,_,_,rfl,rfl,.refl,(by repeat' (first|exact trivial|refine⟨.refl,?_⟩|refine⟨.gone,?_⟩|refine⟨.box (by repeat' (first|exact trivial|refine⟨.inr rfl,?_⟩|refine⟨.inl rfl,?_⟩)),?_⟩))⟩))|((exfalso;first|(simp at h<;>fail)|(simp at h;omega)))|fail)
  ·rw [if_neg hk] at cn hy4
   have ht:=hbp hk
   have hp':=hp2 hk
   subst hp'
   repeat' (first|refine Yg ?_|refine Yq ?_|(refine oB (frz:=[]) Yo ?_ ?_<;>intro h<;>first|(exfalso;simp at h;first|done|omega)|skip)|(refine eB ?_ ?_<;>intro h<;>first|(exfalso;simp at h;first|done|omega)|skip)|refine oX (frz:=[]) Yo ?_|refine oS ?_|refine Yn ?_|refine Yk ?_|refine cT ?_|refine cF ?_|refine Yb ?_|refine Ye ?_|refine Yd (frz:=[]) Yo (by kernel_rfl) ?_|refine eX ?_|refine eS ?_|refine eN ?_|refine oE [6] cn ?_|refine RunOps.yield (by rfl) (by rfl) (hok acc (p+t.length) k p t (by omega)) (by rfl) (by rfl) ?_|(refine Yt ?_;(first|refine rB ?_|refine rI ?_|refine rA ?_|refine rII ?_|refine rSI ?_|refine rT ?_|refine rS ?_);first|done|(skip))|((exfalso;first|(simp at h<;>fail)|(simp at h;omega)))|fail)
   exact⟨(m,p+t.length,acc++[lexD k t p]),⟨by simp only<;>omega,by simp only [List.length_append,List.length_cons,List.length_nil]<;>omega,by simp only<;>omega,hy4⟩,by simp only<;>omega,tidy_of (objs:=_) _ 7 (by rfl) rfl (by repeat' (first|exact trivial|refine⟨(Or.inl rfl),?_⟩|refine⟨(Or.inr rfl),?_⟩|fail)) (by repeat' (first|exact trivial|refine⟨rfl,?_⟩|fail)) (hrf _ _) rfl⟩
end Go.Av
end
noncomputable section
namespace Go.Av
open Go Go.Proofs
set_option maxRecDepth 10000
theorem Run.rangeLex {nt m:Nat} {frz:List Nat} {K:Ex→S→Prop} {tm:PT AV} {dl:List Dl} {f:Operand} {qs:Array Tmp} {ab bd:Code} (s:List Nat) (hb:∀ c ∈ s,c<256) (hl:s.length≤2000) (hf:rd tm f=.d (eachF s)) (hT:∀ n,ptAll (refA 8 (6+n)) tm=true)
  (hok:∀ (acc:List DV) (p k a:Nat) (t:List Nat),acc.length≤2000→AYield Try.prog 5 [.d (lexD k t a),.d (faultD 0 0)] (lxO tm nt frz qs ab bd acc++[curO s p,.box [.d (.int .i64 (k:Nat)),.d (.str t),.d (.int .i64 (a:Nat))],.box [.d (.int .i64 (0:Nat)),.d (.int .i64 (0:Nat))]]) (.d (.bool true)) (lxO tm nt frz qs ab bd (acc++[lexD k t a])++[curO s p,.box [.d (.int .i64 (k:Nat)),.d (.str t),.d (.int .i64 (a:Nat))],.box [.d (.int .i64 (0:Nat)),.d (.int .i64 (0:Nat))]]))
  (hend:∀ (acc:List DV) (p c a:Nat),(c=5∨c=3)→AYield Try.prog 5 [.d (lexD 0 [] 0),.d (faultD c a)] (lxO tm nt frz qs ab bd acc++[curO s p,.box [.d (.int .i64 (0:Nat)),.d (.str []),.d (.int .i64 (0:Nat))],.box [.d (.int .i64 (c:Nat)),.d (.int .i64 (a:Nat))]]) (.d (.bool false)) (lxR tm nt frz qs ab bd (acc,c,a)++[curO s p,.box [.d (.int .i64 (0:Nat)),.d (.str []),.d (.int .i64 (0:Nat))],.box [.d (.int .i64 (c:Nat)),.d (.int .i64 (a:Nat))]]))
  (hk:∀ (acc:List DV) (v:AV) (c a:Nat),(resL (lexemesF s)=.tup [.d (.sl 3 acc),.d (faultD c a)]∧v=.sr 3 3 acc∨resL (lexemesF s)=.tup [.d (.sl 3 []),.d (faultD c a)]∧v=.d .nilsl) →
   K .ret ⟨tm,[.box [v],.box [.d (.int .i64 (c:Nat)),.d (.int .i64 (a:Nat))],.box [.sr 3 3 acc],.room acc.length 3,.raw (.deferred (some [])),.loop tm nt frz qs ab bd .exhausted (some .ret)],.mark 4 :: dl⟩) :
  Run Try.prog nt m none (.rangeFunc f qs ab bd) ⟨tm,[.box [.d .nilsl],.box [.d (.int .i64 0),.d (.int .i64 0)],.box [.sr 3 3 []],.room 0 3],dl⟩ K:=by
 have hm:Try.prog.follows .mixedOrders=true:=by kernel_rfl
 have hA:=each1 s hb hl tm nt frz qs ab bd hT hok hend
 have hF:lexemesF s=lexesF s (s.length+1) 0 []:=by unfold lexemesF;rw [if_neg (by omega)]
 obtain⟨h1,h2⟩:=lexesG_F s (s.length+1) 0 [] (Nat.zero_le _) (Nat.le_refl _)
 rw [← hF] at h1
 generalize lexesG s (s.length+1) 0 []=R at hA h1 h2
 obtain⟨acc,c,a⟩:=R
 simp only at h1 h2
 by_cases hc:c=5
 ·subst hc
  rw [show lxR tm nt frz qs ab bd (acc,5,a)=lxE tm nt frz qs ab bd acc (.sr 3 3 acc) 0 0 from if_pos rfl] at hA
  rw [show endLx (acc,5,a)=(acc,0,0) from if_pos rfl] at h1
  exact Run.range Yo hm hf hA rfl (by rfl) (by simp) (hk acc (.sr 3 3 acc) 0 0 (.inl ⟨by rw [← h1],rfl⟩))
 ·rw [show lxR tm nt frz qs ab bd (acc,c,a)=lxE tm nt frz qs ab bd acc (.d .nilsl) c a from if_neg hc] at hA
  rw [show endLx (acc,c,a)=([],c,a) from if_neg hc] at h1
  exact Run.range Yo hm hf hA rfl (by rfl) (by simp) (hk acc (.d .nilsl) c a (.inr ⟨by rw [← h1],rfl⟩))
set_option maxHeartbeats 8000000 in
theorem lexemesP (s:List Nat) (hb:∀ c ∈ s,c<256) (hl:s.length≤1048576):KnownCall Try.prog 13 [.str s] (resL (lexemesF s)):=by
 by_cases h2:2000<s.length
 ·unfold lexemesF
  rw [if_pos h2]
  refine knownE2 Yo (fnAt Try.func13 (by kernel_rfl) (by kernel_rfl):FnAt _ _ (mkFn Try.f13 [22])) ?_
  repeat' (first|refine Yg ?_|refine Yq ?_|(refine oB (frz:=[22]) Yo ?_ ?_<;>intro h<;>first|(exfalso;simp at h;first|done|omega)|skip)|(refine eB ?_ ?_<;>intro h<;>first|(exfalso;simp at h;first|done|omega)|skip)|refine oX (frz:=[22]) Yo ?_|refine oS ?_|refine Yn ?_|refine Yk ?_|refine cT ?_|refine cF ?_|refine Yb ?_|refine Ye ?_|refine Yd (frz:=[22]) Yo (by kernel_rfl) ?_|refine eX ?_|refine eS ?_|refine eN ?_|(refine Yt ?_;refine r2 ?_;first|done|(exact .tup2 .nil .refl))|((exfalso;first|(simp at h<;>fail)|(simp at h;omega)))|fail)
 ·have ce:=eachC s
  obtain⟨R,hR⟩:∃ R,R=resL (lexemesF s):=⟨_,rfl⟩
  rw [← hR]
  refine knownE2 Yo (fnAt Try.func13 (by kernel_rfl) (by kernel_rfl):FnAt _ _ (mkFn Try.f13 [22])) ?_
  repeat' (first|refine Yg ?_|refine Yq ?_|(refine oB (frz:=[22]) Yo ?_ ?_<;>intro h<;>first|(exfalso;simp at h;first|done|omega)|skip)|(refine eB ?_ ?_<;>intro h<;>first|(exfalso;simp at h;first|done|omega)|skip)|refine oX (frz:=[22]) Yo ?_|refine oS ?_|refine Yn ?_|refine Yk ?_|refine cT ?_|refine cF ?_|refine Yb ?_|refine Ye ?_|refine Yd (frz:=[22]) Yo (by kernel_rfl) ?_|refine eX ?_|refine eS ?_|refine eN ?_|refine oC (ce) ?_|refine eC (ce) ?_|(refine Yt ?_;refine r2 ?_;first|done|(skip))|((exfalso;first|(simp at h<;>fail)|(simp at h;omega)))|fail)
  refine Run.cellRoom 2 0 3 ?_
  refine Run.tidy (s':=⟨PT.ofList [(2,.bp 0 0),(3,.bp 1 0),(4,.bp 2 0),(12,.d (eachF s))],[.box [.d .nilsl],.box [.d (.int .i64 0),.d (.int .i64 0)],.box [.sr 3 3 []],.room 0 3],[]⟩) (tidy_of (objs:=_) _ 4 (by rfl) rfl (by repeat' (first|exact trivial|refine⟨(Or.inl rfl),?_⟩|refine⟨(Or.inr rfl),?_⟩|fail)) (by repeat' (first|exact trivial|refine⟨rfl,?_⟩|fail)) rfl rfl) ?_
  refine Run.rangeLex (frz:=[22]) s hb (by omega) (by rfl) (fun n=>?_) (fun acc p k a t hal=>?_) (fun acc p c a hc=>?_) (fun acc v c a hk=>?_)
  ·rw [show 6+n=n+6 from by omega];rfl
  ·unfold lxO
   rw [show(acc++[lexD k t a]).length=acc.length+1 from by simp]
   refine ayield_of_run (i:=5) (by rfl) (by rfl) (by rfl) ?_
   repeat (first|refine oX (frz:=[22]) Yo ?_|refine oS ?_|refine Yn ?_|refine Yg ?_|refine Yq ?_|refine Yk ?_|refine Yb ?_|refine Ye ?_|refine Yd (frz:=[22]) Yo (by kernel_rfl) ?_|refine eX ?_|refine eS ?_|refine eN ?_)
   refine⟨rfl,_,_,_,_,_,_,_,by rfl,?_⟩
   refine Run.less ?_
   repeat' (first|refine Yg ?_|refine Yq ?_|(refine oB (frz:=[22]) Yo ?_ ?_<;>intro h<;>first|(exfalso;simp at h;first|done|omega)|skip)|(refine eB ?_ ?_<;>intro h<;>first|(exfalso;simp at h;first|done|omega)|skip)|refine oX (frz:=[22]) Yo ?_|refine oS ?_|refine Yn ?_|refine Yk ?_|refine cT ?_|refine cF ?_|refine Yb ?_|refine Ye ?_|refine Yd (frz:=[22]) Yo (by kernel_rfl) ?_|refine eX ?_|refine eS ?_|refine eN ?_|refine oX (frz:=[22]) Yo ?_ (hv:=app1) (hf:=rfl) (he:=rfl)|refine eX ?_ (hv:=app1) (hf:=rfl) (he:=rfl)|refine oX (frz:=[22]) Yo ?_ (hv:=app0) (hf:=rfl) (he:=rfl)|refine eX ?_ (hv:=app0) (hf:=rfl) (he:=rfl)|(exact⟨rfl,_,less_of [] 9 rfl (by rfl) trivial trivial (by kernel_rfl) rfl,_,_,_,_,_,_,_,_,by rfl,rfl,by rfl⟩)|((exfalso;(simp_all<;>fail)))|fail)
  ·rcases hc with rfl|rfl
   ·rw [show lxR _ _ _ _ _ _ (acc,5,a)=lxE _ _ _ _ _ _ acc (.sr 3 3 acc) 0 0 from if_pos rfl]
    refine ayield_of_run (i:=5) (by rfl) (by rfl) (by rfl) ?_
    repeat (first|refine oX (frz:=[22]) Yo ?_|refine oS ?_|refine Yn ?_|refine Yg ?_|refine Yq ?_|refine Yk ?_|refine Yb ?_|refine Ye ?_|refine Yd (frz:=[22]) Yo (by kernel_rfl) ?_|refine eX ?_|refine eS ?_|refine eN ?_)
    refine⟨rfl,_,_,_,_,_,_,_,by rfl,?_⟩
    refine Run.less ?_
    repeat' (first|refine Yg ?_|refine Yq ?_|(refine oB (frz:=[22]) Yo ?_ ?_<;>intro h<;>first|(exfalso;simp at h;first|done|omega)|skip)|(refine eB ?_ ?_<;>intro h<;>first|(exfalso;simp at h;first|done|omega)|skip)|refine oX (frz:=[22]) Yo ?_|refine oS ?_|refine Yn ?_|refine Yk ?_|refine cT ?_|refine cF ?_|refine Yb ?_|refine Ye ?_|refine Yd (frz:=[22]) Yo (by kernel_rfl) ?_|refine eX ?_|refine eS ?_|refine eN ?_|((first|refine Yt ?_|skip);exact⟨rfl,_,less_of [] 9 rfl (by rfl) trivial trivial (by kernel_rfl) rfl,_,_,_,_,_,_,_,_,by rfl,rfl,by rfl⟩)|((exfalso;(simp_all<;>fail)))|fail)
   ·rw [show lxR _ _ _ _ _ _ (acc,3,a)=lxE _ _ _ _ _ _ acc (.d .nilsl) 3 a from if_neg (show ¬ (3:Nat)=5 by decide)]
    refine ayield_of_run (i:=5) (by rfl) (by rfl) (by rfl) ?_
    repeat (first|refine oX (frz:=[22]) Yo ?_|refine oS ?_|refine Yn ?_|refine Yg ?_|refine Yq ?_|refine Yk ?_|refine Yb ?_|refine Ye ?_|refine Yd (frz:=[22]) Yo (by kernel_rfl) ?_|refine eX ?_|refine eS ?_|refine eN ?_)
    refine⟨rfl,_,_,_,_,_,_,_,by rfl,?_⟩
    refine Run.less ?_
    repeat' (first|refine Yg ?_|refine Yq ?_|(refine oB (frz:=[22]) Yo ?_ ?_<;>intro h<;>first|(exfalso;simp at h;first|done|omega)|skip)|(refine eB ?_ ?_<;>intro h<;>first|(exfalso;simp at h;first|done|omega)|skip)|refine oX (frz:=[22]) Yo ?_|refine oS ?_|refine Yn ?_|refine Yk ?_|refine cT ?_|refine cF ?_|refine Yb ?_|refine Ye ?_|refine Yd (frz:=[22]) Yo (by kernel_rfl) ?_|refine eX ?_|refine eS ?_|refine eN ?_|((first|refine Yt ?_|skip);exact⟨rfl,_,less_of [] 9 rfl (by rfl) trivial trivial (by kernel_rfl) rfl,_,_,_,_,_,_,_,_,by rfl,rfl,by rfl⟩)|((exfalso;(simp_all<;>fail)))|fail)
  ·rcases hk with⟨h1,rfl⟩|⟨h1,rfl⟩
   ·rw [hR,h1]
    refine r2 ?_
    exact .refl
   ·rw [hR,h1]
    refine r2 ?_
    exact .tup2 .nil .refl
end Go.Av
end
noncomputable section
namespace Go.Av
open Go Go.Proofs
set_option maxRecDepth 10000
theorem mixedOK:Try.prog.follows .mixedOrders=true:=by kernel_rfl
theorem deferN (objs:List Ob):ADefer Try.prog 14 [.bp 0 0,.bp 1 0] none objs none objs :=
 evDefer_ok Yo H0_ok mixedOK Ft_ok (n:=40) (by rfl)
abbrev pX (s:List Nat) (p:PS):List Ob:=[oZX,oZF,.map (kvN p.names),.box [.d (.str s),.d (.sl 3 (p.l.map encL)),.d (.int .i64 p.x.k),.sr 4 1 (p.x.tokens.map .str),.d (.str p.x.sep),.d (.str p.x.start),.sr 5 2 (p.x.rules.map encR),.mp 2,.sr 6 2 (p.uses.map encU),.d (.int .i64 (p.total:Nat))],.room p.x.tokens.length 1,.room p.x.rules.length 2,.room p.uses.length 2]
theorem deferP (e:Fa):ADefer Try.prog 14 [.bp 0 0,.bp 1 0] (some (refD e)) [oZX,oZF,.gone,.gone,.gone,.gone,.gone] none
  [oZX,.box [.d (.int .i64 (e.1:Nat)),.d (.int .i64 (e.2:Nat))],.gone,.gone,.gone,.gone,.gone,.box [.d (.int .i64 (e.1:Nat)),.d (.int .i64 (e.2:Nat))]] :=
 evDefer_ok Yo H0_ok mixedOK Ft_ok (n:=40) (by rfl)
abbrev fnsP:DV:=.agg [.fn (.func 15) [] [],.fn (.func 16) [] [],.fn (.func 17) [] [],.fn (.func 18) [] [],.fn (.func 19) [] [],.fn (.func 20) [] []]
abbrev dlP:List Dl:=[.call 14 [.bp 0 0,.bp 1 0]]
set_option maxHeartbeats 8000000 in
theorem parseP (s:List Nat) (ls:List Lx) (hb:∀ c ∈ s,c<256) (hs:s.length≤1048576) (hl:LsB ls) (hn:NumL ls) (hlex:lexemesF s=(ls.map encL,0,0)) :
  KnownCall Try.prog 6 [.str s] (resX (resP (readP s ls))):=by
 have cl:=lexemesP s hb hs
 rw [hlex] at cl
 rw [readP_rest]
 obtain⟨R,hR⟩:∃ R,R=restP s 6 0 ⟨ls,src0,[],[],0⟩:=⟨_,rfl⟩
 rw [← hR]
 refine knownED Yo (fnAt Try.func6 (by kernel_rfl) (by kernel_rfl):FnAt _ _ (mkFn Try.f6 [])) ?_
 repeat' (first|refine Yg ?_|refine Yq ?_|(refine oB (frz:=[]) Yo ?_ ?_<;>intro h<;>first|(exfalso;simp at h;first|done|omega)|skip)|(refine eB ?_ ?_<;>intro h<;>first|(exfalso;simp at h;first|done|omega)|skip)|refine oX (frz:=[]) Yo ?_|refine oS ?_|refine Yn ?_|refine Yk ?_|refine cT ?_|refine cF ?_|refine Yb ?_|refine Ye ?_|refine Yd (frz:=[]) Yo (by kernel_rfl) ?_|refine eX ?_|refine eS ?_|refine eN ?_|refine oC (cl) ?_|refine eC (cl) ?_|refine RunOps.deferOp (by rfl) rfl (by rfl) ?_|(refine Yt ?_;(first|refine rB ?_|refine rI ?_|refine rA ?_|refine rII ?_|refine rSI ?_|refine rT ?_|refine rS ?_);first|done|(skip))|((exfalso;first|(simp at h<;>fail)|(simp at h;omega)))|fail)
 refine Run.tidy (s':=⟨PT.ofList [(2,.bp 0 0),(3,.bp 1 0),(5,.bp 3 0),(24,.d fnsP),(25,.d (.int .i64 ((0:Nat):Int)))],[oZX,oZF,.map [],.box [.d (.str s),.d (.sl 3 (ls.map encL)),.d (.int .i64 0),.d .nilsl,.d (.str []),.d (.str []),.d .nilsl,.mp 2,.d .nilsl,.d (.int .i64 0)]],dlP⟩) (tidy_of (objs:=_) _ 4 (by rfl) rfl (by repeat' (first|exact trivial|refine⟨(Or.inl rfl),?_⟩|refine⟨(Or.inr rfl),?_⟩|fail)) (by repeat' (first|exact trivial|refine⟨rfl,?_⟩|fail)) rfl rfl) ?_
 refine Run.cellRoom 3 3 1 ?_
 refine Run.cellRoom 3 6 2 ?_
 refine Run.cellRoom 3 8 2 ?_
 have j0:JP ls ⟨ls,src0,[],[],0⟩:=⟨fun _ h=>h,Nat.le_refl _,by simp,by simp,by simp,by simp⟩
 refine Run.loopT (fun y:Nat × Nat × PS=>⟨PT.ofList [(2,.bp 0 0),(3,.bp 1 0),(5,.bp 3 0),(24,.d fnsP),(25,.d (.int .i64 (y.2.1:Nat)))],pX s y.2.2,dlP⟩)
  (fun y=>y.1+y.2.1=6∧JP ls y.2.2∧(y.2.1=0→NumL y.2.2.l)∧restP s y.1 y.2.1 y.2.2=R) (fun y=>y.1) (6,0,⟨ls,src0,[],[],0⟩) ⟨rfl,j0,fun _=>hn,hR.symm⟩ (tidy_of (objs:=_) _ 7 (by rfl) rfl (by repeat' (first|exact trivial|refine⟨(Or.inl rfl),?_⟩|refine⟨(Or.inr rfl),?_⟩|fail)) (by repeat' (first|exact trivial|refine⟨rfl,?_⟩|fail)) rfl rfl) (fun y hy=>?_)
 obtain⟨n,k,p⟩:=y
 obtain⟨h1,h2,h3,h4⟩:=hy
 simp only at h1 h2 h3 h4 ⊢
 have pb:=h2.pb hl
 rcases(show k=0∨k=1∨k=2∨k=3∨k=4∨k=5∨k=6 by omega) with rfl|rfl|rfl|rfl|rfl|rfl|rfl
 ·obtain rfl:n=5+1:=by omega
  have c0:=lookC s p pb (h3 rfl)
  have h4:(stepP s 0 p).bind (fun p=>restP s 5 1 p)=R:=h4
  cases hq:stepP s 0 p with
  |error e =>
   rw [hq] at h4
   rw [show lookP s p=.error e from hq] at c0
   simp only [Except.bind] at h4
   subst h4
   repeat' (first|refine Yg ?_|refine Yq ?_|(refine oB (frz:=[]) Yo ?_ ?_<;>intro h<;>first|(exfalso;simp at h;first|done|omega)|skip)|(refine eB ?_ ?_<;>intro h<;>first|(exfalso;simp at h;first|done|omega)|skip)|refine oX (frz:=[]) Yo ?_|refine oS ?_|refine Yn ?_|refine Yk ?_|refine cT ?_|refine cF ?_|refine Yb ?_|refine Ye ?_|refine Yd (frz:=[]) Yo (by kernel_rfl) ?_|refine eX ?_|refine eS ?_|refine eN ?_|refine oEP [3,4,5,2,6] c0 ?_|(refine Yt ?_;(first|refine rB ?_|refine rI ?_|refine rA ?_|refine rII ?_|refine rSI ?_|refine rT ?_|refine rS ?_);first|done|(skip))|((exact endD rfl (.inr ⟨_,_,rfl,deferP e⟩) (by rfl) (by rfl) (.tup2 srcZ_to .refl)))|((exfalso;(simp at h<;>omega)))|fail)
  |ok q =>
   rw [hq] at h4
   rw [show lookP s p=.ok q from hq] at c0
   have h4:restP s 5 1 q=R:=h4
   have jq:=h2.stepL hq
   repeat' (first|refine Yg ?_|refine Yq ?_|(refine oB (frz:=[]) Yo ?_ ?_<;>intro h<;>first|(exfalso;simp at h;first|done|omega)|skip)|(refine eB ?_ ?_<;>intro h<;>first|(exfalso;simp at h;first|done|omega)|skip)|refine oX (frz:=[]) Yo ?_|refine oS ?_|refine Yn ?_|refine Yk ?_|refine cT ?_|refine cF ?_|refine Yb ?_|refine Ye ?_|refine Yd (frz:=[]) Yo (by kernel_rfl) ?_|refine eX ?_|refine eS ?_|refine eN ?_|refine oE [3,4,5,2,6] c0 ?_|(refine Yt ?_;(first|refine rB ?_|refine rI ?_|refine rA ?_|refine rII ?_|refine rSI ?_|refine rT ?_|refine rS ?_);first|done|(skip))|(exact⟨(5,1,q),⟨rfl,jq,fun h=>(nomatch h),h4⟩,Nat.lt_succ_self _,(tidy_of (objs:=_) _ 7 (by rfl) rfl (by repeat' (first|exact trivial|refine⟨(Or.inl rfl),?_⟩|refine⟨(Or.inr rfl),?_⟩|fail)) (by repeat' (first|exact trivial|refine⟨rfl,?_⟩|fail)) rfl rfl)⟩)|((exfalso;(simp at h<;>omega)))|fail)
 ·obtain rfl:n=4+1:=by omega
  have c0:=tokensC s p pb h2.toks
  have h4:(stepP s 1 p).bind (fun p=>restP s 4 2 p)=R:=h4
  cases hq:stepP s 1 p with
  |error e =>
   rw [hq] at h4
   rw [show tokensP s p=.error e from hq] at c0
   simp only [Except.bind] at h4
   subst h4
   repeat' (first|refine Yg ?_|refine Yq ?_|(refine oB (frz:=[]) Yo ?_ ?_<;>intro h<;>first|(exfalso;simp at h;first|done|omega)|skip)|(refine eB ?_ ?_<;>intro h<;>first|(exfalso;simp at h;first|done|omega)|skip)|refine oX (frz:=[]) Yo ?_|refine oS ?_|refine Yn ?_|refine Yk ?_|refine cT ?_|refine cF ?_|refine Yb ?_|refine Ye ?_|refine Yd (frz:=[]) Yo (by kernel_rfl) ?_|refine eX ?_|refine eS ?_|refine eN ?_|refine oEP [3,4,5,2,6] c0 ?_|(refine Yt ?_;(first|refine rB ?_|refine rI ?_|refine rA ?_|refine rII ?_|refine rSI ?_|refine rT ?_|refine rS ?_);first|done|(skip))|((exact endD rfl (.inr ⟨_,_,rfl,deferP e⟩) (by rfl) (by rfl) (.tup2 srcZ_to .refl)))|((exfalso;(simp at h<;>omega)))|fail)
  |ok q =>
   rw [hq] at h4
   rw [show tokensP s p=.ok q from hq] at c0
   have h4:restP s 4 2 q=R:=h4
   have jq:=h2.stepL hq
   repeat' (first|refine Yg ?_|refine Yq ?_|(refine oB (frz:=[]) Yo ?_ ?_<;>intro h<;>first|(exfalso;simp at h;first|done|omega)|skip)|(refine eB ?_ ?_<;>intro h<;>first|(exfalso;simp at h;first|done|omega)|skip)|refine oX (frz:=[]) Yo ?_|refine oS ?_|refine Yn ?_|refine Yk ?_|refine cT ?_|refine cF ?_|refine Yb ?_|refine Ye ?_|refine Yd (frz:=[]) Yo (by kernel_rfl) ?_|refine eX ?_|refine eS ?_|refine eN ?_|refine oE [3,4,5,2,6] c0 ?_|(refine Yt ?_;(first|refine rB ?_|refine rI ?_|refine rA ?_|refine rII ?_|refine rSI ?_|refine rT ?_|refine rS ?_);first|done|(skip))|(exact⟨(4,2,q),⟨rfl,jq,fun h=>(nomatch h),h4⟩,Nat.lt_succ_self _,(tidy_of (objs:=_) _ 7 (by rfl) rfl (by repeat' (first|exact trivial|refine⟨(Or.inl rfl),?_⟩|refine⟨(Or.inr rfl),?_⟩|fail)) (by repeat' (first|exact trivial|refine⟨rfl,?_⟩|fail)) rfl rfl)⟩)|((exfalso;(simp at h<;>omega)))|fail)
 ·obtain rfl:n=3+1:=by omega
  have c0:=sepC s p pb
  have h4:(stepP s 2 p).bind (fun p=>restP s 3 3 p)=R:=h4
  cases hq:stepP s 2 p with
  |error e =>
   rw [hq] at h4
   rw [show sepQ s p=.error e from hq] at c0
   simp only [Except.bind] at h4
   subst h4
   repeat' (first|refine Yg ?_|refine Yq ?_|(refine oB (frz:=[]) Yo ?_ ?_<;>intro h<;>first|(exfalso;simp at h;first|done|omega)|skip)|(refine eB ?_ ?_<;>intro h<;>first|(exfalso;simp at h;first|done|omega)|skip)|refine oX (frz:=[]) Yo ?_|refine oS ?_|refine Yn ?_|refine Yk ?_|refine cT ?_|refine cF ?_|refine Yb ?_|refine Ye ?_|refine Yd (frz:=[]) Yo (by kernel_rfl) ?_|refine eX ?_|refine eS ?_|refine eN ?_|refine oEP [3,4,5,2,6] c0 ?_|(refine Yt ?_;(first|refine rB ?_|refine rI ?_|refine rA ?_|refine rII ?_|refine rSI ?_|refine rT ?_|refine rS ?_);first|done|(skip))|((exact endD rfl (.inr ⟨_,_,rfl,deferP e⟩) (by rfl) (by rfl) (.tup2 srcZ_to .refl)))|((exfalso;(simp at h<;>omega)))|fail)
  |ok q =>
   rw [hq] at h4
   rw [show sepQ s p=.ok q from hq] at c0
   have h4:restP s 3 3 q=R:=h4
   have jq:=h2.stepL hq
   repeat' (first|refine Yg ?_|refine Yq ?_|(refine oB (frz:=[]) Yo ?_ ?_<;>intro h<;>first|(exfalso;simp at h;first|done|omega)|skip)|(refine eB ?_ ?_<;>intro h<;>first|(exfalso;simp at h;first|done|omega)|skip)|refine oX (frz:=[]) Yo ?_|refine oS ?_|refine Yn ?_|refine Yk ?_|refine cT ?_|refine cF ?_|refine Yb ?_|refine Ye ?_|refine Yd (frz:=[]) Yo (by kernel_rfl) ?_|refine eX ?_|refine eS ?_|refine eN ?_|refine oE [3,4,5,2,6] c0 ?_|(refine Yt ?_;(first|refine rB ?_|refine rI ?_|refine rA ?_|refine rII ?_|refine rSI ?_|refine rT ?_|refine rS ?_);first|done|(skip))|(exact⟨(3,3,q),⟨rfl,jq,fun h=>(nomatch h),h4⟩,Nat.lt_succ_self _,(tidy_of (objs:=_) _ 7 (by rfl) rfl (by repeat' (first|exact trivial|refine⟨(Or.inl rfl),?_⟩|refine⟨(Or.inr rfl),?_⟩|fail)) (by repeat' (first|exact trivial|refine⟨rfl,?_⟩|fail)) rfl rfl)⟩)|((exfalso;(simp at h<;>omega)))|fail)
 ·obtain rfl:n=2+1:=by omega
  have c0:=startC s p pb
  have h4:(stepP s 3 p).bind (fun p=>restP s 2 4 p)=R:=h4
  cases hq:stepP s 3 p with
  |error e =>
   rw [hq] at h4
   rw [show startP s p=.error e from hq] at c0
   simp only [Except.bind] at h4
   subst h4
   repeat' (first|refine Yg ?_|refine Yq ?_|(refine oB (frz:=[]) Yo ?_ ?_<;>intro h<;>first|(exfalso;simp at h;first|done|omega)|skip)|(refine eB ?_ ?_<;>intro h<;>first|(exfalso;simp at h;first|done|omega)|skip)|refine oX (frz:=[]) Yo ?_|refine oS ?_|refine Yn ?_|refine Yk ?_|refine cT ?_|refine cF ?_|refine Yb ?_|refine Ye ?_|refine Yd (frz:=[]) Yo (by kernel_rfl) ?_|refine eX ?_|refine eS ?_|refine eN ?_|refine oEP [3,4,5,2,6] c0 ?_|(refine Yt ?_;(first|refine rB ?_|refine rI ?_|refine rA ?_|refine rII ?_|refine rSI ?_|refine rT ?_|refine rS ?_);first|done|(skip))|((exact endD rfl (.inr ⟨_,_,rfl,deferP e⟩) (by rfl) (by rfl) (.tup2 srcZ_to .refl)))|((exfalso;(simp at h<;>omega)))|fail)
  |ok q =>
   rw [hq] at h4
   rw [show startP s p=.ok q from hq] at c0
   have h4:restP s 2 4 q=R:=h4
   have jq:=h2.stepL hq
   repeat' (first|refine Yg ?_|refine Yq ?_|(refine oB (frz:=[]) Yo ?_ ?_<;>intro h<;>first|(exfalso;simp at h;first|done|omega)|skip)|(refine eB ?_ ?_<;>intro h<;>first|(exfalso;simp at h;first|done|omega)|skip)|refine oX (frz:=[]) Yo ?_|refine oS ?_|refine Yn ?_|refine Yk ?_|refine cT ?_|refine cF ?_|refine Yb ?_|refine Ye ?_|refine Yd (frz:=[]) Yo (by kernel_rfl) ?_|refine eX ?_|refine eS ?_|refine eN ?_|refine oE [3,4,5,2,6] c0 ?_|(refine Yt ?_;(first|refine rB ?_|refine rI ?_|refine rA ?_|refine rII ?_|refine rSI ?_|refine rT ?_|refine rS ?_);first|done|(skip))|(exact⟨(2,4,q),⟨rfl,jq,fun h=>(nomatch h),h4⟩,Nat.lt_succ_self _,(tidy_of (objs:=_) _ 7 (by rfl) rfl (by repeat' (first|exact trivial|refine⟨(Or.inl rfl),?_⟩|refine⟨(Or.inr rfl),?_⟩|fail)) (by repeat' (first|exact trivial|refine⟨rfl,?_⟩|fail)) rfl rfl)⟩)|((exfalso;(simp at h<;>omega)))|fail)
 ·obtain rfl:n=1+1:=by omega
  have c0:=rulesC s p pb h2.rules h2.total
  have h4:(stepP s 4 p).bind (fun p=>restP s 1 5 p)=R:=h4
  cases hq:stepP s 4 p with
  |error e =>
   rw [hq] at h4
   rw [show rulesP s (p.l.length+1) true p=.error e from hq] at c0
   simp only [Except.bind] at h4
   subst h4
   repeat' (first|refine Yg ?_|refine Yq ?_|(refine oB (frz:=[]) Yo ?_ ?_<;>intro h<;>first|(exfalso;simp at h;first|done|omega)|skip)|(refine eB ?_ ?_<;>intro h<;>first|(exfalso;simp at h;first|done|omega)|skip)|refine oX (frz:=[]) Yo ?_|refine oS ?_|refine Yn ?_|refine Yk ?_|refine cT ?_|refine cF ?_|refine Yb ?_|refine Ye ?_|refine Yd (frz:=[]) Yo (by kernel_rfl) ?_|refine eX ?_|refine eS ?_|refine eN ?_|refine oEP [3,4,5,2,6] c0 ?_|(refine Yt ?_;(first|refine rB ?_|refine rI ?_|refine rA ?_|refine rII ?_|refine rSI ?_|refine rT ?_|refine rS ?_);first|done|(skip))|((exact endD rfl (.inr ⟨_,_,rfl,deferP e⟩) (by rfl) (by rfl) (.tup2 srcZ_to .refl)))|((exfalso;(simp at h<;>omega)))|fail)
  |ok q =>
   rw [hq] at h4
   rw [show rulesP s (p.l.length+1) true p=.ok q from hq] at c0
   have h4:restP s 1 5 q=R:=h4
   have jq:=h2.stepL hq
   repeat' (first|refine Yg ?_|refine Yq ?_|(refine oB (frz:=[]) Yo ?_ ?_<;>intro h<;>first|(exfalso;simp at h;first|done|omega)|skip)|(refine eB ?_ ?_<;>intro h<;>first|(exfalso;simp at h;first|done|omega)|skip)|refine oX (frz:=[]) Yo ?_|refine oS ?_|refine Yn ?_|refine Yk ?_|refine cT ?_|refine cF ?_|refine Yb ?_|refine Ye ?_|refine Yd (frz:=[]) Yo (by kernel_rfl) ?_|refine eX ?_|refine eS ?_|refine eN ?_|refine oE [3,4,5,2,6] c0 ?_|(refine Yt ?_;(first|refine rB ?_|refine rI ?_|refine rA ?_|refine rII ?_|refine rSI ?_|refine rT ?_|refine rS ?_);first|done|(skip))|(exact⟨(1,5,q),⟨rfl,jq,fun h=>(nomatch h),h4⟩,Nat.lt_succ_self _,(tidy_of (objs:=_) _ 7 (by rfl) rfl (by repeat' (first|exact trivial|refine⟨(Or.inl rfl),?_⟩|refine⟨(Or.inr rfl),?_⟩|fail)) (by repeat' (first|exact trivial|refine⟨rfl,?_⟩|fail)) rfl rfl)⟩)|((exfalso;(simp at h<;>omega)))|fail)
 ·obtain rfl:n=0+1:=by omega
  have c0:=usedC s p pb
  have h4:(stepP s 5 p).bind (fun p=>restP s 0 6 p)=R:=h4
  cases hq:stepP s 5 p with
  |error e =>
   rw [hq] at h4
   rw [show usedP p=.error e from hq] at c0
   simp only [Except.bind] at h4
   subst h4
   repeat' (first|refine Yg ?_|refine Yq ?_|(refine oB (frz:=[]) Yo ?_ ?_<;>intro h<;>first|(exfalso;simp at h;first|done|omega)|skip)|(refine eB ?_ ?_<;>intro h<;>first|(exfalso;simp at h;first|done|omega)|skip)|refine oX (frz:=[]) Yo ?_|refine oS ?_|refine Yn ?_|refine Yk ?_|refine cT ?_|refine cF ?_|refine Yb ?_|refine Ye ?_|refine Yd (frz:=[]) Yo (by kernel_rfl) ?_|refine eX ?_|refine eS ?_|refine eN ?_|refine oEP [3,4,5,2,6] c0 ?_|(refine Yt ?_;(first|refine rB ?_|refine rI ?_|refine rA ?_|refine rII ?_|refine rSI ?_|refine rT ?_|refine rS ?_);first|done|(skip))|((exact endD rfl (.inr ⟨_,_,rfl,deferP e⟩) (by rfl) (by rfl) (.tup2 srcZ_to .refl)))|((exfalso;(simp at h<;>omega)))|fail)
  |ok q =>
   rw [hq] at h4
   rw [show usedP p=.ok q from hq] at c0
   have h4:restP s 0 6 q=R:=h4
   have jq:=h2.stepL hq
   repeat' (first|refine Yg ?_|refine Yq ?_|(refine oB (frz:=[]) Yo ?_ ?_<;>intro h<;>first|(exfalso;simp at h;first|done|omega)|skip)|(refine eB ?_ ?_<;>intro h<;>first|(exfalso;simp at h;first|done|omega)|skip)|refine oX (frz:=[]) Yo ?_|refine oS ?_|refine Yn ?_|refine Yk ?_|refine cT ?_|refine cF ?_|refine Yb ?_|refine Ye ?_|refine Yd (frz:=[]) Yo (by kernel_rfl) ?_|refine eX ?_|refine eS ?_|refine eN ?_|refine oE [3,4,5,2,6] c0 ?_|(refine Yt ?_;(first|refine rB ?_|refine rI ?_|refine rA ?_|refine rII ?_|refine rSI ?_|refine rT ?_|refine rS ?_);first|done|(skip))|(exact⟨(0,6,q),⟨rfl,jq,fun h=>(nomatch h),h4⟩,Nat.lt_succ_self _,(tidy_of (objs:=_) _ 7 (by rfl) rfl (by repeat' (first|exact trivial|refine⟨(Or.inl rfl),?_⟩|refine⟨(Or.inr rfl),?_⟩|fail)) (by repeat' (first|exact trivial|refine⟨rfl,?_⟩|fail)) rfl rfl)⟩)|((exfalso;(simp at h<;>omega)))|fail)
 ·obtain rfl:n=0:=by omega
  have h4:(.ok p:Except Fa PS)=R:=h4
  subst h4
  repeat' (first|refine Yg ?_|refine Yq ?_|(refine oB (frz:=[]) Yo ?_ ?_<;>intro h<;>first|(exfalso;simp at h;first|done|omega)|skip)|(refine eB ?_ ?_<;>intro h<;>first|(exfalso;simp at h;first|done|omega)|skip)|refine oX (frz:=[]) Yo ?_|refine oS ?_|refine Yn ?_|refine Yk ?_|refine cT ?_|refine cF ?_|refine Yb ?_|refine Ye ?_|refine Yd (frz:=[]) Yo (by kernel_rfl) ?_|refine eX ?_|refine eS ?_|refine eN ?_|(refine Yt ?_;(first|refine rB ?_|refine rI ?_|refine rA ?_|refine rII ?_|refine rSI ?_|refine rT ?_|refine rS ?_);first|done|(skip))|((refine Yt ?_;exact endD rfl (.inr ⟨_,_,rfl,deferN _⟩) (by rfl) (by rfl) (.tup2 .refl .refl)))|((exfalso;(simp at h<;>omega)))|fail)
theorem parsePbad (s:List Nat) (e a:Nat) (hb:∀ c ∈ s,c<256) (hs:s.length≤1048576) (hlex:lexemesF s=([],e,a)) (he:e≠0) :
  KnownCall Try.prog 6 [.str s] (resX (src0,(e,a))):=by
 have cl:=lexemesP s hb hs
 rw [hlex] at cl
 have hv:AV.d (.bool (((e:Nat):Int) != 0))=.d (.bool true):=by
  congr 2
  have:¬ ((e:Nat):Int)=0:=by omega
  simpa using this
 refine knownE2 Yo (fnAt Try.func6 (by kernel_rfl) (by kernel_rfl):FnAt _ _ (mkFn Try.f6 [])) ?_
 repeat' (first|refine oX (frz:=[]) (v:=.d (.bool true)) Yo ?_ (he:=(hv))|refine eX (v:=.d (.bool true)) ?_ (he:=(hv))|refine Yg ?_|refine Yq ?_|(refine oB (frz:=[]) Yo ?_ ?_<;>intro h<;>first|(exfalso;simp at h;first|done|omega)|skip)|(refine eB ?_ ?_<;>intro h<;>first|(exfalso;simp at h;first|done|omega)|skip)|refine oX (frz:=[]) Yo ?_|refine oS ?_|refine Yn ?_|refine Yk ?_|refine cT ?_|refine cF ?_|refine Yb ?_|refine Ye ?_|refine Yd (frz:=[]) Yo (by kernel_rfl) ?_|refine eX ?_|refine eS ?_|refine eN ?_|refine oC (cl) ?_|refine eC (cl) ?_|(refine Yt ?_;refine r2 ?_;first|done|(exact .tup2 srcZ_to .refl))|((exfalso;first|(simp at h<;>fail)|(simp at h;omega)))|fail)
end Go.Av
end
noncomputable section
namespace Go.Av
open Go Go.Proofs
set_option maxRecDepth 10000
def smL {α:Type} (p:α→α→Bool):List α→List α→Bool
 |[],[]=>true
 |x :: a,y :: b=>p x y && smL p a b
 |_,_=>false
theorem smL_len {α:Type} {p:α→α→Bool}:∀ {a b:List α},a.length≠b.length→smL p a b=false
 |[],[],h=>absurd rfl h
 |[],_ :: _,_=>rfl
 |_ :: _,[],_=>rfl
 |x :: a,y :: b,h=>by
  have:smL p a b=false:=smL_len (by simpa using h)
  simp [smL,this]
theorem smL_at {α:Type} {p:α→α→Bool}:∀ {a b:List α} {i:Nat} {x y:α},a[i]?=some x→b[i]?=some y→p x y=false→smL p a b=false
 |[],_,i,x,y,h,_,_=>by simp at h
 |_ :: _,[],i,x,y,_,h,_=>by simp at h
 |u :: a,v :: b,0,x,y,h,k,hp=>by simp at h k;subst h k;simp [smL,hp]
 |u :: a,v :: b,i+1,x,y,h,k,hp=>by
  have:=smL_at (p:=p) (a:=a) (b:=b) (i:=i) (by simpa using h) (by simpa using k) hp
  simp [smL,this]
theorem smL_all {α:Type} {p:α→α→Bool}:∀ {a b:List α},a.length=b.length→(∀ (j:Nat) x y,a[j]?=some x→b[j]?=some y→p x y=true)→smL p a b=true
 |[],[],_,_=>rfl
 |[],_ :: _,h,_=>by simp at h
 |_ :: _,[],h,_=>by simp at h
 |x :: a,y :: b,h,hp=>by
  have h1:=hp 0 x y rfl rfl
  have h2:=smL_all (p:=p) (a:=a) (b:=b) (by simpa using h) (fun j u v hu hv=>hp (j+1) u v (by simpa using hu) (by simpa using hv))
  simp [smL,h1,h2]
theorem smL_self {α:Type} {p:α→α→Bool} {a:List α} (h:∀ x ∈ a,p x x=true):smL p a a=true :=
 smL_all rfl fun j x y hx hy=>by rw [hx] at hy;cases hy;exact h x (List.mem_of_getElem? hx)
theorem upTo_succ {α:Type} {a b:List α} {p:α→α→Bool} {i:Nat} {x y:α} (hi:∀ j:Nat,j<i→∀ u v,a[j]?=some u→b[j]?=some v→p u v=true) (hx:a[i]?=some x) (hy:b[i]?=some y) (h:p x y=true) :
  ∀ j:Nat,j<i+1→∀ u v,a[j]?=some u→b[j]?=some v→p u v=true:=by
 intro j hj u v hu hv
 rcases Nat.lt_or_ge j i with h1|h1
 ·exact hi j h1 u v hu hv
 ·have:j=i:=by omega
  subst this
  rw [hx] at hu;rw [hy] at hv;cases hu;cases hv;exact h
theorem upTo_all {α:Type} {a b:List α} {p:α→α→Bool} {i:Nat} (hl:a.length=b.length) (hge:a.length≤i) (hi:∀ j:Nat,j<i→∀ u v,a[j]?=some u→b[j]?=some v→p u v=true):smL p a b=true :=
 smL_all hl fun j u v hu hv=>hi j (Nat.lt_of_lt_of_le (List.getElem?_eq_some_iff.1 hu).1 hge) u v hu hv
def smR (x y:SRule):Bool:=decide (x.name=y.name) && decide (x.alts=y.alts)
def smX (a b:Src):Bool:=decide (a.k=b.k) && decide (a.sep=b.sep) && decide (a.start=b.start) && decide (a.tokens=b.tokens) && smL smR a.rules b.rules
theorem smR_self (x:SRule):smR x x=true:=by simp [smR]
theorem smX_self (a:Src):smX a a=true:=by simp [smX,smL_self fun x _=>smR_self x]
theorem textsR8 (a b:List (List Nat)) (hal:a.length≤1099511627776):KnownCall Try.prog 37 [strs a,strs b] (.d (.bool (decide (a=b)))):=by
 by_cases hlen:a.length=b.length
 ·refine knownE Yo (fnAt Try.func37 (by kernel_rfl) (by kernel_rfl):FnAt _ _ (mkFn Try.f37 [])) ?_
  repeat' (first|refine Yg ?_|refine Yq ?_|(refine oB (frz:=[]) Yo ?_ ?_<;>intro h<;>first|(exfalso;simp at h;first|done|omega)|skip)|(refine eB ?_ ?_<;>intro h<;>first|(exfalso;simp at h;first|done|omega)|skip)|refine oX (frz:=[]) Yo ?_|refine oS ?_|refine Yn ?_|refine Yk ?_|refine cT ?_|refine cF ?_|refine Yb ?_|refine Ye ?_|refine Yd (frz:=[]) Yo (by kernel_rfl) ?_|refine eX ?_|refine eS ?_|refine eN ?_|(refine Yt ?_;(first|refine rB ?_|refine rI ?_|refine rA ?_|refine rII ?_|refine rSI ?_|refine rT ?_|refine rS ?_);first|done|(skip))|((exfalso;first|(simp_all<;>fail)|(simp_all;omega)))|fail)
  refine Run.loop (fun i:Nat=>⟨PT.ofList [(0,.d (strs a)),(1,.d (strs b)),(5,.d (.int .i64 i))],[],[]⟩) (fun i=>i≤a.length∧a.take i=b.take i) (fun i=>a.length-i) 0 ⟨Nat.zero_le _,rfl⟩ (weak_of (by repeat' (first|exact trivial|refine⟨rfl,?_⟩))) (fun i hi=>?_)
  rcases Nat.lt_or_ge i a.length with hlt|hge
  ·obtain⟨x,hx⟩:=get_ok hlt
   obtain⟨y,hy⟩:=get_ok (show i<b.length by omega)
   by_cases hxy:x=y
   ·subst hxy
    have ht:a.take (i+1)=b.take (i+1):=by rw [List.take_add_one,List.take_add_one,hi.2,hx,hy]
    repeat' (first|refine Yg ?_|refine Yq ?_|(refine oB (frz:=[]) Yo ?_ ?_<;>intro h<;>first|(exfalso;simp at h;first|done|omega)|skip)|(refine eB ?_ ?_<;>intro h<;>first|(exfalso;simp at h;first|done|omega)|skip)|refine oX (frz:=[]) Yo ?_|refine oS ?_|refine Yn ?_|refine Yk ?_|refine cT ?_|refine cF ?_|refine Yb ?_|refine Ye ?_|refine Yd (frz:=[]) Yo (by kernel_rfl) ?_|refine eX ?_|refine eS ?_|refine eN ?_|refine oX (frz:=[]) (v:=.d (.ep [.str x])) Yo ?_ (hf:=(by first|(simp [inB]<;>fail)|(simp [inB];omega))) (he:=(by first|(simp [List.getD_eq_getElem?_getD,cellsD,hx]<;>fail)|fail))|refine eX (v:=.d (.ep [.str x])) ?_ (hf:=(by first|(simp [inB]<;>fail)|(simp [inB];omega))) (he:=(by first|(simp [List.getD_eq_getElem?_getD,cellsD,hx]<;>fail)|fail))|refine oX (frz:=[]) (v:=.d (.ep [.str x])) Yo ?_ (hf:=(by first|(simp [inB]<;>fail)|(simp [inB];omega))) (he:=(by first|(simp [List.getD_eq_getElem?_getD,cellsD,hy]<;>fail)|fail))|refine eX (v:=.d (.ep [.str x])) ?_ (hf:=(by first|(simp [inB]<;>fail)|(simp [inB];omega))) (he:=(by first|(simp [List.getD_eq_getElem?_getD,cellsD,hy]<;>fail)|fail))|(refine Yt ?_;(first|refine rB ?_|refine rI ?_|refine rA ?_|refine rII ?_|refine rSI ?_|refine rT ?_|refine rS ?_);first|done|(skip))|(exact⟨i+1,⟨hlt,ht⟩,by omega,weak_of (by repeat' (first|exact trivial|refine⟨rfl,?_⟩|refine⟨(inc_get (k:=i) (by kernel_rfl) (by omega)),?_⟩))⟩)|((exfalso;first|(simp_all<;>fail)|(simp_all;omega)))|fail)
   ·have hne:a≠b:=fun e=>by subst e;rw [hx] at hy;cases hy;exact hxy rfl
    rw [decide_eq_false hne]
    repeat' (first|refine Yg ?_|refine Yq ?_|(refine oB (frz:=[]) Yo ?_ ?_<;>intro h<;>first|(exfalso;simp at h;first|done|omega)|skip)|(refine eB ?_ ?_<;>intro h<;>first|(exfalso;simp at h;first|done|omega)|skip)|refine oX (frz:=[]) Yo ?_|refine oS ?_|refine Yn ?_|refine Yk ?_|refine cT ?_|refine cF ?_|refine Yb ?_|refine Ye ?_|refine Yd (frz:=[]) Yo (by kernel_rfl) ?_|refine eX ?_|refine eS ?_|refine eN ?_|refine oX (frz:=[]) (v:=.d (.ep [.str x])) Yo ?_ (hf:=(by first|(simp [inB]<;>fail)|(simp [inB];omega))) (he:=(by first|(simp [List.getD_eq_getElem?_getD,cellsD,hx]<;>fail)|fail))|refine eX (v:=.d (.ep [.str x])) ?_ (hf:=(by first|(simp [inB]<;>fail)|(simp [inB];omega))) (he:=(by first|(simp [List.getD_eq_getElem?_getD,cellsD,hx]<;>fail)|fail))|refine oX (frz:=[]) (v:=.d (.ep [.str y])) Yo ?_ (hf:=(by first|(simp [inB]<;>fail)|(simp [inB];omega))) (he:=(by first|(simp [List.getD_eq_getElem?_getD,cellsD,hy]<;>fail)|fail))|refine eX (v:=.d (.ep [.str y])) ?_ (hf:=(by first|(simp [inB]<;>fail)|(simp [inB];omega))) (he:=(by first|(simp [List.getD_eq_getElem?_getD,cellsD,hy]<;>fail)|fail))|(refine Yt ?_;(first|refine rB ?_|refine rI ?_|refine rA ?_|refine rII ?_|refine rSI ?_|refine rT ?_|refine rS ?_);first|done|(rfl))|((exfalso;first|(simp_all<;>fail)|(simp_all;omega)))|fail)
  ·have hie:i=a.length:=by have:=hi.1;omega
   have hab:a=b:=by have:=hi.2;rw [hie,List.take_length,hlen,List.take_length] at this;exact this
   rw [decide_eq_true hab]
   repeat' (first|refine Yg ?_|refine Yq ?_|(refine oB (frz:=[]) Yo ?_ ?_<;>intro h<;>first|(exfalso;simp at h;first|done|omega)|skip)|(refine eB ?_ ?_<;>intro h<;>first|(exfalso;simp at h;first|done|omega)|skip)|refine oX (frz:=[]) Yo ?_|refine oS ?_|refine Yn ?_|refine Yk ?_|refine cT ?_|refine cF ?_|refine Yb ?_|refine Ye ?_|refine Yd (frz:=[]) Yo (by kernel_rfl) ?_|refine eX ?_|refine eS ?_|refine eN ?_|(refine Yt ?_;(first|refine rB ?_|refine rI ?_|refine rA ?_|refine rII ?_|refine rSI ?_|refine rT ?_|refine rS ?_);first|done|(rfl))|((exfalso;first|(simp_all<;>fail)|(simp_all;omega)))|fail)
 ·have hne:a≠b:=fun e=>by subst e;exact hlen rfl
  rw [decide_eq_false hne]
  refine knownE Yo (fnAt Try.func37 (by kernel_rfl) (by kernel_rfl):FnAt _ _ (mkFn Try.f37 [])) ?_
  repeat' (first|refine Yg ?_|refine Yq ?_|(refine oB (frz:=[]) Yo ?_ ?_<;>intro h<;>first|(exfalso;simp at h;first|done|omega)|skip)|(refine eB ?_ ?_<;>intro h<;>first|(exfalso;simp at h;first|done|omega)|skip)|refine oX (frz:=[]) Yo ?_|refine oS ?_|refine Yn ?_|refine Yk ?_|refine cT ?_|refine cF ?_|refine Yb ?_|refine Ye ?_|refine Yd (frz:=[]) Yo (by kernel_rfl) ?_|refine eX ?_|refine eS ?_|refine eN ?_|(refine Yt ?_;(first|refine rB ?_|refine rI ?_|refine rA ?_|refine rII ?_|refine rSI ?_|refine rT ?_|refine rS ?_);first|done|(rfl))|((exfalso;first|(simp_all<;>fail)|(simp_all;omega)))|fail)
end Go.Av
end
noncomputable section
namespace Go.Av
open Go Go.Proofs
set_option maxRecDepth 10000
theorem sameR8 (a b:Src) (ha:FitsX a):KnownCall Try.prog 9 [encX a,encX b] (.d (.bool (smX a b))):=by
 have hat:=ha.tokens
 have har:=ha.rules
 have c1:=textsR8 a.tokens b.tokens (by omega)
 by_cases h0:a.k=b.k∧a.tokens=b.tokens∧a.sep=b.sep∧a.start=b.start∧a.rules.length=b.rules.length
 ·obtain⟨h1,h2,h3,h4,h5⟩:=h0
  have he:smX a b=smL smR a.rules b.rules:=by simp [smX,h1,h2,h3,h4]
  rw [he]
  rw [decide_eq_true h2] at c1
  refine knownE Yo (fnAt Try.func9 (by kernel_rfl) (by kernel_rfl):FnAt _ _ (mkFn Try.f9 [2,3])) ?_
  repeat' (first|refine Yg ?_|refine Yq ?_|(refine oB (frz:=[2,3]) Yo ?_ ?_<;>intro h<;>first|(exfalso;simp at h;first|done|omega)|skip)|(refine eB ?_ ?_<;>intro h<;>first|(exfalso;simp at h;first|done|omega)|skip)|refine oX (frz:=[2,3]) Yo ?_|refine oS ?_|refine Yn ?_|refine Yk ?_|refine cT ?_|refine cF ?_|refine Yb ?_|refine Ye ?_|refine Yd (frz:=[2,3]) Yo (by kernel_rfl) ?_|refine eX ?_|refine eS ?_|refine eN ?_|refine oC (c1) ?_|refine eC (c1) ?_|(refine Yt ?_;(first|refine rB ?_|refine rI ?_|refine rA ?_|refine rII ?_|refine rSI ?_|refine rT ?_|refine rS ?_);first|done|(skip))|((exfalso;first|(simp_all<;>fail)|(simp_all;omega)))|fail)
  refine Run.loopT (fun i:Nat=>⟨PT.ofList [(2,cellX a),(3,cellX b),(5,.d (.int .i64 i))],[],[]⟩) (fun i=>i≤a.rules.length∧∀ j:Nat,j<i→∀ u v,a.rules[j]?=some u→b.rules[j]?=some v→smR u v=true) (fun i=>a.rules.length-i) 0 ⟨Nat.zero_le _,fun j hj=>by omega⟩ (tidy_of (objs:=_) _ 0 (by rfl) rfl (by repeat' (first|exact trivial|refine⟨(Or.inl rfl),?_⟩|refine⟨(Or.inr rfl),?_⟩|fail)) (by repeat' (first|exact trivial|refine⟨rfl,?_⟩|fail)) rfl rfl) (fun i hi=>?_)
  rcases Nat.lt_or_ge i a.rules.length with hlt|hge
  ·obtain⟨x,hx⟩:=get_ok hlt
   obtain⟨y,hy⟩:=get_ok (show i<b.rules.length by omega)
   have hxal:=ha.alts x (List.mem_of_getElem? hx)
   by_cases hn:x.name=y.name∧x.alts.length=y.alts.length
   ·obtain⟨hn1,hn2⟩:=hn
    repeat' (first|refine Yg ?_|refine Yq ?_|(refine oB (frz:=[2,3]) Yo ?_ ?_<;>intro h<;>first|(exfalso;simp at h;first|done|omega)|skip)|(refine eB ?_ ?_<;>intro h<;>first|(exfalso;simp at h;first|done|omega)|skip)|refine oX (frz:=[2,3]) Yo ?_|refine oS ?_|refine Yn ?_|refine Yk ?_|refine cT ?_|refine cF ?_|refine Yb ?_|refine Ye ?_|refine Yd (frz:=[2,3]) Yo (by kernel_rfl) ?_|refine eX ?_|refine eS ?_|refine eN ?_|refine oX (frz:=[2,3]) (v:=.d (.ep [.str x.name,alts x.alts])) Yo ?_ (hf:=(by first|(simp [inB]<;>fail)|(simp [inB];omega))) (he:=(by first|(simp [List.getD_eq_getElem?_getD,cellsD,hx,encR]<;>fail)|fail))|refine eX (v:=.d (.ep [.str x.name,alts x.alts])) ?_ (hf:=(by first|(simp [inB]<;>fail)|(simp [inB];omega))) (he:=(by first|(simp [List.getD_eq_getElem?_getD,cellsD,hx,encR]<;>fail)|fail))|refine oX (frz:=[2,3]) (v:=.d (.ep [.str y.name,alts y.alts])) Yo ?_ (hf:=(by first|(simp [inB]<;>fail)|(simp [inB];omega))) (he:=(by first|(simp [List.getD_eq_getElem?_getD,cellsD,hy,encR]<;>fail)|fail))|refine eX (v:=.d (.ep [.str y.name,alts y.alts])) ?_ (hf:=(by first|(simp [inB]<;>fail)|(simp [inB];omega))) (he:=(by first|(simp [List.getD_eq_getElem?_getD,cellsD,hy,encR]<;>fail)|fail))|(refine Yt ?_;(first|refine rB ?_|refine rI ?_|refine rA ?_|refine rII ?_|refine rSI ?_|refine rT ?_|refine rS ?_);first|done|(skip))|((exfalso;first|(simp_all<;>fail)|(simp_all;omega)))|fail)
    refine Run.loopT (fun k:Nat=>⟨PT.ofList [(2,cellX a),(3,cellX b),(5,.d (.int .i64 i)),(6,.bp 0 0),(7,.bp 1 0),(8,.d (.int .i64 k))],[.box [.d (.str x.name),.d (alts x.alts)],.box [.d (.str y.name),.d (alts y.alts)]],[]⟩) (fun k=>k≤x.alts.length∧x.alts.take k=y.alts.take k) (fun k=>x.alts.length-k) 0 ⟨Nat.zero_le _,rfl⟩ (tidy_of (objs:=_) _ 2 (by rfl) rfl (by repeat' (first|exact trivial|refine⟨(Or.inl rfl),?_⟩|refine⟨(Or.inr rfl),?_⟩|fail)) (by repeat' (first|exact trivial|refine⟨rfl,?_⟩|fail)) rfl rfl) (fun k hk=>?_)
    rcases Nat.lt_or_ge k x.alts.length with hkl|hkg
    ·obtain⟨u,hu⟩:=get_ok hkl
     obtain⟨v,hv⟩:=get_ok (show k<y.alts.length by omega)
     have c2:=textsR8 u v (Nat.le_trans (ha.names x (List.mem_of_getElem? hx) u (List.mem_of_getElem? hu)) (by decide))
     by_cases huv:u=v
     ·subst huv
      rw [decide_eq_true rfl] at c2
      have ht:x.alts.take (k+1)=y.alts.take (k+1):=by rw [List.take_add_one,List.take_add_one,hk.2,hu,hv]
      repeat' (first|refine Yg ?_|refine Yq ?_|(refine oB (frz:=[2,3]) Yo ?_ ?_<;>intro h<;>first|(exfalso;simp at h;first|done|omega)|skip)|(refine eB ?_ ?_<;>intro h<;>first|(exfalso;simp at h;first|done|omega)|skip)|refine oX (frz:=[2,3]) Yo ?_|refine oS ?_|refine Yn ?_|refine Yk ?_|refine cT ?_|refine cF ?_|refine Yb ?_|refine Ye ?_|refine Yd (frz:=[2,3]) Yo (by kernel_rfl) ?_|refine eX ?_|refine eS ?_|refine eN ?_|refine oX (frz:=[2,3]) (v:=.d (.ep [strs u])) Yo ?_ (hf:=(by first|(simp [inB]<;>fail)|(simp [inB];omega))) (he:=(by first|(simp [List.getD_eq_getElem?_getD,cellsD,hu]<;>fail)|fail))|refine eX (v:=.d (.ep [strs u])) ?_ (hf:=(by first|(simp [inB]<;>fail)|(simp [inB];omega))) (he:=(by first|(simp [List.getD_eq_getElem?_getD,cellsD,hu]<;>fail)|fail))|refine oX (frz:=[2,3]) (v:=.d (.ep [strs u])) Yo ?_ (hf:=(by first|(simp [inB]<;>fail)|(simp [inB];omega))) (he:=(by first|(simp [List.getD_eq_getElem?_getD,cellsD,hv]<;>fail)|fail))|refine eX (v:=.d (.ep [strs u])) ?_ (hf:=(by first|(simp [inB]<;>fail)|(simp [inB];omega))) (he:=(by first|(simp [List.getD_eq_getElem?_getD,cellsD,hv]<;>fail)|fail))|refine oC (c2) ?_|refine eC (c2) ?_|(refine Yt ?_;(first|refine rB ?_|refine rI ?_|refine rA ?_|refine rII ?_|refine rSI ?_|refine rT ?_|refine rS ?_);first|done|(skip))|(exact⟨k+1,⟨hkl,ht⟩,by omega,(tidy_of (objs:=_) _ 2 (by rfl) rfl (by repeat' (first|exact trivial|refine⟨(Or.inl rfl),?_⟩|refine⟨(Or.inl (inc_get (k:=k) (by kernel_rfl) (by omega))),?_⟩|refine⟨(Or.inr rfl),?_⟩|fail)) (by repeat' (first|exact trivial|refine⟨rfl,?_⟩|fail)) rfl rfl)⟩)|((exfalso;first|(simp_all<;>fail)|(simp_all;omega)))|fail)
     ·rw [decide_eq_false huv] at c2
      have hne:smR x y=false:=by
       have:x.alts≠y.alts:=fun e=>by rw [e] at hu;rw [hu] at hv;cases hv;exact huv rfl
       simp [smR,this]
      rw [smL_at hx hy hne]
      repeat' (first|refine Yg ?_|refine Yq ?_|(refine oB (frz:=[2,3]) Yo ?_ ?_<;>intro h<;>first|(exfalso;simp at h;first|done|omega)|skip)|(refine eB ?_ ?_<;>intro h<;>first|(exfalso;simp at h;first|done|omega)|skip)|refine oX (frz:=[2,3]) Yo ?_|refine oS ?_|refine Yn ?_|refine Yk ?_|refine cT ?_|refine cF ?_|refine Yb ?_|refine Ye ?_|refine Yd (frz:=[2,3]) Yo (by kernel_rfl) ?_|refine eX ?_|refine eS ?_|refine eN ?_|refine oX (frz:=[2,3]) (v:=.d (.ep [strs u])) Yo ?_ (hf:=(by first|(simp [inB]<;>fail)|(simp [inB];omega))) (he:=(by first|(simp [List.getD_eq_getElem?_getD,cellsD,hu]<;>fail)|fail))|refine eX (v:=.d (.ep [strs u])) ?_ (hf:=(by first|(simp [inB]<;>fail)|(simp [inB];omega))) (he:=(by first|(simp [List.getD_eq_getElem?_getD,cellsD,hu]<;>fail)|fail))|refine oX (frz:=[2,3]) (v:=.d (.ep [strs v])) Yo ?_ (hf:=(by first|(simp [inB]<;>fail)|(simp [inB];omega))) (he:=(by first|(simp [List.getD_eq_getElem?_getD,cellsD,hv]<;>fail)|fail))|refine eX (v:=.d (.ep [strs v])) ?_ (hf:=(by first|(simp [inB]<;>fail)|(simp [inB];omega))) (he:=(by first|(simp [List.getD_eq_getElem?_getD,cellsD,hv]<;>fail)|fail))|refine oC (c2) ?_|refine eC (c2) ?_|(refine Yt ?_;(first|refine rB ?_|refine rI ?_|refine rA ?_|refine rII ?_|refine rSI ?_|refine rT ?_|refine rS ?_);first|done|(rfl))|((exfalso;first|(simp_all<;>fail)|(simp_all;omega)))|fail)
    ·have hke:k=x.alts.length:=by have:=hk.1;omega
     have hal:x.alts=y.alts:=by have:=hk.2;rw [hke,List.take_length,hn2,List.take_length] at this;exact this
     have hexy:smR x y=true:=by simp [smR,hn1,hal]
     have ht:=upTo_succ hi.2 hx hy hexy
     repeat' (first|refine Yg ?_|refine Yq ?_|(refine oB (frz:=[2,3]) Yo ?_ ?_<;>intro h<;>first|(exfalso;simp at h;first|done|omega)|skip)|(refine eB ?_ ?_<;>intro h<;>first|(exfalso;simp at h;first|done|omega)|skip)|refine oX (frz:=[2,3]) Yo ?_|refine oS ?_|refine Yn ?_|refine Yk ?_|refine cT ?_|refine cF ?_|refine Yb ?_|refine Ye ?_|refine Yd (frz:=[2,3]) Yo (by kernel_rfl) ?_|refine eX ?_|refine eS ?_|refine eN ?_|(refine Yt ?_;(first|refine rB ?_|refine rI ?_|refine rA ?_|refine rII ?_|refine rSI ?_|refine rT ?_|refine rS ?_);first|done|(skip))|(exact⟨i+1,⟨hlt,ht⟩,by omega,(tidy_of (objs:=_) _ 0 (by rfl) rfl (by repeat' (first|exact trivial|refine⟨(Or.inl rfl),?_⟩|refine⟨(Or.inl (inc_get (k:=i) (by kernel_rfl) (by omega))),?_⟩|refine⟨(Or.inr rfl),?_⟩|fail)) (by repeat' (first|exact trivial|refine⟨rfl,?_⟩|fail)) rfl rfl)⟩)|((exfalso;first|(simp_all<;>fail)|(simp_all;omega)))|fail)
   ·have hne:smR x y=false:=by
     cases hb:smR x y with
     |false=>rfl
     |true =>
      simp only [smR,Bool.and_eq_true,decide_eq_true_eq] at hb
      exact absurd ⟨hb.1,by rw [hb.2]⟩ hn
    rw [smL_at hx hy hne]
    by_cases hn1:x.name=y.name
    ·have hn2:x.alts.length≠y.alts.length:=fun e=>hn ⟨hn1,e⟩
     repeat' (first|refine Yg ?_|refine Yq ?_|(refine oB (frz:=[2,3]) Yo ?_ ?_<;>intro h<;>first|(exfalso;simp at h;first|done|omega)|skip)|(refine eB ?_ ?_<;>intro h<;>first|(exfalso;simp at h;first|done|omega)|skip)|refine oX (frz:=[2,3]) Yo ?_|refine oS ?_|refine Yn ?_|refine Yk ?_|refine cT ?_|refine cF ?_|refine Yb ?_|refine Ye ?_|refine Yd (frz:=[2,3]) Yo (by kernel_rfl) ?_|refine eX ?_|refine eS ?_|refine eN ?_|refine oX (frz:=[2,3]) (v:=.d (.ep [.str x.name,alts x.alts])) Yo ?_ (hf:=(by first|(simp [inB]<;>fail)|(simp [inB];omega))) (he:=(by first|(simp [List.getD_eq_getElem?_getD,cellsD,hx,encR]<;>fail)|fail))|refine eX (v:=.d (.ep [.str x.name,alts x.alts])) ?_ (hf:=(by first|(simp [inB]<;>fail)|(simp [inB];omega))) (he:=(by first|(simp [List.getD_eq_getElem?_getD,cellsD,hx,encR]<;>fail)|fail))|refine oX (frz:=[2,3]) (v:=.d (.ep [.str y.name,alts y.alts])) Yo ?_ (hf:=(by first|(simp [inB]<;>fail)|(simp [inB];omega))) (he:=(by first|(simp [List.getD_eq_getElem?_getD,cellsD,hy,encR]<;>fail)|fail))|refine eX (v:=.d (.ep [.str y.name,alts y.alts])) ?_ (hf:=(by first|(simp [inB]<;>fail)|(simp [inB];omega))) (he:=(by first|(simp [List.getD_eq_getElem?_getD,cellsD,hy,encR]<;>fail)|fail))|(refine Yt ?_;(first|refine rB ?_|refine rI ?_|refine rA ?_|refine rII ?_|refine rSI ?_|refine rT ?_|refine rS ?_);first|done|(rfl))|((exfalso;(simp [hn1] at h<;>fail)))|((exfalso;(simp [hn2] at h<;>fail)))|((exfalso;(simp at h<;>omega)))|fail)
    ·have hnb:(x.name == y.name)=false:=by simpa using hn1
     repeat' (first|refine oX (frz:=[2,3]) (v:=.d (.bool true)) Yo ?_ (he:=(congrArg (fun b=>AV.d (.bool (!b))) hnb))|refine eX (v:=.d (.bool true)) ?_ (he:=(congrArg (fun b=>AV.d (.bool (!b))) hnb))|refine Yg ?_|refine Yq ?_|(refine oB (frz:=[2,3]) Yo ?_ ?_<;>intro h<;>first|(exfalso;simp at h;first|done|omega)|skip)|(refine eB ?_ ?_<;>intro h<;>first|(exfalso;simp at h;first|done|omega)|skip)|refine oX (frz:=[2,3]) Yo ?_|refine oS ?_|refine Yn ?_|refine Yk ?_|refine cT ?_|refine cF ?_|refine Yb ?_|refine Ye ?_|refine Yd (frz:=[2,3]) Yo (by kernel_rfl) ?_|refine eX ?_|refine eS ?_|refine eN ?_|refine oX (frz:=[2,3]) (v:=.d (.ep [.str x.name,alts x.alts])) Yo ?_ (hf:=(by first|(simp [inB]<;>fail)|(simp [inB];omega))) (he:=(by first|(simp [List.getD_eq_getElem?_getD,cellsD,hx,encR]<;>fail)|fail))|refine eX (v:=.d (.ep [.str x.name,alts x.alts])) ?_ (hf:=(by first|(simp [inB]<;>fail)|(simp [inB];omega))) (he:=(by first|(simp [List.getD_eq_getElem?_getD,cellsD,hx,encR]<;>fail)|fail))|refine oX (frz:=[2,3]) (v:=.d (.ep [.str y.name,alts y.alts])) Yo ?_ (hf:=(by first|(simp [inB]<;>fail)|(simp [inB];omega))) (he:=(by first|(simp [List.getD_eq_getElem?_getD,cellsD,hy,encR]<;>fail)|fail))|refine eX (v:=.d (.ep [.str y.name,alts y.alts])) ?_ (hf:=(by first|(simp [inB]<;>fail)|(simp [inB];omega))) (he:=(by first|(simp [List.getD_eq_getElem?_getD,cellsD,hy,encR]<;>fail)|fail))|(refine Yt ?_;(first|refine rB ?_|refine rI ?_|refine rA ?_|refine rII ?_|refine rSI ?_|refine rT ?_|refine rS ?_);first|done|(rfl))|((exfalso;(simp at h<;>omega)))|fail)
  ·rw [upTo_all h5 hge hi.2]
   have hie:i=a.rules.length:=by have:=hi.1;omega
   subst hie
   repeat' (first|refine Yg ?_|refine Yq ?_|(refine oB (frz:=[2,3]) Yo ?_ ?_<;>intro h<;>first|(exfalso;simp at h;first|done|omega)|skip)|(refine eB ?_ ?_<;>intro h<;>first|(exfalso;simp at h;first|done|omega)|skip)|refine oX (frz:=[2,3]) Yo ?_|refine oS ?_|refine Yn ?_|refine Yk ?_|refine cT ?_|refine cF ?_|refine Yb ?_|refine Ye ?_|refine Yd (frz:=[2,3]) Yo (by kernel_rfl) ?_|refine eX ?_|refine eS ?_|refine eN ?_|(refine Yt ?_;(first|refine rB ?_|refine rI ?_|refine rA ?_|refine rII ?_|refine rSI ?_|refine rT ?_|refine rS ?_);first|done|(rfl))|((exfalso;first|(simp_all<;>fail)|(simp_all;omega)))|fail)
 ·have hf:smX a b=false:=by
   cases hb:smX a b with
   |false=>rfl
   |true =>
    simp only [smX,Bool.and_eq_true,decide_eq_true_eq] at hb
    obtain⟨⟨⟨⟨g1,g2⟩,g3⟩,g4⟩,g5⟩:=hb
    refine absurd ⟨g1,g4,g2,g3,Classical.byContradiction fun hl=>?_⟩ h0
    rw [smL_len hl] at g5;cases g5
  rw [hf]
  generalize hbt:decide (a.tokens=b.tokens)=bt at c1
  refine knownE Yo (fnAt Try.func9 (by kernel_rfl) (by kernel_rfl):FnAt _ _ (mkFn Try.f9 [2,3])) ?_
  repeat' (first|refine Yg ?_|refine Yq ?_|(refine oB (frz:=[2,3]) Yo ?_ ?_<;>intro h<;>first|(exfalso;simp at h;first|done|omega)|skip)|(refine eB ?_ ?_<;>intro h<;>first|(exfalso;simp at h;first|done|omega)|skip)|refine oX (frz:=[2,3]) Yo ?_|refine oS ?_|refine Yn ?_|refine Yk ?_|refine cT ?_|refine cF ?_|refine Yb ?_|refine Ye ?_|refine Yd (frz:=[2,3]) Yo (by kernel_rfl) ?_|refine eX ?_|refine eS ?_|refine eN ?_|(refine oK (c1) ?_ ?_<;>intro h<;>first|(exfalso;simp at h;first|done|omega)|skip)|refine oC (c1) ?_|(refine eK (c1) ?_ ?_<;>intro h<;>first|(exfalso;simp at h;first|done|omega)|skip)|refine eC (c1) ?_|(refine Yt ?_;(first|refine rB ?_|refine rI ?_|refine rA ?_|refine rII ?_|refine rSI ?_|refine rT ?_|refine rS ?_);first|done|(rfl))|fail)
  exfalso
  rename_i g1 g2 g3 g4 g5
  have e1:=g1
  simp at e1
  have e4:=g4
  simp at e4
  have e5:=g5
  simp at e5
  have e6:=h
  simp at e6
  exact h0 ⟨e1,of_decide_eq_true (hbt.trans g2),e4,e5,by omega⟩
end Go.Av
end
noncomputable section
namespace Go.Av
open Go Go.Proofs
set_option maxRecDepth 10000
theorem evC {f:FuncId} {args:List AV} {objs objs':List Ob} {r:AV} {n k:Nat} (h:evCall Et Ft.get? (hdl Et Ft.get? k n) k f args objs=some (r,objs')):ACall Try.prog f args objs r objs' :=
 evCall_ok Yo (hdl_ok Yo (by kernel_rfl) Ft_ok k n) (by kernel_rfl) Ft_ok h
abbrev byV (l:List Nat):List AV:=l.map fun n=>.d (.int .u8 (n:Nat))
abbrev vecB (l:List Nat):Ob:=.vec 5 false 1 l.length (byV l)
abbrev bld0 (T:TypeId):Ob:=.tb T [.d .nilptr,.d .nilsl]
abbrev bld (T:TypeId) (i j n:Nat):Ob:=.tb T [.bp i 0,.vs j 1 0 n]
theorem bytesA_map {l:List Nat} (h:∀ x ∈ l,x<256):bytesA (byV l)=some l:=by
 induction l with
 |nil=>rfl
 |cons a l ih =>
  have h1:=h a (by simp)
  simp only [List.map_cons,bytesA,ih (fun x hx=>h x (by simp [hx])),byteA]
  rw [if_pos (by simp;omega)]
  simp
theorem chk0P (b:AV):ACall Try.prog 63 [.bp 0 0] [.tb 60 [.d .nilptr,b]] (.tup []) [.tb 60 [.bp 0 0,b]]:=evC (n:=3) (k:=100) (by kernel_rfl)
theorem chk1P (n:Nat) (l:List AV) (m:Nat):ACall Try.prog 63 [.bp 0 0] [bld 60 0 1 n,.vec 5 false 1 m l] (.tup []) [bld 60 0 1 n,.vec 5 false 1 m l]:=evC (n:=3) (k:=100) (by kernel_rfl)
end Go.Av
end
noncomputable section
namespace Go.Av
open Go Go.Proofs
set_option maxRecDepth 10000
theorem flat_by (s:List Nat):(flatD (s.map fun(n:Nat)=>DV.int .u8 n)).map AV.d=byV s:=by
 induction s with
 |nil=>rfl
 |cons a s ih =>
  simp only [flatD,List.map_cons,List.flatMap_cons,cellsD,List.cons_append,List.nil_append]
  exact congrArg _ ih
theorem srcSz_by (s:List Nat):srcSz 1 1 (s.map fun(n:Nat)=>DV.int .u8 n)=1:=by cases s<;>rfl
section
variable {H:Hd} {frz:List Nat} {rd:Operand→AV} {objs:List Ob} {o:Oper} {args:Array Operand} {tys:Array TypeId} {a b:Operand}
theorem appS0 {s:List Nat} (hlen:s.length≤1099511627776) (hop:o.op=.call ⟨.builtin .append,args,tys⟩:=by rfl) (ha:args.toList=[a,b]:=by rfl) (ht:tys.toList=[56,9]:=by rfl)
  (hv:hintV o.dst frz=true:=by rfl) (h7:rd a=.d .nilsl:=by rfl) (h8:rd b=.d (.str s):=by rfl) :
  evAny Et H frz rd objs o=some (.vs objs.length 1 0 s.length,some (objs++[vecB s]),true):=by
 obtain⟨dst,op,ty,pos,after,guard⟩:=o
 simp only at hop hv
 subst hop
 have h1:Et.get? 56=some ty56:=rfl
 have h2:Et.get? 9=some ty9:=rfl
 have h3:Et.get? 5=some ty5:=rfl
 have hm:Nat.ble (s.length*1) 1099511627776=true:=Nat.ble_eq_true_of_le (by omega)
 have h4:appSrc Et ty5 9 (.d (.str s)) objs=some (1,s.map fun(n:Nat)=>.int .u8 n):=rfl
 have h5:=flat_by s
 simp only [evAny,ha,ht,hv,appendR,h1,ty56,appSrc0,h3,h7,h8,h4]
 simp only [ty5,srcSz_by,List.length_map,h5,hm]
 rfl
theorem appS1 {s l:List Nat} {i n:Nat} (hlen:(l++s).length≤1099511627776) (hop:o.op=.call ⟨.builtin .append,args,tys⟩:=by rfl) (ha:args.toList=[a,b]:=by rfl) (ht:tys.toList=[56,9]:=by rfl)
  (hv:hintV o.dst frz=true:=by rfl) (h7:rd a=.vs i 1 0 n:=by rfl) (h8:rd b=.d (.str s):=by rfl) (hn:n=l.length:=by rfl) (h9:objs[i]?=some (vecB l):=by rfl) :
  evAny Et H frz rd objs o=some (.vs objs.length 1 0 (l++s).length,some (objs.set i .gone++[vecB (l++s)]),true):=by
 obtain⟨dst,op,ty,pos,after,guard⟩:=o
 simp only at hop hv
 subst hop hn
 simp only [List.length_append] at hlen
 have h1:Et.get? 56=some ty56:=rfl
 have h2:Et.get? 9=some ty9:=rfl
 have h3:Et.get? 5=some ty5:=rfl
 have hm:Nat.ble ((l.length+s.length)*1) 1099511627776=true:=Nat.ble_eq_true_of_le (by omega)
 have hb:Nat.ble l.length l.length=true:=Nat.ble_eq_true_of_le (Nat.le_refl _)
 have h4:appSrc Et ty5 9 (.d (.str s)) objs=some (1,s.map fun(n:Nat)=>.int .u8 n):=rfl
 have h5:=flat_by s
 have h6:(byV l).take (l.length*1)++byV s=byV (l++s):=by rw [Nat.mul_one,List.take_of_length_le (by simp),byV,byV,byV,List.map_append]
 have h10:(l++s).length=l.length+s.length:=List.length_append
 simp only [evAny,ha,ht,hv,appendR,h1,ty56,appSrc0,h3,h7,h8,h4,h9]
 simp only [ty5,srcSz_by,List.length_map,h5,hm,hb,h6,vecB,h10]
 rfl
end
theorem wr0P (s:List Nat) (hs:s.length≤1099511627776):ACall Try.prog 50 [.bp 0 0,.d (.str s)] [bld0 60] (.tup [.d (.int .i64 s.length),.d .niliface]) [bld 60 0 1 s.length,vecB s]:=by
 refine acall_of_run Yo (fnAt Try.func50 (by kernel_rfl) (by kernel_rfl):FnAt _ _ (mkFn Try.f50 [65550])) rfl rfl ?_
 repeat (first|refine Yg ?_|refine Yq ?_|refine Yn ?_|refine Yk ?_|refine cT ?_|refine cF ?_|refine Yb ?_|refine Ye ?_|refine eN ?_|refine Yd (frz:=[65550]) Yo (by kernel_rfl) ?_)
 iterate 2 refine oX (frz:=[65550]) Yo ?_
 repeat (first|refine Yg ?_|refine Yq ?_|refine Yn ?_|refine Yk ?_|refine cT ?_|refine cF ?_|refine Yb ?_|refine Ye ?_|refine eN ?_|refine Yd (frz:=[65550]) Yo (by kernel_rfl) ?_)
 refine oX (frz:=[65550]) Yo ?_
 refine RunOps.call (by rfl) (by rfl) (chk0P _) (by rfl) (by rfl) ?_
 repeat (first|refine Yg ?_|refine Yq ?_|refine Yn ?_|refine Yk ?_|refine cT ?_|refine cF ?_|refine Yb ?_|refine Ye ?_|refine eN ?_|refine Yd (frz:=[65550]) Yo (by kernel_rfl) ?_)
 iterate 6 refine oX (frz:=[65550]) Yo ?_
 refine oX (frz:=[65550]) Yo ?_ (hv:=appS0 hs)
 iterate 3 refine oX (frz:=[65550]) Yo ?_
 repeat (first|refine Yg ?_|refine Yq ?_|refine Yn ?_|refine Yk ?_|refine cT ?_|refine cF ?_|refine Yb ?_|refine Ye ?_|refine eN ?_|refine Yd (frz:=[65550]) Yo (by kernel_rfl) ?_)
 iterate 4 refine oX (frz:=[65550]) Yo ?_
 repeat (first|refine Yg ?_|refine Yq ?_|refine Yn ?_|refine Yk ?_|refine cT ?_|refine cF ?_|refine Yb ?_|refine Ye ?_|refine eN ?_|refine Yd (frz:=[65550]) Yo (by kernel_rfl) ?_)
 refine Yt ?_
 exact⟨trivial,rfl,rfl⟩
theorem wr1P (l s:List Nat) (hs:(l++s).length≤1099511627776):ACall Try.prog 50 [.bp 0 0,.d (.str s)] [bld 60 0 1 l.length,vecB l] (.tup [.d (.int .i64 s.length),.d .niliface]) [bld 60 0 2 (l++s).length,.gone,vecB (l++s)]:=by
 refine acall_of_run Yo (fnAt Try.func50 (by kernel_rfl) (by kernel_rfl):FnAt _ _ (mkFn Try.f50 [65550])) rfl rfl ?_
 repeat (first|refine Yg ?_|refine Yq ?_|refine Yn ?_|refine Yk ?_|refine cT ?_|refine cF ?_|refine Yb ?_|refine Ye ?_|refine eN ?_|refine Yd (frz:=[65550]) Yo (by kernel_rfl) ?_)
 iterate 2 refine oX (frz:=[65550]) Yo ?_
 repeat (first|refine Yg ?_|refine Yq ?_|refine Yn ?_|refine Yk ?_|refine cT ?_|refine cF ?_|refine Yb ?_|refine Ye ?_|refine eN ?_|refine Yd (frz:=[65550]) Yo (by kernel_rfl) ?_)
 refine oX (frz:=[65550]) Yo ?_
 refine RunOps.call (by rfl) (by rfl) (chk1P _ _ _) (by rfl) (by rfl) ?_
 repeat (first|refine Yg ?_|refine Yq ?_|refine Yn ?_|refine Yk ?_|refine cT ?_|refine cF ?_|refine Yb ?_|refine Ye ?_|refine eN ?_|refine Yd (frz:=[65550]) Yo (by kernel_rfl) ?_)
 iterate 6 refine oX (frz:=[65550]) Yo ?_
 refine oX (frz:=[65550]) Yo ?_ (hv:=appS1 hs)
 iterate 3 refine oX (frz:=[65550]) Yo ?_
 repeat (first|refine Yg ?_|refine Yq ?_|refine Yn ?_|refine Yk ?_|refine cT ?_|refine cF ?_|refine Yb ?_|refine Ye ?_|refine eN ?_|refine Yd (frz:=[65550]) Yo (by kernel_rfl) ?_)
 iterate 4 refine oX (frz:=[65550]) Yo ?_
 repeat (first|refine Yg ?_|refine Yq ?_|refine Yn ?_|refine Yk ?_|refine cT ?_|refine cF ?_|refine Yb ?_|refine Ye ?_|refine eN ?_|refine Yd (frz:=[65550]) Yo (by kernel_rfl) ?_)
 refine Yt ?_
 exact⟨trivial,rfl,rfl⟩
end Go.Av
end
noncomputable section
namespace Go.Av
open Go Go.Proofs
set_option maxRecDepth 10000
section
variable {H:Hd} {frz:List Nat} {rd:Operand→AV} {objs:List Ob} {o:Oper} {args:Array Operand} {tys:Array TypeId} {a b:Operand}
theorem dataOf {i sz n:Nat} (h0:0<n) (hop:o.op=.call ⟨.builtin .unsafeSliceData,args,tys⟩:=by rfl) (ha:args.toList=[a]:=by rfl) (ht:tys.toList=[56]:=by rfl) (h7:rd a=.vs i sz 0 n:=by rfl) :
  evAny Et H frz rd objs o=some (.bp i 0,none,true):=by
 obtain⟨dst,op,ty,pos,after,guard⟩:=o
 simp only at hop
 subst hop
 have hlt:Nat.blt 0 n=true:=by rw [Nat.blt_eq];exact h0
 show((evOp Et rd objs (.call ⟨.builtin .unsafeSliceData,args,tys⟩)).map fun p=>(p.1,none,p.2.2))=_
 simp only [evOp,ha,ht,sliceDataR,h7,hlt]
 rfl
theorem strOf {l:List Nat} {i n:Nat} (h0:0<l.length) (hb:∀ x ∈ l,x<256) (hop:o.op=.call ⟨.builtin .unsafeString,args,tys⟩:=by rfl) (ha:args.toList=[a,b]:=by rfl) (ht:tys.toList=[101,3]:=by rfl)
  (h7:rd a=.bp i 0:=by rfl) (h8:rd b=.d (.int .i64 (n:Nat)):=by rfl) (hn:n=l.length:=by rfl) (h9:objs[i]?=some (vecB l):=by rfl) :
  evAny Et H frz rd objs o=some (.d (.str l),some (objs.set i .gone),true):=by
 obtain⟨dst,op,ty,pos,after,guard⟩:=o
 simp only at hop
 subst hop hn
 have h1:Et.get? 101=some ty101:=rfl
 have hB:isByteT Et 5=true:=rfl
 have hle:Nat.ble l.length l.length=true:=Nat.ble_eq_true_of_le (Nat.le_refl _)
 have hbb:bytesA ((byV l).take l.length)=some l:=by rw [List.take_of_length_le (by simp)];exact bytesA_map hb
 have hd:decide ((0:Int)<(l.length:Nat))=true:=by rw [decide_eq_true_eq];omega
 show((evOp Et rd objs (.call ⟨.builtin .unsafeString,args,tys⟩)).map fun p=>(p.1,some p.2.1,p.2.2))=_
 simp only [evOp,ha,ht,unsafeStrR,h7,h8,h1,ty101,h9,vecB,hB,hle,hbb,hd,Int.toNat_natCast]
 rfl
end
theorem str1P (l:List Nat) (h0:0<l.length) (hb:∀ x ∈ l,x<256):ACall Try.prog 23 [.bp 0 0] [bld 60 0 1 l.length,vecB l] (.d (.str l)) [bld 60 0 1 l.length,.gone]:=by
 refine acall_of_run Yo (fnAt Try.func23 (by kernel_rfl) (by kernel_rfl):FnAt _ _ (mkFn Try.f23 [])) rfl rfl ?_
 repeat (first|refine Yg ?_|refine Yq ?_|refine Yn ?_|refine Yk ?_|refine cT ?_|refine cF ?_|refine Yb ?_|refine Ye ?_|refine eN ?_|refine Yd (frz:=[]) Yo (by kernel_rfl) ?_)
 refine oX (frz:=[]) Yo ?_
 repeat (first|refine Yg ?_|refine Yq ?_|refine Yn ?_|refine Yk ?_|refine cT ?_|refine cF ?_|refine Yb ?_|refine Ye ?_|refine eN ?_|refine Yd (frz:=[]) Yo (by kernel_rfl) ?_)
 iterate 4 refine eX ?_
 refine eX ?_ (hv:=dataOf h0)
 iterate 5 refine eX ?_
 refine eX ?_ (hv:=strOf h0 hb)
 refine eX ?_
 refine eN ?_
 repeat (first|refine Yg ?_|refine Yq ?_|refine Yn ?_|refine Yk ?_|refine cT ?_|refine cF ?_|refine Yb ?_|refine Ye ?_|refine eN ?_|refine Yd (frz:=[]) Yo (by kernel_rfl) ?_)
 refine Yt ?_
 exact⟨trivial,rfl,rfl⟩
end Go.Av
end
noncomputable section
namespace Go.Av
open Go Go.Proofs
set_option maxRecDepth 10000
def stB (T:TypeId) (k:Nat) (l:List Nat):List Ob:=bld T 0 (k+1) l.length :: (List.replicate k .gone++[vecB l])
theorem stB_len (T:TypeId) (k:Nat) (l:List Nat):(stB T k l).length=k+2:=by simp [stB]
theorem stB_row (T:TypeId) (k:Nat) (l:List Nat):(stB T k l)[k+1]?=some (vecB l):=by
 simp only [stB,List.getElem?_cons_succ]
 rw [List.getElem?_append_right (by simp)];simp
theorem stB_mid (T:TypeId) (k p:Nat) (l:List Nat) (h0:0<p) (hp:p<k+1):(stB T k l)[p]?=some .gone:=by
 obtain⟨q,rfl⟩:∃ q,p=q+1:=⟨p-1,by omega⟩
 simp only [stB,List.getElem?_cons_succ]
 rw [List.getElem?_append_left (by simp;omega),List.getElem?_replicate,if_pos (by omega)]
theorem reA_by (ρ:Nat→Nat) (l:List Nat):(byV l).map (reA ρ 8)=byV l:=by
 rw [byV,List.map_map];rfl
theorem okA_by (n:Nat) (l:List Nat):(byV l).all (okA n 8)=true:=by
 rw [List.all_eq_true];intro x hx;simp only [byV,List.mem_map] at hx;obtain⟨y,_,rfl⟩:=hx;rfl
theorem reO_vec (ρ:Nat→Nat) (l:List Nat):reO ρ (vecB l)=vecB l:=by
 show Ob.vec _ _ _ _ ((byV l).map (reA ρ 8))=_
 rw [reA_by]
theorem wrSP (k:Nat) (l s:List Nat) (hs:(l++s).length≤1099511627776):ACall Try.prog 50 [.bp 0 0,.d (.str s)] (stB 60 k l) (.tup [.d (.int .i64 s.length),.d .niliface]) (stB 60 (k+1) (l++s)):=by
 have hlen:=stB_len 60 k l
 have h:=(wr1P l s hs).embed rfl (Big:=stB 60 k l) (Big':=stB 60 (k+1) (l++s)) (pos:=[0,k+1]) rfl (by simp) (fun i ob hi=>?_) ?_ rfl ?_ (fun p hp hn=>?_) (fun i ob hi=>?_)
 ·exact h
 ·match i with
  |0=>simp at hi;subst hi;exact⟨0,rfl,rfl⟩
  |1=>simp at hi;subst hi;exact⟨k+1,rfl,by rw [reO_vec];exact stB_row _ _ _⟩
  |i+2=>simp at hi
 ·simp only [List.all_cons,List.all_nil,Bool.and_true,Bool.and_eq_true]
  exact⟨rfl,okA_by _ _⟩
 ·rw [hlen,stB_len];rfl
 ·simp only [List.mem_cons,List.not_mem_nil,or_false,not_or] at hn
  rw [stB_mid _ _ _ _ (by omega) (by omega),stB_mid _ _ _ _ (by omega) (by omega)]
 ·match i with
  |0=>obtain rfl:=Option.some.inj hi;rw [hlen];rfl
  |1=>obtain rfl:=Option.some.inj hi;exact stB_mid 60 (k+1) (k+1) (l++s) (by omega) (by omega)
  |2 =>
   obtain rfl:=Option.some.inj hi
   rw [reO_vec,hlen]
   exact stB_row 60 (k+1) (l++s)
  |i+3=>simp at hi
theorem strSP (k:Nat) (l:List Nat) (h0:0<l.length) (hb:∀ x ∈ l,x<256):ACall Try.prog 23 [.bp 0 0] (stB 60 k l) (.d (.str l)) (bld 60 0 (k+1) l.length :: List.replicate (k+1) .gone):=by
 have hlen:=stB_len 60 k l
 have h:=(str1P l h0 hb).embed rfl (Big:=stB 60 k l) (Big':=bld 60 0 (k+1) l.length :: List.replicate (k+1) .gone) (pos:=[0,k+1]) rfl (by simp) (fun i ob hi=>?_) ?_ rfl ?_ (fun p hp hn=>?_) (fun i ob hi=>?_)
 ·exact h
 ·match i with
  |0=>simp at hi;subst hi;exact⟨0,rfl,rfl⟩
  |1=>simp at hi;subst hi;exact⟨k+1,rfl,by rw [reO_vec];exact stB_row _ _ _⟩
  |i+2=>simp at hi
 ·simp only [List.all_cons,List.all_nil,Bool.and_true,Bool.and_eq_true]
  exact⟨rfl,okA_by _ _⟩
 ·rw [hlen];simp
 ·simp only [List.mem_cons,List.not_mem_nil,or_false,not_or] at hn
  obtain⟨q,rfl⟩:∃ q,p=q+1:=⟨p-1,by omega⟩
  rw [stB_mid _ _ _ _ (by omega) (by omega),List.getElem?_cons_succ,List.getElem?_replicate,if_pos (by omega)]
 ·match i with
  |0=>simp at hi;subst hi;rfl
  |1=>simp at hi;subst hi;simp [atOf,reO]
  |i+2=>simp at hi
theorem putS (k:Nat) (l:List Nat) (ss:List (List Nat)) (hs:(l++ss.flatten).length≤1099511627776) (hl:ss.length≤1099511627776):ACall Try.prog 21 [.bp 0 0,.d (strs ss)] (stB 60 k l) (.tup []) (stB 60 (k+ss.length) (l++ss.flatten)):=by
 refine acall_of_run Yo (fnAt Try.func21 (by kernel_rfl) (by kernel_rfl):FnAt _ _ (mkFn Try.f21 [])) rfl rfl ?_
 repeat (first|refine Yg ?_|refine Yq ?_|refine Yn ?_|refine Yk ?_|refine cT ?_|refine cF ?_|refine Yb ?_|refine Ye ?_|refine eN ?_|refine Yd (frz:=[]) Yo (by kernel_rfl) ?_)
 iterate 3 refine oX (frz:=[]) Yo ?_
 repeat (first|refine Yg ?_|refine Yq ?_|refine Yn ?_|refine Yk ?_|refine cT ?_|refine cF ?_|refine Yb ?_|refine Ye ?_|refine eN ?_|refine Yd (frz:=[]) Yo (by kernel_rfl) ?_)
 refine Run.loop (fun i:Nat=>⟨PT.ofList [(0,.bp 0 0),(6,.d (strs ss)),(7,.d (.int .i64 ss.length)),(8,.d (.int .i64 i))],stB 60 (k+i) (l++(ss.take i).flatten),[]⟩) (fun i=>i≤ss.length) (fun i=>ss.length-i) 0 (Nat.zero_le _) (weak_of' (by simp) rfl ⟨rfl,rfl,congrArg (fun n:Nat=>some (AV.d (.int .i64 (n:Int)))) (List.length_map ..),rfl,trivial⟩) (fun i hi=>?_)
 repeat (first|refine Yg ?_|refine Yq ?_|refine Yn ?_|refine Yk ?_|refine cT ?_|refine cF ?_|refine Yb ?_|refine Ye ?_|refine eN ?_|refine Yd (frz:=[]) Yo (by kernel_rfl) ?_)
 refine oX (frz:=[]) Yo ?_
 repeat (first|refine Yg ?_|refine Yq ?_|refine Yn ?_|refine Yk ?_|refine cT ?_|refine cF ?_|refine Yb ?_|refine Ye ?_|refine eN ?_|refine Yd (frz:=[]) Yo (by kernel_rfl) ?_)
 refine Run.cond (by rfl) (fun h=>?_) (fun h=>?_)
 ·have hlt:i<ss.length:=by simpa using h
  obtain⟨x,hx⟩:=get_ok hlt
  have hf:(ss.take (i+1)).flatten=(ss.take i).flatten++x:=by rw [List.take_add_one,hx];simp
  have hle:((ss.take (i+1)).flatten).length≤ss.flatten.length:=by
   conv=>rhs;rw [← List.take_append_drop (i+1) ss,List.flatten_append]
   simp
  rw [hf] at hle
  simp only [List.length_append] at hle hs
  repeat (first|refine Yg ?_|refine Yq ?_|refine Yn ?_|refine Yk ?_|refine cT ?_|refine cF ?_|refine Yb ?_|refine Ye ?_|refine eN ?_|refine Yd (frz:=[]) Yo (by kernel_rfl) ?_)
  first|refine oX (frz:=[]) (v:=.d (.ep [.str x])) Yo ?_ (hf:=(by first|(simp [inB]<;>fail)|(simp [inB];omega))) (he:=(by first|(simp [List.getD_eq_getElem?_getD,cellsD,hx]<;>fail)|fail))|refine eX (v:=.d (.ep [.str x])) ?_ (hf:=(by first|(simp [inB]<;>fail)|(simp [inB];omega))) (he:=(by first|(simp [List.getD_eq_getElem?_getD,cellsD,hx]<;>fail)|fail))
  iterate 2 refine oX (frz:=[]) Yo ?_
  repeat (first|refine Yg ?_|refine Yq ?_|refine Yn ?_|refine Yk ?_|refine cT ?_|refine cF ?_|refine Yb ?_|refine Ye ?_|refine eN ?_|refine Yd (frz:=[]) Yo (by kernel_rfl) ?_)
  iterate 4 refine oX (frz:=[]) Yo ?_
  refine RunOps.call (by rfl) (by rfl) (wrSP (k+i) (l++(ss.take i).flatten) x (by simp only [List.length_append];omega)) (by rfl) (by rfl) ?_
  repeat (first|refine Yg ?_|refine Yq ?_|refine Yn ?_|refine Yk ?_|refine cT ?_|refine cF ?_|refine Yb ?_|refine Ye ?_|refine eN ?_|refine Yd (frz:=[]) Yo (by kernel_rfl) ?_)
  refine oX (frz:=[]) Yo ?_
  refine oX (frz:=[]) (v:=.d (.int .i64 (i+1:Nat))) Yo ?_ (he:=congrArg (fun n=>AV.d (.int .i64 n)) (wrap_nat (n:=i+1) (by omega)))
  repeat (first|refine Yg ?_|refine Yq ?_|refine Yn ?_|refine Yk ?_|refine cT ?_|refine cF ?_|refine Yb ?_|refine Ye ?_|refine eN ?_|refine Yd (frz:=[]) Yo (by kernel_rfl) ?_)
  exact⟨i+1,hlt,by omega,weak_of' (by rw [hf,List.append_assoc];rfl) rfl ⟨rfl,rfl,rfl,rfl,trivial⟩⟩
 ·have hge:i=ss.length:=by simp at h;omega
  subst hge
  repeat (first|refine Yg ?_|refine Yq ?_|refine Yn ?_|refine Yk ?_|refine cT ?_|refine cF ?_|refine Yb ?_|refine Ye ?_|refine eN ?_|refine Yd (frz:=[]) Yo (by kernel_rfl) ?_)
  refine⟨trivial,?_,rfl⟩
  show some ((none:Option DV),stB 60 (k+ss.length) (l++(ss.take ss.length).flatten))=_
  rw [List.take_length]
def stF (T:TypeId) (ss:List (List Nat)):Nat→List Ob
 |0=>[bld0 T]
 |i+1=>stB T i (ss.take (i+1)).flatten
theorem put0 (s:List Nat) (ss:List (List Nat)) (hs:((s :: ss).flatten).length≤1099511627776) (hl:(s :: ss).length≤1099511627776):ACall Try.prog 21 [.bp 0 0,.d (strs (s :: ss))] [bld0 60] (.tup []) (stB 60 ss.length (s :: ss).flatten):=by
 have hend:stF 60 (s :: ss) (s :: ss).length=stB 60 ss.length (s :: ss).flatten:=by
  show stB _ _ ((s :: ss).take (s :: ss).length).flatten=_
  rw [List.take_length]
 rw [← hend]
 generalize hss:s :: ss=l at *
 refine acall_of_run Yo (fnAt Try.func21 (by kernel_rfl) (by kernel_rfl):FnAt _ _ (mkFn Try.f21 [])) rfl rfl ?_
 repeat (first|refine Yg ?_|refine Yq ?_|refine Yn ?_|refine Yk ?_|refine cT ?_|refine cF ?_|refine Yb ?_|refine Ye ?_|refine eN ?_|refine Yd (frz:=[]) Yo (by kernel_rfl) ?_)
 iterate 3 refine oX (frz:=[]) Yo ?_
 repeat (first|refine Yg ?_|refine Yq ?_|refine Yn ?_|refine Yk ?_|refine cT ?_|refine cF ?_|refine Yb ?_|refine Ye ?_|refine eN ?_|refine Yd (frz:=[]) Yo (by kernel_rfl) ?_)
 refine Run.loop (fun i:Nat=>⟨PT.ofList [(0,.bp 0 0),(6,.d (strs l)),(7,.d (.int .i64 l.length)),(8,.d (.int .i64 i))],stF 60 l i,[]⟩) (fun i=>i≤l.length) (fun i=>l.length-i) 0 (Nat.zero_le _) (weak_of' rfl rfl ⟨rfl,rfl,congrArg (fun n:Nat=>some (AV.d (.int .i64 (n:Int)))) (List.length_map ..),rfl,trivial⟩) (fun i hi=>?_)
 repeat (first|refine Yg ?_|refine Yq ?_|refine Yn ?_|refine Yk ?_|refine cT ?_|refine cF ?_|refine Yb ?_|refine Ye ?_|refine eN ?_|refine Yd (frz:=[]) Yo (by kernel_rfl) ?_)
 refine oX (frz:=[]) Yo ?_
 repeat (first|refine Yg ?_|refine Yq ?_|refine Yn ?_|refine Yk ?_|refine cT ?_|refine cF ?_|refine Yb ?_|refine Ye ?_|refine eN ?_|refine Yd (frz:=[]) Yo (by kernel_rfl) ?_)
 refine Run.cond (by rfl) (fun h=>?_) (fun h=>?_)
 ·have hlt:i<l.length:=by simpa using h
  obtain⟨x,hx⟩:=get_ok hlt
  have hf:(l.take (i+1)).flatten=(l.take i).flatten++x:=by rw [List.take_add_one,hx];simp
  have hle:((l.take (i+1)).flatten).length≤l.flatten.length:=by
   conv=>rhs;rw [← List.take_append_drop (i+1) l,List.flatten_append]
   simp
  have hA:ACall Try.prog 50 [.bp 0 0,.d (.str x)] (stF 60 l i) (.tup [.d (.int .i64 x.length),.d .niliface]) (stF 60 l (i+1)):=by
   cases i with
   |zero =>
    have hx0:(l.take (0+1)).flatten=x:=by rw [hf];simp
    have h:=wr0P x (by rw [hf] at hle;simp only [List.length_append] at hle;omega)
    show ACall _ _ _ [bld0 _] _ (stB _ 0 (l.take (0+1)).flatten)
    rw [hx0];exact h
   |succ j =>
    have h:=wrSP j (l.take (j+1)).flatten x (by rw [← hf];omega)
    show ACall _ _ _ (stB _ j _) _ (stB _ (j+1) (l.take (j+1+1)).flatten)
    rw [hf];exact h
  repeat (first|refine Yg ?_|refine Yq ?_|refine Yn ?_|refine Yk ?_|refine cT ?_|refine cF ?_|refine Yb ?_|refine Ye ?_|refine eN ?_|refine Yd (frz:=[]) Yo (by kernel_rfl) ?_)
  first|refine oX (frz:=[]) (v:=.d (.ep [.str x])) Yo ?_ (hf:=(by first|(simp [inB]<;>fail)|(simp [inB];omega))) (he:=(by first|(simp [List.getD_eq_getElem?_getD,cellsD,hx]<;>fail)|fail))|refine eX (v:=.d (.ep [.str x])) ?_ (hf:=(by first|(simp [inB]<;>fail)|(simp [inB];omega))) (he:=(by first|(simp [List.getD_eq_getElem?_getD,cellsD,hx]<;>fail)|fail))
  iterate 2 refine oX (frz:=[]) Yo ?_
  repeat (first|refine Yg ?_|refine Yq ?_|refine Yn ?_|refine Yk ?_|refine cT ?_|refine cF ?_|refine Yb ?_|refine Ye ?_|refine eN ?_|refine Yd (frz:=[]) Yo (by kernel_rfl) ?_)
  iterate 4 refine oX (frz:=[]) Yo ?_
  refine RunOps.call (by rfl) (by rfl) hA (by rfl) (by rfl) ?_
  repeat (first|refine Yg ?_|refine Yq ?_|refine Yn ?_|refine Yk ?_|refine cT ?_|refine cF ?_|refine Yb ?_|refine Ye ?_|refine eN ?_|refine Yd (frz:=[]) Yo (by kernel_rfl) ?_)
  refine oX (frz:=[]) Yo ?_
  refine oX (frz:=[]) (v:=.d (.int .i64 (i+1:Nat))) Yo ?_ (he:=congrArg (fun n=>AV.d (.int .i64 n)) (wrap_nat (n:=i+1) (by omega)))
  repeat (first|refine Yg ?_|refine Yq ?_|refine Yn ?_|refine Yk ?_|refine cT ?_|refine cF ?_|refine Yb ?_|refine Ye ?_|refine eN ?_|refine Yd (frz:=[]) Yo (by kernel_rfl) ?_)
  exact⟨i+1,hlt,by omega,weak_of' rfl rfl ⟨rfl,rfl,rfl,rfl,trivial⟩⟩
 ·have hge:i=l.length:=by simp at h;omega
  subst hge
  repeat (first|refine Yg ?_|refine Yq ?_|refine Yn ?_|refine Yk ?_|refine cT ?_|refine cF ?_|refine Yb ?_|refine Ye ?_|refine eN ?_|refine Yd (frz:=[]) Yo (by kernel_rfl) ?_)
  exact⟨trivial,rfl,rfl⟩
end Go.Av
end
noncomputable section
namespace Go.Av
open Go Go.Proofs
set_option maxRecDepth 10000
abbrev prB (l:List Nat) (rest:List Ob):List Ob:=bld 60 0 1 l.length :: vecB l :: rest
abbrev prO (q:Nat) (l:List Nat) (rest:List Ob):List Ob:=bld 60 0 (rest.length+2+q) l.length :: .gone :: (rest++(List.replicate q .gone++[vecB l]))
theorem prO_row (q:Nat) (l:List Nat) (rest:List Ob):(prO q l rest)[rest.length+2+q]?=some (vecB l):=by
 rw [show rest.length+2+q=(rest.length+q)+1+1 by omega]
 simp only [prO,List.getElem?_cons_succ]
 rw [List.getElem?_append_right (by omega),List.getElem?_append_right (by simp)]
 simp
theorem prO_gone (q p:Nat) (l:List Nat) (rest:List Ob) (hp:p<q):(prO q l rest)[rest.length+2+p]?=some .gone:=by
 rw [show rest.length+2+p=(rest.length+p)+1+1 by omega]
 simp only [prO,List.getElem?_cons_succ]
 rw [List.getElem?_append_right (by omega),List.getElem?_append_left (by simp;omega),List.getElem?_replicate,if_pos (by omega)]
theorem putR (l:List Nat) (ss:List (List Nat)) (q:Nat) (rest:List Ob) (hq:ss.length=q+1) (hs:(l++ss.flatten).length≤1099511627776) (hl:q≤1000) :
  ACall Try.prog 21 [.bp 0 0,.d (strs ss)] (prB l rest) (.tup []) (prO q (l++ss.flatten) rest):=by
 have h:=(putS 0 l ss hs (by omega)).embed rfl (Big:=prB l rest) (Big':=prO q (l++ss.flatten) rest) (pos:=[0,1]) rfl (by simp) (fun i ob hi=>?_) ?_ rfl ?_ (fun p hp hn=>?_) (fun i ob hi=>?_)
 ·exact h
 ·match i with
  |0=>obtain rfl:=Option.some.inj hi;exact⟨0,rfl,rfl⟩
  |1=>obtain rfl:=Option.some.inj hi;exact⟨1,rfl,by rw [reO_vec];rfl⟩
  |i+2=>cases hi
 ·show(okO 2 (bld _ 0 1 l.length) && (okO 2 (vecB l) && true))=true
  rw [show okO 2 (vecB l)=true from okA_by _ _];rfl
 ·rw [stB_len,hq];simp [stB_len];omega
 ·simp only [List.mem_cons,List.not_mem_nil,or_false,not_or] at hn
  obtain⟨p',rfl⟩:∃ p',p=p'+1+1:=⟨p-2,by omega⟩
  simp only [prO,prB,List.getElem?_cons_succ]
  rw [List.getElem?_append_left (by simp at hp;omega)]
 ·have hB:(prB l rest).length=rest.length+2:=by simp
  rw [hq] at hi
  have hlen:=stB_len 60 (0+(q+1)) (l++ss.flatten)
  have hil:i<0+(q+1)+2:=by rw [← hlen];exact(List.getElem?_eq_some_iff.1 hi).1
  match i with
  |0 =>
   obtain rfl:=Option.some.inj hi
   rw [hB]
   show some (bld _ 0 (rest.length+2+q) _)=some (bld _ 0 (rest.length+2+(0+(q+1)+1-2)) _)
   rw [show 0+(q+1)+1-2=q by omega]
  |1 =>
   rw [stB_mid _ _ _ _ (by omega) (by omega)] at hi
   obtain rfl:=Option.some.inj hi
   rfl
  |i+2 =>
   have hat:atOf [0,1] (prB l rest).length (i+2)=rest.length+2+i:=by rw [hB];rfl
   rw [hat]
   rcases Nat.lt_or_ge i q with h1|h1
   ·rw [stB_mid _ _ _ _ (by omega) (by omega)] at hi
    obtain rfl:=Option.some.inj hi
    exact prO_gone q i _ rest h1
   ·have:i=q:=by omega
    subst this
    rw [show i+2=(0+(i+1))+1 by omega,stB_row] at hi
    obtain rfl:=Option.some.inj hi
    rw [reO_vec]
    exact prO_row i _ rest
theorem prR1 {tm:PT AV} {q:Nat} {l l':List Nat} (cs:List DV) (ts:List (Nat × AV)) (he:l=l') (h:allRe (plOf [0,1+2+q,2]) 3 tm ts):Relab 0 ⟨tm,prO q l [.box (cs.map .d)],[]⟩ ⟨PT.ofList ts,prB l' [.box (cs.map .d)],[]⟩:=by
 subst he
 refine⟨ts,[0,1+2+q,2],prB l [.box (cs.map .d)],rfl,rfl,rfl,by simp;omega,fun k hk=>by omega,fun k ob hk=>?_,h⟩
 match k with
 |0=>obtain rfl:=Option.some.inj hk;exact⟨rfl,0,rfl,rfl⟩
 |1=>obtain rfl:=Option.some.inj hk;exact⟨okA_by _ _,_,rfl,by rw [reO_vec];exact prO_row q l _⟩
 |2 =>
  obtain rfl:=Option.some.inj hk
  refine⟨?_,2,rfl,?_⟩
  ·show(cs.map AV.d).all (okA _ 8)=true
   rw [List.all_eq_true];intro x hx;simp only [List.mem_map] at hx;obtain⟨y,_,rfl⟩:=hx;rfl
  ·show some (Ob.box (cs.map .d))=some (Ob.box ((cs.map AV.d).map (reA _ 8)))
   rw [List.map_map];rfl
 |k+3=>cases hk
theorem prR2 {tm:PT AV} {q:Nat} {l l':List Nat} {b:Ob} (ts:List (Nat × AV)) (he:l=l') (h:allRe (plOf [0,1+2+q]) 2 tm ts):Relab 0 ⟨tm,prO q l [b],[]⟩ ⟨PT.ofList ts,prB l' [],[]⟩:=by
 subst he
 refine⟨ts,[0,1+2+q],prB l [],rfl,rfl,rfl,by simp;omega,fun k hk=>by omega,fun k ob hk=>?_,h⟩
 match k with
 |0=>obtain rfl:=Option.some.inj hk;exact⟨rfl,0,rfl,rfl⟩
 |1=>obtain rfl:=Option.some.inj hk;exact⟨okA_by _ _,_,rfl,by rw [reO_vec];exact prO_row q l [b]⟩
 |k+2=>cases hk
theorem prR3 {tm:PT AV} {q:Nat} {l l':List Nat} (ts:List (Nat × AV)) (he:l=l') (h:allRe (plOf [0,q+1]) 2 tm ts):Relab 0 ⟨tm,stB 60 q l,[]⟩ ⟨PT.ofList ts,prB l' [],[]⟩:=by
 subst he
 refine⟨ts,[0,q+1],prB l [],rfl,rfl,rfl,by simp,fun k hk=>by omega,fun k ob hk=>?_,h⟩
 match k with
 |0=>obtain rfl:=Option.some.inj hk;exact⟨rfl,0,rfl,rfl⟩
 |1=>obtain rfl:=Option.some.inj hk;exact⟨okA_by _ _,_,rfl,by rw [reO_vec];exact stB_row _ q l⟩
 |k+2=>cases hk
theorem prI1 {tm:PT AV} {l l':List Nat} (cs:List DV) (ts:List (Nat × AV)) (he:l=l') (h:allRe (plOf [0,1,2]) 3 tm ts):Relab 0 ⟨tm,prB l [.box (cs.map .d)],[]⟩ ⟨PT.ofList ts,prB l' [.box (cs.map .d)],[]⟩:=by
 subst he
 refine⟨ts,[0,1,2],prB l [.box (cs.map .d)],rfl,rfl,rfl,by simp,fun k hk=>by omega,fun k ob hk=>?_,h⟩
 match k with
 |0=>obtain rfl:=Option.some.inj hk;exact⟨rfl,0,rfl,rfl⟩
 |1=>obtain rfl:=Option.some.inj hk;exact⟨okA_by _ _,1,rfl,by rw [reO_vec];rfl⟩
 |2 =>
  obtain rfl:=Option.some.inj hk
  refine⟨?_,2,rfl,?_⟩
  ·show(cs.map AV.d).all (okA _ 8)=true
   rw [List.all_eq_true];intro x hx;simp only [List.mem_map] at hx;obtain⟨y,_,rfl⟩:=hx;rfl
  ·show some (Ob.box (cs.map .d))=some (Ob.box ((cs.map AV.d).map (reA _ 8)))
   rw [List.map_map];rfl
 |k+3=>cases hk
end Go.Av
end
namespace Go.Proofs
open Go.Shelf
def Try.lays156_ren:Go.Shelf.Ren:=⟨fun|156=>22|165=>51|166=>50|169=>23|240=>63|241=>64|276=>72|277=>73|n=>n,fun|31=>23|9=>9|3=>3|4=>4|0=>0|20=>20|72=>58|76=>98|70=>55|37=>56|75=>97|127=>101|164=>121|5=>5|80=>66|n=>n,fun|n=>n⟩
theorem Try.lays156:Go.Proofs.Lays.n156 Try.prog Try.lays156_ren:={
 mixed:=by kernel_rfl
 f156:=Try.func22.trans (congrArg some (by kernel_rfl))
 f165:=Try.func51.trans (congrArg some (by kernel_rfl))
 f166:=Try.func50.trans (congrArg some (by kernel_rfl))
 f169:=Try.func23.trans (congrArg some (by kernel_rfl))
 f240:=Try.func63.trans (congrArg some (by kernel_rfl))
 f241:=Try.func64.trans (congrArg some (by kernel_rfl))
 f276:=Try.func72.trans (congrArg some (by kernel_rfl))
 f277:=Try.func73.trans (congrArg some (by kernel_rfl))
 t0:=Try.underlying0
 a0:=Try.isAgg0
 z0:=Try.sizeOf0
 v0:=Try.zeroValue0
 t3:=Try.underlying3
 a3:=Try.isAgg3
 z3:=Try.sizeOf3
 v3:=Try.zeroValue3
 t4:=Try.underlying4
 a4:=Try.isAgg4
 z4:=Try.sizeOf4
 v4:=Try.zeroValue4
 t9:=Try.underlying9
 a9:=Try.isAgg9
 z9:=Try.sizeOf9
 v9:=Try.zeroValue9
 t20:=Try.underlying20
 a20:=Try.isAgg20
 z20:=Try.sizeOf20
 v20:=Try.zeroValue20
 t31:=Try.underlying23
 a31:=Try.isAgg23
 z31:=Try.sizeOf23
 v31:=Try.zeroValue23
 t37:=Try.underlying56
 a37:=Try.isAgg56
 z37:=Try.sizeOf56
 v37:=Try.zeroValue56
 t70:=Try.underlying55
 a70:=Try.isAgg55
 z70:=Try.sizeOf55
 v70:=Try.zeroValue55
 t72:=Try.underlying58
 a72:=Try.isAgg58
 z72:=Try.sizeOf58
 v72:=Try.zeroValue58
 t75:=Try.underlying97
 a75:=Try.isAgg97
 z75:=Try.sizeOf97
 v75:=Try.zeroValue97
 t76:=Try.underlying98
 a76:=Try.isAgg98
 z76:=Try.sizeOf98
 v76:=Try.zeroValue98
 t127:=Try.underlying101
 a127:=Try.isAgg101
 z127:=Try.sizeOf101
 v127:=Try.zeroValue101
 t164:=Try.underlying121
 a164:=Try.isAgg121
 z164:=Try.sizeOf121
 v164:=Try.zeroValue121 }
theorem Try.Builder_Extra_156:Builder.Extra Try.prog Try.lays156_ren:={
 sizeBuilder:=by kernel_rfl
 liesBuilder:=by kernel_rfl
 t5:=Try.underlying5
 a5:=Try.isAgg5
 z5:=Try.sizeOf5
 v5:=Try.zeroValue5
 infoByte:=by kernel_rfl
 cellsByte:=by kernel_rfl
 sizeByte:=by kernel_rfl
 neB5:=by decide }
open Go.RowKit in
theorem Try.strings_Join_none (a:Option Addr) (c:Nat) (sep:ByteArray) (w:World) :
  Calls Try.prog 22 #[.slice a 0 c,.string sep] w fun e w'=>e=.returned (.string ⟨#[]⟩)∧w'=w:=Any.strings_Join_none Try.lays156 Try.Builder_Extra_156 a c sep w
open Go.RowKit in
theorem Try.strings_Join (bk o c:Nat) (xs:List ByteArray) (sep:ByteArray) (w:World) (hcells:∀ (j:Nat) x,xs[j]?=some x→w.cell? ⟨bk,o+j,none⟩=some (.string x)) (hbk:bk<w.heap.size) (hN:xs.length≤140737488355328) (hcap:xs.length≤c) (hlen:(Lib.join (xs.map (·.data.toList)) sep.data.toList).length≤140737488355328) :
  Calls Try.prog 22 #[.slice (some ⟨bk,o,none⟩) xs.length c,.string sep] w fun e w'=>e=.returned (.string ⟨(Lib.join (xs.map (·.data.toList)) sep.data.toList).toArray⟩)∧Below w.heap.size w w':=Any.strings_Join Try.lays156 Try.Builder_Extra_156 bk o c xs sep w hcells hbk hN hcap hlen
end Go.Proofs
noncomputable section
namespace Go.Av
open Go Go.Proofs
set_option maxRecDepth 10000
theorem Step.below {D:DMap} {β:List Bi} {objs:List Ob} {w w':World} (hp:Heap D β objs w) (h:Go.RowKit.Below w.heap.size w w'):Step D β objs w D β objs w' :=
 Step.ext hp h.block h.size h.os h.tape h.output (fun _ _ h=>h) (fun ad v h0 h2=>by rw [h2] at h0;cases h0)
theorem strs_vals {D:DMap}:∀ (ss:List (List Nat)) (vs:List Value),vs.length=ss.length→(∀ (j:Nat) c v,(ss.map DV.str)[j]?=some c→vs[j]?=some v→RepD D c v) →
  ∃ xs:List ByteArray,vs=xs.map Value.string∧ss=xs.map fun b=>b.data.toList.map UInt8.toNat
 |[],vs,hl,_=>⟨[],by simpa using hl,rfl⟩
 |s :: ss,[],hl,_=>by simp at hl
 |s :: ss,v :: vs,hl,h=>by
  obtain⟨xs,h1,h2⟩:=strs_vals ss vs (by simpa using hl) fun j c v hc hv=>h (j+1) c v (by simpa using hc) (by simpa using hv)
  have h0:=h 0 (.str s) v rfl rfl
  cases h0 with
  |@str _ b hb=>exact⟨b :: xs,by simp [h1],by rw [h2];simp [hb]⟩
theorem inter_map {α β:Type} (f:α→β) (sep:List α) (l:List (List α)):(List.intercalate sep l).map f=List.intercalate (sep.map f) (l.map (·.map f)):=by
 simp only [List.intercalate]
 rw [List.map_flatten]
 congr 1
 induction l with
 |nil=>rfl
 |cons a l ih =>
  cases l with
  |nil=>rfl
  |cons b l=>simp only [List.intersperse,List.map_cons] at ih ⊢;rw [ih]
theorem joinK (ss:List (List Nat)) (sep:List Nat) (hn:ss.length≤1099511627776) (hl:(List.intercalate sep ss).length≤1099511627776):KnownCall Try.prog 22 [strs ss,.str sep] (.d (.str (List.intercalate sep ss))):=by
 intro o
 refine⟨enters_of Try.func22 (by kernel_rfl) rfl,fun D β w vs hp hr=>?_⟩
 obtain⟨v0,v1,rfl,h0,h1⟩:∃ v0 v1,vs=#[v0,v1]∧RepD D (strs ss) v0∧RepD D (.str sep) v1:=by
  obtain⟨l⟩:=vs
  obtain⟨h1,h2⟩:=hr
  match l,h1 with
  |[a,b],_ =>
   refine⟨a,b,rfl,?_,?_⟩
   ·have:=h2 0 _ a rfl rfl
    cases this with|d h=>exact h
   ·have:=h2 1 _ b rfl rfl
    cases this with|d h=>exact h
 have fl:∀ l:List (List Nat),flatD (l.map DV.str)=l.map DV.str:=fun l=>by
  induction l with
  |nil=>rfl
  |cons a l ih=>simp only [flatD,List.map_cons,List.flatMap_cons,cellsD] at ih ⊢;rw [ih];rfl
 cases h1 with
 |@str _ b hb =>
  generalize hes:ss.map DV.str=es at h0
  cases h0 with
  |@sl _ _ a cap us hc hm hsz hnn hv hD hrr =>
   subst hes
   rw [fl] at hv hrr
   obtain⟨xs,e1,e2⟩:=strs_vals ss us (by simpa using hv) hrr
   have hxl:xs.length=ss.length:=by rw [e2];simp
   have hres:∀ ys:List (List UInt8),(List.intercalate b.data.toList ys).map UInt8.toNat=List.intercalate sep (ys.map (·.map UInt8.toNat)):=fun ys=>by rw [inter_map,hb]
   have hin:(Lib.join (xs.map (·.data.toList)) b.data.toList).map UInt8.toNat=List.intercalate sep ss:=by
    rw [show Lib.join (xs.map (·.data.toList)) b.data.toList=List.intercalate b.data.toList (xs.map (·.data.toList)) from rfl,hres,e2,List.map_map];rfl
   cases ss with
   |nil =>
    have hx0:xs=[]:=List.length_eq_zero_iff.1 (by simpa using hxl)
    refine(callsIn_wide (n:=0)).2 ((Try.strings_Join_none a cap b w).mono fun e w' he=>?_)
    obtain⟨rfl,rfl⟩:=he
    exact .inl ⟨_,D,β,rfl,Step.refl hp,.d (.str rfl)⟩
   |cons s ss =>
    have hcl:(List.map DV.str (s :: ss)).length=xs.length:=by rw [hxl];simp
    cases a with
    |none=>have:=(hnn rfl).1;cases this
    |some ad =>
     obtain⟨hsp,hcell⟩:=hD ad rfl
     have hpos:0<xs.length:=by rw [hxl];simp
     obtain⟨blk,off,spot⟩:=ad
     have hspot:spot=none:=by
      rcases hsp with h|h
      ·omega
      ·exact h
     subst hspot
     have hcells:∀ (j:Nat) x,xs[j]?=some x→w.cell? ⟨blk,off+j,none⟩=some (.string x):=fun j x hx=>hp.cell (hcell j _ (by rw [e1];simp [hx]))
     have hlt:blk<w.heap.size:=by
      have:=hp.D_lt (hcell 0 (.string xs[0]) (by rw [e1];simp [hpos]))
      exact this
     rw [hcl]
     refine(callsIn_wide (n:=0)).2 ((Try.strings_Join blk off cap xs b w hcells hlt (by omega) (by omega) (by have:=congrArg List.length hin;simp only [List.length_map] at this;omega)).mono fun e w' he=>?_)
     obtain⟨rfl,hbel⟩:=he
     exact .inl ⟨_,D,β,rfl,Step.below hp hbel,.d (.str (by simp [hin]))⟩
end Go.Av
end

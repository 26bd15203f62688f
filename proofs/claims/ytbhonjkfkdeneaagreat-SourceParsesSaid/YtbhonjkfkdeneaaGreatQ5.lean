/-
  Parts of the way to the law, joined: rules for code over data, and what the functions return. Conditions stand at each.
-/
import Derived.Test.YtbhonjkfkdeneaaGreatQ4
import Derived.Test.YtbhonjkfkdeneaaGreatQ2
import Derived.Test.YtbhonjkfkdeneaaGreatQ3
noncomputable section
namespace Go.Av
open Go Go.Proofs
set_option maxRecDepth 10000
theorem Run.rangeLex {nt m:Nat} {frz:List Nat} {K:Ex→S→Prop} {tm:PT AV} {dl:List Dl} {f:Operand} {qs:Array Tmp} {ab bd:Code} (s:List Nat) (hb:∀ c ∈ s,c<256) (hl:s.length≤2000) (hf:rd tm f=.d (eachF s)) (hT:∀ n,ptAll (refA 8 (6+n)) tm=true)
  (hok:∀ (acc:List DV) (p k a:Nat) (t:List Nat),acc.length≤2000→AYield Tryz.prog 5 [.d (lexD k t a),.d (faultD 0 0)] (lxO tm nt frz qs ab bd acc++[curO s p,.box [.d (.int .i64 (k:Nat)),.d (.str t),.d (.int .i64 (a:Nat))],.box [.d (.int .i64 (0:Nat)),.d (.int .i64 (0:Nat))]]) (.d (.bool true)) (lxO tm nt frz qs ab bd (acc++[lexD k t a])++[curO s p,.box [.d (.int .i64 (k:Nat)),.d (.str t),.d (.int .i64 (a:Nat))],.box [.d (.int .i64 (0:Nat)),.d (.int .i64 (0:Nat))]]))
  (hend:∀ (acc:List DV) (p c a:Nat),(c=5∨c=3)→AYield Tryz.prog 5 [.d (lexD 0 [] 0),.d (faultD c a)] (lxO tm nt frz qs ab bd acc++[curO s p,.box [.d (.int .i64 (0:Nat)),.d (.str []),.d (.int .i64 (0:Nat))],.box [.d (.int .i64 (c:Nat)),.d (.int .i64 (a:Nat))]]) (.d (.bool false)) (lxR tm nt frz qs ab bd (acc,c,a)++[curO s p,.box [.d (.int .i64 (0:Nat)),.d (.str []),.d (.int .i64 (0:Nat))],.box [.d (.int .i64 (c:Nat)),.d (.int .i64 (a:Nat))]]))
  (hk:∀ (acc:List DV) (v:AV) (c a:Nat),(resL (lexemesF s)=.tup [.d (.sl 3 acc),.d (faultD c a)]∧v=.sr 3 3 acc∨resL (lexemesF s)=.tup [.d (.sl 3 []),.d (faultD c a)]∧v=.d .nilsl) →
   K .ret ⟨tm,[.box [v],.box [.d (.int .i64 (c:Nat)),.d (.int .i64 (a:Nat))],.box [.sr 3 3 acc],.room acc.length 3,.raw (.deferred (some [])),.loop tm nt frz qs ab bd .exhausted (some .ret)],.mark 4 :: dl⟩) :
  Run Tryz.prog nt m none (.rangeFunc f qs ab bd) ⟨tm,[.box [.d .nilsl],.box [.d (.int .i64 0),.d (.int .i64 0)],.box [.sr 3 3 []],.room 0 3],dl⟩ K:=by
 have hm:Tryz.prog.follows .mixedOrders=true:=by kernel_rfl
 have hA:=each1 s hb hl tm nt frz qs ab bd hT hok hend
 have hF:lexemesF s=lexesF s (s.length+1) 0 []:=by unfold lexemesF;rw [if_neg (by omega)]
 obtain⟨h1,h2⟩:=lexesG_F s (s.length+1) 0 [] (Nat.zero_le _) (Nat.le_refl _)
 rw [← hF] at h1
 generalize lexesG s (s.length+1) 0 []=R at hA h1 h2
 obtain⟨acc,c,a⟩:=R
 simp only at h1 h2
 by_cases hc:c=5
 ·subst hc
  rw [show lxR tm nt frz qs ab bd (acc,5,a)=lxE tm nt frz qs ab bd acc (.sr 3 3 acc) 0 0 from if_pos rfl] at hA
  rw [show endLx (acc,5,a)=(acc,0,0) from if_pos rfl] at h1
  exact Run.range Yo hm hf hA rfl (by rfl) (by simp) (hk acc (.sr 3 3 acc) 0 0 (.inl ⟨by rw [← h1],rfl⟩))
 ·rw [show lxR tm nt frz qs ab bd (acc,c,a)=lxE tm nt frz qs ab bd acc (.d .nilsl) c a from if_neg hc] at hA
  rw [show endLx (acc,c,a)=([],c,a) from if_neg hc] at h1
  exact Run.range Yo hm hf hA rfl (by rfl) (by simp) (hk acc (.d .nilsl) c a (.inr ⟨by rw [← h1],rfl⟩))
set_option maxHeartbeats 8000000 in
theorem lexemesP (s:List Nat) (hb:∀ c ∈ s,c<256) (hl:s.length≤1048576):KnownCall Tryz.prog 96 [.str s] (resL (lexemesF s)):=by
 by_cases h2:2000<s.length
 ·unfold lexemesF
  rw [if_pos h2]
  refine knownE2 Yo (fnAt Tryz.func96 (by kernel_rfl) (by kernel_rfl):FnAt _ _ (mkFn Tryz.f96 [22])) ?_
  repeat' (first|refine Yg ?_|refine Yq ?_|(refine oB (frz:=[22]) Yo ?_ ?_<;>intro h<;>first|(exfalso;simp at h;first|done|omega)|skip)|(refine eB ?_ ?_<;>intro h<;>first|(exfalso;simp at h;first|done|omega)|skip)|refine oX (frz:=[22]) Yo ?_|refine oS ?_|refine Yn ?_|refine Yk ?_|refine cT ?_|refine cF ?_|refine Yb ?_|refine Ye ?_|refine Yd (frz:=[22]) Yo (by kernel_rfl) ?_|refine eX ?_|refine eS ?_|refine eN ?_|(refine Yt ?_;refine r2 ?_;first|done|(exact .tup2 .nil .refl))|((exfalso;first|(simp at h<;>fail)|(simp at h;omega)))|fail)
 ·have ce:=eachC s
  obtain⟨R,hR⟩:∃ R,R=resL (lexemesF s):=⟨_,rfl⟩
  rw [← hR]
  refine knownE2 Yo (fnAt Tryz.func96 (by kernel_rfl) (by kernel_rfl):FnAt _ _ (mkFn Tryz.f96 [22])) ?_
  repeat' (first|refine Yg ?_|refine Yq ?_|(refine oB (frz:=[22]) Yo ?_ ?_<;>intro h<;>first|(exfalso;simp at h;first|done|omega)|skip)|(refine eB ?_ ?_<;>intro h<;>first|(exfalso;simp at h;first|done|omega)|skip)|refine oX (frz:=[22]) Yo ?_|refine oS ?_|refine Yn ?_|refine Yk ?_|refine cT ?_|refine cF ?_|refine Yb ?_|refine Ye ?_|refine Yd (frz:=[22]) Yo (by kernel_rfl) ?_|refine eX ?_|refine eS ?_|refine eN ?_|refine oC (ce) ?_|refine eC (ce) ?_|(refine Yt ?_;refine r2 ?_;first|done|(skip))|((exfalso;first|(simp at h<;>fail)|(simp at h;omega)))|fail)
  refine Run.cellRoom 2 0 3 ?_
  refine Run.tidy (s':=⟨PT.ofList [(2,.bp 0 0),(3,.bp 1 0),(4,.bp 2 0),(12,.d (eachF s))],[.box [.d .nilsl],.box [.d (.int .i64 0),.d (.int .i64 0)],.box [.sr 3 3 []],.room 0 3],[]⟩) (tidy_of (objs:=_) _ 4 (by rfl) rfl (by repeat' (first|exact trivial|refine⟨(Or.inl rfl),?_⟩|refine⟨(Or.inr rfl),?_⟩|fail)) (by repeat' (first|exact trivial|refine⟨rfl,?_⟩|fail)) rfl rfl) ?_
  refine Run.rangeLex (frz:=[22]) s hb (by omega) (by rfl) (fun n=>?_) (fun acc p k a t hal=>?_) (fun acc p c a hc=>?_) (fun acc v c a hk=>?_)
  ·rw [show 6+n=n+6 from by omega];rfl
  ·unfold lxO
   rw [show(acc++[lexD k t a]).length=acc.length+1 from by simp]
   refine ayield_of_run (i:=5) (by rfl) (by rfl) (by rfl) ?_
   repeat (first|refine oX (frz:=[22]) Yo ?_|refine oS ?_|refine Yn ?_|refine Yg ?_|refine Yq ?_|refine Yk ?_|refine Yb ?_|refine Ye ?_|refine Yd (frz:=[22]) Yo (by kernel_rfl) ?_|refine eX ?_|refine eS ?_|refine eN ?_)
   refine⟨rfl,_,_,_,_,_,_,_,by rfl,?_⟩
   refine Run.less ?_
   repeat' (first|refine Yg ?_|refine Yq ?_|(refine oB (frz:=[22]) Yo ?_ ?_<;>intro h<;>first|(exfalso;simp at h;first|done|omega)|skip)|(refine eB ?_ ?_<;>intro h<;>first|(exfalso;simp at h;first|done|omega)|skip)|refine oX (frz:=[22]) Yo ?_|refine oS ?_|refine Yn ?_|refine Yk ?_|refine cT ?_|refine cF ?_|refine Yb ?_|refine Ye ?_|refine Yd (frz:=[22]) Yo (by kernel_rfl) ?_|refine eX ?_|refine eS ?_|refine eN ?_|refine oX (frz:=[22]) Yo ?_ (hv:=app1) (hf:=rfl) (he:=rfl)|refine eX ?_ (hv:=app1) (hf:=rfl) (he:=rfl)|refine oX (frz:=[22]) Yo ?_ (hv:=app0) (hf:=rfl) (he:=rfl)|refine eX ?_ (hv:=app0) (hf:=rfl) (he:=rfl)|(exact⟨rfl,_,less_of [] 9 rfl (by rfl) trivial trivial (by kernel_rfl) rfl,_,_,_,_,_,_,_,_,by rfl,rfl,by rfl⟩)|((exfalso;(simp_all<;>fail)))|fail)
  ·rcases hc with rfl|rfl
   ·rw [show lxR _ _ _ _ _ _ (acc,5,a)=lxE _ _ _ _ _ _ acc (.sr 3 3 acc) 0 0 from if_pos rfl]
    refine ayield_of_run (i:=5) (by rfl) (by rfl) (by rfl) ?_
    repeat (first|refine oX (frz:=[22]) Yo ?_|refine oS ?_|refine Yn ?_|refine Yg ?_|refine Yq ?_|refine Yk ?_|refine Yb ?_|refine Ye ?_|refine Yd (frz:=[22]) Yo (by kernel_rfl) ?_|refine eX ?_|refine eS ?_|refine eN ?_)
    refine⟨rfl,_,_,_,_,_,_,_,by rfl,?_⟩
    refine Run.less ?_
    repeat' (first|refine Yg ?_|refine Yq ?_|(refine oB (frz:=[22]) Yo ?_ ?_<;>intro h<;>first|(exfalso;simp at h;first|done|omega)|skip)|(refine eB ?_ ?_<;>intro h<;>first|(exfalso;simp at h;first|done|omega)|skip)|refine oX (frz:=[22]) Yo ?_|refine oS ?_|refine Yn ?_|refine Yk ?_|refine cT ?_|refine cF ?_|refine Yb ?_|refine Ye ?_|refine Yd (frz:=[22]) Yo (by kernel_rfl) ?_|refine eX ?_|refine eS ?_|refine eN ?_|((first|refine Yt ?_|skip);exact⟨rfl,_,less_of [] 9 rfl (by rfl) trivial trivial (by kernel_rfl) rfl,_,_,_,_,_,_,_,_,by rfl,rfl,by rfl⟩)|((exfalso;(simp_all<;>fail)))|fail)
   ·rw [show lxR _ _ _ _ _ _ (acc,3,a)=lxE _ _ _ _ _ _ acc (.d .nilsl) 3 a from if_neg (show ¬ (3:Nat)=5 by decide)]
    refine ayield_of_run (i:=5) (by rfl) (by rfl) (by rfl) ?_
    repeat (first|refine oX (frz:=[22]) Yo ?_|refine oS ?_|refine Yn ?_|refine Yg ?_|refine Yq ?_|refine Yk ?_|refine Yb ?_|refine Ye ?_|refine Yd (frz:=[22]) Yo (by kernel_rfl) ?_|refine eX ?_|refine eS ?_|refine eN ?_)
    refine⟨rfl,_,_,_,_,_,_,_,by rfl,?_⟩
    refine Run.less ?_
    repeat' (first|refine Yg ?_|refine Yq ?_|(refine oB (frz:=[22]) Yo ?_ ?_<;>intro h<;>first|(exfalso;simp at h;first|done|omega)|skip)|(refine eB ?_ ?_<;>intro h<;>first|(exfalso;simp at h;first|done|omega)|skip)|refine oX (frz:=[22]) Yo ?_|refine oS ?_|refine Yn ?_|refine Yk ?_|refine cT ?_|refine cF ?_|refine Yb ?_|refine Ye ?_|refine Yd (frz:=[22]) Yo (by kernel_rfl) ?_|refine eX ?_|refine eS ?_|refine eN ?_|((first|refine Yt ?_|skip);exact⟨rfl,_,less_of [] 9 rfl (by rfl) trivial trivial (by kernel_rfl) rfl,_,_,_,_,_,_,_,_,by rfl,rfl,by rfl⟩)|((exfalso;(simp_all<;>fail)))|fail)
  ·rcases hk with⟨h1,rfl⟩|⟨h1,rfl⟩
   ·rw [hR,h1]
    refine r2 ?_
    exact .refl
   ·rw [hR,h1]
    refine r2 ?_
    exact .tup2 .nil .refl
end Go.Av
end
noncomputable section
namespace Go.Av
open Go Go.Proofs
set_option maxRecDepth 10000
theorem mixedOK:Tryz.prog.follows .mixedOrders=true:=by kernel_rfl
theorem deferN (objs:List Ob):ADefer Tryz.prog 97 [.bp 0 0,.bp 1 0] none objs none objs :=
 evDefer_ok Yo H0_ok mixedOK Ft_ok (n:=40) (by rfl)
abbrev pX (s:List Nat) (p:PS):List Ob:=[oZX,oZF,.map (kvN p.names),.box [.d (.str s),.d (.sl 3 (p.l.map encL)),.d (.int .i64 p.x.k),.sr 4 1 (p.x.tokens.map .str),.d (.str p.x.sep),.d (.str p.x.start),.sr 5 2 (p.x.rules.map encR),.mp 2,.sr 6 2 (p.uses.map encU),.d (.int .i64 (p.total:Nat))],.room p.x.tokens.length 1,.room p.x.rules.length 2,.room p.uses.length 2]
theorem deferP (e:Fa):ADefer Tryz.prog 97 [.bp 0 0,.bp 1 0] (some (refD e)) [oZX,oZF,.gone,.gone,.gone,.gone,.gone] none
  [oZX,.box [.d (.int .i64 (e.1:Nat)),.d (.int .i64 (e.2:Nat))],.gone,.gone,.gone,.gone,.gone,.box [.d (.int .i64 (e.1:Nat)),.d (.int .i64 (e.2:Nat))]] :=
 evDefer_ok Yo H0_ok mixedOK Ft_ok (n:=40) (by rfl)
abbrev fnsP:DV:=.agg [.fn (.func 98) [] [],.fn (.func 99) [] [],.fn (.func 100) [] [],.fn (.func 101) [] [],.fn (.func 102) [] [],.fn (.func 103) [] []]
abbrev dlP:List Dl:=[.call 97 [.bp 0 0,.bp 1 0]]
set_option maxHeartbeats 8000000 in
theorem parseP (s:List Nat) (ls:List Lx) (hb:∀ c ∈ s,c<256) (hs:s.length≤1048576) (hl:LsB ls) (hn:NumL ls) (hlex:lexemesF s=(ls.map encL,0,0)) :
  KnownCall Tryz.prog 27 [.str s] (resX (resP (readP s ls))):=by
 have cl:=lexemesP s hb hs
 rw [hlex] at cl
 rw [readP_rest]
 obtain⟨R,hR⟩:∃ R,R=restP s 6 0 ⟨ls,src0,[],[],0⟩:=⟨_,rfl⟩
 rw [← hR]
 refine knownED Yo (fnAt Tryz.func27 (by kernel_rfl) (by kernel_rfl):FnAt _ _ (mkFn Tryz.f27 [])) ?_
 repeat' (first|refine Yg ?_|refine Yq ?_|(refine oB (frz:=[]) Yo ?_ ?_<;>intro h<;>first|(exfalso;simp at h;first|done|omega)|skip)|(refine eB ?_ ?_<;>intro h<;>first|(exfalso;simp at h;first|done|omega)|skip)|refine oX (frz:=[]) Yo ?_|refine oS ?_|refine Yn ?_|refine Yk ?_|refine cT ?_|refine cF ?_|refine Yb ?_|refine Ye ?_|refine Yd (frz:=[]) Yo (by kernel_rfl) ?_|refine eX ?_|refine eS ?_|refine eN ?_|refine oC (cl) ?_|refine eC (cl) ?_|refine RunOps.deferOp (by rfl) rfl (by rfl) ?_|(refine Yt ?_;(first|refine rB ?_|refine rI ?_|refine rA ?_|refine rII ?_|refine rSI ?_|refine rT ?_|refine rS ?_);first|done|(skip))|((exfalso;first|(simp at h<;>fail)|(simp at h;omega)))|fail)
 refine Run.tidy (s':=⟨PT.ofList [(2,.bp 0 0),(3,.bp 1 0),(5,.bp 3 0),(24,.d fnsP),(25,.d (.int .i64 ((0:Nat):Int)))],[oZX,oZF,.map [],.box [.d (.str s),.d (.sl 3 (ls.map encL)),.d (.int .i64 0),.d .nilsl,.d (.str []),.d (.str []),.d .nilsl,.mp 2,.d .nilsl,.d (.int .i64 0)]],dlP⟩) (tidy_of (objs:=_) _ 4 (by rfl) rfl (by repeat' (first|exact trivial|refine⟨(Or.inl rfl),?_⟩|refine⟨(Or.inr rfl),?_⟩|fail)) (by repeat' (first|exact trivial|refine⟨rfl,?_⟩|fail)) rfl rfl) ?_
 refine Run.cellRoom 3 3 1 ?_
 refine Run.cellRoom 3 6 2 ?_
 refine Run.cellRoom 3 8 2 ?_
 have j0:JP ls ⟨ls,src0,[],[],0⟩:=⟨fun _ h=>h,Nat.le_refl _,by simp,by simp,by simp,by simp⟩
 refine Run.loopT (fun y:Nat × Nat × PS=>⟨PT.ofList [(2,.bp 0 0),(3,.bp 1 0),(5,.bp 3 0),(24,.d fnsP),(25,.d (.int .i64 (y.2.1:Nat)))],pX s y.2.2,dlP⟩)
  (fun y=>y.1+y.2.1=6∧JP ls y.2.2∧(y.2.1=0→NumL y.2.2.l)∧restP s y.1 y.2.1 y.2.2=R) (fun y=>y.1) (6,0,⟨ls,src0,[],[],0⟩) ⟨rfl,j0,fun _=>hn,hR.symm⟩ (tidy_of (objs:=_) _ 7 (by rfl) rfl (by repeat' (first|exact trivial|refine⟨(Or.inl rfl),?_⟩|refine⟨(Or.inr rfl),?_⟩|fail)) (by repeat' (first|exact trivial|refine⟨rfl,?_⟩|fail)) rfl rfl) (fun y hy=>?_)
 obtain⟨n,k,p⟩:=y
 obtain⟨h1,h2,h3,h4⟩:=hy
 simp only at h1 h2 h3 h4 ⊢
 have pb:=h2.pb hl
 rcases(show k=0∨k=1∨k=2∨k=3∨k=4∨k=5∨k=6 by omega) with rfl|rfl|rfl|rfl|rfl|rfl|rfl
 ·obtain rfl:n=5+1:=by omega
  have c0:=lookC s p pb (h3 rfl)
  have h4:(stepP s 0 p).bind (fun p=>restP s 5 1 p)=R:=h4
  cases hq:stepP s 0 p with
  |error e =>
   rw [hq] at h4
   rw [show lookP s p=.error e from hq] at c0
   simp only [Except.bind] at h4
   subst h4
   repeat' (first|refine Yg ?_|refine Yq ?_|(refine oB (frz:=[]) Yo ?_ ?_<;>intro h<;>first|(exfalso;simp at h;first|done|omega)|skip)|(refine eB ?_ ?_<;>intro h<;>first|(exfalso;simp at h;first|done|omega)|skip)|refine oX (frz:=[]) Yo ?_|refine oS ?_|refine Yn ?_|refine Yk ?_|refine cT ?_|refine cF ?_|refine Yb ?_|refine Ye ?_|refine Yd (frz:=[]) Yo (by kernel_rfl) ?_|refine eX ?_|refine eS ?_|refine eN ?_|refine oEP [3,4,5,2,6] c0 ?_|(refine Yt ?_;(first|refine rB ?_|refine rI ?_|refine rA ?_|refine rII ?_|refine rSI ?_|refine rT ?_|refine rS ?_);first|done|(skip))|((exact endD rfl (.inr ⟨_,_,rfl,deferP e⟩) (by rfl) (by rfl) (.tup2 srcZ_to .refl)))|((exfalso;(simp at h<;>omega)))|fail)
  |ok q =>
   rw [hq] at h4
   rw [show lookP s p=.ok q from hq] at c0
   have h4:restP s 5 1 q=R:=h4
   have jq:=h2.stepL hq
   repeat' (first|refine Yg ?_|refine Yq ?_|(refine oB (frz:=[]) Yo ?_ ?_<;>intro h<;>first|(exfalso;simp at h;first|done|omega)|skip)|(refine eB ?_ ?_<;>intro h<;>first|(exfalso;simp at h;first|done|omega)|skip)|refine oX (frz:=[]) Yo ?_|refine oS ?_|refine Yn ?_|refine Yk ?_|refine cT ?_|refine cF ?_|refine Yb ?_|refine Ye ?_|refine Yd (frz:=[]) Yo (by kernel_rfl) ?_|refine eX ?_|refine eS ?_|refine eN ?_|refine oE [3,4,5,2,6] c0 ?_|(refine Yt ?_;(first|refine rB ?_|refine rI ?_|refine rA ?_|refine rII ?_|refine rSI ?_|refine rT ?_|refine rS ?_);first|done|(skip))|(exact⟨(5,1,q),⟨rfl,jq,fun h=>(nomatch h),h4⟩,Nat.lt_succ_self _,(tidy_of (objs:=_) _ 7 (by rfl) rfl (by repeat' (first|exact trivial|refine⟨(Or.inl rfl),?_⟩|refine⟨(Or.inr rfl),?_⟩|fail)) (by repeat' (first|exact trivial|refine⟨rfl,?_⟩|fail)) rfl rfl)⟩)|((exfalso;(simp at h<;>omega)))|fail)
 ·obtain rfl:n=4+1:=by omega
  have c0:=tokensC s p pb h2.toks
  have h4:(stepP s 1 p).bind (fun p=>restP s 4 2 p)=R:=h4
  cases hq:stepP s 1 p with
  |error e =>
   rw [hq] at h4
   rw [show tokensP s p=.error e from hq] at c0
   simp only [Except.bind] at h4
   subst h4
   repeat' (first|refine Yg ?_|refine Yq ?_|(refine oB (frz:=[]) Yo ?_ ?_<;>intro h<;>first|(exfalso;simp at h;first|done|omega)|skip)|(refine eB ?_ ?_<;>intro h<;>first|(exfalso;simp at h;first|done|omega)|skip)|refine oX (frz:=[]) Yo ?_|refine oS ?_|refine Yn ?_|refine Yk ?_|refine cT ?_|refine cF ?_|refine Yb ?_|refine Ye ?_|refine Yd (frz:=[]) Yo (by kernel_rfl) ?_|refine eX ?_|refine eS ?_|refine eN ?_|refine oEP [3,4,5,2,6] c0 ?_|(refine Yt ?_;(first|refine rB ?_|refine rI ?_|refine rA ?_|refine rII ?_|refine rSI ?_|refine rT ?_|refine rS ?_);first|done|(skip))|((exact endD rfl (.inr ⟨_,_,rfl,deferP e⟩) (by rfl) (by rfl) (.tup2 srcZ_to .refl)))|((exfalso;(simp at h<;>omega)))|fail)
  |ok q =>
   rw [hq] at h4
   rw [show tokensP s p=.ok q from hq] at c0
   have h4:restP s 4 2 q=R:=h4
   have jq:=h2.stepL hq
   repeat' (first|refine Yg ?_|refine Yq ?_|(refine oB (frz:=[]) Yo ?_ ?_<;>intro h<;>first|(exfalso;simp at h;first|done|omega)|skip)|(refine eB ?_ ?_<;>intro h<;>first|(exfalso;simp at h;first|done|omega)|skip)|refine oX (frz:=[]) Yo ?_|refine oS ?_|refine Yn ?_|refine Yk ?_|refine cT ?_|refine cF ?_|refine Yb ?_|refine Ye ?_|refine Yd (frz:=[]) Yo (by kernel_rfl) ?_|refine eX ?_|refine eS ?_|refine eN ?_|refine oE [3,4,5,2,6] c0 ?_|(refine Yt ?_;(first|refine rB ?_|refine rI ?_|refine rA ?_|refine rII ?_|refine rSI ?_|refine rT ?_|refine rS ?_);first|done|(skip))|(exact⟨(4,2,q),⟨rfl,jq,fun h=>(nomatch h),h4⟩,Nat.lt_succ_self _,(tidy_of (objs:=_) _ 7 (by rfl) rfl (by repeat' (first|exact trivial|refine⟨(Or.inl rfl),?_⟩|refine⟨(Or.inr rfl),?_⟩|fail)) (by repeat' (first|exact trivial|refine⟨rfl,?_⟩|fail)) rfl rfl)⟩)|((exfalso;(simp at h<;>omega)))|fail)
 ·obtain rfl:n=3+1:=by omega
  have c0:=sepC s p pb
  have h4:(stepP s 2 p).bind (fun p=>restP s 3 3 p)=R:=h4
  cases hq:stepP s 2 p with
  |error e =>
   rw [hq] at h4
   rw [show sepQ s p=.error e from hq] at c0
   simp only [Except.bind] at h4
   subst h4
   repeat' (first|refine Yg ?_|refine Yq ?_|(refine oB (frz:=[]) Yo ?_ ?_<;>intro h<;>first|(exfalso;simp at h;first|done|omega)|skip)|(refine eB ?_ ?_<;>intro h<;>first|(exfalso;simp at h;first|done|omega)|skip)|refine oX (frz:=[]) Yo ?_|refine oS ?_|refine Yn ?_|refine Yk ?_|refine cT ?_|refine cF ?_|refine Yb ?_|refine Ye ?_|refine Yd (frz:=[]) Yo (by kernel_rfl) ?_|refine eX ?_|refine eS ?_|refine eN ?_|refine oEP [3,4,5,2,6] c0 ?_|(refine Yt ?_;(first|refine rB ?_|refine rI ?_|refine rA ?_|refine rII ?_|refine rSI ?_|refine rT ?_|refine rS ?_);first|done|(skip))|((exact endD rfl (.inr ⟨_,_,rfl,deferP e⟩) (by rfl) (by rfl) (.tup2 srcZ_to .refl)))|((exfalso;(simp at h<;>omega)))|fail)
  |ok q =>
   rw [hq] at h4
   rw [show sepQ s p=.ok q from hq] at c0
   have h4:restP s 3 3 q=R:=h4
   have jq:=h2.stepL hq
   repeat' (first|refine Yg ?_|refine Yq ?_|(refine oB (frz:=[]) Yo ?_ ?_<;>intro h<;>first|(exfalso;simp at h;first|done|omega)|skip)|(refine eB ?_ ?_<;>intro h<;>first|(exfalso;simp at h;first|done|omega)|skip)|refine oX (frz:=[]) Yo ?_|refine oS ?_|refine Yn ?_|refine Yk ?_|refine cT ?_|refine cF ?_|refine Yb ?_|refine Ye ?_|refine Yd (frz:=[]) Yo (by kernel_rfl) ?_|refine eX ?_|refine eS ?_|refine eN ?_|refine oE [3,4,5,2,6] c0 ?_|(refine Yt ?_;(first|refine rB ?_|refine rI ?_|refine rA ?_|refine rII ?_|refine rSI ?_|refine rT ?_|refine rS ?_);first|done|(skip))|(exact⟨(3,3,q),⟨rfl,jq,fun h=>(nomatch h),h4⟩,Nat.lt_succ_self _,(tidy_of (objs:=_) _ 7 (by rfl) rfl (by repeat' (first|exact trivial|refine⟨(Or.inl rfl),?_⟩|refine⟨(Or.inr rfl),?_⟩|fail)) (by repeat' (first|exact trivial|refine⟨rfl,?_⟩|fail)) rfl rfl)⟩)|((exfalso;(simp at h<;>omega)))|fail)
 ·obtain rfl:n=2+1:=by omega
  have c0:=startC s p pb
  have h4:(stepP s 3 p).bind (fun p=>restP s 2 4 p)=R:=h4
  cases hq:stepP s 3 p with
  |error e =>
   rw [hq] at h4
   rw [show startP s p=.error e from hq] at c0
   simp only [Except.bind] at h4
   subst h4
   repeat' (first|refine Yg ?_|refine Yq ?_|(refine oB (frz:=[]) Yo ?_ ?_<;>intro h<;>first|(exfalso;simp at h;first|done|omega)|skip)|(refine eB ?_ ?_<;>intro h<;>first|(exfalso;simp at h;first|done|omega)|skip)|refine oX (frz:=[]) Yo ?_|refine oS ?_|refine Yn ?_|refine Yk ?_|refine cT ?_|refine cF ?_|refine Yb ?_|refine Ye ?_|refine Yd (frz:=[]) Yo (by kernel_rfl) ?_|refine eX ?_|refine eS ?_|refine eN ?_|refine oEP [3,4,5,2,6] c0 ?_|(refine Yt ?_;(first|refine rB ?_|refine rI ?_|refine rA ?_|refine rII ?_|refine rSI ?_|refine rT ?_|refine rS ?_);first|done|(skip))|((exact endD rfl (.inr ⟨_,_,rfl,deferP e⟩) (by rfl) (by rfl) (.tup2 srcZ_to .refl)))|((exfalso;(simp at h<;>omega)))|fail)
  |ok q =>
   rw [hq] at h4
   rw [show startP s p=.ok q from hq] at c0
   have h4:restP s 2 4 q=R:=h4
   have jq:=h2.stepL hq
   repeat' (first|refine Yg ?_|refine Yq ?_|(refine oB (frz:=[]) Yo ?_ ?_<;>intro h<;>first|(exfalso;simp at h;first|done|omega)|skip)|(refine eB ?_ ?_<;>intro h<;>first|(exfalso;simp at h;first|done|omega)|skip)|refine oX (frz:=[]) Yo ?_|refine oS ?_|refine Yn ?_|refine Yk ?_|refine cT ?_|refine cF ?_|refine Yb ?_|refine Ye ?_|refine Yd (frz:=[]) Yo (by kernel_rfl) ?_|refine eX ?_|refine eS ?_|refine eN ?_|refine oE [3,4,5,2,6] c0 ?_|(refine Yt ?_;(first|refine rB ?_|refine rI ?_|refine rA ?_|refine rII ?_|refine rSI ?_|refine rT ?_|refine rS ?_);first|done|(skip))|(exact⟨(2,4,q),⟨rfl,jq,fun h=>(nomatch h),h4⟩,Nat.lt_succ_self _,(tidy_of (objs:=_) _ 7 (by rfl) rfl (by repeat' (first|exact trivial|refine⟨(Or.inl rfl),?_⟩|refine⟨(Or.inr rfl),?_⟩|fail)) (by repeat' (first|exact trivial|refine⟨rfl,?_⟩|fail)) rfl rfl)⟩)|((exfalso;(simp at h<;>omega)))|fail)
 ·obtain rfl:n=1+1:=by omega
  have c0:=rulesC s p pb h2.rules h2.total
  have h4:(stepP s 4 p).bind (fun p=>restP s 1 5 p)=R:=h4
  cases hq:stepP s 4 p with
  |error e =>
   rw [hq] at h4
   rw [show rulesP s (p.l.length+1) true p=.error e from hq] at c0
   simp only [Except.bind] at h4
   subst h4
   repeat' (first|refine Yg ?_|refine Yq ?_|(refine oB (frz:=[]) Yo ?_ ?_<;>intro h<;>first|(exfalso;simp at h;first|done|omega)|skip)|(refine eB ?_ ?_<;>intro h<;>first|(exfalso;simp at h;first|done|omega)|skip)|refine oX (frz:=[]) Yo ?_|refine oS ?_|refine Yn ?_|refine Yk ?_|refine cT ?_|refine cF ?_|refine Yb ?_|refine Ye ?_|refine Yd (frz:=[]) Yo (by kernel_rfl) ?_|refine eX ?_|refine eS ?_|refine eN ?_|refine oEP [3,4,5,2,6] c0 ?_|(refine Yt ?_;(first|refine rB ?_|refine rI ?_|refine rA ?_|refine rII ?_|refine rSI ?_|refine rT ?_|refine rS ?_);first|done|(skip))|((exact endD rfl (.inr ⟨_,_,rfl,deferP e⟩) (by rfl) (by rfl) (.tup2 srcZ_to .refl)))|((exfalso;(simp at h<;>omega)))|fail)
  |ok q =>
   rw [hq] at h4
   rw [show rulesP s (p.l.length+1) true p=.ok q from hq] at c0
   have h4:restP s 1 5 q=R:=h4
   have jq:=h2.stepL hq
   repeat' (first|refine Yg ?_|refine Yq ?_|(refine oB (frz:=[]) Yo ?_ ?_<;>intro h<;>first|(exfalso;simp at h;first|done|omega)|skip)|(refine eB ?_ ?_<;>intro h<;>first|(exfalso;simp at h;first|done|omega)|skip)|refine oX (frz:=[]) Yo ?_|refine oS ?_|refine Yn ?_|refine Yk ?_|refine cT ?_|refine cF ?_|refine Yb ?_|refine Ye ?_|refine Yd (frz:=[]) Yo (by kernel_rfl) ?_|refine eX ?_|refine eS ?_|refine eN ?_|refine oE [3,4,5,2,6] c0 ?_|(refine Yt ?_;(first|refine rB ?_|refine rI ?_|refine rA ?_|refine rII ?_|refine rSI ?_|refine rT ?_|refine rS ?_);first|done|(skip))|(exact⟨(1,5,q),⟨rfl,jq,fun h=>(nomatch h),h4⟩,Nat.lt_succ_self _,(tidy_of (objs:=_) _ 7 (by rfl) rfl (by repeat' (first|exact trivial|refine⟨(Or.inl rfl),?_⟩|refine⟨(Or.inr rfl),?_⟩|fail)) (by repeat' (first|exact trivial|refine⟨rfl,?_⟩|fail)) rfl rfl)⟩)|((exfalso;(simp at h<;>omega)))|fail)
 ·obtain rfl:n=0+1:=by omega
  have c0:=usedC s p pb
  have h4:(stepP s 5 p).bind (fun p=>restP s 0 6 p)=R:=h4
  cases hq:stepP s 5 p with
  |error e =>
   rw [hq] at h4
   rw [show usedP p=.error e from hq] at c0
   simp only [Except.bind] at h4
   subst h4
   repeat' (first|refine Yg ?_|refine Yq ?_|(refine oB (frz:=[]) Yo ?_ ?_<;>intro h<;>first|(exfalso;simp at h;first|done|omega)|skip)|(refine eB ?_ ?_<;>intro h<;>first|(exfalso;simp at h;first|done|omega)|skip)|refine oX (frz:=[]) Yo ?_|refine oS ?_|refine Yn ?_|refine Yk ?_|refine cT ?_|refine cF ?_|refine Yb ?_|refine Ye ?_|refine Yd (frz:=[]) Yo (by kernel_rfl) ?_|refine eX ?_|refine eS ?_|refine eN ?_|refine oEP [3,4,5,2,6] c0 ?_|(refine Yt ?_;(first|refine rB ?_|refine rI ?_|refine rA ?_|refine rII ?_|refine rSI ?_|refine rT ?_|refine rS ?_);first|done|(skip))|((exact endD rfl (.inr ⟨_,_,rfl,deferP e⟩) (by rfl) (by rfl) (.tup2 srcZ_to .refl)))|((exfalso;(simp at h<;>omega)))|fail)
  |ok q =>
   rw [hq] at h4
   rw [show usedP p=.ok q from hq] at c0
   have h4:restP s 0 6 q=R:=h4
   have jq:=h2.stepL hq
   repeat' (first|refine Yg ?_|refine Yq ?_|(refine oB (frz:=[]) Yo ?_ ?_<;>intro h<;>first|(exfalso;simp at h;first|done|omega)|skip)|(refine eB ?_ ?_<;>intro h<;>first|(exfalso;simp at h;first|done|omega)|skip)|refine oX (frz:=[]) Yo ?_|refine oS ?_|refine Yn ?_|refine Yk ?_|refine cT ?_|refine cF ?_|refine Yb ?_|refine Ye ?_|refine Yd (frz:=[]) Yo (by kernel_rfl) ?_|refine eX ?_|refine eS ?_|refine eN ?_|refine oE [3,4,5,2,6] c0 ?_|(refine Yt ?_;(first|refine rB ?_|refine rI ?_|refine rA ?_|refine rII ?_|refine rSI ?_|refine rT ?_|refine rS ?_);first|done|(skip))|(exact⟨(0,6,q),⟨rfl,jq,fun h=>(nomatch h),h4⟩,Nat.lt_succ_self _,(tidy_of (objs:=_) _ 7 (by rfl) rfl (by repeat' (first|exact trivial|refine⟨(Or.inl rfl),?_⟩|refine⟨(Or.inr rfl),?_⟩|fail)) (by repeat' (first|exact trivial|refine⟨rfl,?_⟩|fail)) rfl rfl)⟩)|((exfalso;(simp at h<;>omega)))|fail)
 ·obtain rfl:n=0:=by omega
  have h4:(.ok p:Except Fa PS)=R:=h4
  subst h4
  repeat' (first|refine Yg ?_|refine Yq ?_|(refine oB (frz:=[]) Yo ?_ ?_<;>intro h<;>first|(exfalso;simp at h;first|done|omega)|skip)|(refine eB ?_ ?_<;>intro h<;>first|(exfalso;simp at h;first|done|omega)|skip)|refine oX (frz:=[]) Yo ?_|refine oS ?_|refine Yn ?_|refine Yk ?_|refine cT ?_|refine cF ?_|refine Yb ?_|refine Ye ?_|refine Yd (frz:=[]) Yo (by kernel_rfl) ?_|refine eX ?_|refine eS ?_|refine eN ?_|(refine Yt ?_;(first|refine rB ?_|refine rI ?_|refine rA ?_|refine rII ?_|refine rSI ?_|refine rT ?_|refine rS ?_);first|done|(skip))|((refine Yt ?_;exact endD rfl (.inr ⟨_,_,rfl,deferN _⟩) (by rfl) (by rfl) (.tup2 .refl .refl)))|((exfalso;(simp at h<;>omega)))|fail)
theorem parsePbad (s:List Nat) (e a:Nat) (hb:∀ c ∈ s,c<256) (hs:s.length≤1048576) (hlex:lexemesF s=([],e,a)) (he:e≠0) :
  KnownCall Tryz.prog 27 [.str s] (resX (src0,(e,a))):=by
 have cl:=lexemesP s hb hs
 rw [hlex] at cl
 have hv:AV.d (.bool (((e:Nat):Int) != 0))=.d (.bool true):=by
  congr 2
  have:¬ ((e:Nat):Int)=0:=by omega
  simpa using this
 refine knownE2 Yo (fnAt Tryz.func27 (by kernel_rfl) (by kernel_rfl):FnAt _ _ (mkFn Tryz.f27 [])) ?_
 repeat' (first|refine oX (frz:=[]) (v:=.d (.bool true)) Yo ?_ (he:=(hv))|refine eX (v:=.d (.bool true)) ?_ (he:=(hv))|refine Yg ?_|refine Yq ?_|(refine oB (frz:=[]) Yo ?_ ?_<;>intro h<;>first|(exfalso;simp at h;first|done|omega)|skip)|(refine eB ?_ ?_<;>intro h<;>first|(exfalso;simp at h;first|done|omega)|skip)|refine oX (frz:=[]) Yo ?_|refine oS ?_|refine Yn ?_|refine Yk ?_|refine cT ?_|refine cF ?_|refine Yb ?_|refine Ye ?_|refine Yd (frz:=[]) Yo (by kernel_rfl) ?_|refine eX ?_|refine eS ?_|refine eN ?_|refine oC (cl) ?_|refine eC (cl) ?_|(refine Yt ?_;refine r2 ?_;first|done|(exact .tup2 srcZ_to .refl))|((exfalso;first|(simp at h<;>fail)|(simp at h;omega)))|fail)
end Go.Av
end
noncomputable section
namespace Go.Av
open Go Go.Proofs
set_option maxRecDepth 10000
theorem fits0:FitsX src0:=by
 constructor<;>simp [src0]
theorem readR_fits (s:List Nat) (ls:List Lx) (hl:LsB ls):FitsX (resR (readR s ls)).1:=by
 obtain⟨hh1,hh2⟩:=headR_b (s:=s) hl
 simp only [readR]
 generalize headR s ls ⟨0,(0,0),0,src0⟩=H at hh1 hh2 ⊢
 obtain⟨st,rh⟩:=H
 simp only at hh1 hh2 ⊢
 have gen:∀ (n:Nat) (b:Bool) (r:RS),RuB ls r→RuB ls (rulesR s ls n b r):=by
  intro n
  induction n with
  |zero=>exact fun b r h=>h
  |succ n ih =>
   intro b r h
   simp only [rulesR]
   split
   ·rename_i hc
    exact ih false _ (ruleR_b (s:=s) hl h hc.1).1
   ·exact h
 have hR:=(gen (ls.length+2) true rh hh1).fits
 generalize rulesR s ls (ls.length+2) true rh=R at hR
 have xk:(knownR st (ls.drop rh.pos) R).x=R.x:=by
  simp only [knownR]
  rw [knownL_x.1]
  split
  ·exact failR_x.1
  ·rfl
 have x9:(if R.f.1=0 then knownR st (ls.drop rh.pos) R else R).x=R.x:=by
  split
  ·exact xk
  ·rfl
 generalize (if R.f.1=0 then knownR st (ls.drop rh.pos) R else R)=r9 at x9
 unfold resR
 split
 ·show FitsX r9.x
  rw [x9];exact hR
 ·exact fits0
theorem parseBoth (s:List Nat) (hs:s.length≤1048576) (hb:∀ c ∈ s,c<256) :
  ∃ r:Src × Fa,FitsX r.1∧KnownCall Tryz.prog 27 [.str s] (resX r)∧KnownCall Tryz.prog 28 [.str s] (resX r):=by
 rcases lexemesF_ls s hs with⟨ls,h1,h2,h3⟩|⟨e,q,h1,h2⟩
 ·exact⟨resR (readR s ls),readR_fits s ls h2,by rw [read_law];exact parseP s ls hb hs h2 h3 h1,parse4 s ls hs h2 h3 h1⟩
 ·exact⟨(src0,(e,q)),fits0,parsePbad s e q hb hs h1 h2,parse4bad s e q hs h1 h2⟩
end Go.Av
end
noncomputable section
namespace Go.Av
open Go Go.Proofs
set_option maxRecDepth 10000
def smL {α:Type} (p:α→α→Bool):List α→List α→Bool
 |[],[]=>true
 |x :: a,y :: b=>p x y && smL p a b
 |_,_=>false
theorem smL_len {α:Type} {p:α→α→Bool}:∀ {a b:List α},a.length≠b.length→smL p a b=false
 |[],[],h=>absurd rfl h
 |[],_ :: _,_=>rfl
 |_ :: _,[],_=>rfl
 |x :: a,y :: b,h=>by
  have:smL p a b=false:=smL_len (by simpa using h)
  simp [smL,this]
theorem smL_at {α:Type} {p:α→α→Bool}:∀ {a b:List α} {i:Nat} {x y:α},a[i]?=some x→b[i]?=some y→p x y=false→smL p a b=false
 |[],_,i,x,y,h,_,_=>by simp at h
 |_ :: _,[],i,x,y,_,h,_=>by simp at h
 |u :: a,v :: b,0,x,y,h,k,hp=>by simp at h k;subst h k;simp [smL,hp]
 |u :: a,v :: b,i+1,x,y,h,k,hp=>by
  have:=smL_at (p:=p) (a:=a) (b:=b) (i:=i) (by simpa using h) (by simpa using k) hp
  simp [smL,this]
theorem smL_all {α:Type} {p:α→α→Bool}:∀ {a b:List α},a.length=b.length→(∀ (j:Nat) x y,a[j]?=some x→b[j]?=some y→p x y=true)→smL p a b=true
 |[],[],_,_=>rfl
 |[],_ :: _,h,_=>by simp at h
 |_ :: _,[],h,_=>by simp at h
 |x :: a,y :: b,h,hp=>by
  have h1:=hp 0 x y rfl rfl
  have h2:=smL_all (p:=p) (a:=a) (b:=b) (by simpa using h) (fun j u v hu hv=>hp (j+1) u v (by simpa using hu) (by simpa using hv))
  simp [smL,h1,h2]
theorem smL_self {α:Type} {p:α→α→Bool} {a:List α} (h:∀ x ∈ a,p x x=true):smL p a a=true :=
 smL_all rfl fun j x y hx hy=>by rw [hx] at hy;cases hy;exact h x (List.mem_of_getElem? hx)
theorem upTo_succ {α:Type} {a b:List α} {p:α→α→Bool} {i:Nat} {x y:α} (hi:∀ j:Nat,j<i→∀ u v,a[j]?=some u→b[j]?=some v→p u v=true) (hx:a[i]?=some x) (hy:b[i]?=some y) (h:p x y=true) :
  ∀ j:Nat,j<i+1→∀ u v,a[j]?=some u→b[j]?=some v→p u v=true:=by
 intro j hj u v hu hv
 rcases Nat.lt_or_ge j i with h1|h1
 ·exact hi j h1 u v hu hv
 ·have:j=i:=by omega
  subst this
  rw [hx] at hu;rw [hy] at hv;cases hu;cases hv;exact h
theorem upTo_all {α:Type} {a b:List α} {p:α→α→Bool} {i:Nat} (hl:a.length=b.length) (hge:a.length≤i) (hi:∀ j:Nat,j<i→∀ u v,a[j]?=some u→b[j]?=some v→p u v=true):smL p a b=true :=
 smL_all hl fun j u v hu hv=>hi j (Nat.lt_of_lt_of_le (List.getElem?_eq_some_iff.1 hu).1 hge) u v hu hv
def smR (x y:SRule):Bool:=decide (x.name=y.name) && decide (x.alts=y.alts)
def smX (a b:Src):Bool:=decide (a.k=b.k) && decide (a.sep=b.sep) && decide (a.start=b.start) && decide (a.tokens=b.tokens) && smL smR a.rules b.rules
theorem smR_self (x:SRule):smR x x=true:=by simp [smR]
theorem smX_self (a:Src):smX a a=true:=by simp [smX,smL_self fun x _=>smR_self x]
theorem textsR8 (a b:List (List Nat)) (hal:a.length≤1099511627776):KnownCall Tryz.prog 109 [strs a,strs b] (.d (.bool (decide (a=b)))):=by
 by_cases hlen:a.length=b.length
 ·refine knownE Yo (fnAt Tryz.func109 (by kernel_rfl) (by kernel_rfl):FnAt _ _ (mkFn Tryz.f109 [])) ?_
  repeat' (first|refine Yg ?_|refine Yq ?_|(refine oB (frz:=[]) Yo ?_ ?_<;>intro h<;>first|(exfalso;simp at h;first|done|omega)|skip)|(refine eB ?_ ?_<;>intro h<;>first|(exfalso;simp at h;first|done|omega)|skip)|refine oX (frz:=[]) Yo ?_|refine oS ?_|refine Yn ?_|refine Yk ?_|refine cT ?_|refine cF ?_|refine Yb ?_|refine Ye ?_|refine Yd (frz:=[]) Yo (by kernel_rfl) ?_|refine eX ?_|refine eS ?_|refine eN ?_|(refine Yt ?_;(first|refine rB ?_|refine rI ?_|refine rA ?_|refine rII ?_|refine rSI ?_|refine rT ?_|refine rS ?_);first|done|(skip))|((exfalso;first|(simp_all<;>fail)|(simp_all;omega)))|fail)
  refine Run.loop (fun i:Nat=>⟨PT.ofList [(0,.d (strs a)),(1,.d (strs b)),(5,.d (.int .i64 i))],[],[]⟩) (fun i=>i≤a.length∧a.take i=b.take i) (fun i=>a.length-i) 0 ⟨Nat.zero_le _,rfl⟩ (weak_of (by repeat' (first|exact trivial|refine⟨rfl,?_⟩))) (fun i hi=>?_)
  rcases Nat.lt_or_ge i a.length with hlt|hge
  ·obtain⟨x,hx⟩:=get_ok hlt
   obtain⟨y,hy⟩:=get_ok (show i<b.length by omega)
   by_cases hxy:x=y
   ·subst hxy
    have ht:a.take (i+1)=b.take (i+1):=by rw [List.take_add_one,List.take_add_one,hi.2,hx,hy]
    repeat' (first|refine Yg ?_|refine Yq ?_|(refine oB (frz:=[]) Yo ?_ ?_<;>intro h<;>first|(exfalso;simp at h;first|done|omega)|skip)|(refine eB ?_ ?_<;>intro h<;>first|(exfalso;simp at h;first|done|omega)|skip)|refine oX (frz:=[]) Yo ?_|refine oS ?_|refine Yn ?_|refine Yk ?_|refine cT ?_|refine cF ?_|refine Yb ?_|refine Ye ?_|refine Yd (frz:=[]) Yo (by kernel_rfl) ?_|refine eX ?_|refine eS ?_|refine eN ?_|refine oX (frz:=[]) (v:=.d (.ep [.str x])) Yo ?_ (hf:=(by first|(simp [inB]<;>fail)|(simp [inB];omega))) (he:=(by first|(simp [List.getD_eq_getElem?_getD,cellsD,hx]<;>fail)|fail))|refine eX (v:=.d (.ep [.str x])) ?_ (hf:=(by first|(simp [inB]<;>fail)|(simp [inB];omega))) (he:=(by first|(simp [List.getD_eq_getElem?_getD,cellsD,hx]<;>fail)|fail))|refine oX (frz:=[]) (v:=.d (.ep [.str x])) Yo ?_ (hf:=(by first|(simp [inB]<;>fail)|(simp [inB];omega))) (he:=(by first|(simp [List.getD_eq_getElem?_getD,cellsD,hy]<;>fail)|fail))|refine eX (v:=.d (.ep [.str x])) ?_ (hf:=(by first|(simp [inB]<;>fail)|(simp [inB];omega))) (he:=(by first|(simp [List.getD_eq_getElem?_getD,cellsD,hy]<;>fail)|fail))|(refine Yt ?_;(first|refine rB ?_|refine rI ?_|refine rA ?_|refine rII ?_|refine rSI ?_|refine rT ?_|refine rS ?_);first|done|(skip))|(exact⟨i+1,⟨hlt,ht⟩,by omega,weak_of (by repeat' (first|exact trivial|refine⟨rfl,?_⟩|refine⟨(inc_get (k:=i) (by kernel_rfl) (by omega)),?_⟩))⟩)|((exfalso;first|(simp_all<;>fail)|(simp_all;omega)))|fail)
   ·have hne:a≠b:=fun e=>by subst e;rw [hx] at hy;cases hy;exact hxy rfl
    rw [decide_eq_false hne]
    repeat' (first|refine Yg ?_|refine Yq ?_|(refine oB (frz:=[]) Yo ?_ ?_<;>intro h<;>first|(exfalso;simp at h;first|done|omega)|skip)|(refine eB ?_ ?_<;>intro h<;>first|(exfalso;simp at h;first|done|omega)|skip)|refine oX (frz:=[]) Yo ?_|refine oS ?_|refine Yn ?_|refine Yk ?_|refine cT ?_|refine cF ?_|refine Yb ?_|refine Ye ?_|refine Yd (frz:=[]) Yo (by kernel_rfl) ?_|refine eX ?_|refine eS ?_|refine eN ?_|refine oX (frz:=[]) (v:=.d (.ep [.str x])) Yo ?_ (hf:=(by first|(simp [inB]<;>fail)|(simp [inB];omega))) (he:=(by first|(simp [List.getD_eq_getElem?_getD,cellsD,hx]<;>fail)|fail))|refine eX (v:=.d (.ep [.str x])) ?_ (hf:=(by first|(simp [inB]<;>fail)|(simp [inB];omega))) (he:=(by first|(simp [List.getD_eq_getElem?_getD,cellsD,hx]<;>fail)|fail))|refine oX (frz:=[]) (v:=.d (.ep [.str y])) Yo ?_ (hf:=(by first|(simp [inB]<;>fail)|(simp [inB];omega))) (he:=(by first|(simp [List.getD_eq_getElem?_getD,cellsD,hy]<;>fail)|fail))|refine eX (v:=.d (.ep [.str y])) ?_ (hf:=(by first|(simp [inB]<;>fail)|(simp [inB];omega))) (he:=(by first|(simp [List.getD_eq_getElem?_getD,cellsD,hy]<;>fail)|fail))|(refine Yt ?_;(first|refine rB ?_|refine rI ?_|refine rA ?_|refine rII ?_|refine rSI ?_|refine rT ?_|refine rS ?_);first|done|(rfl))|((exfalso;first|(simp_all<;>fail)|(simp_all;omega)))|fail)
  ·have hie:i=a.length:=by have:=hi.1;omega
   have hab:a=b:=by have:=hi.2;rw [hie,List.take_length,hlen,List.take_length] at this;exact this
   rw [decide_eq_true hab]
   repeat' (first|refine Yg ?_|refine Yq ?_|(refine oB (frz:=[]) Yo ?_ ?_<;>intro h<;>first|(exfalso;simp at h;first|done|omega)|skip)|(refine eB ?_ ?_<;>intro h<;>first|(exfalso;simp at h;first|done|omega)|skip)|refine oX (frz:=[]) Yo ?_|refine oS ?_|refine Yn ?_|refine Yk ?_|refine cT ?_|refine cF ?_|refine Yb ?_|refine Ye ?_|refine Yd (frz:=[]) Yo (by kernel_rfl) ?_|refine eX ?_|refine eS ?_|refine eN ?_|(refine Yt ?_;(first|refine rB ?_|refine rI ?_|refine rA ?_|refine rII ?_|refine rSI ?_|refine rT ?_|refine rS ?_);first|done|(rfl))|((exfalso;first|(simp_all<;>fail)|(simp_all;omega)))|fail)
 ·have hne:a≠b:=fun e=>by subst e;exact hlen rfl
  rw [decide_eq_false hne]
  refine knownE Yo (fnAt Tryz.func109 (by kernel_rfl) (by kernel_rfl):FnAt _ _ (mkFn Tryz.f109 [])) ?_
  repeat' (first|refine Yg ?_|refine Yq ?_|(refine oB (frz:=[]) Yo ?_ ?_<;>intro h<;>first|(exfalso;simp at h;first|done|omega)|skip)|(refine eB ?_ ?_<;>intro h<;>first|(exfalso;simp at h;first|done|omega)|skip)|refine oX (frz:=[]) Yo ?_|refine oS ?_|refine Yn ?_|refine Yk ?_|refine cT ?_|refine cF ?_|refine Yb ?_|refine Ye ?_|refine Yd (frz:=[]) Yo (by kernel_rfl) ?_|refine eX ?_|refine eS ?_|refine eN ?_|(refine Yt ?_;(first|refine rB ?_|refine rI ?_|refine rA ?_|refine rII ?_|refine rSI ?_|refine rT ?_|refine rS ?_);first|done|(rfl))|((exfalso;first|(simp_all<;>fail)|(simp_all;omega)))|fail)
end Go.Av
end
noncomputable section
namespace Go.Av
open Go Go.Proofs
set_option maxRecDepth 10000
theorem sameR8 (a b:Src) (ha:FitsX a):KnownCall Tryz.prog 29 [encX a,encX b] (.d (.bool (smX a b))):=by
 have hat:=ha.tokens
 have har:=ha.rules
 have c1:=textsR8 a.tokens b.tokens (by omega)
 by_cases h0:a.k=b.k∧a.tokens=b.tokens∧a.sep=b.sep∧a.start=b.start∧a.rules.length=b.rules.length
 ·obtain⟨h1,h2,h3,h4,h5⟩:=h0
  have he:smX a b=smL smR a.rules b.rules:=by simp [smX,h1,h2,h3,h4]
  rw [he]
  rw [decide_eq_true h2] at c1
  refine knownE Yo (fnAt Tryz.func29 (by kernel_rfl) (by kernel_rfl):FnAt _ _ (mkFn Tryz.f29 [2,3])) ?_
  repeat' (first|refine Yg ?_|refine Yq ?_|(refine oB (frz:=[2,3]) Yo ?_ ?_<;>intro h<;>first|(exfalso;simp at h;first|done|omega)|skip)|(refine eB ?_ ?_<;>intro h<;>first|(exfalso;simp at h;first|done|omega)|skip)|refine oX (frz:=[2,3]) Yo ?_|refine oS ?_|refine Yn ?_|refine Yk ?_|refine cT ?_|refine cF ?_|refine Yb ?_|refine Ye ?_|refine Yd (frz:=[2,3]) Yo (by kernel_rfl) ?_|refine eX ?_|refine eS ?_|refine eN ?_|refine oC (c1) ?_|refine eC (c1) ?_|(refine Yt ?_;(first|refine rB ?_|refine rI ?_|refine rA ?_|refine rII ?_|refine rSI ?_|refine rT ?_|refine rS ?_);first|done|(skip))|((exfalso;first|(simp_all<;>fail)|(simp_all;omega)))|fail)
  refine Run.loopT (fun i:Nat=>⟨PT.ofList [(2,cellX a),(3,cellX b),(5,.d (.int .i64 i))],[],[]⟩) (fun i=>i≤a.rules.length∧∀ j:Nat,j<i→∀ u v,a.rules[j]?=some u→b.rules[j]?=some v→smR u v=true) (fun i=>a.rules.length-i) 0 ⟨Nat.zero_le _,fun j hj=>by omega⟩ (tidy_of (objs:=_) _ 0 (by rfl) rfl (by repeat' (first|exact trivial|refine⟨(Or.inl rfl),?_⟩|refine⟨(Or.inr rfl),?_⟩|fail)) (by repeat' (first|exact trivial|refine⟨rfl,?_⟩|fail)) rfl rfl) (fun i hi=>?_)
  rcases Nat.lt_or_ge i a.rules.length with hlt|hge
  ·obtain⟨x,hx⟩:=get_ok hlt
   obtain⟨y,hy⟩:=get_ok (show i<b.rules.length by omega)
   have hxal:=ha.alts x (List.mem_of_getElem? hx)
   by_cases hn:x.name=y.name∧x.alts.length=y.alts.length
   ·obtain⟨hn1,hn2⟩:=hn
    repeat' (first|refine Yg ?_|refine Yq ?_|(refine oB (frz:=[2,3]) Yo ?_ ?_<;>intro h<;>first|(exfalso;simp at h;first|done|omega)|skip)|(refine eB ?_ ?_<;>intro h<;>first|(exfalso;simp at h;first|done|omega)|skip)|refine oX (frz:=[2,3]) Yo ?_|refine oS ?_|refine Yn ?_|refine Yk ?_|refine cT ?_|refine cF ?_|refine Yb ?_|refine Ye ?_|refine Yd (frz:=[2,3]) Yo (by kernel_rfl) ?_|refine eX ?_|refine eS ?_|refine eN ?_|refine oX (frz:=[2,3]) (v:=.d (.ep [.str x.name,alts x.alts])) Yo ?_ (hf:=(by first|(simp [inB]<;>fail)|(simp [inB];omega))) (he:=(by first|(simp [List.getD_eq_getElem?_getD,cellsD,hx,encR]<;>fail)|fail))|refine eX (v:=.d (.ep [.str x.name,alts x.alts])) ?_ (hf:=(by first|(simp [inB]<;>fail)|(simp [inB];omega))) (he:=(by first|(simp [List.getD_eq_getElem?_getD,cellsD,hx,encR]<;>fail)|fail))|refine oX (frz:=[2,3]) (v:=.d (.ep [.str y.name,alts y.alts])) Yo ?_ (hf:=(by first|(simp [inB]<;>fail)|(simp [inB];omega))) (he:=(by first|(simp [List.getD_eq_getElem?_getD,cellsD,hy,encR]<;>fail)|fail))|refine eX (v:=.d (.ep [.str y.name,alts y.alts])) ?_ (hf:=(by first|(simp [inB]<;>fail)|(simp [inB];omega))) (he:=(by first|(simp [List.getD_eq_getElem?_getD,cellsD,hy,encR]<;>fail)|fail))|(refine Yt ?_;(first|refine rB ?_|refine rI ?_|refine rA ?_|refine rII ?_|refine rSI ?_|refine rT ?_|refine rS ?_);first|done|(skip))|((exfalso;first|(simp_all<;>fail)|(simp_all;omega)))|fail)
    refine Run.loopT (fun k:Nat=>⟨PT.ofList [(2,cellX a),(3,cellX b),(5,.d (.int .i64 i)),(6,.bp 0 0),(7,.bp 1 0),(8,.d (.int .i64 k))],[.box [.d (.str x.name),.d (alts x.alts)],.box [.d (.str y.name),.d (alts y.alts)]],[]⟩) (fun k=>k≤x.alts.length∧x.alts.take k=y.alts.take k) (fun k=>x.alts.length-k) 0 ⟨Nat.zero_le _,rfl⟩ (tidy_of (objs:=_) _ 2 (by rfl) rfl (by repeat' (first|exact trivial|refine⟨(Or.inl rfl),?_⟩|refine⟨(Or.inr rfl),?_⟩|fail)) (by repeat' (first|exact trivial|refine⟨rfl,?_⟩|fail)) rfl rfl) (fun k hk=>?_)
    rcases Nat.lt_or_ge k x.alts.length with hkl|hkg
    ·obtain⟨u,hu⟩:=get_ok hkl
     obtain⟨v,hv⟩:=get_ok (show k<y.alts.length by omega)
     have c2:=textsR8 u v (Nat.le_trans (ha.names x (List.mem_of_getElem? hx) u (List.mem_of_getElem? hu)) (by decide))
     by_cases huv:u=v
     ·subst huv
      rw [decide_eq_true rfl] at c2
      have ht:x.alts.take (k+1)=y.alts.take (k+1):=by rw [List.take_add_one,List.take_add_one,hk.2,hu,hv]
      repeat' (first|refine Yg ?_|refine Yq ?_|(refine oB (frz:=[2,3]) Yo ?_ ?_<;>intro h<;>first|(exfalso;simp at h;first|done|omega)|skip)|(refine eB ?_ ?_<;>intro h<;>first|(exfalso;simp at h;first|done|omega)|skip)|refine oX (frz:=[2,3]) Yo ?_|refine oS ?_|refine Yn ?_|refine Yk ?_|refine cT ?_|refine cF ?_|refine Yb ?_|refine Ye ?_|refine Yd (frz:=[2,3]) Yo (by kernel_rfl) ?_|refine eX ?_|refine eS ?_|refine eN ?_|refine oX (frz:=[2,3]) (v:=.d (.ep [strs u])) Yo ?_ (hf:=(by first|(simp [inB]<;>fail)|(simp [inB];omega))) (he:=(by first|(simp [List.getD_eq_getElem?_getD,cellsD,hu]<;>fail)|fail))|refine eX (v:=.d (.ep [strs u])) ?_ (hf:=(by first|(simp [inB]<;>fail)|(simp [inB];omega))) (he:=(by first|(simp [List.getD_eq_getElem?_getD,cellsD,hu]<;>fail)|fail))|refine oX (frz:=[2,3]) (v:=.d (.ep [strs u])) Yo ?_ (hf:=(by first|(simp [inB]<;>fail)|(simp [inB];omega))) (he:=(by first|(simp [List.getD_eq_getElem?_getD,cellsD,hv]<;>fail)|fail))|refine eX (v:=.d (.ep [strs u])) ?_ (hf:=(by first|(simp [inB]<;>fail)|(simp [inB];omega))) (he:=(by first|(simp [List.getD_eq_getElem?_getD,cellsD,hv]<;>fail)|fail))|refine oC (c2) ?_|refine eC (c2) ?_|(refine Yt ?_;(first|refine rB ?_|refine rI ?_|refine rA ?_|refine rII ?_|refine rSI ?_|refine rT ?_|refine rS ?_);first|done|(skip))|(exact⟨k+1,⟨hkl,ht⟩,by omega,(tidy_of (objs:=_) _ 2 (by rfl) rfl (by repeat' (first|exact trivial|refine⟨(Or.inl rfl),?_⟩|refine⟨(Or.inl (inc_get (k:=k) (by kernel_rfl) (by omega))),?_⟩|refine⟨(Or.inr rfl),?_⟩|fail)) (by repeat' (first|exact trivial|refine⟨rfl,?_⟩|fail)) rfl rfl)⟩)|((exfalso;first|(simp_all<;>fail)|(simp_all;omega)))|fail)
     ·rw [decide_eq_false huv] at c2
      have hne:smR x y=false:=by
       have:x.alts≠y.alts:=fun e=>by rw [e] at hu;rw [hu] at hv;cases hv;exact huv rfl
       simp [smR,this]
      rw [smL_at hx hy hne]
      repeat' (first|refine Yg ?_|refine Yq ?_|(refine oB (frz:=[2,3]) Yo ?_ ?_<;>intro h<;>first|(exfalso;simp at h;first|done|omega)|skip)|(refine eB ?_ ?_<;>intro h<;>first|(exfalso;simp at h;first|done|omega)|skip)|refine oX (frz:=[2,3]) Yo ?_|refine oS ?_|refine Yn ?_|refine Yk ?_|refine cT ?_|refine cF ?_|refine Yb ?_|refine Ye ?_|refine Yd (frz:=[2,3]) Yo (by kernel_rfl) ?_|refine eX ?_|refine eS ?_|refine eN ?_|refine oX (frz:=[2,3]) (v:=.d (.ep [strs u])) Yo ?_ (hf:=(by first|(simp [inB]<;>fail)|(simp [inB];omega))) (he:=(by first|(simp [List.getD_eq_getElem?_getD,cellsD,hu]<;>fail)|fail))|refine eX (v:=.d (.ep [strs u])) ?_ (hf:=(by first|(simp [inB]<;>fail)|(simp [inB];omega))) (he:=(by first|(simp [List.getD_eq_getElem?_getD,cellsD,hu]<;>fail)|fail))|refine oX (frz:=[2,3]) (v:=.d (.ep [strs v])) Yo ?_ (hf:=(by first|(simp [inB]<;>fail)|(simp [inB];omega))) (he:=(by first|(simp [List.getD_eq_getElem?_getD,cellsD,hv]<;>fail)|fail))|refine eX (v:=.d (.ep [strs v])) ?_ (hf:=(by first|(simp [inB]<;>fail)|(simp [inB];omega))) (he:=(by first|(simp [List.getD_eq_getElem?_getD,cellsD,hv]<;>fail)|fail))|refine oC (c2) ?_|refine eC (c2) ?_|(refine Yt ?_;(first|refine rB ?_|refine rI ?_|refine rA ?_|refine rII ?_|refine rSI ?_|refine rT ?_|refine rS ?_);first|done|(rfl))|((exfalso;first|(simp_all<;>fail)|(simp_all;omega)))|fail)
    ·have hke:k=x.alts.length:=by have:=hk.1;omega
     have hal:x.alts=y.alts:=by have:=hk.2;rw [hke,List.take_length,hn2,List.take_length] at this;exact this
     have hexy:smR x y=true:=by simp [smR,hn1,hal]
     have ht:=upTo_succ hi.2 hx hy hexy
     repeat' (first|refine Yg ?_|refine Yq ?_|(refine oB (frz:=[2,3]) Yo ?_ ?_<;>intro h<;>first|(exfalso;simp at h;first|done|omega)|skip)|(refine eB ?_ ?_<;>intro h<;>first|(exfalso;simp at h;first|done|omega)|skip)|refine oX (frz:=[2,3]) Yo ?_|refine oS ?_|refine Yn ?_|refine Yk ?_|refine cT ?_|refine cF ?_|refine Yb ?_|refine Ye ?_|refine Yd (frz:=[2,3]) Yo (by kernel_rfl) ?_|refine eX ?_|refine eS ?_|refine eN ?_|(refine Yt ?_;(first|refine rB ?_|refine rI ?_|refine rA ?_|refine rII ?_|refine rSI ?_|refine rT ?_|refine rS ?_);first|done|(skip))|(exact⟨i+1,⟨hlt,ht⟩,by omega,(tidy_of (objs:=_) _ 0 (by rfl) rfl (by repeat' (first|exact trivial|refine⟨(Or.inl rfl),?_⟩|refine⟨(Or.inl (inc_get (k:=i) (by kernel_rfl) (by omega))),?_⟩|refine⟨(Or.inr rfl),?_⟩|fail)) (by repeat' (first|exact trivial|refine⟨rfl,?_⟩|fail)) rfl rfl)⟩)|((exfalso;first|(simp_all<;>fail)|(simp_all;omega)))|fail)
   ·have hne:smR x y=false:=by
     cases hb:smR x y with
     |false=>rfl
     |true =>
      simp only [smR,Bool.and_eq_true,decide_eq_true_eq] at hb
      exact absurd ⟨hb.1,by rw [hb.2]⟩ hn
    rw [smL_at hx hy hne]
    by_cases hn1:x.name=y.name
    ·have hn2:x.alts.length≠y.alts.length:=fun e=>hn ⟨hn1,e⟩
     repeat' (first|refine Yg ?_|refine Yq ?_|(refine oB (frz:=[2,3]) Yo ?_ ?_<;>intro h<;>first|(exfalso;simp at h;first|done|omega)|skip)|(refine eB ?_ ?_<;>intro h<;>first|(exfalso;simp at h;first|done|omega)|skip)|refine oX (frz:=[2,3]) Yo ?_|refine oS ?_|refine Yn ?_|refine Yk ?_|refine cT ?_|refine cF ?_|refine Yb ?_|refine Ye ?_|refine Yd (frz:=[2,3]) Yo (by kernel_rfl) ?_|refine eX ?_|refine eS ?_|refine eN ?_|refine oX (frz:=[2,3]) (v:=.d (.ep [.str x.name,alts x.alts])) Yo ?_ (hf:=(by first|(simp [inB]<;>fail)|(simp [inB];omega))) (he:=(by first|(simp [List.getD_eq_getElem?_getD,cellsD,hx,encR]<;>fail)|fail))|refine eX (v:=.d (.ep [.str x.name,alts x.alts])) ?_ (hf:=(by first|(simp [inB]<;>fail)|(simp [inB];omega))) (he:=(by first|(simp [List.getD_eq_getElem?_getD,cellsD,hx,encR]<;>fail)|fail))|refine oX (frz:=[2,3]) (v:=.d (.ep [.str y.name,alts y.alts])) Yo ?_ (hf:=(by first|(simp [inB]<;>fail)|(simp [inB];omega))) (he:=(by first|(simp [List.getD_eq_getElem?_getD,cellsD,hy,encR]<;>fail)|fail))|refine eX (v:=.d (.ep [.str y.name,alts y.alts])) ?_ (hf:=(by first|(simp [inB]<;>fail)|(simp [inB];omega))) (he:=(by first|(simp [List.getD_eq_getElem?_getD,cellsD,hy,encR]<;>fail)|fail))|(refine Yt ?_;(first|refine rB ?_|refine rI ?_|refine rA ?_|refine rII ?_|refine rSI ?_|refine rT ?_|refine rS ?_);first|done|(rfl))|((exfalso;(simp [hn1] at h<;>fail)))|((exfalso;(simp [hn2] at h<;>fail)))|((exfalso;(simp at h<;>omega)))|fail)
    ·have hnb:(x.name == y.name)=false:=by simpa using hn1
     repeat' (first|refine oX (frz:=[2,3]) (v:=.d (.bool true)) Yo ?_ (he:=(congrArg (fun b=>AV.d (.bool (!b))) hnb))|refine eX (v:=.d (.bool true)) ?_ (he:=(congrArg (fun b=>AV.d (.bool (!b))) hnb))|refine Yg ?_|refine Yq ?_|(refine oB (frz:=[2,3]) Yo ?_ ?_<;>intro h<;>first|(exfalso;simp at h;first|done|omega)|skip)|(refine eB ?_ ?_<;>intro h<;>first|(exfalso;simp at h;first|done|omega)|skip)|refine oX (frz:=[2,3]) Yo ?_|refine oS ?_|refine Yn ?_|refine Yk ?_|refine cT ?_|refine cF ?_|refine Yb ?_|refine Ye ?_|refine Yd (frz:=[2,3]) Yo (by kernel_rfl) ?_|refine eX ?_|refine eS ?_|refine eN ?_|refine oX (frz:=[2,3]) (v:=.d (.ep [.str x.name,alts x.alts])) Yo ?_ (hf:=(by first|(simp [inB]<;>fail)|(simp [inB];omega))) (he:=(by first|(simp [List.getD_eq_getElem?_getD,cellsD,hx,encR]<;>fail)|fail))|refine eX (v:=.d (.ep [.str x.name,alts x.alts])) ?_ (hf:=(by first|(simp [inB]<;>fail)|(simp [inB];omega))) (he:=(by first|(simp [List.getD_eq_getElem?_getD,cellsD,hx,encR]<;>fail)|fail))|refine oX (frz:=[2,3]) (v:=.d (.ep [.str y.name,alts y.alts])) Yo ?_ (hf:=(by first|(simp [inB]<;>fail)|(simp [inB];omega))) (he:=(by first|(simp [List.getD_eq_getElem?_getD,cellsD,hy,encR]<;>fail)|fail))|refine eX (v:=.d (.ep [.str y.name,alts y.alts])) ?_ (hf:=(by first|(simp [inB]<;>fail)|(simp [inB];omega))) (he:=(by first|(simp [List.getD_eq_getElem?_getD,cellsD,hy,encR]<;>fail)|fail))|(refine Yt ?_;(first|refine rB ?_|refine rI ?_|refine rA ?_|refine rII ?_|refine rSI ?_|refine rT ?_|refine rS ?_);first|done|(rfl))|((exfalso;(simp at h<;>omega)))|fail)
  ·rw [upTo_all h5 hge hi.2]
   have hie:i=a.rules.length:=by have:=hi.1;omega
   subst hie
   repeat' (first|refine Yg ?_|refine Yq ?_|(refine oB (frz:=[2,3]) Yo ?_ ?_<;>intro h<;>first|(exfalso;simp at h;first|done|omega)|skip)|(refine eB ?_ ?_<;>intro h<;>first|(exfalso;simp at h;first|done|omega)|skip)|refine oX (frz:=[2,3]) Yo ?_|refine oS ?_|refine Yn ?_|refine Yk ?_|refine cT ?_|refine cF ?_|refine Yb ?_|refine Ye ?_|refine Yd (frz:=[2,3]) Yo (by kernel_rfl) ?_|refine eX ?_|refine eS ?_|refine eN ?_|(refine Yt ?_;(first|refine rB ?_|refine rI ?_|refine rA ?_|refine rII ?_|refine rSI ?_|refine rT ?_|refine rS ?_);first|done|(rfl))|((exfalso;first|(simp_all<;>fail)|(simp_all;omega)))|fail)
 ·have hf:smX a b=false:=by
   cases hb:smX a b with
   |false=>rfl
   |true =>
    simp only [smX,Bool.and_eq_true,decide_eq_true_eq] at hb
    obtain⟨⟨⟨⟨g1,g2⟩,g3⟩,g4⟩,g5⟩:=hb
    refine absurd ⟨g1,g4,g2,g3,Classical.byContradiction fun hl=>?_⟩ h0
    rw [smL_len hl] at g5;cases g5
  rw [hf]
  generalize hbt:decide (a.tokens=b.tokens)=bt at c1
  refine knownE Yo (fnAt Tryz.func29 (by kernel_rfl) (by kernel_rfl):FnAt _ _ (mkFn Tryz.f29 [2,3])) ?_
  repeat' (first|refine Yg ?_|refine Yq ?_|(refine oB (frz:=[2,3]) Yo ?_ ?_<;>intro h<;>first|(exfalso;simp at h;first|done|omega)|skip)|(refine eB ?_ ?_<;>intro h<;>first|(exfalso;simp at h;first|done|omega)|skip)|refine oX (frz:=[2,3]) Yo ?_|refine oS ?_|refine Yn ?_|refine Yk ?_|refine cT ?_|refine cF ?_|refine Yb ?_|refine Ye ?_|refine Yd (frz:=[2,3]) Yo (by kernel_rfl) ?_|refine eX ?_|refine eS ?_|refine eN ?_|(refine oK (c1) ?_ ?_<;>intro h<;>first|(exfalso;simp at h;first|done|omega)|skip)|refine oC (c1) ?_|(refine eK (c1) ?_ ?_<;>intro h<;>first|(exfalso;simp at h;first|done|omega)|skip)|refine eC (c1) ?_|(refine Yt ?_;(first|refine rB ?_|refine rI ?_|refine rA ?_|refine rII ?_|refine rSI ?_|refine rT ?_|refine rS ?_);first|done|(rfl))|fail)
  exfalso
  rename_i g1 g2 g3 g4 g5
  have e1:=g1
  simp at e1
  have e4:=g4
  simp at e4
  have e5:=g5
  simp at e5
  have e6:=h
  simp at e6
  exact h0 ⟨e1,of_decide_eq_true (hbt.trans g2),e4,e5,by omega⟩
end Go.Av
end
noncomputable section
namespace Go.Av
open Go Go.Proofs
def e0:List DV × AV:=([(.str [108,111,111,107,97,104,101,97,100,32,50,59,32,116,111,107,101,110,32,97,44,32,98,59,32,115,101,112,97,114,97,116,111,114,32,99,59,32,115,116,97,114,116,32,83,59,32,83,32,61,32,97,32,83,32,124,32,98,32,124,32,59])],(.tup [(.d (.sl 3 [(.agg [(.int .i64 1),(.str [108,111,111,107,97,104,101,97,100]),(.int .i64 0)]),(.agg [(.int .i64 2),(.str [50]),(.int .i64 10)]),(.agg [(.int .i64 3),(.str [59]),(.int .i64 11)]),(.agg [(.int .i64 1),(.str [116,111,107,101,110]),(.int .i64 13)]),(.agg [(.int .i64 1),(.str [97]),(.int .i64 19)]),(.agg [(.int .i64 3),(.str [44]),(.int .i64 20)]),(.agg [(.int .i64 1),(.str [98]),(.int .i64 22)]),(.agg [(.int .i64 3),(.str [59]),(.int .i64 23)]),(.agg [(.int .i64 1),(.str [115,101,112,97,114,97,116,111,114]),(.int .i64 25)]),(.agg [(.int .i64 1),(.str [99]),(.int .i64 35)]),(.agg [(.int .i64 3),(.str [59]),(.int .i64 36)]),(.agg [(.int .i64 1),(.str [115,116,97,114,116]),(.int .i64 38)]),(.agg [(.int .i64 1),(.str [83]),(.int .i64 44)]),(.agg [(.int .i64 3),(.str [59]),(.int .i64 45)]),(.agg [(.int .i64 1),(.str [83]),(.int .i64 47)]),(.agg [(.int .i64 3),(.str [61]),(.int .i64 49)]),(.agg [(.int .i64 1),(.str [97]),(.int .i64 51)]),(.agg [(.int .i64 1),(.str [83]),(.int .i64 53)]),(.agg [(.int .i64 3),(.str [124]),(.int .i64 55)]),(.agg [(.int .i64 1),(.str [98]),(.int .i64 57)]),(.agg [(.int .i64 3),(.str [124]),(.int .i64 59)]),(.agg [(.int .i64 3),(.str [59]),(.int .i64 61)])])),(.d (.agg [(.int .i64 0),(.int .i64 0)]))]))
theorem k0:KnownCall Tryz.prog 96 e0.1 e0.2:=knownF T0_ok Yo (by kernel_rfl) Ft_ok (k:=100000) (n:=60) (by kernel_rfl)
def e1:List DV × AV:=([(.agg [(.int .i64 2),(.str [50]),(.int .i64 10)])],(.d (.int .i64 0)))
theorem k1:KnownCall Tryz.prog 228 e1.1 e1.2:=knownF T0_ok Yo (by kernel_rfl) Ft_ok (k:=100000) (n:=60) (by kernel_rfl)
end Go.Av
end
noncomputable section
namespace Go.Av
open Go Go.Proofs
def e2:List DV × AV:=([(.str [97])],(.d (.int .i64 0)))
theorem k2:KnownCall Tryz.prog 204 e2.1 e2.2:=knownF T0_ok Yo (by kernel_rfl) Ft_ok (k:=100000) (n:=60) (by kernel_rfl)
def e3:List DV × AV:=([(.str [98])],(.d (.int .i64 0)))
theorem k3:KnownCall Tryz.prog 204 e3.1 e3.2:=knownF T0_ok Yo (by kernel_rfl) Ft_ok (k:=100000) (n:=60) (by kernel_rfl)
def e4:List DV × AV:=([(.str [83])],(.d (.int .i64 0)))
theorem k4:KnownCall Tryz.prog 204 e4.1 e4.2:=knownF T0_ok Yo (by kernel_rfl) Ft_ok (k:=100000) (n:=60) (by kernel_rfl)
end Go.Av
end
noncomputable section
namespace Go.Av
open Go Go.Proofs
def T1:Memo:=(.node .nil none (.node (.node (.node (.node (.node .nil none (.node .nil (some [e0]) .nil)) none .nil) none .nil) none (.node (.node (.node .nil none (.node .nil none (.node .nil (some [e1]) .nil))) none .nil) none (.node (.node (.node .nil none (.node .nil (some [e2,e3,e4]) .nil)) none .nil) none .nil))) none .nil))
theorem T1_ok:MemoOK Tryz.prog T1:=⟨trivial,trivial,⟨trivial,⟨trivial,⟨trivial,⟨trivial,⟨trivial,trivial,⟨⟨k0,trivial⟩,trivial,trivial⟩⟩,trivial⟩,trivial⟩,⟨trivial,⟨trivial,⟨trivial,trivial,⟨trivial,trivial,⟨⟨k1,trivial⟩,trivial,trivial⟩⟩⟩,trivial⟩,⟨trivial,⟨trivial,⟨trivial,trivial,⟨⟨k2,k3,k4,trivial⟩,trivial,trivial⟩⟩,trivial⟩,trivial⟩⟩⟩,trivial⟩⟩
end Go.Av
end
noncomputable section
namespace Go.Av
open Go Go.Proofs
def e5:List DV × AV:=([(.str [108,111,111,107,97,104,101,97,100,32,50,59,32,116,111,107,101,110,32,97,44,32,98,59,32,115,101,112,97,114,97,116,111,114,32,99,59,32,115,116,97,114,116,32,83,59,32,83,32,61,32,97,32,83,32,124,32,98,32,124,32,59])],(.tup [(.d (.agg [(.int .i64 2),(.sl 1 [(.str [97]),(.str [98])]),(.str [99]),(.str [83]),(.sl 2 [(.agg [(.str [83]),(.sl 1 [(.sl 1 [(.str [97]),(.str [83])]),(.sl 1 [(.str [98])]),.nilsl])])])])),(.d (.agg [(.int .i64 0),(.int .i64 0)]))]))
theorem k5:KnownCall Tryz.prog 27 e5.1 e5.2:=knownF T1_ok Yo (by kernel_rfl) Ft_ok (k:=100000) (n:=60) (by kernel_rfl)
def e6:List DV × AV:=([(.agg [(.int .i64 2),(.sl 1 [(.str [97]),(.str [98])]),(.str [99]),(.str [83]),(.sl 2 [(.agg [(.str [83]),(.sl 1 [(.sl 1 [(.str [97]),(.str [83])]),(.sl 1 [(.str [98])]),.nilsl])])])])],(.d (.int .i64 0)))
theorem k6:KnownCall Tryz.prog 35 e6.1 e6.2:=knownF T1_ok Yo (by kernel_rfl) Ft_ok (k:=100000) (n:=60) (by kernel_rfl)
end Go.Av
end
noncomputable section
namespace Go.Av
open Go Go.Proofs
def T2:Memo:=(.node (.node (.node .nil none (.node (.node (.node .nil (some [e6]) .nil) none .nil) none (.node .nil (some [e5]) .nil))) none .nil) none (.node (.node (.node (.node (.node .nil none (.node .nil (some [e0]) .nil)) none .nil) none .nil) none (.node (.node (.node .nil none (.node .nil none (.node .nil (some [e1]) .nil))) none .nil) none (.node (.node (.node .nil none (.node .nil (some [e2,e3,e4]) .nil)) none .nil) none .nil))) none .nil))
theorem T2_ok:MemoOK Tryz.prog T2:=⟨trivial,⟨trivial,⟨trivial,trivial,⟨trivial,⟨trivial,⟨⟨k6,trivial⟩,trivial,trivial⟩,trivial⟩,⟨⟨k5,trivial⟩,trivial,trivial⟩⟩⟩,trivial⟩,⟨trivial,⟨trivial,⟨trivial,⟨trivial,⟨trivial,trivial,⟨⟨k0,trivial⟩,trivial,trivial⟩⟩,trivial⟩,trivial⟩,⟨trivial,⟨trivial,⟨trivial,trivial,⟨trivial,trivial,⟨⟨k1,trivial⟩,trivial,trivial⟩⟩⟩,trivial⟩,⟨trivial,⟨trivial,⟨trivial,trivial,⟨⟨k2,k3,k4,trivial⟩,trivial,trivial⟩⟩,trivial⟩,trivial⟩⟩⟩,trivial⟩⟩
end Go.Av
end
noncomputable section
namespace Go.Av
open Go Go.Proofs
def e7:List DV × AV:=([(.agg [(.int .i64 2),(.sl 1 [(.str [97]),(.str [98])]),(.str [99]),(.str [83]),(.sl 2 [(.agg [(.str [83]),(.sl 1 [(.sl 1 [(.str [97]),(.str [83])]),(.sl 1 [(.str [98])]),.nilsl])])])])],(.tup [(.d (.str [108,111,111,107,97,104,101,97,100,32,50,59,10,116,111,107,101,110,32,97,44,32,98,59,10,115,101,112,97,114,97,116,111,114,32,99,59,10,115,116,97,114,116,32,83,59,10,83,32,61,32,97,32,83,32,124,32,98,32,124,32,59,10])),(.d (.int .i64 0))]))
theorem k7:KnownCall Tryz.prog 31 e7.1 e7.2:=knownF T2_ok Yo (by kernel_rfl) Ft_ok (k:=100000) (n:=60) (by kernel_rfl)
end Go.Av
end
noncomputable section
namespace Go.Av
open Go Go.Proofs
def T3:Memo:=(.node (.node (.node (.node (.node (.node .nil (some [e7]) .nil) none .nil) none .nil) none (.node (.node (.node .nil (some [e6]) .nil) none .nil) none (.node .nil (some [e5]) .nil))) none .nil) none (.node (.node (.node (.node (.node .nil none (.node .nil (some [e0]) .nil)) none .nil) none .nil) none (.node (.node (.node .nil none (.node .nil none (.node .nil (some [e1]) .nil))) none .nil) none (.node (.node (.node .nil none (.node .nil (some [e2,e3,e4]) .nil)) none .nil) none .nil))) none .nil))
theorem T3_ok:MemoOK Tryz.prog T3:=⟨trivial,⟨trivial,⟨trivial,⟨trivial,⟨trivial,⟨⟨k7,trivial⟩,trivial,trivial⟩,trivial⟩,trivial⟩,⟨trivial,⟨trivial,⟨⟨k6,trivial⟩,trivial,trivial⟩,trivial⟩,⟨⟨k5,trivial⟩,trivial,trivial⟩⟩⟩,trivial⟩,⟨trivial,⟨trivial,⟨trivial,⟨trivial,⟨trivial,trivial,⟨⟨k0,trivial⟩,trivial,trivial⟩⟩,trivial⟩,trivial⟩,⟨trivial,⟨trivial,⟨trivial,trivial,⟨trivial,trivial,⟨⟨k1,trivial⟩,trivial,trivial⟩⟩⟩,trivial⟩,⟨trivial,⟨trivial,⟨trivial,trivial,⟨⟨k2,k3,k4,trivial⟩,trivial,trivial⟩⟩,trivial⟩,trivial⟩⟩⟩,trivial⟩⟩
end Go.Av
end
noncomputable section
namespace Go.Av
open Go Go.Proofs
theorem awake8:KnownCall Tryz.prog 26 [] (.d (.bool true)):=knownF T3_ok Yo (by kernel_rfl) Ft_ok (k:=100000) (n:=60) (by kernel_rfl)
end Go.Av
end
noncomputable section
namespace Go.Av
open Go Go.Proofs
set_option maxRecDepth 10000
set_option maxHeartbeats 4000000 in
theorem lawSP (s:List Nat) (hw:s.length≤maxLen∧∀ c ∈ s,c<256):KnownCall Tryz.prog 4 [.str s] (.d (.bool true)):=by
 have hA:=awake8
 by_cases h1:1000<s.length∧s.length≤1990
 ·obtain⟨h1,h2⟩:=h1
  have e1:decide ((s.length:Int) > 1000)=true:=by simp;omega
  have e2:decide ((s.length:Int)≤1990)=true:=by simp;omega
  refine knownE Yo (fnAt Tryz.func4 (by kernel_rfl) (by kernel_rfl):FnAt _ _ (mkFn Tryz.f4 [3,4,5,6])) ?_
  repeat' (first|refine oX (frz:=[3,4,5,6]) (v:=.d (.bool true)) Yo ?_ (he:=((congrArg (fun b=>AV.d (.bool b)) e2)))|refine eX (v:=.d (.bool true)) ?_ (he:=((congrArg (fun b=>AV.d (.bool b)) e2)))|refine oX (frz:=[3,4,5,6]) (v:=.d (.bool true)) Yo ?_ (he:=((congrArg (fun b=>AV.d (.bool b)) e1)))|refine eX (v:=.d (.bool true)) ?_ (he:=((congrArg (fun b=>AV.d (.bool b)) e1)))|refine Yg ?_|refine Yq ?_|(refine oB (frz:=[3,4,5,6]) Yo ?_ ?_<;>intro h<;>first|(exfalso;simp at h;first|done|omega)|skip)|(refine eB ?_ ?_<;>intro h<;>first|(exfalso;simp at h;first|done|omega)|skip)|refine oX (frz:=[3,4,5,6]) Yo ?_|refine oS ?_|refine Yn ?_|refine Yk ?_|refine cT ?_|refine cF ?_|refine Yb ?_|refine Ye ?_|refine Yd (frz:=[3,4,5,6]) Yo (by kernel_rfl) ?_|refine eX ?_|refine eS ?_|refine eN ?_|refine oC (hA) ?_|refine eC (hA) ?_|(refine Yt ?_;(first|refine rB ?_|refine rI ?_|refine rA ?_|refine rII ?_|refine rSI ?_|refine rT ?_|refine rS ?_);first|done|(rfl))|((exfalso;first|(simp at h<;>fail)|(simp at h;omega)))|fail)
 ·by_cases h2:2010<s.length
  ·have e1:decide ((s.length:Int) > 1000)=true:=by simp;omega
   have e2:decide ((s.length:Int)≤1990)=false:=by simp;omega
   have e3:decide ((s.length:Int) > 2010)=true:=by simp;omega
   refine knownE Yo (fnAt Tryz.func4 (by kernel_rfl) (by kernel_rfl):FnAt _ _ (mkFn Tryz.f4 [3,4,5,6])) ?_
   repeat' (first|refine oX (frz:=[3,4,5,6]) (v:=.d (.bool true)) Yo ?_ (he:=((congrArg (fun b=>AV.d (.bool b)) e3)))|refine eX (v:=.d (.bool true)) ?_ (he:=((congrArg (fun b=>AV.d (.bool b)) e3)))|refine oX (frz:=[3,4,5,6]) (v:=.d (.bool false)) Yo ?_ (he:=((congrArg (fun b=>AV.d (.bool b)) e2)))|refine eX (v:=.d (.bool false)) ?_ (he:=((congrArg (fun b=>AV.d (.bool b)) e2)))|refine oX (frz:=[3,4,5,6]) (v:=.d (.bool true)) Yo ?_ (he:=((congrArg (fun b=>AV.d (.bool b)) e1)))|refine eX (v:=.d (.bool true)) ?_ (he:=((congrArg (fun b=>AV.d (.bool b)) e1)))|refine Yg ?_|refine Yq ?_|(refine oB (frz:=[3,4,5,6]) Yo ?_ ?_<;>intro h<;>first|(exfalso;simp at h;first|done|omega)|skip)|(refine eB ?_ ?_<;>intro h<;>first|(exfalso;simp at h;first|done|omega)|skip)|refine oX (frz:=[3,4,5,6]) Yo ?_|refine oS ?_|refine Yn ?_|refine Yk ?_|refine cT ?_|refine cF ?_|refine Yb ?_|refine Ye ?_|refine Yd (frz:=[3,4,5,6]) Yo (by kernel_rfl) ?_|refine eX ?_|refine eS ?_|refine eN ?_|refine oC (hA) ?_|refine eC (hA) ?_|(refine Yt ?_;(first|refine rB ?_|refine rI ?_|refine rA ?_|refine rII ?_|refine rSI ?_|refine rT ?_|refine rS ?_);first|done|(rfl))|((exfalso;first|(simp at h<;>fail)|(simp at h;omega)))|fail)
  ·obtain⟨⟨x,c,a⟩,hf,c1,c2⟩:=parseBoth s (by omega) hw.2
   simp only at hf
   have c3:=sameR8 x x hf
   rw [smX_self] at c3
   unfold resX at c1 c2
   simp only at c1 c2
   refine knownE Yo (fnAt Tryz.func4 (by kernel_rfl) (by kernel_rfl):FnAt _ _ (mkFn Tryz.f4 [3,4,5,6])) ?_
   repeat' (first|refine Yg ?_|refine Yq ?_|(refine oB (frz:=[3,4,5,6]) Yo ?_ ?_<;>intro h<;>first|(exfalso;simp at h;first|done|omega)|skip)|(refine eB ?_ ?_<;>intro h<;>first|(exfalso;simp at h;first|done|omega)|skip)|refine oX (frz:=[3,4,5,6]) Yo ?_|refine oS ?_|refine Yn ?_|refine Yk ?_|refine cT ?_|refine cF ?_|refine Yb ?_|refine Ye ?_|refine Yd (frz:=[3,4,5,6]) Yo (by kernel_rfl) ?_|refine eX ?_|refine eS ?_|refine eN ?_|refine oC (hA) ?_|refine eC (hA) ?_|refine oC (c1) ?_|refine eC (c1) ?_|refine oC (c2) ?_|refine eC (c2) ?_|refine oC (c3) ?_|refine eC (c3) ?_|(refine Yt ?_;(first|refine rB ?_|refine rI ?_|refine rA ?_|refine rII ?_|refine rSI ?_|refine rT ?_|refine rS ?_);first|done|(rfl))|((exfalso;first|(simp at h<;>fail)|(simp at h;omega)))|fail)
end Go.Av
end

/-
  Parts of the way to the law, joined: rules for code over data, and what the functions return. Conditions stand at each.
-/
import Derived.Test.YtbhonjkfkdeneaaBl3
import Derived.Test.YtbhonjkfkdeneaaBl2
import Derived.Shelf.Strings.OnBuilder
import Derived.Test.YtbhonjkfkdeneaaProg
set_option linter.all false
noncomputable section
namespace Go.Av
open Go Go.Proofs
set_option maxRecDepth 10000
section
variable {P:Program} {nt m:Nat} {ro':Option Nat} {x y:Code} {s:S} {K:Ex→S→Prop}
theorem Run.midE {α:Type} (S1:α→S) (C:α→Prop) (h1:Run P nt m ro' x s (fun e s1=>match e with|.normal=>∃ v,C v∧Tidy m s1 (S1 v)|e=>K e s1)) (h2:∀ v,C v→Run P nt m ro' y (S1 v) K) :
  Run P nt m ro' x s (fun e s1=>match e with|.normal=>Run P nt m ro' y s1 K|e=>K e s1) :=
 h1.mono fun e s1 h=>by
  cases e with
  |normal=>obtain⟨v,h3,h4⟩:=h;exact Run.tidy h4 (h2 v h3)
  |_=>exact h
end
abbrev boxM (x:Lx):Ob:=.box [.d (.int .i64 (x.k:Nat)),.d (.str x.t),.d (.int .i64 (x.a:Nat))]
abbrev pOr (s:List Nat) (v:PS) (r:SRule):List Ob:=[.box [.d (.str s),.d (.sl 3 (v.l.map encL)),.d (.int .i64 v.x.k),.sr 1 1 (v.x.tokens.map .str),.d (.str v.x.sep),.d (.str v.x.start),.sr 2 2 (v.x.rules.map encR++[encR r]),.mp 3,.sr 4 2 (v.uses.map encU),.d (.int .i64 (v.total:Nat))],.room v.x.tokens.length 1,.room (v.x.rules.length+1) 2,.map (kvN v.names),.room v.uses.length 2]
theorem pOr_eq (s:List Nat) (v:PS) (r:SRule):pO s { v with x:={ v.x with rules:=v.x.rules++[r] } }=pOr s v r:=by
 unfold pO pBox pOr;simp only [List.map_append,List.map_cons,List.map_nil,List.length_append,List.length_cons,List.length_nil]
set_option maxHeartbeats 8000000 in
theorem rulesC (s:List Nat) (p:PS) (hb:PB p) (hr8:p.x.rules.length≤8) (ht24:p.total≤24):ACall Try.prog 19 [.bp 0 0] (pO s p) (endR (rulesP s (p.l.length+1) true p)) (endG s (rulesP s (p.l.length+1) true p)):=by
 obtain⟨R,hR⟩:∃ R,R=rulesP s (p.l.length+1) true p:=⟨_,rfl⟩
 rw [← hR]
 refine acallU (fnAt Try.func19 (by kernel_rfl) (by kernel_rfl):FnAt _ _ (mkFn Try.f19 [88,100])) rfl rfl ?_
 repeat' (first|refine zW [88,100] ?_|((refine zB [88,100] (fun h=>?_) (fun h=>?_))<;>(first|exact zk h|skip))|refine zX [88,100] ?_|(refine zE ?_;(skip))|((exfalso;(simp at h<;>omega)))|fail)
 refine Run.loopT (fun y:Nat × PS × Bool=>⟨PT.ofList [(0,.bp 0 0),(2,.d (.bool y.2.2))],pO s y.2.1,[]⟩)
  (fun y=>rulesP s y.1 y.2.2 y.2.1=R∧PB y.2.1∧y.2.1.l.length<y.1∧y.2.1.x.rules.length≤8∧y.2.1.total≤24) (fun y=>y.1) (p.l.length+1,p,true) ⟨hR.symm,hb,Nat.lt_succ_self _,hr8,ht24⟩ (tidy_of (objs:=_) _ 5 (by rfl) rfl (by repeat' (first|exact trivial|refine⟨(Or.inl rfl),?_⟩|refine⟨(Or.inr rfl),?_⟩|fail)) (by repeat' (first|exact trivial|refine⟨rfl,?_⟩|fail)) rfl rfl) (fun y hy=>?_)
 obtain⟨n,y,first⟩:=y
 obtain⟨i1,i2,i3,i4,i5⟩:=hy
 simp only at i1 i2 i3 i4 i5 ⊢
 obtain⟨n,rfl⟩:∃ j,n=j+1:=⟨n-1,by omega⟩
 unfold rulesP at i1
 by_cases hc:first=true∨0<y.l.length
 ·rw [if_pos hc] at i1
  have cw:=wordC s y _ capitalF i2.len capitalC
  unfold ruleQ at i1
  have hu:y.uses.length≤200000:=by have:=i2.uses;omega
  refine Yq ?_
  refine Run.mid ⟨PT.ofList [(0,.bp 0 0)],pO s y,[]⟩ ?_ ?_
  ·cases first with
   |true =>
    repeat' (first|refine zW [88,100] ?_|((refine zB [88,100] (fun h=>?_) (fun h=>?_))<;>(first|exact zk h|skip))|refine zX [88,100] ?_|(refine zE ?_;(skip))|(exact(by show Tidy _ _ _;exact(tidy_of (objs:=_) _ 5 (by rfl) rfl (by repeat' (first|exact trivial|refine⟨(Or.inl rfl),?_⟩|refine⟨(Or.inr rfl),?_⟩|fail)) (by repeat' (first|exact trivial|refine⟨rfl,?_⟩|fail)) rfl rfl)))|((exfalso;(simp at h<;>omega)))|fail)
   |false =>
    have hne:y.l≠[]:=by
     intro e
     rw [e] at hc
     simp at hc
    repeat' (first|refine zW [88,100] ?_|((refine zB [88,100] (fun h=>?_) (fun h=>?_))<;>(first|exact zk h|skip))|refine zX [88,100] ?_|(refine zE ?_;(skip))|(exact(by show Tidy _ _ _;exact(tidy_of (objs:=_) _ 5 (by rfl) rfl (by repeat' (first|exact trivial|refine⟨(Or.inl rfl),?_⟩|refine⟨(Or.inr rfl),?_⟩|fail)) (by repeat' (first|exact trivial|refine⟨rfl,?_⟩|fail)) rfl rfl)))|((exfalso;simp at h;exact hne h))|fail)
  refine Yq ?_
  refine Yb ?_
  cases hw:wordP s capitalF y with
  |error e9 =>
   rw [hw] at cw i1
   simp only [Except.bind] at i1
   subst i1
   repeat' (first|refine zN [88,100] ?_|((refine zB [88,100] (fun h=>?_) (fun h=>?_))<;>(first|exact zk h|skip))|refine zX [88,100] ?_|refine oFP (cw) ?_|(refine zE ?_;(skip))|(exact⟨rfl,rfl,(by repeat' (first|exact trivial|refine⟨.refl,?_⟩|refine⟨.gone,?_⟩|refine⟨.box (by repeat' (first|exact trivial|refine⟨.inr rfl,?_⟩|refine⟨.inl rfl,?_⟩)),?_⟩))⟩)|((exfalso;(simp at h<;>omega)))|fail)
  |ok v =>
   rw [hw] at cw i1
   obtain⟨w1,w2⟩:=wordP_x hw
   obtain⟨x,q⟩:=v
   simp only at w1 w2 cw
   simp only [exb_ok] at i1
   obtain⟨kk,eK⟩:∃ kk,kk=knowP q.names x.t:=⟨_,rfl⟩
   rw [← eK] at i1
   obtain⟨ka,kb,kc⟩:=kk
   have f8:=failP s q 8 x.a
   have f6:=failP s q 6 x.a
   have hqx:q.x=y.x:=by rw [w1]
   have hqt:q.total=y.total:=by rw [w1]
   have hqu:q.uses=y.uses:=by rw [w1]
   have hql:y.l.length=q.l.length+1:=by rw [w2];rfl
   have hqm:∀ z ∈ q.l,z ∈ y.l:=fun z hz=>by rw [w2];exact List.mem_cons_of_mem _ hz
   repeat' (first|refine zRn [88,100] ?_|refine oF (cw) ?_|refine eF (cw) ?_|fail)
   refine Yq ?_
   cases kc with
   |true =>
    simp only [if_true] at i1
    simp only [Except.bind] at i1
    subst i1
    repeat' (first|refine zW [88,100] ?_|((refine zB [88,100] (fun h=>?_) (fun h=>?_))<;>(first|exact zk h|skip))|refine zX [88,100] ?_|refine eX ?_ (hv:=(evAny_know q.names x.t).trans (by rw [← eK]))|refine oFP (f8) ?_|(refine zE ?_;(skip))|(exact⟨rfl,rfl,(by repeat' (first|exact trivial|refine⟨.refl,?_⟩|refine⟨.gone,?_⟩|refine⟨.box (by repeat' (first|exact trivial|refine⟨.inr rfl,?_⟩|refine⟨.inl rfl,?_⟩)),?_⟩))⟩)|((exfalso;(simp at h<;>omega)))|fail)
   |false =>
    simp only [Bool.false_eq_true,if_false] at i1
    refine Run.mid ⟨PT.ofList [(0,.bp 0 0),(3,.bp 5 0)],pO s q++[boxM x],[]⟩ ?_ ?_
    ·repeat' (first|refine zW [88,100] ?_|((refine zB [88,100] (fun h=>?_) (fun h=>?_))<;>(first|exact zk h|skip))|refine zX [88,100] ?_|refine eX ?_ (hv:=(evAny_know q.names x.t).trans (by rw [← eK]))|(refine zE ?_;(skip))|(exact(by show Tidy _ _ _;exact(tidy_of (objs:=_) _ 6 (by rfl) rfl (by repeat' (first|exact trivial|refine⟨(Or.inl rfl),?_⟩|refine⟨(Or.inr rfl),?_⟩|fail)) (by repeat' (first|exact trivial|refine⟨rfl,?_⟩|fail)) rfl rfl)))|((exfalso;(simp at h<;>omega)))|fail)
    refine Yq ?_
    by_cases h8:q.x.rules.length=8
    ·rw [if_pos h8] at i1
     simp only [Except.bind] at i1
     subst i1
     repeat' (first|refine zW [88,100] ?_|((refine zB [88,100] (fun h=>?_) (fun h=>?_))<;>(first|exact zk h|skip))|refine zX [88,100] ?_|refine oFP (f6) ?_|(refine zE ?_;(skip))|(exact⟨rfl,rfl,(by repeat' (first|exact trivial|refine⟨.refl,?_⟩|refine⟨.gone,?_⟩|refine⟨.box (by repeat' (first|exact trivial|refine⟨.inr rfl,?_⟩|refine⟨.inl rfl,?_⟩)),?_⟩))⟩)|((exfalso;(simp at h<;>omega)))|fail)
    ·rw [if_neg h8] at i1
     refine Run.mid ⟨PT.ofList [(0,.bp 0 0),(3,.bp 5 0)],pO s q++[boxM x],[]⟩ ?_ ?_
     ·repeat' (first|refine zW [88,100] ?_|((refine zB [88,100] (fun h=>?_) (fun h=>?_))<;>(first|exact zk h|skip))|refine zX [88,100] ?_|(refine zE ?_;(skip))|(exact(by show Tidy _ _ _;exact(tidy_of (objs:=_) _ 6 (by rfl) rfl (by repeat' (first|exact trivial|refine⟨(Or.inl rfl),?_⟩|refine⟨(Or.inr rfl),?_⟩|fail)) (by repeat' (first|exact trivial|refine⟨rfl,?_⟩|fail)) rfl rfl)))|((exfalso;(simp at h<;>omega)))|fail)
     obtain⟨p1,hp1⟩:∃ p1:PS,p1={ q with names:=setP q.names x.t (false,false,true) }:=⟨_,rfl⟩
     have hp1x:p1.x=y.x:=by rw [hp1];exact hqx
     have hp1l:p1.l=q.l:=by rw [hp1]
     rw [← hp1] at i1
     have hbp:PB p1:=i2.of (fun z hz=>hqm z (by rw [hp1] at hz;exact hz)) (by rw [hp1l];omega) (by rw [hp1x];exact i2.toks) (by rw [hp1x];exact i2.rules) (by have:=i2.uses;rw [hp1];simp only;rw [hqu];omega) (by rw [hp1];simp only;rw [hqt];exact i2.total)
     obtain⟨RA,hRA⟩:∃ RA,RA=altsP s (q.l.length+1) true [] p1:=⟨_,rfl⟩
     rw [← hRA] at i1
     repeat' (first|refine zR [88,100] ?_|refine eX ?_ (hv:=evAny_set q.names x.t (false,false,true))|fail)
     refine Yq ?_
     refine Run.cellRoom 6 1 1 ?_
     refine Run.midE (fun v:List (List (List Nat)) × PS=>⟨PT.ofList [(0,.bp 0 0),(4,.bp 6 0)],pO s v.2++[boxM x,.box [.d (.str x.t),.sr 7 1 (v.1.map strs)],.room v.1.length 1],[]⟩)
      (fun v=>RA=.ok v∧PB v.2∧v.2.x=y.x∧v.2.total≤24∧v.2.l.length<y.l.length∧(∀ z ∈ v.2.l,z ∈ y.l)∧v.2.uses.length+v.2.l.length≤200000) ?_ (fun v hv=>?_)
     ·repeat refine zS ?_
      refine zX [88,100] ?_
      repeat refine zS ?_
      refine Run.loopT (fun z:Nat × List (List (List Nat)) × PS × Bool=>⟨PT.ofList [(0,.bp 0 0),(4,.bp 6 0),(5,.d (.str (cond z.2.2.2 sEq sBar)))],pO s z.2.2.1++[boxM x,.box [.d (.str x.t),.sr 7 1 (z.2.1.map strs)],.room z.2.1.length 1],[]⟩)
       (fun z=>altsP s z.1 z.2.2.2 z.2.1 z.2.2.1=RA∧PB z.2.2.1∧z.2.2.1.x=y.x∧z.2.2.1.total≤24∧z.2.2.1.l.length<z.1∧z.2.2.1.l.length<y.l.length∧(∀ u ∈ z.2.2.1.l,u ∈ y.l)∧z.2.1.length+z.1≤200000) (fun z=>z.1) (q.l.length+1,[],p1,true)
       ⟨hRA.symm,hbp,hp1x,by rw [hp1];simp only;omega,by rw [hp1l];exact Nat.lt_succ_self _,by rw [hp1l];omega,by rw [hp1l];exact hqm,by have:=i2.l;simp;omega⟩ (by rw [hp1];exact(tidy_of (objs:=_) _ 8 (by rfl) rfl (by repeat' (first|exact trivial|refine⟨(Or.inl rfl),?_⟩|refine⟨(Or.inr rfl),?_⟩|fail)) (by repeat' (first|exact trivial|refine⟨rfl,?_⟩|fail)) rfl rfl)) (fun z hz=>?_)
      obtain⟨k,acc,z,b⟩:=z
      obtain⟨j1,j2,j3,j4,j5,j6,j7,j8⟩:=hz
      simp only at j1 j2 j3 j4 j5 j6 j7 j8 ⊢
      obtain⟨k,rfl⟩:∃ j,k=j+1:=⟨k-1,by omega⟩
      unfold altsP at j1
      have ci:=isCP s z sBar
      have huz:z.uses.length≤200000:=by have:=j2.uses;omega
      by_cases hex:b=false∧isL sBar z.l=false
      ·rw [if_pos hex] at j1
       obtain⟨rfl,hex⟩:=hex
       rw [hex] at ci
       have fin:∀ s1:S,Tidy 5 s1 ⟨PT.ofList [(0,.bp 0 0),(4,.bp 6 0)],pO s z++[boxM x,.box [.d (.str x.t),.sr 7 1 (acc.map strs)],.room acc.length 1],[]⟩ →
         ∃ v:List (List (List Nat)) × PS,(RA=.ok v∧PB v.2∧v.2.x=y.x∧v.2.total≤24∧v.2.l.length<y.l.length∧(∀ z ∈ v.2.l,z ∈ y.l)∧v.2.uses.length+v.2.l.length≤200000)∧Tidy 5 s1 ⟨PT.ofList [(0,.bp 0 0),(4,.bp 6 0)],pO s v.2++[boxM x,.box [.d (.str x.t),.sr 7 1 (v.1.map strs)],.room v.1.length 1],[]⟩:=fun s1 ht =>
        ⟨(acc,z),⟨j1.symm,j2,j3,j4,j6,j7,j2.uses⟩,ht⟩
       repeat' (first|refine zW [88,100] ?_|((refine zB [88,100] (fun h=>?_) (fun h=>?_))<;>(first|exact zk h|skip))|refine zX [88,100] ?_|refine oF (ci) ?_|refine eF (ci) ?_|(refine zE ?_;(skip))|(exact fin _ (tidy_of (objs:=_) _ 8 (by rfl) rfl (by repeat' (first|exact trivial|refine⟨(Or.inl rfl),?_⟩|refine⟨(Or.inr rfl),?_⟩|fail)) (by repeat' (first|exact trivial|refine⟨rfl,?_⟩|fail)) rfl rfl))|((exfalso;(simp at h<;>omega)))|fail)
      ·rw [if_neg hex] at j1
       have hb1:b=true∨(b=false∧isL sBar z.l=true):=by
        cases b with
        |true=>exact .inl rfl
        |false=>exact .inr ⟨rfl,by simpa using hex⟩
       refine Yq ?_
       refine Yb ?_
       refine Yq ?_
       refine Run.mid ⟨PT.ofList [(0,.bp 0 0),(4,.bp 6 0),(5,.d (.str (cond b sEq sBar)))],pO s z++[boxM x,.box [.d (.str x.t),.sr 7 1 (acc.map strs)],.room acc.length 1],[]⟩ ?_ ?_
       ·rcases hb1 with rfl|⟨rfl,hb1⟩
        ·repeat' (first|refine zW [88,100] ?_|((refine zB [88,100] (fun h=>?_) (fun h=>?_))<;>(first|exact zk h|skip))|refine zX [88,100] ?_|(refine zE ?_;(skip))|(exact(by show Tidy _ _ _;exact(tidy_of (objs:=_) _ 8 (by rfl) rfl (by repeat' (first|exact trivial|refine⟨(Or.inl rfl),?_⟩|refine⟨(Or.inr rfl),?_⟩|fail)) (by repeat' (first|exact trivial|refine⟨rfl,?_⟩|fail)) rfl rfl)))|((exfalso;(simp at h<;>omega)))|fail)
        ·rw [hb1] at ci
         repeat' (first|refine zW [88,100] ?_|((refine zB [88,100] (fun h=>?_) (fun h=>?_))<;>(first|exact zk h|skip))|refine zX [88,100] ?_|refine oF (ci) ?_|refine eF (ci) ?_|(refine zE ?_;(skip))|(exact(by show Tidy _ _ _;exact(tidy_of (objs:=_) _ 8 (by rfl) rfl (by repeat' (first|exact trivial|refine⟨(Or.inl rfl),?_⟩|refine⟨(Or.inr rfl),?_⟩|fail)) (by repeat' (first|exact trivial|refine⟨rfl,?_⟩|fail)) rfl rfl)))|((exfalso;(simp at h<;>omega)))|fail)
       have eS:(if b=true then sEq else sBar)=cond b sEq sBar:=by cases b<;>rfl
       rw [eS] at j1
       generalize cond b sEq sBar=sg at j1 ⊢
       cases hl:z.l with
       |nil =>
        have cn:=nextEndP s z hl
        rw [show nextP s z=.error (5,s.length) by simp [nextP,hl]] at j1
        simp only [Except.bind] at j1
        subst j1
        simp only [Except.bind] at i1
        subst i1
        repeat' (first|refine zN [88,100] ?_|((refine zB [88,100] (fun h=>?_) (fun h=>?_))<;>(first|exact zk h|skip))|refine zX [88,100] ?_|refine oFP (cn) ?_|(refine zE ?_;(skip))|(exact⟨rfl,rfl,(by repeat' (first|exact trivial|refine⟨.refl,?_⟩|refine⟨.gone,?_⟩|refine⟨.box (by repeat' (first|exact trivial|refine⟨.inr rfl,?_⟩|refine⟨.inl rfl,?_⟩)),?_⟩))⟩)|((exfalso;(simp at h<;>omega)))|fail)
       |cons x2 l =>
        have cn:=nextOkP s z x2 l hl
        rw [show nextP s z=.ok (x2,{ z with l:=l }) by simp [nextP,hl]] at j1
        simp only [exb_ok] at j1
        by_cases hsg:x2.k=3∧x2.t=sg
        ·have cs:=isPT x2 3 sg hsg
         rw [if_pos hsg] at j1
         by_cases h24:z.total=24
         ·rw [if_pos h24] at j1
          subst j1
          simp only [Except.bind] at i1
          subst i1
          have cf:=failP s { z with l:=l } 6 x2.a
          repeat' (first|refine zN [88,100] ?_|((refine zB [88,100] (fun h=>?_) (fun h=>?_))<;>(first|exact zk h|skip))|refine zX [88,100] ?_|refine oF (cn) ?_|refine eF (cn) ?_|refine zC (cs) ?_|refine oFP (cf) ?_|(refine zE ?_;(skip))|(exact⟨rfl,rfl,(by repeat' (first|exact trivial|refine⟨.refl,?_⟩|refine⟨.gone,?_⟩|refine⟨.box (by repeat' (first|exact trivial|refine⟨.inr rfl,?_⟩|refine⟨.inl rfl,?_⟩)),?_⟩))⟩)|((exfalso;(simp at h<;>omega)))|fail)
         ·rw [if_neg h24] at j1
          have hinc:AV.d (.int .i64 (IntKind.i64.wrap ((z.total:Int)+1)))=.d (.int .i64 ((z.total+1:Nat):Int)):=vN8 (by omega) (by omega)
          have hbz:PB { z with l:=l,total:=z.total+1 }:=j2.of (fun u hu=>by rw [hl];exact List.mem_cons_of_mem _ hu) (by rw [hl];simp) j2.toks j2.rules (by have:=j2.uses;rw [hl] at this;simp at this ⊢;omega) (by simp only;omega)
          have ca:=altC s { z with l:=l,total:=z.total+1 } hbz
          have hacc:acc.length≤200000:=by omega
          cases hA:oneAltP s { z with l:=l,total:=z.total+1 } with
          |error e9 =>
           rw [hA] at ca j1
           simp only [Except.bind] at j1
           subst j1
           simp only [Except.bind] at i1
           subst i1
           repeat' (first|refine oX (frz:=[88,100]) (v:=.d (.int .i64 ((z.total+1:Nat):Int))) Yo ?_ (he:=(hinc))|refine eX (v:=.d (.int .i64 ((z.total+1:Nat):Int))) ?_ (he:=(hinc))|refine zN [88,100] ?_|((refine zB [88,100] (fun h=>?_) (fun h=>?_))<;>(first|exact zk h|skip))|refine zX [88,100] ?_|refine oF (cn) ?_|refine eF (cn) ?_|refine zC (cs) ?_|(refine zE ?_;(skip))|((exfalso;(simp at h<;>omega)))|fail)
           refine Run.drawP (frz:=[88,100]) Yo (by kernel_rfl) [(1,3)] 3 [4,5,6,7] (x:=refD e9) (obP:=pG++[boxM x,.box [.d (.str x.t),.sr 7 1 (acc.map strs)],.room acc.length 1,boxM x2]) (by rfl) (by kernel_rfl) ?_ ?_
           ·iterate 3 refine cX ?_
            refine cP ca ?_
            iterate 4 refine cD ?_
            refine EvC.nil ⟨by kernel_rfl,⟨⟨_,_,_,_,_,_,_,rfl,rfl,rfl,rfl,rfl,rfl⟩,trivial⟩⟩
           ·exact⟨rfl,rfl,(by repeat' (first|exact trivial|refine⟨.refl,?_⟩|refine⟨.gone,?_⟩|refine⟨.box (by repeat' (first|exact trivial|refine⟨.inr rfl,?_⟩|refine⟨.inl rfl,?_⟩)),?_⟩))⟩
          |ok w =>
           rw [hA] at ca j1
           simp only [exb_ok] at j1
           obtain⟨al,w⟩:=w
           simp only at ca j1
           obtain⟨a1,a2,a3,a4,a5,a6,a7,a8⟩:=altQ_x _ _ hA
           simp only at a1 a2 a3 a4 a5 a6
           have hbw:PB w:=hbz.of (fun u hu=>a4 u hu) (by simp only;exact a5) (by rw [a1];exact j2.toks) (by rw [a1];exact j2.rules) (by have:=hbz.uses;simp only at this;omega) (by omega)
           rw [hl] at j5 j6
           simp only [List.length_cons] at j5 j6
           have fin:∀ s1:S,Tidy 5 s1 ⟨PT.ofList [(0,.bp 0 0),(4,.bp 6 0),(5,.d (.str sBar))],pO s w++[boxM x,.box [.d (.str x.t),.sr 7 1 (acc.map strs++[strs al])],.room (acc.length+1) 1],[]⟩ →
             ∃ z:Nat × List (List (List Nat)) × PS × Bool,(altsP s z.1 z.2.2.2 z.2.1 z.2.2.1=RA∧PB z.2.2.1∧z.2.2.1.x=y.x∧z.2.2.1.total≤24∧z.2.2.1.l.length<z.1∧z.2.2.1.l.length<y.l.length∧(∀ u ∈ z.2.2.1.l,u ∈ y.l)∧z.2.1.length+z.1≤200000)∧z.1<k+1 ∧
              Tidy 5 s1 ⟨PT.ofList [(0,.bp 0 0),(4,.bp 6 0),(5,.d (.str (cond z.2.2.2 sEq sBar)))],pO s z.2.2.1++[boxM x,.box [.d (.str x.t),.sr 7 1 (z.2.1.map strs)],.room z.2.1.length 1],[]⟩:=fun s1 ht =>
            ⟨(k,acc++[al],w,false),⟨j1,hbw,a1.trans j3,by simp only;omega,by simp only;omega,by simp only;omega,fun u hu=>j7 u (by rw [hl];exact List.mem_cons_of_mem _ (a4 u hu)),by simp;omega⟩,Nat.lt_succ_self _,by simpa using ht⟩
           repeat' (first|refine oX (frz:=[88,100]) (v:=.d (.int .i64 ((z.total+1:Nat):Int))) Yo ?_ (he:=(hinc))|refine eX (v:=.d (.int .i64 ((z.total+1:Nat):Int))) ?_ (he:=(hinc))|refine zN [88,100] ?_|((refine zB [88,100] (fun h=>?_) (fun h=>?_))<;>(first|exact zk h|skip))|refine zX [88,100] ?_|refine oF (cn) ?_|refine eF (cn) ?_|refine zC (cs) ?_|(refine zE ?_;(skip))|((exfalso;(simp at h<;>omega)))|fail)
           refine Run.drawC (frz:=[88,100]) Yo (by kernel_rfl) [(1,3)] ?_
           iterate 3 refine cX ?_
           refine cCall ca ?_
           refine cX ?_
           refine cX ?_ (hv:=app1) (hf:=rfl) (he:=rfl)
           iterate 2 refine cX ?_
           refine EvC.nil ⟨by kernel_rfl,⟨⟨_,_,_,_,_,_,_,rfl,rfl,rfl,rfl,rfl,rfl⟩,trivial⟩,?_⟩
           repeat' (first|refine zW [88,100] ?_|((refine zB [88,100] (fun h=>?_) (fun h=>?_))<;>(first|exact zk h|skip))|refine zX [88,100] ?_|(refine zE ?_;(skip))|(exact fin _ (tidy_of (objs:=_) _ 8 (by rfl) rfl (by repeat' (first|exact trivial|refine⟨(Or.inl rfl),?_⟩|refine⟨(Or.inr rfl),?_⟩|fail)) (by repeat' (first|exact trivial|refine⟨rfl,?_⟩|fail)) rfl rfl))|((exfalso;(simp at h<;>omega)))|fail)
        ·have cs:=isPF x2 3 sg hsg
         rw [if_neg hsg] at j1
         subst j1
         simp only [Except.bind] at i1
         subst i1
         have cf:=failP s { z with l:=l } 3 x2.a
         repeat' (first|refine zN [88,100] ?_|((refine zB [88,100] (fun h=>?_) (fun h=>?_))<;>(first|exact zk h|skip))|refine zX [88,100] ?_|refine oF (cn) ?_|refine eF (cn) ?_|refine zC (cs) ?_|refine oFP (cf) ?_|(refine zE ?_;(skip))|(exact⟨rfl,rfl,(by repeat' (first|exact trivial|refine⟨.refl,?_⟩|refine⟨.gone,?_⟩|refine⟨.box (by repeat' (first|exact trivial|refine⟨.inr rfl,?_⟩|refine⟨.inl rfl,?_⟩)),?_⟩))⟩)|((exfalso;(simp at h<;>omega)))|fail)
     ·obtain⟨alts',w⟩:=v
      obtain⟨v1,v2,v3,v4,v5,v6,v7⟩:=hv
      simp only at v1 v2 v3 v4 v5 v6 v7
      rw [v1] at i1
      simp only [exb_ok] at i1
      have ce:=endC s w
      refine Run.cellData 6 1 ?_
      cases hE:wantP s 3 sSemi w with
      |error e9 =>
       rw [hE] at ce i1
       simp only [Except.bind] at i1
       subst i1
       repeat' (first|refine zW [88,100] ?_|((refine zB [88,100] (fun h=>?_) (fun h=>?_))<;>(first|exact zk h|skip))|refine zX [88,100] ?_|refine oFP (ce) ?_|(refine zE ?_;(skip))|(exact⟨rfl,rfl,(by repeat' (first|exact trivial|refine⟨.refl,?_⟩|refine⟨.gone,?_⟩|refine⟨.box (by repeat' (first|exact trivial|refine⟨.inr rfl,?_⟩|refine⟨.inl rfl,?_⟩)),?_⟩))⟩)|((exfalso;(simp at h<;>omega)))|fail)
      |ok w2' =>
       rw [hE] at ce i1
       simp only [exb_ok] at i1
       obtain⟨g1,g2,g3⟩:=wantP_x hE
       have gx:w2'.x=y.x:=by rw [g1];exact v3
       have hr7:w2'.x.rules.length≤7:=by rw [gx];rw [hqx] at h8;omega
       have hbn:PB { w2' with x:={ w2'.x with rules:=w2'.x.rules++[⟨x.t,alts'⟩] } }:=v2.of g3 (by simp only;omega) (by simp only;rw [gx];exact i2.toks) (by simp;omega) (by simp only;rw [g1];simp only;omega) (by simp only;rw [g1];simp only;omega)
       have fin:∀ s1:S,Tidy 5 s1 ⟨PT.ofList [(0,.bp 0 0),(2,.d (.bool false))],pOr s w2' ⟨x.t,alts'⟩,[]⟩ →
         ∃ y:Nat × PS × Bool,(rulesP s y.1 y.2.2 y.2.1=R∧PB y.2.1∧y.2.1.l.length<y.1∧y.2.1.x.rules.length≤8∧y.2.1.total≤24)∧y.1<n+1∧Tidy 5 s1 ⟨PT.ofList [(0,.bp 0 0),(2,.d (.bool y.2.2))],pO s y.2.1,[]⟩:=fun s1 ht =>
        ⟨(n,{ w2' with x:={ w2'.x with rules:=w2'.x.rules++[⟨x.t,alts'⟩] } },false),⟨i1,hbn,by simp only;omega,by simp;omega,by simp only;rw [g1];exact v4⟩,Nat.lt_succ_self _,by
         show Tidy 5 s1 ⟨PT.ofList [(0,.bp 0 0),(2,.d (.bool false))],pO s { w2' with x:={ w2'.x with rules:=w2'.x.rules++[⟨x.t,alts'⟩] } },[]⟩
         rw [pOr_eq];exact ht⟩
       repeat' (first|refine zW [88,100] ?_|((refine zB [88,100] (fun h=>?_) (fun h=>?_))<;>(first|exact zk h|skip))|refine zX [88,100] ?_|refine oF (ce) ?_|refine eF (ce) ?_|refine oX (frz:=[88,100]) Yo ?_ (hv:=app1) (hf:=rfl) (he:=rfl)|refine eX ?_ (hv:=app1) (hf:=rfl) (he:=rfl)|refine oX (frz:=[88,100]) Yo ?_ (hv:=app0) (hf:=rfl) (he:=rfl)|refine eX ?_ (hv:=app0) (hf:=rfl) (he:=rfl)|(refine zE ?_;(skip))|(exact fin _ (tidy_of (objs:=_) _ 5 (by rfl) rfl (by repeat' (first|exact trivial|refine⟨(Or.inl rfl),?_⟩|refine⟨(Or.inr rfl),?_⟩|fail)) (by repeat' (first|exact trivial|refine⟨rfl,?_⟩|fail)) rfl rfl))|((exfalso;(simp at h<;>omega)))|fail)
 ·rw [if_neg hc] at i1
  subst i1
  have hf:first=false:=by cases first<;>simp at hc ⊢
  subst hf
  have hge:¬ 0<y.l.length:=fun e=>hc (.inr e)
  repeat' (first|refine zW [88,100] ?_|((refine zB [88,100] (fun h=>?_) (fun h=>?_))<;>(first|exact zk h|skip))|refine zX [88,100] ?_|(refine zE ?_;(skip))|(((first|refine Yt ?_|skip);exact⟨trivial,_,_,rfl,rfl,.refl,(by repeat' (first|exact trivial|refine⟨.refl,?_⟩|refine⟨.gone,?_⟩|refine⟨.box (by repeat' (first|exact trivial|refine⟨.inr rfl,?_⟩|refine⟨.inl rfl,?_⟩)),?_⟩))⟩))|((exfalso;(simp at h<;>omega)))|fail)
end Go.Av
end
noncomputable section
namespace Go.Av
open Go Go.Proofs
set_option maxRecDepth 10000
end Go.Av
end
noncomputable section
namespace Go.Av
open Go Go.Proofs
set_option maxRecDepth 10000
theorem Bd.of {s:List Nat} {ls:List Lx} {r r':RS} (h:Bd s ls r) (hx:r'.x=r.x) (hp:r'.pos≤16777216) (ha:r'.alts≤16777216):Bd s ls r':=⟨h.s,h.l,hp,ha,by rw [hx];exact h.toks,by rw [hx];exact h.rules,h.len⟩
end Go.Av
end
noncomputable section
namespace Go.Av
open Go Go.Proofs
set_option maxRecDepth 10000
end Go.Av
end
noncomputable section
namespace Go.Av
open Go Go.Proofs
set_option maxRecDepth 10000
end Go.Av
end
noncomputable section
namespace Go.Av
open Go Go.Proofs
set_option maxRecDepth 10000
end Go.Av
end
noncomputable section
namespace Go.Av
open Go Go.Proofs
set_option maxRecDepth 10000
end Go.Av
end
noncomputable section
namespace Go.Av
open Go Go.Proofs
set_option maxRecDepth 10000
abbrev srcZ:DV:=.agg [.int .i64 0,.nilsl,.str [],.str [],.nilsl]
theorem srcZ_to:DvTo srcZ (encX src0):=DvTo.agg rfl (fun j x y hx hy=>match j,hx,hy with
 |0,hx,hy=>by simp at hx hy;subst hx hy;exact .refl
 |1,hx,hy=>by simp at hx hy;subst hx hy;exact .nil
 |2,hx,hy=>by simp at hx hy;subst hx hy;exact .refl
 |3,hx,hy=>by simp at hx hy;subst hx hy;exact .refl
 |4,hx,hy=>by simp at hx hy;subst hx hy;exact .nil
 |j+5,hx,_=>by simp at hx)
abbrev resX (r:Src × Fa):AV:=.tup [.d (encX r.1),.d (faultD r.2.1 r.2.2)]
structure LsB (ls:List Lx):Prop where
 l:ls.length≤100000
 len:∀ x ∈ ls,x.t.length≤1048576
section
variable {s:List Nat} {ls:List Lx}
structure AltB (r:RS):Prop where
 most:r.alts≤25
 ok:r.f.1=0→r.alts≤24
structure RuB (ls:List Lx) (r:RS):Prop where
 alts:AltB r
 fits:FitsX r.x
 rules:r.f.1=0→r.x.rules.length≤8
 pos:r.f.1=0→r.pos≤ls.length
 posM:r.pos≤ls.length+20
end
abbrev oZX:Ob:=.box [.d (.int .i64 0),.d .nilsl,.d (.str []),.d (.str []),.d .nilsl]
abbrev oZF:Ob:=.box [.d (.int .i64 0),.d (.int .i64 0)]
end Go.Av
end
noncomputable section
namespace Go.Av
open Go Go.Proofs
theorem bind_ok {α β:Type} {x:Except Fa α} {f:α→Except Fa β} {r:β} (h:x.bind f=.ok r):∃ a,x=.ok a∧f a=.ok r:=by
 cases x with
 |error e=>cases h
 |ok a=>exact⟨a,rfl,h⟩
structure JP (ls:List Lx) (p:PS):Prop where
 mem:∀ x ∈ p.l,x ∈ ls
 l:p.l.length≤ls.length
 uses:p.uses.length+p.l.length≤ls.length
 toks:p.x.tokens.length≤8
 rules:p.x.rules.length≤8
 total:p.total≤24
section
variable {ls:List Lx} {s:List Nat}
theorem JP.pb {p:PS} (h:JP ls p) (hb:LsB ls):PB p :=
 ⟨fun x hx=>hb.len x (h.mem x hx),Nat.le_trans h.l hb.l,by have:=h.toks;omega,by have:=h.rules;omega,by have h1:=h.uses;have h2:=hb.l;omega,by have:=h.total;omega⟩
theorem JP.step {p q:PS} (h:JP ls p) (hm:∀ x ∈ q.l,x ∈ p.l) (hl:q.l.length≤p.l.length) (hu:q.uses.length+q.l.length≤p.uses.length+p.l.length) (ht:q.x.tokens.length≤8) (hr:q.x.rules.length≤8) (hn:q.total≤24):JP ls q :=
 ⟨fun x hx=>h.mem x (hm x hx),Nat.le_trans hl h.l,Nat.le_trans hu h.uses,ht,hr,hn⟩
theorem JP.want {p q:PS} {k:Nat} {t:List Nat} (h:JP ls p) (e:wantP s k t p=.ok q):JP ls q:=by
 obtain⟨e1,e2,e3⟩:=wantP_x e
 refine h.step e3 (by omega) ?_ ?_ ?_ ?_<;>rw [e1]
 ·simp only;omega
 ·exact h.toks
 ·exact h.rules
 ·exact h.total
theorem nextP_x {p:PS} {x:Lx} {q:PS} (e:nextP s p=.ok (x,q)):q={ p with l:=q.l }∧p.l=x :: q.l:=by
 unfold nextP at e
 cases hl:p.l with
 |nil=>rw [hl] at e;cases e
 |cons y l =>
  rw [hl] at e
  simp only [Except.ok.injEq,Prod.mk.injEq] at e
  obtain⟨rfl,rfl⟩:=e
  exact⟨rfl,rfl⟩
theorem JP.cut {p q:PS} {x:Lx} (h:JP ls p) (e1:q={ p with l:=q.l }) (e2:p.l=x :: q.l):JP ls q∧q.uses=p.uses∧q.x=p.x∧q.total=p.total:=by
 refine⟨h.step (fun z hz=>by rw [e2];exact List.mem_cons_of_mem _ hz) (by rw [e2];simp) ?_ ?_ ?_ ?_,?_,?_,?_⟩<;>rw [e1]
 ·rw [e2];simp
 ·exact h.toks
 ·exact h.rules
 ·exact h.total
theorem JP.term {p v:PS} {sep:Bool} {t:List Nat} (h:JP ls p) (e:terminalP s sep p=.ok (t,v)):JP ls v∧v.x=p.x∧(sep=false→p.x.tokens.length≠8):=by
 obtain⟨y1,y2,y3,y4⟩:=terminalP_x e
 simp only at y1 y2 y3
 refine⟨h.step y3 (by omega) ?_ ?_ ?_ ?_,?_,y4⟩<;>rw [y1]
 ·simp only;omega
 ·exact h.toks
 ·exact h.rules
 ·exact h.total
theorem JP.look {p q:PS} (h:JP ls p) (e:lookP s p=.ok q):JP ls q:=by
 unfold lookP at e
 obtain⟨p1,h1,e⟩:=bind_ok e
 obtain⟨⟨x,p2⟩,h2,e⟩:=bind_ok e
 have j1:=h.want h1
 obtain⟨j2,_⟩:=j1.cut (nextP_x h2).1 (nextP_x h2).2
 simp only at e
 split at e
 ·cases e
 ·split at e
  ·exact JP.want (p:={ p2 with x:={ p2.x with k:=(decF x.t:Nat) } }) ⟨j2.mem,j2.l,j2.uses,j2.toks,j2.rules,j2.total⟩ e
  ·cases e
theorem JP.token {p q:PS} (h:JP ls p) (e:tokenP s p=.ok q):JP ls q:=by
 obtain⟨t,v,h1,rfl⟩:=tokenP_x e
 obtain⟨j1,j2,j3⟩:=h.term h1
 have:=h.toks
 have j3:=j3 rfl
 exact⟨j1.mem,j1.l,j1.uses,by simp only [List.length_append,List.length_cons,List.length_nil];rw [j2];omega,j1.rules,j1.total⟩
theorem JP.tokensL:∀ (n:Nat) {p q:PS},JP ls p→tokensLP s n p=.ok q→JP ls q
 |0,p,q,h,e=>by simp only [tokensLP,Except.ok.injEq] at e;rw [← e];exact h
 |n+1,p,q,h,e=>by
  unfold tokensLP at e
  split at e
  ·obtain⟨⟨x,p1⟩,h1,e⟩:=bind_ok e
   obtain⟨p2,h2,e⟩:=bind_ok e
   exact JP.tokensL n ((h.cut (nextP_x h1).1 (nextP_x h1).2).1.token h2) e
  ·simp only [Except.ok.injEq] at e;rw [← e];exact h
theorem JP.tokens {p q:PS} (h:JP ls p) (e:tokensP s p=.ok q):JP ls q:=by
 unfold tokensP at e
 obtain⟨p1,h1,e⟩:=bind_ok e
 obtain⟨p2,h2,e⟩:=bind_ok e
 obtain⟨p3,h3,e⟩:=bind_ok e
 exact((((h.want h1).token h2).tokensL _ h3)).want e
theorem JP.sep {p q:PS} (h:JP ls p) (e:sepQ s p=.ok q):JP ls q:=by
 unfold sepQ at e
 obtain⟨p1,h1,e⟩:=bind_ok e
 obtain⟨⟨t,p2⟩,h2,e⟩:=bind_ok e
 have j:=((h.want h1).term h2).1
 exact JP.want (p:={ p2 with x:={ p2.x with sep:=t } }) ⟨j.mem,j.l,j.uses,j.toks,j.rules,j.total⟩ e
theorem JP.start {p q:PS} (h:JP ls p) (e:startP s p=.ok q):JP ls q:=by
 unfold startP at e
 obtain⟨p1,h1,e⟩:=bind_ok e
 obtain⟨⟨x,p2⟩,h2,e⟩:=bind_ok e
 have j1:=h.want h1
 obtain⟨w1,w2⟩:=wordP_x h2
 simp only at w1 w2
 obtain⟨j,ju,_⟩:=j1.cut w1 w2
 have hu:=j1.uses
 rw [w2,List.length_cons] at hu
 exact JP.want (p:={ p2 with x:={ p2.x with start:=x.t },uses:=p2.uses++[(x.t,x.a)] }) ⟨j.mem,j.l,by simp only [List.length_append,List.length_cons,List.length_nil];rw [ju];omega,j.toks,j.rules,j.total⟩ e
theorem JP.alt {p q:PS} {v:List (List Nat)} (h:JP ls p) (e:oneAltP s p=.ok (v,q)):JP ls q:=by
 obtain⟨a1,a2,a3,a4,a5,a6,_⟩:=altQ_x _ _ e
 simp only at a1 a2 a3 a4 a5 a6
 exact h.step a4 a5 (by omega) (by rw [a1];exact h.toks) (by rw [a1];exact h.rules) (by rw [a3];exact h.total)
theorem JP.alts:∀ (n:Nat) (b:Bool) (acc:List (List (List Nat))) {p:PS} {v:List (List (List Nat)) × PS},JP ls p→altsP s n b acc p=.ok v→JP ls v.2∧v.2.x=p.x
 |0,b,acc,p,v,h,e=>by simp only [altsP,Except.ok.injEq] at e;rw [← e];exact⟨h,rfl⟩
 |n+1,b,acc,p,v,h,e=>by
  unfold altsP at e
  split at e
  ·simp only [Except.ok.injEq] at e;rw [← e];exact⟨h,rfl⟩
  ·obtain⟨⟨x,p1⟩,h1,e⟩:=bind_ok e
   obtain⟨j1,ju,jx,jt⟩:=h.cut (nextP_x h1).1 (nextP_x h1).2
   simp only at e
   by_cases hsg:x.k=3∧x.t=(if b=true then sEq else sBar)
   ·rw [if_pos hsg] at e
    by_cases h24:p1.total=24
    ·rw [if_pos h24] at e;cases e
    ·rw [if_neg h24] at e
     obtain⟨⟨w,p2⟩,h2,e⟩:=bind_ok e
     have:=j1.total
     have j2:=JP.alt (p:={ p1 with total:=p1.total+1 }) ⟨j1.mem,j1.l,j1.uses,j1.toks,j1.rules,by simp only;omega⟩ h2
     obtain⟨a1,_⟩:=altQ_x _ _ h2
     obtain⟨j3,j4⟩:=JP.alts n false _ j2 e
     exact⟨j3,j4.trans (Eq.trans a1 jx)⟩
   ·rw [if_neg hsg] at e;cases e
theorem JP.rule {p q:PS} (h:JP ls p) (e:ruleQ s p=.ok q):JP ls q:=by
 unfold ruleQ at e
 obtain⟨⟨x,p1⟩,h1,e⟩:=bind_ok e
 obtain⟨w1,w2⟩:=wordP_x h1
 simp only at w1 w2 e
 obtain⟨j1,ju,jx,jt⟩:=h.cut w1 w2
 split at e
 ·cases e
 ·split at e
  ·cases e
  ·rename_i h8
   obtain⟨v,h2,e⟩:=bind_ok e
   obtain⟨p3,h3,e⟩:=bind_ok e
   obtain⟨j2,j3⟩:=JP.alts _ _ _ (p:={ p1 with names:=setP p1.names x.t (false,false,true) }) ⟨j1.mem,j1.l,j1.uses,j1.toks,j1.rules,j1.total⟩ h2
   have j4:=j2.want h3
   have e3:p3.x=v.2.x:=by rw [(wantP_x h3).1]
   simp only [Except.ok.injEq] at e
   rw [← e]
   have:=j1.rules
   exact⟨j4.mem,j4.l,j4.uses,j4.toks,by simp only [List.length_append,List.length_cons,List.length_nil];rw [e3,j3];simp only;omega,j4.total⟩
theorem JP.rulesL:∀ (n:Nat) (b:Bool) {p q:PS},JP ls p→rulesP s n b p=.ok q→JP ls q
 |0,b,p,q,h,e=>by simp only [rulesP,Except.ok.injEq] at e;rw [← e];exact h
 |n+1,b,p,q,h,e=>by
  unfold rulesP at e
  split at e
  ·obtain⟨p1,h1,e⟩:=bind_ok e
   exact JP.rulesL n false (h.rule h1) e
  ·simp only [Except.ok.injEq] at e;rw [← e];exact h
end
def stepP (s:List Nat):Nat→PS→Except Fa PS
 |0,p=>lookP s p
 |1,p=>tokensP s p
 |2,p=>sepQ s p
 |3,p=>startP s p
 |4,p=>rulesP s (p.l.length+1) true p
 |_,p=>usedP p
def restP (s:List Nat):Nat→Nat→PS→Except Fa PS
 |0,_,p=>.ok p
 |n+1,k,p=>(stepP s k p).bind fun p=>restP s n (k+1) p
theorem readP_rest (s:List Nat) (ls:List Lx):readP s ls=restP s 6 0 ⟨ls,src0,[],[],0⟩:=by
 unfold readP
 simp only [restP,stepP]
 have:∀ x:Except Fa PS,x.bind (fun p=>.ok p)=x:=fun x=>by cases x<;>rfl
 simp only [this]
theorem JP.stepL {ls:List Lx} {s:List Nat} {k:Nat} {p q:PS} (h:JP ls p) (e:stepP s k p=.ok q):JP ls q:=by
 match k,e with
 |0,e=>exact h.look e
 |1,e=>exact h.tokens e
 |2,e=>exact h.sep e
 |3,e=>exact h.start e
 |4,e=>exact JP.rulesL _ _ h e
 |k+5,e =>
  have e:usedP p=.ok q:=e
  unfold usedP at e
  obtain⟨_,_,e⟩:=bind_ok e
  simp only [Except.ok.injEq] at e
  rw [← e];exact h
end Go.Av
end
noncomputable section
namespace Go.Av
open Go Go.Proofs
def altTx (a:List (List Nat)):List Nat:=a.flatMap fun s=>32 :: s
def barP:Nat→List Nat
 |0=>[]
 |_+1=>[32,124]
def altsTo (al:List (List (List Nat))):Nat→List Nat
 |0=>[]
 |n+1=>altsTo al n++barP n++altTx (al.getD n [])
def ruleP (r:SRule):List Nat:=r.name++[32,61]++altsTo r.alts r.alts.length++[32,59,10]
def headP (x:Src):List Nat:=[108,111,111,107,97,104,101,97,100,32]++[48+x.k.toNat]++[59,10,116,111,107,101,110,32]++List.intercalate [44,32] x.tokens++[59,10,115,101,112,97,114,97,116,111,114,32]++x.sep++[59,10,115,116,97,114,116,32]++x.start++[59,10]
def rulesTo (x:Src) (n:Nat):List Nat:=(x.rules.take n).flatMap ruleP
def printX (x:Src):List Nat:=headP x++rulesTo x x.rules.length
end Go.Av
end
noncomputable section
namespace Go.Av
open Go Go.Proofs
abbrev Tk:=Nat × List Nat
abbrev kt (x:Lx):Tk:=(x.k,x.t)
inductive LexR:List Nat→List Tk→Prop
 |nil:LexR [] []
 |blank {c:Nat} {l:List Nat} {ts:List Tk}:blankI c=true→LexR l ts→LexR (c :: l) ts
 |lex {w l:List Nat} {k:Nat} {ts:List Tk}:beginsF (w++l)=(k,w)→k≠0→LexR l ts→LexR (w++l) ((k,w) :: ts)
theorem begins_cons (c:Nat) (l:List Nat):beginsF (c :: l)=if signI c then(3,[c]) else if letterI c then(1,(c :: l).take (1+runL wordI l)) else if digitI c then
   (if(c=48∧1<1+runL digitI l)∨(∃ e,(c :: l)[1+runL digitI l]?=some e∧endI e=true) then(0,[]) else(2,(c :: l).take (1+runL digitI l))) else(0,[]):=rfl
theorem runL_app (p:Int→Bool):∀ (w rest:List Nat),(∀ c ∈ w,p (c:Nat)=true)→(∀ c,rest[0]?=some c→p (c:Nat)=false)→runL p (w++rest)=w.length
 |[],[],_,_=>rfl
 |[],c :: rest,_,h=>by simp [runL,h c rfl]
 |a :: w,rest,h1,h2=>by
  have:=runL_app p w rest (fun c hc=>h1 c (List.mem_cons_of_mem _ hc)) h2
  simp only [List.cons_append,runL,h1 a List.mem_cons_self,if_true,this,List.length_cons];omega
def IsW:List Nat→Prop
 |[]=>False
 |c :: l=>letterI (c:Nat)=true∧∀ d ∈ l,wordI (d:Nat)=true
theorem letter_nsign {c:Nat} (h:letterI (c:Nat)=true):signI (c:Nat)=false:=by
 simp only [letterI,signI,Bool.or_eq_true,Bool.and_eq_true,decide_eq_true_eq,Bool.or_eq_false_iff,beq_eq_false_iff_ne] at h ⊢
 omega
theorem LexR.word {w rest:List Nat} {ts:List Tk} (hw:IsW w) (hr:∀ c,rest[0]?=some c→wordI (c:Nat)=false) (h:LexR rest ts):LexR (w++rest) ((1,w) :: ts):=by
 cases w with
 |nil=>exact hw.elim
 |cons c l =>
  refine LexR.lex ?_ (by decide) h
  show beginsF (c :: (l++rest))=(1,c :: l)
  rw [begins_cons,letter_nsign hw.1,hw.1,runL_app wordI l rest hw.2 hr]
  simp only [Bool.false_eq_true,if_false,if_true]
  rw [Nat.add_comm,List.take_succ_cons,List.take_left']
  rfl
def altsT:Bool→List (List (List Nat))→List Tk
 |_,[]=>[]
 |first,a :: l=>(if first then [] else [(3,sBar)])++a.map (fun s=>(1,s))++altsT false l
def ruleT (r:SRule):List Tk:=(1,r.name) :: (3,sEq) :: (altsT true r.alts++[(3,sSemi)])
def commaT (l:List (List Nat)):List Tk:=l.flatMap fun s=>[(3,sComma),(1,s)]
def toksX (x:Src):List Tk:=[(1,wLook),(2,[48+x.k.toNat]),(3,sSemi),(1,wToken)]++((1,x.tokens.headD []) :: commaT x.tokens.tail)++[(3,sSemi),(1,wSep),(1,x.sep),(3,sSemi),(1,wStart),(1,x.start),(3,sSemi)]++x.rules.flatMap ruleT
theorem LexR.sp {l:List Nat} {ts:List Tk} (h:LexR l ts):LexR (32 :: l) ts:=.blank rfl h
theorem LexR.nl {l:List Nat} {ts:List Tk} (h:LexR l ts):LexR (10 :: l) ts:=.blank rfl h
end Go.Av
end
noncomputable section
namespace Go.Av
open Go Go.Proofs
section
variable {s:List Nat} {ls:List Lx}
def AT (ls:List Lx) (r:RS) (l:List Tk):Prop:=r.f=(0,0)∧(ls.drop r.pos).map kt=l
theorem AT.cons {r:RS} {k:Nat} {t:List Nat} {l:List Tk} (h:AT ls r ((k,t) :: l)):∃ x,ls[r.pos]?=some x∧x.k=k∧x.t=t∧ls.drop r.pos=x :: ls.drop (r.pos+1)∧(ls.drop (r.pos+1)).map kt=l:=by
 obtain⟨_,h⟩:=h
 cases hd:ls.drop r.pos with
 |nil=>rw [hd] at h;cases h
 |cons x m =>
  rw [hd] at h
  simp only [List.map_cons,List.cons.injEq,Prod.mk.injEq] at h
  have hx:ls[r.pos]?=some x:=by rw [← List.head?_drop,hd];rfl
  have hm:ls.drop (r.pos+1)=m:=by rw [← List.drop_drop,hd];rfl
  exact⟨x,hx,h.1.1,h.1.2,by rw [hm],by rw [hm];exact h.2⟩
theorem AT.len {r:RS} {l:List Tk} (h:AT ls r l):l.length+r.pos≤ls.length∨l=[]:=by
 have:=congrArg List.length h.2
 rw [List.length_map,List.length_drop] at this
 cases l with
 |nil=>exact .inr rfl
 |cons x l=>simp at this;left;simp;omega
theorem AT.len' {r:RS} {l:List Tk} (h:AT ls r l):l.length≤ls.length:=by
 have:=congrArg List.length h.2
 rw [List.length_map,List.length_drop] at this
 omega
theorem AT.peek {r:RS} {k:Nat} {t:List Nat} {l:List Tk} (h:AT ls r ((k,t) :: l)):∃ a,peekR s ls r=(⟨k,t,a⟩,r):=by
 obtain⟨x,h1,h2,h3,_,_⟩:=h.cons
 refine⟨x.a,?_⟩
 unfold peekR
 rw [h1,← h2,← h3]
theorem AT.take {r:RS} {k:Nat} {t:List Nat} {l:List Tk} (h:AT ls r ((k,t) :: l)):∃ a,takeR s ls r=(⟨k,t,a⟩,{ r with pos:=r.pos+1 })∧AT ls { r with pos:=r.pos+1 } l:=by
 obtain⟨a,h1⟩:=h.peek (s:=s)
 obtain⟨x,_,_,_,_,h5⟩:=h.cons
 exact⟨a,by unfold takeR;rw [h1],h.1,h5⟩
theorem AT.must {r:RS} {k:Nat} {t:List Nat} {l:List Tk} (h:AT ls r ((k,t) :: l)):mustR s ls k t r={ r with pos:=r.pos+1 }∧AT ls { r with pos:=r.pos+1 } l:=by
 obtain⟨a,h1,h2⟩:=h.take (s:=s)
 refine⟨?_,h2⟩
 unfold mustR mustX
 rw [h1,if_neg (by simp)]
theorem AT.name {r:RS} {cap:Bool} {t:List Nat} {l:List Tk} (h:AT ls r ((1,t) :: l)) (hc:(if cap then capitalF t else smallF t)=true):nameR s ls cap r=(t,{ r with pos:=r.pos+1 })∧AT ls { r with pos:=r.pos+1 } l:=by
 obtain⟨a,h1,h2⟩:=h.take (s:=s)
 refine⟨?_,h2⟩
 have h0:=h.1
 unfold nameR nameX
 rw [h1]
 simp only [h0,ne_eq,not_true_eq_false,if_false,hc,if_true]
theorem AT.nextT {r:RS} {t:List Nat} {l:List Tk} (h:AT ls r ((3,t) :: l)):nextQ ls t r=(true,{ r with pos:=r.pos+1 })∧AT ls { r with pos:=r.pos+1 } l:=by
 obtain⟨x,_,h2,h3,h4,h5⟩:=h.cons
 refine⟨?_,h.1,h5⟩
 unfold nextQ
 rw [h4,if_pos ⟨by rw [h.1],by simp [isL,h2,h3]⟩]
theorem AT.nextF {r:RS} {u t:List Nat} {k:Nat} {l:List Tk} (h:AT ls r ((k,u) :: l)) (hn:¬ (k=3∧u=t)):nextQ ls t r=(false,r):=by
 obtain⟨x,_,h2,h3,h4,_⟩:=h.cons
 unfold nextQ
 rw [h4,if_neg (by rintro⟨_,e⟩;simp only [isL,decide_eq_true_eq] at e;rw [h2,h3] at e;exact hn e)]
theorem AT.x {r:RS} {l:List Tk} (h:AT ls r l) (y:Src):AT ls { r with x:=y } l:=h
theorem has_false {l:List (List Nat)} {t:List Nat} (h:t ∉ l):hasF l t=false:=by
 simp only [hasF,List.any_eq_false,decide_eq_true_eq]
 intro y hy e
 exact h (e ▸ hy)
theorem AT.token {r:RS} {t:List Nat} {l:List Tk} (h:AT ls r ((1,t) :: l)) (ht:smallF t=true) (hn:t ∉ r.x.tokens) (h8:r.x.tokens.length≠8):tokenR s ls r={ r with pos:=r.pos+1,x:={ r.x with tokens:=r.x.tokens++[t] } }∧AT ls { r with pos:=r.pos+1 } l:=by
 obtain⟨a,h1⟩:=h.peek (s:=s)
 obtain⟨h2,h3⟩:=h.name (s:=s) (cap:=false) ht
 refine⟨?_,h3⟩
 unfold tokenR
 simp only [h1,h2,newR,has_false hn,roomR,h8,if_false,Bool.false_eq_true]
theorem AT.tokens:∀ (l:List (List Nat)) (n:Nat) (r:RS) (t:List Nat) (rest:List Tk),AT ls r ((1,t) :: (commaT l++(3,sSemi) :: rest))→l.length<n→(∀ u ∈ t :: l,smallF u=true)→(r.x.tokens++t :: l).Nodup→r.x.tokens.length+(t :: l).length≤8 →
  ∃ p,tokensR s ls n r={ r with pos:=p,x:={ r.x with tokens:=r.x.tokens++t :: l } }∧AT ls { r with pos:=p } ((3,sSemi) :: rest)
 |[],n,r,t,rest,h,hn,hs,hd,h8=>by
  obtain⟨n,rfl⟩:∃ m,n=m+1:=⟨n-1,by simp at hn;omega⟩
  have hnt:t ∉ r.x.tokens:=fun hm=>by
   have:=(List.nodup_append.1 hd).2.2 t hm t (by simp)
   exact this rfl
  obtain⟨h1,h2⟩:=h.token (s:=s) (hs t (by simp)) hnt (by simp at h8;omega)
  have h2:AT ls { r with pos:=r.pos+1,x:={ r.x with tokens:=r.x.tokens++[t] } } ((3,sSemi) :: rest):=h2
  refine⟨r.pos+1,?_,h2⟩
  unfold tokensR
  rw [if_pos (by rw [h.1])]
  simp only [h1]
  rw [h2.nextF (by decide)]
  simp
 |u :: l,n,r,t,rest,h,hn,hs,hd,h8=>by
  obtain⟨n,rfl⟩:∃ m,n=m+1:=⟨n-1,by simp at hn;omega⟩
  have hnt:t ∉ r.x.tokens:=fun hm=>by
   have:=(List.nodup_append.1 hd).2.2 t hm t (by simp)
   exact this rfl
  obtain⟨h1,h2⟩:=h.token (s:=s) (hs t (by simp)) hnt (by simp at h8;omega)
  have h2:AT ls { r with pos:=r.pos+1,x:={ r.x with tokens:=r.x.tokens++[t] } } ((3,sComma) :: (1,u) :: (commaT l++(3,sSemi) :: rest)):=by
   refine⟨h2.1,?_⟩
   have:=h2.2
   simpa [commaT] using this
  obtain⟨h3,h4⟩:=h2.nextT
  obtain⟨p,h5,h6⟩:=AT.tokens l n _ u rest h4 (by simp at hn;omega) (fun v hv=>hs v (List.mem_cons_of_mem _ hv)) (by simpa using hd) (by simp at h8 ⊢;omega)
  refine⟨p,?_,h6⟩
  unfold tokensR
  rw [if_pos (by rw [h.1])]
  simp only [h1,h3,if_true]
  rw [h5]
  simp
theorem AT.alt:∀ (a:List (List Nat)) (n:Nat) (acc:List (List Nat)) (r:RS) (k:Nat) (u:List Nat) (rest:List Tk),AT ls r (a.map (fun t=>(1,t))++(k,u) :: rest)→k≠1→a.length<n→(∀ t ∈ a,mayF t=true)→acc.length+a.length≤6 →
  ∃ p,altR s ls n acc r=(acc++a,{ r with pos:=p })∧AT ls { r with pos:=p } ((k,u) :: rest)
 |[],n,acc,r,k,u,rest,h,hk,hn,hm,h6=>by
  obtain⟨n,rfl⟩:∃ m,n=m+1:=⟨n-1,by simp at hn;omega⟩
  have h:AT ls r ((k,u) :: rest):=h
  obtain⟨a,h1⟩:=h.peek (s:=s)
  refine⟨r.pos,?_,h⟩
  unfold altR
  rw [if_pos (by rw [h.1]),h1]
  simp only [hk,if_false,List.append_nil]
 |t :: a,n,acc,r,k,u,rest,h,hk,hn,hm,h6=>by
  obtain⟨n,rfl⟩:∃ m,n=m+1:=⟨n-1,by simp at hn;omega⟩
  have h:AT ls r ((1,t) :: (a.map (fun t=>(1,t))++(k,u) :: rest)):=h
  obtain⟨b,h1⟩:=h.peek (s:=s)
  obtain⟨b2,h2,h3⟩:=h.take (s:=s)
  simp only [List.length_cons] at h6 hn
  obtain⟨p,h4,h5⟩:=AT.alt a n (acc++[t]) _ k u rest h3 hk (by omega) (fun t ht=>hm t (List.mem_cons_of_mem _ ht)) (by simp only [List.length_append,List.length_cons,List.length_nil];omega)
  refine⟨p,?_,h5⟩
  unfold altR
  rw [if_pos (by rw [h.1]),h1]
  simp only [if_true,h2,wordR,hm t List.mem_cons_self,roomR]
  rw [if_neg (show ¬ acc.length=6 by omega),h4]
  simp
theorem AT.alts:∀ (al:List (List (List Nat))) (a:List (List Nat)) (n:Nat) (acc:List (List (List Nat))) (r:RS) (rest:List Tk),AT ls r (a.map (fun t=>(1,t))++(altsT false al++(3,sSemi) :: rest))→al.length<n→(∀ b ∈ a :: al,b.length≤6∧∀ t ∈ b,mayF t=true)→r.alts+(a :: al).length≤24 →
  ∃ p,altsR s ls n acc r=(acc++a :: al,{ r with pos:=p,alts:=r.alts+(a :: al).length })∧AT ls { r with pos:=p } ((3,sSemi) :: rest)
 |[],a,n,acc,r,rest,h,hn,hb,h24=>by
  obtain⟨n,rfl⟩:∃ m,n=m+1:=⟨n-1,by simp at hn;omega⟩
  have h:AT ls r (a.map (fun t=>(1,t))++(3,sSemi) :: rest):=h
  have hl:=h.len'
  simp only [List.length_append,List.length_map,List.length_cons] at hl
  have hc:countR ls r={ r with alts:=r.alts+1 }:=by simp at h24;simp only [countR,roomR];rw [if_neg (by omega)]
  obtain⟨p,h1,h2⟩:=AT.alt (s:=s) a (ls.length+1) [] (countR ls r) 3 sSemi rest (by rw [hc];exact h) (by decide) (by omega) (hb a (by simp)).2 (by have:=(hb a (by simp)).1;simpa using this)
  rw [hc] at h1 h2
  simp only at h1 h2
  have h2:AT ls { r with alts:=r.alts+1,pos:=p } ((3,sSemi) :: rest):=h2
  refine⟨p,?_,h2⟩
  unfold altsR oneAltR
  simp only [hc,h1]
  rw [AT.nextF h2 (by decide)]
  simp
 |b :: al,a,n,acc,r,rest,h,hn,hb,h24=>by
  obtain⟨n,rfl⟩:∃ m,n=m+1:=⟨n-1,by simp at hn;omega⟩
  have h:AT ls r (a.map (fun t=>(1,t))++(3,sBar) :: (b.map (fun t=>(1,t))++(altsT false al++(3,sSemi) :: rest))):=by
   refine⟨h.1,?_⟩
   have:=h.2
   simpa [altsT] using this
  have hl:=h.len'
  simp only [List.length_append,List.length_map,List.length_cons] at hl
  have hc:countR ls r={ r with alts:=r.alts+1 }:=by simp at h24;simp only [countR,roomR];rw [if_neg (by omega)]
  obtain⟨p,h1,h2⟩:=AT.alt (s:=s) a (ls.length+1) [] (countR ls r) 3 sBar _ (by rw [hc];exact h) (by decide) (by omega) (hb a (by simp)).2 (by have:=(hb a (by simp)).1;simpa using this)
  rw [hc] at h1 h2
  simp only at h1 h2
  have h2:AT ls { r with alts:=r.alts+1,pos:=p } _:=h2
  obtain⟨h3,h4⟩:=h2.nextT
  obtain⟨q,h5,h6⟩:=AT.alts al b n (acc++[a]) _ rest h4 (by simp at hn;omega) (fun c hc=>hb c (List.mem_cons_of_mem _ hc)) (by simp at h24 ⊢;omega)
  refine⟨q,?_,h6⟩
  unfold altsR oneAltR
  simp only [hc,h1,h3,if_true]
  simp only [List.nil_append,h5]
  simp;omega
theorem AT.rule {r:RS} {u:SRule} {rest:List Tk} (h:AT ls r (ruleT u++rest)) (hc:capitalF u.name=true) (hn:u.name ∉ ruleNames r.x) (h8:r.x.rules.length≠8) (hne:u.alts≠[]) (hb:∀ b ∈ u.alts,b.length≤6∧∀ t ∈ b,mayF t=true) (h24:r.alts+u.alts.length≤24) :
  ∃ p,ruleR s ls r={ r with pos:=p,alts:=r.alts+u.alts.length,x:={ r.x with rules:=r.x.rules++[u] } }∧AT ls { r with pos:=p } rest:=by
 obtain⟨a,al,ha⟩:∃ a al,u.alts=a :: al:=by cases h:u.alts with|nil=>exact absurd h hne|cons a al=>exact⟨a,al,rfl⟩
 have h:AT ls r ((1,u.name) :: (3,sEq) :: (a.map (fun t=>(1,t))++(altsT false al++(3,sSemi) :: rest))):=by
  refine⟨h.1,?_⟩
  have:=h.2
  simpa [ruleT,ha,altsT] using this
 have hl:=h.len'
 simp only [List.length_append,List.length_map,List.length_cons] at hl
 have hal:al.length≤(altsT false al).length:=by
  clear ha hl h
  induction al with
  |nil=>simp
  |cons x l ih=>simp [altsT];omega
 obtain⟨b0,h1⟩:=h.peek (s:=s)
 obtain⟨h2,h3⟩:=h.name (s:=s) (cap:=true) hc
 obtain⟨h4,h5⟩:=h3.must (s:=s)
 obtain⟨p,h6,h7⟩:=AT.alts (s:=s) al a (ls.length+1) [] _ rest h5 (by omega) (by rw [← ha];exact hb) (by simp only;rw [← ha];exact h24)
 simp only at h6 h7
 have h7:AT ls { r with pos:=p,alts:=r.alts+(a :: al).length } ((3,sSemi) :: rest):=h7
 obtain⟨h8',h9⟩:=h7.must (s:=s)
 simp only at h8' h9
 refine⟨p+1,?_,h9⟩
 have hf:r.f.1=0:=by rw [h.1]
 unfold ruleR
 simp only [h1,h2,hf,if_true,newR,has_false hn,roomR,h8,if_false,Bool.false_eq_true,h4,h6,List.nil_append,h8']
 rw [← ha]
theorem AT.rules:∀ (l:List SRule) (n:Nat) (b:Bool) (r:RS),AT ls r (l.flatMap ruleT)→(b=true→l≠[])→l.length<n→(∀ u ∈ l,capitalF u.name=true∧u.alts≠[]∧∀ b ∈ u.alts,b.length≤6∧∀ t ∈ b,mayF t=true)→(ruleNames r.x++l.map (·.name)).Nodup→r.x.rules.length+l.length≤8→r.alts+(l.map (·.alts.length)).sum≤24 →
  ∃ p a,rulesR s ls n b r={ r with pos:=p,alts:=a,x:={ r.x with rules:=r.x.rules++l } }
 |[],n,b,r,h,hb,hn,hu,hd,h8,h24=>by
  obtain⟨n,rfl⟩:∃ m,n=m+1:=⟨n-1,by simp at hn;omega⟩
  have hb:b=false:=by cases b with|true=>exact absurd rfl (hb rfl)|false=>rfl
  subst hb
  have hp:¬ r.pos<ls.length:=fun hlt=>by
   have:=congrArg List.length h.2
   rw [List.length_map,List.length_drop] at this
   simp at this;omega
  refine⟨r.pos,r.alts,?_⟩
  unfold rulesR
  rw [if_neg (by rintro⟨_,h|h⟩;cases h;exact hp h)]
  simp
 |u :: l,n,b,r,h,hb,hn,hu,hd,h8,h24=>by
  obtain⟨n,rfl⟩:∃ m,n=m+1:=⟨n-1,by simp at hn;omega⟩
  obtain⟨u1,u2,u3⟩:=hu u List.mem_cons_self
  have h:AT ls r (ruleT u++l.flatMap ruleT):=h
  have hpos:r.pos<ls.length:=by
   obtain⟨x,hx,_⟩:=AT.cons (ls:=ls) (r:=r) (k:=1) (t:=u.name) (l:=((3,sEq) :: (altsT true u.alts++[(3,sSemi)]))++l.flatMap ruleT) ⟨h.1,by rw [h.2];rfl⟩
   exact(List.getElem?_eq_some_iff.1 hx).1
  have hnn:u.name ∉ ruleNames r.x:=fun hm=>(List.nodup_append.1 hd).2.2 _ hm u.name (by simp) rfl
  simp only [List.map_cons,List.sum_cons] at h24
  obtain⟨p,h1,h2⟩:=h.rule (s:=s) u1 hnn (by simp at h8;omega) u2 u3 (by omega)
  have h2:AT ls { r with pos:=p,alts:=r.alts+u.alts.length,x:={ r.x with rules:=r.x.rules++[u] } } (l.flatMap ruleT):=h2
  obtain⟨q,a,h3⟩:=AT.rules l n false _ h2 (fun h=>by cases h) (by simp at hn;omega) (fun v hv=>hu v (List.mem_cons_of_mem _ hv)) (by simpa [ruleNames] using hd) (by simp at h8 ⊢;omega) (by simp only;omega)
  refine⟨q,a,?_⟩
  unfold rulesR
  rw [if_pos ⟨by rw [h.1],.inr hpos⟩,h1,h3]
  simp
end
end Go.Av
end
noncomputable section
namespace Go.Av
open Go Go.Proofs
structure SoundX (x:Src):Prop where
 k:1≤x.k∧x.k≤4
 tok0:x.tokens≠[]
 rul0:x.rules≠[]
 alt0:∀ r ∈ x.rules,r.alts≠[]
 alt6:∀ r ∈ x.rules,∀ a ∈ r.alts,a.length≤6
 tok8:x.tokens.length≤8
 rul8:x.rules.length≤8
 sum:(x.rules.map (·.alts.length)).sum≤24
 tokS:∀ s ∈ x.tokens,smallF s=true
 sepS:smallF x.sep=true
 startC:capitalF x.start=true
 rulC:∀ r ∈ x.rules,capitalF r.name=true
 altM:∀ r ∈ x.rules,∀ a ∈ r.alts,∀ s ∈ a,mayF s=true
 nodT:(x.tokens++[x.sep]).Nodup
 nodR:(ruleNames x).Nodup
 noSep:∀ r ∈ x.rules,∀ a ∈ r.alts,x.sep ∉ a
 known:∀ r ∈ x.rules,∀ a ∈ r.alts,∀ s ∈ a,s ∈ ruleNames x∨s ∈ x.tokens
 start:x.start ∈ ruleNames x
theorem hasF_iff {l:List (List Nat)} {t:List Nat}:hasF l t=true ↔ t ∈ l:=by
 simp only [hasF,List.any_eq_true,decide_eq_true_eq]
 exact⟨fun⟨y,h1,h2⟩=>h2 ▸ h1,fun h=>⟨t,h,rfl⟩⟩
theorem name_isW {t:List Nat} (h:nameF t=0):IsW t:=by
 have hw:wordF t=0:=by
  unfold nameF at h
  split at h
  ·omega
  ·exact h
 unfold wordF at hw
 split at hw
 ·cases hw
 ·rename_i hne
  split at hw
  ·cases hw
  ·rename_i hb
   cases t with
   |nil=>exact absurd rfl hne
   |cons c l =>
    have hall:∀ i,¬ badAt (c :: l) i:=fun i hi=>hb ⟨i,hi⟩
    refine⟨?_,fun d hd=>?_⟩
    ·cases hl:letterF (c:Nat) with
     |true=>exact hl
     |false=>exact absurd ⟨c,rfl,hl,.inl rfl⟩ (hall 0)
    ·obtain⟨i,hi,rfl⟩:=List.getElem_of_mem hd
     unfold wordI
     cases hl:letterF (l[i]:Nat) with
     |true=>rw [show letterI ((l[i]:Nat):Int)=true from hl];rfl
     |false =>
      cases hd2:digitF (l[i]:Nat) with
      |true=>rw [show digitI ((l[i]:Nat):Int)=true from hd2];simp
      |false =>
       by_cases h95:((l[i]:Nat):Int)=95
       ·simp [h95]
       ·exact absurd ⟨l[i],by simp [hi],hl,.inr ⟨hd2,h95⟩⟩ (hall (i+1))
theorem small_name {t:List Nat} (h:smallF t=true):nameF t=0:=by
 simp only [smallF,Bool.and_eq_true,decide_eq_true_eq] at h;exact h.1
theorem capital_name {t:List Nat} (h:capitalF t=true):nameF t=0:=by
 simp only [capitalF,Bool.and_eq_true,decide_eq_true_eq] at h;exact h.1
theorem small_cap2 {t:List Nat} (h:smallF t=true) (h2:capitalF t=true):False:=by
 simp only [smallF,capitalF,Bool.and_eq_true,decide_eq_true_eq] at h h2;omega
theorem may_name {t:List Nat} (h:mayF t=true):nameF t=0:=by
 unfold mayF at h
 rw [Bool.or_eq_true] at h
 exact h.elim small_name capital_name
section
variable {s:List Nat} {ls:List Lx}
theorem AT.look {r:RS} {k:Nat} {rest:List Tk} (h:AT ls r ((1,wLook) :: (2,[48+k]) :: (3,sSemi) :: rest)) (hk:1≤k∧k≤4):lookR s ls r={ r with pos:=r.pos+3,x:={ r.x with k:=(k:Nat) } }∧AT ls { r with pos:=r.pos+3 } rest:=by
 obtain⟨h1,h2⟩:=h.must (s:=s)
 obtain⟨a,h3,h4⟩:=h2.take (s:=s)
 have h4:AT ls { r with pos:=r.pos+2,x:={ r.x with k:=(k:Nat) } } ((3,sSemi) :: rest):=h4
 obtain⟨h5,h6⟩:=h4.must (s:=s)
 have hf:r.f.1=0:=by rw [h.1]
 have hn:numOk [48+k]=true:=by simp [numOk,decF];omega
 have hd:decF [48+k]=k:=by simp [decF]
 refine⟨?_,h6⟩
 unfold lookR
 simp only [h1,h3,hf,ne_eq,not_true_eq_false,and_false,if_false,if_true,hn,hd]
 exact h5
theorem knownL_id {r:RS}:∀ (l:List Lx),(∀ x ∈ l,x.k=1→chkU r.x x.t=0)→knownL l r=r
 |[],_=>rfl
 |x :: l,h=>by
  unfold knownL knownOneR
  rw [if_neg (by rintro⟨h1,h2⟩;exact h2 (h x List.mem_cons_self h1))]
  exact knownL_id l (fun y hy=>h y (List.mem_cons_of_mem _ hy))
theorem mem_altsT:∀ (b:Bool) (al:List (List (List Nat))) (t:List Nat),(1,t) ∈ altsT b al→∃ a ∈ al,t ∈ a
 |_,[],t,h=>by cases h
 |b,a :: al,t,h=>by
  simp only [altsT,List.mem_append,List.mem_map] at h
  rcases h with(h|⟨u,h1,h2⟩)|h
  ·cases b with
   |true=>cases h
   |false=>simp at h
  ·simp only [Prod.mk.injEq,true_and] at h2
   exact⟨a,List.mem_cons_self,h2 ▸ h1⟩
  ·obtain⟨c,h1,h2⟩:=mem_altsT false al t h
   exact⟨c,List.mem_cons_of_mem _ h1,h2⟩
theorem commaT_len:∀ l:List (List Nat),l.length≤(commaT l).length
 |[]=>Nat.le_refl _
 |u :: l=>by
  have:=commaT_len l
  show l.length+1≤((3,sComma) :: (1,u) :: commaT l).length
  simp only [List.length_cons];omega
theorem readPrint {x:Src} (h:SoundX x) (hls:ls.map kt=toksX x):resR (readR s ls)=(x,(0,0)):=by
 obtain⟨t,l,hl⟩:∃ t l,x.tokens=t :: l:=by cases e:x.tokens with|nil=>exact absurd e h.tok0|cons t l=>exact⟨t,l,rfl⟩
 have hk:=h.k
 have a0:AT ls ⟨0,(0,0),0,src0⟩ ((1,wLook) :: (2,[48+x.k.toNat]) :: (3,sSemi) :: (1,wToken) :: (1,t) :: (commaT l++(3,sSemi) :: (1,wSep) :: (1,x.sep) :: (3,sSemi) :: (1,wStart) :: (1,x.start) :: (3,sSemi) :: x.rules.flatMap ruleT)):=by
  refine⟨rfl,?_⟩
  show(ls.drop 0).map kt=_
  rw [List.drop_zero,hls]
  unfold toksX
  rw [hl]
  simp
 obtain⟨e1,a1⟩:=a0.look (s:=s) (by omega)
 have a1:=a1.x { src0 with k:=(x.k.toNat:Nat) }
 obtain⟨e2,a2⟩:=a1.must (s:=s)
 have hlen:=a2.len'
 have hcl:=commaT_len l
 simp only [List.length_cons,List.length_append] at hlen
 have hnd:=(List.nodup_append.1 h.nodT).1
 rw [hl] at hnd
 obtain⟨p,e3,a3⟩:=AT.tokens (s:=s) l (ls.length+1) _ t _ a2 (by omega) (by rw [← hl];exact h.tokS) (by simpa [src0] using hnd) (by simp only [src0,List.length_nil];rw [← hl];have:=h.tok8;omega)
 have a3:=a3.x { src0 with k:=(x.k.toNat:Nat),tokens:=x.tokens }
 obtain⟨e4,a4⟩:=a3.must (s:=s)
 obtain⟨e5,a5⟩:=a4.must (s:=s)
 obtain⟨b6,e6⟩:=a5.peek (s:=s)
 obtain⟨e7,a7⟩:=a5.name (s:=s) (cap:=false) h.sepS
 have a7:=a7.x { src0 with k:=(x.k.toNat:Nat),tokens:=x.tokens,sep:=x.sep }
 obtain⟨e8,a8⟩:=a7.must (s:=s)
 obtain⟨e9,a9⟩:=a8.must (s:=s)
 obtain⟨b10,e10⟩:=a9.peek (s:=s)
 obtain⟨e11,a11⟩:=a9.name (s:=s) (cap:=true) h.startC
 have a11:=a11.x { src0 with k:=(x.k.toNat:Nat),tokens:=x.tokens,sep:=x.sep,start:=x.start }
 obtain⟨e12,a12⟩:=a11.must (s:=s)
 have hsepT:x.sep ∉ x.tokens:=fun hm=>(List.nodup_append.1 h.nodT).2.2 _ hm x.sep (by simp) rfl
 have eH:headR s ls ⟨0,(0,0),0,src0⟩=(⟨1,x.start,b10⟩,{ pos:=p+1+1+1+1+1+1+1,f:=(0,0),alts:=0,x:={ src0 with k:=(x.k.toNat:Nat),tokens:=x.tokens,sep:=x.sep,start:=x.start } }):=by
  unfold headR
  rw [e1]
  simp only at e2 e3 e4 e5 e6 e7 e8 e9 e10 e11 e12 ⊢
  rw [e2,e3]
  simp only [src0,List.nil_append,← hl] at e2 e3 e4 e5 e6 e7 e8 e9 e10 e11 e12 ⊢
  rw [e4]
  unfold sepR
  rw [e5]
  simp only [e6,e7,newR,has_false hsepT,Bool.false_eq_true,if_false]
  rw [e8]
  unfold startR
  rw [e9]
  simp only [e10,e11]
  rw [e12]
 obtain⟨q,aa,e13⟩:=AT.rules (s:=s) x.rules (ls.length+2) true _ a12 (fun _=>h.rul0) (by
   have:=a12.len'
   have hr:x.rules.length≤(x.rules.flatMap ruleT).length:=by
    generalize x.rules=rl
    induction rl with
    |nil=>simp
    |cons u l ih=>rw [List.flatMap_cons];simp only [ruleT,List.length_append,List.length_cons];omega
   omega) (fun u hu=>⟨h.rulC u hu,h.alt0 u hu,fun b hb=>⟨h.alt6 u hu b hb,h.altM u hu b hb⟩⟩) (by simpa [ruleNames,src0] using h.nodR) (by simp only [src0,List.length_nil];have:=h.rul8;omega) (by simp only;have:=h.sum;omega)
 have hx:(⟨(x.k.toNat:Nat),x.tokens,x.sep,x.start,x.rules⟩:Src)=x:=by
  obtain⟨k,tk,sp,st,rl⟩:=x
  simp only at hk ⊢
  rw [Int.toNat_of_nonneg (by omega)]
 unfold readR
 rw [eH]
 simp only [src0,List.nil_append] at e13 ⊢
 rw [hx] at e13
 rw [e13]
 simp only [if_true]
 have hstart:hasF (ruleNames x) x.start=true:=hasF_iff.2 h.start
 unfold knownR
 simp only [hstart,Bool.true_eq_false,if_false]
 rw [knownL_id]
 ·rfl
 ·intro y hy hy1
  have hm:kt y ∈ x.rules.flatMap ruleT:=by
   have:=a12.2
   simp only at this
   rw [← this]
   exact List.mem_map_of_mem hy
  obtain⟨r,hr,hm⟩:=List.mem_flatMap.1 hm
  have hm:(1,y.t) ∈ ruleT r:=by
   have e:kt y=(1,y.t):=by rw [← hy1]
   rw [← e];exact hm
  simp only [ruleT,List.mem_cons,List.mem_append,List.not_mem_nil,or_false,Prod.mk.injEq,true_and] at hm
  unfold chkU
  rcases hm with hm|hm|hm|hm
  ·have h1:¬ y.t=x.sep:=fun e=>small_cap2 h.sepS (by rw [← e,hm];exact h.rulC r hr)
   have h2:hasF (ruleNames x) y.t=true:=hasF_iff.2 (by rw [hm];exact List.mem_map_of_mem hr)
   rw [if_neg h1,h2];rfl
  ·exact absurd hm.1 (by decide)
  ·obtain⟨a,ha,hta⟩:=mem_altsT _ _ _ hm
   have h1:¬ y.t=x.sep:=fun e=>h.noSep r hr a ha (e ▸ hta)
   rw [if_neg h1]
   rcases h.known r hr a ha _ hta with h2|h2
   ·rw [hasF_iff.2 h2];rfl
   ·rw [if_neg (by rintro⟨_,h3⟩;rw [hasF_iff.2 h2] at h3;cases h3)]
  ·exact absurd hm.1 (by decide)
end
end Go.Av
end
noncomputable section
namespace Go.Av
open Go Go.Proofs
theorem ofSound {x:Src} (h:SoundX x):checkX x=0:=by
 unfold checkX
 rw [if_neg (by have:=h.k;omega)]
 have h2:shortX x=false:=by
  simp only [shortX,Bool.or_eq_false_iff,List.any_eq_false,Bool.not_eq_true]
  refine⟨⟨fun r hr=>?_,?_⟩,?_⟩
  ·have:=h.alt0 r hr
   cases e:r.alts with|nil=>exact absurd e this|cons a l=>rfl
  ·cases e:x.tokens with|nil=>exact absurd e h.tok0|cons a l=>rfl
  ·cases e:x.rules with|nil=>exact absurd e h.rul0|cons a l=>rfl
 have h3:fullX x=false:=by
  simp only [fullX,Bool.or_eq_false_iff,List.any_eq_false,decide_eq_false_iff_not,longA,decide_eq_true_eq,List.any_eq_true,not_exists,not_and]
  refine⟨⟨⟨fun r hr a ha=>by have:=h.alt6 r hr a ha;omega,by have:=h.tok8;omega⟩,by have:=h.rul8;omega⟩,?_⟩
  unfold sumTo
  rw [List.take_length]
  have:=h.sum;omega
 have h4:misX x=false:=by
  simp only [misX,Bool.or_eq_false_iff,List.any_eq_false,misR,noName]
  refine⟨⟨⟨fun t ht=>by simp [h.tokS t ht],fun r hr=>?_⟩,by simp [h.sepS]⟩,by simp [h.startC]⟩
  simp only [h.rulC r hr,Bool.not_true,Bool.false_or,List.any_eq_true,not_exists,not_and]
  intro a ha t ht
  have:=h.altM r hr a ha t ht
  unfold mayF at this
  cases h1:smallF t<;>cases h2:capitalF t<;>simp_all [noName]
 have h5:twoX x=false:=by
  simp only [twoX,Bool.or_eq_false_iff,smallsX]
  exact⟨decide_eq_false (not_not_intro h.nodT),decide_eq_false (not_not_intro h.nodR)⟩
 have h6:usesX x x.sep=false:=by
  simp only [usesX,usesR,List.any_eq_false,List.any_eq_true,not_exists,not_and]
  intro r hr a ha e
  exact h.noSep r hr a ha (hasF_iff.1 e)
 have h7:unkX x=false:=by
  simp only [unkX,unkR,unkS,Bool.or_eq_false_iff,List.any_eq_false,List.any_eq_true,not_exists,not_and,Bool.not_eq_false']
  refine⟨fun r hr a ha t ht e=>?_,hasF_iff.2 h.start⟩
  simp only [Bool.and_eq_true,Bool.not_eq_true'] at e
  rcases h.known r hr a ha t ht with h1|h1
  ·rw [hasF_iff.2 h1] at e;cases e.1
  ·rw [hasF_iff.2 h1] at e;cases e.2
 rw [h2,h3,h4,h5,h6,h7];rfl
section
variable {s:List Nat}
structure H1 (p:PS):Prop where
 know:∀ t,knowP p.names t=(hasF p.x.tokens t,false,false)
 small:∀ t ∈ p.x.tokens,smallF t=true
 nod:p.x.tokens.Nodup
 rules:p.x.rules=[]
 uses:p.uses=[]
 total:p.total=0
theorem H1.cut {p q:PS} (h:H1 p) (e:q={ p with l:=q.l }):H1 q∧q.x=p.x:=by
 rw [e];exact⟨⟨h.know,h.small,h.nod,h.rules,h.uses,h.total⟩,rfl⟩
structure H2 (p:PS):Prop where
 know:∀ t,knowP p.names t=(hasF p.x.tokens t,decide (t=p.x.sep),hasF (ruleNames p.x) t)
 k:1≤p.x.k∧p.x.k≤4
 tok0:p.x.tokens≠[]
 tokS:∀ t ∈ p.x.tokens,smallF t=true
 sepS:smallF p.x.sep=true
 nodT:(p.x.tokens++[p.x.sep]).Nodup
 nodR:(ruleNames p.x).Nodup
 rulC:∀ r ∈ p.x.rules,capitalF r.name=true
 alt0:∀ r ∈ p.x.rules,r.alts≠[]
 alt6:∀ r ∈ p.x.rules,∀ a ∈ r.alts,a.length≤6
 altM:∀ r ∈ p.x.rules,∀ a ∈ r.alts,∀ t ∈ a,mayF t=true
 uses:∀ r ∈ p.x.rules,∀ a ∈ r.alts,∀ t ∈ a,t ∈ p.uses.tail.map (·.1)
 total:p.total=(p.x.rules.map (·.alts.length)).sum
theorem H2.cut {p q:PS} (h:H2 p) (e:q={ p with l:=q.l }):H2 q:=by
 rw [e];exact⟨h.know,h.k,h.tok0,h.tokS,h.sepS,h.nodT,h.nodR,h.rulC,h.alt0,h.alt6,h.altM,h.uses,h.total⟩
end
end Go.Av
end
noncomputable section
namespace Go.Av
open Go Go.Proofs
set_option maxRecDepth 100000
def nameB:List Nat→Bool
 |[]=>false
 |c :: l=>letterI c && l.all (fun d=>wordI d) && decide ((c :: l).length≤12) && !languageF (c :: l)
theorem nameB_ok {t:List Nat} (h:nameB t=true):nameF t=0:=by
 cases t with
 |nil=>cases h
 |cons c l =>
  simp only [nameB,Bool.and_eq_true,List.all_eq_true,decide_eq_true_eq,Bool.not_eq_true'] at h
  obtain⟨⟨⟨h1,h2⟩,h3⟩,h4⟩:=h
  have hw:wordF (c :: l)=0:=by
   unfold wordF
   rw [if_neg (by simp),if_neg,if_neg (by omega)]
   rintro⟨i,d,h5,h6,h7⟩
   cases i with
   |zero =>
    simp at h5
    rw [← h5,show letterF (c:Nat)=true from h1] at h6;cases h6
   |succ i =>
    have h5:l[i]?=some d:=by simpa using h5
    have h8:=h2 d (List.mem_of_getElem? h5)
    rcases h7 with h7|⟨h7,h9⟩
    ·cases h7
    ·simp only [wordI,Bool.or_eq_true,beq_iff_eq] at h8
     rcases h8 with(h8|h8)|h8
     ·rw [show letterF (d:Nat)=true from h8] at h6;cases h6
     ·rw [show digitF (d:Nat)=true from h8] at h7;cases h7
     ·exact h9 h8
  unfold nameF
  rw [if_neg (by rintro⟨_,h5⟩;rw [h4] at h5;cases h5),hw]
def smallB (t:List Nat):Bool:=nameB t && decide (97≤t.getD 0 0)
def capB (t:List Nat):Bool:=nameB t && decide (t.getD 0 0<97)
theorem smallB_ok {t:List Nat} (h:smallB t=true):smallF t=true:=by
 simp only [smallB,Bool.and_eq_true] at h
 simp only [smallF,Bool.and_eq_true]
 exact⟨decide_eq_true (nameB_ok h.1),h.2⟩
theorem capB_ok {t:List Nat} (h:capB t=true):capitalF t=true:=by
 simp only [capB,Bool.and_eq_true] at h
 simp only [capitalF,Bool.and_eq_true]
 exact⟨decide_eq_true (nameB_ok h.1),h.2⟩
def soundB (x:Src):Bool :=
 decide (1≤x.k∧x.k≤4) && (!x.tokens.isEmpty && (!x.rules.isEmpty && (x.rules.all (fun r=>!r.alts.isEmpty && (capB r.name && r.alts.all (fun a=>decide (a.length≤6) && a.all (fun s=>(smallB s || capB s) && (decide (¬ s=x.sep) && decide (s ∈ ruleNames x∨s ∈ x.tokens)))))) &&
 (decide (x.tokens.length≤8) && (decide (x.rules.length≤8) && (decide ((x.rules.map (·.alts.length)).sum≤24) && (x.tokens.all smallB && (smallB x.sep && (capB x.start && (decide ((x.tokens++[x.sep]).Nodup) && (decide ((ruleNames x).Nodup) && decide (x.start ∈ ruleNames x))))))))))))
theorem soundB_ok {x:Src} (h:soundB x=true):SoundX x:=by
 simp only [soundB,Bool.and_eq_true,decide_eq_true_eq,List.all_eq_true,Bool.not_eq_true',List.isEmpty_eq_false_iff,Bool.or_eq_true] at h
 obtain⟨h1,h2,h3,h4,h5,h6,h7,h8,h9,h10,h11,h12,h13⟩:=h
 exact⟨h1,h2,h3,fun r hr=>(h4 r hr).1,fun r hr a ha=>((h4 r hr).2.2 a ha).1,h5,h6,h7,fun s hs=>smallB_ok (h8 s hs),smallB_ok h9,capB_ok h10,fun r hr=>capB_ok (h4 r hr).2.1,
  fun r hr a ha s hs=>by
   unfold mayF
   rcases(((h4 r hr).2.2 a ha).2 s hs).1 with h|h
   ·rw [smallB_ok h];rfl
   ·rw [capB_ok h];simp,h11,h12,fun r hr a ha hm=>(((h4 r hr).2.2 a ha).2 _ hm).2.1 rfl,fun r hr a ha s hs=>(((h4 r hr).2.2 a ha).2 s hs).2.2,h13⟩
def lexX (s:List Nat):Nat→Nat→List Lx→Option (List Lx)
 |0,_,_=>none
 |n+1,a,acc=>if atF4 s a=s.length then some acc else if(beginsF (s.drop (atF4 s a))).1=0 then none
  else lexX s n (atF4 s a+(beginsF (s.drop (atF4 s a))).2.length) (acc++[⟨(beginsF (s.drop (atF4 s a))).1,(beginsF (s.drop (atF4 s a))).2,atF4 s a⟩])
theorem lexX_F (s:List Nat):∀ (n a:Nat) (acc ls:List Lx),lexX s n a acc=some ls→lexesF s n a (acc.map encL)=(ls.map encL,0,0)
 |0,a,acc,ls,h=>by cases h
 |n+1,a,acc,ls,h=>by
  unfold lexX at h
  unfold lexesF
  by_cases hp:atF4 s a=s.length
  ·rw [if_pos hp] at h ⊢
   cases h;rfl
  ·rw [if_neg hp] at h ⊢
   by_cases hk:(beginsF (s.drop (atF4 s a))).1=0
   ·rw [if_pos hk] at h;cases h
   ·rw [if_neg hk] at h ⊢
    have:=lexX_F s n _ _ ls h
    rw [List.map_append] at this
    exact this
def textB (t:List Nat) (x:Src):Bool:=decide (t.length≤2000) && (match lexX t (t.length+1) 0 [] with
 |some ls=>decide (ls.map kt=toksX x)
 |none=>false)
theorem textB_ok {t:List Nat} {x:Src} (hs:SoundX x) (h:textB t x=true):∃ ls:List Lx,lexemesF t=(ls.map encL,0,0)∧∀ s,resR (readR s ls)=(x,(0,0)):=by
 simp only [textB,Bool.and_eq_true,decide_eq_true_eq] at h
 obtain⟨h1,h2⟩:=h
 cases hl:lexX t (t.length+1) 0 [] with
 |none=>rw [hl] at h2;cases h2
 |some ls =>
  rw [hl] at h2
  simp only [decide_eq_true_eq] at h2
  refine⟨ls,?_,fun s=>readPrint hs h2⟩
  unfold lexemesF
  rw [if_neg (by omega)]
  exact lexX_F t _ 0 [] ls hl
def allTx:List (Nat × Nat × Nat):=(List.range 16).flatMap fun i=>((List.range 6).flatMap fun k=>(List.range 6).map fun t=>(k,t,i)).filter fun p=>decide ((p.1=(ruleE i).1∨p.1=(ruleE i).1+1∧(ruleE i).1<2)∧(p.2.1=(ruleE i).2.1∨p.2.1=(ruleE i).2.1+1∧(ruleE i).2.1<4))
theorem all_sound:(allTx.all fun p=>soundB (srcT p.1 p.2.1 p.2.2))=true:=by kernel_rfl
theorem all_text:(allTx.all fun p=>textB (textT p.1 p.2.1 (ruleE p.2.2).2.2) (srcT p.1 p.2.1 p.2.2) && (decide ((printX (srcT p.1 p.2.1 p.2.2)).length≤2000) && (textT p.1 p.2.1 (ruleE p.2.2).2.2).all (fun c=>decide (c<256))))=true:=by kernel_rfl
theorem ruleE_b:((List.range 16).all fun i=>decide ((ruleE i).1≤4∧(ruleE i).2.1≤4∧1≤(ruleE i).2.1∧(ruleE i).2.2.length≤1000))=true:=by kernel_rfl
theorem tx_mem {i k t:Nat} (hi:i<16) (hk:k=(ruleE i).1∨k=(ruleE i).1+1∧(ruleE i).1<2) (ht:t=(ruleE i).2.1∨t=(ruleE i).2.1+1∧(ruleE i).2.1<4):(k,t,i) ∈ allTx:=by
 have hb:=List.all_eq_true.1 ruleE_b i (List.mem_range.2 hi)
 simp only [decide_eq_true_eq] at hb
 unfold allTx
 refine List.mem_flatMap.2 ⟨i,List.mem_range.2 hi,List.mem_filter.2 ⟨List.mem_flatMap.2 ⟨k,List.mem_range.2 (by omega),List.mem_map.2 ⟨t,List.mem_range.2 (by omega),rfl⟩⟩,?_⟩⟩
 simp only [decide_eq_true_eq]
 exact⟨hk,ht⟩
theorem all_ok {p:Nat × Nat × Nat} (hm:p ∈ allTx) :
  SoundX (srcT p.1 p.2.1 p.2.2)∧textB (textT p.1 p.2.1 (ruleE p.2.2).2.2) (srcT p.1 p.2.1 p.2.2)=true∧(printX (srcT p.1 p.2.1 p.2.2)).length≤2000∧∀ c ∈ textT p.1 p.2.1 (ruleE p.2.2).2.2,c<256:=by
 have h1:=List.all_eq_true.1 all_sound _ hm
 have h2:=List.all_eq_true.1 all_text _ hm
 simp only [Bool.and_eq_true,decide_eq_true_eq,List.all_eq_true] at h2
 exact⟨soundB_ok h1,h2.1,h2.2.1,h2.2.2⟩
theorem textB_len {t:List Nat} {x:Src} (h:textB t x=true):t.length≤2000:=by
 simp only [textB,Bool.and_eq_true,decide_eq_true_eq] at h
 exact h.1
end Go.Av
end
noncomputable section
namespace Go.Av
open Go Go.Proofs
def FineE {α:Type} (N:Nat) (Q:α→Prop):Except Fa α→Prop
 |.ok a=>Q a
 |.error e=>e.1≠0∧e.2≤N
theorem FineE.bind {α β:Type} {N:Nat} {Q:α→Prop} {R:β→Prop} {x:Except Fa α} {f:α→Except Fa β} (h:FineE N Q x) (hf:∀ a,Q a→FineE N R (f a)):FineE N R (x.bind f):=by
 cases x with
 |error e=>exact h
 |ok a=>exact hf a h
section
variable {s:List Nat} {N:Nat} (hN:s.length≤N)
include hN
end
end Go.Av
end
noncomputable section
namespace Go.Av
open Go Go.Proofs
set_option maxRecDepth 10000
set_option maxHeartbeats 4000000 in
theorem usedC (s:List Nat) (p:PS) (hb:PB p):ACall Try.prog 20 [.bp 0 0] (pO s p) (endR (usedP p)) (endG s (usedP p)):=by
 have hu:p.uses.length≤200000:=by have:=hb.uses;omega
 obtain⟨R,hR⟩:∃ R,R=usedP p:=⟨_,rfl⟩
 have hR':R=(usedL p.names true p.uses).bind fun _=>.ok p:=hR
 rw [← hR]
 refine acallU (fnAt Try.func20 (by kernel_rfl) (by kernel_rfl):FnAt _ _ (mkFn Try.f20 [])) rfl rfl ?_
 repeat' (first|refine zW [] ?_|((refine zB [] (fun h=>?_) (fun h=>?_))<;>(first|exact zk h|skip))|refine zX [] ?_|(refine zE ?_;(skip))|((exfalso;(simp at h<;>omega)))|fail)
 refine Run.loopT (fun i:Nat=>⟨PT.ofList [(0,.bp 0 0),(8,.sr 4 2 (p.uses.map encU)),(9,.d (.int .i64 (p.uses.map encU).length)),(10,.d (.int .i64 (i:Nat)))],pO s p,[]⟩)
  (fun i=>i≤p.uses.length∧R=(usedL p.names (decide (i=0)) (p.uses.drop i)).bind fun _=>.ok p) (fun i=>p.uses.length-i) 0 ⟨Nat.zero_le _,hR'⟩ (tidy_of (objs:=_) _ 5 (by rfl) rfl (by repeat' (first|exact trivial|refine⟨(Or.inl rfl),?_⟩|refine⟨(Or.inr rfl),?_⟩|fail)) (by repeat' (first|exact trivial|refine⟨rfl,?_⟩|fail)) rfl rfl) (fun i hi=>?_)
 obtain⟨h1,h2⟩:=hi
 rcases Nat.lt_or_ge i p.uses.length with hlt|hge
 ·obtain⟨u,hux⟩:=get_ok hlt
  have hd:p.uses.drop i=u :: p.uses.drop (i+1):=by
   obtain⟨g1,g2⟩:=List.getElem?_eq_some_iff.1 hux
   rw [List.drop_eq_getElem_cons g1,g2]
  obtain⟨t,a0⟩:=u
  rw [hd,usedL] at h2
  obtain⟨kk,eK⟩:∃ kk,kk=knowP p.names t:=⟨_,rfl⟩
  have hch:chkP p.names (decide (i=0)) t=if kk.2.1=true then 14 else if kk.2.2=false∧(decide (i=0)=true∨kk.1=false) then 7 else 0:=by rw [eK];rfl
  simp only at h2
  rw [hch] at h2
  have hinc:AV.d (.int .i64 (IntKind.i64.wrap ((i:Int)+1)))=.d (.int .i64 ((i+1:Nat):Int)):=vN8 (by omega) (by omega)
  have hi0:AV.d (.bool (((i:Nat):Int) == 0))=.d (.bool (decide (i=0))):=by
   congr 2
   by_cases e:i=0
   ·subst e;rfl
   ·have:¬ ((i:Nat):Int)=0:=by omega
    simp [e]
  obtain⟨ba,bb,bc⟩:=kk
  have fin:∀ s1:S,R=(usedL p.names false (p.uses.drop (i+1))).bind (fun _=>.ok p)→Tidy 5 s1 ⟨PT.ofList [(0,.bp 0 0),(8,.sr 4 2 (p.uses.map encU)),(9,.d (.int .i64 (p.uses.map encU).length)),(10,.d (.int .i64 ((i+1:Nat):Int)))],pO s p,[]⟩ →
    ∃ x:Nat,(x≤p.uses.length∧R=(usedL p.names (decide (x=0)) (p.uses.drop x)).bind fun _=>.ok p)∧p.uses.length-x<p.uses.length-i∧Tidy 5 s1 ⟨PT.ofList [(0,.bp 0 0),(8,.sr 4 2 (p.uses.map encU)),(9,.d (.int .i64 (p.uses.map encU).length)),(10,.d (.int .i64 (x:Nat)))],pO s p,[]⟩:=fun s1 hr ht =>
   ⟨i+1,⟨hlt,by rw [hr];simp⟩,by omega,ht⟩
  cases bb with
  |true =>
   simp only [if_true] at h2
   rw [if_pos (by simp)] at h2
   simp only [Except.bind] at h2
   subst h2
   have cf:=failP s p 14 a0
   repeat' (first|refine zW [] ?_|((refine zB [] (fun h=>?_) (fun h=>?_))<;>(first|exact zk h|skip))|refine zX [] ?_|refine oX (frz:=[]) (v:=.d (.ep [.str t,.int .i64 (a0:Nat)])) Yo ?_ (hf:=(by first|(simp [inB]<;>fail)|(simp [inB];omega))) (he:=(by first|(simp [List.getD_eq_getElem?_getD,cellsD,hux]<;>fail)|fail))|refine eX (v:=.d (.ep [.str t,.int .i64 (a0:Nat)])) ?_ (hf:=(by first|(simp [inB]<;>fail)|(simp [inB];omega))) (he:=(by first|(simp [List.getD_eq_getElem?_getD,cellsD,hux]<;>fail)|fail))|refine eX ?_ (hv:=(evAny_know p.names t).trans (by rw [← eK]))|refine oFP (cf) ?_|(refine zE ?_;(skip))|(exact⟨rfl,rfl,(by repeat' (first|exact trivial|refine⟨.refl,?_⟩|refine⟨.gone,?_⟩|refine⟨.box (by repeat' (first|exact trivial|refine⟨.inr rfl,?_⟩|refine⟨.inl rfl,?_⟩)),?_⟩))⟩)|((exfalso;(simp at h<;>omega)))|fail)
  |false =>
   simp only [Bool.false_eq_true,if_false] at h2
   cases bc with
   |true =>
    simp only [Bool.true_eq_false,false_and,if_false,ne_eq,not_true] at h2
    repeat' (first|refine oX (frz:=[]) (v:=.d (.int .i64 ((i+1:Nat):Int))) Yo ?_ (he:=(hinc))|refine eX (v:=.d (.int .i64 ((i+1:Nat):Int))) ?_ (he:=(hinc))|refine zW [] ?_|((refine zB [] (fun h=>?_) (fun h=>?_))<;>(first|exact zk h|skip))|refine zX [] ?_|refine oX (frz:=[]) (v:=.d (.ep [.str t,.int .i64 (a0:Nat)])) Yo ?_ (hf:=(by first|(simp [inB]<;>fail)|(simp [inB];omega))) (he:=(by first|(simp [List.getD_eq_getElem?_getD,cellsD,hux]<;>fail)|fail))|refine eX (v:=.d (.ep [.str t,.int .i64 (a0:Nat)])) ?_ (hf:=(by first|(simp [inB]<;>fail)|(simp [inB];omega))) (he:=(by first|(simp [List.getD_eq_getElem?_getD,cellsD,hux]<;>fail)|fail))|refine eX ?_ (hv:=(evAny_know p.names t).trans (by rw [← eK]))|(refine zE ?_;(skip))|(exact fin _ h2 (tidy_of (objs:=_) _ 5 (by rfl) rfl (by repeat' (first|exact trivial|refine⟨(Or.inl rfl),?_⟩|refine⟨(Or.inr rfl),?_⟩|fail)) (by repeat' (first|exact trivial|refine⟨rfl,?_⟩|fail)) rfl rfl))|((exfalso;(simp at h<;>omega)))|fail)
   |false =>
    have cf:=failP s p 7 a0
    by_cases e:i=0
    ·have hd0:decide (i=0)=true:=decide_eq_true e
     rw [hd0] at h2 hi0
     simp only [true_or,and_self,if_true] at h2
     rw [if_pos (by simp)] at h2
     simp only [Except.bind] at h2
     subst h2
     repeat' (first|refine oX (frz:=[]) (v:=.d (.bool true)) Yo ?_ (he:=(hi0))|refine eX (v:=.d (.bool true)) ?_ (he:=(hi0))|refine zW [] ?_|((refine zB [] (fun h=>?_) (fun h=>?_))<;>(first|exact zk h|skip))|refine zX [] ?_|refine oX (frz:=[]) (v:=.d (.ep [.str t,.int .i64 (a0:Nat)])) Yo ?_ (hf:=(by first|(simp [inB]<;>fail)|(simp [inB];omega))) (he:=(by first|(simp [List.getD_eq_getElem?_getD,cellsD,hux]<;>fail)|fail))|refine eX (v:=.d (.ep [.str t,.int .i64 (a0:Nat)])) ?_ (hf:=(by first|(simp [inB]<;>fail)|(simp [inB];omega))) (he:=(by first|(simp [List.getD_eq_getElem?_getD,cellsD,hux]<;>fail)|fail))|refine eX ?_ (hv:=(evAny_know p.names t).trans (by rw [← eK]))|refine oFP (cf) ?_|(refine zE ?_;(skip))|(exact⟨rfl,rfl,(by repeat' (first|exact trivial|refine⟨.refl,?_⟩|refine⟨.gone,?_⟩|refine⟨.box (by repeat' (first|exact trivial|refine⟨.inr rfl,?_⟩|refine⟨.inl rfl,?_⟩)),?_⟩))⟩)|((exfalso;(simp at h<;>omega)))|fail)
    ·have hd0:decide (i=0)=false:=decide_eq_false e
     rw [hd0] at h2 hi0
     cases ba with
     |true =>
      simp only [Bool.false_eq_true,Bool.true_eq_false,or_self,and_false,if_false,ne_eq,not_true] at h2
      repeat' (first|refine oX (frz:=[]) (v:=.d (.bool false)) Yo ?_ (he:=(hi0))|refine eX (v:=.d (.bool false)) ?_ (he:=(hi0))|refine oX (frz:=[]) (v:=.d (.int .i64 ((i+1:Nat):Int))) Yo ?_ (he:=(hinc))|refine eX (v:=.d (.int .i64 ((i+1:Nat):Int))) ?_ (he:=(hinc))|refine zW [] ?_|((refine zB [] (fun h=>?_) (fun h=>?_))<;>(first|exact zk h|skip))|refine zX [] ?_|refine oX (frz:=[]) (v:=.d (.ep [.str t,.int .i64 (a0:Nat)])) Yo ?_ (hf:=(by first|(simp [inB]<;>fail)|(simp [inB];omega))) (he:=(by first|(simp [List.getD_eq_getElem?_getD,cellsD,hux]<;>fail)|fail))|refine eX (v:=.d (.ep [.str t,.int .i64 (a0:Nat)])) ?_ (hf:=(by first|(simp [inB]<;>fail)|(simp [inB];omega))) (he:=(by first|(simp [List.getD_eq_getElem?_getD,cellsD,hux]<;>fail)|fail))|refine eX ?_ (hv:=(evAny_know p.names t).trans (by rw [← eK]))|(refine zE ?_;(skip))|(exact fin _ h2 (tidy_of (objs:=_) _ 5 (by rfl) rfl (by repeat' (first|exact trivial|refine⟨(Or.inl rfl),?_⟩|refine⟨(Or.inr rfl),?_⟩|fail)) (by repeat' (first|exact trivial|refine⟨rfl,?_⟩|fail)) rfl rfl))|((exfalso;(simp at h<;>omega)))|fail)
     |false =>
      simp only [Bool.false_eq_true,false_or,and_self,if_true] at h2
      rw [if_pos (by simp)] at h2
      simp only [Except.bind] at h2
      subst h2
      repeat' (first|refine oX (frz:=[]) (v:=.d (.bool false)) Yo ?_ (he:=(hi0))|refine eX (v:=.d (.bool false)) ?_ (he:=(hi0))|refine zW [] ?_|((refine zB [] (fun h=>?_) (fun h=>?_))<;>(first|exact zk h|skip))|refine zX [] ?_|refine oX (frz:=[]) (v:=.d (.ep [.str t,.int .i64 (a0:Nat)])) Yo ?_ (hf:=(by first|(simp [inB]<;>fail)|(simp [inB];omega))) (he:=(by first|(simp [List.getD_eq_getElem?_getD,cellsD,hux]<;>fail)|fail))|refine eX (v:=.d (.ep [.str t,.int .i64 (a0:Nat)])) ?_ (hf:=(by first|(simp [inB]<;>fail)|(simp [inB];omega))) (he:=(by first|(simp [List.getD_eq_getElem?_getD,cellsD,hux]<;>fail)|fail))|refine eX ?_ (hv:=(evAny_know p.names t).trans (by rw [← eK]))|refine oFP (cf) ?_|(refine zE ?_;(skip))|(exact⟨rfl,rfl,(by repeat' (first|exact trivial|refine⟨.refl,?_⟩|refine⟨.gone,?_⟩|refine⟨.box (by repeat' (first|exact trivial|refine⟨.inr rfl,?_⟩|refine⟨.inl rfl,?_⟩)),?_⟩))⟩)|((exfalso;(simp at h<;>omega)))|fail)
 ·have hie:i=p.uses.length:=by omega
  subst hie
  rw [List.drop_length,usedL] at h2
  simp only [Except.bind] at h2
  subst h2
  repeat' (first|refine zW [] ?_|((refine zB [] (fun h=>?_) (fun h=>?_))<;>(first|exact zk h|skip))|refine zX [] ?_|(refine zE ?_;(skip))|(((first|refine Yt ?_|skip);exact⟨trivial,_,_,rfl,rfl,.refl,(by repeat' (first|exact trivial|refine⟨.refl,?_⟩|refine⟨.gone,?_⟩|refine⟨.box (by repeat' (first|exact trivial|refine⟨.inr rfl,?_⟩|refine⟨.inl rfl,?_⟩)),?_⟩))⟩))|((exfalso;(simp at h<;>omega)))|fail)
end Go.Av
end
noncomputable section
namespace Go.Av
open Go Go.Proofs
theorem lexesF_ls (s:List Nat):∀ (n a:Nat) (acc:List Lx),a≤s.length→acc.length≤a→s.length+1≤n+a→(∀ x ∈ acc,x.t.length≤s.length∧(x.k=2→NumT x.t)) →
  (∃ ls:List Lx,lexesF s n a (acc.map encL)=(ls.map encL,0,0)∧ls.length≤s.length∧∀ x ∈ ls,x.t.length≤s.length∧(x.k=2→NumT x.t))∨∃ e q,lexesF s n a (acc.map encL)=([],e,q)∧e≠0
 |0,a,acc,h1,h2,h3,h4=>by omega
 |n+1,a,acc,h1,h2,h3,h4=>by
  have hle:=atF4_le h1
  have hge:a≤atF4 s a:=Nat.le_add_right _ _
  unfold lexesF
  by_cases hp:atF4 s a=s.length
  ·rw [if_pos hp]
   exact .inl ⟨acc,rfl,by omega,h4⟩
  ·rw [if_neg hp]
   by_cases hk:(beginsF (s.drop (atF4 s a))).1=0
   ·rw [if_pos hk]
    exact .inr ⟨3,_,rfl,by decide⟩
   ·rw [if_neg hk]
    obtain⟨c,hc⟩:=get_ok (show atF4 s a<s.length by omega)
    have hd:=drop_cons hc
    have hbl:=beginsF_len (s.drop (atF4 s a))
    rw [List.length_drop] at hbl
    have hb1:1≤(beginsF (s.drop (atF4 s a))).2.length:=by rw [hd] at hk ⊢;exact beginsF_pos hk
    have hn:(beginsF (s.drop (atF4 s a))).1=2→NumT (beginsF (s.drop (atF4 s a))).2:=fun h=>by
     rw [hd] at h ⊢
     exact beginsF_num (c:=c) (l:=s.drop (atF4 s a+1)) (Prod.ext h rfl)
    have:=lexesF_ls s n (atF4 s a+(beginsF (s.drop (atF4 s a))).2.length) (acc++[⟨(beginsF (s.drop (atF4 s a))).1,(beginsF (s.drop (atF4 s a))).2,atF4 s a⟩]) (by omega) (by simp;omega) (by omega) (fun x hx=>by
     rcases List.mem_append.1 hx with hx|hx
     ·exact h4 x hx
     ·rw [List.mem_singleton.1 hx]
      exact⟨by simp only;omega,hn⟩)
    rw [List.map_append] at this
    exact this
theorem lexemesF_ls (s:List Nat) (hl:s.length≤1048576) :
  (∃ ls:List Lx,lexemesF s=(ls.map encL,0,0)∧LsB ls∧NumL ls)∨∃ e q,lexemesF s=([],e,q)∧e≠0:=by
 unfold lexemesF
 by_cases h2:2000<s.length
 ·rw [if_pos h2];exact .inr ⟨4,2000,rfl,by decide⟩
 ·rw [if_neg h2]
  rcases lexesF_ls s (s.length+1) 0 [] (Nat.zero_le _) (Nat.le_refl _) (Nat.le_refl _) (fun x hx=>by cases hx) with⟨ls,h3,h4,h5⟩|h
  ·exact .inl ⟨ls,h3,⟨by omega,fun x hx=>by have:=(h5 x hx).1;omega⟩,fun x hx=>(h5 x hx).2⟩
  ·exact .inr h
end Go.Av
end
noncomputable section
namespace Go.Av
open Go Go.Proofs
set_option maxRecDepth 10000
set_option maxHeartbeats 4000000 in
theorem scanNumBad (s:List Nat) (p c:Nat) (hb:∀ c ∈ s,c<256) (hl:s.length≤1048576) (hp:p≤s.length) (hc:s[atF4 s p]?=some c) (hk:classI (c:Nat)=2)
  (hz:(c=48∧1<runL digitI (s.drop (atF4 s p)))∨clsAt s (atF4 s p+runL digitI (s.drop (atF4 s p)))=1∨clsAt s (atF4 s p+runL digitI (s.drop (atF4 s p)))=3) :
  ACall Try.prog 59 [.bp 0 0] [curO s p] (.tup [.d (lexD 0 [] 0),.d (faultD 3 (atF4 s p))]) (nextO s (atF4 s p+runL digitI (s.drop (atF4 s p))) 0 [] 0 3 (atF4 s p)):=by
 have cg:=scanGap bxs s p hb hl hp
 have hq:=atF4_le hp
 generalize atF4 s p=q at cg hc hq hz ⊢
 have hlt:=(List.getElem?_eq_some_iff.1 hc).1
 have cc:=curClass bxs s q hb hl hq
 rw [show clsAt s q=2 by simp only [clsAt,hc];exact hk] at cc
 have cw:=curDigits bxs s q hb hl hq
 have hr:=runL_le digitI (s.drop q)
 rw [List.length_drop] at hr
 generalize runL digitI (s.drop q)=n at cw hr hz ⊢
 have c2:=curClass bxs s (q+n) hb hl (by omega)
 generalize clsAt s (q+n)=k at c2 hz
 have hinc:AV.d (.int .i64 (IntKind.i64.wrap ((q:Int)+1)))=.d (.int .i64 ((q+1:Nat):Int)):=congrArg (fun x=>AV.d (.int .i64 x)) ((congrArg IntKind.i64.wrap (show(q:Int)+1=((q+1:Nat):Int) by omega)).trans (wrap_nat (by omega)))
 by_cases h48:c=48
 ·subst h48
  by_cases h1n:1<n
  ·refine acall_of_run Yo (fnAt Try.func59 (by kernel_rfl) (by kernel_rfl):FnAt _ _ (mkFn Try.f59 [33,40])) rfl rfl ?_
   repeat' (first|refine oX (frz:=[33,40]) (v:=.d (.int .i64 ((q+1:Nat):Int))) Yo ?_ (he:=(hinc))|refine eX (v:=.d (.int .i64 ((q+1:Nat):Int))) ?_ (he:=(hinc))|refine zW [33,40] ?_|((refine zB [33,40] (fun h=>?_) (fun h=>?_))<;>(first|exact zk h|skip))|refine zX [33,40] ?_|refine oX (frz:=[33,40]) (v:=.d (.int .u8 ((48:Nat):Int))) Yo ?_ (hf:=by first|(simp [inB]<;>fail)|(simp [inB];omega)) (he:=by first|(simp [List.getD_eq_getElem?_getD,hc]<;>fail)|fail)|refine oA cg ?_|refine oA cc ?_|refine oA cw ?_|refine oA c2 ?_|(refine zE ?_;(skip))|((refine Yt ?_;exact⟨trivial,rfl,rfl⟩))|((exfalso;(simp at h<;>omega)))|fail)
  ·have hz:k=1∨k=3:=by rcases hz with hz|hz;exact absurd hz.2 h1n;exact hz
   rcases hz with rfl|rfl
   ·refine acall_of_run Yo (fnAt Try.func59 (by kernel_rfl) (by kernel_rfl):FnAt _ _ (mkFn Try.f59 [33,40])) rfl rfl ?_
    repeat' (first|refine oX (frz:=[33,40]) (v:=.d (.int .i64 ((q+1:Nat):Int))) Yo ?_ (he:=(hinc))|refine eX (v:=.d (.int .i64 ((q+1:Nat):Int))) ?_ (he:=(hinc))|refine zW [33,40] ?_|((refine zB [33,40] (fun h=>?_) (fun h=>?_))<;>(first|exact zk h|skip))|refine zX [33,40] ?_|refine oX (frz:=[33,40]) (v:=.d (.int .u8 ((48:Nat):Int))) Yo ?_ (hf:=by first|(simp [inB]<;>fail)|(simp [inB];omega)) (he:=by first|(simp [List.getD_eq_getElem?_getD,hc]<;>fail)|fail)|refine oA cg ?_|refine oA cc ?_|refine oA cw ?_|refine oA c2 ?_|(refine zE ?_;(skip))|((refine Yt ?_;exact⟨trivial,rfl,rfl⟩))|((exfalso;(simp at h<;>omega)))|fail)
   ·refine acall_of_run Yo (fnAt Try.func59 (by kernel_rfl) (by kernel_rfl):FnAt _ _ (mkFn Try.f59 [33,40])) rfl rfl ?_
    repeat' (first|refine oX (frz:=[33,40]) (v:=.d (.int .i64 ((q+1:Nat):Int))) Yo ?_ (he:=(hinc))|refine eX (v:=.d (.int .i64 ((q+1:Nat):Int))) ?_ (he:=(hinc))|refine zW [33,40] ?_|((refine zB [33,40] (fun h=>?_) (fun h=>?_))<;>(first|exact zk h|skip))|refine zX [33,40] ?_|refine oX (frz:=[33,40]) (v:=.d (.int .u8 ((48:Nat):Int))) Yo ?_ (hf:=by first|(simp [inB]<;>fail)|(simp [inB];omega)) (he:=by first|(simp [List.getD_eq_getElem?_getD,hc]<;>fail)|fail)|refine oA cg ?_|refine oA cc ?_|refine oA cw ?_|refine oA c2 ?_|(refine zE ?_;(skip))|((refine Yt ?_;exact⟨trivial,rfl,rfl⟩))|((exfalso;(simp at h<;>omega)))|fail)
 ·have hz:k=1∨k=3:=by rcases hz with hz|hz;exact absurd hz.1 h48;exact hz
  rcases hz with rfl|rfl
  ·refine acall_of_run Yo (fnAt Try.func59 (by kernel_rfl) (by kernel_rfl):FnAt _ _ (mkFn Try.f59 [33,40])) rfl rfl ?_
   repeat' (first|refine oX (frz:=[33,40]) (v:=.d (.int .i64 ((q+1:Nat):Int))) Yo ?_ (he:=(hinc))|refine eX (v:=.d (.int .i64 ((q+1:Nat):Int))) ?_ (he:=(hinc))|refine zW [33,40] ?_|((refine zB [33,40] (fun h=>?_) (fun h=>?_))<;>(first|exact zk h|skip))|refine zX [33,40] ?_|refine oX (frz:=[33,40]) (v:=.d (.int .u8 (c:Nat))) Yo ?_ (hf:=by first|(simp [inB]<;>fail)|(simp [inB];omega)) (he:=by first|(simp [List.getD_eq_getElem?_getD,hc]<;>fail)|fail)|refine oA cg ?_|refine oA cc ?_|refine oA cw ?_|refine oA c2 ?_|(refine zE ?_;(skip))|((refine Yt ?_;exact⟨trivial,rfl,rfl⟩))|((exfalso;(simp at h<;>omega)))|fail)
  ·refine acall_of_run Yo (fnAt Try.func59 (by kernel_rfl) (by kernel_rfl):FnAt _ _ (mkFn Try.f59 [33,40])) rfl rfl ?_
   repeat' (first|refine oX (frz:=[33,40]) (v:=.d (.int .i64 ((q+1:Nat):Int))) Yo ?_ (he:=(hinc))|refine eX (v:=.d (.int .i64 ((q+1:Nat):Int))) ?_ (he:=(hinc))|refine zW [33,40] ?_|((refine zB [33,40] (fun h=>?_) (fun h=>?_))<;>(first|exact zk h|skip))|refine zX [33,40] ?_|refine oX (frz:=[33,40]) (v:=.d (.int .u8 (c:Nat))) Yo ?_ (hf:=by first|(simp [inB]<;>fail)|(simp [inB];omega)) (he:=by first|(simp [List.getD_eq_getElem?_getD,hc]<;>fail)|fail)|refine oA cg ?_|refine oA cc ?_|refine oA cw ?_|refine oA c2 ?_|(refine zE ?_;(skip))|((refine Yt ?_;exact⟨trivial,rfl,rfl⟩))|((exfalso;(simp at h<;>omega)))|fail)
theorem ACall.weak {P:Program} {f:FuncId} {args:List AV} {A O A':List Ob} {r:AV} (h:ACall P f args A r O) (hw:WkObs O A') (hl:A'.length=A.length) (hr:A'.all (refOb A'.length)=true) (hrr:refA 8 A'.length r=true):ACall P f args A r A':=by
 refine⟨h.1,fun D β w vs hp hv=>(h.2 D β w vs hp hv).mono fun e w' he=>?_⟩
 have hn:β.length≤A'.length:=by rw [hp.len,hl];exact Nat.le_refl _
 rcases he with⟨v,D',β',rfl,hs,hrep⟩|⟨y,v,D',β',rfl,rfl,hs,hrep⟩
 ·exact .inl ⟨v,D',_,rfl,hs.weak hw hn hr,repA_take 8 hrr hrep⟩
 ·exact .inr ⟨y,v,D',_,rfl,rfl,hs.weak hw hn hr,hrep⟩
theorem cut3 {s:List Nat} {q k:Nat} {t:List Nat} {a c d:Nat}:WkObs (nextO s q k t a c d) [curO s q]:=⟨.refl,trivial⟩
theorem class_iff {c:Nat} (h:c<256):(classI (c:Nat)=4 ↔ signI (c:Nat)=true)∧(classI (c:Nat)=1 ↔ letterI (c:Nat)=true)∧(classI (c:Nat)=2 ↔ digitI (c:Nat)=true)∧((classI (c:Nat)=1∨classI (c:Nat)=3) ↔ endI (c:Nat)=true):=by
 have h0:allTo (fun c=>((classI (c:Nat) == 4) == signI (c:Nat)) && ((classI (c:Nat) == 1) == letterI (c:Nat)) && ((classI (c:Nat) == 2) == digitI (c:Nat)) && (((classI (c:Nat) == 1) || (classI (c:Nat) == 3)) == endI (c:Nat))) 256=true:=by kernel_rfl
 have:=allTo_ok h0 c h
 simp only [Bool.and_eq_true,beq_iff_eq] at this
 obtain⟨⟨⟨h1,h2⟩,h3⟩,h4⟩:=this
 refine⟨by rw [← h1];simp,by rw [← h2];simp,by rw [← h3];simp,by rw [← h4];simp⟩
abbrev scanT (s:List Nat) (p:Nat):AV :=
 if atF4 s p=s.length then .tup [.d (lexD 0 [] 0),.d (faultD 5 s.length)]
 else if(beginsF (s.drop (atF4 s p))).1=0 then .tup [.d (lexD 0 [] 0),.d (faultD 3 (atF4 s p))]
 else .tup [.d (lexD (beginsF (s.drop (atF4 s p))).1 (beginsF (s.drop (atF4 s p))).2 (atF4 s p)),.d (faultD 0 0)]
theorem scanAll (s:List Nat) (p:Nat) (hb:∀ c ∈ s,c<256) (hl:s.length≤1048576) (hp:p≤s.length) :
  ∃ p',p'≤s.length∧((beginsF (s.drop (atF4 s p))).1≠0→p'=atF4 s p+(beginsF (s.drop (atF4 s p))).2.length)∧ACall Try.prog 59 [.bp 0 0] [curO s p] (scanT s p) [curO s p']:=by
 unfold scanT
 have hq:=atF4_le hp
 by_cases he:atF4 s p=s.length
 ·rw [if_pos he]
  refine⟨s.length,Nat.le_refl _,fun h=>?_,(scanEnd s p hb hl hp he).weak cut3 rfl rfl rfl⟩
  rw [he,List.drop_length] at h
  simp [beginsF] at h
 ·rw [if_neg he]
  obtain⟨c,hc⟩:=get_ok (show atF4 s p<s.length by omega)
  have hlt:atF4 s p<s.length:=by omega
  have hd:=drop_cons hc
  have hc256:=hb c (List.mem_of_getElem? hc)
  obtain⟨k4,k1,k2,_⟩:=class_iff hc256
  have sW:=scanWord s p c hb hl hp hc
  have sS:=scanSign s p c hb hl hp hc
  have sN:=scanNum s p c hb hl hp hc
  have sM:=scanNumBad s p c hb hl hp hc
  have sB:=scanBad s p c hb hl hp hc
  have rW:=runL_le wordI (s.drop (atF4 s p))
  have rD:=runL_le digitI (s.drop (atF4 s p))
  rw [List.length_drop] at rW rD
  have e:∀ l,beginsF (c :: l)=if signI c then(3,[c]) else if letterI c then(1,(c :: l).take (1+runL wordI l)) else if digitI c then
   (if(c=48∧1<1+runL digitI l)∨(∃ e,(c :: l)[1+runL digitI l]?=some e∧endI e=true) then(0,[]) else(2,(c :: l).take (1+runL digitI l))) else(0,[]):=fun _=>rfl
  by_cases h4:signI (c:Nat)=true
  ·have eB:beginsF (s.drop (atF4 s p))=(3,[c]):=by rw [hd,e,if_pos h4]
   rw [eB,if_neg (by simp)]
   exact⟨_,hlt,fun _=>rfl,(sS (k4.2 h4)).weak cut3 rfl rfl rfl⟩
  ·by_cases h1:letterI (c:Nat)=true
   ·have hw:wordI (c:Nat)=true:=by simp [wordI,h1]
    have eR:runL wordI (s.drop (atF4 s p))=1+runL wordI (s.drop (atF4 s p+1)):=by rw [hd,runL,if_pos hw]
    have eB:beginsF (s.drop (atF4 s p))=(1,(s.drop (atF4 s p)).take (runL wordI (s.drop (atF4 s p)))):=by
     rw [eR];conv=>lhs;rw [hd]
     rw [e,if_neg h4,if_pos h1,← hd]
    rw [eB,if_neg (by simp)]
    refine⟨_,?_,fun _=>?_,(sW (k1.2 h1)).weak cut3 rfl rfl rfl⟩
    ·omega
    ·simp only [List.length_take,List.length_drop];omega
   ·by_cases h2:digitI (c:Nat)=true
    ·have eR:runL digitI (s.drop (atF4 s p))=1+runL digitI (s.drop (atF4 s p+1)):=by rw [hd,runL,if_pos h2]
     have hcls:(∃ e,(s.drop (atF4 s p))[runL digitI (s.drop (atF4 s p))]?=some e∧endI e=true) ↔ (clsAt s (atF4 s p+runL digitI (s.drop (atF4 s p)))=1∨clsAt s (atF4 s p+runL digitI (s.drop (atF4 s p)))=3):=by
      rw [List.getElem?_drop]
      unfold clsAt
      cases hx:s[atF4 s p+runL digitI (s.drop (atF4 s p))]? with
      |none=>simp
      |some d =>
       have:=(class_iff (hb d (List.mem_of_getElem? hx))).2.2.2
       simp only [Option.some.injEq,exists_eq_left']
       exact this.symm
     have eB:beginsF (s.drop (atF4 s p))=if(c=48∧1<runL digitI (s.drop (atF4 s p)))∨(∃ e,(s.drop (atF4 s p))[runL digitI (s.drop (atF4 s p))]?=some e∧endI e=true) then(0,[]) else(2,(s.drop (atF4 s p)).take (runL digitI (s.drop (atF4 s p)))):=by
      rw [eR]
      conv=>lhs;rw [hd]
      rw [e,if_neg h4,if_neg h1,if_pos h2,← hd]
     by_cases hz:(c=48∧1<runL digitI (s.drop (atF4 s p)))∨(∃ e,(s.drop (atF4 s p))[runL digitI (s.drop (atF4 s p))]?=some e∧endI e=true)
     ·rw [if_pos hz] at eB
      rw [eB,if_pos rfl]
      exact⟨_,by omega,fun h=>absurd rfl h,(sM (k2.2 h2) (hz.imp id hcls.1)).weak cut3 rfl rfl rfl⟩
     ·rw [if_neg hz] at eB
      rw [eB,if_neg (by simp)]
      have hz2:=fun h=>hz (.inr (hcls.2 h))
      refine⟨_,?_,fun _=>?_,(sN (k2.2 h2) (fun h=>hz (.inl h)) (fun h=>hz2 (.inl h)) (fun h=>hz2 (.inr h))).weak cut3 rfl rfl rfl⟩
      ·omega
      ·simp only [List.length_take,List.length_drop];omega
    ·have eB:beginsF (s.drop (atF4 s p))=(0,[]):=by rw [hd,e,if_neg h4,if_neg h1,if_neg h2]
     rw [eB,if_pos rfl]
     exact⟨_,hq,fun h=>absurd rfl h,(sB (fun h=>h1 (k1.1 h)) (fun h=>h2 (k2.1 h)) (fun h=>h4 (k4.1 h))).weak cut3 rfl rfl rfl⟩
end Go.Av
end
noncomputable section
namespace Go.Av
open Go Go.Proofs
set_option maxRecDepth 10000
def lexesG (s:List Nat):Nat→Nat→List DV→List DV × Nat × Nat
 |0,_,acc=>(acc,5,s.length)
 |n+1,a,acc=>if atF4 s a=s.length then(acc,5,s.length) else if(beginsF (s.drop (atF4 s a))).1=0 then(acc,3,atF4 s a)
  else lexesG s n (atF4 s a+(beginsF (s.drop (atF4 s a))).2.length) (acc++[lexD (beginsF (s.drop (atF4 s a))).1 (beginsF (s.drop (atF4 s a))).2 (atF4 s a)])
abbrev endLx (r:List DV × Nat × Nat):List DV × Nat × Nat:=if r.2.1=5 then(r.1,0,0) else([],r.2)
theorem lexesG_F (s:List Nat):∀ (n a:Nat) (acc:List DV),a≤s.length→s.length+1≤n+a→endLx (lexesG s n a acc)=lexesF s n a acc∧((lexesG s n a acc).2.1=5∧(lexesG s n a acc).2.2=s.length∨(lexesG s n a acc).2.1=3)
 |0,a,acc,h1,h2=>by omega
 |n+1,a,acc,h1,h2=>by
  have hle:=atF4_le h1
  have hge:a≤atF4 s a:=Nat.le_add_right _ _
  unfold lexesG lexesF
  by_cases hp:atF4 s a=s.length
  ·rw [if_pos hp,if_pos hp];exact⟨rfl,.inl ⟨rfl,rfl⟩⟩
  ·rw [if_neg hp,if_neg hp]
   by_cases hk:(beginsF (s.drop (atF4 s a))).1=0
   ·rw [if_pos hk,if_pos hk];exact⟨rfl,.inr rfl⟩
   ·rw [if_neg hk,if_neg hk]
    obtain⟨c,hc⟩:=get_ok (show atF4 s a<s.length by omega)
    have hd:=drop_cons hc
    have hbl:=beginsF_len (s.drop (atF4 s a))
    rw [List.length_drop] at hbl
    have:1≤(beginsF (s.drop (atF4 s a))).2.length:=by rw [hd] at hk ⊢;exact beginsF_pos hk
    exact lexesG_F s n _ _ (by omega) (by omega)
abbrev eachF (s:List Nat):DV:=.fn (.func 58) [] [.ep [.str s]]
theorem eachC (s:List Nat):KnownCall Try.prog 39 [.str s] (.d (eachF s)):=by
 refine knownE Yo (fnAt Try.func39 (by kernel_rfl) (by kernel_rfl):FnAt _ _ (mkFn Try.f39 [1])) ?_
 repeat refine zA [1] ?_
 refine Yt ?_
 refine⟨trivial,_,_,by rfl,by rfl,Eq.trans (b:=some (.d (eachF s))) (by kernel_rfl) ?_⟩
 rfl
abbrev lxO (tm:PT AV) (nt:Nat) (frz:List Nat) (qs:Array Tmp) (ab bd:Code) (acc:List DV):List Ob :=
 [.box [.d .nilsl],.box [.d (.int .i64 0),.d (.int .i64 0)],.box [.sr 3 3 acc],.room acc.length 3,.raw (.deferred (some [])),.loop tm nt frz qs ab bd .ready none]
abbrev lxE (tm:PT AV) (nt:Nat) (frz:List Nat) (qs:Array Tmp) (ab bd:Code) (acc:List DV) (v:AV) (c a:Nat):List Ob :=
 [.box [v],.box [.d (.int .i64 (c:Nat)),.d (.int .i64 (a:Nat))],.box [.sr 3 3 acc],.room acc.length 3,.raw (.deferred (some [])),.loop tm nt frz qs ab bd .done (some .ret)]
abbrev lxR (tm:PT AV) (nt:Nat) (frz:List Nat) (qs:Array Tmp) (ab bd:Code) (r:List DV × Nat × Nat):List Ob :=
 if r.2.1=5 then lxE tm nt frz qs ab bd r.1 (.sr 3 3 r.1) 0 0 else lxE tm nt frz qs ab bd r.1 (.d .nilsl) r.2.1 r.2.2
set_option maxHeartbeats 4000000 in
theorem each1 (s:List Nat) (hb:∀ c ∈ s,c<256) (hl:s.length≤2000) (tm:PT AV) (nt:Nat) (frz:List Nat) (qs:Array Tmp) (ab bd:Code) (hT:∀ n,ptAll (refA 8 (6+n)) tm=true)
  (hok:∀ (acc:List DV) (p k a:Nat) (t:List Nat),acc.length≤2000→AYield Try.prog 5 [.d (lexD k t a),.d (faultD 0 0)] (lxO tm nt frz qs ab bd acc++[curO s p,.box [.d (.int .i64 (k:Nat)),.d (.str t),.d (.int .i64 (a:Nat))],.box [.d (.int .i64 (0:Nat)),.d (.int .i64 (0:Nat))]]) (.d (.bool true)) (lxO tm nt frz qs ab bd (acc++[lexD k t a])++[curO s p,.box [.d (.int .i64 (k:Nat)),.d (.str t),.d (.int .i64 (a:Nat))],.box [.d (.int .i64 (0:Nat)),.d (.int .i64 (0:Nat))]]))
  (hend:∀ (acc:List DV) (p c a:Nat),(c=5∨c=3)→AYield Try.prog 5 [.d (lexD 0 [] 0),.d (faultD c a)] (lxO tm nt frz qs ab bd acc++[curO s p,.box [.d (.int .i64 (0:Nat)),.d (.str []),.d (.int .i64 (0:Nat))],.box [.d (.int .i64 (c:Nat)),.d (.int .i64 (a:Nat))]]) (.d (.bool false)) (lxR tm nt frz qs ab bd (acc,c,a)++[curO s p,.box [.d (.int .i64 (0:Nat)),.d (.str []),.d (.int .i64 (0:Nat))],.box [.d (.int .i64 (c:Nat)),.d (.int .i64 (a:Nat))]])) :
  ACall Try.prog 58 [.yl 5,.d (.ep [.str s])] (lxO tm nt frz qs ab bd []) (.tup []) (lxR tm nt frz qs ab bd (lexesG s (s.length+1) 0 [])):=by
 obtain⟨R,hR⟩:∃ R,R=lexesG s (s.length+1) 0 []:=⟨_,rfl⟩
 rw [← hR]
 have hlR:(lxR tm nt frz qs ab bd R).length=6:=by unfold lxR;split<;>rfl
 have hrR:(lxR tm nt frz qs ab bd R).all (refOb 6)=true:=by
  unfold lxR
  split<;>(simp only [lxE,List.all_cons,List.all_nil,Bool.and_true];simp only [refOb,hT 0];rfl)
 have hrf:∀ (acc:List DV) (p:Nat),(lxO tm nt frz qs ab bd acc++[curO s p]).all (refOb 7)=true:=fun acc p=>by
  simp only [lxO,List.cons_append,List.nil_append,List.all_cons,List.all_nil,Bool.and_true];simp only [refOb,hT 1];rfl
 refine acallW_of_run Yo (fnAt Try.func58 (by kernel_rfl) (by kernel_rfl):FnAt _ _ (mkFn Try.f58 [])) rfl rfl hlR (by rw [hlR];exact hrR) rfl ?_
 repeat refine zA [] ?_
 refine Run.loopT (fun y:Nat × Nat × List DV=>⟨PT.ofList [(0,.yl 5),(3,.bp 6 0)],lxO tm nt frz qs ab bd y.2.2++[curO s y.2.1],[]⟩) (fun y=>y.2.1≤s.length∧y.2.2.length≤y.2.1∧s.length+1≤y.1+y.2.1∧lexesG s y.1 y.2.1 y.2.2=R) (fun y=>s.length-y.2.1) (s.length+1,0,[]) ⟨Nat.zero_le _,Nat.le_refl _,Nat.le_refl _,hR.symm⟩ (tidy_of (objs:=_) _ 7 (by rfl) rfl (by repeat' (first|exact trivial|refine⟨(Or.inl rfl),?_⟩|refine⟨(Or.inr rfl),?_⟩|fail)) (by repeat' (first|exact trivial|refine⟨rfl,?_⟩|fail)) (hrf [] 0) rfl) (fun y hy=>?_)
 obtain⟨n,a,acc⟩:=y
 obtain⟨hy1,hy2,hy3,hy4⟩:=hy
 simp only at hy1 hy2 hy3 hy4 ⊢
 obtain⟨m,rfl⟩:∃ m,n=m+1:=⟨n-1,by omega⟩
 obtain⟨p',hp1,hp2,cn⟩:=scanAll s a hb (by omega) hy1
 have hle:=atF4_le hy1
 have hge:a≤atF4 s a:=Nat.le_add_right _ _
 unfold lexesG at hy4
 unfold scanT at cn
 generalize atF4 s a=p at cn hle hge hy4 hp2
 by_cases hp:p=s.length
 ·rw [if_pos hp] at cn hy4
  subst hy4
  repeat' (first|refine zW [] ?_|((refine zB [] (fun h=>?_) (fun h=>?_))<;>(first|exact zk h|skip))|refine zX [] ?_|refine oE [6] cn ?_|refine RunOps.yield (by rfl) (by rfl) (hend acc p' 5 s.length (.inl rfl)) (by rfl) (by rfl) ?_|(refine zE ?_;(skip))|(((first|refine Yt ?_|skip);exact⟨trivial,_,_,rfl,rfl,.refl,(by repeat' (first|exact trivial|refine⟨.refl,?_⟩|refine⟨.gone,?_⟩|refine⟨.box (by repeat' (first|exact trivial|refine⟨.inr rfl,?_⟩|refine⟨.inl rfl,?_⟩)),?_⟩))⟩))|((exfalso;first|(simp at h<;>fail)|(simp at h;omega)))|fail)
 ·rw [if_neg hp] at cn hy4
  obtain⟨c,hc⟩:=get_ok (show p<s.length by omega)
  have hd:=drop_cons hc
  have hbl:=beginsF_len (s.drop p)
  have hbp:(beginsF (s.drop p)).1≠0→1≤(beginsF (s.drop p)).2.length:=by rw [hd];exact beginsF_pos
  rw [List.length_drop] at hbl
  generalize beginsF (s.drop p)=b at cn hbl hbp hy4 hp2
  obtain⟨k,t⟩:=b
  simp only at cn hbl hbp hy4 hp2
  by_cases hk:k=0
  ·rw [if_pos hk] at cn hy4
   subst hy4
   repeat' (first|refine zW [] ?_|((refine zB [] (fun h=>?_) (fun h=>?_))<;>(first|exact zk h|skip))|refine zX [] ?_|refine oE [6] cn ?_|refine RunOps.yield (by rfl) (by rfl) (hend acc p' 3 p (.inr rfl)) (by rfl) (by rfl) ?_|(refine zE ?_;(skip))|(((first|refine Yt ?_|skip);exact⟨trivial,_,_,rfl,rfl,.refl,(by repeat' (first|exact trivial|refine⟨.refl,?_⟩|refine⟨.gone,?_⟩|refine⟨.box (by repeat' (first|exact trivial|refine⟨.inr rfl,?_⟩|refine⟨.inl rfl,?_⟩)),?_⟩))⟩))|((exfalso;first|(simp at h<;>fail)|(simp at h;omega)))|fail)
  ·rw [if_neg hk] at cn hy4
   have ht:=hbp hk
   have hp':=hp2 hk
   subst hp'
   repeat' (first|refine zW [] ?_|((refine zB [] (fun h=>?_) (fun h=>?_))<;>(first|exact zk h|skip))|refine zX [] ?_|refine oE [6] cn ?_|refine RunOps.yield (by rfl) (by rfl) (hok acc (p+t.length) k p t (by omega)) (by rfl) (by rfl) ?_|(refine zE ?_;(skip))|((exfalso;first|(simp at h<;>fail)|(simp at h;omega)))|fail)
   exact⟨(m,p+t.length,acc++[lexD k t p]),⟨by simp only<;>omega,by simp only [List.length_append,List.length_cons,List.length_nil]<;>omega,by simp only<;>omega,hy4⟩,by simp only<;>omega,tidy_of (objs:=_) _ 7 (by rfl) rfl (by repeat' (first|exact trivial|refine⟨(Or.inl rfl),?_⟩|refine⟨(Or.inr rfl),?_⟩|fail)) (by repeat' (first|exact trivial|refine⟨rfl,?_⟩|fail)) (hrf _ _) rfl⟩
end Go.Av
end
noncomputable section
namespace Go.Av
open Go Go.Proofs
set_option maxRecDepth 10000
theorem Run.rangeLex {nt m:Nat} {frz:List Nat} {K:Ex→S→Prop} {tm:PT AV} {dl:List Dl} {f:Operand} {qs:Array Tmp} {ab bd:Code} (s:List Nat) (hb:∀ c ∈ s,c<256) (hl:s.length≤2000) (hf:rd tm f=.d (eachF s)) (hT:∀ n,ptAll (refA 8 (6+n)) tm=true)
  (hok:∀ (acc:List DV) (p k a:Nat) (t:List Nat),acc.length≤2000→AYield Try.prog 5 [.d (lexD k t a),.d (faultD 0 0)] (lxO tm nt frz qs ab bd acc++[curO s p,.box [.d (.int .i64 (k:Nat)),.d (.str t),.d (.int .i64 (a:Nat))],.box [.d (.int .i64 (0:Nat)),.d (.int .i64 (0:Nat))]]) (.d (.bool true)) (lxO tm nt frz qs ab bd (acc++[lexD k t a])++[curO s p,.box [.d (.int .i64 (k:Nat)),.d (.str t),.d (.int .i64 (a:Nat))],.box [.d (.int .i64 (0:Nat)),.d (.int .i64 (0:Nat))]]))
  (hend:∀ (acc:List DV) (p c a:Nat),(c=5∨c=3)→AYield Try.prog 5 [.d (lexD 0 [] 0),.d (faultD c a)] (lxO tm nt frz qs ab bd acc++[curO s p,.box [.d (.int .i64 (0:Nat)),.d (.str []),.d (.int .i64 (0:Nat))],.box [.d (.int .i64 (c:Nat)),.d (.int .i64 (a:Nat))]]) (.d (.bool false)) (lxR tm nt frz qs ab bd (acc,c,a)++[curO s p,.box [.d (.int .i64 (0:Nat)),.d (.str []),.d (.int .i64 (0:Nat))],.box [.d (.int .i64 (c:Nat)),.d (.int .i64 (a:Nat))]]))
  (hk:∀ (acc:List DV) (v:AV) (c a:Nat),(resL (lexemesF s)=.tup [.d (.sl 3 acc),.d (faultD c a)]∧v=.sr 3 3 acc∨resL (lexemesF s)=.tup [.d (.sl 3 []),.d (faultD c a)]∧v=.d .nilsl) →
   K .ret ⟨tm,[.box [v],.box [.d (.int .i64 (c:Nat)),.d (.int .i64 (a:Nat))],.box [.sr 3 3 acc],.room acc.length 3,.raw (.deferred (some [])),.loop tm nt frz qs ab bd .exhausted (some .ret)],.mark 4 :: dl⟩) :
  Run Try.prog nt m none (.rangeFunc f qs ab bd) ⟨tm,[.box [.d .nilsl],.box [.d (.int .i64 0),.d (.int .i64 0)],.box [.sr 3 3 []],.room 0 3],dl⟩ K:=by
 have hm:Try.prog.follows .mixedOrders=true:=by kernel_rfl
 have hA:=each1 s hb hl tm nt frz qs ab bd hT hok hend
 have hF:lexemesF s=lexesF s (s.length+1) 0 []:=by unfold lexemesF;rw [if_neg (by omega)]
 obtain⟨h1,h2⟩:=lexesG_F s (s.length+1) 0 [] (Nat.zero_le _) (Nat.le_refl _)
 rw [← hF] at h1
 generalize lexesG s (s.length+1) 0 []=R at hA h1 h2
 obtain⟨acc,c,a⟩:=R
 simp only at h1 h2
 by_cases hc:c=5
 ·subst hc
  rw [show lxR tm nt frz qs ab bd (acc,5,a)=lxE tm nt frz qs ab bd acc (.sr 3 3 acc) 0 0 from if_pos rfl] at hA
  rw [show endLx (acc,5,a)=(acc,0,0) from if_pos rfl] at h1
  exact Run.range Yo hm hf hA rfl (by rfl) (by simp) (hk acc (.sr 3 3 acc) 0 0 (.inl ⟨by rw [← h1],rfl⟩))
 ·rw [show lxR tm nt frz qs ab bd (acc,c,a)=lxE tm nt frz qs ab bd acc (.d .nilsl) c a from if_neg hc] at hA
  rw [show endLx (acc,c,a)=([],c,a) from if_neg hc] at h1
  exact Run.range Yo hm hf hA rfl (by rfl) (by simp) (hk acc (.d .nilsl) c a (.inr ⟨by rw [← h1],rfl⟩))
set_option maxHeartbeats 8000000 in
theorem lexemesP (s:List Nat) (hb:∀ c ∈ s,c<256) (hl:s.length≤1048576):KnownCall Try.prog 13 [.str s] (resL (lexemesF s)):=by
 by_cases h2:2000<s.length
 ·unfold lexemesF
  rw [if_pos h2]
  refine knownE2 Yo (fnAt Try.func13 (by kernel_rfl) (by kernel_rfl):FnAt _ _ (mkFn Try.f13 [22])) ?_
  repeat' (first|refine zW [22] ?_|((refine zB [22] (fun h=>?_) (fun h=>?_))<;>(first|exact zk h|skip))|refine zX [22] ?_|(refine Yt ?_;refine r2 ?_;first|done|(exact .tup2 .nil .refl))|((exfalso;first|(simp at h<;>fail)|(simp at h;omega)))|fail)
 ·have ce:=eachC s
  obtain⟨R,hR⟩:∃ R,R=resL (lexemesF s):=⟨_,rfl⟩
  rw [← hR]
  refine knownE2 Yo (fnAt Try.func13 (by kernel_rfl) (by kernel_rfl):FnAt _ _ (mkFn Try.f13 [22])) ?_
  repeat' (first|refine zW [22] ?_|((refine zB [22] (fun h=>?_) (fun h=>?_))<;>(first|exact zk h|skip))|refine zX [22] ?_|refine zC (ce) ?_|(refine Yt ?_;refine r2 ?_;first|done|(skip))|((exfalso;first|(simp at h<;>fail)|(simp at h;omega)))|fail)
  refine Run.cellRoom 2 0 3 ?_
  refine Run.tidy (s':=⟨PT.ofList [(2,.bp 0 0),(3,.bp 1 0),(4,.bp 2 0),(12,.d (eachF s))],[.box [.d .nilsl],.box [.d (.int .i64 0),.d (.int .i64 0)],.box [.sr 3 3 []],.room 0 3],[]⟩) (tidy_of (objs:=_) _ 4 (by rfl) rfl (by repeat' (first|exact trivial|refine⟨(Or.inl rfl),?_⟩|refine⟨(Or.inr rfl),?_⟩|fail)) (by repeat' (first|exact trivial|refine⟨rfl,?_⟩|fail)) rfl rfl) ?_
  refine Run.rangeLex (frz:=[22]) s hb (by omega) (by rfl) (fun n=>?_) (fun acc p k a t hal=>?_) (fun acc p c a hc=>?_) (fun acc v c a hk=>?_)
  ·rw [show 6+n=n+6 from by omega];rfl
  ·unfold lxO
   rw [show(acc++[lexD k t a]).length=acc.length+1 from by simp]
   refine ayield_of_run (i:=5) (by rfl) (by rfl) (by rfl) ?_
   repeat refine zA [22] ?_
   refine⟨rfl,_,_,_,_,_,_,_,by rfl,?_⟩
   refine Run.less ?_
   repeat' (first|refine zW [22] ?_|((refine zB [22] (fun h=>?_) (fun h=>?_))<;>(first|exact zk h|skip))|refine zX [22] ?_|refine oX (frz:=[22]) Yo ?_ (hv:=app1) (hf:=rfl) (he:=rfl)|refine eX ?_ (hv:=app1) (hf:=rfl) (he:=rfl)|refine oX (frz:=[22]) Yo ?_ (hv:=app0) (hf:=rfl) (he:=rfl)|refine eX ?_ (hv:=app0) (hf:=rfl) (he:=rfl)|(exact⟨rfl,_,less_of [] 9 rfl (by rfl) trivial trivial (by kernel_rfl) rfl,_,_,_,_,_,_,_,_,by rfl,rfl,by rfl⟩)|((exfalso;(simp_all<;>fail)))|fail)
  ·rcases hc with rfl|rfl
   ·rw [show lxR _ _ _ _ _ _ (acc,5,a)=lxE _ _ _ _ _ _ acc (.sr 3 3 acc) 0 0 from if_pos rfl]
    refine ayield_of_run (i:=5) (by rfl) (by rfl) (by rfl) ?_
    repeat refine zA [22] ?_
    refine⟨rfl,_,_,_,_,_,_,_,by rfl,?_⟩
    refine Run.less ?_
    repeat' (first|refine zW [22] ?_|((refine zB [22] (fun h=>?_) (fun h=>?_))<;>(first|exact zk h|skip))|refine zX [22] ?_|((first|refine Yt ?_|skip);exact⟨rfl,_,less_of [] 9 rfl (by rfl) trivial trivial (by kernel_rfl) rfl,_,_,_,_,_,_,_,_,by rfl,rfl,by rfl⟩)|((exfalso;(simp_all<;>fail)))|fail)
   ·rw [show lxR _ _ _ _ _ _ (acc,3,a)=lxE _ _ _ _ _ _ acc (.d .nilsl) 3 a from if_neg (show ¬ (3:Nat)=5 by decide)]
    refine ayield_of_run (i:=5) (by rfl) (by rfl) (by rfl) ?_
    repeat refine zA [22] ?_
    refine⟨rfl,_,_,_,_,_,_,_,by rfl,?_⟩
    refine Run.less ?_
    repeat' (first|refine zW [22] ?_|((refine zB [22] (fun h=>?_) (fun h=>?_))<;>(first|exact zk h|skip))|refine zX [22] ?_|((first|refine Yt ?_|skip);exact⟨rfl,_,less_of [] 9 rfl (by rfl) trivial trivial (by kernel_rfl) rfl,_,_,_,_,_,_,_,_,by rfl,rfl,by rfl⟩)|((exfalso;(simp_all<;>fail)))|fail)
  ·rcases hk with⟨h1,rfl⟩|⟨h1,rfl⟩
   ·rw [hR,h1]
    refine r2 ?_
    exact .refl
   ·rw [hR,h1]
    refine r2 ?_
    exact .tup2 .nil .refl
end Go.Av
end
noncomputable section
namespace Go.Av
open Go Go.Proofs
set_option maxRecDepth 10000
theorem mixedOK:Try.prog.follows .mixedOrders=true:=by kernel_rfl
theorem deferN (objs:List Ob):ADefer Try.prog 14 [.bp 0 0,.bp 1 0] none objs none objs :=
 evDefer_ok Yo H0_ok mixedOK Ft_ok (n:=40) (by rfl)
abbrev pX (s:List Nat) (p:PS):List Ob:=[oZX,oZF,.map (kvN p.names),.box [.d (.str s),.d (.sl 3 (p.l.map encL)),.d (.int .i64 p.x.k),.sr 4 1 (p.x.tokens.map .str),.d (.str p.x.sep),.d (.str p.x.start),.sr 5 2 (p.x.rules.map encR),.mp 2,.sr 6 2 (p.uses.map encU),.d (.int .i64 (p.total:Nat))],.room p.x.tokens.length 1,.room p.x.rules.length 2,.room p.uses.length 2]
theorem deferP (e:Fa):ADefer Try.prog 14 [.bp 0 0,.bp 1 0] (some (refD e)) [oZX,oZF,.gone,.gone,.gone,.gone,.gone] none
  [oZX,.box [.d (.int .i64 (e.1:Nat)),.d (.int .i64 (e.2:Nat))],.gone,.gone,.gone,.gone,.gone,.box [.d (.int .i64 (e.1:Nat)),.d (.int .i64 (e.2:Nat))]] :=
 evDefer_ok Yo H0_ok mixedOK Ft_ok (n:=40) (by rfl)
abbrev fnsP:DV:=.agg [.fn (.func 15) [] [],.fn (.func 16) [] [],.fn (.func 17) [] [],.fn (.func 18) [] [],.fn (.func 19) [] [],.fn (.func 20) [] []]
abbrev dlP:List Dl:=[.call 14 [.bp 0 0,.bp 1 0]]
set_option maxHeartbeats 8000000 in
theorem parseP (s:List Nat) (ls:List Lx) (hb:∀ c ∈ s,c<256) (hs:s.length≤1048576) (hl:LsB ls) (hn:NumL ls) (hlex:lexemesF s=(ls.map encL,0,0)) :
  KnownCall Try.prog 6 [.str s] (resX (resP (readP s ls))):=by
 have cl:=lexemesP s hb hs
 rw [hlex] at cl
 rw [readP_rest]
 obtain⟨R,hR⟩:∃ R,R=restP s 6 0 ⟨ls,src0,[],[],0⟩:=⟨_,rfl⟩
 rw [← hR]
 refine knownED Yo (fnAt Try.func6 (by kernel_rfl) (by kernel_rfl):FnAt _ _ (mkFn Try.f6 [])) ?_
 repeat' (first|refine zW [] ?_|((refine zB [] (fun h=>?_) (fun h=>?_))<;>(first|exact zk h|skip))|refine zX [] ?_|refine zC (cl) ?_|refine RunOps.deferOp (by rfl) rfl (by rfl) ?_|(refine zE ?_;(skip))|((exfalso;first|(simp at h<;>fail)|(simp at h;omega)))|fail)
 refine Run.tidy (s':=⟨PT.ofList [(2,.bp 0 0),(3,.bp 1 0),(5,.bp 3 0),(24,.d fnsP),(25,.d (.int .i64 ((0:Nat):Int)))],[oZX,oZF,.map [],.box [.d (.str s),.d (.sl 3 (ls.map encL)),.d (.int .i64 0),.d .nilsl,.d (.str []),.d (.str []),.d .nilsl,.mp 2,.d .nilsl,.d (.int .i64 0)]],dlP⟩) (tidy_of (objs:=_) _ 4 (by rfl) rfl (by repeat' (first|exact trivial|refine⟨(Or.inl rfl),?_⟩|refine⟨(Or.inr rfl),?_⟩|fail)) (by repeat' (first|exact trivial|refine⟨rfl,?_⟩|fail)) rfl rfl) ?_
 refine Run.cellRoom 3 3 1 ?_
 refine Run.cellRoom 3 6 2 ?_
 refine Run.cellRoom 3 8 2 ?_
 have j0:JP ls ⟨ls,src0,[],[],0⟩:=⟨fun _ h=>h,Nat.le_refl _,by simp,by simp,by simp,by simp⟩
 refine Run.loopT (fun y:Nat × Nat × PS=>⟨PT.ofList [(2,.bp 0 0),(3,.bp 1 0),(5,.bp 3 0),(24,.d fnsP),(25,.d (.int .i64 (y.2.1:Nat)))],pX s y.2.2,dlP⟩)
  (fun y=>y.1+y.2.1=6∧JP ls y.2.2∧(y.2.1=0→NumL y.2.2.l)∧restP s y.1 y.2.1 y.2.2=R) (fun y=>y.1) (6,0,⟨ls,src0,[],[],0⟩) ⟨rfl,j0,fun _=>hn,hR.symm⟩ (tidy_of (objs:=_) _ 7 (by rfl) rfl (by repeat' (first|exact trivial|refine⟨(Or.inl rfl),?_⟩|refine⟨(Or.inr rfl),?_⟩|fail)) (by repeat' (first|exact trivial|refine⟨rfl,?_⟩|fail)) rfl rfl) (fun y hy=>?_)
 obtain⟨n,k,p⟩:=y
 obtain⟨h1,h2,h3,h4⟩:=hy
 simp only at h1 h2 h3 h4 ⊢
 have pb:=h2.pb hl
 rcases(show k=0∨k=1∨k=2∨k=3∨k=4∨k=5∨k=6 by omega) with rfl|rfl|rfl|rfl|rfl|rfl|rfl
 ·obtain rfl:n=5+1:=by omega
  have c0:=lookC s p pb (h3 rfl)
  have h4:(stepP s 0 p).bind (fun p=>restP s 5 1 p)=R:=h4
  cases hq:stepP s 0 p with
  |error e =>
   rw [hq] at h4
   rw [show lookP s p=.error e from hq] at c0
   simp only [Except.bind] at h4
   subst h4
   repeat' (first|refine zW [] ?_|((refine zB [] (fun h=>?_) (fun h=>?_))<;>(first|exact zk h|skip))|refine zX [] ?_|refine oEP [3,4,5,2,6] c0 ?_|(refine zE ?_;(skip))|((exact endD rfl (.inr ⟨_,_,rfl,deferP e⟩) (by rfl) (by rfl) (.tup2 srcZ_to .refl)))|((exfalso;(simp at h<;>omega)))|fail)
  |ok q =>
   rw [hq] at h4
   rw [show lookP s p=.ok q from hq] at c0
   have h4:restP s 5 1 q=R:=h4
   have jq:=h2.stepL hq
   repeat' (first|refine zW [] ?_|((refine zB [] (fun h=>?_) (fun h=>?_))<;>(first|exact zk h|skip))|refine zX [] ?_|refine oE [3,4,5,2,6] c0 ?_|(refine zE ?_;(skip))|(exact⟨(5,1,q),⟨rfl,jq,fun h=>(nomatch h),h4⟩,Nat.lt_succ_self _,(tidy_of (objs:=_) _ 7 (by rfl) rfl (by repeat' (first|exact trivial|refine⟨(Or.inl rfl),?_⟩|refine⟨(Or.inr rfl),?_⟩|fail)) (by repeat' (first|exact trivial|refine⟨rfl,?_⟩|fail)) rfl rfl)⟩)|((exfalso;(simp at h<;>omega)))|fail)
 ·obtain rfl:n=4+1:=by omega
  have c0:=tokensC s p pb h2.toks
  have h4:(stepP s 1 p).bind (fun p=>restP s 4 2 p)=R:=h4
  cases hq:stepP s 1 p with
  |error e =>
   rw [hq] at h4
   rw [show tokensP s p=.error e from hq] at c0
   simp only [Except.bind] at h4
   subst h4
   repeat' (first|refine zW [] ?_|((refine zB [] (fun h=>?_) (fun h=>?_))<;>(first|exact zk h|skip))|refine zX [] ?_|refine oEP [3,4,5,2,6] c0 ?_|(refine zE ?_;(skip))|((exact endD rfl (.inr ⟨_,_,rfl,deferP e⟩) (by rfl) (by rfl) (.tup2 srcZ_to .refl)))|((exfalso;(simp at h<;>omega)))|fail)
  |ok q =>
   rw [hq] at h4
   rw [show tokensP s p=.ok q from hq] at c0
   have h4:restP s 4 2 q=R:=h4
   have jq:=h2.stepL hq
   repeat' (first|refine zW [] ?_|((refine zB [] (fun h=>?_) (fun h=>?_))<;>(first|exact zk h|skip))|refine zX [] ?_|refine oE [3,4,5,2,6] c0 ?_|(refine zE ?_;(skip))|(exact⟨(4,2,q),⟨rfl,jq,fun h=>(nomatch h),h4⟩,Nat.lt_succ_self _,(tidy_of (objs:=_) _ 7 (by rfl) rfl (by repeat' (first|exact trivial|refine⟨(Or.inl rfl),?_⟩|refine⟨(Or.inr rfl),?_⟩|fail)) (by repeat' (first|exact trivial|refine⟨rfl,?_⟩|fail)) rfl rfl)⟩)|((exfalso;(simp at h<;>omega)))|fail)
 ·obtain rfl:n=3+1:=by omega
  have c0:=sepC s p pb
  have h4:(stepP s 2 p).bind (fun p=>restP s 3 3 p)=R:=h4
  cases hq:stepP s 2 p with
  |error e =>
   rw [hq] at h4
   rw [show sepQ s p=.error e from hq] at c0
   simp only [Except.bind] at h4
   subst h4
   repeat' (first|refine zW [] ?_|((refine zB [] (fun h=>?_) (fun h=>?_))<;>(first|exact zk h|skip))|refine zX [] ?_|refine oEP [3,4,5,2,6] c0 ?_|(refine zE ?_;(skip))|((exact endD rfl (.inr ⟨_,_,rfl,deferP e⟩) (by rfl) (by rfl) (.tup2 srcZ_to .refl)))|((exfalso;(simp at h<;>omega)))|fail)
  |ok q =>
   rw [hq] at h4
   rw [show sepQ s p=.ok q from hq] at c0
   have h4:restP s 3 3 q=R:=h4
   have jq:=h2.stepL hq
   repeat' (first|refine zW [] ?_|((refine zB [] (fun h=>?_) (fun h=>?_))<;>(first|exact zk h|skip))|refine zX [] ?_|refine oE [3,4,5,2,6] c0 ?_|(refine zE ?_;(skip))|(exact⟨(3,3,q),⟨rfl,jq,fun h=>(nomatch h),h4⟩,Nat.lt_succ_self _,(tidy_of (objs:=_) _ 7 (by rfl) rfl (by repeat' (first|exact trivial|refine⟨(Or.inl rfl),?_⟩|refine⟨(Or.inr rfl),?_⟩|fail)) (by repeat' (first|exact trivial|refine⟨rfl,?_⟩|fail)) rfl rfl)⟩)|((exfalso;(simp at h<;>omega)))|fail)
 ·obtain rfl:n=2+1:=by omega
  have c0:=startC s p pb
  have h4:(stepP s 3 p).bind (fun p=>restP s 2 4 p)=R:=h4
  cases hq:stepP s 3 p with
  |error e =>
   rw [hq] at h4
   rw [show startP s p=.error e from hq] at c0
   simp only [Except.bind] at h4
   subst h4
   repeat' (first|refine zW [] ?_|((refine zB [] (fun h=>?_) (fun h=>?_))<;>(first|exact zk h|skip))|refine zX [] ?_|refine oEP [3,4,5,2,6] c0 ?_|(refine zE ?_;(skip))|((exact endD rfl (.inr ⟨_,_,rfl,deferP e⟩) (by rfl) (by rfl) (.tup2 srcZ_to .refl)))|((exfalso;(simp at h<;>omega)))|fail)
  |ok q =>
   rw [hq] at h4
   rw [show startP s p=.ok q from hq] at c0
   have h4:restP s 2 4 q=R:=h4
   have jq:=h2.stepL hq
   repeat' (first|refine zW [] ?_|((refine zB [] (fun h=>?_) (fun h=>?_))<;>(first|exact zk h|skip))|refine zX [] ?_|refine oE [3,4,5,2,6] c0 ?_|(refine zE ?_;(skip))|(exact⟨(2,4,q),⟨rfl,jq,fun h=>(nomatch h),h4⟩,Nat.lt_succ_self _,(tidy_of (objs:=_) _ 7 (by rfl) rfl (by repeat' (first|exact trivial|refine⟨(Or.inl rfl),?_⟩|refine⟨(Or.inr rfl),?_⟩|fail)) (by repeat' (first|exact trivial|refine⟨rfl,?_⟩|fail)) rfl rfl)⟩)|((exfalso;(simp at h<;>omega)))|fail)
 ·obtain rfl:n=1+1:=by omega
  have c0:=rulesC s p pb h2.rules h2.total
  have h4:(stepP s 4 p).bind (fun p=>restP s 1 5 p)=R:=h4
  cases hq:stepP s 4 p with
  |error e =>
   rw [hq] at h4
   rw [show rulesP s (p.l.length+1) true p=.error e from hq] at c0
   simp only [Except.bind] at h4
   subst h4
   repeat' (first|refine zW [] ?_|((refine zB [] (fun h=>?_) (fun h=>?_))<;>(first|exact zk h|skip))|refine zX [] ?_|refine oEP [3,4,5,2,6] c0 ?_|(refine zE ?_;(skip))|((exact endD rfl (.inr ⟨_,_,rfl,deferP e⟩) (by rfl) (by rfl) (.tup2 srcZ_to .refl)))|((exfalso;(simp at h<;>omega)))|fail)
  |ok q =>
   rw [hq] at h4
   rw [show rulesP s (p.l.length+1) true p=.ok q from hq] at c0
   have h4:restP s 1 5 q=R:=h4
   have jq:=h2.stepL hq
   repeat' (first|refine zW [] ?_|((refine zB [] (fun h=>?_) (fun h=>?_))<;>(first|exact zk h|skip))|refine zX [] ?_|refine oE [3,4,5,2,6] c0 ?_|(refine zE ?_;(skip))|(exact⟨(1,5,q),⟨rfl,jq,fun h=>(nomatch h),h4⟩,Nat.lt_succ_self _,(tidy_of (objs:=_) _ 7 (by rfl) rfl (by repeat' (first|exact trivial|refine⟨(Or.inl rfl),?_⟩|refine⟨(Or.inr rfl),?_⟩|fail)) (by repeat' (first|exact trivial|refine⟨rfl,?_⟩|fail)) rfl rfl)⟩)|((exfalso;(simp at h<;>omega)))|fail)
 ·obtain rfl:n=0+1:=by omega
  have c0:=usedC s p pb
  have h4:(stepP s 5 p).bind (fun p=>restP s 0 6 p)=R:=h4
  cases hq:stepP s 5 p with
  |error e =>
   rw [hq] at h4
   rw [show usedP p=.error e from hq] at c0
   simp only [Except.bind] at h4
   subst h4
   repeat' (first|refine zW [] ?_|((refine zB [] (fun h=>?_) (fun h=>?_))<;>(first|exact zk h|skip))|refine zX [] ?_|refine oEP [3,4,5,2,6] c0 ?_|(refine zE ?_;(skip))|((exact endD rfl (.inr ⟨_,_,rfl,deferP e⟩) (by rfl) (by rfl) (.tup2 srcZ_to .refl)))|((exfalso;(simp at h<;>omega)))|fail)
  |ok q =>
   rw [hq] at h4
   rw [show usedP p=.ok q from hq] at c0
   have h4:restP s 0 6 q=R:=h4
   have jq:=h2.stepL hq
   repeat' (first|refine zW [] ?_|((refine zB [] (fun h=>?_) (fun h=>?_))<;>(first|exact zk h|skip))|refine zX [] ?_|refine oE [3,4,5,2,6] c0 ?_|(refine zE ?_;(skip))|(exact⟨(0,6,q),⟨rfl,jq,fun h=>(nomatch h),h4⟩,Nat.lt_succ_self _,(tidy_of (objs:=_) _ 7 (by rfl) rfl (by repeat' (first|exact trivial|refine⟨(Or.inl rfl),?_⟩|refine⟨(Or.inr rfl),?_⟩|fail)) (by repeat' (first|exact trivial|refine⟨rfl,?_⟩|fail)) rfl rfl)⟩)|((exfalso;(simp at h<;>omega)))|fail)
 ·obtain rfl:n=0:=by omega
  have h4:(.ok p:Except Fa PS)=R:=h4
  subst h4
  repeat' (first|refine zW [] ?_|((refine zB [] (fun h=>?_) (fun h=>?_))<;>(first|exact zk h|skip))|refine zX [] ?_|(refine zE ?_;(skip))|((refine Yt ?_;exact endD rfl (.inr ⟨_,_,rfl,deferN _⟩) (by rfl) (by rfl) (.tup2 .refl .refl)))|((exfalso;(simp at h<;>omega)))|fail)
end Go.Av
end
noncomputable section
namespace Go.Av
open Go Go.Proofs
set_option maxRecDepth 10000
def smL {α:Type} (p:α→α→Bool):List α→List α→Bool
 |[],[]=>true
 |x :: a,y :: b=>p x y && smL p a b
 |_,_=>false
theorem smL_len {α:Type} {p:α→α→Bool}:∀ {a b:List α},a.length≠b.length→smL p a b=false
 |[],[],h=>absurd rfl h
 |[],_ :: _,_=>rfl
 |_ :: _,[],_=>rfl
 |x :: a,y :: b,h=>by
  have:smL p a b=false:=smL_len (by simpa using h)
  simp [smL,this]
theorem smL_at {α:Type} {p:α→α→Bool}:∀ {a b:List α} {i:Nat} {x y:α},a[i]?=some x→b[i]?=some y→p x y=false→smL p a b=false
 |[],_,i,x,y,h,_,_=>by simp at h
 |_ :: _,[],i,x,y,_,h,_=>by simp at h
 |u :: a,v :: b,0,x,y,h,k,hp=>by simp at h k;subst h k;simp [smL,hp]
 |u :: a,v :: b,i+1,x,y,h,k,hp=>by
  have:=smL_at (p:=p) (a:=a) (b:=b) (i:=i) (by simpa using h) (by simpa using k) hp
  simp [smL,this]
theorem smL_all {α:Type} {p:α→α→Bool}:∀ {a b:List α},a.length=b.length→(∀ (j:Nat) x y,a[j]?=some x→b[j]?=some y→p x y=true)→smL p a b=true
 |[],[],_,_=>rfl
 |[],_ :: _,h,_=>by simp at h
 |_ :: _,[],h,_=>by simp at h
 |x :: a,y :: b,h,hp=>by
  have h1:=hp 0 x y rfl rfl
  have h2:=smL_all (p:=p) (a:=a) (b:=b) (by simpa using h) (fun j u v hu hv=>hp (j+1) u v (by simpa using hu) (by simpa using hv))
  simp [smL,h1,h2]
theorem smL_self {α:Type} {p:α→α→Bool} {a:List α} (h:∀ x ∈ a,p x x=true):smL p a a=true :=
 smL_all rfl fun j x y hx hy=>by rw [hx] at hy;cases hy;exact h x (List.mem_of_getElem? hx)
theorem upTo_succ {α:Type} {a b:List α} {p:α→α→Bool} {i:Nat} {x y:α} (hi:∀ j:Nat,j<i→∀ u v,a[j]?=some u→b[j]?=some v→p u v=true) (hx:a[i]?=some x) (hy:b[i]?=some y) (h:p x y=true) :
  ∀ j:Nat,j<i+1→∀ u v,a[j]?=some u→b[j]?=some v→p u v=true:=by
 intro j hj u v hu hv
 rcases Nat.lt_or_ge j i with h1|h1
 ·exact hi j h1 u v hu hv
 ·have:j=i:=by omega
  subst this
  rw [hx] at hu;rw [hy] at hv;cases hu;cases hv;exact h
theorem upTo_all {α:Type} {a b:List α} {p:α→α→Bool} {i:Nat} (hl:a.length=b.length) (hge:a.length≤i) (hi:∀ j:Nat,j<i→∀ u v,a[j]?=some u→b[j]?=some v→p u v=true):smL p a b=true :=
 smL_all hl fun j u v hu hv=>hi j (Nat.lt_of_lt_of_le (List.getElem?_eq_some_iff.1 hu).1 hge) u v hu hv
def smR (x y:SRule):Bool:=decide (x.name=y.name) && decide (x.alts=y.alts)
def smX (a b:Src):Bool:=decide (a.k=b.k) && decide (a.sep=b.sep) && decide (a.start=b.start) && decide (a.tokens=b.tokens) && smL smR a.rules b.rules
theorem smR_self (x:SRule):smR x x=true:=by simp [smR]
theorem smX_self (a:Src):smX a a=true:=by simp [smX,smL_self fun x _=>smR_self x]
theorem textsR8 (a b:List (List Nat)) (hal:a.length≤1099511627776):KnownCall Try.prog 37 [strs a,strs b] (.d (.bool (decide (a=b)))):=by
 by_cases hlen:a.length=b.length
 ·refine knownE Yo (fnAt Try.func37 (by kernel_rfl) (by kernel_rfl):FnAt _ _ (mkFn Try.f37 [])) ?_
  repeat' (first|refine zW [] ?_|((refine zB [] (fun h=>?_) (fun h=>?_))<;>(first|exact zk h|skip))|refine zX [] ?_|(refine zE ?_;(skip))|((exfalso;first|(simp_all<;>fail)|(simp_all;omega)))|fail)
  refine Run.loop (fun i:Nat=>⟨PT.ofList [(0,.d (strs a)),(1,.d (strs b)),(5,.d (.int .i64 i))],[],[]⟩) (fun i=>i≤a.length∧a.take i=b.take i) (fun i=>a.length-i) 0 ⟨Nat.zero_le _,rfl⟩ (weak_of (by repeat' (first|exact trivial|refine⟨rfl,?_⟩))) (fun i hi=>?_)
  rcases Nat.lt_or_ge i a.length with hlt|hge
  ·obtain⟨x,hx⟩:=get_ok hlt
   obtain⟨y,hy⟩:=get_ok (show i<b.length by omega)
   by_cases hxy:x=y
   ·subst hxy
    have ht:a.take (i+1)=b.take (i+1):=by rw [List.take_add_one,List.take_add_one,hi.2,hx,hy]
    repeat' (first|refine zW [] ?_|((refine zB [] (fun h=>?_) (fun h=>?_))<;>(first|exact zk h|skip))|refine zX [] ?_|refine oX (frz:=[]) (v:=.d (.ep [.str x])) Yo ?_ (hf:=(by first|(simp [inB]<;>fail)|(simp [inB];omega))) (he:=(by first|(simp [List.getD_eq_getElem?_getD,cellsD,hx]<;>fail)|fail))|refine eX (v:=.d (.ep [.str x])) ?_ (hf:=(by first|(simp [inB]<;>fail)|(simp [inB];omega))) (he:=(by first|(simp [List.getD_eq_getElem?_getD,cellsD,hx]<;>fail)|fail))|refine oX (frz:=[]) (v:=.d (.ep [.str x])) Yo ?_ (hf:=(by first|(simp [inB]<;>fail)|(simp [inB];omega))) (he:=(by first|(simp [List.getD_eq_getElem?_getD,cellsD,hy]<;>fail)|fail))|refine eX (v:=.d (.ep [.str x])) ?_ (hf:=(by first|(simp [inB]<;>fail)|(simp [inB];omega))) (he:=(by first|(simp [List.getD_eq_getElem?_getD,cellsD,hy]<;>fail)|fail))|(refine zE ?_;(skip))|(exact⟨i+1,⟨hlt,ht⟩,by omega,weak_of (by repeat' (first|exact trivial|refine⟨rfl,?_⟩|refine⟨(inc_get (k:=i) (by kernel_rfl) (by omega)),?_⟩))⟩)|((exfalso;first|(simp_all<;>fail)|(simp_all;omega)))|fail)
   ·have hne:a≠b:=fun e=>by subst e;rw [hx] at hy;cases hy;exact hxy rfl
    rw [decide_eq_false hne]
    repeat' (first|refine zW [] ?_|((refine zB [] (fun h=>?_) (fun h=>?_))<;>(first|exact zk h|skip))|refine zX [] ?_|refine oX (frz:=[]) (v:=.d (.ep [.str x])) Yo ?_ (hf:=(by first|(simp [inB]<;>fail)|(simp [inB];omega))) (he:=(by first|(simp [List.getD_eq_getElem?_getD,cellsD,hx]<;>fail)|fail))|refine eX (v:=.d (.ep [.str x])) ?_ (hf:=(by first|(simp [inB]<;>fail)|(simp [inB];omega))) (he:=(by first|(simp [List.getD_eq_getElem?_getD,cellsD,hx]<;>fail)|fail))|refine oX (frz:=[]) (v:=.d (.ep [.str y])) Yo ?_ (hf:=(by first|(simp [inB]<;>fail)|(simp [inB];omega))) (he:=(by first|(simp [List.getD_eq_getElem?_getD,cellsD,hy]<;>fail)|fail))|refine eX (v:=.d (.ep [.str y])) ?_ (hf:=(by first|(simp [inB]<;>fail)|(simp [inB];omega))) (he:=(by first|(simp [List.getD_eq_getElem?_getD,cellsD,hy]<;>fail)|fail))|(refine zE ?_;(rfl))|((exfalso;first|(simp_all<;>fail)|(simp_all;omega)))|fail)
  ·have hie:i=a.length:=by have:=hi.1;omega
   have hab:a=b:=by have:=hi.2;rw [hie,List.take_length,hlen,List.take_length] at this;exact this
   rw [decide_eq_true hab]
   repeat' (first|refine zW [] ?_|((refine zB [] (fun h=>?_) (fun h=>?_))<;>(first|exact zk h|skip))|refine zX [] ?_|(refine zE ?_;(rfl))|((exfalso;first|(simp_all<;>fail)|(simp_all;omega)))|fail)
 ·have hne:a≠b:=fun e=>by subst e;exact hlen rfl
  rw [decide_eq_false hne]
  refine knownE Yo (fnAt Try.func37 (by kernel_rfl) (by kernel_rfl):FnAt _ _ (mkFn Try.f37 [])) ?_
  repeat' (first|refine zW [] ?_|((refine zB [] (fun h=>?_) (fun h=>?_))<;>(first|exact zk h|skip))|refine zX [] ?_|(refine zE ?_;(rfl))|((exfalso;first|(simp_all<;>fail)|(simp_all;omega)))|fail)
end Go.Av
end
noncomputable section
namespace Go.Av
open Go Go.Proofs
set_option maxRecDepth 10000
theorem sameR8 (a b:Src) (ha:FitsX a):KnownCall Try.prog 9 [encX a,encX b] (.d (.bool (smX a b))):=by
 have hat:=ha.tokens
 have har:=ha.rules
 have c1:=textsR8 a.tokens b.tokens (by omega)
 by_cases h0:a.k=b.k∧a.tokens=b.tokens∧a.sep=b.sep∧a.start=b.start∧a.rules.length=b.rules.length
 ·obtain⟨h1,h2,h3,h4,h5⟩:=h0
  have he:smX a b=smL smR a.rules b.rules:=by simp [smX,h1,h2,h3,h4]
  rw [he]
  rw [decide_eq_true h2] at c1
  refine knownE Yo (fnAt Try.func9 (by kernel_rfl) (by kernel_rfl):FnAt _ _ (mkFn Try.f9 [2,3])) ?_
  repeat' (first|refine zW [2,3] ?_|((refine zB [2,3] (fun h=>?_) (fun h=>?_))<;>(first|exact zk h|skip))|refine zX [2,3] ?_|refine zC (c1) ?_|(refine zE ?_;(skip))|((exfalso;first|(simp_all<;>fail)|(simp_all;omega)))|fail)
  refine Run.loopT (fun i:Nat=>⟨PT.ofList [(2,cellX a),(3,cellX b),(5,.d (.int .i64 i))],[],[]⟩) (fun i=>i≤a.rules.length∧∀ j:Nat,j<i→∀ u v,a.rules[j]?=some u→b.rules[j]?=some v→smR u v=true) (fun i=>a.rules.length-i) 0 ⟨Nat.zero_le _,fun j hj=>by omega⟩ (tidy_of (objs:=_) _ 0 (by rfl) rfl (by repeat' (first|exact trivial|refine⟨(Or.inl rfl),?_⟩|refine⟨(Or.inr rfl),?_⟩|fail)) (by repeat' (first|exact trivial|refine⟨rfl,?_⟩|fail)) rfl rfl) (fun i hi=>?_)
  rcases Nat.lt_or_ge i a.rules.length with hlt|hge
  ·obtain⟨x,hx⟩:=get_ok hlt
   obtain⟨y,hy⟩:=get_ok (show i<b.rules.length by omega)
   have hxal:=ha.alts x (List.mem_of_getElem? hx)
   by_cases hn:x.name=y.name∧x.alts.length=y.alts.length
   ·obtain⟨hn1,hn2⟩:=hn
    repeat' (first|refine zW [2,3] ?_|((refine zB [2,3] (fun h=>?_) (fun h=>?_))<;>(first|exact zk h|skip))|refine zX [2,3] ?_|refine oX (frz:=[2,3]) (v:=.d (.ep [.str x.name,alts x.alts])) Yo ?_ (hf:=(by first|(simp [inB]<;>fail)|(simp [inB];omega))) (he:=(by first|(simp [List.getD_eq_getElem?_getD,cellsD,hx,encR]<;>fail)|fail))|refine eX (v:=.d (.ep [.str x.name,alts x.alts])) ?_ (hf:=(by first|(simp [inB]<;>fail)|(simp [inB];omega))) (he:=(by first|(simp [List.getD_eq_getElem?_getD,cellsD,hx,encR]<;>fail)|fail))|refine oX (frz:=[2,3]) (v:=.d (.ep [.str y.name,alts y.alts])) Yo ?_ (hf:=(by first|(simp [inB]<;>fail)|(simp [inB];omega))) (he:=(by first|(simp [List.getD_eq_getElem?_getD,cellsD,hy,encR]<;>fail)|fail))|refine eX (v:=.d (.ep [.str y.name,alts y.alts])) ?_ (hf:=(by first|(simp [inB]<;>fail)|(simp [inB];omega))) (he:=(by first|(simp [List.getD_eq_getElem?_getD,cellsD,hy,encR]<;>fail)|fail))|(refine zE ?_;(skip))|((exfalso;first|(simp_all<;>fail)|(simp_all;omega)))|fail)
    refine Run.loopT (fun k:Nat=>⟨PT.ofList [(2,cellX a),(3,cellX b),(5,.d (.int .i64 i)),(6,.bp 0 0),(7,.bp 1 0),(8,.d (.int .i64 k))],[.box [.d (.str x.name),.d (alts x.alts)],.box [.d (.str y.name),.d (alts y.alts)]],[]⟩) (fun k=>k≤x.alts.length∧x.alts.take k=y.alts.take k) (fun k=>x.alts.length-k) 0 ⟨Nat.zero_le _,rfl⟩ (tidy_of (objs:=_) _ 2 (by rfl) rfl (by repeat' (first|exact trivial|refine⟨(Or.inl rfl),?_⟩|refine⟨(Or.inr rfl),?_⟩|fail)) (by repeat' (first|exact trivial|refine⟨rfl,?_⟩|fail)) rfl rfl) (fun k hk=>?_)
    rcases Nat.lt_or_ge k x.alts.length with hkl|hkg
    ·obtain⟨u,hu⟩:=get_ok hkl
     obtain⟨v,hv⟩:=get_ok (show k<y.alts.length by omega)
     have c2:=textsR8 u v (Nat.le_trans (ha.names x (List.mem_of_getElem? hx) u (List.mem_of_getElem? hu)) (by decide))
     by_cases huv:u=v
     ·subst huv
      rw [decide_eq_true rfl] at c2
      have ht:x.alts.take (k+1)=y.alts.take (k+1):=by rw [List.take_add_one,List.take_add_one,hk.2,hu,hv]
      repeat' (first|refine zW [2,3] ?_|((refine zB [2,3] (fun h=>?_) (fun h=>?_))<;>(first|exact zk h|skip))|refine zX [2,3] ?_|refine oX (frz:=[2,3]) (v:=.d (.ep [strs u])) Yo ?_ (hf:=(by first|(simp [inB]<;>fail)|(simp [inB];omega))) (he:=(by first|(simp [List.getD_eq_getElem?_getD,cellsD,hu]<;>fail)|fail))|refine eX (v:=.d (.ep [strs u])) ?_ (hf:=(by first|(simp [inB]<;>fail)|(simp [inB];omega))) (he:=(by first|(simp [List.getD_eq_getElem?_getD,cellsD,hu]<;>fail)|fail))|refine oX (frz:=[2,3]) (v:=.d (.ep [strs u])) Yo ?_ (hf:=(by first|(simp [inB]<;>fail)|(simp [inB];omega))) (he:=(by first|(simp [List.getD_eq_getElem?_getD,cellsD,hv]<;>fail)|fail))|refine eX (v:=.d (.ep [strs u])) ?_ (hf:=(by first|(simp [inB]<;>fail)|(simp [inB];omega))) (he:=(by first|(simp [List.getD_eq_getElem?_getD,cellsD,hv]<;>fail)|fail))|refine zC (c2) ?_|(refine zE ?_;(skip))|(exact⟨k+1,⟨hkl,ht⟩,by omega,(tidy_of (objs:=_) _ 2 (by rfl) rfl (by repeat' (first|exact trivial|refine⟨(Or.inl rfl),?_⟩|refine⟨(Or.inl (inc_get (k:=k) (by kernel_rfl) (by omega))),?_⟩|refine⟨(Or.inr rfl),?_⟩|fail)) (by repeat' (first|exact trivial|refine⟨rfl,?_⟩|fail)) rfl rfl)⟩)|((exfalso;first|(simp_all<;>fail)|(simp_all;omega)))|fail)
     ·rw [decide_eq_false huv] at c2
      have hne:smR x y=false:=by
       have:x.alts≠y.alts:=fun e=>by rw [e] at hu;rw [hu] at hv;cases hv;exact huv rfl
       simp [smR,this]
      rw [smL_at hx hy hne]
      repeat' (first|refine zW [2,3] ?_|((refine zB [2,3] (fun h=>?_) (fun h=>?_))<;>(first|exact zk h|skip))|refine zX [2,3] ?_|refine oX (frz:=[2,3]) (v:=.d (.ep [strs u])) Yo ?_ (hf:=(by first|(simp [inB]<;>fail)|(simp [inB];omega))) (he:=(by first|(simp [List.getD_eq_getElem?_getD,cellsD,hu]<;>fail)|fail))|refine eX (v:=.d (.ep [strs u])) ?_ (hf:=(by first|(simp [inB]<;>fail)|(simp [inB];omega))) (he:=(by first|(simp [List.getD_eq_getElem?_getD,cellsD,hu]<;>fail)|fail))|refine oX (frz:=[2,3]) (v:=.d (.ep [strs v])) Yo ?_ (hf:=(by first|(simp [inB]<;>fail)|(simp [inB];omega))) (he:=(by first|(simp [List.getD_eq_getElem?_getD,cellsD,hv]<;>fail)|fail))|refine eX (v:=.d (.ep [strs v])) ?_ (hf:=(by first|(simp [inB]<;>fail)|(simp [inB];omega))) (he:=(by first|(simp [List.getD_eq_getElem?_getD,cellsD,hv]<;>fail)|fail))|refine zC (c2) ?_|(refine zE ?_;(rfl))|((exfalso;first|(simp_all<;>fail)|(simp_all;omega)))|fail)
    ·have hke:k=x.alts.length:=by have:=hk.1;omega
     have hal:x.alts=y.alts:=by have:=hk.2;rw [hke,List.take_length,hn2,List.take_length] at this;exact this
     have hexy:smR x y=true:=by simp [smR,hn1,hal]
     have ht:=upTo_succ hi.2 hx hy hexy
     repeat' (first|refine zW [2,3] ?_|((refine zB [2,3] (fun h=>?_) (fun h=>?_))<;>(first|exact zk h|skip))|refine zX [2,3] ?_|(refine zE ?_;(skip))|(exact⟨i+1,⟨hlt,ht⟩,by omega,(tidy_of (objs:=_) _ 0 (by rfl) rfl (by repeat' (first|exact trivial|refine⟨(Or.inl rfl),?_⟩|refine⟨(Or.inl (inc_get (k:=i) (by kernel_rfl) (by omega))),?_⟩|refine⟨(Or.inr rfl),?_⟩|fail)) (by repeat' (first|exact trivial|refine⟨rfl,?_⟩|fail)) rfl rfl)⟩)|((exfalso;first|(simp_all<;>fail)|(simp_all;omega)))|fail)
   ·have hne:smR x y=false:=by
     cases hb:smR x y with
     |false=>rfl
     |true =>
      simp only [smR,Bool.and_eq_true,decide_eq_true_eq] at hb
      exact absurd ⟨hb.1,by rw [hb.2]⟩ hn
    rw [smL_at hx hy hne]
    by_cases hn1:x.name=y.name
    ·have hn2:x.alts.length≠y.alts.length:=fun e=>hn ⟨hn1,e⟩
     repeat' (first|refine zW [2,3] ?_|((refine zB [2,3] (fun h=>?_) (fun h=>?_))<;>(first|exact zk h|skip))|refine zX [2,3] ?_|refine oX (frz:=[2,3]) (v:=.d (.ep [.str x.name,alts x.alts])) Yo ?_ (hf:=(by first|(simp [inB]<;>fail)|(simp [inB];omega))) (he:=(by first|(simp [List.getD_eq_getElem?_getD,cellsD,hx,encR]<;>fail)|fail))|refine eX (v:=.d (.ep [.str x.name,alts x.alts])) ?_ (hf:=(by first|(simp [inB]<;>fail)|(simp [inB];omega))) (he:=(by first|(simp [List.getD_eq_getElem?_getD,cellsD,hx,encR]<;>fail)|fail))|refine oX (frz:=[2,3]) (v:=.d (.ep [.str y.name,alts y.alts])) Yo ?_ (hf:=(by first|(simp [inB]<;>fail)|(simp [inB];omega))) (he:=(by first|(simp [List.getD_eq_getElem?_getD,cellsD,hy,encR]<;>fail)|fail))|refine eX (v:=.d (.ep [.str y.name,alts y.alts])) ?_ (hf:=(by first|(simp [inB]<;>fail)|(simp [inB];omega))) (he:=(by first|(simp [List.getD_eq_getElem?_getD,cellsD,hy,encR]<;>fail)|fail))|(refine zE ?_;(rfl))|((exfalso;(simp [hn1] at h<;>fail)))|((exfalso;(simp [hn2] at h<;>fail)))|((exfalso;(simp at h<;>omega)))|fail)
    ·have hnb:(x.name == y.name)=false:=by simpa using hn1
     repeat' (first|refine oX (frz:=[2,3]) (v:=.d (.bool true)) Yo ?_ (he:=(congrArg (fun b=>AV.d (.bool (!b))) hnb))|refine eX (v:=.d (.bool true)) ?_ (he:=(congrArg (fun b=>AV.d (.bool (!b))) hnb))|refine zW [2,3] ?_|((refine zB [2,3] (fun h=>?_) (fun h=>?_))<;>(first|exact zk h|skip))|refine zX [2,3] ?_|refine oX (frz:=[2,3]) (v:=.d (.ep [.str x.name,alts x.alts])) Yo ?_ (hf:=(by first|(simp [inB]<;>fail)|(simp [inB];omega))) (he:=(by first|(simp [List.getD_eq_getElem?_getD,cellsD,hx,encR]<;>fail)|fail))|refine eX (v:=.d (.ep [.str x.name,alts x.alts])) ?_ (hf:=(by first|(simp [inB]<;>fail)|(simp [inB];omega))) (he:=(by first|(simp [List.getD_eq_getElem?_getD,cellsD,hx,encR]<;>fail)|fail))|refine oX (frz:=[2,3]) (v:=.d (.ep [.str y.name,alts y.alts])) Yo ?_ (hf:=(by first|(simp [inB]<;>fail)|(simp [inB];omega))) (he:=(by first|(simp [List.getD_eq_getElem?_getD,cellsD,hy,encR]<;>fail)|fail))|refine eX (v:=.d (.ep [.str y.name,alts y.alts])) ?_ (hf:=(by first|(simp [inB]<;>fail)|(simp [inB];omega))) (he:=(by first|(simp [List.getD_eq_getElem?_getD,cellsD,hy,encR]<;>fail)|fail))|(refine zE ?_;(rfl))|((exfalso;(simp at h<;>omega)))|fail)
  ·rw [upTo_all h5 hge hi.2]
   have hie:i=a.rules.length:=by have:=hi.1;omega
   subst hie
   repeat' (first|refine zW [2,3] ?_|((refine zB [2,3] (fun h=>?_) (fun h=>?_))<;>(first|exact zk h|skip))|refine zX [2,3] ?_|(refine zE ?_;(rfl))|((exfalso;first|(simp_all<;>fail)|(simp_all;omega)))|fail)
 ·have hf:smX a b=false:=by
   cases hb:smX a b with
   |false=>rfl
   |true =>
    simp only [smX,Bool.and_eq_true,decide_eq_true_eq] at hb
    obtain⟨⟨⟨⟨g1,g2⟩,g3⟩,g4⟩,g5⟩:=hb
    refine absurd ⟨g1,g4,g2,g3,Classical.byContradiction fun hl=>?_⟩ h0
    rw [smL_len hl] at g5;cases g5
  rw [hf]
  generalize hbt:decide (a.tokens=b.tokens)=bt at c1
  refine knownE Yo (fnAt Try.func9 (by kernel_rfl) (by kernel_rfl):FnAt _ _ (mkFn Try.f9 [2,3])) ?_
  repeat' (first|refine zW [2,3] ?_|((refine zB [2,3] (fun h=>?_) (fun h=>?_))<;>(first|exact zk h|skip))|refine zX [2,3] ?_|((refine zK (c1) (fun h=>?_) (fun h=>?_))<;>(first|exact zk h|skip))|refine zC (c1) ?_|(refine zE ?_;(rfl))|fail)
  exfalso
  rename_i g1 g2 g3 g4 g5
  have e1:=g1
  simp at e1
  have e4:=g4
  simp at e4
  have e5:=g5
  simp at e5
  have e6:=h
  simp at e6
  exact h0 ⟨e1,of_decide_eq_true (hbt.trans g2),e4,e5,by omega⟩
end Go.Av
end
noncomputable section
namespace Go.Av
open Go Go.Proofs
set_option maxRecDepth 10000
theorem evC {f:FuncId} {args:List AV} {objs objs':List Ob} {r:AV} {n k:Nat} (h:evCall Et Ft.get? (hdl Et Ft.get? k n) k f args objs=some (r,objs')):ACall Try.prog f args objs r objs' :=
 evCall_ok Yo (hdl_ok Yo (by kernel_rfl) Ft_ok k n) (by kernel_rfl) Ft_ok h
abbrev byV (l:List Nat):List AV:=l.map fun n=>.d (.int .u8 (n:Nat))
abbrev vecB (l:List Nat):Ob:=.vec 5 false 1 l.length (byV l)
abbrev bld0 (T:TypeId):Ob:=.tb T [.d .nilptr,.d .nilsl]
abbrev bld (T:TypeId) (i j n:Nat):Ob:=.tb T [.bp i 0,.vs j 1 0 n]
theorem bytesA_map {l:List Nat} (h:∀ x ∈ l,x<256):bytesA (byV l)=some l:=by
 induction l with
 |nil=>rfl
 |cons a l ih =>
  have h1:=h a (by simp)
  simp only [List.map_cons,bytesA,ih (fun x hx=>h x (by simp [hx])),byteA]
  rw [if_pos (by simp;omega)]
  simp
theorem chk0P (b:AV):ACall Try.prog 63 [.bp 0 0] [.tb 60 [.d .nilptr,b]] (.tup []) [.tb 60 [.bp 0 0,b]]:=evC (n:=3) (k:=100) (by kernel_rfl)
theorem chk1P (n:Nat) (l:List AV) (m:Nat):ACall Try.prog 63 [.bp 0 0] [bld 60 0 1 n,.vec 5 false 1 m l] (.tup []) [bld 60 0 1 n,.vec 5 false 1 m l]:=evC (n:=3) (k:=100) (by kernel_rfl)
end Go.Av
end
noncomputable section
namespace Go.Av
open Go Go.Proofs
set_option maxRecDepth 10000
theorem flat_by (s:List Nat):(flatD (s.map fun(n:Nat)=>DV.int .u8 n)).map AV.d=byV s:=by
 induction s with
 |nil=>rfl
 |cons a s ih =>
  simp only [flatD,List.map_cons,List.flatMap_cons,cellsD,List.cons_append,List.nil_append]
  exact congrArg _ ih
theorem srcSz_by (s:List Nat):srcSz 1 1 (s.map fun(n:Nat)=>DV.int .u8 n)=1:=by cases s<;>rfl
section
variable {H:Hd} {frz:List Nat} {rd:Operand→AV} {objs:List Ob} {o:Oper} {args:Array Operand} {tys:Array TypeId} {a b:Operand}
theorem appS0 {s:List Nat} (hlen:s.length≤1099511627776) (hop:o.op=.call ⟨.builtin .append,args,tys⟩:=by rfl) (ha:args.toList=[a,b]:=by rfl) (ht:tys.toList=[56,9]:=by rfl)
  (hv:hintV o.dst frz=true:=by rfl) (h7:rd a=.d .nilsl:=by rfl) (h8:rd b=.d (.str s):=by rfl) :
  evAny Et H frz rd objs o=some (.vs objs.length 1 0 s.length,some (objs++[vecB s]),true):=by
 obtain⟨dst,op,ty,pos,after,guard⟩:=o
 simp only at hop hv
 subst hop
 have h1:Et.get? 56=some ty56:=rfl
 have h2:Et.get? 9=some ty9:=rfl
 have h3:Et.get? 5=some ty5:=rfl
 have hm:Nat.ble (s.length*1) 1099511627776=true:=Nat.ble_eq_true_of_le (by omega)
 have h4:appSrc Et ty5 9 (.d (.str s)) objs=some (1,s.map fun(n:Nat)=>.int .u8 n):=rfl
 have h5:=flat_by s
 simp only [evAny,ha,ht,hv,appendR,h1,ty56,appSrc0,h3,h7,h8,h4]
 simp only [ty5,srcSz_by,List.length_map,h5,hm]
 rfl
theorem appS1 {s l:List Nat} {i n:Nat} (hlen:(l++s).length≤1099511627776) (hop:o.op=.call ⟨.builtin .append,args,tys⟩:=by rfl) (ha:args.toList=[a,b]:=by rfl) (ht:tys.toList=[56,9]:=by rfl)
  (hv:hintV o.dst frz=true:=by rfl) (h7:rd a=.vs i 1 0 n:=by rfl) (h8:rd b=.d (.str s):=by rfl) (hn:n=l.length:=by rfl) (h9:objs[i]?=some (vecB l):=by rfl) :
  evAny Et H frz rd objs o=some (.vs objs.length 1 0 (l++s).length,some (objs.set i .gone++[vecB (l++s)]),true):=by
 obtain⟨dst,op,ty,pos,after,guard⟩:=o
 simp only at hop hv
 subst hop hn
 simp only [List.length_append] at hlen
 have h1:Et.get? 56=some ty56:=rfl
 have h2:Et.get? 9=some ty9:=rfl
 have h3:Et.get? 5=some ty5:=rfl
 have hm:Nat.ble ((l.length+s.length)*1) 1099511627776=true:=Nat.ble_eq_true_of_le (by omega)
 have hb:Nat.ble l.length l.length=true:=Nat.ble_eq_true_of_le (Nat.le_refl _)
 have h4:appSrc Et ty5 9 (.d (.str s)) objs=some (1,s.map fun(n:Nat)=>.int .u8 n):=rfl
 have h5:=flat_by s
 have h6:(byV l).take (l.length*1)++byV s=byV (l++s):=by rw [Nat.mul_one,List.take_of_length_le (by simp),byV,byV,byV,List.map_append]
 have h10:(l++s).length=l.length+s.length:=List.length_append
 simp only [evAny,ha,ht,hv,appendR,h1,ty56,appSrc0,h3,h7,h8,h4,h9]
 simp only [ty5,srcSz_by,List.length_map,h5,hm,hb,h6,vecB,h10]
 rfl
end
theorem wr0P (s:List Nat) (hs:s.length≤1099511627776):ACall Try.prog 50 [.bp 0 0,.d (.str s)] [bld0 60] (.tup [.d (.int .i64 s.length),.d .niliface]) [bld 60 0 1 s.length,vecB s]:=by
 refine acall_of_run Yo (fnAt Try.func50 (by kernel_rfl) (by kernel_rfl):FnAt _ _ (mkFn Try.f50 [65550])) rfl rfl ?_
 repeat refine zG [65550] ?_
 iterate 2 refine zX [65550] ?_
 repeat refine zG [65550] ?_
 refine zX [65550] ?_
 refine RunOps.call (by rfl) (by rfl) (chk0P _) (by rfl) (by rfl) ?_
 repeat refine zG [65550] ?_
 iterate 6 refine zX [65550] ?_
 refine oX (frz:=[65550]) Yo ?_ (hv:=appS0 hs)
 iterate 3 refine zX [65550] ?_
 repeat refine zG [65550] ?_
 iterate 4 refine zX [65550] ?_
 repeat refine zG [65550] ?_
 refine Yt ?_
 exact⟨trivial,rfl,rfl⟩
theorem wr1P (l s:List Nat) (hs:(l++s).length≤1099511627776):ACall Try.prog 50 [.bp 0 0,.d (.str s)] [bld 60 0 1 l.length,vecB l] (.tup [.d (.int .i64 s.length),.d .niliface]) [bld 60 0 2 (l++s).length,.gone,vecB (l++s)]:=by
 refine acall_of_run Yo (fnAt Try.func50 (by kernel_rfl) (by kernel_rfl):FnAt _ _ (mkFn Try.f50 [65550])) rfl rfl ?_
 repeat refine zG [65550] ?_
 iterate 2 refine zX [65550] ?_
 repeat refine zG [65550] ?_
 refine zX [65550] ?_
 refine RunOps.call (by rfl) (by rfl) (chk1P _ _ _) (by rfl) (by rfl) ?_
 repeat refine zG [65550] ?_
 iterate 6 refine zX [65550] ?_
 refine oX (frz:=[65550]) Yo ?_ (hv:=appS1 hs)
 iterate 3 refine zX [65550] ?_
 repeat refine zG [65550] ?_
 iterate 4 refine zX [65550] ?_
 repeat refine zG [65550] ?_
 refine Yt ?_
 exact⟨trivial,rfl,rfl⟩
end Go.Av
end
noncomputable section
namespace Go.Av
open Go Go.Proofs
set_option maxRecDepth 10000
section
variable {H:Hd} {frz:List Nat} {rd:Operand→AV} {objs:List Ob} {o:Oper} {args:Array Operand} {tys:Array TypeId} {a b:Operand}
theorem dataOf {i sz n:Nat} (h0:0<n) (hop:o.op=.call ⟨.builtin .unsafeSliceData,args,tys⟩:=by rfl) (ha:args.toList=[a]:=by rfl) (ht:tys.toList=[56]:=by rfl) (h7:rd a=.vs i sz 0 n:=by rfl) :
  evAny Et H frz rd objs o=some (.bp i 0,none,true):=by
 obtain⟨dst,op,ty,pos,after,guard⟩:=o
 simp only at hop
 subst hop
 have hlt:Nat.blt 0 n=true:=by rw [Nat.blt_eq];exact h0
 show((evOp Et rd objs (.call ⟨.builtin .unsafeSliceData,args,tys⟩)).map fun p=>(p.1,none,p.2.2))=_
 simp only [evOp,ha,ht,sliceDataR,h7,hlt]
 rfl
theorem strOf {l:List Nat} {i n:Nat} (h0:0<l.length) (hb:∀ x ∈ l,x<256) (hop:o.op=.call ⟨.builtin .unsafeString,args,tys⟩:=by rfl) (ha:args.toList=[a,b]:=by rfl) (ht:tys.toList=[101,3]:=by rfl)
  (h7:rd a=.bp i 0:=by rfl) (h8:rd b=.d (.int .i64 (n:Nat)):=by rfl) (hn:n=l.length:=by rfl) (h9:objs[i]?=some (vecB l):=by rfl) :
  evAny Et H frz rd objs o=some (.d (.str l),some (objs.set i .gone),true):=by
 obtain⟨dst,op,ty,pos,after,guard⟩:=o
 simp only at hop
 subst hop hn
 have h1:Et.get? 101=some ty101:=rfl
 have hB:isByteT Et 5=true:=rfl
 have hle:Nat.ble l.length l.length=true:=Nat.ble_eq_true_of_le (Nat.le_refl _)
 have hbb:bytesA ((byV l).take l.length)=some l:=by rw [List.take_of_length_le (by simp)];exact bytesA_map hb
 have hd:decide ((0:Int)<(l.length:Nat))=true:=by rw [decide_eq_true_eq];omega
 show((evOp Et rd objs (.call ⟨.builtin .unsafeString,args,tys⟩)).map fun p=>(p.1,some p.2.1,p.2.2))=_
 simp only [evOp,ha,ht,unsafeStrR,h7,h8,h1,ty101,h9,vecB,hB,hle,hbb,hd,Int.toNat_natCast]
 rfl
end
theorem str1P (l:List Nat) (h0:0<l.length) (hb:∀ x ∈ l,x<256):ACall Try.prog 23 [.bp 0 0] [bld 60 0 1 l.length,vecB l] (.d (.str l)) [bld 60 0 1 l.length,.gone]:=by
 refine acall_of_run Yo (fnAt Try.func23 (by kernel_rfl) (by kernel_rfl):FnAt _ _ (mkFn Try.f23 [])) rfl rfl ?_
 repeat refine zG [] ?_
 refine zX [] ?_
 repeat refine zG [] ?_
 iterate 4 refine eX ?_
 refine eX ?_ (hv:=dataOf h0)
 iterate 5 refine eX ?_
 refine eX ?_ (hv:=strOf h0 hb)
 refine eX ?_
 refine eN ?_
 repeat refine zG [] ?_
 refine Yt ?_
 exact⟨trivial,rfl,rfl⟩
end Go.Av
end
noncomputable section
namespace Go.Av
open Go Go.Proofs
set_option maxRecDepth 10000
def stB (T:TypeId) (k:Nat) (l:List Nat):List Ob:=bld T 0 (k+1) l.length :: (List.replicate k .gone++[vecB l])
theorem stB_len (T:TypeId) (k:Nat) (l:List Nat):(stB T k l).length=k+2:=by simp [stB]
theorem stB_row (T:TypeId) (k:Nat) (l:List Nat):(stB T k l)[k+1]?=some (vecB l):=by
 simp only [stB,List.getElem?_cons_succ]
 rw [List.getElem?_append_right (by simp)];simp
theorem stB_mid (T:TypeId) (k p:Nat) (l:List Nat) (h0:0<p) (hp:p<k+1):(stB T k l)[p]?=some .gone:=by
 obtain⟨q,rfl⟩:∃ q,p=q+1:=⟨p-1,by omega⟩
 simp only [stB,List.getElem?_cons_succ]
 rw [List.getElem?_append_left (by simp;omega),List.getElem?_replicate,if_pos (by omega)]
theorem reA_by (ρ:Nat→Nat) (l:List Nat):(byV l).map (reA ρ 8)=byV l:=by
 rw [byV,List.map_map];rfl
theorem okA_by (n:Nat) (l:List Nat):(byV l).all (okA n 8)=true:=by
 rw [List.all_eq_true];intro x hx;simp only [byV,List.mem_map] at hx;obtain⟨y,_,rfl⟩:=hx;rfl
theorem reO_vec (ρ:Nat→Nat) (l:List Nat):reO ρ (vecB l)=vecB l:=by
 show Ob.vec _ _ _ _ ((byV l).map (reA ρ 8))=_
 rw [reA_by]
theorem wrSP (k:Nat) (l s:List Nat) (hs:(l++s).length≤1099511627776):ACall Try.prog 50 [.bp 0 0,.d (.str s)] (stB 60 k l) (.tup [.d (.int .i64 s.length),.d .niliface]) (stB 60 (k+1) (l++s)):=by
 have hlen:=stB_len 60 k l
 have h:=(wr1P l s hs).embed rfl (Big:=stB 60 k l) (Big':=stB 60 (k+1) (l++s)) (pos:=[0,k+1]) rfl (by simp) (fun i ob hi=>?_) ?_ rfl ?_ (fun p hp hn=>?_) (fun i ob hi=>?_)
 ·exact h
 ·match i with
  |0=>simp at hi;subst hi;exact⟨0,rfl,rfl⟩
  |1=>simp at hi;subst hi;exact⟨k+1,rfl,by rw [reO_vec];exact stB_row _ _ _⟩
  |i+2=>simp at hi
 ·simp only [List.all_cons,List.all_nil,Bool.and_true,Bool.and_eq_true]
  exact⟨rfl,okA_by _ _⟩
 ·rw [hlen,stB_len];rfl
 ·simp only [List.mem_cons,List.not_mem_nil,or_false,not_or] at hn
  rw [stB_mid _ _ _ _ (by omega) (by omega),stB_mid _ _ _ _ (by omega) (by omega)]
 ·match i with
  |0=>obtain rfl:=Option.some.inj hi;rw [hlen];rfl
  |1=>obtain rfl:=Option.some.inj hi;exact stB_mid 60 (k+1) (k+1) (l++s) (by omega) (by omega)
  |2 =>
   obtain rfl:=Option.some.inj hi
   rw [reO_vec,hlen]
   exact stB_row 60 (k+1) (l++s)
  |i+3=>simp at hi
theorem strSP (k:Nat) (l:List Nat) (h0:0<l.length) (hb:∀ x ∈ l,x<256):ACall Try.prog 23 [.bp 0 0] (stB 60 k l) (.d (.str l)) (bld 60 0 (k+1) l.length :: List.replicate (k+1) .gone):=by
 have hlen:=stB_len 60 k l
 have h:=(str1P l h0 hb).embed rfl (Big:=stB 60 k l) (Big':=bld 60 0 (k+1) l.length :: List.replicate (k+1) .gone) (pos:=[0,k+1]) rfl (by simp) (fun i ob hi=>?_) ?_ rfl ?_ (fun p hp hn=>?_) (fun i ob hi=>?_)
 ·exact h
 ·match i with
  |0=>simp at hi;subst hi;exact⟨0,rfl,rfl⟩
  |1=>simp at hi;subst hi;exact⟨k+1,rfl,by rw [reO_vec];exact stB_row _ _ _⟩
  |i+2=>simp at hi
 ·simp only [List.all_cons,List.all_nil,Bool.and_true,Bool.and_eq_true]
  exact⟨rfl,okA_by _ _⟩
 ·rw [hlen];simp
 ·simp only [List.mem_cons,List.not_mem_nil,or_false,not_or] at hn
  obtain⟨q,rfl⟩:∃ q,p=q+1:=⟨p-1,by omega⟩
  rw [stB_mid _ _ _ _ (by omega) (by omega),List.getElem?_cons_succ,List.getElem?_replicate,if_pos (by omega)]
 ·match i with
  |0=>simp at hi;subst hi;rfl
  |1=>simp at hi;subst hi;simp [atOf,reO]
  |i+2=>simp at hi
theorem putS (k:Nat) (l:List Nat) (ss:List (List Nat)) (hs:(l++ss.flatten).length≤1099511627776) (hl:ss.length≤1099511627776):ACall Try.prog 21 [.bp 0 0,.d (strs ss)] (stB 60 k l) (.tup []) (stB 60 (k+ss.length) (l++ss.flatten)):=by
 refine acall_of_run Yo (fnAt Try.func21 (by kernel_rfl) (by kernel_rfl):FnAt _ _ (mkFn Try.f21 [])) rfl rfl ?_
 repeat refine zG [] ?_
 iterate 3 refine zX [] ?_
 repeat refine zG [] ?_
 refine Run.loop (fun i:Nat=>⟨PT.ofList [(0,.bp 0 0),(6,.d (strs ss)),(7,.d (.int .i64 ss.length)),(8,.d (.int .i64 i))],stB 60 (k+i) (l++(ss.take i).flatten),[]⟩) (fun i=>i≤ss.length) (fun i=>ss.length-i) 0 (Nat.zero_le _) (weak_of' (by simp) rfl ⟨rfl,rfl,congrArg (fun n:Nat=>some (AV.d (.int .i64 (n:Int)))) (List.length_map ..),rfl,trivial⟩) (fun i hi=>?_)
 repeat refine zG [] ?_
 refine zX [] ?_
 repeat refine zG [] ?_
 refine Run.cond (by rfl) (fun h=>?_) (fun h=>?_)
 ·have hlt:i<ss.length:=by simpa using h
  obtain⟨x,hx⟩:=get_ok hlt
  have hf:(ss.take (i+1)).flatten=(ss.take i).flatten++x:=by rw [List.take_add_one,hx];simp
  have hle:((ss.take (i+1)).flatten).length≤ss.flatten.length:=by
   conv=>rhs;rw [← List.take_append_drop (i+1) ss,List.flatten_append]
   simp
  rw [hf] at hle
  simp only [List.length_append] at hle hs
  repeat refine zG [] ?_
  first|refine oX (frz:=[]) (v:=.d (.ep [.str x])) Yo ?_ (hf:=(by first|(simp [inB]<;>fail)|(simp [inB];omega))) (he:=(by first|(simp [List.getD_eq_getElem?_getD,cellsD,hx]<;>fail)|fail))|refine eX (v:=.d (.ep [.str x])) ?_ (hf:=(by first|(simp [inB]<;>fail)|(simp [inB];omega))) (he:=(by first|(simp [List.getD_eq_getElem?_getD,cellsD,hx]<;>fail)|fail))
  iterate 2 refine zX [] ?_
  repeat refine zG [] ?_
  iterate 4 refine zX [] ?_
  refine RunOps.call (by rfl) (by rfl) (wrSP (k+i) (l++(ss.take i).flatten) x (by simp only [List.length_append];omega)) (by rfl) (by rfl) ?_
  repeat refine zG [] ?_
  refine zX [] ?_
  refine oX (frz:=[]) (v:=.d (.int .i64 (i+1:Nat))) Yo ?_ (he:=congrArg (fun n=>AV.d (.int .i64 n)) (wrap_nat (n:=i+1) (by omega)))
  repeat refine zG [] ?_
  exact⟨i+1,hlt,by omega,weak_of' (by rw [hf,List.append_assoc];rfl) rfl ⟨rfl,rfl,rfl,rfl,trivial⟩⟩
 ·have hge:i=ss.length:=by simp at h;omega
  subst hge
  repeat refine zG [] ?_
  refine⟨trivial,?_,rfl⟩
  show some ((none:Option DV),stB 60 (k+ss.length) (l++(ss.take ss.length).flatten))=_
  rw [List.take_length]
def stF (T:TypeId) (ss:List (List Nat)):Nat→List Ob
 |0=>[bld0 T]
 |i+1=>stB T i (ss.take (i+1)).flatten
theorem put0 (s:List Nat) (ss:List (List Nat)) (hs:((s :: ss).flatten).length≤1099511627776) (hl:(s :: ss).length≤1099511627776):ACall Try.prog 21 [.bp 0 0,.d (strs (s :: ss))] [bld0 60] (.tup []) (stB 60 ss.length (s :: ss).flatten):=by
 have hend:stF 60 (s :: ss) (s :: ss).length=stB 60 ss.length (s :: ss).flatten:=by
  show stB _ _ ((s :: ss).take (s :: ss).length).flatten=_
  rw [List.take_length]
 rw [← hend]
 generalize hss:s :: ss=l at *
 refine acall_of_run Yo (fnAt Try.func21 (by kernel_rfl) (by kernel_rfl):FnAt _ _ (mkFn Try.f21 [])) rfl rfl ?_
 repeat refine zG [] ?_
 iterate 3 refine zX [] ?_
 repeat refine zG [] ?_
 refine Run.loop (fun i:Nat=>⟨PT.ofList [(0,.bp 0 0),(6,.d (strs l)),(7,.d (.int .i64 l.length)),(8,.d (.int .i64 i))],stF 60 l i,[]⟩) (fun i=>i≤l.length) (fun i=>l.length-i) 0 (Nat.zero_le _) (weak_of' rfl rfl ⟨rfl,rfl,congrArg (fun n:Nat=>some (AV.d (.int .i64 (n:Int)))) (List.length_map ..),rfl,trivial⟩) (fun i hi=>?_)
 repeat refine zG [] ?_
 refine zX [] ?_
 repeat refine zG [] ?_
 refine Run.cond (by rfl) (fun h=>?_) (fun h=>?_)
 ·have hlt:i<l.length:=by simpa using h
  obtain⟨x,hx⟩:=get_ok hlt
  have hf:(l.take (i+1)).flatten=(l.take i).flatten++x:=by rw [List.take_add_one,hx];simp
  have hle:((l.take (i+1)).flatten).length≤l.flatten.length:=by
   conv=>rhs;rw [← List.take_append_drop (i+1) l,List.flatten_append]
   simp
  have hA:ACall Try.prog 50 [.bp 0 0,.d (.str x)] (stF 60 l i) (.tup [.d (.int .i64 x.length),.d .niliface]) (stF 60 l (i+1)):=by
   cases i with
   |zero =>
    have hx0:(l.take (0+1)).flatten=x:=by rw [hf];simp
    have h:=wr0P x (by rw [hf] at hle;simp only [List.length_append] at hle;omega)
    show ACall _ _ _ [bld0 _] _ (stB _ 0 (l.take (0+1)).flatten)
    rw [hx0];exact h
   |succ j =>
    have h:=wrSP j (l.take (j+1)).flatten x (by rw [← hf];omega)
    show ACall _ _ _ (stB _ j _) _ (stB _ (j+1) (l.take (j+1+1)).flatten)
    rw [hf];exact h
  repeat refine zG [] ?_
  first|refine oX (frz:=[]) (v:=.d (.ep [.str x])) Yo ?_ (hf:=(by first|(simp [inB]<;>fail)|(simp [inB];omega))) (he:=(by first|(simp [List.getD_eq_getElem?_getD,cellsD,hx]<;>fail)|fail))|refine eX (v:=.d (.ep [.str x])) ?_ (hf:=(by first|(simp [inB]<;>fail)|(simp [inB];omega))) (he:=(by first|(simp [List.getD_eq_getElem?_getD,cellsD,hx]<;>fail)|fail))
  iterate 2 refine zX [] ?_
  repeat refine zG [] ?_
  iterate 4 refine zX [] ?_
  refine RunOps.call (by rfl) (by rfl) hA (by rfl) (by rfl) ?_
  repeat refine zG [] ?_
  refine zX [] ?_
  refine oX (frz:=[]) (v:=.d (.int .i64 (i+1:Nat))) Yo ?_ (he:=congrArg (fun n=>AV.d (.int .i64 n)) (wrap_nat (n:=i+1) (by omega)))
  repeat refine zG [] ?_
  exact⟨i+1,hlt,by omega,weak_of' rfl rfl ⟨rfl,rfl,rfl,rfl,trivial⟩⟩
 ·have hge:i=l.length:=by simp at h;omega
  subst hge
  repeat refine zG [] ?_
  exact⟨trivial,rfl,rfl⟩
end Go.Av
end
noncomputable section
namespace Go.Av
open Go Go.Proofs
set_option maxRecDepth 10000
abbrev prB (l:List Nat) (rest:List Ob):List Ob:=bld 60 0 1 l.length :: vecB l :: rest
abbrev prO (q:Nat) (l:List Nat) (rest:List Ob):List Ob:=bld 60 0 (rest.length+2+q) l.length :: .gone :: (rest++(List.replicate q .gone++[vecB l]))
theorem prO_row (q:Nat) (l:List Nat) (rest:List Ob):(prO q l rest)[rest.length+2+q]?=some (vecB l):=by
 rw [show rest.length+2+q=(rest.length+q)+1+1 by omega]
 simp only [prO,List.getElem?_cons_succ]
 rw [List.getElem?_append_right (by omega),List.getElem?_append_right (by simp)]
 simp
theorem prO_gone (q p:Nat) (l:List Nat) (rest:List Ob) (hp:p<q):(prO q l rest)[rest.length+2+p]?=some .gone:=by
 rw [show rest.length+2+p=(rest.length+p)+1+1 by omega]
 simp only [prO,List.getElem?_cons_succ]
 rw [List.getElem?_append_right (by omega),List.getElem?_append_left (by simp;omega),List.getElem?_replicate,if_pos (by omega)]
theorem putR (l:List Nat) (ss:List (List Nat)) (q:Nat) (rest:List Ob) (hq:ss.length=q+1) (hs:(l++ss.flatten).length≤1099511627776) (hl:q≤1000) :
  ACall Try.prog 21 [.bp 0 0,.d (strs ss)] (prB l rest) (.tup []) (prO q (l++ss.flatten) rest):=by
 have h:=(putS 0 l ss hs (by omega)).embed rfl (Big:=prB l rest) (Big':=prO q (l++ss.flatten) rest) (pos:=[0,1]) rfl (by simp) (fun i ob hi=>?_) ?_ rfl ?_ (fun p hp hn=>?_) (fun i ob hi=>?_)
 ·exact h
 ·match i with
  |0=>obtain rfl:=Option.some.inj hi;exact⟨0,rfl,rfl⟩
  |1=>obtain rfl:=Option.some.inj hi;exact⟨1,rfl,by rw [reO_vec];rfl⟩
  |i+2=>cases hi
 ·show(okO 2 (bld _ 0 1 l.length) && (okO 2 (vecB l) && true))=true
  rw [show okO 2 (vecB l)=true from okA_by _ _];rfl
 ·rw [stB_len,hq];simp [stB_len];omega
 ·simp only [List.mem_cons,List.not_mem_nil,or_false,not_or] at hn
  obtain⟨p',rfl⟩:∃ p',p=p'+1+1:=⟨p-2,by omega⟩
  simp only [prO,prB,List.getElem?_cons_succ]
  rw [List.getElem?_append_left (by simp at hp;omega)]
 ·have hB:(prB l rest).length=rest.length+2:=by simp
  rw [hq] at hi
  have hlen:=stB_len 60 (0+(q+1)) (l++ss.flatten)
  have hil:i<0+(q+1)+2:=by rw [← hlen];exact(List.getElem?_eq_some_iff.1 hi).1
  match i with
  |0 =>
   obtain rfl:=Option.some.inj hi
   rw [hB]
   show some (bld _ 0 (rest.length+2+q) _)=some (bld _ 0 (rest.length+2+(0+(q+1)+1-2)) _)
   rw [show 0+(q+1)+1-2=q by omega]
  |1 =>
   rw [stB_mid _ _ _ _ (by omega) (by omega)] at hi
   obtain rfl:=Option.some.inj hi
   rfl
  |i+2 =>
   have hat:atOf [0,1] (prB l rest).length (i+2)=rest.length+2+i:=by rw [hB];rfl
   rw [hat]
   rcases Nat.lt_or_ge i q with h1|h1
   ·rw [stB_mid _ _ _ _ (by omega) (by omega)] at hi
    obtain rfl:=Option.some.inj hi
    exact prO_gone q i _ rest h1
   ·have:i=q:=by omega
    subst this
    rw [show i+2=(0+(i+1))+1 by omega,stB_row] at hi
    obtain rfl:=Option.some.inj hi
    rw [reO_vec]
    exact prO_row i _ rest
theorem prR1 {tm:PT AV} {q:Nat} {l l':List Nat} (cs:List DV) (ts:List (Nat × AV)) (he:l=l') (h:allRe (plOf [0,1+2+q,2]) 3 tm ts):Relab 0 ⟨tm,prO q l [.box (cs.map .d)],[]⟩ ⟨PT.ofList ts,prB l' [.box (cs.map .d)],[]⟩:=by
 subst he
 refine⟨ts,[0,1+2+q,2],prB l [.box (cs.map .d)],rfl,rfl,rfl,by simp;omega,fun k hk=>by omega,fun k ob hk=>?_,h⟩
 match k with
 |0=>obtain rfl:=Option.some.inj hk;exact⟨rfl,0,rfl,rfl⟩
 |1=>obtain rfl:=Option.some.inj hk;exact⟨okA_by _ _,_,rfl,by rw [reO_vec];exact prO_row q l _⟩
 |2 =>
  obtain rfl:=Option.some.inj hk
  refine⟨?_,2,rfl,?_⟩
  ·show(cs.map AV.d).all (okA _ 8)=true
   rw [List.all_eq_true];intro x hx;simp only [List.mem_map] at hx;obtain⟨y,_,rfl⟩:=hx;rfl
  ·show some (Ob.box (cs.map .d))=some (Ob.box ((cs.map AV.d).map (reA _ 8)))
   rw [List.map_map];rfl
 |k+3=>cases hk
theorem prR2 {tm:PT AV} {q:Nat} {l l':List Nat} {b:Ob} (ts:List (Nat × AV)) (he:l=l') (h:allRe (plOf [0,1+2+q]) 2 tm ts):Relab 0 ⟨tm,prO q l [b],[]⟩ ⟨PT.ofList ts,prB l' [],[]⟩:=by
 subst he
 refine⟨ts,[0,1+2+q],prB l [],rfl,rfl,rfl,by simp;omega,fun k hk=>by omega,fun k ob hk=>?_,h⟩
 match k with
 |0=>obtain rfl:=Option.some.inj hk;exact⟨rfl,0,rfl,rfl⟩
 |1=>obtain rfl:=Option.some.inj hk;exact⟨okA_by _ _,_,rfl,by rw [reO_vec];exact prO_row q l [b]⟩
 |k+2=>cases hk
theorem prR3 {tm:PT AV} {q:Nat} {l l':List Nat} (ts:List (Nat × AV)) (he:l=l') (h:allRe (plOf [0,q+1]) 2 tm ts):Relab 0 ⟨tm,stB 60 q l,[]⟩ ⟨PT.ofList ts,prB l' [],[]⟩:=by
 subst he
 refine⟨ts,[0,q+1],prB l [],rfl,rfl,rfl,by simp,fun k hk=>by omega,fun k ob hk=>?_,h⟩
 match k with
 |0=>obtain rfl:=Option.some.inj hk;exact⟨rfl,0,rfl,rfl⟩
 |1=>obtain rfl:=Option.some.inj hk;exact⟨okA_by _ _,_,rfl,by rw [reO_vec];exact stB_row _ q l⟩
 |k+2=>cases hk
theorem prI1 {tm:PT AV} {l l':List Nat} (cs:List DV) (ts:List (Nat × AV)) (he:l=l') (h:allRe (plOf [0,1,2]) 3 tm ts):Relab 0 ⟨tm,prB l [.box (cs.map .d)],[]⟩ ⟨PT.ofList ts,prB l' [.box (cs.map .d)],[]⟩:=by
 subst he
 refine⟨ts,[0,1,2],prB l [.box (cs.map .d)],rfl,rfl,rfl,by simp,fun k hk=>by omega,fun k ob hk=>?_,h⟩
 match k with
 |0=>obtain rfl:=Option.some.inj hk;exact⟨rfl,0,rfl,rfl⟩
 |1=>obtain rfl:=Option.some.inj hk;exact⟨okA_by _ _,1,rfl,by rw [reO_vec];rfl⟩
 |2 =>
  obtain rfl:=Option.some.inj hk
  refine⟨?_,2,rfl,?_⟩
  ·show(cs.map AV.d).all (okA _ 8)=true
   rw [List.all_eq_true];intro x hx;simp only [List.mem_map] at hx;obtain⟨y,_,rfl⟩:=hx;rfl
  ·show some (Ob.box (cs.map .d))=some (Ob.box ((cs.map AV.d).map (reA _ 8)))
   rw [List.map_map];rfl
 |k+3=>cases hk
end Go.Av
end
namespace Go.Proofs
open Go.Shelf
def Try.lays156_ren:Go.Shelf.Ren:=⟨fun|156=>22|165=>51|166=>50|169=>23|240=>63|241=>64|276=>72|277=>73|n=>n,fun|31=>23|9=>9|3=>3|4=>4|0=>0|20=>20|72=>58|76=>98|70=>55|37=>56|75=>97|127=>101|164=>121|5=>5|80=>66|n=>n,fun|n=>n⟩
theorem Try.lays156:Go.Proofs.Lays.n156 Try.prog Try.lays156_ren:={
 mixed:=by kernel_rfl
 f156:=Try.func22.trans (congrArg some (by kernel_rfl))
 f165:=Try.func51.trans (congrArg some (by kernel_rfl))
 f166:=Try.func50.trans (congrArg some (by kernel_rfl))
 f169:=Try.func23.trans (congrArg some (by kernel_rfl))
 f240:=Try.func63.trans (congrArg some (by kernel_rfl))
 f241:=Try.func64.trans (congrArg some (by kernel_rfl))
 f276:=Try.func72.trans (congrArg some (by kernel_rfl))
 f277:=Try.func73.trans (congrArg some (by kernel_rfl))
 t0:=Try.underlying0
 a0:=Try.isAgg0
 z0:=Try.sizeOf0
 v0:=Try.zeroValue0
 t3:=Try.underlying3
 a3:=Try.isAgg3
 z3:=Try.sizeOf3
 v3:=Try.zeroValue3
 t4:=Try.underlying4
 a4:=Try.isAgg4
 z4:=Try.sizeOf4
 v4:=Try.zeroValue4
 t9:=Try.underlying9
 a9:=Try.isAgg9
 z9:=Try.sizeOf9
 v9:=Try.zeroValue9
 t20:=Try.underlying20
 a20:=Try.isAgg20
 z20:=Try.sizeOf20
 v20:=Try.zeroValue20
 t31:=Try.underlying23
 a31:=Try.isAgg23
 z31:=Try.sizeOf23
 v31:=Try.zeroValue23
 t37:=Try.underlying56
 a37:=Try.isAgg56
 z37:=Try.sizeOf56
 v37:=Try.zeroValue56
 t70:=Try.underlying55
 a70:=Try.isAgg55
 z70:=Try.sizeOf55
 v70:=Try.zeroValue55
 t72:=Try.underlying58
 a72:=Try.isAgg58
 z72:=Try.sizeOf58
 v72:=Try.zeroValue58
 t75:=Try.underlying97
 a75:=Try.isAgg97
 z75:=Try.sizeOf97
 v75:=Try.zeroValue97
 t76:=Try.underlying98
 a76:=Try.isAgg98
 z76:=Try.sizeOf98
 v76:=Try.zeroValue98
 t127:=Try.underlying101
 a127:=Try.isAgg101
 z127:=Try.sizeOf101
 v127:=Try.zeroValue101
 t164:=Try.underlying121
 a164:=Try.isAgg121
 z164:=Try.sizeOf121
 v164:=Try.zeroValue121 }
theorem Try.Builder_Extra_156:Builder.Extra Try.prog Try.lays156_ren:={
 sizeBuilder:=by kernel_rfl
 liesBuilder:=by kernel_rfl
 t5:=Try.underlying5
 a5:=Try.isAgg5
 z5:=Try.sizeOf5
 v5:=Try.zeroValue5
 infoByte:=by kernel_rfl
 cellsByte:=by kernel_rfl
 sizeByte:=by kernel_rfl
 neB5:=by decide }
open Go.RowKit in
theorem Try.strings_Join_none (a:Option Addr) (c:Nat) (sep:ByteArray) (w:World) :
  Calls Try.prog 22 #[.slice a 0 c,.string sep] w fun e w'=>e=.returned (.string ⟨#[]⟩)∧w'=w:=Any.strings_Join_none Try.lays156 Try.Builder_Extra_156 a c sep w
open Go.RowKit in
theorem Try.strings_Join (bk o c:Nat) (xs:List ByteArray) (sep:ByteArray) (w:World) (hcells:∀ (j:Nat) x,xs[j]?=some x→w.cell? ⟨bk,o+j,none⟩=some (.string x)) (hbk:bk<w.heap.size) (hN:xs.length≤140737488355328) (hcap:xs.length≤c) (hlen:(Lib.join (xs.map (·.data.toList)) sep.data.toList).length≤140737488355328) :
  Calls Try.prog 22 #[.slice (some ⟨bk,o,none⟩) xs.length c,.string sep] w fun e w'=>e=.returned (.string ⟨(Lib.join (xs.map (·.data.toList)) sep.data.toList).toArray⟩)∧Below w.heap.size w w':=Any.strings_Join Try.lays156 Try.Builder_Extra_156 bk o c xs sep w hcells hbk hN hcap hlen
end Go.Proofs
noncomputable section
namespace Go.Av
open Go Go.Proofs
set_option maxRecDepth 10000
theorem Step.below {D:DMap} {β:List Bi} {objs:List Ob} {w w':World} (hp:Heap D β objs w) (h:Go.RowKit.Below w.heap.size w w'):Step D β objs w D β objs w' :=
 Step.ext hp h.block h.size h.os h.tape h.output (fun _ _ h=>h) (fun ad v h0 h2=>by rw [h2] at h0;cases h0)
theorem strs_vals {D:DMap}:∀ (ss:List (List Nat)) (vs:List Value),vs.length=ss.length→(∀ (j:Nat) c v,(ss.map DV.str)[j]?=some c→vs[j]?=some v→RepD D c v) →
  ∃ xs:List ByteArray,vs=xs.map Value.string∧ss=xs.map fun b=>b.data.toList.map UInt8.toNat
 |[],vs,hl,_=>⟨[],by simpa using hl,rfl⟩
 |s :: ss,[],hl,_=>by simp at hl
 |s :: ss,v :: vs,hl,h=>by
  obtain⟨xs,h1,h2⟩:=strs_vals ss vs (by simpa using hl) fun j c v hc hv=>h (j+1) c v (by simpa using hc) (by simpa using hv)
  have h0:=h 0 (.str s) v rfl rfl
  cases h0 with
  |@str _ b hb=>exact⟨b :: xs,by simp [h1],by rw [h2];simp [hb]⟩
theorem inter_map {α β:Type} (f:α→β) (sep:List α) (l:List (List α)):(List.intercalate sep l).map f=List.intercalate (sep.map f) (l.map (·.map f)):=by
 simp only [List.intercalate]
 rw [List.map_flatten]
 congr 1
 induction l with
 |nil=>rfl
 |cons a l ih =>
  cases l with
  |nil=>rfl
  |cons b l=>simp only [List.intersperse,List.map_cons] at ih ⊢;rw [ih]
theorem joinK (ss:List (List Nat)) (sep:List Nat) (hn:ss.length≤1099511627776) (hl:(List.intercalate sep ss).length≤1099511627776):KnownCall Try.prog 22 [strs ss,.str sep] (.d (.str (List.intercalate sep ss))):=by
 intro o
 refine⟨enters_of Try.func22 (by kernel_rfl) rfl,fun D β w vs hp hr=>?_⟩
 obtain⟨v0,v1,rfl,h0,h1⟩:∃ v0 v1,vs=#[v0,v1]∧RepD D (strs ss) v0∧RepD D (.str sep) v1:=by
  obtain⟨l⟩:=vs
  obtain⟨h1,h2⟩:=hr
  match l,h1 with
  |[a,b],_ =>
   refine⟨a,b,rfl,?_,?_⟩
   ·have:=h2 0 _ a rfl rfl
    cases this with|d h=>exact h
   ·have:=h2 1 _ b rfl rfl
    cases this with|d h=>exact h
 have fl:∀ l:List (List Nat),flatD (l.map DV.str)=l.map DV.str:=fun l=>by
  induction l with
  |nil=>rfl
  |cons a l ih=>simp only [flatD,List.map_cons,List.flatMap_cons,cellsD] at ih ⊢;rw [ih];rfl
 cases h1 with
 |@str _ b hb =>
  generalize hes:ss.map DV.str=es at h0
  cases h0 with
  |@sl _ _ a cap us hc hm hsz hnn hv hD hrr =>
   subst hes
   rw [fl] at hv hrr
   obtain⟨xs,e1,e2⟩:=strs_vals ss us (by simpa using hv) hrr
   have hxl:xs.length=ss.length:=by rw [e2];simp
   have hres:∀ ys:List (List UInt8),(List.intercalate b.data.toList ys).map UInt8.toNat=List.intercalate sep (ys.map (·.map UInt8.toNat)):=fun ys=>by rw [inter_map,hb]
   have hin:(Lib.join (xs.map (·.data.toList)) b.data.toList).map UInt8.toNat=List.intercalate sep ss:=by
    rw [show Lib.join (xs.map (·.data.toList)) b.data.toList=List.intercalate b.data.toList (xs.map (·.data.toList)) from rfl,hres,e2,List.map_map];rfl
   cases ss with
   |nil =>
    have hx0:xs=[]:=List.length_eq_zero_iff.1 (by simpa using hxl)
    refine(callsIn_wide (n:=0)).2 ((Try.strings_Join_none a cap b w).mono fun e w' he=>?_)
    obtain⟨rfl,rfl⟩:=he
    exact .inl ⟨_,D,β,rfl,Step.refl hp,.d (.str rfl)⟩
   |cons s ss =>
    have hcl:(List.map DV.str (s :: ss)).length=xs.length:=by rw [hxl];simp
    cases a with
    |none=>have:=(hnn rfl).1;cases this
    |some ad =>
     obtain⟨hsp,hcell⟩:=hD ad rfl
     have hpos:0<xs.length:=by rw [hxl];simp
     obtain⟨blk,off,spot⟩:=ad
     have hspot:spot=none:=by
      rcases hsp with h|h
      ·omega
      ·exact h
     subst hspot
     have hcells:∀ (j:Nat) x,xs[j]?=some x→w.cell? ⟨blk,off+j,none⟩=some (.string x):=fun j x hx=>hp.cell (hcell j _ (by rw [e1];simp [hx]))
     have hlt:blk<w.heap.size:=by
      have:=hp.D_lt (hcell 0 (.string xs[0]) (by rw [e1];simp [hpos]))
      exact this
     rw [hcl]
     refine(callsIn_wide (n:=0)).2 ((Try.strings_Join blk off cap xs b w hcells hlt (by omega) (by omega) (by have:=congrArg List.length hin;simp only [List.length_map] at this;omega)).mono fun e w' he=>?_)
     obtain⟨rfl,hbel⟩:=he
     exact .inl ⟨_,D,β,rfl,Step.below hp hbel,.d (.str (by simp [hin]))⟩
end Go.Av
end
noncomputable section
namespace Go.Av
open Go Go.Proofs
set_option maxRecDepth 10000
theorem rulesTo_succ {x:Src} {i:Nat} {r:SRule} (h:x.rules[i]?=some r):rulesTo x (i+1)=rulesTo x i++ruleP r:=by
 unfold rulesTo;rw [List.take_add_one,h];simp
theorem rulesTo_le (x:Src) {i j:Nat} (h:i≤j):(rulesTo x i).length≤(rulesTo x j).length:=by
 unfold rulesTo
 obtain⟨d,rfl⟩:∃ d,j=i+d:=⟨j-i,by omega⟩
 rw [List.take_add,List.flatMap_append,List.length_append];omega
theorem altsTo_le (al:List (List (List Nat))) {i j:Nat} (h:i≤j):(altsTo al i).length≤(altsTo al j).length:=by
 induction j with
 |zero =>
  have:i=0:=by omega
  subst this;exact Nat.le_refl _
 |succ j ih =>
  rcases Nat.lt_or_ge i (j+1) with h1|h1
  ·have:=ih (by omega)
   simp only [altsTo,List.length_append];omega
  ·have:i=j+1:=by omega
   subst this;exact Nat.le_refl _
def altTo (a:List (List Nat)) (n:Nat):List Nat:=altTx (a.take n)
theorem altTo_succ {a:List (List Nat)} {i:Nat} {s:List Nat} (h:a[i]?=some s):altTo a (i+1)=altTo a i++(32 :: s):=by
 unfold altTo altTx;rw [List.take_add_one,h];simp
theorem altTo_le (a:List (List Nat)) (i:Nat):(altTo a i).length≤(altTx a).length:=by
 unfold altTo altTx
 conv=>rhs;rw [← List.take_append_drop i a,List.flatMap_append,List.length_append]
 omega
def firstP (x:Src):List (List Nat):=[[108,111,111,107,97,104,101,97,100,32],[48+x.k.toNat],[59,10,116,111,107,101,110,32],List.intercalate [44,32] x.tokens,[59,10,115,101,112,97,114,97,116,111,114,32],x.sep,[59,10,115,116,97,114,116,32],x.start,[59,10]]
theorem firstP_head (x:Src):(firstP x).flatten=headP x:=by simp [firstP,headP]
theorem putE {l l':List Nat} (ss:List (List Nat)) (q:Nat) (rest:List Ob) (he:l++ss.flatten=l') (hq:ss.length=q+1) (hs:l'.length≤1099511627776) (hl:q≤1000) :
  ACall Try.prog 21 [.bp 0 0,.d (strs ss)] (prB l rest) (.tup []) (prO q l' rest):=by
 subst he;exact putR l ss q rest hq hs hl
theorem printS (x:Src) (hf:FitsX x) (ht:(innerX x).length≤1048576) (h0:checkX x=0) (hp:(printX x).length≤1099511627776) (hb:∀ c ∈ printX x,c<256) :
  KnownCall Try.prog 7 [encX x] (.tup [.d (.str (printX x)),.d (.int .i64 0)]):=by
 have hk:x.k=1∨x.k=2∨x.k=3∨x.k=4:=by
  have hn:¬ (x.k<1∨4<x.k):=fun h=>by rw [checkX_k h] at h0;cases h0
  omega
 have e1:AV.d (.int .i64 (IntKind.i64.wrap (48+x.k)))=.d (.int .i64 (48+x.k)):=by rcases hk with h|h|h|h<;>rw [h]<;>rfl
 have e2:AV.d (.int .u8 (IntKind.u8.wrap (48+x.k)))=.d (.int .u8 (48+x.k)):=by rcases hk with h|h|h|h<;>rw [h]<;>rfl
 have e3:AV.d (.str [(48+x.k).toNat % 256])=.d (.str [48+x.k.toNat]):=by rcases hk with h|h|h|h<;>rw [h]<;>rfl
 have hc:=checkS x hf ht
 rw [h0] at hc
 have hpl:(printX x).length=(headP x).length+(rulesTo x x.rules.length).length:=by simp [printX]
 have hjl:(List.intercalate [44,32] x.tokens).length≤1099511627776:=by
  simp only [headP,List.length_append] at hpl;omega
 have htl:=hf.tokens
 have hrls:=hf.rules
 refine knownE Yo (fnAt Try.func7 (by kernel_rfl) (by kernel_rfl):FnAt _ _ (mkFn Try.f7 [1,24,33,45,58,68,73])) ?_
 repeat refine zG [1,24,33,45,58,68,73] ?_
 iterate 3 refine zX [1,24,33,45,58,68,73] ?_
 repeat refine zG [1,24,33,45,58,68,73] ?_
 refine zX [1,24,33,45,58,68,73] ?_
 refine oC hc ?_
 refine zX [1,24,33,45,58,68,73] ?_
 repeat refine zG [1,24,33,45,58,68,73] ?_
 iterate 2 refine zX [1,24,33,45,58,68,73] ?_
 repeat refine zG [1,24,33,45,58,68,73] ?_
 iterate 3 refine zX [1,24,33,45,58,68,73] ?_
 repeat refine zG [1,24,33,45,58,68,73] ?_
 iterate 3 refine eX ?_
 refine eX (v:=.d (.int .i64 (48+x.k))) ?_ (he:=e1)
 refine eX (v:=.d (.int .u8 (48+x.k))) ?_ (he:=e2)
 refine eX ?_
 refine eX (v:=.d (.str [48+x.k.toNat])) ?_ (he:=e3)
 iterate 2 refine eX ?_
 refine eC (joinK x.tokens [44,32] (by omega) hjl) ?_
 iterate 4 refine eX ?_
 refine eX (v:=.d (strs (firstP x))) (v':=.d (strs (firstP x))) (ob:=none) (fl:=true) ?_ (hv:=by kernel_rfl) (he:=rfl)
 refine EvD.callO (by rfl) (by rfl) (by rfl) (put0 _ (firstP x).tail ?_ (by simp [firstP])) (by rfl) (by rfl) ?_
 ·show((firstP x).flatten).length≤_
  rw [firstP_head];omega
 refine eN ?_
 repeat refine zG [1,24,33,45,58,68,73] ?_
 iterate 4 refine zX [1,24,33,45,58,68,73] ?_
 repeat refine zG [1,24,33,45,58,68,73] ?_
 refine Run.loopR (fun i:Nat=>⟨PT.ofList [(1,cellX x),(5,.bp 0 0),(36,.d (.sl 2 (x.rules.map encR))),(37,.d (.int .i64 (x.rules.map encR).length)),(38,.d (.int .i64 i))],prB (headP x++rulesTo x i) [],[]⟩) (fun i=>i≤x.rules.length) (fun i=>x.rules.length-i) 0 (Nat.zero_le _) (prR3 _ (show(firstP x).flatten=_ by rw [firstP_head];simp [rulesTo]) ⟨⟨rfl,rfl⟩,⟨rfl,rfl⟩,⟨rfl,rfl⟩,⟨rfl,rfl⟩,⟨rfl,rfl⟩,trivial⟩) (fun i hi=>?_)
 repeat refine zG [1,24,33,45,58,68,73] ?_
 refine zX [1,24,33,45,58,68,73] ?_
 repeat refine zG [1,24,33,45,58,68,73] ?_
 refine Run.cond (by rfl) (fun h=>?_) (fun h=>?_)
 ·have hlt:i<x.rules.length:=by simpa using h
  obtain⟨r,hr⟩:=get_ok hlt
  repeat refine zG [1,24,33,45,58,68,73] ?_
  first|refine oX (frz:=[1,24,33,45,58,68,73]) (v:=.d (.ep [.str r.name,alts r.alts])) Yo ?_ (hf:=(by first|(simp [inB]<;>fail)|(simp [inB];omega))) (he:=(by first|(simp [List.getD_eq_getElem?_getD,cellsD,hr,encR]<;>fail)|fail))|refine eX (v:=.d (.ep [.str r.name,alts r.alts])) ?_ (hf:=(by first|(simp [inB]<;>fail)|(simp [inB];omega))) (he:=(by first|(simp [List.getD_eq_getElem?_getD,cellsD,hr,encR]<;>fail)|fail))
  iterate 3 refine zX [1,24,33,45,58,68,73] ?_
  repeat refine zG [1,24,33,45,58,68,73] ?_
  iterate 4 refine zX [1,24,33,45,58,68,73] ?_
  have hRL:(headP x++rulesTo x i++ruleP r).length≤1099511627776:=by
   have h1:=rulesTo_succ hr
   have h2:=rulesTo_le x (i:=i+1) (j:=x.rules.length) hlt
   rw [List.append_assoc,← h1,List.length_append];omega
  have hrm:=List.mem_of_getElem? hr
  have hal:=hf.alts r hrm
  have hRl:(ruleP r).length=r.name.length+2+(altsTo r.alts r.alts.length).length+3:=by simp [ruleP];omega
  rw [List.length_append] at hRL
  generalize hB:headP x++rulesTo x i=B at *
  refine RunOps.call (by rfl) (by rfl) (putE (l:=B) (l':=B++r.name++[32,61]) [r.name,[32,61]] 1 [.box ([.str r.name,alts r.alts].map .d)] (by simp) rfl (by simp only [List.length_append,List.length_cons,List.length_nil];omega) (by omega)) (by rfl) (by rfl) ?_
  refine RunOps.relab (prR1 [.str r.name,alts r.alts] [(1,cellX x),(5,.bp 0 0),(36,.d (.sl 2 (x.rules.map encR))),(37,.d (.int .i64 (x.rules.map encR).length)),(38,.d (.int .i64 i)),(7,.bp 2 0)] rfl ⟨⟨rfl,rfl⟩,⟨rfl,rfl⟩,⟨rfl,rfl⟩,⟨rfl,rfl⟩,⟨rfl,rfl⟩,⟨rfl,rfl⟩,trivial⟩) ?_
  repeat refine zG [1,24,33,45,58,68,73] ?_
  iterate 4 refine zX [1,24,33,45,58,68,73] ?_
  repeat refine zG [1,24,33,45,58,68,73] ?_
  refine Run.loopR (fun k:Nat=>⟨PT.ofList [(1,cellX x),(5,.bp 0 0),(36,.d (.sl 2 (x.rules.map encR))),(37,.d (.int .i64 (x.rules.map encR).length)),(38,.d (.int .i64 i)),(7,.bp 2 0),(48,.d (alts r.alts)),(49,.d (.int .i64 (r.alts.map strs).length)),(50,.d (.int .i64 k))],prB (B++r.name++[32,61]++altsTo r.alts k) [.box ([.str r.name,alts r.alts].map .d)],[]⟩) (fun k=>k≤r.alts.length) (fun k=>r.alts.length-k) 0 (Nat.zero_le _) (prI1 [.str r.name,alts r.alts] _ (by simp [altsTo]) ⟨⟨rfl,rfl⟩,⟨rfl,rfl⟩,⟨rfl,rfl⟩,⟨rfl,rfl⟩,⟨rfl,rfl⟩,⟨rfl,rfl⟩,⟨rfl,rfl⟩,⟨rfl,rfl⟩,⟨rfl,rfl⟩,trivial⟩) (fun k hk=>?_)
  repeat refine zG [1,24,33,45,58,68,73] ?_
  refine zX [1,24,33,45,58,68,73] ?_
  repeat refine zG [1,24,33,45,58,68,73] ?_
  refine Run.cond (by rfl) (fun h=>?_) (fun h=>?_)
  ·have hklt:k<r.alts.length:=by simpa using h
   obtain⟨a,ha⟩:=get_ok hklt
   have ham:=List.mem_of_getElem? ha
   have hanl:=hf.names r hrm a ham
   have hgd:r.alts.getD k []=a:=by rw [List.getD_eq_getElem?_getD,ha];rfl
   have hnext:altsTo r.alts (k+1)=altsTo r.alts k++barP k++altTx a:=by rw [← hgd];rfl
   have hkl:=altsTo_le r.alts (i:=k+1) (j:=r.alts.length) hklt
   rw [hnext] at hkl
   simp only [List.length_append] at hkl
   repeat refine zG [1,24,33,45,58,68,73] ?_
   refine zX [1,24,33,45,58,68,73] ?_
   first|refine oX (frz:=[1,24,33,45,58,68,73]) (v:=.d (.ep [strs a])) Yo ?_ (hf:=(by first|(simp [inB]<;>fail)|(simp [inB];omega))) (he:=(by first|(simp [List.getD_eq_getElem?_getD,cellsD,ha]<;>fail)|fail))|refine eX (v:=.d (.ep [strs a])) ?_ (hf:=(by first|(simp [inB]<;>fail)|(simp [inB];omega))) (he:=(by first|(simp [List.getD_eq_getElem?_getD,cellsD,ha]<;>fail)|fail))
   iterate 3 refine zX [1,24,33,45,58,68,73] ?_
   repeat refine zG [1,24,33,45,58,68,73] ?_
   iterate 2 refine zX [1,24,33,45,58,68,73] ?_
   repeat refine zG [1,24,33,45,58,68,73] ?_
   refine Run.mono (K:=fun e s1=>e=.normal∧Relab 0 s1 ⟨PT.ofList [(1,cellX x),(5,.bp 0 0),(36,.d (.sl 2 (x.rules.map encR))),(37,.d (.int .i64 (x.rules.map encR).length)),(38,.d (.int .i64 i)),(7,.bp 2 0),(48,.d (alts r.alts)),(49,.d (.int .i64 (r.alts.map strs).length)),(50,.d (.int .i64 k)),(9,.d (strs a))],prB (B++r.name++[32,61]++altsTo r.alts k++barP k) [.box ([.str r.name,alts r.alts].map .d)],[]⟩) ?_ (fun e s1 hk1=>?_)
   ·rcases k with _|k
    ·repeat refine zG [1,24,33,45,58,68,73] ?_
     exact⟨rfl,prI1 [.str r.name,alts r.alts] _ (by simp [barP]) ⟨⟨rfl,rfl⟩,⟨rfl,rfl⟩,⟨rfl,rfl⟩,⟨rfl,rfl⟩,⟨rfl,rfl⟩,⟨rfl,rfl⟩,⟨rfl,rfl⟩,⟨rfl,rfl⟩,⟨rfl,rfl⟩,⟨rfl,rfl⟩,trivial⟩⟩
    ·have hb2:(barP (k+1)).length=2:=rfl
     refine Run.cond (by rfl) (fun h1=>?_) (fun h1=>?_)
     ·repeat refine zG [1,24,33,45,58,68,73] ?_
      iterate 2 refine zX [1,24,33,45,58,68,73] ?_
      refine RunOps.call (by rfl) (by rfl) (putE (l':=B++r.name++[32,61]++altsTo r.alts (k+1)++barP (k+1)) [[32,124]] 0 [.box ([.str r.name,alts r.alts].map .d)] (by simp [barP]) rfl (by simp only [List.length_append,List.length_cons,List.length_nil];omega) (by omega)) (by rfl) (by rfl) ?_
      repeat refine zG [1,24,33,45,58,68,73] ?_
      exact⟨rfl,prR1 [.str r.name,alts r.alts] _ rfl ⟨⟨rfl,rfl⟩,⟨rfl,rfl⟩,⟨rfl,rfl⟩,⟨rfl,rfl⟩,⟨rfl,rfl⟩,⟨rfl,rfl⟩,⟨rfl,rfl⟩,⟨rfl,rfl⟩,⟨rfl,rfl⟩,⟨rfl,rfl⟩,trivial⟩⟩
     ·exfalso;simp at h1
   ·obtain⟨rfl,hk1⟩:=hk1
    refine Run.relab hk1 ?_
    repeat refine zG [1,24,33,45,58,68,73] ?_
    iterate 3 refine zX [1,24,33,45,58,68,73] ?_
    repeat refine zG [1,24,33,45,58,68,73] ?_
    refine Run.loopR (fun j:Nat=>⟨PT.ofList [(1,cellX x),(5,.bp 0 0),(36,.d (.sl 2 (x.rules.map encR))),(37,.d (.int .i64 (x.rules.map encR).length)),(38,.d (.int .i64 i)),(7,.bp 2 0),(48,.d (alts r.alts)),(49,.d (.int .i64 (r.alts.map strs).length)),(50,.d (.int .i64 k)),(9,.d (strs a)),(60,.d (strs a)),(61,.d (.int .i64 (a.map DV.str).length)),(62,.d (.int .i64 j))],prB (B++r.name++[32,61]++altsTo r.alts k++barP k++altTo a j) [.box ([.str r.name,alts r.alts].map .d)],[]⟩) (fun j=>j≤a.length) (fun j=>a.length-j) 0 (Nat.zero_le _) (prI1 [.str r.name,alts r.alts] _ (by simp [altTo,altTx]) ⟨⟨rfl,rfl⟩,⟨rfl,rfl⟩,⟨rfl,rfl⟩,⟨rfl,rfl⟩,⟨rfl,rfl⟩,⟨rfl,rfl⟩,⟨rfl,rfl⟩,⟨rfl,rfl⟩,⟨rfl,rfl⟩,⟨rfl,rfl⟩,⟨rfl,rfl⟩,⟨rfl,rfl⟩,⟨rfl,rfl⟩,trivial⟩) (fun j hj=>?_)
    repeat refine zG [1,24,33,45,58,68,73] ?_
    refine zX [1,24,33,45,58,68,73] ?_
    repeat refine zG [1,24,33,45,58,68,73] ?_
    refine Run.cond (by rfl) (fun h=>?_) (fun h=>?_)
    ·have hjlt:j<a.length:=by simpa using h
     obtain⟨s,hsj⟩:=get_ok hjlt
     have hsu:=altTo_succ hsj
     have hjl:=altTo_le a (j+1)
     rw [hsu,List.length_append] at hjl
     repeat refine zG [1,24,33,45,58,68,73] ?_
     first|refine oX (frz:=[1,24,33,45,58,68,73]) (v:=.d (.ep [.str s])) Yo ?_ (hf:=(by first|(simp [inB]<;>fail)|(simp [inB];omega))) (he:=(by first|(simp [List.getD_eq_getElem?_getD,cellsD,hsj]<;>fail)|fail))|refine eX (v:=.d (.ep [.str s])) ?_ (hf:=(by first|(simp [inB]<;>fail)|(simp [inB];omega))) (he:=(by first|(simp [List.getD_eq_getElem?_getD,cellsD,hsj]<;>fail)|fail))
     iterate 2 refine zX [1,24,33,45,58,68,73] ?_
     repeat refine zG [1,24,33,45,58,68,73] ?_
     iterate 3 refine zX [1,24,33,45,58,68,73] ?_
     refine RunOps.call (by rfl) (by rfl) (putE (l':=B++r.name++[32,61]++altsTo r.alts k++barP k++altTo a j++(32 :: s)) [[32],s] 1 [.box ([.str r.name,alts r.alts].map .d)] (by simp) rfl (by simp only [List.length_append,List.length_cons,List.length_nil] at hjl ⊢;omega) (by omega)) (by rfl) (by rfl) ?_
     refine RunOps.relab (prR1 [.str r.name,alts r.alts] [(1,cellX x),(5,.bp 0 0),(36,.d (.sl 2 (x.rules.map encR))),(37,.d (.int .i64 (x.rules.map encR).length)),(38,.d (.int .i64 i)),(7,.bp 2 0),(48,.d (alts r.alts)),(49,.d (.int .i64 (r.alts.map strs).length)),(50,.d (.int .i64 k)),(9,.d (strs a)),(60,.d (strs a)),(61,.d (.int .i64 (a.map DV.str).length)),(62,.d (.int .i64 j))] (by rw [List.append_assoc _ (altTo a j),← hsu]) ⟨⟨rfl,rfl⟩,⟨rfl,rfl⟩,⟨rfl,rfl⟩,⟨rfl,rfl⟩,⟨rfl,rfl⟩,⟨rfl,rfl⟩,⟨rfl,rfl⟩,⟨rfl,rfl⟩,⟨rfl,rfl⟩,⟨rfl,rfl⟩,⟨rfl,rfl⟩,⟨rfl,rfl⟩,⟨rfl,rfl⟩,trivial⟩) ?_
     repeat refine zG [1,24,33,45,58,68,73] ?_
     refine zX [1,24,33,45,58,68,73] ?_
     refine oX (frz:=[1,24,33,45,58,68,73]) (v:=.d (.int .i64 (j+1:Nat))) Yo ?_ (he:=congrArg (fun n=>AV.d (.int .i64 n)) (wrap_nat (n:=j+1) (by omega)))
     repeat refine zG [1,24,33,45,58,68,73] ?_
     exact⟨j+1,hjlt,by omega,prI1 [.str r.name,alts r.alts] _ rfl ⟨⟨rfl,rfl⟩,⟨rfl,rfl⟩,⟨rfl,rfl⟩,⟨rfl,rfl⟩,⟨rfl,rfl⟩,⟨rfl,rfl⟩,⟨rfl,rfl⟩,⟨rfl,rfl⟩,⟨rfl,rfl⟩,⟨rfl,rfl⟩,⟨rfl,rfl⟩,⟨rfl,rfl⟩,⟨rfl,rfl⟩,trivial⟩⟩
    ·have hge:j=a.length:=by simp at h;omega
     subst hge
     have hta:altTo a a.length=altTx a:=by rw [altTo,List.take_length]
     repeat refine zG [1,24,33,45,58,68,73] ?_
     refine zX [1,24,33,45,58,68,73] ?_
     refine oX (frz:=[1,24,33,45,58,68,73]) (v:=.d (.int .i64 (k+1:Nat))) Yo ?_ (he:=congrArg (fun n=>AV.d (.int .i64 n)) (wrap_nat (n:=k+1) (by omega)))
     repeat refine zG [1,24,33,45,58,68,73] ?_
     exact⟨k+1,hklt,by omega,prI1 [.str r.name,alts r.alts] _ (by rw [hta,hnext];simp only [List.append_assoc]) ⟨⟨rfl,rfl⟩,⟨rfl,rfl⟩,⟨rfl,rfl⟩,⟨rfl,rfl⟩,⟨rfl,rfl⟩,⟨rfl,rfl⟩,⟨rfl,rfl⟩,⟨rfl,rfl⟩,⟨rfl,rfl⟩,trivial⟩⟩
  ·have hge:k=r.alts.length:=by simp at h;omega
   subst hge
   have hru:B++ruleP r=headP x++rulesTo x (i+1):=by rw [rulesTo_succ hr,← hB,List.append_assoc]
   repeat refine zG [1,24,33,45,58,68,73] ?_
   iterate 2 refine zX [1,24,33,45,58,68,73] ?_
   refine RunOps.call (by rfl) (by rfl) (putE (l':=B++ruleP r) [[32,59,10]] 0 [.box ([.str r.name,alts r.alts].map .d)] (by simp [ruleP]) rfl (by rw [List.length_append];omega) (by omega)) (by rfl) (by rfl) ?_
   repeat refine zG [1,24,33,45,58,68,73] ?_
   refine zX [1,24,33,45,58,68,73] ?_
   refine oX (frz:=[1,24,33,45,58,68,73]) (v:=.d (.int .i64 (i+1:Nat))) Yo ?_ (he:=congrArg (fun n=>AV.d (.int .i64 n)) (wrap_nat (n:=i+1) (by omega)))
   repeat refine zG [1,24,33,45,58,68,73] ?_
   exact⟨i+1,hlt,by omega,prR2 _ hru ⟨⟨rfl,rfl⟩,⟨rfl,rfl⟩,⟨rfl,rfl⟩,⟨rfl,rfl⟩,⟨rfl,rfl⟩,trivial⟩⟩
 ·have hge:i=x.rules.length:=by simp at h;omega
  subst hge
  repeat refine zG [1,24,33,45,58,68,73] ?_
  iterate 3 refine zX [1,24,33,45,58,68,73] ?_
  refine RunOps.call (by rfl) (by rfl) (strSP 0 (printX x) (by simp [printX,headP]) hb) (by rfl) (by rfl) ?_
  iterate 2 refine zX [1,24,33,45,58,68,73] ?_
  repeat refine zG [1,24,33,45,58,68,73] ?_
  refine Yt ?_
  exact rT rfl
end Go.Av
end
noncomputable section
namespace Go.Av
open Go Go.Proofs
set_option maxRecDepth 10000
def sepP:Nat→List Nat
 |0=>[]
 |_+1=>[44,32]
def joinTo (l:List (List Nat)):Nat→List Nat
 |0=>[]
 |n+1=>joinTo l n++sepP n++l.getD n []
theorem inter_snoc (sep a:List Nat):∀ l:List (List Nat),l≠[]→List.intercalate sep (l++[a])=List.intercalate sep l++sep++a
 |[],h=>absurd rfl h
 |[x],_=>by simp [List.intercalate,List.intersperse]
 |x :: y :: l,_=>by
  have ih:=inter_snoc sep a (y :: l) (by simp)
  simp only [List.intercalate,List.cons_append,List.intersperse,List.flatten_cons,List.append_assoc] at ih ⊢
  rw [ih]
theorem joinTo_inter (l:List (List Nat)):∀ n,n≤l.length→joinTo l n=List.intercalate [44,32] (l.take n)
 |0,_=>by simp [joinTo,List.intercalate]
 |n+1,h=>by
  have ih:=joinTo_inter l n (by omega)
  have hg:l[n]?=some l[n]:=by simp [h]
  have hd:l.getD n []=l[n]:=by rw [List.getD_eq_getElem?_getD,hg];rfl
  rw [joinTo,ih,hd,List.take_add_one,hg]
  cases n with
  |zero=>simp [List.intercalate,sepP]
  |succ n =>
   have hne:l.take (n+1)≠[]:=by
    intro e;have hl:=congrArg List.length e;rw [List.length_take] at hl;simp only [List.length_nil] at hl;omega
   rw [show(some l[n+1]).toList=[l[n+1]] from rfl,inter_snoc _ _ _ hne];rfl
end Go.Av
end
noncomputable section
namespace Go.Av
open Go Go.Proofs
set_option maxRecDepth 10000
def short8F (l:List (List Nat)):Bool:=decide (l.length≤12) && l.all (fun s=>decide (s.length≤40))
theorem short8F_iff {l:List (List Nat)}:short8F l=true ↔ l.length≤12∧∀ s ∈ l,s.length≤40:=by simp [short8F]
def lightR (r:SRule):Bool:=decide (r.name.length≤40) && decide (r.alts.length≤30) && r.alts.all short8F
def lightX (x:Src):Bool:=short8F x.tokens && decide (x.sep.length≤40) && decide (x.start.length≤40) && decide (x.rules.length≤12) && x.rules.all lightR
structure LightX (x:Src):Prop where
 tokens:x.tokens.length≤12∧∀ s ∈ x.tokens,s.length≤40
 sep:x.sep.length≤40
 start:x.start.length≤40
 rules:x.rules.length≤12
 names:∀ r ∈ x.rules,r.name.length≤40∧r.alts.length≤30∧∀ a ∈ r.alts,a.length≤12∧∀ s ∈ a,s.length≤40
theorem lightX_iff {x:Src} (h:lightX x=true):LightX x:=by
 simp only [lightX,Bool.and_eq_true,decide_eq_true_eq,List.all_eq_true,short8F_iff,lightR] at h
 exact⟨h.1.1.1.1,h.1.1.1.2,h.1.1.2,h.1.2,fun r hr=>⟨(h.2 r hr).1.1,(h.2 r hr).1.2,(h.2 r hr).2⟩⟩
theorem LightX.fits {x:Src} (h:LightX x):FitsX x where
 tokens:=by have:=h.tokens.1;omega
 rules:=by have:=h.rules;omega
 alts r hr:=by have:=(h.names r hr).2.1;omega
 names r hr a ha:=by have:=((h.names r hr).2.2 a ha).1;omega
 sep:=by have:=h.sep;omega
 start:=by have:=h.start;omega
 tokenS s hs:=by have:=h.tokens.2 s hs;omega
 ruleS r hr:=by have:=(h.names r hr).1;omega
 nameS r hr a ha s hs:=by have:=((h.names r hr).2.2 a ha).2 s hs;omega
theorem flatten_le {α:Type} {n:Nat}:∀ {l:List (List α)},(∀ a ∈ l,a.length≤n)→l.flatten.length≤l.length*n
 |[],_=>by simp
 |a :: l,h=>by
  have h1:=h a List.mem_cons_self
  have h2:=flatten_le (l:=l) fun b hb=>h b (List.mem_cons_of_mem _ hb)
  rw [List.flatten_cons,List.length_append,List.length_cons,Nat.succ_mul]
  omega
theorem LightX.inner {x:Src} (h:LightX x):(innerX x).length≤1048576:=by
 have h1:(innerX x).length≤(x.rules.map fun r=>r.alts.flatten).length*360:=by
  unfold innerX
  rw [List.flatMap_def]
  refine flatten_le fun a ha=>?_
  obtain⟨r,hr,rfl⟩:=List.mem_map.1 ha
  have h2:=flatten_le (l:=r.alts) (n:=12) fun a ha=>((h.names r hr).2.2 a ha).1
  have:=(h.names r hr).2.1
  omega
 have:=h.rules
 rw [List.length_map] at h1
 omega
theorem joinTo_len {l:List (List Nat)} {B:Nat} (h:∀ s ∈ l,s.length≤B):∀ n,(joinTo l n).length≤n*(2+B)
 |0=>by simp [joinTo]
 |n+1=>by
  have ih:=joinTo_len h n
  have hs:(sepP n).length≤2:=by cases n<;>simp [sepP]
  have hd:(l.getD n []).length≤B:=by
   rw [List.getD_eq_getElem?_getD]
   cases hg:l[n]? with
   |none=>simp
   |some s=>exact h s (List.mem_of_getElem? hg)
  simp only [joinTo,List.length_append]
  rw [Nat.succ_mul];omega
theorem altQ_len {a:List (List Nat)} {B:Nat} (h:∀ s ∈ a,s.length≤B):(altTx a).length≤a.length*(B+1):=by
 unfold altTx
 rw [List.flatMap_def]
 have:=flatten_le (l:=a.map fun s=>32 :: s) (n:=B+1) fun u hu=>by
  obtain⟨s,hs,rfl⟩:=List.mem_map.1 hu
  have:=h s hs
  simp only [List.length_cons];omega
 rwa [List.length_map] at this
theorem altsTo_len {al:List (List (List Nat))} {B:Nat} (h:∀ a ∈ al,(altTx a).length≤B):∀ n,(altsTo al n).length≤n*(2+B)
 |0=>by simp [altsTo]
 |n+1=>by
  have ih:=altsTo_len h n
  have hs:(barP n).length≤2:=by cases n<;>simp [barP]
  have hd:(altTx (al.getD n [])).length≤B:=by
   rw [List.getD_eq_getElem?_getD]
   cases hg:al[n]? with
   |none=>simp [altTx]
   |some s=>exact h s (List.mem_of_getElem? hg)
  simp only [altsTo,List.length_append]
  rw [Nat.succ_mul];omega
theorem LightX.print {x:Src} (h:LightX x):(printX x).length≤1099511627776:=by
 have h1:(List.intercalate [44,32] x.tokens).length≤x.tokens.length*42:=by
  have:=joinTo_inter x.tokens x.tokens.length (Nat.le_refl _)
  rw [List.take_length] at this
  rw [← this]
  exact joinTo_len h.tokens.2 _
 have h2:(rulesTo x x.rules.length).length≤x.rules.length*20000:=by
  unfold rulesTo
  rw [List.take_length,List.flatMap_def]
  have:=flatten_le (l:=x.rules.map ruleP) (n:=20000) fun u hu=>by
   obtain⟨r,hr,rfl⟩:=List.mem_map.1 hu
   obtain⟨g1,g2,g3⟩:=h.names r hr
   have g4:=altsTo_len (al:=r.alts) (B:=492) (fun a ha=>by
    have:=altQ_len (a:=a) (B:=40) (g3 a ha).2
    have:=(g3 a ha).1
    omega) r.alts.length
   simp only [ruleP,List.length_append,List.length_cons,List.length_nil]
   omega
  rwa [List.length_map] at this
 have:=h.tokens.1
 have:=h.rules
 have:=h.sep
 have:=h.start
 simp only [printX,headP,List.length_append,List.length_cons,List.length_nil]
 omega
structure ByteX (x:Src):Prop where
 tokens:∀ s ∈ x.tokens,∀ c ∈ s,c<256
 sep:∀ c ∈ x.sep,c<256
 start:∀ c ∈ x.start,c<256
 rules:∀ r ∈ x.rules,∀ c ∈ r.name,c<256
 names:∀ r ∈ x.rules,∀ a ∈ r.alts,∀ s ∈ a,∀ c ∈ s,c<256
theorem joinTo_by {l:List (List Nat)} (h:∀ s ∈ l,∀ c ∈ s,c<256):∀ n,∀ c ∈ joinTo l n,c<256
 |0,c,hc=>by simp [joinTo] at hc
 |n+1,c,hc=>by
  simp only [joinTo,List.mem_append] at hc
  rcases hc with(hc|hc)|hc
  ·exact joinTo_by h n c hc
  ·cases n with
   |zero=>simp [sepP] at hc
   |succ n=>simp [sepP] at hc;omega
  ·rw [List.getD_eq_getElem?_getD] at hc
   cases hg:l[n]? with
   |none=>rw [hg] at hc;simp at hc
   |some s=>rw [hg] at hc;exact h s (List.mem_of_getElem? hg) c hc
theorem altQ_by {a:List (List Nat)} (h:∀ s ∈ a,∀ c ∈ s,c<256):∀ c ∈ altTx a,c<256:=by
 intro c hc
 simp only [altTx,List.mem_flatMap,List.mem_cons] at hc
 obtain⟨s,hs,rfl|hc⟩:=hc
 ·omega
 ·exact h s hs c hc
theorem altsTo_by {al:List (List (List Nat))} (h:∀ a ∈ al,∀ s ∈ a,∀ c ∈ s,c<256):∀ n,∀ c ∈ altsTo al n,c<256
 |0,c,hc=>by simp [altsTo] at hc
 |n+1,c,hc=>by
  simp only [altsTo,List.mem_append] at hc
  rcases hc with(hc|hc)|hc
  ·exact altsTo_by h n c hc
  ·cases n with
   |zero=>simp [barP] at hc
   |succ n=>simp [barP] at hc;omega
  ·refine altQ_by (a:=al.getD n []) (fun s hs c hc=>?_) c hc
   rw [List.getD_eq_getElem?_getD] at hs
   cases hg:al[n]? with
   |none=>rw [hg] at hs;simp at hs
   |some a=>rw [hg] at hs;exact h a (List.mem_of_getElem? hg) s hs c hc
theorem ByteX.head {x:Src} (h:ByteX x) (hk:x.k≤4):∀ c ∈ headP x,c<256:=by
 have hj:=joinTo_inter x.tokens x.tokens.length (Nat.le_refl _)
 rw [List.take_length] at hj
 intro c hc
 simp only [headP,List.mem_append] at hc
 rcases hc with(((((((hc|hc)|hc)|hc)|hc)|hc)|hc)|hc)|hc
 ·simp at hc;omega
 ·simp at hc;omega
 ·simp at hc;omega
 ·rw [← hj] at hc;exact joinTo_by h.tokens _ c hc
 ·simp at hc;omega
 ·exact h.sep c hc
 ·simp at hc;omega
 ·exact h.start c hc
 ·simp at hc;omega
theorem ByteX.print {x:Src} (h:ByteX x) (hk:x.k≤4):∀ c ∈ printX x,c<256:=by
 intro c hc
 rcases List.mem_append.1 (show c ∈ headP x++rulesTo x x.rules.length from hc) with hc|hc
 ·exact h.head hk c hc
 ·simp only [rulesTo,List.take_length,List.mem_flatMap] at hc
  obtain⟨r,hr,hc⟩:=hc
  simp only [ruleP,List.mem_append] at hc
  rcases hc with((hc|hc)|hc)|hc
  ·exact h.rules r hr c hc
  ·simp at hc;omega
  ·exact altsTo_by (h.names r hr) _ c hc
  ·simp at hc;omega
def printF (x:Src):List Nat:=if checkX x=0 then printX x else []
theorem printSA (x:Src) (hf:FitsX x) (ht:(innerX x).length≤1048576) (hp:(printX x).length≤1099511627776) (hb:ByteX x) :
  KnownCall Try.prog 7 [encX x] (.tup [.d (.str (printF x)),.d (.int .i64 (checkX x))]):=by
 by_cases h0:checkX x=0
 ·have hk:x.k≤4:=by
   have hn:¬ (x.k<1∨4<x.k):=fun h=>by rw [checkX_k h] at h0;cases h0
   omega
  rw [show printF x=printX x from if_pos h0,h0]
  exact printS x hf ht h0 hp (hb.print hk)
 ·have cc:=checkS x hf ht
  rw [show printF x=[] from if_neg h0]
  generalize checkX x=c at cc h0 ⊢
  refine knownE Yo (fnAt Try.func7 (by kernel_rfl) (by kernel_rfl):FnAt _ _ (mkFn Try.f7 [1])) ?_
  repeat' (first|refine zW [1] ?_|((refine zB [1] (fun h=>?_) (fun h=>?_))<;>(first|exact zk h|skip))|refine zX [1] ?_|refine zC (cc) ?_|(refine zE ?_;(rfl))|((exfalso;first|(simp_all<;>fail)|(simp_all;omega)))|fail)
end Go.Av
end
noncomputable section
namespace Go.Av
open Go Go.Proofs
set_option maxRecDepth 10000
theorem name12 {t:List Nat} (h:nameF t=0):t.length≤12:=by
 have hw:wordF t=0:=by
  unfold nameF at h
  split at h
  ·omega
  ·exact h
 unfold wordF at hw
 split at hw
 ·cases hw
 ·split at hw
  ·cases hw
  ·split at hw
   ·cases hw
   ·omega
theorem word_byte {c:Nat} (h:wordI (c:Nat)=true):c<256:=by
 simp only [wordI,letterI,digitI,Bool.or_eq_true,Bool.and_eq_true,decide_eq_true_eq,beq_iff_eq] at h
 omega
theorem isW_bytes {t:List Nat} (h:IsW t):∀ c ∈ t,c<256:=by
 cases t with
 |nil=>exact h.elim
 |cons c l =>
  intro d hd
  rcases List.mem_cons.1 hd with rfl|hd
  ·exact word_byte (by simp [wordI,h.1])
  ·exact word_byte (h.2 d hd)
theorem SoundX.light {x:Src} (h:SoundX x):LightX x where
 tokens:=⟨by have:=h.tok8;omega,fun s hs=>by have:=name12 (small_name (h.tokS s hs));omega⟩
 sep:=by have:=name12 (small_name h.sepS);omega
 start:=by have:=name12 (capital_name h.startC);omega
 rules:=by have:=h.rul8;omega
 names r hr:=⟨by have:=name12 (capital_name (h.rulC r hr));omega,by
  have h1:=h.sum
  have:∀ (l:List SRule),r ∈ l→r.alts.length≤(l.map (·.alts.length)).sum:=by
   intro l
   induction l with
   |nil=>intro h;cases h
   |cons u l ih =>
    intro h
    simp only [List.map_cons,List.sum_cons]
    rcases List.mem_cons.1 h with rfl|h
    ·omega
    ·have:=ih h;omega
  have:=this x.rules hr
  omega,fun a ha=>⟨by have:=h.alt6 r hr a ha;omega,fun s hs=>by have:=name12 (may_name (h.altM r hr a ha s hs));omega⟩⟩
theorem SoundX.bytes {x:Src} (h:SoundX x):ByteX x where
 tokens s hs:=isW_bytes (name_isW (small_name (h.tokS s hs)))
 sep:=isW_bytes (name_isW (small_name h.sepS))
 start:=isW_bytes (name_isW (capital_name h.startC))
 rules r hr:=isW_bytes (name_isW (capital_name (h.rulC r hr)))
 names r hr a ha s hs:=isW_bytes (name_isW (may_name (h.altM r hr a ha s hs)))
theorem encL_inj:∀ {l m:List Lx},l.map encL=m.map encL→l=m
 |[],[],_=>rfl
 |[],_ :: _,h=>by cases h
 |_ :: _,[],h=>by cases h
 |x :: l,y :: m,h=>by
  simp only [List.map_cons,List.cons.injEq,encL,lexD,DV.agg.injEq,DV.int.injEq,DV.str.injEq,true_and,and_true] at h
  obtain⟨⟨h1,h2,h3⟩,h4⟩:=h
  obtain⟨k,t,a⟩:=x
  obtain⟨k',t',a'⟩:=y
  simp only at h1 h2 h3
  rw [encL_inj h4,show k=k' by omega,h2,show a=a' by omega]
end Go.Av
end
noncomputable section
namespace Go.Av
open Go Go.Proofs
set_option maxRecDepth 100000
theorem nameB_iff (t:List Nat):nameB t=decide (nameF t=0):=by
 cases hb:nameB t with
 |true=>rw [nameB_ok hb];rfl
 |false =>
  symm
  rw [decide_eq_false]
  intro h
  have h1:=name_isW h
  have h2:=name12 h
  cases t with
  |nil=>exact h1
  |cons c l =>
   have hw:wordF (c :: l)=0:=by
    unfold nameF at h
    split at h
    ·omega
    ·exact h
   have h3:languageF (c :: l)=false:=by
    cases h4:languageF (c :: l) with
    |false=>rfl
    |true=>unfold nameF at h;rw [if_pos ⟨hw,h4⟩] at h;omega
   have:nameB (c :: l)=true:=by
    simp only [nameB,Bool.and_eq_true,List.all_eq_true,decide_eq_true_eq,Bool.not_eq_true']
    exact⟨⟨⟨h1.1,fun d hd=>h1.2 d hd⟩,h2⟩,h3⟩
   rw [hb] at this;cases this
theorem small_B:smallF=smallB:=by funext t;unfold smallF smallB;rw [nameB_iff]
theorem capital_B:capitalF=capB:=by funext t;unfold capitalF capB;rw [nameB_iff]
def mayB (t:List Nat):Bool:=smallB t || capB t
theorem may_B:mayF=mayB:=by funext t;unfold mayF mayB;rw [small_B,capital_B]
section
variable (s:List Nat)
def terminalB (sep:Bool) (p:PS):Except Fa (List Nat × PS):=(wordP s smallB p).bind fun q =>
 if(knowP q.2.names q.1.t).1=true∨(knowP q.2.names q.1.t).2.1=true then .error (8,q.1.a) else if sep=false∧q.2.x.tokens.length=8 then .error (6,q.1.a)
 else .ok (q.1.t,{ q.2 with names:=setP q.2.names q.1.t (!sep,sep,false) })
def tokenB (p:PS):Except Fa PS:=(terminalB s false p).bind fun q=>.ok { q.2 with x:={ q.2.x with tokens:=q.2.x.tokens++[q.1] } }
def tokensLB:Nat→PS→Except Fa PS
 |0,p=>.ok p
 |n+1,p=>if isL sComma p.l=true then(nextP s p).bind fun q=>(tokenB s q.2).bind fun p=>tokensLB n p else .ok p
def tokensB (p:PS):Except Fa PS:=(wantP s 1 wToken p).bind fun p=>(tokenB s p).bind fun p=>(tokensLB s (p.l.length+1) p).bind fun p=>wantP s 3 sSemi p
def sepB (p:PS):Except Fa PS:=(wantP s 1 wSep p).bind fun p=>(terminalB s true p).bind fun q=>wantP s 3 sSemi { q.2 with x:={ q.2.x with sep:=q.1 } }
def startB (p:PS):Except Fa PS:=(wantP s 1 wStart p).bind fun p=>(wordP s capB p).bind fun q=>wantP s 3 sSemi { q.2 with x:={ q.2.x with start:=q.1.t },uses:=q.2.uses++[(q.1.t,q.1.a)] }
def altB:Nat→List (List Nat)→PS→Except Fa (List (List Nat) × PS)
 |0,acc,p=>.ok (acc,p)
 |n+1,acc,p=>match p.l with
  |[]=>.ok (acc,p)
  |x :: _=>if x.k=1 then(wordP s mayB p).bind fun q=>if acc.length=6 then .error (6,q.1.a) else altB n (acc++[q.1.t]) { q.2 with uses:=q.2.uses++[(q.1.t,q.1.a)] } else .ok (acc,p)
def oneAltB (p:PS):Except Fa (List (List Nat) × PS):=altB s (p.l.length+1) [] p
def altsB:Nat→Bool→List (List (List Nat))→PS→Except Fa (List (List (List Nat)) × PS)
 |0,_,acc,p=>.ok (acc,p)
 |n+1,first,acc,p=>if first=false∧isL sBar p.l=false then .ok (acc,p) else(nextP s p).bind fun q =>
  if q.1.k=3∧q.1.t=(if first then sEq else sBar) then(if q.2.total=24 then .error (6,q.1.a) else(oneAltB s { q.2 with total:=q.2.total+1 }).bind fun v=>altsB n false (acc++[v.1]) v.2) else .error (3,q.1.a)
def ruleB (p:PS):Except Fa PS:=(wordP s capB p).bind fun q =>
 if(knowP q.2.names q.1.t).2.2=true then .error (8,q.1.a) else if q.2.x.rules.length=8 then .error (6,q.1.a)
 else(altsB s (q.2.l.length+1) true [] { q.2 with names:=setP q.2.names q.1.t (false,false,true) }).bind fun v=>(wantP s 3 sSemi v.2).bind fun p=>.ok { p with x:={ p.x with rules:=p.x.rules++[⟨q.1.t,v.1⟩] } }
def rulesB:Nat→Bool→PS→Except Fa PS
 |0,_,p=>.ok p
 |n+1,first,p=>if first=true∨0<p.l.length then(ruleB s p).bind fun p=>rulesB n false p else .ok p
def readB (ls:List Lx):Except Fa PS :=
 (lookP s ⟨ls,src0,[],[],0⟩).bind fun p=>(tokensB s p).bind fun p=>(sepB s p).bind fun p=>(startB s p).bind fun p=>(rulesB s (p.l.length+1) true p).bind fun p=>usedP p
theorem terminal_B:terminalP s=terminalB s:=by funext b p;unfold terminalP terminalB;rw [small_B]
theorem token_B:tokenP s=tokenB s:=by funext p;unfold tokenP tokenB;rw [terminal_B]
theorem tokensL_B:∀ n,tokensLP s n=tokensLB s n
 |0=>rfl
 |n+1=>by funext p;unfold tokensLP tokensLB;rw [token_B,tokensL_B n]
theorem tokens_B:tokensP s=tokensB s:=by funext p;unfold tokensP tokensB;simp only [token_B,tokensL_B]
theorem sep_B:sepQ s=sepB s:=by funext p;unfold sepQ sepB;simp only [terminal_B]
theorem start_B:startP s=startB s:=by funext p;unfold startP startB;simp only [capital_B]
theorem alt_B:∀ n,altQ s n=altB s n
 |0=>rfl
 |n+1=>by funext a p;unfold altQ altB;rw [may_B,alt_B n];rfl
theorem oneAlt_B:oneAltP s=oneAltB s:=by funext p;unfold oneAltP oneAltB;rw [alt_B]
theorem alts_B:∀ n,altsP s n=altsB s n
 |0=>rfl
 |n+1=>by funext b a p;unfold altsP altsB;rw [oneAlt_B,alts_B n]
theorem rule_B:ruleQ s=ruleB s:=by funext p;unfold ruleQ ruleB;simp only [capital_B,alts_B]
theorem rules_B:∀ n,rulesP s n=rulesB s n
 |0=>rfl
 |n+1=>by funext b p;unfold rulesP rulesB;rw [rule_B,rules_B n]
theorem read_B (ls:List Lx):readP s ls=readB s ls:=by unfold readP readB;simp only [tokens_B,sep_B,start_B,rules_B]
end
def lexY:Nat→List Nat→Nat→List Lx→Option (List Lx)
 |0,_,_,_=>none
 |n+1,l,a,acc=>match l.drop (passM false l) with
  |[]=>some acc
  |c :: r=>match beginsF (c :: r) with
   |(0,_)=>none
   |(k+1,t)=>lexY n ((c :: r).drop t.length) (a+passM false l+t.length) (acc++[⟨k+1,t,a+passM false l⟩])
theorem lexY_X (s:List Nat):∀ (n a:Nat) (acc:List Lx),a≤s.length→lexY n (s.drop a) a acc=lexX s n a acc
 |0,a,acc,_=>rfl
 |n+1,a,acc,ha=>by
  have hp:=atF4_le ha
  unfold lexY lexX
  rw [List.drop_drop]
  show(match s.drop (atF4 s a) with|[]=>some acc|c :: r=>_)=_
  cases hd:s.drop (atF4 s a) with
  |nil =>
   have:s.length≤atF4 s a:=List.drop_eq_nil_iff.1 hd
   rw [if_pos (by omega)]
  |cons c r =>
   have hlt:atF4 s a<s.length:=by
    rcases Nat.lt_or_ge (atF4 s a) s.length with h|h
    ·exact h
    ·rw [List.drop_eq_nil_iff.2 h] at hd;cases hd
   rw [if_neg (by omega)]
   have hb:=beginsF_len (c :: r)
   have hl:(c :: r).length=s.length-atF4 s a:=by rw [← hd,List.length_drop]
   rcases hq:beginsF (c :: r) with⟨k,t⟩
   rw [hq] at hb
   simp only at hb
   cases k with
   |zero=>simp only [hq,if_true]
   |succ k =>
    simp only [hq,Nat.add_one_ne_zero,if_false]
    rw [← hd,List.drop_drop]
    exact lexY_X s n _ _ (by omega)
def refB (p:List Nat):Bool:=match lexY (p.length+1) p 0 [] with
 |none=>false
 |some ls=>match readB p ls with
  |.ok _=>false
  |.error e=>decide (e.1≠0)
def markC (c:Nat):List Nat:=if c=59 then [c,32,35,32,114,101,109,97,114,107,10,9] else [c]
def markF (s:List Nat):List Nat:=s.flatMap markC
def markT (s:List Nat):List Nat:=[35,10]++(markF s).take ((markF s).length-3)
def blanksB (t:List Nat) (x:Src):Bool:=decide (t.length≤300) && (decide (2≤t.length) && (decide (t[t.length-1]?=some 59) && (textB (markT t) x && (decide (3≤(markF t).length∧(markF t).length≤2000) && (List.range t.length).all fun j=>refB (t.take j)))))
end Go.Av
end
noncomputable section
namespace Go.Av
open Go Go.Proofs
set_option maxRecDepth 100000
def blanksP (p:Nat × Nat × Nat):Bool:=blanksB (textT p.1 p.2.1 (ruleE p.2.2).2.2) (srcT p.1 p.2.1 p.2.2)
theorem chunk_all {α:Type} (P:α→Bool):∀ (n:Nat) (l:List α),l.length≤6*n→(∀ i,i<n→((l.drop (6*i)).take 6).all P=true)→l.all P=true
 |0,l,h,_=>by
  have:l=[]:=List.length_eq_zero_iff.1 (by omega)
  rw [this];rfl
 |n+1,l,h,k=>by
  have h1:=k 0 (by omega)
  have h2:=chunk_all P n (l.drop 6) (by rw [List.length_drop];omega) (fun i hi=>by
   rw [List.drop_drop]
   have:=k (i+1) (by omega)
   rwa [show 6*(i+1)=6+6*i by omega] at this)
  rw [← List.take_append_drop 6 l,List.all_append,h2,Bool.and_true]
  exact h1
theorem bl0:((allTx.drop (6*0)).take 6).all blanksP=true:=by kernel_rfl
theorem bl1:((allTx.drop (6*1)).take 6).all blanksP=true:=by kernel_rfl
theorem bl2:((allTx.drop (6*2)).take 6).all blanksP=true:=by kernel_rfl
theorem bl3:((allTx.drop (6*3)).take 6).all blanksP=true:=by kernel_rfl
theorem bl4:((allTx.drop (6*4)).take 6).all blanksP=true:=by kernel_rfl
theorem bl5:((allTx.drop (6*5)).take 6).all blanksP=true:=by kernel_rfl
theorem bl6:((allTx.drop (6*6)).take 6).all blanksP=true:=by kernel_rfl
theorem bl7:((allTx.drop (6*7)).take 6).all blanksP=true:=by kernel_rfl
theorem all_blanks:allTx.all blanksP=true:=chunk_all blanksP 8 allTx (Nat.le_of_ble_eq_true (by kernel_rfl)) fun i hi=>match i,hi with
 |0,_=>bl0
 |1,_=>bl1
 |2,_=>bl2
 |3,_=>bl3
 |4,_=>bl4
 |5,_=>bl5
 |6,_=>bl6
 |7,_=>bl7
 |i+8,h=>absurd h (by omega)
end Go.Av
end
noncomputable section
namespace Go.Av
open Go Go.Proofs
set_option maxRecDepth 10000
def m16 (n:Int):Nat:=(n % 16).toNat
theorem m16_lt (n:Int):m16 n<16:=by unfold m16;omega
theorem mod16 (n:Int) (hn:W64 n):KnownCall Try.prog 11 [.int .i64 n,.int .i64 16] (.d (.int .i64 (m16 n:Nat))):=by
 have hw:=hn
 unfold W64 at hw
 have hm:(m16 n:Int)=n % 16:=by unfold m16;omega
 have ht:n.tmod 16=if 0≤n∨(16:Int) ∣ n then n % 16 else n % 16-16:=by
  rw [Int.tmod_eq_emod]
  by_cases h:0≤n∨(16:Int) ∣ n
  ·rw [if_pos h,if_pos h];simp
  ·rw [if_neg h,if_neg h];rfl
 by_cases h:0≤n∨(16:Int) ∣ n
 ·rw [if_pos h] at ht
  rw [hm]
  refine knownE Yo (fnAt Try.func11 (by kernel_rfl) (by kernel_rfl):FnAt _ _ (mkFn Try.f11 [])) ?_
  repeat' (first|refine oX (frz:=[]) (v:=.d (.int .i64 (n % 16))) Yo ?_ (he:=(congrArg (fun x=>AV.d (.int .i64 x)) ht))|refine eX (v:=.d (.int .i64 (n % 16))) ?_ (he:=(congrArg (fun x=>AV.d (.int .i64 x)) ht))|refine zW [] ?_|((refine zB [] (fun h=>?_) (fun h=>?_))<;>(first|exact zk h|skip))|refine zX [] ?_|(refine zE ?_;(rfl))|((exfalso;first|(simp at h<;>fail)|(simp at h;omega)))|fail)
 ·rw [if_neg h] at ht
  rw [hm]
  have hneg:n % 16-16<0:=by omega
  refine knownE Yo (fnAt Try.func11 (by kernel_rfl) (by kernel_rfl):FnAt _ _ (mkFn Try.f11 [])) ?_
  repeat' (first|refine oX (frz:=[]) (v:=.d (.int .i64 (n % 16))) Yo ?_ (he:=(congrArg (fun x=>AV.d (.int .i64 x)) ((wrap64 (by omega) (by omega)).trans (by omega))))|refine eX (v:=.d (.int .i64 (n % 16))) ?_ (he:=(congrArg (fun x=>AV.d (.int .i64 x)) ((wrap64 (by omega) (by omega)).trans (by omega))))|refine oX (frz:=[]) (v:=.d (.int .i64 (n % 16-16))) Yo ?_ (he:=(congrArg (fun x=>AV.d (.int .i64 x)) ht))|refine eX (v:=.d (.int .i64 (n % 16-16))) ?_ (he:=(congrArg (fun x=>AV.d (.int .i64 x)) ht))|refine zW [] ?_|((refine zB [] (fun h=>?_) (fun h=>?_))<;>(first|exact zk h|skip))|refine zX [] ?_|(refine zE ?_;(rfl))|((exfalso;first|(simp at h<;>fail)|(simp at h;omega)))|fail)
def m40 (n:Int):Nat:=(n % 1099511627776).toNat
theorem m40_lt (n:Int):m40 n<1099511627776:=by unfold m40;omega
theorem mod40 (n:Int) (hn:W64 n):KnownCall Try.prog 11 [.int .i64 n,.int .i64 1099511627776] (.d (.int .i64 (m40 n:Nat))):=by
 have hw:=hn
 unfold W64 at hw
 have hm:(m40 n:Int)=n % 1099511627776:=by unfold m40;omega
 have ht:n.tmod 1099511627776=if 0≤n∨(1099511627776:Int) ∣ n then n % 1099511627776 else n % 1099511627776-1099511627776:=by
  rw [Int.tmod_eq_emod]
  by_cases h:0≤n∨(1099511627776:Int) ∣ n
  ·rw [if_pos h,if_pos h];simp
  ·rw [if_neg h,if_neg h];rfl
 by_cases h:0≤n∨(1099511627776:Int) ∣ n
 ·rw [if_pos h] at ht
  rw [hm]
  refine knownE Yo (fnAt Try.func11 (by kernel_rfl) (by kernel_rfl):FnAt _ _ (mkFn Try.f11 [])) ?_
  repeat' (first|refine oX (frz:=[]) (v:=.d (.int .i64 (n % 1099511627776))) Yo ?_ (he:=(congrArg (fun x=>AV.d (.int .i64 x)) ht))|refine eX (v:=.d (.int .i64 (n % 1099511627776))) ?_ (he:=(congrArg (fun x=>AV.d (.int .i64 x)) ht))|refine zW [] ?_|((refine zB [] (fun h=>?_) (fun h=>?_))<;>(first|exact zk h|skip))|refine zX [] ?_|(refine zE ?_;(rfl))|((exfalso;first|(simp at h<;>fail)|(simp at h;omega)))|fail)
 ·rw [if_neg h] at ht
  rw [hm]
  have hneg:n % 1099511627776-1099511627776<0:=by omega
  refine knownE Yo (fnAt Try.func11 (by kernel_rfl) (by kernel_rfl):FnAt _ _ (mkFn Try.f11 [])) ?_
  repeat' (first|refine oX (frz:=[]) (v:=.d (.int .i64 (n % 1099511627776))) Yo ?_ (he:=(congrArg (fun x=>AV.d (.int .i64 x)) ((wrap64 (by omega) (by omega)).trans (by omega))))|refine eX (v:=.d (.int .i64 (n % 1099511627776))) ?_ (he:=(congrArg (fun x=>AV.d (.int .i64 x)) ((wrap64 (by omega) (by omega)).trans (by omega))))|refine oX (frz:=[]) (v:=.d (.int .i64 (n % 1099511627776-1099511627776))) Yo ?_ (he:=(congrArg (fun x=>AV.d (.int .i64 x)) ht))|refine eX (v:=.d (.int .i64 (n % 1099511627776-1099511627776))) ?_ (he:=(congrArg (fun x=>AV.d (.int .i64 x)) ht))|refine zW [] ?_|((refine zB [] (fun h=>?_) (fun h=>?_))<;>(first|exact zk h|skip))|refine zX [] ?_|(refine zE ?_;(rfl))|((exfalso;first|(simp at h<;>fail)|(simp at h;omega)))|fail)
def tblS:List (List Nat):=[[49,32,49,32,83,32,61,32,97,32,83,32,124,32,59],[49,32,50,32,83,32,61,32,97,32,84,32,124,32,59,32,84,32,61,32,98,32,83,32,59],[50,32,50,32,83,32,61,32,97,32,84,32,124,32,59,32,84,32,61,32,98,32,83,32,59],[50,32,50,32,83,32,61,32,97,32,124,32,97,32,98,32,59],[49,32,51,32,83,32,61,32,97,32,83,32,98,32,124,32,99,32,59],[49,32,51,32,83,32,61,32,84,32,85,32,59,32,84,32,61,32,97,32,84,32,124,32,59,32,85,32,61,32,98,32,85,32,124,32,99,32,59],[50,32,51,32,83,32,61,32,97,32,97,32,83,32,124,32,97,32,98,32,124,32,99,32,59],[49,32,51,32,83,32,61,32,97,32,84,32,99,32,59,32,84,32,61,32,98,32,84,32,124,32,85,32,59,32,85,32,61,32,59],[50,32,51,32,83,32,61,32,84,32,99,32,124,32,98,32,83,32,59,32,84,32,61,32,98,32,97,32,124,32,59],[49,32,50,32,83,32,61,32,97,32,83,32,83,32,124,32,98,32,59],[51,32,50,32,83,32,61,32,97,32,97,32,97,32,124,32,97,32,97,32,98,32,83,32,124,32,98,32,59],[49,32,52,32,83,32,61,32,97,32,76,32,98,32,59,32,76,32,61,32,69,32,77,32,59,32,77,32,61,32,99,32,69,32,77,32,124,32,59,32,69,32,61,32,100,32,124,32,83,32,59],[50,32,50,32,83,32,61,32,84,32,84,32,59,32,84,32,61,32,97,32,98,32,124,32,98,32,97,32,59],[49,32,49,32,83,32,61,32,97,32,59],[50,32,51,32,83,32,61,32,97,32,84,32,124,32,97,32,98,32,99,32,59,32,84,32,61,32,97,32,124,32,99,32,83,32,59],[49,32,50,32,83,32,61,32,84,32,85,32,84,32,59,32,84,32,61,32,59,32,85,32,61,32,97,32,85,32,98,32,124,32,59]]
theorem rulesK (n:Int) (hn:W64 n):KnownCall Try.prog 38 [.int .i64 n] (.tup [.d (.int .i64 (ruleE (m16 n)).1),.d (.int .i64 (ruleE (m16 n)).2.1),.d (.str (ruleE (m16 n)).2.2)]):=by
 have cm:=mod16 n hn
 have hi:=m16_lt n
 generalize m16 n=i at cm hi ⊢
 rcases(by omega:i=0∨i=1∨i=2∨i=3∨i=4∨i=5∨i=6∨i=7∨i=8∨i=9∨i=10∨i=11∨i=12∨i=13∨i=14∨i=15) with rfl|rfl|rfl|rfl|rfl|rfl|rfl|rfl|rfl|rfl|rfl|rfl|rfl|rfl|rfl|rfl
 all_goals
  clear hi
  refine knownE Yo (fnAt Try.func38 (by kernel_rfl) (by kernel_rfl):FnAt _ _ (mkFn Try.f38 [7])) ?_
  repeat refine zS ?_
  iterate 3 refine zX [7] ?_
  repeat refine zS ?_
  refine oX (frz:=[7]) (v:=.d (strs tblS)) (v':=.d (strs tblS)) (ob:=none) (fl:=true) (objs':=[]) Yo ?_ (hv:=by kernel_rfl) (he:=rfl) (ho:=rfl)
  repeat' (first|refine zW [7] ?_|((refine zB [7] (fun h=>?_) (fun h=>?_))<;>(first|exact zk h|skip))|refine zX [7] ?_|refine zC (cm) ?_|(refine zE ?_;(rfl))|(fail)|fail)
end Go.Av
end
noncomputable section
namespace Go.Av
open Go Go.Proofs
set_option maxRecDepth 10000
theorem toksT_len:∀ t,(toksT t).length≤3*t
 |0=>by simp [toksT]
 |1=>by simp [toksT]
 |j+2=>by have:=toksT_len (j+1);simp only [toksT,List.length_append,List.length_cons,List.length_nil];omega
theorem toksT_succ {j:Nat} (h:1≤j):toksT (j+1)=toksT j++[44,32]++[97+j]:=by
 obtain⟨i,rfl⟩:∃ i,j=i+1:=⟨j-1,by omega⟩
 rfl
set_option maxHeartbeats 16000000 in
theorem textK0 (n:Int) (hn:W64 n) (k t:Nat) (s:List Nat) (hr:KnownCall Try.prog 38 [.int .i64 n] (.tup [.d (.int .i64 (k:Nat)),.d (.int .i64 (t:Nat)),.d (.str s)])) (hk:k≤4) (ht:t≤4) (ht1:1≤t) (hs:s.length≤1000) :
  KnownCall Try.prog 10 [.int .i64 n] (.d (.str (textT (kTx (m40 n / 16) k) (tTx (m40 n / 16) t) s))):=by
 have cm:=mod40 n hn
 have hm:=m40_lt n
 generalize m40 n=m at cm hm ⊢
 have hq:AV.d (.int .i64 (IntKind.i64.wrap ((m:Int).tdiv 16)))=.d (.int .i64 ((m / 16:Nat):Int)):=congrArg (fun x=>AV.d (.int .i64 x)) ((congrArg IntKind.i64.wrap (show(m:Int).tdiv 16=((m / 16:Nat):Int) by rw [Int.tdiv_eq_ediv_of_nonneg (by omega)];omega)).trans (wrap_nat (by omega)))
 have hmq:m / 16<68719476736:=by omega
 generalize m / 16=q at hq hmq ⊢
 have hq3:AV.d (.int .i64 ((q:Int).tmod 3))=.d (.int .i64 ((q % 3:Nat):Int)):=congrArg (fun x=>AV.d (.int .i64 x)) (by rw [Int.tmod_eq_emod_of_nonneg (by omega)];omega)
 have hd3:AV.d (.int .i64 (IntKind.i64.wrap ((q:Int).tdiv 3)))=.d (.int .i64 ((q / 3:Nat):Int)):=congrArg (fun x=>AV.d (.int .i64 x)) ((congrArg IntKind.i64.wrap (show(q:Int).tdiv 3=((q / 3:Nat):Int) by rw [Int.tdiv_eq_ediv_of_nonneg (by omega)];omega)).trans (wrap_nat (by omega)))
 have hd34:AV.d (.int .i64 (((q / 3:Nat):Int).tmod 4))=.d (.int .i64 ((q / 3 % 4:Nat):Int)):=congrArg (fun x=>AV.d (.int .i64 x)) (by rw [Int.tmod_eq_emod_of_nonneg (by omega)];omega)
 have hka:AV.d (.int .i64 (IntKind.i64.wrap ((k:Int)+1)))=.d (.int .i64 ((k+1:Nat):Int)):=vN8 (by omega) (by omega)
 have hta:AV.d (.int .i64 (IntKind.i64.wrap ((t:Int)+1)))=.d (.int .i64 ((t+1:Nat):Int)):=vN8 (by omega) (by omega)
 refine knownE Yo (fnAt Try.func10 (by kernel_rfl) (by kernel_rfl):FnAt _ _ (mkFn Try.f10 [40,54])) ?_
 repeat' (first|refine oX (frz:=[40,54]) (v:=.d (.int .i64 (q:Nat))) Yo ?_ (he:=(hq))|refine eX (v:=.d (.int .i64 (q:Nat))) ?_ (he:=(hq))|refine zR [40,54] ?_|refine zC (hr) ?_|refine zC (cm) ?_|fail)
 refine Yq ?_
 refine Run.mid ⟨PT.ofList [(3,.d (.int .i64 (kTx q k:Nat))),(4,.d (.int .i64 (t:Nat))),(5,.d (.str s)),(6,.d (.int .i64 (q:Nat)))],[],[]⟩ ?_ ?_
 ·by_cases h1:q % 3=2
  ·by_cases h3:k<2
   ·rw [show kTx q k=k+1 from if_pos ⟨h1,h3⟩]
    repeat' (first|refine oX (frz:=[40,54]) (v:=.d (.int .i64 ((k+1:Nat):Int))) Yo ?_ (he:=(hka))|refine eX (v:=.d (.int .i64 ((k+1:Nat):Int))) ?_ (he:=(hka))|refine oX (frz:=[40,54]) (v:=.d (.int .i64 ((q % 3:Nat):Int))) Yo ?_ (he:=(hq3))|refine eX (v:=.d (.int .i64 ((q % 3:Nat):Int))) ?_ (he:=(hq3))|refine oX (frz:=[40,54]) (v:=.d (.int .i64 (q:Nat))) Yo ?_ (he:=(hq))|refine eX (v:=.d (.int .i64 (q:Nat))) ?_ (he:=(hq))|refine zW [40,54] ?_|((refine zB [40,54] (fun h=>?_) (fun h=>?_))<;>(first|exact zk h|skip))|refine zX [40,54] ?_|(refine zE ?_;(skip))|(exact(by show Tidy _ _ _;exact(tidy_of (objs:=_) _ 0 (by rfl) rfl (by repeat' (first|exact trivial|refine⟨(Or.inl rfl),?_⟩|refine⟨(Or.inr rfl),?_⟩|fail)) (by repeat' (first|exact trivial|refine⟨rfl,?_⟩|fail)) rfl rfl)))|((exfalso;first|(simp at h<;>fail)|(simp at h;omega)))|fail)
   ·rw [show kTx q k=k from if_neg (fun h=>h3 h.2)]
    repeat' (first|refine oX (frz:=[40,54]) (v:=.d (.int .i64 ((k+1:Nat):Int))) Yo ?_ (he:=(hka))|refine eX (v:=.d (.int .i64 ((k+1:Nat):Int))) ?_ (he:=(hka))|refine oX (frz:=[40,54]) (v:=.d (.int .i64 ((q % 3:Nat):Int))) Yo ?_ (he:=(hq3))|refine eX (v:=.d (.int .i64 ((q % 3:Nat):Int))) ?_ (he:=(hq3))|refine oX (frz:=[40,54]) (v:=.d (.int .i64 (q:Nat))) Yo ?_ (he:=(hq))|refine eX (v:=.d (.int .i64 (q:Nat))) ?_ (he:=(hq))|refine zW [40,54] ?_|((refine zB [40,54] (fun h=>?_) (fun h=>?_))<;>(first|exact zk h|skip))|refine zX [40,54] ?_|(refine zE ?_;(skip))|(exact(by show Tidy _ _ _;exact(tidy_of (objs:=_) _ 0 (by rfl) rfl (by repeat' (first|exact trivial|refine⟨(Or.inl rfl),?_⟩|refine⟨(Or.inr rfl),?_⟩|fail)) (by repeat' (first|exact trivial|refine⟨rfl,?_⟩|fail)) rfl rfl)))|((exfalso;first|(simp at h<;>fail)|(simp at h;omega)))|fail)
  ·rw [show kTx q k=k from if_neg (fun h=>h1 h.1)]
   repeat' (first|refine oX (frz:=[40,54]) (v:=.d (.int .i64 ((k+1:Nat):Int))) Yo ?_ (he:=(hka))|refine eX (v:=.d (.int .i64 ((k+1:Nat):Int))) ?_ (he:=(hka))|refine oX (frz:=[40,54]) (v:=.d (.int .i64 ((q % 3:Nat):Int))) Yo ?_ (he:=(hq3))|refine eX (v:=.d (.int .i64 ((q % 3:Nat):Int))) ?_ (he:=(hq3))|refine oX (frz:=[40,54]) (v:=.d (.int .i64 (q:Nat))) Yo ?_ (he:=(hq))|refine eX (v:=.d (.int .i64 (q:Nat))) ?_ (he:=(hq))|refine zW [40,54] ?_|((refine zB [40,54] (fun h=>?_) (fun h=>?_))<;>(first|exact zk h|skip))|refine zX [40,54] ?_|(refine zE ?_;(skip))|(exact(by show Tidy _ _ _;exact(tidy_of (objs:=_) _ 0 (by rfl) rfl (by repeat' (first|exact trivial|refine⟨(Or.inl rfl),?_⟩|refine⟨(Or.inr rfl),?_⟩|fail)) (by repeat' (first|exact trivial|refine⟨rfl,?_⟩|fail)) rfl rfl)))|((exfalso;first|(simp at h<;>fail)|(simp at h;omega)))|fail)
 have hK:kTx q k≤5:=by unfold kTx;split<;>omega
 refine Yq ?_
 refine Run.mid ⟨PT.ofList [(3,.d (.int .i64 (kTx q k:Nat))),(4,.d (.int .i64 (tTx q t:Nat))),(5,.d (.str s))],[],[]⟩ ?_ ?_
 ·by_cases h2:q / 3 % 4=3
  ·by_cases h4:t<4
   ·rw [show tTx q t=t+1 from if_pos ⟨h2,h4⟩]
    repeat' (first|refine oX (frz:=[40,54]) (v:=.d (.int .i64 ((t+1:Nat):Int))) Yo ?_ (he:=(hta))|refine eX (v:=.d (.int .i64 ((t+1:Nat):Int))) ?_ (he:=(hta))|refine oX (frz:=[40,54]) (v:=.d (.int .i64 ((q / 3 % 4:Nat):Int))) Yo ?_ (he:=(hd34))|refine eX (v:=.d (.int .i64 ((q / 3 % 4:Nat):Int))) ?_ (he:=(hd34))|refine oX (frz:=[40,54]) (v:=.d (.int .i64 ((q / 3:Nat):Int))) Yo ?_ (he:=(hd3))|refine eX (v:=.d (.int .i64 ((q / 3:Nat):Int))) ?_ (he:=(hd3))|refine zW [40,54] ?_|((refine zB [40,54] (fun h=>?_) (fun h=>?_))<;>(first|exact zk h|skip))|refine zX [40,54] ?_|(refine zE ?_;(skip))|(exact(by show Tidy _ _ _;exact(tidy_of (objs:=_) _ 0 (by rfl) rfl (by repeat' (first|exact trivial|refine⟨(Or.inl rfl),?_⟩|refine⟨(Or.inr rfl),?_⟩|fail)) (by repeat' (first|exact trivial|refine⟨rfl,?_⟩|fail)) rfl rfl)))|((exfalso;first|(simp at h<;>fail)|(simp at h;omega)))|fail)
   ·rw [show tTx q t=t from if_neg (fun h=>h4 h.2)]
    repeat' (first|refine oX (frz:=[40,54]) (v:=.d (.int .i64 ((t+1:Nat):Int))) Yo ?_ (he:=(hta))|refine eX (v:=.d (.int .i64 ((t+1:Nat):Int))) ?_ (he:=(hta))|refine oX (frz:=[40,54]) (v:=.d (.int .i64 ((q / 3 % 4:Nat):Int))) Yo ?_ (he:=(hd34))|refine eX (v:=.d (.int .i64 ((q / 3 % 4:Nat):Int))) ?_ (he:=(hd34))|refine oX (frz:=[40,54]) (v:=.d (.int .i64 ((q / 3:Nat):Int))) Yo ?_ (he:=(hd3))|refine eX (v:=.d (.int .i64 ((q / 3:Nat):Int))) ?_ (he:=(hd3))|refine zW [40,54] ?_|((refine zB [40,54] (fun h=>?_) (fun h=>?_))<;>(first|exact zk h|skip))|refine zX [40,54] ?_|(refine zE ?_;(skip))|(exact(by show Tidy _ _ _;exact(tidy_of (objs:=_) _ 0 (by rfl) rfl (by repeat' (first|exact trivial|refine⟨(Or.inl rfl),?_⟩|refine⟨(Or.inr rfl),?_⟩|fail)) (by repeat' (first|exact trivial|refine⟨rfl,?_⟩|fail)) rfl rfl)))|((exfalso;first|(simp at h<;>fail)|(simp at h;omega)))|fail)
  ·rw [show tTx q t=t from if_neg (fun h=>h2 h.1)]
   repeat' (first|refine oX (frz:=[40,54]) (v:=.d (.int .i64 ((t+1:Nat):Int))) Yo ?_ (he:=(hta))|refine eX (v:=.d (.int .i64 ((t+1:Nat):Int))) ?_ (he:=(hta))|refine oX (frz:=[40,54]) (v:=.d (.int .i64 ((q / 3 % 4:Nat):Int))) Yo ?_ (he:=(hd34))|refine eX (v:=.d (.int .i64 ((q / 3 % 4:Nat):Int))) ?_ (he:=(hd34))|refine oX (frz:=[40,54]) (v:=.d (.int .i64 ((q / 3:Nat):Int))) Yo ?_ (he:=(hd3))|refine eX (v:=.d (.int .i64 ((q / 3:Nat):Int))) ?_ (he:=(hd3))|refine zW [40,54] ?_|((refine zB [40,54] (fun h=>?_) (fun h=>?_))<;>(first|exact zk h|skip))|refine zX [40,54] ?_|(refine zE ?_;(skip))|(exact(by show Tidy _ _ _;exact(tidy_of (objs:=_) _ 0 (by rfl) rfl (by repeat' (first|exact trivial|refine⟨(Or.inl rfl),?_⟩|refine⟨(Or.inr rfl),?_⟩|fail)) (by repeat' (first|exact trivial|refine⟨rfl,?_⟩|fail)) rfl rfl)))|((exfalso;first|(simp at h<;>fail)|(simp at h;omega)))|fail)
 have hT:1≤tTx q t∧tTx q t≤5:=by unfold tTx;split<;>omega
 generalize kTx q k=K at hK ⊢
 generalize tTx q t=T at hT ⊢
 obtain⟨hT1,hT2⟩:=hT
 repeat' (first|refine oX (frz:=[40,54]) (v:=.d (.int .u8 ((48+K:Nat):Int))) Yo ?_ (he:=(vU8 (by omega)))|refine eX (v:=.d (.int .u8 ((48+K:Nat):Int))) ?_ (he:=(vU8 (by omega)))|refine oX (frz:=[40,54]) (v:=.d (.int .i64 ((48+K:Nat):Int))) Yo ?_ (he:=(vN8 (by omega) (by omega)))|refine eX (v:=.d (.int .i64 ((48+K:Nat):Int))) ?_ (he:=(vN8 (by omega) (by omega)))|refine zW [40,54] ?_|((refine zB [40,54] (fun h=>?_) (fun h=>?_))<;>(first|exact zk h|skip))|refine zX [40,54] ?_|refine oX (frz:=[40,54]) Yo ?_ (hf:=(by first|(simp [Nat.ble_eq]<;>fail)|(simp [Nat.ble_eq];omega)))|refine eX ?_ (hf:=(by first|(simp [Nat.ble_eq]<;>fail)|(simp [Nat.ble_eq];omega)))|(refine zE ?_;(skip))|((exfalso;first|(simp at h<;>fail)|(simp at h;omega)))|fail)
 refine Run.loop (fun j:Nat=>⟨PT.ofList [(4,.d (.int .i64 (T:Nat))),(5,.d (.str s)),(7,.d (.str ([108,111,111,107,97,104,101,97,100,32]++[48+K]++[59,32,116,111,107,101,110,32,97]++toksT j))),(8,.d (.int .i64 (j:Nat)))],[],[]⟩) (fun j=>1≤j∧j≤T) (fun j=>T-j) 1 ⟨Nat.le_refl _,by omega⟩ (weak_of ⟨by kernel_rfl,by kernel_rfl,Eq.trans (b:=some (AV.d (.str ([108,111,111,107,97,104,101,97,100,32]++[((48+K:Nat):Int).toNat % 256]++[59,32,116,111,107,101,110,32,97])))) (by kernel_rfl) (by rw [show((48+K:Nat):Int).toNat % 256=48+K by omega];rfl),by kernel_rfl,trivial⟩) (fun j hj=>?_)
 obtain⟨hj1,hj2⟩:=hj
 have hl:=toksT_len j
 rcases Nat.lt_or_ge j T with hlt|hge
 ·repeat' (first|refine oX (frz:=[40,54]) (v:=.d (.int .u8 ((97+j:Nat):Int))) Yo ?_ (he:=(vU8 (by omega)))|refine eX (v:=.d (.int .u8 ((97+j:Nat):Int))) ?_ (he:=(vU8 (by omega)))|refine oX (frz:=[40,54]) (v:=.d (.int .i64 ((97+j:Nat):Int))) Yo ?_ (he:=(vN8 (by omega) (by omega)))|refine eX (v:=.d (.int .i64 ((97+j:Nat):Int))) ?_ (he:=(vN8 (by omega) (by omega)))|refine zW [40,54] ?_|((refine zB [40,54] (fun h=>?_) (fun h=>?_))<;>(first|exact zk h|skip))|refine zX [40,54] ?_|refine oX (frz:=[40,54]) Yo ?_ (hf:=(by first|(simp [Nat.ble_eq]<;>fail)|(simp [Nat.ble_eq];omega)))|refine eX ?_ (hf:=(by first|(simp [Nat.ble_eq]<;>fail)|(simp [Nat.ble_eq];omega)))|(refine zE ?_;(skip))|((exfalso;(simp at h<;>omega)))|fail)
  exact⟨j+1,⟨by omega,by omega⟩,by omega,weak_of ⟨by kernel_rfl,by kernel_rfl,Eq.trans (b:=some (AV.d (.str ([108,111,111,107,97,104,101,97,100,32]++[48+K]++[59,32,116,111,107,101,110,32,97]++toksT j++[44,32]++[((97+j:Nat):Int).toNat % 256])))) (by kernel_rfl) (by rw [show((97+j:Nat):Int).toNat % 256=97+j by omega,toksT_succ hj1];simp only [List.append_assoc]),(inc_get (k:=j) (by kernel_rfl) (by omega)),trivial⟩⟩
 ·have hje:j=T:=by omega
  subst hje
  repeat' (first|refine zW [40,54] ?_|((refine zB [40,54] (fun h=>?_) (fun h=>?_))<;>(first|exact zk h|skip))|refine zX [40,54] ?_|refine oX (frz:=[40,54]) Yo ?_ (hf:=(by first|(simp [Nat.ble_eq]<;>fail)|(simp [Nat.ble_eq];omega)))|refine eX ?_ (hf:=(by first|(simp [Nat.ble_eq]<;>fail)|(simp [Nat.ble_eq];omega)))|(refine zE ?_;(rfl))|((exfalso;(simp at h<;>omega)))|fail)
end Go.Av
end
noncomputable section
namespace Go.Av
open Go Go.Proofs
set_option maxRecDepth 10000
theorem textK1 (n:Int) (hn:W64 n):∃ p ∈ allTx,KnownCall Try.prog 10 [.int .i64 n] (.d (.str (textT p.1 p.2.1 (ruleE p.2.2).2.2))):=by
 have hr:=rulesK n hn
 have hi:=m16_lt n
 generalize m16 n=i at hr hi
 have hb:=List.all_eq_true.1 ruleE_b i (List.mem_range.2 hi)
 simp only [decide_eq_true_eq] at hb
 have ct:=textK0 n hn (ruleE i).1 (ruleE i).2.1 (ruleE i).2.2 hr hb.1 hb.2.1 hb.2.2.1 hb.2.2.2
 have hk:kTx (m40 n / 16) (ruleE i).1=(ruleE i).1∨kTx (m40 n / 16) (ruleE i).1=(ruleE i).1+1∧(ruleE i).1<2:=by
  unfold kTx;split
  ·rename_i h;exact .inr ⟨rfl,h.2⟩
  ·exact .inl rfl
 have ht:tTx (m40 n / 16) (ruleE i).2.1=(ruleE i).2.1∨tTx (m40 n / 16) (ruleE i).2.1=(ruleE i).2.1+1∧(ruleE i).2.1<4:=by
  unfold tTx;split
  ·rename_i h;exact .inr ⟨rfl,h.2⟩
  ·exact .inl rfl
 exact⟨_,tx_mem hi hk ht,ct⟩
theorem w64_of {n:Int} (h:(Lit.int .i64 n).wf=true):W64 n:=by
 simp only [Lit.wf,Bool.and_eq_true,decide_eq_true_eq] at h
 exact h
end Go.Av
end
noncomputable section
namespace Go.Av
open Go Go.Proofs
set_option maxRecDepth 10000
theorem blank_ok {p:Nat × Nat × Nat} (hm:p ∈ allTx) (t:List Nat) (x:Src) (ht:t=textT p.1 p.2.1 (ruleE p.2.2).2.2) (hx:x=srcT p.1 p.2.1 p.2.2) :
  t.length≤300∧2≤t.length∧t[t.length-1]?=some 59∧textB (markT t) x=true∧(3≤(markF t).length∧(markF t).length≤2000)∧∀ j,j<t.length→refB (t.take j)=true:=by
 have h:=List.all_eq_true.1 all_blanks _ hm
 simp only [blanksP,blanksB,← ht,← hx,Bool.and_eq_true,decide_eq_true_eq,List.all_eq_true,List.mem_range] at h
 exact h
theorem refK {p:List Nat} (h:refB p=true) (hb:∀ c ∈ p,c<256) (hl:p.length≤2000):∃ e q,e≠0∧KnownCall Try.prog 6 [.str p] (resX (src0,(e,q))):=by
 unfold refB at h
 have hz:lexY (p.length+1) p 0 []=lexX p (p.length+1) 0 []:=lexY_X p _ 0 [] (Nat.zero_le _)
 rw [hz] at h
 cases hx:lexX p (p.length+1) 0 [] with
 |none=>rw [hx] at h;cases h
 |some ls =>
  rw [hx] at h
  simp only at h
  have h1:lexemesF p=(ls.map encL,0,0):=by
   unfold lexemesF
   rw [if_neg (by omega)]
   exact lexX_F p _ 0 [] ls hx
  rcases lexemesF_ls p (by omega) with⟨ls2,h3,h4,h5⟩|⟨e,q,h3,h4⟩
  ·have e:ls2=ls:=encL_inj (by rw [h1] at h3;simp only [Prod.mk.injEq] at h3;exact h3.1.symm)
   subst e
   have c:=parseP p ls2 hb (by omega) h4 h5 h1
   rw [read_B] at c
   cases hr:readB p ls2 with
   |ok q=>rw [hr] at h;cases h
   |error e =>
    rw [hr] at h c
    exact⟨e.1,e.2,of_decide_eq_true h,c⟩
  ·rw [h1] at h3
   simp only [Prod.mk.injEq] at h3
   exact absurd h3.2.1.symm h4
theorem parseTP {t:List Nat} {x:Src} (hs:SoundX x) (h:textB t x=true) (hb:∀ c ∈ t,c<256):KnownCall Try.prog 6 [.str t] (resX (x,(0,0))):=by
 have hl:=textB_len h
 obtain⟨ls,h1,h2⟩:=textB_ok hs h
 rcases lexemesF_ls t (by omega) with⟨ls2,h3,h4,h5⟩|⟨e,q,h3,h4⟩
 ·have e:ls2=ls:=encL_inj (by rw [h1] at h3;simp only [Prod.mk.injEq] at h3;exact h3.1.symm)
  subst e
  have:=parseP t ls2 hb (by omega) h4 h5 h1
  rw [← read_law,h2] at this
  exact this
 ·rw [h1] at h3
  simp only [Prod.mk.injEq] at h3
  exact absurd h3.2.1.symm h4
theorem markC_len (c:Nat):(markC c).length≤12:=by unfold markC;split<;>simp
theorem markF_len:∀ s:List Nat,(markF s).length≤12*s.length
 |[]=>by simp [markF]
 |c :: l=>by
  have h1:=markF_len l
  have h2:=markC_len c
  have:markF (c :: l)=markC c++markF l:=rfl
  rw [this,List.length_append,List.length_cons];omega
theorem markF_byte {s:List Nat} (h:∀ c ∈ s,c<256):∀ c ∈ markF s,c<256:=by
 intro c hc
 obtain⟨d,h1,h2⟩:=List.mem_flatMap.1 hc
 have:=h d h1
 unfold markC at h2
 split at h2
 ·simp only [List.mem_cons,List.not_mem_nil,or_false] at h2;omega
 ·simp only [List.mem_cons,List.not_mem_nil,or_false] at h2;omega
theorem markT_byte {s:List Nat} (h:∀ c ∈ s,c<256):∀ c ∈ markT s,c<256:=by
 intro c hc
 unfold markT at hc
 rcases List.mem_append.1 hc with h1|h1
 ·simp only [List.mem_cons,List.not_mem_nil,or_false] at h1;omega
 ·exact markF_byte h c (List.mem_of_mem_take h1)
theorem markF_take {s:List Nat} {i c:Nat} (h:s[i]?=some c):markF (s.take (i+1))=markF (s.take i)++markC c:=by
 unfold markF
 rw [List.take_add_one,h,List.flatMap_append]
 simp
end Go.Av
end
noncomputable section
namespace Go.Av
open Go Go.Proofs
set_option maxRecDepth 10000
theorem modM (n M:Int) (hn:W64 n) (h1:1≤M) (h2:M≤1073741824):KnownCall Try.prog 11 [.int .i64 n,.int .i64 M] (.d (.int .i64 (n % M))):=by
 have hw:=hn
 unfold W64 at hw
 have b1:=Int.emod_nonneg n (show M≠0 by omega)
 have b2:=Int.emod_lt_of_pos n (show 0<M by omega)
 have hM:((M.natAbs:Nat):Int)=M:=by omega
 have ht:n.tmod M=if 0≤n∨M ∣ n then n % M else n % M-M:=by
  rw [Int.tmod_eq_emod]
  by_cases h:0≤n∨M ∣ n
  ·rw [if_pos h,if_pos h];simp
  ·rw [if_neg h,if_neg h,hM]
 by_cases h:0≤n∨M ∣ n
 ·rw [if_pos h] at ht
  generalize n % M=q at ht b1 b2 ⊢
  refine knownE Yo (fnAt Try.func11 (by kernel_rfl) (by kernel_rfl):FnAt _ _ (mkFn Try.f11 [])) ?_
  repeat' (first|refine zW [] ?_|((refine zB [] (fun h=>?_) (fun h=>?_))<;>(first|exact zk h|skip))|refine zX [] ?_|refine oX (frz:=[]) (v:=.d (.int .i64 q)) Yo ?_ (hf:=(by simp;omega)) (he:=(congrArg (fun x=>AV.d (.int .i64 x)) ht))|(refine zE ?_;(rfl))|((exfalso;first|(simp at h<;>fail)|(simp at h;omega)))|fail)
 ·rw [if_neg h] at ht
  generalize n % M=q at ht b1 b2 ⊢
  have hq:AV.d (.int .i64 (IntKind.i64.wrap (q-M+M)))=.d (.int .i64 q):=congrArg (fun x=>AV.d (.int .i64 x)) ((wrap64 (by omega) (by omega)).trans (by omega))
  refine knownE Yo (fnAt Try.func11 (by kernel_rfl) (by kernel_rfl):FnAt _ _ (mkFn Try.f11 [])) ?_
  repeat' (first|refine oX (frz:=[]) (v:=.d (.int .i64 q)) Yo ?_ (he:=(hq))|refine eX (v:=.d (.int .i64 q)) ?_ (he:=(hq))|refine zW [] ?_|((refine zB [] (fun h=>?_) (fun h=>?_))<;>(first|exact zk h|skip))|refine zX [] ?_|refine oX (frz:=[]) (v:=.d (.int .i64 (q-M))) Yo ?_ (hf:=(by simp;omega)) (he:=(congrArg (fun x=>AV.d (.int .i64 x)) ht))|(refine zE ?_;(rfl))|((exfalso;first|(simp at h<;>fail)|(simp at h;omega)))|fail)
end Go.Av
end
noncomputable section
namespace Go.Av
open Go Go.Proofs
set_option maxRecDepth 10000
def exS:Src:=⟨2,[[97],[98]],[99],[83],[⟨[83],[[[97],[83]],[[98]],[]]⟩]⟩
def exT:List Nat:=[108,111,111,107,97,104,101,97,100,32,50,59,32,116,111,107,101,110,32,97,44,32,98,59,32,115,101,112,97,114,97,116,111,114,32,99,59,32,115,116,97,114,116,32,83,59,32,83,32,61,32,97,32,83,32,124,32,98,32,124,32,59]
def exL:List Lx:=[⟨1,[108,111,111,107,97,104,101,97,100],0⟩,⟨2,[50],10⟩,⟨3,[59],11⟩,⟨1,[116,111,107,101,110],13⟩,⟨1,[97],19⟩,⟨3,[44],20⟩,⟨1,[98],22⟩,⟨3,[59],23⟩,⟨1,[115,101,112,97,114,97,116,111,114],25⟩,⟨1,[99],35⟩,⟨3,[59],36⟩,⟨1,[115,116,97,114,116],38⟩,⟨1,[83],44⟩,⟨3,[59],45⟩,⟨1,[83],47⟩,⟨3,[61],49⟩,⟨1,[97],51⟩,⟨1,[83],53⟩,⟨3,[124],55⟩,⟨1,[98],57⟩,⟨3,[124],59⟩,⟨3,[59],61⟩]
theorem exT_lex:lexemesF exT=(exL.map encL,0,0):=by kernel_rfl
theorem exS_light:lightX exS=true:=by kernel_rfl
theorem name1 {c:Nat} (h:letterF (c:Nat)=true):nameF [c]=0:=by
 have hw:wordF [c]=0:=by
  unfold wordF
  rw [if_neg (by simp),if_neg,if_neg (by simp)]
  rintro⟨i,d,h1,h2,_⟩
  cases i with
  |zero =>
   simp at h1
   rw [← h1,h] at h2;cases h2
  |succ i=>simp at h1
 have hl:¬ (wordF [c]=0∧languageF [c]=true):=by
  rintro⟨_,h2⟩
  simp [languageF,wLook,wToken,wSep,wStart] at h2
 unfold nameF
 rw [if_neg hl,hw]
theorem small1 {c:Nat} (h:letterF (c:Nat)=true) (hc:97≤c):smallF [c]=true:=by
 unfold smallF
 rw [name1 h]
 simp;omega
theorem capital1 {c:Nat} (h:letterF (c:Nat)=true) (hc:c<97):capitalF [c]=true:=by
 unfold capitalF
 rw [name1 h]
 simp;omega
theorem sA:smallF [97]=true:=small1 (by decide) (by decide)
theorem sB:smallF [98]=true:=small1 (by decide) (by decide)
theorem sC:smallF [99]=true:=small1 (by decide) (by decide)
theorem cS:capitalF [83]=true:=capital1 (by decide) (by decide)
theorem exS_sound:SoundX exS where
 k:=by decide
 tok0:=by decide
 rul0:=by decide
 alt0:=by decide
 alt6:=by decide
 tok8:=by decide
 rul8:=by decide
 sum:=by decide
 tokS s hs:=by
  simp only [exS,List.mem_cons,List.not_mem_nil,or_false] at hs
  rcases hs with rfl|rfl
  ·exact sA
  ·exact sB
 sepS:=sC
 startC:=cS
 rulC r hr:=by
  simp only [exS,List.mem_cons,List.not_mem_nil,or_false] at hr
  subst hr
  exact cS
 altM r hr a ha s hs:=by
  simp only [exS,List.mem_cons,List.not_mem_nil,or_false] at hr
  subst hr
  simp only [List.mem_cons,List.not_mem_nil,or_false] at ha
  unfold mayF
  rcases ha with rfl|rfl|rfl
  ·simp only [List.mem_cons,List.not_mem_nil,or_false] at hs
   rcases hs with rfl|rfl
   ·rw [sA];rfl
   ·rw [cS];simp
  ·simp only [List.mem_cons,List.not_mem_nil,or_false] at hs
   subst hs
   rw [sB];rfl
  ·cases hs
 nodT:=by decide
 nodR:=by decide
 noSep:=by decide
 known:=by decide
 start:=by decide
theorem exS_check:checkX exS=0:=ofSound exS_sound
theorem exT_read:resP (readP exT exL)=(exS,(0,0)):=by
 rw [← read_law]
 exact readPrint exS_sound (by decide)
theorem exL_num:NumL exL:=fun x hx h=>by
 simp only [exL,List.mem_cons,List.not_mem_nil,or_false] at hx
 rcases hx with rfl|rfl|rfl|rfl|rfl|rfl|rfl|rfl|rfl|rfl|rfl|rfl|rfl|rfl|rfl|rfl|rfl|rfl|rfl|rfl|rfl|rfl<;>first|(exact absurd h (by decide))|skip
 exact beginsF_num (c:=50) (l:=[59]) (by kernel_rfl)
theorem exS_bytes:ByteX exS where
 tokens:=by decide
 sep:=by decide
 start:=by decide
 rules:=by decide
 names:=by decide
theorem exampleS:KnownCall Try.prog 12 [] (.d (encX exS)) :=
 known_toN (x:=.agg [.int .i64 2,.sl 1 [.str [97],.str [98]],.str [99],.str [83],.sl 2 [.agg [.str [83],.sl 1 [.sl 1 [.str [97],.str [83]],.sl 1 [.str [98]],.nilsl]]]]) (known T0_ok Yo (by kernel_rfl) Ft_ok (k:=100000) (n:=60) (by kernel_rfl)) (dvn_ok (n:=9) (by kernel_rfl))
set_option maxHeartbeats 4000000 in
theorem awakeS:KnownCall Try.prog 5 [] (.d (.bool true)):=by
 have c1:=parseP exT exL (by decide) (by decide) ⟨by decide,by decide⟩ exL_num exT_lex
 rw [exT_read] at c1
 have L:=lightX_iff exS_light
 have c2:=exampleS
 have c3:=printSA exS L.fits L.inner L.print exS_bytes
 rw [show printF exS=printX exS from if_pos exS_check,show printX exS=[108,111,111,107,97,104,101,97,100,32,50,59,10,116,111,107,101,110,32,97,44,32,98,59,10,115,101,112,97,114,97,116,111,114,32,99,59,10,115,116,97,114,116,32,83,59,10,83,32,61,32,97,32,83,32,124,32,98,32,124,32,59,10] by kernel_rfl,exS_check] at c3
 have c4:=sameR8 exS exS L.fits
 rw [smX_self] at c4
 unfold resX at c1
 simp only at c1
 refine knownE Yo (fnAt Try.func5 (by kernel_rfl) (by kernel_rfl):FnAt _ _ (mkFn Try.f5 [1,2])) ?_
 repeat' (first|refine zW [1,2] ?_|((refine zB [1,2] (fun h=>?_) (fun h=>?_))<;>(first|exact zk h|skip))|refine zX [1,2] ?_|refine zC (c1) ?_|refine zC (c2) ?_|refine zC (c3) ?_|refine zC (c4) ?_|(refine zE ?_;(rfl))|((exfalso;first|(simp at h<;>fail)|(simp at h;omega)))|fail)
end Go.Av
end
noncomputable section
namespace Go.Av
open Go Go.Proofs
set_option maxRecDepth 10000
theorem known_ofN {P:Program} {f:FuncId} {a x y:DV} {r:AV} (h:KnownCall P f [a,y] r) (hr:DvN x y):KnownCall P f [a,x] r:=by
 intro o
 refine⟨(h o).1,fun D β w vs hp hv=>(h o).2 D β w vs hp ⟨hv.1,fun j c v hc hv'=>?_⟩⟩
 match j with
 |0=>exact hv.2 0 c v (by simpa using hc) hv'
 |1 =>
  simp at hc;subst hc
  have:=hv.2 1 (.d x) v rfl hv'
  cases this with
  |d k=>exact .d (hr.rep k)
 |j+2=>simp at hc
theorem cut_one {t:List Nat} {i c:Nat} (h:t[i]?=some c):cutL (some (i:Int)) (some ((i+1:Nat):Int)) t=[c]:=by
 have hl:=(List.getElem?_eq_some_iff.1 h).1
 have h2:=(List.getElem?_eq_some_iff.1 h).2
 simp only [cutL,Option.getD_some,Int.toNat_natCast]
 rw [List.take_add_one,h,List.drop_append_of_le_length (by rw [List.length_take];omega)]
 simp
theorem cut_take {t:List Nat} {i:Nat}:cutL none (some (i:Int)) t=t.take i:=by
 simp [cutL]
set_option maxHeartbeats 16000000 in
theorem lawBlW (n:Int) (m:Int) (t:List Nat) (x:Src) (ct:KnownCall Try.prog 10 [.int .i64 n] (.d (.str t))) (b1:t.length≤300) (b2:2≤t.length) (b3:t[t.length-1]?=some 59) (b5:3≤(markF t).length∧(markF t).length≤2000)
  (c1:KnownCall Try.prog 6 [.str t] (resX (x,(0,0)))) (c2:KnownCall Try.prog 6 [.str (markT t)] (resX (x,(0,0))))
  (c3:KnownCall Try.prog 9 [encX x,encX x] (.d (.bool true))) (j:Nat) (e q:Nat) (he:e≠0) (j3:j<t.length)
  (c4:KnownCall Try.prog 11 [.int .i64 m,.int .i64 (t.length:Nat)] (.d (.int .i64 (j:Nat))))
  (c5:KnownCall Try.prog 6 [.str (t.take j)] (resX (src0,(e,q))))
  (c6:KnownCall Try.prog 9 [encX src0,.agg [.int .i64 0,.nilsl,.str [],.str [],.nilsl]] (.d (.bool true))) (c7:KnownCall Try.prog 5 [] (.d (.bool true))):KnownCall Try.prog 4 [.int .i64 n,.int .i64 m] (.d (.bool true)):=by
 unfold resX at c1 c2 c5
 simp only at c1 c2 c5
 obtain⟨b5,b6⟩:=b5
 have hv:AV.d (.bool (((e:Nat):Int) != 0))=.d (.bool true):=by
  congr 2
  have:¬ ((e:Nat):Int)=0:=by omega
  simpa using this
 have hcut:AV.d (.str (cutL none (some (((markF t).length-3:Nat):Int)) (markF t)))=.d (.str ((markF t).take ((markF t).length-3))):=by rw [cut_take]
 have hcut2:AV.d (.str (cutL none (some ((j:Nat):Int)) t))=.d (.str (t.take j)):=by rw [cut_take]
 have hlen3:AV.d (.int .i64 (IntKind.i64.wrap (((markF t).length:Int)-3)))=.d (.int .i64 (((markF t).length-3:Nat):Int)):=congrArg (fun x=>AV.d (.int .i64 x)) ((wrap64 (by omega) (by omega)).trans (by omega))
 have hlast:AV.d (.int .i64 (IntKind.i64.wrap ((t.length:Int)-1)))=.d (.int .i64 ((t.length-1:Nat):Int)):=congrArg (fun x=>AV.d (.int .i64 x)) ((wrap64 (by omega) (by omega)).trans (by omega))
 have hlast1:AV.d (.int .i64 (IntKind.i64.wrap (((t.length-1:Nat):Int)+1)))=.d (.int .i64 ((t.length:Nat):Int)):=congrArg (fun x=>AV.d (.int .i64 x)) ((wrap64 (by omega) (by omega)).trans (by omega))
 refine knownE Yo (fnAt Try.func4 (by kernel_rfl) (by kernel_rfl):FnAt _ _ (mkFn Try.f4 [])) ?_
 repeat' (first|refine zW [] ?_|((refine zB [] (fun h=>?_) (fun h=>?_))<;>(first|exact zk h|skip))|refine zX [] ?_|refine zC (ct) ?_|refine zC (c1) ?_|(refine zE ?_;(skip))|((exfalso;first|(simp at h<;>fail)|(simp at h;omega)))|fail)
 refine Run.loop (fun i:Nat=>⟨PT.ofList [(1,.d (.int .i64 m)),(5,.d (.str t)),(6,.bp 0 0),(7,.bp 1 0),(8,.d (.str (markF (t.take i)))),(9,.d (.int .i64 i))],[.box [.d (.int .i64 x.k),.d (strs x.tokens),.d (.str x.sep),.d (.str x.start),.d (.sl 2 (x.rules.map encR))],.box [.d (.int .i64 0),.d (.int .i64 0)]],[]⟩) (fun i=>i≤t.length) (fun i=>t.length-i) 0 (Nat.zero_le _) (weak_of' (by kernel_rfl) (by kernel_rfl) ⟨by kernel_rfl,by kernel_rfl,by kernel_rfl,by kernel_rfl,by kernel_rfl,by kernel_rfl,trivial⟩) (fun i hi=>?_)
 rcases Nat.lt_or_ge i t.length with hlt|hge
 ·obtain⟨c,hc⟩:=get_ok hlt
  have e1:=markF_take hc
  have hli:=markF_len (t.take i)
  rw [List.length_take] at hli
  have hc1:AV.d (.str (cutL (some (i:Int)) (some ((i+1:Nat):Int)) t))=.d (.str [c]):=by rw [cut_one hc]
  have hi1:AV.d (.int .i64 (IntKind.i64.wrap ((i:Int)+1)))=.d (.int .i64 ((i+1:Nat):Int)):=vN8 (by omega) (by omega)
  generalize markF (t.take i)=M at e1 hli ⊢
  by_cases h59:c=59
  ·subst h59
   have e2:markF (t.take (i+1))=M++[59]++[32,35,32,114,101,109,97,114,107,10,9]:=by rw [e1];simp [markC]
   repeat' (first|refine oX (frz:=[]) (v:=.d (.int .i64 ((i+1:Nat):Int))) Yo ?_ (he:=(hi1))|refine eX (v:=.d (.int .i64 ((i+1:Nat):Int))) ?_ (he:=(hi1))|refine zW [] ?_|((refine zB [] (fun h=>?_) (fun h=>?_))<;>(first|exact zk h|skip))|refine zX [] ?_|refine oX (frz:=[]) (v:=.d (.int .u8 ((59:Nat):Int))) Yo ?_ (hf:=by first|(simp [inB]<;>fail)|(simp [inB];omega)) (he:=by first|(simp [List.getD_eq_getElem?_getD,hc]<;>fail)|fail)|refine oX (frz:=[]) (v:=.d (.str [59])) Yo ?_ (hf:=by first|(simp [cutC]<;>fail)|(simp [cutC];omega)) (he:=hc1)|refine oX (frz:=[]) Yo ?_ (hf:=(by first|(simp [Nat.ble_eq]<;>fail)|(simp [Nat.ble_eq];omega)))|refine eX ?_ (hf:=(by first|(simp [Nat.ble_eq]<;>fail)|(simp [Nat.ble_eq];omega)))|(refine zE ?_;(skip))|((exfalso;first|(simp at h<;>fail)|(simp at h;omega)))|fail)
   exact⟨i+1,by omega,by omega,weak_of' (by kernel_rfl) (by kernel_rfl) ⟨by kernel_rfl,by kernel_rfl,by kernel_rfl,by kernel_rfl,Eq.trans (b:=some (AV.d (.str (M++[59]++[32,35,32,114,101,109,97,114,107,10,9])))) (by kernel_rfl) (by rw [e2]),by kernel_rfl,trivial⟩⟩
  ·have e2:markF (t.take (i+1))=M++[c]:=by rw [e1];simp [markC,h59]
   repeat' (first|refine oX (frz:=[]) (v:=.d (.int .i64 ((i+1:Nat):Int))) Yo ?_ (he:=(hi1))|refine eX (v:=.d (.int .i64 ((i+1:Nat):Int))) ?_ (he:=(hi1))|refine zW [] ?_|((refine zB [] (fun h=>?_) (fun h=>?_))<;>(first|exact zk h|skip))|refine zX [] ?_|refine oX (frz:=[]) (v:=.d (.int .u8 (c:Int))) Yo ?_ (hf:=by first|(simp [inB]<;>fail)|(simp [inB];omega)) (he:=by first|(simp [List.getD_eq_getElem?_getD,hc]<;>fail)|fail)|refine oX (frz:=[]) (v:=.d (.str [c])) Yo ?_ (hf:=by first|(simp [cutC]<;>fail)|(simp [cutC];omega)) (he:=hc1)|refine oX (frz:=[]) Yo ?_ (hf:=(by first|(simp [Nat.ble_eq]<;>fail)|(simp [Nat.ble_eq];omega)))|refine eX ?_ (hf:=(by first|(simp [Nat.ble_eq]<;>fail)|(simp [Nat.ble_eq];omega)))|(refine zE ?_;(skip))|((exfalso;first|(simp at h<;>fail)|(simp at h;omega)))|fail)
   exact⟨i+1,by omega,by omega,weak_of' (by kernel_rfl) (by kernel_rfl) ⟨by kernel_rfl,by kernel_rfl,by kernel_rfl,by kernel_rfl,Eq.trans (b:=some (AV.d (.str (M++[c])))) (by kernel_rfl) (by rw [e2]),by kernel_rfl,trivial⟩⟩
 ·have hje:i=t.length:=by omega
  subst hje
  rw [List.take_length]
  unfold markT at c2
  generalize markF t=M at *
  repeat' (first|refine oX (frz:=[]) (v:=.d (.int .i64 ((t.length-1:Nat):Int))) Yo ?_ (he:=(hlast))|refine eX (v:=.d (.int .i64 ((t.length-1:Nat):Int))) ?_ (he:=(hlast))|refine oX (frz:=[]) (v:=.d (.int .i64 ((M.length-3:Nat):Int))) Yo ?_ (he:=(hlen3))|refine eX (v:=.d (.int .i64 ((M.length-3:Nat):Int))) ?_ (he:=(hlen3))|refine zW [] ?_|((refine zB [] (fun h=>?_) (fun h=>?_))<;>(first|exact zk h|skip))|refine zX [] ?_|refine oX (frz:=[]) (v:=.d (.str (M.take (M.length-3)))) Yo ?_ (hf:=by first|(simp [cutC]<;>fail)|(simp [cutC];omega)) (he:=hcut)|refine zC (c2) ?_|refine zC (c3) ?_|refine oX (frz:=[]) Yo ?_ (hf:=(by first|(simp [Nat.ble_eq]<;>fail)|(simp [Nat.ble_eq];omega)))|refine eX ?_ (hf:=(by first|(simp [Nat.ble_eq]<;>fail)|(simp [Nat.ble_eq];omega)))|(refine zE ?_;(skip))|((exfalso;first|(simp at h<;>fail)|(simp at h;omega)))|fail)
  refine Run.loopT (fun _:Unit=>⟨PT.ofList [(1,.d (.int .i64 m)),(5,.d (.str t)),(12,.d (.int .i64 ((t.length-1:Nat):Int)))],[],[]⟩) (fun _=>True) (fun _=>0) () trivial (tidy_of (objs:=_) _ 0 (by rfl) rfl (by repeat' (first|exact trivial|refine⟨(Or.inl rfl),?_⟩|refine⟨(Or.inr rfl),?_⟩|fail)) (by repeat' (first|exact trivial|refine⟨rfl,?_⟩|fail)) rfl rfl) (fun _ _=>?_)
  repeat' (first|refine oX (frz:=[]) (v:=.d (.bool true)) Yo ?_ (he:=(hv))|refine eX (v:=.d (.bool true)) ?_ (he:=(hv))|refine oX (frz:=[]) (v:=.d (.int .i64 ((t.length:Nat):Int))) Yo ?_ (he:=(hlast1))|refine eX (v:=.d (.int .i64 ((t.length:Nat):Int))) ?_ (he:=(hlast1))|refine zW [] ?_|((refine zB [] (fun h=>?_) (fun h=>?_))<;>(first|exact zk h|skip))|refine zX [] ?_|refine oX (frz:=[]) (v:=.d (.int .u8 ((59:Nat):Int))) Yo ?_ (hf:=by first|(simp [inB]<;>fail)|(simp [inB];omega)) (he:=by first|(simp [List.getD_eq_getElem?_getD,b3]<;>fail)|fail)|refine eX (v:=.d (.int .u8 ((59:Nat):Int))) ?_ (hf:=by first|(simp [inB]<;>fail)|(simp [inB];omega)) (he:=by first|(simp [List.getD_eq_getElem?_getD,b3]<;>fail)|fail)|refine oX (frz:=[]) (v:=.d (.str (t.take j))) Yo ?_ (hf:=by first|(simp [cutC]<;>fail)|(simp [cutC];omega)) (he:=hcut2)|refine zC (c4) ?_|refine zC (c5) ?_|refine zC (c6) ?_|refine zC (c7) ?_|(refine zE ?_;(rfl))|((exfalso;first|(simp at h<;>fail)|(simp at h;omega)))|fail)
theorem lawBl (n:Int) (hn:W64 n) (m:Int) (hm:W64 m):KnownCall Try.prog 4 [.int .i64 n,.int .i64 m] (.d (.bool true)):=by
 obtain⟨p,hp,ct⟩:=textK1 n hn
 obtain⟨sx,tb,_,hb⟩:=all_ok hp
 obtain⟨b1,b2,b3,b4,b5,b6⟩:=blank_ok hp _ _ rfl rfl
 generalize textT p.1 p.2.1 (ruleE p.2.2).2.2=t at *
 generalize srcT p.1 p.2.1 p.2.2=x at *
 have L:=sx.light
 have c3:=sameR8 x x L.fits
 rw [smX_self] at c3
 have j1:=Int.emod_nonneg m (show(t.length:Int)≠0 by omega)
 have j2:=Int.emod_lt_of_pos m (show(0:Int)<(t.length:Int) by omega)
 have c4:=modM m t.length hm (by omega) (by omega)
 obtain⟨j,hj⟩:∃ j:Nat,m % (t.length:Int)=(j:Nat):=⟨(m % (t.length:Int)).toNat,by omega⟩
 rw [hj] at j1 j2 c4
 have j3:j<t.length:=by omega
 obtain⟨e,q,he,c5⟩:=refK (b6 j j3) (fun c hc=>hb c (List.mem_of_mem_take hc)) (by rw [List.length_take];omega)
 have c6:=sameR8 src0 src0 ⟨by decide,by decide,fun _ h=>(nomatch h),fun _ h=>(nomatch h),by decide,by decide,fun _ h=>(nomatch h),fun _ h=>(nomatch h),fun _ h=>(nomatch h)⟩
 rw [smX_self] at c6
 exact lawBlW n m t x ct b1 b2 b3 b5 (parseTP sx tb hb) (parseTP sx b4 (markT_byte hb)) c3 j e q he j3 c4 c5 (known_ofN c6 (dvn_ok (n:=9) (by kernel_rfl))) awakeS
theorem lawBlA (n:Int) (hn:(Lit.int .i64 n).wf=true) (m:Int) (hm:(Lit.int .i64 m).wf=true):KnownCall Try.prog 4 [.int .i64 n,.int .i64 m] (.d (.bool true)):=lawBl n (w64_of hn) m (w64_of hm)
end Go.Av
end

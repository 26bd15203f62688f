/-
  Parts of the way to the law, joined: rules for code over data, and what the functions return. Conditions stand at each.
-/
import Derived.Test.YtbhonjkfkdeneaaGreatCc4
import Derived.Test.YtbhonjkfkdeneaaGreatCc3
import Derived.Test.YtbhonjkfkdeneaaGreatCc2
set_option linter.all false
noncomputable section
namespace Go.Av
open Go Go.Proofs
set_option maxRecDepth 10000
theorem strsC_cons (x:List Nat) (l:List (List Nat)):strsC (x :: l)=x.length :: (x++strsC l):=by simp [strsC]
theorem drop_app {s A B:List Nat} {p:Nat} (h:s.drop p=A++B):s.drop (p+A.length)=B:=by rw [← List.drop_drop,h];simp
section
variable {s:List Nat}
theorem num_fw {p c l m:Nat} {B:List Nat} (h:s.drop p=c :: B) (h1:l≤c) (h2:c≤m) (hm:m<128):numX s p l m=.ok (c,p+1):=numX_of (drop_get h).1 h1 h2 hm
theorem names_fw:∀ (l:List (List Nat)) (p:Nat) (acc:List (List Nat)) (B:List Nat),s.drop p=strsC l++B→(∀ t ∈ l,t.length≤12)→namesGo s l.length p acc=.ok (acc++l,p+(strsC l).length)
 |[],p,acc,B,_,_=>by simp [namesGo,strsC]
 |x :: l,p,acc,B,h,hl=>by
  rw [strsC_cons,List.cons_append,List.append_assoc] at h
  obtain⟨e1,e2⟩:=strX_of (m:=12) h (hl x List.mem_cons_self) (by decide)
  have ih:=names_fw l (p+1+x.length) (acc++[x]) B e2 (fun t ht=>hl t (List.mem_cons_of_mem _ ht))
  simp only [List.length_cons,namesGo,e1,exc_ok,ih,strsC_cons,List.length_append]
  rw [List.append_assoc]
  simp only [List.singleton_append,Except.ok.injEq,Prod.mk.injEq,true_and]
  omega
theorem namesX_fw {l:List (List Nat)} {p m:Nat} {B:List Nat} (h:s.drop p=namesC l++B) (h1:1≤l.length) (h2:l.length≤m) (hm:m<128) (hl:∀ t ∈ l,t.length≤12):namesX s p m=.ok (l,p+(namesC l).length):=by
 have h':s.drop p=l.length :: (strsC l++B):=h
 unfold namesX
 rw [num_fw h' h1 h2 hm]
 have:=names_fw l (p+1) [] B (drop_get h').2 hl
 simp only [exc_ok,this,namesC,List.length_cons,List.nil_append]
 rw [show p+1+(strsC l).length=p+((strsC l).length+1) by omega]
def SymOK (x:Int):Prop:=(0≤x∧x<8)∨(16≤x∧x<24)
theorem symQ_num {x:Int} (h:SymOK x):numC x≤15∧((symQ (numC x):Nat):Int)=x:=by
 unfold SymOK at h
 unfold symQ numC numI
 split<;>split<;>omega
theorem right_fw:∀ (l:List Int) (p:Nat) (acc:List Int) (B:List Nat),s.drop p=l.map numC++B→(∀ x ∈ l,SymOK x)→rightGo s l.length p acc=.ok (acc++l,p+l.length)
 |[],p,acc,B,_,_=>by simp [rightGo]
 |x :: l,p,acc,B,h,hl=>by
  have hx:=symQ_num (hl x List.mem_cons_self)
  have h':s.drop p=numC x :: (l.map numC++B):=h
  have e1:=num_fw (l:=0) (m:=15) h' (Nat.zero_le _) hx.1 (by decide)
  have ih:=right_fw l (p+1) (acc++[x]) B (drop_get h').2 (fun t ht=>hl t (List.mem_cons_of_mem _ ht))
  simp only [List.length_cons,rightGo,e1,exc_ok,hx.2,ih]
  rw [List.append_assoc]
  simp only [List.singleton_append,Except.ok.injEq,Prod.mk.injEq,true_and]
  omega
structure ProdOK (g:GProd):Prop where
 left:16≤g.left∧g.left<24
 right:g.right.length≤6
 syms:∀ x ∈ g.right,SymOK x
theorem prod_fw {g:GProd} {p:Nat} {B:List Nat} (h:s.drop p=prodC g++B) (hg:ProdOK g):prodX s p=.ok (g,p+(prodC g).length):=by
 have h':s.drop p=(g.left-16).toNat :: (g.right.length :: (g.right.map numC++B)):=by
  rw [h];simp [prodC]
 have e1:=num_fw (l:=0) (m:=7) h' (Nat.zero_le _) (by have:=hg.left;omega) (by decide)
 have h2:=(drop_get h').2
 have e2:=num_fw (l:=0) (m:=6) h2 (Nat.zero_le _) hg.right (by decide)
 have e3:=right_fw g.right (p+1+1) [] B (drop_get h2).2 hg.syms
 have hl:((16+(g.left-16).toNat:Nat):Int)=g.left:=by have:=hg.left;omega
 simp only [prodX,e1,exc_ok,e2,e3,hl,List.nil_append]
 rw [show p+1+1+g.right.length=p+(prodC g).length by simp [prodC];omega]
theorem prods_fw:∀ (l:List GProd) (p:Nat) (acc:List GProd) (B:List Nat),s.drop p=l.flatMap prodC++B→(∀ g ∈ l,ProdOK g)→prodsGo s l.length p acc=.ok (acc++l,p+(l.flatMap prodC).length)
 |[],p,acc,B,_,_=>by simp [prodsGo]
 |g :: l,p,acc,B,h,hl=>by
  rw [List.flatMap_cons,List.append_assoc] at h
  have e1:=prod_fw h (hl g List.mem_cons_self)
  have ih:=prods_fw l (p+(prodC g).length) (acc++[g]) B (drop_app h) (fun t ht=>hl t (List.mem_cons_of_mem _ ht))
  simp only [List.length_cons,prodsGo,e1,exc_ok,ih,List.flatMap_cons,List.length_append]
  rw [List.append_assoc]
  simp only [List.singleton_append,Except.ok.injEq,Prod.mk.injEq,true_and]
  omega
structure GramOK (g:Gram):Prop where
 k:1≤g.k∧g.k≤4
 tok:1≤g.tokens.length∧g.tokens.length≤8
 tokS:∀ t ∈ g.tokens,t.length≤12
 sep:g.sep.length≤12
 nam:1≤g.names.length∧g.names.length≤8
 namS:∀ t ∈ g.names,t.length≤12
 start:16≤g.start∧g.start<24
 prods:1≤g.prods.length∧g.prods.length≤24
 prod:∀ p ∈ g.prods,ProdOK p
theorem canonC_eq (g:Gram):canonC g=g.k.toNat :: (namesC g.tokens++(g.sep.length :: (g.sep++(namesC g.names++((g.start-16).toNat :: (g.prods.length :: g.prods.flatMap prodC)))))):=by
 simp [canonC,headC,strsC]
theorem gram_fw {g:Gram} (hg:GramOK g) {B:List Nat} (h:s=canonC g++B):gramY s=.ok (g,(canonC g).length):=by
 have h1:s.drop 0=g.k.toNat :: (namesC g.tokens++(g.sep.length :: (g.sep++(namesC g.names++((g.start-16).toNat :: (g.prods.length :: (g.prods.flatMap prodC++B))))))):=by
  rw [List.drop_zero,h,canonC_eq];simp
 have e1:=num_fw (l:=1) (m:=4) h1 (by have:=hg.k;omega) (by have:=hg.k;omega) (by decide)
 have h2:=(drop_get h1).2
 have e2:=namesX_fw (m:=8) h2 hg.tok.1 hg.tok.2 (by decide) hg.tokS
 have h3:=drop_app h2
 obtain⟨e3,h4⟩:=strX_of (m:=12) h3 hg.sep (by decide)
 have e4:=namesX_fw (m:=8) h4 hg.nam.1 hg.nam.2 (by decide) hg.namS
 have h5:=drop_app h4
 have e5:=num_fw (l:=0) (m:=7) h5 (Nat.zero_le _) (by have:=hg.start;omega) (by decide)
 have h6:=(drop_get h5).2
 have e6:=num_fw (l:=1) (m:=24) h6 hg.prods.1 hg.prods.2 (by decide)
 have e7:=prods_fw g.prods _ [] B (drop_get h6).2 hg.prod
 have hk:((g.k.toNat:Nat):Int)=g.k:=by have:=hg.k;omega
 have hst:((16+(g.start-16).toNat:Nat):Int)=g.start:=by have:=hg.start;omega
 unfold gramY
 simp only [e1,exc_ok,e2,e3,e4,e5,e6,e7,hk,hst,List.nil_append]
 refine congrArg (fun n=>Except.ok (g,n)) ?_
 rw [canonC_eq]
 simp only [List.length_cons,List.length_append]
 omega
end
theorem gramOK_of {g:Gram} (h:checkF g=0):GramOK g:=by
 have o:=valid_ok h
 obtain⟨_,p2,p3,_,_⟩:=check_parts h
 have hn:1≤g.names.length:=by cases hh:g.names with|nil=>exact absurd hh p3|cons a l=>simp
 have ht:1≤g.tokens.length:=by cases hh:g.tokens with|nil=>exact absurd hh p2|cons a l=>simp
 have hp:1≤g.prods.length:=by
  have:=valid_some h (i:=0) (by omega)
  cases hh:g.prods with
  |nil=>rw [hh] at this;simp [cntL] at this
  |cons a l=>simp
 refine⟨o.k,⟨ht,o.tokens⟩,o.tokenS,o.sep,⟨hn,o.names⟩,o.nameS,o.start,⟨hp,o.prods⟩,fun p hp=>⟨?_,o.right p hp,fun x hx=>?_⟩⟩
 ·have:=o.left p hp;have:=o.names;omega
 ·have:=o.syms p hp x hx
  have:=o.names
  have:=o.tokens
  unfold SymOK
  omega
end Go.Av
end
noncomputable section
namespace Go.Av
open Go Go.Proofs
set_option maxRecDepth 10000
def ErrOK {α:Type} (r:Except Fq α):Prop:=∀ e,r=.error e→¬ e.1=0
theorem ErrOK.bind {α β:Type} {r:Except Fq α} {f:α→Except Fq β} (h:ErrOK r) (hf:∀ a,ErrOK (f a)):ErrOK (r.bind f):=by
 intro e he
 cases r with
 |error x =>
  have he:Except.error x=Except.error (α:=β) e:=he
  cases he
  exact h _ rfl
 |ok a=>exact hf a e he
theorem ErrOK.ok {α:Type} {a:α}:ErrOK (.ok a):=fun _ h=>(nomatch h)
section
variable {s:List Nat}
end
theorem OkG.fitsG {g:Gram} (h:OkG g):Fits g where
 tokens:=by have:=h.tokens;omega
 names:=by have:=h.names;omega
 prods:=by have:=h.prods;omega
 sep:=by have:=h.sep;omega
 tokenS t ht:=by have:=h.tokenS t ht;omega
 nameS t ht:=by have:=h.nameS t ht;omega
 rights p hp:=by have:=h.right p hp;omega
theorem canon_len {g:Gram} (h:checkF g=0):(canonC g).length≤492∧1≤(canonC g).length:=by
 refine⟨canonC_len (valid_ok h),?_⟩
 rw [canonC_eq]
 simp only [List.length_cons]
 omega
theorem parse_cut {g:Gram} (h:checkF g=0) {k:Nat} (hk:k<(canonC g).length):∃ x:Nat,x≤k∧parseG ((canonC g).take k)=(gz,5,((x:Nat):Int)):=by
 have h1:=gram_fw (gramOK_of h) (s:=canonC g) (B:=[]) (by simp)
 rcases tr_gram (s:=canonC g) (k:=k) (by omega) g _ h1 with⟨h2,_⟩|⟨x,h2,h3⟩
 ·omega
 ·refine⟨x,h3,?_⟩
  unfold parseG
  rw [gramX_Y,h2];rfl
theorem parse_long {g:Gram} (h:checkF g=0) (b:Nat):parseG (canonC g++[b])=(gz,4,(((canonC g).length:Nat):Int)):=by
 have he:endR12 (canonC g++[b]) (canonC g).length=(4,(canonC g).length):=if_pos (by simp)
 unfold parseG
 rw [gramX_Y,gram_fw (gramOK_of h) (B:=[b]) rfl]
 simp only [exc_ok,he]
 rfl
end Go.Av
end
noncomputable section
namespace Go.Av
open Go Go.Proofs
set_option maxRecDepth 10000
theorem namesGo_ok {s:List Nat}:∀ {k p:Nat} {acc l:List (List Nat)} {q:Nat},namesGo s k p acc=.ok (l,q)→p≤s.length→(∀ t ∈ acc,t.length≤12)→q≤s.length∧l.length=acc.length+k∧∀ t ∈ l,t.length≤12
 |0,p,acc,l,q,h,hp,ha=>by
  unfold namesGo at h
  simp only [Except.ok.injEq,Prod.mk.injEq] at h
  obtain⟨rfl,rfl⟩:=h
  exact⟨hp,rfl,ha⟩
 |k+1,p,acc,l,q,h,hp,ha=>by
  unfold namesGo at h
  rcases hx:strX s p 12 with e|⟨t,q'⟩
  ·rw [hx] at h;cases h
  ·rw [hx] at h
   have h:namesGo s k q' (acc++[t])=.ok (l,q):=h
   obtain⟨_,x1,_,_,x2,_⟩:=strX_ok hx
   obtain⟨y1,y2,y3⟩:=namesGo_ok h x1 (fun u hu=>by
    rcases List.mem_append.1 hu with h|h
    ·exact ha u h
    ·rw [List.mem_singleton.1 h];exact x2)
   exact⟨y1,by rw [y2];simp;omega,y3⟩
theorem namesX_ok {s:List Nat} {p m:Nat} {l:List (List Nat)} {q:Nat} (h:namesX s p m=.ok (l,q)):q≤s.length∧l.length≤m∧∀ t ∈ l,t.length≤12:=by
 unfold namesX at h
 rcases hn:numX s p 1 m with e|⟨n,q1⟩
 ·rw [hn] at h;cases h
 ·rw [hn] at h
  have h:namesGo s n q1 []=.ok (l,q):=h
  obtain⟨n1,n2,n3,n4,_⟩:=numX_ok hn
  obtain⟨y1,y2,y3⟩:=namesGo_ok h n1 (fun _ h=>(nomatch h))
  exact⟨y1,by rw [y2];simp;omega,y3⟩
abbrev gB (k:Nat) (ts:List (List Nat)) (sp:List Nat) (ns:List (List Nat)) (st:Nat) (ds:List DV):Ob:=.box [.d (.int .i64 (k:Nat)),.d (strs ts),.d (.str sp),.d (strs ns),.d (.int .i64 (st:Nat)),.sr 3 2 ds]
def finG (s:List Nat) (k:Nat) (ts:List (List Nat)) (sp:List Nat) (ns:List (List Nat)) (st:Nat):Except Fq (List GProd × Nat)→Gram × Int × Int
 |.error e=>(gz,(e.1:Nat),(e.2:Nat))
 |.ok ps=>if(endR12 s ps.2).1=0 then(if checkF ⟨(k:Nat),ts,sp,ns,(st:Nat),ps.1⟩=0 then(⟨(k:Nat),ts,sp,ns,(st:Nat),ps.1⟩,0,0) else(gz,checkF ⟨(k:Nat),ts,sp,ns,(st:Nat),ps.1⟩,0)) else(gz,((endR12 s ps.2).1:Nat),((endR12 s ps.2).2:Nat))
set_option maxHeartbeats 16000000 in
theorem parseC (s:List Nat) (hs:s.length≤20000):KnownCall Tryz.prog 55 [.str s] (resG (parseG s)):=by
 obtain⟨R,hR⟩:∃ R,R=parseG s:=⟨_,rfl⟩
 rw [← hR]
 unfold parseG gramX at hR
 have cr:=readC s hs
 have ce:=ends0 s 0 0
 refine knownED Yo (fnAt Tryz.func55 (by kernel_rfl) (by kernel_rfl):FnAt _ _ (mkFn Tryz.f55 [])) ?_
 repeat' (first|refine zW [] ?_|((refine zB [] (fun h=>?_) (fun h=>?_))<;>(first|exact zk h|skip))|refine zX [] ?_|refine zC (cr) ?_|refine RunOps.deferOp (by rfl) rfl (by rfl) ?_|refine oE [2] ce ?_|(refine zE ?_;(skip))|((exfalso;first|(simp at h<;>fail)|(simp at h;omega)))|fail)
 rcases h1:numX s 0 1 4 with e|⟨k,q1⟩
 ·rw [h1] at hR
  have hR:R=(gz,((e.1:Nat):Int),((e.2:Nat):Int)):=hR
  subst hR
  have c:=numME hs (Nat.zero_le _) (by decide) (by decide) h1
  repeat' (first|refine zW [] ?_|((refine zB [] (fun h=>?_) (fun h=>?_))<;>(first|exact zk h|skip))|refine zX [] ?_|refine oEP [2] c ?_|(refine zE ?_;(skip))|((exact endD rfl (.inr ⟨_,_,rfl,deferC3 e _ _ _ _ _ _ _ _ _⟩) (by rfl) (by rfl) (.tup2 grZ_to .refl)))|((exfalso;first|(simp at h<;>fail)|(simp at h;omega)))|fail)
 ·have c:=numM0 hs (Nat.zero_le _) (by decide) (by decide) h1
  obtain⟨p1,_,l1,m1,_⟩:=numX_ok h1
  rw [h1] at hR
  simp only [exc_ok] at hR
  repeat' (first|refine zW [] ?_|((refine zB [] (fun h=>?_) (fun h=>?_))<;>(first|exact zk h|skip))|refine zX [] ?_|refine oE [2] c ?_|(refine zE ?_;(skip))|((exfalso;first|(simp at h<;>fail)|(simp at h;omega)))|fail)
  rcases h2:namesX s q1 8 with e|⟨ts,q2⟩
  ·rw [h2] at hR
   have hR:R=(gz,((e.1:Nat):Int),((e.2:Nat):Int)):=hR
   subst hR
   have c:=namesME hs (p1) (by decide) (by decide) h2
   repeat' (first|refine zW [] ?_|((refine zB [] (fun h=>?_) (fun h=>?_))<;>(first|exact zk h|skip))|refine zX [] ?_|refine oEP [2] c ?_|(refine zE ?_;(skip))|((exact endD rfl (.inr ⟨_,_,rfl,deferC3 e _ _ _ _ _ _ _ _ _⟩) (by rfl) (by rfl) (.tup2 grZ_to .refl)))|((exfalso;first|(simp at h<;>fail)|(simp at h;omega)))|fail)
  ·have c:=namesM0 hs (p1) (by decide) (by decide) h2
   obtain⟨p2,l2,m2⟩:=namesX_ok h2
   rw [h2] at hR
   simp only [exc_ok] at hR
   repeat' (first|refine zW [] ?_|((refine zB [] (fun h=>?_) (fun h=>?_))<;>(first|exact zk h|skip))|refine zX [] ?_|refine oE [2] c ?_|(refine zE ?_;(skip))|((exfalso;first|(simp at h<;>fail)|(simp at h;omega)))|fail)
   rcases h3:strX s q2 12 with e|⟨sp,q3⟩
   ·rw [h3] at hR
    have hR:R=(gz,((e.1:Nat):Int),((e.2:Nat):Int)):=hR
    subst hR
    have c:=nameME hs (p2)  h3
    repeat' (first|refine zW [] ?_|((refine zB [] (fun h=>?_) (fun h=>?_))<;>(first|exact zk h|skip))|refine zX [] ?_|refine oEP [2] c ?_|(refine zE ?_;(skip))|((exact endD rfl (.inr ⟨_,_,rfl,deferC3 e _ _ _ _ _ _ _ _ _⟩) (by rfl) (by rfl) (.tup2 grZ_to .refl)))|((exfalso;first|(simp at h<;>fail)|(simp at h;omega)))|fail)
   ·have c:=nameM0 hs (p2)  h3
    obtain⟨_,p3,_,_,l3,_,_⟩:=strX_ok h3
    rw [h3] at hR
    simp only [exc_ok] at hR
    repeat' (first|refine zW [] ?_|((refine zB [] (fun h=>?_) (fun h=>?_))<;>(first|exact zk h|skip))|refine zX [] ?_|refine oE [2] c ?_|(refine zE ?_;(skip))|((exfalso;first|(simp at h<;>fail)|(simp at h;omega)))|fail)
    rcases h4:namesX s q3 8 with e|⟨ns,q4⟩
    ·rw [h4] at hR
     have hR:R=(gz,((e.1:Nat):Int),((e.2:Nat):Int)):=hR
     subst hR
     have c:=namesME hs (p3) (by decide) (by decide) h4
     repeat' (first|refine zW [] ?_|((refine zB [] (fun h=>?_) (fun h=>?_))<;>(first|exact zk h|skip))|refine zX [] ?_|refine oEP [2] c ?_|(refine zE ?_;(skip))|((exact endD rfl (.inr ⟨_,_,rfl,deferC3 e _ _ _ _ _ _ _ _ _⟩) (by rfl) (by rfl) (.tup2 grZ_to .refl)))|((exfalso;first|(simp at h<;>fail)|(simp at h;omega)))|fail)
    ·have c:=namesM0 hs (p3) (by decide) (by decide) h4
     obtain⟨p4,l4,m4⟩:=namesX_ok h4
     rw [h4] at hR
     simp only [exc_ok] at hR
     repeat' (first|refine zW [] ?_|((refine zB [] (fun h=>?_) (fun h=>?_))<;>(first|exact zk h|skip))|refine zX [] ?_|refine oE [2] c ?_|(refine zE ?_;(skip))|((exfalso;first|(simp at h<;>fail)|(simp at h;omega)))|fail)
     rcases h5:numX s q4 0 7 with e|⟨st,q5⟩
     ·rw [h5] at hR
      have hR:R=(gz,((e.1:Nat):Int),((e.2:Nat):Int)):=hR
      subst hR
      have c:=numME hs (p4) (by decide) (by decide) h5
      repeat' (first|refine zW [] ?_|((refine zB [] (fun h=>?_) (fun h=>?_))<;>(first|exact zk h|skip))|refine zX [] ?_|refine oEP [2] c ?_|(refine zE ?_;(skip))|((exact endD rfl (.inr ⟨_,_,rfl,deferC3 e _ _ _ _ _ _ _ _ _⟩) (by rfl) (by rfl) (.tup2 grZ_to .refl)))|((exfalso;first|(simp at h<;>fail)|(simp at h;omega)))|fail)
     ·have c:=numM0 hs (p4) (by decide) (by decide) h5
      obtain⟨p5,_,l5,m5,_⟩:=numX_ok h5
      have a5:AV.d (.int .i64 (IntKind.i64.wrap (16+(st:Int))))=.d (.int .i64 ((16+st:Nat):Int)):=congrArg (fun x=>AV.d (.int .i64 x)) ((wrap64 (by omega) (by omega)).trans (by omega))
      rw [h5] at hR
      simp only [exc_ok] at hR
      repeat' (first|refine oX (frz:=[]) (v:=.d (.int .i64 ((16+st:Nat):Int))) Yo ?_ (he:=(a5))|refine eX (v:=.d (.int .i64 ((16+st:Nat):Int))) ?_ (he:=(a5))|refine zW [] ?_|((refine zB [] (fun h=>?_) (fun h=>?_))<;>(first|exact zk h|skip))|refine zX [] ?_|refine oE [2] c ?_|(refine zE ?_;(skip))|((exfalso;first|(simp at h<;>fail)|(simp at h;omega)))|fail)
      rcases h6:numX s q5 1 24 with e|⟨n,q6⟩
      ·rw [h6] at hR
       have hR:R=(gz,((e.1:Nat):Int),((e.2:Nat):Int)):=hR
       subst hR
       have c:=numME hs (p5) (by decide) (by decide) h6
       repeat' (first|refine zW [] ?_|((refine zB [] (fun h=>?_) (fun h=>?_))<;>(first|exact zk h|skip))|refine zX [] ?_|refine oEP [2] c ?_|(refine zE ?_;(skip))|((exact endD rfl (.inr ⟨_,_,rfl,deferC3 e _ _ _ _ _ _ _ _ _⟩) (by rfl) (by rfl) (.tup2 grZ_to .refl)))|((exfalso;first|(simp at h<;>fail)|(simp at h;omega)))|fail)
      ·have c:=numM0 hs (p5) (by decide) (by decide) h6
       obtain⟨p6,_,l6,m6,_⟩:=numX_ok h6
       rw [h6] at hR
       simp only [exc_ok] at hR
       repeat' (first|refine zW [] ?_|((refine zB [] (fun h=>?_) (fun h=>?_))<;>(first|exact zk h|skip))|refine zX [] ?_|refine oE [2] c ?_|(refine zE ?_;(skip))|((exfalso;first|(simp at h<;>fail)|(simp at h;omega)))|fail)
       have hR:finG s k ts sp ns (16+st) (prodsGo s n q6 [])=R:=by
        rw [hR]
        show finG s k ts sp ns (16+st) (prodsGo s n q6 [])=(match ((prodsGo s n q6 []).bind fun ps=>if(endR12 s ps.2).1=0 then Except.ok ⟨(k:Nat),ts,sp,ns,((16+st:Nat):Int),ps.1⟩ else Except.error (endR12 s ps.2)) with|.error e=>(gz,((e.1:Nat):Int),((e.2:Nat):Int))|.ok g=>if checkF g=0 then(g,0,0) else(gz,checkF g,0))
        cases prodsGo s n q6 [] with
        |error e=>rfl
        |ok ps =>
         simp only [finG,exc_ok]
         split<;>rfl
       generalize hP:prodsGo s n q6 []=PR at hR
       refine Run.tidy (s':=⟨PT.ofList [(2,.bp 0 0),(3,.bp 1 0),(4,.bp 2 0),(32,.d (.int .i64 (n:Nat))),(33,.d (.int .i64 ((0:Nat):Int)))],[.box [.d (.int .i64 (k:Nat)),.d (strs ts),.d (.str sp),.d (strs ns),.d (.int .i64 ((16+st:Nat):Int)),.d .nilsl],oFZ,rX s q6 0 0],dlC⟩) (tidy_of (objs:=_) _ 3 (by rfl) rfl (by repeat' (first|exact trivial|refine⟨(Or.inl rfl),?_⟩|refine⟨(Or.inr rfl),?_⟩|fail)) (by repeat' (first|exact trivial|refine⟨rfl,?_⟩|fail)) rfl rfl) ?_
       refine Run.cellRoom 0 5 2 ?_
       refine Run.loopT (fun y:Nat × Nat × List DV=>⟨PT.ofList [(2,.bp 0 0),(3,.bp 1 0),(4,.bp 2 0),(32,.d (.int .i64 (n:Nat))),(33,.d (.int .i64 (y.1:Nat)))],[gB k ts sp ns (16+st) y.2.2,oFZ,rX s y.2.1 0 0,.room y.2.2.length 2],dlC⟩) (fun y=>y.1≤n∧y.2.1≤s.length∧∃ acc:List GProd,y.2.2=acc.map encP∧acc.length=y.1∧(∀ p ∈ acc,p.right.length≤6)∧prodsGo s (n-y.1) y.2.1 acc=PR) (fun y=>n-y.1) (0,q6,[]) ⟨Nat.zero_le _,p6,[],rfl,rfl,fun _ h=>(nomatch h),hP⟩ (tidy_of (objs:=_) _ 4 (by rfl) rfl (by repeat' (first|exact trivial|refine⟨(Or.inl rfl),?_⟩|refine⟨(Or.inr rfl),?_⟩|fail)) (by repeat' (first|exact trivial|refine⟨rfl,?_⟩|fail)) rfl rfl) (fun y hy=>?_)
       obtain⟨i,p,ds⟩:=y
       obtain⟨g1,g2,acc,g3,g4,g6,g5⟩:=hy
       simp only at g1 g2 g3 g4 g5 g6 ⊢
       have hdl:ds.length=i:=by rw [g3,List.length_map];exact g4
       have ai:AV.d (.int .i64 (IntKind.i64.wrap ((i:Int)+1)))=.d (.int .i64 ((i+1:Nat):Int)):=vN8 (by omega) (by omega)
       rcases Nat.lt_or_ge i n with hlt|hge
       ·obtain⟨f,hf⟩:∃ f,n-i=f+1:=⟨n-i-1,by omega⟩
        rw [hf] at g5
        unfold prodsGo prodX at g5
        rcases b1:numX s p 0 7 with e|⟨lf,r1⟩
        ·rw [b1] at g5
         have g5:Except.error e=PR:=g5
         subst g5
         have hR:(gz,((e.1:Nat):Int),((e.2:Nat):Int))=R:=hR
         subst hR
         have c:=numME hs g2 (by decide) (by decide) b1
         repeat' (first|refine zW [] ?_|((refine zB [] (fun h=>?_) (fun h=>?_))<;>(first|exact zk h|skip))|refine zX [] ?_|refine oEP [2] c ?_|(refine zE ?_;(skip))|((exact endD rfl (.inr ⟨_,_,rfl,deferC4 e _ _ _ _ _ _ _ _ _ _⟩) (by rfl) (by rfl) (.tup2 grZ_to .refl)))|((exfalso;first|(simp at h<;>fail)|(simp at h;omega)))|fail)
        ·rw [b1] at g5
         simp only [exc_ok] at g5
         have c:=numM0 hs g2 (by decide) (by decide) b1
         obtain⟨w1,_,w2,w3,_⟩:=numX_ok b1
         have al:AV.d (.int .i64 (IntKind.i64.wrap (16+(lf:Int))))=.d (.int .i64 ((16+lf:Nat):Int)):=congrArg (fun x=>AV.d (.int .i64 x)) ((wrap64 (by omega) (by omega)).trans (by omega))
         repeat' (first|refine oX (frz:=[]) (v:=.d (.int .i64 ((16+lf:Nat):Int))) Yo ?_ (he:=(al))|refine eX (v:=.d (.int .i64 ((16+lf:Nat):Int))) ?_ (he:=(al))|refine zW [] ?_|((refine zB [] (fun h=>?_) (fun h=>?_))<;>(first|exact zk h|skip))|refine zX [] ?_|refine oE [2] c ?_|(refine zE ?_;(skip))|((exfalso;first|(simp at h<;>fail)|(simp at h;omega)))|fail)
         rcases b2:numX s r1 0 6 with e|⟨m,r2⟩
         ·rw [b2] at g5
          have g5:Except.error e=PR:=g5
          subst g5
          have hR:(gz,((e.1:Nat):Int),((e.2:Nat):Int))=R:=hR
          subst hR
          have c:=numME hs w1 (by decide) (by decide) b2
          repeat' (first|refine zW [] ?_|((refine zB [] (fun h=>?_) (fun h=>?_))<;>(first|exact zk h|skip))|refine zX [] ?_|refine oEP [2] c ?_|(refine zE ?_;(skip))|((exact endD rfl (.inr ⟨_,_,rfl,deferC5 e _ _ _ _ _ _ _ _ _ _ _⟩) (by rfl) (by rfl) (.tup2 grZ_to .refl)))|((exfalso;first|(simp at h<;>fail)|(simp at h;omega)))|fail)
         ·have c:=numM0 hs w1 (by decide) (by decide) b2
          obtain⟨v1,_,v2,v3,_⟩:=numX_ok b2
          have g5:((numX s r1 0 6).bind fun b=>(rightGo s b.1 b.2 []).bind fun r=>Except.ok ((⟨((16+lf:Nat):Int),r.1⟩:GProd),r.2)).bind (fun r=>prodsGo s f r.2 (acc++[r.1]))=PR:=g5
          rw [b2] at g5
          have g5:((rightGo s m r2 []).bind fun r=>Except.ok ((⟨((16+lf:Nat):Int),r.1⟩:GProd),r.2)).bind (fun r=>prodsGo s f r.2 (acc++[r.1]))=PR:=g5
          generalize hQ:rightGo s m r2 []=QR at g5
          repeat' (first|refine zW [] ?_|((refine zB [] (fun h=>?_) (fun h=>?_))<;>(first|exact zk h|skip))|refine zX [] ?_|refine oE [2] c ?_|(refine zE ?_;(skip))|((exfalso;first|(simp at h<;>fail)|(simp at h;omega)))|fail)
          refine Run.tidy (s':=⟨PT.ofList [(2,.bp 0 0),(3,.bp 1 0),(4,.bp 2 0),(5,.bp 4 0),(32,.d (.int .i64 (n:Nat))),(33,.d (.int .i64 (i:Nat))),(40,.d (.int .i64 (m:Nat))),(41,.d (.int .i64 ((0:Nat):Int)))],[gB k ts sp ns (16+st) ds,oFZ,rX s r2 0 0,.room ds.length 2,.box [.d (.int .i64 ((16+lf:Nat):Int)),.d .nilsl]],dlC⟩) (tidy_of (objs:=_) _ 5 (by rfl) rfl (by repeat' (first|exact trivial|refine⟨(Or.inl rfl),?_⟩|refine⟨(Or.inr rfl),?_⟩|fail)) (by repeat' (first|exact trivial|refine⟨rfl,?_⟩|fail)) rfl rfl) ?_
          refine Run.cellRoom 4 1 1 ?_
          refine Run.loopT (fun z:Nat × Nat × List DV=>⟨PT.ofList [(2,.bp 0 0),(3,.bp 1 0),(4,.bp 2 0),(5,.bp 4 0),(32,.d (.int .i64 (n:Nat))),(33,.d (.int .i64 (i:Nat))),(40,.d (.int .i64 (m:Nat))),(41,.d (.int .i64 (z.1:Nat)))],[gB k ts sp ns (16+st) ds,oFZ,rX s z.2.1 0 0,.room ds.length 2,.box [.d (.int .i64 ((16+lf:Nat):Int)),.sr 5 1 z.2.2],.room z.2.2.length 1],dlC⟩) (fun z=>z.1≤m∧z.2.1≤s.length∧∃ rt:List Int,z.2.2=rt.map (.int .i64)∧rt.length=z.1∧rightGo s (m-z.1) z.2.1 rt=QR) (fun z=>m-z.1) (0,r2,[]) ⟨Nat.zero_le _,v1,[],rfl,rfl,hQ⟩ (tidy_of (objs:=_) _ 6 (by rfl) rfl (by repeat' (first|exact trivial|refine⟨(Or.inl rfl),?_⟩|refine⟨(Or.inr rfl),?_⟩|fail)) (by repeat' (first|exact trivial|refine⟨rfl,?_⟩|fail)) rfl rfl) (fun z hz=>?_)
          obtain⟨j,r,es⟩:=z
          obtain⟨d1,d2,rt,d3,d4,d5⟩:=hz
          simp only at d1 d2 d3 d4 d5 ⊢
          have hel:es.length=j:=by rw [d3,List.length_map];exact d4
          have aj:AV.d (.int .i64 (IntKind.i64.wrap ((j:Int)+1)))=.d (.int .i64 ((j+1:Nat):Int)):=vN8 (by omega) (by omega)
          rcases Nat.lt_or_ge j m with hjl|hjg
          ·obtain⟨f2,hf2⟩:∃ f,m-j=f+1:=⟨m-j-1,by omega⟩
           rw [hf2] at d5
           unfold rightGo at d5
           rcases b3:numX s r 0 15 with e|⟨x,r3⟩
           ·rw [b3] at d5
            have d5:Except.error e=QR:=d5
            subst d5
            have g5:Except.error e=PR:=g5
            subst g5
            have hR:(gz,((e.1:Nat):Int),((e.2:Nat):Int))=R:=hR
            subst hR
            have c:=numME hs d2 (by decide) (by decide) b3
            repeat' (first|refine zN [] ?_|((refine zB [] (fun h=>?_) (fun h=>?_))<;>(first|exact zk h|skip))|refine zX [] ?_|(refine zE ?_;(skip))|((exfalso;first|(simp at h<;>fail)|(simp at h;omega)))|fail)
            refine Run.drawPk (frz:=[]) Yo (by kernel_rfl) [(1,3)] 3 [4,5,6,8] [(2,.bp 0 0),(3,.bp 1 0)] (x:=refC e) (obP:=[gB k ts sp ns (16+st) ds,oFZ,.gone,.room ds.length 2,.box [.d (.int .i64 ((16+lf:Nat):Int)),.sr 5 1 es],.room es.length 1]) (by rfl) (by kernel_rfl) ⟨by kernel_rfl,by kernel_rfl,trivial⟩ (by kernel_rfl) ?_ ?_
            ·iterate 3 refine cX ?_
             refine cEP [2] c ?_
             iterate 3 refine cD ?_
             refine cX ?_
             refine cD ?_
             refine EvC.nil ⟨by kernel_rfl,⟨⟨_,_,_,_,_,_,_,rfl,rfl,rfl,rfl,rfl,rfl⟩,trivial⟩⟩
            ·exact endD rfl (.inr ⟨_,_,rfl,deferC6 e _ _ _ _ _ _ _ _ _ _ _ _⟩) (by rfl) (by rfl) (.tup2 grZ_to .refl)
           ·rw [b3] at d5
            have d5:rightGo s f2 r3 (rt++[((symQ x:Nat):Int)])=QR:=d5
            have c:=numM0 hs d2 (by decide) (by decide) b3
            obtain⟨y1,_,_,y3,_⟩:=numX_ok b3
            have cs:=symK x (by omega)
            repeat' (first|refine zN [] ?_|((refine zB [] (fun h=>?_) (fun h=>?_))<;>(first|exact zk h|skip))|refine zX [] ?_|(refine zE ?_;(skip))|((exfalso;first|(simp at h<;>fail)|(simp at h;omega)))|fail)
            refine Run.drawC (frz:=[]) Yo (by kernel_rfl) [(1,3),(1,4)] ?_
            iterate 3 refine cX ?_
            refine cE [2] c ?_
            refine cCall (cs []) ?_
            refine cX ?_
            refine cX ?_ (hv:=app1) (hf:=rfl) (he:=rfl)
            iterate 2 refine cX ?_
            refine EvC.nil ⟨by kernel_rfl,⟨⟨_,_,_,_,_,_,_,rfl,rfl,rfl,rfl,rfl,rfl⟩,⟨_,_,_,_,_,_,_,rfl,rfl,rfl,rfl,rfl,rfl⟩,trivial⟩,?_⟩
            repeat' (first|refine oX (frz:=[]) (v:=.d (.int .i64 ((j+1:Nat):Int))) Yo ?_ (he:=(aj))|refine eX (v:=.d (.int .i64 ((j+1:Nat):Int))) ?_ (he:=(aj))|refine zW [] ?_|((refine zB [] (fun h=>?_) (fun h=>?_))<;>(first|exact zk h|skip))|refine zX [] ?_|(refine zE ?_;(skip))|(exact⟨(j+1,r3,es++[.int .i64 ((symQ x:Nat):Int)]),⟨hjl,y1,rt++[((symQ x:Nat):Int)],by rw [d3];simp,by simp;omega,by rw [show m-(j+1)=f2 by omega];exact d5⟩,by simp only;omega,(tidy_of (objs:=_) _ 6 (Eq.trans (b:=[gB k ts sp ns (16+st) ds,oFZ,rX s r3 0 0,.room ds.length 2,.box [.d (.int .i64 ((16+lf:Nat):Int)),.sr 5 1 (es++[.int .i64 ((symQ x:Nat):Int)])],.room (es.length+1) 1]) rfl (by simp)) rfl (by repeat' (first|exact trivial|refine⟨(Or.inl rfl),?_⟩|refine⟨(Or.inl (inc_get (k:=j) (by kernel_rfl) (by omega))),?_⟩|refine⟨(Or.inr rfl),?_⟩|fail)) (by repeat' (first|exact trivial|refine⟨rfl,?_⟩|fail)) rfl rfl)⟩)|((exfalso;first|(simp at h<;>fail)|(simp at h;omega)))|fail)
          ·obtain rfl:j=m:=by omega
           rw [Nat.sub_self] at d5
           unfold rightGo at d5
           have d5:Except.ok (rt,r)=QR:=d5
           subst d5
           have g5:prodsGo s f r (acc++[⟨((16+lf:Nat):Int),rt⟩])=PR:=g5
           subst d3
           refine Run.cellData 4 1 ?_
           repeat' (first|refine oX (frz:=[]) (v:=.d (.int .i64 ((i+1:Nat):Int))) Yo ?_ (he:=(ai))|refine eX (v:=.d (.int .i64 ((i+1:Nat):Int))) ?_ (he:=(ai))|refine zW [] ?_|((refine zB [] (fun h=>?_) (fun h=>?_))<;>(first|exact zk h|skip))|refine zX [] ?_|refine oX (frz:=[]) Yo ?_ (hv:=app1) (hf:=rfl) (he:=rfl)|refine eX ?_ (hv:=app1) (hf:=rfl) (he:=rfl)|refine oX (frz:=[]) Yo ?_ (hv:=app0) (hf:=rfl) (he:=rfl)|refine eX ?_ (hv:=app0) (hf:=rfl) (he:=rfl)|(refine zE ?_;(skip))|(exact⟨(i+1,r,ds++[encP ⟨((16+lf:Nat):Int),rt⟩]),⟨hlt,d2,acc++[⟨((16+lf:Nat):Int),rt⟩],by rw [g3];simp,by simp;omega,fun p hp=>by rcases List.mem_append.1 hp with h|h;exact g6 p h;rw [List.mem_singleton.1 h];simp only;omega,by rw [show n-(i+1)=f by omega];exact g5⟩,by simp only;omega,(tidy_of (objs:=_) _ 4 (Eq.trans (b:=[gB k ts sp ns (16+st) (ds++[encP ⟨((16+lf:Nat):Int),rt⟩]),oFZ,rX s r 0 0,.room (ds.length+1) 2]) rfl (by simp)) rfl (by repeat' (first|exact trivial|refine⟨(Or.inl rfl),?_⟩|refine⟨(Or.inl (inc_get (k:=i) (by kernel_rfl) (by omega))),?_⟩|refine⟨(Or.inr rfl),?_⟩|fail)) (by repeat' (first|exact trivial|refine⟨rfl,?_⟩|fail)) rfl rfl)⟩)|((exfalso;first|(simp at h<;>fail)|(simp at h;omega)))|fail)
       ·obtain rfl:i=n:=by omega
        rw [Nat.sub_self] at g5
        unfold prodsGo at g5
        have g5:Except.ok (acc,p)=PR:=g5
        subst g5
        subst g3
        refine Run.cellData 0 5 ?_
        have cE:=endC s p hs g2
        have hR:(if(endR12 s p).1=0 then(if checkF ⟨(k:Nat),ts,sp,ns,((16+st:Nat):Int),acc⟩=0 then((⟨(k:Nat),ts,sp,ns,((16+st:Nat):Int),acc⟩:Gram),(0:Int),(0:Int)) else(gz,checkF ⟨(k:Nat),ts,sp,ns,((16+st:Nat):Int),acc⟩,0)) else(gz,(((endR12 s p).1:Nat):Int),(((endR12 s p).2:Nat):Int)))=R:=hR
        by_cases hz:p<s.length
        ·have he:endR12 s p=(4,p):=if_pos hz
         rw [he] at cE hR
         have hR:(gz,((4:Nat):Int),((p:Nat):Int))=R:=hR
         subst hR
         repeat' (first|refine zW [] ?_|((refine zB [] (fun h=>?_) (fun h=>?_))<;>(first|exact zk h|skip))|refine zX [] ?_|refine zC (cE) ?_|refine oPan ?_|(refine zE ?_;(skip))|((exact endD rfl (.inr ⟨_,_,rfl,deferC5 (4,p) _ _ _ _ _ _ _ _ _ _ _⟩) (by rfl) (by rfl) (.tup2 grZ_to .refl)))|((exfalso;first|(simp at h<;>fail)|(simp at h;omega)))|fail)
        ·have he:endR12 s p=(0,0):=if_neg hz
         rw [he] at cE hR
         have hf:Fits ⟨(k:Nat),ts,sp,ns,((16+st:Nat):Int),acc⟩:=⟨by simp only;omega,by simp only;omega,by simp only;omega,by simp only;omega,fun t ht=>by have:=m2 t ht;omega,fun t ht=>by have:=m4 t ht;omega,fun p hp=>by have:=g6 p hp;omega⟩
         have cg:=grCheck _ hf
         by_cases hc:checkF ⟨(k:Nat),ts,sp,ns,((16+st:Nat):Int),acc⟩=0
         ·rw [if_pos rfl,if_pos hc] at hR
          subst hR
          rw [hc] at cg
          repeat' (first|refine zW [] ?_|((refine zB [] (fun h=>?_) (fun h=>?_))<;>(first|exact zk h|skip))|refine zX [] ?_|refine zC (cE) ?_|refine zC (cg) ?_|(refine zE ?_;(skip))|((exfalso;first|(simp at h<;>fail)|(simp at h;omega)))|((refine Yt ?_;exact endD rfl (.inr ⟨_,_,rfl,deferC _⟩) (by rfl) (by rfl) (.tup2 .refl .refl)))|fail)
         ·rw [if_pos rfl,if_neg hc] at hR
          subst hR
          generalize checkF ⟨(k:Nat),ts,sp,ns,((16+st:Nat):Int),acc⟩=cf at cg hc ⊢
          have hv:AV.d (.bool (cf != 0))=.d (.bool true):=by congr 2;simpa using hc
          repeat' (first|refine oX (frz:=[]) (v:=.d (.bool true)) Yo ?_ (he:=(hv))|refine eX (v:=.d (.bool true)) ?_ (he:=(hv))|refine zW [] ?_|((refine zB [] (fun h=>?_) (fun h=>?_))<;>(first|exact zk h|skip))|refine zX [] ?_|refine zC (cE) ?_|refine zC (cg) ?_|(refine zE ?_;(skip))|((exfalso;first|(simp at h<;>fail)|(simp at h;omega)))|((refine Yt ?_;exact endD rfl (.inr ⟨_,_,rfl,deferC _⟩) (by rfl) (by rfl) (.tup2 grZ_to .refl)))|fail)
end Go.Av
end
noncomputable section
namespace Go.Av
open Go Go.Proofs
set_option maxRecDepth 10000
end Go.Av
end
noncomputable section
namespace Go.Av
open Go Go.Proofs
set_option maxRecDepth 10000
section
variable {H:Type} {enc:TypeId × Value→H} {w:World} {spare:Nat→Bool} {held:Bool} {fuel:Nat} {cs:List Value} {x:DataW H × List MemPlace}
abbrev Wf64 (n:Int):Prop:=(Lit.int .i64 n).wf=true
def wfStr (s:List Nat):Prop:=s.length≤maxLen∧∀ c ∈ s,c<256
structure WfProd (p:GProd):Prop where
 left:Wf64 p.left
 len:p.right.length≤maxLen
 right:∀ n ∈ p.right,Wf64 n
structure WfGram (g:Gram):Prop where
 k:Wf64 g.k
 tokensL:g.tokens.length≤maxLen
 tokens:∀ s ∈ g.tokens,wfStr s
 sep:wfStr g.sep
 namesL:g.names.length≤maxLen
 names:∀ s ∈ g.names,wfStr s
 start:Wf64 g.start
 prodsL:g.prods.length≤maxLen
 prods:∀ p ∈ g.prods,WfProd p
theorem cr_ints (hsp:∀ b,spare b=true) (h:DataW.trod enc Tryz.prog w 0 spare held fuel 66 cs=some x):∃ l:List Int,CellsRep (heapD w) (ints l) cs∧l.length≤maxLen∧∀ n ∈ l,Wf64 n :=
 cr_slice (DV.int .i64) Wf64 Tryz.underlying66 (by kernel_rfl) (Nat.le_refl _) hsp (fun n cs' y _ hy=>cr_int Tryz.underlying3 hy) h
theorem arg_ints {r:Reach} {b0:Nat} {v:Value} {d:DataW H} {ps:List MemPlace} (hsp:∀ b,spare b=true) (hval:Value.okWide Tryz.prog w r b0 66 v) (h:DataW.Trod enc Tryz.prog w 0 spare held 66 v d ps) :
  ∃ l:List Int,RepD (heapD w) (ints l) v∧l.length≤maxLen∧∀ n ∈ l,Wf64 n:=by
 obtain⟨es,he,l,rfl,hl⟩:=arg_slice (sz:=1) (R:=fun es=>∃ l:List Int,es=l.map (DV.int .i64)∧l.length≤maxLen∧∀ n ∈ l,Wf64 n) Tryz.underlying66 hval h (fun n x hx=>by
  obtain⟨l,h1,h2⟩:=cr_ints hsp hx
  exact⟨_,h1,l,rfl,h2⟩)
 exact⟨l,he,hl⟩
end
end Go.Av
end
noncomputable section
namespace Go.Av
open Go Go.Proofs
set_option maxRecDepth 10000
theorem word1 {c:Nat} (h:letterF c=true):nameF [c]=0:=by
 have hw:wordF [c]=0:=by
  rw [wordF_good (by simp) (fun i hb=>by
   obtain⟨d,hd,hl,_⟩:=hb
   cases i with
   |zero=>simp at hd;subst hd;rw [h] at hl;cases hl
   |succ i=>simp at hd)]
  simp
 unfold nameF
 rw [hw,if_neg]
 rintro⟨_,hl⟩
 simp [languageF,wLook,wToken,wSep,wStart] at hl
theorem small1 {c:Nat} (h1:97≤c) (h2:c≤122):smallF [c]=true:=by
 have hl:letterF c=true:=by simp [letterF];omega
 simp [smallF,word1 hl,h1]
theorem capital1 {c:Nat} (h1:65≤c) (h2:c≤90):capitalF [c]=true:=by
 have hl:letterF c=true:=by simp [letterF];omega
 simp [capitalF,word1 hl];omega
theorem acc_mem {nums:List Int} {T M:Nat}:∀ {i:Nat} {p:GProd},p ∈ accTo nums T M i→∃ a j,a<i∧p=prodN nums T M a j
 |0,p,h=>by cases h
 |i+1,p,h=>by
  simp only [accTo] at h
  rcases List.mem_append.1 (List.mem_of_mem_take h) with h|h
  ·obtain⟨a,j,ha,e⟩:=acc_mem h
   exact⟨a,j,by omega,e⟩
  ·simp only [rowTo,List.mem_map] at h
   obtain⟨j,_,e⟩:=h
   exact⟨i,j,by omega,e.symm⟩
theorem acc_sorted {nums:List Int} {T M:Nat}:∀ i:Nat,(accTo nums T M i).Pairwise (fun a b=>a.left≤b.left)
 |0=>.nil
 |i+1=>by
  simp only [accTo]
  refine List.Pairwise.sublist (List.take_sublist 7 _) ?_
  rw [List.pairwise_append]
  refine⟨acc_sorted i,?_,fun p hp q hq=>?_⟩
  ·rw [rowTo,List.pairwise_map]
   exact List.pairwise_iff_getElem.2 fun _ _ _ _ _=>Int.le_refl _
  ·obtain⟨a,j,ha,rfl⟩:=acc_mem hp
   simp only [rowTo,List.mem_map] at hq
   obtain⟨j',_,rfl⟩:=hq
   simp only [prodN];omega
theorem acc_short {nums:List Int} {T M:Nat}:∀ i:Nat,(accTo nums T M i).length≤3*i
 |0=>Nat.le_refl _
 |i+1=>by
  have:=acc_short (nums:=nums) (T:=T) (M:=M) i
  simp only [accTo,List.length_take,List.length_append,rowTo,List.length_map,List.length_range]
  omega
theorem acc_has {nums:List Int} {T M:Nat}:∀ {i a:Nat},a<i→i≤3→∃ p ∈ accTo nums T M i,p.left=((16+a:Nat):Int)
 |i+1,a,h,hi=>by
  have hs:=acc_short (nums:=nums) (T:=T) (M:=M) i
  simp only [accTo]
  rcases Nat.lt_or_ge a i with ha|ha
  ·obtain⟨p,hp,e⟩:=acc_has (nums:=nums) (T:=T) (M:=M) ha (by omega)
   refine⟨p,?_,e⟩
   rw [List.take_append]
   exact List.mem_append_left _ (by rw [List.take_of_length_le (by omega)];exact hp)
  ·have ha:a=i:=by omega
   subst ha
   refine⟨prodN nums T M a 0,?_,rfl⟩
   rw [List.take_append]
   refine List.mem_append_right _ ?_
   have:rowTo nums T M a (numF nums (1+a) % 3+1)=prodN nums T M a 0 :: (List.range' 1 (numF nums (1+a) % 3)).map (prodN nums T M a):=by
    rw [rowTo,List.range_eq_range',List.range'_succ];rfl
   rw [this]
   have:7-(accTo nums T M a).length=(7-(accTo nums T M a).length-1)+1:=by omega
   rw [this,List.take_succ_cons]
   exact List.mem_cons_self ..
theorem any_valid (nums:List Int):checkF (anyF nums)=0:=by
 obtain⟨k,hk⟩:∃ k,k=numF nums 0:=⟨_,rfl⟩
 obtain⟨M,hM⟩:∃ M,M=1+k / 4 % 3:=⟨_,rfl⟩
 obtain⟨T,hT⟩:∃ T,T=(kTok k).length:=⟨_,rfl⟩
 have hT2:T=1+k / 2 % 2:=by rw [hT,kTok_len]
 have e:anyF nums=⟨((1+k % 2:Nat):Int),kTok k,[122],namesTo M,16,accTo nums T M M⟩:=by simp only [anyF,← hk,hM,hT,kMany]
 rw [e]
 have hnl:(namesTo M).length=M:=by simp [namesTo]
 have hpl:(accTo nums T M M).length≤9:=Nat.le_trans (acc_short M) (by omega)
 generalize hg:(⟨((1+k % 2:Nat):Int),kTok k,[122],namesTo M,16,accTo nums T M M⟩:Gram)=g
 have g1:g.k=((1+k % 2:Nat):Int):=by rw [← hg]
 have g2:g.tokens=kTok k:=by rw [← hg]
 have g3:g.sep=[122]:=by rw [← hg]
 have g4:g.names=namesTo M:=by rw [← hg]
 have g5:g.start=16:=by rw [← hg]
 have g6:g.prods=accTo nums T M M:=by rw [← hg]
 have htl:g.tokens.length=T:=by rw [g2,hT]
 have hnl':g.names.length=M:=by rw [g4,hnl]
 have htok:∀ s ∈ g.tokens,s=[97]∨s=[98]:=fun s hs=>by
  rw [g2] at hs
  have:=List.mem_of_mem_take hs
  simpa using this
 have hmany:manyF g=0:=many_no (by omega) (by omega) (by rw [g6];omega) (fun j p hj hp=>by
  rw [g6] at hp
  obtain⟨a,b,_,rfl⟩:=acc_mem (List.mem_of_getElem? hp)
  simp [prodN,rgtTo];omega)
 have hnam:namedF g=0:=by
  refine named_no (fun j hj s hs=>?_) (fun j hj s hs=>?_)
  ·have hs:=List.mem_of_getElem? hs
   simp only [smalls,List.mem_append,List.mem_singleton,g3] at hs
   rcases hs with hs|rfl
   ·rcases htok s hs with rfl|rfl
    ·exact small1 (by decide) (by decide)
    ·exact small1 (by decide) (by decide)
   ·exact small1 (by decide) (by decide)
  ·have hs:=List.mem_of_getElem? hs
   rw [g4] at hs
   simp only [namesTo,List.mem_map,List.mem_range] at hs
   obtain⟨a,ha,rfl⟩:=hs
   exact capital1 (by omega) (by omega)
 have hnd1:(smalls g).Nodup:=by
  unfold smalls
  rw [g2,g3,kTok]
  rcases Nat.mod_two_eq_zero_or_one (k / 2) with h|h<;>rw [h]<;>decide
 have hnd2:g.names.Nodup:=by
  rw [g4,namesTo]
  refine List.Pairwise.map _ (fun a b (h:a≠b)=>?_) List.nodup_range
  simpa using h
 have hnames:namesF g=0:=by
  unfold namesF
  rw [if_neg (by simp [hnd1,hnd2]),hnam]
 have hgood:∀ p ∈ g.prods,goodP g p:=fun p hp=>by
  rw [g6] at hp
  obtain⟨a,b,ha,rfl⟩:=acc_mem hp
  refine⟨by simp only [isNonterm,prodN,Bool.and_eq_true,decide_eq_true_eq,hnl'];exact⟨(by first|omega|exact decide_eq_true (by omega)),(by first|omega|exact decide_eq_true (by omega))⟩,fun s hs=>?_⟩
  simp only [prodN,rgtTo,List.mem_map] at hs
  obtain⟨z,_,rfl⟩:=hs
  simp only [goodS,isTerm,isNonterm,Bool.or_eq_true,Bool.and_eq_true,decide_eq_true_eq,htl,hnl',symN]
  split
  ·left
   have:=Nat.mod_lt (zF (numF nums (4+3*a+b)) z) (show 0<T by omega)
   exact⟨(by first|omega|exact decide_eq_true (by omega)),(by first|omega|exact decide_eq_true (by omega))⟩
  ·right
   have:=Nat.mod_lt (zF (numF nums (4+3*a+b)) z) (show 0<M by omega)
   exact⟨(by first|omega|exact decide_eq_true (by omega)),(by first|omega|exact decide_eq_true (by omega))⟩
 have hsym:symbolsF g=0:=by
  unfold symbolsF
  rw [if_pos ⟨by simp only [isNonterm,g5,Bool.and_eq_true,decide_eq_true_eq,hnl'];exact⟨(by first|omega|exact decide_eq_true (by omega)),(by first|omega|exact decide_eq_true (by omega))⟩,hgood⟩,if_neg,if_neg]
  ·rintro⟨i,hi,hm⟩
   obtain⟨p,hp,hl⟩:=acc_has (nums:=nums) (T:=T) (M:=M) (show i<M by omega) (show M≤3 by omega)
   rw [prodsF_nil,List.any_eq_false] at hm
   refine hm p (by rw [g6];exact hp) ?_
   simp [hl]
  ·rintro⟨i,p,q,hp,hq,hlt⟩
   rw [g6] at hp hq
   have hsr:=acc_sorted (nums:=nums) (T:=T) (M:=M) M
   obtain⟨h1,e1⟩:=List.getElem?_eq_some_iff.1 hp
   obtain⟨h2,e2⟩:=List.getElem?_eq_some_iff.1 hq
   have:=List.pairwise_iff_getElem.1 hsr i (i+1) h1 h2 (by omega)
   rw [e1,e2] at this
   omega
 unfold checkF
 rw [if_neg (by rw [g1];omega),if_neg (by simp [hmany]),if_neg,if_neg (by simp [hnames]),hsym]
 rintro(h|h)
 ·rw [h] at htl;simp at htl;omega
 ·rw [h] at hnl';simp at hnl';omega
end Go.Av
end
noncomputable section
namespace Go.Av
open Go Go.Proofs
def e0:List DV × AV:=([(.str [108,111,111,107,97,104,101,97,100,32,49,59,32,116,111,107,101,110,32,97,59,32,115,101,112,97,114,97,116,111,114,32,98,59,32,115,116,97,114,116,32,83,59,32,83,32,61,32,97,32,83,32,124,32,59])],(.tup [(.d (.sl 3 [(.agg [(.int .i64 1),(.str [108,111,111,107,97,104,101,97,100]),(.int .i64 0)]),(.agg [(.int .i64 2),(.str [49]),(.int .i64 10)]),(.agg [(.int .i64 3),(.str [59]),(.int .i64 11)]),(.agg [(.int .i64 1),(.str [116,111,107,101,110]),(.int .i64 13)]),(.agg [(.int .i64 1),(.str [97]),(.int .i64 19)]),(.agg [(.int .i64 3),(.str [59]),(.int .i64 20)]),(.agg [(.int .i64 1),(.str [115,101,112,97,114,97,116,111,114]),(.int .i64 22)]),(.agg [(.int .i64 1),(.str [98]),(.int .i64 32)]),(.agg [(.int .i64 3),(.str [59]),(.int .i64 33)]),(.agg [(.int .i64 1),(.str [115,116,97,114,116]),(.int .i64 35)]),(.agg [(.int .i64 1),(.str [83]),(.int .i64 41)]),(.agg [(.int .i64 3),(.str [59]),(.int .i64 42)]),(.agg [(.int .i64 1),(.str [83]),(.int .i64 44)]),(.agg [(.int .i64 3),(.str [61]),(.int .i64 46)]),(.agg [(.int .i64 1),(.str [97]),(.int .i64 48)]),(.agg [(.int .i64 1),(.str [83]),(.int .i64 50)]),(.agg [(.int .i64 3),(.str [124]),(.int .i64 52)]),(.agg [(.int .i64 3),(.str [59]),(.int .i64 54)])])),(.d (.agg [(.int .i64 0),(.int .i64 0)]))]))
theorem k0:KnownCall Tryz.prog 96 e0.1 e0.2:=knownF T0_ok Yo (by kernel_rfl) Ft_ok (k:=100000) (n:=60) (by kernel_rfl)
def e1:List DV × AV:=([(.agg [(.int .i64 2),(.str [49]),(.int .i64 10)])],(.d (.int .i64 0)))
theorem k1:KnownCall Tryz.prog 228 e1.1 e1.2:=knownF T0_ok Yo (by kernel_rfl) Ft_ok (k:=100000) (n:=60) (by kernel_rfl)
def e2:List DV × AV:=([(.str [97])],(.d (.int .i64 0)))
theorem k2:KnownCall Tryz.prog 204 e2.1 e2.2:=knownF T0_ok Yo (by kernel_rfl) Ft_ok (k:=100000) (n:=60) (by kernel_rfl)
def e3:List DV × AV:=([(.str [83])],(.d (.int .i64 0)))
theorem k3:KnownCall Tryz.prog 204 e3.1 e3.2:=knownF T0_ok Yo (by kernel_rfl) Ft_ok (k:=100000) (n:=60) (by kernel_rfl)
end Go.Av
end
noncomputable section
namespace Go.Av
open Go Go.Proofs
def T1:Memo:=(.node .nil none (.node (.node (.node (.node (.node .nil none (.node .nil (some [e0]) .nil)) none .nil) none .nil) none (.node (.node (.node .nil none (.node .nil none (.node .nil (some [e1]) .nil))) none .nil) none (.node (.node (.node .nil none (.node .nil (some [e2,e3]) .nil)) none .nil) none .nil))) none .nil))
theorem T1_ok:MemoOK Tryz.prog T1:=⟨trivial,trivial,⟨trivial,⟨trivial,⟨trivial,⟨trivial,⟨trivial,trivial,⟨⟨k0,trivial⟩,trivial,trivial⟩⟩,trivial⟩,trivial⟩,⟨trivial,⟨trivial,⟨trivial,trivial,⟨trivial,trivial,⟨⟨k1,trivial⟩,trivial,trivial⟩⟩⟩,trivial⟩,⟨trivial,⟨trivial,⟨trivial,trivial,⟨⟨k2,k3,trivial⟩,trivial,trivial⟩⟩,trivial⟩,trivial⟩⟩⟩,trivial⟩⟩
end Go.Av
end
noncomputable section
namespace Go.Av
open Go Go.Proofs
def e4:List DV × AV:=([(.str [108,111,111,107,97,104,101,97,100,32,49,59,32,116,111,107,101,110,32,97,59,32,115,101,112,97,114,97,116,111,114,32,98,59,32,115,116,97,114,116,32,83,59,32,83,32,61,32,97,32,83,32,124,32,59])],(.tup [(.d (.agg [(.int .i64 1),(.sl 1 [(.str [97])]),(.str [98]),(.str [83]),(.sl 2 [(.agg [(.str [83]),(.sl 1 [(.sl 1 [(.str [97]),(.str [83])]),.nilsl])])])])),(.d (.agg [(.int .i64 0),(.int .i64 0)]))]))
theorem k4:KnownCall Tryz.prog 27 e4.1 e4.2:=knownF T1_ok Yo (by kernel_rfl) Ft_ok (k:=100000) (n:=60) (by kernel_rfl)
def e5:List DV × AV:=([(.agg [(.int .i64 1),(.sl 1 [(.str [97])]),(.str [98]),(.str [83]),(.sl 2 [(.agg [(.str [83]),(.sl 1 [(.sl 1 [(.str [97]),(.str [83])]),.nilsl])])])])],(.d (.int .i64 0)))
theorem k5:KnownCall Tryz.prog 35 e5.1 e5.2:=knownF T1_ok Yo (by kernel_rfl) Ft_ok (k:=100000) (n:=60) (by kernel_rfl)
def e6:List DV × AV:=([(.agg [(.int .i64 1),(.sl 1 [(.str [97])]),(.str [98]),(.sl 1 [(.str [83])]),(.int .i64 16),(.sl 2 [(.agg [(.int .i64 16),(.sl 1 [(.int .i64 0),(.int .i64 16)])]),(.agg [(.int .i64 16),.nilsl])])])],(.d (.int .i64 0)))
theorem k6:KnownCall Tryz.prog 20 e6.1 e6.2:=knownF T1_ok Yo (by kernel_rfl) Ft_ok (k:=100000) (n:=60) (by kernel_rfl)
end Go.Av
end
noncomputable section
namespace Go.Av
open Go Go.Proofs
def T2:Memo:=(.node (.node (.node .nil none (.node (.node (.node .nil (some [e5]) .nil) none .nil) none (.node .nil (some [e4]) .nil))) none .nil) none (.node (.node (.node (.node (.node .nil none (.node .nil (some [e0]) .nil)) none .nil) none .nil) none (.node (.node (.node .nil none (.node .nil none (.node .nil (some [e1]) .nil))) (some [e6]) .nil) none (.node (.node (.node .nil none (.node .nil (some [e2,e3]) .nil)) none .nil) none .nil))) none .nil))
theorem T2_ok:MemoOK Tryz.prog T2:=⟨trivial,⟨trivial,⟨trivial,trivial,⟨trivial,⟨trivial,⟨⟨k5,trivial⟩,trivial,trivial⟩,trivial⟩,⟨⟨k4,trivial⟩,trivial,trivial⟩⟩⟩,trivial⟩,⟨trivial,⟨trivial,⟨trivial,⟨trivial,⟨trivial,trivial,⟨⟨k0,trivial⟩,trivial,trivial⟩⟩,trivial⟩,trivial⟩,⟨trivial,⟨⟨k6,trivial⟩,⟨trivial,trivial,⟨trivial,trivial,⟨⟨k1,trivial⟩,trivial,trivial⟩⟩⟩,trivial⟩,⟨trivial,⟨trivial,⟨trivial,trivial,⟨⟨k2,k3,trivial⟩,trivial,trivial⟩⟩,trivial⟩,trivial⟩⟩⟩,trivial⟩⟩
end Go.Av
end
noncomputable section
namespace Go.Av
open Go Go.Proofs
def e7:List DV × AV:=([(.agg [(.int .i64 1),(.sl 1 [(.str [97])]),(.str [98]),(.sl 1 [(.str [83])]),(.int .i64 16),(.sl 2 [(.agg [(.int .i64 16),(.sl 1 [(.int .i64 0),(.int .i64 16)])]),(.agg [(.int .i64 16),.nilsl])])])],(.tup [(.d (.str [1,1,1,97,1,98,1,1,83,0,2,0,2,0,8,0,0])),(.d (.int .i64 0))]))
theorem k7:KnownCall Tryz.prog 45 e7.1 e7.2:=knownF T2_ok Yo (by kernel_rfl) Ft_ok (k:=100000) (n:=60) (by kernel_rfl)
end Go.Av
end
noncomputable section
namespace Go.Av
open Go Go.Proofs
def T3:Memo:=(.node (.node (.node .nil none (.node (.node (.node .nil (some [e5]) .nil) none .nil) none (.node .nil (some [e4]) .nil))) none (.node .nil none (.node .nil none (.node (.node .nil (some [e7]) .nil) none .nil)))) none (.node (.node (.node (.node (.node .nil none (.node .nil (some [e0]) .nil)) none .nil) none .nil) none (.node (.node (.node .nil none (.node .nil none (.node .nil (some [e1]) .nil))) (some [e6]) .nil) none (.node (.node (.node .nil none (.node .nil (some [e2,e3]) .nil)) none .nil) none .nil))) none .nil))
theorem T3_ok:MemoOK Tryz.prog T3:=⟨trivial,⟨trivial,⟨trivial,trivial,⟨trivial,⟨trivial,⟨⟨k5,trivial⟩,trivial,trivial⟩,trivial⟩,⟨⟨k4,trivial⟩,trivial,trivial⟩⟩⟩,⟨trivial,trivial,⟨trivial,trivial,⟨trivial,⟨⟨k7,trivial⟩,trivial,trivial⟩,trivial⟩⟩⟩⟩,⟨trivial,⟨trivial,⟨trivial,⟨trivial,⟨trivial,trivial,⟨⟨k0,trivial⟩,trivial,trivial⟩⟩,trivial⟩,trivial⟩,⟨trivial,⟨⟨k6,trivial⟩,⟨trivial,trivial,⟨trivial,trivial,⟨⟨k1,trivial⟩,trivial,trivial⟩⟩⟩,trivial⟩,⟨trivial,⟨trivial,⟨trivial,trivial,⟨⟨k2,k3,trivial⟩,trivial,trivial⟩⟩,trivial⟩,trivial⟩⟩⟩,trivial⟩⟩
end Go.Av
end
noncomputable section
namespace Go.Av
open Go Go.Proofs
theorem awake12:KnownCall Tryz.prog 42 [] (.d (.bool true)):=knownF T3_ok Yo (by kernel_rfl) Ft_ok (k:=100000) (n:=60) (by kernel_rfl)
end Go.Av
end
noncomputable section
namespace Go.Av
open Go Go.Proofs
set_option maxRecDepth 10000
theorem canB {g:Gram} (h:checkF g=0):KnownCall Tryz.prog 45 [encG g] (.tup [.d (.str (canonC g)),.d (.int .i64 0)]):=by
 have:=bytesS12 g (valid_ok h).fitsG
 rw [show bytesF g=canonC g from if_pos h,h] at this
 exact this
theorem w64_c {n:Int} (h:(Lit.int .i64 n).wf=true):W64 n:=by
 simp only [Lit.wf,Bool.and_eq_true,decide_eq_true_eq] at h
 exact h
end Go.Av
end
noncomputable section
namespace Go.Av
open Go Go.Proofs
set_option maxRecDepth 10000
theorem modM (n M:Int) (hn:W64 n) (h1:1≤M) (h2:M≤1073741824):KnownCall Tryz.prog 56 [.int .i64 n,.int .i64 M] (.d (.int .i64 (n % M))):=by
 have hw:=hn
 unfold W64 at hw
 have b1:=Int.emod_nonneg n (show M≠0 by omega)
 have b2:=Int.emod_lt_of_pos n (show 0<M by omega)
 have hM:((M.natAbs:Nat):Int)=M:=by omega
 have ht:n.tmod M=if 0≤n∨M ∣ n then n % M else n % M-M:=by
  rw [Int.tmod_eq_emod]
  by_cases h:0≤n∨M ∣ n
  ·rw [if_pos h,if_pos h];simp
  ·rw [if_neg h,if_neg h,hM]
 by_cases h:0≤n∨M ∣ n
 ·rw [if_pos h] at ht
  generalize n % M=q at ht b1 b2 ⊢
  refine knownE Yo (fnAt Tryz.func56 (by kernel_rfl) (by kernel_rfl):FnAt _ _ (mkFn Tryz.f56 [])) ?_
  repeat' (first|refine zW [] ?_|((refine zB [] (fun h=>?_) (fun h=>?_))<;>(first|exact zk h|skip))|refine zX [] ?_|refine oX (frz:=[]) (v:=.d (.int .i64 q)) Yo ?_ (hf:=(by simp;omega)) (he:=(congrArg (fun x=>AV.d (.int .i64 x)) ht))|(refine zE ?_;(rfl))|((exfalso;first|(simp at h<;>fail)|(simp at h;omega)))|fail)
 ·rw [if_neg h] at ht
  generalize n % M=q at ht b1 b2 ⊢
  have hq:AV.d (.int .i64 (IntKind.i64.wrap (q-M+M)))=.d (.int .i64 q):=congrArg (fun x=>AV.d (.int .i64 x)) ((wrap64 (by omega) (by omega)).trans (by omega))
  refine knownE Yo (fnAt Tryz.func56 (by kernel_rfl) (by kernel_rfl):FnAt _ _ (mkFn Tryz.f56 [])) ?_
  repeat' (first|refine oX (frz:=[]) (v:=.d (.int .i64 q)) Yo ?_ (he:=(hq))|refine eX (v:=.d (.int .i64 q)) ?_ (he:=(hq))|refine zW [] ?_|((refine zB [] (fun h=>?_) (fun h=>?_))<;>(first|exact zk h|skip))|refine zX [] ?_|refine oX (frz:=[]) (v:=.d (.int .i64 (q-M))) Yo ?_ (hf:=(by simp;omega)) (he:=(congrArg (fun x=>AV.d (.int .i64 x)) ht))|(refine zE ?_;(rfl))|((exfalso;first|(simp at h<;>fail)|(simp at h;omega)))|fail)
end Go.Av
end
noncomputable section
namespace Go.Av
open Go Go.Proofs
set_option maxRecDepth 10000
theorem known_ofM {P:Program} {f:FuncId} {a x y:DV} {r:AV} (h:KnownCall P f [a,y] r) (hr:DvN x y):KnownCall P f [a,x] r:=by
 intro o
 refine⟨(h o).1,fun D β w vs hp hv=>(h o).2 D β w vs hp ⟨hv.1,fun j c v hc hv'=>?_⟩⟩
 match j with
 |0=>exact hv.2 0 c v (by simpa using hc) hv'
 |1 =>
  simp at hc;subst hc
  have:=hv.2 1 (.d x) v rfl hv'
  cases this with
  |d k=>exact .d (hr.rep k)
 |j+2=>simp at hc
theorem grZ_N:DvN grZ (encG gz) :=
 .agg rfl fun j x y hx hy=>by
  match j with
  |0|2|4=>simp [gz] at hx hy;subst hx hy;exact .refl
  |1|3|5=>simp [gz,strs] at hx hy;subst hx hy;exact .nil
  |j+6=>simp at hx
theorem hash_congr {s t:List Nat}:∀ {i:Nat},(∀ j,j<i→s.getD j 0=t.getD j 0)→hashTo s i=hashTo t i
 |0,_=>rfl
 |i+1,h=>by
  unfold hashTo
  rw [hash_congr (i:=i) fun j hj=>h j (by omega),h i (by omega)]
theorem hash_next {s:List Nat} {k c:Nat} (h:s[k]?=some c):hashTo (s.take (k+1)) (k+1)=IntKind.u64.wrap (IntKind.u64.wrap (BitVec.ofInt 64 (hashTo (s.take k) k) ^^^ BitVec.ofInt 64 ((c:Nat):Int)).toNat*1099511628211):=by
 have e1:hashTo (s.take (k+1)) k=hashTo (s.take k) k:=hash_congr fun j hj=>by
  simp only [List.getD_eq_getElem?_getD]
  rw [List.getElem?_take_of_lt (by omega),List.getElem?_take_of_lt hj]
 have e2:(s.take (k+1)).getD k 0=c:=by
  rw [List.getD_eq_getElem?_getD,List.getElem?_take_of_lt (by omega),h];rfl
 conv=>lhs;unfold hashTo
 rw [e1,e2]
theorem cut_to {t:List Nat} {i:Nat}:cutL none (some (i:Int)) t=t.take i:=by
 simp [cutL]
set_option maxHeartbeats 8000000 in
theorem lawCcW (nums:List Int) (cut:Int) (b:Nat) (hb:b<256) (s:List Nat) (g:Gram) (k x c:Nat) (H0 H1:Int) (hA:KnownCall Tryz.prog 42 [] (.d (.bool true))) (hs:s.length≤492) (hk:k<s.length) (hx:x≤k) (hc:s[k]?=some c) (hcb:c<256)
  (c1:KnownCall Tryz.prog 52 [ints nums] (.d (encG g))) (b1:KnownCall Tryz.prog 45 [encG g] (.tup [.d (.str s),.d (.int .i64 0)]))
  (m1:KnownCall Tryz.prog 56 [.int .i64 cut,.int .i64 (s.length:Nat)] (.d (.int .i64 (k:Nat))))
  (p1:KnownCall Tryz.prog 55 [.str (s.take k)] (resG (gz,5,((x:Nat):Int)))) (p2:KnownCall Tryz.prog 55 [.str (s++[b])] (resG (gz,4,((s.length:Nat):Int))))
  (s1:KnownCall Tryz.prog 25 [encG gz,grZ] (.d (.bool true)))
  (h0:KnownCall Tryz.prog 49 [.str (s.take k)] (.d (.int .u64 H0))) (h1:KnownCall Tryz.prog 49 [.str (s.take (k+1))] (.d (.int .u64 H1)))
  (hH:H1=IntKind.u64.wrap (IntKind.u64.wrap (BitVec.ofInt 64 H0 ^^^ BitVec.ofInt 64 ((c:Nat):Int)).toNat*1099511628211)) :
  KnownCall Tryz.prog 11 [ints nums,.int .i64 cut,.int .u8 (b:Nat)] (.d (.bool true)):=by
 unfold resG at p1 p2
 simp only at p1 p2
 have v1:AV.d (.int .i64 (IntKind.i64.wrap ((k:Int)+1)))=.d (.int .i64 ((k+1:Nat):Int)):=vN8 (by omega) (by omega)
 have v2:AV.d (.str (cutL none (some (k:Int)) s))=.d (.str (s.take k)):=by rw [cut_to]
 have v3:AV.d (.str (cutL none (some ((k+1:Nat):Int)) s))=.d (.str (s.take (k+1))):=by rw [cut_to]
 have v4:AV.d (.str [((b:Nat):Int).toNat % 256])=.d (.str [b]):=by rw [show((b:Nat):Int).toNat % 256=b by omega]
 have v5:AV.d (.int .u64 (IntKind.u64.wrap (c:Int)))=.d (.int .u64 (c:Int)):=wrapU (by omega)
 have v6:AV.d (.bool (H1 == IntKind.u64.wrap (IntKind.u64.wrap (BitVec.ofInt 64 H0 ^^^ BitVec.ofInt 64 ((c:Nat):Int)).toNat*1099511628211)))=.d (.bool true):=by rw [← hH];simp
 have v7:AV.d (.bool (!((((4:Int) == 4)) && (((s.length:Nat):Int) == ((s.length:Nat):Int)) && true)))=.d (.bool false):=by simp
 refine knownE Yo (fnAt Tryz.func11 (by kernel_rfl) (by kernel_rfl):FnAt _ _ (mkFn Tryz.f11 [])) ?_
 repeat' (first|refine oX (frz:=[]) (v:=.d (.bool false)) Yo ?_ (he:=(v7))|refine eX (v:=.d (.bool false)) ?_ (he:=(v7))|refine oX (frz:=[]) (v:=.d (.bool true)) Yo ?_ (he:=(v6))|refine eX (v:=.d (.bool true)) ?_ (he:=(v6))|refine oX (frz:=[]) (v:=.d (.int .u64 (c:Int))) Yo ?_ (he:=(v5))|refine eX (v:=.d (.int .u64 (c:Int))) ?_ (he:=(v5))|refine oX (frz:=[]) (v:=.d (.str [b])) Yo ?_ (he:=(v4))|refine eX (v:=.d (.str [b])) ?_ (he:=(v4))|refine oX (frz:=[]) (v:=.d (.int .i64 ((k+1:Nat):Int))) Yo ?_ (he:=(v1))|refine eX (v:=.d (.int .i64 ((k+1:Nat):Int))) ?_ (he:=(v1))|refine zW [] ?_|((refine zB [] (fun h=>?_) (fun h=>?_))<;>(first|exact zk h|skip))|refine zX [] ?_|refine zC (hA) ?_|refine zC (c1) ?_|refine zC (b1) ?_|refine zC (m1) ?_|refine zC (p1) ?_|refine zC (p2) ?_|refine zC (s1) ?_|refine zC (h0) ?_|refine zC (h1) ?_|refine oX (frz:=[]) (v:=.d (.str (s.take k))) Yo ?_ (hf:=by first|(simp [cutC]<;>fail)|(simp [cutC];omega)) (he:=v2)|refine eX (v:=.d (.str (s.take k))) ?_ (hf:=by first|(simp [cutC]<;>fail)|(simp [cutC];omega)) (he:=v2)|refine eX (v:=.d (.str (s.take (k+1)))) ?_ (hf:=by first|(simp [cutC]<;>fail)|(simp [cutC];omega)) (he:=v3)|refine eX (v:=.d (.int .u8 (c:Int))) ?_ (hf:=by first|(simp [inB]<;>fail)|(simp [inB];omega)) (he:=by first|(simp [List.getD_eq_getElem?_getD,hc]<;>fail)|fail)|refine oX (frz:=[]) Yo ?_ (hf:=(by first|(simp [Nat.ble_eq]<;>fail)|(simp [Nat.ble_eq];omega)))|refine eX ?_ (hf:=(by first|(simp [Nat.ble_eq]<;>fail)|(simp [Nat.ble_eq];omega)))|(refine zE ?_;(rfl))|((exfalso;first|(simp at h<;>fail)|(simp at h;omega)|(simp at h;rw [h] at hk;simp at hk;done)))|fail)
theorem any_bytes (nums:List Int):ByteG (anyF nums):=by
 refine⟨fun s hs=>?_,fun c hc=>?_,fun s hs=>?_⟩
 ·have:s ∈ kTok (numF nums 0):=hs
  have:=List.mem_of_mem_take this
  rcases(by simpa using this:s=[97]∨s=[98]) with rfl|rfl<;>intro c hc<;>simp at hc<;>omega
 ·have:c ∈ [122]:=hc
  simp at this;omega
 ·have:s ∈ namesTo (kMany (numF nums 0)):=hs
  simp only [namesTo,List.mem_map,List.mem_range] at this
  obtain⟨a,ha,rfl⟩:=this
  intro c hc
  simp at hc
  unfold kMany at ha
  omega
theorem lawCc (nums:List Int) (hn:∀ n ∈ nums,W64 n) (cut:Int) (hcut:W64 cut) (b:Nat) (hb:b<256):KnownCall Tryz.prog 11 [ints nums,.int .i64 cut,.int .u8 (b:Nat)] (.d (.bool true)):=by
 have g1:=any_valid nums
 have c1:=anyS nums hn
 have gb:=any_bytes nums
 generalize anyF nums=g at g1 c1 gb
 have hbs:=canonC_by (valid_ok g1) gb
 obtain⟨l1,l2⟩:=canon_len g1
 have hpl:=parse_long g1 b
 have j1:=Int.emod_nonneg cut (show((canonC g).length:Int)≠0 by omega)
 have j2:=Int.emod_lt_of_pos cut (show(0:Int)<((canonC g).length:Int) by omega)
 have m1:=modM cut (canonC g).length hcut (by omega) (by omega)
 obtain⟨k,hk⟩:∃ k:Nat,cut % ((canonC g).length:Int)=(k:Nat):=⟨(cut % ((canonC g).length:Int)).toNat,by omega⟩
 rw [hk] at j1 j2 m1
 have hkl:k<(canonC g).length:=by omega
 obtain⟨x,hx,hpc⟩:=parse_cut g1 hkl
 have p1:=parseC ((canonC g).take k) (by rw [List.length_take];omega)
 have p2:=parseC (canonC g++[b]) (by rw [List.length_append];simp;omega)
 rw [hpc] at p1
 rw [hpl] at p2
 have b1:=canB g1
 generalize canonC g=s at *
 obtain⟨c,hc⟩:∃ c,s[k]?=some c:=⟨s[k],by simp [hkl]⟩
 have hcb:=hbs c (List.mem_of_getElem? hc)
 have h0:=hashS (s.take k) (by rw [List.length_take];omega) (fun c hc=>hbs c (List.mem_of_mem_take hc))
 have h1:=hashS (s.take (k+1)) (by rw [List.length_take];omega) (fun c hc=>hbs c (List.mem_of_mem_take hc))
 rw [List.length_take,Nat.min_eq_left (by omega)] at h0 h1
 have fz:Fits gz:=⟨by decide,by decide,by decide,by decide,fun _ h=>(nomatch h),fun _ h=>(nomatch h),fun _ h=>(nomatch h)⟩
 have s1:=known_ofM (sameSelf gz fz) grZ_N
 exact lawCcW nums cut b hb s g k x c _ _ awake12 l1 hkl hx hc hcb c1 b1 m1 p1 p2 s1 h0 h1 (hash_next hc)
theorem lawCcA (nums:List Int) (hn:nums.length≤maxLen∧∀ n ∈ nums,Wf64 n) (cut:Int) (hcut:(Lit.int .i64 cut).wf=true) (b:Int) (hb:(Lit.int .u8 b).wf=true) :
  KnownCall Tryz.prog 11 [ints nums,.int .i64 cut,.int .u8 b] (.d (.bool true)):=by
 have h2:0≤b∧b≤255:=by
  simp only [Lit.wf,Bool.and_eq_true,decide_eq_true_eq] at hb
  exact hb
 obtain⟨n,rfl⟩:∃ n:Nat,b=(n:Nat):=⟨b.toNat,by omega⟩
 exact lawCc nums (fun n h=>w64_c (hn.2 n h)) cut (w64_c hcut) n (by omega)
end Go.Av
end

/-
  Parts of the way to the law, joined: rules for code over data, and what the functions return. Conditions stand at each.
-/
import Derived.Test.YtbhonjkfkdeneaaGreatCk4
import Derived.Test.YtbhonjkfkdeneaaGreatCk3
import Derived.Test.YtbhonjkfkdeneaaGreatCk2
set_option linter.all false
noncomputable section
namespace Go.Av
open Go Go.Proofs
set_option maxRecDepth 10000
def ErrOK {α:Type} (r:Except Fq α):Prop:=∀ e,r=.error e→¬ e.1=0
theorem ErrOK.bind {α β:Type} {r:Except Fq α} {f:α→Except Fq β} (h:ErrOK r) (hf:∀ a,ErrOK (f a)):ErrOK (r.bind f):=by
 intro e he
 cases r with
 |error x =>
  have he:Except.error x=Except.error (α:=β) e:=he
  cases he
  exact h _ rfl
 |ok a=>exact hf a e he
theorem ErrOK.ok {α:Type} {a:α}:ErrOK (.ok a):=fun _ h=>(nomatch h)
section
variable {s:List Nat}
theorem err_num {p l m:Nat}:ErrOK (numX s p l m):=by
 intro e h
 unfold numX at h
 split at h
 ·cases h
 ·rename_i h0;cases h;exact h0
theorem err_str {p m:Nat}:ErrOK (strX s p m):=by
 intro e h
 unfold strX at h
 split at h
 ·cases h
 ·rename_i h0;cases h;exact h0
theorem err_names:∀ (n p:Nat) (acc:List (List Nat)),ErrOK (namesGo s n p acc)
 |0,p,acc=>.ok
 |n+1,p,acc=>err_str.bind fun _=>err_names n _ _
theorem err_namesX {p m:Nat}:ErrOK (namesX s p m):=err_num.bind fun _=>err_names _ _ _
theorem err_right:∀ (n p:Nat) (acc:List Int),ErrOK (rightGo s n p acc)
 |0,p,acc=>.ok
 |n+1,p,acc=>err_num.bind fun _=>err_right n _ _
theorem err_prod {p:Nat}:ErrOK (prodX s p):=err_num.bind fun _=>err_num.bind fun _=>(err_right _ _ _).bind fun _=>.ok
theorem err_prods:∀ (n p:Nat) (acc:List GProd),ErrOK (prodsGo s n p acc)
 |0,p,acc=>.ok
 |n+1,p,acc=>err_prod.bind fun _=>err_prods n _ _
theorem err_gram:ErrOK (gramX s):=by
 rw [gramX_Y]
 unfold gramY
 refine ErrOK.bind (err_num.bind fun _=>err_namesX.bind fun _=>err_str.bind fun _=>err_namesX.bind fun _=>err_num.bind fun _=>err_num.bind fun _=>(err_prods _ _ _).bind fun _=>.ok) fun a=>?_
 intro e h
 split at h
 ·cases h
 ·rename_i h0;cases h;exact h0
end
theorem OkG.fitsG {g:Gram} (h:OkG g):Fits g where
 tokens:=by have:=h.tokens;omega
 names:=by have:=h.names;omega
 prods:=by have:=h.prods;omega
 sep:=by have:=h.sep;omega
 tokenS t ht:=by have:=h.tokenS t ht;omega
 nameS t ht:=by have:=h.nameS t ht;omega
 rights p hp:=by have:=h.right p hp;omega
theorem canon_len {g:Gram} (h:checkF g=0):(canonC g).length≤492∧1≤(canonC g).length:=by
 refine⟨canonC_len (valid_ok h),?_⟩
 rw [canonC_eq]
 simp only [List.length_cons]
 omega
theorem parse_fw {g:Gram} (h:checkF g=0):parseG (canonC g)=(g,0,0):=by
 unfold parseG
 rw [gramX_Y,gram_fw (gramOK_of h) (B:=[]) (by simp)]
 simp only [exc_ok,endR12]
 rw [if_neg (Nat.lt_irrefl _)]
 simp only [if_true,h]
theorem canon_inj {g h:Gram} (hg:checkF g=0) (hh:checkF h=0) (e:canonC g=canonC h):g=h:=by
 have h1:=parse_fw hg
 rw [e,parse_fw hh] at h1
 exact(Prod.mk.injEq .. ▸ h1).1.symm
theorem parse_inv {s:List Nat} (h:(parseG s).2.1=0):∃ g,checkF g=0∧parseG s=(g,0,0)∧s=canonC g:=by
 unfold parseG at h ⊢
 cases hx:gramX s with
 |error e =>
  rw [hx] at h
  have:=err_gram e hx
  simp only at h
  omega
 |ok g =>
  rw [hx] at h
  simp only at h ⊢
  by_cases hc:checkF g=0
  ·rw [if_pos hc]
   refine⟨g,hc,rfl,?_⟩
   rw [gramX_Y] at hx
   obtain⟨⟨g',q⟩,h1,h2⟩:=exc_bind hx
   simp only at h2
   split at h2
   ·rename_i h0
    cases h2
    have hi:=gram_inv h1
    have:s.drop q=[]:=by
     rw [List.drop_eq_nil_iff]
     unfold endR12 at h0
     split at h0
     ·cases h0
     ·omega
    rw [this,List.append_nil] at hi
    exact hi
   ·cases h2
  ·rw [if_neg hc] at h
   exact absurd h hc
end Go.Av
end
noncomputable section
namespace Go.Av
open Go Go.Proofs
set_option maxRecDepth 10000
theorem namesGo_ok {s:List Nat}:∀ {k p:Nat} {acc l:List (List Nat)} {q:Nat},namesGo s k p acc=.ok (l,q)→p≤s.length→(∀ t ∈ acc,t.length≤12)→q≤s.length∧l.length=acc.length+k∧∀ t ∈ l,t.length≤12
 |0,p,acc,l,q,h,hp,ha=>by
  unfold namesGo at h
  simp only [Except.ok.injEq,Prod.mk.injEq] at h
  obtain⟨rfl,rfl⟩:=h
  exact⟨hp,rfl,ha⟩
 |k+1,p,acc,l,q,h,hp,ha=>by
  unfold namesGo at h
  rcases hx:strX s p 12 with e|⟨t,q'⟩
  ·rw [hx] at h;cases h
  ·rw [hx] at h
   have h:namesGo s k q' (acc++[t])=.ok (l,q):=h
   obtain⟨_,x1,_,_,x2,_⟩:=strX_ok hx
   obtain⟨y1,y2,y3⟩:=namesGo_ok h x1 (fun u hu=>by
    rcases List.mem_append.1 hu with h|h
    ·exact ha u h
    ·rw [List.mem_singleton.1 h];exact x2)
   exact⟨y1,by rw [y2];simp;omega,y3⟩
theorem namesX_ok {s:List Nat} {p m:Nat} {l:List (List Nat)} {q:Nat} (h:namesX s p m=.ok (l,q)):q≤s.length∧l.length≤m∧∀ t ∈ l,t.length≤12:=by
 unfold namesX at h
 rcases hn:numX s p 1 m with e|⟨n,q1⟩
 ·rw [hn] at h;cases h
 ·rw [hn] at h
  have h:namesGo s n q1 []=.ok (l,q):=h
  obtain⟨n1,n2,n3,n4,_⟩:=numX_ok hn
  obtain⟨y1,y2,y3⟩:=namesGo_ok h n1 (fun _ h=>(nomatch h))
  exact⟨y1,by rw [y2];simp;omega,y3⟩
abbrev gB (k:Nat) (ts:List (List Nat)) (sp:List Nat) (ns:List (List Nat)) (st:Nat) (ds:List DV):Ob:=.box [.d (.int .i64 (k:Nat)),.d (strs ts),.d (.str sp),.d (strs ns),.d (.int .i64 (st:Nat)),.sr 3 2 ds]
def finG (s:List Nat) (k:Nat) (ts:List (List Nat)) (sp:List Nat) (ns:List (List Nat)) (st:Nat):Except Fq (List GProd × Nat)→Gram × Int × Int
 |.error e=>(gz,(e.1:Nat),(e.2:Nat))
 |.ok ps=>if(endR12 s ps.2).1=0 then(if checkF ⟨(k:Nat),ts,sp,ns,(st:Nat),ps.1⟩=0 then(⟨(k:Nat),ts,sp,ns,(st:Nat),ps.1⟩,0,0) else(gz,checkF ⟨(k:Nat),ts,sp,ns,(st:Nat),ps.1⟩,0)) else(gz,((endR12 s ps.2).1:Nat),((endR12 s ps.2).2:Nat))
set_option maxHeartbeats 16000000 in
theorem parseC (s:List Nat) (hs:s.length≤20000):KnownCall Tryz.prog 55 [.str s] (resG (parseG s)):=by
 obtain⟨R,hR⟩:∃ R,R=parseG s:=⟨_,rfl⟩
 rw [← hR]
 unfold parseG gramX at hR
 have cr:=readC s hs
 have ce:=ends0 s 0 0
 refine knownED Yo (fnAt Tryz.func55 (by kernel_rfl) (by kernel_rfl):FnAt _ _ (mkFn Tryz.f55 [])) ?_
 repeat' (first|refine zW [] ?_|((refine zB [] (fun h=>?_) (fun h=>?_))<;>(first|exact zk h|skip))|refine zX [] ?_|refine zC (cr) ?_|refine RunOps.deferOp (by rfl) rfl (by rfl) ?_|refine oE [2] ce ?_|(refine zE ?_;(skip))|((exfalso;first|(simp at h<;>fail)|(simp at h;omega)))|fail)
 rcases h1:numX s 0 1 4 with e|⟨k,q1⟩
 ·rw [h1] at hR
  have hR:R=(gz,((e.1:Nat):Int),((e.2:Nat):Int)):=hR
  subst hR
  have c:=numME hs (Nat.zero_le _) (by decide) (by decide) h1
  repeat' (first|refine zW [] ?_|((refine zB [] (fun h=>?_) (fun h=>?_))<;>(first|exact zk h|skip))|refine zX [] ?_|refine oEP [2] c ?_|(refine zE ?_;(skip))|((exact endD rfl (.inr ⟨_,_,rfl,deferC3 e _ _ _ _ _ _ _ _ _⟩) (by rfl) (by rfl) (.tup2 grZ_to .refl)))|((exfalso;first|(simp at h<;>fail)|(simp at h;omega)))|fail)
 ·have c:=numM0 hs (Nat.zero_le _) (by decide) (by decide) h1
  obtain⟨p1,_,l1,m1,_⟩:=numX_ok h1
  rw [h1] at hR
  simp only [exc_ok] at hR
  repeat' (first|refine zW [] ?_|((refine zB [] (fun h=>?_) (fun h=>?_))<;>(first|exact zk h|skip))|refine zX [] ?_|refine oE [2] c ?_|(refine zE ?_;(skip))|((exfalso;first|(simp at h<;>fail)|(simp at h;omega)))|fail)
  rcases h2:namesX s q1 8 with e|⟨ts,q2⟩
  ·rw [h2] at hR
   have hR:R=(gz,((e.1:Nat):Int),((e.2:Nat):Int)):=hR
   subst hR
   have c:=namesME hs (p1) (by decide) (by decide) h2
   repeat' (first|refine zW [] ?_|((refine zB [] (fun h=>?_) (fun h=>?_))<;>(first|exact zk h|skip))|refine zX [] ?_|refine oEP [2] c ?_|(refine zE ?_;(skip))|((exact endD rfl (.inr ⟨_,_,rfl,deferC3 e _ _ _ _ _ _ _ _ _⟩) (by rfl) (by rfl) (.tup2 grZ_to .refl)))|((exfalso;first|(simp at h<;>fail)|(simp at h;omega)))|fail)
  ·have c:=namesM0 hs (p1) (by decide) (by decide) h2
   obtain⟨p2,l2,m2⟩:=namesX_ok h2
   rw [h2] at hR
   simp only [exc_ok] at hR
   repeat' (first|refine zW [] ?_|((refine zB [] (fun h=>?_) (fun h=>?_))<;>(first|exact zk h|skip))|refine zX [] ?_|refine oE [2] c ?_|(refine zE ?_;(skip))|((exfalso;first|(simp at h<;>fail)|(simp at h;omega)))|fail)
   rcases h3:strX s q2 12 with e|⟨sp,q3⟩
   ·rw [h3] at hR
    have hR:R=(gz,((e.1:Nat):Int),((e.2:Nat):Int)):=hR
    subst hR
    have c:=nameME hs (p2)  h3
    repeat' (first|refine zW [] ?_|((refine zB [] (fun h=>?_) (fun h=>?_))<;>(first|exact zk h|skip))|refine zX [] ?_|refine oEP [2] c ?_|(refine zE ?_;(skip))|((exact endD rfl (.inr ⟨_,_,rfl,deferC3 e _ _ _ _ _ _ _ _ _⟩) (by rfl) (by rfl) (.tup2 grZ_to .refl)))|((exfalso;first|(simp at h<;>fail)|(simp at h;omega)))|fail)
   ·have c:=nameM0 hs (p2)  h3
    obtain⟨_,p3,_,_,l3,_,_⟩:=strX_ok h3
    rw [h3] at hR
    simp only [exc_ok] at hR
    repeat' (first|refine zW [] ?_|((refine zB [] (fun h=>?_) (fun h=>?_))<;>(first|exact zk h|skip))|refine zX [] ?_|refine oE [2] c ?_|(refine zE ?_;(skip))|((exfalso;first|(simp at h<;>fail)|(simp at h;omega)))|fail)
    rcases h4:namesX s q3 8 with e|⟨ns,q4⟩
    ·rw [h4] at hR
     have hR:R=(gz,((e.1:Nat):Int),((e.2:Nat):Int)):=hR
     subst hR
     have c:=namesME hs (p3) (by decide) (by decide) h4
     repeat' (first|refine zW [] ?_|((refine zB [] (fun h=>?_) (fun h=>?_))<;>(first|exact zk h|skip))|refine zX [] ?_|refine oEP [2] c ?_|(refine zE ?_;(skip))|((exact endD rfl (.inr ⟨_,_,rfl,deferC3 e _ _ _ _ _ _ _ _ _⟩) (by rfl) (by rfl) (.tup2 grZ_to .refl)))|((exfalso;first|(simp at h<;>fail)|(simp at h;omega)))|fail)
    ·have c:=namesM0 hs (p3) (by decide) (by decide) h4
     obtain⟨p4,l4,m4⟩:=namesX_ok h4
     rw [h4] at hR
     simp only [exc_ok] at hR
     repeat' (first|refine zW [] ?_|((refine zB [] (fun h=>?_) (fun h=>?_))<;>(first|exact zk h|skip))|refine zX [] ?_|refine oE [2] c ?_|(refine zE ?_;(skip))|((exfalso;first|(simp at h<;>fail)|(simp at h;omega)))|fail)
     rcases h5:numX s q4 0 7 with e|⟨st,q5⟩
     ·rw [h5] at hR
      have hR:R=(gz,((e.1:Nat):Int),((e.2:Nat):Int)):=hR
      subst hR
      have c:=numME hs (p4) (by decide) (by decide) h5
      repeat' (first|refine zW [] ?_|((refine zB [] (fun h=>?_) (fun h=>?_))<;>(first|exact zk h|skip))|refine zX [] ?_|refine oEP [2] c ?_|(refine zE ?_;(skip))|((exact endD rfl (.inr ⟨_,_,rfl,deferC3 e _ _ _ _ _ _ _ _ _⟩) (by rfl) (by rfl) (.tup2 grZ_to .refl)))|((exfalso;first|(simp at h<;>fail)|(simp at h;omega)))|fail)
     ·have c:=numM0 hs (p4) (by decide) (by decide) h5
      obtain⟨p5,_,l5,m5,_⟩:=numX_ok h5
      have a5:AV.d (.int .i64 (IntKind.i64.wrap (16+(st:Int))))=.d (.int .i64 ((16+st:Nat):Int)):=congrArg (fun x=>AV.d (.int .i64 x)) ((wrap64 (by omega) (by omega)).trans (by omega))
      rw [h5] at hR
      simp only [exc_ok] at hR
      repeat' (first|refine oX (frz:=[]) (v:=.d (.int .i64 ((16+st:Nat):Int))) Yo ?_ (he:=(a5))|refine eX (v:=.d (.int .i64 ((16+st:Nat):Int))) ?_ (he:=(a5))|refine zW [] ?_|((refine zB [] (fun h=>?_) (fun h=>?_))<;>(first|exact zk h|skip))|refine zX [] ?_|refine oE [2] c ?_|(refine zE ?_;(skip))|((exfalso;first|(simp at h<;>fail)|(simp at h;omega)))|fail)
      rcases h6:numX s q5 1 24 with e|⟨n,q6⟩
      ·rw [h6] at hR
       have hR:R=(gz,((e.1:Nat):Int),((e.2:Nat):Int)):=hR
       subst hR
       have c:=numME hs (p5) (by decide) (by decide) h6
       repeat' (first|refine zW [] ?_|((refine zB [] (fun h=>?_) (fun h=>?_))<;>(first|exact zk h|skip))|refine zX [] ?_|refine oEP [2] c ?_|(refine zE ?_;(skip))|((exact endD rfl (.inr ⟨_,_,rfl,deferC3 e _ _ _ _ _ _ _ _ _⟩) (by rfl) (by rfl) (.tup2 grZ_to .refl)))|((exfalso;first|(simp at h<;>fail)|(simp at h;omega)))|fail)
      ·have c:=numM0 hs (p5) (by decide) (by decide) h6
       obtain⟨p6,_,l6,m6,_⟩:=numX_ok h6
       rw [h6] at hR
       simp only [exc_ok] at hR
       repeat' (first|refine zW [] ?_|((refine zB [] (fun h=>?_) (fun h=>?_))<;>(first|exact zk h|skip))|refine zX [] ?_|refine oE [2] c ?_|(refine zE ?_;(skip))|((exfalso;first|(simp at h<;>fail)|(simp at h;omega)))|fail)
       have hR:finG s k ts sp ns (16+st) (prodsGo s n q6 [])=R:=by
        rw [hR]
        show finG s k ts sp ns (16+st) (prodsGo s n q6 [])=(match ((prodsGo s n q6 []).bind fun ps=>if(endR12 s ps.2).1=0 then Except.ok ⟨(k:Nat),ts,sp,ns,((16+st:Nat):Int),ps.1⟩ else Except.error (endR12 s ps.2)) with|.error e=>(gz,((e.1:Nat):Int),((e.2:Nat):Int))|.ok g=>if checkF g=0 then(g,0,0) else(gz,checkF g,0))
        cases prodsGo s n q6 [] with
        |error e=>rfl
        |ok ps =>
         simp only [finG,exc_ok]
         split<;>rfl
       generalize hP:prodsGo s n q6 []=PR at hR
       refine Run.tidy (s':=⟨PT.ofList [(2,.bp 0 0),(3,.bp 1 0),(4,.bp 2 0),(32,.d (.int .i64 (n:Nat))),(33,.d (.int .i64 ((0:Nat):Int)))],[.box [.d (.int .i64 (k:Nat)),.d (strs ts),.d (.str sp),.d (strs ns),.d (.int .i64 ((16+st:Nat):Int)),.d .nilsl],oFZ,rX s q6 0 0],dlC⟩) (tidy_of (objs:=_) _ 3 (by rfl) rfl (by repeat' (first|exact trivial|refine⟨(Or.inl rfl),?_⟩|refine⟨(Or.inr rfl),?_⟩|fail)) (by repeat' (first|exact trivial|refine⟨rfl,?_⟩|fail)) rfl rfl) ?_
       refine Run.cellRoom 0 5 2 ?_
       refine Run.loopT (fun y:Nat × Nat × List DV=>⟨PT.ofList [(2,.bp 0 0),(3,.bp 1 0),(4,.bp 2 0),(32,.d (.int .i64 (n:Nat))),(33,.d (.int .i64 (y.1:Nat)))],[gB k ts sp ns (16+st) y.2.2,oFZ,rX s y.2.1 0 0,.room y.2.2.length 2],dlC⟩) (fun y=>y.1≤n∧y.2.1≤s.length∧∃ acc:List GProd,y.2.2=acc.map encP∧acc.length=y.1∧(∀ p ∈ acc,p.right.length≤6)∧prodsGo s (n-y.1) y.2.1 acc=PR) (fun y=>n-y.1) (0,q6,[]) ⟨Nat.zero_le _,p6,[],rfl,rfl,fun _ h=>(nomatch h),hP⟩ (tidy_of (objs:=_) _ 4 (by rfl) rfl (by repeat' (first|exact trivial|refine⟨(Or.inl rfl),?_⟩|refine⟨(Or.inr rfl),?_⟩|fail)) (by repeat' (first|exact trivial|refine⟨rfl,?_⟩|fail)) rfl rfl) (fun y hy=>?_)
       obtain⟨i,p,ds⟩:=y
       obtain⟨g1,g2,acc,g3,g4,g6,g5⟩:=hy
       simp only at g1 g2 g3 g4 g5 g6 ⊢
       have hdl:ds.length=i:=by rw [g3,List.length_map];exact g4
       have ai:AV.d (.int .i64 (IntKind.i64.wrap ((i:Int)+1)))=.d (.int .i64 ((i+1:Nat):Int)):=vN8 (by omega) (by omega)
       rcases Nat.lt_or_ge i n with hlt|hge
       ·obtain⟨f,hf⟩:∃ f,n-i=f+1:=⟨n-i-1,by omega⟩
        rw [hf] at g5
        unfold prodsGo prodX at g5
        rcases b1:numX s p 0 7 with e|⟨lf,r1⟩
        ·rw [b1] at g5
         have g5:Except.error e=PR:=g5
         subst g5
         have hR:(gz,((e.1:Nat):Int),((e.2:Nat):Int))=R:=hR
         subst hR
         have c:=numME hs g2 (by decide) (by decide) b1
         repeat' (first|refine zW [] ?_|((refine zB [] (fun h=>?_) (fun h=>?_))<;>(first|exact zk h|skip))|refine zX [] ?_|refine oEP [2] c ?_|(refine zE ?_;(skip))|((exact endD rfl (.inr ⟨_,_,rfl,deferC4 e _ _ _ _ _ _ _ _ _ _⟩) (by rfl) (by rfl) (.tup2 grZ_to .refl)))|((exfalso;first|(simp at h<;>fail)|(simp at h;omega)))|fail)
        ·rw [b1] at g5
         simp only [exc_ok] at g5
         have c:=numM0 hs g2 (by decide) (by decide) b1
         obtain⟨w1,_,w2,w3,_⟩:=numX_ok b1
         have al:AV.d (.int .i64 (IntKind.i64.wrap (16+(lf:Int))))=.d (.int .i64 ((16+lf:Nat):Int)):=congrArg (fun x=>AV.d (.int .i64 x)) ((wrap64 (by omega) (by omega)).trans (by omega))
         repeat' (first|refine oX (frz:=[]) (v:=.d (.int .i64 ((16+lf:Nat):Int))) Yo ?_ (he:=(al))|refine eX (v:=.d (.int .i64 ((16+lf:Nat):Int))) ?_ (he:=(al))|refine zW [] ?_|((refine zB [] (fun h=>?_) (fun h=>?_))<;>(first|exact zk h|skip))|refine zX [] ?_|refine oE [2] c ?_|(refine zE ?_;(skip))|((exfalso;first|(simp at h<;>fail)|(simp at h;omega)))|fail)
         rcases b2:numX s r1 0 6 with e|⟨m,r2⟩
         ·rw [b2] at g5
          have g5:Except.error e=PR:=g5
          subst g5
          have hR:(gz,((e.1:Nat):Int),((e.2:Nat):Int))=R:=hR
          subst hR
          have c:=numME hs w1 (by decide) (by decide) b2
          repeat' (first|refine zW [] ?_|((refine zB [] (fun h=>?_) (fun h=>?_))<;>(first|exact zk h|skip))|refine zX [] ?_|refine oEP [2] c ?_|(refine zE ?_;(skip))|((exact endD rfl (.inr ⟨_,_,rfl,deferC5 e _ _ _ _ _ _ _ _ _ _ _⟩) (by rfl) (by rfl) (.tup2 grZ_to .refl)))|((exfalso;first|(simp at h<;>fail)|(simp at h;omega)))|fail)
         ·have c:=numM0 hs w1 (by decide) (by decide) b2
          obtain⟨v1,_,v2,v3,_⟩:=numX_ok b2
          have g5:((numX s r1 0 6).bind fun b=>(rightGo s b.1 b.2 []).bind fun r=>Except.ok ((⟨((16+lf:Nat):Int),r.1⟩:GProd),r.2)).bind (fun r=>prodsGo s f r.2 (acc++[r.1]))=PR:=g5
          rw [b2] at g5
          have g5:((rightGo s m r2 []).bind fun r=>Except.ok ((⟨((16+lf:Nat):Int),r.1⟩:GProd),r.2)).bind (fun r=>prodsGo s f r.2 (acc++[r.1]))=PR:=g5
          generalize hQ:rightGo s m r2 []=QR at g5
          repeat' (first|refine zW [] ?_|((refine zB [] (fun h=>?_) (fun h=>?_))<;>(first|exact zk h|skip))|refine zX [] ?_|refine oE [2] c ?_|(refine zE ?_;(skip))|((exfalso;first|(simp at h<;>fail)|(simp at h;omega)))|fail)
          refine Run.tidy (s':=⟨PT.ofList [(2,.bp 0 0),(3,.bp 1 0),(4,.bp 2 0),(5,.bp 4 0),(32,.d (.int .i64 (n:Nat))),(33,.d (.int .i64 (i:Nat))),(40,.d (.int .i64 (m:Nat))),(41,.d (.int .i64 ((0:Nat):Int)))],[gB k ts sp ns (16+st) ds,oFZ,rX s r2 0 0,.room ds.length 2,.box [.d (.int .i64 ((16+lf:Nat):Int)),.d .nilsl]],dlC⟩) (tidy_of (objs:=_) _ 5 (by rfl) rfl (by repeat' (first|exact trivial|refine⟨(Or.inl rfl),?_⟩|refine⟨(Or.inr rfl),?_⟩|fail)) (by repeat' (first|exact trivial|refine⟨rfl,?_⟩|fail)) rfl rfl) ?_
          refine Run.cellRoom 4 1 1 ?_
          refine Run.loopT (fun z:Nat × Nat × List DV=>⟨PT.ofList [(2,.bp 0 0),(3,.bp 1 0),(4,.bp 2 0),(5,.bp 4 0),(32,.d (.int .i64 (n:Nat))),(33,.d (.int .i64 (i:Nat))),(40,.d (.int .i64 (m:Nat))),(41,.d (.int .i64 (z.1:Nat)))],[gB k ts sp ns (16+st) ds,oFZ,rX s z.2.1 0 0,.room ds.length 2,.box [.d (.int .i64 ((16+lf:Nat):Int)),.sr 5 1 z.2.2],.room z.2.2.length 1],dlC⟩) (fun z=>z.1≤m∧z.2.1≤s.length∧∃ rt:List Int,z.2.2=rt.map (.int .i64)∧rt.length=z.1∧rightGo s (m-z.1) z.2.1 rt=QR) (fun z=>m-z.1) (0,r2,[]) ⟨Nat.zero_le _,v1,[],rfl,rfl,hQ⟩ (tidy_of (objs:=_) _ 6 (by rfl) rfl (by repeat' (first|exact trivial|refine⟨(Or.inl rfl),?_⟩|refine⟨(Or.inr rfl),?_⟩|fail)) (by repeat' (first|exact trivial|refine⟨rfl,?_⟩|fail)) rfl rfl) (fun z hz=>?_)
          obtain⟨j,r,es⟩:=z
          obtain⟨d1,d2,rt,d3,d4,d5⟩:=hz
          simp only at d1 d2 d3 d4 d5 ⊢
          have hel:es.length=j:=by rw [d3,List.length_map];exact d4
          have aj:AV.d (.int .i64 (IntKind.i64.wrap ((j:Int)+1)))=.d (.int .i64 ((j+1:Nat):Int)):=vN8 (by omega) (by omega)
          rcases Nat.lt_or_ge j m with hjl|hjg
          ·obtain⟨f2,hf2⟩:∃ f,m-j=f+1:=⟨m-j-1,by omega⟩
           rw [hf2] at d5
           unfold rightGo at d5
           rcases b3:numX s r 0 15 with e|⟨x,r3⟩
           ·rw [b3] at d5
            have d5:Except.error e=QR:=d5
            subst d5
            have g5:Except.error e=PR:=g5
            subst g5
            have hR:(gz,((e.1:Nat):Int),((e.2:Nat):Int))=R:=hR
            subst hR
            have c:=numME hs d2 (by decide) (by decide) b3
            repeat' (first|refine zN [] ?_|((refine zB [] (fun h=>?_) (fun h=>?_))<;>(first|exact zk h|skip))|refine zX [] ?_|(refine zE ?_;(skip))|((exfalso;first|(simp at h<;>fail)|(simp at h;omega)))|fail)
            refine Run.drawPk (frz:=[]) Yo (by kernel_rfl) [(1,3)] 3 [4,5,6,8] [(2,.bp 0 0),(3,.bp 1 0)] (x:=refC e) (obP:=[gB k ts sp ns (16+st) ds,oFZ,.gone,.room ds.length 2,.box [.d (.int .i64 ((16+lf:Nat):Int)),.sr 5 1 es],.room es.length 1]) (by rfl) (by kernel_rfl) ⟨by kernel_rfl,by kernel_rfl,trivial⟩ (by kernel_rfl) ?_ ?_
            ·iterate 3 refine cX ?_
             refine cEP [2] c ?_
             iterate 3 refine cD ?_
             refine cX ?_
             refine cD ?_
             refine EvC.nil ⟨by kernel_rfl,⟨⟨_,_,_,_,_,_,_,rfl,rfl,rfl,rfl,rfl,rfl⟩,trivial⟩⟩
            ·exact endD rfl (.inr ⟨_,_,rfl,deferC6 e _ _ _ _ _ _ _ _ _ _ _ _⟩) (by rfl) (by rfl) (.tup2 grZ_to .refl)
           ·rw [b3] at d5
            have d5:rightGo s f2 r3 (rt++[((symQ x:Nat):Int)])=QR:=d5
            have c:=numM0 hs d2 (by decide) (by decide) b3
            obtain⟨y1,_,_,y3,_⟩:=numX_ok b3
            have cs:=symK x (by omega)
            repeat' (first|refine zN [] ?_|((refine zB [] (fun h=>?_) (fun h=>?_))<;>(first|exact zk h|skip))|refine zX [] ?_|(refine zE ?_;(skip))|((exfalso;first|(simp at h<;>fail)|(simp at h;omega)))|fail)
            refine Run.drawC (frz:=[]) Yo (by kernel_rfl) [(1,3),(1,4)] ?_
            iterate 3 refine cX ?_
            refine cE [2] c ?_
            refine cCall (cs []) ?_
            refine cX ?_
            refine cX ?_ (hv:=app1) (hf:=rfl) (he:=rfl)
            iterate 2 refine cX ?_
            refine EvC.nil ⟨by kernel_rfl,⟨⟨_,_,_,_,_,_,_,rfl,rfl,rfl,rfl,rfl,rfl⟩,⟨_,_,_,_,_,_,_,rfl,rfl,rfl,rfl,rfl,rfl⟩,trivial⟩,?_⟩
            repeat' (first|refine oX (frz:=[]) (v:=.d (.int .i64 ((j+1:Nat):Int))) Yo ?_ (he:=(aj))|refine eX (v:=.d (.int .i64 ((j+1:Nat):Int))) ?_ (he:=(aj))|refine zW [] ?_|((refine zB [] (fun h=>?_) (fun h=>?_))<;>(first|exact zk h|skip))|refine zX [] ?_|(refine zE ?_;(skip))|(exact⟨(j+1,r3,es++[.int .i64 ((symQ x:Nat):Int)]),⟨hjl,y1,rt++[((symQ x:Nat):Int)],by rw [d3];simp,by simp;omega,by rw [show m-(j+1)=f2 by omega];exact d5⟩,by simp only;omega,(tidy_of (objs:=_) _ 6 (Eq.trans (b:=[gB k ts sp ns (16+st) ds,oFZ,rX s r3 0 0,.room ds.length 2,.box [.d (.int .i64 ((16+lf:Nat):Int)),.sr 5 1 (es++[.int .i64 ((symQ x:Nat):Int)])],.room (es.length+1) 1]) rfl (by simp)) rfl (by repeat' (first|exact trivial|refine⟨(Or.inl rfl),?_⟩|refine⟨(Or.inl (inc_get (k:=j) (by kernel_rfl) (by omega))),?_⟩|refine⟨(Or.inr rfl),?_⟩|fail)) (by repeat' (first|exact trivial|refine⟨rfl,?_⟩|fail)) rfl rfl)⟩)|((exfalso;first|(simp at h<;>fail)|(simp at h;omega)))|fail)
          ·obtain rfl:j=m:=by omega
           rw [Nat.sub_self] at d5
           unfold rightGo at d5
           have d5:Except.ok (rt,r)=QR:=d5
           subst d5
           have g5:prodsGo s f r (acc++[⟨((16+lf:Nat):Int),rt⟩])=PR:=g5
           subst d3
           refine Run.cellData 4 1 ?_
           repeat' (first|refine oX (frz:=[]) (v:=.d (.int .i64 ((i+1:Nat):Int))) Yo ?_ (he:=(ai))|refine eX (v:=.d (.int .i64 ((i+1:Nat):Int))) ?_ (he:=(ai))|refine zW [] ?_|((refine zB [] (fun h=>?_) (fun h=>?_))<;>(first|exact zk h|skip))|refine zX [] ?_|refine oX (frz:=[]) Yo ?_ (hv:=app1) (hf:=rfl) (he:=rfl)|refine eX ?_ (hv:=app1) (hf:=rfl) (he:=rfl)|refine oX (frz:=[]) Yo ?_ (hv:=app0) (hf:=rfl) (he:=rfl)|refine eX ?_ (hv:=app0) (hf:=rfl) (he:=rfl)|(refine zE ?_;(skip))|(exact⟨(i+1,r,ds++[encP ⟨((16+lf:Nat):Int),rt⟩]),⟨hlt,d2,acc++[⟨((16+lf:Nat):Int),rt⟩],by rw [g3];simp,by simp;omega,fun p hp=>by rcases List.mem_append.1 hp with h|h;exact g6 p h;rw [List.mem_singleton.1 h];simp only;omega,by rw [show n-(i+1)=f by omega];exact g5⟩,by simp only;omega,(tidy_of (objs:=_) _ 4 (Eq.trans (b:=[gB k ts sp ns (16+st) (ds++[encP ⟨((16+lf:Nat):Int),rt⟩]),oFZ,rX s r 0 0,.room (ds.length+1) 2]) rfl (by simp)) rfl (by repeat' (first|exact trivial|refine⟨(Or.inl rfl),?_⟩|refine⟨(Or.inl (inc_get (k:=i) (by kernel_rfl) (by omega))),?_⟩|refine⟨(Or.inr rfl),?_⟩|fail)) (by repeat' (first|exact trivial|refine⟨rfl,?_⟩|fail)) rfl rfl)⟩)|((exfalso;first|(simp at h<;>fail)|(simp at h;omega)))|fail)
       ·obtain rfl:i=n:=by omega
        rw [Nat.sub_self] at g5
        unfold prodsGo at g5
        have g5:Except.ok (acc,p)=PR:=g5
        subst g5
        subst g3
        refine Run.cellData 0 5 ?_
        have cE:=endC s p hs g2
        have hR:(if(endR12 s p).1=0 then(if checkF ⟨(k:Nat),ts,sp,ns,((16+st:Nat):Int),acc⟩=0 then((⟨(k:Nat),ts,sp,ns,((16+st:Nat):Int),acc⟩:Gram),(0:Int),(0:Int)) else(gz,checkF ⟨(k:Nat),ts,sp,ns,((16+st:Nat):Int),acc⟩,0)) else(gz,(((endR12 s p).1:Nat):Int),(((endR12 s p).2:Nat):Int)))=R:=hR
        by_cases hz:p<s.length
        ·have he:endR12 s p=(4,p):=if_pos hz
         rw [he] at cE hR
         have hR:(gz,((4:Nat):Int),((p:Nat):Int))=R:=hR
         subst hR
         repeat' (first|refine zW [] ?_|((refine zB [] (fun h=>?_) (fun h=>?_))<;>(first|exact zk h|skip))|refine zX [] ?_|refine zC (cE) ?_|refine oPan ?_|(refine zE ?_;(skip))|((exact endD rfl (.inr ⟨_,_,rfl,deferC5 (4,p) _ _ _ _ _ _ _ _ _ _ _⟩) (by rfl) (by rfl) (.tup2 grZ_to .refl)))|((exfalso;first|(simp at h<;>fail)|(simp at h;omega)))|fail)
        ·have he:endR12 s p=(0,0):=if_neg hz
         rw [he] at cE hR
         have hf:Fits ⟨(k:Nat),ts,sp,ns,((16+st:Nat):Int),acc⟩:=⟨by simp only;omega,by simp only;omega,by simp only;omega,by simp only;omega,fun t ht=>by have:=m2 t ht;omega,fun t ht=>by have:=m4 t ht;omega,fun p hp=>by have:=g6 p hp;omega⟩
         have cg:=grCheck _ hf
         by_cases hc:checkF ⟨(k:Nat),ts,sp,ns,((16+st:Nat):Int),acc⟩=0
         ·rw [if_pos rfl,if_pos hc] at hR
          subst hR
          rw [hc] at cg
          repeat' (first|refine zW [] ?_|((refine zB [] (fun h=>?_) (fun h=>?_))<;>(first|exact zk h|skip))|refine zX [] ?_|refine zC (cE) ?_|refine zC (cg) ?_|(refine zE ?_;(skip))|((exfalso;first|(simp at h<;>fail)|(simp at h;omega)))|((refine Yt ?_;exact endD rfl (.inr ⟨_,_,rfl,deferC _⟩) (by rfl) (by rfl) (.tup2 .refl .refl)))|fail)
         ·rw [if_pos rfl,if_neg hc] at hR
          subst hR
          generalize checkF ⟨(k:Nat),ts,sp,ns,((16+st:Nat):Int),acc⟩=cf at cg hc ⊢
          have hv:AV.d (.bool (cf != 0))=.d (.bool true):=by congr 2;simpa using hc
          repeat' (first|refine oX (frz:=[]) (v:=.d (.bool true)) Yo ?_ (he:=(hv))|refine eX (v:=.d (.bool true)) ?_ (he:=(hv))|refine zW [] ?_|((refine zB [] (fun h=>?_) (fun h=>?_))<;>(first|exact zk h|skip))|refine zX [] ?_|refine zC (cE) ?_|refine zC (cg) ?_|(refine zE ?_;(skip))|((exfalso;first|(simp at h<;>fail)|(simp at h;omega)))|((refine Yt ?_;exact endD rfl (.inr ⟨_,_,rfl,deferC _⟩) (by rfl) (by rfl) (.tup2 grZ_to .refl)))|fail)
end Go.Av
end
noncomputable section
namespace Go.Av
open Go Go.Proofs
set_option maxRecDepth 10000
abbrev cellGr (g:Gram):AV:=.d (.ep [.int .i64 g.k,strs g.tokens,.str g.sep,strs g.names,.int .i64 g.start,.sl 2 (g.prods.map encP)])
set_option maxHeartbeats 4000000 in
theorem sameDiff (a b:Gram) (ha:Fits a) (hb:Fits b) (hne:a≠b):KnownCall Tryz.prog 25 [encG a,encG b] (.d (.bool false)):=by
 have hfp:=ha.prods
 have hfq:=hb.prods
 have c1:=sameTexts a.tokens b.tokens (by have:=ha.tokens;omega)
 have c2:=sameTexts a.names b.names (by have:=ha.names;omega)
 by_cases h0:a.k=b.k∧a.tokens=b.tokens∧a.sep=b.sep∧a.names=b.names∧a.start=b.start∧a.prods.length=b.prods.length
 ·obtain⟨h1,h2,h3,h4,h5,h6⟩:=h0
  rw [decide_eq_true h2] at c1
  rw [decide_eq_true h4] at c2
  refine knownE Yo (fnAt Tryz.func25 (by kernel_rfl) (by kernel_rfl):FnAt _ _ (mkFn Tryz.f25 [2,3])) ?_
  repeat' (first|refine zW [2,3] ?_|((refine zB [2,3] (fun h=>?_) (fun h=>?_))<;>(first|exact zk h|skip))|refine zX [2,3] ?_|refine zC (c1) ?_|refine zC (c2) ?_|(refine zE ?_;(skip))|((exfalso;first|(simp_all<;>fail)|(simp_all;omega)))|fail)
  refine Run.loopT (fun i:Nat=>⟨PT.ofList [(2,cellGr a),(3,cellGr b),(5,.d (.int .i64 i))],[],[]⟩) (fun i=>i≤a.prods.length∧a.prods.take i=b.prods.take i) (fun i=>a.prods.length-i) 0 ⟨Nat.zero_le _,rfl⟩ (tidy_of (objs:=_) _ 0 (by rfl) rfl (by repeat' (first|exact trivial|refine⟨(Or.inl rfl),?_⟩|refine⟨(Or.inr rfl),?_⟩|fail)) (by repeat' (first|exact trivial|refine⟨rfl,?_⟩|fail)) rfl rfl) (fun i hi=>?_)
  obtain⟨hi1,hi2⟩:=hi
  have ai:AV.d (.int .i64 (IntKind.i64.wrap ((i:Int)+1)))=.d (.int .i64 ((i+1:Nat):Int)):=vN8 (by omega) (by omega)
  rcases Nat.lt_or_ge i a.prods.length with hlt|hge
  ·obtain⟨p,hp⟩:=get_ok hlt
   obtain⟨q,hq⟩:=get_ok (show i<b.prods.length by omega)
   have hpr:=ha.rights p (List.mem_of_getElem? hp)
   have c3:=sameInts p.right q.right (by omega)
   by_cases hpq:p.left=q.left
   ·by_cases hr:p.right=q.right
    ·rw [decide_eq_true hr] at c3
     have hpe:p=q:=by cases p;cases q;simp only at hpq hr;rw [hpq,hr]
     have ht:a.prods.take (i+1)=b.prods.take (i+1):=by rw [List.take_add_one,List.take_add_one,hi2,hp,hq,hpe]
     repeat' (first|refine oX (frz:=[2,3]) (v:=.d (.int .i64 ((i+1:Nat):Int))) Yo ?_ (he:=(ai))|refine eX (v:=.d (.int .i64 ((i+1:Nat):Int))) ?_ (he:=(ai))|refine zW [2,3] ?_|((refine zB [2,3] (fun h=>?_) (fun h=>?_))<;>(first|exact zk h|skip))|refine zX [2,3] ?_|refine oX (frz:=[2,3]) (v:=.d (.ep [.int .i64 p.left,ints p.right])) Yo ?_ (hf:=(by first|(simp [inB]<;>fail)|(simp [inB];omega))) (he:=(by first|(simp [List.getD_eq_getElem?_getD,cellsD,hp,encP]<;>fail)|fail))|refine eX (v:=.d (.ep [.int .i64 p.left,ints p.right])) ?_ (hf:=(by first|(simp [inB]<;>fail)|(simp [inB];omega))) (he:=(by first|(simp [List.getD_eq_getElem?_getD,cellsD,hp,encP]<;>fail)|fail))|refine oX (frz:=[2,3]) (v:=.d (.ep [.int .i64 q.left,ints q.right])) Yo ?_ (hf:=(by first|(simp [inB]<;>fail)|(simp [inB];omega))) (he:=(by first|(simp [List.getD_eq_getElem?_getD,cellsD,hq,encP]<;>fail)|fail))|refine eX (v:=.d (.ep [.int .i64 q.left,ints q.right])) ?_ (hf:=(by first|(simp [inB]<;>fail)|(simp [inB];omega))) (he:=(by first|(simp [List.getD_eq_getElem?_getD,cellsD,hq,encP]<;>fail)|fail))|refine zC (c3) ?_|(refine zE ?_;(skip))|(exact⟨i+1,⟨hlt,ht⟩,by omega,(tidy_of (objs:=_) _ 0 (by rfl) rfl (by repeat' (first|exact trivial|refine⟨(Or.inl rfl),?_⟩|refine⟨(Or.inr rfl),?_⟩|fail)) (by repeat' (first|exact trivial|refine⟨rfl,?_⟩|fail)) rfl rfl)⟩)|((exfalso;first|(simp [hpq] at h<;>fail)|(simp at h;omega)))|fail)
    ·rw [decide_eq_false hr] at c3
     repeat' (first|refine zW [2,3] ?_|((refine zB [2,3] (fun h=>?_) (fun h=>?_))<;>(first|exact zk h|skip))|refine zX [2,3] ?_|refine oX (frz:=[2,3]) (v:=.d (.ep [.int .i64 p.left,ints p.right])) Yo ?_ (hf:=(by first|(simp [inB]<;>fail)|(simp [inB];omega))) (he:=(by first|(simp [List.getD_eq_getElem?_getD,cellsD,hp,encP]<;>fail)|fail))|refine eX (v:=.d (.ep [.int .i64 p.left,ints p.right])) ?_ (hf:=(by first|(simp [inB]<;>fail)|(simp [inB];omega))) (he:=(by first|(simp [List.getD_eq_getElem?_getD,cellsD,hp,encP]<;>fail)|fail))|refine oX (frz:=[2,3]) (v:=.d (.ep [.int .i64 q.left,ints q.right])) Yo ?_ (hf:=(by first|(simp [inB]<;>fail)|(simp [inB];omega))) (he:=(by first|(simp [List.getD_eq_getElem?_getD,cellsD,hq,encP]<;>fail)|fail))|refine eX (v:=.d (.ep [.int .i64 q.left,ints q.right])) ?_ (hf:=(by first|(simp [inB]<;>fail)|(simp [inB];omega))) (he:=(by first|(simp [List.getD_eq_getElem?_getD,cellsD,hq,encP]<;>fail)|fail))|refine zC (c3) ?_|(refine zE ?_;(rfl))|((exfalso;first|(simp [hpq] at h<;>fail)|(simp at h;omega)))|fail)
   ·repeat' (first|refine zW [2,3] ?_|((refine zB [2,3] (fun h=>?_) (fun h=>?_))<;>(first|exact zk h|skip))|refine zX [2,3] ?_|refine oX (frz:=[2,3]) (v:=.d (.ep [.int .i64 p.left,ints p.right])) Yo ?_ (hf:=(by first|(simp [inB]<;>fail)|(simp [inB];omega))) (he:=(by first|(simp [List.getD_eq_getElem?_getD,cellsD,hp,encP]<;>fail)|fail))|refine eX (v:=.d (.ep [.int .i64 p.left,ints p.right])) ?_ (hf:=(by first|(simp [inB]<;>fail)|(simp [inB];omega))) (he:=(by first|(simp [List.getD_eq_getElem?_getD,cellsD,hp,encP]<;>fail)|fail))|refine oX (frz:=[2,3]) (v:=.d (.ep [.int .i64 q.left,ints q.right])) Yo ?_ (hf:=(by first|(simp [inB]<;>fail)|(simp [inB];omega))) (he:=(by first|(simp [List.getD_eq_getElem?_getD,cellsD,hq,encP]<;>fail)|fail))|refine eX (v:=.d (.ep [.int .i64 q.left,ints q.right])) ?_ (hf:=(by first|(simp [inB]<;>fail)|(simp [inB];omega))) (he:=(by first|(simp [List.getD_eq_getElem?_getD,cellsD,hq,encP]<;>fail)|fail))|refine zC (c3) ?_|(refine zE ?_;(rfl))|((exfalso;first|(simp [hpq] at h<;>fail)|(simp at h;omega)))|fail)
  ·exfalso
   have hie:i=a.prods.length:=by omega
   have hpp:a.prods=b.prods:=by rw [hie,List.take_length,h6,List.take_length] at hi2;exact hi2
   exact hne (by cases a;cases b;simp only at h1 h2 h3 h4 h5 hpp;rw [h1,h2,h3,h4,h5,hpp])
 ·refine knownE Yo (fnAt Tryz.func25 (by kernel_rfl) (by kernel_rfl):FnAt _ _ (mkFn Tryz.f25 [2,3])) ?_
  repeat' (first|refine zW [2,3] ?_|((refine zB [2,3] (fun h=>?_) (fun h=>?_))<;>(first|exact zk h|skip))|refine zX [2,3] ?_|((refine zK (c1) (fun h=>?_) (fun h=>?_))<;>(first|exact zk h|skip))|refine zC (c1) ?_|((refine zK (c2) (fun h=>?_) (fun h=>?_))<;>(first|exact zk h|skip))|refine zC (c2) ?_|(refine zE ?_;(rfl))|((exfalso;refine h0 ?_;clear h0 c1 c2 ha hb hne;simp only [bne_eq_false_iff_eq,decide_eq_true_eq,Bool.not_eq_false',beq_iff_eq,List.length_map] at *;exact⟨by assumption,by assumption,by assumption,by assumption,by assumption,by omega⟩))|fail)
end Go.Av
end
noncomputable section
namespace Go.Av
open Go Go.Proofs
set_option maxRecDepth 10000
section
variable {H:Type} {enc:TypeId × Value→H} {w:World} {spare:Nat→Bool} {held:Bool} {fuel:Nat} {cs:List Value} {x:DataW H × List MemPlace}
abbrev Wf64 (n:Int):Prop:=(Lit.int .i64 n).wf=true
def wfStr (s:List Nat):Prop:=s.length≤maxLen∧∀ c ∈ s,c<256
structure WfProd (p:GProd):Prop where
 left:Wf64 p.left
 len:p.right.length≤maxLen
 right:∀ n ∈ p.right,Wf64 n
structure WfGram (g:Gram):Prop where
 k:Wf64 g.k
 tokensL:g.tokens.length≤maxLen
 tokens:∀ s ∈ g.tokens,wfStr s
 sep:wfStr g.sep
 namesL:g.names.length≤maxLen
 names:∀ s ∈ g.names,wfStr s
 start:Wf64 g.start
 prodsL:g.prods.length≤maxLen
 prods:∀ p ∈ g.prods,WfProd p
theorem cr_ints (hsp:∀ b,spare b=true) (h:DataW.trod enc Tryz.prog w 0 spare held fuel 66 cs=some x):∃ l:List Int,CellsRep (heapD w) (ints l) cs∧l.length≤maxLen∧∀ n ∈ l,Wf64 n :=
 cr_slice (DV.int .i64) Wf64 Tryz.underlying66 (by kernel_rfl) (Nat.le_refl _) hsp (fun n cs' y _ hy=>cr_int Tryz.underlying3 hy) h
theorem arg_ints {r:Reach} {b0:Nat} {v:Value} {d:DataW H} {ps:List MemPlace} (hsp:∀ b,spare b=true) (hval:Value.okWide Tryz.prog w r b0 66 v) (h:DataW.Trod enc Tryz.prog w 0 spare held 66 v d ps) :
  ∃ l:List Int,RepD (heapD w) (ints l) v∧l.length≤maxLen∧∀ n ∈ l,Wf64 n:=by
 obtain⟨es,he,l,rfl,hl⟩:=arg_slice (sz:=1) (R:=fun es=>∃ l:List Int,es=l.map (DV.int .i64)∧l.length≤maxLen∧∀ n ∈ l,Wf64 n) Tryz.underlying66 hval h (fun n x hx=>by
  obtain⟨l,h1,h2⟩:=cr_ints hsp hx
  exact⟨_,h1,l,rfl,h2⟩)
 exact⟨l,he,hl⟩
end
end Go.Av
end
noncomputable section
namespace Go.Av
open Go Go.Proofs
set_option maxRecDepth 10000
theorem word1 {c:Nat} (h:letterF c=true):nameF [c]=0:=by
 have hw:wordF [c]=0:=by
  rw [wordF_good (by simp) (fun i hb=>by
   obtain⟨d,hd,hl,_⟩:=hb
   cases i with
   |zero=>simp at hd;subst hd;rw [h] at hl;cases hl
   |succ i=>simp at hd)]
  simp
 unfold nameF
 rw [hw,if_neg]
 rintro⟨_,hl⟩
 simp [languageF,wLook,wToken,wSep,wStart] at hl
theorem small1 {c:Nat} (h1:97≤c) (h2:c≤122):smallF [c]=true:=by
 have hl:letterF c=true:=by simp [letterF];omega
 simp [smallF,word1 hl,h1]
theorem capital1 {c:Nat} (h1:65≤c) (h2:c≤90):capitalF [c]=true:=by
 have hl:letterF c=true:=by simp [letterF];omega
 simp [capitalF,word1 hl];omega
theorem acc_mem {nums:List Int} {T M:Nat}:∀ {i:Nat} {p:GProd},p ∈ accTo nums T M i→∃ a j,a<i∧p=prodN nums T M a j
 |0,p,h=>by cases h
 |i+1,p,h=>by
  simp only [accTo] at h
  rcases List.mem_append.1 (List.mem_of_mem_take h) with h|h
  ·obtain⟨a,j,ha,e⟩:=acc_mem h
   exact⟨a,j,by omega,e⟩
  ·simp only [rowTo,List.mem_map] at h
   obtain⟨j,_,e⟩:=h
   exact⟨i,j,by omega,e.symm⟩
theorem acc_sorted {nums:List Int} {T M:Nat}:∀ i:Nat,(accTo nums T M i).Pairwise (fun a b=>a.left≤b.left)
 |0=>.nil
 |i+1=>by
  simp only [accTo]
  refine List.Pairwise.sublist (List.take_sublist 7 _) ?_
  rw [List.pairwise_append]
  refine⟨acc_sorted i,?_,fun p hp q hq=>?_⟩
  ·rw [rowTo,List.pairwise_map]
   exact List.pairwise_iff_getElem.2 fun _ _ _ _ _=>Int.le_refl _
  ·obtain⟨a,j,ha,rfl⟩:=acc_mem hp
   simp only [rowTo,List.mem_map] at hq
   obtain⟨j',_,rfl⟩:=hq
   simp only [prodN];omega
theorem acc_short {nums:List Int} {T M:Nat}:∀ i:Nat,(accTo nums T M i).length≤3*i
 |0=>Nat.le_refl _
 |i+1=>by
  have:=acc_short (nums:=nums) (T:=T) (M:=M) i
  simp only [accTo,List.length_take,List.length_append,rowTo,List.length_map,List.length_range]
  omega
theorem acc_has {nums:List Int} {T M:Nat}:∀ {i a:Nat},a<i→i≤3→∃ p ∈ accTo nums T M i,p.left=((16+a:Nat):Int)
 |i+1,a,h,hi=>by
  have hs:=acc_short (nums:=nums) (T:=T) (M:=M) i
  simp only [accTo]
  rcases Nat.lt_or_ge a i with ha|ha
  ·obtain⟨p,hp,e⟩:=acc_has (nums:=nums) (T:=T) (M:=M) ha (by omega)
   refine⟨p,?_,e⟩
   rw [List.take_append]
   exact List.mem_append_left _ (by rw [List.take_of_length_le (by omega)];exact hp)
  ·have ha:a=i:=by omega
   subst ha
   refine⟨prodN nums T M a 0,?_,rfl⟩
   rw [List.take_append]
   refine List.mem_append_right _ ?_
   have:rowTo nums T M a (numF nums (1+a) % 3+1)=prodN nums T M a 0 :: (List.range' 1 (numF nums (1+a) % 3)).map (prodN nums T M a):=by
    rw [rowTo,List.range_eq_range',List.range'_succ];rfl
   rw [this]
   have:7-(accTo nums T M a).length=(7-(accTo nums T M a).length-1)+1:=by omega
   rw [this,List.take_succ_cons]
   exact List.mem_cons_self ..
theorem any_valid (nums:List Int):checkF (anyF nums)=0:=by
 obtain⟨k,hk⟩:∃ k,k=numF nums 0:=⟨_,rfl⟩
 obtain⟨M,hM⟩:∃ M,M=1+k / 4 % 3:=⟨_,rfl⟩
 obtain⟨T,hT⟩:∃ T,T=(kTok k).length:=⟨_,rfl⟩
 have hT2:T=1+k / 2 % 2:=by rw [hT,kTok_len]
 have e:anyF nums=⟨((1+k % 2:Nat):Int),kTok k,[122],namesTo M,16,accTo nums T M M⟩:=by simp only [anyF,← hk,hM,hT,kMany]
 rw [e]
 have hnl:(namesTo M).length=M:=by simp [namesTo]
 have hpl:(accTo nums T M M).length≤9:=Nat.le_trans (acc_short M) (by omega)
 generalize hg:(⟨((1+k % 2:Nat):Int),kTok k,[122],namesTo M,16,accTo nums T M M⟩:Gram)=g
 have g1:g.k=((1+k % 2:Nat):Int):=by rw [← hg]
 have g2:g.tokens=kTok k:=by rw [← hg]
 have g3:g.sep=[122]:=by rw [← hg]
 have g4:g.names=namesTo M:=by rw [← hg]
 have g5:g.start=16:=by rw [← hg]
 have g6:g.prods=accTo nums T M M:=by rw [← hg]
 have htl:g.tokens.length=T:=by rw [g2,hT]
 have hnl':g.names.length=M:=by rw [g4,hnl]
 have htok:∀ s ∈ g.tokens,s=[97]∨s=[98]:=fun s hs=>by
  rw [g2] at hs
  have:=List.mem_of_mem_take hs
  simpa using this
 have hmany:manyF g=0:=many_no (by omega) (by omega) (by rw [g6];omega) (fun j p hj hp=>by
  rw [g6] at hp
  obtain⟨a,b,_,rfl⟩:=acc_mem (List.mem_of_getElem? hp)
  simp [prodN,rgtTo];omega)
 have hnam:namedF g=0:=by
  refine named_no (fun j hj s hs=>?_) (fun j hj s hs=>?_)
  ·have hs:=List.mem_of_getElem? hs
   simp only [smalls,List.mem_append,List.mem_singleton,g3] at hs
   rcases hs with hs|rfl
   ·rcases htok s hs with rfl|rfl
    ·exact small1 (by decide) (by decide)
    ·exact small1 (by decide) (by decide)
   ·exact small1 (by decide) (by decide)
  ·have hs:=List.mem_of_getElem? hs
   rw [g4] at hs
   simp only [namesTo,List.mem_map,List.mem_range] at hs
   obtain⟨a,ha,rfl⟩:=hs
   exact capital1 (by omega) (by omega)
 have hnd1:(smalls g).Nodup:=by
  unfold smalls
  rw [g2,g3,kTok]
  rcases Nat.mod_two_eq_zero_or_one (k / 2) with h|h<;>rw [h]<;>decide
 have hnd2:g.names.Nodup:=by
  rw [g4,namesTo]
  refine List.Pairwise.map _ (fun a b (h:a≠b)=>?_) List.nodup_range
  simpa using h
 have hnames:namesF g=0:=by
  unfold namesF
  rw [if_neg (by simp [hnd1,hnd2]),hnam]
 have hgood:∀ p ∈ g.prods,goodP g p:=fun p hp=>by
  rw [g6] at hp
  obtain⟨a,b,ha,rfl⟩:=acc_mem hp
  refine⟨by simp only [isNonterm,prodN,Bool.and_eq_true,decide_eq_true_eq,hnl'];exact⟨(by first|omega|exact decide_eq_true (by omega)),(by first|omega|exact decide_eq_true (by omega))⟩,fun s hs=>?_⟩
  simp only [prodN,rgtTo,List.mem_map] at hs
  obtain⟨z,_,rfl⟩:=hs
  simp only [goodS,isTerm,isNonterm,Bool.or_eq_true,Bool.and_eq_true,decide_eq_true_eq,htl,hnl',symN]
  split
  ·left
   have:=Nat.mod_lt (zF (numF nums (4+3*a+b)) z) (show 0<T by omega)
   exact⟨(by first|omega|exact decide_eq_true (by omega)),(by first|omega|exact decide_eq_true (by omega))⟩
  ·right
   have:=Nat.mod_lt (zF (numF nums (4+3*a+b)) z) (show 0<M by omega)
   exact⟨(by first|omega|exact decide_eq_true (by omega)),(by first|omega|exact decide_eq_true (by omega))⟩
 have hsym:symbolsF g=0:=by
  unfold symbolsF
  rw [if_pos ⟨by simp only [isNonterm,g5,Bool.and_eq_true,decide_eq_true_eq,hnl'];exact⟨(by first|omega|exact decide_eq_true (by omega)),(by first|omega|exact decide_eq_true (by omega))⟩,hgood⟩,if_neg,if_neg]
  ·rintro⟨i,hi,hm⟩
   obtain⟨p,hp,hl⟩:=acc_has (nums:=nums) (T:=T) (M:=M) (show i<M by omega) (show M≤3 by omega)
   rw [prodsF_nil,List.any_eq_false] at hm
   refine hm p (by rw [g6];exact hp) ?_
   simp [hl]
  ·rintro⟨i,p,q,hp,hq,hlt⟩
   rw [g6] at hp hq
   have hsr:=acc_sorted (nums:=nums) (T:=T) (M:=M) M
   obtain⟨h1,e1⟩:=List.getElem?_eq_some_iff.1 hp
   obtain⟨h2,e2⟩:=List.getElem?_eq_some_iff.1 hq
   have:=List.pairwise_iff_getElem.1 hsr i (i+1) h1 h2 (by omega)
   rw [e1,e2] at this
   omega
 unfold checkF
 rw [if_neg (by rw [g1];omega),if_neg (by simp [hmany]),if_neg,if_neg (by simp [hnames]),hsym]
 rintro(h|h)
 ·rw [h] at htl;simp at htl;omega
 ·rw [h] at hnl';simp at hnl';omega
theorem any_fits (nums:List Int):Fits (anyF nums):=by
 obtain⟨hm,_⟩:=check_parts (any_valid nums)
 obtain⟨h1,h2,h3,h4⟩:=many_zero hm
 refine⟨by omega,by omega,by omega,by simp [anyF],fun s hs=>?_,fun s hs=>?_,fun p hp=>by have:=h4 p hp;omega⟩
 ·have:s ∈ kTok (numF nums 0):=hs
  have:=List.mem_of_mem_take this
  rcases(by simpa using this:s=[97]∨s=[98]) with rfl|rfl<;>simp
 ·have:s ∈ namesTo (kMany (numF nums 0)):=hs
  simp only [namesTo,List.mem_map] at this
  obtain⟨a,_,rfl⟩:=this
  simp
end Go.Av
end
noncomputable section
namespace Go.Av
open Go Go.Proofs
def e0:List DV × AV:=([(.str [108,111,111,107,97,104,101,97,100,32,49,59,32,116,111,107,101,110,32,97,59,32,115,101,112,97,114,97,116,111,114,32,98,59,32,115,116,97,114,116,32,83,59,32,83,32,61,32,97,32,83,32,124,32,59])],(.tup [(.d (.sl 3 [(.agg [(.int .i64 1),(.str [108,111,111,107,97,104,101,97,100]),(.int .i64 0)]),(.agg [(.int .i64 2),(.str [49]),(.int .i64 10)]),(.agg [(.int .i64 3),(.str [59]),(.int .i64 11)]),(.agg [(.int .i64 1),(.str [116,111,107,101,110]),(.int .i64 13)]),(.agg [(.int .i64 1),(.str [97]),(.int .i64 19)]),(.agg [(.int .i64 3),(.str [59]),(.int .i64 20)]),(.agg [(.int .i64 1),(.str [115,101,112,97,114,97,116,111,114]),(.int .i64 22)]),(.agg [(.int .i64 1),(.str [98]),(.int .i64 32)]),(.agg [(.int .i64 3),(.str [59]),(.int .i64 33)]),(.agg [(.int .i64 1),(.str [115,116,97,114,116]),(.int .i64 35)]),(.agg [(.int .i64 1),(.str [83]),(.int .i64 41)]),(.agg [(.int .i64 3),(.str [59]),(.int .i64 42)]),(.agg [(.int .i64 1),(.str [83]),(.int .i64 44)]),(.agg [(.int .i64 3),(.str [61]),(.int .i64 46)]),(.agg [(.int .i64 1),(.str [97]),(.int .i64 48)]),(.agg [(.int .i64 1),(.str [83]),(.int .i64 50)]),(.agg [(.int .i64 3),(.str [124]),(.int .i64 52)]),(.agg [(.int .i64 3),(.str [59]),(.int .i64 54)])])),(.d (.agg [(.int .i64 0),(.int .i64 0)]))]))
theorem k0:KnownCall Tryz.prog 96 e0.1 e0.2:=knownF T0_ok Yo (by kernel_rfl) Ft_ok (k:=100000) (n:=60) (by kernel_rfl)
def e1:List DV × AV:=([(.agg [(.int .i64 2),(.str [49]),(.int .i64 10)])],(.d (.int .i64 0)))
theorem k1:KnownCall Tryz.prog 228 e1.1 e1.2:=knownF T0_ok Yo (by kernel_rfl) Ft_ok (k:=100000) (n:=60) (by kernel_rfl)
def e2:List DV × AV:=([(.str [97])],(.d (.int .i64 0)))
theorem k2:KnownCall Tryz.prog 204 e2.1 e2.2:=knownF T0_ok Yo (by kernel_rfl) Ft_ok (k:=100000) (n:=60) (by kernel_rfl)
def e3:List DV × AV:=([(.str [83])],(.d (.int .i64 0)))
theorem k3:KnownCall Tryz.prog 204 e3.1 e3.2:=knownF T0_ok Yo (by kernel_rfl) Ft_ok (k:=100000) (n:=60) (by kernel_rfl)
end Go.Av
end
noncomputable section
namespace Go.Av
open Go Go.Proofs
def T1:Memo:=(.node .nil none (.node (.node (.node (.node (.node .nil none (.node .nil (some [e0]) .nil)) none .nil) none .nil) none (.node (.node (.node .nil none (.node .nil none (.node .nil (some [e1]) .nil))) none .nil) none (.node (.node (.node .nil none (.node .nil (some [e2,e3]) .nil)) none .nil) none .nil))) none .nil))
theorem T1_ok:MemoOK Tryz.prog T1:=⟨trivial,trivial,⟨trivial,⟨trivial,⟨trivial,⟨trivial,⟨trivial,trivial,⟨⟨k0,trivial⟩,trivial,trivial⟩⟩,trivial⟩,trivial⟩,⟨trivial,⟨trivial,⟨trivial,trivial,⟨trivial,trivial,⟨⟨k1,trivial⟩,trivial,trivial⟩⟩⟩,trivial⟩,⟨trivial,⟨trivial,⟨trivial,trivial,⟨⟨k2,k3,trivial⟩,trivial,trivial⟩⟩,trivial⟩,trivial⟩⟩⟩,trivial⟩⟩
end Go.Av
end
noncomputable section
namespace Go.Av
open Go Go.Proofs
def e4:List DV × AV:=([(.str [108,111,111,107,97,104,101,97,100,32,49,59,32,116,111,107,101,110,32,97,59,32,115,101,112,97,114,97,116,111,114,32,98,59,32,115,116,97,114,116,32,83,59,32,83,32,61,32,97,32,83,32,124,32,59])],(.tup [(.d (.agg [(.int .i64 1),(.sl 1 [(.str [97])]),(.str [98]),(.str [83]),(.sl 2 [(.agg [(.str [83]),(.sl 1 [(.sl 1 [(.str [97]),(.str [83])]),.nilsl])])])])),(.d (.agg [(.int .i64 0),(.int .i64 0)]))]))
theorem k4:KnownCall Tryz.prog 27 e4.1 e4.2:=knownF T1_ok Yo (by kernel_rfl) Ft_ok (k:=100000) (n:=60) (by kernel_rfl)
def e5:List DV × AV:=([(.agg [(.int .i64 1),(.sl 1 [(.str [97])]),(.str [98]),(.str [83]),(.sl 2 [(.agg [(.str [83]),(.sl 1 [(.sl 1 [(.str [97]),(.str [83])]),.nilsl])])])])],(.d (.int .i64 0)))
theorem k5:KnownCall Tryz.prog 35 e5.1 e5.2:=knownF T1_ok Yo (by kernel_rfl) Ft_ok (k:=100000) (n:=60) (by kernel_rfl)
def e6:List DV × AV:=([(.agg [(.int .i64 1),(.sl 1 [(.str [97])]),(.str [98]),(.sl 1 [(.str [83])]),(.int .i64 16),(.sl 2 [(.agg [(.int .i64 16),(.sl 1 [(.int .i64 0),(.int .i64 16)])]),(.agg [(.int .i64 16),.nilsl])])])],(.d (.int .i64 0)))
theorem k6:KnownCall Tryz.prog 20 e6.1 e6.2:=knownF T1_ok Yo (by kernel_rfl) Ft_ok (k:=100000) (n:=60) (by kernel_rfl)
end Go.Av
end
noncomputable section
namespace Go.Av
open Go Go.Proofs
def T2:Memo:=(.node (.node (.node .nil none (.node (.node (.node .nil (some [e5]) .nil) none .nil) none (.node .nil (some [e4]) .nil))) none .nil) none (.node (.node (.node (.node (.node .nil none (.node .nil (some [e0]) .nil)) none .nil) none .nil) none (.node (.node (.node .nil none (.node .nil none (.node .nil (some [e1]) .nil))) (some [e6]) .nil) none (.node (.node (.node .nil none (.node .nil (some [e2,e3]) .nil)) none .nil) none .nil))) none .nil))
theorem T2_ok:MemoOK Tryz.prog T2:=⟨trivial,⟨trivial,⟨trivial,trivial,⟨trivial,⟨trivial,⟨⟨k5,trivial⟩,trivial,trivial⟩,trivial⟩,⟨⟨k4,trivial⟩,trivial,trivial⟩⟩⟩,trivial⟩,⟨trivial,⟨trivial,⟨trivial,⟨trivial,⟨trivial,trivial,⟨⟨k0,trivial⟩,trivial,trivial⟩⟩,trivial⟩,trivial⟩,⟨trivial,⟨⟨k6,trivial⟩,⟨trivial,trivial,⟨trivial,trivial,⟨⟨k1,trivial⟩,trivial,trivial⟩⟩⟩,trivial⟩,⟨trivial,⟨trivial,⟨trivial,trivial,⟨⟨k2,k3,trivial⟩,trivial,trivial⟩⟩,trivial⟩,trivial⟩⟩⟩,trivial⟩⟩
end Go.Av
end
noncomputable section
namespace Go.Av
open Go Go.Proofs
def e7:List DV × AV:=([(.agg [(.int .i64 1),(.sl 1 [(.str [97])]),(.str [98]),(.sl 1 [(.str [83])]),(.int .i64 16),(.sl 2 [(.agg [(.int .i64 16),(.sl 1 [(.int .i64 0),(.int .i64 16)])]),(.agg [(.int .i64 16),.nilsl])])])],(.tup [(.d (.str [1,1,1,97,1,98,1,1,83,0,2,0,2,0,8,0,0])),(.d (.int .i64 0))]))
theorem k7:KnownCall Tryz.prog 45 e7.1 e7.2:=knownF T2_ok Yo (by kernel_rfl) Ft_ok (k:=100000) (n:=60) (by kernel_rfl)
end Go.Av
end
noncomputable section
namespace Go.Av
open Go Go.Proofs
def T3:Memo:=(.node (.node (.node .nil none (.node (.node (.node .nil (some [e5]) .nil) none .nil) none (.node .nil (some [e4]) .nil))) none (.node .nil none (.node .nil none (.node (.node .nil (some [e7]) .nil) none .nil)))) none (.node (.node (.node (.node (.node .nil none (.node .nil (some [e0]) .nil)) none .nil) none .nil) none (.node (.node (.node .nil none (.node .nil none (.node .nil (some [e1]) .nil))) (some [e6]) .nil) none (.node (.node (.node .nil none (.node .nil (some [e2,e3]) .nil)) none .nil) none .nil))) none .nil))
theorem T3_ok:MemoOK Tryz.prog T3:=⟨trivial,⟨trivial,⟨trivial,trivial,⟨trivial,⟨trivial,⟨⟨k5,trivial⟩,trivial,trivial⟩,trivial⟩,⟨⟨k4,trivial⟩,trivial,trivial⟩⟩⟩,⟨trivial,trivial,⟨trivial,trivial,⟨trivial,⟨⟨k7,trivial⟩,trivial,trivial⟩,trivial⟩⟩⟩⟩,⟨trivial,⟨trivial,⟨trivial,⟨trivial,⟨trivial,trivial,⟨⟨k0,trivial⟩,trivial,trivial⟩⟩,trivial⟩,trivial⟩,⟨trivial,⟨⟨k6,trivial⟩,⟨trivial,trivial,⟨trivial,trivial,⟨⟨k1,trivial⟩,trivial,trivial⟩⟩⟩,trivial⟩,⟨trivial,⟨trivial,⟨trivial,trivial,⟨⟨k2,k3,trivial⟩,trivial,trivial⟩⟩,trivial⟩,trivial⟩⟩⟩,trivial⟩⟩
end Go.Av
end
noncomputable section
namespace Go.Av
open Go Go.Proofs
theorem awake12:KnownCall Tryz.prog 42 [] (.d (.bool true)):=knownF T3_ok Yo (by kernel_rfl) Ft_ok (k:=100000) (n:=60) (by kernel_rfl)
end Go.Av
end
noncomputable section
namespace Go.Av
open Go Go.Proofs
set_option maxRecDepth 10000
theorem canB {g:Gram} (h:checkF g=0):KnownCall Tryz.prog 45 [encG g] (.tup [.d (.str (canonC g)),.d (.int .i64 0)]):=by
 have:=bytesS12 g (valid_ok h).fitsG
 rw [show bytesF g=canonC g from if_pos h,h] at this
 exact this
set_option maxHeartbeats 8000000 in
theorem lawCkW (nums more:List Int) (s:List Nat) (g h:Gram) (d:Bool) (A B:List Nat) (hA:KnownCall Tryz.prog 42 [] (.d (.bool true))) (hs:s.length≤300)
  (c1:KnownCall Tryz.prog 52 [ints nums] (.d (encG g))) (c2:KnownCall Tryz.prog 52 [ints more] (.d (encG h)))
  (b1:KnownCall Tryz.prog 45 [encG g] (.tup [.d (.str A),.d (.int .i64 0)])) (b2:KnownCall Tryz.prog 45 [encG h] (.tup [.d (.str B),.d (.int .i64 0)]))
  (p1:KnownCall Tryz.prog 55 [.str A] (resG (g,0,0))) (s1:KnownCall Tryz.prog 25 [encG g,encG g] (.d (.bool true)))
  (s2:KnownCall Tryz.prog 25 [encG g,encG h] (.d (.bool d))) (hd:(A == B)=d)
  (R:Gram × Int × Int) (p2:KnownCall Tryz.prog 55 [.str s] (resG R)) (hR:¬ R.2.1=0∨(R.2.1=0∧KnownCall Tryz.prog 45 [encG R.1] (.tup [.d (.str s),.d (.int .i64 0)]))) :
  KnownCall Tryz.prog 10 [ints nums,ints more,.str s] (.d (.bool true)):=by
 have hv:AV.d (.bool (A == B))=.d (.bool d):=by rw [hd]
 have hss:AV.d (.bool (s == s))=.d (.bool true):=by simp
 obtain⟨y,e,a⟩:=R
 unfold resG at p1 p2
 simp only at p1 p2 hR
 rcases hR with hR|⟨rfl,b3⟩
 ·have he:AV.d (.bool (e != 0))=.d (.bool true):=by congr 2;simpa using hR
  cases d with
  |true =>
   refine knownE Yo (fnAt Tryz.func10 (by kernel_rfl) (by kernel_rfl):FnAt _ _ (mkFn Tryz.f10 [])) ?_
   repeat' (first|refine oX (frz:=[]) (v:=.d (.bool true)) Yo ?_ (he:=(he))|refine eX (v:=.d (.bool true)) ?_ (he:=(he))|refine oX (frz:=[]) (v:=.d (.bool true)) Yo ?_ (he:=(hv))|refine eX (v:=.d (.bool true)) ?_ (he:=(hv))|refine zW [] ?_|((refine zB [] (fun h=>?_) (fun h=>?_))<;>(first|exact zk h|skip))|refine zX [] ?_|refine zC (hA) ?_|refine zC (c1) ?_|refine zC (c2) ?_|refine zC (b1) ?_|refine zC (b2) ?_|refine zC (p1) ?_|refine zC (s1) ?_|refine zC (s2) ?_|refine zC (p2) ?_|(refine zE ?_;(rfl))|((exfalso;first|(simp at h<;>fail)|(simp at h;omega)))|fail)
  |false =>
   refine knownE Yo (fnAt Tryz.func10 (by kernel_rfl) (by kernel_rfl):FnAt _ _ (mkFn Tryz.f10 [])) ?_
   repeat' (first|refine oX (frz:=[]) (v:=.d (.bool true)) Yo ?_ (he:=(he))|refine eX (v:=.d (.bool true)) ?_ (he:=(he))|refine oX (frz:=[]) (v:=.d (.bool false)) Yo ?_ (he:=(hv))|refine eX (v:=.d (.bool false)) ?_ (he:=(hv))|refine zW [] ?_|((refine zB [] (fun h=>?_) (fun h=>?_))<;>(first|exact zk h|skip))|refine zX [] ?_|refine zC (hA) ?_|refine zC (c1) ?_|refine zC (c2) ?_|refine zC (b1) ?_|refine zC (b2) ?_|refine zC (p1) ?_|refine zC (s1) ?_|refine zC (s2) ?_|refine zC (p2) ?_|(refine zE ?_;(rfl))|((exfalso;first|(simp at h<;>fail)|(simp at h;omega)))|fail)
 ·cases d with
  |true =>
   refine knownE Yo (fnAt Tryz.func10 (by kernel_rfl) (by kernel_rfl):FnAt _ _ (mkFn Tryz.f10 [])) ?_
   repeat' (first|refine oX (frz:=[]) (v:=.d (.bool true)) Yo ?_ (he:=(hss))|refine eX (v:=.d (.bool true)) ?_ (he:=(hss))|refine oX (frz:=[]) (v:=.d (.bool true)) Yo ?_ (he:=(hv))|refine eX (v:=.d (.bool true)) ?_ (he:=(hv))|refine zW [] ?_|((refine zB [] (fun h=>?_) (fun h=>?_))<;>(first|exact zk h|skip))|refine zX [] ?_|refine zC (hA) ?_|refine zC (c1) ?_|refine zC (c2) ?_|refine zC (b1) ?_|refine zC (b2) ?_|refine zC (b3) ?_|refine zC (p1) ?_|refine zC (s1) ?_|refine zC (s2) ?_|refine zC (p2) ?_|(refine zE ?_;(rfl))|((exfalso;first|(simp at h<;>fail)|(simp at h;omega)))|fail)
  |false =>
   refine knownE Yo (fnAt Tryz.func10 (by kernel_rfl) (by kernel_rfl):FnAt _ _ (mkFn Tryz.f10 [])) ?_
   repeat' (first|refine oX (frz:=[]) (v:=.d (.bool true)) Yo ?_ (he:=(hss))|refine eX (v:=.d (.bool true)) ?_ (he:=(hss))|refine oX (frz:=[]) (v:=.d (.bool false)) Yo ?_ (he:=(hv))|refine eX (v:=.d (.bool false)) ?_ (he:=(hv))|refine zW [] ?_|((refine zB [] (fun h=>?_) (fun h=>?_))<;>(first|exact zk h|skip))|refine zX [] ?_|refine zC (hA) ?_|refine zC (c1) ?_|refine zC (c2) ?_|refine zC (b1) ?_|refine zC (b2) ?_|refine zC (b3) ?_|refine zC (p1) ?_|refine zC (s1) ?_|refine zC (s2) ?_|refine zC (p2) ?_|(refine zE ?_;(rfl))|((exfalso;first|(simp at h<;>fail)|(simp at h;omega)))|fail)
theorem lawCk (nums more:List Int) (hn:∀ n ∈ nums,W64 n) (hm:∀ n ∈ more,W64 n) (s:List Nat):KnownCall Tryz.prog 10 [ints nums,ints more,.str s] (.d (.bool true)):=by
 have hA:=awake12
 by_cases hs:300<s.length
 ·refine knownE Yo (fnAt Tryz.func10 (by kernel_rfl) (by kernel_rfl):FnAt _ _ (mkFn Tryz.f10 [])) ?_
  repeat' (first|refine zW [] ?_|((refine zB [] (fun h=>?_) (fun h=>?_))<;>(first|exact zk h|skip))|refine zX [] ?_|refine zC (hA) ?_|(refine zE ?_;(rfl))|((exfalso;first|(simp at h<;>fail)|(simp at h;omega)))|fail)
 ·have g1:=any_valid nums
  have g2:=any_valid more
  have f1:=any_fits nums
  have f2:=any_fits more
  have c1:=anyS nums hn
  have c2:=anyS more hm
  generalize anyF nums=g at g1 f1 c1
  generalize anyF more=h at g2 f2 c2
  have p1:=parseC (canonC g) (by have:=(canon_len g1).1;omega)
  rw [parse_fw g1] at p1
  have p2:=parseC s (by omega)
  have hR:¬ (parseG s).2.1=0∨((parseG s).2.1=0∧KnownCall Tryz.prog 45 [encG (parseG s).1] (.tup [.d (.str s),.d (.int .i64 0)])):=by
   by_cases h0:(parseG s).2.1=0
   ·obtain⟨y,y1,y2,y3⟩:=parse_inv h0
    refine .inr ⟨h0,?_⟩
    rw [y2,y3]
    exact canB y1
   ·exact .inl h0
  by_cases hgh:g=h
  ·subst hgh
   exact lawCkW nums more s g g true _ _ hA (by omega) c1 c2 (canB g1) (canB g1) p1 (sameSelf g f1) (sameSelf g f1) (by simp) _ p2 hR
  ·exact lawCkW nums more s g h false _ _ hA (by omega) c1 c2 (canB g1) (canB g2) p1 (sameSelf g f1) (sameDiff g h f1 f2 hgh) (by simpa using fun e=>hgh (canon_inj g1 g2 e)) _ p2 hR
theorem w64_c {n:Int} (h:(Lit.int .i64 n).wf=true):W64 n:=by
 simp only [Lit.wf,Bool.and_eq_true,decide_eq_true_eq] at h
 exact h
theorem lawCkA (nums:List Int) (hn:nums.length≤maxLen∧∀ n ∈ nums,Wf64 n) (more:List Int) (hm:more.length≤maxLen∧∀ n ∈ more,Wf64 n) (s:List Nat) (hs:s.length≤maxLen∧∀ c ∈ s,c<256) :
  KnownCall Tryz.prog 10 [ints nums,ints more,.str s] (.d (.bool true)):=lawCk nums more (fun n h=>w64_c (hn.2 n h)) (fun n h=>w64_c (hm.2 n h)) s
end Go.Av
end

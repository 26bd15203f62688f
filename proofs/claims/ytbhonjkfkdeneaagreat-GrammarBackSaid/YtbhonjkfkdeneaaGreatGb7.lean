/-
  Parts of the way to the law, joined. Conditions stand at each.
-/
import Derived.Test.YtbhonjkfkdeneaaGreatGb4
import Derived.Test.YtbhonjkfkdeneaaGreatGb5
import Derived.Test.YtbhonjkfkdeneaaGreatGb3
import Derived.Test.YtbhonjkfkdeneaaGreatGb6
set_option linter.all false
noncomputable section
namespace Go.Av
open Go Go.Proofs
set_option maxRecDepth 10000
set_option maxHeartbeats 4000000 in
theorem qpq (s:List Nat) (p c:Nat) (hb:∀ c ∈ s,c<256) (hl:s.length<=1048576) (hp:p<=s.length) (hc:s[qaC s p]?=some c) (hk:qbb (c:Nat)=2)
  (hz:(c=48/\1<qaU qal (s.drop (qaC s p)))\/qb9 s (qaC s p+qaU qal (s.drop (qaC s p)))=1\/qb9 s (qaC s p+qaU qal (s.drop (qaC s p)))=3) :
  ACall Tryz.prog 226 [.bp 0 0] [qeR s p] (.tup [.d (qgU 0 [] 0),.d (qch 3 (qaC s p))]) (qng s (qaC s p+qaU qal (s.drop (qaC s p))) 0 [] 0 3 (qaC s p)):=by
 have w:Fz [33,40]:=trivial;have cg:=qg7 bxs s p hb hl hp;have hq:=qdL hp;generalize qaC s p=q at cg hc hq hz |-;have hlt:=(List.getElem?_eq_some_iff.1 hc).1;have cc:=qdm bxs s q hb hl hq;rw [show qb9 s q=2 by simp only [qb9,hc];exact hk] at cc;have cw:=qm9 bxs s q hb hl hq;have hr:=qgg qal (s.drop q);rw [List.length_drop] at hr;generalize qaU qal (s.drop q)=n at cw hr hz |-;have c2:=qdm bxs s (q+n) hb hl (by omega);generalize qb9 s (q+n)=k at c2 hz;have hinc:AV.d (.int .i64 (IntKind.i64.wrap ((q:Int)+1)))=.d (.int .i64 ((q+1:Nat):Int)):=congrArg (fun x=>AV.d (.int .i64 x)) ((congrArg IntKind.i64.wrap (show(q:Int)+1=((q+1:Nat):Int) by omega)).trans (qaT (by omega)));by_cases h48:c=48
 .subst h48
  by_cases h1n:1<n
  .refine qaf qak (fnB Tryz.func226 [33,40]) rfl rfl ?_
   repeat' (first|refine zV hinc ?_|refine zW ?_|refine zB ?_ ?_<;>intro h<;>try exact zk h|refine zX ?_|refine oI (v:=.d (.int .u8 ((48:Nat):Int))) ?_ (he:=by first|(simp [gD,hc]<;>fail)|fail)|refine oA cg ?_|refine oA cc ?_|refine oA cw ?_|refine oA c2 ?_|((refine Yt ?_;exact⟨trivial,rfl,rfl⟩))|exact zk h|fail)
  .have hz:k=1\/k=3:=by rcases hz with hz|hz;exact absurd hz.2 h1n;exact hz
   rcases hz with rfl|rfl
   .refine qaf qak (fnB Tryz.func226 [33,40]) rfl rfl ?_
    repeat' (first|refine zV hinc ?_|refine zW ?_|refine zB ?_ ?_<;>intro h<;>try exact zk h|refine zX ?_|refine oI (v:=.d (.int .u8 ((48:Nat):Int))) ?_ (he:=by first|(simp [gD,hc]<;>fail)|fail)|refine oA cg ?_|refine oA cc ?_|refine oA cw ?_|refine oA c2 ?_|((refine Yt ?_;exact⟨trivial,rfl,rfl⟩))|exact zk h|fail)
   .refine qaf qak (fnB Tryz.func226 [33,40]) rfl rfl ?_
    repeat' (first|refine zV hinc ?_|refine zW ?_|refine zB ?_ ?_<;>intro h<;>try exact zk h|refine zX ?_|refine oI (v:=.d (.int .u8 ((48:Nat):Int))) ?_ (he:=by first|(simp [gD,hc]<;>fail)|fail)|refine oA cg ?_|refine oA cc ?_|refine oA cw ?_|refine oA c2 ?_|((refine Yt ?_;exact⟨trivial,rfl,rfl⟩))|exact zk h|fail)
 .have hz:k=1\/k=3:=by rcases hz with hz|hz;exact absurd hz.1 h48;exact hz
  rcases hz with rfl|rfl
  .refine qaf qak (fnB Tryz.func226 [33,40]) rfl rfl ?_
   repeat' (first|refine zV hinc ?_|refine zW ?_|refine zB ?_ ?_<;>intro h<;>try exact zk h|refine zX ?_|refine oI (v:=.d (.int .u8 (c:Nat))) ?_ (he:=by first|(simp [gD,hc]<;>fail)|fail)|refine oA cg ?_|refine oA cc ?_|refine oA cw ?_|refine oA c2 ?_|((refine Yt ?_;exact⟨trivial,rfl,rfl⟩))|exact zk h|fail)
  .refine qaf qak (fnB Tryz.func226 [33,40]) rfl rfl ?_
   repeat' (first|refine zV hinc ?_|refine zW ?_|refine zB ?_ ?_<;>intro h<;>try exact zk h|refine zX ?_|refine oI (v:=.d (.int .u8 (c:Nat))) ?_ (he:=by first|(simp [gD,hc]<;>fail)|fail)|refine oA cg ?_|refine oA cc ?_|refine oA cw ?_|refine oA c2 ?_|((refine Yt ?_;exact⟨trivial,rfl,rfl⟩))|exact zk h|fail)
theorem ACall.weak {P:Program} {f:FuncId} {args:List AV} {A O A':List Ob} {r:AV} (h:ACall P f args A r O) (hw:WkObs O A') (hl:A'.length=A.length) (hr:A'.all (qbB A'.length)=true) (hrr:qg6 8 A'.length r=true):ACall P f args A r A':=by
 refine⟨h.1,fun D β w vs hp hv=>(h.2 D β w vs hp hv).mono fun e w' he=>?_⟩;have hn:β.length<=A'.length:=by rw [hp.len,hl];exact Nat.le_refl _
 rcases he with⟨v,D',β',rfl,hs,hrep⟩|⟨y,v,D',β',rfl,rfl,hs,hrep⟩
 .exact .inl ⟨v,D',_,rfl,hs.weak hw hn hr,qcC 8 hrr hrep⟩
 .exact .inr ⟨y,v,D',_,rfl,rfl,hs.weak hw hn hr,hrep⟩
theorem qwl {s:List Nat} {q k:Nat} {t:List Nat} {a c d:Nat}:WkObs (qng s q k t a c d) [qeR s q]:=⟨.refl,trivial⟩
theorem qly {c:Nat} (h:c<256):(qbb (c:Nat)=4 ↔ qc2 (c:Nat)=true)/\(qbb (c:Nat)=1 ↔ qaP (c:Nat)=true)/\(qbb (c:Nat)=2 ↔ qal (c:Nat)=true)/\((qbb (c:Nat)=1\/qbb (c:Nat)=3) ↔ qfa (c:Nat)=true):=by
 have h0:qkP (fun c=>((qbb (c:Nat) == 4) == qc2 (c:Nat)) && ((qbb (c:Nat) == 1) == qaP (c:Nat)) && ((qbb (c:Nat) == 2) == qal (c:Nat)) && (((qbb (c:Nat) == 1) || (qbb (c:Nat) == 3)) == qfa (c:Nat))) 256=true:=by kernel_rfl
 have:=qeD h0 c h;simp only [Bool.and_eq_true,beq_iff_eq] at this;obtain⟨⟨⟨h1,h2⟩,h3⟩,h4⟩:=this;refine⟨by rw [<- h1];simp,by rw [<- h2];simp,by rw [<- h3];simp,by rw [<- h4];simp⟩
abbrev qv2 (s:List Nat) (p:Nat):AV :=
 if qaC s p=s.length then .tup [.d (qgU 0 [] 0),.d (qch 5 s.length)]
 else if(qah (s.drop (qaC s p))).1=0 then .tup [.d (qgU 0 [] 0),.d (qch 3 (qaC s p))]
 else .tup [.d (qgU (qah (s.drop (qaC s p))).1 (qah (s.drop (qaC s p))).2 (qaC s p)),.d (qch 0 0)]
theorem qvK (s:List Nat) (p:Nat) (hb:∀ c ∈ s,c<256) (hl:s.length<=1048576) (hp:p<=s.length) :
  ∃ p',p'<=s.length/\((qah (s.drop (qaC s p))).1≠0->p'=qaC s p+(qah (s.drop (qaC s p))).2.length)/\ACall Tryz.prog 226 [.bp 0 0] [qeR s p] (qv2 s p) [qeR s p']:=by
 unfold qv2;have hq:=qdL hp;by_cases he:qaC s p=s.length
 .rw [if_pos he]
  refine⟨s.length,Nat.le_refl _,fun h=>?_,(quX s p hb hl hp he).weak qwl rfl rfl rfl⟩;rw [he,List.drop_length] at h;simp [qah] at h
 .rw [if_neg he]
  obtain⟨c,hc⟩:=qai (show qaC s p<s.length by omega);have hlt:qaC s p<s.length:=by omega
  have hd:=qbj hc;have hc256:=hb c (List.mem_of_getElem? hc);obtain⟨k4,k1,k2,_⟩:=qly hc256;have sW:=qtx s p c hb hl hp hc;have sS:=qs7 s p c hb hl hp hc;have sN:=qqW s p c hb hl hp hc;have sM:=qpq s p c hb hl hp hc;have sB:=qvb s p c hb hl hp hc;have rW:=qgg qa9 (s.drop (qaC s p));have rD:=qgg qal (s.drop (qaC s p));rw [List.length_drop] at rW rD;have e:∀ l,qah (c :: l)=if qc2 c then(3,[c]) else if qaP c then(1,(c :: l).take (1+qaU qa9 l)) else if qal c then
   (if(c=48/\1<1+qaU qal l)\/(∃ e,(c :: l)[1+qaU qal l]?=some e/\qfa e=true) then(0,[]) else(2,(c :: l).take (1+qaU qal l))) else(0,[]):=fun _=>rfl
  by_cases h4:qc2 (c:Nat)=true
  .have eB:qah (s.drop (qaC s p))=(3,[c]):=by rw [hd,e,if_pos h4]
   rw [eB,if_neg (by simp)];exact⟨_,hlt,fun _=>rfl,(sS (k4.2 h4)).weak qwl rfl rfl rfl⟩
  .by_cases h1:qaP (c:Nat)=true
   .have hw:qa9 (c:Nat)=true:=by simp [qa9,h1]
    have eR:qaU qa9 (s.drop (qaC s p))=1+qaU qa9 (s.drop (qaC s p+1)):=by rw [hd,qaU,if_pos hw]
    have eB:qah (s.drop (qaC s p))=(1,(s.drop (qaC s p)).take (qaU qa9 (s.drop (qaC s p)))):=by
     rw [eR];conv=>lhs;rw [hd]
     rw [e,if_neg h4,if_pos h1,<- hd]
    rw [eB,if_neg (by simp)];refine⟨_,?_,fun _=>?_,(sW (k1.2 h1)).weak qwl rfl rfl rfl⟩
    .omega
    .simp only [List.length_take,List.length_drop];omega
   .by_cases h2:qal (c:Nat)=true
    .have eR:qaU qal (s.drop (qaC s p))=1+qaU qal (s.drop (qaC s p+1)):=by rw [hd,qaU,if_pos h2]
     have hcls:(∃ e,(s.drop (qaC s p))[qaU qal (s.drop (qaC s p))]?=some e/\qfa e=true) ↔ (qb9 s (qaC s p+qaU qal (s.drop (qaC s p)))=1\/qb9 s (qaC s p+qaU qal (s.drop (qaC s p)))=3):=by
      rw [List.getElem?_drop];unfold qb9;cases hx:s[qaC s p+qaU qal (s.drop (qaC s p))]? with
      |none=>simp
      |some d =>
       have:=(qly (hb d (List.mem_of_getElem? hx))).2.2.2;simp only [Option.some.injEq,exists_eq_left'];exact this.symm
     have eB:qah (s.drop (qaC s p))=if(c=48/\1<qaU qal (s.drop (qaC s p)))\/(∃ e,(s.drop (qaC s p))[qaU qal (s.drop (qaC s p))]?=some e/\qfa e=true) then(0,[]) else(2,(s.drop (qaC s p)).take (qaU qal (s.drop (qaC s p)))):=by
      rw [eR]
      conv=>lhs;rw [hd]
      rw [e,if_neg h4,if_neg h1,if_pos h2,<- hd]
     by_cases hz:(c=48/\1<qaU qal (s.drop (qaC s p)))\/(∃ e,(s.drop (qaC s p))[qaU qal (s.drop (qaC s p))]?=some e/\qfa e=true)
     .rw [if_pos hz] at eB
      rw [eB,if_pos rfl];exact⟨_,by omega,fun h=>absurd rfl h,(sM (k2.2 h2) (hz.imp id hcls.1)).weak qwl rfl rfl rfl⟩
     .rw [if_neg hz] at eB
      rw [eB,if_neg (by simp)];have hz2:=fun h=>hz (.inr (hcls.2 h));refine⟨_,?_,fun _=>?_,(sN (k2.2 h2) (fun h=>hz (.inl h)) (fun h=>hz2 (.inl h)) (fun h=>hz2 (.inr h))).weak qwl rfl rfl rfl⟩
      .omega
      .simp only [List.length_take,List.length_drop];omega
    .have eB:qah (s.drop (qaC s p))=(0,[]):=by rw [hd,e,if_neg h4,if_neg h1,if_neg h2]
     rw [eB,if_pos rfl];exact⟨_,hq,fun h=>absurd rfl h,(sB (fun h=>h1 (k1.1 h)) (fun h=>h2 (k2.1 h)) (fun h=>h4 (k4.1 h))).weak qwl rfl rfl rfl⟩
def qfl (s:List Nat):Nat->Nat->List DV->List DV × Nat × Nat
 |0,_,acc=>(acc,5,s.length)
 |n+1,a,acc=>if qaC s a=s.length then(acc,5,s.length) else if(qah (s.drop (qaC s a))).1=0 then(acc,3,qaC s a)
  else qfl s n (qaC s a+(qah (s.drop (qaC s a))).2.length) (acc++[qgU (qah (s.drop (qaC s a))).1 (qah (s.drop (qaC s a))).2 (qaC s a)])
abbrev qvZ (r:List DV × Nat × Nat):List DV × Nat × Nat:=if r.2.1=5 then(r.1,0,0) else([],r.2)
theorem qoK (s:List Nat):∀ (n a:Nat) (acc:List DV),a<=s.length->s.length+1<=n+a->qvZ (qfl s n a acc)=qc1 s n a acc/\((qfl s n a acc).2.1=5/\(qfl s n a acc).2.2=s.length\/(qfl s n a acc).2.1=3)
 |0,a,acc,h1,h2=>by omega
 |n+1,a,acc,h1,h2=>by
  have hle:=qdL h1;have hge:a<=qaC s a:=Nat.le_add_right _ _;unfold qfl qc1;by_cases hp:qaC s a=s.length
  .rw [if_pos hp,if_pos hp];exact⟨rfl,.inl ⟨rfl,rfl⟩⟩
  .rw [if_neg hp,if_neg hp]
   by_cases hk:(qah (s.drop (qaC s a))).1=0
   .rw [if_pos hk,if_pos hk];exact⟨rfl,.inr rfl⟩
   .rw [if_neg hk,if_neg hk]
    obtain⟨c,hc⟩:=qai (show qaC s a<s.length by omega);have hd:=qbj hc;have hbl:=qdH (s.drop (qaC s a));rw [List.length_drop] at hbl;have:1<=(qah (s.drop (qaC s a))).2.length:=by rw [hd] at hk |-;exact qdB hk
    exact qoK s n _ _ (by omega) (by omega)
abbrev qsR (s:List Nat):DV:=.fn (.func 225) [] [.ep [.str s]]
theorem qzp (s:List Nat):qaa Tryz.prog 177 [.str s] (.d (qsR s)):=by
 refine kF Tryz.func177 [1] fun w=>?_
 repeat refine zA ?_
 refine Yt ?_;refine⟨trivial,_,_,by rfl,by rfl,Eq.trans (b:=some (.d (qsR s))) (by kernel_rfl) ?_⟩
 rfl
abbrev lxO (tm:PT AV) (nt:Nat) (frz:List Nat) (qs:Array Tmp) (ab bd:Code) (acc:List DV):List Ob :=
 [.box [.d .nilsl],.box [.d (.int .i64 0),.d (.int .i64 0)],.box [.sr 3 3 acc],.room acc.length 3,.raw (.deferred (some [])),.loop tm nt frz qs ab bd .ready none]
abbrev lxE (tm:PT AV) (nt:Nat) (frz:List Nat) (qs:Array Tmp) (ab bd:Code) (acc:List DV) (v:AV) (c a:Nat):List Ob :=
 [.box [v],.box [.d (.int .i64 (c:Nat)),.d (.int .i64 (a:Nat))],.box [.sr 3 3 acc],.room acc.length 3,.raw (.deferred (some [])),.loop tm nt frz qs ab bd .done (some .ret)]
abbrev lxR (tm:PT AV) (nt:Nat) (frz:List Nat) (qs:Array Tmp) (ab bd:Code) (r:List DV × Nat × Nat):List Ob :=
 if r.2.1=5 then lxE tm nt frz qs ab bd r.1 (.sr 3 3 r.1) 0 0 else lxE tm nt frz qs ab bd r.1 (.d .nilsl) r.2.1 r.2.2
set_option maxHeartbeats 4000000 in
theorem qyG (s:List Nat) (hb:∀ c ∈ s,c<256) (hl:s.length<=2000) (tm:PT AV) (nt:Nat) (frz:List Nat) (qs:Array Tmp) (ab bd:Code) (hT:∀ n,qdO (qg6 8 (6+n)) tm=true)
  (hok:∀ (acc:List DV) (p k a:Nat) (t:List Nat),acc.length<=2000->qcJ Tryz.prog 5 [.d (qgU k t a),.d (qch 0 0)] (lxO tm nt frz qs ab bd acc++[qeR s p,.box [.d (.int .i64 (k:Nat)),.d (.str t),.d (.int .i64 (a:Nat))],.box [.d (.int .i64 (0:Nat)),.d (.int .i64 (0:Nat))]]) (.d (.bool true)) (lxO tm nt frz qs ab bd (acc++[qgU k t a])++[qeR s p,.box [.d (.int .i64 (k:Nat)),.d (.str t),.d (.int .i64 (a:Nat))],.box [.d (.int .i64 (0:Nat)),.d (.int .i64 (0:Nat))]]))
  (hend:∀ (acc:List DV) (p c a:Nat),(c=5\/c=3)->qcJ Tryz.prog 5 [.d (qgU 0 [] 0),.d (qch c a)] (lxO tm nt frz qs ab bd acc++[qeR s p,.box [.d (.int .i64 (0:Nat)),.d (.str []),.d (.int .i64 (0:Nat))],.box [.d (.int .i64 (c:Nat)),.d (.int .i64 (a:Nat))]]) (.d (.bool false)) (lxR tm nt frz qs ab bd (acc,c,a)++[qeR s p,.box [.d (.int .i64 (0:Nat)),.d (.str []),.d (.int .i64 (0:Nat))],.box [.d (.int .i64 (c:Nat)),.d (.int .i64 (a:Nat))]])) :
  ACall Tryz.prog 225 [.yl 5,.d (.ep [.str s])] (lxO tm nt frz qs ab bd []) (.tup []) (lxR tm nt frz qs ab bd (qfl s (s.length+1) 0 [])):=by
 have w:Fz []:=trivial;obtain⟨R,hR⟩:∃ R,R=qfl s (s.length+1) 0 []:=⟨_,rfl⟩
 rw [<- hR];have hlR:(lxR tm nt frz qs ab bd R).length=6:=by unfold lxR;split<;>rfl
 have hrR:(lxR tm nt frz qs ab bd R).all (qbB 6)=true:=by
  unfold lxR;split<;>(simp only [lxE,List.all_cons,List.all_nil,Bool.and_true];simp only [qbB,hT 0];rfl)
 have hrf:∀ (acc:List DV) (p:Nat),(lxO tm nt frz qs ab bd acc++[qeR s p]).all (qbB 7)=true:=fun acc p=>by
  simp only [lxO,List.cons_append,List.nil_append,List.all_cons,List.all_nil,Bool.and_true];simp only [qbB,hT 1];rfl
 refine qad qak (fnB Tryz.func225 []) rfl rfl hlR (by rw [hlR];exact hrR) rfl ?_
 repeat refine zA ?_
 refine Run.loopT (fun y:Nat × Nat × List DV=>⟨PT.ofList [(0,.yl 5),(3,.bp 6 0)],lxO tm nt frz qs ab bd y.2.2++[qeR s y.2.1],[]⟩) (fun y=>y.2.1<=s.length/\y.2.2.length<=y.2.1/\s.length+1<=y.1+y.2.1/\qfl s y.1 y.2.1 y.2.2=R) (fun y=>s.length-y.2.1) (s.length+1,0,[]) ⟨Nat.zero_le _,Nat.le_refl _,Nat.le_refl _,hR.symm⟩ (qcQ (objs:=_) _ 7 (by rfl) rfl (by repeat' (first|exact trivial|refine⟨(Or.inl rfl),?_⟩|refine⟨(Or.inr rfl),?_⟩|fail)) (by repeat' (first|exact trivial|refine⟨rfl,?_⟩|fail)) (hrf [] 0) rfl) (fun y hy=>?_);obtain⟨n,a,acc⟩:=y;obtain⟨hy1,hy2,hy3,hy4⟩:=hy;simp only at hy1 hy2 hy3 hy4 |-;obtain⟨m,rfl⟩:∃ m,n=m+1:=⟨n-1,by omega⟩
 obtain⟨p',hp1,hp2,cn⟩:=qvK s a hb (by omega) hy1;have hle:=qdL hy1;have hge:a<=qaC s a:=Nat.le_add_right _ _;unfold qfl at hy4;unfold qv2 at cn;generalize qaC s a=p at cn hle hge hy4 hp2;by_cases hp:p=s.length
 .rw [if_pos hp] at cn hy4
  subst hy4
  repeat' (first|refine zW ?_|refine zB ?_ ?_<;>intro h<;>try exact zk h|refine oE [6] cn ?_|refine RunOps.yield (by rfl) (by rfl) (hend acc p' 5 s.length (.inl rfl)) (by rfl) (by rfl) ?_|(((first|refine Yt ?_|skip);exact⟨trivial,_,_,rfl,rfl,.refl,wkE⟩))|exact zk h|fail)
 .rw [if_neg hp] at cn hy4
  obtain⟨c,hc⟩:=qai (show p<s.length by omega);have hd:=qbj hc;have hbl:=qdH (s.drop p);have hbp:(qah (s.drop p)).1≠0->1<=(qah (s.drop p)).2.length:=by rw [hd];exact qdB
  rw [List.length_drop] at hbl;generalize qah (s.drop p)=b at cn hbl hbp hy4 hp2;obtain⟨k,t⟩:=b;simp only at cn hbl hbp hy4 hp2;by_cases hk:k=0
  .rw [if_pos hk] at cn hy4
   subst hy4
   repeat' (first|refine zW ?_|refine zB ?_ ?_<;>intro h<;>try exact zk h|refine oE [6] cn ?_|refine RunOps.yield (by rfl) (by rfl) (hend acc p' 3 p (.inr rfl)) (by rfl) (by rfl) ?_|(((first|refine Yt ?_|skip);exact⟨trivial,_,_,rfl,rfl,.refl,wkE⟩))|exact zk h|fail)
  .rw [if_neg hk] at cn hy4
   have ht:=hbp hk;have hp':=hp2 hk;subst hp'
   repeat' (first|refine zW ?_|refine zB ?_ ?_<;>intro h<;>try exact zk h|refine oE [6] cn ?_|refine RunOps.yield (by rfl) (by rfl) (hok acc (p+t.length) k p t (by omega)) (by rfl) (by rfl) ?_|exact zk h|fail)
   exact⟨(m,p+t.length,acc++[qgU k t p]),⟨by simp only<;>omega,by simp only [List.length_append,List.length_cons,List.length_nil]<;>omega,by simp only<;>omega,hy4⟩,by simp only<;>omega,qcQ (objs:=_) _ 7 (by rfl) rfl (by repeat' (first|exact trivial|refine⟨(Or.inl rfl),?_⟩|refine⟨(Or.inr rfl),?_⟩|fail)) (by repeat' (first|exact trivial|refine⟨rfl,?_⟩|fail)) (hrf _ _) rfl⟩
theorem Run.rangeLex {nt m:Nat} {frz:List Nat} {K:Ex->S->Prop} {tm:PT AV} {dl:List Dl} {f:Operand} {qs:Array Tmp} {ab bd:Code} (s:List Nat) (hb:∀ c ∈ s,c<256) (hl:s.length<=2000) (hf:rd tm f=.d (qsR s)) (hT:∀ n,qdO (qg6 8 (6+n)) tm=true)
  (hok:∀ (acc:List DV) (p k a:Nat) (t:List Nat),acc.length<=2000->qcJ Tryz.prog 5 [.d (qgU k t a),.d (qch 0 0)] (lxO tm nt frz qs ab bd acc++[qeR s p,.box [.d (.int .i64 (k:Nat)),.d (.str t),.d (.int .i64 (a:Nat))],.box [.d (.int .i64 (0:Nat)),.d (.int .i64 (0:Nat))]]) (.d (.bool true)) (lxO tm nt frz qs ab bd (acc++[qgU k t a])++[qeR s p,.box [.d (.int .i64 (k:Nat)),.d (.str t),.d (.int .i64 (a:Nat))],.box [.d (.int .i64 (0:Nat)),.d (.int .i64 (0:Nat))]]))
  (hend:∀ (acc:List DV) (p c a:Nat),(c=5\/c=3)->qcJ Tryz.prog 5 [.d (qgU 0 [] 0),.d (qch c a)] (lxO tm nt frz qs ab bd acc++[qeR s p,.box [.d (.int .i64 (0:Nat)),.d (.str []),.d (.int .i64 (0:Nat))],.box [.d (.int .i64 (c:Nat)),.d (.int .i64 (a:Nat))]]) (.d (.bool false)) (lxR tm nt frz qs ab bd (acc,c,a)++[qeR s p,.box [.d (.int .i64 (0:Nat)),.d (.str []),.d (.int .i64 (0:Nat))],.box [.d (.int .i64 (c:Nat)),.d (.int .i64 (a:Nat))]]))
  (hk:∀ (acc:List DV) (v:AV) (c a:Nat),(qwR (qbm s)=.tup [.d (.sl 3 acc),.d (qch c a)]/\v=.sr 3 3 acc\/qwR (qbm s)=.tup [.d (.sl 3 []),.d (qch c a)]/\v=.d .nilsl) ->
   K .ret ⟨tm,[.box [v],.box [.d (.int .i64 (c:Nat)),.d (.int .i64 (a:Nat))],.box [.sr 3 3 acc],.room acc.length 3,.raw (.deferred (some [])),.loop tm nt frz qs ab bd .exhausted (some .ret)],.mark 4 :: dl⟩) :
  Run Tryz.prog nt m none (.rangeFunc f qs ab bd) ⟨tm,[.box [.d .nilsl],.box [.d (.int .i64 0),.d (.int .i64 0)],.box [.sr 3 3 []],.room 0 3],dl⟩ K:=by
 have hm:Tryz.prog.follows .mixedOrders=true:=by kernel_rfl
 have hA:=qyG s hb hl tm nt frz qs ab bd hT hok hend;have hF:qbm s=qc1 s (s.length+1) 0 []:=by unfold qbm;rw [if_neg (by omega)]
 obtain⟨h1,h2⟩:=qoK s (s.length+1) 0 [] (Nat.zero_le _) (Nat.le_refl _);rw [<- hF] at h1;generalize qfl s (s.length+1) 0 []=R at hA h1 h2;obtain⟨acc,c,a⟩:=R;simp only at h1 h2;by_cases hc:c=5
 .subst hc
  rw [show lxR tm nt frz qs ab bd (acc,5,a)=lxE tm nt frz qs ab bd acc (.sr 3 3 acc) 0 0 from if_pos rfl] at hA;rw [show qvZ (acc,5,a)=(acc,0,0) from if_pos rfl] at h1;exact Run.range qak hm hf hA rfl (by rfl) (by simp) (hk acc (.sr 3 3 acc) 0 0 (.inl ⟨by rw [<- h1],rfl⟩))
 .rw [show lxR tm nt frz qs ab bd (acc,c,a)=lxE tm nt frz qs ab bd acc (.d .nilsl) c a from if_neg hc] at hA
  rw [show qvZ (acc,c,a)=([],c,a) from if_neg hc] at h1;exact Run.range qak hm hf hA rfl (by rfl) (by simp) (hk acc (.d .nilsl) c a (.inr ⟨by rw [<- h1],rfl⟩))
set_option maxHeartbeats 8000000 in
theorem qtq (s:List Nat) (hb:∀ c ∈ s,c<256) (hl:s.length<=1048576):qaa Tryz.prog 96 [.str s] (qwR (qbm s)):=by
 have w:Fz [22]:=trivial;by_cases h2:2000<s.length
 .unfold qbm
  rw [if_pos h2];refine qf5 qak (fnB Tryz.func96 [22]) ?_
  repeat' (first|refine zW ?_|refine zB ?_ ?_<;>intro h<;>try exact zk h|(refine Yt ?_;refine r2 ?_;first|done|(exact .tup2 .nil .refl))|exact zk h|fail)
 .have ce:=qzp s
  obtain⟨R,hR⟩:∃ R,R=qwR (qbm s):=⟨_,rfl⟩
  rw [<- hR];refine qf5 qak (fnB Tryz.func96 [22]) ?_
  repeat' (first|refine zW ?_|refine zB ?_ ?_<;>intro h<;>try exact zk h|refine zC (ce) ?_|(refine Yt ?_;refine r2 ?_;first|done|(skip))|exact zk h|fail)
  refine Run.cellRoom 2 0 3 ?_;refine Run.tidy (s':=⟨PT.ofList [(2,.bp 0 0),(3,.bp 1 0),(4,.bp 2 0),(12,.d (qsR s))],[.box [.d .nilsl],.box [.d (.int .i64 0),.d (.int .i64 0)],.box [.sr 3 3 []],.room 0 3],[]⟩) (ti _ 4) ?_;refine Run.rangeLex (frz:=[22]) s hb (by omega) (by rfl) (fun n=>?_) (fun acc p k a t hal=>?_) (fun acc p c a hc=>?_) (fun acc v c a hk=>?_)
  .rw [show 6+n=n+6 from by omega];rfl
  .unfold lxO
   rw [show(acc++[qgU k t a]).length=acc.length+1 from by simp];refine qaN (i:=5) (by rfl) (by rfl) (by rfl) ?_
   repeat refine zA ?_
   refine⟨rfl,_,_,_,_,_,_,_,by rfl,?_⟩;refine Run.less ?_
   repeat' (first|refine zW ?_|refine zB ?_ ?_<;>intro h<;>try exact zk h|refine zAp ?_|(exact⟨rfl,_,qcP [] 9 rfl (by rfl) trivial trivial (by kernel_rfl) rfl,_,_,_,_,_,_,_,_,by rfl,rfl,by rfl⟩)|((exfalso;(simp_all<;>fail)))|fail)
  .rcases hc with rfl|rfl
   .rw [show lxR _ _ _ _ _ _ (acc,5,a)=lxE _ _ _ _ _ _ acc (.sr 3 3 acc) 0 0 from if_pos rfl]
    refine qaN (i:=5) (by rfl) (by rfl) (by rfl) ?_
    repeat refine zA ?_
    refine⟨rfl,_,_,_,_,_,_,_,by rfl,?_⟩;refine Run.less ?_
    repeat' (first|refine zW ?_|refine zB ?_ ?_<;>intro h<;>try exact zk h|((first|refine Yt ?_|skip);exact⟨rfl,_,qcP [] 9 rfl (by rfl) trivial trivial (by kernel_rfl) rfl,_,_,_,_,_,_,_,_,by rfl,rfl,by rfl⟩)|((exfalso;(simp_all<;>fail)))|fail)
   .rw [show lxR _ _ _ _ _ _ (acc,3,a)=lxE _ _ _ _ _ _ acc (.d .nilsl) 3 a from if_neg (show ¬ (3:Nat)=5 by decide)]
    refine qaN (i:=5) (by rfl) (by rfl) (by rfl) ?_
    repeat refine zA ?_
    refine⟨rfl,_,_,_,_,_,_,_,by rfl,?_⟩;refine Run.less ?_
    repeat' (first|refine zW ?_|refine zB ?_ ?_<;>intro h<;>try exact zk h|((first|refine Yt ?_|skip);exact⟨rfl,_,qcP [] 9 rfl (by rfl) trivial trivial (by kernel_rfl) rfl,_,_,_,_,_,_,_,_,by rfl,rfl,by rfl⟩)|((exfalso;(simp_all<;>fail)))|fail)
  .rcases hk with⟨h1,rfl⟩|⟨h1,rfl⟩
   .rw [hR,h1]
    refine r2 ?_;exact .refl
   .rw [hR,h1]
    refine r2 ?_;exact .tup2 .nil .refl
theorem qr9:Tryz.prog.follows .mixedOrders=true:=by kernel_rfl
theorem qxB (objs:List Ob):qki Tryz.prog 97 [.bp 0 0,.bp 1 0] none objs none objs :=
 qfE qak qiR qr9 qdk (n:=40) (by rfl)
abbrev pX (s:List Nat) (p:PS):List Ob:=[oZX,oZF,.map (kvN p.names),.box [.d (.str s),.d (.sl 3 (p.l.map qdJ)),.d (.int .i64 p.x.k),.sr 4 1 (p.x.tokens.map .str),.d (.str p.x.sep),.d (.str p.x.start),.sr 5 2 (p.x.rules.map qbV),.mp 2,.sr 6 2 (p.uses.map qp8),.d (.int .i64 (p.total:Nat))],.room p.x.tokens.length 1,.room p.x.rules.length 2,.room p.uses.length 2]
theorem qkh (e:Fa):qki Tryz.prog 97 [.bp 0 0,.bp 1 0] (some (qoE e)) [oZX,oZF,.gone,.gone,.gone,.gone,.gone] none
  [oZX,.box [.d (.int .i64 (e.1:Nat)),.d (.int .i64 (e.2:Nat))],.gone,.gone,.gone,.gone,.gone,.box [.d (.int .i64 (e.1:Nat)),.d (.int .i64 (e.2:Nat))]] :=
 qfE qak qiR qr9 qdk (n:=40) (by rfl)
abbrev qAi:DV:=.agg [.fn (.func 98) [] [],.fn (.func 99) [] [],.fn (.func 100) [] [],.fn (.func 101) [] [],.fn (.func 102) [] [],.fn (.func 103) [] []]
abbrev dlP:List Dl:=[.call 97 [.bp 0 0,.bp 1 0]]
set_option maxHeartbeats 8000000 in
theorem qwM (s:List Nat) (ls:List Lx) (hb:∀ c ∈ s,c<256) (hs:s.length<=1048576) (hl:LsB ls) (hn:quE ls) (hlex:qbm s=(ls.map qdJ,0,0)) :
  qaa Tryz.prog 27 [.str s] (qwp (qwm (qrG s ls))):=by
 have w:Fz []:=trivial;have cl:=qtq s hb hs;rw [hlex] at cl;rw [qpI];obtain⟨R,hR⟩:∃ R,R=qfc s 6 0 ⟨ls,qdj,[],[],0⟩:=⟨_,rfl⟩
 rw [<- hR];refine qvg qak (fnB Tryz.func27 []) ?_
 repeat' (first|refine zW ?_|refine zB ?_ ?_<;>intro h<;>try exact zk h|refine zC (cl) ?_|refine RunOps.deferOp (by rfl) rfl (by rfl) ?_|exact zk h|fail)
 refine Run.tidy (s':=⟨PT.ofList [(2,.bp 0 0),(3,.bp 1 0),(5,.bp 3 0),(24,.d qAi),(25,.d (.int .i64 ((0:Nat):Int)))],[oZX,oZF,.map [],.box [.d (.str s),.d (.sl 3 (ls.map qdJ)),.d (.int .i64 0),.d .nilsl,.d (.str []),.d (.str []),.d .nilsl,.mp 2,.d .nilsl,.d (.int .i64 0)]],dlP⟩) (ti _ 4) ?_;refine Run.cellRoom 3 3 1 ?_;refine Run.cellRoom 3 6 2 ?_;refine Run.cellRoom 3 8 2 ?_;have j0:JP ls ⟨ls,qdj,[],[],0⟩:=⟨fun _ h=>h,Nat.le_refl _,by simp,by simp,by simp,by simp⟩
 refine Run.loopT (fun y:Nat × Nat × PS=>⟨PT.ofList [(2,.bp 0 0),(3,.bp 1 0),(5,.bp 3 0),(24,.d qAi),(25,.d (.int .i64 (y.2.1:Nat)))],pX s y.2.2,dlP⟩)
  (fun y=>y.1+y.2.1=6/\JP ls y.2.2/\(y.2.1=0->quE y.2.2.l)/\qfc s y.1 y.2.1 y.2.2=R) (fun y=>y.1) (6,0,⟨ls,qdj,[],[],0⟩) ⟨rfl,j0,fun _=>hn,hR.symm⟩ (ti _ 7) (fun y hy=>?_)
 obtain⟨n,k,p⟩:=y;obtain⟨h1,h2,h3,h4⟩:=hy;simp only at h1 h2 h3 h4 |-;have pb:=h2.pb hl
 rcases(show k=0\/k=1\/k=2\/k=3\/k=4\/k=5\/k=6 by omega) with rfl|rfl|rfl|rfl|rfl|rfl|rfl
 .obtain rfl:n=5+1:=by omega
  have c0:=qyx s p pb (h3 rfl);have h4:(qf6 s 0 p).bind (fun p=>qfc s 5 1 p)=R:=h4;cases hq:qf6 s 0 p with
  |error e =>
   rw [hq] at h4;rw [show qhT s p=.error e from hq] at c0;simp only [Except.bind] at h4;subst h4
   repeat' (first|refine zW ?_|refine zB ?_ ?_<;>intro h<;>try exact zk h|refine oEP [3,4,5,2,6] c0 ?_|((exact qvQ rfl (.inr ⟨_,_,rfl,qkh e⟩) (by rfl) (by rfl) (.tup2 qfX .refl)))|exact zk h|fail)
  |ok q =>
   rw [hq] at h4;rw [show qhT s p=.ok q from hq] at c0;have h4:qfc s 5 1 q=R:=h4;have jq:=h2.stepL hq
   repeat' (first|refine zW ?_|refine zB ?_ ?_<;>intro h<;>try exact zk h|refine oE [3,4,5,2,6] c0 ?_|(exact⟨(5,1,q),⟨rfl,jq,fun h=>(nomatch h),h4⟩,Nat.lt_succ_self _,(ti _ 7)⟩)|exact zk h|fail)
 .obtain rfl:n=4+1:=by omega
  have c0:=qvG s p pb h2.toks;have h4:(qf6 s 1 p).bind (fun p=>qfc s 4 2 p)=R:=h4;cases hq:qf6 s 1 p with
  |error e =>
   rw [hq] at h4;rw [show qdb s p=.error e from hq] at c0;simp only [Except.bind] at h4;subst h4
   repeat' (first|refine zW ?_|refine zB ?_ ?_<;>intro h<;>try exact zk h|refine oEP [3,4,5,2,6] c0 ?_|((exact qvQ rfl (.inr ⟨_,_,rfl,qkh e⟩) (by rfl) (by rfl) (.tup2 qfX .refl)))|exact zk h|fail)
  |ok q =>
   rw [hq] at h4;rw [show qdb s p=.ok q from hq] at c0;have h4:qfc s 4 2 q=R:=h4;have jq:=h2.stepL hq
   repeat' (first|refine zW ?_|refine zB ?_ ?_<;>intro h<;>try exact zk h|refine oE [3,4,5,2,6] c0 ?_|(exact⟨(4,2,q),⟨rfl,jq,fun h=>(nomatch h),h4⟩,Nat.lt_succ_self _,(ti _ 7)⟩)|exact zk h|fail)
 .obtain rfl:n=3+1:=by omega
  have c0:=qAP s p pb;have h4:(qf6 s 2 p).bind (fun p=>qfc s 3 3 p)=R:=h4;cases hq:qf6 s 2 p with
  |error e =>
   rw [hq] at h4;rw [show qp9 s p=.error e from hq] at c0;simp only [Except.bind] at h4;subst h4
   repeat' (first|refine zW ?_|refine zB ?_ ?_<;>intro h<;>try exact zk h|refine oEP [3,4,5,2,6] c0 ?_|((exact qvQ rfl (.inr ⟨_,_,rfl,qkh e⟩) (by rfl) (by rfl) (.tup2 qfX .refl)))|exact zk h|fail)
  |ok q =>
   rw [hq] at h4;rw [show qp9 s p=.ok q from hq] at c0;have h4:qfc s 3 3 q=R:=h4;have jq:=h2.stepL hq
   repeat' (first|refine zW ?_|refine zB ?_ ?_<;>intro h<;>try exact zk h|refine oE [3,4,5,2,6] c0 ?_|(exact⟨(3,3,q),⟨rfl,jq,fun h=>(nomatch h),h4⟩,Nat.lt_succ_self _,(ti _ 7)⟩)|exact zk h|fail)
 .obtain rfl:n=2+1:=by omega
  have c0:=startC s p pb;have h4:(qf6 s 3 p).bind (fun p=>qfc s 2 4 p)=R:=h4;cases hq:qf6 s 3 p with
  |error e =>
   rw [hq] at h4;rw [show qeI s p=.error e from hq] at c0;simp only [Except.bind] at h4;subst h4
   repeat' (first|refine zW ?_|refine zB ?_ ?_<;>intro h<;>try exact zk h|refine oEP [3,4,5,2,6] c0 ?_|((exact qvQ rfl (.inr ⟨_,_,rfl,qkh e⟩) (by rfl) (by rfl) (.tup2 qfX .refl)))|exact zk h|fail)
  |ok q =>
   rw [hq] at h4;rw [show qeI s p=.ok q from hq] at c0;have h4:qfc s 2 4 q=R:=h4;have jq:=h2.stepL hq
   repeat' (first|refine zW ?_|refine zB ?_ ?_<;>intro h<;>try exact zk h|refine oE [3,4,5,2,6] c0 ?_|(exact⟨(2,4,q),⟨rfl,jq,fun h=>(nomatch h),h4⟩,Nat.lt_succ_self _,(ti _ 7)⟩)|exact zk h|fail)
 .obtain rfl:n=1+1:=by omega
  have c0:=qx5 s p pb h2.rules h2.total;have h4:(qf6 s 4 p).bind (fun p=>qfc s 1 5 p)=R:=h4;cases hq:qf6 s 4 p with
  |error e =>
   rw [hq] at h4;rw [show qcZ s (p.l.length+1) true p=.error e from hq] at c0;simp only [Except.bind] at h4;subst h4
   repeat' (first|refine zW ?_|refine zB ?_ ?_<;>intro h<;>try exact zk h|refine oEP [3,4,5,2,6] c0 ?_|((exact qvQ rfl (.inr ⟨_,_,rfl,qkh e⟩) (by rfl) (by rfl) (.tup2 qfX .refl)))|exact zk h|fail)
  |ok q =>
   rw [hq] at h4;rw [show qcZ s (p.l.length+1) true p=.ok q from hq] at c0;have h4:qfc s 1 5 q=R:=h4;have jq:=h2.stepL hq
   repeat' (first|refine zW ?_|refine zB ?_ ?_<;>intro h<;>try exact zk h|refine oE [3,4,5,2,6] c0 ?_|(exact⟨(1,5,q),⟨rfl,jq,fun h=>(nomatch h),h4⟩,Nat.lt_succ_self _,(ti _ 7)⟩)|exact zk h|fail)
 .obtain rfl:n=0+1:=by omega
  have c0:=qy9 s p pb;have h4:(qf6 s 5 p).bind (fun p=>qfc s 0 6 p)=R:=h4;cases hq:qf6 s 5 p with
  |error e =>
   rw [hq] at h4;rw [show qjA p=.error e from hq] at c0;simp only [Except.bind] at h4;subst h4
   repeat' (first|refine zW ?_|refine zB ?_ ?_<;>intro h<;>try exact zk h|refine oEP [3,4,5,2,6] c0 ?_|((exact qvQ rfl (.inr ⟨_,_,rfl,qkh e⟩) (by rfl) (by rfl) (.tup2 qfX .refl)))|exact zk h|fail)
  |ok q =>
   rw [hq] at h4;rw [show qjA p=.ok q from hq] at c0;have h4:qfc s 0 6 q=R:=h4;have jq:=h2.stepL hq
   repeat' (first|refine zW ?_|refine zB ?_ ?_<;>intro h<;>try exact zk h|refine oE [3,4,5,2,6] c0 ?_|(exact⟨(0,6,q),⟨rfl,jq,fun h=>(nomatch h),h4⟩,Nat.lt_succ_self _,(ti _ 7)⟩)|exact zk h|fail)
 .obtain rfl:n=0:=by omega
  have h4:(.ok p:Except Fa PS)=R:=h4;subst h4
  repeat' (first|refine zW ?_|refine zB ?_ ?_<;>intro h<;>try exact zk h|((refine Yt ?_;exact qvQ rfl (.inr ⟨_,_,rfl,qxB _⟩) (by rfl) (by rfl) (.tup2 .refl .refl)))|exact zk h|fail)
theorem qm7 {t:List Nat} (h:qcS t=0):t.length<=12:=by
 have hw:qea t=0:=by
  unfold qcS at h;split at h
  .omega
  .exact h
 unfold qea at hw;split at hw
 .cases hw
 .split at hw
  .cases hw
  .split at hw
   .cases hw
   .omega
theorem qmU {c:Nat} (h:qa9 (c:Nat)=true):c<256:=by
 simp only [qa9,qaP,qal,Bool.or_eq_true,Bool.and_eq_true,decide_eq_true_eq,beq_iff_eq] at h;omega
theorem qe7 {t:List Nat} (h:IsW t):∀ c ∈ t,c<256:=by
 cases t with
 |nil=>exact h.elim
 |cons c l =>
  intro d hd;rcases List.mem_cons.1 hd with rfl|hd
  .exact qmU (by simp [qa9,h.1])
  .exact qmU (h.2 d hd)
theorem SoundX.litX {x:Src} (h:SoundX x):LightX x where
 tokens:=⟨by have:=h.tok8;omega,fun s hs=>by have:=qm7 (qcR (h.tokS s hs));omega⟩
 sep:=by have:=qm7 (qcR h.sepS);omega
 start:=by have:=qm7 (qb2 h.startC);omega
 rules:=by have:=h.rul8;omega
 names r hr:=⟨by have:=qm7 (qb2 (h.rulC r hr));omega,by
  have h1:=h.sum;have:∀ (l:List SRule),r ∈ l->r.alts.length<=(l.map (·.alts.length)).sum:=by
   intro l
   induction l with
   |nil=>intro h;cases h
   |cons u l ih =>
    intro h;simp only [List.map_cons,List.sum_cons];rcases List.mem_cons.1 h with rfl|h
    .omega
    .have:=ih h;omega
  have:=this x.rules hr;omega,fun a ha=>⟨by have:=h.alt6 r hr a ha;omega,fun s hs=>by have:=qm7 (qk1 (h.altM r hr a ha s hs));omega⟩⟩
theorem SoundX.bytes {x:Src} (h:SoundX x):ByteX x where
 tokens s hs:=qe7 (qcX (qcR (h.tokS s hs)))
 sep:=qe7 (qcX (qcR h.sepS))
 start:=qe7 (qcX (qb2 h.startC))
 rules r hr:=qe7 (qcX (qb2 (h.rulC r hr)))
 names r hr a ha s hs:=qe7 (qcX (qk1 (h.altM r hr a ha s hs)))
theorem qie:∀ {l m:List Lx},l.map qdJ=m.map qdJ->l=m
 |[],[],_=>rfl
 |[],_ :: _,h=>by cases h
 |_ :: _,[],h=>by cases h
 |x :: l,y :: m,h=>by
  simp only [List.map_cons,List.cons.injEq,qdJ,qgU,DV.agg.injEq,DV.int.injEq,DV.str.injEq,true_and,and_true] at h;obtain⟨⟨h1,h2,h3⟩,h4⟩:=h;obtain⟨k,t,a⟩:=x;obtain⟨k',t',a'⟩:=y;simp only at h1 h2 h3;rw [qie h4,show k=k' by omega,h2,show a=a' by omega]
theorem qpo {x:Src} (h:qa0 x=0) (hl:(qaQ x).length<=2000):qaa Tryz.prog 27 [.str (qaQ x)] (qwp (x,(0,0))):=by
 have hs:=qt9 h;obtain⟨ls,h1,h2⟩:=qqV h hl;have hb:=hs.bytes.print hs.k.2;rcases qjg (qaQ x) (by omega) with⟨ls2,h3,h4,h5⟩|⟨e,q,h3,h4⟩
 .have e:ls2=ls:=qie (by rw [h1] at h3;simp only [Prod.mk.injEq] at h3;exact h3.1.symm)
  subst e;have:=qwM (qaQ x) ls2 hb (by omega) h4 h5 h1;rw [<- qtU,h2] at this;exact this
 .rw [h1] at h3
  simp only [Prod.mk.injEq] at h3;exact absurd h3.2.1.symm h4
set_option maxRecDepth 100000
section
variable (s:List Nat)
end
def qyw (g:qaH):Bool :=
 decide (1<=g.k/\g.k<=4) && (decide (g.tokens.length<=8/\g.names.length<=8/\g.prods.length<=24) && (g.prods.all (fun p=>decide (p.right.length<=6)) && (decide (1<=g.tokens.length/\1<=g.names.length) && ((qaz g).all qjY && (g.names.all qwk &&
 (decide ((qaz g).Nodup) && (decide (g.names.Nodup) && (qaK g g.start && (g.prods.all (fun p=>qaK g p.left && p.right.all (qfq g)) && ((g.prods.zip (g.prods.drop 1)).all (fun p=>decide (p.1.left<=p.2.left)) &&
 (List.range g.names.length).all fun i=>g.prods.any fun p=>decide (p.left=((16+i:Nat):Int))))))))))))
theorem quZ {g:qaH} (h:qyw g=true):qaM g=0:=by
 simp only [qyw,Bool.and_eq_true,decide_eq_true_eq,List.all_eq_true] at h;obtain⟨h1,h2,h3,h4,h5,h6,h7,h8,h9,h10,h11,h12⟩:=h;have hm:qc0 g=0:=by
  unfold qc0;rw [if_neg]
  rintro(h|h|h|⟨p,hp,h⟩)
  .omega
  .omega
  .omega
  .have:=h3 p hp;omega
 have hn:qb6 g=0:=by
  unfold qb6;rw [if_neg]
  rintro(⟨s,hs,h⟩|⟨s,hs,h⟩)
  .rw [qgq (h5 s hs)] at h;cases h
  .rw [qkU (h6 s hs)] at h;cases h
 have hns:qct g=0:=by
  unfold qct;rw [if_neg,hn]
  rintro⟨_,h|h⟩
  .exact h h7
  .exact h h8
 have hs:qco g=0:=by
  unfold qco;rw [if_pos ⟨h9,fun p hp=>⟨(h10 p hp).1,fun s hs=>(h10 p hp).2 s hs⟩⟩,if_neg,if_neg]
  .rintro⟨i,hi,h⟩
   obtain⟨p,hp,hl⟩:=List.any_eq_true.1 (h12 i (List.mem_range.2 hi));have hl:=of_decide_eq_true hl;obtain⟨j,hj,e⟩:=List.getElem_of_mem hp;have:j ∈ qdG g (16+i):=by
    unfold qdG qcB;rw [List.take_length];refine List.mem_map.2 ⟨(p,j),List.mem_filter.2 ⟨List.mk_mem_zipIdx_iff_getElem?.2 (by rw [List.getElem?_eq_getElem hj,e]),decide_eq_true ?_⟩,rfl⟩;rw [hl];omega
   rw [h] at this;cases this
  .rintro⟨i,p,q,hp,hq,hlt⟩
   have hz:(p,q) ∈ g.prods.zip (g.prods.drop 1):=by
    refine List.mem_of_getElem? (i:=i) ?_;rw [List.getElem?_zip_eq_some];exact⟨hp,by rw [List.getElem?_drop,Nat.add_comm];exact hq⟩
   have:=h11 _ hz;simp only at this;omega
 unfold qaM;rw [if_neg (by omega),if_neg (by simp [hm]),if_neg,if_neg (by simp [hns]),hs]
 rintro(h|h)
 .rw [h] at h4;simp at h4
 .rw [h] at h4;simp at h4
def qzW (t:List Nat):List Nat:=[35,32,114,101,109,97,114,107,10,32,9]++t++[35]
theorem qsv:(allTx.all fun p=>qyw (ofX (qmx p.1 p.2.1 p.2.2)) && (decide ((qhR p.1 p.2.1 (qbx p.2.2).2.2).length<=300) && decide ((qbz (qmx p.1 p.2.1 p.2.2)).length<=1000)))=true:=by kernel_rfl
theorem qtB:((allTx.take 23).all fun p=>qjL (qzW (qhR p.1 p.2.1 (qbx p.2.2).2.2)) (qmx p.1 p.2.1 p.2.2))=true:=by kernel_rfl
theorem qtE:((allTx.drop 23).all fun p=>qjL (qzW (qhR p.1 p.2.1 (qbx p.2.2).2.2)) (qmx p.1 p.2.1 p.2.2))=true:=by kernel_rfl
theorem qve {p:Nat × Nat × Nat} (hm:p ∈ allTx):qaM (ofX (qmx p.1 p.2.1 p.2.2))=0/\(qhR p.1 p.2.1 (qbx p.2.2).2.2).length<=300/\(qbz (qmx p.1 p.2.1 p.2.2)).length<=1000/\qjL (qzW (qhR p.1 p.2.1 (qbx p.2.2).2.2)) (qmx p.1 p.2.1 p.2.2)=true:=by
 have h1:=List.all_eq_true.1 qsv _ hm;simp only [Bool.and_eq_true,decide_eq_true_eq] at h1;refine⟨quZ h1.1,h1.2.1,h1.2.2,?_⟩;rw [<- List.take_append_drop 23 allTx] at hm;rcases List.mem_append.1 hm with h|h
 .exact List.all_eq_true.1 qtB _ h
 .exact List.all_eq_true.1 qtE _ h
set_option maxRecDepth 10000
theorem qiL {x:Src} (h:qa0 x=0):¬ (x.k<1\/4<x.k)/\qcw x=false/\qcN x=false/\qjH x=false/\qsn x=false/\qfZ x x.sep=false/\qmd x=false:=by
 unfold qa0 at h;split at h
 .omega
 .rename_i hk
  refine⟨hk,?_⟩;cases h1:qcw x<;>cases h2:qcN x<;>cases h3:qjH x<;>cases h4:qsn x<;>cases h5:qfZ x x.sep<;>cases h6:qmd x<;>simp_all
theorem qhv {x:Src} (h:qa0 x=0):x.tokens.Nodup/\(qab x).Nodup/\∀ s,s ∈ x.tokens->s ∈ qab x->False:=by
 obtain⟨_,_,_,hm,ht,_,_⟩:=qiL h;simp only [qsn,Bool.or_eq_false_iff,decide_eq_false_iff_not,Decidable.not_not] at ht;rw [quv] at hm;simp only [Bool.not_eq_false',Bool.and_eq_true,List.all_eq_true] at hm;obtain⟨⟨⟨h1,h2⟩,h3⟩,h4⟩:=hm;refine⟨(List.nodup_append.1 ht.1).1,ht.2,fun s hs hn=>?_⟩;exact qey (h1 s (List.mem_append_left _ hs)) (h3 s hn)
theorem qhH {x:Src} (h:qa0 x=0) {s:List Nat} (hs:s=x.start\/∃ r ∈ x.rules,∃ a ∈ r.alts,s ∈ a):s ∈ x.tokens\/s ∈ qab x:=by
 obtain⟨_,_,_,_,_,_,hu⟩:=qiL h;rw [quh] at hu;simp only [Bool.or_eq_false_iff,Bool.not_eq_false',decide_eq_true_eq,List.all_eq_true] at hu;rcases hs with rfl|hs
 .exact .inr hu.1
 .have:=hu.2 s (qef.2 hs)
  simpa [qn1] using this
def pT (x:Src) (i:Nat):List (List Nat × DV):=(x.tokens.take i).zipIdx.map fun p=>(p.1,.int .i64 (p.2:Nat))
def pN (x:Src) (i:Nat):List (List Nat × DV):=pT x x.tokens.length++(x.rules.take i).zipIdx.map fun p=>(p.1.name,.int .i64 ((16+p.2:Nat):Int))
def kvD (l:List (List Nat × DV)):List (DV × DV):=l.map fun p=>(.str p.1,p.2)
theorem qrb (l:List (List Nat × DV)) (s:List Nat) (d:DV):kvD l++[(.str s,d)]=kvD (l++[(s,d)]):=by simp [kvD]
theorem qu5 {x:Src} {i:Nat} {s:List Nat} (h:x.tokens[i]?=some s):pT x (i+1)=pT x i++[(s,.int .i64 (i:Nat))]:=by
 have hi:=(List.getElem?_eq_some_iff.1 h).1;have hl:(x.tokens.take i).length=i:=by simp;omega
 simp only [pT];rw [List.take_add_one,h,List.zipIdx_append,List.map_append,hl,Nat.zero_add]
 rfl
theorem qvT {x:Src} {i:Nat} {r:SRule} (h:x.rules[i]?=some r):pN x (i+1)=pN x i++[(r.name,.int .i64 ((16+i:Nat):Int))]:=by
 have hi:=(List.getElem?_eq_some_iff.1 h).1;have hl:(x.rules.take i).length=i:=by simp;omega
 simp only [pN];rw [List.take_add_one,h,List.zipIdx_append,List.map_append,hl,Nat.zero_add,List.append_assoc]
 rfl
theorem qqu (x:Src) (i:Nat):(pT x i).map (·.1)=x.tokens.take i:=by
 simp only [pT,List.map_map];exact List.zipIdx_map_fst 0 _
theorem qrP (x:Src) (i:Nat):(pN x i).map (·.1)=x.tokens++(qab x).take i:=by
 simp only [pN,List.map_append,qqu,List.take_length,List.map_map]
 congr 1
 rw [show((fun x:List Nat × DV=>x.1) ∘ fun p:SRule × Nat=>(p.1.name,DV.int .i64 ((16+p.2:Nat):Int)))=(SRule.name ∘ Prod.fst) from rfl,<- List.map_map,List.zipIdx_map_fst,qab,List.map_take]
theorem qqX {E:PT Ty} {t:TypeId} {l:List (List Nat × DV)} {s:List Nat} (h:s ∉ l.map (·.1)):qbD (qc5 E t) (.str s) (kvD l)=some none:=by
 unfold kvD;rw [qcU];cases hf:l.findIdx? (fun p=>p.1 == s) with
 |none=>rfl
 |some j =>
  exfalso;rw [List.findIdx?_eq_some_iff_getElem] at hf;obtain⟨h1,h2,_⟩:=hf;refine h (List.mem_map.2 ⟨l[j],List.getElem_mem h1,by simpa using h2⟩)
theorem qux {E:PT Ty} {t:TypeId} {l:List (List Nat × DV)} {s:List Nat} (h:s ∈ l.map (·.1)):∃ j d,qbD (qc5 E t) (.str s) (kvD l)=some (some (j,d))/\l[j]?=some (s,d):=by
 unfold kvD;rw [qcU];cases hf:l.findIdx? (fun p=>p.1 == s) with
 |none =>
  exfalso;rw [List.findIdx?_eq_none_iff] at hf;obtain⟨p,hp,e⟩:=List.mem_map.1 h;have:=hf p hp;simp [e] at this
 |some j =>
  rw [List.findIdx?_eq_some_iff_getElem] at hf;obtain⟨h1,h2,_⟩:=hf;have h2:l[j].1=s:=by simpa using h2
  refine⟨j,l[j].2,by simp [h1],?_⟩;rw [List.getElem?_eq_getElem h1,<- h2]
theorem qou {x:Src} (h0:qa0 x=0) {s:List Nat} (hs:s ∈ x.tokens\/s ∈ qab x) {E:PT Ty} {t:TypeId}:∃ j,qbD (qc5 E t) (.str s) (kvD (pN x x.rules.length))=some (some (j,.int .i64 (qhQ x.tokens (qab x) s))):=by
 obtain⟨hn1,hn2,hap⟩:=qhv h0;have hk:s ∈ (pN x x.rules.length).map (·.1):=by
  rw [qrP,List.take_of_length_le (by simp)];exact List.mem_append.2 hs
 obtain⟨j,d,h1,h2⟩:=qux (E:=E) (t:=t) hk;refine⟨j,?_⟩;rw [h1]
 congr 3
 have hT:(pT x x.tokens.length).length=x.tokens.length:=by simp [pT]
 unfold pN at h2;rcases Nat.lt_or_ge j x.tokens.length with hj|hj
 .rw [List.getElem?_append_left (by omega)] at h2
  simp only [pT,List.take_length,List.getElem?_map,List.getElem?_zipIdx,Option.map_map,Option.map_eq_some_iff] at h2;obtain⟨y,hy,e⟩:=h2;simp at e;obtain⟨rfl,rfl⟩:=e;have hm:=List.mem_of_getElem? hy;have hno:y ∉ qab x:=fun hc=>hap y hm hc;have hf:qbX x.tokens y=(j:Int):=by
   unfold qbX;rw [if_pos hm,qgF hn1 hy]
  unfold qhQ;rw [show qbX (qab x) y=-1 from by unfold qbX;rw [if_neg hno],if_neg (by omega),hf]
 .rw [List.getElem?_append_right (by omega),hT] at h2
  simp only [List.take_length,List.getElem?_map,List.getElem?_zipIdx,Option.map_map,Option.map_eq_some_iff] at h2;obtain⟨r,hr,e⟩:=h2;simp at e;obtain⟨rfl,rfl⟩:=e;have hy:(qab x)[j-x.tokens.length]?=some r.name:=by simp [hr]
  have hm:=List.mem_of_getElem? hy;have hf:qbX (qab x) r.name=((j-x.tokens.length:Nat):Int):=by
   unfold qbX;rw [if_pos hm,qgF hn2 hy]
  unfold qhQ;rw [hf,if_pos (by omega)]
def nmD (x:Src) (i:Nat):List DV:=((qab x).take i).map DV.str
theorem qsE {x:Src} {i:Nat} {r:SRule} (h:x.rules[i]?=some r):nmD x i++[.str r.name]=nmD x (i+1):=by
 simp [nmD,List.take_add_one,h]
theorem qvC {x:Src} {i:Nat} (h:i<=x.rules.length):(nmD x i).length=i:=by simp [nmD];omega
theorem qtH (l:List Int) (a:Int):qkX l++[.int .i64 a]=qkX (l++[a]):=by simp [qkX]
theorem qoG (l:List Int):(qkX l).length=l.length:=by simp [qkX]
theorem qs8 (l:List qaV) (p:qaV):l.map qbf++[qbf p]=(l++[p]).map qbf:=by simp
abbrev quW (x:Src) (st:Int) (ns ps:List DV):Ob:=.box [.d (.int .i64 x.k),.sr 1 1 ([]++x.tokens.map DV.str),.d (.str x.sep),.sr 4 1 ns,.d (.int .i64 st),.sr 5 2 ps]
set_option maxHeartbeats 4000000 in
theorem qyS (x:Src) (hf:qde x) (hin:(qbz x).length<=1048576) (h0:qa0 x=0):qaa Tryz.prog 54 [qfO x] (.tup [.d (qd5 (ofX x)),.d (.int .i64 0)]):=by
 have htl:=hf.tokens;have hrl:=hf.rules;obtain⟨hs1,hs2,hs3,hs4⟩:=qhz h0;obtain⟨hn1,hn2⟩:=qlP h0;have cc:=qoL x hf hin;rw [h0] at cc;have c0:=fun O=>ACall.lift (ds:=[qao x.tokens]) (qql x.tokens htl) rfl O;obtain⟨ha1,ha2,ha3⟩:=qhv h0;obtain⟨st,hst⟩:∃ st,st=qhQ x.tokens (qab x) x.start:=⟨_,rfl⟩
 refine kF Tryz.func54 [1,57,95,102] fun w=>?_
 show Run _ _ _ _ _ _ (qqa _ _ (.tup [.d (.agg [.int .i64 x.k,qao x.tokens,.str x.sep,qao (qab x),.int .i64 (qhQ x.tokens (qab x) x.start),.sl 2 ((ofP x x.rules.length).map qbf)]),.d (.int .i64 0)]))
 rw [<- hst]
 repeat' (first|refine zW ?_|refine zB ?_ ?_<;>intro h<;>try exact zk h|refine zX ?_|refine zC (cc) ?_|refine eA (c0 _) ?_|exact zk h|fail)
 refine Run.loopT (fun i:Nat=>⟨PT.ofList [(1,qbK x),(2,.bp 0 0),(3,.d (.int .i64 0)),(5,.bp 2 0),(6,.mp 3),(34,.sr 1 1 ([]++x.tokens.map DV.str)),(35,.d (.int .i64 (([]++x.tokens.map DV.str).length:Nat))),(36,.d (.int .i64 i))],[qcG,rmT x,qwP x 0 (.d .nilsl) (.d .nilsl),.map (kvD (pT x i))],[]⟩) (fun i=>i<=x.tokens.length) (fun i=>x.tokens.length-i) 0 (Nat.zero_le _) (ti _ 4) (fun i hi=>?_);rcases Nat.lt_or_ge i x.tokens.length with hlt|hge
 .obtain⟨s,hs⟩:=qai hlt
  have hno:s ∉ (pT x i).map (·.1):=by rw [qqu];exact fun hm=>qfn hs hm ha1
  have hj:=fun E t=>qqX (E:=E) (t:=t) hno
  repeat' (first|refine zW ?_|refine zB ?_ ?_<;>intro h<;>try exact zk h|refine zX ?_|refine zI w (.d (.ep [.str s])) hs ?_|refine oV ?_ (hv:=qcE (by rfl) (by rfl) (by rfl) (by rfl) (by rfl) (by rfl) (by rfl) (by rfl) (by rfl) (hj _ _))|exact zk h|fail)
  exact⟨i+1,hlt,by omega,(ti _ 4 (Eq.trans (b:=[qcG,rmT x,qwP x 0 (.d .nilsl) (.d .nilsl),.map (kvD (pT x i)++[(.str s,.int .i64 (i:Nat))])]) rfl (by rw [qrb,<- qu5 hs])))⟩
 .have hie:i=x.tokens.length:=by omega
  subst hie
  repeat refine zS ?_
  refine oV (v:=.d (.bool false)) ?_ (he:=vF8 (by simp))
  repeat refine zS ?_
  iterate 4 refine zX ?_
  repeat refine zS ?_
  refine Run.cellRoom 2 3 1 ?_;refine Run.loopT (fun i:Nat=>⟨PT.ofList [(1,qbK x),(2,.bp 0 0),(3,.d (.int .i64 0)),(5,.bp 2 0),(6,.mp 3),(46,.d (.sl 2 (x.rules.map qbV))),(47,(.d (.int .i64 (x.rules.map qbV).length))),(48,.d (.int .i64 i))],[qcG,rmT x,qwP x 0 (.sr 4 1 (nmD x i)) (.d .nilsl),.map (kvD (pN x i)),.room (nmD x i).length 1],[]⟩) (fun i=>i<=x.rules.length) (fun i=>x.rules.length-i) 0 (Nat.zero_le _) (ti _ 5 (Eq.trans (b:=[qcG,rmT x,qwP x 0 (.sr 4 1 []) (.d .nilsl),.map (kvD (pT x x.tokens.length)),.room 0 1]) rfl (by simp [nmD,pN]))) (fun i hi=>?_);rcases Nat.lt_or_ge i x.rules.length with hlt|hge
  .obtain⟨r,hr⟩:=qai hlt
   have hno:r.name ∉ (pN x i).map (·.1):=by
    rw [qrP];have hr':(qab x)[i]?=some r.name:=by simp [hr]
    refine fun hm=>(List.mem_append.1 hm).elim (fun hm=>?_) (fun hm=>qfn hr' hm ha2);exact ha3 _ hm (List.mem_of_getElem? hr')
   have hj:=fun E t=>qqX (E:=E) (t:=t) hno;have hnl:=qvC hi;have hL:AV.d (.int .i64 (IntKind.i64.wrap (16+(i:Int))))=.d (.int .i64 ((16+i:Nat):Int)):=vN8 (by omega) (by omega)
   repeat' (first|refine zV hL ?_|refine zW ?_|refine zB ?_ ?_<;>intro h<;>try exact zk h|refine zX ?_|refine zIR w (.d (.ep [.str r.name,alts r.alts])) hr ?_|refine oV ?_ (hv:=qcE (by rfl) (by rfl) (by rfl) (by rfl) (by rfl) (by rfl) (by rfl) (by rfl) (by rfl) (hj _ _))|refine zAp ?_|exact zk h|fail)
   exact⟨i+1,hlt,by omega,(ti _ 5 (Eq.trans (b:=[qcG,rmT x,qwP x 0 (.sr 4 1 (nmD x i++[.str r.name])) (.d .nilsl),.map (kvD (pN x i)++[(.str r.name,.int .i64 ((16+i:Nat):Int))]),.room ((nmD x i).length+1) 1]) rfl (by rw [qrb,<- qvT hr,<- qsE hr,List.length_append];rfl)))⟩
  .have hie:i=x.rules.length:=by omega
   subst hie
   repeat refine zS ?_
   refine oV (v:=.d (.bool false)) ?_ (he:=vF8 (by simp))
   repeat refine zS ?_
   iterate 4 refine zX ?_
   repeat refine zS ?_
   refine Run.cellRoom 2 5 2 ?_;refine Run.loopT (fun y:Nat × List qaV=>⟨PT.ofList [(1,qbK x),(2,.bp 0 0),(3,.d (.int .i64 0)),(5,.bp 2 0),(6,.mp 3),(67,.d (.sl 2 (x.rules.map qbV))),(68,(.d (.int .i64 (x.rules.map qbV).length))),(69,.d (.int .i64 y.1))],[qcG,rmT x,quW x 0 (nmD x x.rules.length) (y.2.map qbf),.map (kvD (pN x x.rules.length)),.room (nmD x x.rules.length).length 1,.room (y.2.map qbf).length 2],[]⟩) (fun y=>y.1<=x.rules.length/\y.2=ofP x y.1) (fun y=>x.rules.length-y.1) (0,[]) ⟨Nat.zero_le _,rfl⟩ (ti _ 6) (fun y hy=>?_);obtain⟨i,acc⟩:=y;obtain⟨hi1,hi2⟩:=hy;simp only at hi1 hi2 |-;rcases Nat.lt_or_ge i x.rules.length with hlt|hge
   .obtain⟨r,hr⟩:=qai hlt
    have hmem:=List.mem_of_getElem? hr;have hra:=hf.alts r hmem;have hro:=qhY hr;have hsl:(ofP x (i+1)).length<=24:=by
     have h1:=qnl (x:=x) (i:=i+1) hlt;have h2:qcc x (i+1)<=qcc x x.rules.length:=by
      unfold qcc;rw [List.take_length]
      conv=>rhs;rw [<- List.take_append_drop (i+1) x.rules,List.map_append,List.sum_append]
      omega
     omega
    repeat refine zS ?_
    refine oV (v:=.d (.bool true)) ?_ (he:=vT8 (by simp<;>omega))
    repeat refine zS ?_
    refine zX ?_;refine oV (v:=.d (.ep [.str r.name,alts r.alts])) ?_ (hf:=by simp [inB]<;>omega) (he:=by simp [List.getD_eq_getElem?_getD,qam,hr,qbV]);iterate 4 refine zX ?_
    repeat refine zS ?_
    iterate 4 refine zX ?_
    repeat refine zS ?_
    refine Run.loopT (fun y:Nat × List qaV=>⟨PT.ofList [(1,qbK x),(2,.bp 0 0),(3,.d (.int .i64 0)),(5,.bp 2 0),(6,.mp 3),(67,.d (.sl 2 (x.rules.map qbV))),(68,(.d (.int .i64 (x.rules.map qbV).length))),(69,.d (.int .i64 i)),(11,.d (.int .i64 i)),(75,.d (alts r.alts)),(76,.d (.int .i64 (r.alts.map qao).length)),(77,.d (.int .i64 y.1))],[qcG,rmT x,quW x 0 (nmD x x.rules.length) (y.2.map qbf),.map (kvD (pN x x.rules.length)),.room (nmD x x.rules.length).length 1,.room (y.2.map qbf).length 2],[]⟩) (fun y=>y.1<=r.alts.length/\y.2=ofP x i++(r.alts.take y.1).map (qoa x.tokens (qab x) i)) (fun y=>r.alts.length-y.1) (0,acc) ⟨Nat.zero_le _,by simp [hi2]⟩ (ti _ 6) (fun y hy=>?_);obtain⟨k,acc⟩:=y;obtain⟨hk1,hk2⟩:=hy;simp only at hk1 hk2 |-;rcases Nat.lt_or_ge k r.alts.length with hkl|hkg
    .obtain⟨a,ha⟩:=qai hkl
     have hma:=List.mem_of_getElem? ha;have hal6:=hs4 r hmem a hma;have hnext:acc++[qoa x.tokens (qab x) i a]=ofP x i++(r.alts.take (k+1)).map (qoa x.tokens (qab x) i):=by rw [List.take_add_one,ha,hk2];simp
     have haccl:acc.length+1<=24:=by
      have h1:=congrArg List.length hnext;rw [hro,List.length_append,List.length_map] at hsl;simp only [List.length_append,List.length_map,List.length_take,List.length_cons,List.length_nil] at h1;omega
     have hL:AV.d (.int .i64 (IntKind.i64.wrap (16+(i:Int))))=.d (.int .i64 ((16+i:Nat):Int)):=vN8 (by omega) (by omega)
     repeat refine zS ?_
     refine oV (v:=.d (.bool true)) ?_ (he:=vT8 (by simp<;>omega))
     repeat refine zS ?_
     refine oV (v:=.d (.ep [qao a])) ?_ (hf:=by simp [inB]<;>omega) (he:=by simp [List.getD_eq_getElem?_getD,qam,ha]);iterate 2 refine zX ?_
     repeat refine zS ?_
     refine zX ?_;refine oV (v:=.d (.int .i64 ((16+i:Nat):Int))) ?_ (he:=hL);iterate 3 refine zX ?_
     repeat refine zS ?_
     iterate 3 refine zX ?_
     repeat refine zS ?_
     refine Run.cellRoom 6 1 1 ?_;refine Run.loopT (fun z:Nat × List Int=>⟨PT.ofList [(1,qbK x),(2,.bp 0 0),(3,.d (.int .i64 0)),(5,.bp 2 0),(6,.mp 3),(67,.d (.sl 2 (x.rules.map qbV))),(68,(.d (.int .i64 (x.rules.map qbV).length))),(69,.d (.int .i64 i)),(11,.d (.int .i64 i)),(75,.d (alts r.alts)),(76,.d (.int .i64 (r.alts.map qao).length)),(77,.d (.int .i64 k)),(15,.bp 6 0),(84,.d (qao a)),(85,.d (.int .i64 (a.map DV.str).length)),(86,.d (.int .i64 z.1))],[qcG,rmT x,quW x 0 (nmD x x.rules.length) (acc.map qbf),.map (kvD (pN x x.rules.length)),.room (nmD x x.rules.length).length 1,.room (acc.map qbf).length 2,.box [.d (.int .i64 ((16+i:Nat):Int)),.sr 7 1 (qkX z.2)],.room (qkX z.2).length 1],[]⟩)
      (fun z=>z.1<=a.length/\z.2=(a.take z.1).map (qhQ x.tokens (qab x))) (fun z=>a.length-z.1) (0,[]) ⟨Nat.zero_le _,rfl⟩ (ti _ 8) (fun z hz=>?_)
     obtain⟨j,rg⟩:=z;obtain⟨hj1,hj2⟩:=hz;simp only at hj1 hj2 |-;have hrgl:(qkX rg).length=j:=by rw [qoG,hj2];simp;omega
     rcases Nat.lt_or_ge j a.length with hjl|hjg
     .obtain⟨s,hs⟩:=qai hjl
      have hnx:rg++[qhQ x.tokens (qab x) s]=(a.take (j+1)).map (qhQ x.tokens (qab x)):=by rw [List.take_add_one,hs,hj2];simp
      obtain⟨jj,hsj⟩:∃ j,qbD (qc5 Et 9) (.str s) (kvD (pN x x.rules.length))=some (some (j,.int .i64 (qhQ x.tokens (qab x) s))):=qou h0 (qhH h0 (.inr ⟨r,hmem,a,hma,List.mem_of_getElem? hs⟩))
      repeat' (first|refine zW ?_|refine zB ?_ ?_<;>intro h<;>try exact zk h|refine zX ?_|refine zI w (.d (.ep [.str s])) hs ?_|refine oV ?_ (hv:=qbJ (by rfl) (by rfl) (by rfl) (by rfl) (by rfl) (by rfl) (by rfl) (by rfl) (by rfl) hsj (by rfl))|refine eX ?_ (hv:=qbJ (by rfl) (by rfl) (by rfl) (by rfl) (by rfl) (by rfl) (by rfl) (by rfl) (by rfl) hsj (by rfl))|refine zAp ?_|exact zk h|fail)
      exact⟨(j+1,rg++[qhQ x.tokens (qab x) s]),⟨hjl,hnx⟩,by simp only<;>omega,(ti _ 8 (Eq.trans (b:=[qcG,rmT x,quW x 0 (nmD x x.rules.length) (acc.map qbf),.map (kvD (pN x x.rules.length)),.room (nmD x x.rules.length).length 1,.room (acc.map qbf).length 2,.box [.d (.int .i64 ((16+i:Nat):Int)),.sr 7 1 (qkX rg++[.int .i64 (qhQ x.tokens (qab x) s)])],.room ((qkX rg).length+1) 1]) rfl (by rw [qtH];simp only [qoG,List.length_append,List.length_cons,List.length_nil])))⟩
     .have hje:j=a.length:=by omega
      have hrg:rg=a.map (qhQ x.tokens (qab x)):=by rw [hj2,hje,List.take_length]
      rw [show qoa x.tokens (qab x) i a=⟨((16+i:Nat):Int),rg⟩ from by rw [hrg];rfl] at hnext
      repeat refine zS ?_
      refine oV (v:=.d (.bool false)) ?_ (he:=vF8 (by simp<;>omega))
      repeat refine zS ?_
      iterate 3 refine zX ?_
      first|refine Run.tidy (qcQ (objs:=_) [(1,qbK x),(2,.bp 0 0),(3,.d (.int .i64 0)),(5,.bp 2 0),(6,.mp 3),(67,.d (.sl 2 (x.rules.map qbV))),(68,(.d (.int .i64 (x.rules.map qbV).length))),(69,.d (.int .i64 i)),(11,.d (.int .i64 i)),(75,.d (alts r.alts)),(76,.d (.int .i64 (r.alts.map qao).length)),(77,.d (.int .i64 k)),(100,.sr 5 2 (acc.map qbf)),(101,.d (qbf (⟨((16+i:Nat):Int),rg⟩:qaV)))] 6 (Eq.trans (b:=[qcG,rmT x,quW x 0 (nmD x x.rules.length) (acc.map qbf),.map (kvD (pN x x.rules.length)),.room (nmD x x.rules.length).length 1,.room (acc.map qbf).length 2]) rfl rfl) rfl (by repeat' (first|exact trivial|refine⟨(Or.inl rfl),?_⟩|refine⟨(Or.inr rfl),?_⟩|refine⟨rfl,?_⟩|fail)) (by repeat' (first|exact trivial|refine⟨(Or.inl rfl),?_⟩|refine⟨(Or.inr rfl),?_⟩|refine⟨rfl,?_⟩|fail)) rfl rfl) ?_|refine RunOps.tidy (qcQ (objs:=_) [(1,qbK x),(2,.bp 0 0),(3,.d (.int .i64 0)),(5,.bp 2 0),(6,.mp 3),(67,.d (.sl 2 (x.rules.map qbV))),(68,(.d (.int .i64 (x.rules.map qbV).length))),(69,.d (.int .i64 i)),(11,.d (.int .i64 i)),(75,.d (alts r.alts)),(76,.d (.int .i64 (r.alts.map qao).length)),(77,.d (.int .i64 k)),(100,.sr 5 2 (acc.map qbf)),(101,.d (qbf (⟨((16+i:Nat):Int),rg⟩:qaV)))] 6 (Eq.trans (b:=[qcG,rmT x,quW x 0 (nmD x x.rules.length) (acc.map qbf),.map (kvD (pN x x.rules.length)),.room (nmD x x.rules.length).length 1,.room (acc.map qbf).length 2]) rfl rfl) rfl (by repeat' (first|exact trivial|refine⟨(Or.inl rfl),?_⟩|refine⟨(Or.inr rfl),?_⟩|refine⟨rfl,?_⟩|fail)) (by repeat' (first|exact trivial|refine⟨(Or.inl rfl),?_⟩|refine⟨(Or.inr rfl),?_⟩|refine⟨rfl,?_⟩|fail)) rfl rfl) ?_
      refine zX ?_;refine oV ?_ (hv:=qnV) (hf:=rfl) (he:=rfl);iterate 2 refine zX ?_
      repeat refine zS ?_
      refine oV (v:=.d (.int .i64 ((k+1:Nat):Int))) ?_ (he:=vN8 (by omega) (by omega));refine zX ?_
      repeat refine zS ?_
      exact⟨(k+1,acc++[(⟨((16+i:Nat):Int),rg⟩:qaV)]),⟨hkl,hnext⟩,by simp only<;>omega,(ti _ 6 (Eq.trans (b:=[qcG,rmT x,quW x 0 (nmD x x.rules.length) (acc.map qbf++[qbf (⟨((16+i:Nat):Int),rg⟩:qaV)]),.map (kvD (pN x x.rules.length)),.room (nmD x x.rules.length).length 1,.room ((acc.map qbf).length+1) 2]) rfl (by rw [qs8];simp only [List.length_map,List.length_append,List.length_cons,List.length_nil])))⟩
    .have hke:k=r.alts.length:=by omega
     have hacc:acc=ofP x (i+1):=by rw [hk2,hke,List.take_length,hro]
     repeat refine zS ?_
     refine oV (v:=.d (.bool false)) ?_ (he:=vF8 (by simp<;>omega))
     repeat refine zS ?_
     refine oV (v:=.d (.int .i64 ((i+1:Nat):Int))) ?_ (he:=vN8 (by omega) (by omega));refine zX ?_
     repeat refine zS ?_
     exact⟨(i+1,acc),⟨hlt,hacc⟩,by simp only<;>omega,(ti _ 6)⟩
   .have hie:i=x.rules.length:=by omega
    have hoe:ofP x x.rules.length=acc:=by rw [hi2,hie]
    obtain⟨jj,hsj⟩:∃ j,qbD (qc5 Et 9) (.str x.start) (kvD (pN x x.rules.length))=some (some (j,.int .i64 st)):=by rw [hst];exact qou h0 (qhH h0 (.inl rfl))
    have hnm:qao (qab x)=.sl 1 (nmD x x.rules.length):=by
     unfold nmD;rw [List.take_of_length_le (by simp)]
    rw [hoe,hnm]
    repeat refine zS ?_
    refine oV (v:=.d (.bool false)) ?_ (he:=vF8 (by simp<;>omega))
    repeat' (first|refine zW ?_|refine zB ?_ ?_<;>intro h<;>try exact zk h|refine zX ?_|refine oV ?_ (hv:=qbJ (by rfl) (by rfl) (by rfl) (by rfl) (by rfl) (by rfl) (by rfl) (by rfl) (by rfl) hsj (by rfl))|refine eX ?_ (hv:=qbJ (by rfl) (by rfl) (by rfl) (by rfl) (by rfl) (by rfl) (by rfl) (by rfl) (by rfl) hsj (by rfl))|rfl|fail)
theorem qAR (x:Src) (hf:qde x) (hin:(qbz x).length<=1048576):qaa Tryz.prog 54 [qfO x] (.tup [.d (qd5 (qmD x)),.d (.int .i64 (qa0 x))]):=by
 by_cases h0:qa0 x=0
 .have e:qmD x=ofX x:=if_pos h0
  rw [e,h0];exact qyS x hf hin h0
 .have e:qmD x=g0:=if_neg h0
  rw [e];have cc:=qoL x hf hin;generalize qa0 x=c at cc h0 |-;refine qg3 ?_ qxq;refine kF Tryz.func54 [1,57,95,102] fun w=>?_
  repeat' (first|refine zW ?_|refine zB ?_ ?_<;>intro h<;>try exact zk h|refine zX ?_|refine zC (cc) ?_|rfl|((exfalso;(simp [h0] at h<;>fail)))|fail)
structure qAp (g:qaH):Prop where
 tokens:∀ s ∈ g.tokens,∀ c ∈ s,c<256
 sep:∀ c ∈ g.sep,c<256
 names:∀ s ∈ g.names,∀ c ∈ s,c<256
def m16 (n:Int):Nat:=(n % 16).toNat
theorem qud (n:Int):m16 n<16:=by unfold m16;omega
theorem qzt (n:Int) (hn:W64 n):qaa Tryz.prog 56 [.int .i64 n,.int .i64 16] (.d (.int .i64 (m16 n:Nat))):=by
 have hw:=hn;unfold W64 at hw;have hm:(m16 n:Int)=n % 16:=by unfold m16;omega
 have ht:n.tmod 16=if 0<=n\/(16:Int) ∣ n then n % 16 else n % 16-16:=by
  rw [Int.tmod_eq_emod];by_cases h:0<=n\/(16:Int) ∣ n
  .rw [if_pos h,if_pos h];simp
  .rw [if_neg h,if_neg h];rfl
 by_cases h:0<=n\/(16:Int) ∣ n
 .rw [if_pos h] at ht
  rw [hm];refine kF Tryz.func56 [] fun w=>?_
  repeat' (first|refine oV (v:=.d (.int .i64 (n % 16))) ?_ (he:=(congrArg (fun x=>AV.d (.int .i64 x)) ht))|refine eX (v:=.d (.int .i64 (n % 16))) ?_ (he:=(congrArg (fun x=>AV.d (.int .i64 x)) ht))|refine zW ?_|refine zB ?_ ?_<;>intro h<;>try exact zk h|rfl|exact zk h|fail)
 .rw [if_neg h] at ht
  rw [hm];have hneg:n % 16-16<0:=by omega
  refine kF Tryz.func56 [] fun w=>?_
  repeat' (first|refine oV (v:=.d (.int .i64 (n % 16))) ?_ (he:=(congrArg (fun x=>AV.d (.int .i64 x)) ((qeL (by omega) (by omega)).trans (by omega))))|refine eX (v:=.d (.int .i64 (n % 16))) ?_ (he:=(congrArg (fun x=>AV.d (.int .i64 x)) ((qeL (by omega) (by omega)).trans (by omega))))|refine oV (v:=.d (.int .i64 (n % 16-16))) ?_ (he:=(congrArg (fun x=>AV.d (.int .i64 x)) ht))|refine eX (v:=.d (.int .i64 (n % 16-16))) ?_ (he:=(congrArg (fun x=>AV.d (.int .i64 x)) ht))|refine zW ?_|refine zB ?_ ?_<;>intro h<;>try exact zk h|rfl|exact zk h|fail)
def m40 (n:Int):Nat:=(n % 1099511627776).toNat
theorem qxO (n:Int):m40 n<1099511627776:=by unfold m40;omega
theorem qyv (n:Int) (hn:W64 n):qaa Tryz.prog 56 [.int .i64 n,.int .i64 1099511627776] (.d (.int .i64 (m40 n:Nat))):=by
 have hw:=hn;unfold W64 at hw;have hm:(m40 n:Int)=n % 1099511627776:=by unfold m40;omega
 have ht:n.tmod 1099511627776=if 0<=n\/(1099511627776:Int) ∣ n then n % 1099511627776 else n % 1099511627776-1099511627776:=by
  rw [Int.tmod_eq_emod];by_cases h:0<=n\/(1099511627776:Int) ∣ n
  .rw [if_pos h,if_pos h];simp
  .rw [if_neg h,if_neg h];rfl
 by_cases h:0<=n\/(1099511627776:Int) ∣ n
 .rw [if_pos h] at ht
  rw [hm];refine kF Tryz.func56 [] fun w=>?_
  repeat' (first|refine oV (v:=.d (.int .i64 (n % 1099511627776))) ?_ (he:=(congrArg (fun x=>AV.d (.int .i64 x)) ht))|refine eX (v:=.d (.int .i64 (n % 1099511627776))) ?_ (he:=(congrArg (fun x=>AV.d (.int .i64 x)) ht))|refine zW ?_|refine zB ?_ ?_<;>intro h<;>try exact zk h|rfl|exact zk h|fail)
 .rw [if_neg h] at ht
  rw [hm];have hneg:n % 1099511627776-1099511627776<0:=by omega
  refine kF Tryz.func56 [] fun w=>?_
  repeat' (first|refine oV (v:=.d (.int .i64 (n % 1099511627776))) ?_ (he:=(congrArg (fun x=>AV.d (.int .i64 x)) ((qeL (by omega) (by omega)).trans (by omega))))|refine eX (v:=.d (.int .i64 (n % 1099511627776))) ?_ (he:=(congrArg (fun x=>AV.d (.int .i64 x)) ((qeL (by omega) (by omega)).trans (by omega))))|refine oV (v:=.d (.int .i64 (n % 1099511627776-1099511627776))) ?_ (he:=(congrArg (fun x=>AV.d (.int .i64 x)) ht))|refine eX (v:=.d (.int .i64 (n % 1099511627776-1099511627776))) ?_ (he:=(congrArg (fun x=>AV.d (.int .i64 x)) ht))|refine zW ?_|refine zB ?_ ?_<;>intro h<;>try exact zk h|rfl|exact zk h|fail)
def qz9:List (List Nat):=[[49,32,49,32,83,32,61,32,97,32,83,32,124,32,59],[49,32,50,32,83,32,61,32,97,32,84,32,124,32,59,32,84,32,61,32,98,32,83,32,59],[50,32,50,32,83,32,61,32,97,32,84,32,124,32,59,32,84,32,61,32,98,32,83,32,59],[50,32,50,32,83,32,61,32,97,32,124,32,97,32,98,32,59],[49,32,51,32,83,32,61,32,97,32,83,32,98,32,124,32,99,32,59],[49,32,51,32,83,32,61,32,84,32,85,32,59,32,84,32,61,32,97,32,84,32,124,32,59,32,85,32,61,32,98,32,85,32,124,32,99,32,59],[50,32,51,32,83,32,61,32,97,32,97,32,83,32,124,32,97,32,98,32,124,32,99,32,59],[49,32,51,32,83,32,61,32,97,32,84,32,99,32,59,32,84,32,61,32,98,32,84,32,124,32,85,32,59,32,85,32,61,32,59],[50,32,51,32,83,32,61,32,84,32,99,32,124,32,98,32,83,32,59,32,84,32,61,32,98,32,97,32,124,32,59],[49,32,50,32,83,32,61,32,97,32,83,32,83,32,124,32,98,32,59],[51,32,50,32,83,32,61,32,97,32,97,32,97,32,124,32,97,32,97,32,98,32,83,32,124,32,98,32,59],[49,32,52,32,83,32,61,32,97,32,76,32,98,32,59,32,76,32,61,32,69,32,77,32,59,32,77,32,61,32,99,32,69,32,77,32,124,32,59,32,69,32,61,32,100,32,124,32,83,32,59],[50,32,50,32,83,32,61,32,84,32,84,32,59,32,84,32,61,32,97,32,98,32,124,32,98,32,97,32,59],[49,32,49,32,83,32,61,32,97,32,59],[50,32,51,32,83,32,61,32,97,32,84,32,124,32,97,32,98,32,99,32,59,32,84,32,61,32,97,32,124,32,99,32,83,32,59],[49,32,50,32,83,32,61,32,84,32,85,32,84,32,59,32,84,32,61,32,59,32,85,32,61,32,97,32,85,32,98,32,124,32,59]]
theorem qxi (n:Int) (hn:W64 n):qaa Tryz.prog 110 [.int .i64 n] (.tup [.d (.int .i64 (qbx (m16 n)).1),.d (.int .i64 (qbx (m16 n)).2.1),.d (.str (qbx (m16 n)).2.2)]):=by
 have cm:=qzt n hn;have hi:=qud n;generalize m16 n=i at cm hi |-
 rcases(by omega:i=0\/i=1\/i=2\/i=3\/i=4\/i=5\/i=6\/i=7\/i=8\/i=9\/i=10\/i=11\/i=12\/i=13\/i=14\/i=15) with rfl|rfl|rfl|rfl|rfl|rfl|rfl|rfl|rfl|rfl|rfl|rfl|rfl|rfl|rfl|rfl
 all_goals
  clear hi;refine kF Tryz.func110 [7] fun w=>?_
  repeat refine zS ?_
  iterate 3 refine zX ?_
  repeat refine zS ?_
  refine oV (v:=.d (qao qz9)) (v':=.d (qao qz9)) (ob:=none) (fl:=true) (objs':=[]) ?_ (hv:=by kernel_rfl) (he:=rfl) (ho:=rfl)
  repeat' (first|refine zW ?_|refine zB ?_ ?_<;>intro h<;>try exact zk h|refine zC (cm) ?_|rfl|(fail)|fail)
theorem qms:∀ t,(qjI t).length<=3*t
 |0=>by simp [qjI]
 |1=>by simp [qjI]
 |j+2=>by have:=qms (j+1);simp only [qjI,List.length_append,List.length_cons,List.length_nil];omega
theorem qpP {j:Nat} (h:1<=j):qjI (j+1)=qjI j++[44,32]++[97+j]:=by
 obtain⟨i,rfl⟩:∃ i,j=i+1:=⟨j-1,by omega⟩
 rfl
set_option maxHeartbeats 16000000 in
theorem qxw (n:Int) (hn:W64 n) (k t:Nat) (s:List Nat) (hr:qaa Tryz.prog 110 [.int .i64 n] (.tup [.d (.int .i64 (k:Nat)),.d (.int .i64 (t:Nat)),.d (.str s)])) (hk:k<=4) (ht:t<=4) (ht1:1<=t) (hs:s.length<=1000) :
  qaa Tryz.prog 30 [.int .i64 n] (.d (.str (qhR (kTx (m40 n / 16) k) (tTx (m40 n / 16) t) s))):=by
 have cm:=qyv n hn;have hm:=qxO n;generalize m40 n=m at cm hm |-;have hq:AV.d (.int .i64 (IntKind.i64.wrap ((m:Int).tdiv 16)))=.d (.int .i64 ((m / 16:Nat):Int)):=congrArg (fun x=>AV.d (.int .i64 x)) ((congrArg IntKind.i64.wrap (show(m:Int).tdiv 16=((m / 16:Nat):Int) by rw [Int.tdiv_eq_ediv_of_nonneg (by omega)];omega)).trans (qaT (by omega)));have hmq:m / 16<68719476736:=by omega
 generalize m / 16=q at hq hmq |-;have hq3:AV.d (.int .i64 ((q:Int).tmod 3))=.d (.int .i64 ((q % 3:Nat):Int)):=congrArg (fun x=>AV.d (.int .i64 x)) (by rw [Int.tmod_eq_emod_of_nonneg (by omega)];omega);have hd3:AV.d (.int .i64 (IntKind.i64.wrap ((q:Int).tdiv 3)))=.d (.int .i64 ((q / 3:Nat):Int)):=congrArg (fun x=>AV.d (.int .i64 x)) ((congrArg IntKind.i64.wrap (show(q:Int).tdiv 3=((q / 3:Nat):Int) by rw [Int.tdiv_eq_ediv_of_nonneg (by omega)];omega)).trans (qaT (by omega)));have hd34:AV.d (.int .i64 (((q / 3:Nat):Int).tmod 4))=.d (.int .i64 ((q / 3 % 4:Nat):Int)):=congrArg (fun x=>AV.d (.int .i64 x)) (by rw [Int.tmod_eq_emod_of_nonneg (by omega)];omega);have hka:AV.d (.int .i64 (IntKind.i64.wrap ((k:Int)+1)))=.d (.int .i64 ((k+1:Nat):Int)):=vN8 (by omega) (by omega);have hta:AV.d (.int .i64 (IntKind.i64.wrap ((t:Int)+1)))=.d (.int .i64 ((t+1:Nat):Int)):=vN8 (by omega) (by omega);refine kF Tryz.func30 [40,54] fun w=>?_
 repeat' (first|refine zV hq ?_|refine zR ?_|refine zC (hr) ?_|refine zC (cm) ?_|fail)
 refine Yq ?_;refine Run.mid ⟨PT.ofList [(3,.d (.int .i64 (kTx q k:Nat))),(4,.d (.int .i64 (t:Nat))),(5,.d (.str s)),(6,.d (.int .i64 (q:Nat)))],[],[]⟩ ?_ ?_
 .by_cases h1:q % 3=2
  .by_cases h3:k<2
   .rw [show kTx q k=k+1 from if_pos ⟨h1,h3⟩]
    repeat' (first|refine zV hka ?_|refine zV hq3 ?_|refine zV hq ?_|refine zW ?_|refine zB ?_ ?_<;>intro h<;>try exact zk h|refine zX ?_|(exact(by show qbU _ _ _;exact(ti _ 0)))|exact zk h|fail)
   .rw [show kTx q k=k from if_neg (fun h=>h3 h.2)]
    repeat' (first|refine zV hka ?_|refine zV hq3 ?_|refine zV hq ?_|refine zW ?_|refine zB ?_ ?_<;>intro h<;>try exact zk h|refine zX ?_|(exact(by show qbU _ _ _;exact(ti _ 0)))|exact zk h|fail)
  .rw [show kTx q k=k from if_neg (fun h=>h1 h.1)]
   repeat' (first|refine zV hka ?_|refine zV hq3 ?_|refine zV hq ?_|refine zW ?_|refine zB ?_ ?_<;>intro h<;>try exact zk h|refine zX ?_|(exact(by show qbU _ _ _;exact(ti _ 0)))|exact zk h|fail)
 have hK:kTx q k<=5:=by unfold kTx;split<;>omega
 refine Yq ?_;refine Run.mid ⟨PT.ofList [(3,.d (.int .i64 (kTx q k:Nat))),(4,.d (.int .i64 (tTx q t:Nat))),(5,.d (.str s))],[],[]⟩ ?_ ?_
 .by_cases h2:q / 3 % 4=3
  .by_cases h4:t<4
   .rw [show tTx q t=t+1 from if_pos ⟨h2,h4⟩]
    repeat' (first|refine zV hta ?_|refine zV hd34 ?_|refine zV hd3 ?_|refine zW ?_|refine zB ?_ ?_<;>intro h<;>try exact zk h|refine zX ?_|(exact(by show qbU _ _ _;exact(ti _ 0)))|exact zk h|fail)
   .rw [show tTx q t=t from if_neg (fun h=>h4 h.2)]
    repeat' (first|refine zV hta ?_|refine zV hd34 ?_|refine zV hd3 ?_|refine zW ?_|refine zB ?_ ?_<;>intro h<;>try exact zk h|refine zX ?_|(exact(by show qbU _ _ _;exact(ti _ 0)))|exact zk h|fail)
  .rw [show tTx q t=t from if_neg (fun h=>h2 h.1)]
   repeat' (first|refine zV hta ?_|refine zV hd34 ?_|refine zV hd3 ?_|refine zW ?_|refine zB ?_ ?_<;>intro h<;>try exact zk h|refine zX ?_|(exact(by show qbU _ _ _;exact(ti _ 0)))|exact zk h|fail)
 have hT:1<=tTx q t/\tTx q t<=5:=by unfold tTx;split<;>omega
 generalize kTx q k=K at hK |-;generalize tTx q t=T at hT |-;obtain⟨hT1,hT2⟩:=hT
 repeat' (first|refine oV (v:=.d (.int .u8 ((48+K:Nat):Int))) ?_ (he:=(vU8 (by omega)))|refine eX (v:=.d (.int .u8 ((48+K:Nat):Int))) ?_ (he:=(vU8 (by omega)))|refine oV (v:=.d (.int .i64 ((48+K:Nat):Int))) ?_ (he:=(vN8 (by omega) (by omega)))|refine eX (v:=.d (.int .i64 ((48+K:Nat):Int))) ?_ (he:=(vN8 (by omega) (by omega)))|refine zW ?_|refine zB ?_ ?_<;>intro h<;>try exact zk h|refine zX ?_|refine oV ?_ (hf:=(by first|(simp [Nat.ble_eq]<;>fail)|(simp [Nat.ble_eq];omega)))|refine eX ?_ (hf:=(by first|(simp [Nat.ble_eq]<;>fail)|(simp [Nat.ble_eq];omega)))|exact zk h|fail)
 refine Run.loop (fun j:Nat=>⟨PT.ofList [(4,.d (.int .i64 (T:Nat))),(5,.d (.str s)),(7,.d (.str ([108,111,111,107,97,104,101,97,100,32]++[48+K]++[59,32,116,111,107,101,110,32,97]++qjI j))),(8,.d (.int .i64 (j:Nat)))],[],[]⟩) (fun j=>1<=j/\j<=T) (fun j=>T-j) 1 ⟨Nat.le_refl _,by omega⟩ (qac ⟨by kernel_rfl,by kernel_rfl,Eq.trans (b:=some (AV.d (.str ([108,111,111,107,97,104,101,97,100,32]++[((48+K:Nat):Int).toNat % 256]++[59,32,116,111,107,101,110,32,97])))) (by kernel_rfl) (by rw [show((48+K:Nat):Int).toNat % 256=48+K by omega];rfl),by kernel_rfl,trivial⟩) (fun j hj=>?_);obtain⟨hj1,hj2⟩:=hj;have hl:=qms j;rcases Nat.lt_or_ge j T with hlt|hge
 .repeat' (first|refine oV (v:=.d (.int .u8 ((97+j:Nat):Int))) ?_ (he:=(vU8 (by omega)))|refine eX (v:=.d (.int .u8 ((97+j:Nat):Int))) ?_ (he:=(vU8 (by omega)))|refine oV (v:=.d (.int .i64 ((97+j:Nat):Int))) ?_ (he:=(vN8 (by omega) (by omega)))|refine eX (v:=.d (.int .i64 ((97+j:Nat):Int))) ?_ (he:=(vN8 (by omega) (by omega)))|refine zW ?_|refine zB ?_ ?_<;>intro h<;>try exact zk h|refine zX ?_|refine oV ?_ (hf:=(by first|(simp [Nat.ble_eq]<;>fail)|(simp [Nat.ble_eq];omega)))|refine eX ?_ (hf:=(by first|(simp [Nat.ble_eq]<;>fail)|(simp [Nat.ble_eq];omega)))|exact zk h|fail)
  exact⟨j+1,⟨by omega,by omega⟩,by omega,qac ⟨by kernel_rfl,by kernel_rfl,Eq.trans (b:=some (AV.d (.str ([108,111,111,107,97,104,101,97,100,32]++[48+K]++[59,32,116,111,107,101,110,32,97]++qjI j++[44,32]++[((97+j:Nat):Int).toNat % 256])))) (by kernel_rfl) (by rw [show((97+j:Nat):Int).toNat % 256=97+j by omega,qpP hj1];simp only [List.append_assoc]),(qaq (k:=j) (by kernel_rfl) (by omega)),trivial⟩⟩
 .have hje:j=T:=by omega
  subst hje
  repeat' (first|refine zW ?_|refine zB ?_ ?_<;>intro h<;>try exact zk h|refine zX ?_|refine oV ?_ (hf:=(by first|(simp [Nat.ble_eq]<;>fail)|(simp [Nat.ble_eq];omega)))|refine eX ?_ (hf:=(by first|(simp [Nat.ble_eq]<;>fail)|(simp [Nat.ble_eq];omega)))|rfl|exact zk h|fail)
theorem qw9 (n:Int) (hn:W64 n):∃ p ∈ allTx,qaa Tryz.prog 30 [.int .i64 n] (.d (.str (qhR p.1 p.2.1 (qbx p.2.2).2.2))):=by
 have hr:=qxi n hn;have hi:=qud n;generalize m16 n=i at hr hi;have hb:=List.all_eq_true.1 qrX i (List.mem_range.2 hi);simp only [decide_eq_true_eq] at hb;have ct:=qxw n hn (qbx i).1 (qbx i).2.1 (qbx i).2.2 hr hb.1 hb.2.1 hb.2.2.1 hb.2.2.2;have hk:kTx (m40 n / 16) (qbx i).1=(qbx i).1\/kTx (m40 n / 16) (qbx i).1=(qbx i).1+1/\(qbx i).1<2:=by
  unfold kTx;split
  .rename_i h;exact .inr ⟨rfl,h.2⟩
  .exact .inl rfl
 have ht:tTx (m40 n / 16) (qbx i).2.1=(qbx i).2.1\/tTx (m40 n / 16) (qbx i).2.1=(qbx i).2.1+1/\(qbx i).2.1<4:=by
  unfold tTx;split
  .rename_i h;exact .inr ⟨rfl,h.2⟩
  .exact .inl rfl
 exact⟨_,qxx hi hk ht,ct⟩
section
set_option maxRecDepth 10000
end
theorem OkG.fitsT {g:qaH} (h:OkG g):Fits g where
 tokens:=by have:=h.tokens;omega
 names:=by have:=h.names;omega
 prods:=by have:=h.prods;omega
 sep:=by have:=h.sep;omega
 tokenS t ht:=by have:=h.tokenS t ht;omega
 nameS t ht:=by have:=h.nameS t ht;omega
 rights p hp:=by have:=h.right p hp;omega
theorem qvr {t:List Nat} {x:Src} (hs:SoundX x) (h:qjL t x=true):qaa Tryz.prog 28 [.str t] (qwp (x,(0,0))):=by
 have hl:=qr6 h;obtain⟨ls,h1,h2⟩:=qsw hs h;rcases qjg t (by omega) with⟨ls2,h3,h4,h5⟩|⟨e,q,h3,h4⟩
 .have e:ls2=ls:=qie (by rw [h1] at h3;simp only [Prod.mk.injEq] at h3;exact h3.1.symm)
  subst e;have:=qx1 t ls2 (by omega) h4 h5 h1;rw [h2] at this;exact this
 .rw [h1] at h3
  simp only [Prod.mk.injEq] at h3;exact absurd h3.2.1.symm h4
def qfK (g:qaH) (k:Nat):Nat:=if k=0 then 0 else((g.prods.getD (k-1) ⟨15,[]⟩).left-15).toNat
def qbY (g:qaH) (r k:Nat):List (List (List Nat)):=(qcB g ((16+r:Nat):Int) k).map fun p=>(g.prods.getD p ⟨0,[]⟩).right.map (nameS g)
theorem ql7 {g:qaH} (h0:qaM g=0) {k:Nat} (hk:k<=g.prods.length) (r:Nat):r<qfK g k ↔ qfz g.prods ((16+r:Nat):Int)<k:=by
 have hv:=qdS h0;unfold qfK;rcases k with _|k
 .simp
 .obtain⟨p,hp⟩:=qai (show k<g.prods.length by omega)
  have h1:=qeg (qdT h0) ((16+r:Nat):Int) k p hp;have h2:=hv.left p (List.mem_of_getElem? hp);rw [if_neg (by omega),show k+1-1=k from rfl,getD_some hp];omega
theorem qtr {g:qaH} (h0:qaM g=0) {k:Nat} {p:qaV} (hp:g.prods[k]?=some p):∃ r,p.left=((16+r:Nat):Int)/\r<g.names.length/\qfK g (k+1)=r+1/\((r=qfK g k/\qcB g ((16+r:Nat):Int) k=[])\/r+1=qfK g k):=by
 have hv:=qdS h0;have hk:=(List.getElem?_eq_some_iff.1 hp).1;obtain⟨hl1,hl2⟩:=hv.left p (List.mem_of_getElem? hp);have hs:=qdT h0;refine⟨(p.left-16).toNat,by omega,by omega,?_,?_⟩
 .unfold qfK
  rw [if_neg (by omega),show k+1-1=k from rfl,getD_some hp];omega
 .have hc1:qfK g (k+1)=(p.left-16).toNat+1:=by
   unfold qfK;rw [if_neg (by omega),show k+1-1=k from rfl,getD_some hp];omega
  obtain⟨r,hr⟩:∃ r,r=(p.left-16).toNat:=⟨_,rfl⟩
  rw [<- hr] at hc1 |-;have hle:qfK g k<=r+1:=by
   rcases Nat.lt_or_ge (r+1) (qfK g k) with hh|hh
   .have h1:=(ql7 h0 (k:=k) (by omega) (r+1)).1 hh
    have h2:=(ql7 h0 (k:=k+1) (by omega) (r+1)).2 (by omega);omega
   .exact hh
  have ha:=qeg hs ((16+r:Nat):Int) k p hp;rcases Nat.lt_or_ge r (qfK g k) with hh|hh
  .exact .inr (by omega)
  .have hnot:¬ qfz g.prods ((16+r:Nat):Int)<k:=fun hc=>by
    have:=(ql7 h0 (k:=k) (by omega) r).2 hc;omega
   have hak:qfz g.prods ((16+r:Nat):Int)=k:=by
    have:¬ p.left<((16+r:Nat):Int):=by omega
    have:=mt ha.2 this;omega
   refine .inl ⟨?_,?_⟩
   .rcases Nat.lt_or_ge (qfK g k) r with h3|h3
    .have h4:=qjP h0 (i:=r-1) (by omega)
     have h5:qfz g.prods ((16+(r-1):Nat):Int)<k:=by
      rw [show(16:Int)+((r-1:Nat):Int)=((16+(r-1):Nat):Int) by omega,show((16+(r-1):Nat):Int)+1=((16+r:Nat):Int) by omega,hak] at h4;exact h4
     have:=(ql7 h0 (k:=k) (by omega) (r-1)).2 h5;omega
    .omega
   .rw [qes hs _ k (by omega),hak]
    simp
    omega
theorem qiH {g:qaH} {k r:Nat} {p:qaV} (hp:g.prods[k]?=some p) (hl:p.left=((16+r:Nat):Int)):qbY g r (k+1)=qbY g r k++[p.right.map (nameS g)]:=by
 unfold qbY;rw [qfs hp,if_pos hl,List.map_append];simp [hp]
theorem qiE {g:qaH} {k r s:Nat} {p:qaV} (hp:g.prods[k]?=some p) (hl:p.left=((16+r:Nat):Int)) (hs:s≠r):qbY g s (k+1)=qbY g s k:=by
 unfold qbY;rw [qfs hp,if_neg (by omega),List.append_nil]
theorem qrk (g:qaH) (r:Nat):qbY g r g.prods.length=qjC g r:=by
 unfold qbY qjC qdG;rw [show(16:Int)+(r:Int)=((16+r:Nat):Int) by omega]
theorem qrF (g:qaH) (r k:Nat):(qbY g r k).length<=k:=by
 unfold qbY;rw [List.length_map];exact qnU _ _ _
def prL {α:Type} (f h:Nat->α) (n:Nat):List α:=(List.range n).flatMap fun r=>[f r,h r]
theorem qcn {α:Type} (f h:Nat->α) (n:Nat):prL f h (n+1)=prL f h n++[f n,h n]:=by
 simp [prL,List.range_succ]
theorem qf7 {α:Type} (f h:Nat->α):∀ n,(prL f h n).length=2*n
 |0=>rfl
 |n+1=>by rw [qcn,List.length_append,qf7 f h n];simp;omega
theorem qrH {α:Type} (f h:Nat->α):∀ {n r:Nat},r<n->(prL f h n)[2*r]?=some (f r)/\(prL f h n)[2*r+1]?=some (h r)
 |0,r,hr=>by omega
 |n+1,r,hr=>by
  have hl:=qf7 f h n;rw [qcn];rcases Nat.lt_or_ge r n with h1|h1
  .have ih:=qrH f h h1
   rw [List.getElem?_append_left (by omega),List.getElem?_append_left (by omega)];exact ih
  .have:r=n:=by omega
   subst this;rw [List.getElem?_append_right (by omega),List.getElem?_append_right (by omega),hl]
   simp
theorem qlR {α:Type} {f h f' h':Nat->α} {n:Nat} (h1:∀ r,r<n->f r=f' r) (h2:∀ r,r<n->h r=h' r):prL f h n=prL f' h' n:=by
 induction n with
 |zero=>rfl
 |succ n ih=>rw [qcn,qcn,ih (fun r hr=>h1 r (by omega)) (fun r hr=>h2 r (by omega)),h1 n (by omega),h2 n (by omega)]
theorem qu7 {α:Type} {f h h':Nat->α} {n r:Nat} (hr:r<n) (hs:∀ s,s<n->s≠r->h' s=h s):(prL f h n).take (2*r+1)++[h' r]++(prL f h n).drop (2*r+2)=prL f h' n:=by
 induction n with
 |zero=>omega
 |succ n ih =>
  have hl:=qf7 f h n;rw [qcn,qcn];rcases Nat.lt_or_ge r n with h1|h1
  .rw [List.take_append_of_le_length (by omega),List.drop_append_of_le_length (by omega),<- List.append_assoc,ih h1 (fun s h2 h3=>hs s (by omega) h3),hs n (by omega) (by omega)]
  .have:r=n:=by omega
   subst this;rw [List.take_append,List.drop_append,hl,List.take_of_length_le (by omega),List.drop_eq_nil_of_le (by omega)];rw [show 2*r+1-2*r=1 by omega,show 2*r+2-2*r=2 by omega,qlR (f':=f) (h':=h') (fun _ _=>rfl) (fun s h2=>(hs s (by omega) (by omega)).symm)]
   simp
theorem quA {α:Type} {f h:Nat->α} {n:Nat} {p:α->Bool} (h1:∀ r,r<n->p (f r)=true/\p (h r)=true):(prL f h n).all p=true:=by
 induction n with
 |zero=>rfl
 |succ n ih=>rw [qcn,List.all_append,ih (fun r hr=>h1 r (by omega))];simp [h1 n (by omega)]
section
variable {E:PT Ty} {H:Hd} {frz:List Nat} {rd:Operand->AV} {objs:List Ob} {o:Oper} {t:TypeId} {x xv:Operand} {y:Ty} {i off sz n:Nat} {T:TypeId} {ag:Bool} {cs:List AV} {c:AV}
theorem qit (hop:o.op=.load t x) (h1:E.get? t=some y) (ha:qas y.desc=false) (hx:rd x=.bp i off) (hi:objs[i]?=some (.vec T ag sz n cs)) (hc:cs[off]?=some c):qax E H frz rd objs o=some (c,none,true):=by
 obtain⟨dst,op,ty,pos,after,guard⟩:=o;simp only at hop;subst hop;cases cs with
 |nil=>simp at hc
 |cons a l=>simp only [qax,quiet,qca,qgx,h1,hx,hi,qcT,ha,hc,pureR,if_true,Option.map_some]
theorem qhr (hop:o.op=.store t x xv) (h1:E.get? t=some y) (hs:y.size=1) (hx:rd x=.bp i off) (hv:rd xv=c) (hk:qfg c=true) (hl:c.cells=[c]) (hi:objs[i]?=some (.vec T ag sz n cs)) (hc:off<cs.length) :
  qax E H frz rd objs o=some (.d .any,some (objs.set i (.vec T ag sz n (cs.take off++[c]++cs.drop (off+1)))),true):=by
 obtain⟨dst,op,ty,pos,after,guard⟩:=o;simp only at hop;subst hop;cases cs with
 |nil=>simp at hc
 |cons a l =>
  have hb:Nat.ble (off+1) (a :: l).length=true:=Nat.ble_eq_true_of_le hc;simp only [qax,quiet,qca,qff,h1,hx,hv,hi,qcT,hk,hl,hs,hb,List.length_cons,List.length_nil,pureR,Bool.and_self,if_true,Option.map_some,qnL];simp [hb];simp only [List.length_cons] at hc;omega
end
theorem Run.dropLast {P:Program} {nt m:Nat} {ro':Option Nat} {K:Ex->S->Prop} {c:Code} {tm:PT AV} {O:List Ob} {ds:List DV} (l:List (Nat × AV)) (h:Run P nt m ro' c ⟨PT.ofList l,O,[]⟩ K) (hm:m<=O.length) (hO:O.all (qbB O.length)=true)
  (ht:∀ t v,(PT.ofList l).get? t=some v->tm.get? t=some v\/∃ off,off<=ds.length/\tm.get? t=some (.bp O.length off)/\v=.d (.ep (ds.drop off))) (hr:qv6 (qg6 8 O.length) l):Run P nt m ro' c ⟨tm,O++[.box (ds.map .d)],[]⟩ K:=by
 refine Run.freeze O.length (tm':=PT.ofList l) (objs':=O++[.gone]) (ds:=ds) ?_ (by simp) (by rw [List.set_append_right _ _ (Nat.le_refl _)];simp) ht;refine Run.trunc O.length (by simpa using hm) ?_ ?_
 .simp only [qup,qdY hr,List.take_left,hO,List.all_nil,Bool.and_self]
 .simpa [S.trunc] using h
theorem Run.imp {P:Program} {nt m:Nat} {ro':Option Nat} {K K':Ex->S->Prop} {c:Code} {s:S} (h:Run P nt m ro' c s K) (f:∀ e s',K e s'->K' e s'):Run P nt m ro' c s K' :=
 fun D0 β0 o0 w0 hb0 ro Q a w hro hK hs=>h D0 β0 o0 w0 hb0 ro Q a w hro (fun e s1 hk=>hK e s1 (f e s1 hk)) hs
theorem qpE {P:Program} {L:Nat} {B B' X X':List Ob} {args:List AV} {tm:PT AV} {nt:Nat} {frz:List Nat} {qs:Array Tmp} {assign body:Code} (ds:List DV) (l:List (Nat × AV))
  (hlen:args.length=qs.size) (hlt:qs.toList.all (fun t=>Nat.blt t nt)=true) (hB:B.length=L) (hB':B'.length=L)
  (hBr:B.all (qbB (L+2+X.length))=true) (hXr:X.all (qbB (L+2+X.length))=true) (hT:qdO (qg6 8 (L+2+X.length)) tm=true) (hl:qv6 (qg6 8 (L+2+X.length)) l)
  (has:Run P nt (L+2+X.length) (some (L+1)) assign ⟨qiQ tm (qs.toList.zip args),qag B tm nt frz qs assign body .ready none++X,[]⟩ (fun e s1=>e=.normal/\∃ tmA,s1=⟨tmA,(qag B tm nt frz qs assign body .ready none++X)++[.box (ds.map .d)],[]⟩ /\
   (∀ t v,(PT.ofList l).get? t=some v->tmA.get? t=some v\/∃ off,off<=ds.length/\tmA.get? t=some (.bp (qag B tm nt frz qs assign body .ready none++X).length off)/\v=.d (.ep (ds.drop off)))))
  (hbody:∀ a b,qbB (L+2+X.length) a=true->qbB (L+2+X.length) b=true->Run P nt (L+2+X.length) (some (L+1)) body ⟨PT.ofList l,B++[a,b]++X,[]⟩ (fun e s2=>e=.normal/\s2.objs=B'++[a,b]++X')) :
  qcJ P (L+1) args (qag B tm nt frz qs assign body .ready none++X) (.d (.bool true)) (qag B' tm nt frz qs assign body .ready none++X'):=by
 have hO:∀ st,(qag B tm nt frz qs assign body st none++X).length=L+2+X.length:=fun st=>by simp [qag,hB];omega
 have hget:∀ (C:List Ob) st (Z:List Ob),C.length=L->(qag C tm nt frz qs assign body st none++Z)[L+1]?=some (.loop tm nt frz qs assign body st none):=fun C st Z hC=>by
  subst hC;simp [qag]
 have hset:∀ (C:List Ob) st st' (Z:List Ob),C.length=L->(qag C tm nt frz qs assign body st none++Z).set (L+1) (.loop tm nt frz qs assign body st' none)=qag C tm nt frz qs assign body st' none++Z:=fun C st st' Z hC=>by
  subst hC;rw [List.set_append_left _ _ (by simp [qag])]
  congr 1
  unfold qag;rw [List.set_append_right _ _ (by simp)]
  simp
 refine qaN (i:=L+1) (hget B _ X hB) hlen hlt ?_;rw [hO];refine has.imp ?_;rintro e s1 ⟨rfl,tmA,rfl,htA⟩;refine⟨rfl,tm,nt,frz,qs,assign,body,none,?_,?_⟩
 .show(qag B tm nt frz qs assign body .ready none++X++[Ob.box (ds.map .d)])[L+1]?=_
  rw [List.append_assoc];exact hget B _ _ hB
 .show Run P nt _ _ body ⟨tmA,(qag B tm nt frz qs assign body .ready none++X++[Ob.box (ds.map .d)]).set (L+1) (.loop tm nt frz qs assign body .busy none),[]⟩ _
  rw [List.append_assoc,hset B _ _ _ hB,<- List.append_assoc];have hloop:qbB (L+2+X.length) (.loop tm nt frz qs assign body .busy none)=true:=by simp only [qbB,hT,Bool.and_self]
  refine Run.dropLast (ds:=ds) l ?_ (by rw [hO];exact Nat.le_refl _) ?_ (fun t v hv=>?_) (by rw [hO];exact hl)
  .rw [show qag B tm nt frz qs assign body .busy none++X=B++[Ob.raw (.deferred (some [])),Ob.loop tm nt frz qs assign body .busy none]++X from by simp [qag]]
   refine(hbody _ _ rfl hloop).imp ?_;rintro e ⟨tm2,o2,d2⟩ ⟨rfl,he⟩;simp only at he;subst he;have e1:∀ st,B'++[Ob.raw (.deferred (some [])),Ob.loop tm nt frz qs assign body st none]++X'=qag B' tm nt frz qs assign body st none++X':=fun st=>by simp [qag]
   refine⟨tm,nt,frz,qs,assign,body,.busy,none,?_,rfl,?_⟩
   .show(B'++_++X')[L+1]?=_
    rw [e1];exact hget B' _ _ hB'
   .show _=(B'++_++X').set (L+1) _
    rw [e1,hset B' _ _ _ hB']
  .rw [hO]
   unfold qag;simp only [List.all_append,hBr,hXr,List.all_cons,List.all_nil,Bool.true_and,Bool.and_true,hloop]
   rfl
  .rcases htA t v hv with h1|h1
   .exact .inl h1
   .rw [hO] at h1 |-;exact .inr h1
section
variable {E:PT Ty} {H:Hd} {frz:List Nat} {rd:Operand->AV} {O:List Ob} {o:Oper} {t:TypeId} {x xv:Operand} {y:Ty} {cs:List AV} {v:AV} {i:Nat}
theorem qhV (hop:o.op=.store t x xv:=by rfl) (hy:E.get? t=some y:=by rfl) (hx:rd x=.bp i 0:=by rfl) (hi:i=O.length:=by rfl) (hv:rd xv=v:=by rfl) (hk:qfg v=true:=by rfl) (hl:Nat.beq v.cells.length y.size=true:=by rfl) (hc:Nat.beq cs.length y.size=true:=by rfl) :
  qax E H frz rd (O++[.box cs]) o=some (.d .any,some (O++[.box v.cells]),true):=by
 subst hi;obtain⟨dst,op,ty,pos,after,guard⟩:=o;simp only at hop;subst hop;have h1:qax E H frz rd (O++[.box cs]) ⟨dst,.store t x xv,ty,pos,after,guard⟩=Option.map (fun(p:AV × List Ob × Bool)=>(p.1,some p.2.1,p.2.2)) (qff E t (.bp O.length 0) v (O++[.box cs])):=by
  simp only [qax,quiet,qca,hx,hv]
 rw [h1,qhh hy O cs hk hl hc]
 rfl
end
theorem qsA {O:List Ob} {a b:Ob}:(O++[a]).set O.length b=O++[b]:=by simp
theorem qtC {O:List Ob} {a:Ob}:(O++[a])[O.length]?=some a:=by simp
abbrev qvw (g:qaH) (i:Nat):List DV:=prL (fun r=>.str (g.names.getD r [])) (fun _=>.nilsl) i
def cellP (g:qaH) (k r:Nat):AV:=if r<qfK g k then .sr (6+r) 1 (alts' g r k) else .d .nilsl
where alts' (g:qaH) (r k:Nat):List DV:=(qbY g r k).map qao
abbrev qd7 (g:qaH) (k:Nat):List AV:=prL (fun r=>.d (.str (g.names.getD r []))) (cellP g k) g.names.length
abbrev qs3 (g:qaH) (st:List Nat) (n:Nat):Ob:=qz7 g st (.vs 3 2 0 n)
abbrev qnM (n:Nat) (cs:List AV):Ob:=.vec 96 true 2 n cs
abbrev bsP (g:qaH) (st:List Nat) (k:Nat):List Ob:=[qjy,rmG g,qs3 g st g.names.length,qnM g.names.length (qd7 g k)]
abbrev xsP (g:qaH) (k:Nat):List Ob:=(List.range (qfK g k)).map fun r=>.room (qbY g r k).length 1
theorem qvX {α β:Type} (u:α->β) (f h:Nat->α) (n:Nat):(prL f h n).map u=prL (fun r=>u (f r)) (fun r=>u (h r)) n:=by
 induction n with
 |zero=>rfl
 |succ n ih=>rw [qcn,qcn,List.map_append,ih];rfl
theorem qn7 (g:qaH):(qvw g g.names.length).map AV.d=qd7 g 0:=by
 rw [qvX];exact qlR (fun _ _=>rfl) (fun r _=>by simp [cellP,qfK])
theorem qzP {g:qaH} {st:List Nat} {tm:PT AV} {i:Nat} {cs:List AV} {ds:List DV} (ts:List (Nat × AV)) (hd:cs=ds.map .d) (h:qlt (qjG [0,1,2,3]) 4 tm ts) :
  qhU 0 ⟨tm,[qjy,rmG g,qs3 g st i,qnM i cs],[]⟩ ⟨PT.ofList ts,[qjy,rmG g,qs3 g st i,qnM i (ds.map .d)],[]⟩:=by
 subst hd;refine⟨ts,[0,1,2,3],_,rfl,rfl,rfl,by simp,fun k hk=>by omega,fun k ob hk=>?_,h⟩
 match k with
 |0=>obtain rfl:=Option.some.inj hk;exact⟨rfl,0,rfl,rfl⟩
 |1=>obtain rfl:=Option.some.inj hk;exact⟨rfl,1,rfl,rfl⟩
 |2=>obtain rfl:=Option.some.inj hk;exact⟨rfl,2,rfl,rfl⟩
 |3 =>
  obtain rfl:=Option.some.inj hk;refine⟨?_,3,rfl,?_⟩
  .show(ds.map AV.d).all (okA _ 8)=true
   rw [List.all_eq_true];intro x hx;simp only [List.mem_map] at hx;obtain⟨y,_,rfl⟩:=hx;rfl
  .show some (qnM i (ds.map .d))=some (qnM i ((ds.map AV.d).map (reA _ 8)))
   rw [List.map_map];rfl
 |k+4=>cases hk
theorem qAO {g:qaH} {st:List Nat} {tm:PT AV} {i:Nat} {cs:List AV} {ds:List DV} (ts:List (Nat × AV)) (hd:cs=ds.map .d) (h:qlt (qjG [0,1,2,4]) 4 tm ts) :
  qhU 0 ⟨tm,[qjy,rmG g,qz7 g st (.vs 4 2 0 i),.gone,qnM i cs],[]⟩ ⟨PT.ofList ts,[qjy,rmG g,qs3 g st i,qnM i (ds.map .d)],[]⟩:=by
 subst hd;refine⟨ts,[0,1,2,4],_,rfl,rfl,rfl,by simp,fun k hk=>by omega,fun k ob hk=>?_,h⟩
 match k with
 |0=>obtain rfl:=Option.some.inj hk;exact⟨rfl,0,rfl,rfl⟩
 |1=>obtain rfl:=Option.some.inj hk;exact⟨rfl,1,rfl,rfl⟩
 |2=>obtain rfl:=Option.some.inj hk;exact⟨rfl,2,rfl,rfl⟩
 |3 =>
  obtain rfl:=Option.some.inj hk;refine⟨?_,4,rfl,?_⟩
  .show(ds.map AV.d).all (okA _ 8)=true
   rw [List.all_eq_true];intro x hx;simp only [List.mem_map] at hx;obtain⟨y,_,rfl⟩:=hx;rfl
  .show some (qnM i (ds.map .d))=some (qnM i ((ds.map AV.d).map (reA _ 8)))
   rw [List.map_map];rfl
 |k+4=>cases hk
theorem qqi {g:qaH} {i:Nat} {nm:List Nat} (h:g.names[i]?=some nm):(List.map AV.d (qvw g i)).take (i*2)++[AV.d (.str nm),AV.d .nilsl]=(qvw g (i+1)).map AV.d:=by
 have e:qvw g (i+1)=qvw g i++[.str (g.names.getD i []),.nilsl]:=qcn _ _ _;rw [e,List.map_append,List.take_of_length_le (by rw [List.length_map,qf7];omega),getD_some h];rfl
theorem qsb (g:qaH) (k:Nat):(xsP g k).length=qfK g k:=by simp
theorem qwL {a n:Nat} (h:a<n):Nat.blt a n=true:=by rw [Nat.blt_eq];exact h
theorem qn8 (g:qaH) (st:List Nat) (k:Nat):(bsP g st k).all (qbB (4+2+(xsP g k).length))=true:=by
 rw [qsb];have h1:qbB (4+2+qfK g k) (qs3 g st g.names.length)=true:=by
  simp only [qbB,List.all_cons,List.all_nil,qg6,qwL (show 1<4+2+qfK g k by omega),qwL (show 3<4+2+qfK g k by omega),Bool.and_self]
 have h2:qbB (4+2+qfK g k) (qnM g.names.length (qd7 g k))=true:=by
  refine quA fun r _=>⟨rfl,?_⟩
  unfold cellP;split
  .exact qwL (by omega)
  .rfl
 have h3:qbB (4+2+qfK g k) qjy=true:=rfl;have h4:qbB (4+2+qfK g k) (rmG g)=true:=rfl;simp only [List.all_cons,List.all_nil,h1,h2,h3,h4,Bool.and_self]
theorem qnG (g:qaH) (k n:Nat):(xsP g k).all (qbB n)=true:=by
 rw [List.all_eq_true];intro x hx;simp only [List.mem_map] at hx;obtain⟨r,_,rfl⟩:=hx
 rfl
theorem qsP {α:Type} (f h:Nat->α) (n:Nat):prL f h (n+1)=[f 0,h 0]++prL (fun r=>f (r+1)) (fun r=>h (r+1)) n:=by
 simp [prL,List.range_succ_eq_map,List.flatMap_map]
theorem qlM:∀ (n:Nat) (f h:Nat->DV),qbT true 2 n (prL f h n)=(List.range n).map fun r=>.agg [f r,h r]
 |0,_,_=>rfl
 |n+1,f,h=>by
  rw [qsP,List.range_succ_eq_map,List.map_cons,List.map_map]
  show DV.agg [f 0,h 0] :: qbT true 2 n (prL _ _ n)=_
  rw [qlM n];rfl
theorem qlJ {α β:Type} {f:α->Option β} {b c:β} {x y:α}:∀ {l:List α} {r:List β},qgf f l=some r->f x=some b->f y=some c->qgf f (l++[x,y])=some (r++[b,c])
 |[],r,h1,h2,h3=>by simp [qgf] at h1;subst h1;simp [qgf,h2,h3]
 |a :: l,r,h1,h2,h3=>by
  simp only [qgf] at h1;cases ha:f a with
  |none=>rw [ha] at h1;cases h1
  |some a' =>
   cases hl:qgf f l with
   |none=>rw [ha,hl] at h1;cases h1
   |some l' =>
    rw [ha,hl] at h1;cases h1;have:=qlJ hl h2 h3;simp [qgf,ha,this]
theorem qoS {α β:Type} {f:α->Option β} {a b:Nat->α} {a' b':Nat->β}:∀ {n:Nat},(∀ r,r<n->f (a r)=some (a' r)/\f (b r)=some (b' r))->qgf f (prL a b n)=some (prL a' b' n)
 |0,_=>rfl
 |n+1,h=>by
  rw [qcn,qcn];exact qlJ (qoS fun r hr=>h r (by omega)) (h n (by omega)).1 (h n (by omega)).2
theorem qq2 {g:qaH} (h0:qaM g=0) {objs:List Ob} (k:Nat) (hi:objs[3]?=some (qnM g.names.length (qd7 g g.prods.length))) :
  qhS objs (k+2) (.vs 3 2 0 g.names.length)=some (.sl 2 (((List.range g.names.length).map (qqe g)).map qbV)):=by
 have hall:∀ r,r<g.names.length->cellP g g.prods.length r=.sr (6+r) 1 ((qjC g r).map qao):=fun r hr=>by
  have h1:r<qfK g g.prods.length:=(ql7 h0 (Nat.le_refl _) r).2 (by
   have h2:=qjP h0 (i:=r) hr;have h3:qfz g.prods (16+(r:Int)+1)<=g.prods.length:=List.countP_le_length;rw [show(16:Int)+(r:Int)=((16+r:Nat):Int) by omega] at h2 h3;omega)
  unfold cellP;rw [if_pos h1,cellP.alts',qrk]
 have hM:qgf (qhS objs (k+1)) (((qd7 g g.prods.length).drop (0*2)).take (g.names.length*2))=some (prL (fun r=>.str (g.names.getD r [])) (fun r=>alts (qjC g r)) g.names.length):=by
  rw [Nat.zero_mul,List.drop_zero,List.take_of_length_le (by rw [qf7];omega)];exact qoS fun r hr=>⟨rfl,by rw [hall r hr];rfl⟩
 have hb:Nat.ble (0+g.names.length) g.names.length=true:=Nat.ble_eq_true_of_le (by omega);simp only [qhS,hi,hb];rw [hM];simp only [Option.map_some,qlM,List.map_map]
 rfl
theorem qqo {objs:List Ob} {n:Nat} {X a c d e:DV} {b:List DV} (h:qhS objs 7 (.vs 3 2 0 n)=some X) :
  qbE objs 8 (.tup [.agg [.d a,.sr 1 1 b,.d c,.d d,.vs 3 2 0 n],.d e])=some (.tup [.d (.agg [a,.sl 1 b,c,d,X]),.d e]):=by
 have h1:qgf (qhS objs 7) [.d a,.sr 1 1 b,.d c,.d d,.vs 3 2 0 n]=some [a,.sl 1 b,c,d,X]:=by
  simp only [qgf];rw [h];rfl
 have h2:qhS objs 8 (.agg [.d a,.sr 1 1 b,.d c,.d d,.vs 3 2 0 n])=some (.agg [a,.sl 1 b,c,d,X]):=by
  show(qgf (qhS objs 7) _).map DV.agg=_
  rw [h1];rfl
 show(qgf (fun x=>(qhS objs 8 x).map AV.d) [.agg [.d a,.sr 1 1 b,.d c,.d d,.vs 3 2 0 n],.d e]).map AV.tup=_
 simp only [qgf];rw [h2];rfl
theorem qkf {g:qaH} {k r:Nat} {p:qaV} (hp:g.prods[k]?=some p) (hl:p.left=((16+r:Nat):Int)) (hr:r<g.names.length) (hc:qfK g (k+1)=r+1) (hcase:r=qfK g k\/r+1=qfK g k) :
  (qd7 g k).take (2*r+1)++[.sr (6+r) 1 ((qbY g r k).map qao++[qao (p.right.map (nameS g))])]++(qd7 g k).drop (2*r+2)=qd7 g (k+1):=by
 have e:cellP g (k+1) r=.sr (6+r) 1 ((qbY g r k).map qao++[qao (p.right.map (nameS g))]):=by
  unfold cellP;rw [if_pos (by omega),cellP.alts',qiH hp hl,List.map_append];rfl
 rw [<- e];refine qu7 hr fun s hs hne=>?_;unfold cellP cellP.alts';rw [qiE hp hl hne];by_cases h:s<qfK g k
 .rw [if_pos h,if_pos (by omega)]
 .rw [if_neg h,if_neg (by omega)]
theorem qxG {g:qaH} {k r:Nat} {p:qaV} (hp:g.prods[k]?=some p) (hl:p.left=((16+r:Nat):Int)) (hc:qfK g (k+1)=r+1) (h1:r=qfK g k) (h2:qbY g r k=[]):xsP g k++[.room 1 1]=xsP g (k+1):=by
 unfold xsP;rw [hc,<- h1,List.range_succ,List.map_append,List.map_cons,List.map_nil,qiH hp hl,h2]
 congr 1
 refine List.map_congr_left fun s hs=>?_;rw [qiE hp hl (by have:=List.mem_range.1 hs;omega)]
theorem qxH {g:qaH} {k r:Nat} {p:qaV} (hp:g.prods[k]?=some p) (hl:p.left=((16+r:Nat):Int)) (hc:qfK g (k+1)=r+1) (h1:r+1=qfK g k):(xsP g k).set r (.room ((qbY g r k).length+1) 1)=xsP g (k+1):=by
 refine List.ext_getElem? fun j=>?_;unfold xsP;rw [hc,<- h1,List.getElem?_set];by_cases hj:r=j
 .subst hj
  rw [if_pos rfl,if_pos (by simp),List.getElem?_map,List.getElem?_range (by omega)];simp [qiH hp hl]
 .rw [if_neg hj,List.getElem?_map,List.getElem?_map]
  rcases Nat.lt_or_ge j (r+1) with h|h
  .rw [List.getElem?_range h]
   simp [qiE hp hl (fun e=>hj e.symm)]
  .rw [List.getElem?_eq_none (by simpa using h)];rfl
theorem qxh {g:qaH} {k r:Nat} (h1:r+1=qfK g k):(xsP g k)[r]?=some (.room (qbY g r k).length 1):=by
 unfold xsP;rw [List.getElem?_map,List.getElem?_range (by omega)];rfl
theorem six_get {o0 o1 o2 o3 a b:Ob} {X:List Ob} {r:Nat}:([o0,o1,o2,o3]++[a,b]++X)[6+r]?=X[r]?:=by rw [Nat.add_comm];rfl
theorem six_set {o0 o1 o2 o3 a b x:Ob} {X:List Ob} {r:Nat}:([o0,o1,o2,o3]++[a,b]++X).set (6+r) x=[o0,o1,o2,o3]++[a,b]++X.set r x:=by rw [Nat.add_comm];rfl
set_option maxHeartbeats 8000000 in
theorem qwB (g:qaH) (hf:Fits g) (h0:qaM g=0):qaa Tryz.prog 16 [qd5 g] (.tup [.d (qfO (qcH g)),.d (.int .i64 0)]):=by
 have cc:=qr0 g hf;rw [h0] at cc;have hv:=qdS h0;have htl:=hv.tokens;have hnl:=hv.names;have hpl:=hv.prods;have htk:=hf.tokens;obtain⟨st,hst⟩:∃ st,st=nameS g g.start:=⟨_,rfl⟩
 have hs0:qcq g g.start=some st:=by rw [hst];exact qkB h0
 have cn:=qus g g.start st hf htl hs0;have c0:=fun O=>ACall.lift (ds:=[qao g.tokens]) (qql g.tokens htk) rfl O;have he:qfO (qcH g)=.agg [.int .i64 g.k,qao g.tokens,.str g.sep,.str st,.sl 2 (((List.range g.names.length).map (qqe g)).map qbV)]:=by rw [hst];rfl
 rw [he];refine kF Tryz.func16 [1,65580,43,62,77] fun w=>?_
 repeat' (first|refine zW ?_|refine zB ?_ ?_<;>intro h<;>try exact zk h|refine zX ?_|refine zC (cc) ?_|refine zC (cn) ?_|refine eA (c0 _) ?_|exact zk h|fail)
 refine Run.cellVec 2 4 96 true 2 ?_;refine Run.loopR (fun i:Nat=>⟨PT.ofList [(1,(.d (.ep [.int .i64 g.k,qao g.tokens,.str g.sep,qao g.names,.int .i64 g.start,.sl 2 (g.prods.map qbf)]))),(2,.bp 0 0),(3,.d (.int .i64 0)),(5,.bp 2 0),(33,.d (qao g.names)),(34,.d (.int .i64 (g.names.map DV.str).length)),(35,.d (.int .i64 i))],[qjy,rmG g,qs3 g st i,qnM i ((qvw g i).map .d)],[]⟩) (fun i=>i<=g.names.length) (fun i=>g.names.length-i) 0 (Nat.zero_le _) (qzP _ rfl ⟨⟨rfl,rfl⟩,⟨rfl,rfl⟩,⟨rfl,rfl⟩,⟨rfl,rfl⟩,⟨rfl,rfl⟩,⟨rfl,rfl⟩,⟨rfl,rfl⟩,trivial⟩) (fun i hi=>?_);rcases Nat.lt_or_ge i g.names.length with hlt|hge
 .obtain⟨nm,hnm⟩:=qai hlt
  have happ:(Nat.ble i i && Nat.ble ((i+1)*40) 1099511627776)=true:=by rw [Bool.and_eq_true,Nat.ble_eq,Nat.ble_eq];exact⟨Nat.le_refl _,by omega⟩
  repeat' (first|refine zW ?_|refine zB ?_ ?_<;>intro h<;>try exact zk h|refine zX ?_|refine zI w (.d (.ep [.str nm])) hnm ?_|refine oV ?_ (hf:=by first|(simp [Nat.ble_eq]<;>fail)|(simp [Nat.ble_eq];omega))|exact zk h|fail)
  refine oV (v:=.vs 4 2 0 (i+1)) (objs':=[qjy,rmG g,qs3 g st i,.gone,qnM (i+1) ((qvw g (i+1)).map .d)]) ?_ (hf:=happ) (he:=rfl) (ho:=by rw [<- qqi hnm];rfl)
  repeat' (first|refine zW ?_|refine zB ?_ ?_<;>intro h<;>try exact zk h|refine zX ?_|(fail)|fail)
  exact⟨i+1,hlt,by omega,qAO _ rfl ⟨⟨rfl,rfl⟩,⟨rfl,rfl⟩,⟨rfl,rfl⟩,⟨rfl,rfl⟩,⟨rfl,rfl⟩,⟨rfl,rfl⟩,⟨rfl,(qaq (k:=i) (by kernel_rfl) (by omega))⟩,trivial⟩⟩
 .have hie:i=g.names.length:=by omega
  subst hie;rw [qn7];have cp:=qf8 g
  repeat' (first|refine zW ?_|refine zB ?_ ?_<;>intro h<;>try exact zk h|refine zX ?_|refine zC (cp) ?_|exact zk h|fail)
  refine Run.rangeProdsX (frz:=[1,65580,43,62,77]) 4 (bsP g st) (xsP g) g.prods (by omega) (by rfl) rfl (fun _=>rfl) (fun k=>qn8 g st k) (fun k=>qnG g k _) (fun n=>?_) (fun k p hk hp=>?_) ?_
  .rw [show 4+2+n=n+6 from by omega];rfl
  .obtain⟨r,hl,hr,hc1,hcase⟩:=qtr h0 hp
   have hX:=qsb g k;have hpm:=List.mem_of_getElem? hp;refine qpE [.int .i64 p.left,qcV p.right] [(1,(.d (.ep [.int .i64 g.k,qao g.tokens,.str g.sep,qao g.names,.int .i64 g.start,.sl 2 (g.prods.map qbf)]))),(5,.bp 2 0),(9,.d (.ep [.int .i64 p.left,qcV p.right]))] rfl rfl rfl rfl (qn8 g st k) (qnG g k _) (by rw [show 4+2+(xsP g k).length=(xsP g k).length+6 from by omega];rfl) ⟨rfl,qwL (by omega),rfl,trivial⟩ ?_ (fun a b ha hb=>?_)
   .repeat' (first|refine zW ?_|refine zB ?_ ?_<;>intro h<;>try exact zk h|refine zX ?_|refine oV ?_ (hv:=qhV)|(fail)|fail)
    exact⟨rfl,_,rfl,qbW (by intro q hq;simp only [List.mem_cons,List.not_mem_nil,or_false] at hq;rcases hq with rfl|rfl|rfl;exact .inl (by kernel_rfl);exact .inl (by kernel_rfl);exact .inr ⟨0,Nat.zero_le _,by kernel_rfl,rfl⟩)⟩
   .obtain⟨O,hO⟩:∃ O,O=bsP g st k++[a,b]++xsP g k:=⟨_,rfl⟩
    rw [<- hO];have hOl:O.length=6+qfK g k:=by rw [hO];simp;omega
    have hOr:O.all (qbB O.length)=true:=by
     have h1:=qn8 g st k;have h2:=qnG g k (4+2+(xsP g k).length);have e:O.length=4+2+(xsP g k).length:=by omega
     rw [e,hO];simp only [List.all_append,h1,h2,List.all_cons,List.all_nil,ha,hb,Bool.true_and,Bool.and_true]
    repeat' (first|refine zW ?_|refine zB ?_ ?_<;>intro h<;>try exact zk h|refine zX ?_|(fail)|fail)
    refine Run.mkRoom 10 1 [(1,(.d (.ep [.int .i64 g.k,qao g.tokens,.str g.sep,qao g.names,.int .i64 g.start,.sl 2 (g.prods.map qbf)]))),(5,.bp 2 0),(9,.d (.ep [.int .i64 p.left,qcV p.right])),(10,.sr O.length 1 []),(52,.d (qcV p.right)),(53,.d (.int .i64 (p.right.map (DV.int .i64)).length)),(54,.d (.int .i64 (0:Nat)))] (by kernel_rfl) (qbW (by intro q hq;simp only [List.mem_cons,List.not_mem_nil,or_false] at hq;rcases hq with rfl|rfl|rfl|rfl|rfl|rfl|rfl<;>first|exact .inl ⟨rfl,rfl⟩|exact .inr (by kernel_rfl))) ?_;refine Run.loop (fun u:Nat × List DV=>⟨PT.ofList [(1,(.d (.ep [.int .i64 g.k,qao g.tokens,.str g.sep,qao g.names,.int .i64 g.start,.sl 2 (g.prods.map qbf)]))),(5,.bp 2 0),(9,.d (.ep [.int .i64 p.left,qcV p.right])),(10,.sr O.length 1 u.2),(52,.d (qcV p.right)),(53,.d (.int .i64 (p.right.map (DV.int .i64)).length)),(54,.d (.int .i64 (u.1:Nat)))],O++[.room u.2.length 1],[]⟩) (fun u=>u.1<=p.right.length/\u.2=(p.right.take u.1).map fun s=>.str (nameS g s)) (fun u=>p.right.length-u.1) (0,[]) ⟨Nat.zero_le _,rfl⟩ (qac (by repeat' (first|exact trivial|refine⟨(by kernel_rfl),?_⟩))) (fun u hu=>?_);obtain⟨j,ns⟩:=u;obtain⟨hj1,hj2⟩:=hu;simp only at hj1 hj2 |-;have hr6:=hv.right p hpm;have hnsl:ns.length<=j:=by rw [hj2];simp;omega
    rcases Nat.lt_or_ge j p.right.length with hjl|hjg
    .obtain⟨s,hs⟩:=qai hjl
     have hsn:=qhD hv (hv.syms p hpm s (List.mem_of_getElem? hs));have cs:=qus g s (nameS g s) hf htl hsn;have hnx:ns++[.str (nameS g s)]=(p.right.take (j+1)).map fun s=>DV.str (nameS g s):=by rw [List.take_add_one,hs,hj2];simp
     repeat' (first|refine zW ?_|refine zB ?_ ?_<;>intro h<;>try exact zk h|refine zX ?_|refine zI w (.d (.ep [.int .i64 s])) hs ?_|refine zC (cs) ?_|exact zk h|fail)
     refine oV (v:=.sr O.length 1 (ns++[.str (nameS g s)])) (objs':=O++[.room (ns.length+1) 1]) ?_ (hv:=qnV (h8:=qtC)) (he:=by rfl) (ho:=by exact qsA (O:=O))
     repeat' (first|refine zW ?_|refine zB ?_ ?_<;>intro h<;>try exact zk h|refine zX ?_|(fail)|fail)
     exact⟨(j+1,ns++[.str (nameS g s)]),⟨hjl,hnx⟩,by simp only<;>omega,qb4 (by simp) rfl (by repeat' (first|exact trivial|refine⟨rfl,?_⟩|refine⟨(qaq (k:=j) (by kernel_rfl) (by omega)),?_⟩))⟩
    .have hje:j=p.right.length:=by omega
     have hns:ns=(p.right.map (nameS g)).map DV.str:=by rw [hj2,hje,List.take_length,List.map_map];rfl
     repeat refine zS ?_
     refine oV (v:=.d (.bool false)) ?_ (he:=vF8 (by simp<;>omega))
     repeat refine zS ?_
     refine RunOps.tidy (qcQ (objs:=_) (objs':=O) [(1,(.d (.ep [.int .i64 g.k,qao g.tokens,.str g.sep,qao g.names,.int .i64 g.start,.sl 2 (g.prods.map qbf)]))),(5,.bp 2 0),(9,.d (.ep [.int .i64 p.left,qcV p.right])),(10,.d (.sl 1 ns))] O.length List.take_left (Nat.ble_eq_true_of_le (by omega)) (by repeat' (first|exact trivial|refine⟨(Or.inl rfl),?_⟩|refine⟨(Or.inr rfl),?_⟩|fail)) ⟨rfl,qwL (by omega),rfl,rfl,trivial⟩ hOr rfl) ?_;have hr16:AV.d (.int .i64 (IntKind.i64.wrap (p.left-16)))=.d (.int .i64 (r:Nat)):=vN8 (by omega) (by omega);have hin:inB (r:Int) g.names.length=true:=by simp only [inB,Bool.and_eq_true,decide_eq_true_eq];omega
     subst hO
     repeat' (first|refine zV hr16 ?_|refine zW ?_|refine zB ?_ ?_<;>intro h<;>try exact zk h|refine zX ?_|refine oV (v:=.bp 3 (2*r)) ?_ (hf:=hin) (he:=congrArg (AV.bp 3) (show(0+r)*2=2*r by omega))|(fail)|fail)
     have hcell:(qd7 g k)[2*r+1]?=some (cellP g k r):=(qrH _ _ hr).2;rcases hcase with⟨hn1,hn2⟩|ho1
     .have hcp:cellP g k r=.d .nilsl:=if_neg (by omega)
      refine oV (v:=.d .nilsl) ?_ (hv:=qit rfl rfl rfl rfl rfl (hcell.trans (congrArg some hcp)))
      repeat' (first|refine zW ?_|refine zB ?_ ?_<;>intro h<;>try exact zk h|refine zX ?_|(fail)|fail)
      have hal:qbY g r k=[]:=by unfold qbY;rw [hn2];rfl
      have hcs:=qkf hp hl hr hc1 (.inl hn1);have hxs:=qxG hp hl hc1 hn1 hal;rw [hal] at hcs;refine oV (objs':=bsP g st (k+1)++[a,b]++xsP g (k+1)) ?_ (hv:=qhr (off:=2*r+1) (c:=.sr (6+r) 1 [qao (p.right.map (nameS g))]) rfl rfl rfl rfl (by rw [hns] at *;exact congrArg (fun n=>AV.sr n 1 _) (hOl.trans (by omega))) rfl rfl rfl (show 2*r+1<(qd7 g k).length by rw [qf7];omega)) (ho:=?_)
      .repeat' (first|refine zW ?_|refine zB ?_ ?_<;>intro h<;>try exact zk h|refine zX ?_|(fail)|fail)
       exact⟨rfl,rfl⟩
      .show _=[qjy,rmG g,qs3 g st g.names.length,qnM g.names.length (qd7 g (k+1))]++[a,b]++xsP g (k+1)
       rw [<- hcs,<- hxs];rfl
     .have hcp:cellP g k r=.sr (6+r) 1 ((qbY g r k).map qao):=by unfold cellP;rw [if_pos (by omega)];rfl
      have hcs:=qkf hp hl hr hc1 (.inr ho1);have hxs:=qxH hp hl hc1 ho1;have hall:=qrF g r k;refine oV (v:=.sr (6+r) 1 ((qbY g r k).map qao)) ?_ (hv:=qit rfl rfl rfl rfl rfl (hcell.trans (congrArg some hcp)))
      repeat' (first|refine zW ?_|refine zB ?_ ?_<;>intro h<;>try exact zk h|refine zX ?_|(fail)|fail)
      refine oV (v:=.sr (6+r) 1 ((qbY g r k).map qao++[.sl 1 ns])) (objs':=bsP g st k++[a,b]++xsP g (k+1)) ?_ (hv:=qnV (h8:=six_get.trans (qxh ho1)) (hn:=by simp) (hlen:=by simp [qbT,qdQ]<;>omega)) (he:=by rfl) (ho:=by exact six_set.trans (congrArg (fun X=>bsP g st k++[a,b]++X) hxs))
      repeat' (first|refine zW ?_|refine zB ?_ ?_<;>intro h<;>try exact zk h|refine zX ?_|(fail)|fail)
      refine oV (objs':=bsP g st (k+1)++[a,b]++xsP g (k+1)) ?_ (hv:=qhr (off:=2*r+1) (c:=.sr (6+r) 1 ((qbY g r k).map qao++[qao (p.right.map (nameS g))])) rfl rfl rfl rfl (by rw [hns];rfl) rfl rfl rfl (show 2*r+1<(qd7 g k).length by rw [qf7];omega)) (ho:=?_)
      .repeat' (first|refine zW ?_|refine zB ?_ ?_<;>intro h<;>try exact zk h|refine zX ?_|(fail)|fail)
       exact⟨rfl,rfl⟩
      .show _=[qjy,rmG g,qs3 g st g.names.length,qnM g.names.length (qd7 g (k+1))]++[a,b]++xsP g (k+1)
       rw [<- hcs];rfl
  .repeat' (first|refine zW ?_|refine zB ?_ ?_<;>intro h<;>try exact zk h|refine zX ?_|(fail)|fail)
   refine Yt ?_;refine⟨trivial,_,_,by rfl,by rfl,?_⟩;exact qqo (qq2 h0 5 rfl)
theorem qyr (g:qaH) (hf:Fits g):qaa Tryz.prog 16 [qd5 g] (.tup [.d (qfO (qyc g)),.d (.int .i64 (qaM g))]):=by
 by_cases h0:qaM g=0
 .rw [show qyc g=qcH g from if_pos h0,h0]
  exact qwB g hf h0
 .rw [show qyc g=x0 from if_neg h0]
  have cc:=qr0 g hf;generalize qaM g=c at cc h0 |-;refine qg3 ?_ qzN;refine kF Tryz.func16 [1] fun w=>?_
  repeat' (first|refine zW ?_|refine zB ?_ ?_<;>intro h<;>try exact zk h|refine zC (cc) ?_|rfl|((exfalso;first|(simp_all<;>fail)|(simp_all;omega)))|fail)
theorem qwO {c:Nat} (h:qa4 c=true):qcS [c]=0:=by
 have hw:qea [c]=0:=by
  rw [qhq (by simp) (fun i hb=>by
   obtain⟨d,hd,hl,_⟩:=hb;cases i with
   |zero=>simp at hd;subst hd;rw [h] at hl;cases hl
   |succ i=>simp at hd)]
  simp
 unfold qcS;rw [hw,if_neg]
 rintro⟨_,hl⟩
 simp [qc3,qcz,qaZ,qf2,qbk] at hl
theorem qqd {c:Nat} (h1:97<=c) (h2:c<=122):qap [c]=true:=by
 have hl:qa4 c=true:=by simp [qa4];omega
 simp [qap,qwO hl,h1]
theorem qtD {c:Nat} (h1:65<=c) (h2:c<=90):qae [c]=true:=by
 have hl:qa4 c=true:=by simp [qa4];omega
 simp [qae,qwO hl];omega
theorem qk9 {nums:List Int} {T M:Nat}:∀ {i:Nat} {p:qaV},p ∈ qcF nums T M i->∃ a j,a<i/\p=qgV nums T M a j
 |0,p,h=>by cases h
 |i+1,p,h=>by
  simp only [qcF] at h;rcases List.mem_append.1 (List.mem_of_mem_take h) with h|h
  .obtain⟨a,j,ha,e⟩:=qk9 h
   exact⟨a,j,by omega,e⟩
  .simp only [qfb,List.mem_map] at h
   obtain⟨j,_,e⟩:=h;exact⟨i,j,by omega,e.symm⟩
theorem qkq {nums:List Int} {T M:Nat}:∀ i:Nat,(qcF nums T M i).Pairwise (fun a b=>a.left<=b.left)
 |0=>.nil
 |i+1=>by
  simp only [qcF];refine List.Pairwise.sublist (List.take_sublist 7 _) ?_;rw [List.pairwise_append];refine⟨qkq i,?_,fun p hp q hq=>?_⟩
  .rw [qfb,List.pairwise_map]
   exact List.pairwise_iff_getElem.2 fun _ _ _ _ _=>Int.le_refl _
  .obtain⟨a,j,ha,rfl⟩:=qk9 hp
   simp only [qfb,List.mem_map] at hq;obtain⟨j',_,rfl⟩:=hq;simp only [qgV];omega
theorem qgE {nums:List Int} {T M:Nat}:∀ i:Nat,(qcF nums T M i).length<=3*i
 |0=>Nat.le_refl _
 |i+1=>by
  have:=qgE (nums:=nums) (T:=T) (M:=M) i;simp only [qcF,List.length_take,List.length_append,qfb,List.length_map,List.length_range];omega
theorem qr1 {nums:List Int} {T M:Nat}:∀ {i a:Nat},a<i->i<=3->∃ p ∈ qcF nums T M i,p.left=((16+a:Nat):Int)
 |i+1,a,h,hi=>by
  have hs:=qgE (nums:=nums) (T:=T) (M:=M) i;simp only [qcF];rcases Nat.lt_or_ge a i with ha|ha
  .obtain⟨p,hp,e⟩:=qr1 (nums:=nums) (T:=T) (M:=M) ha (by omega)
   refine⟨p,?_,e⟩;rw [List.take_append];exact List.mem_append_left _ (by rw [List.take_of_length_le (by omega)];exact hp)
  .have ha:a=i:=by omega
   subst ha;refine⟨qgV nums T M a 0,?_,rfl⟩;rw [List.take_append];refine List.mem_append_right _ ?_;have:qfb nums T M a (qgh nums (1+a) % 3+1)=qgV nums T M a 0 :: (List.range' 1 (qgh nums (1+a) % 3)).map (qgV nums T M a):=by
    rw [qfb,List.range_eq_range',List.range'_succ];rfl
   rw [this];have:7-(qcF nums T M a).length=(7-(qcF nums T M a).length-1)+1:=by omega
   rw [this,List.take_succ_cons];exact List.mem_cons_self ..
theorem qme (nums:List Int):qaM (qtK nums)=0:=by
 obtain⟨k,hk⟩:∃ k,k=qgh nums 0:=⟨_,rfl⟩
 obtain⟨M,hM⟩:∃ M,M=1+k / 4 % 3:=⟨_,rfl⟩
 obtain⟨T,hT⟩:∃ T,T=(qh2 k).length:=⟨_,rfl⟩
 have hT2:T=1+k / 2 % 2:=by rw [hT,qok]
 have e:qtK nums=⟨((1+k % 2:Nat):Int),qh2 k,[122],qcM M,16,qcF nums T M M⟩:=by simp only [qtK,<- hk,hM,hT,qhP]
 rw [e];have hnl:(qcM M).length=M:=by simp [qcM]
 have hpl:(qcF nums T M M).length<=9:=Nat.le_trans (qgE M) (by omega);generalize hg:(⟨((1+k % 2:Nat):Int),qh2 k,[122],qcM M,16,qcF nums T M M⟩:qaH)=g;have g1:g.k=((1+k % 2:Nat):Int):=by rw [<- hg]
 have g2:g.tokens=qh2 k:=by rw [<- hg]
 have g3:g.sep=[122]:=by rw [<- hg]
 have g4:g.names=qcM M:=by rw [<- hg]
 have g5:g.start=16:=by rw [<- hg]
 have g6:g.prods=qcF nums T M M:=by rw [<- hg]
 have htl:g.tokens.length=T:=by rw [g2,hT]
 have hnl':g.names.length=M:=by rw [g4,hnl]
 have htok:∀ s ∈ g.tokens,s=[97]\/s=[98]:=fun s hs=>by
  rw [g2] at hs;have:=List.mem_of_mem_take hs;simpa using this
 have hmany:qc0 g=0:=quV (by omega) (by omega) (by rw [g6];omega) (fun j p hj hp=>by
  rw [g6] at hp;obtain⟨a,b,_,rfl⟩:=qk9 (List.mem_of_getElem? hp);simp [qgV,qfd];omega)
 have hnam:qb6 g=0:=by
  refine qoI (fun j hj s hs=>?_) (fun j hj s hs=>?_)
  .have hs:=List.mem_of_getElem? hs
   simp only [qaz,List.mem_append,List.mem_singleton,g3] at hs;rcases hs with hs|rfl
   .rcases htok s hs with rfl|rfl
    .exact qqd (by decide) (by decide)
    .exact qqd (by decide) (by decide)
   .exact qqd (by decide) (by decide)
  .have hs:=List.mem_of_getElem? hs
   rw [g4] at hs;simp only [qcM,List.mem_map,List.mem_range] at hs;obtain⟨a,ha,rfl⟩:=hs;exact qtD (by omega) (by omega)
 have hnd1:(qaz g).Nodup:=by
  unfold qaz;rw [g2,g3,qh2];rcases Nat.mod_two_eq_zero_or_one (k / 2) with h|h<;>rw [h]<;>decide
 have hnd2:g.names.Nodup:=by
  rw [g4,qcM];refine List.Pairwise.map _ (fun a b (h:a≠b)=>?_) List.nodup_range;simpa using h
 have hnames:qct g=0:=by
  unfold qct;rw [if_neg (by simp [hnd1,hnd2]),hnam]
 have hgood:∀ p ∈ g.prods,qss g p:=fun p hp=>by
  rw [g6] at hp;obtain⟨a,b,ha,rfl⟩:=qk9 hp;refine⟨by simp only [qaK,qgV,Bool.and_eq_true,decide_eq_true_eq,hnl'];exact⟨(by first|omega|exact decide_eq_true (by omega)),(by first|omega|exact decide_eq_true (by omega))⟩,fun s hs=>?_⟩;simp only [qgV,qfd,List.mem_map] at hs;obtain⟨z,_,rfl⟩:=hs;simp only [qfq,qek,qaK,Bool.or_eq_true,Bool.and_eq_true,decide_eq_true_eq,htl,hnl',qxn];split
  .left
   have:=Nat.mod_lt (zF (qgh nums (4+3*a+b)) z) (show 0<T by omega);exact⟨(by first|omega|exact decide_eq_true (by omega)),(by first|omega|exact decide_eq_true (by omega))⟩
  .right
   have:=Nat.mod_lt (zF (qgh nums (4+3*a+b)) z) (show 0<M by omega);exact⟨(by first|omega|exact decide_eq_true (by omega)),(by first|omega|exact decide_eq_true (by omega))⟩
 have hsym:qco g=0:=by
  unfold qco;rw [if_pos ⟨by simp only [qaK,g5,Bool.and_eq_true,decide_eq_true_eq,hnl'];exact⟨(by first|omega|exact decide_eq_true (by omega)),(by first|omega|exact decide_eq_true (by omega))⟩,hgood⟩,if_neg,if_neg]
  .rintro⟨i,hi,hm⟩
   obtain⟨p,hp,hl⟩:=qr1 (nums:=nums) (T:=T) (M:=M) (show i<M by omega) (show M<=3 by omega);rw [qhj,List.any_eq_false] at hm;refine hm p (by rw [g6];exact hp) ?_;simp [hl]
  .rintro⟨i,p,q,hp,hq,hlt⟩
   rw [g6] at hp hq;have hsr:=qkq (nums:=nums) (T:=T) (M:=M) M;obtain⟨h1,e1⟩:=List.getElem?_eq_some_iff.1 hp;obtain⟨h2,e2⟩:=List.getElem?_eq_some_iff.1 hq;have:=List.pairwise_iff_getElem.1 hsr i (i+1) h1 h2 (by omega);rw [e1,e2] at this;omega
 unfold qaM;rw [if_neg (by rw [g1];omega),if_neg (by simp [hmany]),if_neg,if_neg (by simp [hnames]),hsym]
 rintro(h|h)
 .rw [h] at htl;simp at htl;omega
 .rw [h] at hnl';simp at hnl';omega
structure quH (g:qaH) (x:Src) (t:List Nat):Prop where
 src:qaa Tryz.prog 16 [qd5 g] (.tup [.d (qfO x),.d (.int .i64 0)])
 of:qaa Tryz.prog 54 [qfO x] (.tup [.d (qd5 g),.d (.int .i64 0)])
 text:qaa Tryz.prog 18 [qd5 g] (.tup [.d (.str t),.d (.int .i64 0)])
 parse:qaa Tryz.prog 27 [.str t] (.tup [.d (qfO x),.d (qch 0 0)])
 same:qaa Tryz.prog 22 [qfO x,qfO x] (.d (.bool true))
 qzI:qaa Tryz.prog 25 [qd5 g,qd5 g] (.d (.bool true))
theorem qya {g:qaH} (h:qaM g=0) (hl:(qaQ (qcH g)).length<=2000):quH g (qcH g) (qaQ (qcH g)):=by
 have hf:=(qdS h).fitsT;have sx:=qfH h;have hx:=qkQ sx;have L:=sx.litX;have cs:=qyr g hf;rw [show qyc g=qcH g from if_pos h,h] at cs;have co:=qAR (qcH g) L.fits L.inner;rw [show qmD (qcH g)=ofX (qcH g) from if_pos hx,qkz h,hx] at co;have cp:=qv0 (qcH g) L.fits L.inner L.print sx.bytes;rw [show qo0 (qcH g)=qaQ (qcH g) from if_pos hx,hx] at cp;have cr:=qpo hx hl;have cm:=qxR (qcH g) (qcH g) L.fits;rw [qtu] at cm;refine⟨cs,co,?_,cr,cm,qpd g hf⟩;generalize qcH g=x at cs cp;generalize qaQ x=px at cp |-;refine kF Tryz.func18 [1] fun w=>?_
 repeat' (first|refine zW ?_|refine zB ?_ ?_<;>intro h<;>try exact zk h|refine zC (cs) ?_|refine zC (cp) ?_|rfl|((exfalso;(simp at h<;>fail)))|fail)
set_option maxRecDepth 100000
theorem qpm:((allTx.take 23).all fun p=>decide ((qaQ (qcH (ofX (qmx p.1 p.2.1 p.2.2)))).length<=2000))=true:=by kernel_rfl
theorem qps:((allTx.drop 23).all fun p=>decide ((qaQ (qcH (ofX (qmx p.1 p.2.1 p.2.2)))).length<=2000))=true:=by kernel_rfl
theorem qrB {x y:Src} (hx:qa0 x=0) (hy:qa0 y=0) (lx:(qaQ x).length<=2000) (e:qaQ x=qaQ y):x=y:=by
 obtain⟨l1,a1,b1⟩:=qqV hx lx;obtain⟨l2,a2,b2⟩:=qqV hy (e ▸ lx);rw [e,a2] at a1;simp only [Prod.mk.injEq] at a1;have he:=qie a1.1;subst he;have:=(b1 []).symm.trans (b2 []);simp only [Prod.mk.injEq] at this;exact this.1
theorem qx3 (n:Int) (t:List Nat) (x:Src) (g:qaH) (ct:qaa Tryz.prog 30 [.int .i64 n] (.d (.str t))) (r1:qaa Tryz.prog 28 [.str t] (qwp (x,(0,0)))) (r2:qaa Tryz.prog 43 [qfO x] (.tup [.d (qd5 g),.d (.int .i64 0)])) :
  qaa Tryz.prog 53 [.int .i64 n] (.d (qd5 g)):=by
 unfold qwp at r1;simp only at r1;refine kF Tryz.func53 [] fun w=>?_
 repeat' (first|refine zW ?_|refine zB ?_ ?_<;>intro h<;>try exact zk h|refine zC (ct) ?_|refine zC (r1) ?_|refine zC (r2) ?_|rfl|exact zk h|fail)
theorem qyA (n:Int) (hn:W64 n):∃ g,qaM g=0/\(qaQ (qcH g)).length<=2000/\qaa Tryz.prog 53 [.int .i64 n] (.d (qd5 g)):=by
 obtain⟨p,hp,ct⟩:=qw9 n hn;obtain⟨sx,tb,hpl,hb⟩:=qxX hp;obtain⟨hg,hl,hi,hr⟩:=qve hp;have hpr:(qaQ (qcH (ofX (qmx p.1 p.2.1 p.2.2)))).length<=2000:=by
  rw [<- List.take_append_drop 23 allTx] at hp;rcases List.mem_append.1 hp with h|h
  .exact of_decide_eq_true (List.all_eq_true.1 qpm _ h)
  .exact of_decide_eq_true (List.all_eq_true.1 qps _ h)
 generalize qhR p.1 p.2.1 (qbx p.2.2).2.2=t at *;generalize qmx p.1 p.2.1 p.2.2=x at *;have hx:=qkQ sx;have r2:=qzR x sx.litX.fits;rw [show qmD x=ofX x from if_pos hx,hx] at r2;exact⟨_,hg,hpr,qx3 n t x _ ct (qvr sx tb) r2⟩
set_option maxRecDepth 10000
section
variable {H:Type} {enc:TypeId × Value->H} {w:World} {spare:Nat->Bool} {held:Bool} {fuel:Nat} {cs:List Value} {x:DataW H × List MemPlace}
abbrev qtS (n:Int):Prop:=(Lit.int .i64 n).wf=true
def qu9 (s:List Nat):Prop:=s.length<=maxLen/\∀ c ∈ s,c<256
structure qwu (p:qaV):Prop where
 left:qtS p.left
 len:p.right.length<=maxLen
 right:∀ n ∈ p.right,qtS n
structure qAb (g:qaH):Prop where
 k:qtS g.k
 tokensL:g.tokens.length<=maxLen
 tokens:∀ s ∈ g.tokens,qu9 s
 sep:qu9 g.sep
 namesL:g.names.length<=maxLen
 names:∀ s ∈ g.names,qu9 s
 start:qtS g.start
 prodsL:g.prods.length<=maxLen
 prods:∀ p ∈ g.prods,qwu p
theorem qva (hsp:∀ b,spare b=true) (h:DataW.trod enc Tryz.prog w 0 spare held fuel 66 cs=some x):∃ l:List Int,CellsRep (qf9 w) (qcV l) cs/\l.length<=maxLen/\∀ n ∈ l,qtS n :=
 qtV (DV.int .i64) qtS Tryz.underlying66 (by kernel_rfl) (Nat.le_refl _) hsp (fun n cs' y _ hy=>qwI Tryz.underlying3 hy) h
theorem arg_ints {r:Reach} {b0:Nat} {v:Value} {d:DataW H} {ps:List MemPlace} (hsp:∀ b,spare b=true) (hval:Value.okWide Tryz.prog w r b0 66 v) (h:DataW.Trod enc Tryz.prog w 0 spare held 66 v d ps) :
  ∃ l:List Int,RepD (qf9 w) (qcV l) v/\l.length<=maxLen/\∀ n ∈ l,qtS n:=by
 obtain⟨es,he,l,rfl,hl⟩:=qru (sz:=1) (R:=fun es=>∃ l:List Int,es=l.map (DV.int .i64)/\l.length<=maxLen/\∀ n ∈ l,qtS n) Tryz.underlying66 hval h (fun n x hx=>by
  obtain⟨l,h1,h2⟩:=qva hsp hx;exact⟨_,h1,l,rfl,h2⟩)
 exact⟨l,he,hl⟩
end
def e0:List DV × AV:=([(.agg [(.int .i64 2),(.sl 1 [(.str [97]),(.str [98])]),(.str [110,108]),(.sl 1 [(.str [83]),(.str [84])]),(.int .i64 16),(.sl 2 [(.agg [(.int .i64 16),(.sl 1 [(.int .i64 0),(.int .i64 17)])]),(.agg [(.int .i64 16),.nilsl]),(.agg [(.int .i64 17),(.sl 1 [(.int .i64 1),(.int .i64 16)])])])])],(.d (.int .i64 0)))
theorem k0:qaa Tryz.prog 77 e0.1 e0.2:=known qiY qak (by kernel_rfl) qdk (k:=100000) (n:=60) (by kernel_rfl)
def e1:List DV × AV:=([(.str [97])],(.d (.int .i64 0)))
theorem k1:qaa Tryz.prog 204 e1.1 e1.2:=known qiY qak (by kernel_rfl) qdk (k:=100000) (n:=60) (by kernel_rfl)
def e2:List DV × AV:=([(.str [98])],(.d (.int .i64 0)))
theorem k2:qaa Tryz.prog 204 e2.1 e2.2:=known qiY qak (by kernel_rfl) qdk (k:=100000) (n:=60) (by kernel_rfl)
def e3:List DV × AV:=([(.str [110,108])],(.d (.int .i64 0)))
theorem k3:qaa Tryz.prog 238 e3.1 e3.2:=known qiY qak (by kernel_rfl) qdk (k:=100000) (n:=60) (by kernel_rfl)
def e5:List DV × AV:=([(.str [83])],(.d (.int .i64 0)))
theorem k5:qaa Tryz.prog 204 e5.1 e5.2:=known qiY qak (by kernel_rfl) qdk (k:=100000) (n:=60) (by kernel_rfl)
def e6:List DV × AV:=([(.str [84])],(.d (.int .i64 0)))
theorem k6:qaa Tryz.prog 204 e6.1 e6.2:=known qiY qak (by kernel_rfl) qdk (k:=100000) (n:=60) (by kernel_rfl)
def e8:List DV × AV:=([(.agg [(.int .i64 2),(.sl 1 [(.str [97]),(.str [98])]),(.str [110,108]),(.sl 1 [(.str [83]),(.str [84])]),(.int .i64 16),(.sl 2 [(.agg [(.int .i64 16),(.sl 1 [(.int .i64 0),(.int .i64 17)])]),(.agg [(.int .i64 16),.nilsl]),(.agg [(.int .i64 17),(.sl 1 [(.int .i64 1),(.int .i64 16)])])])])],(.d (.int .i64 0)))
theorem k8:qaa Tryz.prog 79 e8.1 e8.2:=known qiY qak (by kernel_rfl) qdk (k:=100000) (n:=60) (by kernel_rfl)
def e9:List DV × AV:=([(.sl 1 [(.int .i64 0),(.int .i64 17)]),(.fn (.func 169) [] [(.ep [(.int .i64 2),(.sl 1 [(.str [97]),(.str [98])]),(.str [110,108]),(.sl 1 [(.str [83]),(.str [84])]),(.int .i64 16),(.sl 2 [(.agg [(.int .i64 16),(.sl 1 [(.int .i64 0),(.int .i64 17)])]),(.agg [(.int .i64 16),.nilsl]),(.agg [(.int .i64 17),(.sl 1 [(.int .i64 1),(.int .i64 16)])])])])])],(.d (.int .i64 (-1))))
theorem k9:qaa Tryz.prog 222 e9.1 e9.2:=known qiY qak (by kernel_rfl) qdk (k:=100000) (n:=60) (by kernel_rfl)
def e10:List DV × AV:=([(.sl 1 [(.int .i64 1),(.int .i64 16)]),(.fn (.func 169) [] [(.ep [(.int .i64 2),(.sl 1 [(.str [97]),(.str [98])]),(.str [110,108]),(.sl 1 [(.str [83]),(.str [84])]),(.int .i64 16),(.sl 2 [(.agg [(.int .i64 16),(.sl 1 [(.int .i64 0),(.int .i64 17)])]),(.agg [(.int .i64 16),.nilsl]),(.agg [(.int .i64 17),(.sl 1 [(.int .i64 1),(.int .i64 16)])])])])])],(.d (.int .i64 (-1))))
theorem k10:qaa Tryz.prog 222 e10.1 e10.2:=known qiY qak (by kernel_rfl) qdk (k:=100000) (n:=60) (by kernel_rfl)
def e12:List DV × AV:=([(.agg [(.int .i64 2),(.sl 1 [(.str [97]),(.str [98])]),(.str [110,108]),(.sl 1 [(.str [83]),(.str [84])]),(.int .i64 16),(.sl 2 [(.agg [(.int .i64 16),(.sl 1 [(.int .i64 0),(.int .i64 17)])]),(.agg [(.int .i64 16),.nilsl]),(.agg [(.int .i64 17),(.sl 1 [(.int .i64 1),(.int .i64 16)])])])])],(.d (.int .i64 0)))
theorem k12:qaa Tryz.prog 81 e12.1 e12.2:=known qiY qak (by kernel_rfl) qdk (k:=100000) (n:=60) (by kernel_rfl)
def e13:List DV × AV:=([(.agg [(.int .i64 2),(.sl 1 [(.str [97]),(.str [98])]),(.str [110,108]),(.sl 1 [(.str [83]),(.str [84])]),(.int .i64 16),(.sl 2 [(.agg [(.int .i64 16),(.sl 1 [(.int .i64 0),(.int .i64 17)])]),(.agg [(.int .i64 16),.nilsl]),(.agg [(.int .i64 17),(.sl 1 [(.int .i64 1),(.int .i64 16)])])])])],(.d (.int .i64 0)))
theorem k13:qaa Tryz.prog 82 e13.1 e13.2:=known qiY qak (by kernel_rfl) qdk (k:=100000) (n:=60) (by kernel_rfl)
def T1:qo7:=(.node (.node (.node (.node (.node .nil none (.node (.node .nil (some [e8]) .nil) none .nil)) none .nil) none .nil) none (.node (.node (.node .nil none (.node (.node .nil (some [e12]) .nil) none .nil)) none .nil) none (.node .nil none (.node (.node (.node .nil (some [e0]) .nil) none .nil) none .nil)))) none (.node (.node .nil none (.node .nil none (.node (.node (.node .nil none (.node .nil (some [e1,e2,e5,e6]) .nil)) none .nil) none .nil))) none (.node (.node (.node .nil none (.node (.node .nil (some [e13]) .nil) none .nil)) none .nil) none (.node .nil none (.node (.node .nil none (.node .nil none (.node .nil (some [e3]) .nil))) none (.node (.node .nil none (.node .nil (some [e9,e10]) .nil)) none .nil))))))
theorem qx7:qfR Tryz.prog T1:=⟨trivial,⟨trivial,⟨trivial,⟨trivial,⟨trivial,trivial,⟨trivial,⟨⟨k8,trivial⟩,trivial,trivial⟩,trivial⟩⟩,trivial⟩,trivial⟩,⟨trivial,⟨trivial,⟨trivial,trivial,⟨trivial,⟨⟨k12,trivial⟩,trivial,trivial⟩,trivial⟩⟩,trivial⟩,⟨trivial,trivial,⟨trivial,⟨trivial,⟨⟨k0,trivial⟩,trivial,trivial⟩,trivial⟩,trivial⟩⟩⟩⟩,⟨trivial,⟨trivial,trivial,⟨trivial,trivial,⟨trivial,⟨trivial,⟨trivial,trivial,⟨⟨k1,k2,k5,k6,trivial⟩,trivial,trivial⟩⟩,trivial⟩,trivial⟩⟩⟩,⟨trivial,⟨trivial,⟨trivial,trivial,⟨trivial,⟨⟨k13,trivial⟩,trivial,trivial⟩,trivial⟩⟩,trivial⟩,⟨trivial,trivial,⟨trivial,⟨trivial,trivial,⟨trivial,trivial,⟨⟨k3,trivial⟩,trivial,trivial⟩⟩⟩,⟨trivial,⟨trivial,trivial,⟨⟨k9,k10,trivial⟩,trivial,trivial⟩⟩,trivial⟩⟩⟩⟩⟩⟩
def e4:List DV × AV:=([(.str [110,108])],(.d (.int .i64 0)))
theorem k4:qaa Tryz.prog 204 e4.1 e4.2:=known qx7 qak (by kernel_rfl) qdk (k:=100000) (n:=60) (by kernel_rfl)
def e11:List DV × AV:=([(.agg [(.int .i64 2),(.sl 1 [(.str [97]),(.str [98])]),(.str [110,108]),(.sl 1 [(.str [83]),(.str [84])]),(.int .i64 16),(.sl 2 [(.agg [(.int .i64 16),(.sl 1 [(.int .i64 0),(.int .i64 17)])]),(.agg [(.int .i64 16),.nilsl]),(.agg [(.int .i64 17),(.sl 1 [(.int .i64 1),(.int .i64 16)])])])])],(.d (.int .i64 0)))
theorem k11:qaa Tryz.prog 80 e11.1 e11.2:=known qx7 qak (by kernel_rfl) qdk (k:=100000) (n:=60) (by kernel_rfl)
def T2:qo7:=(.node (.node (.node (.node (.node .nil none (.node (.node .nil (some [e8]) .nil) none .nil)) none .nil) none .nil) none (.node (.node (.node .nil none (.node (.node .nil (some [e12]) .nil) none .nil)) none .nil) none (.node .nil none (.node (.node (.node .nil (some [e0]) .nil) none .nil) none .nil)))) none (.node (.node (.node (.node .nil none (.node (.node .nil (some [e11]) .nil) none .nil)) none .nil) none (.node .nil none (.node (.node (.node .nil none (.node .nil (some [e1,e2,e5,e6,e4]) .nil)) none .nil) none .nil))) none (.node (.node (.node .nil none (.node (.node .nil (some [e13]) .nil) none .nil)) none .nil) none (.node .nil none (.node (.node .nil none (.node .nil none (.node .nil (some [e3]) .nil))) none (.node (.node .nil none (.node .nil (some [e9,e10]) .nil)) none .nil))))))
theorem quU:qfR Tryz.prog T2:=⟨trivial,⟨trivial,⟨trivial,⟨trivial,⟨trivial,trivial,⟨trivial,⟨⟨k8,trivial⟩,trivial,trivial⟩,trivial⟩⟩,trivial⟩,trivial⟩,⟨trivial,⟨trivial,⟨trivial,trivial,⟨trivial,⟨⟨k12,trivial⟩,trivial,trivial⟩,trivial⟩⟩,trivial⟩,⟨trivial,trivial,⟨trivial,⟨trivial,⟨⟨k0,trivial⟩,trivial,trivial⟩,trivial⟩,trivial⟩⟩⟩⟩,⟨trivial,⟨trivial,⟨trivial,⟨trivial,trivial,⟨trivial,⟨⟨k11,trivial⟩,trivial,trivial⟩,trivial⟩⟩,trivial⟩,⟨trivial,trivial,⟨trivial,⟨trivial,⟨trivial,trivial,⟨⟨k1,k2,k5,k6,k4,trivial⟩,trivial,trivial⟩⟩,trivial⟩,trivial⟩⟩⟩,⟨trivial,⟨trivial,⟨trivial,trivial,⟨trivial,⟨⟨k13,trivial⟩,trivial,trivial⟩,trivial⟩⟩,trivial⟩,⟨trivial,trivial,⟨trivial,⟨trivial,trivial,⟨trivial,trivial,⟨⟨k3,trivial⟩,trivial,trivial⟩⟩⟩,⟨trivial,⟨trivial,trivial,⟨⟨k9,k10,trivial⟩,trivial,trivial⟩⟩,trivial⟩⟩⟩⟩⟩⟩
def e7:List DV × AV:=([(.agg [(.int .i64 2),(.sl 1 [(.str [97]),(.str [98])]),(.str [110,108]),(.sl 1 [(.str [83]),(.str [84])]),(.int .i64 16),(.sl 2 [(.agg [(.int .i64 16),(.sl 1 [(.int .i64 0),(.int .i64 17)])]),(.agg [(.int .i64 16),.nilsl]),(.agg [(.int .i64 17),(.sl 1 [(.int .i64 1),(.int .i64 16)])])])])],(.d (.int .i64 0)))
theorem k7:qaa Tryz.prog 78 e7.1 e7.2:=known quU qak (by kernel_rfl) qdk (k:=100000) (n:=60) (by kernel_rfl)
def e16:List DV × AV:=([(.agg [(.int .i64 2),(.sl 1 [(.str [97]),(.str [98])]),(.str [110,108]),(.sl 1 [(.str [83]),(.str [84])]),(.int .i64 16),(.sl 2 [(.agg [(.int .i64 17),(.sl 1 [(.int .i64 1),(.int .i64 16)])]),(.agg [(.int .i64 16),(.sl 1 [(.int .i64 0),(.int .i64 17)])]),(.agg [(.int .i64 16),.nilsl])])])],(.d (.int .i64 9)))
theorem k16:qaa Tryz.prog 20 e16.1 e16.2:=known quU qak (by kernel_rfl) qdk (k:=100000) (n:=60) (by kernel_rfl)
def e17:List DV × AV:=([(.agg [(.int .i64 2),(.sl 1 [(.str [97]),(.str [98])]),(.str [110,108]),(.sl 1 [(.str [83]),(.str [84])]),(.int .i64 16),(.sl 2 [(.agg [(.int .i64 16),(.sl 1 [(.int .i64 0),(.int .i64 17)])]),(.agg [(.int .i64 16),.nilsl])])])],(.d (.int .i64 7)))
theorem k17:qaa Tryz.prog 20 e17.1 e17.2:=known quU qak (by kernel_rfl) qdk (k:=100000) (n:=60) (by kernel_rfl)
def T3:qo7:=(.node (.node (.node (.node (.node .nil none (.node (.node .nil (some [e8]) .nil) none .nil)) none .nil) none .nil) none (.node (.node (.node .nil none (.node (.node .nil (some [e12]) .nil) none .nil)) none .nil) none (.node .nil none (.node (.node (.node .nil (some [e0]) .nil) none .nil) none .nil)))) none (.node (.node (.node (.node .nil none (.node (.node .nil (some [e11]) .nil) none .nil)) none .nil) none (.node (.node .nil (some [e16,e17]) .nil) none (.node (.node (.node .nil none (.node .nil (some [e1,e2,e5,e6,e4]) .nil)) none .nil) none .nil))) none (.node (.node (.node .nil none (.node (.node .nil (some [e13]) .nil) none .nil)) none .nil) none (.node .nil none (.node (.node (.node .nil (some [e7]) .nil) none (.node .nil none (.node .nil (some [e3]) .nil))) none (.node (.node .nil none (.node .nil (some [e9,e10]) .nil)) none .nil))))))
theorem qz4:qfR Tryz.prog T3:=⟨trivial,⟨trivial,⟨trivial,⟨trivial,⟨trivial,trivial,⟨trivial,⟨⟨k8,trivial⟩,trivial,trivial⟩,trivial⟩⟩,trivial⟩,trivial⟩,⟨trivial,⟨trivial,⟨trivial,trivial,⟨trivial,⟨⟨k12,trivial⟩,trivial,trivial⟩,trivial⟩⟩,trivial⟩,⟨trivial,trivial,⟨trivial,⟨trivial,⟨⟨k0,trivial⟩,trivial,trivial⟩,trivial⟩,trivial⟩⟩⟩⟩,⟨trivial,⟨trivial,⟨trivial,⟨trivial,trivial,⟨trivial,⟨⟨k11,trivial⟩,trivial,trivial⟩,trivial⟩⟩,trivial⟩,⟨trivial,⟨⟨k16,k17,trivial⟩,trivial,trivial⟩,⟨trivial,⟨trivial,⟨trivial,trivial,⟨⟨k1,k2,k5,k6,k4,trivial⟩,trivial,trivial⟩⟩,trivial⟩,trivial⟩⟩⟩,⟨trivial,⟨trivial,⟨trivial,trivial,⟨trivial,⟨⟨k13,trivial⟩,trivial,trivial⟩,trivial⟩⟩,trivial⟩,⟨trivial,trivial,⟨trivial,⟨trivial,⟨⟨k7,trivial⟩,trivial,trivial⟩,⟨trivial,trivial,⟨⟨k3,trivial⟩,trivial,trivial⟩⟩⟩,⟨trivial,⟨trivial,trivial,⟨⟨k9,k10,trivial⟩,trivial,trivial⟩⟩,trivial⟩⟩⟩⟩⟩⟩
def e14:List DV × AV:=([(.agg [(.int .i64 2),(.sl 1 [(.str [97]),(.str [98])]),(.str [110,108]),(.sl 1 [(.str [83]),(.str [84])]),(.int .i64 16),(.sl 2 [(.agg [(.int .i64 16),(.sl 1 [(.int .i64 0),(.int .i64 17)])]),(.agg [(.int .i64 16),.nilsl]),(.agg [(.int .i64 17),(.sl 1 [(.int .i64 1),(.int .i64 16)])])])])],(.d (.int .i64 0)))
theorem k14:qaa Tryz.prog 20 e14.1 e14.2:=known qz4 qak (by kernel_rfl) qdk (k:=100000) (n:=60) (by kernel_rfl)
def T4:qo7:=(.node (.node (.node (.node (.node .nil none (.node (.node .nil (some [e8]) .nil) none .nil)) none .nil) none .nil) none (.node (.node (.node .nil none (.node (.node .nil (some [e12]) .nil) none .nil)) none .nil) none (.node .nil none (.node (.node (.node .nil (some [e0]) .nil) none .nil) none .nil)))) none (.node (.node (.node (.node .nil none (.node (.node .nil (some [e11]) .nil) none .nil)) none .nil) none (.node (.node .nil (some [e16,e17,e14]) .nil) none (.node (.node (.node .nil none (.node .nil (some [e1,e2,e5,e6,e4]) .nil)) none .nil) none .nil))) none (.node (.node (.node .nil none (.node (.node .nil (some [e13]) .nil) none .nil)) none .nil) none (.node .nil none (.node (.node (.node .nil (some [e7]) .nil) none (.node .nil none (.node .nil (some [e3]) .nil))) none (.node (.node .nil none (.node .nil (some [e9,e10]) .nil)) none .nil))))))
theorem qyL:qfR Tryz.prog T4:=⟨trivial,⟨trivial,⟨trivial,⟨trivial,⟨trivial,trivial,⟨trivial,⟨⟨k8,trivial⟩,trivial,trivial⟩,trivial⟩⟩,trivial⟩,trivial⟩,⟨trivial,⟨trivial,⟨trivial,trivial,⟨trivial,⟨⟨k12,trivial⟩,trivial,trivial⟩,trivial⟩⟩,trivial⟩,⟨trivial,trivial,⟨trivial,⟨trivial,⟨⟨k0,trivial⟩,trivial,trivial⟩,trivial⟩,trivial⟩⟩⟩⟩,⟨trivial,⟨trivial,⟨trivial,⟨trivial,trivial,⟨trivial,⟨⟨k11,trivial⟩,trivial,trivial⟩,trivial⟩⟩,trivial⟩,⟨trivial,⟨⟨k16,k17,k14,trivial⟩,trivial,trivial⟩,⟨trivial,⟨trivial,⟨trivial,trivial,⟨⟨k1,k2,k5,k6,k4,trivial⟩,trivial,trivial⟩⟩,trivial⟩,trivial⟩⟩⟩,⟨trivial,⟨trivial,⟨trivial,trivial,⟨trivial,⟨⟨k13,trivial⟩,trivial,trivial⟩,trivial⟩⟩,trivial⟩,⟨trivial,trivial,⟨trivial,⟨trivial,⟨⟨k7,trivial⟩,trivial,trivial⟩,⟨trivial,trivial,⟨⟨k3,trivial⟩,trivial,trivial⟩⟩⟩,⟨trivial,⟨trivial,trivial,⟨⟨k9,k10,trivial⟩,trivial,trivial⟩⟩,trivial⟩⟩⟩⟩⟩⟩
def e15:List DV × AV:=([],(.d (.bool true)))
theorem k15:qaa Tryz.prog 14 e15.1 e15.2:=known qyL qak (by kernel_rfl) qdk (k:=100000) (n:=60) (by kernel_rfl)
def T5:qo7:=(.node (.node (.node (.node (.node .nil none (.node (.node .nil (some [e8]) .nil) none .nil)) none .nil) none .nil) none (.node (.node (.node .nil none (.node (.node .nil (some [e12]) .nil) none .nil)) none .nil) none (.node .nil none (.node (.node (.node .nil (some [e0]) .nil) none .nil) none .nil)))) none (.node (.node (.node (.node .nil none (.node (.node .nil (some [e11]) .nil) none .nil)) none .nil) none (.node (.node .nil (some [e16,e17,e14]) .nil) none (.node (.node (.node .nil none (.node .nil (some [e1,e2,e5,e6,e4]) .nil)) none .nil) none .nil))) none (.node (.node (.node .nil none (.node (.node .nil (some [e13]) .nil) none .nil)) none .nil) none (.node .nil (some [e15]) (.node (.node (.node .nil (some [e7]) .nil) none (.node .nil none (.node .nil (some [e3]) .nil))) none (.node (.node .nil none (.node .nil (some [e9,e10]) .nil)) none .nil))))))
theorem qyZ:qfR Tryz.prog T5:=⟨trivial,⟨trivial,⟨trivial,⟨trivial,⟨trivial,trivial,⟨trivial,⟨⟨k8,trivial⟩,trivial,trivial⟩,trivial⟩⟩,trivial⟩,trivial⟩,⟨trivial,⟨trivial,⟨trivial,trivial,⟨trivial,⟨⟨k12,trivial⟩,trivial,trivial⟩,trivial⟩⟩,trivial⟩,⟨trivial,trivial,⟨trivial,⟨trivial,⟨⟨k0,trivial⟩,trivial,trivial⟩,trivial⟩,trivial⟩⟩⟩⟩,⟨trivial,⟨trivial,⟨trivial,⟨trivial,trivial,⟨trivial,⟨⟨k11,trivial⟩,trivial,trivial⟩,trivial⟩⟩,trivial⟩,⟨trivial,⟨⟨k16,k17,k14,trivial⟩,trivial,trivial⟩,⟨trivial,⟨trivial,⟨trivial,trivial,⟨⟨k1,k2,k5,k6,k4,trivial⟩,trivial,trivial⟩⟩,trivial⟩,trivial⟩⟩⟩,⟨trivial,⟨trivial,⟨trivial,trivial,⟨trivial,⟨⟨k13,trivial⟩,trivial,trivial⟩,trivial⟩⟩,trivial⟩,⟨⟨k15,trivial⟩,trivial,⟨trivial,⟨trivial,⟨⟨k7,trivial⟩,trivial,trivial⟩,⟨trivial,trivial,⟨⟨k3,trivial⟩,trivial,trivial⟩⟩⟩,⟨trivial,⟨trivial,trivial,⟨⟨k9,k10,trivial⟩,trivial,trivial⟩⟩,trivial⟩⟩⟩⟩⟩⟩
theorem qt2:qaa Tryz.prog 51 [] (.d (.bool true)):=known qyZ qak (by kernel_rfl) qdk (k:=100000) (n:=60) (by kernel_rfl)
theorem qn0 {g:qaH} (h:qaM g=0) (h1:∀ s ∈ g.tokens,s.length<=1) (h2:g.sep.length<=1) (h3:∀ s ∈ g.names,s.length<=1) (h4:g.prods.length<=9):(qaQ (qcH g)).length<=2000:=by
 have sx:=qfH h;have ht8:=sx.tok8;have hr8:=sx.rul8;have hst:(qcH g).start.length<=1:=by
  have:=sx.start;rw [qb5] at this;exact h3 _ this
 have e1:(List.intercalate [44,32] (qcH g).tokens).length<=(qcH g).tokens.length*3:=by
  have:=qdV (qcH g).tokens (qcH g).tokens.length (Nat.le_refl _);rw [List.take_length] at this;rw [<- this];exact qg9 (B:=1) h1 _
 have e2:(qbF (qcH g) (qcH g).rules.length).length<=(qcH g).rules.length*150:=by
  unfold qbF;rw [List.take_length,List.flatMap_def];have:=qdy (l:=(qcH g).rules.map qeQ) (n:=150) fun u hu=>by
   obtain⟨r,hr,rfl⟩:=List.mem_map.1 hu;have hn:r.name.length<=1:=by
    have:r.name ∈ qab (qcH g):=List.mem_map.2 ⟨r,hr,rfl⟩;rw [qb5] at this;exact h3 _ this
   have ha:r.alts.length<=9:=by
    have hs:=qog h;have:∀ (l:List SRule),r ∈ l->r.alts.length<=(l.map (·.alts.length)).sum:=by
     intro l
     induction l with
     |nil=>intro h;cases h
     |cons u l ih =>
      intro h;simp only [List.map_cons,List.sum_cons];rcases List.mem_cons.1 h with rfl|h
      .omega
      .have:=ih h;omega
    have:=this _ hr;omega
   have g4:=qhe (al:=r.alts) (B:=12) (fun a ha=>by
    have h5:=qoy (a:=a) (B:=1) fun s hs=>by
     rcases sx.known r hr a ha s hs with h|h
     .rw [qb5] at h;exact h3 s h
     .exact h1 s h
    have:=sx.alt6 r hr a ha;omega) r.alts.length
   unfold qeQ;simp only [List.length_append,List.length_cons,List.length_nil];omega
  rwa [List.length_map] at this
 have h2':(qcH g).sep.length<=1:=h2;unfold qaQ qfJ;simp only [List.length_append,List.length_cons,List.length_nil];omega
theorem qr5 (nums:List Int):(qaQ (qcH (qtK nums))).length<=2000:=by
 refine qn0 (qme nums) (fun s hs=>?_) (by simp [qtK]) (fun s hs=>?_) ?_
 .have:s ∈ qh2 (qgh nums 0):=hs
  have:=List.mem_of_mem_take this
  rcases(by simpa using this:s=[97]\/s=[98]) with rfl|rfl<;>simp
 .have:s ∈ qcM (qhP (qgh nums 0)):=hs
  simp only [qcM,List.mem_map] at this;obtain⟨a,_,rfl⟩:=this
  simp
 .have:=qgE (nums:=nums) (T:=(qh2 (qgh nums 0)).length) (M:=qhP (qgh nums 0)) (qhP (qgh nums 0))
  show(qcF nums (qh2 (qgh nums 0)).length (qhP (qgh nums 0)) (qhP (qgh nums 0))).length<=9
  have:qhP (qgh nums 0)<=3:=by unfold qhP;omega
  omega
set_option maxHeartbeats 8000000 in
theorem qt7 (nums:List Int) (n:Int) (g h:qaH) (x y:Src) (A B:List Nat) (d:Bool) (hA:qaa Tryz.prog 51 [] (.d (.bool true)))
  (c1:qaa Tryz.prog 52 [qcV nums] (.d (qd5 g))) (c2:qaa Tryz.prog 53 [.int .i64 n] (.d (qd5 h)))
  (b1:quH g x A) (b2:quH h y B) (hd:(A == B)=d) (s3:qaa Tryz.prog 25 [qd5 g,qd5 h] (.d (.bool d))) :
  qaa Tryz.prog 9 [qcV nums,.int .i64 n] (.d (.bool true)):=by
 obtain⟨p1,o1,t1,q1,s1,m1⟩:=b1;obtain⟨p2,o2,t2,q2,s2,m2⟩:=b2;have hv:AV.d (.bool (A == B))=.d (.bool d):=by rw [hd]
 refine kF Tryz.func9 [27] fun w=>?_
 repeat' (first|refine zW ?_|refine zB ?_ ?_<;>intro h<;>try exact zk h|refine zC (hA) ?_|refine zC (c1) ?_|refine zC (c2) ?_|rfl|exact zk h|fail)
 refine Run.loopT (fun i:Nat=>⟨PT.ofList [(5,.d (.bool true)),(6,.d (.sl 6 [qd5 g,qd5 h])),(7,.d (.int .i64 (i:Nat)))],[],[]⟩) (fun i=>i<=2) (fun i=>2-i) 0 (Nat.zero_le _) (ti _ 0) (fun i hi=>?_)
 rcases(by omega:i=0\/i=1\/i=2) with rfl|rfl|rfl
 .repeat' (first|refine zW ?_|refine zB ?_ ?_<;>intro h<;>try exact zk h|refine zC (p1) ?_|refine zC (o1) ?_|refine zC (t1) ?_|refine zC (q1) ?_|refine zC (s1) ?_|refine zC (m1) ?_|(exact⟨1,by omega,by omega,(ti _ 0)⟩)|exact zk h|fail)
 .repeat' (first|refine zW ?_|refine zB ?_ ?_<;>intro h<;>try exact zk h|refine zC (p2) ?_|refine zC (o2) ?_|refine zC (t2) ?_|refine zC (q2) ?_|refine zC (s2) ?_|refine zC (m2) ?_|(exact⟨2,by omega,by omega,(ti _ 0)⟩)|exact zk h|fail)
 .cases d with
  |true =>
   repeat' (first|refine zV hv ?_|refine zW ?_|refine zB ?_ ?_<;>intro h<;>try exact zk h|refine zC (t1) ?_|refine zC (t2) ?_|refine zC (s3) ?_|rfl|exact zk h|fail)
  |false =>
   repeat' (first|refine zV hv ?_|refine zW ?_|refine zB ?_ ?_<;>intro h<;>try exact zk h|refine zC (t1) ?_|refine zC (t2) ?_|refine zC (s3) ?_|rfl|exact zk h|fail)
theorem qyY (nums:List Int) (hn:∀ n ∈ nums,W64 n) (n:Int) (hw:W64 n):qaa Tryz.prog 9 [qcV nums,.int .i64 n] (.d (.bool true)):=by
 have g1:=qme nums;have l1:=qr5 nums;have c1:=qAC nums hn;generalize qtK nums=g at g1 l1 c1;obtain⟨h,g2,l2,c2⟩:=qyA n hw;have b1:=qya g1 l1;have b2:=qya g2 l2;have f1:=(qdS g1).fitsT;have f2:=(qdS g2).fitsT;by_cases hgh:g=h
 .subst hgh
  exact qt7 nums n g g _ _ _ _ true qt2 c1 c2 b1 b1 (by simp) (qpd g f1)
 .exact qt7 nums n g h _ _ _ _ false qt2 c1 c2 b1 b2 (by
   simp only [beq_eq_false_iff_ne,ne_eq];intro e;have:=qrB (qkQ (qfH g1)) (qkQ (qfH g2)) l1 e;refine hgh ?_;rw [<- qkz g1,<- qkz g2,this]) (qsZ g h f1 f2 hgh)
theorem qw3 {n:Int} (h:(Lit.int .i64 n).wf=true):W64 n:=by
 simp only [Lit.wf,Bool.and_eq_true,decide_eq_true_eq] at h;exact h
theorem lawGbA (nums:List Int) (hn:nums.length<=maxLen/\∀ n ∈ nums,qtS n) (n:Int) (hw:(Lit.int .i64 n).wf=true) :
  qaa Tryz.prog 9 [qcV nums,.int .i64 n] (.d (.bool true)):=qyY nums (fun n h=>qw3 (hn.2 n h)) n (qw3 hw)
end Go.Av
end

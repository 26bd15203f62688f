/-
  Parts of the way to the law, joined. Conditions stand at each.
-/
import Derived.Test.YtbhonjkfkdeneaaGreatGb4
import Derived.Test.YtbhonjkfkdeneaaGreatGb5
import Derived.Test.YtbhonjkfkdeneaaGreatGb3
set_option linter.all false
noncomputable section
namespace Go.Av
open Go Go.Proofs
set_option maxRecDepth 10000
theorem qwd:∀ t:List Nat,t.length<=1048576->qaa Tryz.prog 229 [.str t] (.d (.bool (qfh t))):=fun t h=>by
 have c1:=small t (by omega);have c2:=qfV t (by omega);unfold qfh;cases h1:qap t with
 |true =>
  rw [h1] at c1;refine kF Tryz.func229 [] fun w=>?_
  repeat' (first|refine zW ?_|refine zB ?_ ?_<;>intro h<;>try exact zk h|refine zC (c1) ?_|refine zC (c2) ?_|rfl|exact zk h|fail)
 |false =>
  rw [h1] at c1;rw [Bool.false_or];refine kF Tryz.func229 [] fun w=>?_
  repeat' (first|refine zW ?_|refine zB ?_ ?_<;>intro h<;>try exact zk h|refine zC (c1) ?_|refine zC (c2) ?_|rfl|exact zk h|fail)
abbrev pOu (s:List Nat) (v:PS) (u:List Nat × Nat):List Ob:=[.box [.d (.str s),.d (.sl 3 (v.l.map qdJ)),.d (.int .i64 v.x.k),.sr 1 1 (v.x.tokens.map .str),.d (.str v.x.sep),.d (.str v.x.start),.sr 2 2 (v.x.rules.map qbV),.mp 3,.sr 4 2 (v.uses.map qp8++[qp8 u]),.d (.int .i64 (v.total:Nat))],.room v.x.tokens.length 1,.room v.x.rules.length 2,.map (kvN v.names),.room (v.uses.length+1) 2]
theorem qur (s:List Nat) (v:PS) (u:List Nat × Nat):pO s { v with uses:=v.uses++[u] }=pOu s v u:=by
 unfold pO qqf pOu;simp only [List.map_append,List.map_cons,List.map_nil,List.length_append,List.length_cons,List.length_nil]
set_option maxHeartbeats 4000000 in
theorem startC (s:List Nat) (p:PS) (hb:PB p):ACall Tryz.prog 101 [.bp 0 0] (pO s p) (qsi (qeI s p)) (qvc s (qeI s p)):=by
 have w:Fz [23]:=trivial;have c0:=qtL s p qbk;unfold qeI;cases h0:qa3 s 1 qbk p with
 |error e =>
  rw [h0] at c0;simp only [Except.bind];refine qaj (fnB Tryz.func101 [23]) rfl rfl rfl rfl ?_
  repeat' (first|refine zW ?_|refine zB ?_ ?_<;>intro h<;>try exact zk h|refine oFP (c0) ?_|(exact⟨rfl,rfl,wkE⟩)|exact zk h|fail)
 |ok q =>
  rw [h0] at c0;obtain⟨e1,e2,e3⟩:=qga h0;have hbq:=hb.l' e1 e3 (by omega);simp only [Except.bind];have c1:=qs0 s q _ qae hbq.len qoM;cases h1:qcb s qae q with
  |error e =>
   rw [h1] at c1;refine qaj (fnB Tryz.func101 [23]) rfl rfl rfl rfl ?_
   repeat' (first|refine zW ?_|refine zB ?_ ?_<;>intro h<;>try exact zk h|refine oF (c0) ?_|refine eF (c0) ?_|refine oFP (c1) ?_|(exact⟨rfl,rfl,wkE⟩)|exact zk h|fail)
  |ok v =>
   rw [h1] at c1;obtain⟨x,v⟩:=v;have hu:v.uses.length<=200000:=by have:=(qge h1).1;simp only at this;rw [this];have:=hbq.uses;simp only;omega
   simp only;have ec:=qur s { v with x:={ v.x with start:=x.t } } (x.t,x.a);have c2:=qxA s { v with x:={ v.x with start:=x.t },uses:=v.uses++[(x.t,x.a)] };rw [show pO s { v with x:={ v.x with start:=x.t },uses:=v.uses++[(x.t,x.a)] }=pOu s { v with x:={ v.x with start:=x.t } } (x.t,x.a) from ec] at c2;cases h2:qa3 s 3 qau { v with x:={ v.x with start:=x.t },uses:=v.uses++[(x.t,x.a)] } with
   |error e =>
    rw [h2] at c2;refine qaj (fnB Tryz.func101 [23]) rfl rfl rfl rfl ?_
    repeat' (first|refine zW ?_|refine zB ?_ ?_<;>intro h<;>try exact zk h|refine oF (c0) ?_|refine eF (c0) ?_|refine oF (c1) ?_|refine eF (c1) ?_|refine oFP (c2) ?_|refine zAp ?_|(exact⟨rfl,rfl,wkE⟩)|exact zk h|fail)
   |ok q3 =>
    rw [h2] at c2;refine qad qak (fnB Tryz.func101 [23]) rfl rfl rfl rfl rfl ?_
    repeat' (first|refine zW ?_|refine zB ?_ ?_<;>intro h<;>try exact zk h|refine oF (c0) ?_|refine eF (c0) ?_|refine oF (c1) ?_|refine eF (c1) ?_|refine oF (c2) ?_|refine eF (c2) ?_|refine zAp ?_|(((first|refine Yt ?_|skip);exact⟨trivial,_,_,rfl,rfl,.refl,wkE⟩))|exact zk h|fail)
abbrev qwy:Except Fa (List (List Nat) × PS)->AV
 |.ok v=>.d (qao v.1)
 |.error e=>.pan (qoE e)
abbrev qxg (s:List Nat):Except Fa (List (List Nat) × PS)->List Ob
 |.ok v=>pO s v.2
 |.error _=>pG
def KXa (s:List Nat) (rv:Array ResultVar) (R:Except Fa (List (List Nat) × PS)):Ex->S->Prop:=fun e st=>match R with
 |.ok v=>(match e with|.normal=>True|.ret=>True|_=>False)/\∃ objs2 r0,qaX H0 st.dl none st.objs=some (none,objs2)/\qaD Et ⟨st.tm,objs2,[]⟩ rv=some r0/\AvR r0 (.d (qao v.1))/\WkObs objs2 (pO s v.2)
 |.error x=>e=.pan (qoE x)/\st.dl=[]/\WkObs st.objs pG
theorem qw8 {f:FuncId} {i:FnI} (hF:qmt Tryz.prog f i) {args:List AV} {s:List Nat} {p:PS} {R:Except Fa (List (List Nat) × PS)} (hlen:args.length=i.np) (hle:Nat.ble i.np i.nt=true)
  (h:Run Tryz.prog i.nt (pO s p).length none i.body ⟨qb7 0 args .nil,pO s p,[]⟩ (KXa s i.results R)):ACall Tryz.prog f args (pO s p) (qwy R) (qxg s R):=by
 cases R with
 |ok q=>exact qad qak hF hlen hle rfl rfl rfl h
 |error x=>exact qaj hF hlen hle rfl rfl h
theorem qo3 {s:List Nat}:∀ (n:Nat) (acc:List (List Nat)) {p:PS} {v:List (List Nat) × PS},qpK s n acc p=.ok v->v.2.x=p.x/\v.2.names=p.names/\v.2.total=p.total/\(∀ x ∈ v.2.l,x ∈ p.l)/\v.2.l.length<=p.l.length/\v.2.uses.length+v.2.l.length=p.uses.length+p.l.length/\(acc.length<=6->v.1.length<=6)/\((∀ t ∈ acc,t.length<=1048576)->(∀ x ∈ p.l,x.t.length<=1048576)->∀ t ∈ v.1,t.length<=1048576)
 |0,acc,p,v,h=>by simp only [qpK,Except.ok.injEq] at h;rw [<- h];exact⟨rfl,rfl,rfl,fun _ h=>h,Nat.le_refl _,rfl,id,fun h _=>h⟩
 |n+1,acc,p,v,h=>by
  unfold qpK at h;cases hl:p.l with
  |nil =>
   rw [hl] at h;simp only [Except.ok.injEq] at h;rw [<- h,hl];exact⟨rfl,rfl,rfl,fun z hz=>(by first|exact hz|(rw [hl] at hz;exact hz)|(simp only [hl] at hz;exact hz)),by simp [hl],by simp [hl],id,fun h _=>h⟩
  |cons x l =>
   rw [hl] at h;simp only at h;split at h
   .cases hw:qcb s qfh p with
    |error e=>rw [hw] at h;cases h
    |ok q =>
     rw [hw] at h;obtain⟨w1,w2⟩:=qge hw;simp only [Except.bind] at h;split at h
     .cases h
     .rename_i h6
      have ih:=qo3 n _ h;have eq1:q.1=x/\q.2.l=l:=by rw [hl] at w2;simp only [List.cons.injEq] at w2;exact⟨w2.1.symm,w2.2.symm⟩
      obtain⟨i1,i2,i3,i4,i5,i6,i7,i8⟩:=ih;simp only at i1 i2 i3 i4 i5 i6;have ex:q.2.x=p.x:=by rw [w1]
      have en:q.2.names=p.names:=by rw [w1]
      have et:q.2.total=p.total:=by rw [w1]
      have eu:q.2.uses=p.uses:=by rw [w1]
      refine⟨i1.trans ex,i2.trans en,i3.trans et,fun y hy=>?_,?_,?_,fun ha=>i7 (by rw [List.length_append];simp;omega),fun ha hp=>i8 (fun t ht=>?_) (fun y hy=>hp y ?_)⟩
      .have:=i4 y hy;rw [eq1.2] at this;exact List.mem_cons_of_mem _ this
      .rw [eq1.2] at i5;simp;omega
      .rw [eq1.2,eu] at i6;simp at i6 |-;omega
      .rcases List.mem_append.1 ht with ht|ht
       .exact ha t ht
       .rw [List.mem_singleton.1 ht,eq1.1];exact hp x List.mem_cons_self
      .rw [eq1.2] at hy;exact List.mem_cons_of_mem _ hy
   .simp only [Except.ok.injEq] at h
    rw [<- h];exact⟨rfl,rfl,rfl,fun z hz=>(by first|exact hz|(rw [hl] at hz;exact hz)|(simp only [hl] at hz;exact hz)),by simp [hl],by simp [hl],id,fun h _=>h⟩
set_option maxHeartbeats 8000000 in
theorem qAJ (s:List Nat) (p:PS) (hb:PB p):ACall Tryz.prog 187 [.bp 0 0] (pO s p) (qwy (qdI s p)) (qxg s (qdI s p)):=by
 have w:Fz [33,45]:=trivial;unfold qdI;obtain⟨R,hR⟩:∃ R,R=qpK s (p.l.length+1) [] p:=⟨_,rfl⟩
 rw [<- hR];refine qw8 (fnB Tryz.func187 [33,45]) rfl rfl ?_
 repeat' (first|refine zW ?_|refine zB ?_ ?_<;>intro h<;>try exact zk h|refine zX ?_|exact zk h|fail)
 refine Run.mkRoom 3 1 [(0,.bp 0 0),(3,.sr 5 1 [])] (by kernel_rfl) (qbW (by intro p hp;simp only [List.mem_cons,List.not_mem_nil,or_false] at hp;rcases hp with rfl|rfl<;>first|exact .inl ⟨rfl,rfl⟩|exact .inr (by kernel_rfl))) ?_;refine Run.loopT (fun y:Nat × List (List Nat) × PS=>⟨PT.ofList [(0,.bp 0 0),(3,.sr 5 1 (y.2.1.map .str))],pO s y.2.2++[.room y.2.1.length 1],[]⟩)
  (fun y=>qpK s y.1 y.2.1 y.2.2=R/\PB y.2.2/\y.2.2.l.length<y.1/\y.2.1.length<=6) (fun y=>y.1) (p.l.length+1,[],p) ⟨hR.symm,hb,Nat.lt_succ_self _,by simp⟩ (ti _ 6) (fun y hy=>?_)
 obtain⟨n,acc,y⟩:=y;obtain⟨i1,i2,i3,i4⟩:=hy;simp only at i1 i2 i3 i4 |-;obtain⟨n,rfl⟩:∃ j,n=j+1:=⟨n-1,by omega⟩
 unfold qpK at i1;cases hl:y.l with
 |nil =>
  rw [hl] at i1;simp only at i1;obtain⟨yl,yx,yn,yu,yt⟩:=y;simp only at hl;subst hl;subst i1
  repeat' (first|refine zW ?_|refine zB ?_ ?_<;>intro h<;>try exact zk h|refine zX ?_|(((first|refine Yt ?_|skip);exact⟨trivial,_,_,rfl,rfl,.sr,wkE⟩))|exact zk h|fail)
 |cons x l =>
  rw [hl] at i1;simp only at i1;by_cases hk:x.k=1
  .rw [if_pos hk] at i1
   have cw:=qs0 s y _ qfh i2.len qwd;have hu:y.uses.length<=200000:=by have:=i2.uses;omega
   cases hw:qcb s qfh y with
   |error e9 =>
    rw [hw] at cw i1;simp only [Except.bind] at i1;subst i1;unfold pO qqf at cw |-;rw [hl,List.map_cons] at cw |-
    repeat' (first|refine zW ?_|refine zB ?_ ?_<;>intro h<;>try exact zk h|refine zX ?_|refine oFP (cw) ?_|refine zI w (.d (.ep [.int .i64 (x.k:Nat),.str x.t,.int .i64 (x.a:Nat)])) hl ?_|(exact⟨rfl,rfl,wkE⟩)|exact zk h|fail)
   |ok v =>
    rw [hw] at cw i1;obtain⟨w1,w2⟩:=qge hw;obtain⟨x',v⟩:=v;simp only at w1 w2;rw [hl] at w2;simp only [List.cons.injEq] at w2;obtain⟨rfl,w2⟩:=w2;simp only [Except.bind] at i1;have huv:v.uses.length<=200000:=by rw [w1];exact hu
    by_cases h6:acc.length=6
    .rw [if_pos h6] at i1
     subst i1;have cf:=qf1 s v 6 x.a;unfold pO qqf at cw |-;rw [hl,List.map_cons] at cw |-
     repeat' (first|refine zW ?_|refine zB ?_ ?_<;>intro h<;>try exact zk h|refine zX ?_|refine oF (cw) ?_|refine eF (cw) ?_|refine oFP (cf) ?_|refine zI w (.d (.ep [.int .i64 (x.k:Nat),.str x.t,.int .i64 (x.a:Nat)])) hl ?_|(exact⟨rfl,rfl,wkE⟩)|exact zk h|fail)
    .rw [if_neg h6] at i1
     have hbv:PB { v with uses:=v.uses++[(x.t,x.a)] }:=i2.of (fun z hz=>by rw [hl];simp only at hz;rw [<- w2] at hz;exact List.mem_cons_of_mem _ hz) (by simp only;rw [<- w2,hl];simp) (by simp only;rw [w1];exact i2.toks) (by simp only;rw [w1];exact i2.rules)
      (by have:=i2.uses;rw [hl] at this;simp only;rw [w1];simp only;rw [<- w2];simp at this |-;omega) (by simp only;rw [w1];exact i2.total)
     have fin:∀ s1:S,qbU 5 s1 ⟨PT.ofList [(0,.bp 0 0),(3,.sr 5 1 (acc.map .str++[.str x.t]))],pOu s v (x.t,x.a)++[.room (acc.length+1) 1],[]⟩ ->
       ∃ y:Nat × List (List Nat) × PS,(qpK s y.1 y.2.1 y.2.2=R/\PB y.2.2/\y.2.2.l.length<y.1/\y.2.1.length<=6)/\y.1<n+1/\qbU 5 s1 ⟨PT.ofList [(0,.bp 0 0),(3,.sr 5 1 (y.2.1.map .str))],pO s y.2.2++[.room y.2.1.length 1],[]⟩:=fun s1 ht =>
      ⟨(n,acc++[x.t],{ v with uses:=v.uses++[(x.t,x.a)] }),⟨i1,hbv,by simp only;rw [<- w2];rw [hl] at i3;simp at i3;omega,by simp;omega⟩,Nat.lt_succ_self _,by
       show qbU 5 s1 ⟨PT.ofList [(0,.bp 0 0),(3,.sr 5 1 ((acc++[x.t]).map .str))],pO s { v with uses:=v.uses++[(x.t,x.a)] }++[.room (acc++[x.t]).length 1],[]⟩
       rw [qur];simpa using ht⟩
     unfold pO qqf at cw |-;rw [hl,List.map_cons] at cw |-
     repeat' (first|refine zW ?_|refine zB ?_ ?_<;>intro h<;>try exact zk h|refine zX ?_|refine oF (cw) ?_|refine eF (cw) ?_|refine zI w (.d (.ep [.int .i64 (x.k:Nat),.str x.t,.int .i64 (x.a:Nat)])) hl ?_|refine zAp ?_|(exact fin _ (ti _ 6))|exact zk h|fail)
  .rw [if_neg hk] at i1
   obtain⟨yl,yx,yn,yu,yt⟩:=y;simp only at hl;subst hl;subst i1;have hl:x=x:=rfl
   repeat' (first|refine zW ?_|refine zB ?_ ?_<;>intro h<;>try exact zk h|refine zX ?_|refine zI w (.d (.ep [.int .i64 (x.k:Nat),.str x.t,.int .i64 (x.a:Nat)])) hl ?_|(((first|refine Yt ?_|skip);exact⟨trivial,_,_,rfl,rfl,.sr,wkE⟩))|exact zk h|fail)
section
variable {s:List Nat} {ls:List Lx}
theorem Ok.bad {r:RS} {Q Q':PS->Prop} {e:Fa} (h:Ok ls r Q (.error e)):Ok ls r Q' (.error e):=h
theorem qtz {r:RS} {p:PS} (h:Rel ls r p) (hN:NH p):Ok ls (qeB s ls r) NH (qhT s p):=by
 have h1:=qdi (s:=s) h 1 qcz;unfold qhT;simp only [qeB];generalize qaG s ls 1 qcz r=r1 at h1 |-;cases hq:qa3 s 1 qcz p with
 |error e =>
  rw [hq] at h1;have h2:(qa5 s ls r1).2.f=e:=by rw [qnX (by rw [h1.1];exact h1.2),h1.1]
  have h3:(qa5 s ls r1).2.f.1≠0:=by rw [h2];exact h1.2
  simp only [h3,false_and,if_false,Except.bind,Ok];rw [qaY h3,h2];exact⟨rfl,h1.2⟩
 |ok q =>
  rw [hq] at h1;obtain⟨hr,e1,_⟩:=h1;simp only [Except.bind];rcases hr.cases (s:=s) with⟨x,hx,hl,_,e2,e3,hr2⟩|⟨hx,hl,_,e2,e3⟩
  .rw [e2,e3]
   simp only [hr.f0,true_and,ne_eq];by_cases hk:x.k=2
   .simp only [hk,not_true,if_false,hr.f0,if_true]
    cases hnum:qdP x.t with
    |true =>
     simp only [if_true];have hr3:Rel ls { r1 with pos:=r1.pos+1,x:={ r1.x with k:=(qd6 x.t:Nat) } } { q with l:=ls.drop (r1.pos+1),x:={ q.x with k:=(qd6 x.t:Nat) } }:=⟨hr.f,rfl,by simp only [hr.x],hr.n⟩
     have h4:=qdi (s:=s) hr3 3 qau;cases hq4:qa3 s 3 qau { q with l:=ls.drop (r1.pos+1),x:={ q.x with k:=(qd6 x.t:Nat) } } with
     |error e=>rw [hq4] at h4;exact h4
     |ok q4 =>
      rw [hq4] at h4;refine⟨h4.1,?_⟩;rw [h4.2.1,e1];exact hN
    |false =>
     simp only [Bool.false_eq_true,if_false,Ok];rw [qaY (by simp [qaw,hr.f0])];simp [qaw,hr.f0]
   .have hf:(qaw 3 x.a { r1 with pos:=r1.pos+1 }).f=(3,x.a):=by simp [qaw,hr.f0]
    have hf1:¬ (qaw 3 x.a { r1 with pos:=r1.pos+1 }).f.1=0:=by rw [hf];simp
    simp only [hk,not_false_iff,if_true,hf1,if_false,Ok];rw [qaY hf1,hf]
    simp
  .rw [e2,e3]
   simp only [Ok];rw [if_neg (by simp),if_neg (by simp),qaY (by simp)]
   simp
theorem quF {r:RS} {p:PS} (h:Rel ls r p) (hN:NH p):Ok ls (qaG s ls 3 qau (qaL s ls (ls.length+1) (qaG s ls 1 qaZ r))) NH (qdb s p):=by
 have h1:=qdi (s:=s) h 1 qaZ;unfold qdb;generalize qaG s ls 1 qaZ r=r1 at h1 |-;cases hq:qa3 s 1 qaZ p with
 |error e =>
  rw [hq] at h1;have h3:r1.f.1≠0:=by rw [h1.1];exact h1.2
  simp only [Except.bind,Ok];rw [qeT h3,qaY h3];exact h1
 |ok q =>
  rw [hq] at h1;obtain⟨hr,e1,_⟩:=h1;have hN1:NH q:=by rw [e1];exact hN
  have hlen:q.l.length<=ls.length:=by rw [hr.l,List.length_drop];omega
  have ht:=qkk (s:=s) (ls.length+1) q.l.length hr hN1 (by omega) (Nat.le_refl _);have ho:=qlw (s:=s) hr hN1;simp only [Except.bind];cases hq2:qeM s q with
  |error e =>
   rw [hq2] at ht;simp only [Except.bind,Ok] at ht |-;rw [qaY (by rw [ht.1];exact ht.2)];exact ht
  |ok q2 =>
   rw [hq2] at ht ho;have hl2:=ho.2.2;simp only [Except.bind] at ht |-;rw [hl2];cases hq3:qcm s q.l.length q2 with
   |error e =>
    rw [hq3] at ht;simp only [Ok] at ht |-;rw [qaY (by rw [ht.1];exact ht.2)];exact ht
   |ok q3 =>
    rw [hq3] at ht;simp only [Ok] at ht |-;have h4:=qdi (s:=s) ht.1 3 qau;cases hq4:qa3 s 3 qau q3 with
    |error e=>rw [hq4] at h4;exact h4
    |ok q4 =>
     rw [hq4] at h4;refine⟨h4.1,?_⟩;rw [h4.2.1];exact ht.2
structure NK (p:PS):Prop where
 know:∀ t,qdD p.names t=(qc8 p.x.tokens t,decide (t=p.x.sep),qc8 (qab p.x) t)
 small:qap p.x.sep=true
 caps:∀ t ∈ qab p.x,qae t=true
 toks:∀ t ∈ p.x.tokens,qap t=true
theorem qvn {r:RS} {p:PS} (h:Rel ls r p) (hN:NH p):Ok ls (qso s ls r) (fun q=>NK q/\q.uses=[]/\q.x.rules=[]) (qp9 s p):=by
 have h1:=qdi (s:=s) h 1 qf2;unfold qp9;simp only [qso];generalize qaG s ls 1 qf2 r=r1 at h1 |-;cases hq:qa3 s 1 qf2 p with
 |error e =>
  rw [hq] at h1;have h1':r1.f.1≠0:=by rw [h1.1];exact h1.2
  have h2:=qiK (s:=s) (ls:=ls) h1';have h3:(qbt s ls false (qaF s ls r1).2).2.f=r1.f:=by rw [h2,qhg h1']
  simp only [Except.bind,Ok];rw [ql4 (by simp only [h3];exact h1'),qaY (by simp only [h3];exact h1')];exact⟨h3.trans h1.1,h1.2⟩
 |ok q =>
  rw [hq] at h1;obtain⟨hr,e1,_⟩:=h1;have hN1:NH q:=by rw [e1];exact hN
  simp only [Except.bind];have hw:=qlq (s:=s) hr false;simp only [Bool.false_eq_true,if_false] at hw;unfold qa8;cases hq2:qcb s qap q with
  |error e =>
   rw [hq2] at hw;have h4:=qh6 hw.1 hw.2;have h3:(qbt s ls false (qaF s ls r1).2).2.f.1≠0:=by rw [h4];exact hw.1
   simp only [Except.bind,Ok];rw [ql4 (by simp only [h4];exact hw.1),qaY (by simp only [h4];exact hw.1)];exact⟨h4,hw.1⟩
  |ok q2 =>
   rw [hq2] at hw;obtain⟨x,q2⟩:=q2;obtain⟨e0,_,e2,e3,e4,e5,_,_⟩:=hw;simp only at e0 e2 e3 e4 e5;have hkn:qdD q2.names x.t=(qc8 q.x.tokens x.t,false,false):=by rw [e0];exact hN1.1 _
   have hrt:r1.x.tokens=q.x.tokens:=by rw [hr.x]
   simp only [Except.bind,e2,e3,hkn];by_cases hh:qc8 q.x.tokens x.t=true
   .rw [if_pos (by simp [hh])]
    simp only [Ok,qgj,hrt,hh,if_true];rw [qaY (by simp [qaw,hr.f0])];simp [qaw,hr.f0]
   .rw [if_neg (by simp [hh]),if_neg (by simp)]
    have hnew:∀ a (r':RS),qgj r1.x.tokens x.t a r'=r':=fun a r'=>by rw [qgj,hrt,if_neg (by simp [hh])]
    simp only [hnew];have hr3:Rel ls { r1 with pos:=r1.pos+1,x:={ r1.x with sep:=x.t } } { q2 with x:={ q2.x with sep:=x.t },names:=qp4 q2.names x.t (!true,true,false) }:=⟨hr.f,e4.l,by simp only [hr.x,e0],e4.n⟩
    have h5:=qdi (s:=s) hr3 3 qau;cases hq5:qa3 s 3 qau { q2 with x:={ q2.x with sep:=x.t },names:=qp4 q2.names x.t (!true,true,false) } with
    |error e=>rw [hq5] at h5;exact h5
    |ok q5 =>
     rw [hq5] at h5;have hrules:q2.x.rules=[]:=by rw [e0];exact hN1.2.2.2
     refine⟨h5.1,?_⟩;rw [h5.2.1];refine⟨⟨fun t=>?_,e5,?_,by simp only;rw [e0];exact hN1.2.1⟩,by simp only;rw [e0];exact hN1.2.2.1,hrules⟩
     .simp only [qiC,qab,hrules]
      by_cases ht:t=x.t
      .subst ht
       have:qc8 q2.x.tokens x.t=false:=by rw [e0];simpa using hh
       rw [if_pos rfl,this];simp [qc8]
      .rw [if_neg ht,show q2.names=q.names by rw [e0],hN1.1,show q2.x.tokens=q.x.tokens by rw [e0]]
       simp [ht,qc8]
     .intro t ht
      simp [qab,hrules] at ht
theorem qrK {r:RS} {p:PS} (h:Rel ls r p) (hN:NK p/\p.uses=[]/\p.x.rules=[]):match qeI s p with
  |.ok q=>Rel ls (qdU s ls r).2 q/\NK q/\q.uses=[((qdU s ls r).1.t,(qdU s ls r).1.a)]/\q.x.rules=[]/\qae (qdU s ls r).1.t=true
  |.error e=>(qdU s ls r).2.f=e/\e.1≠0:=by
 have h1:=qdi (s:=s) h 1 qbk;unfold qeI;simp only [qdU];generalize qaG s ls 1 qbk r=r1 at h1 |-;cases hq:qa3 s 1 qbk p with
 |error e =>
  rw [hq] at h1;have h1':r1.f.1≠0:=by rw [h1.1];exact h1.2
  have h2:=qiK (s:=s) (ls:=ls) h1';have h3:(qbt s ls true (qaF s ls r1).2).2.f=r1.f:=by rw [h2,qhg h1']
  simp only [Except.bind];rw [qaY (by simp only [h3];exact h1')];exact⟨h3.trans h1.1,h1.2⟩
 |ok q =>
  rw [hq] at h1;obtain⟨hr,e1,_⟩:=h1;simp only [Except.bind];have hw:=qlq (s:=s) hr true;simp only [if_true] at hw;cases hq2:qcb s qae q with
  |error e =>
   rw [hq2] at hw;have h4:=qh6 hw.1 hw.2;have h3:(qbt s ls true (qaF s ls r1).2).2.f.1≠0:=by rw [h4];exact hw.1
   simp only [Except.bind];rw [qaY (by simp only [h4];exact hw.1)];exact⟨h4,hw.1⟩
  |ok q2 =>
   rw [hq2] at hw;obtain⟨x,q2⟩:=q2;obtain⟨e0,_,e2,e3,e4,e5,_,_⟩:=hw;simp only at e0 e2 e3 e4 e5;simp only [Except.bind,e2,e3];have hr3:Rel ls { r1 with pos:=r1.pos+1,x:={ r1.x with start:=x.t } } { q2 with x:={ q2.x with start:=x.t },uses:=q2.uses++[(x.t,x.a)] }:=⟨hr.f,e4.l,by simp only [hr.x,e0],e4.n⟩
   have h5:=qdi (s:=s) hr3 3 qau;cases hq5:qa3 s 3 qau { q2 with x:={ q2.x with start:=x.t },uses:=q2.uses++[(x.t,x.a)] } with
   |error e=>rw [hq5] at h5;exact h5
   |ok q5 =>
    rw [hq5] at h5;refine⟨h5.1,?_⟩;rw [h5.2.1];have hN2:NK q2:=by rw [e0,e1];exact⟨hN.1.know,hN.1.small,hN.1.caps,hN.1.toks⟩
    refine⟨⟨hN2.know,hN2.small,hN2.caps,hN2.toks⟩,?_,?_,e5⟩
    .simp only;rw [e0,e1];simp only;rw [hN.2.1];rfl
    .simp only;rw [e0,e1];exact hN.2.2
def qvM (chk:List Nat->Nat) (l:List Lx):Option Fa:=l.findSome? fun x=>if x.k=1/\chk x.t≠0 then some (chk x.t,x.a) else none
def qwo (chk:List Nat->Nat) (l:List (List Nat × Nat)):Option Fa:=l.findSome? fun x=>if chk x.1≠0 then some (chk x.1,x.2) else none
def Use (ls:List Lx) (a:Nat) (N:List (List Nat)) (i:Nat) (U:List (List Nat × Nat)):Prop:=a<=i/\∀ chk:List Nat->Nat,(∀ n ∈ N,chk n=0)->qvM chk ((ls.drop a).take (i-a))=qwo chk U
theorem qmu {a i:Nat} {x:Lx} (h:ls[i]?=some x) (ha:a<=i):(ls.drop a).take (i+1-a)=(ls.drop a).take (i-a)++[x]:=by
 rw [show i+1-a=(i-a)+1 by omega,List.take_add_one,List.getElem?_drop,show a+(i-a)=i by omega,h];rfl
theorem Use.word {a i:Nat} {N:List (List Nat)} {U:List (List Nat × Nat)} {x:Lx} (h:Use ls a N i U) (hx:ls[i]?=some x) (hk:x.k=1):Use ls a N (i+1) (U++[(x.t,x.a)]) :=
 ⟨by have:=h.1;omega,fun chk hc=>by
  have:=h.2 chk hc;unfold qvM qwo at *;rw [qmu hx h.1,List.findSome?_append,List.findSome?_append,this];simp [List.findSome?,hk]⟩
theorem Use.none {a i:Nat} {N:List (List Nat)} {U:List (List Nat × Nat)} {x:Lx} (h:Use ls a N i U) (hx:ls[i]?=some x) (hk:x.k≠1\/x.t ∈ N):Use ls a N (i+1) U :=
 ⟨by have:=h.1;omega,fun chk hc=>by
  have:=h.2 chk hc;have hz:¬ (x.k=1/\chk x.t≠0):=fun e=>hk.elim (fun h=>h e.1) (fun h=>e.2 (hc _ h));unfold qvM qwo at *;rw [qmu hx h.1,List.findSome?_append,this,List.findSome?_cons,if_neg hz]
  simp⟩
theorem Use.more {a i:Nat} {N:List (List Nat)} {U:List (List Nat × Nat)} {t:List Nat} (h:Use ls a N i U):Use ls a (N++[t]) i U :=
 ⟨h.1,fun chk hc=>h.2 chk fun n hn=>hc n (List.mem_append_left _ hn)⟩
def qjM (ls:List Lx) (a:Nat) (u0:List Nat × Nat) (N:List (List Nat)) (i:Nat) (p:PS):Prop:=∃ U,p.uses=u0 :: U/\Use ls a N i U
abbrev qAh (p q:PS):Prop:=q.x=p.x/\q.names=p.names
theorem qrT {a:Nat} {u0:List Nat × Nat} {N:List (List Nat)}:∀ (n m:Nat) (acc:List (List Nat)) {r:RS} {p:PS},Rel ls r p->qjM ls a u0 N r.pos p->p.l.length<n->p.l.length<m ->
  match qpK s m acc p with
  |.ok v=>(qgi s ls n acc r).1=v.1/\qAh p v.2/\v.2.l.length<=p.l.length/\((Rel ls (qgi s ls n acc r).2 v.2/\qjM ls a u0 N (qgi s ls n acc r).2.pos v.2)\/(v.2.l=[]/\(qgi s ls n acc r).2.f=(5,s.length)))
  |.error e=>(qgi s ls n acc r).2.f=e/\e.1≠0
 |0,_,_,_,_,_,_,h,_=>by omega
 |_,0,_,_,_,_,_,_,h=>by omega
 |n+1,m+1,acc,r,p,h,hU,hn,hm=>by
  rcases h.cases (s:=s) with⟨x,hx,hl,e0,e1,e2,hr⟩|⟨hx,hl,e0,e1,e2⟩
  .simp only [qgi,h.f0,if_true,e0,qpK,hl]
   by_cases hk:x.k=1
   .simp only [hk,if_true,e1,qcb,e2,Except.bind,ne_eq,not_true,if_false]
    by_cases hy:qfh x.t=true
    .simp only [hy,if_true]
     by_cases h6:acc.length=6
     .simp only [h6,if_true]
      have hf:(qfI 6 (x,{ r with pos:=r.pos+1 })).f=(6,x.a):=by simp [qfI,hy,qa7,qaw,h.f0]
      rw [qm1 (by rw [hf];simp)];exact⟨hf,by simp⟩
     .simp only [h6,if_false]
      have he:qfI acc.length (x,{ r with pos:=r.pos+1 })={ r with pos:=r.pos+1 }:=by simp [qfI,hy,qa7,h6]
      rw [he];obtain⟨U,hU1,hU2⟩:=hU;have hr3:Rel ls { r with pos:=r.pos+1 } { p with l:=ls.drop (r.pos+1),uses:=p.uses++[(x.t,x.a)] }:=⟨hr.f,hr.l,hr.x,hr.n⟩
      have hl3:(ls.drop (r.pos+1)).length+1=p.l.length:=by rw [hl];rfl
      have ih:=qrT n m (acc++[x.t]) hr3 ⟨U++[(x.t,x.a)],by simp only;rw [hU1];rfl,hU2.word hx hk⟩ (by simp only;omega) (by simp only;omega);split
      .rename_i v hv
       rw [hv] at ih;exact⟨ih.1,ih.2.1,(by have h9:=ih.2.2.1;simp only at h9;first|omega|(simp only [List.length_cons];omega)),ih.2.2.2⟩
      .rename_i e hv
       rw [hv] at ih;exact ih
    .simp only [hy,if_false]
     have hf:(qfI acc.length (x,{ r with pos:=r.pos+1 })).f=(12,x.a):=by
      have:(qaw 12 x.a { r with pos:=r.pos+1 }).f.1≠0:=by simp [qaw,h.f0]
      simp only [qfI,hy];rw [if_neg (by simp),qiO this];simp [qaw,h.f0]
     rw [qm1 (by rw [hf];simp)];exact⟨hf,by simp⟩
   .simp only [hk,if_false]
    exact⟨(by first|exact trivial|rfl),⟨rfl,rfl⟩,(by first|exact Nat.le_refl _|(rw [hl];exact Nat.le_refl _)),.inl ⟨h,hU⟩⟩
  .simp only [qgi,h.f0,if_true,e0,qpK,hl]
   rw [if_neg (by simp)];exact⟨(by first|exact trivial|rfl),⟨rfl,rfl⟩,(by first|exact Nat.le_refl _|(rw [hl];exact Nat.le_refl _)),.inr ⟨(by first|exact hl|exact trivial),(by first|rfl|exact trivial)⟩⟩
end
section
variable {s:List Nat} {ls:List Lx}
theorem qjS {ε α β:Type} (a:α) (f:α->Except ε β):(Except.ok a:Except ε α).bind f=f a:=rfl
theorem qoi {a:Nat} {u0:List Nat × Nat} {N:List (List Nat)}:∀ (n m:Nat) (acc:List (List (List Nat))) {r:RS} {p:PS} {x:Lx},Rel ls r p->qjM ls a u0 N r.pos p->ls[r.pos-1]?=some x->p.l.length<n->p.l.length<m ->
  match (if p.total=24 then Except.error (6,x.a) else(qdI s { p with total:=p.total+1 }).bind fun v=>qf3 s m false (acc++[v.1]) v.2) with
  |.ok v=>(qcf s ls n acc r).1=v.1/\qAh p v.2/\v.2.l.length<=p.l.length/\((Rel ls (qcf s ls n acc r).2 v.2/\qjM ls a u0 N (qcf s ls n acc r).2.pos v.2)\/(v.2.l=[]/\(qcf s ls n acc r).2.f=(5,s.length)))
  |.error e=>(qcf s ls n acc r).2.f=e/\e.1≠0
 |0,_,_,_,_,_,_,_,_,h,_=>by omega
 |_,0,_,_,_,_,_,_,_,_,h=>by omega
 |n+1,m+1,acc,r,p,x,h,hU,hx,hn,hm=>by
  obtain⟨R1,hR1⟩:∃ R1,R1=qaS s ls r:=⟨_,rfl⟩
  have hV:qcf s ls (n+1) acc r=if(qbu ls qfC R1.2).1=true then qcf s ls n (acc++[R1.1]) (qbu ls qfC R1.2).2 else(acc++[R1.1],(qbu ls qfC R1.2).2):=by rw [hR1];rfl
  rw [hV];unfold qaS at hR1;clear hV;have hat:(ls.getD (r.pos-1) lx0).a=x.a:=by rw [List.getD_eq_getElem?_getD,hx];rfl
  by_cases h24:p.total=24
  .rw [if_pos h24]
   have hf:(qbH ls r).f=(6,x.a):=by simp only [qbH,qa7,h.n,h24,if_true,qaw,h.f0,hat]
   rw [qm1 (by rw [hf];simp)] at hR1;subst hR1;rw [qlg (by simp only [hf];simp)];exact⟨hf,by simp⟩
  .rw [if_neg h24]
   have hc:qbH ls r={ r with alts:=r.alts+1 }:=by simp only [qbH,qa7,h.n,h24,if_false]
   rw [hc] at hR1;have hr1:Rel ls { r with alts:=r.alts+1 } { p with total:=p.total+1 }:=⟨h.f,h.l,h.x,by simp only [h.n]⟩
   have hlen:p.l.length<=ls.length:=by rw [h.l,List.length_drop];omega
   have h1:=qrT (s:=s) (a:=a) (u0:=u0) (N:=N) (ls.length+1) (p.l.length+1) [] hr1 hU (by simp only;omega) (by simp only;omega);unfold qdI;simp only at h1 |-;rw [<- hR1] at h1;clear hR1;cases hq:qpK s (p.l.length+1) [] { p with total:=p.total+1 } with
   |error e =>
    rw [hq] at h1;simp only [Except.bind];rw [qlg (by rw [h1.1];exact h1.2)];exact h1
   |ok v =>
    rw [hq] at h1;obtain⟨e1,⟨k1,k2⟩,hl,hcase⟩:=h1;simp only [Except.bind];simp only at k1 k2 hl;rw [e1];unfold qf3;rcases hcase with⟨hr,hU1⟩|⟨hnil,hf⟩
    .cases hb:isL qfC v.2.l with
     |false =>
      have hb':isL qfC (ls.drop R1.2.pos)=false:=by rw [<- hr.l];exact hb
      simp only [true_and,if_true,qbu,hr.f0,hb',Bool.false_eq_true,and_false,if_false]
      first|exact⟨trivial,⟨k1,k2⟩,hl,.inl ⟨hr,hU1⟩⟩|exact⟨⟨k1,k2⟩,hl,.inl ⟨hr,hU1⟩⟩
     |true =>
      have hb':isL qfC (ls.drop R1.2.pos)=true:=by rw [<- hr.l];exact hb
      simp only [qbu,hr.f0,hb',and_self,if_true,Bool.true_eq_false,and_false,if_false,Bool.false_eq_true];rcases hr.cases (s:=s) with⟨y,hy,hl2,_,_,e3,hr2⟩|⟨hy,hl2,_,_,e3⟩
      .rw [e3]
       have hyb:y.k=3/\y.t=qfC:=by rw [hl2] at hb;simpa [isL] using hb
       simp only [Except.bind,hyb,and_self,if_true];obtain⟨U,hu1,hu2⟩:=hU1;have hl3:(ls.drop (R1.2.pos+1)).length+1=v.2.l.length:=by rw [hl2];rfl
       have ih:=qoi n m (acc++[v.1]) (x:=y) hr2 ⟨U,hu1,hu2.none hy (.inl (by rw [hyb.1];omega))⟩ (by simpa using hy) (by simp only;omega) (by simp only;omega);simp only [Except.bind] at ih;split
       .rename_i w hw
        rw [hw] at ih;exact⟨ih.1,⟨ih.2.1.1.trans k1,ih.2.1.2.trans k2⟩,by have:=ih.2.2.1;omega,ih.2.2.2⟩
       .rename_i e hw
        rw [hw] at ih;exact ih
      .rw [hl2] at hb;cases hb
    .have hb:isL qfC v.2.l=false:=by rw [hnil];rfl
     rw [qlg (by rw [hf];simp)];simp only [hb,and_self,if_true,Bool.false_eq_true,if_false]
     first|exact⟨trivial,⟨k1,k2⟩,hl,.inr ⟨hnil,hf⟩⟩|exact⟨⟨k1,k2⟩,hl,.inr ⟨hnil,hf⟩⟩
theorem qtj {a:Nat} {u0:List Nat × Nat} {r:RS} {p:PS} (h:Rel ls r p) (hN:NK p) (hU:qjM ls a u0 (qab p.x) r.pos p):match qnu s p with
  |.ok q=>Rel ls (qfL s ls r) q/\NK q/\qjM ls a u0 (qab q.x) (qfL s ls r).pos q/\q.l.length<p.l.length
  |.error e=>(qfL s ls r).f=e/\e.1≠0:=by
 have hw:=qlq (s:=s) h true;simp only [if_true] at hw;unfold qnu;simp only [qfL];have stay:∀ (r1:RS) (l:List Nat) (n:Nat) (i:Nat),r1.f.1≠0->(qaG s ls 3 qau (if(qaG s ls 3 sEq (qa7 n 8 i r1)).f.1=0 then qcf s ls (ls.length+1) [] (qaG s ls 3 sEq (qa7 n 8 i r1)) else([],qaG s ls 3 sEq (qa7 n 8 i r1))).2).f=r1.f:=by
  intro r1 l n i hf;have h1:=qaY (s:=s) (ls:=ls) (k:=3) (t:=sEq) hf;rw [qiO hf,if_neg (by rw [h1];exact hf),qaY (by simp only [h1];exact hf)];exact h1
 cases hq:qcb s qae p with
 |error e =>
  rw [hq] at hw;have h1:=qh6 hw.1 hw.2;have h3:(qbt s ls true (qaF s ls r).2).2.f.1≠0:=by rw [h1];exact hw.1
  simp only [Except.bind];rw [if_neg h3,stay _ [] _ _ h3];exact⟨h1,hw.1⟩
 |ok q =>
  rw [hq] at hw;obtain⟨x,q⟩:=q;obtain⟨e0,el,e2,e3,e4,e5,e6,e7⟩:=hw;simp only at e0 el e2 e3 e4 e5 e6 e7;have hkn:(qdD q.names x.t).2.2=qc8 (qab p.x) x.t:=by rw [e0];simp only [hN.know]
  have hrx:r.x=p.x:=h.x;have hqx:q.x=p.x:=by rw [e0]
  simp only [Except.bind,e2,e3,hkn,h.f0,if_true];cases hh:qc8 (qab p.x) x.t with
  |true =>
   have hnw:∀ a (r':RS),qgj (qab r.x) x.t a r'=qaw 8 a r':=fun a r'=>by rw [qgj,hrx,hh,if_pos rfl]
   simp only [if_true,hnw];have hf:(qaw 8 x.a { r with pos:=r.pos+1 }).f=(8,x.a):=by simp [qaw,h.f0]
   rw [stay _ [] _ _ (by rw [hf];simp),hf];exact⟨rfl,by simp⟩
  |false =>
   have hnw:∀ a (r':RS),qgj (qab r.x) x.t a r'=r':=fun a r'=>by rw [qgj,hrx,hh,if_neg (by simp)]
   simp only [Bool.false_eq_true,if_false,hnw];by_cases h8:p.x.rules.length=8
   .rw [if_pos (by rw [hqx];exact h8)]
    have e8:qa7 r.x.rules.length 8 x.a { r with pos:=r.pos+1 }={ r with pos:=r.pos+1,f:=(6,x.a) }:=by rw [qa7,hrx,if_pos h8];simp [qaw,h.f0]
    have:=qaY (s:=s) (ls:=ls) (k:=3) (t:=sEq) (r:={ r with pos:=r.pos+1,f:=(6,x.a) }) (by simp);rw [e8,if_neg (by rw [this];simp),qaY (by simp only [this];simp)];exact⟨this,by simp⟩
   .rw [if_neg (by rw [hqx];exact h8)]
    have e8:qa7 r.x.rules.length 8 x.a { r with pos:=r.pos+1 }={ r with pos:=r.pos+1 }:=by rw [qa7,hrx,if_neg h8]
    rw [e8];generalize hr1:({ r with pos:=r.pos+1 }:RS)=r1 at e4 |-;have hp1:r1.pos=r.pos+1:=by rw [<- hr1]
    obtain⟨U,hu1,hu2⟩:=hU;have hu3:Use ls a (qab p.x++[x.t]) r1.pos U:=by rw [hp1];exact hu2.more.none e6 (.inr (by simp))
    obtain⟨q1,hq1⟩:∃ q1:PS,q1={ q with names:=qp4 q.names x.t (false,false,true) }:=⟨_,rfl⟩
    have hr4:Rel ls r1 q1:=by rw [hq1];exact⟨e4.f,e4.l,e4.x,e4.n⟩
    have hql:q1.l=q.l:=by rw [hq1]
    rw [<- hq1,<- hql];unfold qf3;simp only [Bool.true_eq_false,false_and,if_false,if_true];rcases hr4.cases (s:=s) with⟨y,hy,hl2,e9,e10,e11,hr2⟩|⟨hy,hl2,e9,e10,e11⟩
    .rw [e11]
     by_cases hyc:y.k=3/\y.t=sEq
     .have em:qaG s ls 3 sEq r1={ r1 with pos:=r1.pos+1 }:=by simp [qaG,qeP,e10,hyc]
      simp only [qjS,em];rw [if_pos hyc];simp only [hr4.f0,if_true];have hl3:(ls.drop (r1.pos+1)).length+1=q1.l.length:=by rw [hl2];rfl
      have hlen:q1.l.length<=ls.length:=by rw [hr4.l,List.length_drop];omega
      have hU5:qjM ls a u0 (qab p.x++[x.t]) (r1.pos+1) { q1 with l:=ls.drop (r1.pos+1) }:=⟨U,by simp only [hq1];rw [e0];exact hu1,hu3.none hy (.inl (by rw [hyc.1];omega))⟩
      have h6:=qoi (s:=s) (ls.length+1) q1.l.length [] (x:=y) hr2 hU5 (by simpa using hy) (by simp only;omega) (by simp only;omega);simp only [List.nil_append] at h6 |-;have hbind:(if q1.total=24 then(Except.error (6,y.a):Except Fa (List (List (List Nat)) × PS)) else
        (qdI s { q1 with l:=ls.drop (r1.pos+1),total:=q1.total+1 }).bind fun v=>qf3 s q1.l.length false ([]++[v.1]) v.2) =
       (if q1.total=24 then(Except.error (6,y.a):Except Fa (List (List (List Nat)) × PS)) else
        (qdI s { q1 with l:=ls.drop (r1.pos+1),total:=q1.total+1 }).bind fun v=>qf3 s q1.l.length false [v.1] v.2):=rfl
      have hr7:({ r1 with pos:=r1.pos+1 }:RS).f.1=0:=hr4.f0;generalize qcf s ls (ls.length+1) [] { r1 with pos:=r1.pos+1 }=V at h6 |-;generalize (if q1.total=24 then(Except.error (6,y.a):Except Fa (List (List (List Nat)) × PS)) else
        (qdI s { q1 with l:=ls.drop (r1.pos+1),total:=q1.total+1 }).bind fun v=>qf3 s q1.l.length false [v.1] v.2)=W at h6 |-
      cases W with
      |error e =>
       simp only [Except.bind] at h6 |-;rw [qaY (by rw [h6.1];exact h6.2)];exact h6
      |ok v =>
       simp only [Except.bind] at h6 |-;obtain⟨g1,⟨g2,g3⟩,g4,g5⟩:=h6;rcases g5 with⟨hr8,hU8⟩|⟨hnil,hf⟩
       .have h9:=qdi (s:=s) hr8 3 qau
        cases hq9:qa3 s 3 qau v.2 with
        |error e=>rw [hq9] at h9;exact h9
        |ok q9 =>
         rw [hq9] at h9;obtain⟨hr9,f1,f2,f3,z,hz1,hz2,_⟩:=h9;simp only at g2 g3 g4;have x9:q9.x=p.x:=by rw [f1];simp only;rw [g2,hq1];simp only;exact hqx
         have n9:q9.names=qp4 p.names x.t (false,false,true):=by rw [f1];simp only;rw [g3,hq1,e0]
         obtain⟨U8,hu81,hu82⟩:=hU8;refine⟨⟨hr9.f,hr9.l,?_,hr9.n⟩,⟨fun t=>?_,?_,?_,?_⟩,⟨U8,by simp only;rw [f1];exact hu81,?_⟩,?_⟩
         .simp only [hr9.x,g1]
         .simp only [n9,qiC,x9,qab,List.map_append,List.map_cons,List.map_nil,ql1]
          have hcap:=qfi (t:=t);by_cases ht:t=x.t
          .subst ht
           have a1:qc8 p.x.tokens x.t=false:=by
            cases hc:qc8 p.x.tokens x.t with
            |false=>rfl
            |true =>
             simp only [qc8,List.any_eq_true,decide_eq_true_eq] at hc;obtain⟨u,hu,rfl⟩:=hc;rw [qfi (hN.toks _ hu)] at e5;cases e5
           have a2:¬ x.t=p.x.sep:=fun e=>by
            have:=qfi hN.small;rw [<- e,e5] at this;cases this
           simp [a1,a2]
          .rw [if_neg ht,hN.know]
           simp [show ¬ x.t=t from fun e=>ht e.symm]
         .simp only [x9];exact hN.small
         .intro t ht
          simp only [qab,x9,List.map_append,List.map_cons,List.map_nil,List.mem_append,List.mem_singleton] at ht;rcases ht with ht|rfl
          .exact hN.caps t ht
          .exact e5
         .simp only [x9];exact hN.toks
         .simp only [qab,x9,List.map_append,List.map_cons,List.map_nil]
          rw [f3];exact hu82.none hz1 (.inl (by omega))
         .simp only at f2 |-
          have:q.l.length<p.l.length:=el;rw [hql] at hl3;omega
       .have hw5:qa3 s 3 qau v.2=.error (5,s.length):=by simp [qa3,qce,hnil,Except.bind]
        rw [hw5];simp only;rw [qaY (by rw [hf];simp)];exact⟨hf,by simp⟩
     .have em:qaG s ls 3 sEq r1=qaw 3 y.a { r1 with pos:=r1.pos+1 }:=by
       simp only [qaG,qeP,e10,hr4.f0,true_and];rw [if_pos hyc]
      have hf:(qaw 3 y.a { r1 with pos:=r1.pos+1 }).f=(3,y.a):=by simp [qaw,hr4.f0]
      simp only [Except.bind];rw [em,if_neg hyc,if_neg (by rw [hf];simp),qaY (by simp only;rw [hf];simp)];exact⟨hf,by simp⟩
    .rw [e11]
     simp only [Except.bind];have h5:qaG s ls 3 sEq r1={ r1 with f:=(5,s.length),pos:=r1.pos+1 }:=by simp [qaG,qeP,e10]
     rw [h5];rw [if_neg (by simp),qaY (by simp)];exact⟨rfl,by simp⟩
theorem qnb {a:Nat} {u0:List Nat × Nat}:∀ (n m:Nat) (first:Bool) {r:RS} {p:PS},Rel ls r p->NK p->qjM ls a u0 (qab p.x) r.pos p->p.l.length<n->p.l.length<m ->
  match qcZ s m first p with
  |.ok q=>Rel ls (qcI s ls n first r) q/\NK q/\qjM ls a u0 (qab q.x) (qcI s ls n first r).pos q/\q.l=[]
  |.error e=>(qcI s ls n first r).f=e/\e.1≠0
 |0,_,_,_,_,_,_,_,h,_=>by omega
 |_,0,_,_,_,_,_,_,_,h=>by omega
 |n+1,m+1,first,r,p,h,hN,hU,hn,hm=>by
  have hiff:0<p.l.length ↔ r.pos<ls.length:=by rw [h.l,List.length_drop];omega
  unfold qcZ qcI;by_cases hc:first=true\/0<p.l.length
  .have h1:=qtj (s:=s) h hN hU
   rw [if_pos hc,if_pos ⟨h.f0,hc.imp id hiff.1⟩];cases hq:qnu s p with
   |error e =>
    rw [hq] at h1;simp only [Except.bind];rw [qkI (by rw [h1.1];exact h1.2)];exact h1
   |ok q =>
    rw [hq] at h1;simp only [Except.bind];exact qnb n m false h1.1 h1.2.1 h1.2.2.1 (by have:=h1.2.2.2;omega) (by have:=h1.2.2.2;omega)
  .rw [if_neg hc,if_neg (fun e=>hc (e.2.imp id hiff.2))]
   refine⟨h,hN,hU,?_⟩;have:¬ 0<p.l.length:=fun e=>hc (.inr e);exact List.length_eq_zero_iff.1 (by omega)
theorem qkK:∀ {l:List Lx} {r:RS},r.f.1≠0->qcK l r=r
 |[],_,_=>rfl
 |x :: l,r,h=>by
  have:qaB x r=r:=by unfold qaB;split<;>simp [qkw h]
  rw [qcK,this,qkK h]
theorem qmA:∀ {l:List Lx} {r:RS},r.f=(0,0)->match qvM (qmC r.x) l with
  |some e=>(qcK l r).f=e/\e.1≠0
  |none=>qcK l r=r
 |[],_,_=>rfl
 |x :: l,r,h=>by
  unfold qvM;rw [List.findSome?_cons,qcK];by_cases hc:x.k=1/\qmC r.x x.t≠0
  .rw [if_pos hc]
   have e:qaB x r={ r with f:=(qmC r.x x.t,x.a) }:=by simp [qaB,hc,qaw,h]
   rw [e,qkK (by simpa using hc.2)];exact⟨rfl,hc.2⟩
  .rw [if_neg hc]
   have e:qaB x r=r:=by simp only [qaB,hc,if_false]
   rw [e];exact qmA h
theorem qoV {nm:List (List Nat × Bool × Bool × Bool)}:∀ {l:List (List Nat × Nat)},qiB nm false l=match qwo (qsl nm false) l with
  |some e=>.error e
  |none=>.ok ()
 |[]=>rfl
 |u :: l=>by
  unfold qwo qiB;rw [List.findSome?_cons];by_cases hc:qsl nm false u.1≠0
  .rw [if_pos hc,if_pos hc]
  .rw [if_neg hc,if_neg hc]
   exact qoV
theorem qqj {l:List (List Nat)} {t:List Nat} (h:t ∈ l):qc8 l t=true:=by
 simp only [qc8,List.any_eq_true,decide_eq_true_eq];exact⟨t,h,rfl⟩
theorem qtU (s:List Nat) (ls:List Lx):qpG (qjB s ls)=qwm (qrG s ls):=by
 have h0:Rel ls ⟨0,(0,0),0,qdj⟩ ⟨ls,qdj,[],[],0⟩:=⟨rfl,rfl,rfl,rfl⟩
 have n0:NH ⟨ls,qdj,[],[],0⟩:=⟨fun t=>rfl,fun t h=>(by cases h),rfl,rfl⟩
 have bad:∀ {r:RS} {e:Fa},r.f=e->e.1≠0->qpG r=qwm (.error e):=fun {r e} h1 h2=>by simp [qpG,h1,h2,qwm]
 have head:∀ {e:Fa},(qgd s ls ⟨0,(0,0),0,qdj⟩).2.f=e->e.1≠0->qpG (qjB s ls)=qwm (.error e):=fun {e} h1 h2=>by
  have h3:(qgd s ls ⟨0,(0,0),0,qdj⟩).2.f.1≠0:=by rw [h1];exact h2
  simp only [qjB];rw [qkI h3,if_neg h3];exact bad h1 h2
 unfold qrG;have h1:=qtz (s:=s) h0 n0;unfold qgd at head;cases hq1:qhT s ⟨ls,qdj,[],[],0⟩ with
 |error e =>
  rw [hq1] at h1;have a1:(qeB s ls ⟨0,(0,0),0,qdj⟩).f.1≠0:=by rw [h1.1];exact h1.2
  have a2:=qaY (s:=s) (ls:=ls) (k:=1) (t:=qaZ) a1;have a3:=qeT (s:=s) (ls:=ls) (n:=ls.length+1) (r:=qaG s ls 1 qaZ (qeB s ls ⟨0,(0,0),0,qdj⟩)) (by rw [a2];exact a1);have a4:(qaG s ls 3 qau (qaL s ls (ls.length+1) (qaG s ls 1 qaZ (qeB s ls ⟨0,(0,0),0,qdj⟩)))).f=e:=by rw [a3,qaY (by rw [a2];exact a1),a2,h1.1]
  refine head ?_ h1.2;rw [qkA (by rw [qoh (by rw [a4];exact h1.2),a4];exact h1.2),qoh (by rw [a4];exact h1.2),a4]
 |ok p1 =>
  rw [hq1] at h1;have h2:=quF (s:=s) h1.1 h1.2;simp only [Except.bind];cases hq2:qdb s p1 with
  |error e =>
   rw [hq2] at h2;refine head ?_ h2.2;rw [qkA (by rw [qoh (by rw [h2.1];exact h2.2),h2.1];exact h2.2),qoh (by rw [h2.1];exact h2.2),h2.1]
  |ok p2 =>
   rw [hq2] at h2;have h3:=qvn (s:=s) h2.1 h2.2;simp only;cases hq3:qp9 s p2 with
   |error e =>
    rw [hq3] at h3;refine head ?_ h3.2;rw [qkA (by rw [h3.1];exact h3.2),h3.1]
   |ok p3 =>
    rw [hq3] at h3;have h4:=qrK (s:=s) h3.1 h3.2;simp only;cases hq4:qeI s p3 with
    |error e =>
     rw [hq4] at h4;exact head h4.1 h4.2
    |ok p4 =>
     rw [hq4] at h4;obtain⟨hr4,hN4,hu4,hrul,hcap⟩:=h4;simp only;have hhead:qgd s ls ⟨0,(0,0),0,qdj⟩=qdU s ls (qso s ls (qaG s ls 3 qau (qaL s ls (ls.length+1) (qaG s ls 1 qaZ (qeB s ls ⟨0,(0,0),0,qdj⟩))))):=rfl;simp only [qjB];rw [hhead];generalize qdU s ls (qso s ls (qaG s ls 3 qau (qaL s ls (ls.length+1) (qaG s ls 1 qaZ (qeB s ls ⟨0,(0,0),0,qdj⟩)))))=V at hr4 hu4 hcap |-;have hlen:p4.l.length<=ls.length:=by rw [hr4.l,List.length_drop];omega
     have hU4:qjM ls V.2.pos (V.1.t,V.1.a) (qab p4.x) V.2.pos p4:=⟨[],hu4,Nat.le_refl _,fun chk _=>by simp [qvM,qwo]⟩
     have h5:=qnb (s:=s) (ls.length+2) (p4.l.length+1) true hr4 hN4 hU4 (by omega) (by omega);generalize qcI s ls (ls.length+2) true V.2=R5 at h5 |-;cases hq5:qcZ s (p4.l.length+1) true p4 with
     |error e =>
      rw [hq5] at h5;rw [if_neg (by rw [h5.1];exact h5.2)];exact bad h5.1 h5.2
     |ok p5 =>
      rw [hq5] at h5;obtain⟨hr5,hN5,⟨U,hu5,hue⟩,hnil⟩:=h5;simp only;rw [if_pos hr5.f0];have hall:(ls.drop V.2.pos).take (R5.pos-V.2.pos)=ls.drop V.2.pos:=by
       have:ls.length<=R5.pos:=by
        have:=hr5.l;rw [hnil] at this;exact List.drop_eq_nil_iff.1 this.symm
       rw [List.take_of_length_le (by rw [List.length_drop];omega)]
      have hsame:∀ t,qsl p5.names false t=qmC p5.x t:=fun t=>by
       simp only [qsl,hN5.know,qmC,decide_eq_true_eq,Bool.false_eq_true,false_or]
      have hzero:∀ n ∈ qab p5.x,qmC p5.x n=0:=fun n hn=>by
       have:¬ n=p5.x.sep:=fun e=>by
        have h1:=hN5.caps n hn;rw [e,qfi hN5.small] at h1;cases h1
       simp [qmC,this,qqj hn]
      have hbad:=hue.2 (qmC p5.x) hzero;rw [hall] at hbad;have hcu:qsl p5.names false=qmC p5.x:=funext hsame;unfold qjA;rw [hu5,qiB,qoV,hcu,<- hbad];have hst:¬ V.1.t=p5.x.sep:=fun e=>by rw [e,qfi hN5.small] at hcap;cases hcap
      have hfirst:qsl p5.names true V.1.t=if qc8 (qab p5.x) V.1.t=false then 7 else 0:=by
       simp only [qsl,hN5.know,decide_eq_true_eq,hst,if_false,true_or,and_true]
      unfold qhJ;rw [hr5.x];simp only [hfirst];cases hh:qc8 (qab p5.x) V.1.t with
      |false =>
       have hf:(qaw 7 V.1.a R5).f=(7,V.1.a):=by simp [qaw,hr5.f0]
       simp only [if_true,ne_eq];rw [qkK (by rw [hf];simp)];simp only [Except.bind];exact bad hf (by simp)
      |true =>
       simp only [Bool.true_eq_false,if_false,ne_eq,not_true];have h6:=qmA (l:=ls.drop V.2.pos) hr5.f;rw [hr5.x] at h6;cases hb:qvM (qmC p5.x) (ls.drop V.2.pos) with
       |some e =>
        rw [hb] at h6;simp only [Except.bind];exact bad h6.1 h6.2
       |none =>
        rw [hb] at h6;simp only at h6;rw [h6];simp only [Except.bind,qpG,qwm,hr5.f0,if_true,hr5.x]
end
section
variable {P:Program} {nt m:Nat} {ro':Option Nat} {x y:Code} {s:S} {K:Ex->S->Prop}
theorem Run.midE {α:Type} (S1:α->S) (C:α->Prop) (h1:Run P nt m ro' x s (fun e s1=>match e with|.normal=>∃ v,C v/\qbU m s1 (S1 v)|e=>K e s1)) (h2:∀ v,C v->Run P nt m ro' y (S1 v) K) :
  Run P nt m ro' x s (fun e s1=>match e with|.normal=>Run P nt m ro' y s1 K|e=>K e s1) :=
 h1.mono fun e s1 h=>by
  cases e with
  |normal=>obtain⟨v,h3,h4⟩:=h;exact Run.tidy h4 (h2 v h3)
  |_=>exact h
end
abbrev qrU (x:Lx):Ob:=.box [.d (.int .i64 (x.k:Nat)),.d (.str x.t),.d (.int .i64 (x.a:Nat))]
abbrev pOr (s:List Nat) (v:PS) (r:SRule):List Ob:=[.box [.d (.str s),.d (.sl 3 (v.l.map qdJ)),.d (.int .i64 v.x.k),.sr 1 1 (v.x.tokens.map .str),.d (.str v.x.sep),.d (.str v.x.start),.sr 2 2 (v.x.rules.map qbV++[qbV r]),.mp 3,.sr 4 2 (v.uses.map qp8),.d (.int .i64 (v.total:Nat))],.room v.x.tokens.length 1,.room (v.x.rules.length+1) 2,.map (kvN v.names),.room v.uses.length 2]
theorem qxI (s:List Nat) (v:PS) (r:SRule):pO s { v with x:={ v.x with rules:=v.x.rules++[r] } }=pOr s v r:=by
 unfold pO qqf pOr;simp only [List.map_append,List.map_cons,List.map_nil,List.length_append,List.length_cons,List.length_nil]
set_option maxHeartbeats 8000000 in
theorem qx5 (s:List Nat) (p:PS) (hb:PB p) (hr8:p.x.rules.length<=8) (ht24:p.total<=24):ACall Tryz.prog 102 [.bp 0 0] (pO s p) (qsi (qcZ s (p.l.length+1) true p)) (qvc s (qcZ s (p.l.length+1) true p)):=by
 have w:Fz [88,100]:=trivial;obtain⟨R,hR⟩:∃ R,R=qcZ s (p.l.length+1) true p:=⟨_,rfl⟩
 rw [<- hR];refine qqQ (fnB Tryz.func102 [88,100]) rfl rfl ?_
 repeat' (first|refine zW ?_|refine zB ?_ ?_<;>intro h<;>try exact zk h|refine zX ?_|exact zk h|fail)
 refine Run.loopT (fun y:Nat × PS × Bool=>⟨PT.ofList [(0,.bp 0 0),(2,.d (.bool y.2.2))],pO s y.2.1,[]⟩)
  (fun y=>qcZ s y.1 y.2.2 y.2.1=R/\PB y.2.1/\y.2.1.l.length<y.1/\y.2.1.x.rules.length<=8/\y.2.1.total<=24) (fun y=>y.1) (p.l.length+1,p,true) ⟨hR.symm,hb,Nat.lt_succ_self _,hr8,ht24⟩ (ti _ 5) (fun y hy=>?_)
 obtain⟨n,y,first⟩:=y;obtain⟨i1,i2,i3,i4,i5⟩:=hy;simp only at i1 i2 i3 i4 i5 |-;obtain⟨n,rfl⟩:∃ j,n=j+1:=⟨n-1,by omega⟩
 unfold qcZ at i1;by_cases hc:first=true\/0<y.l.length
 .rw [if_pos hc] at i1
  have cw:=qs0 s y _ qae i2.len qoM;unfold qnu at i1;have hu:y.uses.length<=200000:=by have:=i2.uses;omega
  refine Yq ?_;refine Run.mid ⟨PT.ofList [(0,.bp 0 0)],pO s y,[]⟩ ?_ ?_
  .cases first with
   |true =>
    repeat' (first|refine zW ?_|refine zB ?_ ?_<;>intro h<;>try exact zk h|refine zX ?_|(exact(by show qbU _ _ _;exact(ti _ 5)))|exact zk h|fail)
   |false =>
    have hne:y.l≠[]:=by
     intro e;rw [e] at hc;simp at hc
    repeat' (first|refine zW ?_|refine zB ?_ ?_<;>intro h<;>try exact zk h|refine zX ?_|(exact(by show qbU _ _ _;exact(ti _ 5)))|((exfalso;simp at h;exact hne h))|fail)
  refine Yq ?_;refine Yb ?_;cases hw:qcb s qae y with
  |error e9 =>
   rw [hw] at cw i1;simp only [Except.bind] at i1;subst i1
   repeat' (first|refine zN ?_|refine zB ?_ ?_<;>intro h<;>try exact zk h|refine zX ?_|refine oFP (cw) ?_|(exact⟨rfl,rfl,wkE⟩)|exact zk h|fail)
  |ok v =>
   rw [hw] at cw i1;obtain⟨w1,w2⟩:=qge hw;obtain⟨x,q⟩:=v;simp only at w1 w2 cw;simp only [qjS] at i1;obtain⟨kk,eK⟩:∃ kk,kk=qdD q.names x.t:=⟨_,rfl⟩
   rw [<- eK] at i1;obtain⟨ka,kb,kc⟩:=kk;have f8:=qf1 s q 8 x.a;have f6:=qf1 s q 6 x.a;have hqx:q.x=y.x:=by rw [w1]
   have hqt:q.total=y.total:=by rw [w1]
   have hqu:q.uses=y.uses:=by rw [w1]
   have hql:y.l.length=q.l.length+1:=by rw [w2];rfl
   have hqm:∀ z ∈ q.l,z ∈ y.l:=fun z hz=>by rw [w2];exact List.mem_cons_of_mem _ hz
   repeat' (first|refine zRn ?_|refine oF (cw) ?_|refine eF (cw) ?_|fail)
   refine Yq ?_;cases kc with
   |true =>
    simp only [if_true] at i1;simp only [Except.bind] at i1;subst i1
    repeat' (first|refine zW ?_|refine zB ?_ ?_<;>intro h<;>try exact zk h|refine zX ?_|refine eX ?_ (hv:=(qbr q.names x.t).trans (by rw [<- eK]))|refine oFP (f8) ?_|(exact⟨rfl,rfl,wkE⟩)|exact zk h|fail)
   |false =>
    simp only [Bool.false_eq_true,if_false] at i1;refine Run.mid ⟨PT.ofList [(0,.bp 0 0),(3,.bp 5 0)],pO s q++[qrU x],[]⟩ ?_ ?_
    .repeat' (first|refine zW ?_|refine zB ?_ ?_<;>intro h<;>try exact zk h|refine zX ?_|refine eX ?_ (hv:=(qbr q.names x.t).trans (by rw [<- eK]))|(exact(by show qbU _ _ _;exact(ti _ 6)))|exact zk h|fail)
    refine Yq ?_;by_cases h8:q.x.rules.length=8
    .rw [if_pos h8] at i1
     simp only [Except.bind] at i1;subst i1
     repeat' (first|refine zW ?_|refine zB ?_ ?_<;>intro h<;>try exact zk h|refine zX ?_|refine oFP (f6) ?_|(exact⟨rfl,rfl,wkE⟩)|exact zk h|fail)
    .rw [if_neg h8] at i1
     refine Run.mid ⟨PT.ofList [(0,.bp 0 0),(3,.bp 5 0)],pO s q++[qrU x],[]⟩ ?_ ?_
     .repeat' (first|refine zW ?_|refine zB ?_ ?_<;>intro h<;>try exact zk h|refine zX ?_|(exact(by show qbU _ _ _;exact(ti _ 6)))|exact zk h|fail)
     obtain⟨p1,hp1⟩:∃ p1:PS,p1={ q with names:=qp4 q.names x.t (false,false,true) }:=⟨_,rfl⟩
     have hp1x:p1.x=y.x:=by rw [hp1];exact hqx
     have hp1l:p1.l=q.l:=by rw [hp1]
     rw [<- hp1] at i1;have hbp:PB p1:=i2.of (fun z hz=>hqm z (by rw [hp1] at hz;exact hz)) (by rw [hp1l];omega) (by rw [hp1x];exact i2.toks) (by rw [hp1x];exact i2.rules) (by have:=i2.uses;rw [hp1];simp only;rw [hqu];omega) (by rw [hp1];simp only;rw [hqt];exact i2.total);obtain⟨RA,hRA⟩:∃ RA,RA=qf3 s (q.l.length+1) true [] p1:=⟨_,rfl⟩
     rw [<- hRA] at i1
     repeat' (first|refine zR ?_|refine eX ?_ (hv:=qiw q.names x.t (false,false,true))|fail)
     refine Yq ?_;refine Run.cellRoom 6 1 1 ?_;refine Run.midE (fun v:List (List (List Nat)) × PS=>⟨PT.ofList [(0,.bp 0 0),(4,.bp 6 0)],pO s v.2++[qrU x,.box [.d (.str x.t),.sr 7 1 (v.1.map qao)],.room v.1.length 1],[]⟩)
      (fun v=>RA=.ok v/\PB v.2/\v.2.x=y.x/\v.2.total<=24/\v.2.l.length<y.l.length/\(∀ z ∈ v.2.l,z ∈ y.l)/\v.2.uses.length+v.2.l.length<=200000) ?_ (fun v hv=>?_)
     .repeat refine zS ?_
      refine zX ?_
      repeat refine zS ?_
      refine Run.loopT (fun z:Nat × List (List (List Nat)) × PS × Bool=>⟨PT.ofList [(0,.bp 0 0),(4,.bp 6 0),(5,.d (.str (cond z.2.2.2 sEq qfC)))],pO s z.2.2.1++[qrU x,.box [.d (.str x.t),.sr 7 1 (z.2.1.map qao)],.room z.2.1.length 1],[]⟩)
       (fun z=>qf3 s z.1 z.2.2.2 z.2.1 z.2.2.1=RA/\PB z.2.2.1/\z.2.2.1.x=y.x/\z.2.2.1.total<=24/\z.2.2.1.l.length<z.1/\z.2.2.1.l.length<y.l.length/\(∀ u ∈ z.2.2.1.l,u ∈ y.l)/\z.2.1.length+z.1<=200000) (fun z=>z.1) (q.l.length+1,[],p1,true)
       ⟨hRA.symm,hbp,hp1x,by rw [hp1];simp only;omega,by rw [hp1l];exact Nat.lt_succ_self _,by rw [hp1l];omega,by rw [hp1l];exact hqm,by have:=i2.l;simp;omega⟩ (by rw [hp1];exact(ti _ 8)) (fun z hz=>?_)
      obtain⟨k,acc,z,b⟩:=z;obtain⟨j1,j2,j3,j4,j5,j6,j7,j8⟩:=hz;simp only at j1 j2 j3 j4 j5 j6 j7 j8 |-;obtain⟨k,rfl⟩:∃ j,k=j+1:=⟨k-1,by omega⟩
      unfold qf3 at j1;have ci:=qAa s z qfC;have huz:z.uses.length<=200000:=by have:=j2.uses;omega
      by_cases hex:b=false/\isL qfC z.l=false
      .rw [if_pos hex] at j1
       obtain⟨rfl,hex⟩:=hex;rw [hex] at ci;have fin:∀ s1:S,qbU 5 s1 ⟨PT.ofList [(0,.bp 0 0),(4,.bp 6 0)],pO s z++[qrU x,.box [.d (.str x.t),.sr 7 1 (acc.map qao)],.room acc.length 1],[]⟩ ->
         ∃ v:List (List (List Nat)) × PS,(RA=.ok v/\PB v.2/\v.2.x=y.x/\v.2.total<=24/\v.2.l.length<y.l.length/\(∀ z ∈ v.2.l,z ∈ y.l)/\v.2.uses.length+v.2.l.length<=200000)/\qbU 5 s1 ⟨PT.ofList [(0,.bp 0 0),(4,.bp 6 0)],pO s v.2++[qrU x,.box [.d (.str x.t),.sr 7 1 (v.1.map qao)],.room v.1.length 1],[]⟩:=fun s1 ht =>
        ⟨(acc,z),⟨j1.symm,j2,j3,j4,j6,j7,j2.uses⟩,ht⟩
       repeat' (first|refine zW ?_|refine zB ?_ ?_<;>intro h<;>try exact zk h|refine zX ?_|refine oF (ci) ?_|refine eF (ci) ?_|(exact fin _ (ti _ 8))|exact zk h|fail)
      .rw [if_neg hex] at j1
       have hb1:b=true\/(b=false/\isL qfC z.l=true):=by
        cases b with
        |true=>exact .inl rfl
        |false=>exact .inr ⟨rfl,by simpa using hex⟩
       refine Yq ?_;refine Yb ?_;refine Yq ?_;refine Run.mid ⟨PT.ofList [(0,.bp 0 0),(4,.bp 6 0),(5,.d (.str (cond b sEq qfC)))],pO s z++[qrU x,.box [.d (.str x.t),.sr 7 1 (acc.map qao)],.room acc.length 1],[]⟩ ?_ ?_
       .rcases hb1 with rfl|⟨rfl,hb1⟩
        .repeat' (first|refine zW ?_|refine zB ?_ ?_<;>intro h<;>try exact zk h|refine zX ?_|(exact(by show qbU _ _ _;exact(ti _ 8)))|exact zk h|fail)
        .rw [hb1] at ci
         repeat' (first|refine zW ?_|refine zB ?_ ?_<;>intro h<;>try exact zk h|refine zX ?_|refine oF (ci) ?_|refine eF (ci) ?_|(exact(by show qbU _ _ _;exact(ti _ 8)))|exact zk h|fail)
       have eS:(if b=true then sEq else qfC)=cond b sEq qfC:=by cases b<;>rfl
       rw [eS] at j1;generalize cond b sEq qfC=sg at j1 |-;cases hl:z.l with
       |nil =>
        have cn:=qia s z hl;rw [show qce s z=.error (5,s.length) by simp [qce,hl]] at j1;simp only [Except.bind] at j1;subst j1;simp only [Except.bind] at i1;subst i1
        repeat' (first|refine zN ?_|refine zB ?_ ?_<;>intro h<;>try exact zk h|refine zX ?_|refine oFP (cn) ?_|(exact⟨rfl,rfl,wkE⟩)|exact zk h|fail)
       |cons x2 l =>
        have cn:=qjn s z x2 l hl;rw [show qce s z=.ok (x2,{ z with l:=l }) by simp [qce,hl]] at j1;simp only [qjS] at j1;by_cases hsg:x2.k=3/\x2.t=sg
        .have cs:=qzM x2 3 sg hsg
         rw [if_pos hsg] at j1;by_cases h24:z.total=24
         .rw [if_pos h24] at j1
          subst j1;simp only [Except.bind] at i1;subst i1;have cf:=qf1 s { z with l:=l } 6 x2.a
          repeat' (first|refine zN ?_|refine zB ?_ ?_<;>intro h<;>try exact zk h|refine zX ?_|refine oF (cn) ?_|refine eF (cn) ?_|refine zC (cs) ?_|refine oFP (cf) ?_|(exact⟨rfl,rfl,wkE⟩)|exact zk h|fail)
         .rw [if_neg h24] at j1
          have hinc:AV.d (.int .i64 (IntKind.i64.wrap ((z.total:Int)+1)))=.d (.int .i64 ((z.total+1:Nat):Int)):=vN8 (by omega) (by omega);have hbz:PB { z with l:=l,total:=z.total+1 }:=j2.of (fun u hu=>by rw [hl];exact List.mem_cons_of_mem _ hu) (by rw [hl];simp) j2.toks j2.rules (by have:=j2.uses;rw [hl] at this;simp at this |-;omega) (by simp only;omega);have ca:=qAJ s { z with l:=l,total:=z.total+1 } hbz;have hacc:acc.length<=200000:=by omega
          cases hA:qdI s { z with l:=l,total:=z.total+1 } with
          |error e9 =>
           rw [hA] at ca j1;simp only [Except.bind] at j1;subst j1;simp only [Except.bind] at i1;subst i1
           repeat' (first|refine zV hinc ?_|refine zN ?_|refine zB ?_ ?_<;>intro h<;>try exact zk h|refine zX ?_|refine oF (cn) ?_|refine eF (cn) ?_|refine zC (cs) ?_|exact zk h|fail)
           refine Run.drawP (frz:=[88,100]) qak (by kernel_rfl) [(1,3)] 3 [4,5,6,7] (x:=qoE e9) (obP:=pG++[qrU x,.box [.d (.str x.t),.sr 7 1 (acc.map qao)],.room acc.length 1,qrU x2]) (by rfl) (by kernel_rfl) ?_ ?_
           .iterate 3 refine cX ?_
            refine cP ca ?_;iterate 4 refine cD ?_
            refine EvC.nil ⟨by kernel_rfl,⟨⟨_,_,_,_,_,_,_,rfl,rfl,rfl,rfl,rfl,rfl⟩,trivial⟩⟩
           .exact⟨rfl,rfl,wkE⟩
          |ok w =>
           rw [hA] at ca j1;simp only [qjS] at j1;obtain⟨al,w⟩:=w;simp only at ca j1;obtain⟨a1,a2,a3,a4,a5,a6,a7,a8⟩:=qo3 _ _ hA;simp only at a1 a2 a3 a4 a5 a6;have hbw:PB w:=hbz.of (fun u hu=>a4 u hu) (by simp only;exact a5) (by rw [a1];exact j2.toks) (by rw [a1];exact j2.rules) (by have:=hbz.uses;simp only at this;omega) (by omega);rw [hl] at j5 j6;simp only [List.length_cons] at j5 j6;have fin:∀ s1:S,qbU 5 s1 ⟨PT.ofList [(0,.bp 0 0),(4,.bp 6 0),(5,.d (.str qfC))],pO s w++[qrU x,.box [.d (.str x.t),.sr 7 1 (acc.map qao++[qao al])],.room (acc.length+1) 1],[]⟩ ->
             ∃ z:Nat × List (List (List Nat)) × PS × Bool,(qf3 s z.1 z.2.2.2 z.2.1 z.2.2.1=RA/\PB z.2.2.1/\z.2.2.1.x=y.x/\z.2.2.1.total<=24/\z.2.2.1.l.length<z.1/\z.2.2.1.l.length<y.l.length/\(∀ u ∈ z.2.2.1.l,u ∈ y.l)/\z.2.1.length+z.1<=200000)/\z.1<k+1 /\
              qbU 5 s1 ⟨PT.ofList [(0,.bp 0 0),(4,.bp 6 0),(5,.d (.str (cond z.2.2.2 sEq qfC)))],pO s z.2.2.1++[qrU x,.box [.d (.str x.t),.sr 7 1 (z.2.1.map qao)],.room z.2.1.length 1],[]⟩:=fun s1 ht =>
            ⟨(k,acc++[al],w,false),⟨j1,hbw,a1.trans j3,by simp only;omega,by simp only;omega,by simp only;omega,fun u hu=>j7 u (by rw [hl];exact List.mem_cons_of_mem _ (a4 u hu)),by simp;omega⟩,Nat.lt_succ_self _,by simpa using ht⟩
           repeat' (first|refine zV hinc ?_|refine zN ?_|refine zB ?_ ?_<;>intro h<;>try exact zk h|refine zX ?_|refine oF (cn) ?_|refine eF (cn) ?_|refine zC (cs) ?_|exact zk h|fail)
           refine Run.drawC (frz:=[88,100]) qak (by kernel_rfl) [(1,3)] ?_;iterate 3 refine cX ?_
           refine qtF ca ?_;refine cX ?_;refine cX ?_ (hv:=qnV) (hf:=rfl) (he:=rfl);iterate 2 refine cX ?_
           refine EvC.nil ⟨by kernel_rfl,⟨⟨_,_,_,_,_,_,_,rfl,rfl,rfl,rfl,rfl,rfl⟩,trivial⟩,?_⟩
           repeat' (first|refine zW ?_|refine zB ?_ ?_<;>intro h<;>try exact zk h|refine zX ?_|(exact fin _ (ti _ 8))|exact zk h|fail)
        .have cs:=qyH x2 3 sg hsg
         rw [if_neg hsg] at j1;subst j1;simp only [Except.bind] at i1;subst i1;have cf:=qf1 s { z with l:=l } 3 x2.a
         repeat' (first|refine zN ?_|refine zB ?_ ?_<;>intro h<;>try exact zk h|refine zX ?_|refine oF (cn) ?_|refine eF (cn) ?_|refine zC (cs) ?_|refine oFP (cf) ?_|(exact⟨rfl,rfl,wkE⟩)|exact zk h|fail)
     .obtain⟨alts',w⟩:=v
      obtain⟨v1,v2,v3,v4,v5,v6,v7⟩:=hv;simp only at v1 v2 v3 v4 v5 v6 v7;rw [v1] at i1;simp only [qjS] at i1;have ce:=qxA s w;refine Run.cellData 6 1 ?_;cases hE:qa3 s 3 qau w with
      |error e9 =>
       rw [hE] at ce i1;simp only [Except.bind] at i1;subst i1
       repeat' (first|refine zW ?_|refine zB ?_ ?_<;>intro h<;>try exact zk h|refine zX ?_|refine oFP (ce) ?_|(exact⟨rfl,rfl,wkE⟩)|exact zk h|fail)
      |ok w2' =>
       rw [hE] at ce i1;simp only [qjS] at i1;obtain⟨g1,g2,g3⟩:=qga hE;have gx:w2'.x=y.x:=by rw [g1];exact v3
       have hr7:w2'.x.rules.length<=7:=by rw [gx];rw [hqx] at h8;omega
       have hbn:PB { w2' with x:={ w2'.x with rules:=w2'.x.rules++[⟨x.t,alts'⟩] } }:=v2.of g3 (by simp only;omega) (by simp only;rw [gx];exact i2.toks) (by simp;omega) (by simp only;rw [g1];simp only;omega) (by simp only;rw [g1];simp only;omega);have fin:∀ s1:S,qbU 5 s1 ⟨PT.ofList [(0,.bp 0 0),(2,.d (.bool false))],pOr s w2' ⟨x.t,alts'⟩,[]⟩ ->
         ∃ y:Nat × PS × Bool,(qcZ s y.1 y.2.2 y.2.1=R/\PB y.2.1/\y.2.1.l.length<y.1/\y.2.1.x.rules.length<=8/\y.2.1.total<=24)/\y.1<n+1/\qbU 5 s1 ⟨PT.ofList [(0,.bp 0 0),(2,.d (.bool y.2.2))],pO s y.2.1,[]⟩:=fun s1 ht =>
        ⟨(n,{ w2' with x:={ w2'.x with rules:=w2'.x.rules++[⟨x.t,alts'⟩] } },false),⟨i1,hbn,by simp only;omega,by simp;omega,by simp only;rw [g1];exact v4⟩,Nat.lt_succ_self _,by
         show qbU 5 s1 ⟨PT.ofList [(0,.bp 0 0),(2,.d (.bool false))],pO s { w2' with x:={ w2'.x with rules:=w2'.x.rules++[⟨x.t,alts'⟩] } },[]⟩
         rw [qxI];exact ht⟩
       repeat' (first|refine zW ?_|refine zB ?_ ?_<;>intro h<;>try exact zk h|refine zX ?_|refine oF (ce) ?_|refine eF (ce) ?_|refine zAp ?_|(exact fin _ (ti _ 5))|exact zk h|fail)
 .rw [if_neg hc] at i1
  subst i1;have hf:first=false:=by cases first<;>simp at hc |-
  subst hf;have hge:¬ 0<y.l.length:=fun e=>hc (.inr e)
  repeat' (first|refine zW ?_|refine zB ?_ ?_<;>intro h<;>try exact zk h|refine zX ?_|(((first|refine Yt ?_|skip);exact⟨trivial,_,_,rfl,rfl,.refl,wkE⟩))|exact zk h|fail)
theorem qcD {s:List Nat} {ls:List Lx} {r:RS}:(qaF s ls r).2.x=r.x/\(qaF s ls r).2.pos=r.pos/\(qaF s ls r).2.alts=r.alts:=by
 unfold qaF qaw;split
 .exact⟨rfl,rfl,rfl⟩
 .split<;>exact⟨rfl,rfl,rfl⟩
theorem qqF {s:List Nat} {ls:List Lx} {r:RS} (hb:Bd s ls r):(qaF s ls r).1.t.length<=1048576:=by
 unfold qaF;split
 .rename_i x hx
  exact hb.len x (List.mem_of_getElem? hx)
 .simp
theorem qqn {s:List Nat} {ls:List Lx} {r:RS} (hb:Bd s ls r):(qa5 s ls r).1.t.length<=1048576:=qqF hb
theorem qub (s:List Nat) (ls:List Lx) (r:RS) (t:List Nat) (hb:Bd s ls r):ACall Tryz.prog 193 [.bp 0 0,.d (.str t)] (rO s ls r) (.d (.bool (qbu ls t r).1)) (rO s ls (qbu ls t r).2):=by
 have w:Fz []:=trivial;obtain⟨b1,b2,b3,b4,b5,b6,b7⟩:=hb;by_cases h0:r.f.1=0
 .have c0:=qpH s ls r h0
  rcases Nat.lt_or_ge r.pos ls.length with hlt|hge
  .obtain⟨x,hx⟩:=qai hlt
   have hd:=qk5 hx;by_cases hc:x.k=3/\x.t=t
   .have c2:=qAg x 3 t hc
    have hinc:AV.d (.int .i64 (IntKind.i64.wrap ((r.pos:Int)+1)))=.d (.int .i64 ((r.pos+1:Nat):Int)):=congrArg (fun x=>AV.d (.int .i64 x)) ((congrArg IntKind.i64.wrap (show(r.pos:Int)+1=((r.pos+1:Nat):Int) by omega)).trans (qaT (by omega)));rw [show qbu ls t r=(true,{ r with pos:=r.pos+1 }) by simp [qbu,h0,hd,isL,hc]];refine qad qak (fnB Tryz.func193 []) rfl rfl rfl rfl rfl ?_
    repeat' (first|refine zV hinc ?_|refine zW ?_|refine zB ?_ ?_<;>intro h<;>try exact zk h|refine oF (c0) ?_|refine eF (c0) ?_|refine zC (c2) ?_|refine zI w (.d (.ep [.int .i64 (x.k:Nat),.str x.t,.int .i64 (x.a:Nat)])) hx ?_|(((first|refine Yt ?_|skip);exact⟨trivial,_,_,rfl,rfl,.refl,wkE⟩))|exact zk h|fail)
   .have c2:=qAd x 3 t hc
    rw [show qbu ls t r=(false,r) by simp [qbu,h0,hd,isL,hc]];refine qad qak (fnB Tryz.func193 []) rfl rfl rfl rfl rfl ?_
    repeat' (first|refine zW ?_|refine zB ?_ ?_<;>intro h<;>try exact zk h|refine oF (c0) ?_|refine eF (c0) ?_|refine zC (c2) ?_|refine zI w (.d (.ep [.int .i64 (x.k:Nat),.str x.t,.int .i64 (x.a:Nat)])) hx ?_|(((first|refine Yt ?_|skip);exact⟨trivial,_,_,rfl,rfl,.refl,wkE⟩))|exact zk h|fail)
  .rw [show qbu ls t r=(false,r) by simp [qbu,List.drop_eq_nil_of_le hge,isL]]
   refine qad qak (fnB Tryz.func193 []) rfl rfl rfl rfl rfl ?_
   repeat' (first|refine zW ?_|refine zB ?_ ?_<;>intro h<;>try exact zk h|refine oF (c0) ?_|refine eF (c0) ?_|(((first|refine Yt ?_|skip);exact⟨trivial,_,_,rfl,rfl,.refl,wkE⟩))|exact zk h|fail)
 .have c0:=qpv s ls r h0
  rw [show qbu ls t r=(false,r) by simp [qbu,h0]];refine qad qak (fnB Tryz.func193 []) rfl rfl rfl rfl rfl ?_
  repeat' (first|refine zW ?_|refine zB ?_ ?_<;>intro h<;>try exact zk h|refine oF (c0) ?_|refine eF (c0) ?_|(((first|refine Yt ?_|skip);exact⟨trivial,_,_,rfl,rfl,.refl,wkE⟩))|exact zk h|fail)
theorem qoW (s:List Nat) (ls:List Lx) (r:RS) (cap:Bool) (hb:Bd s ls r):ACall Tryz.prog 195 [.bp 0 0,.d (.bool cap)] (rO s ls r) (.d (.str (qbt s ls cap r).1)) (rO s ls (qbt s ls cap r).2):=by
 have w:Fz []:=trivial;have ct:=qs5 s ls r hb;have ht:=qqn hb;unfold qbt;generalize qa5 s ls r=p at ct ht |-;obtain⟨x,r1⟩:=p;simp only at ct ht;have e1:(qfo cap (x,r1)).1=x.t:=rfl;rw [e1];have c3:=qgo x.t (by omega);have c4:=qd9 x.t (by omega);by_cases h0:r1.f.1=0
 .have c0:=qpH s ls r1 h0
  by_cases hk:x.k=1
  .cases hc:(if cap then qae x.t else qap x.t) with
   |true =>
    have e2:(qfo cap (x,r1)).2=r1:=by simp only [qfo];rw [if_neg (by simp [h0]),if_neg (by simp [hk]),if_pos hc]
    rw [e2];cases cap with
    |true =>
     rw [show qae x.t=true by simpa using hc] at c4;refine qad qak (fnB Tryz.func195 []) rfl rfl rfl rfl rfl ?_
     repeat' (first|refine zW ?_|refine zB ?_ ?_<;>intro h<;>try exact zk h|refine oF (ct) ?_|refine eF (ct) ?_|refine oF (c0) ?_|refine eF (c0) ?_|refine zC (c4) ?_|refine zC (c3) ?_|(((first|refine Yt ?_|skip);exact⟨trivial,_,_,rfl,rfl,.refl,wkE⟩))|exact zk h|fail)
    |false =>
     rw [show qap x.t=true by simpa using hc] at c3;refine qad qak (fnB Tryz.func195 []) rfl rfl rfl rfl rfl ?_
     repeat' (first|refine zW ?_|refine zB ?_ ?_<;>intro h<;>try exact zk h|refine oF (ct) ?_|refine eF (ct) ?_|refine oF (c0) ?_|refine eF (c0) ?_|refine zC (c4) ?_|refine zC (c3) ?_|(((first|refine Yt ?_|skip);exact⟨trivial,_,_,rfl,rfl,.refl,wkE⟩))|exact zk h|fail)
   |false =>
    have e2:(qfo cap (x,r1)).2=qaw 12 x.a r1:=by simp only [qfo];rw [if_neg (by simp [h0]),if_neg (by simp [hk]),if_neg (by rw [hc];simp)]
    rw [e2];have c5:=qe5 s ls r1 12 x.a;generalize qaw 12 x.a r1=r2 at c5 |-;cases cap with
    |true =>
     rw [show qae x.t=false by simpa using hc] at c4;refine qad qak (fnB Tryz.func195 []) rfl rfl rfl rfl rfl ?_
     repeat' (first|refine zW ?_|refine zB ?_ ?_<;>intro h<;>try exact zk h|refine oF (ct) ?_|refine eF (ct) ?_|refine oF (c0) ?_|refine eF (c0) ?_|refine oF (c5) ?_|refine eF (c5) ?_|refine zC (c4) ?_|refine zC (c3) ?_|(((first|refine Yt ?_|skip);exact⟨trivial,_,_,rfl,rfl,.refl,wkE⟩))|exact zk h|fail)
    |false =>
     rw [show qap x.t=false by simpa using hc] at c3;refine qad qak (fnB Tryz.func195 []) rfl rfl rfl rfl rfl ?_
     repeat' (first|refine zW ?_|refine zB ?_ ?_<;>intro h<;>try exact zk h|refine oF (ct) ?_|refine eF (ct) ?_|refine oF (c0) ?_|refine eF (c0) ?_|refine oF (c5) ?_|refine eF (c5) ?_|refine zC (c4) ?_|refine zC (c3) ?_|(((first|refine Yt ?_|skip);exact⟨trivial,_,_,rfl,rfl,.refl,wkE⟩))|exact zk h|fail)
  .have e2:(qfo cap (x,r1)).2=qaw 3 x.a r1:=by simp only [qfo];rw [if_neg (by simp [h0]),if_pos hk]
   rw [e2];have c5:=qe5 s ls r1 3 x.a;generalize qaw 3 x.a r1=r2 at c5 |-;refine qad qak (fnB Tryz.func195 []) rfl rfl rfl rfl rfl ?_
   repeat' (first|refine zW ?_|refine zB ?_ ?_<;>intro h<;>try exact zk h|refine oF (ct) ?_|refine eF (ct) ?_|refine oF (c0) ?_|refine eF (c0) ?_|refine oF (c5) ?_|refine eF (c5) ?_|(((first|refine Yt ?_|skip);exact⟨trivial,_,_,rfl,rfl,.refl,wkE⟩))|exact zk h|fail)
 .have c0:=qpv s ls r1 h0
  have e2:(qfo cap (x,r1)).2=r1:=by simp only [qfo];rw [if_pos h0]
  rw [e2];refine qad qak (fnB Tryz.func195 []) rfl rfl rfl rfl rfl ?_
  repeat' (first|refine zW ?_|refine zB ?_ ?_<;>intro h<;>try exact zk h|refine oF (ct) ?_|refine eF (ct) ?_|refine oF (c0) ?_|refine eF (c0) ?_|(((first|refine Yt ?_|skip);exact⟨trivial,_,_,rfl,rfl,.refl,wkE⟩))|exact zk h|fail)
theorem qd3 {n w a:Nat} {r:RS}:(qa7 n w a r).x=r.x/\(qa7 n w a r).pos=r.pos/\(qa7 n w a r).alts=r.alts:=by
 unfold qa7 qaw;split
 .split<;>exact⟨rfl,rfl,rfl⟩
 .exact⟨rfl,rfl,rfl⟩
theorem qaI {e a:Nat} {r:RS}:(qaw e a r).x=r.x/\(qaw e a r).pos=r.pos/\(qaw e a r).alts=r.alts:=by
 unfold qaw;split<;>exact⟨rfl,rfl,rfl⟩
theorem qg4 {s:List Nat} {ls:List Lx} {r:RS}:(qa5 s ls r).2.x=r.x/\(qa5 s ls r).2.pos=r.pos+1/\(qa5 s ls r).2.alts=r.alts:=by
 have:=qcD (s:=s) (ls:=ls) (r:=r);simp only [qa5];exact⟨this.1,by rw [this.2.1],this.2.2⟩
theorem qrj {n:Nat} {p:Lx × RS}:(qfI n p).x=p.2.x/\(qfI n p).pos=p.2.pos/\(qfI n p).alts=p.2.alts:=by
 unfold qfI;obtain⟨a1,a2,a3⟩:=qd3 (n:=n) (w:=6) (a:=p.1.a) (r:=if qfh p.1.t=true then p.2 else qaw 12 p.1.a p.2);rw [a1,a2,a3];split
 .exact⟨rfl,rfl,rfl⟩
 .exact qaI
theorem Bd.of {s:List Nat} {ls:List Lx} {r r':RS} (h:Bd s ls r) (hx:r'.x=r.x) (hp:r'.pos<=16777216) (ha:r'.alts<=16777216):Bd s ls r':=⟨h.s,h.l,hp,ha,by rw [hx];exact h.toks,by rw [hx];exact h.rules,h.len⟩
set_option maxHeartbeats 4000000 in
theorem qvU (s:List Nat) (ls:List Lx) (r:RS) (hb:Bd s ls r) (hpos:r.f.1=0->r.pos<=ls.length) (ha:r.alts<16777216) (hin:r.alts=24->1<=r.pos/\r.pos<=ls.length) :
  ACall Tryz.prog 197 [.bp 0 0] (rO s ls r) (.d (qao (qaS s ls r).1)) (rO s ls (qaS s ls r).2):=by
 have w:Fz [65]:=trivial;have b1:=hb.s;have b2:=hb.l;have b7:=hb.len;unfold qaS qbH;obtain⟨x1,x2,x3⟩:=qd3 (n:=r.alts) (w:=24) (a:=(ls.getD (r.pos-1) lx0).a) (r:=r);obtain⟨R,hR⟩:∃ R,R=qgi s ls (ls.length+1) [] { qa7 r.alts 24 (ls.getD (r.pos-1) lx0).a r with alts:=r.alts+1 }:=⟨_,rfl⟩
 rw [<- hR];have hx:R.2.x=r.x:=by
  have gen:∀ (n:Nat) (acc:List (List Nat)) (r0:RS),(qgi s ls n acc r0).2.x=r0.x:=by
   intro n
   induction n with
   |zero=>intro acc r0;rfl
   |succ n ih =>
    intro acc r0;simp only [qgi];split
    .split
     .rw [ih,qrj.1,qg4.1,qcD.1]
     .exact qcD.1
    .rfl
  rw [hR,gen];exact x1
 have eR:rO s ls R.2=[qeJ s ls R.2,.room r.x.tokens.length 1,.room r.x.rules.length 2]:=by unfold rO;rw [hx]
 rw [eR];have c6:=qe5 s ls r 6 (ls.getD (r.pos-1) lx0).a;refine qad qak (fnB Tryz.func197 [65]) rfl rfl rfl rfl rfl ?_
 repeat refine zS ?_
 refine zX ?_
 repeat refine zS ?_
 iterate 5 refine zX ?_
 repeat refine zS ?_
 refine Run.mid ⟨PT.ofList [(0,.bp 0 0)],rO s ls (qa7 r.alts 24 (ls.getD (r.pos-1) lx0).a r),[]⟩ ?_ ?_
 .by_cases h24:r.alts=24
  .obtain⟨i1,i2⟩:=hin h24
   obtain⟨x,hx⟩:=qai (show r.pos-1<ls.length by omega);have hxa:(ls.getD (r.pos-1) lx0).a=x.a:=by rw [List.getD_eq_getElem?_getD,hx];rfl
   have hdec:AV.d (.int .i64 (IntKind.i64.wrap ((r.pos:Int)-1)))=.d (.int .i64 ((r.pos-1:Nat):Int)):=vN8 (by omega) (by omega);rw [hxa] at c6 |-;rw [show qa7 r.alts 24 x.a r=qaw 6 x.a r by simp [qa7,h24]];refine Run.condT (Eq.trans (b:=AV.d (.bool (((r.alts:Nat):Int) == 24))) rfl (by rw [h24];rfl)) ?_;obtain⟨y1,_,_⟩:=qaI (e:=6) (a:=x.a) (r:=r);unfold rO qeJ at c6 |-;rw [y1] at c6 |-;generalize qaw 6 x.a r=r1 at c6 |-
   repeat' (first|refine zV hdec ?_|refine zW ?_|refine zB ?_ ?_<;>intro h<;>try exact zk h|refine oF (c6) ?_|refine eF (c6) ?_|refine zI w (.d (.ep [.int .i64 (x.k:Nat),.str x.t,.int .i64 (x.a:Nat)])) hx ?_|(exact(by show qbU _ _ _;exact(ti _ 3)))|exact zk h|fail)
  .rw [show qa7 r.alts 24 (ls.getD (r.pos-1) lx0).a r=r by simp [qa7,h24]]
   refine Run.condF (Eq.trans (b:=AV.d (.bool (((r.alts:Nat):Int) == 24))) rfl (congrArg (fun b=>AV.d (.bool b)) (beq_eq_false_iff_ne.2 (by omega)))) ?_
   repeat' (first|refine zW ?_|refine zB ?_ ?_<;>intro h<;>try exact zk h|(exact(by show qbU _ _ _;exact(ti _ 3)))|exact zk h|fail)
 .have hf0:(qa7 r.alts 24 (ls.getD (r.pos-1) lx0).a r).f.1=0->r.f.1=0:=by
   unfold qa7 qaw;split
   .split
    .intro _;assumption
    .exact id
   .exact id
  generalize qa7 r.alts 24 (ls.getD (r.pos-1) lx0).a r=r1 at x1 x2 x3 hR hf0 |-;unfold rO qeJ;rw [x1,x3];have hinc:AV.d (.int .i64 (IntKind.i64.wrap ((r.alts:Int)+1)))=.d (.int .i64 ((r.alts+1:Nat):Int)):=vN8 (by omega) (by omega)
  repeat' (first|refine zV hinc ?_|refine zW ?_|refine zB ?_ ?_<;>intro h<;>try exact zk h|exact zk h|fail)
  refine Run.mkRoom 3 1 [(0,.bp 0 0),(3,.sr 3 1 [])] (by kernel_rfl) (qbW (by intro p hp;simp only [List.mem_cons,List.not_mem_nil,or_false] at hp;rcases hp with rfl|rfl<;>first|exact .inl ⟨rfl,rfl⟩|exact .inr (by kernel_rfl))) ?_;refine Run.loopT (fun y:Nat × List (List Nat) × RS=>⟨PT.ofList [(0,.bp 0 0),(3,.sr 3 1 (y.2.1.map .str))],[qeJ s ls y.2.2,.room r.x.tokens.length 1,.room r.x.rules.length 2,.room y.2.1.length 1],[]⟩)
   (fun y=>y.2.2.x=r.x/\(y.2.2.f.1=0->y.2.2.pos<=ls.length)/\y.2.2.pos<=16777216/\y.2.2.alts<=16777216/\y.2.1.length+y.1<=ls.length+1/\ls.length<y.1+y.2.2.pos/\qgi s ls y.1 y.2.1 y.2.2=R) (fun y=>y.1) (ls.length+1,[],{ r1 with alts:=r.alts+1 }) ⟨x1,fun h=>by simp only;rw [x2];exact hpos (hf0 h),by simp only;rw [x2];exact hb.pos,by simp only;omega,by simp,by simp only;omega,hR.symm⟩ (by simp only [qeJ,x1];exact(ti _ 4)) (fun y hy=>?_)
  obtain⟨n,acc,r2⟩:=y;obtain⟨h1,h2,h3,h4,h5,h6,h7⟩:=hy;simp only at h1 h2 h3 h4 h5 h6 h7 |-;have hb2:Bd s ls r2:=hb.of h1 h3 h4;have eO:∀ r':RS,r'.x=r.x->rO s ls r'=[qeJ s ls r',.room r.x.tokens.length 1,.room r.x.rules.length 2]:=fun r' e=>by unfold rO;rw [e]
  by_cases h0:r2.f.1=0
  .have c0:=qpH s ls r2 h0
   have hp2:=h2 h0;obtain⟨n,rfl⟩:∃ k,n=k+1:=⟨n-1,by omega⟩
   have cp:=qpU s ls r2 hb2;simp only [qgi,h0,if_true] at h7;rw [eO _ h1] at c0 cp;rw [eO _ (qcD.1.trans h1)] at cp;rcases Nat.lt_or_ge r2.pos ls.length with hlt|hge
   .obtain⟨x,hx'⟩:=qai hlt
    have ep:qaF s ls r2=(x,r2):=by simp [qaF,hx']
    rw [ep] at cp h7;simp only at cp h7;by_cases hk:x.k=1
    .rw [if_pos hk] at h7
     have ct:=qs5 s ls r2 hb2;have et:qa5 s ls r2=(x,{ r2 with pos:=r2.pos+1 }):=by simp [qa5,ep]
     rw [et] at ct h7;simp only at ct h7;rw [eO r2 h1,eO { r2 with pos:=r2.pos+1 } h1] at ct;have hxt:=b7 x (List.mem_of_getElem? hx');have cs:=qgo x.t (by omega);have cc:=qd9 x.t (by omega);obtain⟨r3,hr3⟩:∃ r3:RS,r3={ r2 with pos:=r2.pos+1 }:=⟨_,rfl⟩
     rw [<- hr3] at ct h7;have q1:r3.x=r.x:=by rw [hr3];exact h1
     have q2:r3.pos=r2.pos+1:=by rw [hr3]
     have q3:r3.alts<=16777216:=by rw [hr3];exact h4
     have q4:r3.f.1=0:=by rw [hr3];exact h0
     clear hr3;obtain⟨r4,hr4⟩:∃ r4,r4=if qfh x.t=true then r3 else qaw 12 x.a r3:=⟨_,rfl⟩
     have w4:r4.x=r3.x/\r4.pos=r3.pos/\r4.alts=r3.alts:=by
      rw [hr4];split
      .exact⟨rfl,rfl,rfl⟩
      .exact qaI
     obtain⟨r5,hr5⟩:∃ r5,r5=qa7 acc.length 6 x.a r4:=⟨_,rfl⟩
     have w5:r5.x=r4.x/\r5.pos=r4.pos/\r5.alts=r4.alts:=by rw [hr5];exact qd3
     have e5:qfI acc.length (x,r3)=r5:=by rw [hr5,hr4];rfl
     rw [e5] at h7;have c4:qfh x.t=false->ACall Tryz.prog 191 [.bp 0 0,.d (.int .i64 (12:Nat)),.d (.int .i64 (x.a:Nat))] [qeJ s ls r3,.room r.x.tokens.length 1,.room r.x.rules.length 2] (.tup []) [qeJ s ls r4,.room r.x.tokens.length 1,.room r.x.rules.length 2]:=fun hm=>by
      have:=qe5 s ls r3 12 x.a;rw [eO _ q1,eO _ (qaI.1.trans q1)] at this;rw [hr4,if_neg (by rw [hm];simp)];exact this
     have c5:acc.length=6->ACall Tryz.prog 191 [.bp 0 0,.d (.int .i64 (6:Nat)),.d (.int .i64 (x.a:Nat))] [qeJ s ls r4,.room r.x.tokens.length 1,.room r.x.rules.length 2] (.tup []) [qeJ s ls r5,.room r.x.tokens.length 1,.room r.x.rules.length 2]:=fun hm=>by
      have:=qe5 s ls r4 6 x.a;rw [eO _ (w4.1.trans q1),eO _ (qaI.1.trans (w4.1.trans q1))] at this;rw [hr5,qa7,if_pos hm];exact this
     have g5:r5.x=r.x:=by rw [w5.1,w4.1,q1]
     have g6:r5.pos=r2.pos+1:=by rw [w5.2.1,w4.2.1,q2]
     have g7:r5.alts<=16777216:=by rw [w5.2.2,w4.2.2];exact q3
     have fin:∀ s1:S,qbU 3 s1 ⟨PT.ofList [(0,.bp 0 0),(3,.sr 3 1 (acc.map .str++[DV.str x.t]))],[qeJ s ls r5,.room r.x.tokens.length 1,.room r.x.rules.length 2,.room (acc.length+1) 1],[]⟩ ->
       ∃ x':Nat × List (List Nat) × RS,(x'.2.2.x=r.x/\(x'.2.2.f.1=0->x'.2.2.pos<=ls.length)/\x'.2.2.pos<=16777216/\x'.2.2.alts<=16777216/\x'.2.1.length+x'.1<=ls.length+1/\ls.length<x'.1+x'.2.2.pos/\qgi s ls x'.1 x'.2.1 x'.2.2=R)/\x'.1<n+1 /\
        qbU 3 s1 ⟨PT.ofList [(0,.bp 0 0),(3,.sr 3 1 (x'.2.1.map .str))],[qeJ s ls x'.2.2,.room r.x.tokens.length 1,.room r.x.rules.length 2,.room x'.2.1.length 1],[]⟩:=fun s1 ht =>
      ⟨(n,acc++[x.t],r5),⟨g5,fun _=>by simp only;omega,by simp only;omega,g7,by simp only [List.length_append,List.length_cons,List.length_nil];omega,by simp only;omega,h7⟩,Nat.lt_succ_self _,by simpa using ht⟩
     have hk':AV.d (.bool (decide (((x.k:Nat):Int)=1)))=.d (.bool true):=by rw [hk];rfl
     by_cases h6l:acc.length=6
     .have c5:=c5 h6l
      cases hs:qap x.t with
      |true =>
       have:r4=r3:=by rw [hr4,if_pos (by simp [qfh,hs])]
       subst this;rw [hs] at cs
       repeat' (first|refine zW ?_|refine zB ?_ ?_<;>intro h<;>try exact zk h|refine oF (c0) ?_|refine eF (c0) ?_|refine oF (cp) ?_|refine eF (cp) ?_|refine oF (ct) ?_|refine eF (ct) ?_|refine oF (c5) ?_|refine eF (c5) ?_|refine zC (cs) ?_|refine zC (cc) ?_|refine zAp ?_|(exact fin _ (ti _ 4))|exact zk h|fail)
      |false =>
       rw [hs] at cs;cases hc:qae x.t with
       |true =>
        have:r4=r3:=by rw [hr4,if_pos (by simp [qfh,hc])]
        subst this;rw [hc] at cc
        repeat' (first|refine zW ?_|refine zB ?_ ?_<;>intro h<;>try exact zk h|refine oF (c0) ?_|refine eF (c0) ?_|refine oF (cp) ?_|refine eF (cp) ?_|refine oF (ct) ?_|refine eF (ct) ?_|refine oF (c5) ?_|refine eF (c5) ?_|refine zC (cs) ?_|refine zC (cc) ?_|refine zAp ?_|(exact fin _ (ti _ 4))|exact zk h|fail)
       |false =>
        have c4:=c4 (by simp [qfh,hs,hc]);rw [hc] at cc
        repeat' (first|refine zW ?_|refine zB ?_ ?_<;>intro h<;>try exact zk h|refine oF (c0) ?_|refine eF (c0) ?_|refine oF (cp) ?_|refine eF (cp) ?_|refine oF (ct) ?_|refine eF (ct) ?_|refine oF (c4) ?_|refine eF (c4) ?_|refine oF (c5) ?_|refine eF (c5) ?_|refine zC (cs) ?_|refine zC (cc) ?_|refine zAp ?_|(exact fin _ (ti _ 4))|exact zk h|fail)
     .have:r5=r4:=by rw [hr5,qa7,if_neg h6l]
      subst this;cases hs:qap x.t with
      |true =>
       have:r5=r3:=by rw [hr4,if_pos (by simp [qfh,hs])]
       subst this;rw [hs] at cs
       repeat' (first|refine zW ?_|refine zB ?_ ?_<;>intro h<;>try exact zk h|refine oF (c0) ?_|refine eF (c0) ?_|refine oF (cp) ?_|refine eF (cp) ?_|refine oF (ct) ?_|refine eF (ct) ?_|refine zC (cs) ?_|refine zC (cc) ?_|refine zAp ?_|(exact fin _ (ti _ 4))|exact zk h|fail)
      |false =>
       rw [hs] at cs;cases hc:qae x.t with
       |true =>
        have:r5=r3:=by rw [hr4,if_pos (by simp [qfh,hc])]
        subst this;rw [hc] at cc
        repeat' (first|refine zW ?_|refine zB ?_ ?_<;>intro h<;>try exact zk h|refine oF (c0) ?_|refine eF (c0) ?_|refine oF (cp) ?_|refine eF (cp) ?_|refine oF (ct) ?_|refine eF (ct) ?_|refine zC (cs) ?_|refine zC (cc) ?_|refine zAp ?_|(exact fin _ (ti _ 4))|exact zk h|fail)
       |false =>
        have c4:=c4 (by simp [qfh,hs,hc]);rw [hc] at cc
        repeat' (first|refine zW ?_|refine zB ?_ ?_<;>intro h<;>try exact zk h|refine oF (c0) ?_|refine eF (c0) ?_|refine oF (cp) ?_|refine eF (cp) ?_|refine oF (ct) ?_|refine eF (ct) ?_|refine oF (c4) ?_|refine eF (c4) ?_|refine zC (cs) ?_|refine zC (cc) ?_|refine zAp ?_|(exact fin _ (ti _ 4))|exact zk h|fail)
    .rw [if_neg hk] at h7
     subst h7
     repeat' (first|refine zW ?_|refine zB ?_ ?_<;>intro h<;>try exact zk h|refine oF (c0) ?_|refine eF (c0) ?_|refine oF (cp) ?_|refine eF (cp) ?_|(((first|refine Yt ?_|skip);exact⟨trivial,_,_,rfl,rfl,.sr,wkE⟩))|exact zk h|fail)
   .have ep:qaF s ls r2=(lx0,qaw 5 s.length r2):=by simp [qaF,List.getElem?_eq_none hge]
    rw [ep] at cp h7;rw [if_neg (by simp)] at h7;simp only at cp h7;subst h7;simp only;generalize qaw 5 s.length r2=r3 at cp
    repeat' (first|refine zW ?_|refine zB ?_ ?_<;>intro h<;>try exact zk h|refine oF (c0) ?_|refine eF (c0) ?_|refine oF (cp) ?_|refine eF (cp) ?_|(((first|refine Yt ?_|skip);exact⟨trivial,_,_,rfl,rfl,.sr,wkE⟩))|exact zk h|fail)
  .have c0:=qpv s ls r2 h0
   rw [eO _ h1] at c0;rw [qm1 h0] at h7;subst h7
   repeat' (first|refine zW ?_|refine zB ?_ ?_<;>intro h<;>try exact zk h|refine oF (c0) ?_|refine eF (c0) ?_|(((first|refine Yt ?_|skip);exact⟨trivial,_,_,rfl,rfl,.sr,wkE⟩))|exact zk h|fail)
theorem qbG {s:List Nat} {ls:List Lx} {r:RS} {k:Nat} {t:List Nat}:(qaG s ls k t r).x=r.x/\(qaG s ls k t r).pos=r.pos+1/\(qaG s ls k t r).alts=r.alts:=by
 have h:=qg4 (s:=s) (ls:=ls) (r:=r);unfold qaG qeP;split
 .have:=qaI (e:=3) (a:=(qa5 s ls r).1.a) (r:=(qa5 s ls r).2)
  rw [this.1,this.2.1,this.2.2];exact h
 .exact h
theorem qfr {s:List Nat} {ls:List Lx} {r:RS} {c:Bool}:(qbt s ls c r).2.x=r.x/\(qbt s ls c r).2.pos=r.pos+1/\(qbt s ls c r).2.alts=r.alts:=by
 have h:=qg4 (s:=s) (ls:=ls) (r:=r);have f3:=qaI (e:=3) (a:=(qa5 s ls r).1.a) (r:=(qa5 s ls r).2);have f12:=qaI (e:=12) (a:=(qa5 s ls r).1.a) (r:=(qa5 s ls r).2);unfold qbt qfo;simp only;by_cases h0:(qa5 s ls r).2.f.1≠0
 .rw [if_pos h0];exact h
 .rw [if_neg h0]
  by_cases h1:(qa5 s ls r).1.k≠1
  .rw [if_pos h1,f3.1,f3.2.1,f3.2.2];exact h
  .rw [if_neg h1]
   by_cases h2:(if c=true then qae (qa5 s ls r).1.t else qap (qa5 s ls r).1.t)=true
   .rw [if_pos h2];exact h
   .rw [if_neg h2,f12.1,f12.2.1,f12.2.2];exact h
theorem qj9 {l:List (List Nat)} {t:List Nat} {a:Nat} {r:RS}:(qgj l t a r).x=r.x/\(qgj l t a r).pos=r.pos/\(qgj l t a r).alts=r.alts:=by
 unfold qgj;split
 .exact qaI
 .exact⟨rfl,rfl,rfl⟩
theorem qvS {ls:List Lx} {r:RS} {t:List Nat}:(qbu ls t r).2.x=r.x/\(qbu ls t r).2.pos<=r.pos+1/\(qbu ls t r).2.alts=r.alts:=by
 unfold qbu;split
 .exact⟨rfl,Nat.le_refl _,rfl⟩
 .exact⟨rfl,Nat.le_succ _,rfl⟩
theorem qoD {s:List Nat} {ls:List Lx}:∀ (n:Nat) (acc:List (List Nat)) (r:RS),(qgi s ls n acc r).2.x=r.x/\(qgi s ls n acc r).2.alts=r.alts/\r.pos<=(qgi s ls n acc r).2.pos/\((r.f.1=0->r.pos<=ls.length)->r.pos<=ls.length+2->(qgi s ls n acc r).2.pos<=ls.length+2) /\
  ((r.f.1=0->r.pos<=ls.length)->(qgi s ls n acc r).2.f.1=0->(qgi s ls n acc r).2.pos<=ls.length)
 |0,acc,r=>⟨rfl,rfl,Nat.le_refl _,fun _ h=>h,fun h h'=>h h'⟩
 |n+1,acc,r=>by
  simp only [qgi];split
  .rename_i h0
   split
   .rename_i hk
    have hlt:r.pos<ls.length:=by
     rcases Nat.lt_or_ge r.pos ls.length with h|h
     .exact h
     .rw [show(qaF s ls r).1=lx0 by simp [qaF,List.getElem?_eq_none h]] at hk
      cases hk
    have ih:=qoD (s:=s) (ls:=ls) n (acc++[(qa5 s ls (qaF s ls r).2).1.t]) (qfI acc.length (qa5 s ls (qaF s ls r).2));have a1:=qrj (n:=acc.length) (p:=qa5 s ls (qaF s ls r).2);have a2:=qg4 (s:=s) (ls:=ls) (r:=(qaF s ls r).2);have a3:=qcD (s:=s) (ls:=ls) (r:=r);have hp:(qfI acc.length (qa5 s ls (qaF s ls r).2)).pos=r.pos+1:=by rw [a1.2.1,a2.2.1,a3.2.1]
    refine⟨by rw [ih.1,a1.1,a2.1,a3.1],by rw [ih.2.1,a1.2.2,a2.2.2,a3.2.2],by have:=ih.2.2.1;omega,fun _ _=>ih.2.2.2.1 (fun _=>by omega) (by omega),fun _ h'=>ih.2.2.2.2 (fun _=>by omega) h'⟩
   .have a3:=qcD (s:=s) (ls:=ls) (r:=r)
    refine⟨a3.1,a3.2.2,by rw [a3.2.1];exact Nat.le_refl _,fun _ h=>by rw [a3.2.1];exact h,fun h _=>by rw [a3.2.1];exact h h0⟩
  .rename_i h0
   exact⟨rfl,rfl,Nat.le_refl _,fun _ h=>h,fun h h'=>h h'⟩
theorem qtJ {n w a:Nat} {r:RS} (h:(qa7 n w a r).f.1=0):r.f.1=0:=by
 unfold qa7 qaw at h;split at h
 .split at h
  .assumption
  .exact h
 .exact h
theorem qgO {s:List Nat} {ls:List Lx} {r:RS} (h:r.f.1=0->r.pos<=ls.length):(qaS s ls r).2.x=r.x/\(qaS s ls r).2.alts=r.alts+1/\(r.pos<=ls.length+2->(qaS s ls r).2.pos<=ls.length+2)/\((qaS s ls r).2.f.1=0->(qaS s ls r).2.pos<=ls.length):=by
 have a1:=qd3 (n:=r.alts) (w:=24) (a:=(ls.getD (r.pos-1) lx0).a) (r:=r);have a2:=qoD (s:=s) (ls:=ls) (ls.length+1) [] (qbH ls r);have hf:(qbH ls r).f.1=0->(qbH ls r).pos<=ls.length:=fun h0=>by simp only [qbH] at h0 |-;rw [a1.2.1];exact h (qtJ h0)
 unfold qaS;refine⟨by rw [a2.1];exact a1.1,by rw [a2.2.1];simp only [qbH],fun hp=>a2.2.2.2.1 hf (by simp only [qbH];rw [a1.2.1];exact hp),a2.2.2.2.2 hf⟩
theorem qi6 {ls:List Lx} {r:RS} {t:List Nat} (h:(qbu ls t r).1=true):qbu ls t r=(true,{ r with pos:=r.pos+1 })/\r.f.1=0/\r.pos<ls.length:=by
 unfold qbu at h |-;split at h
 .rename_i hc
  rw [if_pos hc];refine⟨rfl,hc.1,?_⟩;rcases Nat.lt_or_ge r.pos ls.length with hlt|hge
  .exact hlt
  .rw [List.drop_eq_nil_of_le hge] at hc;cases hc.2
 .cases h
theorem qiA {ls:List Lx} {r:RS} {t:List Nat} (h:(qbu ls t r).1=false):qbu ls t r=(false,r):=by
 unfold qbu at h |-;split at h
 .cases h
 .rename_i hc
  rw [if_neg hc]
theorem qnv {s:List Nat} {ls:List Lx}:∀ (n:Nat) (acc:List (List (List Nat))) (r:RS),(r.f.1=0->r.pos<=ls.length)->r.pos<=ls.length+2->(qcf s ls n acc r).2.x=r.x/\(qcf s ls n acc r).2.pos<=ls.length+2/\(qcf s ls n acc r).2.alts<=r.alts+n
 |0,acc,r,_,h=>⟨rfl,h,Nat.le_refl _⟩
 |n+1,acc,r,hf,h=>by
  have a1:=qgO (s:=s) (ls:=ls) hf;simp only [qcf];cases hq:(qbu ls qfC (qaS s ls r).2).1 with
  |true =>
   obtain⟨e,q1,q2⟩:=qi6 hq;have ih:=qnv (s:=s) (ls:=ls) n (acc++[(qaS s ls r).1]) (qbu ls qfC (qaS s ls r).2).2 (fun _=>by rw [e];simp only;omega) (by rw [e];simp only;omega);rw [if_pos rfl];refine⟨ih.1.trans (by rw [e];exact a1.1),ih.2.1,?_⟩;have ea:(qbu ls qfC (qaS s ls r).2).2.alts=r.alts+1:=by rw [e];exact a1.2.1
   have:=ih.2.2;omega
  |false =>
   rw [if_neg (by simp),qiA hq];exact⟨a1.1,a1.2.2.1 h,by have:=a1.2.1;simp only;omega⟩
theorem qee {s:List Nat} {ls:List Lx} {r:RS} {k:Nat} {t:List Nat} (h:(qaG s ls k t r).f.1=0):r.f.1=0/\∃ x,ls[r.pos]?=some x/\r.pos<ls.length:=by
 by_cases h0:r.f.1=0
 .rcases Nat.lt_or_ge r.pos ls.length with hlt|hge
  .exact⟨h0,ls[r.pos],by simp [hlt],hlt⟩
  .exfalso
   have e:qa5 s ls r=(lx0,{ r with f:=(5,s.length),pos:=r.pos+1 }):=by simp [qa5,qaF,List.getElem?_eq_none hge,qaw,h0]
   unfold qaG qeP at h;rw [e] at h;simp at h
 .rw [qaY h0] at h
  exact absurd h h0
set_option maxHeartbeats 8000000 in
theorem qyR (s:List Nat) (ls:List Lx) (r:RS) (hb:Bd s ls r) (hp0:r.pos<=ls.length+2) (hf:qde r.x) (ha:r.alts+ls.length<16777000) :
  ACall Tryz.prog 107 [.bp 0 0] (rO s ls r) (.tup []) (rO s ls (qfL s ls r)):=by
 have w:Fz [48,60]:=trivial;have b1:=hb.s;have b2:=hb.l;have b7:=hb.len;have cp:=qpU s ls r hb;have tp:=qqF hb;have xp:=qcD (s:=s) (ls:=ls) (r:=r);simp only [qfL];generalize qaF s ls r=p at cp tp xp |-;obtain⟨x0,r0⟩:=p;simp only at cp tp xp |-;have hb0:Bd s ls r0:=hb.of xp.1 (by rw [xp.2.1];exact hb.pos) (by rw [xp.2.2];exact hb.alts);have cn:=qoW s ls r0 true hb0;have xn:=qfr (s:=s) (ls:=ls) (r:=r0) (c:=true);generalize qbt s ls true r0=q at cn xn |-;obtain⟨nm,r1⟩:=q;simp only at cn xn |-;have f1:qde r1.x:=by rw [xn.1,xp.1];exact hf
 have cr:=qln r1.x f1;have ch:=qiI (qab r1.x) nm (by have:=f1.rules;simp;omega);obtain⟨r2,hr2⟩:∃ r2,r2=if r1.f.1=0 then qgj (qab r1.x) nm x0.a r1 else r1:=⟨_,rfl⟩
 have x2:r2.x=r1.x/\r2.pos=r1.pos/\r2.alts=r1.alts:=by
  rw [hr2];split
  .exact qj9
  .exact⟨rfl,rfl,rfl⟩
 rw [<- hr2];obtain⟨r3,hr3⟩:∃ r3,r3=qa7 r2.x.rules.length 8 x0.a r2:=⟨_,rfl⟩
 have x3:r3.x=r2.x/\r3.pos=r2.pos/\r3.alts=r2.alts:=by rw [hr3];exact qd3
 rw [<- hr3];have c8:=qe5 s ls r1 8 x0.a;have c6:=qe5 s ls r2 6 x0.a;have eQ:∀ r':RS,r'.x=r.x->rO s ls r'=[qeJ s ls r',.room r.x.tokens.length 1,.room r.x.rules.length 2]:=fun r' e=>by unfold rO;rw [e]
 have g1:r1.x=r.x:=xn.1.trans xp.1;have g2:r2.x=r.x:=x2.1.trans g1;have g3:r3.x=r.x:=x3.1.trans g2;have p3:r3.pos=r.pos+1:=by rw [x3.2.1,x2.2.1,xn.2.1,xp.2.1]
 have a3:r3.alts=r.alts:=by rw [x3.2.2,x2.2.2,xn.2.2,xp.2.2]
 have hb3:Bd s ls r3:=hb.of g3 (by omega) (by omega);have cm:=qjE s ls r3 3 sEq hb3;have x4:=qbG (s:=s) (ls:=ls) (r:=r3) (k:=3) (t:=sEq);have l4:=qee (s:=s) (ls:=ls) (r:=r3) (k:=3) (t:=sEq);generalize qaG s ls 3 sEq r3=r4 at cm x4 l4 |-;obtain⟨v,hv⟩:∃ v,v=if r4.f.1=0 then qcf s ls (ls.length+1) [] r4 else([],r4):=⟨_,rfl⟩
 rw [<- hv];have g4:r4.x=r.x:=x4.1.trans g3;have p4:r4.pos=r.pos+2:=by rw [x4.2.1,p3]
 have a4:r4.alts=r.alts:=x4.2.2.trans a3;have hvx:v.2.x=r.x/\v.2.pos<=ls.length+5/\v.2.alts<=16777100:=by
  rw [hv];split
  .rename_i h0
   obtain⟨_,_,_,l5⟩:=l4 h0;have:=qnv (s:=s) (ls:=ls) (ls.length+1) [] r4 (fun _=>by omega) (by omega);exact⟨this.1.trans g4,by omega,by omega⟩
  .exact⟨g4,by simp only;omega,by simp only;omega⟩
 have hbv:Bd s ls v.2:=hb.of hvx.1 (by omega) (by omega);have cm2:=qjE s ls v.2 3 qau hbv;have x5:=qbG (s:=s) (ls:=ls) (r:=v.2) (k:=3) (t:=qau);generalize qaG s ls 3 qau v.2=r5 at cm2 x5 |-;have g5:r5.x=r.x:=x5.1.trans hvx.1;have eXr:rO s ls { r5 with x:={ r5.x with rules:=r5.x.rules++[⟨nm,v.1⟩] } }=[.box [.d (.str s),.d (.sl 3 (ls.map qdJ)),.d (.int .i64 (r5.pos:Nat)),.d (.int .i64 (r5.f.1:Nat)),.d (.int .i64 (r5.f.2:Nat)),.d (.int .i64 (r5.alts:Nat)),.d (.int .i64 r5.x.k),.sr 1 1 (r5.x.tokens.map .str),.d (.str r5.x.sep),.d (.str r5.x.start),.sr 2 2 (r5.x.rules.map qbV++[qbV ⟨nm,v.1⟩])],.room r.x.tokens.length 1,.room (r.x.rules.length+1) 2]:=by
  unfold rO qeJ;simp only [g5,List.length_append,List.length_cons,List.length_nil,List.map_append,List.map_cons,List.map_nil]
 rw [eXr,eQ r rfl];rw [eQ r rfl,eQ r0 xp.1] at cp;rw [eQ r0 xp.1,eQ r1 g1] at cn;rw [eQ r3 g3,eQ r4 g4] at cm;rw [eQ v.2 hvx.1,eQ r5 g5] at cm2;rw [eQ r1 g1,eQ _ (qaI.1.trans g1)] at c8;rw [eQ r2 g2,eQ _ (qaI.1.trans g2)] at c6;refine qad qak (fnB Tryz.func107 [48,60]) rfl rfl rfl rfl rfl ?_
 repeat' (first|refine zR ?_|refine oF (cp) ?_|refine eF (cp) ?_|refine oF (cn) ?_|refine eF (cn) ?_|fail)
 refine Yq ?_;refine Run.mid ⟨PT.ofList [(0,.bp 0 0),(2,.d (.int .i64 (x0.a:Nat))),(3,.d (.str nm))],[qeJ s ls r2,.room r.x.tokens.length 1,.room r.x.rules.length 2],[]⟩ ?_ ?_
 .by_cases h0:r1.f.1=0
  .have c0:=qpH s ls r1 h0
   rw [eQ r1 g1] at c0;rw [if_pos h0,qgj] at hr2;unfold qc8 at hr2;generalize (qab r1.x).any (fun y=>decide (y=nm))=b at ch hr2;cases b with
   |true =>
    rw [if_pos rfl] at hr2;rw [<- hr2] at c8
    repeat' (first|refine zW ?_|refine zB ?_ ?_<;>intro h<;>try exact zk h|refine zX ?_|refine oF (c0) ?_|refine eF (c0) ?_|refine oF (c8) ?_|refine eF (c8) ?_|refine oW cr ?_|refine zC (ch) ?_|(exact(by show qbU _ _ _;exact(ti _ 3)))|exact zk h|fail)
   |false =>
    rw [if_neg (by simp)] at hr2;subst hr2
    repeat' (first|refine zW ?_|refine zB ?_ ?_<;>intro h<;>try exact zk h|refine zX ?_|refine oF (c0) ?_|refine eF (c0) ?_|refine oW cr ?_|refine zC (ch) ?_|(exact(by show qbU _ _ _;exact(ti _ 3)))|exact zk h|fail)
  .have c0:=qpv s ls r1 h0
   rw [eQ r1 g1] at c0;rw [if_neg h0] at hr2;subst hr2
   repeat' (first|refine zW ?_|refine zB ?_ ?_<;>intro h<;>try exact zk h|refine zX ?_|refine oF (c0) ?_|refine eF (c0) ?_|(exact(by show qbU _ _ _;exact(ti _ 3)))|exact zk h|fail)
 .refine Yq ?_
  refine Run.mid ⟨PT.ofList [(0,.bp 0 0),(2,.d (.int .i64 (x0.a:Nat))),(3,.d (.str nm))],[qeJ s ls r3,.room r.x.tokens.length 1,.room r.x.rules.length 2],[]⟩ ?_ ?_
  .rw [qa7] at hr3
   by_cases h8:r2.x.rules.length=8
   .rw [if_pos h8] at hr3
    rw [<- hr3] at c6
    repeat' (first|refine zW ?_|refine zB ?_ ?_<;>intro h<;>try exact zk h|refine zX ?_|refine oF (c6) ?_|refine eF (c6) ?_|(exact(by show qbU _ _ _;exact(ti _ 3)))|exact zk h|fail)
   .rw [if_neg h8] at hr3
    subst hr3
    repeat' (first|refine zW ?_|refine zB ?_ ?_<;>intro h<;>try exact zk h|refine zX ?_|(exact(by show qbU _ _ _;exact(ti _ 3)))|exact zk h|fail)
  .repeat' (first|refine zR ?_|refine oF (cm) ?_|refine eF (cm) ?_|fail)
   refine Yq ?_;refine Run.cellRoom 3 1 1 ?_;refine Run.mid ⟨PT.ofList [(0,.bp 0 0),(4,.bp 3 0)],[qeJ s ls v.2,.room r.x.tokens.length 1,.room r.x.rules.length 2,.box [.d (.str nm),.sr 4 1 (v.1.map qao)],.room v.1.length 1],[]⟩ ?_ ?_
   .have c0:=qAV s ls r4
    rw [eQ r4 g4] at c0;have hv0:(decide (r4.f.1=0)=true->qcf s ls (ls.length+1) [] r4=v/\r4.pos<=ls.length/\1<=r4.pos)/\(decide (r4.f.1=0)=false->v=([],r4)):=by
     refine⟨fun h=>?_,fun h=>?_⟩
     .have h0:=of_decide_eq_true h
      obtain⟨_,_,_,l5⟩:=l4 h0;exact⟨by rw [hv,if_pos h0],by omega,by omega⟩
     .have h0:=of_decide_eq_false h
      rw [hv,if_neg h0]
    generalize decide (r4.f.1=0)=b0 at c0 hv0
    repeat' (first|refine zW ?_|refine zB ?_ ?_<;>intro h<;>try exact zk h|refine zX ?_|refine oF (c0) ?_|refine eF (c0) ?_|exact zk h|fail)
    refine Run.loopT (fun y:(Nat × List (List (List Nat))) × RS × Bool=>⟨PT.ofList [(0,.bp 0 0),(4,.bp 3 0),(5,.d (.bool y.2.2))],[qeJ s ls y.2.1,.room r.x.tokens.length 1,.room r.x.rules.length 2,.box [.d (.str nm),.sr 4 1 (y.1.2.map qao)],.room y.1.2.length 1],[]⟩)
     (fun y=>y.2.1.x=r.x/\y.1.2.length+y.1.1<=ls.length+1/\(y.2.2=true->qcf s ls y.1.1 y.1.2 y.2.1=v/\y.2.1.pos<=ls.length/\1<=y.2.1.pos/\y.2.1.alts+y.1.1<=16777100/\ls.length<y.1.1+y.2.1.pos)/\(y.2.2=false->v=(y.1.2,y.2.1)))
     (fun y=>y.1.1) ((ls.length+1,[]),r4,b0) ⟨g4,by simp,fun h=>⟨(hv0.1 h).1,(hv0.1 h).2.1,(hv0.1 h).2.2,by simp only;omega,by simp only;omega⟩,fun h=>hv0.2 h⟩ (ti _ 5) (fun y hy=>?_)
    obtain⟨⟨n,acc⟩,r6,b⟩:=y;obtain⟨h1,h2,h3,h4⟩:=hy;simp only at h1 h2 h3 h4 |-;cases b with
    |false =>
     have:=h4 rfl;subst this
     repeat' (first|refine zW ?_|refine zB ?_ ?_<;>intro h<;>try exact zk h|refine zX ?_|(exact(by show qbU _ _ _;exact(ti _ 5)))|exact zk h|fail)
    |true =>
     obtain⟨k1,k2,k3,k4,k5⟩:=h3 rfl;obtain⟨n,rfl⟩:∃ j,n=j+1:=⟨n-1,by omega⟩
     have hb6:Bd s ls r6:=hb.of h1 (by omega) (by omega);have ca:=qvU s ls r6 hb6 (fun _=>k2) (by omega) (fun _=>⟨k3,k2⟩);have a1:=qgO (s:=s) (ls:=ls) (r:=r6) (fun _=>k2);have a2:r6.pos<=(qaS s ls r6).2.pos:=by
      have:=(qoD (s:=s) (ls:=ls) (ls.length+1) [] (qbH ls r6)).2.2.1;have h':=(qd3 (n:=r6.alts) (w:=24) (a:=(ls.getD (r6.pos-1) lx0).a) (r:=r6)).2.1;have e':(qbH ls r6).pos=r6.pos:=h';rw [e'] at this;exact this
     simp only [qcf] at k1;generalize qaS s ls r6=q1 at ca a1 a2 k1;obtain⟨al,r7⟩:=q1;simp only at ca a1 a2 k1;have g7:r7.x=r.x:=a1.1.trans h1;have a17:=a1.2.2.1 (by omega);have hb7:Bd s ls r7:=hb.of g7 (by omega) (by omega);have cq:=qub s ls r7 qfC hb7;have q1:=qi6 (ls:=ls) (r:=r7) (t:=qfC);have q2:=qiA (ls:=ls) (r:=r7) (t:=qfC);generalize qbu ls qfC r7=Q at cq q1 q2 k1;obtain⟨b,r8⟩:=Q;simp only at cq q1 q2 k1;rw [eQ r6 h1,eQ r7 g7] at ca;have g8:r8.x=r.x:=by
      cases b with
      |true=>have:=(q1 rfl).1;simp only [Prod.mk.injEq] at this;rw [this.2];exact g7
      |false=>have:=q2 rfl;simp only [Prod.mk.injEq] at this;rw [this.2];exact g7
     rw [eQ r7 g7,eQ r8 g8] at cq
     repeat refine zS ?_
     refine zX ?_
     repeat refine zS ?_
     refine Run.drawC (frz:=[48,60]) qak (by kernel_rfl) [(1,3)] ?_;iterate 3 refine cX ?_
     refine qtF ca ?_;refine cX ?_;refine cX ?_ (hv:=qnV) (hf:=rfl) (he:=rfl);iterate 2 refine cX ?_
     refine EvC.nil ⟨by kernel_rfl,⟨⟨_,_,_,_,_,_,_,rfl,rfl,rfl,rfl,rfl,rfl⟩,trivial⟩,?_⟩;have fin:∀ s1:S,qbU 3 s1 ⟨PT.ofList [(0,.bp 0 0),(4,.bp 3 0),(5,.d (.bool b))],[qeJ s ls r8,.room r.x.tokens.length 1,.room r.x.rules.length 2,.box [.d (.str nm),.sr 4 1 (acc.map qao++[qao al])],.room (acc.length+1) 1],[]⟩ ->
       ∃ y:(Nat × List (List (List Nat))) × RS × Bool,(y.2.1.x=r.x/\y.1.2.length+y.1.1<=ls.length+1/\(y.2.2=true->qcf s ls y.1.1 y.1.2 y.2.1=v/\y.2.1.pos<=ls.length/\1<=y.2.1.pos/\y.2.1.alts+y.1.1<=16777100/\ls.length<y.1.1+y.2.1.pos)/\(y.2.2=false->v=(y.1.2,y.2.1)))/\y.1.1<n+1 /\
        qbU 3 s1 ⟨PT.ofList [(0,.bp 0 0),(4,.bp 3 0),(5,.d (.bool y.2.2))],[qeJ s ls y.2.1,.room r.x.tokens.length 1,.room r.x.rules.length 2,.box [.d (.str nm),.sr 4 1 (y.1.2.map qao)],.room y.1.2.length 1],[]⟩:=fun s1 ht=>by
      refine⟨((n,acc++[al]),r8,b),⟨g8,by simp only [List.length_append,List.length_cons,List.length_nil];omega,fun hb'=>?_,fun hb'=>?_⟩,Nat.lt_succ_self _,by simpa using ht⟩
      .simp only at hb'
       subst hb';obtain⟨e1,e2,e3⟩:=q1 rfl;simp only [Prod.mk.injEq,true_and] at e1;rw [if_pos rfl] at k1;have ep:r8.pos=r7.pos+1:=by rw [e1]
       have ea:r8.alts=r7.alts:=by rw [e1]
       exact⟨k1,by simp only;omega,by simp only;omega,by simp only;omega,by simp only;omega⟩
      .simp only at hb'
       subst hb';rw [if_neg (by simp)] at k1;exact k1.symm
     repeat' (first|refine zW ?_|refine zB ?_ ?_<;>intro h<;>try exact zk h|refine zX ?_|refine oF (cq) ?_|refine eF (cq) ?_|(exact fin _ (ti _ 5))|exact zk h|fail)
   .refine Run.cellData 3 1 ?_
    have b6:r5.x.rules.length<=1048576:=by rw [g5];exact hb.rules
    have hrl:r.x.rules.length=(r5.x.rules.map qbV).length:=by simp [g5]
    rw [hrl] at cm2 |-
    repeat' (first|refine zW ?_|refine zB ?_ ?_<;>intro h<;>try exact zk h|refine zX ?_|refine oF (cm2) ?_|refine eF (cm2) ?_|refine zAp ?_|(((first|refine Yt ?_|skip);exact⟨trivial,_,_,rfl,rfl,.refl,wkE⟩))|exact zk h|fail)
theorem qiu {x:Lx} {r:RS}:(qaB x r).x=r.x/\(qaB x r).pos=r.pos/\(qaB x r).alts=r.alts:=by
 unfold qaB;split
 .exact qaI
 .exact⟨rfl,rfl,rfl⟩
theorem qk4:∀ {l:List Lx} {r:RS},(qcK l r).x=r.x/\(qcK l r).pos=r.pos/\(qcK l r).alts=r.alts
 |[],_=>⟨rfl,rfl,rfl⟩
 |x :: l,r=>by
  have h1:=qiu (x:=x) (r:=r);have h2:=qk4 (l:=l) (r:=qaB x r);rw [qcK];exact⟨h2.1.trans h1.1,h2.2.1.trans h1.2.1,h2.2.2.trans h1.2.2⟩
abbrev qx0 (x:Lx):Ob:=.box [.d (.int .i64 (x.k:Nat)),.d (.str x.t),.d (.int .i64 (x.a:Nat))]
set_option maxHeartbeats 4000000 in
theorem qwt (s:List Nat) (ls:List Lx) (r:RS) (st:Lx) (p0:Nat) (hb:Bd s ls r) (hf:qde r.x) (hp:p0<=16777216) :
  ACall Tryz.prog 108 [.bp 0 0,.d (qdJ st),.d (.int .i64 (p0:Nat))] (rO s ls r) (.tup []) (rO s ls (qhJ st (ls.drop p0) r)):=by
 have w:Fz [4]:=trivial;have b2:=hb.l;have cr:=qln r.x hf;have hfr:=hf.rules;have hft:=hf.tokens;have ch:=qiI (qab r.x) st.t (by simp;omega);have c7:=qe5 s ls r 7 st.a;have eQ:∀ r':RS,r'.x=r.x->rO s ls r'=[qeJ s ls r',.room r.x.tokens.length 1,.room r.x.rules.length 2]:=fun r' e=>by unfold rO;rw [e]
 obtain⟨r1,hr1⟩:∃ r1,r1=if qc8 (qab r.x) st.t=false then qaw 7 st.a r else r:=⟨_,rfl⟩
 have x1:r1.x=r.x/\r1.pos=r.pos/\r1.alts=r.alts:=by
  rw [hr1];split
  .exact qaI
  .exact⟨rfl,rfl,rfl⟩
 obtain⟨R,hR⟩:∃ R,R=qhJ st (ls.drop p0) r:=⟨_,rfl⟩
 have hR1:R=qcK (ls.drop p0) r1:=by rw [hR,hr1];rfl
 have xR:R.x=r.x:=by rw [hR1];exact qk4.1.trans x1.1
 rw [<- hR,eQ r rfl,eQ R xR];rw [eQ r rfl,eQ _ qaI.1] at c7;refine qad qak (fnB Tryz.func108 [4]) rfl rfl rfl rfl rfl ?_
 repeat' (first|refine zR ?_|refine oW cr ?_|fail)
 refine Yq ?_;refine Run.mid ⟨PT.ofList [(0,.bp 0 0),(2,.d (.int .i64 (p0:Nat))),(6,.d (qao (qab r.x)))],[qeJ s ls r1,.room r.x.tokens.length 1,.room r.x.rules.length 2],[]⟩ ?_ ?_
 .unfold qc8 at hr1
  generalize (qab r.x).any (fun y=>decide (y=st.t))=b at ch hr1;cases b with
  |true =>
   rw [if_neg (by simp)] at hr1;subst hr1
   repeat' (first|refine zW ?_|refine zB ?_ ?_<;>intro h<;>try exact zk h|refine zC (ch) ?_|(exact(by show qbU _ _ _;exact(ti _ 3)))|exact zk h|fail)
  |false =>
   rw [if_pos rfl] at hr1;rw [<- hr1] at c7
   repeat' (first|refine zW ?_|refine zB ?_ ?_<;>intro h<;>try exact zk h|refine zC (ch) ?_|refine oF (c7) ?_|refine eF (c7) ?_|(exact(by show qbU _ _ _;exact(ti _ 3)))|exact zk h|fail)
 repeat refine zS ?_
 iterate 2 refine zX ?_
 repeat refine zS ?_
 refine Run.loopT (fun y:Nat × RS=>⟨PT.ofList [(0,.bp 0 0),(6,.d (qao (qab r.x))),(7,.d (.int .i64 (y.1:Nat)))],[qeJ s ls y.2,.room r.x.tokens.length 1,.room r.x.rules.length 2],[]⟩)
  (fun y=>y.2.x=r.x/\y.1<=16777216+1048576/\R=qcK (ls.drop y.1) y.2) (fun y=>ls.length-y.1) (p0,r1) ⟨x1.1,by simp only;omega,hR1⟩ (ti _ 3) (fun y hy=>?_)
 obtain⟨i,r2⟩:=y;obtain⟨h1,h2,h3⟩:=hy;simp only at h1 h2 h3 |-;rcases Nat.lt_or_ge i ls.length with hlt|hge
 .obtain⟨x,hx⟩:=qai hlt
  rw [qk5 hx,qcK] at h3;have hinc:AV.d (.int .i64 (IntKind.i64.wrap ((i:Int)+1)))=.d (.int .i64 ((i+1:Nat):Int)):=vN8 (by omega) (by omega);have fin:∀ (r3:RS) (s1:S),r3=qaB x r2->qbU 3 s1 ⟨PT.ofList [(0,.bp 0 0),(6,.d (qao (qab r.x))),(7,.d (.int .i64 ((i+1:Nat):Int)))],[qeJ s ls r3,.room r.x.tokens.length 1,.room r.x.rules.length 2],[]⟩ ->
    ∃ y:Nat × RS,(y.2.x=r.x/\y.1<=16777216+1048576/\R=qcK (ls.drop y.1) y.2)/\ls.length-y.1<ls.length-i /\
     qbU 3 s1 ⟨PT.ofList [(0,.bp 0 0),(6,.d (qao (qab r.x))),(7,.d (.int .i64 (y.1:Nat)))],[qeJ s ls y.2,.room r.x.tokens.length 1,.room r.x.rules.length 2],[]⟩:=fun r3 s1 he ht =>
   ⟨(i+1,r3),⟨by rw [he];exact qiu.1.trans h1,by simp only;omega,by rw [he];exact h3⟩,by simp only;omega,ht⟩
  by_cases hk:x.k=1
  .have hkk:AV.d (.bool (((x.k:Nat):Int) != 1))=.d (.bool false):=by rw [hk];rfl
   by_cases hs:x.t=r2.x.sep
   .have e1:qaB x r2=qaw 14 x.a r2:=by simp [qaB,hk,qmC,hs]
    have c14:=qe5 s ls r2 14 x.a;rw [eQ r2 h1,eQ _ (qaI.1.trans h1),<- e1] at c14;have fin':=fun s1=>fin _ s1 rfl;generalize qaB x r2=r3 at c14 fin'
    repeat' (first|refine zV hkk ?_|refine zV hinc ?_|refine zW ?_|refine zB ?_ ?_<;>intro h<;>try exact zk h|refine oF (c14) ?_|refine eF (c14) ?_|refine zI w (.d (.ep [.int .i64 (x.k:Nat),.str x.t,.int .i64 (x.a:Nat)])) hx ?_|(exact fin' _ (ti _ 3))|((exfalso;first|(simp at h<;>omega)|(simp at h;exact absurd hs h)|(simp at h;exact absurd h hs)))|fail)
   .have cn:=qiI (qab r.x) x.t (by simp;omega)
    have ct:=qiI r2.x.tokens x.t (by rw [h1];omega);have ec:qmC r2.x x.t=if qc8 (qab r.x) x.t=false/\qc8 r2.x.tokens x.t=false then 7 else 0:=by rw [qmC,if_neg hs,h1]
    unfold qc8 at ec;generalize (qab r.x).any (fun y=>decide (y=x.t))=b1 at cn ec;generalize r2.x.tokens.any (fun y=>decide (y=x.t))=b2' at ct ec;cases b1 with
    |true =>
     have e1:qaB x r2=r2:=by simp [qaB,ec]
     repeat' (first|refine zV hkk ?_|refine zV hinc ?_|refine zW ?_|refine zB ?_ ?_<;>intro h<;>try exact zk h|refine zI w (.d (.ep [.int .i64 (x.k:Nat),.str x.t,.int .i64 (x.a:Nat)])) hx ?_|refine zC (cn) ?_|refine oW ct ?_|refine eW ct ?_|(exact fin _ _ e1.symm (ti _ 3))|((exfalso;first|(simp at h<;>omega)|(simp at h;exact absurd hs h)|(simp at h;exact absurd h hs)))|fail)
    |false =>
     cases b2' with
     |true =>
      have e1:qaB x r2=r2:=by simp [qaB,ec]
      repeat' (first|refine zV hkk ?_|refine zV hinc ?_|refine zW ?_|refine zB ?_ ?_<;>intro h<;>try exact zk h|refine zI w (.d (.ep [.int .i64 (x.k:Nat),.str x.t,.int .i64 (x.a:Nat)])) hx ?_|refine zC (cn) ?_|refine oW ct ?_|refine eW ct ?_|(exact fin _ _ e1.symm (ti _ 3))|((exfalso;first|(simp at h<;>omega)|(simp at h;exact absurd hs h)|(simp at h;exact absurd h hs)))|fail)
     |false =>
      have e1:qaB x r2=qaw 7 x.a r2:=by simp [qaB,hk,ec]
      have c14:=qe5 s ls r2 7 x.a;rw [eQ r2 h1,eQ _ (qaI.1.trans h1),<- e1] at c14;have fin':=fun s1=>fin _ s1 rfl;generalize qaB x r2=r3 at c14 fin'
      repeat' (first|refine zV hkk ?_|refine zV hinc ?_|refine zW ?_|refine zB ?_ ?_<;>intro h<;>try exact zk h|refine oF (c14) ?_|refine eF (c14) ?_|refine zI w (.d (.ep [.int .i64 (x.k:Nat),.str x.t,.int .i64 (x.a:Nat)])) hx ?_|refine zC (cn) ?_|refine oW ct ?_|refine eW ct ?_|(exact fin' _ (ti _ 3))|((exfalso;first|(simp at h<;>omega)|(simp at h;exact absurd hs h)|(simp at h;exact absurd h hs)))|fail)
  .have e1:qaB x r2=r2:=by simp [qaB,hk]
   repeat' (first|refine zV hinc ?_|refine zW ?_|refine zB ?_ ?_<;>intro h<;>try exact zk h|refine zI w (.d (.ep [.int .i64 (x.k:Nat),.str x.t,.int .i64 (x.a:Nat)])) hx ?_|(exact fin _ _ e1.symm (ti _ 3))|exact zk h|fail)
 .rw [List.drop_eq_nil_of_le hge,qcK] at h3
  subst h3
  repeat' (first|refine zW ?_|refine zB ?_ ?_<;>intro h<;>try exact zk h|(((first|refine Yt ?_|skip);exact⟨trivial,_,_,rfl,rfl,.refl,wkE⟩))|exact zk h|fail)
theorem qlp {s:List Nat} {ls:List Lx} {r:RS}:(qbI s ls r).x={ r.x with tokens:=r.x.tokens++[(qbt s ls false (qaF s ls r).2).1] }/\(qbI s ls r).pos=r.pos+1/\(qbI s ls r).alts=r.alts:=by
 have a1:=qcD (s:=s) (ls:=ls) (r:=r);simp only [qbI];generalize qaF s ls r=p at a1 |-;have a2:=qfr (s:=s) (ls:=ls) (r:=p.2) (c:=false);generalize qbt s ls false p.2=q at a2 |-;have a3:=qj9 (l:=q.2.x.tokens) (t:=q.1) (a:=p.1.a) (r:=q.2);generalize qgj q.2.x.tokens q.1 p.1.a q.2=q3 at a3 |-;have a4:=qd3 (n:=q.2.x.tokens.length) (w:=8) (a:=p.1.a) (r:=q3);generalize qa7 q.2.x.tokens.length 8 p.1.a q3=q4 at a4 |-;exact⟨by rw [a4.1,a3.1,a2.1,a1.1],by rw [a4.2.1,a3.2.1,a2.2.1,a1.2.1],by rw [a4.2.2,a3.2.2,a2.2.2,a1.2.2]⟩
theorem qpk {s:List Nat} {ls:List Lx} {r:RS} (h0:r.f.1=0) (h:(qbI s ls r).f.1=0):r.pos<ls.length:=by
 rcases Nat.lt_or_ge r.pos ls.length with hlt|hge
 .exact hlt
 .exfalso
  have e:qaF s ls r=(lx0,{ r with f:=(5,s.length) }):=by simp [qaF,List.getElem?_eq_none hge,qaw,h0]
  simp only [qbI,e] at h;have h3:(qbt s ls false { r with f:=(5,s.length) }).2.f=(5,s.length):=qhg (by simp);have h4:(qbt s ls false { r with f:=(5,s.length) }).2.f.1≠0:=by rw [h3];simp
  rw [ql4 h4,qiO h4,h3] at h;cases h
theorem qi3 {s:List Nat} {ls:List Lx}:∀ (n:Nat) (r:RS),(r.f.1=0->r.pos<=ls.length)->r.pos<=ls.length+3->(qaL s ls n r).x.rules=r.x.rules/\(qaL s ls n r).alts=r.alts/\(qaL s ls n r).pos<=ls.length+3/\(qaL s ls n r).x.tokens.length<=r.x.tokens.length+n
 |0,r,_,h=>⟨rfl,rfl,h,Nat.le_refl _⟩
 |n+1,r,hf,h=>by
  simp only [qaL];by_cases h0:r.f.1=0
  .rw [if_pos h0]
   have a:=qlp (s:=s) (ls:=ls) (r:=r);have al:(qbI s ls r).x.tokens.length=r.x.tokens.length+1:=by rw [a.1];simp
   have ar:(qbI s ls r).x.rules=r.x.rules:=by rw [a.1]
   have:=hf h0;cases hq:(qbu ls qdF (qbI s ls r)).1 with
   |true =>
    obtain⟨e,q1,q2⟩:=qi6 hq;rw [if_pos rfl,e];simp only;have ih:=qi3 (s:=s) (ls:=ls) n { qbI s ls r with pos:=(qbI s ls r).pos+1 } (fun _=>by simp only;omega) (by simp only;omega);exact⟨ih.1.trans ar,ih.2.1.trans a.2.2,ih.2.2.1,by have:=ih.2.2.2;simp only at this;omega⟩
   |false =>
    rw [if_neg (by simp),qiA hq];exact⟨ar,a.2.2,by simp only;omega,by simp only;omega⟩
  .rw [if_neg h0];exact⟨rfl,rfl,h,by omega⟩
theorem qrJ {s:List Nat} {ls:List Lx} {r:RS} (hn:quE ls) (hk:(qa5 s ls r).1.k=2):NumT (qa5 s ls r).1.t:=by
 simp only [qa5] at hk |-;unfold qaF at hk |-;split
 .rename_i x hx
  rw [hx] at hk;exact hn x (List.mem_of_getElem? hx) hk
 .rename_i hx
  rw [hx] at hk;cases hk
abbrev Zl:Ob:=.box [.d (.int .i64 0),.d (.str []),.d (.int .i64 0)]
set_option maxHeartbeats 8000000 in
theorem qzw (s:List Nat) (ls:List Lx) (r:RS) (hb:Bd s ls r) (hn:quE ls) (hp0:r.pos=0) (ha:r.alts=0) (ht0:r.x.tokens=[]) (hr0:r.x.rules=[]) :
  ACall Tryz.prog 105 [.bp 0 0] (rO s ls r) (.d (qdJ (qgd s ls r).1)) [qeJ s ls (qgd s ls r).2,.room (qgd s ls r).2.x.tokens.length 1,.room 0 2]:=by
 have w:Fz [87]:=trivial;have b1:=hb.s;have b2:=hb.l;have b7:=hb.len;have eQ:∀ (T:List (List Nat)) (r':RS),r'.x.tokens=T->r'.x.rules=[]->rO s ls r'=[qeJ s ls r',.room T.length 1,.room 0 2]:=fun T r' e1 e2=>by unfold rO;rw [e1,e2];rfl
 have c1:=qjE s ls r 1 qcz hb;have x1:=qbG (s:=s) (ls:=ls) (r:=r) (k:=1) (t:=qcz);simp only [qgd,qeB];generalize qaG s ls 1 qcz r=r1 at c1 x1 |-;have hb1:Bd s ls r1:=hb.of x1.1 (by omega) (by omega);have c2:=qs5 s ls r1 hb1;have x2:=qg4 (s:=s) (ls:=ls) (r:=r1);have n2:=qrJ (s:=s) (ls:=ls) (r:=r1) hn;have l2:=qqn hb1;generalize qa5 s ls r1=p at c2 x2 n2 l2 |-;obtain⟨xn,r2⟩:=p;simp only at c2 x2 n2 l2 |-;have t1:r1.x=r.x:=x1.1;have t2:r2.x=r.x:=x2.1.trans t1;have c3:=qe5 s ls r2 3 xn.a;obtain⟨r3,hr3⟩:∃ r3,r3=if r2.f.1=0/\xn.k≠2 then qaw 3 xn.a r2 else r2:=⟨_,rfl⟩
 rw [<- hr3];have t3:r3.x=r.x/\r3.pos=r2.pos/\r3.alts=r2.alts:=by
  rw [hr3];split
  .exact⟨qaI.1.trans t2,qaI.2.1,qaI.2.2⟩
  .exact⟨t2,rfl,rfl⟩
 have k3:r3.f.1=0->xn.k=2:=by
  rw [hr3];by_cases h0:r2.f.1=0
  .by_cases hk:xn.k=2
   .exact fun _=>hk
   .rw [if_pos ⟨h0,hk⟩];simp [qaw,h0]
  .rw [if_neg (fun e=>h0 e.1)];exact fun e=>absurd e h0
 have c5:=qe5 s ls r3 2 xn.a;obtain⟨r4,hr4⟩:∃ r4,r4=if r3.f.1=0 then(if qdP xn.t=true then { r3 with x:={ r3.x with k:=(qd6 xn.t:Nat) } } else { qaw 2 xn.a r3 with x:={ r3.x with k:=0 } }) else r3:=⟨_,rfl⟩
 have e4:(if r3.f.1=0 then(if qdP xn.t=true then { r3 with x:={ r3.x with k:=(qd6 xn.t:Nat) } } else { qaw 2 xn.a r3 with x:={ (qaw 2 xn.a r3).x with k:=0 } }) else r3)=r4:=by rw [hr4,(qaI (e:=2) (a:=xn.a) (r:=r3)).1]
 have t4:r4.x.tokens=[]/\r4.x.rules=[]/\r4.pos=2/\r4.alts=0:=by
  have f2:=qaI (e:=2) (a:=xn.a) (r:=r3);have g1:r3.x.tokens=[]:=by rw [t3.1];exact ht0
  have g2:r3.x.rules=[]:=by rw [t3.1];exact hr0
  have g3:r3.pos=2:=by omega
  have g4:r3.alts=0:=by omega
  rw [hr4];split
  .split
   .exact⟨g1,g2,g3,g4⟩
   .exact⟨g1,g2,f2.2.1.trans g3,f2.2.2.trans g4⟩
  .exact⟨g1,g2,g3,g4⟩
 first|rw [e4]|rw [<- hr4]
 have mk:∀ (r':RS),r'.x.tokens.length<=ls.length+3->r'.x.rules=[]->r'.pos<=16777216->r'.alts<=16777216->Bd s ls r':=fun r' h1 h2 h3 h4=>⟨b1,b2,h3,h4,by omega,by rw [h2];simp,b7⟩
 have hb4:Bd s ls r4:=mk r4 (by rw [t4.1];simp) t4.2.1 (by omega) (by omega);have c6:=qjE s ls r4 3 qau hb4;have x6:=qbG (s:=s) (ls:=ls) (r:=r4) (k:=3) (t:=qau);generalize qaG s ls 3 qau r4=r6 at c6 x6 |-;have hb6:Bd s ls r6:=hb4.of x6.1 (by omega) (by omega);have c7:=qjE s ls r6 1 qaZ hb6;have x7:=qbG (s:=s) (ls:=ls) (r:=r6) (k:=1) (t:=qaZ);have l7:=qee (s:=s) (ls:=ls) (r:=r6) (k:=1) (t:=qaZ);generalize qaG s ls 1 qaZ r6=r7 at c7 x7 l7 |-;have t7:r7.x.tokens=[]/\r7.x.rules=[]:=by rw [x7.1,x6.1];exact⟨t4.1,t4.2.1⟩
 have f7:r7.f.1=0->r7.pos<=ls.length:=fun h=>by obtain⟨_,_,_,h'⟩:=l7 h;omega
 obtain⟨rK,hrK⟩:∃ rK,rK=qaL s ls (ls.length+1) r7:=⟨_,rfl⟩
 rw [<- hrK];have xK:rK.x.rules=[]/\rK.alts=0/\rK.pos<=ls.length+4/\rK.x.tokens.length<=ls.length+1:=by
  by_cases h0:r7.f.1=0
  .have:=qi3 (s:=s) (ls:=ls) (ls.length+1) r7 f7 (by have:=f7 h0;omega)
   rw [<- hrK,t7.1,t7.2] at this;exact⟨this.1,by omega,by omega,by have:=this.2.2.2;simp at this;omega⟩
  .rw [qeT h0] at hrK
   rw [hrK];exact⟨t7.2,by omega,by omega,by rw [t7.1];simp⟩
 have hbK:Bd s ls rK:=mk rK (by omega) xK.1 (by omega) (by omega);have c8:=qjE s ls rK 3 qau hbK;have x8:=qbG (s:=s) (ls:=ls) (r:=rK) (k:=3) (t:=qau);generalize qaG s ls 3 qau rK=r8 at c8 x8 |-;simp only [qso];have hb8:Bd s ls r8:=hbK.of x8.1 (by omega) (by omega);have c9:=qjE s ls r8 1 qf2 hb8;have x9:=qbG (s:=s) (ls:=ls) (r:=r8) (k:=1) (t:=qf2);generalize qaG s ls 1 qf2 r8=r9 at c9 x9 |-;have hb9:Bd s ls r9:=hb8.of x9.1 (by omega) (by omega);have c10:=qpU s ls r9 hb9;have x10:=qcD (s:=s) (ls:=ls) (r:=r9);generalize qaF s ls r9=p10 at c10 x10 |-;obtain⟨xs,r10⟩:=p10;simp only at c10 x10 |-;have hb10:Bd s ls r10:=hb9.of x10.1 (by omega) (by omega);have c11:=qoW s ls r10 false hb10;have x11:=qfr (s:=s) (ls:=ls) (r:=r10) (c:=false);generalize qbt s ls false r10=p11 at c11 x11 |-;obtain⟨sp,r11⟩:=p11;simp only at c11 x11 |-;have xT:r11.x=rK.x:=by rw [x11.1,x10.1,x9.1,x8.1]
 obtain⟨r12,hr12⟩:∃ r12:RS,r12={ r11 with x:={ r11.x with sep:=sp } }:=⟨_,rfl⟩
 rw [<- hr12];have e12:r12.x.tokens=rK.x.tokens/\r12.x.rules=[]/\r12.pos<=ls.length+8/\r12.alts=0:=by rw [hr12];exact⟨by simp only [xT],by simp only [xT];exact xK.1,by simp only;omega,by simp only;omega⟩
 have ch:=qiI rK.x.tokens sp (by omega);have et:r11.x.tokens=rK.x.tokens:=by rw [xT]
 rw [et];have c13:=qe5 s ls r12 8 xs.a;obtain⟨r13,hr13⟩:∃ r13,r13=qgj rK.x.tokens sp xs.a r12:=⟨_,rfl⟩
 rw [<- hr13];have x13:r13.x=r12.x/\r13.pos=r12.pos/\r13.alts=r12.alts:=by rw [hr13];exact qj9
 have hb13:Bd s ls r13:=mk r13 (by rw [x13.1,e12.1];omega) (by rw [x13.1];exact e12.2.1) (by omega) (by omega);have c14:=qjE s ls r13 3 qau hb13;have x14:=qbG (s:=s) (ls:=ls) (r:=r13) (k:=3) (t:=qau);generalize qaG s ls 3 qau r13=r14 at c14 x14 |-;have hb14:Bd s ls r14:=hb13.of x14.1 (by omega) (by omega);simp only [qdU];have c15:=qjE s ls r14 1 qbk hb14;have x15:=qbG (s:=s) (ls:=ls) (r:=r14) (k:=1) (t:=qbk);generalize qaG s ls 1 qbk r14=r15 at c15 x15 |-;have hb15:Bd s ls r15:=hb14.of x15.1 (by omega) (by omega);have c16:=qpU s ls r15 hb15;have x16:=qcD (s:=s) (ls:=ls) (r:=r15);generalize qaF s ls r15=p16 at c16 x16 |-;obtain⟨xb,r16⟩:=p16;simp only at c16 x16 |-;have hb16:Bd s ls r16:=hb15.of x16.1 (by omega) (by omega);have c17:=qoW s ls r16 true hb16;have x17:=qfr (s:=s) (ls:=ls) (r:=r16) (c:=true);generalize qbt s ls true r16=p17 at c17 x17 |-;obtain⟨st,r17⟩:=p17;simp only at c17 x17 |-;have xU:r17.x=r12.x:=by rw [x17.1,x16.1,x15.1,x14.1,x13.1]
 obtain⟨r18,hr18⟩:∃ r18:RS,r18={ r17 with x:={ r17.x with start:=st } }:=⟨_,rfl⟩
 rw [<- hr18];have e18:r18.x.tokens=rK.x.tokens/\r18.x.rules=[]/\r18.pos<=ls.length+12/\r18.alts=0:=by rw [hr18];exact⟨by simp only [xU];exact e12.1,by simp only [xU];exact e12.2.1,by simp only;omega,by simp only;omega⟩
 have hb18:Bd s ls r18:=mk r18 (by rw [e18.1];omega) e18.2.1 (by omega) (by omega);have c19:=qjE s ls r18 3 qau hb18;have x19:=qbG (s:=s) (ls:=ls) (r:=r18) (k:=3) (t:=qau);generalize qaG s ls 3 qau r18=r19 at c19 x19 |-;have e19:r19.x.tokens=rK.x.tokens:=by rw [x19.1];exact e18.1
 rw [e19];rw [eQ [] r ht0 hr0];have q2:r2.x.tokens=[]/\r2.x.rules=[]:=by rw [t2];exact⟨ht0,hr0⟩
 have q3:r3.x.tokens=[]/\r3.x.rules=[]:=by rw [t3.1];exact⟨ht0,hr0⟩
 rw [eQ [] r ht0 hr0,eQ [] r1 (by rw [t1];exact ht0) (by rw [t1];exact hr0)] at c1;rw [eQ [] r1 (by rw [t1];exact ht0) (by rw [t1];exact hr0),eQ [] r2 q2.1 q2.2] at c2;rw [eQ [] r2 q2.1 q2.2,eQ [] _ (by rw [qaI.1];exact q2.1) (by rw [qaI.1];exact q2.2)] at c3;rw [eQ [] r3 q3.1 q3.2,eQ [] _ (by rw [qaI.1];exact q3.1) (by rw [qaI.1];exact q3.2)] at c5;rw [eQ [] r4 t4.1 t4.2.1,eQ [] r6 (by rw [x6.1];exact t4.1) (by rw [x6.1];exact t4.2.1)] at c6;rw [eQ [] r6 (by rw [x6.1];exact t4.1) (by rw [x6.1];exact t4.2.1),eQ [] r7 t7.1 t7.2] at c7;have q8:r8.x.tokens=rK.x.tokens/\r8.x.rules=[]:=by rw [x8.1];exact⟨rfl,xK.1⟩
 have q9:r9.x.tokens=rK.x.tokens/\r9.x.rules=[]:=by rw [x9.1];exact q8
 have q10:r10.x.tokens=rK.x.tokens/\r10.x.rules=[]:=by rw [x10.1];exact q9
 have q11:r11.x.tokens=rK.x.tokens/\r11.x.rules=[]:=by rw [x11.1];exact q10
 have q13:r13.x.tokens=rK.x.tokens/\r13.x.rules=[]:=by rw [x13.1];exact⟨e12.1,e12.2.1⟩
 have q14:r14.x.tokens=rK.x.tokens/\r14.x.rules=[]:=by rw [x14.1];exact q13
 have q15:r15.x.tokens=rK.x.tokens/\r15.x.rules=[]:=by rw [x15.1];exact q14
 have q16:r16.x.tokens=rK.x.tokens/\r16.x.rules=[]:=by rw [x16.1];exact q15
 have q17:r17.x.tokens=rK.x.tokens/\r17.x.rules=[]:=by rw [x17.1];exact q16
 have q19:r19.x.tokens=rK.x.tokens/\r19.x.rules=[]:=by rw [x19.1];exact⟨e18.1,e18.2.1⟩
 rw [eQ _ rK rfl xK.1,eQ _ r8 q8.1 q8.2] at c8;rw [eQ _ r8 q8.1 q8.2,eQ _ r9 q9.1 q9.2] at c9;rw [eQ _ r9 q9.1 q9.2,eQ _ r10 q10.1 q10.2] at c10;rw [eQ _ r10 q10.1 q10.2,eQ _ r11 q11.1 q11.2] at c11;have w13:(qaw 8 xs.a r12).x=r12.x:=qaI.1;rw [eQ _ r12 e12.1 e12.2.1,eQ rK.x.tokens (qaw 8 xs.a r12) (by rw [w13];exact e12.1) (by rw [w13];exact e12.2.1)] at c13;rw [eQ _ r13 q13.1 q13.2,eQ _ r14 q14.1 q14.2] at c14;rw [eQ _ r14 q14.1 q14.2,eQ _ r15 q15.1 q15.2] at c15;rw [eQ _ r15 q15.1 q15.2,eQ _ r16 q16.1 q16.2] at c16;rw [eQ _ r16 q16.1 q16.2,eQ _ r17 q17.1 q17.2] at c17;rw [eQ _ r18 e18.1 e18.2.1,eQ _ r19 q19.1 q19.2] at c19;refine qad qak (fnB Tryz.func105 [87]) rfl rfl rfl rfl rfl ?_
 repeat' (first|refine zR ?_|refine oF (c1) ?_|refine eF (c1) ?_|refine oF (c2) ?_|refine eF (c2) ?_|fail)
 refine Yq ?_;refine Run.mid ⟨PT.ofList [(0,.bp 0 0),(2,.bp 3 0),(3,.bp 4 0)],[qeJ s ls r3,.room 0 1,.room 0 2,Zl,qx0 xn],[]⟩ ?_ ?_
 .by_cases h0:r2.f.1=0
  .have c0:=qpH s ls r2 h0
   rw [eQ [] r2 q2.1 q2.2] at c0;by_cases hk:xn.k=2
   .rw [if_neg (fun e=>e.2 hk)] at hr3
    subst hr3;have hkk:AV.d (.bool (((xn.k:Nat):Int) != 2))=.d (.bool false):=by rw [hk];rfl
    repeat' (first|refine zV hkk ?_|refine zW ?_|refine zB ?_ ?_<;>intro h<;>try exact zk h|refine oF (c0) ?_|refine eF (c0) ?_|(exact(by show qbU _ _ _;exact(ti _ 5)))|exact zk h|fail)
   .rw [if_pos ⟨h0,hk⟩] at hr3
    rw [<- hr3] at c3
    repeat' (first|refine zW ?_|refine zB ?_ ?_<;>intro h<;>try exact zk h|refine oF (c0) ?_|refine eF (c0) ?_|refine oF (c3) ?_|refine eF (c3) ?_|(exact(by show qbU _ _ _;exact(ti _ 5)))|exact zk h|fail)
  .have c0:=qpv s ls r2 h0
   rw [eQ [] r2 q2.1 q2.2] at c0;rw [if_neg (fun e=>h0 e.1)] at hr3;subst hr3
   repeat' (first|refine zW ?_|refine zB ?_ ?_<;>intro h<;>try exact zk h|refine oF (c0) ?_|refine eF (c0) ?_|(exact(by show qbU _ _ _;exact(ti _ 5)))|exact zk h|fail)
 refine Yq ?_;refine Run.mid ⟨PT.ofList [(0,.bp 0 0),(2,.bp 3 0)],[qeJ s ls r4,.room 0 1,.room 0 2,Zl],[]⟩ ?_ ?_
 .by_cases h0:r3.f.1=0
  .have c0:=qpH s ls r3 h0
   rw [eQ [] r3 q3.1 q3.2] at c0;have cn:=quP xn (k3 h0) (n2 (k3 h0)) l2;rw [if_pos h0] at hr4;unfold qoT qoF at cn;cases hb0:qdP xn.t with
   |true =>
    rw [hb0,if_pos rfl,if_pos rfl] at cn;rw [hb0,if_pos rfl] at hr4;subst hr4
    repeat' (first|refine zW ?_|refine zB ?_ ?_<;>intro h<;>try exact zk h|refine oF (c0) ?_|refine eF (c0) ?_|refine zC (cn) ?_|(exact(by show qbU _ _ _;exact(ti _ 4)))|exact zk h|fail)
   |false =>
    rw [hb0,if_neg (by simp),if_neg (by simp)] at cn;rw [hb0,if_neg (by simp)] at hr4;have fx:=(qaI (e:=2) (a:=xn.a) (r:=r3)).1;generalize qaw 2 xn.a r3=r3' at c5 hr4 fx;rw [<- fx] at hr4;subst hr4
    repeat' (first|refine zW ?_|refine zB ?_ ?_<;>intro h<;>try exact zk h|refine oF (c0) ?_|refine eF (c0) ?_|refine oF (c5) ?_|refine eF (c5) ?_|refine zC (cn) ?_|(exact(by show qbU _ _ _;exact(ti _ 4)))|exact zk h|fail)
  .have c0:=qpv s ls r3 h0
   rw [eQ [] r3 q3.1 q3.2] at c0;rw [if_neg h0] at hr4;subst hr4
   repeat' (first|refine zW ?_|refine zB ?_ ?_<;>intro h<;>try exact zk h|refine oF (c0) ?_|refine eF (c0) ?_|(exact(by show qbU _ _ _;exact(ti _ 4)))|exact zk h|fail)
 repeat' (first|refine zR ?_|refine oF (c6) ?_|refine eF (c6) ?_|refine oF (c7) ?_|refine eF (c7) ?_|fail)
 refine Yq ?_;refine Run.mid ⟨PT.ofList [(0,.bp 0 0),(2,.bp 3 0)],[qeJ s ls rK,.room rK.x.tokens.length 1,.room 0 2,Zl],[]⟩ ?_ ?_
 .repeat refine zS ?_
  refine zX ?_
  repeat refine zS ?_
  refine Run.loopT (fun y:Nat × RS × Bool=>⟨PT.ofList [(0,.bp 0 0),(2,.bp 3 0),(6,.d (.bool y.2.2))],[qeJ s ls y.2.1,.room y.2.1.x.tokens.length 1,.room 0 2,Zl],[]⟩)
   (fun y=>y.2.1.x.rules=[]/\y.2.1.alts=0/\(y.2.1.f.1=0->y.2.1.pos<=ls.length)/\y.2.1.pos<=ls.length+5/\y.2.1.x.tokens.length+y.1<=ls.length+1/\(y.2.2=true->qaL s ls y.1 y.2.1=rK/\ls.length<y.1+y.2.1.pos)/\(y.2.2=false->y.2.1=rK))
   (fun y=>y.1) (ls.length+1,r7,true) ⟨t7.2,by simp only;omega,f7,by simp only;omega,by simp only [t7.1];simp,fun _=>⟨hrK.symm,by simp only;omega⟩,fun h=>by cases h⟩ (by simp only [t7.1];exact(ti _ 4)) (fun y hy=>?_)
  obtain⟨n,ra,b⟩:=y;obtain⟨h1,h2,h3,h4,h5,h6,h7⟩:=hy;simp only at h1 h2 h3 h4 h5 h6 h7 |-;have hba:Bd s ls ra:=mk ra (by omega) h1 (by omega) (by omega);cases b with
  |false =>
   have:=h7 rfl;subst this
   repeat' (first|refine zW ?_|refine zB ?_ ?_<;>intro h<;>try exact zk h|(exact(by show qbU _ _ _;exact(ti _ 4)))|exact zk h|fail)
  |true =>
   obtain⟨k1,k2⟩:=h6 rfl;by_cases h0:ra.f.1=0
   .have c0:=qpH s ls ra h0
    rw [eQ _ ra rfl h1] at c0;have hpa:=h3 h0;obtain⟨n,rfl⟩:∃ j,n=j+1:=⟨n-1,by omega⟩
    simp only [qaL] at k1;rw [if_pos h0] at k1;have xt:=qlp (s:=s) (ls:=ls) (r:=ra);have d1:=qpU s ls ra hba;have y1:=qcD (s:=s) (ls:=ls) (r:=ra);obtain⟨rt,hrt⟩:∃ rt,rt=qbI s ls ra:=⟨_,rfl⟩
    have hrt0:=hrt;rw [<- hrt] at k1 xt;simp only [qbI] at hrt;generalize qaF s ls ra=pp at d1 y1 hrt xt;obtain⟨xp,ra1⟩:=pp;simp only at d1 y1 hrt xt;have hba1:Bd s ls ra1:=hba.of y1.1 (by omega) (by omega);have d2:=qoW s ls ra1 false hba1;have y2:=qfr (s:=s) (ls:=ls) (r:=ra1) (c:=false);generalize qbt s ls false ra1=pp2 at d2 y2 hrt xt;obtain⟨tn,ra2⟩:=pp2;simp only at d2 y2 hrt xt;have z2:ra2.x=ra.x:=y2.1.trans y1.1;have d3:=qiI ra2.x.tokens tn (by rw [z2];omega);have d4:=qe5 s ls ra2 8 xp.a;obtain⟨ra3,hra3⟩:∃ ra3,ra3=qgj ra2.x.tokens tn xp.a ra2:=⟨_,rfl⟩
    rw [<- hra3] at hrt;have z3:ra3.x=ra.x:=by rw [hra3];exact qj9.1.trans z2
    have d5:=qe5 s ls ra3 6 xp.a;obtain⟨ra4,hra4⟩:∃ ra4,ra4=qa7 ra3.x.tokens.length 8 xp.a ra3:=⟨_,rfl⟩
    rw [show ra2.x.tokens.length=ra3.x.tokens.length by rw [z2,z3],<- hra4] at hrt;have z4:ra4.x=ra.x:=by rw [hra4];exact qd3.1.trans z3
    have zr:rt.x.tokens=ra.x.tokens++[tn]/\rt.x.rules=[]:=by rw [xt.1];exact⟨rfl,h1⟩
    have hbt:Bd s ls rt:=mk rt (by rw [zr.1];simp;omega) zr.2 (by omega) (by omega);have d6:=qub s ls rt qdF hbt;have q1:=qi6 (ls:=ls) (r:=rt) (t:=qdF);have q2':=qiA (ls:=ls) (r:=rt) (t:=qdF);generalize qbu ls qdF rt=Q at d6 q1 q2' k1;obtain⟨b,rb⟩:=Q;simp only at d6 q1 q2' k1;have xb':rb.x=rt.x/\rb.alts=rt.alts:=by
     cases b with
     |true=>have:=(q1 rfl).1;simp only [Prod.mk.injEq,true_and] at this;rw [this];exact⟨rfl,rfl⟩
     |false=>have:=q2' rfl;simp only [Prod.mk.injEq,true_and] at this;rw [this];exact⟨rfl,rfl⟩
    rw [eQ _ ra rfl h1,eQ ra.x.tokens ra1 (by rw [y1.1]) (by rw [y1.1];exact h1)] at d1;rw [eQ ra.x.tokens ra1 (by rw [y1.1]) (by rw [y1.1];exact h1),eQ ra.x.tokens ra2 (by rw [z2]) (by rw [z2];exact h1)] at d2;rw [eQ ra.x.tokens ra2 (by rw [z2]) (by rw [z2];exact h1),eQ ra.x.tokens _ (by rw [qaI.1,z2]) (by rw [qaI.1,z2];exact h1)] at d4;rw [eQ ra.x.tokens ra3 (by rw [z3]) (by rw [z3];exact h1),eQ ra.x.tokens _ (by rw [qaI.1,z3]) (by rw [qaI.1,z3];exact h1)] at d5;rw [eQ (ra.x.tokens++[tn]) rt zr.1 zr.2,eQ (ra.x.tokens++[tn]) rb (by rw [xb'.1];exact zr.1) (by rw [xb'.1];exact zr.2)] at d6;have eb:rb.x.tokens=ra.x.tokens++[tn]:=by rw [xb'.1];exact zr.1
    have fin:∀ s1:S,qbU 3 s1 ⟨PT.ofList [(0,.bp 0 0),(2,.bp 3 0),(6,.d (.bool b))],[qeJ s ls rb,.room (ra.x.tokens.length+1) 1,.room 0 2,Zl],[]⟩ ->
      ∃ y:Nat × RS × Bool,(y.2.1.x.rules=[]/\y.2.1.alts=0/\(y.2.1.f.1=0->y.2.1.pos<=ls.length)/\y.2.1.pos<=ls.length+5/\y.2.1.x.tokens.length+y.1<=ls.length+1/\(y.2.2=true->qaL s ls y.1 y.2.1=rK/\ls.length<y.1+y.2.1.pos)/\(y.2.2=false->y.2.1=rK))/\y.1<n+1 /\
       qbU 3 s1 ⟨PT.ofList [(0,.bp 0 0),(2,.bp 3 0),(6,.d (.bool y.2.2))],[qeJ s ls y.2.1,.room y.2.1.x.tokens.length 1,.room 0 2,Zl],[]⟩:=fun s1 ht=>by
     refine⟨(n,rb,b),⟨by simp only;rw [xb'.1];exact zr.2,by simp only;omega,?_,?_,by simp only [eb];simp;omega,fun hb'=>?_,fun hb'=>?_⟩,Nat.lt_succ_self _,by simp only [eb];rw [List.length_append];exact ht⟩
     .intro hf0
      cases b with
      |true=>obtain⟨e1,e2,e3⟩:=q1 rfl;simp only [Prod.mk.injEq,true_and] at e1;rw [e1];exact e3
      |false =>
       have e1:=q2' rfl;simp only [Prod.mk.injEq,true_and] at e1;simp only at hf0 |-;rw [e1] at hf0 |-;have hx:rt.pos=ra.pos+1:=xt.2.1;have:=qpk (s:=s) (ls:=ls) h0 (by rw [<- hrt0];exact hf0);omega
     .cases b with
      |true=>obtain⟨e1,e2,e3⟩:=q1 rfl;simp only [Prod.mk.injEq,true_and] at e1;simp only [e1];omega
      |false=>have e1:=q2' rfl;simp only [Prod.mk.injEq,true_and] at e1;simp only [e1];omega
     .simp only at hb'
      subst hb';rw [if_pos rfl] at k1;obtain⟨e1,e2,e3⟩:=q1 rfl;simp only [Prod.mk.injEq,true_and] at e1;have:rb.pos=rt.pos+1:=by rw [e1]
      exact⟨k1,by simp only;omega⟩
     .simp only at hb'
      subst hb';rw [if_neg (by simp)] at k1;exact k1
    have eRt:qeJ s ls rt=.box [.d (.str s),.d (.sl 3 (ls.map qdJ)),.d (.int .i64 (ra4.pos:Nat)),.d (.int .i64 (ra4.f.1:Nat)),.d (.int .i64 (ra4.f.2:Nat)),.d (.int .i64 (ra4.alts:Nat)),.d (.int .i64 ra4.x.k),.sr 1 1 (ra4.x.tokens.map .str++[.str tn]),.d (.str ra4.x.sep),.d (.str ra4.x.start),.sr 2 2 (ra4.x.rules.map qbV)]:=by
     rw [hrt];unfold qeJ;simp only [List.map_append,List.map_cons,List.map_nil]
    rw [eRt] at d6;have hrl:ra.x.tokens.length=(ra4.x.tokens.map DV.str).length:=by simp [z4]
    have hll:(ra4.x.tokens.map DV.str).length<=1048580:=by rw [<- hrl];omega
    simp only [List.length_append,List.length_cons,List.length_nil] at d6;rw [hrl] at c0 d1 d2 d4 d5 d6 fin |-;rw [qgj] at hra3;unfold qc8 at hra3;generalize ra2.x.tokens.any (fun y=>decide (y=tn))=b8 at d3 hra3;have hll2:ra4.x.tokens.length<=1048580:=by simpa using hll
    rw [qa7] at hra4;cases b8 with
    |true =>
     rw [if_pos rfl] at hra3;rw [<- hra3] at d4;by_cases h8:ra3.x.tokens.length=8
     .rw [if_pos h8] at hra4
      rw [<- hra4] at d5
      repeat' (first|refine zW ?_|refine zB ?_ ?_<;>intro h<;>try exact zk h|refine oF (c0) ?_|refine eF (c0) ?_|refine oF (d1) ?_|refine eF (d1) ?_|refine oF (d2) ?_|refine eF (d2) ?_|refine oF (d4) ?_|refine eF (d4) ?_|refine oF (d5) ?_|refine eF (d5) ?_|refine oF (d6) ?_|refine eF (d6) ?_|refine oW d3 ?_|refine zAp ?_|(exact fin _ (ti _ 4))|exact zk h|fail)
     .rw [if_neg h8] at hra4
      subst hra4
      repeat' (first|refine zW ?_|refine zB ?_ ?_<;>intro h<;>try exact zk h|refine oF (c0) ?_|refine eF (c0) ?_|refine oF (d1) ?_|refine eF (d1) ?_|refine oF (d2) ?_|refine eF (d2) ?_|refine oF (d4) ?_|refine eF (d4) ?_|refine oF (d6) ?_|refine eF (d6) ?_|refine oW d3 ?_|refine zAp ?_|(exact fin _ (ti _ 4))|exact zk h|fail)
    |false =>
     rw [if_neg (by simp)] at hra3;subst hra3;by_cases h8:ra3.x.tokens.length=8
     .rw [if_pos h8] at hra4
      rw [<- hra4] at d5
      repeat' (first|refine zW ?_|refine zB ?_ ?_<;>intro h<;>try exact zk h|refine oF (c0) ?_|refine eF (c0) ?_|refine oF (d1) ?_|refine eF (d1) ?_|refine oF (d2) ?_|refine eF (d2) ?_|refine oF (d5) ?_|refine eF (d5) ?_|refine oF (d6) ?_|refine eF (d6) ?_|refine oW d3 ?_|refine zAp ?_|(exact fin _ (ti _ 4))|exact zk h|fail)
     .rw [if_neg h8] at hra4
      subst hra4
      repeat' (first|refine zW ?_|refine zB ?_ ?_<;>intro h<;>try exact zk h|refine oF (c0) ?_|refine eF (c0) ?_|refine oF (d1) ?_|refine eF (d1) ?_|refine oF (d2) ?_|refine eF (d2) ?_|refine oF (d6) ?_|refine eF (d6) ?_|refine oW d3 ?_|refine zAp ?_|(exact fin _ (ti _ 4))|exact zk h|fail)
   .have c0:=qpv s ls ra h0
    rw [eQ _ ra rfl h1] at c0;rw [qeT h0] at k1;subst k1
    repeat' (first|refine zW ?_|refine zB ?_ ?_<;>intro h<;>try exact zk h|refine oF (c0) ?_|refine eF (c0) ?_|(exact(by show qbU _ _ _;exact(ti _ 4)))|exact zk h|fail)
 repeat' (first|refine zR ?_|refine oF (c8) ?_|refine eF (c8) ?_|refine oF (c9) ?_|refine eF (c9) ?_|refine oF (c10) ?_|refine eF (c10) ?_|refine oF (c11) ?_|refine eF (c11) ?_|fail)
 refine Yq ?_;refine Run.mid ⟨PT.ofList [(0,.bp 0 0),(2,.bp 3 0)],[qeJ s ls r13,.room rK.x.tokens.length 1,.room 0 2,Zl],[]⟩ ?_ ?_
 .rw [qgj] at hr13
  unfold qc8 at hr13;rw [<- et] at ch hr13;generalize r11.x.tokens.any (fun y=>decide (y=sp))=b at ch hr13;subst hr12;cases b with
  |true =>
   rw [if_pos rfl] at hr13;rw [<- hr13] at c13
   repeat' (first|refine zW ?_|refine zB ?_ ?_<;>intro h<;>try exact zk h|refine oF (c13) ?_|refine eF (c13) ?_|refine oW ch ?_|refine eW ch ?_|(exact(by show qbU _ _ _;exact(ti _ 4)))|exact zk h|fail)
  |false =>
   rw [if_neg (by simp)] at hr13;subst hr13
   repeat' (first|refine zW ?_|refine zB ?_ ?_<;>intro h<;>try exact zk h|refine oW ch ?_|refine eW ch ?_|(exact(by show qbU _ _ _;exact(ti _ 4)))|exact zk h|fail)
 subst hr18
 repeat' (first|refine zW ?_|refine zB ?_ ?_<;>intro h<;>try exact zk h|refine oF (c14) ?_|refine eF (c14) ?_|refine oF (c15) ?_|refine eF (c15) ?_|refine oF (c16) ?_|refine eF (c16) ?_|refine oF (c17) ?_|refine eF (c17) ?_|refine oF (c19) ?_|refine eF (c19) ?_|(((first|refine Yt ?_|skip);exact⟨trivial,_,_,rfl,rfl,.refl,wkE⟩))|exact zk h|fail)
theorem DvTo.aggs:∀ {xs ys:List DV},xs.length=ys.length->(∀ (j:Nat) x y,xs[j]?=some x->ys[j]?=some y->DvTo x y)->DvTo (.agg xs) (.agg ys):=fun hl h=>.agg hl h
abbrev qAw:DV:=.agg [.int .i64 0,.nilsl,.str [],.str [],.nilsl]
theorem qfX:DvTo qAw (qfO qdj):=DvTo.agg rfl (fun j x y hx hy=>match j,hx,hy with
 |0,hx,hy=>by simp at hx hy;subst hx hy;exact .refl
 |1,hx,hy=>by simp at hx hy;subst hx hy;exact .nil
 |2,hx,hy=>by simp at hx hy;subst hx hy;exact .refl
 |3,hx,hy=>by simp at hx hy;subst hx hy;exact .refl
 |4,hx,hy=>by simp at hx hy;subst hx hy;exact .nil
 |j+5,hx,_=>by simp at hx)
abbrev qwp (r:Src × Fa):AV:=.tup [.d (qfO r.1),.d (qch r.2.1 r.2.2)]
structure LsB (ls:List Lx):Prop where
 l:ls.length<=100000
 len:∀ x ∈ ls,x.t.length<=1048576
section
variable {s:List Nat} {ls:List Lx}
theorem qjd (h:LsB ls) {r:RS}:(qa5 s ls r).1.t.length<=1048576:=by
 simp only [qa5,qaF];split
 .rename_i x hx;exact h.len x (List.mem_of_getElem? hx)
 .simp
theorem quc (h:LsB ls):∀ (n:Nat) (acc:List (List Nat)) (r:RS),(∀ t ∈ acc,t.length<=1048576)->(qgi s ls n acc r).1.length<=acc.length+n/\∀ t ∈ (qgi s ls n acc r).1,t.length<=1048576
 |0,acc,r,ha=>⟨Nat.le_refl _,ha⟩
 |n+1,acc,r,ha=>by
  simp only [qgi];split
  .split
   .have ih:=quc h n (acc++[(qa5 s ls (qaF s ls r).2).1.t]) (qfI acc.length (qa5 s ls (qaF s ls r).2)) (fun t ht=>by
     rcases List.mem_append.1 ht with ht|ht
     .exact ha t ht
     .rw [List.mem_singleton.1 ht];exact qjd h)
    refine⟨?_,ih.2⟩;have:=ih.1;rw [List.length_append,List.length_cons,List.length_nil] at this;omega
   .exact⟨by simp only;omega,ha⟩
  .exact⟨by simp only;omega,ha⟩
theorem qra (h:LsB ls):∀ (n:Nat) (acc:List (List (List Nat))) (r:RS),(∀ a ∈ acc,a.length<=100001/\∀ t ∈ a,t.length<=1048576) ->
  (qcf s ls n acc r).1.length<=acc.length+n/\∀ a ∈ (qcf s ls n acc r).1,a.length<=100001/\∀ t ∈ a,t.length<=1048576
 |0,acc,r,ha=>⟨Nat.le_refl _,ha⟩
 |n+1,acc,r,ha=>by
  have h1:=quc (s:=s) h (ls.length+1) [] (qbH ls r) (fun t ht=>by cases ht);have h2:∀ a ∈ acc++[(qaS s ls r).1],a.length<=100001/\∀ t ∈ a,t.length<=1048576:=fun a hm=>by
   rcases List.mem_append.1 hm with hm|hm
   .exact ha a hm
   .rw [List.mem_singleton.1 hm]
    exact⟨by have:=h1.1;have:=h.l;simp only [List.length_nil] at *;unfold qaS;omega,h1.2⟩
  simp only [qcf];split
  .have ih:=qra h n _ (qbu ls qfC (qaS s ls r).2).2 h2
   refine⟨?_,ih.2⟩;have:=ih.1;rw [List.length_append,List.length_cons,List.length_nil] at this;omega
  .exact⟨by simp,h2⟩
structure qvx (r:RS):Prop where
 most:r.alts<=25
 ok:r.f.1=0->r.alts<=24
theorem qsd {r:RS} (h:qvx r) (h0:r.f.1=0) (hp:r.pos<=ls.length):qvx (qaS s ls r).2:=by
 have a1:=qgO (s:=s) (ls:=ls) (r:=r) (fun _=>hp);have h24:=h.ok h0;refine⟨by omega,fun hf=>?_⟩;have hc:(qbH ls r).f.1=0:=by
  by_cases hc:(qbH ls r).f.1=0
  .exact hc
  .unfold qaS at hf
   rw [qm1 hc] at hf;exact absurd hf hc
 have hne:r.alts≠24:=fun e=>by
  simp only [qbH,qa7,e,if_true,qaw,h0] at hc;simp at hc
 omega
theorem qrr:∀ (n:Nat) (acc:List (List (List Nat))) (r:RS),qvx r->r.f.1=0->r.pos<=ls.length->qvx (qcf s ls n acc r).2/\((qcf s ls n acc r).2.f.1=0->(qcf s ls n acc r).2.pos<=ls.length/\r.pos<=(qcf s ls n acc r).2.pos)
 |0,acc,r,h,h0,hp=>⟨h,fun _=>⟨hp,Nat.le_refl _⟩⟩
 |n+1,acc,r,h,h0,hp=>by
  have a1:=qsd (s:=s) h h0 hp;have a2:=qgO (s:=s) (ls:=ls) (r:=r) (fun _=>hp);have a3:r.pos<=(qaS s ls r).2.pos:=by
   have h1:=(qoD (s:=s) (ls:=ls) (ls.length+1) [] (qbH ls r)).2.2.1;have h2:=(qd3 (n:=r.alts) (w:=24) (a:=(ls.getD (r.pos-1) lx0).a) (r:=r)).2.1;have e':(qbH ls r).pos=r.pos:=h2;rw [e'] at h1;exact h1
  simp only [qcf];cases hq:(qbu ls qfC (qaS s ls r).2).1 with
  |true =>
   obtain⟨e,q1,q2⟩:=qi6 hq;rw [if_pos rfl,e];simp only;have ih:=qrr n (acc++[(qaS s ls r).1]) { (qaS s ls r).2 with pos:=(qaS s ls r).2.pos+1 } ⟨a1.most,a1.ok⟩ q1 q2;exact⟨ih.1,fun hf=>⟨(ih.2 hf).1,by have:=(ih.2 hf).2;simp only at this;omega⟩⟩
  |false =>
   rw [if_neg (by simp),qiA hq];exact⟨a1,fun hf=>⟨a2.2.2.2 hf,a3⟩⟩
structure RuB (ls:List Lx) (r:RS):Prop where
 alts:qvx r
 fits:qde r.x
 rules:r.f.1=0->r.x.rules.length<=8
 pos:r.f.1=0->r.pos<=ls.length
 posM:r.pos<=ls.length+20
theorem qsa (hl:LsB ls) {r:RS} (h:RuB ls r) (h0:r.f.1=0):RuB ls (qfL s ls r)/\((qfL s ls r).f.1=0->r.pos<(qfL s ls r).pos)/\(qfL s ls r).x.tokens=r.x.tokens/\(qfL s ls r).x.rules.length=r.x.rules.length+1:=by
 have xp:=qcD (s:=s) (ls:=ls) (r:=r);have hp0:=h.pos h0;have hr8:=h.rules h0;have hal:=h.alts.ok h0;simp only [qfL];generalize qaF s ls r=p at xp |-;obtain⟨x0,r0⟩:=p;simp only at xp |-;have xn:=qfr (s:=s) (ls:=ls) (r:=r0) (c:=true);have ln:(qbt s ls true r0).1.length<=1048576:=qjd hl;generalize qbt s ls true r0=q at xn ln |-;obtain⟨nm,r1⟩:=q;simp only at xn ln |-;obtain⟨r2,hr2⟩:∃ r2,r2=if r1.f.1=0 then qgj (qab r1.x) nm x0.a r1 else r1:=⟨_,rfl⟩
 have x2:r2.x=r1.x/\r2.pos=r1.pos/\r2.alts=r1.alts:=by
  rw [hr2];split
  .exact qj9
  .exact⟨rfl,rfl,rfl⟩
 rw [<- hr2];obtain⟨r3,hr3⟩:∃ r3,r3=qa7 r2.x.rules.length 8 x0.a r2:=⟨_,rfl⟩
 have x3:r3.x=r2.x/\r3.pos=r2.pos/\r3.alts=r2.alts:=by rw [hr3];exact qd3
 have g3:r3.x=r.x:=by rw [x3.1,x2.1,xn.1,xp.1]
 have p3:r3.pos=r.pos+1:=by rw [x3.2.1,x2.2.1,xn.2.1,xp.2.1]
 have a3:r3.alts=r.alts:=by rw [x3.2.2,x2.2.2,xn.2.2,xp.2.2]
 have w3:r3.f.1=0->r.x.rules.length≠8:=fun hf e=>by
  have e2:r2.x.rules.length=8:=by rw [x2.1,xn.1,xp.1];exact e
  rw [hr3,qa7,if_pos e2] at hf;unfold qaw at hf;split at hf
  .simp at hf
  .rename_i hx;exact hx hf
 rw [<- hr3];have x4:=qbG (s:=s) (ls:=ls) (r:=r3) (k:=3) (t:=sEq);have l4:=qee (s:=s) (ls:=ls) (r:=r3) (k:=3) (t:=sEq);generalize qaG s ls 3 sEq r3=r4 at x4 l4 |-;obtain⟨v,hv⟩:∃ v,v=if r4.f.1=0 then qcf s ls (ls.length+1) [] r4 else([],r4):=⟨_,rfl⟩
 rw [<- hv];have hvx:v.2.x=r.x/\v.2.pos<=ls.length+5/\qvx v.2/\(v.2.f.1=0->v.2.pos<=ls.length/\r.pos+2<=v.2.pos/\r.x.rules.length≠8)/\v.1.length<=100001/\∀ a ∈ v.1,a.length<=100001/\∀ t ∈ a,t.length<=1048576:=by
  rw [hv];split
  .rename_i h4
   obtain⟨h3,_,_,l5⟩:=l4 h4;have hb4:qvx r4:=⟨by omega,fun _=>by omega⟩
   have k1:=qnv (s:=s) (ls:=ls) (ls.length+1) [] r4 (fun _=>by omega) (by omega);have k2:=qrr (s:=s) (ls:=ls) (ls.length+1) [] r4 hb4 h4 (by omega);have k3:=qra (s:=s) hl (ls.length+1) [] r4 (fun a ha=>by cases ha);exact⟨k1.1.trans (x4.1.trans g3),by omega,k2.1,fun hf=>⟨(k2.2 hf).1,by have:=(k2.2 hf).2;omega,w3 h3⟩,by have:=k3.1;have:=hl.l;simp only [List.length_nil] at *;omega,k3.2⟩
  .rename_i h4
   exact⟨x4.1.trans g3,by simp only;omega,⟨by simp only;omega,fun e=>absurd e h4⟩,fun e=>absurd e h4,by simp,fun a ha=>by cases ha⟩
 obtain⟨v1,v2,v3,v4,v5,v6⟩:=hvx;have x5:=qbG (s:=s) (ls:=ls) (r:=v.2) (k:=3) (t:=qau);have l5:=qee (s:=s) (ls:=ls) (r:=v.2) (k:=3) (t:=qau);generalize qaG s ls 3 qau v.2=r5 at x5 l5 |-;have g5:r5.x=r.x:=x5.1.trans v1;have hf:=h.fits;simp only [g5];refine⟨⟨⟨by simp only;have:=v3.most;omega,fun e=>?_⟩,?_,fun e=>?_,fun e=>?_,by simp only;omega⟩,fun e=>?_,trivial,by simp⟩
 .obtain⟨e1,_,_,e2⟩:=l5 e
  have:=v3.ok e1;first|omega|(simp only;omega)
 .refine⟨hf.tokens,by simp;omega,fun ru hm=>?_,fun ru hm a ha=>?_,hf.sep,hf.start,hf.tokenS,fun ru hm=>?_,fun ru hm a ha t ht=>?_⟩<;>rcases List.mem_append.1 hm with hm|hm
  .exact hf.alts ru hm
  .rw [List.mem_singleton.1 hm];simp only;omega
  .exact hf.names ru hm a ha
  .rw [List.mem_singleton.1 hm] at ha;have:=(v6 a ha).1;omega
  .exact hf.ruleS ru hm
  .rw [List.mem_singleton.1 hm];exact ln
  .exact hf.nameS ru hm a ha t ht
  .rw [List.mem_singleton.1 hm] at ha;exact(v6 a ha).2 t ht
 .obtain⟨e1,_,_,e2⟩:=l5 e
  have:=(v4 e1).2.2
  simp;omega
 .obtain⟨e1,_,_,e2⟩:=l5 e
  first|omega|(simp only;omega)
 .obtain⟨e1,_,_,e2⟩:=l5 e
  have:=(v4 e1).2.1
  first|omega|(simp only;omega)
theorem ql5 (hl:LsB ls):∀ (n:Nat) (r:RS),(∀ t ∈ r.x.tokens,t.length<=1048576)->(qaL s ls n r).x={ r.x with tokens:=(qaL s ls n r).x.tokens }/\∀ t ∈ (qaL s ls n r).x.tokens,t.length<=1048576
 |0,r,h=>⟨rfl,h⟩
 |n+1,r,h=>by
  have a:=qlp (s:=s) (ls:=ls) (r:=r);have ht:∀ t ∈ (qbI s ls r).x.tokens,t.length<=1048576:=fun t ht=>by
   rw [a.1] at ht;rcases List.mem_append.1 ht with ht|ht
   .exact h t ht
   .rw [List.mem_singleton.1 ht];exact qjd hl
  have hx:(qbI s ls r).x={ r.x with tokens:=(qbI s ls r).x.tokens }:=by rw [a.1]
  have q:=qvS (ls:=ls) (r:=qbI s ls r) (t:=qdF);simp only [qaL];split
  .split
   .have ih:=ql5 hl n (qbu ls qdF (qbI s ls r)).2 (by rw [q.1];exact ht)
    refine⟨?_,ih.2⟩;rw [ih.1,q.1,hx]
   .rw [q.1];exact⟨hx,ht⟩
  .exact⟨rfl,h⟩
theorem quK (hl:LsB ls):RuB ls (qgd s ls ⟨0,(0,0),0,qdj⟩).2/\(qgd s ls ⟨0,(0,0),0,qdj⟩).2.x.rules=[]:=by
 simp only [qgd];have xL:(qeB s ls ⟨0,(0,0),0,qdj⟩).x.tokens=[]/\(qeB s ls ⟨0,(0,0),0,qdj⟩).x.rules=[]/\(qeB s ls ⟨0,(0,0),0,qdj⟩).x.sep=[]/\(qeB s ls ⟨0,(0,0),0,qdj⟩).x.start=[]/\(qeB s ls ⟨0,(0,0),0,qdj⟩).pos=3/\(qeB s ls ⟨0,(0,0),0,qdj⟩).alts=0:=by
  simp only [qeB];have x1:=qbG (s:=s) (ls:=ls) (r:=⟨0,(0,0),0,qdj⟩) (k:=1) (t:=qcz);generalize qaG s ls 1 qcz ⟨0,(0,0),0,qdj⟩=r1 at x1 |-;have x2:=qg4 (s:=s) (ls:=ls) (r:=r1);generalize qa5 s ls r1=p at x2 |-;obtain⟨xn,r2⟩:=p;simp only at x1 x2 |-;have t2:r2.x=qdj:=x2.1.trans x1.1;obtain⟨r3,hr3⟩:∃ r3,r3=if r2.f.1=0/\xn.k≠2 then qaw 3 xn.a r2 else r2:=⟨_,rfl⟩
  have t3:r3.x=qdj/\r3.pos=2/\r3.alts=0:=by
   rw [hr3];split
   .exact⟨qaI.1.trans t2,by rw [qaI.2.1];omega,by rw [qaI.2.2];omega⟩
   .exact⟨t2,by omega,by omega⟩
  rw [<- hr3];have f2:=qaI (e:=2) (a:=xn.a) (r:=r3);obtain⟨r4,hr4⟩:∃ r4:RS,r4.x.tokens=[]/\r4.x.rules=[]/\r4.x.sep=[]/\r4.x.start=[]/\r4.pos=2/\r4.alts=0/\r4=(if r3.f.1=0 then if qdP xn.t=true then { r3 with x:={ r3.x with k:=(qd6 xn.t:Nat) } } else { qaw 2 xn.a r3 with x:={ r3.x with k:=0 } } else r3):=by
   refine⟨_,?_,?_,?_,?_,?_,?_,rfl⟩<;>split<;>(try split)<;>first|(simp only [t3.1]<;>fail)|simp [t3.1,t3.2.1,t3.2.2,f2.2.1,f2.2.2]
  obtain⟨k1,k2,k3,k4,k5,k6,k7⟩:=hr4;have x6:=qbG (s:=s) (ls:=ls) (r:=r4) (k:=3) (t:=qau);rw [k7] at x6 k1 k2 k3 k4 k5 k6;rw [x6.1,x6.2.1,x6.2.2];exact⟨k1,k2,k3,k4,by omega,by omega⟩
 generalize qeB s ls ⟨0,(0,0),0,qdj⟩=rL at xL |-;have x7:=qbG (s:=s) (ls:=ls) (r:=rL) (k:=1) (t:=qaZ);have l7:=qee (s:=s) (ls:=ls) (r:=rL) (k:=1) (t:=qaZ);generalize qaG s ls 1 qaZ rL=r7 at x7 l7 |-;have hK:(qaL s ls (ls.length+1) r7).x={ rL.x with tokens:=(qaL s ls (ls.length+1) r7).x.tokens }/\(∀ t ∈ (qaL s ls (ls.length+1) r7).x.tokens,t.length<=1048576)/\(qaL s ls (ls.length+1) r7).x.tokens.length<=ls.length+1/\(qaL s ls (ls.length+1) r7).pos<=ls.length+4/\(qaL s ls (ls.length+1) r7).alts=0:=by
  have h1:=ql5 (s:=s) hl (ls.length+1) r7 (by rw [x7.1,xL.1];intro t ht;cases ht);rw [x7.1] at h1;by_cases h0:r7.f.1=0
  .obtain⟨_,_,_,l5⟩:=l7 h0
   have h2:=qi3 (s:=s) (ls:=ls) (ls.length+1) r7 (fun _=>by omega) (by omega);refine⟨h1.1,h1.2,?_,by omega,by omega⟩;have:=h2.2.2.2;rw [x7.1,xL.1] at this;simpa using this
  .refine⟨h1.1,h1.2,?_⟩
   rw [qeT h0];exact⟨by rw [x7.1,xL.1];simp,by omega,by omega⟩
 generalize qaL s ls (ls.length+1) r7=rK at hK |-;have x8:=qbG (s:=s) (ls:=ls) (r:=rK) (k:=3) (t:=qau);generalize qaG s ls 3 qau rK=r8 at x8 |-;simp only [qso];have x9:=qbG (s:=s) (ls:=ls) (r:=r8) (k:=1) (t:=qf2);generalize qaG s ls 1 qf2 r8=r9 at x9 |-;have x10:=qcD (s:=s) (ls:=ls) (r:=r9);generalize qaF s ls r9=p10 at x10 |-;have x11:=qfr (s:=s) (ls:=ls) (r:=p10.2) (c:=false);have n11:(qbt s ls false p10.2).1.length<=1048576:=qjd hl;generalize qbt s ls false p10.2=p11 at x11 n11 |-;obtain⟨sp,r11⟩:=p11;simp only at x11 n11 |-;have xT:r11.x=rK.x:=by rw [x11.1,x10.1,x9.1,x8.1]
 have x13:=qj9 (l:=r11.x.tokens) (t:=sp) (a:=p10.1.a) (r:={ r11 with x:={ r11.x with sep:=sp } });generalize qgj r11.x.tokens sp p10.1.a { r11 with x:={ r11.x with sep:=sp } }=r13 at x13 |-;have x14:=qbG (s:=s) (ls:=ls) (r:=r13) (k:=3) (t:=qau);generalize qaG s ls 3 qau r13=r14 at x14 |-;simp only [qdU];have x15:=qbG (s:=s) (ls:=ls) (r:=r14) (k:=1) (t:=qbk);generalize qaG s ls 1 qbk r14=r15 at x15 |-;have x16:=qcD (s:=s) (ls:=ls) (r:=r15);generalize qaF s ls r15=p16 at x16 |-;have x17:=qfr (s:=s) (ls:=ls) (r:=p16.2) (c:=true);have n17:(qbt s ls true p16.2).1.length<=1048576:=qjd hl;generalize qbt s ls true p16.2=p17 at x17 n17 |-;obtain⟨st,r17⟩:=p17;simp only at x17 n17 |-;have xU:r17.x={ rK.x with sep:=sp }:=by rw [x17.1,x16.1,x15.1,x14.1,x13.1,xT]
 have x19:=qbG (s:=s) (ls:=ls) (r:={ r17 with x:={ r17.x with start:=st } }) (k:=3) (t:=qau);have l19:=qee (s:=s) (ls:=ls) (r:={ r17 with x:={ r17.x with start:=st } }) (k:=3) (t:=qau);generalize qaG s ls 3 qau { r17 with x:={ r17.x with start:=st } }=r19 at x19 l19 |-;have xV:r19.x={ rK.x with sep:=sp,start:=st }:=by rw [x19.1,xU]
 have hrul:r19.x.rules=[]:=by rw [xV];simp only;rw [hK.1];exact xL.2.1
 have htok:r19.x.tokens=rK.x.tokens:=by rw [xV]
 have hll:=hl.l;simp only at x13 x19 l19;refine⟨⟨⟨by omega,fun _=>by omega⟩,⟨by rw [htok];omega,by rw [hrul];simp,(by rw [hrul];intro r hr;cases hr),(by rw [hrul];intro r hr;cases hr),(by rw [xV];exact n11),(by rw [xV];exact n17),(by rw [htok];exact hK.2.1),(by rw [hrul];intro r hr;cases hr),(by rw [hrul];intro r hr;cases hr)⟩,fun _=>by rw [hrul];simp,fun e=>?_,by omega⟩,hrul⟩;obtain⟨_,_,_,e2⟩:=l19 e;omega
end
abbrev qq0 (i j:Nat) (s:List Nat) (ls:List Lx) (r:RS):Ob:=.box [.d (.str s),.d (.sl 3 (ls.map qdJ)),.d (.int .i64 (r.pos:Nat)),.d (.int .i64 (r.f.1:Nat)),.d (.int .i64 (r.f.2:Nat)),.d (.int .i64 (r.alts:Nat)),.d (.int .i64 r.x.k),.sr i 1 (r.x.tokens.map .str),.d (.str r.x.sep),.d (.str r.x.start),.sr j 2 (r.x.rules.map qbV)]
abbrev oZX:Ob:=.box [.d (.int .i64 0),.d .nilsl,.d (.str []),.d (.str []),.d .nilsl]
abbrev oZF:Ob:=.box [.d (.int .i64 0),.d (.int .i64 0)]
set_option maxHeartbeats 4000000 in
theorem qx1 (s:List Nat) (ls:List Lx) (hs:s.length<=1048576) (hl:LsB ls) (hn:quE ls) (hlex:qbm s=(ls.map qdJ,0,0)) :
  qaa Tryz.prog 28 [.str s] (qwp (qpG (qjB s ls))):=by
 have w:Fz []:=trivial;have cl:=qst s hs;have hll:=hl.l;rw [hlex] at cl;obtain⟨r0,hr0⟩:∃ r0:RS,r0=⟨0,(0,0),0,qdj⟩:=⟨_,rfl⟩
 have mk:∀ r:RS,RuB ls r->(r.f.1=0\/r.x.rules.length<=1048576)->Bd s ls r:=fun r h hr=>⟨hs,by omega,by have:=h.posM;omega,by have:=h.alts.most;omega,by have:=h.fits.tokens;omega,by have:=h.fits.rules;omega,hl.len⟩
 have ch:=qzw s ls r0 (by rw [hr0];exact⟨hs,by omega,by simp,by simp,by simp,by simp,hl.len⟩) hn (by rw [hr0]) (by rw [hr0]) (by rw [hr0]) (by rw [hr0]);have hh:=quK (s:=s) hl;simp only [qjB];rw [<- hr0] at hh |-;generalize qgd s ls r0=H at ch hh |-;obtain⟨st,rh⟩:=H;simp only at ch hh |-;rw [hr0] at ch;obtain⟨hh1,hh2⟩:=hh;obtain⟨R,hR⟩:∃ R,R=qcI s ls (ls.length+2) true rh:=⟨_,rfl⟩
 rw [<- hR];refine qf5 qak (fnB Tryz.func28 []) ?_
 repeat' (first|refine zR ?_|refine zC (cl) ?_|fail)
 refine Yq ?_;refine Run.mid ⟨PT.ofList [(0,.d (.str s)),(2,.bp 0 0),(3,.bp 1 0),(4,.d (.sl 3 (ls.map qdJ)))],[oZX,oZF,oZF],[]⟩ ?_ ?_
 .repeat' (first|refine zW ?_|refine zB ?_ ?_<;>intro h<;>try exact zk h|(refine Yt ?_;refine r2 ?_;first|done|(skip))|(exact(by show qbU _ _ _;exact(ti _ 3)))|exact zk h|fail)
 refine Run.seqR ?_;refine Run.mid ⟨PT.ofList [(2,.bp 0 0),(3,.bp 1 0),(4,.d (.sl 3 (ls.map qdJ))),(6,.bp 3 0)],[oZX,oZF,oZF,.box [.d (.str s),.d (.sl 3 (ls.map qdJ)),.d (.int .i64 0),.d (.int .i64 0),.d (.int .i64 0),.d (.int .i64 0),.d (.int .i64 0),.d .nilsl,.d (.str []),.d (.str []),.d .nilsl]],[]⟩ ?_ ?_
 .repeat' (first|refine zW ?_|refine zB ?_ ?_<;>intro h<;>try exact zk h|(refine Yt ?_;refine r2 ?_;first|done|(skip))|(exact(by show qbU _ _ _;exact(ti _ 4)))|exact zk h|fail)
 refine Run.cellRoom 3 7 1 ?_;refine Run.cellRoom 3 10 2 ?_
 repeat' (first|refine zR ?_|refine oE [3,4,5] ch ?_|fail)
 have hRb:RuB ls R/\(R.f.1=0\/R.x.rules.length<=1048576):=by
  have gen:∀ (n:Nat) (b:Bool) (r:RS),RuB ls r->RuB ls (qcI s ls n b r):=by
   intro n
   induction n with
   |zero=>exact fun b r h=>h
   |succ n ih =>
    intro b r h;simp only [qcI];split
    .rename_i hc
     exact ih false _ (qsa (s:=s) hl h hc.1).1
    .exact h
  rw [hR];have:=gen (ls.length+2) true rh hh1;exact⟨this,.inr this.fits.rules⟩
 refine Yq ?_;refine Run.mid ⟨PT.ofList [(2,.bp 0 0),(3,.bp 1 0),(6,.bp 3 0),(7,.bp 6 0),(8,.d (.int .i64 (rh.pos:Nat)))],[oZX,oZF,oZF,qq0 4 5 s ls R,.room R.x.tokens.length 1,.room R.x.rules.length 2,qx0 st],[]⟩ ?_ ?_
 .repeat refine zS ?_
  refine zX ?_
  repeat refine zS ?_
  refine Run.loopT (fun y:Nat × RS × Bool=>⟨PT.ofList [(2,.bp 0 0),(3,.bp 1 0),(4,.d (.sl 3 (ls.map qdJ))),(6,.bp 3 0),(7,.bp 6 0),(8,.d (.int .i64 (rh.pos:Nat))),(9,.d (.bool y.2.2))],[oZX,oZF,oZF,qq0 4 5 s ls y.2.1,.room y.2.1.x.tokens.length 1,.room y.2.1.x.rules.length 2,qx0 st],[]⟩)
   (fun y=>RuB ls y.2.1/\qcI s ls y.1 y.2.2 y.2.1=R/\(y.2.1.f.1=0->ls.length+1<=y.1+y.2.1.pos)) (fun y=>y.1) (ls.length+2,rh,true) ⟨hh1,hR.symm,fun _=>by simp only;omega⟩ (by simp only [hh2];exact(ti _ 7)) (fun y hy=>?_)
  obtain⟨n,r,b⟩:=y;obtain⟨h1,h2,h3⟩:=hy;simp only at h1 h2 h3 |-;by_cases h0:r.f.1=0
  .have c0:=qpH s ls r h0
   have hp:=h1.pos h0;obtain⟨n,rfl⟩:∃ j,n=j+1:=⟨n-1,by have:=h3 h0;omega⟩
   have cr:=qyR s ls r (mk r h1 (.inl h0)) (by omega) h1.fits (by have:=h1.alts.most;omega);have br:=qsa (s:=s) hl h1 h0;simp only [qcI] at h2;by_cases hc:b=true\/r.pos<ls.length
   .rw [if_pos ⟨h0,hc⟩] at h2
    obtain⟨b1,b2,b3,b4⟩:=br;generalize qfL s ls r=r' at cr h2 b1 b2 b3 b4;have fin:∀ s1:S,qbU 0 s1 ⟨PT.ofList [(2,.bp 0 0),(3,.bp 1 0),(4,.d (.sl 3 (ls.map qdJ))),(6,.bp 3 0),(7,.bp 6 0),(8,.d (.int .i64 (rh.pos:Nat))),(9,.d (.bool false))],[oZX,oZF,oZF,qq0 4 5 s ls r',.room r'.x.tokens.length 1,.room r'.x.rules.length 2,qx0 st],[]⟩ ->
      ∃ y:Nat × RS × Bool,(RuB ls y.2.1/\qcI s ls y.1 y.2.2 y.2.1=R/\(y.2.1.f.1=0->ls.length+1<=y.1+y.2.1.pos))/\y.1<n+1 /\
       qbU 0 s1 ⟨PT.ofList [(2,.bp 0 0),(3,.bp 1 0),(4,.d (.sl 3 (ls.map qdJ))),(6,.bp 3 0),(7,.bp 6 0),(8,.d (.int .i64 (rh.pos:Nat))),(9,.d (.bool y.2.2))],[oZX,oZF,oZF,qq0 4 5 s ls y.2.1,.room y.2.1.x.tokens.length 1,.room y.2.1.x.rules.length 2,qx0 st],[]⟩:=fun s1 ht =>
     ⟨(n,r',false),⟨b1,h2,fun hf=>by have:=b2 hf;have:=h3 h0;simp only;omega⟩,Nat.lt_succ_self _,ht⟩
    cases b with
    |true =>
     repeat' (first|refine zW ?_|refine zB ?_ ?_<;>intro h<;>try exact zk h|refine oE [3,4,5] c0 ?_|refine oE [3,4,5] cr ?_|(refine Yt ?_;refine r2 ?_;first|done|(skip))|(exact fin _ (ti _ 7))|exact zk h|fail)
    |false =>
     have hlt:r.pos<ls.length:=by simpa using hc
     repeat' (first|refine zW ?_|refine zB ?_ ?_<;>intro h<;>try exact zk h|refine oE [3,4,5] c0 ?_|refine oE [3,4,5] cr ?_|(refine Yt ?_;refine r2 ?_;first|done|(skip))|(exact fin _ (ti _ 7))|exact zk h|fail)
   .rw [if_neg (fun e=>hc e.2)] at h2
    subst h2;have hb:b=false:=by cases b<;>simp at hc |-
    subst hb;have hge:¬ r.pos<ls.length:=fun e=>hc (.inr e)
    repeat' (first|refine zW ?_|refine zB ?_ ?_<;>intro h<;>try exact zk h|refine oE [3,4,5] c0 ?_|(refine Yt ?_;refine r2 ?_;first|done|(skip))|(exact(by show qbU _ _ _;exact(ti _ 7)))|exact zk h|fail)
  .have c0:=qpv s ls r h0
   rw [qkI h0] at h2;subst h2
   repeat' (first|refine zW ?_|refine zB ?_ ?_<;>intro h<;>try exact zk h|refine oE [3,4,5] c0 ?_|(refine Yt ?_;refine r2 ?_;first|done|(skip))|(exact(by show qbU _ _ _;exact(ti _ 7)))|exact zk h|fail)
 have ck:=qwt s ls R st rh.pos (mk R hRb.1 hRb.2) hRb.1.fits (by have:=hh1.posM;omega);have xk:(qhJ st (ls.drop rh.pos) R).x=R.x:=by
  simp only [qhJ];rw [qk4.1];split
  .exact qaI.1
  .rfl
 obtain⟨r9,hr9⟩:∃ r9,r9=if R.f.1=0 then qhJ st (ls.drop rh.pos) R else R:=⟨_,rfl⟩
 have x9:r9.x=R.x:=by
  rw [hr9];split
  .exact xk
  .rfl
 rw [<- hr9];refine Yq ?_;refine Run.mid ⟨PT.ofList [(2,.bp 0 0),(3,.bp 1 0),(6,.bp 3 0)],[oZX,oZF,oZF,qq0 4 5 s ls r9,.room r9.x.tokens.length 1,.room r9.x.rules.length 2],[]⟩ ?_ ?_
 .by_cases h0:R.f.1=0
  .have c0:=qpH s ls R h0
   rw [if_pos h0] at hr9;rw [<- hr9] at ck
   repeat' (first|refine zW ?_|refine zB ?_ ?_<;>intro h<;>try exact zk h|refine oE [3,4,5] c0 ?_|refine oE [3,4,5] ck ?_|(refine Yt ?_;refine r2 ?_;first|done|(skip))|(exact(by show qbU _ _ _;exact(ti _ 6)))|exact zk h|fail)
  .have c0:=qpv s ls R h0
   rw [if_neg h0] at hr9;subst hr9
   repeat' (first|refine zW ?_|refine zB ?_ ?_<;>intro h<;>try exact zk h|refine oE [3,4,5] c0 ?_|(refine Yt ?_;refine r2 ?_;first|done|(skip))|(exact(by show qbU _ _ _;exact(ti _ 6)))|exact zk h|fail)
 by_cases h0:r9.f.1=0
 .have c0:=qpH s ls r9 h0
  rw [show qpG r9=(r9.x,(0,0)) by simp only [qpG,h0,if_true]]
  repeat' (first|refine zW ?_|refine zB ?_ ?_<;>intro h<;>try exact zk h|refine oE [3,4,5] c0 ?_|(refine Yt ?_;refine r2 ?_;first|done|(exact .tup2 .refl .refl))|exact zk h|fail)
 .have c0:=qpv s ls r9 h0
  rw [show qpG r9=(qdj,r9.f) by simp only [qpG,h0,if_false]]
  repeat' (first|refine zW ?_|refine zB ?_ ?_<;>intro h<;>try exact zk h|refine oE [3,4,5] c0 ?_|(refine Yt ?_;refine r2 ?_;first|done|(exact .tup2 qfX .refl))|exact zk h|fail)
theorem qbN {α β:Type} {x:Except Fa α} {f:α->Except Fa β} {r:β} (h:x.bind f=.ok r):∃ a,x=.ok a/\f a=.ok r:=by
 cases x with
 |error e=>cases h
 |ok a=>exact⟨a,rfl,h⟩
structure JP (ls:List Lx) (p:PS):Prop where
 mem:∀ x ∈ p.l,x ∈ ls
 l:p.l.length<=ls.length
 uses:p.uses.length+p.l.length<=ls.length
 toks:p.x.tokens.length<=8
 rules:p.x.rules.length<=8
 total:p.total<=24
section
variable {ls:List Lx} {s:List Nat}
theorem JP.pb {p:PS} (h:JP ls p) (hb:LsB ls):PB p :=
 ⟨fun x hx=>hb.len x (h.mem x hx),Nat.le_trans h.l hb.l,by have:=h.toks;omega,by have:=h.rules;omega,by have h1:=h.uses;have h2:=hb.l;omega,by have:=h.total;omega⟩
theorem JP.step {p q:PS} (h:JP ls p) (hm:∀ x ∈ q.l,x ∈ p.l) (hl:q.l.length<=p.l.length) (hu:q.uses.length+q.l.length<=p.uses.length+p.l.length) (ht:q.x.tokens.length<=8) (hr:q.x.rules.length<=8) (hn:q.total<=24):JP ls q :=
 ⟨fun x hx=>h.mem x (hm x hx),Nat.le_trans hl h.l,Nat.le_trans hu h.uses,ht,hr,hn⟩
theorem JP.want {p q:PS} {k:Nat} {t:List Nat} (h:JP ls p) (e:qa3 s k t p=.ok q):JP ls q:=by
 obtain⟨e1,e2,e3⟩:=qga e;refine h.step e3 (by omega) ?_ ?_ ?_ ?_<;>rw [e1]
 .simp only;omega
 .exact h.toks
 .exact h.rules
 .exact h.total
theorem qhl {p:PS} {x:Lx} {q:PS} (e:qce s p=.ok (x,q)):q={ p with l:=q.l }/\p.l=x :: q.l:=by
 unfold qce at e;cases hl:p.l with
 |nil=>rw [hl] at e;cases e
 |cons y l =>
  rw [hl] at e;simp only [Except.ok.injEq,Prod.mk.injEq] at e;obtain⟨rfl,rfl⟩:=e;exact⟨rfl,rfl⟩
theorem JP.cut {p q:PS} {x:Lx} (h:JP ls p) (e1:q={ p with l:=q.l }) (e2:p.l=x :: q.l):JP ls q/\q.uses=p.uses/\q.x=p.x/\q.total=p.total:=by
 refine⟨h.step (fun z hz=>by rw [e2];exact List.mem_cons_of_mem _ hz) (by rw [e2];simp) ?_ ?_ ?_ ?_,?_,?_,?_⟩<;>rw [e1]
 .rw [e2];simp
 .exact h.toks
 .exact h.rules
 .exact h.total
theorem JP.term {p v:PS} {sep:Bool} {t:List Nat} (h:JP ls p) (e:qa8 s sep p=.ok (t,v)):JP ls v/\v.x=p.x/\(sep=false->p.x.tokens.length≠8):=by
 obtain⟨y1,y2,y3,y4⟩:=qew e;simp only at y1 y2 y3;refine⟨h.step y3 (by omega) ?_ ?_ ?_ ?_,?_,y4⟩<;>rw [y1]
 .simp only;omega
 .exact h.toks
 .exact h.rules
 .exact h.total
theorem JP.look {p q:PS} (h:JP ls p) (e:qhT s p=.ok q):JP ls q:=by
 unfold qhT at e;obtain⟨p1,h1,e⟩:=qbN e;obtain⟨⟨x,p2⟩,h2,e⟩:=qbN e;have j1:=h.want h1;obtain⟨j2,_⟩:=j1.cut (qhl h2).1 (qhl h2).2;simp only at e;split at e
 .cases e
 .split at e
  .exact JP.want (p:={ p2 with x:={ p2.x with k:=(qd6 x.t:Nat) } }) ⟨j2.mem,j2.l,j2.uses,j2.toks,j2.rules,j2.total⟩ e
  .cases e
theorem JP.token {p q:PS} (h:JP ls p) (e:qeM s p=.ok q):JP ls q:=by
 obtain⟨t,v,h1,rfl⟩:=qty e;obtain⟨j1,j2,j3⟩:=h.term h1;have:=h.toks;have j3:=j3 rfl;exact⟨j1.mem,j1.l,j1.uses,by simp only [List.length_append,List.length_cons,List.length_nil];rw [j2];omega,j1.rules,j1.total⟩
theorem JP.tokensL:∀ (n:Nat) {p q:PS},JP ls p->qcm s n p=.ok q->JP ls q
 |0,p,q,h,e=>by simp only [qcm,Except.ok.injEq] at e;rw [<- e];exact h
 |n+1,p,q,h,e=>by
  unfold qcm at e;split at e
  .obtain⟨⟨x,p1⟩,h1,e⟩:=qbN e
   obtain⟨p2,h2,e⟩:=qbN e;exact JP.tokensL n ((h.cut (qhl h1).1 (qhl h1).2).1.token h2) e
  .simp only [Except.ok.injEq] at e;rw [<- e];exact h
theorem JP.tokens {p q:PS} (h:JP ls p) (e:qdb s p=.ok q):JP ls q:=by
 unfold qdb at e;obtain⟨p1,h1,e⟩:=qbN e;obtain⟨p2,h2,e⟩:=qbN e;obtain⟨p3,h3,e⟩:=qbN e;exact((((h.want h1).token h2).tokensL _ h3)).want e
theorem JP.sep {p q:PS} (h:JP ls p) (e:qp9 s p=.ok q):JP ls q:=by
 unfold qp9 at e;obtain⟨p1,h1,e⟩:=qbN e;obtain⟨⟨t,p2⟩,h2,e⟩:=qbN e;have j:=((h.want h1).term h2).1;exact JP.want (p:={ p2 with x:={ p2.x with sep:=t } }) ⟨j.mem,j.l,j.uses,j.toks,j.rules,j.total⟩ e
theorem JP.start {p q:PS} (h:JP ls p) (e:qeI s p=.ok q):JP ls q:=by
 unfold qeI at e;obtain⟨p1,h1,e⟩:=qbN e;obtain⟨⟨x,p2⟩,h2,e⟩:=qbN e;have j1:=h.want h1;obtain⟨w1,w2⟩:=qge h2;simp only at w1 w2;obtain⟨j,ju,_⟩:=j1.cut w1 w2;have hu:=j1.uses;rw [w2,List.length_cons] at hu;exact JP.want (p:={ p2 with x:={ p2.x with start:=x.t },uses:=p2.uses++[(x.t,x.a)] }) ⟨j.mem,j.l,by simp only [List.length_append,List.length_cons,List.length_nil];rw [ju];omega,j.toks,j.rules,j.total⟩ e
theorem JP.alt {p q:PS} {v:List (List Nat)} (h:JP ls p) (e:qdI s p=.ok (v,q)):JP ls q:=by
 obtain⟨a1,a2,a3,a4,a5,a6,_⟩:=qo3 _ _ e;simp only at a1 a2 a3 a4 a5 a6;exact h.step a4 a5 (by omega) (by rw [a1];exact h.toks) (by rw [a1];exact h.rules) (by rw [a3];exact h.total)
theorem JP.alts:∀ (n:Nat) (b:Bool) (acc:List (List (List Nat))) {p:PS} {v:List (List (List Nat)) × PS},JP ls p->qf3 s n b acc p=.ok v->JP ls v.2/\v.2.x=p.x
 |0,b,acc,p,v,h,e=>by simp only [qf3,Except.ok.injEq] at e;rw [<- e];exact⟨h,rfl⟩
 |n+1,b,acc,p,v,h,e=>by
  unfold qf3 at e;split at e
  .simp only [Except.ok.injEq] at e;rw [<- e];exact⟨h,rfl⟩
  .obtain⟨⟨x,p1⟩,h1,e⟩:=qbN e
   obtain⟨j1,ju,jx,jt⟩:=h.cut (qhl h1).1 (qhl h1).2;simp only at e;by_cases hsg:x.k=3/\x.t=(if b=true then sEq else qfC)
   .rw [if_pos hsg] at e
    by_cases h24:p1.total=24
    .rw [if_pos h24] at e;cases e
    .rw [if_neg h24] at e
     obtain⟨⟨w,p2⟩,h2,e⟩:=qbN e;have:=j1.total;have j2:=JP.alt (p:={ p1 with total:=p1.total+1 }) ⟨j1.mem,j1.l,j1.uses,j1.toks,j1.rules,by simp only;omega⟩ h2;obtain⟨a1,_⟩:=qo3 _ _ h2;obtain⟨j3,j4⟩:=JP.alts n false _ j2 e;exact⟨j3,j4.trans (Eq.trans a1 jx)⟩
   .rw [if_neg hsg] at e;cases e
theorem JP.rule {p q:PS} (h:JP ls p) (e:qnu s p=.ok q):JP ls q:=by
 unfold qnu at e;obtain⟨⟨x,p1⟩,h1,e⟩:=qbN e;obtain⟨w1,w2⟩:=qge h1;simp only at w1 w2 e;obtain⟨j1,ju,jx,jt⟩:=h.cut w1 w2;split at e
 .cases e
 .split at e
  .cases e
  .rename_i h8
   obtain⟨v,h2,e⟩:=qbN e;obtain⟨p3,h3,e⟩:=qbN e;obtain⟨j2,j3⟩:=JP.alts _ _ _ (p:={ p1 with names:=qp4 p1.names x.t (false,false,true) }) ⟨j1.mem,j1.l,j1.uses,j1.toks,j1.rules,j1.total⟩ h2;have j4:=j2.want h3;have e3:p3.x=v.2.x:=by rw [(qga h3).1]
   simp only [Except.ok.injEq] at e;rw [<- e];have:=j1.rules;exact⟨j4.mem,j4.l,j4.uses,j4.toks,by simp only [List.length_append,List.length_cons,List.length_nil];rw [e3,j3];simp only;omega,j4.total⟩
theorem JP.rulesL:∀ (n:Nat) (b:Bool) {p q:PS},JP ls p->qcZ s n b p=.ok q->JP ls q
 |0,b,p,q,h,e=>by simp only [qcZ,Except.ok.injEq] at e;rw [<- e];exact h
 |n+1,b,p,q,h,e=>by
  unfold qcZ at e;split at e
  .obtain⟨p1,h1,e⟩:=qbN e
   exact JP.rulesL n false (h.rule h1) e
  .simp only [Except.ok.injEq] at e;rw [<- e];exact h
end
def qf6 (s:List Nat):Nat->PS->Except Fa PS
 |0,p=>qhT s p
 |1,p=>qdb s p
 |2,p=>qp9 s p
 |3,p=>qeI s p
 |4,p=>qcZ s (p.l.length+1) true p
 |_,p=>qjA p
def qfc (s:List Nat):Nat->Nat->PS->Except Fa PS
 |0,_,p=>.ok p
 |n+1,k,p=>(qf6 s k p).bind fun p=>qfc s n (k+1) p
theorem qpI (s:List Nat) (ls:List Lx):qrG s ls=qfc s 6 0 ⟨ls,qdj,[],[],0⟩:=by
 unfold qrG;simp only [qfc,qf6];have:∀ x:Except Fa PS,x.bind (fun p=>.ok p)=x:=fun x=>by cases x<;>rfl
 simp only [this]
theorem JP.stepL {ls:List Lx} {s:List Nat} {k:Nat} {p q:PS} (h:JP ls p) (e:qf6 s k p=.ok q):JP ls q:=by
 match k,e with
 |0,e=>exact h.look e
 |1,e=>exact h.tokens e
 |2,e=>exact h.sep e
 |3,e=>exact h.start e
 |4,e=>exact JP.rulesL _ _ h e
 |k+5,e =>
  have e:qjA p=.ok q:=e;unfold qjA at e;obtain⟨_,_,e⟩:=qbN e;simp only [Except.ok.injEq] at e;rw [<- e];exact h
abbrev Tk:=Nat × List Nat
abbrev kt (x:Lx):Tk:=(x.k,x.t)
inductive LexR:List Nat->List Tk->Prop
 |nil:LexR [] []
 |blank {c:Nat} {l:List Nat} {ts:List Tk}:qby c=true->LexR l ts->LexR (c :: l) ts
 |lex {w l:List Nat} {k:Nat} {ts:List Tk}:qah (w++l)=(k,w)->k≠0->LexR l ts->LexR (w++l) ((k,w) :: ts)
theorem qgc (c:Nat) (l:List Nat):qah (c :: l)=if qc2 c then(3,[c]) else if qaP c then(1,(c :: l).take (1+qaU qa9 l)) else if qal c then
   (if(c=48/\1<1+qaU qal l)\/(∃ e,(c :: l)[1+qaU qal l]?=some e/\qfa e=true) then(0,[]) else(2,(c :: l).take (1+qaU qal l))) else(0,[]):=rfl
theorem qnN {c:Nat} {l:List Nat} (h:(qah (c :: l)).1≠0):qbi false (c :: l)=0:=by
 have e:qah (c :: l)=if qc2 c then(3,[c]) else if qaP c then(1,(c :: l).take (1+qaU qa9 l)) else if qal c then
   (if(c=48/\1<1+qaU qal l)\/(∃ e,(c :: l)[1+qaU qal l]?=some e/\qfa e=true) then(0,[]) else(2,(c :: l).take (1+qaU qal l))) else(0,[]):=rfl
 have key:(qc2 (c:Nat) || qaP (c:Nat) || qal (c:Nat))=true:=by
  cases h1:qc2 (c:Nat) with
  |true=>rfl
  |false =>
   cases h2:qaP (c:Nat) with
   |true=>rfl
   |false =>
    cases h3:qal (c:Nat) with
    |true=>rfl
    |false=>rw [e,h1,h2,h3] at h;simp at h
 have hb:qby (c:Nat)=false/\c≠35:=by
  simp only [qc2,qaP,qal,qby,Bool.or_eq_true,Bool.and_eq_true,beq_iff_eq,decide_eq_true_eq,Bool.or_eq_false_iff,beq_eq_false_iff_ne] at key |-;omega
 simp only [qbi,hb.1,hb.2,if_false,Bool.false_eq_true]
theorem qpp {l:List Nat} {ts:List Tk} (h:LexR l ts):∀ (s:List Nat) (n a:Nat) (acc:List DV),s.drop a=l->a<=s.length->s.length+1<=n+a ->
  ∃ ls:List Lx,qc1 s n a acc=(acc++ls.map qdJ,0,0)/\ls.map kt=ts:=by
 induction h with
 |nil =>
  intro s n a acc hd ha hn;have:a=s.length:=by
   have:=congrArg List.length hd;rw [List.length_drop] at this;simp at this;omega
  subst this;obtain⟨m,rfl⟩:∃ m,n=m+1:=⟨n-1,by omega⟩
  refine⟨[],?_,rfl⟩;unfold qc1;rw [if_pos (by unfold qaC;rw [List.drop_length];rfl)]
  simp
 |@blank c l ts hb _ ih =>
  intro s n a acc hd ha hn;have hlt:a<s.length:=by
   have:=congrArg List.length hd;rw [List.length_drop] at this;simp at this;omega
  have hd1:s.drop (a+1)=l:=by rw [<- List.drop_drop,hd];rfl
  obtain⟨m,rfl⟩:∃ m,n=m+1:=⟨n-1,by omega⟩
  obtain⟨ls,h1,h2⟩:=ih s (m+1) (a+1) acc hd1 hlt (by omega);refine⟨ls,?_,h2⟩;have hat:qaC s a=qaC s (a+1):=by
   unfold qaC;rw [hd,hd1];simp only [qbi,hb,if_true];omega
  unfold qc1 at h1 |-;rw [hat];exact h1
 |@lex w l k ts hb hk _ ih =>
  intro s n a acc hd ha hn;have hw:w≠[]:=by
   intro e;subst e;cases l with
   |nil=>simp [qah] at hb;exact hk hb.symm
   |cons c l =>
    have:=qdB (c:=c) (l:=l) (by rw [show qah (c :: l)=(k,[]) from hb];exact hk);rw [show qah (c :: l)=(k,[]) from hb] at this;simp at this
  obtain⟨c,w',rfl⟩:∃ c w',w=c :: w':=by cases w with|nil=>exact absurd rfl hw|cons c w'=>exact⟨c,w',rfl⟩
  have hp:qbi false (c :: w'++l)=0:=qnN (l:=w'++l) (by rw [show qah (c :: (w'++l))=(k,c :: w') from hb];exact hk);have hat:qaC s a=a:=by unfold qaC;rw [hd,hp];rfl
  have hlen:=congrArg List.length hd;rw [List.length_drop,List.length_append] at hlen;simp only [List.length_cons] at hlen;obtain⟨m,rfl⟩:∃ m,n=m+1:=⟨n-1,by omega⟩
  have hd1:s.drop (a+(c :: w').length)=l:=by rw [<- List.drop_drop,hd];simp
  obtain⟨ls,h1,h2⟩:=ih s m (a+(c :: w').length) (acc++[qgU k (c :: w') a]) hd1 (by simp only [List.length_cons];omega) (by simp only [List.length_cons];omega);refine⟨⟨k,c :: w',a⟩ :: ls,?_,by simp [h2]⟩;unfold qc1;rw [hat,hd,hb,if_neg (by omega),if_neg hk];simp only;rw [h1]
  simp
theorem qkJ (p:Int->Bool):∀ (w rest:List Nat),(∀ c ∈ w,p (c:Nat)=true)->(∀ c,rest[0]?=some c->p (c:Nat)=false)->qaU p (w++rest)=w.length
 |[],[],_,_=>rfl
 |[],c :: rest,_,h=>by simp [qaU,h c rfl]
 |a :: w,rest,h1,h2=>by
  have:=qkJ p w rest (fun c hc=>h1 c (List.mem_cons_of_mem _ hc)) h2;simp only [List.cons_append,qaU,h1 a List.mem_cons_self,if_true,this,List.length_cons];omega
def IsW:List Nat->Prop
 |[]=>False
 |c :: l=>qaP (c:Nat)=true/\∀ d ∈ l,qa9 (d:Nat)=true
theorem qmk {c:Nat} (h:qaP (c:Nat)=true):qc2 (c:Nat)=false:=by
 simp only [qaP,qc2,Bool.or_eq_true,Bool.and_eq_true,decide_eq_true_eq,Bool.or_eq_false_iff,beq_eq_false_iff_ne] at h |-;omega
theorem LexR.word {w rest:List Nat} {ts:List Tk} (hw:IsW w) (hr:∀ c,rest[0]?=some c->qa9 (c:Nat)=false) (h:LexR rest ts):LexR (w++rest) ((1,w) :: ts):=by
 cases w with
 |nil=>exact hw.elim
 |cons c l =>
  refine LexR.lex ?_ (by decide) h
  show qah (c :: (l++rest))=(1,c :: l)
  rw [qgc,qmk hw.1,hw.1,qkJ qa9 l rest hw.2 hr];simp only [Bool.false_eq_true,if_false,if_true];rw [Nat.add_comm,List.take_succ_cons,List.take_left']
  rfl
theorem LexR.sign {c:Nat} {rest:List Nat} {ts:List Tk} (hc:qc2 (c:Nat)=true) (h:LexR rest ts):LexR (c :: rest) ((3,[c]) :: ts):=by
 refine LexR.lex (w:=[c]) ?_ (by decide) h
 show qah (c :: rest)=(3,[c])
 rw [qgc,hc];rfl
theorem LexR.num {k:Nat} {rest:List Nat} {ts:List Tk} (h1:1<=k) (h2:k<=9) (hr:∀ c,rest[0]?=some c->qal (c:Nat)=false/\qfa (c:Nat)=false) (h:LexR rest ts):LexR ((48+k) :: rest) ((2,[48+k]) :: ts):=by
 refine LexR.lex (w:=[48+k]) ?_ (by decide) h
 show qah ((48+k) :: rest)=(2,[48+k])
 have hs:qc2 ((48+k:Nat):Int)=false:=by simp only [qc2,Bool.or_eq_false_iff,beq_eq_false_iff_ne];omega
 have hl:qaP ((48+k:Nat):Int)=false:=by simp only [qaP,Bool.or_eq_false_iff,Bool.and_eq_false_iff,decide_eq_false_iff_not];omega
 have hd:qal ((48+k:Nat):Int)=true:=by simp only [qal,Bool.and_eq_true,decide_eq_true_eq];omega
 have h0:qaU qal rest=0:=qkJ qal [] rest (fun c hc=>by cases hc) (fun c hc=>(hr c hc).1);have hne:¬ ((48+k=48/\1<1+0)\/∃ e,((48+k) :: rest)[1+0]?=some e/\qfa (e:Nat)=true):=by
  rintro(⟨h,_⟩|⟨e,h3,h4⟩)
  .omega
  .have h3:rest[0]?=some e:=by simpa using h3
   rw [(hr e h3).2] at h4;cases h4
 rw [qgc,hs,hl,hd,h0];simp only [Bool.false_eq_true,if_false,if_true];rw [if_neg hne]
 rfl
def qhN (l:List (List Nat)):List Nat:=l.flatMap fun s=>44 :: 32 :: s
theorem qiT:∀ (t:List Nat) (l:List (List Nat)),List.intercalate [44,32] (t :: l)=t++qhN l
 |t,[]=>by simp [List.intercalate,qhN]
 |t,u :: l=>by
  have:=qiT u l;simp only [List.intercalate,List.intersperse,List.flatten_cons] at this |-;rw [this];simp [qhN]
def qgb:Bool->List (List (List Nat))->List Nat
 |_,[]=>[]
 |first,a :: l=>(if first then [] else [32,124])++qd2 a++qgb false l
theorem qmR:∀ (b:Bool) (al:List (List (List Nat))) (a:List (List Nat)),qgb b (al++[a])=qgb b al++(if b && al.isEmpty then [] else [32,124])++qd2 a
 |b,[],a=>by cases b<;>simp [qgb]
 |b,x :: al,a=>by
  have:=qmR false al a;simp only [List.cons_append,qgb,this];cases b<;>simp
theorem qim (al:List (List (List Nat))):∀ n,n<=al.length->qb1 al n=qgb true (al.take n)
 |0,_=>rfl
 |n+1,h=>by
  obtain⟨a,ha⟩:∃ a,al[n]?=some a:=⟨al[n]'(by omega),List.getElem?_eq_getElem (by omega)⟩
  have h1:=qim al n (by omega);rw [List.take_add_one,ha]
  show _=qgb true (al.take n++[a])
  rw [qmR];simp only [qb1,h1,List.getD_eq_getElem?_getD,ha,Option.getD_some];cases n with
  |zero=>rfl
  |succ n =>
   have:(al.take (n+1)).isEmpty=false:=by
    cases al with
    |nil=>simp at h
    |cons x l=>rfl
   rw [this];rfl
theorem qsV (al:List (List (List Nat))):qb1 al al.length=qgb true al:=by
 rw [qim al _ (Nat.le_refl _),List.take_length]
def qf4:Bool->List (List (List Nat))->List Tk
 |_,[]=>[]
 |first,a :: l=>(if first then [] else [(3,qfC)])++a.map (fun s=>(1,s))++qf4 false l
def qeO (r:SRule):List Tk:=(1,r.name) :: (3,sEq) :: (qf4 true r.alts++[(3,qau)])
def qfS (l:List (List Nat)):List Tk:=l.flatMap fun s=>[(3,qdF),(1,s)]
def qn9 (x:Src):List Tk:=[(1,qcz),(2,[48+x.k.toNat]),(3,qau),(1,qaZ)]++((1,x.tokens.headD []) :: qfS x.tokens.tail)++[(3,qau),(1,qf2),(1,x.sep),(3,qau),(1,qbk),(1,x.start),(3,qau)]++x.rules.flatMap qeO
theorem LexR.sp {l:List Nat} {ts:List Tk} (h:LexR l ts):LexR (32 :: l) ts:=.blank rfl h
theorem LexR.nl {l:List Nat} {ts:List Tk} (h:LexR l ts):LexR (10 :: l) ts:=.blank rfl h
theorem qex {c:Nat} {l:List Nat} (h:qa9 (c:Nat)=false):∀ d,(c :: l)[0]?=some d->qa9 (d:Nat)=false:=fun d hd=>by
 simp at hd;rw [<- hd];exact h
theorem qo5 {rest:List Nat} {ts:List Tk} (hr:∀ c,rest[0]?=some c->qa9 (c:Nat)=false) (h:LexR rest ts):∀ (l:List (List Nat)),(∀ s ∈ l,IsW s)->LexR (qhN l++rest) (qfS l++ts)/\∀ c,(qhN l++rest)[0]?=some c->qa9 (c:Nat)=false
 |[],_=>⟨h,hr⟩
 |s :: l,hw=>by
  obtain⟨h1,h2⟩:=qo5 hr h l (fun s hs=>hw s (List.mem_cons_of_mem _ hs));have:=LexR.sign (c:=44) rfl (LexR.sp ((LexR.word (hw s List.mem_cons_self) h2 h1)));refine⟨?_,fun c hc=>?_⟩
  .simpa [qhN,qfS] using this
  .simp [qhN] at hc;rw [<- hc];rfl
theorem quf {rest:List Nat} {ts:List Tk} (hr:∀ c,rest[0]?=some c->qa9 (c:Nat)=false) (h:LexR rest ts):∀ (a:List (List Nat)),(∀ s ∈ a,IsW s)->LexR (qd2 a++rest) (a.map (fun s=>(1,s))++ts)/\∀ c,(qd2 a++rest)[0]?=some c->qa9 (c:Nat)=false
 |[],_=>⟨h,hr⟩
 |s :: a,hw=>by
  obtain⟨h1,h2⟩:=quf hr h a (fun s hs=>hw s (List.mem_cons_of_mem _ hs));have:=LexR.sp (LexR.word (hw s List.mem_cons_self) h2 h1);refine⟨?_,fun c hc=>?_⟩
  .simpa [qd2] using this
  .simp [qd2] at hc;rw [<- hc];rfl
theorem qqg {rest:List Nat} {ts:List Tk} (hr:∀ c,rest[0]?=some c->qa9 (c:Nat)=false) (h:LexR rest ts):∀ (b:Bool) (al:List (List (List Nat))),(∀ a ∈ al,∀ s ∈ a,IsW s)->LexR (qgb b al++rest) (qf4 b al++ts)/\∀ c,(qgb b al++rest)[0]?=some c->qa9 (c:Nat)=false
 |_,[],_=>⟨h,hr⟩
 |b,a :: al,hw=>by
  obtain⟨h1,h2⟩:=qqg hr h false al (fun s hs=>hw s (List.mem_cons_of_mem _ hs));obtain⟨h3,h4⟩:=quf h2 h1 a (hw a List.mem_cons_self);cases b with
  |true=>exact⟨by simpa [qgb,qf4] using h3,by simpa [qgb] using h4⟩
  |false =>
   have:=LexR.sp (LexR.sign (c:=124) rfl h3);refine⟨by simpa [qgb,qf4] using this,fun c hc=>?_⟩;simp [qgb] at hc;rw [<- hc];rfl
theorem qvo {rest:List Nat} {ts:List Tk} (h:LexR rest ts) (r:SRule) (hn:IsW r.name) (hw:∀ a ∈ r.alts,∀ s ∈ a,IsW s):LexR (qeQ r++rest) (qeO r++ts):=by
 have h0:LexR (32 :: 59 :: 10 :: rest) ((3,qau) :: ts):=LexR.sp (LexR.sign rfl (LexR.nl h));obtain⟨h1,h2⟩:=qqg (qex rfl) h0 true r.alts hw;have:=LexR.word hn (qex (c:=32) (l:=61 :: (qgb true r.alts++32 :: 59 :: 10 :: rest)) rfl) (LexR.sp (LexR.sign (c:=61) rfl h1));simpa [qeQ,qeO,qsV] using this
theorem qo9:∀ (l:List SRule),(∀ r ∈ l,IsW r.name/\∀ a ∈ r.alts,∀ s ∈ a,IsW s)->LexR (l.flatMap qeQ) (l.flatMap qeO)
 |[],_=>.nil
 |r :: l,h=>by
  simp only [List.flatMap_cons];exact qvo (qo9 l (fun r hr=>h r (List.mem_cons_of_mem _ hr))) r (h r List.mem_cons_self).1 (h r List.mem_cons_self).2
theorem qtl (x:Src) (hk:1<=x.k/\x.k<=4) (h0:x.tokens≠[]) (ht:∀ s ∈ x.tokens,IsW s) (hs:IsW x.sep) (hS:IsW x.start) (hr:∀ r ∈ x.rules,IsW r.name/\∀ a ∈ r.alts,∀ s ∈ a,IsW s):LexR (qaQ x) (qn9 x):=by
 have e0:=qo9 x.rules hr;have e1:=LexR.word (w:=qbk) ⟨rfl,by decide⟩ (qex (c:=32) (l:=x.start++59 :: 10 :: x.rules.flatMap qeQ) rfl) (LexR.sp (LexR.word hS (qex (c:=59) rfl) (LexR.sign rfl (LexR.nl e0))));have e2:=LexR.word (w:=qf2) ⟨rfl,by decide⟩ (qex (c:=32) rfl) (LexR.sp (LexR.word hs (qex (c:=59) rfl) (LexR.sign rfl (LexR.nl e1))));obtain⟨t,l,hl⟩:∃ t l,x.tokens=t :: l:=by cases h:x.tokens with|nil=>exact absurd h h0|cons t l=>exact⟨t,l,rfl⟩
 obtain⟨e3,e4⟩:=qo5 (qex (c:=59) rfl) (LexR.sign (c:=59) rfl (LexR.nl e2)) l (fun s hs=>ht s (by rw [hl];exact List.mem_cons_of_mem _ hs));have e5:=LexR.word (w:=qaZ) ⟨rfl,by decide⟩ (qex (c:=32) rfl) (LexR.sp (LexR.word (ht t (by rw [hl];exact List.mem_cons_self)) e4 e3));have e6:=LexR.word (w:=qcz) ⟨rfl,by decide⟩ (qex (c:=32) rfl) (LexR.sp (LexR.num (k:=x.k.toNat) (by omega) (by omega) (fun c hc=>by simp at hc;rw [<- hc];exact⟨rfl,rfl⟩) (LexR.sign (c:=59) rfl (LexR.nl e5))));have a1:qaQ x=qcz++32 :: ((48+x.k.toNat) :: 59 :: 10 :: (qaZ++32 :: (t++(qhN l++59 :: 10 :: (qf2++32 :: (x.sep++59 :: 10 :: (qbk++32 :: (x.start++59 :: 10 :: x.rules.flatMap qeQ)))))))):=by
  unfold qaQ qfJ qbF;rw [hl,qiT,List.take_length];simp [qcz,qaZ,qf2,qbk]
 have a2:qn9 x=(1,qcz) :: (2,[48+x.k.toNat]) :: (3,qau) :: (1,qaZ) :: (1,t) :: (qfS l++(3,qau) :: (1,qf2) :: (1,x.sep) :: (3,qau) :: (1,qbk) :: (1,x.start) :: (3,qau) :: x.rules.flatMap qeO):=by
  unfold qn9;rw [hl]
  simp
 rw [a1,a2];exact e6
section
variable {s:List Nat} {ls:List Lx}
def AT (ls:List Lx) (r:RS) (l:List Tk):Prop:=r.f=(0,0)/\(ls.drop r.pos).map kt=l
theorem AT.cons {r:RS} {k:Nat} {t:List Nat} {l:List Tk} (h:AT ls r ((k,t) :: l)):∃ x,ls[r.pos]?=some x/\x.k=k/\x.t=t/\ls.drop r.pos=x :: ls.drop (r.pos+1)/\(ls.drop (r.pos+1)).map kt=l:=by
 obtain⟨_,h⟩:=h;cases hd:ls.drop r.pos with
 |nil=>rw [hd] at h;cases h
 |cons x m =>
  rw [hd] at h;simp only [List.map_cons,List.cons.injEq,Prod.mk.injEq] at h;have hx:ls[r.pos]?=some x:=by rw [<- List.head?_drop,hd];rfl
  have hm:ls.drop (r.pos+1)=m:=by rw [<- List.drop_drop,hd];rfl
  exact⟨x,hx,h.1.1,h.1.2,by rw [hm],by rw [hm];exact h.2⟩
theorem AT.len {r:RS} {l:List Tk} (h:AT ls r l):l.length+r.pos<=ls.length\/l=[]:=by
 have:=congrArg List.length h.2;rw [List.length_map,List.length_drop] at this;cases l with
 |nil=>exact .inr rfl
 |cons x l=>simp at this;left;simp;omega
theorem AT.len' {r:RS} {l:List Tk} (h:AT ls r l):l.length<=ls.length:=by
 have:=congrArg List.length h.2;rw [List.length_map,List.length_drop] at this;omega
theorem AT.peek {r:RS} {k:Nat} {t:List Nat} {l:List Tk} (h:AT ls r ((k,t) :: l)):∃ a,qaF s ls r=(⟨k,t,a⟩,r):=by
 obtain⟨x,h1,h2,h3,_,_⟩:=h.cons;refine⟨x.a,?_⟩;unfold qaF;rw [h1,<- h2,<- h3]
theorem AT.take {r:RS} {k:Nat} {t:List Nat} {l:List Tk} (h:AT ls r ((k,t) :: l)):∃ a,qa5 s ls r=(⟨k,t,a⟩,{ r with pos:=r.pos+1 })/\AT ls { r with pos:=r.pos+1 } l:=by
 obtain⟨a,h1⟩:=h.peek (s:=s);obtain⟨x,_,_,_,_,h5⟩:=h.cons;exact⟨a,by unfold qa5;rw [h1],h.1,h5⟩
theorem AT.must {r:RS} {k:Nat} {t:List Nat} {l:List Tk} (h:AT ls r ((k,t) :: l)):qaG s ls k t r={ r with pos:=r.pos+1 }/\AT ls { r with pos:=r.pos+1 } l:=by
 obtain⟨a,h1,h2⟩:=h.take (s:=s);refine⟨?_,h2⟩;unfold qaG qeP;rw [h1,if_neg (by simp)]
theorem AT.name {r:RS} {cap:Bool} {t:List Nat} {l:List Tk} (h:AT ls r ((1,t) :: l)) (hc:(if cap then qae t else qap t)=true):qbt s ls cap r=(t,{ r with pos:=r.pos+1 })/\AT ls { r with pos:=r.pos+1 } l:=by
 obtain⟨a,h1,h2⟩:=h.take (s:=s);refine⟨?_,h2⟩;have h0:=h.1;unfold qbt qfo;rw [h1];simp only [h0,ne_eq,not_true_eq_false,if_false,hc,if_true]
theorem AT.nextT {r:RS} {t:List Nat} {l:List Tk} (h:AT ls r ((3,t) :: l)):qbu ls t r=(true,{ r with pos:=r.pos+1 })/\AT ls { r with pos:=r.pos+1 } l:=by
 obtain⟨x,_,h2,h3,h4,h5⟩:=h.cons;refine⟨?_,h.1,h5⟩;unfold qbu;rw [h4,if_pos ⟨by rw [h.1],by simp [isL,h2,h3]⟩]
theorem AT.nextF {r:RS} {u t:List Nat} {k:Nat} {l:List Tk} (h:AT ls r ((k,u) :: l)) (hn:¬ (k=3/\u=t)):qbu ls t r=(false,r):=by
 obtain⟨x,_,h2,h3,h4,_⟩:=h.cons;unfold qbu;rw [h4,if_neg (by rintro⟨_,e⟩;simp only [isL,decide_eq_true_eq] at e;rw [h2,h3] at e;exact hn e)]
theorem AT.x {r:RS} {l:List Tk} (h:AT ls r l) (y:Src):AT ls { r with x:=y } l:=h
theorem qiZ {l:List (List Nat)} {t:List Nat} (h:t ∉ l):qc8 l t=false:=by
 simp only [qc8,List.any_eq_false,decide_eq_true_eq];intro y hy e;exact h (e ▸ hy)
theorem AT.token {r:RS} {t:List Nat} {l:List Tk} (h:AT ls r ((1,t) :: l)) (ht:qap t=true) (hn:t ∉ r.x.tokens) (h8:r.x.tokens.length≠8):qbI s ls r={ r with pos:=r.pos+1,x:={ r.x with tokens:=r.x.tokens++[t] } }/\AT ls { r with pos:=r.pos+1 } l:=by
 obtain⟨a,h1⟩:=h.peek (s:=s);obtain⟨h2,h3⟩:=h.name (s:=s) (cap:=false) ht;refine⟨?_,h3⟩;unfold qbI;simp only [h1,h2,qgj,qiZ hn,qa7,h8,if_false,Bool.false_eq_true]
theorem AT.tokens:∀ (l:List (List Nat)) (n:Nat) (r:RS) (t:List Nat) (rest:List Tk),AT ls r ((1,t) :: (qfS l++(3,qau) :: rest))->l.length<n->(∀ u ∈ t :: l,qap u=true)->(r.x.tokens++t :: l).Nodup->r.x.tokens.length+(t :: l).length<=8 ->
  ∃ p,qaL s ls n r={ r with pos:=p,x:={ r.x with tokens:=r.x.tokens++t :: l } }/\AT ls { r with pos:=p } ((3,qau) :: rest)
 |[],n,r,t,rest,h,hn,hs,hd,h8=>by
  obtain⟨n,rfl⟩:∃ m,n=m+1:=⟨n-1,by simp at hn;omega⟩
  have hnt:t ∉ r.x.tokens:=fun hm=>by
   have:=(List.nodup_append.1 hd).2.2 t hm t (by simp);exact this rfl
  obtain⟨h1,h2⟩:=h.token (s:=s) (hs t (by simp)) hnt (by simp at h8;omega);have h2:AT ls { r with pos:=r.pos+1,x:={ r.x with tokens:=r.x.tokens++[t] } } ((3,qau) :: rest):=h2;refine⟨r.pos+1,?_,h2⟩;unfold qaL;rw [if_pos (by rw [h.1])];simp only [h1];rw [h2.nextF (by decide)]
  simp
 |u :: l,n,r,t,rest,h,hn,hs,hd,h8=>by
  obtain⟨n,rfl⟩:∃ m,n=m+1:=⟨n-1,by simp at hn;omega⟩
  have hnt:t ∉ r.x.tokens:=fun hm=>by
   have:=(List.nodup_append.1 hd).2.2 t hm t (by simp);exact this rfl
  obtain⟨h1,h2⟩:=h.token (s:=s) (hs t (by simp)) hnt (by simp at h8;omega);have h2:AT ls { r with pos:=r.pos+1,x:={ r.x with tokens:=r.x.tokens++[t] } } ((3,qdF) :: (1,u) :: (qfS l++(3,qau) :: rest)):=by
   refine⟨h2.1,?_⟩;have:=h2.2;simpa [qfS] using this
  obtain⟨h3,h4⟩:=h2.nextT;obtain⟨p,h5,h6⟩:=AT.tokens l n _ u rest h4 (by simp at hn;omega) (fun v hv=>hs v (List.mem_cons_of_mem _ hv)) (by simpa using hd) (by simp at h8 |-;omega);refine⟨p,?_,h6⟩;unfold qaL;rw [if_pos (by rw [h.1])];simp only [h1,h3,if_true];rw [h5]
  simp
theorem AT.alt:∀ (a:List (List Nat)) (n:Nat) (acc:List (List Nat)) (r:RS) (k:Nat) (u:List Nat) (rest:List Tk),AT ls r (a.map (fun t=>(1,t))++(k,u) :: rest)->k≠1->a.length<n->(∀ t ∈ a,qfh t=true)->acc.length+a.length<=6 ->
  ∃ p,qgi s ls n acc r=(acc++a,{ r with pos:=p })/\AT ls { r with pos:=p } ((k,u) :: rest)
 |[],n,acc,r,k,u,rest,h,hk,hn,hm,h6=>by
  obtain⟨n,rfl⟩:∃ m,n=m+1:=⟨n-1,by simp at hn;omega⟩
  have h:AT ls r ((k,u) :: rest):=h;obtain⟨a,h1⟩:=h.peek (s:=s);refine⟨r.pos,?_,h⟩;unfold qgi;rw [if_pos (by rw [h.1]),h1];simp only [hk,if_false,List.append_nil]
 |t :: a,n,acc,r,k,u,rest,h,hk,hn,hm,h6=>by
  obtain⟨n,rfl⟩:∃ m,n=m+1:=⟨n-1,by simp at hn;omega⟩
  have h:AT ls r ((1,t) :: (a.map (fun t=>(1,t))++(k,u) :: rest)):=h;obtain⟨b,h1⟩:=h.peek (s:=s);obtain⟨b2,h2,h3⟩:=h.take (s:=s);simp only [List.length_cons] at h6 hn;obtain⟨p,h4,h5⟩:=AT.alt a n (acc++[t]) _ k u rest h3 hk (by omega) (fun t ht=>hm t (List.mem_cons_of_mem _ ht)) (by simp only [List.length_append,List.length_cons,List.length_nil];omega);refine⟨p,?_,h5⟩;unfold qgi;rw [if_pos (by rw [h.1]),h1];simp only [if_true,h2,qfI,hm t List.mem_cons_self,qa7];rw [if_neg (show ¬ acc.length=6 by omega),h4]
  simp
theorem AT.alts:∀ (al:List (List (List Nat))) (a:List (List Nat)) (n:Nat) (acc:List (List (List Nat))) (r:RS) (rest:List Tk),AT ls r (a.map (fun t=>(1,t))++(qf4 false al++(3,qau) :: rest))->al.length<n->(∀ b ∈ a :: al,b.length<=6/\∀ t ∈ b,qfh t=true)->r.alts+(a :: al).length<=24 ->
  ∃ p,qcf s ls n acc r=(acc++a :: al,{ r with pos:=p,alts:=r.alts+(a :: al).length })/\AT ls { r with pos:=p } ((3,qau) :: rest)
 |[],a,n,acc,r,rest,h,hn,hb,h24=>by
  obtain⟨n,rfl⟩:∃ m,n=m+1:=⟨n-1,by simp at hn;omega⟩
  have h:AT ls r (a.map (fun t=>(1,t))++(3,qau) :: rest):=h;have hl:=h.len';simp only [List.length_append,List.length_map,List.length_cons] at hl;have hc:qbH ls r={ r with alts:=r.alts+1 }:=by simp at h24;simp only [qbH,qa7];rw [if_neg (by omega)]
  obtain⟨p,h1,h2⟩:=AT.alt (s:=s) a (ls.length+1) [] (qbH ls r) 3 qau rest (by rw [hc];exact h) (by decide) (by omega) (hb a (by simp)).2 (by have:=(hb a (by simp)).1;simpa using this);rw [hc] at h1 h2;simp only at h1 h2;have h2:AT ls { r with alts:=r.alts+1,pos:=p } ((3,qau) :: rest):=h2;refine⟨p,?_,h2⟩;unfold qcf qaS;simp only [hc,h1];rw [AT.nextF h2 (by decide)]
  simp
 |b :: al,a,n,acc,r,rest,h,hn,hb,h24=>by
  obtain⟨n,rfl⟩:∃ m,n=m+1:=⟨n-1,by simp at hn;omega⟩
  have h:AT ls r (a.map (fun t=>(1,t))++(3,qfC) :: (b.map (fun t=>(1,t))++(qf4 false al++(3,qau) :: rest))):=by
   refine⟨h.1,?_⟩;have:=h.2;simpa [qf4] using this
  have hl:=h.len';simp only [List.length_append,List.length_map,List.length_cons] at hl;have hc:qbH ls r={ r with alts:=r.alts+1 }:=by simp at h24;simp only [qbH,qa7];rw [if_neg (by omega)]
  obtain⟨p,h1,h2⟩:=AT.alt (s:=s) a (ls.length+1) [] (qbH ls r) 3 qfC _ (by rw [hc];exact h) (by decide) (by omega) (hb a (by simp)).2 (by have:=(hb a (by simp)).1;simpa using this);rw [hc] at h1 h2;simp only at h1 h2;have h2:AT ls { r with alts:=r.alts+1,pos:=p } _:=h2;obtain⟨h3,h4⟩:=h2.nextT;obtain⟨q,h5,h6⟩:=AT.alts al b n (acc++[a]) _ rest h4 (by simp at hn;omega) (fun c hc=>hb c (List.mem_cons_of_mem _ hc)) (by simp at h24 |-;omega);refine⟨q,?_,h6⟩;unfold qcf qaS;simp only [hc,h1,h3,if_true];simp only [List.nil_append,h5]
  simp;omega
theorem AT.rule {r:RS} {u:SRule} {rest:List Tk} (h:AT ls r (qeO u++rest)) (hc:qae u.name=true) (hn:u.name ∉ qab r.x) (h8:r.x.rules.length≠8) (hne:u.alts≠[]) (hb:∀ b ∈ u.alts,b.length<=6/\∀ t ∈ b,qfh t=true) (h24:r.alts+u.alts.length<=24) :
  ∃ p,qfL s ls r={ r with pos:=p,alts:=r.alts+u.alts.length,x:={ r.x with rules:=r.x.rules++[u] } }/\AT ls { r with pos:=p } rest:=by
 obtain⟨a,al,ha⟩:∃ a al,u.alts=a :: al:=by cases h:u.alts with|nil=>exact absurd h hne|cons a al=>exact⟨a,al,rfl⟩
 have h:AT ls r ((1,u.name) :: (3,sEq) :: (a.map (fun t=>(1,t))++(qf4 false al++(3,qau) :: rest))):=by
  refine⟨h.1,?_⟩;have:=h.2;simpa [qeO,ha,qf4] using this
 have hl:=h.len';simp only [List.length_append,List.length_map,List.length_cons] at hl;have hal:al.length<=(qf4 false al).length:=by
  clear ha hl h
  induction al with
  |nil=>simp
  |cons x l ih=>simp [qf4];omega
 obtain⟨b0,h1⟩:=h.peek (s:=s);obtain⟨h2,h3⟩:=h.name (s:=s) (cap:=true) hc;obtain⟨h4,h5⟩:=h3.must (s:=s);obtain⟨p,h6,h7⟩:=AT.alts (s:=s) al a (ls.length+1) [] _ rest h5 (by omega) (by rw [<- ha];exact hb) (by simp only;rw [<- ha];exact h24);simp only at h6 h7;have h7:AT ls { r with pos:=p,alts:=r.alts+(a :: al).length } ((3,qau) :: rest):=h7;obtain⟨h8',h9⟩:=h7.must (s:=s);simp only at h8' h9;refine⟨p+1,?_,h9⟩;have hf:r.f.1=0:=by rw [h.1]
 unfold qfL;simp only [h1,h2,hf,if_true,qgj,qiZ hn,qa7,h8,if_false,Bool.false_eq_true,h4,h6,List.nil_append,h8'];rw [<- ha]
theorem AT.rules:∀ (l:List SRule) (n:Nat) (b:Bool) (r:RS),AT ls r (l.flatMap qeO)->(b=true->l≠[])->l.length<n->(∀ u ∈ l,qae u.name=true/\u.alts≠[]/\∀ b ∈ u.alts,b.length<=6/\∀ t ∈ b,qfh t=true)->(qab r.x++l.map (·.name)).Nodup->r.x.rules.length+l.length<=8->r.alts+(l.map (·.alts.length)).sum<=24 ->
  ∃ p a,qcI s ls n b r={ r with pos:=p,alts:=a,x:={ r.x with rules:=r.x.rules++l } }
 |[],n,b,r,h,hb,hn,hu,hd,h8,h24=>by
  obtain⟨n,rfl⟩:∃ m,n=m+1:=⟨n-1,by simp at hn;omega⟩
  have hb:b=false:=by cases b with|true=>exact absurd rfl (hb rfl)|false=>rfl
  subst hb;have hp:¬ r.pos<ls.length:=fun hlt=>by
   have:=congrArg List.length h.2;rw [List.length_map,List.length_drop] at this;simp at this;omega
  refine⟨r.pos,r.alts,?_⟩;unfold qcI;rw [if_neg (by rintro⟨_,h|h⟩;cases h;exact hp h)]
  simp
 |u :: l,n,b,r,h,hb,hn,hu,hd,h8,h24=>by
  obtain⟨n,rfl⟩:∃ m,n=m+1:=⟨n-1,by simp at hn;omega⟩
  obtain⟨u1,u2,u3⟩:=hu u List.mem_cons_self;have h:AT ls r (qeO u++l.flatMap qeO):=h;have hpos:r.pos<ls.length:=by
   obtain⟨x,hx,_⟩:=AT.cons (ls:=ls) (r:=r) (k:=1) (t:=u.name) (l:=((3,sEq) :: (qf4 true u.alts++[(3,qau)]))++l.flatMap qeO) ⟨h.1,by rw [h.2];rfl⟩;exact(List.getElem?_eq_some_iff.1 hx).1
  have hnn:u.name ∉ qab r.x:=fun hm=>(List.nodup_append.1 hd).2.2 _ hm u.name (by simp) rfl;simp only [List.map_cons,List.sum_cons] at h24;obtain⟨p,h1,h2⟩:=h.rule (s:=s) u1 hnn (by simp at h8;omega) u2 u3 (by omega);have h2:AT ls { r with pos:=p,alts:=r.alts+u.alts.length,x:={ r.x with rules:=r.x.rules++[u] } } (l.flatMap qeO):=h2;obtain⟨q,a,h3⟩:=AT.rules l n false _ h2 (fun h=>by cases h) (by simp at hn;omega) (fun v hv=>hu v (List.mem_cons_of_mem _ hv)) (by simpa [qab] using hd) (by simp at h8 |-;omega) (by simp only;omega);refine⟨q,a,?_⟩;unfold qcI;rw [if_pos ⟨by rw [h.1],.inr hpos⟩,h1,h3]
  simp
end
structure SoundX (x:Src):Prop where
 k:1<=x.k/\x.k<=4
 tok0:x.tokens≠[]
 rul0:x.rules≠[]
 alt0:∀ r ∈ x.rules,r.alts≠[]
 alt6:∀ r ∈ x.rules,∀ a ∈ r.alts,a.length<=6
 tok8:x.tokens.length<=8
 rul8:x.rules.length<=8
 sum:(x.rules.map (·.alts.length)).sum<=24
 tokS:∀ s ∈ x.tokens,qap s=true
 sepS:qap x.sep=true
 startC:qae x.start=true
 rulC:∀ r ∈ x.rules,qae r.name=true
 altM:∀ r ∈ x.rules,∀ a ∈ r.alts,∀ s ∈ a,qfh s=true
 nodT:(x.tokens++[x.sep]).Nodup
 nodR:(qab x).Nodup
 noSep:∀ r ∈ x.rules,∀ a ∈ r.alts,x.sep ∉ a
 known:∀ r ∈ x.rules,∀ a ∈ r.alts,∀ s ∈ a,s ∈ qab x\/s ∈ x.tokens
 start:x.start ∈ qab x
theorem qcY {l:List (List Nat)} {t:List Nat}:qc8 l t=true ↔ t ∈ l:=by
 simp only [qc8,List.any_eq_true,decide_eq_true_eq];exact⟨fun⟨y,h1,h2⟩=>h2 ▸ h1,fun h=>⟨t,h,rfl⟩⟩
theorem qt9 {x:Src} (h:qa0 x=0):SoundX x:=by
 unfold qa0 at h;by_cases h1:x.k<1\/4<x.k
 .rw [if_pos h1] at h;cases h
 rw [if_neg h1] at h;cases h2:qcw x with
 |true=>rw [h2] at h;cases h
 |false =>
 cases h3:qcN x with
 |true=>rw [h2,h3] at h;cases h
 |false =>
 cases h4:qjH x with
 |true=>rw [h2,h3,h4] at h;cases h
 |false =>
 cases h5:qsn x with
 |true=>rw [h2,h3,h4,h5] at h;cases h
 |false =>
 cases h6:qfZ x x.sep with
 |true=>rw [h2,h3,h4,h5,h6] at h;cases h
 |false =>
 cases h7:qmd x with
 |true=>rw [h2,h3,h4,h5,h6,h7] at h;cases h
 |false =>
 clear h;simp only [qcw,Bool.or_eq_false_iff,List.any_eq_false,List.isEmpty_iff,Bool.not_eq_true] at h2;simp only [qcN,Bool.or_eq_false_iff,List.any_eq_false,decide_eq_false_iff_not,qeo,decide_eq_true_eq,Bool.not_eq_true,List.any_eq_true,not_exists,not_and] at h3;simp only [qjH,Bool.or_eq_false_iff,List.any_eq_false,Bool.not_eq_true,Bool.not_eq_false',qsk,qe6,Bool.and_eq_false_iff,Bool.not_eq_true',Bool.not_eq_false] at h4;simp only [qsn,Bool.or_eq_false_iff,qbP] at h5;simp only [qfZ,qpz,List.any_eq_false,Bool.not_eq_true,List.any_eq_false] at h6;simp only [qmd,qu0,quu,Bool.or_eq_false_iff,List.any_eq_false,Bool.not_eq_true,Bool.and_eq_false_iff,Bool.not_eq_false',qcY] at h7;obtain⟨⟨a1,a2⟩,a3⟩:=h2;obtain⟨⟨⟨b1,b2⟩,b3⟩,b4⟩:=h3;obtain⟨⟨⟨c1,c2⟩,c3⟩,c4⟩:=h4;refine⟨by omega,?_,?_,?_,?_,by omega,by omega,?_,?_,c3,c4,?_,?_,Decidable.not_not.1 (of_decide_eq_false h5.1),Decidable.not_not.1 (of_decide_eq_false h5.2),?_,?_,h7.2⟩
 .intro e;rw [e] at a2;simp at a2
 .intro e;rw [e] at a3;simp at a3
 .exact fun r hr e=>a1 r hr (by simpa using e)
 .exact fun r hr a ha=>by have:=b1 r hr a ha;omega
 .have:=b4
  unfold qcc at this;rw [List.take_length] at this;omega
 .exact c1
 .exact fun r hr=>(c2 r hr).1
 .exact fun r hr a ha s hs=>by
   have:=(c2 r hr).2 a ha s hs;unfold qfh;rcases this with h|h<;>simp [h]
 .exact fun r hr a ha hm=>by
   have:=h6 r hr a ha;rw [qcY.2 hm] at this;cases this
 .exact fun r hr a ha s hs=>h7.1 r hr a ha s hs
theorem qcX {t:List Nat} (h:qcS t=0):IsW t:=by
 have hw:qea t=0:=by
  unfold qcS at h;split at h
  .omega
  .exact h
 unfold qea at hw;split at hw
 .cases hw
 .rename_i hne
  split at hw
  .cases hw
  .rename_i hb
   cases t with
   |nil=>exact absurd rfl hne
   |cons c l =>
    have hall:∀ i,¬ qiJ (c :: l) i:=fun i hi=>hb ⟨i,hi⟩;refine⟨?_,fun d hd=>?_⟩
    .cases hl:qa4 (c:Nat) with
     |true=>exact hl
     |false=>exact absurd ⟨c,rfl,hl,.inl rfl⟩ (hall 0)
    .obtain⟨i,hi,rfl⟩:=List.getElem_of_mem hd
     unfold qa9;cases hl:qa4 (l[i]:Nat) with
     |true=>rw [show qaP ((l[i]:Nat):Int)=true from hl];rfl
     |false =>
      cases hd2:qdZ (l[i]:Nat) with
      |true=>rw [show qal ((l[i]:Nat):Int)=true from hd2];simp
      |false =>
       by_cases h95:((l[i]:Nat):Int)=95
       .simp [h95]
       .exact absurd ⟨l[i],by simp [hi],hl,.inr ⟨hd2,h95⟩⟩ (hall (i+1))
theorem qcR {t:List Nat} (h:qap t=true):qcS t=0:=by
 simp only [qap,Bool.and_eq_true,decide_eq_true_eq] at h;exact h.1
theorem qb2 {t:List Nat} (h:qae t=true):qcS t=0:=by
 simp only [qae,Bool.and_eq_true,decide_eq_true_eq] at h;exact h.1
theorem qpW {t:List Nat} (h:qap t=true) (h2:qae t=true):False:=by
 simp only [qap,qae,Bool.and_eq_true,decide_eq_true_eq] at h h2;omega
theorem qk1 {t:List Nat} (h:qfh t=true):qcS t=0:=by
 unfold qfh at h;rw [Bool.or_eq_true] at h;exact h.elim qcR qb2
theorem qto {x:Src} (h:SoundX x):LexR (qaQ x) (qn9 x) :=
 qtl x h.k h.tok0 (fun s hs=>qcX (qcR (h.tokS s hs))) (qcX (qcR h.sepS)) (qcX (qb2 h.startC))
  (fun r hr=>⟨qcX (qb2 (h.rulC r hr)),fun a ha s hs=>qcX (qk1 (h.altM r hr a ha s hs))⟩)
section
variable {s:List Nat} {ls:List Lx}
theorem AT.look {r:RS} {k:Nat} {rest:List Tk} (h:AT ls r ((1,qcz) :: (2,[48+k]) :: (3,qau) :: rest)) (hk:1<=k/\k<=4):qeB s ls r={ r with pos:=r.pos+3,x:={ r.x with k:=(k:Nat) } }/\AT ls { r with pos:=r.pos+3 } rest:=by
 obtain⟨h1,h2⟩:=h.must (s:=s);obtain⟨a,h3,h4⟩:=h2.take (s:=s);have h4:AT ls { r with pos:=r.pos+2,x:={ r.x with k:=(k:Nat) } } ((3,qau) :: rest):=h4;obtain⟨h5,h6⟩:=h4.must (s:=s);have hf:r.f.1=0:=by rw [h.1]
 have hn:qdP [48+k]=true:=by simp [qdP,qd6];omega
 have hd:qd6 [48+k]=k:=by simp [qd6]
 refine⟨?_,h6⟩;unfold qeB;simp only [h1,h3,hf,ne_eq,not_true_eq_false,and_false,if_false,if_true,hn,hd];exact h5
theorem qmJ {r:RS}:∀ (l:List Lx),(∀ x ∈ l,x.k=1->qmC r.x x.t=0)->qcK l r=r
 |[],_=>rfl
 |x :: l,h=>by
  unfold qcK qaB;rw [if_neg (by rintro⟨h1,h2⟩;exact h2 (h x List.mem_cons_self h1))];exact qmJ l (fun y hy=>h y (List.mem_cons_of_mem _ hy))
theorem qlQ:∀ (b:Bool) (al:List (List (List Nat))) (t:List Nat),(1,t) ∈ qf4 b al->∃ a ∈ al,t ∈ a
 |_,[],t,h=>by cases h
 |b,a :: al,t,h=>by
  simp only [qf4,List.mem_append,List.mem_map] at h;rcases h with(h|⟨u,h1,h2⟩)|h
  .cases b with
   |true=>cases h
   |false=>simp at h
  .simp only [Prod.mk.injEq,true_and] at h2
   exact⟨a,List.mem_cons_self,h2 ▸ h1⟩
  .obtain⟨c,h1,h2⟩:=qlQ false al t h
   exact⟨c,List.mem_cons_of_mem _ h1,h2⟩
theorem qj6:∀ l:List (List Nat),l.length<=(qfS l).length
 |[]=>Nat.le_refl _
 |u :: l=>by
  have:=qj6 l
  show l.length+1<=((3,qdF) :: (1,u) :: qfS l).length
  simp only [List.length_cons];omega
theorem qlG {x:Src} (h:SoundX x) (hls:ls.map kt=qn9 x):qpG (qjB s ls)=(x,(0,0)):=by
 obtain⟨t,l,hl⟩:∃ t l,x.tokens=t :: l:=by cases e:x.tokens with|nil=>exact absurd e h.tok0|cons t l=>exact⟨t,l,rfl⟩
 have hk:=h.k;have a0:AT ls ⟨0,(0,0),0,qdj⟩ ((1,qcz) :: (2,[48+x.k.toNat]) :: (3,qau) :: (1,qaZ) :: (1,t) :: (qfS l++(3,qau) :: (1,qf2) :: (1,x.sep) :: (3,qau) :: (1,qbk) :: (1,x.start) :: (3,qau) :: x.rules.flatMap qeO)):=by
  refine⟨rfl,?_⟩
  show(ls.drop 0).map kt=_
  rw [List.drop_zero,hls];unfold qn9;rw [hl]
  simp
 obtain⟨e1,a1⟩:=a0.look (s:=s) (by omega);have a1:=a1.x { qdj with k:=(x.k.toNat:Nat) };obtain⟨e2,a2⟩:=a1.must (s:=s);have hlen:=a2.len';have hcl:=qj6 l;simp only [List.length_cons,List.length_append] at hlen;have hnd:=(List.nodup_append.1 h.nodT).1;rw [hl] at hnd;obtain⟨p,e3,a3⟩:=AT.tokens (s:=s) l (ls.length+1) _ t _ a2 (by omega) (by rw [<- hl];exact h.tokS) (by simpa [qdj] using hnd) (by simp only [qdj,List.length_nil];rw [<- hl];have:=h.tok8;omega);have a3:=a3.x { qdj with k:=(x.k.toNat:Nat),tokens:=x.tokens };obtain⟨e4,a4⟩:=a3.must (s:=s);obtain⟨e5,a5⟩:=a4.must (s:=s);obtain⟨b6,e6⟩:=a5.peek (s:=s);obtain⟨e7,a7⟩:=a5.name (s:=s) (cap:=false) h.sepS;have a7:=a7.x { qdj with k:=(x.k.toNat:Nat),tokens:=x.tokens,sep:=x.sep };obtain⟨e8,a8⟩:=a7.must (s:=s);obtain⟨e9,a9⟩:=a8.must (s:=s);obtain⟨b10,e10⟩:=a9.peek (s:=s);obtain⟨e11,a11⟩:=a9.name (s:=s) (cap:=true) h.startC;have a11:=a11.x { qdj with k:=(x.k.toNat:Nat),tokens:=x.tokens,sep:=x.sep,start:=x.start };obtain⟨e12,a12⟩:=a11.must (s:=s);have hsepT:x.sep ∉ x.tokens:=fun hm=>(List.nodup_append.1 h.nodT).2.2 _ hm x.sep (by simp) rfl;have eH:qgd s ls ⟨0,(0,0),0,qdj⟩=(⟨1,x.start,b10⟩,{ pos:=p+1+1+1+1+1+1+1,f:=(0,0),alts:=0,x:={ qdj with k:=(x.k.toNat:Nat),tokens:=x.tokens,sep:=x.sep,start:=x.start } }):=by
  unfold qgd;rw [e1];simp only at e2 e3 e4 e5 e6 e7 e8 e9 e10 e11 e12 |-;rw [e2,e3];simp only [qdj,List.nil_append,<- hl] at e2 e3 e4 e5 e6 e7 e8 e9 e10 e11 e12 |-;rw [e4];unfold qso;rw [e5];simp only [e6,e7,qgj,qiZ hsepT,Bool.false_eq_true,if_false];rw [e8];unfold qdU;rw [e9];simp only [e10,e11];rw [e12]
 obtain⟨q,aa,e13⟩:=AT.rules (s:=s) x.rules (ls.length+2) true _ a12 (fun _=>h.rul0) (by
   have:=a12.len';have hr:x.rules.length<=(x.rules.flatMap qeO).length:=by
    generalize x.rules=rl
    induction rl with
    |nil=>simp
    |cons u l ih=>rw [List.flatMap_cons];simp only [qeO,List.length_append,List.length_cons];omega
   omega) (fun u hu=>⟨h.rulC u hu,h.alt0 u hu,fun b hb=>⟨h.alt6 u hu b hb,h.altM u hu b hb⟩⟩) (by simpa [qab,qdj] using h.nodR) (by simp only [qdj,List.length_nil];have:=h.rul8;omega) (by simp only;have:=h.sum;omega)
 have hx:(⟨(x.k.toNat:Nat),x.tokens,x.sep,x.start,x.rules⟩:Src)=x:=by
  obtain⟨k,tk,sp,st,rl⟩:=x;simp only at hk |-;rw [Int.toNat_of_nonneg (by omega)]
 unfold qjB;rw [eH];simp only [qdj,List.nil_append] at e13 |-;rw [hx] at e13;rw [e13];simp only [if_true];have hstart:qc8 (qab x) x.start=true:=qcY.2 h.start;unfold qhJ;simp only [hstart,Bool.true_eq_false,if_false];rw [qmJ]
 .rfl
 .intro y hy hy1
  have hm:kt y ∈ x.rules.flatMap qeO:=by
   have:=a12.2;simp only at this;rw [<- this];exact List.mem_map_of_mem hy
  obtain⟨r,hr,hm⟩:=List.mem_flatMap.1 hm;have hm:(1,y.t) ∈ qeO r:=by
   have e:kt y=(1,y.t):=by rw [<- hy1]
   rw [<- e];exact hm
  simp only [qeO,List.mem_cons,List.mem_append,List.not_mem_nil,or_false,Prod.mk.injEq,true_and] at hm;unfold qmC;rcases hm with hm|hm|hm|hm
  .have h1:¬ y.t=x.sep:=fun e=>qpW h.sepS (by rw [<- e,hm];exact h.rulC r hr)
   have h2:qc8 (qab x) y.t=true:=qcY.2 (by rw [hm];exact List.mem_map_of_mem hr);rw [if_neg h1,h2];rfl
  .exact absurd hm.1 (by decide)
  .obtain⟨a,ha,hta⟩:=qlQ _ _ _ hm
   have h1:¬ y.t=x.sep:=fun e=>h.noSep r hr a ha (e ▸ hta);rw [if_neg h1];rcases h.known r hr a ha _ hta with h2|h2
   .rw [qcY.2 h2];rfl
   .rw [if_neg (by rintro⟨_,h3⟩;rw [qcY.2 h2] at h3;cases h3)]
  .exact absurd hm.1 (by decide)
theorem qqV {x:Src} (h:qa0 x=0) (hl:(qaQ x).length<=2000):∃ ls:List Lx,qbm (qaQ x)=(ls.map qdJ,0,0)/\∀ s,qpG (qjB s ls)=(x,(0,0)):=by
 have hs:=qt9 h;obtain⟨ls,h1,h2⟩:=qpp (qto hs) (qaQ x) ((qaQ x).length+1) 0 [] rfl (Nat.zero_le _) (Nat.le_refl _);refine⟨ls,?_,fun s=>qlG hs h2⟩;unfold qbm;rw [if_neg (by omega),h1]
 simp
end
theorem qkQ {x:Src} (h:SoundX x):qa0 x=0:=by
 unfold qa0;rw [if_neg (by have:=h.k;omega)];have h2:qcw x=false:=by
  simp only [qcw,Bool.or_eq_false_iff,List.any_eq_false,Bool.not_eq_true];refine⟨⟨fun r hr=>?_,?_⟩,?_⟩
  .have:=h.alt0 r hr
   cases e:r.alts with|nil=>exact absurd e this|cons a l=>rfl
  .cases e:x.tokens with|nil=>exact absurd e h.tok0|cons a l=>rfl
  .cases e:x.rules with|nil=>exact absurd e h.rul0|cons a l=>rfl
 have h3:qcN x=false:=by
  simp only [qcN,Bool.or_eq_false_iff,List.any_eq_false,decide_eq_false_iff_not,qeo,decide_eq_true_eq,List.any_eq_true,not_exists,not_and];refine⟨⟨⟨fun r hr a ha=>by have:=h.alt6 r hr a ha;omega,by have:=h.tok8;omega⟩,by have:=h.rul8;omega⟩,?_⟩;unfold qcc;rw [List.take_length];have:=h.sum;omega
 have h4:qjH x=false:=by
  simp only [qjH,Bool.or_eq_false_iff,List.any_eq_false,qsk,qe6];refine⟨⟨⟨fun t ht=>by simp [h.tokS t ht],fun r hr=>?_⟩,by simp [h.sepS]⟩,by simp [h.startC]⟩;simp only [h.rulC r hr,Bool.not_true,Bool.false_or,List.any_eq_true,not_exists,not_and];intro a ha t ht;have:=h.altM r hr a ha t ht;unfold qfh at this;cases h1:qap t<;>cases h2:qae t<;>simp_all [qe6]
 have h5:qsn x=false:=by
  simp only [qsn,Bool.or_eq_false_iff,qbP];exact⟨decide_eq_false (not_not_intro h.nodT),decide_eq_false (not_not_intro h.nodR)⟩
 have h6:qfZ x x.sep=false:=by
  simp only [qfZ,qpz,List.any_eq_false,List.any_eq_true,not_exists,not_and];intro r hr a ha e;exact h.noSep r hr a ha (qcY.1 e)
 have h7:qmd x=false:=by
  simp only [qmd,qu0,quu,Bool.or_eq_false_iff,List.any_eq_false,List.any_eq_true,not_exists,not_and,Bool.not_eq_false'];refine⟨fun r hr a ha t ht e=>?_,qcY.2 h.start⟩;simp only [Bool.and_eq_true,Bool.not_eq_true'] at e;rcases h.known r hr a ha t ht with h1|h1
  .rw [qcY.2 h1] at e;cases e.1
  .rw [qcY.2 h1] at e;cases e.2
 rw [h2,h3,h4,h5,h6,h7];rfl
section
variable {s:List Nat}
structure H1 (p:PS):Prop where
 know:∀ t,qdD p.names t=(qc8 p.x.tokens t,false,false)
 small:∀ t ∈ p.x.tokens,qap t=true
 nod:p.x.tokens.Nodup
 rules:p.x.rules=[]
 uses:p.uses=[]
 total:p.total=0
theorem H1.cut {p q:PS} (h:H1 p) (e:q={ p with l:=q.l }):H1 q/\q.x=p.x:=by
 rw [e];exact⟨⟨h.know,h.small,h.nod,h.rules,h.uses,h.total⟩,rfl⟩
structure H2 (p:PS):Prop where
 know:∀ t,qdD p.names t=(qc8 p.x.tokens t,decide (t=p.x.sep),qc8 (qab p.x) t)
 k:1<=p.x.k/\p.x.k<=4
 tok0:p.x.tokens≠[]
 tokS:∀ t ∈ p.x.tokens,qap t=true
 sepS:qap p.x.sep=true
 nodT:(p.x.tokens++[p.x.sep]).Nodup
 nodR:(qab p.x).Nodup
 rulC:∀ r ∈ p.x.rules,qae r.name=true
 alt0:∀ r ∈ p.x.rules,r.alts≠[]
 alt6:∀ r ∈ p.x.rules,∀ a ∈ r.alts,a.length<=6
 altM:∀ r ∈ p.x.rules,∀ a ∈ r.alts,∀ t ∈ a,qfh t=true
 uses:∀ r ∈ p.x.rules,∀ a ∈ r.alts,∀ t ∈ a,t ∈ p.uses.tail.map (·.1)
 total:p.total=(p.x.rules.map (·.alts.length)).sum
theorem H2.cut {p q:PS} (h:H2 p) (e:q={ p with l:=q.l }):H2 q:=by
 rw [e];exact⟨h.know,h.k,h.tok0,h.tokS,h.sepS,h.nodT,h.nodR,h.rulC,h.alt0,h.alt6,h.altM,h.uses,h.total⟩
end
theorem qrE {g:qaH} (h:qaM g=0):qb6 g=0/\(qaz g).Nodup/\g.names.Nodup:=by
 obtain⟨_,_,_,hn,_⟩:=qbh h;have hn0:qb6 g=0:=by
  unfold qct at hn;split at hn
  .omega
  .exact hn
 unfold qct at hn;rw [hn0] at hn;refine⟨hn0,?_⟩;by_cases h1:(qaz g).Nodup<;>by_cases h2:g.names.Nodup<;>simp_all
theorem qtX {g:qaH} (h:qaM g=0) {s:Int} (hg:qfq g s=true):nameS g s ∈ g.names\/nameS g s ∈ g.tokens:=by
 obtain⟨ht,_⟩:=qis (qbh h).1;obtain⟨x,hx⟩:=qeX ht hg;rw [qh7 hx];unfold qcq at hx;split at hx
 .exact .inl (List.mem_of_getElem? hx)
 .split at hx
  .exact .inr (List.mem_of_getElem? hx)
  .cases hx
theorem qoe {g:qaH} (h:qaM g=0) {r:SRule} (hr:r ∈ (qcH g).rules) {a:List (List Nat)} (ha:a ∈ r.alts):∃ q ∈ g.prods,a=q.right.map (nameS g):=by
 unfold qcH at hr;obtain⟨i,hi,rfl⟩:=List.mem_map.1 hr;obtain⟨p,hp,rfl⟩:=List.mem_map.1 (show a ∈ qjC g i from ha);obtain⟨q,hq,_⟩:=qi7 hp;refine⟨q,List.mem_of_getElem? hq,?_⟩;rw [show g.prods.getD p ⟨0,[]⟩=q by rw [List.getD_eq_getElem?_getD,hq];rfl]
theorem qog {g:qaH} (h:qaM g=0):((qcH g).rules.map (·.alts.length)).sum=g.prods.length:=by
 have hp:=qkR h g.names.length (Nat.le_refl _);rw [qj3 h,List.take_length] at hp;have hl:(qcH g).rules.length=g.names.length:=by simp [qcH]
 have:=qnl (x:=qcH g) (i:=(qcH g).rules.length) (Nat.le_refl _);rw [hl,hp] at this;rw [this];unfold qcc;rw [<- hl,List.take_length]
theorem qfH {g:qaH} (h:qaM g=0):SoundX (qcH g):=by
 obtain⟨hm,p2,p3,_,hs⟩:=qbh h;obtain⟨m1,m2,m3,m4⟩:=qis hm;obtain⟨n0,n1,n2⟩:=qrE h;obtain⟨s1,s2⟩:=qfx n0;obtain⟨hso,_,hmiss⟩:=qb3 hs;have o:=qdS h;have hrl:(qcH g).rules.length=g.names.length:=by simp [qcH]
 have hst:qfq g g.start=true:=by unfold qfq;rw [hso.1,Bool.or_true]
 have hsn:nameS g g.start ∈ g.names:=by
  obtain⟨x,hx⟩:=qeX m1 hst;rw [qh7 hx];have:=hso.1;simp only [qaK,Bool.and_eq_true,decide_eq_true_eq] at this;unfold qcq at hx;rw [if_pos this.1] at hx;exact List.mem_of_getElem? hx
 have hname:∀ r ∈ (qcH g).rules,r.name ∈ g.names:=fun r hr=>by
  have:r.name ∈ qab (qcH g):=List.mem_map.2 ⟨r,hr,rfl⟩
  rwa [qb5] at this
 have hal:∀ r ∈ (qcH g).rules,∀ a ∈ r.alts,∀ s ∈ a,s ∈ g.names\/s ∈ g.tokens:=fun r hr a ha s hs=>by
  obtain⟨q,hq,rfl⟩:=qoe h hr ha;obtain⟨y,hy,rfl⟩:=List.mem_map.1 hs;exact qtX h (qkc h hq hy)
 have hsep:∀ s,s ∈ g.names\/s ∈ g.tokens->¬ s=g.sep:=fun s hs e=>by
  subst e;rcases hs with hs|hs
  .have h1:=s1 g.sep (by simp [qaz])
   have h2:=s2 g.sep hs;simp only [qap,qae,Bool.and_eq_true,decide_eq_true_eq] at h1 h2;omega
  .have:=n1
   unfold qaz at this;exact(List.nodup_append.1 this).2.2 _ hs _ (List.mem_singleton.2 rfl) rfl
 refine⟨o.k,p2,fun e=>?_,fun r hr=>?_,fun r hr a ha=>?_,m1,by rw [hrl];exact m2,by rw [qog h];exact m3,fun s hs=>s1 s (by simp [qaz,show s ∈ g.tokens from hs]),s1 g.sep (by simp [qaz]),s2 _ hsn,fun r hr=>s2 _ (hname r hr),fun r hr a ha s hs=>?_,n1,by rw [qb5];exact n2,fun r hr a ha hm=>hsep _ (hal r hr a ha _ hm) rfl,fun r hr a ha s hs=>by rw [qb5];exact hal r hr a ha s hs,by rw [qb5];exact hsn⟩
 .rw [e] at hrl
  exact p3 (List.length_eq_zero_iff.1 hrl.symm)
 .unfold qcH at hr
  obtain⟨i,hi,rfl⟩:=List.mem_map.1 hr;intro e;have:qdG g (16+i)=[]:=List.map_eq_nil_iff.1 (show qjC g i=[] from e);exact hmiss ⟨i,List.mem_range.1 hi,this⟩
 .obtain⟨q,hq,rfl⟩:=qoe h hr ha
  rw [List.length_map];exact m4 q hq
 .unfold qfh
  rcases hal r hr a ha s hs with h|h
  .rw [s2 s h,Bool.or_true]
  .rw [s1 s (by simp [qaz,h])];rfl
section
set_option maxRecDepth 10000
end
abbrev qt3 (g:qaH):AV:=.d (.ep [.int .i64 g.k,qao g.tokens,.str g.sep,qao g.names,.int .i64 g.start,.sl 2 (g.prods.map qbf)])
set_option maxHeartbeats 4000000 in
theorem qsZ (a b:qaH) (ha:Fits a) (hb:Fits b) (hne:a≠b):qaa Tryz.prog 25 [qd5 a,qd5 b] (.d (.bool false)):=by
 have hfp:=ha.prods;have hfq:=hb.prods;have c1:=qgr a.tokens b.tokens (by have:=ha.tokens;omega);have c2:=qgr a.names b.names (by have:=ha.names;omega);by_cases h0:a.k=b.k/\a.tokens=b.tokens/\a.sep=b.sep/\a.names=b.names/\a.start=b.start/\a.prods.length=b.prods.length
 .obtain⟨h1,h2,h3,h4,h5,h6⟩:=h0
  rw [decide_eq_true h2] at c1;rw [decide_eq_true h4] at c2;refine kF Tryz.func25 [2,3] fun w=>?_
  repeat' (first|refine zW ?_|refine zB ?_ ?_<;>intro h<;>try exact zk h|refine zX ?_|refine zC (c1) ?_|refine zC (c2) ?_|((exfalso;first|(simp_all<;>fail)|(simp_all;omega)))|fail)
  refine Run.loopT (fun i:Nat=>⟨PT.ofList [(2,qt3 a),(3,qt3 b),(5,.d (.int .i64 i))],[],[]⟩) (fun i=>i<=a.prods.length/\a.prods.take i=b.prods.take i) (fun i=>a.prods.length-i) 0 ⟨Nat.zero_le _,rfl⟩ (ti _ 0) (fun i hi=>?_);obtain⟨hi1,hi2⟩:=hi;have ai:AV.d (.int .i64 (IntKind.i64.wrap ((i:Int)+1)))=.d (.int .i64 ((i+1:Nat):Int)):=vN8 (by omega) (by omega);rcases Nat.lt_or_ge i a.prods.length with hlt|hge
  .obtain⟨p,hp⟩:=qai hlt
   obtain⟨q,hq⟩:=qai (show i<b.prods.length by omega);have hpr:=ha.rights p (List.mem_of_getElem? hp);have c3:=qoO p.right q.right (by omega);by_cases hpq:p.left=q.left
   .by_cases hr:p.right=q.right
    .rw [decide_eq_true hr] at c3
     have hpe:p=q:=by cases p;cases q;simp only at hpq hr;rw [hpq,hr]
     have ht:a.prods.take (i+1)=b.prods.take (i+1):=by rw [List.take_add_one,List.take_add_one,hi2,hp,hq,hpe]
     repeat' (first|refine zV ai ?_|refine zW ?_|refine zB ?_ ?_<;>intro h<;>try exact zk h|refine zX ?_|refine zIP w (.d (.ep [.int .i64 p.left,qcV p.right])) hp ?_|refine zIP w (.d (.ep [.int .i64 q.left,qcV q.right])) hq ?_|refine zC (c3) ?_|(exact⟨i+1,⟨hlt,ht⟩,by omega,(ti _ 0)⟩)|((exfalso;first|(simp [hpq] at h<;>fail)|(simp at h;omega)))|fail)
    .rw [decide_eq_false hr] at c3
     repeat' (first|refine zW ?_|refine zB ?_ ?_<;>intro h<;>try exact zk h|refine zX ?_|refine zIP w (.d (.ep [.int .i64 p.left,qcV p.right])) hp ?_|refine zIP w (.d (.ep [.int .i64 q.left,qcV q.right])) hq ?_|refine zC (c3) ?_|rfl|((exfalso;first|(simp [hpq] at h<;>fail)|(simp at h;omega)))|fail)
   .repeat' (first|refine zW ?_|refine zB ?_ ?_<;>intro h<;>try exact zk h|refine zX ?_|refine zIP w (.d (.ep [.int .i64 p.left,qcV p.right])) hp ?_|refine zIP w (.d (.ep [.int .i64 q.left,qcV q.right])) hq ?_|refine zC (c3) ?_|rfl|((exfalso;first|(simp [hpq] at h<;>fail)|(simp at h;omega)))|fail)
  .exfalso
   have hie:i=a.prods.length:=by omega
   have hpp:a.prods=b.prods:=by rw [hie,List.take_length,h6,List.take_length] at hi2;exact hi2
   exact hne (by cases a;cases b;simp only at h1 h2 h3 h4 h5 hpp;rw [h1,h2,h3,h4,h5,hpp])
 .refine kF Tryz.func25 [2,3] fun w=>?_
  repeat' (first|refine zW ?_|refine zB ?_ ?_<;>intro h<;>try exact zk h|refine zX ?_|refine zK (c1) ?_ ?_<;>intro h<;>try exact zk h|refine zC (c1) ?_|refine zK (c2) ?_ ?_<;>intro h<;>try exact zk h|refine zC (c2) ?_|rfl|((exfalso;refine h0 ?_;clear h0 c1 c2 ha hb hne;simp only [bne_eq_false_iff_eq,decide_eq_true_eq,Bool.not_eq_false',beq_iff_eq,List.length_map] at *;exact⟨by assumption,by assumption,by assumption,by assumption,by assumption,by omega⟩))|fail)
def rulesT:List (Nat × Nat × List Nat):=[(1,1,[83,32,61,32,97,32,83,32,124,32,59]),(1,2,[83,32,61,32,97,32,84,32,124,32,59,32,84,32,61,32,98,32,83,32,59]),(2,2,[83,32,61,32,97,32,84,32,124,32,59,32,84,32,61,32,98,32,83,32,59]),(2,2,[83,32,61,32,97,32,124,32,97,32,98,32,59]),(1,3,[83,32,61,32,97,32,83,32,98,32,124,32,99,32,59]),(1,3,[83,32,61,32,84,32,85,32,59,32,84,32,61,32,97,32,84,32,124,32,59,32,85,32,61,32,98,32,85,32,124,32,99,32,59]),(2,3,[83,32,61,32,97,32,97,32,83,32,124,32,97,32,98,32,124,32,99,32,59]),(1,3,[83,32,61,32,97,32,84,32,99,32,59,32,84,32,61,32,98,32,84,32,124,32,85,32,59,32,85,32,61,32,59]),(2,3,[83,32,61,32,84,32,99,32,124,32,98,32,83,32,59,32,84,32,61,32,98,32,97,32,124,32,59]),(1,2,[83,32,61,32,97,32,83,32,83,32,124,32,98,32,59]),(3,2,[83,32,61,32,97,32,97,32,97,32,124,32,97,32,97,32,98,32,83,32,124,32,98,32,59]),(1,4,[83,32,61,32,97,32,76,32,98,32,59,32,76,32,61,32,69,32,77,32,59,32,77,32,61,32,99,32,69,32,77,32,124,32,59,32,69,32,61,32,100,32,124,32,83,32,59]),(2,2,[83,32,61,32,84,32,84,32,59,32,84,32,61,32,97,32,98,32,124,32,98,32,97,32,59]),(1,1,[83,32,61,32,97,32,59]),(2,3,[83,32,61,32,97,32,84,32,124,32,97,32,98,32,99,32,59,32,84,32,61,32,97,32,124,32,99,32,83,32,59]),(1,2,[83,32,61,32,84,32,85,32,84,32,59,32,84,32,61,32,59,32,85,32,61,32,97,32,85,32,98,32,124,32,59])]
def qbx (i:Nat):Nat × Nat × List Nat:=rulesT.getD i (0,0,[])
def qjI:Nat->List Nat
 |0=>[]
 |1=>[]
 |j+2=>qjI (j+1)++[44,32]++[97+(j+1)]
def qhR (k t:Nat) (s:List Nat):List Nat:=[108,111,111,107,97,104,101,97,100,32]++[48+k]++[59,32,116,111,107,101,110,32,97]++qjI t++[59,32,115,101,112,97,114,97,116,111,114,32,122,59,32,115,116,97,114,116,32,83,59,32]++s
def kTx (m k:Nat):Nat:=if m % 3=2/\k<2 then k+1 else k
def tTx (m t:Nat):Nat:=if m / 3 % 4=3/\t<4 then t+1 else t
def rulesX:List (List SRule):=[[⟨[83],[[[97],[83]],[]]⟩],[⟨[83],[[[97],[84]],[]]⟩,⟨[84],[[[98],[83]]]⟩],[⟨[83],[[[97],[84]],[]]⟩,⟨[84],[[[98],[83]]]⟩],[⟨[83],[[[97]],[[97],[98]]]⟩],[⟨[83],[[[97],[83],[98]],[[99]]]⟩],[⟨[83],[[[84],[85]]]⟩,⟨[84],[[[97],[84]],[]]⟩,⟨[85],[[[98],[85]],[[99]]]⟩],[⟨[83],[[[97],[97],[83]],[[97],[98]],[[99]]]⟩],[⟨[83],[[[97],[84],[99]]]⟩,⟨[84],[[[98],[84]],[[85]]]⟩,⟨[85],[[]]⟩],[⟨[83],[[[84],[99]],[[98],[83]]]⟩,⟨[84],[[[98],[97]],[]]⟩],[⟨[83],[[[97],[83],[83]],[[98]]]⟩],[⟨[83],[[[97],[97],[97]],[[97],[97],[98],[83]],[[98]]]⟩],[⟨[83],[[[97],[76],[98]]]⟩,⟨[76],[[[69],[77]]]⟩,⟨[77],[[[99],[69],[77]],[]]⟩,⟨[69],[[[100]],[[83]]]⟩],[⟨[83],[[[84],[84]]]⟩,⟨[84],[[[97],[98]],[[98],[97]]]⟩],[⟨[83],[[[97]]]⟩],[⟨[83],[[[97],[84]],[[97],[98],[99]]]⟩,⟨[84],[[[97]],[[99],[83]]]⟩],[⟨[83],[[[84],[85],[84]]]⟩,⟨[84],[[]]⟩,⟨[85],[[[97],[85],[98]],[]]⟩]]
def qy8 (t:Nat):List (List Nat):=(List.range t).map fun j=>[97+j]
def qmx (k t i:Nat):Src:=⟨(k:Nat),qy8 t,[122],[83],rulesX.getD i []⟩
set_option maxRecDepth 100000
def qtf:List Nat->Bool
 |[]=>false
 |c :: l=>qaP c && l.all (fun d=>qa9 d) && decide ((c :: l).length<=12) && !qc3 (c :: l)
theorem qot {t:List Nat} (h:qtf t=true):qcS t=0:=by
 cases t with
 |nil=>cases h
 |cons c l =>
  simp only [qtf,Bool.and_eq_true,List.all_eq_true,decide_eq_true_eq,Bool.not_eq_true'] at h;obtain⟨⟨⟨h1,h2⟩,h3⟩,h4⟩:=h;have hw:qea (c :: l)=0:=by
   unfold qea;rw [if_neg (by simp),if_neg,if_neg (by omega)]
   rintro⟨i,d,h5,h6,h7⟩
   cases i with
   |zero =>
    simp at h5;rw [<- h5,show qa4 (c:Nat)=true from h1] at h6;cases h6
   |succ i =>
    have h5:l[i]?=some d:=by simpa using h5
    have h8:=h2 d (List.mem_of_getElem? h5);rcases h7 with h7|⟨h7,h9⟩
    .cases h7
    .simp only [qa9,Bool.or_eq_true,beq_iff_eq] at h8
     rcases h8 with(h8|h8)|h8
     .rw [show qa4 (d:Nat)=true from h8] at h6;cases h6
     .rw [show qdZ (d:Nat)=true from h8] at h7;cases h7
     .exact h9 h8
  unfold qcS;rw [if_neg (by rintro⟨_,h5⟩;rw [h4] at h5;cases h5),hw]
def qjY (t:List Nat):Bool:=qtf t && decide (97<=t.getD 0 0)
def qwk (t:List Nat):Bool:=qtf t && decide (t.getD 0 0<97)
theorem qgq {t:List Nat} (h:qjY t=true):qap t=true:=by
 simp only [qjY,Bool.and_eq_true] at h;simp only [qap,Bool.and_eq_true];exact⟨decide_eq_true (qot h.1),h.2⟩
theorem qkU {t:List Nat} (h:qwk t=true):qae t=true:=by
 simp only [qwk,Bool.and_eq_true] at h;simp only [qae,Bool.and_eq_true];exact⟨decide_eq_true (qot h.1),h.2⟩
def qqh (x:Src):Bool :=
 decide (1<=x.k/\x.k<=4) && (!x.tokens.isEmpty && (!x.rules.isEmpty && (x.rules.all (fun r=>!r.alts.isEmpty && (qwk r.name && r.alts.all (fun a=>decide (a.length<=6) && a.all (fun s=>(qjY s || qwk s) && (decide (¬ s=x.sep) && decide (s ∈ qab x\/s ∈ x.tokens)))))) &&
 (decide (x.tokens.length<=8) && (decide (x.rules.length<=8) && (decide ((x.rules.map (·.alts.length)).sum<=24) && (x.tokens.all qjY && (qjY x.sep && (qwk x.start && (decide ((x.tokens++[x.sep]).Nodup) && (decide ((qab x).Nodup) && decide (x.start ∈ qab x))))))))))))
theorem qqP {x:Src} (h:qqh x=true):SoundX x:=by
 simp only [qqh,Bool.and_eq_true,decide_eq_true_eq,List.all_eq_true,Bool.not_eq_true',List.isEmpty_eq_false_iff,Bool.or_eq_true] at h;obtain⟨h1,h2,h3,h4,h5,h6,h7,h8,h9,h10,h11,h12,h13⟩:=h;exact⟨h1,h2,h3,fun r hr=>(h4 r hr).1,fun r hr a ha=>((h4 r hr).2.2 a ha).1,h5,h6,h7,fun s hs=>qgq (h8 s hs),qgq h9,qkU h10,fun r hr=>qkU (h4 r hr).2.1,
  fun r hr a ha s hs=>by
   unfold qfh
   rcases(((h4 r hr).2.2 a ha).2 s hs).1 with h|h
   .rw [qgq h];rfl
   .rw [qkU h];simp,h11,h12,fun r hr a ha hm=>(((h4 r hr).2.2 a ha).2 _ hm).2.1 rfl,fun r hr a ha s hs=>(((h4 r hr).2.2 a ha).2 s hs).2.2,h13⟩
def qx8 (s:List Nat):Nat->Nat->List Lx->Option (List Lx)
 |0,_,_=>none
 |n+1,a,acc=>if qaC s a=s.length then some acc else if(qah (s.drop (qaC s a))).1=0 then none
  else qx8 s n (qaC s a+(qah (s.drop (qaC s a))).2.length) (acc++[⟨(qah (s.drop (qaC s a))).1,(qah (s.drop (qaC s a))).2,qaC s a⟩])
theorem qt5 (s:List Nat):∀ (n a:Nat) (acc ls:List Lx),qx8 s n a acc=some ls->qc1 s n a (acc.map qdJ)=(ls.map qdJ,0,0)
 |0,a,acc,ls,h=>by cases h
 |n+1,a,acc,ls,h=>by
  unfold qx8 at h;unfold qc1;by_cases hp:qaC s a=s.length
  .rw [if_pos hp] at h |-
   cases h;rfl
  .rw [if_neg hp] at h |-
   by_cases hk:(qah (s.drop (qaC s a))).1=0
   .rw [if_pos hk] at h;cases h
   .rw [if_neg hk] at h |-
    have:=qt5 s n _ _ ls h;rw [List.map_append] at this;exact this
def qjL (t:List Nat) (x:Src):Bool:=decide (t.length<=2000) && (match qx8 t (t.length+1) 0 [] with
 |some ls=>decide (ls.map kt=qn9 x)
 |none=>false)
theorem qsw {t:List Nat} {x:Src} (hs:SoundX x) (h:qjL t x=true):∃ ls:List Lx,qbm t=(ls.map qdJ,0,0)/\∀ s,qpG (qjB s ls)=(x,(0,0)):=by
 simp only [qjL,Bool.and_eq_true,decide_eq_true_eq] at h;obtain⟨h1,h2⟩:=h;cases hl:qx8 t (t.length+1) 0 [] with
 |none=>rw [hl] at h2;cases h2
 |some ls =>
  rw [hl] at h2;simp only [decide_eq_true_eq] at h2;refine⟨ls,?_,fun s=>qlG hs h2⟩;unfold qbm;rw [if_neg (by omega)];exact qt5 t _ 0 [] ls hl
def allTx:List (Nat × Nat × Nat):=(List.range 16).flatMap fun i=>((List.range 6).flatMap fun k=>(List.range 6).map fun t=>(k,t,i)).filter fun p=>decide ((p.1=(qbx i).1\/p.1=(qbx i).1+1/\(qbx i).1<2)/\(p.2.1=(qbx i).2.1\/p.2.1=(qbx i).2.1+1/\(qbx i).2.1<4))
theorem qsf:(allTx.all fun p=>qqh (qmx p.1 p.2.1 p.2.2))=true:=by kernel_rfl
theorem qtA:(allTx.all fun p=>qjL (qhR p.1 p.2.1 (qbx p.2.2).2.2) (qmx p.1 p.2.1 p.2.2) && (decide ((qaQ (qmx p.1 p.2.1 p.2.2)).length<=2000) && (qhR p.1 p.2.1 (qbx p.2.2).2.2).all (fun c=>decide (c<256))))=true:=by kernel_rfl
theorem qrX:((List.range 16).all fun i=>decide ((qbx i).1<=4/\(qbx i).2.1<=4/\1<=(qbx i).2.1/\(qbx i).2.2.length<=1000))=true:=by kernel_rfl
theorem qxx {i k t:Nat} (hi:i<16) (hk:k=(qbx i).1\/k=(qbx i).1+1/\(qbx i).1<2) (ht:t=(qbx i).2.1\/t=(qbx i).2.1+1/\(qbx i).2.1<4):(k,t,i) ∈ allTx:=by
 have hb:=List.all_eq_true.1 qrX i (List.mem_range.2 hi);simp only [decide_eq_true_eq] at hb;unfold allTx;refine List.mem_flatMap.2 ⟨i,List.mem_range.2 hi,List.mem_filter.2 ⟨List.mem_flatMap.2 ⟨k,List.mem_range.2 (by omega),List.mem_map.2 ⟨t,List.mem_range.2 (by omega),rfl⟩⟩,?_⟩⟩;simp only [decide_eq_true_eq];exact⟨hk,ht⟩
theorem qxX {p:Nat × Nat × Nat} (hm:p ∈ allTx) :
  SoundX (qmx p.1 p.2.1 p.2.2)/\qjL (qhR p.1 p.2.1 (qbx p.2.2).2.2) (qmx p.1 p.2.1 p.2.2)=true/\(qaQ (qmx p.1 p.2.1 p.2.2)).length<=2000/\∀ c ∈ qhR p.1 p.2.1 (qbx p.2.2).2.2,c<256:=by
 have h1:=List.all_eq_true.1 qsf _ hm;have h2:=List.all_eq_true.1 qtA _ hm;simp only [Bool.and_eq_true,decide_eq_true_eq,List.all_eq_true] at h2;exact⟨qqP h1,h2.1,h2.2.1,h2.2.2⟩
theorem qr6 {t:List Nat} {x:Src} (h:qjL t x=true):t.length<=2000:=by
 simp only [qjL,Bool.and_eq_true,decide_eq_true_eq] at h;exact h.1
def FineE {α:Type} (N:Nat) (Q:α->Prop):Except Fa α->Prop
 |.ok a=>Q a
 |.error e=>e.1≠0/\e.2<=N
theorem FineE.bind {α β:Type} {N:Nat} {Q:α->Prop} {R:β->Prop} {x:Except Fa α} {f:α->Except Fa β} (h:FineE N Q x) (hf:∀ a,Q a->FineE N R (f a)):FineE N R (x.bind f):=by
 cases x with
 |error e=>exact h
 |ok a=>exact hf a h
section
variable {s:List Nat} {N:Nat} (hN:s.length<=N)
include hN
end
set_option maxRecDepth 10000
set_option maxHeartbeats 4000000 in
theorem qy9 (s:List Nat) (p:PS) (hb:PB p):ACall Tryz.prog 103 [.bp 0 0] (pO s p) (qsi (qjA p)) (qvc s (qjA p)):=by
 have w:Fz []:=trivial;have hu:p.uses.length<=200000:=by have:=hb.uses;omega
 obtain⟨R,hR⟩:∃ R,R=qjA p:=⟨_,rfl⟩
 have hR':R=(qiB p.names true p.uses).bind fun _=>.ok p:=hR;rw [<- hR];refine qqQ (fnB Tryz.func103 []) rfl rfl ?_
 repeat' (first|refine zW ?_|refine zB ?_ ?_<;>intro h<;>try exact zk h|exact zk h|fail)
 refine Run.loopT (fun i:Nat=>⟨PT.ofList [(0,.bp 0 0),(8,.sr 4 2 (p.uses.map qp8)),(9,.d (.int .i64 (p.uses.map qp8).length)),(10,.d (.int .i64 (i:Nat)))],pO s p,[]⟩)
  (fun i=>i<=p.uses.length/\R=(qiB p.names (decide (i=0)) (p.uses.drop i)).bind fun _=>.ok p) (fun i=>p.uses.length-i) 0 ⟨Nat.zero_le _,hR'⟩ (ti _ 5) (fun i hi=>?_)
 obtain⟨h1,h2⟩:=hi;rcases Nat.lt_or_ge i p.uses.length with hlt|hge
 .obtain⟨u,hux⟩:=qai hlt
  have hd:p.uses.drop i=u :: p.uses.drop (i+1):=by
   obtain⟨g1,g2⟩:=List.getElem?_eq_some_iff.1 hux;rw [List.drop_eq_getElem_cons g1,g2]
  obtain⟨t,a0⟩:=u;rw [hd,qiB] at h2;obtain⟨kk,eK⟩:∃ kk,kk=qdD p.names t:=⟨_,rfl⟩
  have hch:qsl p.names (decide (i=0)) t=if kk.2.1=true then 14 else if kk.2.2=false/\(decide (i=0)=true\/kk.1=false) then 7 else 0:=by rw [eK];rfl
  simp only at h2;rw [hch] at h2;have hinc:AV.d (.int .i64 (IntKind.i64.wrap ((i:Int)+1)))=.d (.int .i64 ((i+1:Nat):Int)):=vN8 (by omega) (by omega);have hi0:AV.d (.bool (((i:Nat):Int) == 0))=.d (.bool (decide (i=0))):=by
   congr 2
   by_cases e:i=0
   .subst e;rfl
   .have:¬ ((i:Nat):Int)=0:=by omega
    simp [e]
  obtain⟨ba,bb,bc⟩:=kk;have fin:∀ s1:S,R=(qiB p.names false (p.uses.drop (i+1))).bind (fun _=>.ok p)->qbU 5 s1 ⟨PT.ofList [(0,.bp 0 0),(8,.sr 4 2 (p.uses.map qp8)),(9,.d (.int .i64 (p.uses.map qp8).length)),(10,.d (.int .i64 ((i+1:Nat):Int)))],pO s p,[]⟩ ->
    ∃ x:Nat,(x<=p.uses.length/\R=(qiB p.names (decide (x=0)) (p.uses.drop x)).bind fun _=>.ok p)/\p.uses.length-x<p.uses.length-i/\qbU 5 s1 ⟨PT.ofList [(0,.bp 0 0),(8,.sr 4 2 (p.uses.map qp8)),(9,.d (.int .i64 (p.uses.map qp8).length)),(10,.d (.int .i64 (x:Nat)))],pO s p,[]⟩:=fun s1 hr ht =>
   ⟨i+1,⟨hlt,by rw [hr];simp⟩,by omega,ht⟩
  cases bb with
  |true =>
   simp only [if_true] at h2;rw [if_pos (by simp)] at h2;simp only [Except.bind] at h2;subst h2;have cf:=qf1 s p 14 a0
   repeat' (first|refine zW ?_|refine zB ?_ ?_<;>intro h<;>try exact zk h|refine zI w (.d (.ep [.str t,.int .i64 (a0:Nat)])) hux ?_|refine eX ?_ (hv:=(qbr p.names t).trans (by rw [<- eK]))|refine oFP (cf) ?_|(exact⟨rfl,rfl,wkE⟩)|exact zk h|fail)
  |false =>
   simp only [Bool.false_eq_true,if_false] at h2;cases bc with
   |true =>
    simp only [Bool.true_eq_false,false_and,if_false,ne_eq,not_true] at h2
    repeat' (first|refine zV hinc ?_|refine zW ?_|refine zB ?_ ?_<;>intro h<;>try exact zk h|refine zI w (.d (.ep [.str t,.int .i64 (a0:Nat)])) hux ?_|refine eX ?_ (hv:=(qbr p.names t).trans (by rw [<- eK]))|(exact fin _ h2 (ti _ 5))|exact zk h|fail)
   |false =>
    have cf:=qf1 s p 7 a0;by_cases e:i=0
    .have hd0:decide (i=0)=true:=decide_eq_true e
     rw [hd0] at h2 hi0;simp only [true_or,and_self,if_true] at h2;rw [if_pos (by simp)] at h2;simp only [Except.bind] at h2;subst h2
     repeat' (first|refine zV hi0 ?_|refine zW ?_|refine zB ?_ ?_<;>intro h<;>try exact zk h|refine zI w (.d (.ep [.str t,.int .i64 (a0:Nat)])) hux ?_|refine eX ?_ (hv:=(qbr p.names t).trans (by rw [<- eK]))|refine oFP (cf) ?_|(exact⟨rfl,rfl,wkE⟩)|exact zk h|fail)
    .have hd0:decide (i=0)=false:=decide_eq_false e
     rw [hd0] at h2 hi0;cases ba with
     |true =>
      simp only [Bool.false_eq_true,Bool.true_eq_false,or_self,and_false,if_false,ne_eq,not_true] at h2
      repeat' (first|refine zV hi0 ?_|refine zV hinc ?_|refine zW ?_|refine zB ?_ ?_<;>intro h<;>try exact zk h|refine zI w (.d (.ep [.str t,.int .i64 (a0:Nat)])) hux ?_|refine eX ?_ (hv:=(qbr p.names t).trans (by rw [<- eK]))|(exact fin _ h2 (ti _ 5))|exact zk h|fail)
     |false =>
      simp only [Bool.false_eq_true,false_or,and_self,if_true] at h2;rw [if_pos (by simp)] at h2;simp only [Except.bind] at h2;subst h2
      repeat' (first|refine zV hi0 ?_|refine zW ?_|refine zB ?_ ?_<;>intro h<;>try exact zk h|refine zI w (.d (.ep [.str t,.int .i64 (a0:Nat)])) hux ?_|refine eX ?_ (hv:=(qbr p.names t).trans (by rw [<- eK]))|refine oFP (cf) ?_|(exact⟨rfl,rfl,wkE⟩)|exact zk h|fail)
 .have hie:i=p.uses.length:=by omega
  subst hie;rw [List.drop_length,qiB] at h2;simp only [Except.bind] at h2;subst h2
  repeat' (first|refine zW ?_|refine zB ?_ ?_<;>intro h<;>try exact zk h|(((first|refine Yt ?_|skip);exact⟨trivial,_,_,rfl,rfl,.refl,wkE⟩))|exact zk h|fail)
theorem qlW (s:List Nat):∀ (n a:Nat) (acc:List Lx),a<=s.length->acc.length<=a->s.length+1<=n+a->(∀ x ∈ acc,x.t.length<=s.length/\(x.k=2->NumT x.t)) ->
  (∃ ls:List Lx,qc1 s n a (acc.map qdJ)=(ls.map qdJ,0,0)/\ls.length<=s.length/\∀ x ∈ ls,x.t.length<=s.length/\(x.k=2->NumT x.t))\/∃ e q,qc1 s n a (acc.map qdJ)=([],e,q)/\e≠0
 |0,a,acc,h1,h2,h3,h4=>by omega
 |n+1,a,acc,h1,h2,h3,h4=>by
  have hle:=qdL h1;have hge:a<=qaC s a:=Nat.le_add_right _ _;unfold qc1;by_cases hp:qaC s a=s.length
  .rw [if_pos hp]
   exact .inl ⟨acc,rfl,by omega,h4⟩
  .rw [if_neg hp]
   by_cases hk:(qah (s.drop (qaC s a))).1=0
   .rw [if_pos hk]
    exact .inr ⟨3,_,rfl,by decide⟩
   .rw [if_neg hk]
    obtain⟨c,hc⟩:=qai (show qaC s a<s.length by omega);have hd:=qbj hc;have hbl:=qdH (s.drop (qaC s a));rw [List.length_drop] at hbl;have hb1:1<=(qah (s.drop (qaC s a))).2.length:=by rw [hd] at hk |-;exact qdB hk
    have hn:(qah (s.drop (qaC s a))).1=2->NumT (qah (s.drop (qaC s a))).2:=fun h=>by
     rw [hd] at h |-;exact qn2 (c:=c) (l:=s.drop (qaC s a+1)) (Prod.ext h rfl)
    have:=qlW s n (qaC s a+(qah (s.drop (qaC s a))).2.length) (acc++[⟨(qah (s.drop (qaC s a))).1,(qah (s.drop (qaC s a))).2,qaC s a⟩]) (by omega) (by simp;omega) (by omega) (fun x hx=>by
     rcases List.mem_append.1 hx with hx|hx
     .exact h4 x hx
     .rw [List.mem_singleton.1 hx]
      exact⟨by simp only;omega,hn⟩)
    rw [List.map_append] at this;exact this
theorem qjg (s:List Nat) (hl:s.length<=1048576) :
  (∃ ls:List Lx,qbm s=(ls.map qdJ,0,0)/\LsB ls/\quE ls)\/∃ e q,qbm s=([],e,q)/\e≠0:=by
 unfold qbm;by_cases h2:2000<s.length
 .rw [if_pos h2];exact .inr ⟨4,2000,rfl,by decide⟩
 .rw [if_neg h2]
  rcases qlW s (s.length+1) 0 [] (Nat.zero_le _) (Nat.le_refl _) (Nat.le_refl _) (fun x hx=>by cases hx) with⟨ls,h3,h4,h5⟩|h
  .exact .inl ⟨ls,h3,⟨by omega,fun x hx=>by have:=(h5 x hx).1;omega⟩,fun x hx=>(h5 x hx).2⟩
  .exact .inr h
end Go.Av
end

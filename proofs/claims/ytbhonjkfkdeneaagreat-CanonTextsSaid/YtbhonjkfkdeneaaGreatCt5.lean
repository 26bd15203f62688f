/-
  Parts of the way to the law, joined: rules for code over data, and what the functions return. Conditions stand at each.
-/
import Derived.Test.YtbhonjkfkdeneaaGreatCt4
import Derived.Test.YtbhonjkfkdeneaaGreatCt3
import Derived.Test.YtbhonjkfkdeneaaGreatCt2
import Derived.Shelf.Strings.OnBuilder
import Derived.Test.YtbhonjkfkdeneaaGreatProg
set_option linter.all false
noncomputable section
namespace Go.Av
open Go Go.Proofs
section
variable {s:List Nat} {ls:List Lx}
def AT (ls:List Lx) (r:RS) (l:List Tk):Prop:=r.f=(0,0)/\(ls.drop r.pos).map kt=l
theorem AT.cons {r:RS} {k:Nat} {t:List Nat} {l:List Tk} (h:AT ls r ((k,t) :: l)):∃ x,ls[r.pos]?=some x/\x.k=k/\x.t=t/\ls.drop r.pos=x :: ls.drop (r.pos+1)/\(ls.drop (r.pos+1)).map kt=l:=by
 obtain⟨_,h⟩:=h;cases hd:ls.drop r.pos with
 |nil=>rw [hd] at h;cases h
 |cons x m =>
  rw [hd] at h;simp only [List.map_cons,List.cons.injEq,Prod.mk.injEq] at h;have hx:ls[r.pos]?=some x:=by rw [<- List.head?_drop,hd];rfl
  have hm:ls.drop (r.pos+1)=m:=by rw [<- List.drop_drop,hd];rfl
  exact⟨x,hx,h.1.1,h.1.2,by rw [hm],by rw [hm];exact h.2⟩
theorem AT.len {r:RS} {l:List Tk} (h:AT ls r l):l.length+r.pos<=ls.length\/l=[]:=by
 have:=congrArg List.length h.2;rw [List.length_map,List.length_drop] at this;cases l with
 |nil=>exact .inr rfl
 |cons x l=>simp at this;left;simp;omega
theorem AT.len' {r:RS} {l:List Tk} (h:AT ls r l):l.length<=ls.length:=by
 have:=congrArg List.length h.2;rw [List.length_map,List.length_drop] at this;omega
theorem AT.peek {r:RS} {k:Nat} {t:List Nat} {l:List Tk} (h:AT ls r ((k,t) :: l)):∃ a,peekR s ls r=(⟨k,t,a⟩,r):=by
 obtain⟨x,h1,h2,h3,_,_⟩:=h.cons;refine⟨x.a,?_⟩;unfold peekR;rw [h1,<- h2,<- h3]
theorem AT.take {r:RS} {k:Nat} {t:List Nat} {l:List Tk} (h:AT ls r ((k,t) :: l)):∃ a,takeR s ls r=(⟨k,t,a⟩,{ r with pos:=r.pos+1 })/\AT ls { r with pos:=r.pos+1 } l:=by
 obtain⟨a,h1⟩:=h.peek (s:=s);obtain⟨x,_,_,_,_,h5⟩:=h.cons;exact⟨a,by unfold takeR;rw [h1],h.1,h5⟩
theorem AT.must {r:RS} {k:Nat} {t:List Nat} {l:List Tk} (h:AT ls r ((k,t) :: l)):mustR s ls k t r={ r with pos:=r.pos+1 }/\AT ls { r with pos:=r.pos+1 } l:=by
 obtain⟨a,h1,h2⟩:=h.take (s:=s);refine⟨?_,h2⟩;unfold mustR mustX;rw [h1,if_neg (by simp)]
theorem AT.name {r:RS} {cap:Bool} {t:List Nat} {l:List Tk} (h:AT ls r ((1,t) :: l)) (hc:(if cap then capitalF t else smallF t)=true):nameR s ls cap r=(t,{ r with pos:=r.pos+1 })/\AT ls { r with pos:=r.pos+1 } l:=by
 obtain⟨a,h1,h2⟩:=h.take (s:=s);refine⟨?_,h2⟩;have h0:=h.1;unfold nameR nameX;rw [h1];simp only [h0,ne_eq,not_true_eq_false,if_false,hc,if_true]
theorem AT.nextT {r:RS} {t:List Nat} {l:List Tk} (h:AT ls r ((3,t) :: l)):nextQ ls t r=(true,{ r with pos:=r.pos+1 })/\AT ls { r with pos:=r.pos+1 } l:=by
 obtain⟨x,_,h2,h3,h4,h5⟩:=h.cons;refine⟨?_,h.1,h5⟩;unfold nextQ;rw [h4,if_pos ⟨by rw [h.1],by simp [isL,h2,h3]⟩]
theorem AT.nextF {r:RS} {u t:List Nat} {k:Nat} {l:List Tk} (h:AT ls r ((k,u) :: l)) (hn:¬ (k=3/\u=t)):nextQ ls t r=(false,r):=by
 obtain⟨x,_,h2,h3,h4,_⟩:=h.cons;unfold nextQ;rw [h4,if_neg (by rintro⟨_,e⟩;simp only [isL,decide_eq_true_eq] at e;rw [h2,h3] at e;exact hn e)]
theorem AT.x {r:RS} {l:List Tk} (h:AT ls r l) (y:Src):AT ls { r with x:=y } l:=h
theorem has_false {l:List (List Nat)} {t:List Nat} (h:t ∉ l):hasF l t=false:=by
 simp only [hasF,List.any_eq_false,decide_eq_true_eq];intro y hy e;exact h (e ▸ hy)
theorem AT.token {r:RS} {t:List Nat} {l:List Tk} (h:AT ls r ((1,t) :: l)) (ht:smallF t=true) (hn:t ∉ r.x.tokens) (h8:r.x.tokens.length≠8):tokenR s ls r={ r with pos:=r.pos+1,x:={ r.x with tokens:=r.x.tokens++[t] } }/\AT ls { r with pos:=r.pos+1 } l:=by
 obtain⟨a,h1⟩:=h.peek (s:=s);obtain⟨h2,h3⟩:=h.name (s:=s) (cap:=false) ht;refine⟨?_,h3⟩;unfold tokenR;simp only [h1,h2,newR,has_false hn,roomR,h8,if_false,Bool.false_eq_true]
theorem AT.tokens:∀ (l:List (List Nat)) (n:Nat) (r:RS) (t:List Nat) (rest:List Tk),AT ls r ((1,t) :: (commaT l++(3,sSemi) :: rest))->l.length<n->(∀ u ∈ t :: l,smallF u=true)->(r.x.tokens++t :: l).Nodup->r.x.tokens.length+(t :: l).length<=8 ->
  ∃ p,tokensR s ls n r={ r with pos:=p,x:={ r.x with tokens:=r.x.tokens++t :: l } }/\AT ls { r with pos:=p } ((3,sSemi) :: rest)
 |[],n,r,t,rest,h,hn,hs,hd,h8=>by
  obtain⟨n,rfl⟩:∃ m,n=m+1:=⟨n-1,by simp at hn;omega⟩
  have hnt:t ∉ r.x.tokens:=fun hm=>by
   have:=(List.nodup_append.1 hd).2.2 t hm t (by simp);exact this rfl
  obtain⟨h1,h2⟩:=h.token (s:=s) (hs t (by simp)) hnt (by simp at h8;omega);have h2:AT ls { r with pos:=r.pos+1,x:={ r.x with tokens:=r.x.tokens++[t] } } ((3,sSemi) :: rest):=h2;refine⟨r.pos+1,?_,h2⟩;unfold tokensR;rw [if_pos (by rw [h.1])];simp only [h1];rw [h2.nextF (by decide)]
  simp
 |u :: l,n,r,t,rest,h,hn,hs,hd,h8=>by
  obtain⟨n,rfl⟩:∃ m,n=m+1:=⟨n-1,by simp at hn;omega⟩
  have hnt:t ∉ r.x.tokens:=fun hm=>by
   have:=(List.nodup_append.1 hd).2.2 t hm t (by simp);exact this rfl
  obtain⟨h1,h2⟩:=h.token (s:=s) (hs t (by simp)) hnt (by simp at h8;omega);have h2:AT ls { r with pos:=r.pos+1,x:={ r.x with tokens:=r.x.tokens++[t] } } ((3,sComma) :: (1,u) :: (commaT l++(3,sSemi) :: rest)):=by
   refine⟨h2.1,?_⟩;have:=h2.2;simpa [commaT] using this
  obtain⟨h3,h4⟩:=h2.nextT;obtain⟨p,h5,h6⟩:=AT.tokens l n _ u rest h4 (by simp at hn;omega) (fun v hv=>hs v (List.mem_cons_of_mem _ hv)) (by simpa using hd) (by simp at h8 |-;omega);refine⟨p,?_,h6⟩;unfold tokensR;rw [if_pos (by rw [h.1])];simp only [h1,h3,if_true];rw [h5]
  simp
theorem AT.alt:∀ (a:List (List Nat)) (n:Nat) (acc:List (List Nat)) (r:RS) (k:Nat) (u:List Nat) (rest:List Tk),AT ls r (a.map (fun t=>(1,t))++(k,u) :: rest)->k≠1->a.length<n->(∀ t ∈ a,mayF t=true)->acc.length+a.length<=6 ->
  ∃ p,altR s ls n acc r=(acc++a,{ r with pos:=p })/\AT ls { r with pos:=p } ((k,u) :: rest)
 |[],n,acc,r,k,u,rest,h,hk,hn,hm,h6=>by
  obtain⟨n,rfl⟩:∃ m,n=m+1:=⟨n-1,by simp at hn;omega⟩
  have h:AT ls r ((k,u) :: rest):=h;obtain⟨a,h1⟩:=h.peek (s:=s);refine⟨r.pos,?_,h⟩;unfold altR;rw [if_pos (by rw [h.1]),h1];simp only [hk,if_false,List.append_nil]
 |t :: a,n,acc,r,k,u,rest,h,hk,hn,hm,h6=>by
  obtain⟨n,rfl⟩:∃ m,n=m+1:=⟨n-1,by simp at hn;omega⟩
  have h:AT ls r ((1,t) :: (a.map (fun t=>(1,t))++(k,u) :: rest)):=h;obtain⟨b,h1⟩:=h.peek (s:=s);obtain⟨b2,h2,h3⟩:=h.take (s:=s);simp only [List.length_cons] at h6 hn;obtain⟨p,h4,h5⟩:=AT.alt a n (acc++[t]) _ k u rest h3 hk (by omega) (fun t ht=>hm t (List.mem_cons_of_mem _ ht)) (by simp only [List.length_append,List.length_cons,List.length_nil];omega);refine⟨p,?_,h5⟩;unfold altR;rw [if_pos (by rw [h.1]),h1];simp only [if_true,h2,wordR,hm t List.mem_cons_self,roomR];rw [if_neg (show ¬ acc.length=6 by omega),h4]
  simp
theorem AT.alts:∀ (al:List (List (List Nat))) (a:List (List Nat)) (n:Nat) (acc:List (List (List Nat))) (r:RS) (rest:List Tk),AT ls r (a.map (fun t=>(1,t))++(altsT false al++(3,sSemi) :: rest))->al.length<n->(∀ b ∈ a :: al,b.length<=6/\∀ t ∈ b,mayF t=true)->r.alts+(a :: al).length<=24 ->
  ∃ p,altsR s ls n acc r=(acc++a :: al,{ r with pos:=p,alts:=r.alts+(a :: al).length })/\AT ls { r with pos:=p } ((3,sSemi) :: rest)
 |[],a,n,acc,r,rest,h,hn,hb,h24=>by
  obtain⟨n,rfl⟩:∃ m,n=m+1:=⟨n-1,by simp at hn;omega⟩
  have h:AT ls r (a.map (fun t=>(1,t))++(3,sSemi) :: rest):=h;have hl:=h.len';simp only [List.length_append,List.length_map,List.length_cons] at hl;have hc:countR ls r={ r with alts:=r.alts+1 }:=by simp at h24;simp only [countR,roomR];rw [if_neg (by omega)]
  obtain⟨p,h1,h2⟩:=AT.alt (s:=s) a (ls.length+1) [] (countR ls r) 3 sSemi rest (by rw [hc];exact h) (by decide) (by omega) (hb a (by simp)).2 (by have:=(hb a (by simp)).1;simpa using this);rw [hc] at h1 h2;simp only at h1 h2;have h2:AT ls { r with alts:=r.alts+1,pos:=p } ((3,sSemi) :: rest):=h2;refine⟨p,?_,h2⟩;unfold altsR oneAltR;simp only [hc,h1];rw [AT.nextF h2 (by decide)]
  simp
 |b :: al,a,n,acc,r,rest,h,hn,hb,h24=>by
  obtain⟨n,rfl⟩:∃ m,n=m+1:=⟨n-1,by simp at hn;omega⟩
  have h:AT ls r (a.map (fun t=>(1,t))++(3,sBar) :: (b.map (fun t=>(1,t))++(altsT false al++(3,sSemi) :: rest))):=by
   refine⟨h.1,?_⟩;have:=h.2;simpa [altsT] using this
  have hl:=h.len';simp only [List.length_append,List.length_map,List.length_cons] at hl;have hc:countR ls r={ r with alts:=r.alts+1 }:=by simp at h24;simp only [countR,roomR];rw [if_neg (by omega)]
  obtain⟨p,h1,h2⟩:=AT.alt (s:=s) a (ls.length+1) [] (countR ls r) 3 sBar _ (by rw [hc];exact h) (by decide) (by omega) (hb a (by simp)).2 (by have:=(hb a (by simp)).1;simpa using this);rw [hc] at h1 h2;simp only at h1 h2;have h2:AT ls { r with alts:=r.alts+1,pos:=p } _:=h2;obtain⟨h3,h4⟩:=h2.nextT;obtain⟨q,h5,h6⟩:=AT.alts al b n (acc++[a]) _ rest h4 (by simp at hn;omega) (fun c hc=>hb c (List.mem_cons_of_mem _ hc)) (by simp at h24 |-;omega);refine⟨q,?_,h6⟩;unfold altsR oneAltR;simp only [hc,h1,h3,if_true];simp only [List.nil_append,h5]
  simp;omega
theorem AT.rule {r:RS} {u:SRule} {rest:List Tk} (h:AT ls r (ruleT u++rest)) (hc:capitalF u.name=true) (hn:u.name ∉ ruleNames r.x) (h8:r.x.rules.length≠8) (hne:u.alts≠[]) (hb:∀ b ∈ u.alts,b.length<=6/\∀ t ∈ b,mayF t=true) (h24:r.alts+u.alts.length<=24) :
  ∃ p,ruleR s ls r={ r with pos:=p,alts:=r.alts+u.alts.length,x:={ r.x with rules:=r.x.rules++[u] } }/\AT ls { r with pos:=p } rest:=by
 obtain⟨a,al,ha⟩:∃ a al,u.alts=a :: al:=by cases h:u.alts with|nil=>exact absurd h hne|cons a al=>exact⟨a,al,rfl⟩
 have h:AT ls r ((1,u.name) :: (3,sEq) :: (a.map (fun t=>(1,t))++(altsT false al++(3,sSemi) :: rest))):=by
  refine⟨h.1,?_⟩;have:=h.2;simpa [ruleT,ha,altsT] using this
 have hl:=h.len';simp only [List.length_append,List.length_map,List.length_cons] at hl;have hal:al.length<=(altsT false al).length:=by
  clear ha hl h
  induction al with
  |nil=>simp
  |cons x l ih=>simp [altsT];omega
 obtain⟨b0,h1⟩:=h.peek (s:=s);obtain⟨h2,h3⟩:=h.name (s:=s) (cap:=true) hc;obtain⟨h4,h5⟩:=h3.must (s:=s);obtain⟨p,h6,h7⟩:=AT.alts (s:=s) al a (ls.length+1) [] _ rest h5 (by omega) (by rw [<- ha];exact hb) (by simp only;rw [<- ha];exact h24);simp only at h6 h7;have h7:AT ls { r with pos:=p,alts:=r.alts+(a :: al).length } ((3,sSemi) :: rest):=h7;obtain⟨h8',h9⟩:=h7.must (s:=s);simp only at h8' h9;refine⟨p+1,?_,h9⟩;have hf:r.f.1=0:=by rw [h.1]
 unfold ruleR;simp only [h1,h2,hf,if_true,newR,has_false hn,roomR,h8,if_false,Bool.false_eq_true,h4,h6,List.nil_append,h8'];rw [<- ha]
theorem AT.rules:∀ (l:List SRule) (n:Nat) (b:Bool) (r:RS),AT ls r (l.flatMap ruleT)->(b=true->l≠[])->l.length<n->(∀ u ∈ l,capitalF u.name=true/\u.alts≠[]/\∀ b ∈ u.alts,b.length<=6/\∀ t ∈ b,mayF t=true)->(ruleNames r.x++l.map (·.name)).Nodup->r.x.rules.length+l.length<=8->r.alts+(l.map (·.alts.length)).sum<=24 ->
  ∃ p a,rulesR s ls n b r={ r with pos:=p,alts:=a,x:={ r.x with rules:=r.x.rules++l } }
 |[],n,b,r,h,hb,hn,hu,hd,h8,h24=>by
  obtain⟨n,rfl⟩:∃ m,n=m+1:=⟨n-1,by simp at hn;omega⟩
  have hb:b=false:=by cases b with|true=>exact absurd rfl (hb rfl)|false=>rfl
  subst hb;have hp:¬ r.pos<ls.length:=fun hlt=>by
   have:=congrArg List.length h.2;rw [List.length_map,List.length_drop] at this;simp at this;omega
  refine⟨r.pos,r.alts,?_⟩;unfold rulesR;rw [if_neg (by rintro⟨_,h|h⟩;cases h;exact hp h)]
  simp
 |u :: l,n,b,r,h,hb,hn,hu,hd,h8,h24=>by
  obtain⟨n,rfl⟩:∃ m,n=m+1:=⟨n-1,by simp at hn;omega⟩
  obtain⟨u1,u2,u3⟩:=hu u List.mem_cons_self;have h:AT ls r (ruleT u++l.flatMap ruleT):=h;have hpos:r.pos<ls.length:=by
   obtain⟨x,hx,_⟩:=AT.cons (ls:=ls) (r:=r) (k:=1) (t:=u.name) (l:=((3,sEq) :: (altsT true u.alts++[(3,sSemi)]))++l.flatMap ruleT) ⟨h.1,by rw [h.2];rfl⟩;exact(List.getElem?_eq_some_iff.1 hx).1
  have hnn:u.name ∉ ruleNames r.x:=fun hm=>(List.nodup_append.1 hd).2.2 _ hm u.name (by simp) rfl;simp only [List.map_cons,List.sum_cons] at h24;obtain⟨p,h1,h2⟩:=h.rule (s:=s) u1 hnn (by simp at h8;omega) u2 u3 (by omega);have h2:AT ls { r with pos:=p,alts:=r.alts+u.alts.length,x:={ r.x with rules:=r.x.rules++[u] } } (l.flatMap ruleT):=h2;obtain⟨q,a,h3⟩:=AT.rules l n false _ h2 (fun h=>by cases h) (by simp at hn;omega) (fun v hv=>hu v (List.mem_cons_of_mem _ hv)) (by simpa [ruleNames] using hd) (by simp at h8 |-;omega) (by simp only;omega);refine⟨q,a,?_⟩;unfold rulesR;rw [if_pos ⟨by rw [h.1],.inr hpos⟩,h1,h3]
  simp
end
end Go.Av
end
noncomputable section
namespace Go.Av
open Go Go.Proofs
structure SoundX (x:Src):Prop where
 k:1<=x.k/\x.k<=4
 tok0:x.tokens≠[]
 rul0:x.rules≠[]
 alt0:∀ r ∈ x.rules,r.alts≠[]
 alt6:∀ r ∈ x.rules,∀ a ∈ r.alts,a.length<=6
 tok8:x.tokens.length<=8
 rul8:x.rules.length<=8
 sum:(x.rules.map (·.alts.length)).sum<=24
 tokS:∀ s ∈ x.tokens,smallF s=true
 sepS:smallF x.sep=true
 startC:capitalF x.start=true
 rulC:∀ r ∈ x.rules,capitalF r.name=true
 altM:∀ r ∈ x.rules,∀ a ∈ r.alts,∀ s ∈ a,mayF s=true
 nodT:(x.tokens++[x.sep]).Nodup
 nodR:(ruleNames x).Nodup
 noSep:∀ r ∈ x.rules,∀ a ∈ r.alts,x.sep ∉ a
 known:∀ r ∈ x.rules,∀ a ∈ r.alts,∀ s ∈ a,s ∈ ruleNames x\/s ∈ x.tokens
 start:x.start ∈ ruleNames x
theorem hasF_iff {l:List (List Nat)} {t:List Nat}:hasF l t=true ↔ t ∈ l:=by
 simp only [hasF,List.any_eq_true,decide_eq_true_eq];exact⟨fun⟨y,h1,h2⟩=>h2 ▸ h1,fun h=>⟨t,h,rfl⟩⟩
theorem soundX {x:Src} (h:checkX x=0):SoundX x:=by
 unfold checkX at h;by_cases h1:x.k<1\/4<x.k
 .rw [if_pos h1] at h;cases h
 rw [if_neg h1] at h;cases h2:shortX x with
 |true=>rw [h2] at h;cases h
 |false =>
 cases h3:fullX x with
 |true=>rw [h2,h3] at h;cases h
 |false =>
 cases h4:misX x with
 |true=>rw [h2,h3,h4] at h;cases h
 |false =>
 cases h5:twoX x with
 |true=>rw [h2,h3,h4,h5] at h;cases h
 |false =>
 cases h6:usesX x x.sep with
 |true=>rw [h2,h3,h4,h5,h6] at h;cases h
 |false =>
 cases h7:unkX x with
 |true=>rw [h2,h3,h4,h5,h6,h7] at h;cases h
 |false =>
 clear h;simp only [shortX,Bool.or_eq_false_iff,List.any_eq_false,List.isEmpty_iff,Bool.not_eq_true] at h2;simp only [fullX,Bool.or_eq_false_iff,List.any_eq_false,decide_eq_false_iff_not,longA,decide_eq_true_eq,Bool.not_eq_true,List.any_eq_true,not_exists,not_and] at h3;simp only [misX,Bool.or_eq_false_iff,List.any_eq_false,Bool.not_eq_true,Bool.not_eq_false',misR,noName,Bool.and_eq_false_iff,Bool.not_eq_true',Bool.not_eq_false] at h4;simp only [twoX,Bool.or_eq_false_iff,smallsX] at h5;simp only [usesX,usesR,List.any_eq_false,Bool.not_eq_true,List.any_eq_false] at h6;simp only [unkX,unkR,unkS,Bool.or_eq_false_iff,List.any_eq_false,Bool.not_eq_true,Bool.and_eq_false_iff,Bool.not_eq_false',hasF_iff] at h7;obtain⟨⟨a1,a2⟩,a3⟩:=h2;obtain⟨⟨⟨b1,b2⟩,b3⟩,b4⟩:=h3;obtain⟨⟨⟨c1,c2⟩,c3⟩,c4⟩:=h4;refine⟨by omega,?_,?_,?_,?_,by omega,by omega,?_,?_,c3,c4,?_,?_,Decidable.not_not.1 (of_decide_eq_false h5.1),Decidable.not_not.1 (of_decide_eq_false h5.2),?_,?_,h7.2⟩
 .intro e;rw [e] at a2;simp at a2
 .intro e;rw [e] at a3;simp at a3
 .exact fun r hr e=>a1 r hr (by simpa using e)
 .exact fun r hr a ha=>by have:=b1 r hr a ha;omega
 .have:=b4
  unfold sumTo at this;rw [List.take_length] at this;omega
 .exact c1
 .exact fun r hr=>(c2 r hr).1
 .exact fun r hr a ha s hs=>by
   have:=(c2 r hr).2 a ha s hs;unfold mayF;rcases this with h|h<;>simp [h]
 .exact fun r hr a ha hm=>by
   have:=h6 r hr a ha;rw [hasF_iff.2 hm] at this;cases this
 .exact fun r hr a ha s hs=>h7.1 r hr a ha s hs
theorem name_isW {t:List Nat} (h:nameF t=0):IsW t:=by
 have hw:wordF t=0:=by
  unfold nameF at h;split at h
  .omega
  .exact h
 unfold wordF at hw;split at hw
 .cases hw
 .rename_i hne
  split at hw
  .cases hw
  .rename_i hb
   cases t with
   |nil=>exact absurd rfl hne
   |cons c l =>
    have hall:∀ i,¬ badAt (c :: l) i:=fun i hi=>hb ⟨i,hi⟩;refine⟨?_,fun d hd=>?_⟩
    .cases hl:letterF (c:Nat) with
     |true=>exact hl
     |false=>exact absurd ⟨c,rfl,hl,.inl rfl⟩ (hall 0)
    .obtain⟨i,hi,rfl⟩:=List.getElem_of_mem hd
     unfold wordI;cases hl:letterF (l[i]:Nat) with
     |true=>rw [show letterI ((l[i]:Nat):Int)=true from hl];rfl
     |false =>
      cases hd2:digitF (l[i]:Nat) with
      |true=>rw [show digitI ((l[i]:Nat):Int)=true from hd2];simp
      |false =>
       by_cases h95:((l[i]:Nat):Int)=95
       .simp [h95]
       .exact absurd ⟨l[i],by simp [hi],hl,.inr ⟨hd2,h95⟩⟩ (hall (i+1))
theorem small_name {t:List Nat} (h:smallF t=true):nameF t=0:=by
 simp only [smallF,Bool.and_eq_true,decide_eq_true_eq] at h;exact h.1
theorem capital_name {t:List Nat} (h:capitalF t=true):nameF t=0:=by
 simp only [capitalF,Bool.and_eq_true,decide_eq_true_eq] at h;exact h.1
theorem small_cap2 {t:List Nat} (h:smallF t=true) (h2:capitalF t=true):False:=by
 simp only [smallF,capitalF,Bool.and_eq_true,decide_eq_true_eq] at h h2;omega
theorem may_name {t:List Nat} (h:mayF t=true):nameF t=0:=by
 unfold mayF at h;rw [Bool.or_eq_true] at h;exact h.elim small_name capital_name
theorem lexSound {x:Src} (h:SoundX x):LexR (printX x) (toksX x) :=
 lexPrint x h.k h.tok0 (fun s hs=>name_isW (small_name (h.tokS s hs))) (name_isW (small_name h.sepS)) (name_isW (capital_name h.startC))
  (fun r hr=>⟨name_isW (capital_name (h.rulC r hr)),fun a ha s hs=>name_isW (may_name (h.altM r hr a ha s hs))⟩)
section
variable {s:List Nat} {ls:List Lx}
theorem AT.look {r:RS} {k:Nat} {rest:List Tk} (h:AT ls r ((1,wLook) :: (2,[48+k]) :: (3,sSemi) :: rest)) (hk:1<=k/\k<=4):lookR s ls r={ r with pos:=r.pos+3,x:={ r.x with k:=(k:Nat) } }/\AT ls { r with pos:=r.pos+3 } rest:=by
 obtain⟨h1,h2⟩:=h.must (s:=s);obtain⟨a,h3,h4⟩:=h2.take (s:=s);have h4:AT ls { r with pos:=r.pos+2,x:={ r.x with k:=(k:Nat) } } ((3,sSemi) :: rest):=h4;obtain⟨h5,h6⟩:=h4.must (s:=s);have hf:r.f.1=0:=by rw [h.1]
 have hn:numOk [48+k]=true:=by simp [numOk,decF];omega
 have hd:decF [48+k]=k:=by simp [decF]
 refine⟨?_,h6⟩;unfold lookR;simp only [h1,h3,hf,ne_eq,not_true_eq_false,and_false,if_false,if_true,hn,hd];exact h5
theorem knownL_id {r:RS}:∀ (l:List Lx),(∀ x ∈ l,x.k=1->chkU r.x x.t=0)->knownL l r=r
 |[],_=>rfl
 |x :: l,h=>by
  unfold knownL knownOneR;rw [if_neg (by rintro⟨h1,h2⟩;exact h2 (h x List.mem_cons_self h1))];exact knownL_id l (fun y hy=>h y (List.mem_cons_of_mem _ hy))
theorem mem_altsT:∀ (b:Bool) (al:List (List (List Nat))) (t:List Nat),(1,t) ∈ altsT b al->∃ a ∈ al,t ∈ a
 |_,[],t,h=>by cases h
 |b,a :: al,t,h=>by
  simp only [altsT,List.mem_append,List.mem_map] at h;rcases h with(h|⟨u,h1,h2⟩)|h
  .cases b with
   |true=>cases h
   |false=>simp at h
  .simp only [Prod.mk.injEq,true_and] at h2
   exact⟨a,List.mem_cons_self,h2 ▸ h1⟩
  .obtain⟨c,h1,h2⟩:=mem_altsT false al t h
   exact⟨c,List.mem_cons_of_mem _ h1,h2⟩
theorem commaT_len:∀ l:List (List Nat),l.length<=(commaT l).length
 |[]=>Nat.le_refl _
 |u :: l=>by
  have:=commaT_len l
  show l.length+1<=((3,sComma) :: (1,u) :: commaT l).length
  simp only [List.length_cons];omega
theorem readPrint {x:Src} (h:SoundX x) (hls:ls.map kt=toksX x):resR (readR s ls)=(x,(0,0)):=by
 obtain⟨t,l,hl⟩:∃ t l,x.tokens=t :: l:=by cases e:x.tokens with|nil=>exact absurd e h.tok0|cons t l=>exact⟨t,l,rfl⟩
 have hk:=h.k;have a0:AT ls ⟨0,(0,0),0,src0⟩ ((1,wLook) :: (2,[48+x.k.toNat]) :: (3,sSemi) :: (1,wToken) :: (1,t) :: (commaT l++(3,sSemi) :: (1,wSep) :: (1,x.sep) :: (3,sSemi) :: (1,wStart) :: (1,x.start) :: (3,sSemi) :: x.rules.flatMap ruleT)):=by
  refine⟨rfl,?_⟩
  show(ls.drop 0).map kt=_
  rw [List.drop_zero,hls];unfold toksX;rw [hl]
  simp
 obtain⟨e1,a1⟩:=a0.look (s:=s) (by omega);have a1:=a1.x { src0 with k:=(x.k.toNat:Nat) };obtain⟨e2,a2⟩:=a1.must (s:=s);have hlen:=a2.len';have hcl:=commaT_len l;simp only [List.length_cons,List.length_append] at hlen;have hnd:=(List.nodup_append.1 h.nodT).1;rw [hl] at hnd;obtain⟨p,e3,a3⟩:=AT.tokens (s:=s) l (ls.length+1) _ t _ a2 (by omega) (by rw [<- hl];exact h.tokS) (by simpa [src0] using hnd) (by simp only [src0,List.length_nil];rw [<- hl];have:=h.tok8;omega);have a3:=a3.x { src0 with k:=(x.k.toNat:Nat),tokens:=x.tokens };obtain⟨e4,a4⟩:=a3.must (s:=s);obtain⟨e5,a5⟩:=a4.must (s:=s);obtain⟨b6,e6⟩:=a5.peek (s:=s);obtain⟨e7,a7⟩:=a5.name (s:=s) (cap:=false) h.sepS;have a7:=a7.x { src0 with k:=(x.k.toNat:Nat),tokens:=x.tokens,sep:=x.sep };obtain⟨e8,a8⟩:=a7.must (s:=s);obtain⟨e9,a9⟩:=a8.must (s:=s);obtain⟨b10,e10⟩:=a9.peek (s:=s);obtain⟨e11,a11⟩:=a9.name (s:=s) (cap:=true) h.startC;have a11:=a11.x { src0 with k:=(x.k.toNat:Nat),tokens:=x.tokens,sep:=x.sep,start:=x.start };obtain⟨e12,a12⟩:=a11.must (s:=s);have hsepT:x.sep ∉ x.tokens:=fun hm=>(List.nodup_append.1 h.nodT).2.2 _ hm x.sep (by simp) rfl;have eH:headR s ls ⟨0,(0,0),0,src0⟩=(⟨1,x.start,b10⟩,{ pos:=p+1+1+1+1+1+1+1,f:=(0,0),alts:=0,x:={ src0 with k:=(x.k.toNat:Nat),tokens:=x.tokens,sep:=x.sep,start:=x.start } }):=by
  unfold headR;rw [e1];simp only at e2 e3 e4 e5 e6 e7 e8 e9 e10 e11 e12 |-;rw [e2,e3];simp only [src0,List.nil_append,<- hl] at e2 e3 e4 e5 e6 e7 e8 e9 e10 e11 e12 |-;rw [e4];unfold sepR;rw [e5];simp only [e6,e7,newR,has_false hsepT,Bool.false_eq_true,if_false];rw [e8];unfold startR;rw [e9];simp only [e10,e11];rw [e12]
 obtain⟨q,aa,e13⟩:=AT.rules (s:=s) x.rules (ls.length+2) true _ a12 (fun _=>h.rul0) (by
   have:=a12.len';have hr:x.rules.length<=(x.rules.flatMap ruleT).length:=by
    generalize x.rules=rl
    induction rl with
    |nil=>simp
    |cons u l ih=>rw [List.flatMap_cons];simp only [ruleT,List.length_append,List.length_cons];omega
   omega) (fun u hu=>⟨h.rulC u hu,h.alt0 u hu,fun b hb=>⟨h.alt6 u hu b hb,h.altM u hu b hb⟩⟩) (by simpa [ruleNames,src0] using h.nodR) (by simp only [src0,List.length_nil];have:=h.rul8;omega) (by simp only;have:=h.sum;omega)
 have hx:(⟨(x.k.toNat:Nat),x.tokens,x.sep,x.start,x.rules⟩:Src)=x:=by
  obtain⟨k,tk,sp,st,rl⟩:=x;simp only at hk |-;rw [Int.toNat_of_nonneg (by omega)]
 unfold readR;rw [eH];simp only [src0,List.nil_append] at e13 |-;rw [hx] at e13;rw [e13];simp only [if_true];have hstart:hasF (ruleNames x) x.start=true:=hasF_iff.2 h.start;unfold knownR;simp only [hstart,Bool.true_eq_false,if_false];rw [knownL_id]
 .rfl
 .intro y hy hy1
  have hm:kt y ∈ x.rules.flatMap ruleT:=by
   have:=a12.2;simp only at this;rw [<- this];exact List.mem_map_of_mem hy
  obtain⟨r,hr,hm⟩:=List.mem_flatMap.1 hm;have hm:(1,y.t) ∈ ruleT r:=by
   have e:kt y=(1,y.t):=by rw [<- hy1]
   rw [<- e];exact hm
  simp only [ruleT,List.mem_cons,List.mem_append,List.not_mem_nil,or_false,Prod.mk.injEq,true_and] at hm;unfold chkU;rcases hm with hm|hm|hm|hm
  .have h1:¬ y.t=x.sep:=fun e=>small_cap2 h.sepS (by rw [<- e,hm];exact h.rulC r hr)
   have h2:hasF (ruleNames x) y.t=true:=hasF_iff.2 (by rw [hm];exact List.mem_map_of_mem hr);rw [if_neg h1,h2];rfl
  .exact absurd hm.1 (by decide)
  .obtain⟨a,ha,hta⟩:=mem_altsT _ _ _ hm
   have h1:¬ y.t=x.sep:=fun e=>h.noSep r hr a ha (e ▸ hta);rw [if_neg h1];rcases h.known r hr a ha _ hta with h2|h2
   .rw [hasF_iff.2 h2];rfl
   .rw [if_neg (by rintro⟨_,h3⟩;rw [hasF_iff.2 h2] at h3;cases h3)]
  .exact absurd hm.1 (by decide)
theorem roundX {x:Src} (h:checkX x=0) (hl:(printX x).length<=2000):∃ ls:List Lx,lexemesF (printX x)=(ls.map encL,0,0)/\∀ s,resR (readR s ls)=(x,(0,0)):=by
 have hs:=soundX h;obtain⟨ls,h1,h2⟩:=lexR_lexes (lexSound hs) (printX x) ((printX x).length+1) 0 [] rfl (Nat.zero_le _) (Nat.le_refl _);refine⟨ls,?_,fun s=>readPrint hs h2⟩;unfold lexemesF;rw [if_neg (by omega),h1]
 simp
end
end Go.Av
end
noncomputable section
namespace Go.Av
open Go Go.Proofs
theorem ofSound {x:Src} (h:SoundX x):checkX x=0:=by
 unfold checkX;rw [if_neg (by have:=h.k;omega)];have h2:shortX x=false:=by
  simp only [shortX,Bool.or_eq_false_iff,List.any_eq_false,Bool.not_eq_true];refine⟨⟨fun r hr=>?_,?_⟩,?_⟩
  .have:=h.alt0 r hr
   cases e:r.alts with|nil=>exact absurd e this|cons a l=>rfl
  .cases e:x.tokens with|nil=>exact absurd e h.tok0|cons a l=>rfl
  .cases e:x.rules with|nil=>exact absurd e h.rul0|cons a l=>rfl
 have h3:fullX x=false:=by
  simp only [fullX,Bool.or_eq_false_iff,List.any_eq_false,decide_eq_false_iff_not,longA,decide_eq_true_eq,List.any_eq_true,not_exists,not_and];refine⟨⟨⟨fun r hr a ha=>by have:=h.alt6 r hr a ha;omega,by have:=h.tok8;omega⟩,by have:=h.rul8;omega⟩,?_⟩;unfold sumTo;rw [List.take_length];have:=h.sum;omega
 have h4:misX x=false:=by
  simp only [misX,Bool.or_eq_false_iff,List.any_eq_false,misR,noName];refine⟨⟨⟨fun t ht=>by simp [h.tokS t ht],fun r hr=>?_⟩,by simp [h.sepS]⟩,by simp [h.startC]⟩;simp only [h.rulC r hr,Bool.not_true,Bool.false_or,List.any_eq_true,not_exists,not_and];intro a ha t ht;have:=h.altM r hr a ha t ht;unfold mayF at this;cases h1:smallF t<;>cases h2:capitalF t<;>simp_all [noName]
 have h5:twoX x=false:=by
  simp only [twoX,Bool.or_eq_false_iff,smallsX];exact⟨decide_eq_false (not_not_intro h.nodT),decide_eq_false (not_not_intro h.nodR)⟩
 have h6:usesX x x.sep=false:=by
  simp only [usesX,usesR,List.any_eq_false,List.any_eq_true,not_exists,not_and];intro r hr a ha e;exact h.noSep r hr a ha (hasF_iff.1 e)
 have h7:unkX x=false:=by
  simp only [unkX,unkR,unkS,Bool.or_eq_false_iff,List.any_eq_false,List.any_eq_true,not_exists,not_and,Bool.not_eq_false'];refine⟨fun r hr a ha t ht e=>?_,hasF_iff.2 h.start⟩;simp only [Bool.and_eq_true,Bool.not_eq_true'] at e;rcases h.known r hr a ha t ht with h1|h1
  .rw [hasF_iff.2 h1] at e;cases e.1
  .rw [hasF_iff.2 h1] at e;cases e.2
 rw [h2,h3,h4,h5,h6,h7];rfl
section
variable {s:List Nat}
structure H1 (p:PS):Prop where
 know:∀ t,knowP p.names t=(hasF p.x.tokens t,false,false)
 small:∀ t ∈ p.x.tokens,smallF t=true
 nod:p.x.tokens.Nodup
 rules:p.x.rules=[]
 uses:p.uses=[]
 total:p.total=0
theorem H1.cut {p q:PS} (h:H1 p) (e:q={ p with l:=q.l }):H1 q/\q.x=p.x:=by
 rw [e];exact⟨⟨h.know,h.small,h.nod,h.rules,h.uses,h.total⟩,rfl⟩
structure H2 (p:PS):Prop where
 know:∀ t,knowP p.names t=(hasF p.x.tokens t,decide (t=p.x.sep),hasF (ruleNames p.x) t)
 k:1<=p.x.k/\p.x.k<=4
 tok0:p.x.tokens≠[]
 tokS:∀ t ∈ p.x.tokens,smallF t=true
 sepS:smallF p.x.sep=true
 nodT:(p.x.tokens++[p.x.sep]).Nodup
 nodR:(ruleNames p.x).Nodup
 rulC:∀ r ∈ p.x.rules,capitalF r.name=true
 alt0:∀ r ∈ p.x.rules,r.alts≠[]
 alt6:∀ r ∈ p.x.rules,∀ a ∈ r.alts,a.length<=6
 altM:∀ r ∈ p.x.rules,∀ a ∈ r.alts,∀ t ∈ a,mayF t=true
 uses:∀ r ∈ p.x.rules,∀ a ∈ r.alts,∀ t ∈ a,t ∈ p.uses.tail.map (·.1)
 total:p.total=(p.x.rules.map (·.alts.length)).sum
theorem H2.cut {p q:PS} (h:H2 p) (e:q={ p with l:=q.l }):H2 q:=by
 rw [e];exact⟨h.know,h.k,h.tok0,h.tokS,h.sepS,h.nodT,h.nodR,h.rulC,h.alt0,h.alt6,h.altM,h.uses,h.total⟩
end
end Go.Av
end
noncomputable section
namespace Go.Av
open Go Go.Proofs
set_option maxRecDepth 100000
def nameB:List Nat->Bool
 |[]=>false
 |c :: l=>letterI c && l.all (fun d=>wordI d) && decide ((c :: l).length<=12) && !languageF (c :: l)
theorem nameB_ok {t:List Nat} (h:nameB t=true):nameF t=0:=by
 cases t with
 |nil=>cases h
 |cons c l =>
  simp only [nameB,Bool.and_eq_true,List.all_eq_true,decide_eq_true_eq,Bool.not_eq_true'] at h;obtain⟨⟨⟨h1,h2⟩,h3⟩,h4⟩:=h;have hw:wordF (c :: l)=0:=by
   unfold wordF;rw [if_neg (by simp),if_neg,if_neg (by omega)]
   rintro⟨i,d,h5,h6,h7⟩
   cases i with
   |zero =>
    simp at h5;rw [<- h5,show letterF (c:Nat)=true from h1] at h6;cases h6
   |succ i =>
    have h5:l[i]?=some d:=by simpa using h5
    have h8:=h2 d (List.mem_of_getElem? h5);rcases h7 with h7|⟨h7,h9⟩
    .cases h7
    .simp only [wordI,Bool.or_eq_true,beq_iff_eq] at h8
     rcases h8 with(h8|h8)|h8
     .rw [show letterF (d:Nat)=true from h8] at h6;cases h6
     .rw [show digitF (d:Nat)=true from h8] at h7;cases h7
     .exact h9 h8
  unfold nameF;rw [if_neg (by rintro⟨_,h5⟩;rw [h4] at h5;cases h5),hw]
def smallB (t:List Nat):Bool:=nameB t && decide (97<=t.getD 0 0)
def capB (t:List Nat):Bool:=nameB t && decide (t.getD 0 0<97)
theorem smallB_ok {t:List Nat} (h:smallB t=true):smallF t=true:=by
 simp only [smallB,Bool.and_eq_true] at h;simp only [smallF,Bool.and_eq_true];exact⟨decide_eq_true (nameB_ok h.1),h.2⟩
theorem capB_ok {t:List Nat} (h:capB t=true):capitalF t=true:=by
 simp only [capB,Bool.and_eq_true] at h;simp only [capitalF,Bool.and_eq_true];exact⟨decide_eq_true (nameB_ok h.1),h.2⟩
def soundB (x:Src):Bool :=
 decide (1<=x.k/\x.k<=4) && (!x.tokens.isEmpty && (!x.rules.isEmpty && (x.rules.all (fun r=>!r.alts.isEmpty && (capB r.name && r.alts.all (fun a=>decide (a.length<=6) && a.all (fun s=>(smallB s || capB s) && (decide (¬ s=x.sep) && decide (s ∈ ruleNames x\/s ∈ x.tokens)))))) &&
 (decide (x.tokens.length<=8) && (decide (x.rules.length<=8) && (decide ((x.rules.map (·.alts.length)).sum<=24) && (x.tokens.all smallB && (smallB x.sep && (capB x.start && (decide ((x.tokens++[x.sep]).Nodup) && (decide ((ruleNames x).Nodup) && decide (x.start ∈ ruleNames x))))))))))))
theorem soundB_ok {x:Src} (h:soundB x=true):SoundX x:=by
 simp only [soundB,Bool.and_eq_true,decide_eq_true_eq,List.all_eq_true,Bool.not_eq_true',List.isEmpty_eq_false_iff,Bool.or_eq_true] at h;obtain⟨h1,h2,h3,h4,h5,h6,h7,h8,h9,h10,h11,h12,h13⟩:=h;exact⟨h1,h2,h3,fun r hr=>(h4 r hr).1,fun r hr a ha=>((h4 r hr).2.2 a ha).1,h5,h6,h7,fun s hs=>smallB_ok (h8 s hs),smallB_ok h9,capB_ok h10,fun r hr=>capB_ok (h4 r hr).2.1,
  fun r hr a ha s hs=>by
   unfold mayF
   rcases(((h4 r hr).2.2 a ha).2 s hs).1 with h|h
   .rw [smallB_ok h];rfl
   .rw [capB_ok h];simp,h11,h12,fun r hr a ha hm=>(((h4 r hr).2.2 a ha).2 _ hm).2.1 rfl,fun r hr a ha s hs=>(((h4 r hr).2.2 a ha).2 s hs).2.2,h13⟩
def lexX (s:List Nat):Nat->Nat->List Lx->Option (List Lx)
 |0,_,_=>none
 |n+1,a,acc=>if atF4 s a=s.length then some acc else if(beginsF (s.drop (atF4 s a))).1=0 then none
  else lexX s n (atF4 s a+(beginsF (s.drop (atF4 s a))).2.length) (acc++[⟨(beginsF (s.drop (atF4 s a))).1,(beginsF (s.drop (atF4 s a))).2,atF4 s a⟩])
theorem lexX_F (s:List Nat):∀ (n a:Nat) (acc ls:List Lx),lexX s n a acc=some ls->lexesF s n a (acc.map encL)=(ls.map encL,0,0)
 |0,a,acc,ls,h=>by cases h
 |n+1,a,acc,ls,h=>by
  unfold lexX at h;unfold lexesF;by_cases hp:atF4 s a=s.length
  .rw [if_pos hp] at h |-
   cases h;rfl
  .rw [if_neg hp] at h |-
   by_cases hk:(beginsF (s.drop (atF4 s a))).1=0
   .rw [if_pos hk] at h;cases h
   .rw [if_neg hk] at h |-
    have:=lexX_F s n _ _ ls h;rw [List.map_append] at this;exact this
def textB (t:List Nat) (x:Src):Bool:=decide (t.length<=2000) && (match lexX t (t.length+1) 0 [] with
 |some ls=>decide (ls.map kt=toksX x)
 |none=>false)
theorem textB_ok {t:List Nat} {x:Src} (hs:SoundX x) (h:textB t x=true):∃ ls:List Lx,lexemesF t=(ls.map encL,0,0)/\∀ s,resR (readR s ls)=(x,(0,0)):=by
 simp only [textB,Bool.and_eq_true,decide_eq_true_eq] at h;obtain⟨h1,h2⟩:=h;cases hl:lexX t (t.length+1) 0 [] with
 |none=>rw [hl] at h2;cases h2
 |some ls =>
  rw [hl] at h2;simp only [decide_eq_true_eq] at h2;refine⟨ls,?_,fun s=>readPrint hs h2⟩;unfold lexemesF;rw [if_neg (by omega)];exact lexX_F t _ 0 [] ls hl
def allTx:List (Nat × Nat × Nat):=(List.range 16).flatMap fun i=>((List.range 6).flatMap fun k=>(List.range 6).map fun t=>(k,t,i)).filter fun p=>decide ((p.1=(ruleE i).1\/p.1=(ruleE i).1+1/\(ruleE i).1<2)/\(p.2.1=(ruleE i).2.1\/p.2.1=(ruleE i).2.1+1/\(ruleE i).2.1<4))
theorem all_sound:(allTx.all fun p=>soundB (srcT p.1 p.2.1 p.2.2))=true:=by kernel_rfl
theorem all_text:(allTx.all fun p=>textB (textT p.1 p.2.1 (ruleE p.2.2).2.2) (srcT p.1 p.2.1 p.2.2) && (decide ((printX (srcT p.1 p.2.1 p.2.2)).length<=2000) && (textT p.1 p.2.1 (ruleE p.2.2).2.2).all (fun c=>decide (c<256))))=true:=by kernel_rfl
theorem ruleE_b:((List.range 16).all fun i=>decide ((ruleE i).1<=4/\(ruleE i).2.1<=4/\1<=(ruleE i).2.1/\(ruleE i).2.2.length<=1000))=true:=by kernel_rfl
theorem tx_mem {i k t:Nat} (hi:i<16) (hk:k=(ruleE i).1\/k=(ruleE i).1+1/\(ruleE i).1<2) (ht:t=(ruleE i).2.1\/t=(ruleE i).2.1+1/\(ruleE i).2.1<4):(k,t,i) ∈ allTx:=by
 have hb:=List.all_eq_true.1 ruleE_b i (List.mem_range.2 hi);simp only [decide_eq_true_eq] at hb;unfold allTx;refine List.mem_flatMap.2 ⟨i,List.mem_range.2 hi,List.mem_filter.2 ⟨List.mem_flatMap.2 ⟨k,List.mem_range.2 (by omega),List.mem_map.2 ⟨t,List.mem_range.2 (by omega),rfl⟩⟩,?_⟩⟩;simp only [decide_eq_true_eq];exact⟨hk,ht⟩
theorem all_ok {p:Nat × Nat × Nat} (hm:p ∈ allTx) :
  SoundX (srcT p.1 p.2.1 p.2.2)/\textB (textT p.1 p.2.1 (ruleE p.2.2).2.2) (srcT p.1 p.2.1 p.2.2)=true/\(printX (srcT p.1 p.2.1 p.2.2)).length<=2000/\∀ c ∈ textT p.1 p.2.1 (ruleE p.2.2).2.2,c<256:=by
 have h1:=List.all_eq_true.1 all_sound _ hm;have h2:=List.all_eq_true.1 all_text _ hm;simp only [Bool.and_eq_true,decide_eq_true_eq,List.all_eq_true] at h2;exact⟨soundB_ok h1,h2.1,h2.2.1,h2.2.2⟩
theorem textB_len {t:List Nat} {x:Src} (h:textB t x=true):t.length<=2000:=by
 simp only [textB,Bool.and_eq_true,decide_eq_true_eq] at h;exact h.1
end Go.Av
end
noncomputable section
namespace Go.Av
open Go Go.Proofs
def FineE {α:Type} (N:Nat) (Q:α->Prop):Except Fa α->Prop
 |.ok a=>Q a
 |.error e=>e.1≠0/\e.2<=N
theorem FineE.bind {α β:Type} {N:Nat} {Q:α->Prop} {R:β->Prop} {x:Except Fa α} {f:α->Except Fa β} (h:FineE N Q x) (hf:∀ a,Q a->FineE N R (f a)):FineE N R (x.bind f):=by
 cases x with
 |error e=>exact h
 |ok a=>exact hf a h
section
variable {s:List Nat} {N:Nat} (hN:s.length<=N)
include hN
end
end Go.Av
end
noncomputable section
namespace Go.Av
open Go Go.Proofs
set_option maxRecDepth 10000
set_option maxHeartbeats 4000000 in
theorem usedC (s:List Nat) (p:PS) (hb:PB p):ACall Tryz.prog 103 [.bp 0 0] (pO s p) (endR (usedP p)) (endG s (usedP p)):=by
 have hu:p.uses.length<=200000:=by have:=hb.uses;omega
 obtain⟨R,hR⟩:∃ R,R=usedP p:=⟨_,rfl⟩
 have hR':R=(usedL p.names true p.uses).bind fun _=>.ok p:=hR;rw [<- hR];refine acallU (fnAt Tryz.func103 (by kernel_rfl) (by kernel_rfl):FnAt _ _ (mkFn Tryz.f103 [])) rfl rfl ?_
 repeat' (first|refine zW [] ?_|(refine zB [] ?_ ?_<;>intro h<;>try exact zk h)|refine zX [] ?_|(refine zE ?_;(skip))|((exfalso;(simp at h<;>omega)))|fail)
 refine Run.loopT (fun i:Nat=>⟨PT.ofList [(0,.bp 0 0),(8,.sr 4 2 (p.uses.map encU)),(9,.d (.int .i64 (p.uses.map encU).length)),(10,.d (.int .i64 (i:Nat)))],pO s p,[]⟩)
  (fun i=>i<=p.uses.length/\R=(usedL p.names (decide (i=0)) (p.uses.drop i)).bind fun _=>.ok p) (fun i=>p.uses.length-i) 0 ⟨Nat.zero_le _,hR'⟩ (ti _ 5) (fun i hi=>?_)
 obtain⟨h1,h2⟩:=hi;rcases Nat.lt_or_ge i p.uses.length with hlt|hge
 .obtain⟨u,hux⟩:=get_ok hlt
  have hd:p.uses.drop i=u :: p.uses.drop (i+1):=by
   obtain⟨g1,g2⟩:=List.getElem?_eq_some_iff.1 hux;rw [List.drop_eq_getElem_cons g1,g2]
  obtain⟨t,a0⟩:=u;rw [hd,usedL] at h2;obtain⟨kk,eK⟩:∃ kk,kk=knowP p.names t:=⟨_,rfl⟩
  have hch:chkP p.names (decide (i=0)) t=if kk.2.1=true then 14 else if kk.2.2=false/\(decide (i=0)=true\/kk.1=false) then 7 else 0:=by rw [eK];rfl
  simp only at h2;rw [hch] at h2;have hinc:AV.d (.int .i64 (IntKind.i64.wrap ((i:Int)+1)))=.d (.int .i64 ((i+1:Nat):Int)):=vN8 (by omega) (by omega);have hi0:AV.d (.bool (((i:Nat):Int) == 0))=.d (.bool (decide (i=0))):=by
   congr 2
   by_cases e:i=0
   .subst e;rfl
   .have:¬ ((i:Nat):Int)=0:=by omega
    simp [e]
  obtain⟨ba,bb,bc⟩:=kk;have fin:∀ s1:S,R=(usedL p.names false (p.uses.drop (i+1))).bind (fun _=>.ok p)->Tidy 5 s1 ⟨PT.ofList [(0,.bp 0 0),(8,.sr 4 2 (p.uses.map encU)),(9,.d (.int .i64 (p.uses.map encU).length)),(10,.d (.int .i64 ((i+1:Nat):Int)))],pO s p,[]⟩ ->
    ∃ x:Nat,(x<=p.uses.length/\R=(usedL p.names (decide (x=0)) (p.uses.drop x)).bind fun _=>.ok p)/\p.uses.length-x<p.uses.length-i/\Tidy 5 s1 ⟨PT.ofList [(0,.bp 0 0),(8,.sr 4 2 (p.uses.map encU)),(9,.d (.int .i64 (p.uses.map encU).length)),(10,.d (.int .i64 (x:Nat)))],pO s p,[]⟩:=fun s1 hr ht =>
   ⟨i+1,⟨hlt,by rw [hr];simp⟩,by omega,ht⟩
  cases bb with
  |true =>
   simp only [if_true] at h2;rw [if_pos (by simp)] at h2;simp only [Except.bind] at h2;subst h2;have cf:=failP s p 14 a0
   repeat' (first|refine zW [] ?_|(refine zB [] ?_ ?_<;>intro h<;>try exact zk h)|refine zX [] ?_|refine oI (frz:=[]) (v:=.d (.ep [.str t,.int .i64 (a0:Nat)])) ?_ (he:=by first|(simp [gD,cellsD,hux]<;>fail)|fail)|refine eI (v:=.d (.ep [.str t,.int .i64 (a0:Nat)])) ?_ (he:=by first|(simp [gD,cellsD,hux]<;>fail)|fail)|refine eX ?_ (hv:=(evAny_know p.names t).trans (by rw [<- eK]))|refine oFP (cf) ?_|(refine zE ?_;(skip))|(exact⟨rfl,rfl,wkE⟩)|((exfalso;(simp at h<;>omega)))|fail)
  |false =>
   simp only [Bool.false_eq_true,if_false] at h2;cases bc with
   |true =>
    simp only [Bool.true_eq_false,false_and,if_false,ne_eq,not_true] at h2
    repeat' (first|refine oX (frz:=[]) (v:=.d (.int .i64 ((i+1:Nat):Int))) Yo ?_ (he:=(hinc))|refine eX (v:=.d (.int .i64 ((i+1:Nat):Int))) ?_ (he:=(hinc))|refine zW [] ?_|(refine zB [] ?_ ?_<;>intro h<;>try exact zk h)|refine zX [] ?_|refine oI (frz:=[]) (v:=.d (.ep [.str t,.int .i64 (a0:Nat)])) ?_ (he:=by first|(simp [gD,cellsD,hux]<;>fail)|fail)|refine eI (v:=.d (.ep [.str t,.int .i64 (a0:Nat)])) ?_ (he:=by first|(simp [gD,cellsD,hux]<;>fail)|fail)|refine eX ?_ (hv:=(evAny_know p.names t).trans (by rw [<- eK]))|(refine zE ?_;(skip))|(exact fin _ h2 (ti _ 5))|((exfalso;(simp at h<;>omega)))|fail)
   |false =>
    have cf:=failP s p 7 a0;by_cases e:i=0
    .have hd0:decide (i=0)=true:=decide_eq_true e
     rw [hd0] at h2 hi0;simp only [true_or,and_self,if_true] at h2;rw [if_pos (by simp)] at h2;simp only [Except.bind] at h2;subst h2
     repeat' (first|refine oX (frz:=[]) (v:=.d (.bool true)) Yo ?_ (he:=(hi0))|refine eX (v:=.d (.bool true)) ?_ (he:=(hi0))|refine zW [] ?_|(refine zB [] ?_ ?_<;>intro h<;>try exact zk h)|refine zX [] ?_|refine oI (frz:=[]) (v:=.d (.ep [.str t,.int .i64 (a0:Nat)])) ?_ (he:=by first|(simp [gD,cellsD,hux]<;>fail)|fail)|refine eI (v:=.d (.ep [.str t,.int .i64 (a0:Nat)])) ?_ (he:=by first|(simp [gD,cellsD,hux]<;>fail)|fail)|refine eX ?_ (hv:=(evAny_know p.names t).trans (by rw [<- eK]))|refine oFP (cf) ?_|(refine zE ?_;(skip))|(exact⟨rfl,rfl,wkE⟩)|((exfalso;(simp at h<;>omega)))|fail)
    .have hd0:decide (i=0)=false:=decide_eq_false e
     rw [hd0] at h2 hi0;cases ba with
     |true =>
      simp only [Bool.false_eq_true,Bool.true_eq_false,or_self,and_false,if_false,ne_eq,not_true] at h2
      repeat' (first|refine oX (frz:=[]) (v:=.d (.bool false)) Yo ?_ (he:=(hi0))|refine eX (v:=.d (.bool false)) ?_ (he:=(hi0))|refine oX (frz:=[]) (v:=.d (.int .i64 ((i+1:Nat):Int))) Yo ?_ (he:=(hinc))|refine eX (v:=.d (.int .i64 ((i+1:Nat):Int))) ?_ (he:=(hinc))|refine zW [] ?_|(refine zB [] ?_ ?_<;>intro h<;>try exact zk h)|refine zX [] ?_|refine oI (frz:=[]) (v:=.d (.ep [.str t,.int .i64 (a0:Nat)])) ?_ (he:=by first|(simp [gD,cellsD,hux]<;>fail)|fail)|refine eI (v:=.d (.ep [.str t,.int .i64 (a0:Nat)])) ?_ (he:=by first|(simp [gD,cellsD,hux]<;>fail)|fail)|refine eX ?_ (hv:=(evAny_know p.names t).trans (by rw [<- eK]))|(refine zE ?_;(skip))|(exact fin _ h2 (ti _ 5))|((exfalso;(simp at h<;>omega)))|fail)
     |false =>
      simp only [Bool.false_eq_true,false_or,and_self,if_true] at h2;rw [if_pos (by simp)] at h2;simp only [Except.bind] at h2;subst h2
      repeat' (first|refine oX (frz:=[]) (v:=.d (.bool false)) Yo ?_ (he:=(hi0))|refine eX (v:=.d (.bool false)) ?_ (he:=(hi0))|refine zW [] ?_|(refine zB [] ?_ ?_<;>intro h<;>try exact zk h)|refine zX [] ?_|refine oI (frz:=[]) (v:=.d (.ep [.str t,.int .i64 (a0:Nat)])) ?_ (he:=by first|(simp [gD,cellsD,hux]<;>fail)|fail)|refine eI (v:=.d (.ep [.str t,.int .i64 (a0:Nat)])) ?_ (he:=by first|(simp [gD,cellsD,hux]<;>fail)|fail)|refine eX ?_ (hv:=(evAny_know p.names t).trans (by rw [<- eK]))|refine oFP (cf) ?_|(refine zE ?_;(skip))|(exact⟨rfl,rfl,wkE⟩)|((exfalso;(simp at h<;>omega)))|fail)
 .have hie:i=p.uses.length:=by omega
  subst hie;rw [List.drop_length,usedL] at h2;simp only [Except.bind] at h2;subst h2
  repeat' (first|refine zW [] ?_|(refine zB [] ?_ ?_<;>intro h<;>try exact zk h)|refine zX [] ?_|(refine zE ?_;(skip))|(((first|refine Yt ?_|skip);exact⟨trivial,_,_,rfl,rfl,.refl,wkE⟩))|((exfalso;(simp at h<;>omega)))|fail)
end Go.Av
end
noncomputable section
namespace Go.Av
open Go Go.Proofs
theorem lexesF_ls (s:List Nat):∀ (n a:Nat) (acc:List Lx),a<=s.length->acc.length<=a->s.length+1<=n+a->(∀ x ∈ acc,x.t.length<=s.length/\(x.k=2->NumT x.t)) ->
  (∃ ls:List Lx,lexesF s n a (acc.map encL)=(ls.map encL,0,0)/\ls.length<=s.length/\∀ x ∈ ls,x.t.length<=s.length/\(x.k=2->NumT x.t))\/∃ e q,lexesF s n a (acc.map encL)=([],e,q)/\e≠0
 |0,a,acc,h1,h2,h3,h4=>by omega
 |n+1,a,acc,h1,h2,h3,h4=>by
  have hle:=atF4_le h1;have hge:a<=atF4 s a:=Nat.le_add_right _ _;unfold lexesF;by_cases hp:atF4 s a=s.length
  .rw [if_pos hp]
   exact .inl ⟨acc,rfl,by omega,h4⟩
  .rw [if_neg hp]
   by_cases hk:(beginsF (s.drop (atF4 s a))).1=0
   .rw [if_pos hk]
    exact .inr ⟨3,_,rfl,by decide⟩
   .rw [if_neg hk]
    obtain⟨c,hc⟩:=get_ok (show atF4 s a<s.length by omega);have hd:=drop_cons hc;have hbl:=beginsF_len (s.drop (atF4 s a));rw [List.length_drop] at hbl;have hb1:1<=(beginsF (s.drop (atF4 s a))).2.length:=by rw [hd] at hk |-;exact beginsF_pos hk
    have hn:(beginsF (s.drop (atF4 s a))).1=2->NumT (beginsF (s.drop (atF4 s a))).2:=fun h=>by
     rw [hd] at h |-;exact beginsF_num (c:=c) (l:=s.drop (atF4 s a+1)) (Prod.ext h rfl)
    have:=lexesF_ls s n (atF4 s a+(beginsF (s.drop (atF4 s a))).2.length) (acc++[⟨(beginsF (s.drop (atF4 s a))).1,(beginsF (s.drop (atF4 s a))).2,atF4 s a⟩]) (by omega) (by simp;omega) (by omega) (fun x hx=>by
     rcases List.mem_append.1 hx with hx|hx
     .exact h4 x hx
     .rw [List.mem_singleton.1 hx]
      exact⟨by simp only;omega,hn⟩)
    rw [List.map_append] at this;exact this
theorem lexemesF_ls (s:List Nat) (hl:s.length<=1048576) :
  (∃ ls:List Lx,lexemesF s=(ls.map encL,0,0)/\LsB ls/\NumL ls)\/∃ e q,lexemesF s=([],e,q)/\e≠0:=by
 unfold lexemesF;by_cases h2:2000<s.length
 .rw [if_pos h2];exact .inr ⟨4,2000,rfl,by decide⟩
 .rw [if_neg h2]
  rcases lexesF_ls s (s.length+1) 0 [] (Nat.zero_le _) (Nat.le_refl _) (Nat.le_refl _) (fun x hx=>by cases hx) with⟨ls,h3,h4,h5⟩|h
  .exact .inl ⟨ls,h3,⟨by omega,fun x hx=>by have:=(h5 x hx).1;omega⟩,fun x hx=>(h5 x hx).2⟩
  .exact .inr h
end Go.Av
end
noncomputable section
namespace Go.Av
open Go Go.Proofs
set_option maxRecDepth 10000
set_option maxHeartbeats 4000000 in
theorem scanNumBad (s:List Nat) (p c:Nat) (hb:∀ c ∈ s,c<256) (hl:s.length<=1048576) (hp:p<=s.length) (hc:s[atF4 s p]?=some c) (hk:classI (c:Nat)=2)
  (hz:(c=48/\1<runL digitI (s.drop (atF4 s p)))\/clsAt s (atF4 s p+runL digitI (s.drop (atF4 s p)))=1\/clsAt s (atF4 s p+runL digitI (s.drop (atF4 s p)))=3) :
  ACall Tryz.prog 226 [.bp 0 0] [curO s p] (.tup [.d (lexD 0 [] 0),.d (faultD 3 (atF4 s p))]) (nextO s (atF4 s p+runL digitI (s.drop (atF4 s p))) 0 [] 0 3 (atF4 s p)):=by
 have cg:=scanGap bxs s p hb hl hp;have hq:=atF4_le hp;generalize atF4 s p=q at cg hc hq hz |-;have hlt:=(List.getElem?_eq_some_iff.1 hc).1;have cc:=curClass bxs s q hb hl hq;rw [show clsAt s q=2 by simp only [clsAt,hc];exact hk] at cc;have cw:=curDigits bxs s q hb hl hq;have hr:=runL_le digitI (s.drop q);rw [List.length_drop] at hr;generalize runL digitI (s.drop q)=n at cw hr hz |-;have c2:=curClass bxs s (q+n) hb hl (by omega);generalize clsAt s (q+n)=k at c2 hz;have hinc:AV.d (.int .i64 (IntKind.i64.wrap ((q:Int)+1)))=.d (.int .i64 ((q+1:Nat):Int)):=congrArg (fun x=>AV.d (.int .i64 x)) ((congrArg IntKind.i64.wrap (show(q:Int)+1=((q+1:Nat):Int) by omega)).trans (wrap_nat (by omega)));by_cases h48:c=48
 .subst h48
  by_cases h1n:1<n
  .refine acall_of_run Yo (fnAt Tryz.func226 (by kernel_rfl) (by kernel_rfl):FnAt _ _ (mkFn Tryz.f226 [33,40])) rfl rfl ?_
   repeat' (first|refine oX (frz:=[33,40]) (v:=.d (.int .i64 ((q+1:Nat):Int))) Yo ?_ (he:=(hinc))|refine eX (v:=.d (.int .i64 ((q+1:Nat):Int))) ?_ (he:=(hinc))|refine zW [33,40] ?_|(refine zB [33,40] ?_ ?_<;>intro h<;>try exact zk h)|refine zX [33,40] ?_|refine oI (frz:=[33,40]) (v:=.d (.int .u8 ((48:Nat):Int))) ?_ (he:=by first|(simp [gD,hc]<;>fail)|fail)|refine oA cg ?_|refine oA cc ?_|refine oA cw ?_|refine oA c2 ?_|(refine zE ?_;(skip))|((refine Yt ?_;exact⟨trivial,rfl,rfl⟩))|((exfalso;(simp at h<;>omega)))|fail)
  .have hz:k=1\/k=3:=by rcases hz with hz|hz;exact absurd hz.2 h1n;exact hz
   rcases hz with rfl|rfl
   .refine acall_of_run Yo (fnAt Tryz.func226 (by kernel_rfl) (by kernel_rfl):FnAt _ _ (mkFn Tryz.f226 [33,40])) rfl rfl ?_
    repeat' (first|refine oX (frz:=[33,40]) (v:=.d (.int .i64 ((q+1:Nat):Int))) Yo ?_ (he:=(hinc))|refine eX (v:=.d (.int .i64 ((q+1:Nat):Int))) ?_ (he:=(hinc))|refine zW [33,40] ?_|(refine zB [33,40] ?_ ?_<;>intro h<;>try exact zk h)|refine zX [33,40] ?_|refine oI (frz:=[33,40]) (v:=.d (.int .u8 ((48:Nat):Int))) ?_ (he:=by first|(simp [gD,hc]<;>fail)|fail)|refine oA cg ?_|refine oA cc ?_|refine oA cw ?_|refine oA c2 ?_|(refine zE ?_;(skip))|((refine Yt ?_;exact⟨trivial,rfl,rfl⟩))|((exfalso;(simp at h<;>omega)))|fail)
   .refine acall_of_run Yo (fnAt Tryz.func226 (by kernel_rfl) (by kernel_rfl):FnAt _ _ (mkFn Tryz.f226 [33,40])) rfl rfl ?_
    repeat' (first|refine oX (frz:=[33,40]) (v:=.d (.int .i64 ((q+1:Nat):Int))) Yo ?_ (he:=(hinc))|refine eX (v:=.d (.int .i64 ((q+1:Nat):Int))) ?_ (he:=(hinc))|refine zW [33,40] ?_|(refine zB [33,40] ?_ ?_<;>intro h<;>try exact zk h)|refine zX [33,40] ?_|refine oI (frz:=[33,40]) (v:=.d (.int .u8 ((48:Nat):Int))) ?_ (he:=by first|(simp [gD,hc]<;>fail)|fail)|refine oA cg ?_|refine oA cc ?_|refine oA cw ?_|refine oA c2 ?_|(refine zE ?_;(skip))|((refine Yt ?_;exact⟨trivial,rfl,rfl⟩))|((exfalso;(simp at h<;>omega)))|fail)
 .have hz:k=1\/k=3:=by rcases hz with hz|hz;exact absurd hz.1 h48;exact hz
  rcases hz with rfl|rfl
  .refine acall_of_run Yo (fnAt Tryz.func226 (by kernel_rfl) (by kernel_rfl):FnAt _ _ (mkFn Tryz.f226 [33,40])) rfl rfl ?_
   repeat' (first|refine oX (frz:=[33,40]) (v:=.d (.int .i64 ((q+1:Nat):Int))) Yo ?_ (he:=(hinc))|refine eX (v:=.d (.int .i64 ((q+1:Nat):Int))) ?_ (he:=(hinc))|refine zW [33,40] ?_|(refine zB [33,40] ?_ ?_<;>intro h<;>try exact zk h)|refine zX [33,40] ?_|refine oI (frz:=[33,40]) (v:=.d (.int .u8 (c:Nat))) ?_ (he:=by first|(simp [gD,hc]<;>fail)|fail)|refine oA cg ?_|refine oA cc ?_|refine oA cw ?_|refine oA c2 ?_|(refine zE ?_;(skip))|((refine Yt ?_;exact⟨trivial,rfl,rfl⟩))|((exfalso;(simp at h<;>omega)))|fail)
  .refine acall_of_run Yo (fnAt Tryz.func226 (by kernel_rfl) (by kernel_rfl):FnAt _ _ (mkFn Tryz.f226 [33,40])) rfl rfl ?_
   repeat' (first|refine oX (frz:=[33,40]) (v:=.d (.int .i64 ((q+1:Nat):Int))) Yo ?_ (he:=(hinc))|refine eX (v:=.d (.int .i64 ((q+1:Nat):Int))) ?_ (he:=(hinc))|refine zW [33,40] ?_|(refine zB [33,40] ?_ ?_<;>intro h<;>try exact zk h)|refine zX [33,40] ?_|refine oI (frz:=[33,40]) (v:=.d (.int .u8 (c:Nat))) ?_ (he:=by first|(simp [gD,hc]<;>fail)|fail)|refine oA cg ?_|refine oA cc ?_|refine oA cw ?_|refine oA c2 ?_|(refine zE ?_;(skip))|((refine Yt ?_;exact⟨trivial,rfl,rfl⟩))|((exfalso;(simp at h<;>omega)))|fail)
theorem ACall.weak {P:Program} {f:FuncId} {args:List AV} {A O A':List Ob} {r:AV} (h:ACall P f args A r O) (hw:WkObs O A') (hl:A'.length=A.length) (hr:A'.all (refOb A'.length)=true) (hrr:refA 8 A'.length r=true):ACall P f args A r A':=by
 refine⟨h.1,fun D β w vs hp hv=>(h.2 D β w vs hp hv).mono fun e w' he=>?_⟩;have hn:β.length<=A'.length:=by rw [hp.len,hl];exact Nat.le_refl _
 rcases he with⟨v,D',β',rfl,hs,hrep⟩|⟨y,v,D',β',rfl,rfl,hs,hrep⟩
 .exact .inl ⟨v,D',_,rfl,hs.weak hw hn hr,repA_take 8 hrr hrep⟩
 .exact .inr ⟨y,v,D',_,rfl,rfl,hs.weak hw hn hr,hrep⟩
theorem cut3 {s:List Nat} {q k:Nat} {t:List Nat} {a c d:Nat}:WkObs (nextO s q k t a c d) [curO s q]:=⟨.refl,trivial⟩
theorem class_iff {c:Nat} (h:c<256):(classI (c:Nat)=4 ↔ signI (c:Nat)=true)/\(classI (c:Nat)=1 ↔ letterI (c:Nat)=true)/\(classI (c:Nat)=2 ↔ digitI (c:Nat)=true)/\((classI (c:Nat)=1\/classI (c:Nat)=3) ↔ endI (c:Nat)=true):=by
 have h0:allTo (fun c=>((classI (c:Nat) == 4) == signI (c:Nat)) && ((classI (c:Nat) == 1) == letterI (c:Nat)) && ((classI (c:Nat) == 2) == digitI (c:Nat)) && (((classI (c:Nat) == 1) || (classI (c:Nat) == 3)) == endI (c:Nat))) 256=true:=by kernel_rfl
 have:=allTo_ok h0 c h;simp only [Bool.and_eq_true,beq_iff_eq] at this;obtain⟨⟨⟨h1,h2⟩,h3⟩,h4⟩:=this;refine⟨by rw [<- h1];simp,by rw [<- h2];simp,by rw [<- h3];simp,by rw [<- h4];simp⟩
abbrev scanT (s:List Nat) (p:Nat):AV :=
 if atF4 s p=s.length then .tup [.d (lexD 0 [] 0),.d (faultD 5 s.length)]
 else if(beginsF (s.drop (atF4 s p))).1=0 then .tup [.d (lexD 0 [] 0),.d (faultD 3 (atF4 s p))]
 else .tup [.d (lexD (beginsF (s.drop (atF4 s p))).1 (beginsF (s.drop (atF4 s p))).2 (atF4 s p)),.d (faultD 0 0)]
theorem scanAll (s:List Nat) (p:Nat) (hb:∀ c ∈ s,c<256) (hl:s.length<=1048576) (hp:p<=s.length) :
  ∃ p',p'<=s.length/\((beginsF (s.drop (atF4 s p))).1≠0->p'=atF4 s p+(beginsF (s.drop (atF4 s p))).2.length)/\ACall Tryz.prog 226 [.bp 0 0] [curO s p] (scanT s p) [curO s p']:=by
 unfold scanT;have hq:=atF4_le hp;by_cases he:atF4 s p=s.length
 .rw [if_pos he]
  refine⟨s.length,Nat.le_refl _,fun h=>?_,(scanEnd s p hb hl hp he).weak cut3 rfl rfl rfl⟩;rw [he,List.drop_length] at h;simp [beginsF] at h
 .rw [if_neg he]
  obtain⟨c,hc⟩:=get_ok (show atF4 s p<s.length by omega);have hlt:atF4 s p<s.length:=by omega
  have hd:=drop_cons hc;have hc256:=hb c (List.mem_of_getElem? hc);obtain⟨k4,k1,k2,_⟩:=class_iff hc256;have sW:=scanWord s p c hb hl hp hc;have sS:=scanSign s p c hb hl hp hc;have sN:=scanNum s p c hb hl hp hc;have sM:=scanNumBad s p c hb hl hp hc;have sB:=scanBad s p c hb hl hp hc;have rW:=runL_le wordI (s.drop (atF4 s p));have rD:=runL_le digitI (s.drop (atF4 s p));rw [List.length_drop] at rW rD;have e:∀ l,beginsF (c :: l)=if signI c then(3,[c]) else if letterI c then(1,(c :: l).take (1+runL wordI l)) else if digitI c then
   (if(c=48/\1<1+runL digitI l)\/(∃ e,(c :: l)[1+runL digitI l]?=some e/\endI e=true) then(0,[]) else(2,(c :: l).take (1+runL digitI l))) else(0,[]):=fun _=>rfl
  by_cases h4:signI (c:Nat)=true
  .have eB:beginsF (s.drop (atF4 s p))=(3,[c]):=by rw [hd,e,if_pos h4]
   rw [eB,if_neg (by simp)];exact⟨_,hlt,fun _=>rfl,(sS (k4.2 h4)).weak cut3 rfl rfl rfl⟩
  .by_cases h1:letterI (c:Nat)=true
   .have hw:wordI (c:Nat)=true:=by simp [wordI,h1]
    have eR:runL wordI (s.drop (atF4 s p))=1+runL wordI (s.drop (atF4 s p+1)):=by rw [hd,runL,if_pos hw]
    have eB:beginsF (s.drop (atF4 s p))=(1,(s.drop (atF4 s p)).take (runL wordI (s.drop (atF4 s p)))):=by
     rw [eR];conv=>lhs;rw [hd]
     rw [e,if_neg h4,if_pos h1,<- hd]
    rw [eB,if_neg (by simp)];refine⟨_,?_,fun _=>?_,(sW (k1.2 h1)).weak cut3 rfl rfl rfl⟩
    .omega
    .simp only [List.length_take,List.length_drop];omega
   .by_cases h2:digitI (c:Nat)=true
    .have eR:runL digitI (s.drop (atF4 s p))=1+runL digitI (s.drop (atF4 s p+1)):=by rw [hd,runL,if_pos h2]
     have hcls:(∃ e,(s.drop (atF4 s p))[runL digitI (s.drop (atF4 s p))]?=some e/\endI e=true) ↔ (clsAt s (atF4 s p+runL digitI (s.drop (atF4 s p)))=1\/clsAt s (atF4 s p+runL digitI (s.drop (atF4 s p)))=3):=by
      rw [List.getElem?_drop];unfold clsAt;cases hx:s[atF4 s p+runL digitI (s.drop (atF4 s p))]? with
      |none=>simp
      |some d =>
       have:=(class_iff (hb d (List.mem_of_getElem? hx))).2.2.2;simp only [Option.some.injEq,exists_eq_left'];exact this.symm
     have eB:beginsF (s.drop (atF4 s p))=if(c=48/\1<runL digitI (s.drop (atF4 s p)))\/(∃ e,(s.drop (atF4 s p))[runL digitI (s.drop (atF4 s p))]?=some e/\endI e=true) then(0,[]) else(2,(s.drop (atF4 s p)).take (runL digitI (s.drop (atF4 s p)))):=by
      rw [eR]
      conv=>lhs;rw [hd]
      rw [e,if_neg h4,if_neg h1,if_pos h2,<- hd]
     by_cases hz:(c=48/\1<runL digitI (s.drop (atF4 s p)))\/(∃ e,(s.drop (atF4 s p))[runL digitI (s.drop (atF4 s p))]?=some e/\endI e=true)
     .rw [if_pos hz] at eB
      rw [eB,if_pos rfl];exact⟨_,by omega,fun h=>absurd rfl h,(sM (k2.2 h2) (hz.imp id hcls.1)).weak cut3 rfl rfl rfl⟩
     .rw [if_neg hz] at eB
      rw [eB,if_neg (by simp)];have hz2:=fun h=>hz (.inr (hcls.2 h));refine⟨_,?_,fun _=>?_,(sN (k2.2 h2) (fun h=>hz (.inl h)) (fun h=>hz2 (.inl h)) (fun h=>hz2 (.inr h))).weak cut3 rfl rfl rfl⟩
      .omega
      .simp only [List.length_take,List.length_drop];omega
    .have eB:beginsF (s.drop (atF4 s p))=(0,[]):=by rw [hd,e,if_neg h4,if_neg h1,if_neg h2]
     rw [eB,if_pos rfl];exact⟨_,hq,fun h=>absurd rfl h,(sB (fun h=>h1 (k1.1 h)) (fun h=>h2 (k2.1 h)) (fun h=>h4 (k4.1 h))).weak cut3 rfl rfl rfl⟩
end Go.Av
end
noncomputable section
namespace Go.Av
open Go Go.Proofs
set_option maxRecDepth 10000
def lexesG (s:List Nat):Nat->Nat->List DV->List DV × Nat × Nat
 |0,_,acc=>(acc,5,s.length)
 |n+1,a,acc=>if atF4 s a=s.length then(acc,5,s.length) else if(beginsF (s.drop (atF4 s a))).1=0 then(acc,3,atF4 s a)
  else lexesG s n (atF4 s a+(beginsF (s.drop (atF4 s a))).2.length) (acc++[lexD (beginsF (s.drop (atF4 s a))).1 (beginsF (s.drop (atF4 s a))).2 (atF4 s a)])
abbrev endLx (r:List DV × Nat × Nat):List DV × Nat × Nat:=if r.2.1=5 then(r.1,0,0) else([],r.2)
theorem lexesG_F (s:List Nat):∀ (n a:Nat) (acc:List DV),a<=s.length->s.length+1<=n+a->endLx (lexesG s n a acc)=lexesF s n a acc/\((lexesG s n a acc).2.1=5/\(lexesG s n a acc).2.2=s.length\/(lexesG s n a acc).2.1=3)
 |0,a,acc,h1,h2=>by omega
 |n+1,a,acc,h1,h2=>by
  have hle:=atF4_le h1;have hge:a<=atF4 s a:=Nat.le_add_right _ _;unfold lexesG lexesF;by_cases hp:atF4 s a=s.length
  .rw [if_pos hp,if_pos hp];exact⟨rfl,.inl ⟨rfl,rfl⟩⟩
  .rw [if_neg hp,if_neg hp]
   by_cases hk:(beginsF (s.drop (atF4 s a))).1=0
   .rw [if_pos hk,if_pos hk];exact⟨rfl,.inr rfl⟩
   .rw [if_neg hk,if_neg hk]
    obtain⟨c,hc⟩:=get_ok (show atF4 s a<s.length by omega);have hd:=drop_cons hc;have hbl:=beginsF_len (s.drop (atF4 s a));rw [List.length_drop] at hbl;have:1<=(beginsF (s.drop (atF4 s a))).2.length:=by rw [hd] at hk |-;exact beginsF_pos hk
    exact lexesG_F s n _ _ (by omega) (by omega)
abbrev eachF (s:List Nat):DV:=.fn (.func 225) [] [.ep [.str s]]
theorem eachC (s:List Nat):KnownCall Tryz.prog 177 [.str s] (.d (eachF s)):=by
 refine knownE Yo (fnAt Tryz.func177 (by kernel_rfl) (by kernel_rfl):FnAt _ _ (mkFn Tryz.f177 [1])) ?_
 repeat refine zA [1] ?_
 refine Yt ?_;refine⟨trivial,_,_,by rfl,by rfl,Eq.trans (b:=some (.d (eachF s))) (by kernel_rfl) ?_⟩
 rfl
abbrev lxO (tm:PT AV) (nt:Nat) (frz:List Nat) (qs:Array Tmp) (ab bd:Code) (acc:List DV):List Ob :=
 [.box [.d .nilsl],.box [.d (.int .i64 0),.d (.int .i64 0)],.box [.sr 3 3 acc],.room acc.length 3,.raw (.deferred (some [])),.loop tm nt frz qs ab bd .ready none]
abbrev lxE (tm:PT AV) (nt:Nat) (frz:List Nat) (qs:Array Tmp) (ab bd:Code) (acc:List DV) (v:AV) (c a:Nat):List Ob :=
 [.box [v],.box [.d (.int .i64 (c:Nat)),.d (.int .i64 (a:Nat))],.box [.sr 3 3 acc],.room acc.length 3,.raw (.deferred (some [])),.loop tm nt frz qs ab bd .done (some .ret)]
abbrev lxR (tm:PT AV) (nt:Nat) (frz:List Nat) (qs:Array Tmp) (ab bd:Code) (r:List DV × Nat × Nat):List Ob :=
 if r.2.1=5 then lxE tm nt frz qs ab bd r.1 (.sr 3 3 r.1) 0 0 else lxE tm nt frz qs ab bd r.1 (.d .nilsl) r.2.1 r.2.2
set_option maxHeartbeats 4000000 in
theorem each1 (s:List Nat) (hb:∀ c ∈ s,c<256) (hl:s.length<=2000) (tm:PT AV) (nt:Nat) (frz:List Nat) (qs:Array Tmp) (ab bd:Code) (hT:∀ n,ptAll (refA 8 (6+n)) tm=true)
  (hok:∀ (acc:List DV) (p k a:Nat) (t:List Nat),acc.length<=2000->AYield Tryz.prog 5 [.d (lexD k t a),.d (faultD 0 0)] (lxO tm nt frz qs ab bd acc++[curO s p,.box [.d (.int .i64 (k:Nat)),.d (.str t),.d (.int .i64 (a:Nat))],.box [.d (.int .i64 (0:Nat)),.d (.int .i64 (0:Nat))]]) (.d (.bool true)) (lxO tm nt frz qs ab bd (acc++[lexD k t a])++[curO s p,.box [.d (.int .i64 (k:Nat)),.d (.str t),.d (.int .i64 (a:Nat))],.box [.d (.int .i64 (0:Nat)),.d (.int .i64 (0:Nat))]]))
  (hend:∀ (acc:List DV) (p c a:Nat),(c=5\/c=3)->AYield Tryz.prog 5 [.d (lexD 0 [] 0),.d (faultD c a)] (lxO tm nt frz qs ab bd acc++[curO s p,.box [.d (.int .i64 (0:Nat)),.d (.str []),.d (.int .i64 (0:Nat))],.box [.d (.int .i64 (c:Nat)),.d (.int .i64 (a:Nat))]]) (.d (.bool false)) (lxR tm nt frz qs ab bd (acc,c,a)++[curO s p,.box [.d (.int .i64 (0:Nat)),.d (.str []),.d (.int .i64 (0:Nat))],.box [.d (.int .i64 (c:Nat)),.d (.int .i64 (a:Nat))]])) :
  ACall Tryz.prog 225 [.yl 5,.d (.ep [.str s])] (lxO tm nt frz qs ab bd []) (.tup []) (lxR tm nt frz qs ab bd (lexesG s (s.length+1) 0 [])):=by
 obtain⟨R,hR⟩:∃ R,R=lexesG s (s.length+1) 0 []:=⟨_,rfl⟩
 rw [<- hR];have hlR:(lxR tm nt frz qs ab bd R).length=6:=by unfold lxR;split<;>rfl
 have hrR:(lxR tm nt frz qs ab bd R).all (refOb 6)=true:=by
  unfold lxR;split<;>(simp only [lxE,List.all_cons,List.all_nil,Bool.and_true];simp only [refOb,hT 0];rfl)
 have hrf:∀ (acc:List DV) (p:Nat),(lxO tm nt frz qs ab bd acc++[curO s p]).all (refOb 7)=true:=fun acc p=>by
  simp only [lxO,List.cons_append,List.nil_append,List.all_cons,List.all_nil,Bool.and_true];simp only [refOb,hT 1];rfl
 refine acallW_of_run Yo (fnAt Tryz.func225 (by kernel_rfl) (by kernel_rfl):FnAt _ _ (mkFn Tryz.f225 [])) rfl rfl hlR (by rw [hlR];exact hrR) rfl ?_
 repeat refine zA [] ?_
 refine Run.loopT (fun y:Nat × Nat × List DV=>⟨PT.ofList [(0,.yl 5),(3,.bp 6 0)],lxO tm nt frz qs ab bd y.2.2++[curO s y.2.1],[]⟩) (fun y=>y.2.1<=s.length/\y.2.2.length<=y.2.1/\s.length+1<=y.1+y.2.1/\lexesG s y.1 y.2.1 y.2.2=R) (fun y=>s.length-y.2.1) (s.length+1,0,[]) ⟨Nat.zero_le _,Nat.le_refl _,Nat.le_refl _,hR.symm⟩ (tidy_of (objs:=_) _ 7 (by rfl) rfl (by repeat' (first|exact trivial|refine⟨(Or.inl rfl),?_⟩|refine⟨(Or.inr rfl),?_⟩|fail)) (by repeat' (first|exact trivial|refine⟨rfl,?_⟩|fail)) (hrf [] 0) rfl) (fun y hy=>?_);obtain⟨n,a,acc⟩:=y;obtain⟨hy1,hy2,hy3,hy4⟩:=hy;simp only at hy1 hy2 hy3 hy4 |-;obtain⟨m,rfl⟩:∃ m,n=m+1:=⟨n-1,by omega⟩
 obtain⟨p',hp1,hp2,cn⟩:=scanAll s a hb (by omega) hy1;have hle:=atF4_le hy1;have hge:a<=atF4 s a:=Nat.le_add_right _ _;unfold lexesG at hy4;unfold scanT at cn;generalize atF4 s a=p at cn hle hge hy4 hp2;by_cases hp:p=s.length
 .rw [if_pos hp] at cn hy4
  subst hy4
  repeat' (first|refine zW [] ?_|(refine zB [] ?_ ?_<;>intro h<;>try exact zk h)|refine zX [] ?_|refine oE [6] cn ?_|refine RunOps.yield (by rfl) (by rfl) (hend acc p' 5 s.length (.inl rfl)) (by rfl) (by rfl) ?_|(refine zE ?_;(skip))|(((first|refine Yt ?_|skip);exact⟨trivial,_,_,rfl,rfl,.refl,wkE⟩))|((exfalso;first|(simp at h<;>fail)|(simp at h;omega)))|fail)
 .rw [if_neg hp] at cn hy4
  obtain⟨c,hc⟩:=get_ok (show p<s.length by omega);have hd:=drop_cons hc;have hbl:=beginsF_len (s.drop p);have hbp:(beginsF (s.drop p)).1≠0->1<=(beginsF (s.drop p)).2.length:=by rw [hd];exact beginsF_pos
  rw [List.length_drop] at hbl;generalize beginsF (s.drop p)=b at cn hbl hbp hy4 hp2;obtain⟨k,t⟩:=b;simp only at cn hbl hbp hy4 hp2;by_cases hk:k=0
  .rw [if_pos hk] at cn hy4
   subst hy4
   repeat' (first|refine zW [] ?_|(refine zB [] ?_ ?_<;>intro h<;>try exact zk h)|refine zX [] ?_|refine oE [6] cn ?_|refine RunOps.yield (by rfl) (by rfl) (hend acc p' 3 p (.inr rfl)) (by rfl) (by rfl) ?_|(refine zE ?_;(skip))|(((first|refine Yt ?_|skip);exact⟨trivial,_,_,rfl,rfl,.refl,wkE⟩))|((exfalso;first|(simp at h<;>fail)|(simp at h;omega)))|fail)
  .rw [if_neg hk] at cn hy4
   have ht:=hbp hk;have hp':=hp2 hk;subst hp'
   repeat' (first|refine zW [] ?_|(refine zB [] ?_ ?_<;>intro h<;>try exact zk h)|refine zX [] ?_|refine oE [6] cn ?_|refine RunOps.yield (by rfl) (by rfl) (hok acc (p+t.length) k p t (by omega)) (by rfl) (by rfl) ?_|(refine zE ?_;(skip))|((exfalso;first|(simp at h<;>fail)|(simp at h;omega)))|fail)
   exact⟨(m,p+t.length,acc++[lexD k t p]),⟨by simp only<;>omega,by simp only [List.length_append,List.length_cons,List.length_nil]<;>omega,by simp only<;>omega,hy4⟩,by simp only<;>omega,tidy_of (objs:=_) _ 7 (by rfl) rfl (by repeat' (first|exact trivial|refine⟨(Or.inl rfl),?_⟩|refine⟨(Or.inr rfl),?_⟩|fail)) (by repeat' (first|exact trivial|refine⟨rfl,?_⟩|fail)) (hrf _ _) rfl⟩
end Go.Av
end
noncomputable section
namespace Go.Av
open Go Go.Proofs
set_option maxRecDepth 10000
theorem Run.rangeLex {nt m:Nat} {frz:List Nat} {K:Ex->S->Prop} {tm:PT AV} {dl:List Dl} {f:Operand} {qs:Array Tmp} {ab bd:Code} (s:List Nat) (hb:∀ c ∈ s,c<256) (hl:s.length<=2000) (hf:rd tm f=.d (eachF s)) (hT:∀ n,ptAll (refA 8 (6+n)) tm=true)
  (hok:∀ (acc:List DV) (p k a:Nat) (t:List Nat),acc.length<=2000->AYield Tryz.prog 5 [.d (lexD k t a),.d (faultD 0 0)] (lxO tm nt frz qs ab bd acc++[curO s p,.box [.d (.int .i64 (k:Nat)),.d (.str t),.d (.int .i64 (a:Nat))],.box [.d (.int .i64 (0:Nat)),.d (.int .i64 (0:Nat))]]) (.d (.bool true)) (lxO tm nt frz qs ab bd (acc++[lexD k t a])++[curO s p,.box [.d (.int .i64 (k:Nat)),.d (.str t),.d (.int .i64 (a:Nat))],.box [.d (.int .i64 (0:Nat)),.d (.int .i64 (0:Nat))]]))
  (hend:∀ (acc:List DV) (p c a:Nat),(c=5\/c=3)->AYield Tryz.prog 5 [.d (lexD 0 [] 0),.d (faultD c a)] (lxO tm nt frz qs ab bd acc++[curO s p,.box [.d (.int .i64 (0:Nat)),.d (.str []),.d (.int .i64 (0:Nat))],.box [.d (.int .i64 (c:Nat)),.d (.int .i64 (a:Nat))]]) (.d (.bool false)) (lxR tm nt frz qs ab bd (acc,c,a)++[curO s p,.box [.d (.int .i64 (0:Nat)),.d (.str []),.d (.int .i64 (0:Nat))],.box [.d (.int .i64 (c:Nat)),.d (.int .i64 (a:Nat))]]))
  (hk:∀ (acc:List DV) (v:AV) (c a:Nat),(resL (lexemesF s)=.tup [.d (.sl 3 acc),.d (faultD c a)]/\v=.sr 3 3 acc\/resL (lexemesF s)=.tup [.d (.sl 3 []),.d (faultD c a)]/\v=.d .nilsl) ->
   K .ret ⟨tm,[.box [v],.box [.d (.int .i64 (c:Nat)),.d (.int .i64 (a:Nat))],.box [.sr 3 3 acc],.room acc.length 3,.raw (.deferred (some [])),.loop tm nt frz qs ab bd .exhausted (some .ret)],.mark 4 :: dl⟩) :
  Run Tryz.prog nt m none (.rangeFunc f qs ab bd) ⟨tm,[.box [.d .nilsl],.box [.d (.int .i64 0),.d (.int .i64 0)],.box [.sr 3 3 []],.room 0 3],dl⟩ K:=by
 have hm:Tryz.prog.follows .mixedOrders=true:=by kernel_rfl
 have hA:=each1 s hb hl tm nt frz qs ab bd hT hok hend;have hF:lexemesF s=lexesF s (s.length+1) 0 []:=by unfold lexemesF;rw [if_neg (by omega)]
 obtain⟨h1,h2⟩:=lexesG_F s (s.length+1) 0 [] (Nat.zero_le _) (Nat.le_refl _);rw [<- hF] at h1;generalize lexesG s (s.length+1) 0 []=R at hA h1 h2;obtain⟨acc,c,a⟩:=R;simp only at h1 h2;by_cases hc:c=5
 .subst hc
  rw [show lxR tm nt frz qs ab bd (acc,5,a)=lxE tm nt frz qs ab bd acc (.sr 3 3 acc) 0 0 from if_pos rfl] at hA;rw [show endLx (acc,5,a)=(acc,0,0) from if_pos rfl] at h1;exact Run.range Yo hm hf hA rfl (by rfl) (by simp) (hk acc (.sr 3 3 acc) 0 0 (.inl ⟨by rw [<- h1],rfl⟩))
 .rw [show lxR tm nt frz qs ab bd (acc,c,a)=lxE tm nt frz qs ab bd acc (.d .nilsl) c a from if_neg hc] at hA
  rw [show endLx (acc,c,a)=([],c,a) from if_neg hc] at h1;exact Run.range Yo hm hf hA rfl (by rfl) (by simp) (hk acc (.d .nilsl) c a (.inr ⟨by rw [<- h1],rfl⟩))
set_option maxHeartbeats 8000000 in
theorem lexemesP (s:List Nat) (hb:∀ c ∈ s,c<256) (hl:s.length<=1048576):KnownCall Tryz.prog 96 [.str s] (resL (lexemesF s)):=by
 by_cases h2:2000<s.length
 .unfold lexemesF
  rw [if_pos h2];refine knownE2 Yo (fnAt Tryz.func96 (by kernel_rfl) (by kernel_rfl):FnAt _ _ (mkFn Tryz.f96 [22])) ?_
  repeat' (first|refine zW [22] ?_|(refine zB [22] ?_ ?_<;>intro h<;>try exact zk h)|refine zX [22] ?_|(refine Yt ?_;refine r2 ?_;first|done|(exact .tup2 .nil .refl))|((exfalso;first|(simp at h<;>fail)|(simp at h;omega)))|fail)
 .have ce:=eachC s
  obtain⟨R,hR⟩:∃ R,R=resL (lexemesF s):=⟨_,rfl⟩
  rw [<- hR];refine knownE2 Yo (fnAt Tryz.func96 (by kernel_rfl) (by kernel_rfl):FnAt _ _ (mkFn Tryz.f96 [22])) ?_
  repeat' (first|refine zW [22] ?_|(refine zB [22] ?_ ?_<;>intro h<;>try exact zk h)|refine zX [22] ?_|refine zC (ce) ?_|(refine Yt ?_;refine r2 ?_;first|done|(skip))|((exfalso;first|(simp at h<;>fail)|(simp at h;omega)))|fail)
  refine Run.cellRoom 2 0 3 ?_;refine Run.tidy (s':=⟨PT.ofList [(2,.bp 0 0),(3,.bp 1 0),(4,.bp 2 0),(12,.d (eachF s))],[.box [.d .nilsl],.box [.d (.int .i64 0),.d (.int .i64 0)],.box [.sr 3 3 []],.room 0 3],[]⟩) (ti _ 4) ?_;refine Run.rangeLex (frz:=[22]) s hb (by omega) (by rfl) (fun n=>?_) (fun acc p k a t hal=>?_) (fun acc p c a hc=>?_) (fun acc v c a hk=>?_)
  .rw [show 6+n=n+6 from by omega];rfl
  .unfold lxO
   rw [show(acc++[lexD k t a]).length=acc.length+1 from by simp];refine ayield_of_run (i:=5) (by rfl) (by rfl) (by rfl) ?_
   repeat refine zA [22] ?_
   refine⟨rfl,_,_,_,_,_,_,_,by rfl,?_⟩;refine Run.less ?_
   repeat' (first|refine zW [22] ?_|(refine zB [22] ?_ ?_<;>intro h<;>try exact zk h)|refine zX [22] ?_|refine oX (frz:=[22]) Yo ?_ (hv:=app1) (hf:=rfl) (he:=rfl)|refine eX ?_ (hv:=app1) (hf:=rfl) (he:=rfl)|refine oX (frz:=[22]) Yo ?_ (hv:=app0) (hf:=rfl) (he:=rfl)|refine eX ?_ (hv:=app0) (hf:=rfl) (he:=rfl)|(exact⟨rfl,_,less_of [] 9 rfl (by rfl) trivial trivial (by kernel_rfl) rfl,_,_,_,_,_,_,_,_,by rfl,rfl,by rfl⟩)|((exfalso;(simp_all<;>fail)))|fail)
  .rcases hc with rfl|rfl
   .rw [show lxR _ _ _ _ _ _ (acc,5,a)=lxE _ _ _ _ _ _ acc (.sr 3 3 acc) 0 0 from if_pos rfl]
    refine ayield_of_run (i:=5) (by rfl) (by rfl) (by rfl) ?_
    repeat refine zA [22] ?_
    refine⟨rfl,_,_,_,_,_,_,_,by rfl,?_⟩;refine Run.less ?_
    repeat' (first|refine zW [22] ?_|(refine zB [22] ?_ ?_<;>intro h<;>try exact zk h)|refine zX [22] ?_|((first|refine Yt ?_|skip);exact⟨rfl,_,less_of [] 9 rfl (by rfl) trivial trivial (by kernel_rfl) rfl,_,_,_,_,_,_,_,_,by rfl,rfl,by rfl⟩)|((exfalso;(simp_all<;>fail)))|fail)
   .rw [show lxR _ _ _ _ _ _ (acc,3,a)=lxE _ _ _ _ _ _ acc (.d .nilsl) 3 a from if_neg (show ¬ (3:Nat)=5 by decide)]
    refine ayield_of_run (i:=5) (by rfl) (by rfl) (by rfl) ?_
    repeat refine zA [22] ?_
    refine⟨rfl,_,_,_,_,_,_,_,by rfl,?_⟩;refine Run.less ?_
    repeat' (first|refine zW [22] ?_|(refine zB [22] ?_ ?_<;>intro h<;>try exact zk h)|refine zX [22] ?_|((first|refine Yt ?_|skip);exact⟨rfl,_,less_of [] 9 rfl (by rfl) trivial trivial (by kernel_rfl) rfl,_,_,_,_,_,_,_,_,by rfl,rfl,by rfl⟩)|((exfalso;(simp_all<;>fail)))|fail)
  .rcases hk with⟨h1,rfl⟩|⟨h1,rfl⟩
   .rw [hR,h1]
    refine r2 ?_;exact .refl
   .rw [hR,h1]
    refine r2 ?_;exact .tup2 .nil .refl
end Go.Av
end
noncomputable section
namespace Go.Av
open Go Go.Proofs
set_option maxRecDepth 10000
theorem mixedOK:Tryz.prog.follows .mixedOrders=true:=by kernel_rfl
theorem deferN (objs:List Ob):ADefer Tryz.prog 97 [.bp 0 0,.bp 1 0] none objs none objs :=
 evDefer_ok Yo H0_ok mixedOK Ft_ok (n:=40) (by rfl)
abbrev pX (s:List Nat) (p:PS):List Ob:=[oZX,oZF,.map (kvN p.names),.box [.d (.str s),.d (.sl 3 (p.l.map encL)),.d (.int .i64 p.x.k),.sr 4 1 (p.x.tokens.map .str),.d (.str p.x.sep),.d (.str p.x.start),.sr 5 2 (p.x.rules.map encR),.mp 2,.sr 6 2 (p.uses.map encU),.d (.int .i64 (p.total:Nat))],.room p.x.tokens.length 1,.room p.x.rules.length 2,.room p.uses.length 2]
theorem deferP (e:Fa):ADefer Tryz.prog 97 [.bp 0 0,.bp 1 0] (some (refD e)) [oZX,oZF,.gone,.gone,.gone,.gone,.gone] none
  [oZX,.box [.d (.int .i64 (e.1:Nat)),.d (.int .i64 (e.2:Nat))],.gone,.gone,.gone,.gone,.gone,.box [.d (.int .i64 (e.1:Nat)),.d (.int .i64 (e.2:Nat))]] :=
 evDefer_ok Yo H0_ok mixedOK Ft_ok (n:=40) (by rfl)
abbrev fnsP:DV:=.agg [.fn (.func 98) [] [],.fn (.func 99) [] [],.fn (.func 100) [] [],.fn (.func 101) [] [],.fn (.func 102) [] [],.fn (.func 103) [] []]
abbrev dlP:List Dl:=[.call 97 [.bp 0 0,.bp 1 0]]
set_option maxHeartbeats 8000000 in
theorem parseP (s:List Nat) (ls:List Lx) (hb:∀ c ∈ s,c<256) (hs:s.length<=1048576) (hl:LsB ls) (hn:NumL ls) (hlex:lexemesF s=(ls.map encL,0,0)) :
  KnownCall Tryz.prog 27 [.str s] (resX (resP (readP s ls))):=by
 have cl:=lexemesP s hb hs;rw [hlex] at cl;rw [readP_rest];obtain⟨R,hR⟩:∃ R,R=restP s 6 0 ⟨ls,src0,[],[],0⟩:=⟨_,rfl⟩
 rw [<- hR];refine knownED Yo (fnAt Tryz.func27 (by kernel_rfl) (by kernel_rfl):FnAt _ _ (mkFn Tryz.f27 [])) ?_
 repeat' (first|refine zW [] ?_|(refine zB [] ?_ ?_<;>intro h<;>try exact zk h)|refine zX [] ?_|refine zC (cl) ?_|refine RunOps.deferOp (by rfl) rfl (by rfl) ?_|(refine zE ?_;(skip))|((exfalso;first|(simp at h<;>fail)|(simp at h;omega)))|fail)
 refine Run.tidy (s':=⟨PT.ofList [(2,.bp 0 0),(3,.bp 1 0),(5,.bp 3 0),(24,.d fnsP),(25,.d (.int .i64 ((0:Nat):Int)))],[oZX,oZF,.map [],.box [.d (.str s),.d (.sl 3 (ls.map encL)),.d (.int .i64 0),.d .nilsl,.d (.str []),.d (.str []),.d .nilsl,.mp 2,.d .nilsl,.d (.int .i64 0)]],dlP⟩) (ti _ 4) ?_;refine Run.cellRoom 3 3 1 ?_;refine Run.cellRoom 3 6 2 ?_;refine Run.cellRoom 3 8 2 ?_;have j0:JP ls ⟨ls,src0,[],[],0⟩:=⟨fun _ h=>h,Nat.le_refl _,by simp,by simp,by simp,by simp⟩
 refine Run.loopT (fun y:Nat × Nat × PS=>⟨PT.ofList [(2,.bp 0 0),(3,.bp 1 0),(5,.bp 3 0),(24,.d fnsP),(25,.d (.int .i64 (y.2.1:Nat)))],pX s y.2.2,dlP⟩)
  (fun y=>y.1+y.2.1=6/\JP ls y.2.2/\(y.2.1=0->NumL y.2.2.l)/\restP s y.1 y.2.1 y.2.2=R) (fun y=>y.1) (6,0,⟨ls,src0,[],[],0⟩) ⟨rfl,j0,fun _=>hn,hR.symm⟩ (ti _ 7) (fun y hy=>?_)
 obtain⟨n,k,p⟩:=y;obtain⟨h1,h2,h3,h4⟩:=hy;simp only at h1 h2 h3 h4 |-;have pb:=h2.pb hl
 rcases(show k=0\/k=1\/k=2\/k=3\/k=4\/k=5\/k=6 by omega) with rfl|rfl|rfl|rfl|rfl|rfl|rfl
 .obtain rfl:n=5+1:=by omega
  have c0:=lookC s p pb (h3 rfl);have h4:(stepP s 0 p).bind (fun p=>restP s 5 1 p)=R:=h4;cases hq:stepP s 0 p with
  |error e =>
   rw [hq] at h4;rw [show lookP s p=.error e from hq] at c0;simp only [Except.bind] at h4;subst h4
   repeat' (first|refine zW [] ?_|(refine zB [] ?_ ?_<;>intro h<;>try exact zk h)|refine zX [] ?_|refine oEP [3,4,5,2,6] c0 ?_|(refine zE ?_;(skip))|((exact endD rfl (.inr ⟨_,_,rfl,deferP e⟩) (by rfl) (by rfl) (.tup2 srcZ_to .refl)))|((exfalso;(simp at h<;>omega)))|fail)
  |ok q =>
   rw [hq] at h4;rw [show lookP s p=.ok q from hq] at c0;have h4:restP s 5 1 q=R:=h4;have jq:=h2.stepL hq
   repeat' (first|refine zW [] ?_|(refine zB [] ?_ ?_<;>intro h<;>try exact zk h)|refine zX [] ?_|refine oE [3,4,5,2,6] c0 ?_|(refine zE ?_;(skip))|(exact⟨(5,1,q),⟨rfl,jq,fun h=>(nomatch h),h4⟩,Nat.lt_succ_self _,(ti _ 7)⟩)|((exfalso;(simp at h<;>omega)))|fail)
 .obtain rfl:n=4+1:=by omega
  have c0:=tokensC s p pb h2.toks;have h4:(stepP s 1 p).bind (fun p=>restP s 4 2 p)=R:=h4;cases hq:stepP s 1 p with
  |error e =>
   rw [hq] at h4;rw [show tokensP s p=.error e from hq] at c0;simp only [Except.bind] at h4;subst h4
   repeat' (first|refine zW [] ?_|(refine zB [] ?_ ?_<;>intro h<;>try exact zk h)|refine zX [] ?_|refine oEP [3,4,5,2,6] c0 ?_|(refine zE ?_;(skip))|((exact endD rfl (.inr ⟨_,_,rfl,deferP e⟩) (by rfl) (by rfl) (.tup2 srcZ_to .refl)))|((exfalso;(simp at h<;>omega)))|fail)
  |ok q =>
   rw [hq] at h4;rw [show tokensP s p=.ok q from hq] at c0;have h4:restP s 4 2 q=R:=h4;have jq:=h2.stepL hq
   repeat' (first|refine zW [] ?_|(refine zB [] ?_ ?_<;>intro h<;>try exact zk h)|refine zX [] ?_|refine oE [3,4,5,2,6] c0 ?_|(refine zE ?_;(skip))|(exact⟨(4,2,q),⟨rfl,jq,fun h=>(nomatch h),h4⟩,Nat.lt_succ_self _,(ti _ 7)⟩)|((exfalso;(simp at h<;>omega)))|fail)
 .obtain rfl:n=3+1:=by omega
  have c0:=sepC s p pb;have h4:(stepP s 2 p).bind (fun p=>restP s 3 3 p)=R:=h4;cases hq:stepP s 2 p with
  |error e =>
   rw [hq] at h4;rw [show sepQ s p=.error e from hq] at c0;simp only [Except.bind] at h4;subst h4
   repeat' (first|refine zW [] ?_|(refine zB [] ?_ ?_<;>intro h<;>try exact zk h)|refine zX [] ?_|refine oEP [3,4,5,2,6] c0 ?_|(refine zE ?_;(skip))|((exact endD rfl (.inr ⟨_,_,rfl,deferP e⟩) (by rfl) (by rfl) (.tup2 srcZ_to .refl)))|((exfalso;(simp at h<;>omega)))|fail)
  |ok q =>
   rw [hq] at h4;rw [show sepQ s p=.ok q from hq] at c0;have h4:restP s 3 3 q=R:=h4;have jq:=h2.stepL hq
   repeat' (first|refine zW [] ?_|(refine zB [] ?_ ?_<;>intro h<;>try exact zk h)|refine zX [] ?_|refine oE [3,4,5,2,6] c0 ?_|(refine zE ?_;(skip))|(exact⟨(3,3,q),⟨rfl,jq,fun h=>(nomatch h),h4⟩,Nat.lt_succ_self _,(ti _ 7)⟩)|((exfalso;(simp at h<;>omega)))|fail)
 .obtain rfl:n=2+1:=by omega
  have c0:=startC s p pb;have h4:(stepP s 3 p).bind (fun p=>restP s 2 4 p)=R:=h4;cases hq:stepP s 3 p with
  |error e =>
   rw [hq] at h4;rw [show startP s p=.error e from hq] at c0;simp only [Except.bind] at h4;subst h4
   repeat' (first|refine zW [] ?_|(refine zB [] ?_ ?_<;>intro h<;>try exact zk h)|refine zX [] ?_|refine oEP [3,4,5,2,6] c0 ?_|(refine zE ?_;(skip))|((exact endD rfl (.inr ⟨_,_,rfl,deferP e⟩) (by rfl) (by rfl) (.tup2 srcZ_to .refl)))|((exfalso;(simp at h<;>omega)))|fail)
  |ok q =>
   rw [hq] at h4;rw [show startP s p=.ok q from hq] at c0;have h4:restP s 2 4 q=R:=h4;have jq:=h2.stepL hq
   repeat' (first|refine zW [] ?_|(refine zB [] ?_ ?_<;>intro h<;>try exact zk h)|refine zX [] ?_|refine oE [3,4,5,2,6] c0 ?_|(refine zE ?_;(skip))|(exact⟨(2,4,q),⟨rfl,jq,fun h=>(nomatch h),h4⟩,Nat.lt_succ_self _,(ti _ 7)⟩)|((exfalso;(simp at h<;>omega)))|fail)
 .obtain rfl:n=1+1:=by omega
  have c0:=rulesC s p pb h2.rules h2.total;have h4:(stepP s 4 p).bind (fun p=>restP s 1 5 p)=R:=h4;cases hq:stepP s 4 p with
  |error e =>
   rw [hq] at h4;rw [show rulesP s (p.l.length+1) true p=.error e from hq] at c0;simp only [Except.bind] at h4;subst h4
   repeat' (first|refine zW [] ?_|(refine zB [] ?_ ?_<;>intro h<;>try exact zk h)|refine zX [] ?_|refine oEP [3,4,5,2,6] c0 ?_|(refine zE ?_;(skip))|((exact endD rfl (.inr ⟨_,_,rfl,deferP e⟩) (by rfl) (by rfl) (.tup2 srcZ_to .refl)))|((exfalso;(simp at h<;>omega)))|fail)
  |ok q =>
   rw [hq] at h4;rw [show rulesP s (p.l.length+1) true p=.ok q from hq] at c0;have h4:restP s 1 5 q=R:=h4;have jq:=h2.stepL hq
   repeat' (first|refine zW [] ?_|(refine zB [] ?_ ?_<;>intro h<;>try exact zk h)|refine zX [] ?_|refine oE [3,4,5,2,6] c0 ?_|(refine zE ?_;(skip))|(exact⟨(1,5,q),⟨rfl,jq,fun h=>(nomatch h),h4⟩,Nat.lt_succ_self _,(ti _ 7)⟩)|((exfalso;(simp at h<;>omega)))|fail)
 .obtain rfl:n=0+1:=by omega
  have c0:=usedC s p pb;have h4:(stepP s 5 p).bind (fun p=>restP s 0 6 p)=R:=h4;cases hq:stepP s 5 p with
  |error e =>
   rw [hq] at h4;rw [show usedP p=.error e from hq] at c0;simp only [Except.bind] at h4;subst h4
   repeat' (first|refine zW [] ?_|(refine zB [] ?_ ?_<;>intro h<;>try exact zk h)|refine zX [] ?_|refine oEP [3,4,5,2,6] c0 ?_|(refine zE ?_;(skip))|((exact endD rfl (.inr ⟨_,_,rfl,deferP e⟩) (by rfl) (by rfl) (.tup2 srcZ_to .refl)))|((exfalso;(simp at h<;>omega)))|fail)
  |ok q =>
   rw [hq] at h4;rw [show usedP p=.ok q from hq] at c0;have h4:restP s 0 6 q=R:=h4;have jq:=h2.stepL hq
   repeat' (first|refine zW [] ?_|(refine zB [] ?_ ?_<;>intro h<;>try exact zk h)|refine zX [] ?_|refine oE [3,4,5,2,6] c0 ?_|(refine zE ?_;(skip))|(exact⟨(0,6,q),⟨rfl,jq,fun h=>(nomatch h),h4⟩,Nat.lt_succ_self _,(ti _ 7)⟩)|((exfalso;(simp at h<;>omega)))|fail)
 .obtain rfl:n=0:=by omega
  have h4:(.ok p:Except Fa PS)=R:=h4;subst h4
  repeat' (first|refine zW [] ?_|(refine zB [] ?_ ?_<;>intro h<;>try exact zk h)|refine zX [] ?_|(refine zE ?_;(skip))|((refine Yt ?_;exact endD rfl (.inr ⟨_,_,rfl,deferN _⟩) (by rfl) (by rfl) (.tup2 .refl .refl)))|((exfalso;(simp at h<;>omega)))|fail)
end Go.Av
end
noncomputable section
namespace Go.Av
open Go Go.Proofs
set_option maxRecDepth 10000
end Go.Av
end
noncomputable section
namespace Go.Av
open Go Go.Proofs
set_option maxRecDepth 10000
end Go.Av
end
noncomputable section
namespace Go.Av
open Go Go.Proofs
set_option maxRecDepth 10000
end Go.Av
end
noncomputable section
namespace Go.Av
open Go Go.Proofs
set_option maxRecDepth 10000
section
variable {H:Hd} {frz:List Nat} {rd:Operand->AV} {objs:List Ob} {o:Oper} {args:Array Operand} {tys:Array TypeId} {a b:Operand}
end
end Go.Av
end
noncomputable section
namespace Go.Av
open Go Go.Proofs
set_option maxRecDepth 10000
section
variable {H:Hd} {frz:List Nat} {rd:Operand->AV} {objs:List Ob} {o:Oper} {args:Array Operand} {tys:Array TypeId} {a b:Operand}
end
end Go.Av
end
noncomputable section
namespace Go.Av
open Go Go.Proofs
set_option maxRecDepth 10000
end Go.Av
end
noncomputable section
namespace Go.Av
open Go Go.Proofs
set_option maxRecDepth 10000
end Go.Av
end
namespace Go.Proofs
open Go.Shelf
end Go.Proofs
noncomputable section
namespace Go.Av
open Go Go.Proofs
set_option maxRecDepth 10000
end Go.Av
end
noncomputable section
namespace Go.Av
open Go Go.Proofs
set_option maxRecDepth 10000
theorem rulesTo_succ {x:Src} {i:Nat} {r:SRule} (h:x.rules[i]?=some r):rulesTo x (i+1)=rulesTo x i++ruleP r:=by
 unfold rulesTo;rw [List.take_add_one,h];simp
theorem rulesTo_le (x:Src) {i j:Nat} (h:i<=j):(rulesTo x i).length<=(rulesTo x j).length:=by
 unfold rulesTo;obtain⟨d,rfl⟩:∃ d,j=i+d:=⟨j-i,by omega⟩
 rw [List.take_add,List.flatMap_append,List.length_append];omega
theorem altsTo_le (al:List (List (List Nat))) {i j:Nat} (h:i<=j):(altsTo al i).length<=(altsTo al j).length:=by
 induction j with
 |zero =>
  have:i=0:=by omega
  subst this;exact Nat.le_refl _
 |succ j ih =>
  rcases Nat.lt_or_ge i (j+1) with h1|h1
  .have:=ih (by omega)
   simp only [altsTo,List.length_append];omega
  .have:i=j+1:=by omega
   subst this;exact Nat.le_refl _
def altTo (a:List (List Nat)) (n:Nat):List Nat:=altTx (a.take n)
theorem altTo_succ {a:List (List Nat)} {i:Nat} {s:List Nat} (h:a[i]?=some s):altTo a (i+1)=altTo a i++(32 :: s):=by
 unfold altTo altTx;rw [List.take_add_one,h];simp
theorem altTo_le (a:List (List Nat)) (i:Nat):(altTo a i).length<=(altTx a).length:=by
 unfold altTo altTx
 conv=>rhs;rw [<- List.take_append_drop i a,List.flatMap_append,List.length_append]
 omega
end Go.Av
end
noncomputable section
namespace Go.Av
open Go Go.Proofs
set_option maxRecDepth 10000
def sepP:Nat->List Nat
 |0=>[]
 |_+1=>[44,32]
def joinTo (l:List (List Nat)):Nat->List Nat
 |0=>[]
 |n+1=>joinTo l n++sepP n++l.getD n []
theorem inter_snoc (sep a:List Nat):∀ l:List (List Nat),l≠[]->List.intercalate sep (l++[a])=List.intercalate sep l++sep++a
 |[],h=>absurd rfl h
 |[x],_=>by simp [List.intercalate,List.intersperse]
 |x :: y :: l,_=>by
  have ih:=inter_snoc sep a (y :: l) (by simp);simp only [List.intercalate,List.cons_append,List.intersperse,List.flatten_cons,List.append_assoc] at ih |-;rw [ih]
theorem joinTo_inter (l:List (List Nat)):∀ n,n<=l.length->joinTo l n=List.intercalate [44,32] (l.take n)
 |0,_=>by simp [joinTo,List.intercalate]
 |n+1,h=>by
  have ih:=joinTo_inter l n (by omega);have hg:l[n]?=some l[n]:=by simp [h]
  have hd:l.getD n []=l[n]:=by rw [List.getD_eq_getElem?_getD,hg];rfl
  rw [joinTo,ih,hd,List.take_add_one,hg];cases n with
  |zero=>simp [List.intercalate,sepP]
  |succ n =>
   have hne:l.take (n+1)≠[]:=by
    intro e;have hl:=congrArg List.length e;rw [List.length_take] at hl;simp only [List.length_nil] at hl;omega
   rw [show(some l[n+1]).toList=[l[n+1]] from rfl,inter_snoc _ _ _ hne];rfl
theorem joinTo_z {l:List (List Nat)} {s:List Nat} (h:l[0]?=some s):joinTo l (0+1)=joinTo l 0++s:=by
 have hd:l.getD 0 []=s:=by rw [List.getD_eq_getElem?_getD,h];rfl
 show []++[]++l.getD 0 []=[]++s
 rw [hd];rfl
theorem joinTo_p {l:List (List Nat)} {n:Nat} {s:List Nat} (h0:0<n) (h:l[n]?=some s):joinTo l (n+1)=joinTo l n++[44,32]++s:=by
 have hd:l.getD n []=s:=by rw [List.getD_eq_getElem?_getD,h];rfl
 obtain⟨m,rfl⟩:∃ m,n=m+1:=⟨n-1,by omega⟩
 rw [joinTo,hd];rfl
theorem joinTo_le (l:List (List Nat)) {i j:Nat} (h:i<=j):(joinTo l i).length<=(joinTo l j).length:=by
 induction j with
 |zero =>
  have:i=0:=by omega
  subst this;exact Nat.le_refl _
 |succ j ih =>
  rcases Nat.lt_or_ge i (j+1) with h1|h1
  .have:=ih (by omega)
   simp only [joinTo,List.length_append];omega
  .have:i=j+1:=by omega
   subst this;exact Nat.le_refl _
set_option maxHeartbeats 4000000 in
theorem printR (x:Src) (hf:FitsX x) (h0:checkX x=0) (hp:(printX x).length<=1099511627776) :
  KnownCall Tryz.prog 34 [encX x] (.tup [.d (.str (printX x)),.d (.int .i64 0)]):=by
 have hk:x.k=1\/x.k=2\/x.k=3\/x.k=4:=by
  have hn:¬ (x.k<1\/4<x.k):=fun h=>by rw [checkX_k h] at h0;cases h0
  omega
 have e1:AV.d (.int .i64 (IntKind.i64.wrap (x.k+1)))=.d (.int .i64 (x.k+1)):=by rcases hk with h|h|h|h<;>rw [h]<;>rfl
 have e2:AV.d (.str (cutL (some x.k) (some (x.k+1)) [48,49,50,51,52]))=.d (.str [48+x.k.toNat]):=by rcases hk with h|h|h|h<;>rw [h]<;>rfl
 have e3:(cutC (some x.k) (some (x.k+1)) 5)=true:=by rcases hk with h|h|h|h<;>rw [h]<;>rfl
 have hc:=check08 x hf;rw [h0] at hc;have hpl:(printX x).length=(headP x).length+(rulesTo x x.rules.length).length:=by simp [printX]
 have hji:=joinTo_inter x.tokens x.tokens.length (Nat.le_refl _);rw [List.take_length] at hji;have hhl:(headP x).length=10+1+8+(joinTo x.tokens x.tokens.length).length+12+x.sep.length+8+x.start.length+2:=by
  rw [hji];simp only [headP,List.length_append,List.length_cons,List.length_nil]
 have htl:=hf.tokens;have hrls:=hf.rules;refine knownE Yo (fnAt Tryz.func34 (by kernel_rfl) (by kernel_rfl):FnAt _ _ (mkFn Tryz.f34 [1])) ?_
 repeat refine zG [1] ?_
 iterate 3 refine zX [1] ?_
 repeat refine zG [1] ?_
 refine zX [1] ?_;refine oC hc ?_;refine zX [1] ?_
 repeat refine zG [1] ?_
 iterate 2 refine zX [1] ?_
 repeat refine zG [1] ?_
 iterate 4 refine zX [1] ?_
 refine oX (frz:=[1]) (v:=.d (.int .i64 (x.k+1))) Yo ?_ (he:=e1);refine oX (frz:=[1]) (v:=.d (.str [48+x.k.toNat])) Yo ?_ (hf:=e3) (he:=e2);iterate 3 refine zX [1] ?_
 repeat refine zG [1] ?_
 refine zX [1] ?_
 repeat refine zG [1] ?_
 refine Run.loop (fun i:Nat=>⟨PT.ofList [(1,cellX x),(5,.d (.str ([108,111,111,107,97,104,101,97,100,32]++[48+x.k.toNat]++[59,10,116,111,107,101,110,32]++joinTo x.tokens i))),(6,.d (.int .i64 i))],[],[]⟩) (fun i=>i<=x.tokens.length) (fun i=>x.tokens.length-i) 0 (Nat.zero_le _) (weak_of ⟨rfl,by rw [joinTo,List.append_nil];rfl,rfl,trivial⟩) (fun i hi=>?_);rcases Nat.lt_or_ge i x.tokens.length with hlt|hge
 .obtain⟨s,hs⟩:=get_ok hlt
  have hle:=joinTo_le x.tokens (i:=i+1) (j:=x.tokens.length) hlt;rcases Nat.eq_zero_or_pos i with hz|hz
  .subst hz
   have hn:=joinTo_z hs;rw [hn,List.length_append] at hle
   repeat' (first|refine zW [1] ?_|(refine zB [1] ?_ ?_<;>intro h<;>try exact zk h)|refine zX [1] ?_|refine oI (frz:=[1]) (v:=.d (.ep [.str s])) ?_ (he:=by first|(simp [gD,cellsD,hs]<;>fail)|fail)|refine eI (v:=.d (.ep [.str s])) ?_ (he:=by first|(simp [gD,cellsD,hs]<;>fail)|fail)|refine oX (frz:=[1]) Yo ?_ (hf:=(by first|(simp [Nat.ble_eq]<;>fail)|(simp [Nat.ble_eq];omega)))|refine eX ?_ (hf:=(by first|(simp [Nat.ble_eq]<;>fail)|(simp [Nat.ble_eq];omega)))|(refine zE ?_;(skip))|(exact⟨0+1,hlt,by omega,weak_of (by repeat' (first|exact trivial|refine⟨rfl,?_⟩|refine⟨(inc_get (k:=0) (by kernel_rfl) (by omega)),?_⟩|refine⟨(by rw [hn,<- List.append_assoc];rfl),?_⟩|fail))⟩)|fail)
   all_goals (exfalso;simp only [List.length_map,decide_eq_false_iff_not] at h;omega)
  .have hn:=joinTo_p hz hs
   rw [hn,List.length_append,List.length_append] at hle
   repeat' (first|refine zW [1] ?_|(refine zB [1] ?_ ?_<;>intro h<;>try exact zk h)|refine zX [1] ?_|refine oI (frz:=[1]) (v:=.d (.ep [.str s])) ?_ (he:=by first|(simp [gD,cellsD,hs]<;>fail)|fail)|refine eI (v:=.d (.ep [.str s])) ?_ (he:=by first|(simp [gD,cellsD,hs]<;>fail)|fail)|refine oX (frz:=[1]) Yo ?_ (hf:=(by first|(simp [Nat.ble_eq]<;>fail)|(simp [Nat.ble_eq];omega)))|refine eX ?_ (hf:=(by first|(simp [Nat.ble_eq]<;>fail)|(simp [Nat.ble_eq];omega)))|(refine zE ?_;(skip))|(exact⟨i+1,hlt,by omega,weak_of (by repeat' (first|exact trivial|refine⟨rfl,?_⟩|refine⟨(inc_get (k:=i) (by kernel_rfl) (by omega)),?_⟩|refine⟨(by rw [hn,<- List.append_assoc,<- List.append_assoc];rfl),?_⟩|fail))⟩)|fail)
   all_goals (exfalso;simp only [List.length_map,decide_eq_false_iff_not] at h;omega)
 .have hge2:i=x.tokens.length:=by omega
  subst hge2;have hh:[108,111,111,107,97,104,101,97,100,32]++[48+x.k.toNat]++[59,10,116,111,107,101,110,32]++joinTo x.tokens x.tokens.length++[59,10,115,101,112,97,114,97,116,111,114,32]++x.sep++[59,10,115,116,97,114,116,32]++x.start++[59,10]=headP x:=by rw [hji,headP]
  repeat' (first|refine zW [1] ?_|(refine zB [1] ?_ ?_<;>intro h<;>try exact zk h)|refine zX [1] ?_|refine oX (frz:=[1]) Yo ?_ (hf:=(by first|(simp [Nat.ble_eq]<;>fail)|(simp [Nat.ble_eq];omega)))|refine eX ?_ (hf:=(by first|(simp [Nat.ble_eq]<;>fail)|(simp [Nat.ble_eq];omega)))|(refine zE ?_;(skip))|(exfalso;simp only [List.length_map,decide_eq_true_eq] at h;omega)|fail)
  have hhb:(headP x++rulesTo x 0).length<=(printX x).length:=by rw [List.length_append,hpl];have:=rulesTo_le x (Nat.zero_le x.rules.length);omega
  refine Run.loop (fun i:Nat=>⟨PT.ofList [(1,cellX x),(5,.d (.str (headP x++rulesTo x i))),(7,.d (.int .i64 i))],[],[]⟩) (fun i=>i<=x.rules.length) (fun i=>x.rules.length-i) 0 (Nat.zero_le _) (weak_of ⟨rfl,by rw [rulesTo,List.take_zero,List.flatMap_nil,List.append_nil,<- hh];rfl,rfl,trivial⟩) (fun i hi=>?_);rcases Nat.lt_or_ge i x.rules.length with hlt|hge
  .obtain⟨r,hr⟩:=get_ok hlt
   have hru:=rulesTo_succ hr;have hrl:=rulesTo_le x (i:=i+1) (j:=x.rules.length) hlt;rw [hru,List.length_append] at hrl;have hrm:=List.mem_of_getElem? hr;have hal:=hf.alts r hrm;have hRl:(ruleP r).length=r.name.length+2+(altsTo r.alts r.alts.length).length+3:=by simp [ruleP];omega
   have hnB:(headP x++rulesTo x i)++ruleP r=headP x++rulesTo x (i+1):=by rw [hru,List.append_assoc]
   have hBl:(headP x++rulesTo x i).length=(headP x).length+(rulesTo x i).length:=List.length_append;generalize headP x++rulesTo x i=B at *
   repeat refine zG [1] ?_
   iterate 4 refine zX [1] ?_
   repeat refine zG [1] ?_
   refine zX [1] ?_
   repeat refine zG [1] ?_
   refine Run.cond (by rfl) (fun h=>?_) (fun h=>?_)
   .repeat refine zG [1] ?_
    iterate 4 refine zX [1] ?_
    first|refine oX (frz:=[1]) (v:=.d (.ep [.str r.name,alts r.alts])) Yo ?_ (hf:=(by first|(simp [inB]<;>fail)|(simp [inB];omega))) (he:=(by first|(simp [List.getD_eq_getElem?_getD,cellsD,hr,encR]<;>fail)|fail))|refine eX (v:=.d (.ep [.str r.name,alts r.alts])) ?_ (hf:=(by first|(simp [inB]<;>fail)|(simp [inB];omega))) (he:=(by first|(simp [List.getD_eq_getElem?_getD,cellsD,hr,encR]<;>fail)|fail))
    iterate 2 refine zX [1] ?_
    repeat' (first|refine zW [1] ?_|(refine zB [1] ?_ ?_<;>intro h<;>try exact zk h)|refine zX [1] ?_|refine oX (frz:=[1]) Yo ?_ (hf:=(by first|(simp [Nat.ble_eq]<;>fail)|(simp [Nat.ble_eq];omega)))|refine eX ?_ (hf:=(by first|(simp [Nat.ble_eq]<;>fail)|(simp [Nat.ble_eq];omega)))|(refine zE ?_;(skip))|fail)
    refine Run.loop (fun k:Nat=>⟨PT.ofList [(1,cellX x),(5,.d (.str (B++r.name++[32,61]++altsTo r.alts k))),(7,.d (.int .i64 i)),(8,.d (.int .i64 k))],[],[]⟩) (fun k=>k<=r.alts.length) (fun k=>r.alts.length-k) 0 (Nat.zero_le _) (weak_of ⟨rfl,by rw [altsTo,List.append_nil];rfl,rfl,rfl,trivial⟩) (fun k hk=>?_);rcases Nat.lt_or_ge k r.alts.length with hklt|hkge
    .obtain⟨a,ha⟩:=get_ok hklt
     have ham:=List.mem_of_getElem? ha;have hanl:=hf.names r hrm a ham;have hgd:r.alts.getD k []=a:=by rw [List.getD_eq_getElem?_getD,ha];rfl
     have hnext:altsTo r.alts (k+1)=altsTo r.alts k++barP k++altTx a:=by rw [<- hgd];rfl
     have hkl:=altsTo_le r.alts (i:=k+1) (j:=r.alts.length) hklt;rw [hnext] at hkl;simp only [List.length_append] at hkl
     repeat refine zG [1] ?_
     iterate 4 refine zX [1] ?_
     first|refine oX (frz:=[1]) (v:=.d (.ep [.str r.name,alts r.alts])) Yo ?_ (hf:=(by first|(simp [inB]<;>fail)|(simp [inB];omega))) (he:=(by first|(simp [List.getD_eq_getElem?_getD,cellsD,hr,encR]<;>fail)|fail))|refine eX (v:=.d (.ep [.str r.name,alts r.alts])) ?_ (hf:=(by first|(simp [inB]<;>fail)|(simp [inB];omega))) (he:=(by first|(simp [List.getD_eq_getElem?_getD,cellsD,hr,encR]<;>fail)|fail))
     iterate 4 refine zX [1] ?_
     repeat refine zG [1] ?_
     refine Run.cond (by rfl) (fun h=>?_) (fun h=>?_)
     .repeat refine zG [1] ?_
      iterate 2 refine zX [1] ?_
      repeat refine zG [1] ?_
      refine Run.mono (K:=fun e s1=>e=.normal/\Weak s1 ⟨PT.ofList [(1,cellX x),(5,.d (.str (B++r.name++[32,61]++altsTo r.alts k++barP k))),(7,.d (.int .i64 i)),(8,.d (.int .i64 k))],[],[]⟩) ?_ (fun e s1 hk1=>?_)
      .rcases k with _|k
       .repeat refine zG [1] ?_
        exact⟨rfl,weak_of ⟨rfl,by rw [barP,List.append_nil];rfl,rfl,rfl,trivial⟩⟩
       .have hb2:(barP (k+1)).length=2:=rfl
        refine Run.cond (by rfl) (fun h1=>?_) (fun h1=>?_)
        .repeat' (first|refine zW [1] ?_|(refine zB [1] ?_ ?_<;>intro h<;>try exact zk h)|refine zX [1] ?_|refine oX (frz:=[1]) Yo ?_ (hf:=(by first|(simp [Nat.ble_eq]<;>fail)|(simp [Nat.ble_eq];omega)))|refine eX ?_ (hf:=(by first|(simp [Nat.ble_eq]<;>fail)|(simp [Nat.ble_eq];omega)))|(refine zE ?_;(skip))|fail)
         exact⟨rfl,weak_of (by repeat' (first|exact trivial|refine⟨rfl,?_⟩))⟩
        .exfalso;simp at h1
      .obtain⟨rfl,hk1⟩:=hk1
       refine Run.weak hk1 ?_
       repeat refine zG [1] ?_
       refine zX [1] ?_
       repeat refine zG [1] ?_
       refine Run.loop (fun j:Nat=>⟨PT.ofList [(1,cellX x),(5,.d (.str (B++r.name++[32,61]++altsTo r.alts k++barP k++altTo a j))),(7,.d (.int .i64 i)),(8,.d (.int .i64 k)),(9,.d (.int .i64 j))],[],[]⟩) (fun j=>j<=a.length) (fun j=>a.length-j) 0 (Nat.zero_le _) (weak_of ⟨rfl,by rw [show altTo a 0=[] by simp [altTo,altTx],List.append_nil];rfl,rfl,rfl,rfl,trivial⟩) (fun j hj=>?_);rcases Nat.lt_or_ge j a.length with hjlt|hjge
       .obtain⟨s,hsj⟩:=get_ok hjlt
        have hsu:=altTo_succ hsj;have hjl:=altTo_le a (j+1);rw [hsu] at hjl;simp only [List.length_append,List.length_cons] at hjl
        repeat' (first|refine zW [1] ?_|(refine zB [1] ?_ ?_<;>intro h<;>try exact zk h)|refine zX [1] ?_|refine oI (frz:=[1]) (v:=.d (.ep [.str r.name,alts r.alts])) ?_ (he:=by first|(simp [gD,cellsD,hr,encR]<;>fail)|fail)|refine eI (v:=.d (.ep [.str r.name,alts r.alts])) ?_ (he:=by first|(simp [gD,cellsD,hr,encR]<;>fail)|fail)|refine oI (frz:=[1]) (v:=.d (.ep [strs a])) ?_ (he:=by first|(simp [gD,cellsD,ha]<;>fail)|fail)|refine eI (v:=.d (.ep [strs a])) ?_ (he:=by first|(simp [gD,cellsD,ha]<;>fail)|fail)|refine oI (frz:=[1]) (v:=.d (.ep [.str s])) ?_ (he:=by first|(simp [gD,cellsD,hsj]<;>fail)|fail)|refine eI (v:=.d (.ep [.str s])) ?_ (he:=by first|(simp [gD,cellsD,hsj]<;>fail)|fail)|refine oX (frz:=[1]) Yo ?_ (hf:=(by first|(simp [Nat.ble_eq]<;>fail)|(simp [Nat.ble_eq];omega)))|refine eX ?_ (hf:=(by first|(simp [Nat.ble_eq]<;>fail)|(simp [Nat.ble_eq];omega)))|(refine zE ?_;(skip))|((exact⟨j+1,hjlt,by omega,weak_of (by repeat' (first|exact trivial|refine⟨rfl,?_⟩|refine⟨(inc_get (k:=j) (by kernel_rfl) (by omega)),?_⟩|refine⟨(by rw [hsu];simp only [List.append_assoc,List.cons_append,List.nil_append];rfl),?_⟩|fail))⟩))|((exfalso;simp at h;omega))|fail)
       .have hje:j=a.length:=by omega
        subst hje;have hta:altTo a a.length=altTx a:=by rw [altTo,List.take_length]
        repeat' (first|refine zW [1] ?_|(refine zB [1] ?_ ?_<;>intro h<;>try exact zk h)|refine zX [1] ?_|refine oI (frz:=[1]) (v:=.d (.ep [.str r.name,alts r.alts])) ?_ (he:=by first|(simp [gD,cellsD,hr,encR]<;>fail)|fail)|refine eI (v:=.d (.ep [.str r.name,alts r.alts])) ?_ (he:=by first|(simp [gD,cellsD,hr,encR]<;>fail)|fail)|refine oI (frz:=[1]) (v:=.d (.ep [strs a])) ?_ (he:=by first|(simp [gD,cellsD,ha]<;>fail)|fail)|refine eI (v:=.d (.ep [strs a])) ?_ (he:=by first|(simp [gD,cellsD,ha]<;>fail)|fail)|(refine zE ?_;(skip))|((exact⟨k+1,hklt,by omega,weak_of (by repeat' (first|exact trivial|refine⟨rfl,?_⟩|refine⟨(inc_get (k:=k) (by kernel_rfl) (by omega)),?_⟩|refine⟨(by rw [hnext,<- hta];simp only [List.append_assoc];rfl),?_⟩|fail))⟩))|((exfalso;simp at h;omega))|fail)
     .exfalso;simp at h;omega
    .have hke:k=r.alts.length:=by omega
     subst hke
     repeat' (first|refine zW [1] ?_|(refine zB [1] ?_ ?_<;>intro h<;>try exact zk h)|refine zX [1] ?_|refine oI (frz:=[1]) (v:=.d (.ep [.str r.name,alts r.alts])) ?_ (he:=by first|(simp [gD,cellsD,hr,encR]<;>fail)|fail)|refine eI (v:=.d (.ep [.str r.name,alts r.alts])) ?_ (he:=by first|(simp [gD,cellsD,hr,encR]<;>fail)|fail)|refine oX (frz:=[1]) Yo ?_ (hf:=(by first|(simp [Nat.ble_eq]<;>fail)|(simp [Nat.ble_eq];omega)))|refine eX ?_ (hf:=(by first|(simp [Nat.ble_eq]<;>fail)|(simp [Nat.ble_eq];omega)))|(refine zE ?_;(skip))|((exact⟨i+1,hlt,by omega,weak_of (by repeat' (first|exact trivial|refine⟨rfl,?_⟩|refine⟨(inc_get (k:=i) (by kernel_rfl) (by omega)),?_⟩|refine⟨(by rw [<- hnB,ruleP];simp only [List.append_assoc];rfl),?_⟩|fail))⟩))|((exfalso;simp at h;omega))|fail)
   .exfalso;simp at h;omega
  .have hie:i=x.rules.length:=by omega
   subst hie
   repeat' (first|refine zW [1] ?_|(refine zB [1] ?_ ?_<;>intro h<;>try exact zk h)|refine zX [1] ?_|(refine zE ?_;(rfl))|(exfalso;simp at h;omega)|fail)
end Go.Av
end
noncomputable section
namespace Go.Av
open Go Go.Proofs
set_option maxRecDepth 10000
structure LightX (x:Src):Prop where
 tokens:x.tokens.length<=12/\∀ s ∈ x.tokens,s.length<=40
 sep:x.sep.length<=40
 start:x.start.length<=40
 rules:x.rules.length<=12
 names:∀ r ∈ x.rules,r.name.length<=40/\r.alts.length<=30/\∀ a ∈ r.alts,a.length<=12/\∀ s ∈ a,s.length<=40
theorem LightX.fits {x:Src} (h:LightX x):FitsX x where
 tokens:=by have:=h.tokens.1;omega
 rules:=by have:=h.rules;omega
 alts r hr:=by have:=(h.names r hr).2.1;omega
 names r hr a ha:=by have:=((h.names r hr).2.2 a ha).1;omega
 sep:=by have:=h.sep;omega
 start:=by have:=h.start;omega
 tokenS s hs:=by have:=h.tokens.2 s hs;omega
 ruleS r hr:=by have:=(h.names r hr).1;omega
 nameS r hr a ha s hs:=by have:=((h.names r hr).2.2 a ha).2 s hs;omega
theorem flatten_le {α:Type} {n:Nat}:∀ {l:List (List α)},(∀ a ∈ l,a.length<=n)->l.flatten.length<=l.length*n
 |[],_=>by simp
 |a :: l,h=>by
  have h1:=h a List.mem_cons_self;have h2:=flatten_le (l:=l) fun b hb=>h b (List.mem_cons_of_mem _ hb);rw [List.flatten_cons,List.length_append,List.length_cons,Nat.succ_mul];omega
theorem LightX.inner {x:Src} (h:LightX x):(innerX x).length<=1048576:=by
 have h1:(innerX x).length<=(x.rules.map fun r=>r.alts.flatten).length*360:=by
  unfold innerX;rw [List.flatMap_def];refine flatten_le fun a ha=>?_;obtain⟨r,hr,rfl⟩:=List.mem_map.1 ha;have h2:=flatten_le (l:=r.alts) (n:=12) fun a ha=>((h.names r hr).2.2 a ha).1;have:=(h.names r hr).2.1;omega
 have:=h.rules;rw [List.length_map] at h1;omega
theorem joinTo_len {l:List (List Nat)} {B:Nat} (h:∀ s ∈ l,s.length<=B):∀ n,(joinTo l n).length<=n*(2+B)
 |0=>by simp [joinTo]
 |n+1=>by
  have ih:=joinTo_len h n;have hs:(sepP n).length<=2:=by cases n<;>simp [sepP]
  have hd:(l.getD n []).length<=B:=by
   rw [List.getD_eq_getElem?_getD];cases hg:l[n]? with
   |none=>simp
   |some s=>exact h s (List.mem_of_getElem? hg)
  simp only [joinTo,List.length_append];rw [Nat.succ_mul];omega
theorem altQ_len {a:List (List Nat)} {B:Nat} (h:∀ s ∈ a,s.length<=B):(altTx a).length<=a.length*(B+1):=by
 unfold altTx;rw [List.flatMap_def];have:=flatten_le (l:=a.map fun s=>32 :: s) (n:=B+1) fun u hu=>by
  obtain⟨s,hs,rfl⟩:=List.mem_map.1 hu;have:=h s hs;simp only [List.length_cons];omega
 rwa [List.length_map] at this
theorem altsTo_len {al:List (List (List Nat))} {B:Nat} (h:∀ a ∈ al,(altTx a).length<=B):∀ n,(altsTo al n).length<=n*(2+B)
 |0=>by simp [altsTo]
 |n+1=>by
  have ih:=altsTo_len h n;have hs:(barP n).length<=2:=by cases n<;>simp [barP]
  have hd:(altTx (al.getD n [])).length<=B:=by
   rw [List.getD_eq_getElem?_getD];cases hg:al[n]? with
   |none=>simp [altTx]
   |some s=>exact h s (List.mem_of_getElem? hg)
  simp only [altsTo,List.length_append];rw [Nat.succ_mul];omega
theorem LightX.print {x:Src} (h:LightX x):(printX x).length<=1099511627776:=by
 have h1:(List.intercalate [44,32] x.tokens).length<=x.tokens.length*42:=by
  have:=joinTo_inter x.tokens x.tokens.length (Nat.le_refl _);rw [List.take_length] at this;rw [<- this];exact joinTo_len h.tokens.2 _
 have h2:(rulesTo x x.rules.length).length<=x.rules.length*20000:=by
  unfold rulesTo;rw [List.take_length,List.flatMap_def];have:=flatten_le (l:=x.rules.map ruleP) (n:=20000) fun u hu=>by
   obtain⟨r,hr,rfl⟩:=List.mem_map.1 hu;obtain⟨g1,g2,g3⟩:=h.names r hr;have g4:=altsTo_len (al:=r.alts) (B:=492) (fun a ha=>by
    have:=altQ_len (a:=a) (B:=40) (g3 a ha).2;have:=(g3 a ha).1;omega) r.alts.length
   simp only [ruleP,List.length_append,List.length_cons,List.length_nil];omega
  rwa [List.length_map] at this
 have:=h.tokens.1;have:=h.rules;have:=h.sep;have:=h.start;simp only [printX,headP,List.length_append,List.length_cons,List.length_nil];omega
structure ByteX (x:Src):Prop where
 tokens:∀ s ∈ x.tokens,∀ c ∈ s,c<256
 sep:∀ c ∈ x.sep,c<256
 start:∀ c ∈ x.start,c<256
 rules:∀ r ∈ x.rules,∀ c ∈ r.name,c<256
 names:∀ r ∈ x.rules,∀ a ∈ r.alts,∀ s ∈ a,∀ c ∈ s,c<256
theorem joinTo_by {l:List (List Nat)} (h:∀ s ∈ l,∀ c ∈ s,c<256):∀ n,∀ c ∈ joinTo l n,c<256
 |0,c,hc=>by simp [joinTo] at hc
 |n+1,c,hc=>by
  simp only [joinTo,List.mem_append] at hc;rcases hc with(hc|hc)|hc
  .exact joinTo_by h n c hc
  .cases n with
   |zero=>simp [sepP] at hc
   |succ n=>simp [sepP] at hc;omega
  .rw [List.getD_eq_getElem?_getD] at hc
   cases hg:l[n]? with
   |none=>rw [hg] at hc;simp at hc
   |some s=>rw [hg] at hc;exact h s (List.mem_of_getElem? hg) c hc
theorem altQ_by {a:List (List Nat)} (h:∀ s ∈ a,∀ c ∈ s,c<256):∀ c ∈ altTx a,c<256:=by
 intro c hc;simp only [altTx,List.mem_flatMap,List.mem_cons] at hc;obtain⟨s,hs,rfl|hc⟩:=hc
 .omega
 .exact h s hs c hc
theorem altsTo_by {al:List (List (List Nat))} (h:∀ a ∈ al,∀ s ∈ a,∀ c ∈ s,c<256):∀ n,∀ c ∈ altsTo al n,c<256
 |0,c,hc=>by simp [altsTo] at hc
 |n+1,c,hc=>by
  simp only [altsTo,List.mem_append] at hc;rcases hc with(hc|hc)|hc
  .exact altsTo_by h n c hc
  .cases n with
   |zero=>simp [barP] at hc
   |succ n=>simp [barP] at hc;omega
  .refine altQ_by (a:=al.getD n []) (fun s hs c hc=>?_) c hc
   rw [List.getD_eq_getElem?_getD] at hs;cases hg:al[n]? with
   |none=>rw [hg] at hs;simp at hs
   |some a=>rw [hg] at hs;exact h a (List.mem_of_getElem? hg) s hs c hc
theorem ByteX.head {x:Src} (h:ByteX x) (hk:x.k<=4):∀ c ∈ headP x,c<256:=by
 have hj:=joinTo_inter x.tokens x.tokens.length (Nat.le_refl _);rw [List.take_length] at hj;intro c hc;simp only [headP,List.mem_append] at hc;rcases hc with(((((((hc|hc)|hc)|hc)|hc)|hc)|hc)|hc)|hc
 .simp at hc;omega
 .simp at hc;omega
 .simp at hc;omega
 .rw [<- hj] at hc;exact joinTo_by h.tokens _ c hc
 .simp at hc;omega
 .exact h.sep c hc
 .simp at hc;omega
 .exact h.start c hc
 .simp at hc;omega
theorem ByteX.print {x:Src} (h:ByteX x) (hk:x.k<=4):∀ c ∈ printX x,c<256:=by
 intro c hc;rcases List.mem_append.1 (show c ∈ headP x++rulesTo x x.rules.length from hc) with hc|hc
 .exact h.head hk c hc
 .simp only [rulesTo,List.take_length,List.mem_flatMap] at hc
  obtain⟨r,hr,hc⟩:=hc;simp only [ruleP,List.mem_append] at hc;rcases hc with((hc|hc)|hc)|hc
  .exact h.rules r hr c hc
  .simp at hc;omega
  .exact altsTo_by (h.names r hr) _ c hc
  .simp at hc;omega
end Go.Av
end
noncomputable section
namespace Go.Av
open Go Go.Proofs
set_option maxRecDepth 10000
theorem name12 {t:List Nat} (h:nameF t=0):t.length<=12:=by
 have hw:wordF t=0:=by
  unfold nameF at h;split at h
  .omega
  .exact h
 unfold wordF at hw;split at hw
 .cases hw
 .split at hw
  .cases hw
  .split at hw
   .cases hw
   .omega
theorem word_byte {c:Nat} (h:wordI (c:Nat)=true):c<256:=by
 simp only [wordI,letterI,digitI,Bool.or_eq_true,Bool.and_eq_true,decide_eq_true_eq,beq_iff_eq] at h;omega
theorem isW_bytes {t:List Nat} (h:IsW t):∀ c ∈ t,c<256:=by
 cases t with
 |nil=>exact h.elim
 |cons c l =>
  intro d hd;rcases List.mem_cons.1 hd with rfl|hd
  .exact word_byte (by simp [wordI,h.1])
  .exact word_byte (h.2 d hd)
theorem SoundX.litX {x:Src} (h:SoundX x):LightX x where
 tokens:=⟨by have:=h.tok8;omega,fun s hs=>by have:=name12 (small_name (h.tokS s hs));omega⟩
 sep:=by have:=name12 (small_name h.sepS);omega
 start:=by have:=name12 (capital_name h.startC);omega
 rules:=by have:=h.rul8;omega
 names r hr:=⟨by have:=name12 (capital_name (h.rulC r hr));omega,by
  have h1:=h.sum;have:∀ (l:List SRule),r ∈ l->r.alts.length<=(l.map (·.alts.length)).sum:=by
   intro l
   induction l with
   |nil=>intro h;cases h
   |cons u l ih =>
    intro h;simp only [List.map_cons,List.sum_cons];rcases List.mem_cons.1 h with rfl|h
    .omega
    .have:=ih h;omega
  have:=this x.rules hr;omega,fun a ha=>⟨by have:=h.alt6 r hr a ha;omega,fun s hs=>by have:=name12 (may_name (h.altM r hr a ha s hs));omega⟩⟩
theorem SoundX.bytes {x:Src} (h:SoundX x):ByteX x where
 tokens s hs:=isW_bytes (name_isW (small_name (h.tokS s hs)))
 sep:=isW_bytes (name_isW (small_name h.sepS))
 start:=isW_bytes (name_isW (capital_name h.startC))
 rules r hr:=isW_bytes (name_isW (capital_name (h.rulC r hr)))
 names r hr a ha s hs:=isW_bytes (name_isW (may_name (h.altM r hr a ha s hs)))
theorem encL_inj:∀ {l m:List Lx},l.map encL=m.map encL->l=m
 |[],[],_=>rfl
 |[],_ :: _,h=>by cases h
 |_ :: _,[],h=>by cases h
 |x :: l,y :: m,h=>by
  simp only [List.map_cons,List.cons.injEq,encL,lexD,DV.agg.injEq,DV.int.injEq,DV.str.injEq,true_and,and_true] at h;obtain⟨⟨h1,h2,h3⟩,h4⟩:=h;obtain⟨k,t,a⟩:=x;obtain⟨k',t',a'⟩:=y;simp only at h1 h2 h3;rw [encL_inj h4,show k=k' by omega,h2,show a=a' by omega]
theorem parseRound {x:Src} (h:checkX x=0) (hl:(printX x).length<=2000):KnownCall Tryz.prog 27 [.str (printX x)] (resX (x,(0,0))):=by
 have hs:=soundX h;obtain⟨ls,h1,h2⟩:=roundX h hl;have hb:=hs.bytes.print hs.k.2;rcases lexemesF_ls (printX x) (by omega) with⟨ls2,h3,h4,h5⟩|⟨e,q,h3,h4⟩
 .have e:ls2=ls:=encL_inj (by rw [h1] at h3;simp only [Prod.mk.injEq] at h3;exact h3.1.symm)
  subst e;have:=parseP (printX x) ls2 hb (by omega) h4 h5 h1;rw [<- read_law,h2] at this;exact this
 .rw [h1] at h3
  simp only [Prod.mk.injEq] at h3;exact absurd h3.2.1.symm h4
end Go.Av
end
noncomputable section
namespace Go.Av
open Go Go.Proofs
set_option maxRecDepth 100000
section
variable (s:List Nat)
end
end Go.Av
end
noncomputable section
namespace Go.Av
open Go Go.Proofs
set_option maxRecDepth 100000
def okGB (g:Gram):Bool :=
 decide (1<=g.k/\g.k<=4) && (decide (g.tokens.length<=8/\g.names.length<=8/\g.prods.length<=24) && (g.prods.all (fun p=>decide (p.right.length<=6)) && (decide (1<=g.tokens.length/\1<=g.names.length) && ((smalls g).all smallB && (g.names.all capB &&
 (decide ((smalls g).Nodup) && (decide (g.names.Nodup) && (isNonterm g g.start && (g.prods.all (fun p=>isNonterm g p.left && p.right.all (goodS g)) && ((g.prods.zip (g.prods.drop 1)).all (fun p=>decide (p.1.left<=p.2.left)) &&
 (List.range g.names.length).all fun i=>g.prods.any fun p=>decide (p.left=((16+i:Nat):Int))))))))))))
theorem okGB_ok {g:Gram} (h:okGB g=true):checkF g=0:=by
 simp only [okGB,Bool.and_eq_true,decide_eq_true_eq,List.all_eq_true] at h;obtain⟨h1,h2,h3,h4,h5,h6,h7,h8,h9,h10,h11,h12⟩:=h;have hm:manyF g=0:=by
  unfold manyF;rw [if_neg]
  rintro(h|h|h|⟨p,hp,h⟩)
  .omega
  .omega
  .omega
  .have:=h3 p hp;omega
 have hn:namedF g=0:=by
  unfold namedF;rw [if_neg]
  rintro(⟨s,hs,h⟩|⟨s,hs,h⟩)
  .rw [smallB_ok (h5 s hs)] at h;cases h
  .rw [capB_ok (h6 s hs)] at h;cases h
 have hns:namesF g=0:=by
  unfold namesF;rw [if_neg,hn]
  rintro⟨_,h|h⟩
  .exact h h7
  .exact h h8
 have hs:symbolsF g=0:=by
  unfold symbolsF;rw [if_pos ⟨h9,fun p hp=>⟨(h10 p hp).1,fun s hs=>(h10 p hp).2 s hs⟩⟩,if_neg,if_neg]
  .rintro⟨i,hi,h⟩
   obtain⟨p,hp,hl⟩:=List.any_eq_true.1 (h12 i (List.mem_range.2 hi));have hl:=of_decide_eq_true hl;obtain⟨j,hj,e⟩:=List.getElem_of_mem hp;have:j ∈ prodsF g (16+i):=by
    unfold prodsF prodsTo;rw [List.take_length];refine List.mem_map.2 ⟨(p,j),List.mem_filter.2 ⟨List.mk_mem_zipIdx_iff_getElem?.2 (by rw [List.getElem?_eq_getElem hj,e]),decide_eq_true ?_⟩,rfl⟩;rw [hl];omega
   rw [h] at this;cases this
  .rintro⟨i,p,q,hp,hq,hlt⟩
   have hz:(p,q) ∈ g.prods.zip (g.prods.drop 1):=by
    refine List.mem_of_getElem? (i:=i) ?_;rw [List.getElem?_zip_eq_some];exact⟨hp,by rw [List.getElem?_drop,Nat.add_comm];exact hq⟩
   have:=h11 _ hz;simp only at this;omega
 unfold checkF;rw [if_neg (by omega),if_neg (by simp [hm]),if_neg,if_neg (by simp [hns]),hs]
 rintro(h|h)
 .rw [h] at h4;simp at h4
 .rw [h] at h4;simp at h4
def remT (t:List Nat):List Nat:=[35,32,114,101,109,97,114,107,10,32,9]++t++[35]
theorem all_gram:(allTx.all fun p=>okGB (ofX (srcT p.1 p.2.1 p.2.2)) && (decide ((textT p.1 p.2.1 (ruleE p.2.2).2.2).length<=300) && decide ((innerX (srcT p.1 p.2.1 p.2.2)).length<=1000)))=true:=by kernel_rfl
theorem all_rem0:((allTx.take 23).all fun p=>textB (remT (textT p.1 p.2.1 (ruleE p.2.2).2.2)) (srcT p.1 p.2.1 p.2.2))=true:=by kernel_rfl
theorem all_rem1:((allTx.drop 23).all fun p=>textB (remT (textT p.1 p.2.1 (ruleE p.2.2).2.2)) (srcT p.1 p.2.1 p.2.2))=true:=by kernel_rfl
theorem gram_ok {p:Nat × Nat × Nat} (hm:p ∈ allTx):checkF (ofX (srcT p.1 p.2.1 p.2.2))=0/\(textT p.1 p.2.1 (ruleE p.2.2).2.2).length<=300/\(innerX (srcT p.1 p.2.1 p.2.2)).length<=1000/\textB (remT (textT p.1 p.2.1 (ruleE p.2.2).2.2)) (srcT p.1 p.2.1 p.2.2)=true:=by
 have h1:=List.all_eq_true.1 all_gram _ hm;simp only [Bool.and_eq_true,decide_eq_true_eq] at h1;refine⟨okGB_ok h1.1,h1.2.1,h1.2.2,?_⟩;rw [<- List.take_append_drop 23 allTx] at hm;rcases List.mem_append.1 hm with h|h
 .exact List.all_eq_true.1 all_rem0 _ h
 .exact List.all_eq_true.1 all_rem1 _ h
end Go.Av
end
noncomputable section
namespace Go.Av
open Go Go.Proofs
set_option maxRecDepth 10000
theorem nodup_idx {α:Type} [DecidableEq α] [BEq α] [LawfulBEq α] {l:List α} (hn:l.Nodup) {i:Nat} {x:α} (h:l[i]?=some x):l.idxOf x=i:=by
 obtain⟨hi,rfl⟩:=List.getElem?_eq_some_iff.1 h;exact hn.idxOf_getElem i hi
end Go.Av
end
noncomputable section
namespace Go.Av
open Go Go.Proofs
set_option maxRecDepth 10000
theorem checkX_zero {x:Src} (h:checkX x=0):¬ (x.k<1\/4<x.k)/\shortX x=false/\fullX x=false/\misX x=false/\twoX x=false/\usesX x x.sep=false/\unkX x=false:=by
 unfold checkX at h;split at h
 .omega
 .rename_i hk
  refine⟨hk,?_⟩;cases h1:shortX x<;>cases h2:fullX x<;>cases h3:misX x<;>cases h4:twoX x<;>cases h5:usesX x x.sep<;>cases h6:unkX x<;>simp_all
theorem checkX_apart {x:Src} (h:checkX x=0):x.tokens.Nodup/\(ruleNames x).Nodup/\∀ s,s ∈ x.tokens->s ∈ ruleNames x->False:=by
 obtain⟨_,_,_,hm,ht,_,_⟩:=checkX_zero h;simp only [twoX,Bool.or_eq_false_iff,decide_eq_false_iff_not,Decidable.not_not] at ht;rw [mis_eq] at hm;simp only [Bool.not_eq_false',Bool.and_eq_true,List.all_eq_true] at hm;obtain⟨⟨⟨h1,h2⟩,h3⟩,h4⟩:=hm;refine⟨(List.nodup_append.1 ht.1).1,ht.2,fun s hs hn=>?_⟩;exact small_capital (h1 s (List.mem_append_left _ hs)) (h3 s hn)
theorem checkX_known {x:Src} (h:checkX x=0) {s:List Nat} (hs:s=x.start\/∃ r ∈ x.rules,∃ a ∈ r.alts,s ∈ a):s ∈ x.tokens\/s ∈ ruleNames x:=by
 obtain⟨_,_,_,_,_,_,hu⟩:=checkX_zero h;rw [unk_eq] at hu;simp only [Bool.or_eq_false_iff,Bool.not_eq_false',decide_eq_true_eq,List.all_eq_true] at hu;rcases hs with rfl|hs
 .exact .inr hu.1
 .have:=hu.2 s (mem_innerX.2 hs)
  simpa [knowF] using this
def pT (x:Src) (i:Nat):List (List Nat × DV):=(x.tokens.take i).zipIdx.map fun p=>(p.1,.int .i64 (p.2:Nat))
def pN (x:Src) (i:Nat):List (List Nat × DV):=pT x x.tokens.length++(x.rules.take i).zipIdx.map fun p=>(p.1.name,.int .i64 ((16+p.2:Nat):Int))
def kvD (l:List (List Nat × DV)):List (DV × DV):=l.map fun p=>(.str p.1,p.2)
theorem kvD_app (l:List (List Nat × DV)) (s:List Nat) (d:DV):kvD l++[(.str s,d)]=kvD (l++[(s,d)]):=by simp [kvD]
theorem pT_succ {x:Src} {i:Nat} {s:List Nat} (h:x.tokens[i]?=some s):pT x (i+1)=pT x i++[(s,.int .i64 (i:Nat))]:=by
 have hi:=(List.getElem?_eq_some_iff.1 h).1;have hl:(x.tokens.take i).length=i:=by simp;omega
 simp only [pT];rw [List.take_add_one,h,List.zipIdx_append,List.map_append,hl,Nat.zero_add]
 rfl
theorem pN_succ {x:Src} {i:Nat} {r:SRule} (h:x.rules[i]?=some r):pN x (i+1)=pN x i++[(r.name,.int .i64 ((16+i:Nat):Int))]:=by
 have hi:=(List.getElem?_eq_some_iff.1 h).1;have hl:(x.rules.take i).length=i:=by simp;omega
 simp only [pN];rw [List.take_add_one,h,List.zipIdx_append,List.map_append,hl,Nat.zero_add,List.append_assoc]
 rfl
theorem pT_keys (x:Src) (i:Nat):(pT x i).map (·.1)=x.tokens.take i:=by
 simp only [pT,List.map_map];exact List.zipIdx_map_fst 0 _
theorem pN_keys (x:Src) (i:Nat):(pN x i).map (·.1)=x.tokens++(ruleNames x).take i:=by
 simp only [pN,List.map_append,pT_keys,List.take_length,List.map_map]
 congr 1
 rw [show((fun x:List Nat × DV=>x.1) ∘ fun p:SRule × Nat=>(p.1.name,DV.int .i64 ((16+p.2:Nat):Int)))=(SRule.name ∘ Prod.fst) from rfl,<- List.map_map,List.zipIdx_map_fst,ruleNames,List.map_take]
theorem kv_none {E:PT Ty} {t:TypeId} {l:List (List Nat × DV)} {s:List Nat} (h:s ∉ l.map (·.1)):findKV (eqKey E t) (.str s) (kvD l)=some none:=by
 unfold kvD;rw [findKV_str];cases hf:l.findIdx? (fun p=>p.1 == s) with
 |none=>rfl
 |some j =>
  exfalso;rw [List.findIdx?_eq_some_iff_getElem] at hf;obtain⟨h1,h2,_⟩:=hf;refine h (List.mem_map.2 ⟨l[j],List.getElem_mem h1,by simpa using h2⟩)
theorem kv_some {E:PT Ty} {t:TypeId} {l:List (List Nat × DV)} {s:List Nat} (h:s ∈ l.map (·.1)):∃ j d,findKV (eqKey E t) (.str s) (kvD l)=some (some (j,d))/\l[j]?=some (s,d):=by
 unfold kvD;rw [findKV_str];cases hf:l.findIdx? (fun p=>p.1 == s) with
 |none =>
  exfalso;rw [List.findIdx?_eq_none_iff] at hf;obtain⟨p,hp,e⟩:=List.mem_map.1 h;have:=hf p hp;simp [e] at this
 |some j =>
  rw [List.findIdx?_eq_some_iff_getElem] at hf;obtain⟨h1,h2,_⟩:=hf;have h2:l[j].1=s:=by simpa using h2
  refine⟨j,l[j].2,by simp [h1],?_⟩;rw [List.getElem?_eq_getElem h1,<- h2]
theorem look_sym {x:Src} (h0:checkX x=0) {s:List Nat} (hs:s ∈ x.tokens\/s ∈ ruleNames x) {E:PT Ty} {t:TypeId}:∃ j,findKV (eqKey E t) (.str s) (kvD (pN x x.rules.length))=some (some (j,.int .i64 (symW x.tokens (ruleNames x) s))):=by
 obtain⟨hn1,hn2,hap⟩:=checkX_apart h0;have hk:s ∈ (pN x x.rules.length).map (·.1):=by
  rw [pN_keys,List.take_of_length_le (by simp)];exact List.mem_append.2 hs
 obtain⟨j,d,h1,h2⟩:=kv_some (E:=E) (t:=t) hk;refine⟨j,?_⟩;rw [h1]
 congr 3
 have hT:(pT x x.tokens.length).length=x.tokens.length:=by simp [pT]
 unfold pN at h2;rcases Nat.lt_or_ge j x.tokens.length with hj|hj
 .rw [List.getElem?_append_left (by omega)] at h2
  simp only [pT,List.take_length,List.getElem?_map,List.getElem?_zipIdx,Option.map_map,Option.map_eq_some_iff] at h2;obtain⟨y,hy,e⟩:=h2;simp at e;obtain⟨rfl,rfl⟩:=e;have hm:=List.mem_of_getElem? hy;have hno:y ∉ ruleNames x:=fun hc=>hap y hm hc;have hf:findF x.tokens y=(j:Int):=by
   unfold findF;rw [if_pos hm,nodup_idx hn1 hy]
  unfold symW;rw [show findF (ruleNames x) y=-1 from by unfold findF;rw [if_neg hno],if_neg (by omega),hf]
 .rw [List.getElem?_append_right (by omega),hT] at h2
  simp only [List.take_length,List.getElem?_map,List.getElem?_zipIdx,Option.map_map,Option.map_eq_some_iff] at h2;obtain⟨r,hr,e⟩:=h2;simp at e;obtain⟨rfl,rfl⟩:=e;have hy:(ruleNames x)[j-x.tokens.length]?=some r.name:=by simp [hr]
  have hm:=List.mem_of_getElem? hy;have hf:findF (ruleNames x) r.name=((j-x.tokens.length:Nat):Int):=by
   unfold findF;rw [if_pos hm,nodup_idx hn2 hy]
  unfold symW;rw [hf,if_pos (by omega)]
end Go.Av
end
noncomputable section
namespace Go.Av
open Go Go.Proofs
set_option maxRecDepth 10000
def nmD (x:Src) (i:Nat):List DV:=((ruleNames x).take i).map DV.str
theorem nmD_succ {x:Src} {i:Nat} {r:SRule} (h:x.rules[i]?=some r):nmD x i++[.str r.name]=nmD x (i+1):=by
 simp [nmD,List.take_add_one,h]
theorem nmD_len {x:Src} {i:Nat} (h:i<=x.rules.length):(nmD x i).length=i:=by simp [nmD];omega
theorem rgtD_app (l:List Int) (a:Int):rgtD l++[.int .i64 a]=rgtD (l++[a]):=by simp [rgtD]
theorem rgtD_len (l:List Int):(rgtD l).length=l.length:=by simp [rgtD]
theorem encP_app (l:List GProd) (p:GProd):l.map encP++[encP p]=(l++[p]).map encP:=by simp
abbrev boxW (x:Src) (st:Int) (ns ps:List DV):Ob:=.box [.d (.int .i64 x.k),.sr 1 1 ([]++x.tokens.map DV.str),.d (.str x.sep),.sr 4 1 ns,.d (.int .i64 st),.sr 5 2 ps]
set_option maxHeartbeats 4000000 in
theorem grOf0 (x:Src) (hf:FitsX x) (hin:(innerX x).length<=1048576) (h0:checkX x=0):KnownCall Tryz.prog 54 [encX x] (.tup [.d (encG (ofX x)),.d (.int .i64 0)]):=by
 have htl:=hf.tokens;have hrl:=hf.rules;obtain⟨hs1,hs2,hs3,hs4⟩:=checkX_small h0;obtain⟨hn1,hn2⟩:=checkX_rules h0;have cc:=checkS x hf hin;rw [h0] at cc;have c0:=fun O=>ACall.lift (ds:=[strs x.tokens]) (cloneA x.tokens htl) rfl O;obtain⟨ha1,ha2,ha3⟩:=checkX_apart h0;obtain⟨st,hst⟩:∃ st,st=symW x.tokens (ruleNames x) x.start:=⟨_,rfl⟩
 refine knownE Yo (fnAt Tryz.func54 (by kernel_rfl) (by kernel_rfl):FnAt _ _ (mkFn Tryz.f54 [1,57,95,102])) ?_
 show Run _ _ _ _ _ _ (EndK _ _ (.tup [.d (.agg [.int .i64 x.k,strs x.tokens,.str x.sep,strs (ruleNames x),.int .i64 (symW x.tokens (ruleNames x) x.start),.sl 2 ((ofP x x.rules.length).map encP)]),.d (.int .i64 0)]))
 rw [<- hst]
 repeat' (first|refine zW [1,57,95,102] ?_|(refine zB [1,57,95,102] ?_ ?_<;>intro h<;>try exact zk h)|refine zX [1,57,95,102] ?_|refine zC (cc) ?_|refine eA (c0 _) ?_|(refine zE ?_;(skip))|((exfalso;(simp at h<;>omega)))|fail)
 refine Run.loopT (fun i:Nat=>⟨PT.ofList [(1,cellX x),(2,.bp 0 0),(3,.d (.int .i64 0)),(5,.bp 2 0),(6,.mp 3),(34,.sr 1 1 ([]++x.tokens.map DV.str)),(35,.d (.int .i64 (([]++x.tokens.map DV.str).length:Nat))),(36,.d (.int .i64 i))],[boxG0,rmT x,boxO x 0 (.d .nilsl) (.d .nilsl),.map (kvD (pT x i))],[]⟩) (fun i=>i<=x.tokens.length) (fun i=>x.tokens.length-i) 0 (Nat.zero_le _) (ti _ 4) (fun i hi=>?_);rcases Nat.lt_or_ge i x.tokens.length with hlt|hge
 .obtain⟨s,hs⟩:=get_ok hlt
  have hno:s ∉ (pT x i).map (·.1):=by rw [pT_keys];exact fun hm=>nodup_not hs hm ha1
  have hj:=fun E t=>kv_none (E:=E) (t:=t) hno
  repeat' (first|refine zW [1,57,95,102] ?_|(refine zB [1,57,95,102] ?_ ?_<;>intro h<;>try exact zk h)|refine zX [1,57,95,102] ?_|refine oI (frz:=[1,57,95,102]) (v:=.d (.ep [.str s])) ?_ (he:=by first|(simp [gD,cellsD,hs]<;>fail)|fail)|refine eI (v:=.d (.ep [.str s])) ?_ (he:=by first|(simp [gD,cellsD,hs]<;>fail)|fail)|refine oX (frz:=[1,57,95,102]) Yo ?_ (hv:=evAny_mapUpdate (by rfl) (by rfl) (by rfl) (by rfl) (by rfl) (by rfl) (by rfl) (by rfl) (by rfl) (hj _ _))|(refine zE ?_;(skip))|((exfalso;(simp at h<;>omega)))|fail)
  exact⟨i+1,hlt,by omega,(ti _ 4 (Eq.trans (b:=[boxG0,rmT x,boxO x 0 (.d .nilsl) (.d .nilsl),.map (kvD (pT x i)++[(.str s,.int .i64 (i:Nat))])]) rfl (by rw [kvD_app,<- pT_succ hs])))⟩
 .have hie:i=x.tokens.length:=by omega
  subst hie
  repeat refine zS ?_
  refine oX (frz:=[1,57,95,102]) (v:=.d (.bool false)) Yo ?_ (he:=vF8 (by simp))
  repeat refine zS ?_
  iterate 4 refine zX [1,57,95,102] ?_
  repeat refine zS ?_
  refine Run.cellRoom 2 3 1 ?_;refine Run.loopT (fun i:Nat=>⟨PT.ofList [(1,cellX x),(2,.bp 0 0),(3,.d (.int .i64 0)),(5,.bp 2 0),(6,.mp 3),(46,.d (.sl 2 (x.rules.map encR))),(47,(.d (.int .i64 (x.rules.map encR).length))),(48,.d (.int .i64 i))],[boxG0,rmT x,boxO x 0 (.sr 4 1 (nmD x i)) (.d .nilsl),.map (kvD (pN x i)),.room (nmD x i).length 1],[]⟩) (fun i=>i<=x.rules.length) (fun i=>x.rules.length-i) 0 (Nat.zero_le _) (ti _ 5 (Eq.trans (b:=[boxG0,rmT x,boxO x 0 (.sr 4 1 []) (.d .nilsl),.map (kvD (pT x x.tokens.length)),.room 0 1]) rfl (by simp [nmD,pN]))) (fun i hi=>?_);rcases Nat.lt_or_ge i x.rules.length with hlt|hge
  .obtain⟨r,hr⟩:=get_ok hlt
   have hno:r.name ∉ (pN x i).map (·.1):=by
    rw [pN_keys];have hr':(ruleNames x)[i]?=some r.name:=by simp [hr]
    refine fun hm=>(List.mem_append.1 hm).elim (fun hm=>?_) (fun hm=>nodup_not hr' hm ha2);exact ha3 _ hm (List.mem_of_getElem? hr')
   have hj:=fun E t=>kv_none (E:=E) (t:=t) hno;have hnl:=nmD_len hi;have hL:AV.d (.int .i64 (IntKind.i64.wrap (16+(i:Int))))=.d (.int .i64 ((16+i:Nat):Int)):=vN8 (by omega) (by omega)
   repeat' (first|refine oX (frz:=[1,57,95,102]) (v:=.d (.int .i64 ((16+i:Nat):Int))) Yo ?_ (he:=(hL))|refine eX (v:=.d (.int .i64 ((16+i:Nat):Int))) ?_ (he:=(hL))|refine zW [1,57,95,102] ?_|(refine zB [1,57,95,102] ?_ ?_<;>intro h<;>try exact zk h)|refine zX [1,57,95,102] ?_|refine oI (frz:=[1,57,95,102]) (v:=.d (.ep [.str r.name,alts r.alts])) ?_ (he:=by first|(simp [gD,cellsD,hr,encR]<;>fail)|fail)|refine eI (v:=.d (.ep [.str r.name,alts r.alts])) ?_ (he:=by first|(simp [gD,cellsD,hr,encR]<;>fail)|fail)|refine oX (frz:=[1,57,95,102]) Yo ?_ (hv:=evAny_mapUpdate (by rfl) (by rfl) (by rfl) (by rfl) (by rfl) (by rfl) (by rfl) (by rfl) (by rfl) (hj _ _))|refine oX (frz:=[1,57,95,102]) Yo ?_ (hv:=app1) (hf:=rfl) (he:=rfl)|refine eX ?_ (hv:=app1) (hf:=rfl) (he:=rfl)|refine oX (frz:=[1,57,95,102]) Yo ?_ (hv:=app0) (hf:=rfl) (he:=rfl)|refine eX ?_ (hv:=app0) (hf:=rfl) (he:=rfl)|(refine zE ?_;(skip))|((exfalso;(simp at h<;>omega)))|fail)
   exact⟨i+1,hlt,by omega,(ti _ 5 (Eq.trans (b:=[boxG0,rmT x,boxO x 0 (.sr 4 1 (nmD x i++[.str r.name])) (.d .nilsl),.map (kvD (pN x i)++[(.str r.name,.int .i64 ((16+i:Nat):Int))]),.room ((nmD x i).length+1) 1]) rfl (by rw [kvD_app,<- pN_succ hr,<- nmD_succ hr,List.length_append];rfl)))⟩
  .have hie:i=x.rules.length:=by omega
   subst hie
   repeat refine zS ?_
   refine oX (frz:=[1,57,95,102]) (v:=.d (.bool false)) Yo ?_ (he:=vF8 (by simp))
   repeat refine zS ?_
   iterate 4 refine zX [1,57,95,102] ?_
   repeat refine zS ?_
   refine Run.cellRoom 2 5 2 ?_;refine Run.loopT (fun y:Nat × List GProd=>⟨PT.ofList [(1,cellX x),(2,.bp 0 0),(3,.d (.int .i64 0)),(5,.bp 2 0),(6,.mp 3),(67,.d (.sl 2 (x.rules.map encR))),(68,(.d (.int .i64 (x.rules.map encR).length))),(69,.d (.int .i64 y.1))],[boxG0,rmT x,boxW x 0 (nmD x x.rules.length) (y.2.map encP),.map (kvD (pN x x.rules.length)),.room (nmD x x.rules.length).length 1,.room (y.2.map encP).length 2],[]⟩) (fun y=>y.1<=x.rules.length/\y.2=ofP x y.1) (fun y=>x.rules.length-y.1) (0,[]) ⟨Nat.zero_le _,rfl⟩ (ti _ 6) (fun y hy=>?_);obtain⟨i,acc⟩:=y;obtain⟨hi1,hi2⟩:=hy;simp only at hi1 hi2 |-;rcases Nat.lt_or_ge i x.rules.length with hlt|hge
   .obtain⟨r,hr⟩:=get_ok hlt
    have hmem:=List.mem_of_getElem? hr;have hra:=hf.alts r hmem;have hro:=ofP_succ hr;have hsl:(ofP x (i+1)).length<=24:=by
     have h1:=ofP_len (x:=x) (i:=i+1) hlt;have h2:sumTo x (i+1)<=sumTo x x.rules.length:=by
      unfold sumTo;rw [List.take_length]
      conv=>rhs;rw [<- List.take_append_drop (i+1) x.rules,List.map_append,List.sum_append]
      omega
     omega
    repeat refine zS ?_
    refine oX (frz:=[1,57,95,102]) (v:=.d (.bool true)) Yo ?_ (he:=vT8 (by simp<;>omega))
    repeat refine zS ?_
    refine zX [1,57,95,102] ?_;refine oX (frz:=[1,57,95,102]) (v:=.d (.ep [.str r.name,alts r.alts])) Yo ?_ (hf:=by simp [inB]<;>omega) (he:=by simp [List.getD_eq_getElem?_getD,cellsD,hr,encR]);iterate 4 refine zX [1,57,95,102] ?_
    repeat refine zS ?_
    iterate 4 refine zX [1,57,95,102] ?_
    repeat refine zS ?_
    refine Run.loopT (fun y:Nat × List GProd=>⟨PT.ofList [(1,cellX x),(2,.bp 0 0),(3,.d (.int .i64 0)),(5,.bp 2 0),(6,.mp 3),(67,.d (.sl 2 (x.rules.map encR))),(68,(.d (.int .i64 (x.rules.map encR).length))),(69,.d (.int .i64 i)),(11,.d (.int .i64 i)),(75,.d (alts r.alts)),(76,.d (.int .i64 (r.alts.map strs).length)),(77,.d (.int .i64 y.1))],[boxG0,rmT x,boxW x 0 (nmD x x.rules.length) (y.2.map encP),.map (kvD (pN x x.rules.length)),.room (nmD x x.rules.length).length 1,.room (y.2.map encP).length 2],[]⟩) (fun y=>y.1<=r.alts.length/\y.2=ofP x i++(r.alts.take y.1).map (altP x.tokens (ruleNames x) i)) (fun y=>r.alts.length-y.1) (0,acc) ⟨Nat.zero_le _,by simp [hi2]⟩ (ti _ 6) (fun y hy=>?_);obtain⟨k,acc⟩:=y;obtain⟨hk1,hk2⟩:=hy;simp only at hk1 hk2 |-;rcases Nat.lt_or_ge k r.alts.length with hkl|hkg
    .obtain⟨a,ha⟩:=get_ok hkl
     have hma:=List.mem_of_getElem? ha;have hal6:=hs4 r hmem a hma;have hnext:acc++[altP x.tokens (ruleNames x) i a]=ofP x i++(r.alts.take (k+1)).map (altP x.tokens (ruleNames x) i):=by rw [List.take_add_one,ha,hk2];simp
     have haccl:acc.length+1<=24:=by
      have h1:=congrArg List.length hnext;rw [hro,List.length_append,List.length_map] at hsl;simp only [List.length_append,List.length_map,List.length_take,List.length_cons,List.length_nil] at h1;omega
     have hL:AV.d (.int .i64 (IntKind.i64.wrap (16+(i:Int))))=.d (.int .i64 ((16+i:Nat):Int)):=vN8 (by omega) (by omega)
     repeat refine zS ?_
     refine oX (frz:=[1,57,95,102]) (v:=.d (.bool true)) Yo ?_ (he:=vT8 (by simp<;>omega))
     repeat refine zS ?_
     refine oX (frz:=[1,57,95,102]) (v:=.d (.ep [strs a])) Yo ?_ (hf:=by simp [inB]<;>omega) (he:=by simp [List.getD_eq_getElem?_getD,cellsD,ha]);iterate 2 refine zX [1,57,95,102] ?_
     repeat refine zS ?_
     refine zX [1,57,95,102] ?_;refine oX (frz:=[1,57,95,102]) (v:=.d (.int .i64 ((16+i:Nat):Int))) Yo ?_ (he:=hL);iterate 3 refine zX [1,57,95,102] ?_
     repeat refine zS ?_
     iterate 3 refine zX [1,57,95,102] ?_
     repeat refine zS ?_
     refine Run.cellRoom 6 1 1 ?_;refine Run.loopT (fun z:Nat × List Int=>⟨PT.ofList [(1,cellX x),(2,.bp 0 0),(3,.d (.int .i64 0)),(5,.bp 2 0),(6,.mp 3),(67,.d (.sl 2 (x.rules.map encR))),(68,(.d (.int .i64 (x.rules.map encR).length))),(69,.d (.int .i64 i)),(11,.d (.int .i64 i)),(75,.d (alts r.alts)),(76,.d (.int .i64 (r.alts.map strs).length)),(77,.d (.int .i64 k)),(15,.bp 6 0),(84,.d (strs a)),(85,.d (.int .i64 (a.map DV.str).length)),(86,.d (.int .i64 z.1))],[boxG0,rmT x,boxW x 0 (nmD x x.rules.length) (acc.map encP),.map (kvD (pN x x.rules.length)),.room (nmD x x.rules.length).length 1,.room (acc.map encP).length 2,.box [.d (.int .i64 ((16+i:Nat):Int)),.sr 7 1 (rgtD z.2)],.room (rgtD z.2).length 1],[]⟩)
      (fun z=>z.1<=a.length/\z.2=(a.take z.1).map (symW x.tokens (ruleNames x))) (fun z=>a.length-z.1) (0,[]) ⟨Nat.zero_le _,rfl⟩ (ti _ 8) (fun z hz=>?_)
     obtain⟨j,rg⟩:=z;obtain⟨hj1,hj2⟩:=hz;simp only at hj1 hj2 |-;have hrgl:(rgtD rg).length=j:=by rw [rgtD_len,hj2];simp;omega
     rcases Nat.lt_or_ge j a.length with hjl|hjg
     .obtain⟨s,hs⟩:=get_ok hjl
      have hnx:rg++[symW x.tokens (ruleNames x) s]=(a.take (j+1)).map (symW x.tokens (ruleNames x)):=by rw [List.take_add_one,hs,hj2];simp
      obtain⟨jj,hsj⟩:∃ j,findKV (eqKey Et 9) (.str s) (kvD (pN x x.rules.length))=some (some (j,.int .i64 (symW x.tokens (ruleNames x) s))):=look_sym h0 (checkX_known h0 (.inr ⟨r,hmem,a,hma,List.mem_of_getElem? hs⟩))
      repeat' (first|refine zW [1,57,95,102] ?_|(refine zB [1,57,95,102] ?_ ?_<;>intro h<;>try exact zk h)|refine zX [1,57,95,102] ?_|refine oI (frz:=[1,57,95,102]) (v:=.d (.ep [.str s])) ?_ (he:=by first|(simp [gD,cellsD,hs]<;>fail)|fail)|refine eI (v:=.d (.ep [.str s])) ?_ (he:=by first|(simp [gD,cellsD,hs]<;>fail)|fail)|refine oX (frz:=[1,57,95,102]) Yo ?_ (hv:=evAny_lookup (by rfl) (by rfl) (by rfl) (by rfl) (by rfl) (by rfl) (by rfl) (by rfl) (by rfl) hsj (by rfl))|refine eX ?_ (hv:=evAny_lookup (by rfl) (by rfl) (by rfl) (by rfl) (by rfl) (by rfl) (by rfl) (by rfl) (by rfl) hsj (by rfl))|refine oX (frz:=[1,57,95,102]) Yo ?_ (hv:=app1) (hf:=rfl) (he:=rfl)|refine eX ?_ (hv:=app1) (hf:=rfl) (he:=rfl)|refine oX (frz:=[1,57,95,102]) Yo ?_ (hv:=app0) (hf:=rfl) (he:=rfl)|refine eX ?_ (hv:=app0) (hf:=rfl) (he:=rfl)|(refine zE ?_;(skip))|((exfalso;(simp at h<;>omega)))|fail)
      exact⟨(j+1,rg++[symW x.tokens (ruleNames x) s]),⟨hjl,hnx⟩,by simp only<;>omega,(ti _ 8 (Eq.trans (b:=[boxG0,rmT x,boxW x 0 (nmD x x.rules.length) (acc.map encP),.map (kvD (pN x x.rules.length)),.room (nmD x x.rules.length).length 1,.room (acc.map encP).length 2,.box [.d (.int .i64 ((16+i:Nat):Int)),.sr 7 1 (rgtD rg++[.int .i64 (symW x.tokens (ruleNames x) s)])],.room ((rgtD rg).length+1) 1]) rfl (by rw [rgtD_app];simp only [rgtD_len,List.length_append,List.length_cons,List.length_nil])))⟩
     .have hje:j=a.length:=by omega
      have hrg:rg=a.map (symW x.tokens (ruleNames x)):=by rw [hj2,hje,List.take_length]
      rw [show altP x.tokens (ruleNames x) i a=⟨((16+i:Nat):Int),rg⟩ from by rw [hrg];rfl] at hnext
      repeat refine zS ?_
      refine oX (frz:=[1,57,95,102]) (v:=.d (.bool false)) Yo ?_ (he:=vF8 (by simp<;>omega))
      repeat refine zS ?_
      iterate 3 refine zX [1,57,95,102] ?_
      first|refine Run.tidy (tidy_of (objs:=_) [(1,cellX x),(2,.bp 0 0),(3,.d (.int .i64 0)),(5,.bp 2 0),(6,.mp 3),(67,.d (.sl 2 (x.rules.map encR))),(68,(.d (.int .i64 (x.rules.map encR).length))),(69,.d (.int .i64 i)),(11,.d (.int .i64 i)),(75,.d (alts r.alts)),(76,.d (.int .i64 (r.alts.map strs).length)),(77,.d (.int .i64 k)),(100,.sr 5 2 (acc.map encP)),(101,.d (encP (⟨((16+i:Nat):Int),rg⟩:GProd)))] 6 (Eq.trans (b:=[boxG0,rmT x,boxW x 0 (nmD x x.rules.length) (acc.map encP),.map (kvD (pN x x.rules.length)),.room (nmD x x.rules.length).length 1,.room (acc.map encP).length 2]) rfl rfl) rfl (by repeat' (first|exact trivial|refine⟨(Or.inl rfl),?_⟩|refine⟨(Or.inr rfl),?_⟩|refine⟨rfl,?_⟩|fail)) (by repeat' (first|exact trivial|refine⟨(Or.inl rfl),?_⟩|refine⟨(Or.inr rfl),?_⟩|refine⟨rfl,?_⟩|fail)) rfl rfl) ?_|refine RunOps.tidy (tidy_of (objs:=_) [(1,cellX x),(2,.bp 0 0),(3,.d (.int .i64 0)),(5,.bp 2 0),(6,.mp 3),(67,.d (.sl 2 (x.rules.map encR))),(68,(.d (.int .i64 (x.rules.map encR).length))),(69,.d (.int .i64 i)),(11,.d (.int .i64 i)),(75,.d (alts r.alts)),(76,.d (.int .i64 (r.alts.map strs).length)),(77,.d (.int .i64 k)),(100,.sr 5 2 (acc.map encP)),(101,.d (encP (⟨((16+i:Nat):Int),rg⟩:GProd)))] 6 (Eq.trans (b:=[boxG0,rmT x,boxW x 0 (nmD x x.rules.length) (acc.map encP),.map (kvD (pN x x.rules.length)),.room (nmD x x.rules.length).length 1,.room (acc.map encP).length 2]) rfl rfl) rfl (by repeat' (first|exact trivial|refine⟨(Or.inl rfl),?_⟩|refine⟨(Or.inr rfl),?_⟩|refine⟨rfl,?_⟩|fail)) (by repeat' (first|exact trivial|refine⟨(Or.inl rfl),?_⟩|refine⟨(Or.inr rfl),?_⟩|refine⟨rfl,?_⟩|fail)) rfl rfl) ?_
      refine zX [1,57,95,102] ?_;refine oX (frz:=[1,57,95,102]) Yo ?_ (hv:=app1) (hf:=rfl) (he:=rfl);iterate 2 refine zX [1,57,95,102] ?_
      repeat refine zS ?_
      refine oX (frz:=[1,57,95,102]) (v:=.d (.int .i64 ((k+1:Nat):Int))) Yo ?_ (he:=vN8 (by omega) (by omega));refine zX [1,57,95,102] ?_
      repeat refine zS ?_
      exact⟨(k+1,acc++[(⟨((16+i:Nat):Int),rg⟩:GProd)]),⟨hkl,hnext⟩,by simp only<;>omega,(ti _ 6 (Eq.trans (b:=[boxG0,rmT x,boxW x 0 (nmD x x.rules.length) (acc.map encP++[encP (⟨((16+i:Nat):Int),rg⟩:GProd)]),.map (kvD (pN x x.rules.length)),.room (nmD x x.rules.length).length 1,.room ((acc.map encP).length+1) 2]) rfl (by rw [encP_app];simp only [List.length_map,List.length_append,List.length_cons,List.length_nil])))⟩
    .have hke:k=r.alts.length:=by omega
     have hacc:acc=ofP x (i+1):=by rw [hk2,hke,List.take_length,hro]
     repeat refine zS ?_
     refine oX (frz:=[1,57,95,102]) (v:=.d (.bool false)) Yo ?_ (he:=vF8 (by simp<;>omega))
     repeat refine zS ?_
     refine oX (frz:=[1,57,95,102]) (v:=.d (.int .i64 ((i+1:Nat):Int))) Yo ?_ (he:=vN8 (by omega) (by omega));refine zX [1,57,95,102] ?_
     repeat refine zS ?_
     exact⟨(i+1,acc),⟨hlt,hacc⟩,by simp only<;>omega,(ti _ 6)⟩
   .have hie:i=x.rules.length:=by omega
    have hoe:ofP x x.rules.length=acc:=by rw [hi2,hie]
    obtain⟨jj,hsj⟩:∃ j,findKV (eqKey Et 9) (.str x.start) (kvD (pN x x.rules.length))=some (some (j,.int .i64 st)):=by rw [hst];exact look_sym h0 (checkX_known h0 (.inl rfl))
    have hnm:strs (ruleNames x)=.sl 1 (nmD x x.rules.length):=by
     unfold nmD;rw [List.take_of_length_le (by simp)]
    rw [hoe,hnm]
    repeat refine zS ?_
    refine oX (frz:=[1,57,95,102]) (v:=.d (.bool false)) Yo ?_ (he:=vF8 (by simp<;>omega))
    repeat' (first|refine zW [1,57,95,102] ?_|(refine zB [1,57,95,102] ?_ ?_<;>intro h<;>try exact zk h)|refine zX [1,57,95,102] ?_|refine oX (frz:=[1,57,95,102]) Yo ?_ (hv:=evAny_lookup (by rfl) (by rfl) (by rfl) (by rfl) (by rfl) (by rfl) (by rfl) (by rfl) (by rfl) hsj (by rfl))|refine eX ?_ (hv:=evAny_lookup (by rfl) (by rfl) (by rfl) (by rfl) (by rfl) (by rfl) (by rfl) (by rfl) (by rfl) hsj (by rfl))|(refine zE ?_;(rfl))|fail)
theorem grOf (x:Src) (hf:FitsX x) (hin:(innerX x).length<=1048576):KnownCall Tryz.prog 54 [encX x] (.tup [.d (encG (ofRes x)),.d (.int .i64 (checkX x))]):=by
 by_cases h0:checkX x=0
 .have e:ofRes x=ofX x:=if_pos h0
  rw [e,h0];exact grOf0 x hf hin h0
 .have e:ofRes x=g0:=if_neg h0
  rw [e];have cc:=checkS x hf hin;generalize checkX x=c at cc h0 |-;refine known_toN2 ?_ zeroG;refine knownE Yo (fnAt Tryz.func54 (by kernel_rfl) (by kernel_rfl):FnAt _ _ (mkFn Tryz.f54 [1,57,95,102])) ?_
  repeat' (first|refine zW [1,57,95,102] ?_|(refine zB [1,57,95,102] ?_ ?_<;>intro h<;>try exact zk h)|refine zX [1,57,95,102] ?_|refine zC (cc) ?_|(refine zE ?_;(rfl))|((exfalso;(simp [h0] at h<;>fail)))|fail)
end Go.Av
end
noncomputable section
namespace Go.Av
open Go Go.Proofs
set_option maxRecDepth 10000
def isS (n:Nat):Option (AV × Option (List Ob))->Bool
 |some (.d (.str [m]),none)=>Nat.beq m n
 |_=>false
theorem isS_eq {n:Nat} {x:Option (AV × Option (List Ob))} (h:isS n x=true):x=some (.d (.str [n]),none):=by
 unfold isS at h;split at h
 .rw [Nat.eq_of_beq_eq_true h]
 .cases h
theorem vbS (n:Nat) (h:n<128):KnownCall Tryz.prog 208 [.int .u64 (n:Nat)] (.d (.str [n])):=by
 have hall:upTo 128 (fun n=>isS n (evBoth Et Ft.get? (hdlM T0 Et Ft.get? 1000 20) 1000 208 ([DV.int .u64 (n:Nat)].map .d) []))=true:=by kernel_rfl
 exact known T0_ok Yo (by kernel_rfl) Ft_ok (isS_eq (upTo_get hall n h))
theorem wrapU {n:Nat} (h:n<=1099511627776):AV.d (.int .u64 (IntKind.u64.wrap (n:Int)))=.d (.int .u64 (n:Nat)):=by
 have:IntKind.u64.wrap (n:Int)=n:=IntWalk.u64_in n ⟨by omega,by omega⟩;rw [this]
abbrev wrC (s:List Nat):List AV:=[.d (.str s),.d (.int .i64 20000),.d (.int .i64 0)]
abbrev wrD (s:List Nat):DV:=.agg [.str s,.int .i64 20000,.int .i64 0]
abbrev wr0:Ob:=.box [.d (.str []),.d (.int .i64 0),.d (.int .i64 0)]
def strsC (l:List (List Nat)):List Nat:=l.flatMap fun x=>x.length :: x
def namesC (l:List (List Nat)):List Nat:=l.length :: strsC l
def pairC (l:List (List Nat)):List (List Nat):=l.flatMap fun x=>[[x.length],x]
theorem pairC_flat (l:List (List Nat)):(pairC l).flatten=strsC l:=by
 induction l with
 |nil=>rfl
 |cons a l ih=>simp only [pairC,strsC,List.flatMap_cons,List.flatten_append] at ih |-;rw [ih];simp
theorem makeS:KnownCall Tryz.prog 135 [.int .i64 20000] (.d (wrD [])):=known T0_ok Yo (by kernel_rfl) Ft_ok (k:=1000) (n:=20) (by kernel_rfl)
theorem startA (s:List Nat) (hs:s.length<=20000):ACall Tryz.prog 206 [.d (wrD s)] [] (.bp 1 0) [.box (wrC s),.box (wrC s)]:=by
 refine acall_of_run Yo (fnAt Tryz.func206 (by kernel_rfl) (by kernel_rfl):FnAt _ _ (mkFn Tryz.f206 [])) rfl rfl ?_
 repeat' (first|refine zW [] ?_|(refine zB [] ?_ ?_<;>intro h<;>try exact zk h)|refine zX [] ?_|(refine zE ?_;(skip))|((exfalso;(simp at h<;>omega)))|fail)
 refine Yt ?_;exact⟨trivial,rfl,rfl⟩
theorem flatT {l:List (List Nat)} {i:Nat} {x:List Nat} (h:l[i]?=some x):(l.take (i+1)).flatten=(l.take i).flatten++x:=by
 rw [List.take_add_one,h];simp
theorem flatT_le (l:List (List Nat)) (i:Nat):((l.take i).flatten).length<=(l.flatten).length:=by
 conv=>rhs;rw [<- List.take_append_drop i l,List.flatten_append,List.length_append]
 omega
set_option maxHeartbeats 1000000 in
theorem writeW (O P:Ob) (s:List Nat) (l:List (List Nat)) (h0:(s++l.flatten).length<=20000) (hl:l.length<=4194304) :
  ACall Tryz.prog 209 [.bp 2 0,.d (strs l)] [O,P,.box (wrC s)] (.d (wrD (s++l.flatten))) [O,P,.box (wrC (s++l.flatten)),.box (wrC (s++l.flatten))]:=by
 rw [List.length_append] at h0;have h1:AV.d (.int .i64 (IntKind.i64.wrap (20000-(s.length:Int))))=.d (.int .i64 ((20000-s.length:Nat):Int)):=vN8 (by omega) (by omega);refine acall_of_run Yo (fnAt Tryz.func209 (by kernel_rfl) (by kernel_rfl):FnAt _ _ (mkFn Tryz.f209 [])) rfl rfl ?_
 repeat' (first|refine oX (frz:=[]) (v:=.d (.int .i64 ((20000-s.length:Nat):Int))) Yo ?_ (he:=(h1))|refine eX (v:=.d (.int .i64 ((20000-s.length:Nat):Int))) ?_ (he:=(h1))|refine zW [] ?_|(refine zB [] ?_ ?_<;>intro h<;>try exact zk h)|refine zX [] ?_|(refine zE ?_;(skip))|((exfalso;(simp at h<;>omega)))|fail)
 refine Run.loop (fun i:Nat=>⟨PT.ofList [(0,.bp 2 0),(1,.d (strs l)),(4,.bp 3 0),(5,.d (.int .i64 ((20000-s.length-((l.take i).flatten).length:Nat):Int))),(32,.d (strs l)),(33,.d (.int .i64 (l.map DV.str).length)),(34,.d (.int .i64 i))],[O,P,.box (wrC s),wr0],[]⟩) (fun i=>i<=l.length) (fun i=>l.length-i) 0 (Nat.zero_le _) (weak_of (by repeat' (first|exact trivial|refine⟨rfl,?_⟩))) (fun i hi=>?_);rcases Nat.lt_or_ge i l.length with hlt|hge
 .obtain⟨x,hx⟩:=get_ok hlt
  have hfl:=congrArg List.length (flatT hx);have hle:=flatT_le l (i+1);rw [List.length_append] at hfl;have h2:AV.d (.int .i64 (IntKind.i64.wrap (((20000-s.length-((l.take i).flatten).length:Nat):Int)-(x.length:Int))))=.d (.int .i64 ((20000-s.length-((l.take (i+1)).flatten).length:Nat):Int)):=vN8 (by omega) (by omega)
  repeat' (first|refine oX (frz:=[]) (v:=.d (.int .i64 ((20000-s.length-((l.take (i+1)).flatten).length:Nat):Int))) Yo ?_ (he:=(h2))|refine eX (v:=.d (.int .i64 ((20000-s.length-((l.take (i+1)).flatten).length:Nat):Int))) ?_ (he:=(h2))|refine zW [] ?_|(refine zB [] ?_ ?_<;>intro h<;>try exact zk h)|refine zX [] ?_|refine oI (frz:=[]) (v:=.d (.ep [.str x])) ?_ (he:=by first|(simp [gD,cellsD,hx]<;>fail)|fail)|refine eI (v:=.d (.ep [.str x])) ?_ (he:=by first|(simp [gD,cellsD,hx]<;>fail)|fail)|(refine zE ?_;(skip))|(exact⟨i+1,hlt,by omega,weak_of (by repeat' (first|exact trivial|refine⟨rfl,?_⟩|refine⟨(inc_get (k:=i) (by kernel_rfl) (by omega)),?_⟩))⟩)|((exfalso;have h':=of_decide_eq_true h;omega))|fail)
 .have hie:i=l.length:=by omega
  subst hie
  repeat' (first|refine zW [] ?_|(refine zB [] ?_ ?_<;>intro h<;>try exact zk h)|refine zX [] ?_|(refine zE ?_;(skip))|((exfalso;(simp at h<;>omega)))|fail)
  refine Run.loop (fun i:Nat=>⟨PT.ofList [(0,.bp 2 0),(1,.d (strs l)),(4,.bp 3 0),(55,.d (strs l)),(56,.d (.int .i64 (l.map DV.str).length)),(57,.d (.int .i64 i))],[O,P,.box (wrC (s++(l.take i).flatten)),wr0],[]⟩) (fun i=>i<=l.length) (fun i=>l.length-i) 0 (Nat.zero_le _) (weak_of' (by rw [List.take_zero,List.flatten_nil,List.append_nil]) rfl (by repeat' (first|exact trivial|refine⟨rfl,?_⟩))) (fun i hi=>?_);rcases Nat.lt_or_ge i l.length with hlt|hge
  .obtain⟨x,hx⟩:=get_ok hlt
   have hft:=flatT hx;have hfl:=congrArg List.length hft;have hle:=flatT_le l (i+1);rw [List.length_append] at hfl
   repeat' (first|refine zW [] ?_|(refine zB [] ?_ ?_<;>intro h<;>try exact zk h)|refine zX [] ?_|refine oI (frz:=[]) (v:=.d (.ep [.str x])) ?_ (he:=by first|(simp [gD,cellsD,hx]<;>fail)|fail)|refine eI (v:=.d (.ep [.str x])) ?_ (he:=by first|(simp [gD,cellsD,hx]<;>fail)|fail)|refine oX (frz:=[]) Yo ?_ (hf:=by rw [Nat.ble_eq,List.length_append];omega)|(refine zE ?_;(skip))|(exact⟨i+1,hlt,by omega,weak_of' (by rw [hft,<- List.append_assoc];rfl) rfl (by repeat' (first|exact trivial|refine⟨rfl,?_⟩|refine⟨(inc_get (k:=i) (by kernel_rfl) (by omega)),?_⟩))⟩)|((exfalso;(simp at h<;>omega)))|fail)
  .have hie:i=l.length:=by omega
   subst hie;rw [List.take_length]
   repeat' (first|refine zW [] ?_|(refine zB [] ?_ ?_<;>intro h<;>try exact zk h)|refine zX [] ?_|(refine zE ?_;(skip))|((exfalso;(simp at h<;>omega)))|fail)
   refine Yt ?_;exact⟨trivial,rfl,rfl⟩
theorem putV (s:List Nat) (n:Nat) (hn:n<128) (hs:s.length+1<=20000):KnownCall Tryz.prog 207 [wrD s,.int .u64 (n:Nat)] (.d (wrD (s++[n]))):=by
 have c1:=fun O=>ACall.lift (ds:=[wrD s]) (startA s (by omega)) rfl O;have c2:=vbS n hn;have c3:=fun O P=>writeW O P s [[n]] (by simp;omega) (by simp);refine knownE Yo (fnAt Tryz.func207 (by kernel_rfl) (by kernel_rfl):FnAt _ _ (mkFn Tryz.f207 [2,9])) ?_
 repeat' (first|refine zW [2,9] ?_|(refine zB [2,9] ?_ ?_<;>intro h<;>try exact zk h)|refine zX [2,9] ?_|refine oA (c1 _) ?_|refine zC (c2) ?_|refine oA (c3 _ _) ?_|(refine zE ?_;(rfl))|fail)
set_option maxHeartbeats 1000000 in
theorem putStr (s:List Nat) (l:List (List Nat)) (hl:∀ x ∈ l,x.length<128) (hn:l.length<=1048576) (hs:(s++strsC l).length<=20000):KnownCall Tryz.prog 138 [wrD s,strs l] (.d (wrD (s++strsC l))):=by
 rw [List.length_append] at hs;have c1:=fun O=>ACall.lift (ds:=[wrD s]) (startA s (by omega)) rfl O;have hpl:(pairC l).length<=2*l.length:=by
  clear c1 hs hn hl
  induction l with
  |nil=>simp [pairC]
  |cons a l ih=>simp only [pairC,List.flatMap_cons,List.length_append,List.length_cons,List.length_nil] at ih |-;omega
 have c3:=fun O P=>writeW O P s (pairC l) (by rw [pairC_flat,List.length_append];omega) (by omega);rw [pairC_flat] at c3;refine knownE Yo (fnAt Tryz.func138 (by kernel_rfl) (by kernel_rfl):FnAt _ _ (mkFn Tryz.f138 [2,20])) ?_
 repeat' (first|refine zW [2,20] ?_|(refine zB [2,20] ?_ ?_<;>intro h<;>try exact zk h)|refine zX [2,20] ?_|(refine zE ?_;(skip))|fail)
 refine Run.mkRoom 5 1 [(1,.d (strs l)),(2,.d (.ep [.str s,.int .i64 20000,.int .i64 0])),(4,.bp 0 0),(5,.sr 1 1 []),(8,.d (strs l)),(9,.d (.int .i64 (l.map DV.str).length)),(10,.d (.int .i64 (0:Nat)))] (by kernel_rfl) (ofList_cases (by intro p hp;simp only [List.mem_cons,List.not_mem_nil,or_false] at hp;rcases hp with rfl|rfl|rfl|rfl|rfl|rfl|rfl<;>first|exact .inl ⟨rfl,rfl⟩|exact .inr (by kernel_rfl))) ?_;refine Run.loopT (fun y:Nat × List DV=>⟨PT.ofList [(1,.d (strs l)),(2,.d (.ep [.str s,.int .i64 20000,.int .i64 0])),(4,.bp 0 0),(5,.sr 1 1 y.2),(8,.d (strs l)),(9,.d (.int .i64 (l.map DV.str).length)),(10,.d (.int .i64 y.1))],[wr0,.room y.2.length 1],[]⟩) (fun y=>y.1<=l.length/\y.2=(pairC (l.take y.1)).map DV.str/\y.2.length<=2*y.1) (fun y=>l.length-y.1) (0,[]) ⟨Nat.zero_le _,rfl,Nat.le_refl _⟩ (ti _ 2) (fun y hy=>?_);obtain⟨i,acc⟩:=y;obtain⟨hi1,hi2,hi3⟩:=hy;simp only at hi1 hi2 hi3 |-;rcases Nat.lt_or_ge i l.length with hlt|hge
 .obtain⟨x,hx⟩:=get_ok hlt
  have hxl:=hl x (List.mem_of_getElem? hx);have c2:=vbS x.length hxl;have hw:AV.d (.int .u64 (IntKind.u64.wrap (x.length:Int)))=.d (.int .u64 (x.length:Nat)):=wrapU (by omega);have hnx:acc++[.str [x.length],.str x]=(pairC (l.take (i+1))).map DV.str:=by
   rw [hi2];simp [pairC,List.take_add_one,hx]
  repeat' (first|refine oX (frz:=[2,20]) (v:=.d (.int .u64 (x.length:Nat))) Yo ?_ (he:=(hw))|refine eX (v:=.d (.int .u64 (x.length:Nat))) ?_ (he:=(hw))|refine zW [2,20] ?_|(refine zB [2,20] ?_ ?_<;>intro h<;>try exact zk h)|refine zX [2,20] ?_|refine oI (frz:=[2,20]) (v:=.d (.ep [.str x])) ?_ (he:=by first|(simp [gD,cellsD,hx]<;>fail)|fail)|refine eI (v:=.d (.ep [.str x])) ?_ (he:=by first|(simp [gD,cellsD,hx]<;>fail)|fail)|refine zC (c2) ?_|refine oX (frz:=[2,20]) Yo ?_ (hv:=app1) (hf:=rfl) (he:=rfl)|refine eX ?_ (hv:=app1) (hf:=rfl) (he:=rfl)|refine oX (frz:=[2,20]) Yo ?_ (hv:=app0) (hf:=rfl) (he:=rfl)|refine eX ?_ (hv:=app0) (hf:=rfl) (he:=rfl)|(refine zE ?_;(skip))|((exfalso;(simp at h<;>omega)))|fail)
  exact⟨(i+1,acc++[.str [x.length],.str x]),⟨hlt,hnx,by simp;omega⟩,by simp only<;>omega,(ti _ 2 (Eq.trans (b:=[wr0,.room (acc.length+2) 1]) rfl (by simp)))⟩
 .have hie:i=l.length:=by omega
  subst hie;rw [List.take_length] at hi2;subst hi2
  repeat refine zS ?_
  refine oX (frz:=[2,20]) (v:=.d (.bool false)) Yo ?_ (he:=vF8 (by simp))
  repeat refine zS ?_
  first|refine Run.tidy (tidy_of (objs:=_) [(2,.d (.ep [.str s,.int .i64 20000,.int .i64 0])),(4,.bp 0 0),(5,.d (strs (pairC l)))] 1 (Eq.trans (b:=[wr0]) rfl rfl) rfl (by repeat' (first|exact trivial|refine⟨(Or.inl rfl),?_⟩|refine⟨(Or.inr rfl),?_⟩|refine⟨rfl,?_⟩|fail)) (by repeat' (first|exact trivial|refine⟨(Or.inl rfl),?_⟩|refine⟨(Or.inr rfl),?_⟩|refine⟨rfl,?_⟩|fail)) rfl rfl) ?_|refine RunOps.tidy (tidy_of (objs:=_) [(2,.d (.ep [.str s,.int .i64 20000,.int .i64 0])),(4,.bp 0 0),(5,.d (strs (pairC l)))] 1 (Eq.trans (b:=[wr0]) rfl rfl) rfl (by repeat' (first|exact trivial|refine⟨(Or.inl rfl),?_⟩|refine⟨(Or.inr rfl),?_⟩|refine⟨rfl,?_⟩|fail)) (by repeat' (first|exact trivial|refine⟨(Or.inl rfl),?_⟩|refine⟨(Or.inr rfl),?_⟩|refine⟨rfl,?_⟩|fail)) rfl rfl) ?_
  repeat' (first|refine zW [2,20] ?_|(refine zB [2,20] ?_ ?_<;>intro h<;>try exact zk h)|refine zX [2,20] ?_|refine oA (c1 _) ?_|refine oA (c3 _ _) ?_|(refine zE ?_;(rfl))|fail)
theorem wputS (R:List Ob) (s:List Nat) (l:List Int) (hl:∀ n ∈ l,0<=n/\n<128) (hs:s.length+l.length<=20000) :
  ACall Tryz.prog 136 [.bp 0 0,.d (ints l)] (.box (wrC s) :: R) (.tup []) (.box (wrC (s++l.map Int.toNat)) :: R):=by
 refine acall_of_run Yo (fnAt Tryz.func136 (by kernel_rfl) (by kernel_rfl):FnAt _ _ (mkFn Tryz.f136 [])) rfl rfl ?_
 repeat' (first|refine zW [] ?_|(refine zB [] ?_ ?_<;>intro h<;>try exact zk h)|refine zX [] ?_|(refine zE ?_;(skip))|fail)
 refine Run.loop (fun i:Nat=>⟨PT.ofList [(0,.bp 0 0),(6,.d (ints l)),(7,.d (.int .i64 (l.map (DV.int .i64)).length)),(8,.d (.int .i64 i))],.box (wrC (s++(l.take i).map Int.toNat)) :: R,[]⟩) (fun i=>i<=l.length) (fun i=>l.length-i) 0 (Nat.zero_le _) (weak_of' (by rw [List.take_zero,List.map_nil,List.append_nil]) rfl (by repeat' (first|exact trivial|refine⟨rfl,?_⟩))) (fun i hi=>?_);rcases Nat.lt_or_ge i l.length with hlt|hge
 .obtain⟨n,hx⟩:=get_ok hlt
  obtain⟨h1,h2⟩:=hl n (List.mem_of_getElem? hx);obtain⟨m,rfl⟩:=Int.eq_ofNat_of_zero_le h1;have hw:AV.d (.int .u64 (IntKind.u64.wrap (m:Int)))=.d (.int .u64 (m:Nat)):=wrapU (by omega);have c:=putV (s++(l.take i).map Int.toNat) m (by omega) (by simp;omega);have hnx:s++(l.take (i+1)).map Int.toNat=s++(l.take i).map Int.toNat++[m]:=by rw [List.take_add_one,hx];simp
  repeat' (first|refine oX (frz:=[]) (v:=.d (.int .u64 (m:Nat))) Yo ?_ (he:=(hw))|refine eX (v:=.d (.int .u64 (m:Nat))) ?_ (he:=(hw))|refine zW [] ?_|(refine zB [] ?_ ?_<;>intro h<;>try exact zk h)|refine zX [] ?_|refine oI (frz:=[]) (v:=.d (.ep [.int .i64 (m:Int)])) ?_ (he:=by first|(simp [gD,cellsD,hx]<;>fail)|fail)|refine eI (v:=.d (.ep [.int .i64 (m:Int)])) ?_ (he:=by first|(simp [gD,cellsD,hx]<;>fail)|fail)|refine zC (c) ?_|(refine zE ?_;(skip))|(exact⟨i+1,hlt,by omega,weak_of' (by rw [hnx];rfl) rfl (by repeat' (first|exact trivial|refine⟨rfl,?_⟩|refine⟨(inc_get (k:=i) (by kernel_rfl) (by omega)),?_⟩))⟩)|((exfalso;(simp at h<;>omega)))|fail)
 .have hie:i=l.length:=by omega
  subst hie;rw [List.take_length]
  repeat' (first|refine zW [] ?_|(refine zB [] ?_ ?_<;>intro h<;>try exact zk h)|refine zX [] ?_|(refine zE ?_;(skip))|((exfalso;(simp at h<;>omega)))|(exact⟨trivial,rfl,rfl⟩)|fail)
theorem namesW (R:List Ob) (s:List Nat) (l:List (List Nat)) (hn:l.length<128) (hl:∀ x ∈ l,x.length<128) (hs:(s++namesC l).length<=20000) :
  ACall Tryz.prog 137 [.bp 0 0,.d (strs l)] (.box (wrC s) :: R) (.tup []) (.box (wrC (s++namesC l)) :: R):=by
 simp only [namesC,List.length_append,List.length_cons] at hs;have c1:=wputS R s [(l.length:Int)] (by intro n hn;simp at hn;omega) (by simp;omega);have c2:=putStr (s++[l.length]) l hl (by omega) (by simp;omega);have hlen:AV.d (.int .i64 ((l.map DV.str).length:Nat))=.d (.int .i64 (l.length:Nat)):=by rw [List.length_map]
 have he:s++namesC l=s++[l.length]++strsC l:=by simp [namesC]
 rw [he];refine acall_of_run Yo (fnAt Tryz.func137 (by kernel_rfl) (by kernel_rfl):FnAt _ _ (mkFn Tryz.f137 [7])) rfl rfl ?_
 repeat' (first|refine oX (frz:=[7]) (v:=.d (.int .i64 (l.length:Nat))) Yo ?_ (he:=(hlen))|refine eX (v:=.d (.int .i64 (l.length:Nat))) ?_ (he:=(hlen))|refine zW [7] ?_|(refine zB [7] ?_ ?_<;>intro h<;>try exact zk h)|refine zX [7] ?_|refine oA c1 ?_|refine zC (c2) ?_|(refine zE ?_;(skip))|(exact⟨trivial,rfl,rfl⟩)|fail)
end Go.Av
end
noncomputable section
namespace Go.Av
open Go Go.Proofs
set_option maxRecDepth 10000
theorem doneS (s:List Nat) (hs:s.length<=20000):KnownCall Tryz.prog 140 [wrD s] (.tup [.d (.str s),.d (.int .i64 0)]):=by
 have c:=startA s hs;refine knownE Yo (fnAt Tryz.func140 (by kernel_rfl) (by kernel_rfl):FnAt _ _ (mkFn Tryz.f140 [2])) ?_
 repeat' (first|refine zW [2] ?_|(refine zB [2] ?_ ?_<;>intro h<;>try exact zk h)|refine zX [2] ?_|refine oA (ACall.lift (ds:=[wrD s]) c rfl _) ?_|(refine zE ?_;(rfl))|((exfalso;(simp at h<;>omega)))|fail)
def hashTo (s:List Nat):Nat->Int
 |0=>14695981039346656037
 |i+1=>IntKind.u64.wrap (IntKind.u64.wrap (BitVec.ofInt 64 (hashTo s i) ^^^ BitVec.ofInt 64 ((s.getD i 0:Nat):Int)).toNat*1099511628211)
theorem getD_of {s:List Nat} {i c:Nat} (h:s[i]?=some c):s.getD i 0=c:=by rw [List.getD_eq_getElem?_getD,h];rfl
theorem hashS (s:List Nat) (hs:s.length<=1048576) (hb:∀ c ∈ s,c<256):KnownCall Tryz.prog 49 [.str s] (.d (.int .u64 (hashTo s s.length))):=by
 refine knownE Yo (fnAt Tryz.func49 (by kernel_rfl) (by kernel_rfl):FnAt _ _ (mkFn Tryz.f49 [])) ?_
 repeat' (first|refine zW [] ?_|(refine zB [] ?_ ?_<;>intro h<;>try exact zk h)|refine zX [] ?_|refine oX (frz:=[]) Yo ?_ (hf:=(by first|(simp [Nat.ble_eq]<;>fail)|(simp [Nat.ble_eq];omega)))|refine eX ?_ (hf:=(by first|(simp [Nat.ble_eq]<;>fail)|(simp [Nat.ble_eq];omega)))|(refine zE ?_;(skip))|fail)
 refine Run.loop (fun i:Nat=>⟨PT.ofList [(3,.d (.int .u64 (hashTo s i))),(7,.d (.sl 1 (s.map fun n=>.int .u8 (n:Nat)))),(8,.d (.int .i64 (s.map fun n=>DV.int .u8 (n:Nat)).length)),(9,.d (.int .i64 i))],[],[]⟩) (fun i=>i<=s.length) (fun i=>s.length-i) 0 (Nat.zero_le _) (weak_of ⟨by rw [hashTo];rfl,rfl,rfl,rfl,trivial⟩) (fun i hi=>?_);rcases Nat.lt_or_ge i s.length with hlt|hge
 .obtain⟨c,hc⟩:=get_ok hlt
  have hcb:=hb c (List.mem_of_getElem? hc);have hw:AV.d (.int .u64 (IntKind.u64.wrap (c:Int)))=.d (.int .u64 (c:Nat)):=wrapU (by omega);have hgd:=getD_of hc
  repeat' (first|refine oX (frz:=[]) (v:=.d (.int .u64 (c:Nat))) Yo ?_ (he:=(hw))|refine eX (v:=.d (.int .u64 (c:Nat))) ?_ (he:=(hw))|refine zW [] ?_|(refine zB [] ?_ ?_<;>intro h<;>try exact zk h)|refine zX [] ?_|refine oI (frz:=[]) (v:=.d (.ep [.int .u8 (c:Nat)])) ?_ (he:=by first|(simp [gD,cellsD,hc]<;>fail)|fail)|refine eI (v:=.d (.ep [.int .u8 (c:Nat)])) ?_ (he:=by first|(simp [gD,cellsD,hc]<;>fail)|fail)|(refine zE ?_;(skip))|(exact⟨i+1,hlt,by omega,weak_of ⟨by rw [hashTo,hgd];rfl,rfl,rfl,(inc_get (k:=i) (by kernel_rfl) (by omega)),trivial⟩⟩)|((exfalso;(simp at h<;>omega)))|fail)
 .have hie:i=s.length:=by omega
  subst hie
  repeat' (first|refine zW [] ?_|(refine zB [] ?_ ?_<;>intro h<;>try exact zk h)|refine zX [] ?_|(refine zE ?_;(rfl))|((exfalso;(simp at h<;>omega)))|fail)
theorem nameF_len {s:List Nat} (h:nameF s=0):s.length<=12:=by
 unfold nameF at h;split at h
 .omega
 .unfold wordF at h
  split at h
  .omega
  .split at h
   .omega
   .split at h
    .omega
    .omega
theorem small_len {s:List Nat} (h:smallF s=true):s.length<=12:=by
 simp only [smallF,Bool.and_eq_true,decide_eq_true_eq] at h;exact nameF_len h.1
theorem capital_len {s:List Nat} (h:capitalF s=true):s.length<=12:=by
 simp only [capitalF,Bool.and_eq_true,decide_eq_true_eq] at h;exact nameF_len h.1
structure OkG (g:Gram):Prop where
 k:1<=g.k/\g.k<=4
 tokens:g.tokens.length<=8
 tokenS:∀ s ∈ g.tokens,s.length<=12
 sep:g.sep.length<=12
 names:g.names.length<=8
 nameS:∀ s ∈ g.names,s.length<=12
 start:16<=g.start/\g.start<24
 prods:g.prods.length<=24
 left:∀ p ∈ g.prods,16<=p.left/\p.left<16+g.names.length
 right:∀ p ∈ g.prods,p.right.length<=6
 syms:∀ p ∈ g.prods,∀ s ∈ p.right,(0<=s/\s<g.tokens.length)\/(16<=s/\s<16+g.names.length)
theorem valid_ok {g:Gram} (h:checkF g=0):OkG g:=by
 unfold checkF at h;split at h
 .omega
 rename_i hk;split at h
 .exact absurd h (by assumption)
 rename_i hm;have hm:manyF g=0:=Classical.byContradiction hm;split at h
 .omega
 split at h
 .exact absurd h (by assumption)
 rename_i hn;have hn:namesF g=0:=Classical.byContradiction hn;have hnz:namedF g=0:=by
  unfold namesF at hn;split at hn
  .omega
  .exact hn
 obtain⟨hs1,hs2⟩:=named_zero hnz;unfold symbolsF at h;split at h
 .rename_i hso
  obtain⟨hst,hps⟩:=hso;have h1:g.tokens.length<=8:=by
   rcases Nat.lt_or_ge 8 g.tokens.length with hh|hh
   .rw [many_tok hh] at hm;cases hm
   .exact hh
  have h2:g.names.length<=8:=by
   rcases Nat.lt_or_ge 8 g.names.length with hh|hh
   .rw [many_nam hh] at hm;cases hm
   .exact hh
  have h3:g.prods.length<=24:=by
   rcases Nat.lt_or_ge 24 g.prods.length with hh|hh
   .rw [many_pro hh] at hm;cases hm
   .exact hh
  have h4:∀ p ∈ g.prods,p.right.length<=6:=fun p hp=>by
   obtain⟨i,hi,rfl⟩:=List.getElem_of_mem hp;rcases Nat.lt_or_ge 6 g.prods[i].right.length with hh|hh
   .rw [many_rig (i:=i) (by simp [hi]) hh] at hm;cases hm
   .exact hh
  simp only [isNonterm,Bool.and_eq_true,decide_eq_true_eq] at hst;refine⟨by omega,h1,fun s hs=>small_len (hs1 s (by simp [smalls,hs])),small_len (hs1 g.sep (by simp [smalls])),h2,fun s hs=>capital_len (hs2 s hs),by omega,h3,fun p hp=>?_,h4,fun p hp s hs=>?_⟩
  .have:=(hps p hp).1
   simp only [isNonterm,Bool.and_eq_true,decide_eq_true_eq] at this;omega
  .have:=(hps p hp).2 s hs
   simp only [goodS,isTerm,isNonterm,Bool.or_eq_true,Bool.and_eq_true,decide_eq_true_eq] at this;omega
 .cases h
end Go.Av
end
noncomputable section
namespace Go.Av
open Go Go.Proofs
set_option maxRecDepth 10000
def numI (s:Int):Int:=if 16<=s then s-8 else s
def numC (s:Int):Nat:=(numI s).toNat
def prodC (p:GProd):List Nat:=[p.left-16,(p.right.length:Int)].map Int.toNat++p.right.map numC
def headQ (g:Gram):List Nat:=[]++[g.k].map Int.toNat++namesC g.tokens++strsC [g.sep]++namesC g.names++[g.start-16,(g.prods.length:Int)].map Int.toNat
def canonC (g:Gram):List Nat:=headQ g++g.prods.flatMap prodC
def bytesF (g:Gram):List Nat:=if checkF g=0 then canonC g else []
theorem strsC_len {l:List (List Nat)} (h:∀ x ∈ l,x.length<=12):(strsC l).length<=l.length*13:=by
 induction l with
 |nil=>simp [strsC]
 |cons a l ih =>
  have h1:=h a (by simp);have h2:=ih fun x hx=>h x (by simp [hx]);simp only [strsC,List.flatMap_cons,List.length_append,List.length_cons] at h2 |-;omega
theorem headC_len {g:Gram} (h:OkG g):(headQ g).length<=300:=by
 have h1:=strsC_len h.tokenS;have h2:=strsC_len h.nameS;have h3:(strsC [g.sep]).length=g.sep.length+1:=by simp [strsC]
 have:=h.tokens;have:=h.names;have:=h.sep;simp only [headQ,namesC,List.length_append,List.length_cons,List.length_nil,List.length_map];omega
theorem prodC_len (p:GProd):(prodC p).length=p.right.length+2:=by simp [prodC]
def prodsC (g:Gram) (i:Nat):List Nat:=(g.prods.take i).flatMap prodC
theorem prodsC_succ {g:Gram} {i:Nat} {p:GProd} (h:g.prods[i]?=some p):prodsC g (i+1)=prodsC g i++prodC p:=by
 simp [prodsC,List.take_add_one,h]
theorem prodsC_len {g:Gram} (h:OkG g):∀ i,i<=g.prods.length->(prodsC g i).length<=i*8
 |0,_=>by simp [prodsC]
 |i+1,hi=>by
  obtain⟨p,hp⟩:=get_ok (show i<g.prods.length by omega);have h1:=prodsC_len h i (by omega);have h2:=h.right p (List.mem_of_getElem? hp);rw [prodsC_succ hp,List.length_append,prodC_len];omega
theorem canonC_len {g:Gram} (h:OkG g):(canonC g).length<=492:=by
 have h1:=headC_len h;have h2:=prodsC_len h g.prods.length (Nat.le_refl _);have h3:=h.prods;rw [prodsC,List.take_length] at h2;simp only [canonC,List.length_append];omega
theorem vI {x y:Int} (h:-9223372036854775808<=x) (h2:x<=9223372036854775807) (e:x=y):AV.d (.int .i64 (IntKind.i64.wrap x))=.d (.int .i64 y):=by rw [wrap64 h h2,e]
theorem numS12 (s:Int) (h1:0<=s) (h2:s<=1048576):KnownCall Tryz.prog 139 [.int .i64 s] (.d (.int .i64 (numI s))):=by
 have hw:AV.d (.int .i64 (IntKind.i64.wrap (s-8)))=.d (.int .i64 (s-8)):=vI (by omega) (by omega) rfl;by_cases hs:16<=s
 .rw [show numI s=s-8 from if_pos hs]
  refine knownE Yo (fnAt Tryz.func139 (by kernel_rfl) (by kernel_rfl):FnAt _ _ (mkFn Tryz.f139 [])) ?_
  repeat' (first|refine oX (frz:=[]) (v:=.d (.int .i64 (s-8))) Yo ?_ (he:=(hw))|refine eX (v:=.d (.int .i64 (s-8))) ?_ (he:=(hw))|refine zW [] ?_|(refine zB [] ?_ ?_<;>intro h<;>try exact zk h)|refine zX [] ?_|(refine zE ?_;(rfl))|((exfalso;(simp at h<;>omega)))|fail)
 .rw [show numI s=s from if_neg hs]
  refine knownE Yo (fnAt Tryz.func139 (by kernel_rfl) (by kernel_rfl):FnAt _ _ (mkFn Tryz.f139 [])) ?_
  repeat' (first|refine zW [] ?_|(refine zB [] ?_ ?_<;>intro h<;>try exact zk h)|refine zX [] ?_|(refine zE ?_;(rfl))|((exfalso;(simp at h<;>omega)))|fail)
theorem numI_range {g:Gram} (h:OkG g) {p:GProd} (hp:p ∈ g.prods) {s:Int} (hs:s ∈ p.right):0<=s/\s<=24/\0<=numI s/\numI s<16:=by
 have h1:=h.syms p hp s hs;have h2:=h.tokens;have h3:=h.names;unfold numI;split<;>omega
set_option maxHeartbeats 4000000 in
theorem bytesS0 (g:Gram) (hf:Fits g) (h0:checkF g=0):KnownCall Tryz.prog 45 [encG g] (.tup [.d (.str (canonC g)),.d (.int .i64 0)]):=by
 have cc:=grCheck g hf;rw [h0] at cc;have hv:=valid_ok h0;have hcl:=canonC_len hv;have hhl:=headC_len hv;obtain⟨hk1,hk2⟩:=hv.k;obtain⟨hst1,hst2⟩:=hv.start;have htl:=hv.tokens;have hnl:=hv.names;have hpl:=hv.prods;have hsl:=hv.sep;have ht1:=strsC_len hv.tokenS;have ht2:=strsC_len hv.nameS;have ht3:(strsC [g.sep]).length=g.sep.length+1:=by simp [strsC]
 have c1:=wputS [] [] [g.k] (by intro n hn;simp at hn;omega) (by simp);have c2:=namesW [] ([]++[g.k].map Int.toNat) g.tokens (by omega) (fun x hx=>by have:=hv.tokenS x hx;omega) (by simp only [namesC,List.length_append,List.length_cons,List.length_nil,List.length_map];omega);have c3:=putStr ([]++[g.k].map Int.toNat++namesC g.tokens) [g.sep] (by intro x hx;simp at hx;subst hx;omega) (by simp) (by simp only [namesC,List.length_append,List.length_cons,List.length_nil,List.length_map];omega);have c4:=namesW [] ([]++[g.k].map Int.toNat++namesC g.tokens++strsC [g.sep]) g.names (by omega) (fun x hx=>by have:=hv.nameS x hx;omega) (by simp only [namesC,List.length_append,List.length_cons,List.length_nil,List.length_map];omega);have c5:=wputS [] ([]++[g.k].map Int.toNat++namesC g.tokens++strsC [g.sep]++namesC g.names) [g.start-16,(g.prods.length:Int)] (by intro n hn;simp at hn;omega) (by simp only [namesC,List.length_append,List.length_cons,List.length_nil,List.length_map];omega);have hst:AV.d (.int .i64 (IntKind.i64.wrap (g.start-16)))=.d (.int .i64 (g.start-16)):=vI (by omega) (by omega) rfl;have hpn:AV.d (.int .i64 ((g.prods.map encP).length:Nat))=.d (.int .i64 (g.prods.length:Nat)):=by rw [List.length_map]
 have c6:=doneS (canonC g) (by omega);refine knownE Yo (fnAt Tryz.func45 (by kernel_rfl) (by kernel_rfl):FnAt _ _ (mkFn Tryz.f45 [1,21,34,49,65,77])) ?_
 repeat' (first|refine oX (frz:=[1,21,34,49,65,77]) (v:=.d (.int .i64 (g.prods.length:Nat))) Yo ?_ (he:=(hpn))|refine eX (v:=.d (.int .i64 (g.prods.length:Nat))) ?_ (he:=(hpn))|refine oX (frz:=[1,21,34,49,65,77]) (v:=.d (.int .i64 (g.start-16))) Yo ?_ (he:=(hst))|refine eX (v:=.d (.int .i64 (g.start-16))) ?_ (he:=(hst))|refine zW [1,21,34,49,65,77] ?_|(refine zB [1,21,34,49,65,77] ?_ ?_<;>intro h<;>try exact zk h)|refine zX [1,21,34,49,65,77] ?_|refine zC (cc) ?_|refine zC (makeS) ?_|refine oA c1 ?_|refine oA c2 ?_|refine zC (c3) ?_|refine oA c4 ?_|refine oA c5 ?_|(refine zE ?_;(skip))|((exfalso;(simp at h<;>omega)))|fail)
 refine Run.loopT (fun i:Nat=>⟨PT.ofList [(1,(.d (.ep [.int .i64 g.k,strs g.tokens,.str g.sep,strs g.names,.int .i64 g.start,.sl 2 (g.prods.map encP)]))),(5,.bp 0 0),(52,.d (.sl 2 (g.prods.map encP))),(53,.d (.int .i64 (g.prods.length:Nat))),(54,.d (.int .i64 i))],[.box (wrC (headQ g++prodsC g i))],[]⟩) (fun i=>i<=g.prods.length) (fun i=>g.prods.length-i) 0 (Nat.zero_le _) (ti _ 1 (Eq.trans (b:=[.box (wrC (headQ g))]) rfl (by first|rfl|(simp [rowA,rowO,rgtD,prodsC]<;>fail)))) (fun i hi=>?_);have hpc:=prodsC_len hv i hi;rcases Nat.lt_or_ge i g.prods.length with hlt|hge
 .obtain⟨p,hp⟩:=get_ok hlt
  have hpm:=List.mem_of_getElem? hp;obtain⟨hl1,hl2⟩:=hv.left p hpm;have hr6:=hv.right p hpm;have hsu:=prodsC_succ hp;have hlf:AV.d (.int .i64 (IntKind.i64.wrap (p.left-16)))=.d (.int .i64 (p.left-16)):=vI (by omega) (by omega) rfl;have hrn:AV.d (.int .i64 ((p.right.map (DV.int .i64)).length:Nat))=.d (.int .i64 (p.right.length:Nat)):=by rw [List.length_map]
  have c7:=wputS [.box [.d (.int .i64 p.left),.d (ints p.right)]] (headQ g++prodsC g i) [p.left-16,(p.right.length:Int)] (by intro n hn;simp at hn;omega) (by simp only [List.length_append,List.length_cons,List.length_nil];omega);obtain⟨X,hX⟩:∃ X,X=headQ g++prodsC g i++[p.left-16,(p.right.length:Int)].map Int.toNat:=⟨_,rfl⟩
  have hXl:X.length<=494:=by rw [hX];simp only [List.length_append,List.length_cons,List.length_nil,List.length_map];omega
  rw [<- hX] at c7
  repeat' (first|refine oX (frz:=[1,21,34,49,65,77]) (v:=.d (.int .i64 (p.right.length:Nat))) Yo ?_ (he:=(hrn))|refine eX (v:=.d (.int .i64 (p.right.length:Nat))) ?_ (he:=(hrn))|refine oX (frz:=[1,21,34,49,65,77]) (v:=.d (.int .i64 (p.left-16))) Yo ?_ (he:=(hlf))|refine eX (v:=.d (.int .i64 (p.left-16))) ?_ (he:=(hlf))|refine zW [1,21,34,49,65,77] ?_|(refine zB [1,21,34,49,65,77] ?_ ?_<;>intro h<;>try exact zk h)|refine zX [1,21,34,49,65,77] ?_|refine oI (frz:=[1,21,34,49,65,77]) (v:=.d (.ep [.int .i64 p.left,ints p.right])) ?_ (he:=by first|(simp [gD,cellsD,hp,encP]<;>fail)|fail)|refine eI (v:=.d (.ep [.int .i64 p.left,ints p.right])) ?_ (he:=by first|(simp [gD,cellsD,hp,encP]<;>fail)|fail)|refine oA c7 ?_|(refine zE ?_;(skip))|((exfalso;(simp at h<;>omega)))|fail)
  refine Run.loopT (fun k:Nat=>⟨PT.ofList [(1,(.d (.ep [.int .i64 g.k,strs g.tokens,.str g.sep,strs g.names,.int .i64 g.start,.sl 2 (g.prods.map encP)]))),(5,.bp 0 0),(52,.d (.sl 2 (g.prods.map encP))),(53,.d (.int .i64 (g.prods.length:Nat))),(54,.d (.int .i64 i)),(68,.d (ints p.right)),(69,.d (.int .i64 (p.right.length:Nat))),(70,.d (.int .i64 k))],[.box (wrC (X++(p.right.take k).map numC)),.box [.d (.int .i64 p.left),.d (ints p.right)]],[]⟩) (fun k=>k<=p.right.length) (fun k=>p.right.length-k) 0 (Nat.zero_le _) (ti _ 2 (Eq.trans (b:=[.box (wrC X),.box [.d (.int .i64 p.left),.d (ints p.right)]]) rfl (by first|rfl|(simp [rowA,rowO,rgtD,]<;>fail)))) (fun k hk=>?_);rcases Nat.lt_or_ge k p.right.length with hkl|hkg
  .obtain⟨s,hs⟩:=get_ok hkl
   obtain⟨n1,n2,n3,n4⟩:=numI_range hv hpm (List.mem_of_getElem? hs);have c8:=numS12 s n1 (by omega);have c9:=wputS [.box [.d (.int .i64 p.left),.d (ints p.right)]] (X++(p.right.take k).map numC) [numI s] (by intro n hn;simp at hn;omega) (by simp only [List.length_append,List.length_cons,List.length_nil,List.length_map,List.length_take];omega)
   repeat' (first|refine zW [1,21,34,49,65,77] ?_|(refine zB [1,21,34,49,65,77] ?_ ?_<;>intro h<;>try exact zk h)|refine zX [1,21,34,49,65,77] ?_|refine oI (frz:=[1,21,34,49,65,77]) (v:=.d (.ep [.int .i64 s])) ?_ (he:=by first|(simp [gD,cellsD,hs]<;>fail)|fail)|refine eI (v:=.d (.ep [.int .i64 s])) ?_ (he:=by first|(simp [gD,cellsD,hs]<;>fail)|fail)|refine zC (c8) ?_|refine oA c9 ?_|(refine zE ?_;(skip))|((exfalso;(simp at h<;>omega)))|fail)
   exact⟨k+1,hkl,by omega,(ti _ 2 (Eq.trans (b:=[.box (wrC (X++(p.right.take k).map numC++[numI s].map Int.toNat)),.box [.d (.int .i64 p.left),.d (ints p.right)]]) rfl (by rw [List.take_add_one,hs];simp [numC])))⟩
  .have hke:k=p.right.length:=by omega
   subst hke;rw [List.take_length]
   repeat' (first|refine zW [1,21,34,49,65,77] ?_|(refine zB [1,21,34,49,65,77] ?_ ?_<;>intro h<;>try exact zk h)|refine zX [1,21,34,49,65,77] ?_|(refine zE ?_;(skip))|((exfalso;(simp at h<;>omega)))|fail)
   exact⟨i+1,hlt,by omega,(ti _ 1 (Eq.trans (b:=[.box (wrC (X++p.right.map numC))]) rfl (by rw [hsu,hX,prodC];simp only [List.append_assoc])))⟩
 .have hie:i=g.prods.length:=by omega
  subst hie;have he:headQ g++prodsC g g.prods.length=canonC g:=by rw [prodsC,List.take_length];rfl
  rw [he]
  repeat' (first|refine zW [1,21,34,49,65,77] ?_|(refine zB [1,21,34,49,65,77] ?_ ?_<;>intro h<;>try exact zk h)|refine zX [1,21,34,49,65,77] ?_|refine zC (c6) ?_|(refine zE ?_;(rfl))|((exfalso;(simp at h<;>omega)))|fail)
theorem bytesS12 (g:Gram) (hf:Fits g):KnownCall Tryz.prog 45 [encG g] (.tup [.d (.str (bytesF g)),.d (.int .i64 (checkF g))]):=by
 by_cases h0:checkF g=0
 .rw [show bytesF g=canonC g from if_pos h0,h0];exact bytesS0 g hf h0
 .have cc:=grCheck g hf
  rw [show bytesF g=[] from if_neg h0];generalize checkF g=c at cc h0 |-;refine knownE Yo (fnAt Tryz.func45 (by kernel_rfl) (by kernel_rfl):FnAt _ _ (mkFn Tryz.f45 [1])) ?_
  repeat' (first|refine zW [1] ?_|(refine zB [1] ?_ ?_<;>intro h<;>try exact zk h)|refine zX [1] ?_|refine zC (cc) ?_|(refine zE ?_;(rfl))|((exfalso;first|(simp_all<;>fail)|(simp_all;omega)))|fail)
structure ByteG (g:Gram):Prop where
 tokens:∀ s ∈ g.tokens,∀ c ∈ s,c<256
 sep:∀ c ∈ g.sep,c<256
 names:∀ s ∈ g.names,∀ c ∈ s,c<256
end Go.Av
end
noncomputable section
namespace Go.Av
open Go Go.Proofs
set_option maxRecDepth 10000
def m16 (n:Int):Nat:=(n % 16).toNat
theorem m16_lt (n:Int):m16 n<16:=by unfold m16;omega
theorem mod16 (n:Int) (hn:W64 n):KnownCall Tryz.prog 56 [.int .i64 n,.int .i64 16] (.d (.int .i64 (m16 n:Nat))):=by
 have hw:=hn;unfold W64 at hw;have hm:(m16 n:Int)=n % 16:=by unfold m16;omega
 have ht:n.tmod 16=if 0<=n\/(16:Int) ∣ n then n % 16 else n % 16-16:=by
  rw [Int.tmod_eq_emod];by_cases h:0<=n\/(16:Int) ∣ n
  .rw [if_pos h,if_pos h];simp
  .rw [if_neg h,if_neg h];rfl
 by_cases h:0<=n\/(16:Int) ∣ n
 .rw [if_pos h] at ht
  rw [hm];refine knownE Yo (fnAt Tryz.func56 (by kernel_rfl) (by kernel_rfl):FnAt _ _ (mkFn Tryz.f56 [])) ?_
  repeat' (first|refine oX (frz:=[]) (v:=.d (.int .i64 (n % 16))) Yo ?_ (he:=(congrArg (fun x=>AV.d (.int .i64 x)) ht))|refine eX (v:=.d (.int .i64 (n % 16))) ?_ (he:=(congrArg (fun x=>AV.d (.int .i64 x)) ht))|refine zW [] ?_|(refine zB [] ?_ ?_<;>intro h<;>try exact zk h)|refine zX [] ?_|(refine zE ?_;(rfl))|((exfalso;first|(simp at h<;>fail)|(simp at h;omega)))|fail)
 .rw [if_neg h] at ht
  rw [hm];have hneg:n % 16-16<0:=by omega
  refine knownE Yo (fnAt Tryz.func56 (by kernel_rfl) (by kernel_rfl):FnAt _ _ (mkFn Tryz.f56 [])) ?_
  repeat' (first|refine oX (frz:=[]) (v:=.d (.int .i64 (n % 16))) Yo ?_ (he:=(congrArg (fun x=>AV.d (.int .i64 x)) ((wrap64 (by omega) (by omega)).trans (by omega))))|refine eX (v:=.d (.int .i64 (n % 16))) ?_ (he:=(congrArg (fun x=>AV.d (.int .i64 x)) ((wrap64 (by omega) (by omega)).trans (by omega))))|refine oX (frz:=[]) (v:=.d (.int .i64 (n % 16-16))) Yo ?_ (he:=(congrArg (fun x=>AV.d (.int .i64 x)) ht))|refine eX (v:=.d (.int .i64 (n % 16-16))) ?_ (he:=(congrArg (fun x=>AV.d (.int .i64 x)) ht))|refine zW [] ?_|(refine zB [] ?_ ?_<;>intro h<;>try exact zk h)|refine zX [] ?_|(refine zE ?_;(rfl))|((exfalso;first|(simp at h<;>fail)|(simp at h;omega)))|fail)
def m40 (n:Int):Nat:=(n % 1099511627776).toNat
theorem m40_lt (n:Int):m40 n<1099511627776:=by unfold m40;omega
theorem mod40 (n:Int) (hn:W64 n):KnownCall Tryz.prog 56 [.int .i64 n,.int .i64 1099511627776] (.d (.int .i64 (m40 n:Nat))):=by
 have hw:=hn;unfold W64 at hw;have hm:(m40 n:Int)=n % 1099511627776:=by unfold m40;omega
 have ht:n.tmod 1099511627776=if 0<=n\/(1099511627776:Int) ∣ n then n % 1099511627776 else n % 1099511627776-1099511627776:=by
  rw [Int.tmod_eq_emod];by_cases h:0<=n\/(1099511627776:Int) ∣ n
  .rw [if_pos h,if_pos h];simp
  .rw [if_neg h,if_neg h];rfl
 by_cases h:0<=n\/(1099511627776:Int) ∣ n
 .rw [if_pos h] at ht
  rw [hm];refine knownE Yo (fnAt Tryz.func56 (by kernel_rfl) (by kernel_rfl):FnAt _ _ (mkFn Tryz.f56 [])) ?_
  repeat' (first|refine oX (frz:=[]) (v:=.d (.int .i64 (n % 1099511627776))) Yo ?_ (he:=(congrArg (fun x=>AV.d (.int .i64 x)) ht))|refine eX (v:=.d (.int .i64 (n % 1099511627776))) ?_ (he:=(congrArg (fun x=>AV.d (.int .i64 x)) ht))|refine zW [] ?_|(refine zB [] ?_ ?_<;>intro h<;>try exact zk h)|refine zX [] ?_|(refine zE ?_;(rfl))|((exfalso;first|(simp at h<;>fail)|(simp at h;omega)))|fail)
 .rw [if_neg h] at ht
  rw [hm];have hneg:n % 1099511627776-1099511627776<0:=by omega
  refine knownE Yo (fnAt Tryz.func56 (by kernel_rfl) (by kernel_rfl):FnAt _ _ (mkFn Tryz.f56 [])) ?_
  repeat' (first|refine oX (frz:=[]) (v:=.d (.int .i64 (n % 1099511627776))) Yo ?_ (he:=(congrArg (fun x=>AV.d (.int .i64 x)) ((wrap64 (by omega) (by omega)).trans (by omega))))|refine eX (v:=.d (.int .i64 (n % 1099511627776))) ?_ (he:=(congrArg (fun x=>AV.d (.int .i64 x)) ((wrap64 (by omega) (by omega)).trans (by omega))))|refine oX (frz:=[]) (v:=.d (.int .i64 (n % 1099511627776-1099511627776))) Yo ?_ (he:=(congrArg (fun x=>AV.d (.int .i64 x)) ht))|refine eX (v:=.d (.int .i64 (n % 1099511627776-1099511627776))) ?_ (he:=(congrArg (fun x=>AV.d (.int .i64 x)) ht))|refine zW [] ?_|(refine zB [] ?_ ?_<;>intro h<;>try exact zk h)|refine zX [] ?_|(refine zE ?_;(rfl))|((exfalso;first|(simp at h<;>fail)|(simp at h;omega)))|fail)
def tblS:List (List Nat):=[[49,32,49,32,83,32,61,32,97,32,83,32,124,32,59],[49,32,50,32,83,32,61,32,97,32,84,32,124,32,59,32,84,32,61,32,98,32,83,32,59],[50,32,50,32,83,32,61,32,97,32,84,32,124,32,59,32,84,32,61,32,98,32,83,32,59],[50,32,50,32,83,32,61,32,97,32,124,32,97,32,98,32,59],[49,32,51,32,83,32,61,32,97,32,83,32,98,32,124,32,99,32,59],[49,32,51,32,83,32,61,32,84,32,85,32,59,32,84,32,61,32,97,32,84,32,124,32,59,32,85,32,61,32,98,32,85,32,124,32,99,32,59],[50,32,51,32,83,32,61,32,97,32,97,32,83,32,124,32,97,32,98,32,124,32,99,32,59],[49,32,51,32,83,32,61,32,97,32,84,32,99,32,59,32,84,32,61,32,98,32,84,32,124,32,85,32,59,32,85,32,61,32,59],[50,32,51,32,83,32,61,32,84,32,99,32,124,32,98,32,83,32,59,32,84,32,61,32,98,32,97,32,124,32,59],[49,32,50,32,83,32,61,32,97,32,83,32,83,32,124,32,98,32,59],[51,32,50,32,83,32,61,32,97,32,97,32,97,32,124,32,97,32,97,32,98,32,83,32,124,32,98,32,59],[49,32,52,32,83,32,61,32,97,32,76,32,98,32,59,32,76,32,61,32,69,32,77,32,59,32,77,32,61,32,99,32,69,32,77,32,124,32,59,32,69,32,61,32,100,32,124,32,83,32,59],[50,32,50,32,83,32,61,32,84,32,84,32,59,32,84,32,61,32,97,32,98,32,124,32,98,32,97,32,59],[49,32,49,32,83,32,61,32,97,32,59],[50,32,51,32,83,32,61,32,97,32,84,32,124,32,97,32,98,32,99,32,59,32,84,32,61,32,97,32,124,32,99,32,83,32,59],[49,32,50,32,83,32,61,32,84,32,85,32,84,32,59,32,84,32,61,32,59,32,85,32,61,32,97,32,85,32,98,32,124,32,59]]
theorem rulesK (n:Int) (hn:W64 n):KnownCall Tryz.prog 110 [.int .i64 n] (.tup [.d (.int .i64 (ruleE (m16 n)).1),.d (.int .i64 (ruleE (m16 n)).2.1),.d (.str (ruleE (m16 n)).2.2)]):=by
 have cm:=mod16 n hn;have hi:=m16_lt n;generalize m16 n=i at cm hi |-
 rcases(by omega:i=0\/i=1\/i=2\/i=3\/i=4\/i=5\/i=6\/i=7\/i=8\/i=9\/i=10\/i=11\/i=12\/i=13\/i=14\/i=15) with rfl|rfl|rfl|rfl|rfl|rfl|rfl|rfl|rfl|rfl|rfl|rfl|rfl|rfl|rfl|rfl
 all_goals
  clear hi;refine knownE Yo (fnAt Tryz.func110 (by kernel_rfl) (by kernel_rfl):FnAt _ _ (mkFn Tryz.f110 [7])) ?_
  repeat refine zS ?_
  iterate 3 refine zX [7] ?_
  repeat refine zS ?_
  refine oX (frz:=[7]) (v:=.d (strs tblS)) (v':=.d (strs tblS)) (ob:=none) (fl:=true) (objs':=[]) Yo ?_ (hv:=by kernel_rfl) (he:=rfl) (ho:=rfl)
  repeat' (first|refine zW [7] ?_|(refine zB [7] ?_ ?_<;>intro h<;>try exact zk h)|refine zX [7] ?_|refine zC (cm) ?_|(refine zE ?_;(rfl))|(fail)|fail)
end Go.Av
end
noncomputable section
namespace Go.Av
open Go Go.Proofs
set_option maxRecDepth 10000
theorem toksT_len:∀ t,(toksT t).length<=3*t
 |0=>by simp [toksT]
 |1=>by simp [toksT]
 |j+2=>by have:=toksT_len (j+1);simp only [toksT,List.length_append,List.length_cons,List.length_nil];omega
theorem toksT_succ {j:Nat} (h:1<=j):toksT (j+1)=toksT j++[44,32]++[97+j]:=by
 obtain⟨i,rfl⟩:∃ i,j=i+1:=⟨j-1,by omega⟩
 rfl
set_option maxHeartbeats 16000000 in
theorem textK0 (n:Int) (hn:W64 n) (k t:Nat) (s:List Nat) (hr:KnownCall Tryz.prog 110 [.int .i64 n] (.tup [.d (.int .i64 (k:Nat)),.d (.int .i64 (t:Nat)),.d (.str s)])) (hk:k<=4) (ht:t<=4) (ht1:1<=t) (hs:s.length<=1000) :
  KnownCall Tryz.prog 30 [.int .i64 n] (.d (.str (textT (kTx (m40 n / 16) k) (tTx (m40 n / 16) t) s))):=by
 have cm:=mod40 n hn;have hm:=m40_lt n;generalize m40 n=m at cm hm |-;have hq:AV.d (.int .i64 (IntKind.i64.wrap ((m:Int).tdiv 16)))=.d (.int .i64 ((m / 16:Nat):Int)):=congrArg (fun x=>AV.d (.int .i64 x)) ((congrArg IntKind.i64.wrap (show(m:Int).tdiv 16=((m / 16:Nat):Int) by rw [Int.tdiv_eq_ediv_of_nonneg (by omega)];omega)).trans (wrap_nat (by omega)));have hmq:m / 16<68719476736:=by omega
 generalize m / 16=q at hq hmq |-;have hq3:AV.d (.int .i64 ((q:Int).tmod 3))=.d (.int .i64 ((q % 3:Nat):Int)):=congrArg (fun x=>AV.d (.int .i64 x)) (by rw [Int.tmod_eq_emod_of_nonneg (by omega)];omega);have hd3:AV.d (.int .i64 (IntKind.i64.wrap ((q:Int).tdiv 3)))=.d (.int .i64 ((q / 3:Nat):Int)):=congrArg (fun x=>AV.d (.int .i64 x)) ((congrArg IntKind.i64.wrap (show(q:Int).tdiv 3=((q / 3:Nat):Int) by rw [Int.tdiv_eq_ediv_of_nonneg (by omega)];omega)).trans (wrap_nat (by omega)));have hd34:AV.d (.int .i64 (((q / 3:Nat):Int).tmod 4))=.d (.int .i64 ((q / 3 % 4:Nat):Int)):=congrArg (fun x=>AV.d (.int .i64 x)) (by rw [Int.tmod_eq_emod_of_nonneg (by omega)];omega);have hka:AV.d (.int .i64 (IntKind.i64.wrap ((k:Int)+1)))=.d (.int .i64 ((k+1:Nat):Int)):=vN8 (by omega) (by omega);have hta:AV.d (.int .i64 (IntKind.i64.wrap ((t:Int)+1)))=.d (.int .i64 ((t+1:Nat):Int)):=vN8 (by omega) (by omega);refine knownE Yo (fnAt Tryz.func30 (by kernel_rfl) (by kernel_rfl):FnAt _ _ (mkFn Tryz.f30 [40,54])) ?_
 repeat' (first|refine oX (frz:=[40,54]) (v:=.d (.int .i64 (q:Nat))) Yo ?_ (he:=(hq))|refine eX (v:=.d (.int .i64 (q:Nat))) ?_ (he:=(hq))|refine zR [40,54] ?_|refine zC (hr) ?_|refine zC (cm) ?_|fail)
 refine Yq ?_;refine Run.mid ⟨PT.ofList [(3,.d (.int .i64 (kTx q k:Nat))),(4,.d (.int .i64 (t:Nat))),(5,.d (.str s)),(6,.d (.int .i64 (q:Nat)))],[],[]⟩ ?_ ?_
 .by_cases h1:q % 3=2
  .by_cases h3:k<2
   .rw [show kTx q k=k+1 from if_pos ⟨h1,h3⟩]
    repeat' (first|refine oX (frz:=[40,54]) (v:=.d (.int .i64 ((k+1:Nat):Int))) Yo ?_ (he:=(hka))|refine eX (v:=.d (.int .i64 ((k+1:Nat):Int))) ?_ (he:=(hka))|refine oX (frz:=[40,54]) (v:=.d (.int .i64 ((q % 3:Nat):Int))) Yo ?_ (he:=(hq3))|refine eX (v:=.d (.int .i64 ((q % 3:Nat):Int))) ?_ (he:=(hq3))|refine oX (frz:=[40,54]) (v:=.d (.int .i64 (q:Nat))) Yo ?_ (he:=(hq))|refine eX (v:=.d (.int .i64 (q:Nat))) ?_ (he:=(hq))|refine zW [40,54] ?_|(refine zB [40,54] ?_ ?_<;>intro h<;>try exact zk h)|refine zX [40,54] ?_|(refine zE ?_;(skip))|(exact(by show Tidy _ _ _;exact(ti _ 0)))|((exfalso;first|(simp at h<;>fail)|(simp at h;omega)))|fail)
   .rw [show kTx q k=k from if_neg (fun h=>h3 h.2)]
    repeat' (first|refine oX (frz:=[40,54]) (v:=.d (.int .i64 ((k+1:Nat):Int))) Yo ?_ (he:=(hka))|refine eX (v:=.d (.int .i64 ((k+1:Nat):Int))) ?_ (he:=(hka))|refine oX (frz:=[40,54]) (v:=.d (.int .i64 ((q % 3:Nat):Int))) Yo ?_ (he:=(hq3))|refine eX (v:=.d (.int .i64 ((q % 3:Nat):Int))) ?_ (he:=(hq3))|refine oX (frz:=[40,54]) (v:=.d (.int .i64 (q:Nat))) Yo ?_ (he:=(hq))|refine eX (v:=.d (.int .i64 (q:Nat))) ?_ (he:=(hq))|refine zW [40,54] ?_|(refine zB [40,54] ?_ ?_<;>intro h<;>try exact zk h)|refine zX [40,54] ?_|(refine zE ?_;(skip))|(exact(by show Tidy _ _ _;exact(ti _ 0)))|((exfalso;first|(simp at h<;>fail)|(simp at h;omega)))|fail)
  .rw [show kTx q k=k from if_neg (fun h=>h1 h.1)]
   repeat' (first|refine oX (frz:=[40,54]) (v:=.d (.int .i64 ((k+1:Nat):Int))) Yo ?_ (he:=(hka))|refine eX (v:=.d (.int .i64 ((k+1:Nat):Int))) ?_ (he:=(hka))|refine oX (frz:=[40,54]) (v:=.d (.int .i64 ((q % 3:Nat):Int))) Yo ?_ (he:=(hq3))|refine eX (v:=.d (.int .i64 ((q % 3:Nat):Int))) ?_ (he:=(hq3))|refine oX (frz:=[40,54]) (v:=.d (.int .i64 (q:Nat))) Yo ?_ (he:=(hq))|refine eX (v:=.d (.int .i64 (q:Nat))) ?_ (he:=(hq))|refine zW [40,54] ?_|(refine zB [40,54] ?_ ?_<;>intro h<;>try exact zk h)|refine zX [40,54] ?_|(refine zE ?_;(skip))|(exact(by show Tidy _ _ _;exact(ti _ 0)))|((exfalso;first|(simp at h<;>fail)|(simp at h;omega)))|fail)
 have hK:kTx q k<=5:=by unfold kTx;split<;>omega
 refine Yq ?_;refine Run.mid ⟨PT.ofList [(3,.d (.int .i64 (kTx q k:Nat))),(4,.d (.int .i64 (tTx q t:Nat))),(5,.d (.str s))],[],[]⟩ ?_ ?_
 .by_cases h2:q / 3 % 4=3
  .by_cases h4:t<4
   .rw [show tTx q t=t+1 from if_pos ⟨h2,h4⟩]
    repeat' (first|refine oX (frz:=[40,54]) (v:=.d (.int .i64 ((t+1:Nat):Int))) Yo ?_ (he:=(hta))|refine eX (v:=.d (.int .i64 ((t+1:Nat):Int))) ?_ (he:=(hta))|refine oX (frz:=[40,54]) (v:=.d (.int .i64 ((q / 3 % 4:Nat):Int))) Yo ?_ (he:=(hd34))|refine eX (v:=.d (.int .i64 ((q / 3 % 4:Nat):Int))) ?_ (he:=(hd34))|refine oX (frz:=[40,54]) (v:=.d (.int .i64 ((q / 3:Nat):Int))) Yo ?_ (he:=(hd3))|refine eX (v:=.d (.int .i64 ((q / 3:Nat):Int))) ?_ (he:=(hd3))|refine zW [40,54] ?_|(refine zB [40,54] ?_ ?_<;>intro h<;>try exact zk h)|refine zX [40,54] ?_|(refine zE ?_;(skip))|(exact(by show Tidy _ _ _;exact(ti _ 0)))|((exfalso;first|(simp at h<;>fail)|(simp at h;omega)))|fail)
   .rw [show tTx q t=t from if_neg (fun h=>h4 h.2)]
    repeat' (first|refine oX (frz:=[40,54]) (v:=.d (.int .i64 ((t+1:Nat):Int))) Yo ?_ (he:=(hta))|refine eX (v:=.d (.int .i64 ((t+1:Nat):Int))) ?_ (he:=(hta))|refine oX (frz:=[40,54]) (v:=.d (.int .i64 ((q / 3 % 4:Nat):Int))) Yo ?_ (he:=(hd34))|refine eX (v:=.d (.int .i64 ((q / 3 % 4:Nat):Int))) ?_ (he:=(hd34))|refine oX (frz:=[40,54]) (v:=.d (.int .i64 ((q / 3:Nat):Int))) Yo ?_ (he:=(hd3))|refine eX (v:=.d (.int .i64 ((q / 3:Nat):Int))) ?_ (he:=(hd3))|refine zW [40,54] ?_|(refine zB [40,54] ?_ ?_<;>intro h<;>try exact zk h)|refine zX [40,54] ?_|(refine zE ?_;(skip))|(exact(by show Tidy _ _ _;exact(ti _ 0)))|((exfalso;first|(simp at h<;>fail)|(simp at h;omega)))|fail)
  .rw [show tTx q t=t from if_neg (fun h=>h2 h.1)]
   repeat' (first|refine oX (frz:=[40,54]) (v:=.d (.int .i64 ((t+1:Nat):Int))) Yo ?_ (he:=(hta))|refine eX (v:=.d (.int .i64 ((t+1:Nat):Int))) ?_ (he:=(hta))|refine oX (frz:=[40,54]) (v:=.d (.int .i64 ((q / 3 % 4:Nat):Int))) Yo ?_ (he:=(hd34))|refine eX (v:=.d (.int .i64 ((q / 3 % 4:Nat):Int))) ?_ (he:=(hd34))|refine oX (frz:=[40,54]) (v:=.d (.int .i64 ((q / 3:Nat):Int))) Yo ?_ (he:=(hd3))|refine eX (v:=.d (.int .i64 ((q / 3:Nat):Int))) ?_ (he:=(hd3))|refine zW [40,54] ?_|(refine zB [40,54] ?_ ?_<;>intro h<;>try exact zk h)|refine zX [40,54] ?_|(refine zE ?_;(skip))|(exact(by show Tidy _ _ _;exact(ti _ 0)))|((exfalso;first|(simp at h<;>fail)|(simp at h;omega)))|fail)
 have hT:1<=tTx q t/\tTx q t<=5:=by unfold tTx;split<;>omega
 generalize kTx q k=K at hK |-;generalize tTx q t=T at hT |-;obtain⟨hT1,hT2⟩:=hT
 repeat' (first|refine oX (frz:=[40,54]) (v:=.d (.int .u8 ((48+K:Nat):Int))) Yo ?_ (he:=(vU8 (by omega)))|refine eX (v:=.d (.int .u8 ((48+K:Nat):Int))) ?_ (he:=(vU8 (by omega)))|refine oX (frz:=[40,54]) (v:=.d (.int .i64 ((48+K:Nat):Int))) Yo ?_ (he:=(vN8 (by omega) (by omega)))|refine eX (v:=.d (.int .i64 ((48+K:Nat):Int))) ?_ (he:=(vN8 (by omega) (by omega)))|refine zW [40,54] ?_|(refine zB [40,54] ?_ ?_<;>intro h<;>try exact zk h)|refine zX [40,54] ?_|refine oX (frz:=[40,54]) Yo ?_ (hf:=(by first|(simp [Nat.ble_eq]<;>fail)|(simp [Nat.ble_eq];omega)))|refine eX ?_ (hf:=(by first|(simp [Nat.ble_eq]<;>fail)|(simp [Nat.ble_eq];omega)))|(refine zE ?_;(skip))|((exfalso;first|(simp at h<;>fail)|(simp at h;omega)))|fail)
 refine Run.loop (fun j:Nat=>⟨PT.ofList [(4,.d (.int .i64 (T:Nat))),(5,.d (.str s)),(7,.d (.str ([108,111,111,107,97,104,101,97,100,32]++[48+K]++[59,32,116,111,107,101,110,32,97]++toksT j))),(8,.d (.int .i64 (j:Nat)))],[],[]⟩) (fun j=>1<=j/\j<=T) (fun j=>T-j) 1 ⟨Nat.le_refl _,by omega⟩ (weak_of ⟨by kernel_rfl,by kernel_rfl,Eq.trans (b:=some (AV.d (.str ([108,111,111,107,97,104,101,97,100,32]++[((48+K:Nat):Int).toNat % 256]++[59,32,116,111,107,101,110,32,97])))) (by kernel_rfl) (by rw [show((48+K:Nat):Int).toNat % 256=48+K by omega];rfl),by kernel_rfl,trivial⟩) (fun j hj=>?_);obtain⟨hj1,hj2⟩:=hj;have hl:=toksT_len j;rcases Nat.lt_or_ge j T with hlt|hge
 .repeat' (first|refine oX (frz:=[40,54]) (v:=.d (.int .u8 ((97+j:Nat):Int))) Yo ?_ (he:=(vU8 (by omega)))|refine eX (v:=.d (.int .u8 ((97+j:Nat):Int))) ?_ (he:=(vU8 (by omega)))|refine oX (frz:=[40,54]) (v:=.d (.int .i64 ((97+j:Nat):Int))) Yo ?_ (he:=(vN8 (by omega) (by omega)))|refine eX (v:=.d (.int .i64 ((97+j:Nat):Int))) ?_ (he:=(vN8 (by omega) (by omega)))|refine zW [40,54] ?_|(refine zB [40,54] ?_ ?_<;>intro h<;>try exact zk h)|refine zX [40,54] ?_|refine oX (frz:=[40,54]) Yo ?_ (hf:=(by first|(simp [Nat.ble_eq]<;>fail)|(simp [Nat.ble_eq];omega)))|refine eX ?_ (hf:=(by first|(simp [Nat.ble_eq]<;>fail)|(simp [Nat.ble_eq];omega)))|(refine zE ?_;(skip))|((exfalso;(simp at h<;>omega)))|fail)
  exact⟨j+1,⟨by omega,by omega⟩,by omega,weak_of ⟨by kernel_rfl,by kernel_rfl,Eq.trans (b:=some (AV.d (.str ([108,111,111,107,97,104,101,97,100,32]++[48+K]++[59,32,116,111,107,101,110,32,97]++toksT j++[44,32]++[((97+j:Nat):Int).toNat % 256])))) (by kernel_rfl) (by rw [show((97+j:Nat):Int).toNat % 256=97+j by omega,toksT_succ hj1];simp only [List.append_assoc]),(inc_get (k:=j) (by kernel_rfl) (by omega)),trivial⟩⟩
 .have hje:j=T:=by omega
  subst hje
  repeat' (first|refine zW [40,54] ?_|(refine zB [40,54] ?_ ?_<;>intro h<;>try exact zk h)|refine zX [40,54] ?_|refine oX (frz:=[40,54]) Yo ?_ (hf:=(by first|(simp [Nat.ble_eq]<;>fail)|(simp [Nat.ble_eq];omega)))|refine eX ?_ (hf:=(by first|(simp [Nat.ble_eq]<;>fail)|(simp [Nat.ble_eq];omega)))|(refine zE ?_;(rfl))|((exfalso;(simp at h<;>omega)))|fail)
end Go.Av
end
noncomputable section
namespace Go.Av
open Go Go.Proofs
set_option maxRecDepth 10000
theorem textK1 (n:Int) (hn:W64 n):∃ p ∈ allTx,KnownCall Tryz.prog 30 [.int .i64 n] (.d (.str (textT p.1 p.2.1 (ruleE p.2.2).2.2))):=by
 have hr:=rulesK n hn;have hi:=m16_lt n;generalize m16 n=i at hr hi;have hb:=List.all_eq_true.1 ruleE_b i (List.mem_range.2 hi);simp only [decide_eq_true_eq] at hb;have ct:=textK0 n hn (ruleE i).1 (ruleE i).2.1 (ruleE i).2.2 hr hb.1 hb.2.1 hb.2.2.1 hb.2.2.2;have hk:kTx (m40 n / 16) (ruleE i).1=(ruleE i).1\/kTx (m40 n / 16) (ruleE i).1=(ruleE i).1+1/\(ruleE i).1<2:=by
  unfold kTx;split
  .rename_i h;exact .inr ⟨rfl,h.2⟩
  .exact .inl rfl
 have ht:tTx (m40 n / 16) (ruleE i).2.1=(ruleE i).2.1\/tTx (m40 n / 16) (ruleE i).2.1=(ruleE i).2.1+1/\(ruleE i).2.1<4:=by
  unfold tTx;split
  .rename_i h;exact .inr ⟨rfl,h.2⟩
  .exact .inl rfl
 exact⟨_,tx_mem hi hk ht,ct⟩
theorem w64_of {n:Int} (h:(Lit.int .i64 n).wf=true):W64 n:=by
 simp only [Lit.wf,Bool.and_eq_true,decide_eq_true_eq] at h;exact h
end Go.Av
end
noncomputable section
namespace Go.Av
open Go Go.Proofs
set_option maxRecDepth 10000
end Go.Av
end
noncomputable section
namespace Go.Av
open Go Go.Proofs
set_option maxRecDepth 10000
theorem OkG.fitsT {g:Gram} (h:OkG g):Fits g where
 tokens:=by have:=h.tokens;omega
 names:=by have:=h.names;omega
 prods:=by have:=h.prods;omega
 sep:=by have:=h.sep;omega
 tokenS t ht:=by have:=h.tokenS t ht;omega
 nameS t ht:=by have:=h.nameS t ht;omega
 rights p hp:=by have:=h.right p hp;omega
theorem parseT4 {t:List Nat} {x:Src} (hs:SoundX x) (h:textB t x=true):KnownCall Tryz.prog 28 [.str t] (resX (x,(0,0))):=by
 have hl:=textB_len h;obtain⟨ls,h1,h2⟩:=textB_ok hs h;rcases lexemesF_ls t (by omega) with⟨ls2,h3,h4,h5⟩|⟨e,q,h3,h4⟩
 .have e:ls2=ls:=encL_inj (by rw [h1] at h3;simp only [Prod.mk.injEq] at h3;exact h3.1.symm)
  subst e;have:=parse4 t ls2 (by omega) h4 h5 h1;rw [h2] at this;exact this
 .rw [h1] at h3
  simp only [Prod.mk.injEq] at h3;exact absurd h3.2.1.symm h4
theorem parseTQ {t:List Nat} {x:Src} (hs:SoundX x) (h:textB t x=true) (hb:∀ c ∈ t,c<256):KnownCall Tryz.prog 27 [.str t] (resX (x,(0,0))):=by
 have hl:=textB_len h;obtain⟨ls,h1,h2⟩:=textB_ok hs h;rcases lexemesF_ls t (by omega) with⟨ls2,h3,h4,h5⟩|⟨e,q,h3,h4⟩
 .have e:ls2=ls:=encL_inj (by rw [h1] at h3;simp only [Prod.mk.injEq] at h3;exact h3.1.symm)
  subst e;have:=parseP t ls2 hb (by omega) h4 h5 h1;rw [<- read_law,h2] at this;exact this
 .rw [h1] at h3
  simp only [Prod.mk.injEq] at h3;exact absurd h3.2.1.symm h4
theorem ofText (t:List Nat) (x:Src) (g:Gram) (cb:List Nat) (p1:KnownCall Tryz.prog 27 [.str t] (resX (x,(0,0)))) (o1:KnownCall Tryz.prog 54 [encX x] (.tup [.d (encG g),.d (.int .i64 0)])) (b1:KnownCall Tryz.prog 45 [encG g] (.tup [.d (.str cb),.d (.int .i64 0)])) :
  KnownCall Tryz.prog 44 [.str t] (.tup [.d (.str cb),.d (faultD 0 0)]):=by
 unfold resX at p1;simp only at p1;refine knownE Yo (fnAt Tryz.func44 (by kernel_rfl) (by kernel_rfl):FnAt _ _ (mkFn Tryz.f44 [])) ?_
 repeat' (first|refine zW [] ?_|(refine zB [] ?_ ?_<;>intro h<;>try exact zk h)|refine zX [] ?_|refine zC (p1) ?_|refine zC (o1) ?_|refine zC (b1) ?_|(refine zE ?_;(rfl))|((exfalso;first|(simp at h<;>fail)|(simp at h;omega)))|fail)
def exT12:List Nat:=[108,111,111,107,97,104,101,97,100,32,49,59,32,116,111,107,101,110,32,97,59,32,115,101,112,97,114,97,116,111,114,32,98,59,32,115,116,97,114,116,32,83,59,32,83,32,61,32,97,32,83,32,124,32,59]
def exS12:Src:=⟨1,[[97]],[98],[83],[⟨[83],[[[97],[83]],[]]⟩]⟩
theorem ex12:(soundB exS12 && (textB exT12 exS12 && (okGB (ofX exS12) && (decide (canonC (ofX exS12)=[1,1,1,97,1,98,1,1,83,0,2,0,2,0,8,0,0]) && (exT12.all (fun c=>decide (c<256)) && (decide ((innerX exS12).length<=1000) && decide (hashTo [97] 1=12638187200555641996)))))))=true:=by kernel_rfl
theorem awakeT:KnownCall Tryz.prog 42 [] (.d (.bool true)):=by
 have h:=ex12;simp only [Bool.and_eq_true,decide_eq_true_eq,List.all_eq_true] at h;obtain⟨e1,e2,e3,e4,e5,e6,e7⟩:=h;have sx:=soundB_ok e1;have hx:=ofSound sx;have L:=sx.litX;have hg:=okGB_ok e3;have o0:=grOf exS12 L.fits (by omega);rw [show ofRes exS12=ofX exS12 from if_pos hx,hx] at o0;have b1:=bytesS12 (ofX exS12) (valid_ok hg).fitsT;rw [show bytesF (ofX exS12)=canonC (ofX exS12) from if_pos hg,hg,e4] at b1;have o1:=ofText exT12 exS12 _ _ (parseTQ sx e2 e5) o0 b1;have h1:=hashS [97] (by decide) (by decide);rw [show([97]:List Nat).length=1 from rfl,e7] at h1;unfold exT12 at o1;refine knownE Yo (fnAt Tryz.func42 (by kernel_rfl) (by kernel_rfl):FnAt _ _ (mkFn Tryz.f42 [])) ?_
 repeat' (first|refine zW [] ?_|(refine zB [] ?_ ?_<;>intro h<;>try exact zk h)|refine zX [] ?_|refine zC (o1) ?_|refine zC (h1) ?_|(refine zE ?_;(rfl))|((exfalso;first|(simp at h<;>fail)|(simp at h;omega)))|fail)
set_option maxHeartbeats 8000000 in
theorem lawCTW (n:Int) (t pr cb:List Nat) (x:Src) (g:Gram) (hA:KnownCall Tryz.prog 42 [] (.d (.bool true))) (hl:t.length<=300) (ct:KnownCall Tryz.prog 30 [.int .i64 n] (.d (.str t)))
  (r1:KnownCall Tryz.prog 28 [.str t] (resX (x,(0,0)))) (r2:KnownCall Tryz.prog 43 [encX x] (.tup [.d (encG g),.d (.int .i64 0)])) (r3:KnownCall Tryz.prog 34 [encX x] (.tup [.d (.str pr),.d (.int .i64 0)]))
  (o1:KnownCall Tryz.prog 44 [.str t] (.tup [.d (.str cb),.d (faultD 0 0)])) (o2:KnownCall Tryz.prog 44 [.str (remT t)] (.tup [.d (.str cb),.d (faultD 0 0)])) (o3:KnownCall Tryz.prog 44 [.str pr] (.tup [.d (.str cb),.d (faultD 0 0)]))
  (b1:KnownCall Tryz.prog 45 [encG g] (.tup [.d (.str cb),.d (.int .i64 0)])):KnownCall Tryz.prog 7 [.int .i64 n] (.d (.bool true)):=by
 have hcc:AV.d (.bool (cb == cb))=.d (.bool true):=by simp
 unfold resX at r1;simp only at r1;unfold remT at o2;refine knownE Yo (fnAt Tryz.func7 (by kernel_rfl) (by kernel_rfl):FnAt _ _ (mkFn Tryz.f7 [])) ?_
 repeat' (first|refine oX (frz:=[]) (v:=.d (.bool true)) Yo ?_ (he:=(hcc))|refine eX (v:=.d (.bool true)) ?_ (he:=(hcc))|refine zW [] ?_|(refine zB [] ?_ ?_<;>intro h<;>try exact zk h)|refine zX [] ?_|refine zC (hA) ?_|refine zC (ct) ?_|refine zC (r1) ?_|refine zC (r2) ?_|refine zC (r3) ?_|refine zC (o1) ?_|refine zC (o2) ?_|refine zC (o3) ?_|refine zC (b1) ?_|refine oX (frz:=[]) Yo ?_ (hf:=(by first|(simp [Nat.ble_eq]<;>fail)|(simp [Nat.ble_eq];omega)))|refine eX ?_ (hf:=(by first|(simp [Nat.ble_eq]<;>fail)|(simp [Nat.ble_eq];omega)))|(refine zE ?_;(rfl))|((exfalso;first|(simp at h<;>fail)|(simp at h;omega)))|fail)
theorem lawCT (n:Int) (hn:W64 n):KnownCall Tryz.prog 7 [.int .i64 n] (.d (.bool true)):=by
 obtain⟨p,hp,ct⟩:=textK1 n hn;obtain⟨sx,tb,hpl,hb⟩:=all_ok hp;obtain⟨hg,hl,hi,hr⟩:=gram_ok hp;generalize textT p.1 p.2.1 (ruleE p.2.2).2.2=t at *;generalize srcT p.1 p.2.1 p.2.2=x at *;have hx:=ofSound sx;have L:=sx.litX;have r2:=refOf x L.fits;have o0:=grOf x L.fits (by omega);rw [show ofRes x=ofX x from if_pos hx,hx] at r2 o0;have r3:=printR x L.fits hx (by omega);have b1:=bytesS12 (ofX x) (valid_ok hg).fitsT;rw [show bytesF (ofX x)=canonC (ofX x) from if_pos hg,hg] at b1;have hrb:∀ c ∈ remT t,c<256:=fun c hc=>by
  unfold remT at hc;rcases List.mem_append.1 hc with h|h
  .rcases List.mem_append.1 h with h|h
   .simp only [List.mem_cons,List.not_mem_nil,or_false] at h;omega
   .exact hb c h
  .simp only [List.mem_cons,List.not_mem_nil,or_false] at h;omega
 exact lawCTW n t _ _ x _ awakeT hl ct (parseT4 sx tb) r2 r3 (ofText t x _ _ (parseTQ sx tb hb) o0 b1) (ofText _ x _ _ (parseTQ sx hr hrb) o0 b1) (ofText _ x _ _ (parseRound hx hpl) o0 b1) b1
theorem lawCTA (n:Int) (hn:(Lit.int .i64 n).wf=true):KnownCall Tryz.prog 7 [.int .i64 n] (.d (.bool true)):=lawCT n (w64_of hn)
end Go.Av
end

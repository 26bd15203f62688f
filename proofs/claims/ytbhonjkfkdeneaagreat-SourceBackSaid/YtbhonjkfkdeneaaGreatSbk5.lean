/-
  Parts of the way to the law, joined: rules for code over data, and what the functions return. Conditions stand at each.
-/
import Derived.Test.YtbhonjkfkdeneaaGreatSbk3
import Derived.Test.YtbhonjkfkdeneaaGreatSbk2
import Derived.Shelf.Strings.OnBuilder
import Derived.Test.YtbhonjkfkdeneaaGreatProg
import Derived.Test.YtbhonjkfkdeneaaGreatSbk4
set_option linter.all false
noncomputable section
namespace Go.Av
open Go Go.Proofs
set_option maxRecDepth 10000
def smL {α:Type} (p:α→α→Bool):List α→List α→Bool
 |[],[]=>true
 |x :: a,y :: b=>p x y && smL p a b
 |_,_=>false
theorem smL_len {α:Type} {p:α→α→Bool}:∀ {a b:List α},a.length≠b.length→smL p a b=false
 |[],[],h=>absurd rfl h
 |[],_ :: _,_=>rfl
 |_ :: _,[],_=>rfl
 |x :: a,y :: b,h=>by
  have:smL p a b=false:=smL_len (by simpa using h)
  simp [smL,this]
theorem smL_at {α:Type} {p:α→α→Bool}:∀ {a b:List α} {i:Nat} {x y:α},a[i]?=some x→b[i]?=some y→p x y=false→smL p a b=false
 |[],_,i,x,y,h,_,_=>by simp at h
 |_ :: _,[],i,x,y,_,h,_=>by simp at h
 |u :: a,v :: b,0,x,y,h,k,hp=>by simp at h k;subst h k;simp [smL,hp]
 |u :: a,v :: b,i+1,x,y,h,k,hp=>by
  have:=smL_at (p:=p) (a:=a) (b:=b) (i:=i) (by simpa using h) (by simpa using k) hp
  simp [smL,this]
theorem smL_all {α:Type} {p:α→α→Bool}:∀ {a b:List α},a.length=b.length→(∀ (j:Nat) x y,a[j]?=some x→b[j]?=some y→p x y=true)→smL p a b=true
 |[],[],_,_=>rfl
 |[],_ :: _,h,_=>by simp at h
 |_ :: _,[],h,_=>by simp at h
 |x :: a,y :: b,h,hp=>by
  have h1:=hp 0 x y rfl rfl
  have h2:=smL_all (p:=p) (a:=a) (b:=b) (by simpa using h) (fun j u v hu hv=>hp (j+1) u v (by simpa using hu) (by simpa using hv))
  simp [smL,h1,h2]
theorem smL_self {α:Type} {p:α→α→Bool} {a:List α} (h:∀ x ∈ a,p x x=true):smL p a a=true :=
 smL_all rfl fun j x y hx hy=>by rw [hx] at hy;cases hy;exact h x (List.mem_of_getElem? hx)
theorem smL_dec {α:Type} [DecidableEq α] {a b:List α}:smL (fun x y=>decide (x=y)) a b=decide (a=b):=by
 by_cases hl:a.length=b.length
 ·by_cases h:a=b
  ·subst h;rw [decide_eq_true rfl];exact smL_self fun x _=>by simp
  ·rw [decide_eq_false h]
   have:∃ j:Nat,∃ x y,a[j]?=some x∧b[j]?=some y∧x≠y:=Classical.byContradiction fun hn=>h (List.ext_getElem hl fun j h1 h2=>Classical.byContradiction fun hne=>hn ⟨j,a[j],b[j],by simp [h1],by simp [h2],hne⟩)
   obtain⟨j,x,y,hx,hy,hne⟩:=this
   exact smL_at hx hy (by simpa using hne)
 ·rw [smL_len hl,decide_eq_false]
  intro e;subst e;exact hl rfl
theorem upTo_succ {α:Type} {a b:List α} {p:α→α→Bool} {i:Nat} {x y:α} (hi:∀ j:Nat,j<i→∀ u v,a[j]?=some u→b[j]?=some v→p u v=true) (hx:a[i]?=some x) (hy:b[i]?=some y) (h:p x y=true) :
  ∀ j:Nat,j<i+1→∀ u v,a[j]?=some u→b[j]?=some v→p u v=true:=by
 intro j hj u v hu hv
 rcases Nat.lt_or_ge j i with h1|h1
 ·exact hi j h1 u v hu hv
 ·have:j=i:=by omega
  subst this
  rw [hx] at hu;rw [hy] at hv;cases hu;cases hv;exact h
theorem upTo_all {α:Type} {a b:List α} {p:α→α→Bool} {i:Nat} (hl:a.length=b.length) (hge:a.length≤i) (hi:∀ j:Nat,j<i→∀ u v,a[j]?=some u→b[j]?=some v→p u v=true):smL p a b=true :=
 smL_all hl fun j u v hu hv=>hi j (Nat.lt_of_lt_of_le (List.getElem?_eq_some_iff.1 hu).1 hge) u v hu hv
def smR (x y:SRule):Bool:=decide (x.name=y.name) && decide (x.alts=y.alts)
def smX (a b:Src):Bool:=decide (a.k=b.k) && decide (a.sep=b.sep) && decide (a.start=b.start) && decide (a.tokens=b.tokens) && smL smR a.rules b.rules
theorem smR_self (x:SRule):smR x x=true:=by simp [smR]
theorem smX_self (a:Src):smX a a=true:=by simp [smX,smL_self fun x _=>smR_self x]
theorem textsR8 (a b:List (List Nat)) (hal:a.length≤1099511627776):KnownCall Tryz.prog 109 [strs a,strs b] (.d (.bool (decide (a=b)))):=by
 by_cases hlen:a.length=b.length
 ·refine knownE Yo (fnAt Tryz.func109 (by kernel_rfl) (by kernel_rfl):FnAt _ _ (mkFn Tryz.f109 [])) ?_
  repeat' (first|refine zW [] ?_|((refine zB [] (fun h=>?_) (fun h=>?_))<;>(first|exact zk h|skip))|refine zX [] ?_|(refine zE ?_;(skip))|((exfalso;first|(simp_all<;>fail)|(simp_all;omega)))|fail)
  refine Run.loop (fun i:Nat=>⟨PT.ofList [(0,.d (strs a)),(1,.d (strs b)),(5,.d (.int .i64 i))],[],[]⟩) (fun i=>i≤a.length∧a.take i=b.take i) (fun i=>a.length-i) 0 ⟨Nat.zero_le _,rfl⟩ (weak_of (by repeat' (first|exact trivial|refine⟨rfl,?_⟩))) (fun i hi=>?_)
  rcases Nat.lt_or_ge i a.length with hlt|hge
  ·obtain⟨x,hx⟩:=get_ok hlt
   obtain⟨y,hy⟩:=get_ok (show i<b.length by omega)
   by_cases hxy:x=y
   ·subst hxy
    have ht:a.take (i+1)=b.take (i+1):=by rw [List.take_add_one,List.take_add_one,hi.2,hx,hy]
    repeat' (first|refine zW [] ?_|((refine zB [] (fun h=>?_) (fun h=>?_))<;>(first|exact zk h|skip))|refine zX [] ?_|refine oX (frz:=[]) (v:=.d (.ep [.str x])) Yo ?_ (hf:=(by first|(simp [inB]<;>fail)|(simp [inB];omega))) (he:=(by first|(simp [List.getD_eq_getElem?_getD,cellsD,hx]<;>fail)|fail))|refine eX (v:=.d (.ep [.str x])) ?_ (hf:=(by first|(simp [inB]<;>fail)|(simp [inB];omega))) (he:=(by first|(simp [List.getD_eq_getElem?_getD,cellsD,hx]<;>fail)|fail))|refine oX (frz:=[]) (v:=.d (.ep [.str x])) Yo ?_ (hf:=(by first|(simp [inB]<;>fail)|(simp [inB];omega))) (he:=(by first|(simp [List.getD_eq_getElem?_getD,cellsD,hy]<;>fail)|fail))|refine eX (v:=.d (.ep [.str x])) ?_ (hf:=(by first|(simp [inB]<;>fail)|(simp [inB];omega))) (he:=(by first|(simp [List.getD_eq_getElem?_getD,cellsD,hy]<;>fail)|fail))|(refine zE ?_;(skip))|(exact⟨i+1,⟨hlt,ht⟩,by omega,weak_of (by repeat' (first|exact trivial|refine⟨rfl,?_⟩|refine⟨(inc_get (k:=i) (by kernel_rfl) (by omega)),?_⟩))⟩)|((exfalso;first|(simp_all<;>fail)|(simp_all;omega)))|fail)
   ·have hne:a≠b:=fun e=>by subst e;rw [hx] at hy;cases hy;exact hxy rfl
    rw [decide_eq_false hne]
    repeat' (first|refine zW [] ?_|((refine zB [] (fun h=>?_) (fun h=>?_))<;>(first|exact zk h|skip))|refine zX [] ?_|refine oX (frz:=[]) (v:=.d (.ep [.str x])) Yo ?_ (hf:=(by first|(simp [inB]<;>fail)|(simp [inB];omega))) (he:=(by first|(simp [List.getD_eq_getElem?_getD,cellsD,hx]<;>fail)|fail))|refine eX (v:=.d (.ep [.str x])) ?_ (hf:=(by first|(simp [inB]<;>fail)|(simp [inB];omega))) (he:=(by first|(simp [List.getD_eq_getElem?_getD,cellsD,hx]<;>fail)|fail))|refine oX (frz:=[]) (v:=.d (.ep [.str y])) Yo ?_ (hf:=(by first|(simp [inB]<;>fail)|(simp [inB];omega))) (he:=(by first|(simp [List.getD_eq_getElem?_getD,cellsD,hy]<;>fail)|fail))|refine eX (v:=.d (.ep [.str y])) ?_ (hf:=(by first|(simp [inB]<;>fail)|(simp [inB];omega))) (he:=(by first|(simp [List.getD_eq_getElem?_getD,cellsD,hy]<;>fail)|fail))|(refine zE ?_;(rfl))|((exfalso;first|(simp_all<;>fail)|(simp_all;omega)))|fail)
  ·have hie:i=a.length:=by have:=hi.1;omega
   have hab:a=b:=by have:=hi.2;rw [hie,List.take_length,hlen,List.take_length] at this;exact this
   rw [decide_eq_true hab]
   repeat' (first|refine zW [] ?_|((refine zB [] (fun h=>?_) (fun h=>?_))<;>(first|exact zk h|skip))|refine zX [] ?_|(refine zE ?_;(rfl))|((exfalso;first|(simp_all<;>fail)|(simp_all;omega)))|fail)
 ·have hne:a≠b:=fun e=>by subst e;exact hlen rfl
  rw [decide_eq_false hne]
  refine knownE Yo (fnAt Tryz.func109 (by kernel_rfl) (by kernel_rfl):FnAt _ _ (mkFn Tryz.f109 [])) ?_
  repeat' (first|refine zW [] ?_|((refine zB [] (fun h=>?_) (fun h=>?_))<;>(first|exact zk h|skip))|refine zX [] ?_|(refine zE ?_;(rfl))|((exfalso;first|(simp_all<;>fail)|(simp_all;omega)))|fail)
theorem equalS (a b:List (List Nat)) (hal:a.length≤1099511627776):KnownCall Tryz.prog 86 [strs a,strs b] (.d (.bool (decide (a=b)))):=by
 by_cases hlen:a.length=b.length
 ·refine knownE Yo (fnAt Tryz.func86 (by kernel_rfl) (by kernel_rfl):FnAt _ _ (mkFn Tryz.f86 [])) ?_
  repeat' (first|refine zW [] ?_|((refine zB [] (fun h=>?_) (fun h=>?_))<;>(first|exact zk h|skip))|refine zX [] ?_|(refine zE ?_;(skip))|((exfalso;first|(simp_all<;>fail)|(simp_all;omega)))|fail)
  refine Run.loop (fun i:Nat=>⟨PT.ofList [(0,.d (strs a)),(1,.d (strs b)),(12,.d (.int .i64 (a.map DV.str).length)),(13,.d (.int .i64 i))],[],[]⟩) (fun i=>i≤a.length∧a.take i=b.take i) (fun i=>a.length-i) 0 ⟨Nat.zero_le _,rfl⟩ (weak_of (by repeat' (first|exact trivial|refine⟨rfl,?_⟩))) (fun i hi=>?_)
  rcases Nat.lt_or_ge i a.length with hlt|hge
  ·obtain⟨x,hx⟩:=get_ok hlt
   obtain⟨y,hy⟩:=get_ok (show i<b.length by omega)
   by_cases hxy:x=y
   ·subst hxy
    have ht:a.take (i+1)=b.take (i+1):=by rw [List.take_add_one,List.take_add_one,hi.2,hx,hy]
    repeat' (first|refine zW [] ?_|((refine zB [] (fun h=>?_) (fun h=>?_))<;>(first|exact zk h|skip))|refine zX [] ?_|refine oX (frz:=[]) (v:=.d (.ep [.str x])) Yo ?_ (hf:=(by first|(simp [inB]<;>fail)|(simp [inB];omega))) (he:=(by first|(simp [List.getD_eq_getElem?_getD,cellsD,hx]<;>fail)|fail))|refine eX (v:=.d (.ep [.str x])) ?_ (hf:=(by first|(simp [inB]<;>fail)|(simp [inB];omega))) (he:=(by first|(simp [List.getD_eq_getElem?_getD,cellsD,hx]<;>fail)|fail))|refine oX (frz:=[]) (v:=.d (.ep [.str x])) Yo ?_ (hf:=(by first|(simp [inB]<;>fail)|(simp [inB];omega))) (he:=(by first|(simp [List.getD_eq_getElem?_getD,cellsD,hy]<;>fail)|fail))|refine eX (v:=.d (.ep [.str x])) ?_ (hf:=(by first|(simp [inB]<;>fail)|(simp [inB];omega))) (he:=(by first|(simp [List.getD_eq_getElem?_getD,cellsD,hy]<;>fail)|fail))|(refine zE ?_;(skip))|(exact⟨i+1,⟨hlt,ht⟩,by omega,weak_of (by repeat' (first|exact trivial|refine⟨rfl,?_⟩|refine⟨(inc_get (k:=i) (by kernel_rfl) (by omega)),?_⟩))⟩)|((exfalso;first|(simp_all<;>fail)|(simp_all;omega)))|fail)
   ·have hne:a≠b:=fun e=>by subst e;rw [hx] at hy;cases hy;exact hxy rfl
    rw [decide_eq_false hne]
    repeat' (first|refine zW [] ?_|((refine zB [] (fun h=>?_) (fun h=>?_))<;>(first|exact zk h|skip))|refine zX [] ?_|refine oX (frz:=[]) (v:=.d (.ep [.str x])) Yo ?_ (hf:=(by first|(simp [inB]<;>fail)|(simp [inB];omega))) (he:=(by first|(simp [List.getD_eq_getElem?_getD,cellsD,hx]<;>fail)|fail))|refine eX (v:=.d (.ep [.str x])) ?_ (hf:=(by first|(simp [inB]<;>fail)|(simp [inB];omega))) (he:=(by first|(simp [List.getD_eq_getElem?_getD,cellsD,hx]<;>fail)|fail))|refine oX (frz:=[]) (v:=.d (.ep [.str y])) Yo ?_ (hf:=(by first|(simp [inB]<;>fail)|(simp [inB];omega))) (he:=(by first|(simp [List.getD_eq_getElem?_getD,cellsD,hy]<;>fail)|fail))|refine eX (v:=.d (.ep [.str y])) ?_ (hf:=(by first|(simp [inB]<;>fail)|(simp [inB];omega))) (he:=(by first|(simp [List.getD_eq_getElem?_getD,cellsD,hy]<;>fail)|fail))|(refine zE ?_;(rfl))|((exfalso;first|(simp_all<;>fail)|(simp_all;omega)))|fail)
  ·have hie:i=a.length:=by have:=hi.1;omega
   have hab:a=b:=by have:=hi.2;rw [hie,List.take_length,hlen,List.take_length] at this;exact this
   rw [decide_eq_true hab]
   repeat' (first|refine zW [] ?_|((refine zB [] (fun h=>?_) (fun h=>?_))<;>(first|exact zk h|skip))|refine zX [] ?_|(refine zE ?_;(rfl))|((exfalso;first|(simp_all<;>fail)|(simp_all;omega)))|fail)
 ·have hne:a≠b:=fun e=>by subst e;exact hlen rfl
  rw [decide_eq_false hne]
  refine knownE Yo (fnAt Tryz.func86 (by kernel_rfl) (by kernel_rfl):FnAt _ _ (mkFn Tryz.f86 [])) ?_
  repeat' (first|refine zW [] ?_|((refine zB [] (fun h=>?_) (fun h=>?_))<;>(first|exact zk h|skip))|refine zX [] ?_|(refine zE ?_;(rfl))|((exfalso;first|(simp_all<;>fail)|(simp_all;omega)))|fail)
theorem equalFuncRules (a b:List SRule) (hal:a.length≤1099511627776) (F:FuncId) (p:SRule→SRule→Bool) (hp:∀ x ∈ a,∀ y ∈ b,KnownCall Tryz.prog F [encR x,encR y] (.d (.bool (p x y)))) :
  KnownCall Tryz.prog 87 [.sl 2 (a.map encR),.sl 2 (b.map encR),.fn (.func F) [] []] (.d (.bool (smL p a b))):=by
 by_cases hlen:a.length=b.length
 ·refine knownE Yo (fnAt Tryz.func87 (by kernel_rfl) (by kernel_rfl):FnAt _ _ (mkFn Tryz.f87 [])) ?_
  repeat' (first|refine zW [] ?_|((refine zB [] (fun h=>?_) (fun h=>?_))<;>(first|exact zk h|skip))|refine zX [] ?_|(refine zE ?_;(skip))|((exfalso;first|(simp_all<;>fail)|(simp_all;omega)))|fail)
  refine Run.loopT (fun i:Nat=>⟨PT.ofList [(1,.d (.sl 2 (b.map encR))),(2,.d (.fn (.func F) [] [])),(15,.d (.sl 2 (a.map encR))),(16,.d (.int .i64 (a.map encR).length)),(17,.d (.int .i64 i))],[],[]⟩) (fun i=>i≤a.length∧∀ j:Nat,j<i→∀ u v,a[j]?=some u→b[j]?=some v→p u v=true) (fun i=>a.length-i) 0 ⟨Nat.zero_le _,fun j hj=>by omega⟩ (tidy_of (objs:=_) _ 0 (by rfl) rfl (by repeat' (first|exact trivial|refine⟨(Or.inl rfl),?_⟩|refine⟨(Or.inr rfl),?_⟩|fail)) (by repeat' (first|exact trivial|refine⟨rfl,?_⟩|fail)) rfl rfl) (fun i hi=>?_)
  rcases Nat.lt_or_ge i a.length with hlt|hge
  ·obtain⟨x,hx⟩:=get_ok hlt
   obtain⟨y,hy⟩:=get_ok (show i<b.length by omega)
   have hc:=hp x (List.mem_of_getElem? hx) y (List.mem_of_getElem? hy)
   cases hxy:p x y with
   |true =>
    rw [hxy] at hc
    have ht:=upTo_succ hi.2 hx hy hxy
    repeat' (first|refine zW [] ?_|((refine zB [] (fun h=>?_) (fun h=>?_))<;>(first|exact zk h|skip))|refine zX [] ?_|refine oX (frz:=[]) (v:=.d (.ep [.str x.name,Go.Av.alts x.alts])) Yo ?_ (hf:=(by first|(simp [inB]<;>fail)|(simp [inB];omega))) (he:=(by first|(simp [List.getD_eq_getElem?_getD,cellsD,hx,encR]<;>fail)|fail))|refine eX (v:=.d (.ep [.str x.name,Go.Av.alts x.alts])) ?_ (hf:=(by first|(simp [inB]<;>fail)|(simp [inB];omega))) (he:=(by first|(simp [List.getD_eq_getElem?_getD,cellsD,hx,encR]<;>fail)|fail))|refine oX (frz:=[]) (v:=.d (.ep [.str y.name,Go.Av.alts y.alts])) Yo ?_ (hf:=(by first|(simp [inB]<;>fail)|(simp [inB];omega))) (he:=(by first|(simp [List.getD_eq_getElem?_getD,cellsD,hy,encR]<;>fail)|fail))|refine eX (v:=.d (.ep [.str y.name,Go.Av.alts y.alts])) ?_ (hf:=(by first|(simp [inB]<;>fail)|(simp [inB];omega))) (he:=(by first|(simp [List.getD_eq_getElem?_getD,cellsD,hy,encR]<;>fail)|fail))|refine zC (hc) ?_|(refine zE ?_;(skip))|(exact⟨i+1,⟨hlt,ht⟩,by omega,(tidy_of (objs:=_) _ 0 (by rfl) rfl (by repeat' (first|exact trivial|refine⟨(Or.inl rfl),?_⟩|refine⟨(Or.inl (inc_get (k:=i) (by kernel_rfl) (by omega))),?_⟩|refine⟨(Or.inr rfl),?_⟩|fail)) (by repeat' (first|exact trivial|refine⟨rfl,?_⟩|fail)) rfl rfl)⟩)|((exfalso;first|(simp_all<;>fail)|(simp_all;omega)))|fail)
   |false =>
    rw [hxy] at hc
    rw [smL_at hx hy hxy]
    repeat' (first|refine zW [] ?_|((refine zB [] (fun h=>?_) (fun h=>?_))<;>(first|exact zk h|skip))|refine zX [] ?_|refine oX (frz:=[]) (v:=.d (.ep [.str x.name,Go.Av.alts x.alts])) Yo ?_ (hf:=(by first|(simp [inB]<;>fail)|(simp [inB];omega))) (he:=(by first|(simp [List.getD_eq_getElem?_getD,cellsD,hx,encR]<;>fail)|fail))|refine eX (v:=.d (.ep [.str x.name,Go.Av.alts x.alts])) ?_ (hf:=(by first|(simp [inB]<;>fail)|(simp [inB];omega))) (he:=(by first|(simp [List.getD_eq_getElem?_getD,cellsD,hx,encR]<;>fail)|fail))|refine oX (frz:=[]) (v:=.d (.ep [.str y.name,Go.Av.alts y.alts])) Yo ?_ (hf:=(by first|(simp [inB]<;>fail)|(simp [inB];omega))) (he:=(by first|(simp [List.getD_eq_getElem?_getD,cellsD,hy,encR]<;>fail)|fail))|refine eX (v:=.d (.ep [.str y.name,Go.Av.alts y.alts])) ?_ (hf:=(by first|(simp [inB]<;>fail)|(simp [inB];omega))) (he:=(by first|(simp [List.getD_eq_getElem?_getD,cellsD,hy,encR]<;>fail)|fail))|refine zC (hc) ?_|(refine zE ?_;(rfl))|((exfalso;first|(simp_all<;>fail)|(simp_all;omega)))|fail)
  ·rw [upTo_all hlen hge hi.2]
   have hie:i=a.length:=by have:=hi.1;omega
   subst hie
   repeat' (first|refine zW [] ?_|((refine zB [] (fun h=>?_) (fun h=>?_))<;>(first|exact zk h|skip))|refine zX [] ?_|(refine zE ?_;(rfl))|((exfalso;first|(simp_all<;>fail)|(simp_all;omega)))|fail)
 ·rw [smL_len hlen]
  refine knownE Yo (fnAt Tryz.func87 (by kernel_rfl) (by kernel_rfl):FnAt _ _ (mkFn Tryz.f87 [])) ?_
  repeat' (first|refine zW [] ?_|((refine zB [] (fun h=>?_) (fun h=>?_))<;>(first|exact zk h|skip))|refine zX [] ?_|(refine zE ?_;(rfl))|((exfalso;first|(simp_all<;>fail)|(simp_all;omega)))|fail)
theorem equalFuncAlts (a b:List (List (List Nat))) (hal:a.length≤1099511627776) (F:FuncId) (p:(List (List Nat))→(List (List Nat))→Bool) (hp:∀ x ∈ a,∀ y ∈ b,KnownCall Tryz.prog F [strs x,strs y] (.d (.bool (p x y)))) :
  KnownCall Tryz.prog 89 [.sl 1 (a.map strs),.sl 1 (b.map strs),.fn (.func F) [] []] (.d (.bool (smL p a b))):=by
 by_cases hlen:a.length=b.length
 ·refine knownE Yo (fnAt Tryz.func89 (by kernel_rfl) (by kernel_rfl):FnAt _ _ (mkFn Tryz.f89 [])) ?_
  repeat' (first|refine zW [] ?_|((refine zB [] (fun h=>?_) (fun h=>?_))<;>(first|exact zk h|skip))|refine zX [] ?_|(refine zE ?_;(skip))|((exfalso;first|(simp_all<;>fail)|(simp_all;omega)))|fail)
  refine Run.loopT (fun i:Nat=>⟨PT.ofList [(1,.d (.sl 1 (b.map strs))),(2,.d (.fn (.func F) [] [])),(15,.d (.sl 1 (a.map strs))),(16,.d (.int .i64 (a.map strs).length)),(17,.d (.int .i64 i))],[],[]⟩) (fun i=>i≤a.length∧∀ j:Nat,j<i→∀ u v,a[j]?=some u→b[j]?=some v→p u v=true) (fun i=>a.length-i) 0 ⟨Nat.zero_le _,fun j hj=>by omega⟩ (tidy_of (objs:=_) _ 0 (by rfl) rfl (by repeat' (first|exact trivial|refine⟨(Or.inl rfl),?_⟩|refine⟨(Or.inr rfl),?_⟩|fail)) (by repeat' (first|exact trivial|refine⟨rfl,?_⟩|fail)) rfl rfl) (fun i hi=>?_)
  rcases Nat.lt_or_ge i a.length with hlt|hge
  ·obtain⟨x,hx⟩:=get_ok hlt
   obtain⟨y,hy⟩:=get_ok (show i<b.length by omega)
   have hc:=hp x (List.mem_of_getElem? hx) y (List.mem_of_getElem? hy)
   cases hxy:p x y with
   |true =>
    rw [hxy] at hc
    have ht:=upTo_succ hi.2 hx hy hxy
    repeat' (first|refine zW [] ?_|((refine zB [] (fun h=>?_) (fun h=>?_))<;>(first|exact zk h|skip))|refine zX [] ?_|refine oX (frz:=[]) (v:=.d (.ep [strs x])) Yo ?_ (hf:=(by first|(simp [inB]<;>fail)|(simp [inB];omega))) (he:=(by first|(simp [List.getD_eq_getElem?_getD,cellsD,hx,strs]<;>fail)|fail))|refine eX (v:=.d (.ep [strs x])) ?_ (hf:=(by first|(simp [inB]<;>fail)|(simp [inB];omega))) (he:=(by first|(simp [List.getD_eq_getElem?_getD,cellsD,hx,strs]<;>fail)|fail))|refine oX (frz:=[]) (v:=.d (.ep [strs y])) Yo ?_ (hf:=(by first|(simp [inB]<;>fail)|(simp [inB];omega))) (he:=(by first|(simp [List.getD_eq_getElem?_getD,cellsD,hy,strs]<;>fail)|fail))|refine eX (v:=.d (.ep [strs y])) ?_ (hf:=(by first|(simp [inB]<;>fail)|(simp [inB];omega))) (he:=(by first|(simp [List.getD_eq_getElem?_getD,cellsD,hy,strs]<;>fail)|fail))|refine zC (hc) ?_|(refine zE ?_;(skip))|(exact⟨i+1,⟨hlt,ht⟩,by omega,(tidy_of (objs:=_) _ 0 (by rfl) rfl (by repeat' (first|exact trivial|refine⟨(Or.inl rfl),?_⟩|refine⟨(Or.inl (inc_get (k:=i) (by kernel_rfl) (by omega))),?_⟩|refine⟨(Or.inr rfl),?_⟩|fail)) (by repeat' (first|exact trivial|refine⟨rfl,?_⟩|fail)) rfl rfl)⟩)|((exfalso;first|(simp_all<;>fail)|(simp_all;omega)))|fail)
   |false =>
    rw [hxy] at hc
    rw [smL_at hx hy hxy]
    repeat' (first|refine zW [] ?_|((refine zB [] (fun h=>?_) (fun h=>?_))<;>(first|exact zk h|skip))|refine zX [] ?_|refine oX (frz:=[]) (v:=.d (.ep [strs x])) Yo ?_ (hf:=(by first|(simp [inB]<;>fail)|(simp [inB];omega))) (he:=(by first|(simp [List.getD_eq_getElem?_getD,cellsD,hx,strs]<;>fail)|fail))|refine eX (v:=.d (.ep [strs x])) ?_ (hf:=(by first|(simp [inB]<;>fail)|(simp [inB];omega))) (he:=(by first|(simp [List.getD_eq_getElem?_getD,cellsD,hx,strs]<;>fail)|fail))|refine oX (frz:=[]) (v:=.d (.ep [strs y])) Yo ?_ (hf:=(by first|(simp [inB]<;>fail)|(simp [inB];omega))) (he:=(by first|(simp [List.getD_eq_getElem?_getD,cellsD,hy,strs]<;>fail)|fail))|refine eX (v:=.d (.ep [strs y])) ?_ (hf:=(by first|(simp [inB]<;>fail)|(simp [inB];omega))) (he:=(by first|(simp [List.getD_eq_getElem?_getD,cellsD,hy,strs]<;>fail)|fail))|refine zC (hc) ?_|(refine zE ?_;(rfl))|((exfalso;first|(simp_all<;>fail)|(simp_all;omega)))|fail)
  ·rw [upTo_all hlen hge hi.2]
   have hie:i=a.length:=by have:=hi.1;omega
   subst hie
   repeat' (first|refine zW [] ?_|((refine zB [] (fun h=>?_) (fun h=>?_))<;>(first|exact zk h|skip))|refine zX [] ?_|(refine zE ?_;(rfl))|((exfalso;first|(simp_all<;>fail)|(simp_all;omega)))|fail)
 ·rw [smL_len hlen]
  refine knownE Yo (fnAt Tryz.func89 (by kernel_rfl) (by kernel_rfl):FnAt _ _ (mkFn Tryz.f89 [])) ?_
  repeat' (first|refine zW [] ?_|((refine zB [] (fun h=>?_) (fun h=>?_))<;>(first|exact zk h|skip))|refine zX [] ?_|(refine zE ?_;(rfl))|((exfalso;first|(simp_all<;>fail)|(simp_all;omega)))|fail)
theorem sameRule1 (x y:SRule) (hx:x.alts.length≤1099511627776) (hxs:∀ a ∈ x.alts,a.length≤1099511627776):KnownCall Tryz.prog 88 [encR x,encR y] (.d (.bool (smR x y))):=by
 have c:=equalFuncAlts x.alts y.alts hx 86 (fun u v=>decide (u=v)) (fun u hu v _=>equalS u v (hxs u hu))
 rw [smL_dec] at c
 unfold smR
 generalize decide (x.alts=y.alts)=b at c ⊢
 by_cases h1:x.name=y.name
 ·rw [decide_eq_true h1]
  cases b with
  |true =>
   refine knownE Yo (fnAt Tryz.func88 (by kernel_rfl) (by kernel_rfl):FnAt _ _ (mkFn Tryz.f88 [2,3])) ?_
   repeat' (first|refine zW [2,3] ?_|((refine zB [2,3] (fun h=>?_) (fun h=>?_))<;>(first|exact zk h|skip))|refine zX [2,3] ?_|refine zC (c) ?_|(refine zE ?_;(rfl))|((exfalso;first|(simp_all<;>fail)|(simp_all;omega)))|fail)
  |false =>
   refine knownE Yo (fnAt Tryz.func88 (by kernel_rfl) (by kernel_rfl):FnAt _ _ (mkFn Tryz.f88 [2,3])) ?_
   repeat' (first|refine zW [2,3] ?_|((refine zB [2,3] (fun h=>?_) (fun h=>?_))<;>(first|exact zk h|skip))|refine zX [2,3] ?_|refine zC (c) ?_|(refine zE ?_;(rfl))|((exfalso;first|(simp_all<;>fail)|(simp_all;omega)))|fail)
 ·rw [decide_eq_false h1]
  refine knownE Yo (fnAt Tryz.func88 (by kernel_rfl) (by kernel_rfl):FnAt _ _ (mkFn Tryz.f88 [2,3])) ?_
  repeat' (first|refine zW [2,3] ?_|((refine zB [2,3] (fun h=>?_) (fun h=>?_))<;>(first|exact zk h|skip))|refine zX [2,3] ?_|refine zC (c) ?_|(refine zE ?_;(rfl))|((exfalso;first|(simp_all<;>fail)|(simp_all;omega)))|fail)
theorem sameSr (a b:Src) (ha:FitsX a):KnownCall Tryz.prog 22 [encX a,encX b] (.d (.bool (smX a b))):=by
 have c1:=equalS a.tokens b.tokens (Nat.le_trans ha.tokens (by decide))
 have c3:=equalFuncRules a.rules b.rules (Nat.le_trans ha.rules (by decide)) 88 smR (fun x hx y _=>sameRule1 x y (Nat.le_trans (ha.alts x hx) (by decide)) (fun u hu=>Nat.le_trans (ha.names x hx u hu) (by decide)))
 unfold smX
 generalize decide (a.tokens=b.tokens)=b1 at c1 ⊢
 generalize smL smR a.rules b.rules=b3 at c3 ⊢
 refine knownE Yo (fnAt Tryz.func22 (by kernel_rfl) (by kernel_rfl):FnAt _ _ (mkFn Tryz.f22 [2,3])) ?_
 repeat' (first|refine zW [2,3] ?_|((refine zB [2,3] (fun h=>?_) (fun h=>?_))<;>(first|exact zk h|skip))|refine zX [2,3] ?_|((refine zK (c1) (fun h=>?_) (fun h=>?_))<;>(first|exact zk h|skip))|refine zC (c1) ?_|((refine zK (c3) (fun h=>?_) (fun h=>?_))<;>(first|exact zk h|skip))|refine zC (c3) ?_|(refine zE ?_;(first|rfl|(simp_all<;>fail)))|((exfalso;first|(simp_all<;>fail)|(simp_all;omega)))|fail)
end Go.Av
end
noncomputable section
namespace Go.Av
open Go Go.Proofs
set_option maxRecDepth 10000
theorem sameR8 (a b:Src) (ha:FitsX a):KnownCall Tryz.prog 29 [encX a,encX b] (.d (.bool (smX a b))):=by
 have hat:=ha.tokens
 have har:=ha.rules
 have c1:=textsR8 a.tokens b.tokens (by omega)
 by_cases h0:a.k=b.k∧a.tokens=b.tokens∧a.sep=b.sep∧a.start=b.start∧a.rules.length=b.rules.length
 ·obtain⟨h1,h2,h3,h4,h5⟩:=h0
  have he:smX a b=smL smR a.rules b.rules:=by simp [smX,h1,h2,h3,h4]
  rw [he]
  rw [decide_eq_true h2] at c1
  refine knownE Yo (fnAt Tryz.func29 (by kernel_rfl) (by kernel_rfl):FnAt _ _ (mkFn Tryz.f29 [2,3])) ?_
  repeat' (first|refine zW [2,3] ?_|((refine zB [2,3] (fun h=>?_) (fun h=>?_))<;>(first|exact zk h|skip))|refine zX [2,3] ?_|refine zC (c1) ?_|(refine zE ?_;(skip))|((exfalso;first|(simp_all<;>fail)|(simp_all;omega)))|fail)
  refine Run.loopT (fun i:Nat=>⟨PT.ofList [(2,cellX a),(3,cellX b),(5,.d (.int .i64 i))],[],[]⟩) (fun i=>i≤a.rules.length∧∀ j:Nat,j<i→∀ u v,a.rules[j]?=some u→b.rules[j]?=some v→smR u v=true) (fun i=>a.rules.length-i) 0 ⟨Nat.zero_le _,fun j hj=>by omega⟩ (tidy_of (objs:=_) _ 0 (by rfl) rfl (by repeat' (first|exact trivial|refine⟨(Or.inl rfl),?_⟩|refine⟨(Or.inr rfl),?_⟩|fail)) (by repeat' (first|exact trivial|refine⟨rfl,?_⟩|fail)) rfl rfl) (fun i hi=>?_)
  rcases Nat.lt_or_ge i a.rules.length with hlt|hge
  ·obtain⟨x,hx⟩:=get_ok hlt
   obtain⟨y,hy⟩:=get_ok (show i<b.rules.length by omega)
   have hxal:=ha.alts x (List.mem_of_getElem? hx)
   by_cases hn:x.name=y.name∧x.alts.length=y.alts.length
   ·obtain⟨hn1,hn2⟩:=hn
    repeat' (first|refine zW [2,3] ?_|((refine zB [2,3] (fun h=>?_) (fun h=>?_))<;>(first|exact zk h|skip))|refine zX [2,3] ?_|refine oX (frz:=[2,3]) (v:=.d (.ep [.str x.name,alts x.alts])) Yo ?_ (hf:=(by first|(simp [inB]<;>fail)|(simp [inB];omega))) (he:=(by first|(simp [List.getD_eq_getElem?_getD,cellsD,hx,encR]<;>fail)|fail))|refine eX (v:=.d (.ep [.str x.name,alts x.alts])) ?_ (hf:=(by first|(simp [inB]<;>fail)|(simp [inB];omega))) (he:=(by first|(simp [List.getD_eq_getElem?_getD,cellsD,hx,encR]<;>fail)|fail))|refine oX (frz:=[2,3]) (v:=.d (.ep [.str y.name,alts y.alts])) Yo ?_ (hf:=(by first|(simp [inB]<;>fail)|(simp [inB];omega))) (he:=(by first|(simp [List.getD_eq_getElem?_getD,cellsD,hy,encR]<;>fail)|fail))|refine eX (v:=.d (.ep [.str y.name,alts y.alts])) ?_ (hf:=(by first|(simp [inB]<;>fail)|(simp [inB];omega))) (he:=(by first|(simp [List.getD_eq_getElem?_getD,cellsD,hy,encR]<;>fail)|fail))|(refine zE ?_;(skip))|((exfalso;first|(simp_all<;>fail)|(simp_all;omega)))|fail)
    refine Run.loopT (fun k:Nat=>⟨PT.ofList [(2,cellX a),(3,cellX b),(5,.d (.int .i64 i)),(6,.bp 0 0),(7,.bp 1 0),(8,.d (.int .i64 k))],[.box [.d (.str x.name),.d (alts x.alts)],.box [.d (.str y.name),.d (alts y.alts)]],[]⟩) (fun k=>k≤x.alts.length∧x.alts.take k=y.alts.take k) (fun k=>x.alts.length-k) 0 ⟨Nat.zero_le _,rfl⟩ (tidy_of (objs:=_) _ 2 (by rfl) rfl (by repeat' (first|exact trivial|refine⟨(Or.inl rfl),?_⟩|refine⟨(Or.inr rfl),?_⟩|fail)) (by repeat' (first|exact trivial|refine⟨rfl,?_⟩|fail)) rfl rfl) (fun k hk=>?_)
    rcases Nat.lt_or_ge k x.alts.length with hkl|hkg
    ·obtain⟨u,hu⟩:=get_ok hkl
     obtain⟨v,hv⟩:=get_ok (show k<y.alts.length by omega)
     have c2:=textsR8 u v (Nat.le_trans (ha.names x (List.mem_of_getElem? hx) u (List.mem_of_getElem? hu)) (by decide))
     by_cases huv:u=v
     ·subst huv
      rw [decide_eq_true rfl] at c2
      have ht:x.alts.take (k+1)=y.alts.take (k+1):=by rw [List.take_add_one,List.take_add_one,hk.2,hu,hv]
      repeat' (first|refine zW [2,3] ?_|((refine zB [2,3] (fun h=>?_) (fun h=>?_))<;>(first|exact zk h|skip))|refine zX [2,3] ?_|refine oX (frz:=[2,3]) (v:=.d (.ep [strs u])) Yo ?_ (hf:=(by first|(simp [inB]<;>fail)|(simp [inB];omega))) (he:=(by first|(simp [List.getD_eq_getElem?_getD,cellsD,hu]<;>fail)|fail))|refine eX (v:=.d (.ep [strs u])) ?_ (hf:=(by first|(simp [inB]<;>fail)|(simp [inB];omega))) (he:=(by first|(simp [List.getD_eq_getElem?_getD,cellsD,hu]<;>fail)|fail))|refine oX (frz:=[2,3]) (v:=.d (.ep [strs u])) Yo ?_ (hf:=(by first|(simp [inB]<;>fail)|(simp [inB];omega))) (he:=(by first|(simp [List.getD_eq_getElem?_getD,cellsD,hv]<;>fail)|fail))|refine eX (v:=.d (.ep [strs u])) ?_ (hf:=(by first|(simp [inB]<;>fail)|(simp [inB];omega))) (he:=(by first|(simp [List.getD_eq_getElem?_getD,cellsD,hv]<;>fail)|fail))|refine zC (c2) ?_|(refine zE ?_;(skip))|(exact⟨k+1,⟨hkl,ht⟩,by omega,(tidy_of (objs:=_) _ 2 (by rfl) rfl (by repeat' (first|exact trivial|refine⟨(Or.inl rfl),?_⟩|refine⟨(Or.inl (inc_get (k:=k) (by kernel_rfl) (by omega))),?_⟩|refine⟨(Or.inr rfl),?_⟩|fail)) (by repeat' (first|exact trivial|refine⟨rfl,?_⟩|fail)) rfl rfl)⟩)|((exfalso;first|(simp_all<;>fail)|(simp_all;omega)))|fail)
     ·rw [decide_eq_false huv] at c2
      have hne:smR x y=false:=by
       have:x.alts≠y.alts:=fun e=>by rw [e] at hu;rw [hu] at hv;cases hv;exact huv rfl
       simp [smR,this]
      rw [smL_at hx hy hne]
      repeat' (first|refine zW [2,3] ?_|((refine zB [2,3] (fun h=>?_) (fun h=>?_))<;>(first|exact zk h|skip))|refine zX [2,3] ?_|refine oX (frz:=[2,3]) (v:=.d (.ep [strs u])) Yo ?_ (hf:=(by first|(simp [inB]<;>fail)|(simp [inB];omega))) (he:=(by first|(simp [List.getD_eq_getElem?_getD,cellsD,hu]<;>fail)|fail))|refine eX (v:=.d (.ep [strs u])) ?_ (hf:=(by first|(simp [inB]<;>fail)|(simp [inB];omega))) (he:=(by first|(simp [List.getD_eq_getElem?_getD,cellsD,hu]<;>fail)|fail))|refine oX (frz:=[2,3]) (v:=.d (.ep [strs v])) Yo ?_ (hf:=(by first|(simp [inB]<;>fail)|(simp [inB];omega))) (he:=(by first|(simp [List.getD_eq_getElem?_getD,cellsD,hv]<;>fail)|fail))|refine eX (v:=.d (.ep [strs v])) ?_ (hf:=(by first|(simp [inB]<;>fail)|(simp [inB];omega))) (he:=(by first|(simp [List.getD_eq_getElem?_getD,cellsD,hv]<;>fail)|fail))|refine zC (c2) ?_|(refine zE ?_;(rfl))|((exfalso;first|(simp_all<;>fail)|(simp_all;omega)))|fail)
    ·have hke:k=x.alts.length:=by have:=hk.1;omega
     have hal:x.alts=y.alts:=by have:=hk.2;rw [hke,List.take_length,hn2,List.take_length] at this;exact this
     have hexy:smR x y=true:=by simp [smR,hn1,hal]
     have ht:=upTo_succ hi.2 hx hy hexy
     repeat' (first|refine zW [2,3] ?_|((refine zB [2,3] (fun h=>?_) (fun h=>?_))<;>(first|exact zk h|skip))|refine zX [2,3] ?_|(refine zE ?_;(skip))|(exact⟨i+1,⟨hlt,ht⟩,by omega,(tidy_of (objs:=_) _ 0 (by rfl) rfl (by repeat' (first|exact trivial|refine⟨(Or.inl rfl),?_⟩|refine⟨(Or.inl (inc_get (k:=i) (by kernel_rfl) (by omega))),?_⟩|refine⟨(Or.inr rfl),?_⟩|fail)) (by repeat' (first|exact trivial|refine⟨rfl,?_⟩|fail)) rfl rfl)⟩)|((exfalso;first|(simp_all<;>fail)|(simp_all;omega)))|fail)
   ·have hne:smR x y=false:=by
     cases hb:smR x y with
     |false=>rfl
     |true =>
      simp only [smR,Bool.and_eq_true,decide_eq_true_eq] at hb
      exact absurd ⟨hb.1,by rw [hb.2]⟩ hn
    rw [smL_at hx hy hne]
    by_cases hn1:x.name=y.name
    ·have hn2:x.alts.length≠y.alts.length:=fun e=>hn ⟨hn1,e⟩
     repeat' (first|refine zW [2,3] ?_|((refine zB [2,3] (fun h=>?_) (fun h=>?_))<;>(first|exact zk h|skip))|refine zX [2,3] ?_|refine oX (frz:=[2,3]) (v:=.d (.ep [.str x.name,alts x.alts])) Yo ?_ (hf:=(by first|(simp [inB]<;>fail)|(simp [inB];omega))) (he:=(by first|(simp [List.getD_eq_getElem?_getD,cellsD,hx,encR]<;>fail)|fail))|refine eX (v:=.d (.ep [.str x.name,alts x.alts])) ?_ (hf:=(by first|(simp [inB]<;>fail)|(simp [inB];omega))) (he:=(by first|(simp [List.getD_eq_getElem?_getD,cellsD,hx,encR]<;>fail)|fail))|refine oX (frz:=[2,3]) (v:=.d (.ep [.str y.name,alts y.alts])) Yo ?_ (hf:=(by first|(simp [inB]<;>fail)|(simp [inB];omega))) (he:=(by first|(simp [List.getD_eq_getElem?_getD,cellsD,hy,encR]<;>fail)|fail))|refine eX (v:=.d (.ep [.str y.name,alts y.alts])) ?_ (hf:=(by first|(simp [inB]<;>fail)|(simp [inB];omega))) (he:=(by first|(simp [List.getD_eq_getElem?_getD,cellsD,hy,encR]<;>fail)|fail))|(refine zE ?_;(rfl))|((exfalso;(simp [hn1] at h<;>fail)))|((exfalso;(simp [hn2] at h<;>fail)))|((exfalso;(simp at h<;>omega)))|fail)
    ·have hnb:(x.name == y.name)=false:=by simpa using hn1
     repeat' (first|refine oX (frz:=[2,3]) (v:=.d (.bool true)) Yo ?_ (he:=(congrArg (fun b=>AV.d (.bool (!b))) hnb))|refine eX (v:=.d (.bool true)) ?_ (he:=(congrArg (fun b=>AV.d (.bool (!b))) hnb))|refine zW [2,3] ?_|((refine zB [2,3] (fun h=>?_) (fun h=>?_))<;>(first|exact zk h|skip))|refine zX [2,3] ?_|refine oX (frz:=[2,3]) (v:=.d (.ep [.str x.name,alts x.alts])) Yo ?_ (hf:=(by first|(simp [inB]<;>fail)|(simp [inB];omega))) (he:=(by first|(simp [List.getD_eq_getElem?_getD,cellsD,hx,encR]<;>fail)|fail))|refine eX (v:=.d (.ep [.str x.name,alts x.alts])) ?_ (hf:=(by first|(simp [inB]<;>fail)|(simp [inB];omega))) (he:=(by first|(simp [List.getD_eq_getElem?_getD,cellsD,hx,encR]<;>fail)|fail))|refine oX (frz:=[2,3]) (v:=.d (.ep [.str y.name,alts y.alts])) Yo ?_ (hf:=(by first|(simp [inB]<;>fail)|(simp [inB];omega))) (he:=(by first|(simp [List.getD_eq_getElem?_getD,cellsD,hy,encR]<;>fail)|fail))|refine eX (v:=.d (.ep [.str y.name,alts y.alts])) ?_ (hf:=(by first|(simp [inB]<;>fail)|(simp [inB];omega))) (he:=(by first|(simp [List.getD_eq_getElem?_getD,cellsD,hy,encR]<;>fail)|fail))|(refine zE ?_;(rfl))|((exfalso;(simp at h<;>omega)))|fail)
  ·rw [upTo_all h5 hge hi.2]
   have hie:i=a.rules.length:=by have:=hi.1;omega
   subst hie
   repeat' (first|refine zW [2,3] ?_|((refine zB [2,3] (fun h=>?_) (fun h=>?_))<;>(first|exact zk h|skip))|refine zX [2,3] ?_|(refine zE ?_;(rfl))|((exfalso;first|(simp_all<;>fail)|(simp_all;omega)))|fail)
 ·have hf:smX a b=false:=by
   cases hb:smX a b with
   |false=>rfl
   |true =>
    simp only [smX,Bool.and_eq_true,decide_eq_true_eq] at hb
    obtain⟨⟨⟨⟨g1,g2⟩,g3⟩,g4⟩,g5⟩:=hb
    refine absurd ⟨g1,g4,g2,g3,Classical.byContradiction fun hl=>?_⟩ h0
    rw [smL_len hl] at g5;cases g5
  rw [hf]
  generalize hbt:decide (a.tokens=b.tokens)=bt at c1
  refine knownE Yo (fnAt Tryz.func29 (by kernel_rfl) (by kernel_rfl):FnAt _ _ (mkFn Tryz.f29 [2,3])) ?_
  repeat' (first|refine zW [2,3] ?_|((refine zB [2,3] (fun h=>?_) (fun h=>?_))<;>(first|exact zk h|skip))|refine zX [2,3] ?_|((refine zK (c1) (fun h=>?_) (fun h=>?_))<;>(first|exact zk h|skip))|refine zC (c1) ?_|(refine zE ?_;(rfl))|fail)
  exfalso
  rename_i g1 g2 g3 g4 g5
  have e1:=g1
  simp at e1
  have e4:=g4
  simp at e4
  have e5:=g5
  simp at e5
  have e6:=h
  simp at e6
  exact h0 ⟨e1,of_decide_eq_true (hbt.trans g2),e4,e5,by omega⟩
end Go.Av
end
noncomputable section
namespace Go.Av
open Go Go.Proofs
set_option maxRecDepth 10000
theorem evC {f:FuncId} {args:List AV} {objs objs':List Ob} {r:AV} {n k:Nat} (h:evCall Et Ft.get? (hdl Et Ft.get? k n) k f args objs=some (r,objs')):ACall Tryz.prog f args objs r objs' :=
 evCall_ok Yo (hdl_ok Yo (by kernel_rfl) Ft_ok k n) (by kernel_rfl) Ft_ok h
abbrev byV (l:List Nat):List AV:=l.map fun n=>.d (.int .u8 (n:Nat))
abbrev vecB (l:List Nat):Ob:=.vec 5 false 1 l.length (byV l)
abbrev bld0 (T:TypeId):Ob:=.tb T [.d .nilptr,.d .nilsl]
abbrev bld (T:TypeId) (i j n:Nat):Ob:=.tb T [.bp i 0,.vs j 1 0 n]
theorem bytesA_map {l:List Nat} (h:∀ x ∈ l,x<256):bytesA (byV l)=some l:=by
 induction l with
 |nil=>rfl
 |cons a l ih =>
  have h1:=h a (by simp)
  simp only [List.map_cons,bytesA,ih (fun x hx=>h x (by simp [hx])),byteA]
  rw [if_pos (by simp;omega)]
  simp
theorem chk0P (b:AV):ACall Tryz.prog 234 [.bp 0 0] [.tb 136 [.d .nilptr,b]] (.tup []) [.tb 136 [.bp 0 0,b]]:=evC (n:=3) (k:=100) (by kernel_rfl)
theorem chk1P (n:Nat) (l:List AV) (m:Nat):ACall Tryz.prog 234 [.bp 0 0] [bld 136 0 1 n,.vec 5 false 1 m l] (.tup []) [bld 136 0 1 n,.vec 5 false 1 m l]:=evC (n:=3) (k:=100) (by kernel_rfl)
end Go.Av
end
noncomputable section
namespace Go.Av
open Go Go.Proofs
set_option maxRecDepth 10000
theorem flat_by (s:List Nat):(flatD (s.map fun(n:Nat)=>DV.int .u8 n)).map AV.d=byV s:=by
 induction s with
 |nil=>rfl
 |cons a s ih =>
  simp only [flatD,List.map_cons,List.flatMap_cons,cellsD,List.cons_append,List.nil_append]
  exact congrArg _ ih
theorem srcSz_by (s:List Nat):srcSz 1 1 (s.map fun(n:Nat)=>DV.int .u8 n)=1:=by cases s<;>rfl
section
variable {H:Hd} {frz:List Nat} {rd:Operand→AV} {objs:List Ob} {o:Oper} {args:Array Operand} {tys:Array TypeId} {a b:Operand}
theorem appS0 {s:List Nat} (hlen:s.length≤1099511627776) (hop:o.op=.call ⟨.builtin .append,args,tys⟩:=by rfl) (ha:args.toList=[a,b]:=by rfl) (ht:tys.toList=[75,9]:=by rfl)
  (hv:hintV o.dst frz=true:=by rfl) (h7:rd a=.d .nilsl:=by rfl) (h8:rd b=.d (.str s):=by rfl) :
  evAny Et H frz rd objs o=some (.vs objs.length 1 0 s.length,some (objs++[vecB s]),true):=by
 obtain⟨dst,op,ty,pos,after,guard⟩:=o
 simp only at hop hv
 subst hop
 have h1:Et.get? 75=some ty75:=rfl
 have h2:Et.get? 9=some ty9:=rfl
 have h3:Et.get? 5=some ty5:=rfl
 have hm:Nat.ble (s.length*1) 1099511627776=true:=Nat.ble_eq_true_of_le (by omega)
 have h4:appSrc Et ty5 9 (.d (.str s)) objs=some (1,s.map fun(n:Nat)=>.int .u8 n):=rfl
 have h5:=flat_by s
 simp only [evAny,ha,ht,hv,appendR,h1,ty75,appSrc0,h3,h7,h8,h4]
 simp only [ty5,srcSz_by,List.length_map,h5,hm]
 rfl
theorem appS1 {s l:List Nat} {i n:Nat} (hlen:(l++s).length≤1099511627776) (hop:o.op=.call ⟨.builtin .append,args,tys⟩:=by rfl) (ha:args.toList=[a,b]:=by rfl) (ht:tys.toList=[75,9]:=by rfl)
  (hv:hintV o.dst frz=true:=by rfl) (h7:rd a=.vs i 1 0 n:=by rfl) (h8:rd b=.d (.str s):=by rfl) (hn:n=l.length:=by rfl) (h9:objs[i]?=some (vecB l):=by rfl) :
  evAny Et H frz rd objs o=some (.vs objs.length 1 0 (l++s).length,some (objs.set i .gone++[vecB (l++s)]),true):=by
 obtain⟨dst,op,ty,pos,after,guard⟩:=o
 simp only at hop hv
 subst hop hn
 simp only [List.length_append] at hlen
 have h1:Et.get? 75=some ty75:=rfl
 have h2:Et.get? 9=some ty9:=rfl
 have h3:Et.get? 5=some ty5:=rfl
 have hm:Nat.ble ((l.length+s.length)*1) 1099511627776=true:=Nat.ble_eq_true_of_le (by omega)
 have hb:Nat.ble l.length l.length=true:=Nat.ble_eq_true_of_le (Nat.le_refl _)
 have h4:appSrc Et ty5 9 (.d (.str s)) objs=some (1,s.map fun(n:Nat)=>.int .u8 n):=rfl
 have h5:=flat_by s
 have h6:(byV l).take (l.length*1)++byV s=byV (l++s):=by rw [Nat.mul_one,List.take_of_length_le (by simp),byV,byV,byV,List.map_append]
 have h10:(l++s).length=l.length+s.length:=List.length_append
 simp only [evAny,ha,ht,hv,appendR,h1,ty75,appSrc0,h3,h7,h8,h4,h9]
 simp only [ty5,srcSz_by,List.length_map,h5,hm,hb,h6,vecB,h10]
 rfl
end
theorem wr0P (s:List Nat) (hs:s.length≤1099511627776):ACall Tryz.prog 198 [.bp 0 0,.d (.str s)] [bld0 136] (.tup [.d (.int .i64 s.length),.d .niliface]) [bld 136 0 1 s.length,vecB s]:=by
 refine acall_of_run Yo (fnAt Tryz.func198 (by kernel_rfl) (by kernel_rfl):FnAt _ _ (mkFn Tryz.f198 [65550])) rfl rfl ?_
 repeat refine zG [65550] ?_
 iterate 2 refine zX [65550] ?_
 repeat refine zG [65550] ?_
 refine zX [65550] ?_
 refine RunOps.call (by rfl) (by rfl) (chk0P _) (by rfl) (by rfl) ?_
 repeat refine zG [65550] ?_
 iterate 6 refine zX [65550] ?_
 refine oX (frz:=[65550]) Yo ?_ (hv:=appS0 hs)
 iterate 3 refine zX [65550] ?_
 repeat refine zG [65550] ?_
 iterate 4 refine zX [65550] ?_
 repeat refine zG [65550] ?_
 refine Yt ?_
 exact⟨trivial,rfl,rfl⟩
theorem wr1P (l s:List Nat) (hs:(l++s).length≤1099511627776):ACall Tryz.prog 198 [.bp 0 0,.d (.str s)] [bld 136 0 1 l.length,vecB l] (.tup [.d (.int .i64 s.length),.d .niliface]) [bld 136 0 2 (l++s).length,.gone,vecB (l++s)]:=by
 refine acall_of_run Yo (fnAt Tryz.func198 (by kernel_rfl) (by kernel_rfl):FnAt _ _ (mkFn Tryz.f198 [65550])) rfl rfl ?_
 repeat refine zG [65550] ?_
 iterate 2 refine zX [65550] ?_
 repeat refine zG [65550] ?_
 refine zX [65550] ?_
 refine RunOps.call (by rfl) (by rfl) (chk1P _ _ _) (by rfl) (by rfl) ?_
 repeat refine zG [65550] ?_
 iterate 6 refine zX [65550] ?_
 refine oX (frz:=[65550]) Yo ?_ (hv:=appS1 hs)
 iterate 3 refine zX [65550] ?_
 repeat refine zG [65550] ?_
 iterate 4 refine zX [65550] ?_
 repeat refine zG [65550] ?_
 refine Yt ?_
 exact⟨trivial,rfl,rfl⟩
end Go.Av
end
noncomputable section
namespace Go.Av
open Go Go.Proofs
set_option maxRecDepth 10000
section
variable {H:Hd} {frz:List Nat} {rd:Operand→AV} {objs:List Ob} {o:Oper} {args:Array Operand} {tys:Array TypeId} {a b:Operand}
theorem dataOf {i sz n:Nat} (h0:0<n) (hop:o.op=.call ⟨.builtin .unsafeSliceData,args,tys⟩:=by rfl) (ha:args.toList=[a]:=by rfl) (ht:tys.toList=[75]:=by rfl) (h7:rd a=.vs i sz 0 n:=by rfl) :
  evAny Et H frz rd objs o=some (.bp i 0,none,true):=by
 obtain⟨dst,op,ty,pos,after,guard⟩:=o
 simp only at hop
 subst hop
 have hlt:Nat.blt 0 n=true:=by rw [Nat.blt_eq];exact h0
 show((evOp Et rd objs (.call ⟨.builtin .unsafeSliceData,args,tys⟩)).map fun p=>(p.1,none,p.2.2))=_
 simp only [evOp,ha,ht,sliceDataR,h7,hlt]
 rfl
theorem strOf {l:List Nat} {i n:Nat} (h0:0<l.length) (hb:∀ x ∈ l,x<256) (hop:o.op=.call ⟨.builtin .unsafeString,args,tys⟩:=by rfl) (ha:args.toList=[a,b]:=by rfl) (ht:tys.toList=[211,3]:=by rfl)
  (h7:rd a=.bp i 0:=by rfl) (h8:rd b=.d (.int .i64 (n:Nat)):=by rfl) (hn:n=l.length:=by rfl) (h9:objs[i]?=some (vecB l):=by rfl) :
  evAny Et H frz rd objs o=some (.d (.str l),some (objs.set i .gone),true):=by
 obtain⟨dst,op,ty,pos,after,guard⟩:=o
 simp only at hop
 subst hop hn
 have h1:Et.get? 211=some ty211:=rfl
 have hB:isByteT Et 5=true:=rfl
 have hle:Nat.ble l.length l.length=true:=Nat.ble_eq_true_of_le (Nat.le_refl _)
 have hbb:bytesA ((byV l).take l.length)=some l:=by rw [List.take_of_length_le (by simp)];exact bytesA_map hb
 have hd:decide ((0:Int)<(l.length:Nat))=true:=by rw [decide_eq_true_eq];omega
 show((evOp Et rd objs (.call ⟨.builtin .unsafeString,args,tys⟩)).map fun p=>(p.1,some p.2.1,p.2.2))=_
 simp only [evOp,ha,ht,unsafeStrR,h7,h8,h1,ty211,h9,vecB,hB,hle,hbb,hd,Int.toNat_natCast]
 rfl
end
theorem str1P (l:List Nat) (h0:0<l.length) (hb:∀ x ∈ l,x<256):ACall Tryz.prog 113 [.bp 0 0] [bld 136 0 1 l.length,vecB l] (.d (.str l)) [bld 136 0 1 l.length,.gone]:=by
 refine acall_of_run Yo (fnAt Tryz.func113 (by kernel_rfl) (by kernel_rfl):FnAt _ _ (mkFn Tryz.f113 [])) rfl rfl ?_
 repeat refine zG [] ?_
 refine zX [] ?_
 repeat refine zG [] ?_
 iterate 4 refine eX ?_
 refine eX ?_ (hv:=dataOf h0)
 iterate 5 refine eX ?_
 refine eX ?_ (hv:=strOf h0 hb)
 refine eX ?_
 refine eN ?_
 repeat refine zG [] ?_
 refine Yt ?_
 exact⟨trivial,rfl,rfl⟩
end Go.Av
end
noncomputable section
namespace Go.Av
open Go Go.Proofs
set_option maxRecDepth 10000
def stB (T:TypeId) (k:Nat) (l:List Nat):List Ob:=bld T 0 (k+1) l.length :: (List.replicate k .gone++[vecB l])
theorem stB_len (T:TypeId) (k:Nat) (l:List Nat):(stB T k l).length=k+2:=by simp [stB]
theorem stB_row (T:TypeId) (k:Nat) (l:List Nat):(stB T k l)[k+1]?=some (vecB l):=by
 simp only [stB,List.getElem?_cons_succ]
 rw [List.getElem?_append_right (by simp)];simp
theorem stB_mid (T:TypeId) (k p:Nat) (l:List Nat) (h0:0<p) (hp:p<k+1):(stB T k l)[p]?=some .gone:=by
 obtain⟨q,rfl⟩:∃ q,p=q+1:=⟨p-1,by omega⟩
 simp only [stB,List.getElem?_cons_succ]
 rw [List.getElem?_append_left (by simp;omega),List.getElem?_replicate,if_pos (by omega)]
theorem reA_by (ρ:Nat→Nat) (l:List Nat):(byV l).map (reA ρ 8)=byV l:=by
 rw [byV,List.map_map];rfl
theorem okA_by (n:Nat) (l:List Nat):(byV l).all (okA n 8)=true:=by
 rw [List.all_eq_true];intro x hx;simp only [byV,List.mem_map] at hx;obtain⟨y,_,rfl⟩:=hx;rfl
theorem reO_vec (ρ:Nat→Nat) (l:List Nat):reO ρ (vecB l)=vecB l:=by
 show Ob.vec _ _ _ _ ((byV l).map (reA ρ 8))=_
 rw [reA_by]
theorem wrSP (k:Nat) (l s:List Nat) (hs:(l++s).length≤1099511627776):ACall Tryz.prog 198 [.bp 0 0,.d (.str s)] (stB 136 k l) (.tup [.d (.int .i64 s.length),.d .niliface]) (stB 136 (k+1) (l++s)):=by
 have hlen:=stB_len 136 k l
 have h:=(wr1P l s hs).embed rfl (Big:=stB 136 k l) (Big':=stB 136 (k+1) (l++s)) (pos:=[0,k+1]) rfl (by simp) (fun i ob hi=>?_) ?_ rfl ?_ (fun p hp hn=>?_) (fun i ob hi=>?_)
 ·exact h
 ·match i with
  |0=>simp at hi;subst hi;exact⟨0,rfl,rfl⟩
  |1=>simp at hi;subst hi;exact⟨k+1,rfl,by rw [reO_vec];exact stB_row _ _ _⟩
  |i+2=>simp at hi
 ·simp only [List.all_cons,List.all_nil,Bool.and_true,Bool.and_eq_true]
  exact⟨rfl,okA_by _ _⟩
 ·rw [hlen,stB_len];rfl
 ·simp only [List.mem_cons,List.not_mem_nil,or_false,not_or] at hn
  rw [stB_mid _ _ _ _ (by omega) (by omega),stB_mid _ _ _ _ (by omega) (by omega)]
 ·match i with
  |0=>obtain rfl:=Option.some.inj hi;rw [hlen];rfl
  |1=>obtain rfl:=Option.some.inj hi;exact stB_mid 136 (k+1) (k+1) (l++s) (by omega) (by omega)
  |2 =>
   obtain rfl:=Option.some.inj hi
   rw [reO_vec,hlen]
   exact stB_row 136 (k+1) (l++s)
  |i+3=>simp at hi
theorem strSP (k:Nat) (l:List Nat) (h0:0<l.length) (hb:∀ x ∈ l,x<256):ACall Tryz.prog 113 [.bp 0 0] (stB 136 k l) (.d (.str l)) (bld 136 0 (k+1) l.length :: List.replicate (k+1) .gone):=by
 have hlen:=stB_len 136 k l
 have h:=(str1P l h0 hb).embed rfl (Big:=stB 136 k l) (Big':=bld 136 0 (k+1) l.length :: List.replicate (k+1) .gone) (pos:=[0,k+1]) rfl (by simp) (fun i ob hi=>?_) ?_ rfl ?_ (fun p hp hn=>?_) (fun i ob hi=>?_)
 ·exact h
 ·match i with
  |0=>simp at hi;subst hi;exact⟨0,rfl,rfl⟩
  |1=>simp at hi;subst hi;exact⟨k+1,rfl,by rw [reO_vec];exact stB_row _ _ _⟩
  |i+2=>simp at hi
 ·simp only [List.all_cons,List.all_nil,Bool.and_true,Bool.and_eq_true]
  exact⟨rfl,okA_by _ _⟩
 ·rw [hlen];simp
 ·simp only [List.mem_cons,List.not_mem_nil,or_false,not_or] at hn
  obtain⟨q,rfl⟩:∃ q,p=q+1:=⟨p-1,by omega⟩
  rw [stB_mid _ _ _ _ (by omega) (by omega),List.getElem?_cons_succ,List.getElem?_replicate,if_pos (by omega)]
 ·match i with
  |0=>simp at hi;subst hi;rfl
  |1=>simp at hi;subst hi;simp [atOf,reO]
  |i+2=>simp at hi
theorem putS (k:Nat) (l:List Nat) (ss:List (List Nat)) (hs:(l++ss.flatten).length≤1099511627776) (hl:ss.length≤1099511627776):ACall Tryz.prog 111 [.bp 0 0,.d (strs ss)] (stB 136 k l) (.tup []) (stB 136 (k+ss.length) (l++ss.flatten)):=by
 refine acall_of_run Yo (fnAt Tryz.func111 (by kernel_rfl) (by kernel_rfl):FnAt _ _ (mkFn Tryz.f111 [])) rfl rfl ?_
 repeat refine zG [] ?_
 iterate 3 refine zX [] ?_
 repeat refine zG [] ?_
 refine Run.loop (fun i:Nat=>⟨PT.ofList [(0,.bp 0 0),(6,.d (strs ss)),(7,.d (.int .i64 ss.length)),(8,.d (.int .i64 i))],stB 136 (k+i) (l++(ss.take i).flatten),[]⟩) (fun i=>i≤ss.length) (fun i=>ss.length-i) 0 (Nat.zero_le _) (weak_of' (by simp) rfl ⟨rfl,rfl,congrArg (fun n:Nat=>some (AV.d (.int .i64 (n:Int)))) (List.length_map ..),rfl,trivial⟩) (fun i hi=>?_)
 repeat refine zG [] ?_
 refine zX [] ?_
 repeat refine zG [] ?_
 refine Run.cond (by rfl) (fun h=>?_) (fun h=>?_)
 ·have hlt:i<ss.length:=by simpa using h
  obtain⟨x,hx⟩:=get_ok hlt
  have hf:(ss.take (i+1)).flatten=(ss.take i).flatten++x:=by rw [List.take_add_one,hx];simp
  have hle:((ss.take (i+1)).flatten).length≤ss.flatten.length:=by
   conv=>rhs;rw [← List.take_append_drop (i+1) ss,List.flatten_append]
   simp
  rw [hf] at hle
  simp only [List.length_append] at hle hs
  repeat refine zG [] ?_
  first|refine oX (frz:=[]) (v:=.d (.ep [.str x])) Yo ?_ (hf:=(by first|(simp [inB]<;>fail)|(simp [inB];omega))) (he:=(by first|(simp [List.getD_eq_getElem?_getD,cellsD,hx]<;>fail)|fail))|refine eX (v:=.d (.ep [.str x])) ?_ (hf:=(by first|(simp [inB]<;>fail)|(simp [inB];omega))) (he:=(by first|(simp [List.getD_eq_getElem?_getD,cellsD,hx]<;>fail)|fail))
  iterate 2 refine zX [] ?_
  repeat refine zG [] ?_
  iterate 4 refine zX [] ?_
  refine RunOps.call (by rfl) (by rfl) (wrSP (k+i) (l++(ss.take i).flatten) x (by simp only [List.length_append];omega)) (by rfl) (by rfl) ?_
  repeat refine zG [] ?_
  refine zX [] ?_
  refine oX (frz:=[]) (v:=.d (.int .i64 (i+1:Nat))) Yo ?_ (he:=congrArg (fun n=>AV.d (.int .i64 n)) (wrap_nat (n:=i+1) (by omega)))
  repeat refine zG [] ?_
  exact⟨i+1,hlt,by omega,weak_of' (by rw [hf,List.append_assoc];rfl) rfl ⟨rfl,rfl,rfl,rfl,trivial⟩⟩
 ·have hge:i=ss.length:=by simp at h;omega
  subst hge
  repeat refine zG [] ?_
  refine⟨trivial,?_,rfl⟩
  show some ((none:Option DV),stB 136 (k+ss.length) (l++(ss.take ss.length).flatten))=_
  rw [List.take_length]
def stF (T:TypeId) (ss:List (List Nat)):Nat→List Ob
 |0=>[bld0 T]
 |i+1=>stB T i (ss.take (i+1)).flatten
theorem put0 (s:List Nat) (ss:List (List Nat)) (hs:((s :: ss).flatten).length≤1099511627776) (hl:(s :: ss).length≤1099511627776):ACall Tryz.prog 111 [.bp 0 0,.d (strs (s :: ss))] [bld0 136] (.tup []) (stB 136 ss.length (s :: ss).flatten):=by
 have hend:stF 136 (s :: ss) (s :: ss).length=stB 136 ss.length (s :: ss).flatten:=by
  show stB _ _ ((s :: ss).take (s :: ss).length).flatten=_
  rw [List.take_length]
 rw [← hend]
 generalize hss:s :: ss=l at *
 refine acall_of_run Yo (fnAt Tryz.func111 (by kernel_rfl) (by kernel_rfl):FnAt _ _ (mkFn Tryz.f111 [])) rfl rfl ?_
 repeat refine zG [] ?_
 iterate 3 refine zX [] ?_
 repeat refine zG [] ?_
 refine Run.loop (fun i:Nat=>⟨PT.ofList [(0,.bp 0 0),(6,.d (strs l)),(7,.d (.int .i64 l.length)),(8,.d (.int .i64 i))],stF 136 l i,[]⟩) (fun i=>i≤l.length) (fun i=>l.length-i) 0 (Nat.zero_le _) (weak_of' rfl rfl ⟨rfl,rfl,congrArg (fun n:Nat=>some (AV.d (.int .i64 (n:Int)))) (List.length_map ..),rfl,trivial⟩) (fun i hi=>?_)
 repeat refine zG [] ?_
 refine zX [] ?_
 repeat refine zG [] ?_
 refine Run.cond (by rfl) (fun h=>?_) (fun h=>?_)
 ·have hlt:i<l.length:=by simpa using h
  obtain⟨x,hx⟩:=get_ok hlt
  have hf:(l.take (i+1)).flatten=(l.take i).flatten++x:=by rw [List.take_add_one,hx];simp
  have hle:((l.take (i+1)).flatten).length≤l.flatten.length:=by
   conv=>rhs;rw [← List.take_append_drop (i+1) l,List.flatten_append]
   simp
  have hA:ACall Tryz.prog 198 [.bp 0 0,.d (.str x)] (stF 136 l i) (.tup [.d (.int .i64 x.length),.d .niliface]) (stF 136 l (i+1)):=by
   cases i with
   |zero =>
    have hx0:(l.take (0+1)).flatten=x:=by rw [hf];simp
    have h:=wr0P x (by rw [hf] at hle;simp only [List.length_append] at hle;omega)
    show ACall _ _ _ [bld0 _] _ (stB _ 0 (l.take (0+1)).flatten)
    rw [hx0];exact h
   |succ j =>
    have h:=wrSP j (l.take (j+1)).flatten x (by rw [← hf];omega)
    show ACall _ _ _ (stB _ j _) _ (stB _ (j+1) (l.take (j+1+1)).flatten)
    rw [hf];exact h
  repeat refine zG [] ?_
  first|refine oX (frz:=[]) (v:=.d (.ep [.str x])) Yo ?_ (hf:=(by first|(simp [inB]<;>fail)|(simp [inB];omega))) (he:=(by first|(simp [List.getD_eq_getElem?_getD,cellsD,hx]<;>fail)|fail))|refine eX (v:=.d (.ep [.str x])) ?_ (hf:=(by first|(simp [inB]<;>fail)|(simp [inB];omega))) (he:=(by first|(simp [List.getD_eq_getElem?_getD,cellsD,hx]<;>fail)|fail))
  iterate 2 refine zX [] ?_
  repeat refine zG [] ?_
  iterate 4 refine zX [] ?_
  refine RunOps.call (by rfl) (by rfl) hA (by rfl) (by rfl) ?_
  repeat refine zG [] ?_
  refine zX [] ?_
  refine oX (frz:=[]) (v:=.d (.int .i64 (i+1:Nat))) Yo ?_ (he:=congrArg (fun n=>AV.d (.int .i64 n)) (wrap_nat (n:=i+1) (by omega)))
  repeat refine zG [] ?_
  exact⟨i+1,hlt,by omega,weak_of' rfl rfl ⟨rfl,rfl,rfl,rfl,trivial⟩⟩
 ·have hge:i=l.length:=by simp at h;omega
  subst hge
  repeat refine zG [] ?_
  exact⟨trivial,rfl,rfl⟩
end Go.Av
end
noncomputable section
namespace Go.Av
open Go Go.Proofs
set_option maxRecDepth 10000
abbrev prB (l:List Nat) (rest:List Ob):List Ob:=bld 136 0 1 l.length :: vecB l :: rest
abbrev prO (q:Nat) (l:List Nat) (rest:List Ob):List Ob:=bld 136 0 (rest.length+2+q) l.length :: .gone :: (rest++(List.replicate q .gone++[vecB l]))
theorem prO_row (q:Nat) (l:List Nat) (rest:List Ob):(prO q l rest)[rest.length+2+q]?=some (vecB l):=by
 rw [show rest.length+2+q=(rest.length+q)+1+1 by omega]
 simp only [prO,List.getElem?_cons_succ]
 rw [List.getElem?_append_right (by omega),List.getElem?_append_right (by simp)]
 simp
theorem prO_gone (q p:Nat) (l:List Nat) (rest:List Ob) (hp:p<q):(prO q l rest)[rest.length+2+p]?=some .gone:=by
 rw [show rest.length+2+p=(rest.length+p)+1+1 by omega]
 simp only [prO,List.getElem?_cons_succ]
 rw [List.getElem?_append_right (by omega),List.getElem?_append_left (by simp;omega),List.getElem?_replicate,if_pos (by omega)]
theorem putR (l:List Nat) (ss:List (List Nat)) (q:Nat) (rest:List Ob) (hq:ss.length=q+1) (hs:(l++ss.flatten).length≤1099511627776) (hl:q≤1000) :
  ACall Tryz.prog 111 [.bp 0 0,.d (strs ss)] (prB l rest) (.tup []) (prO q (l++ss.flatten) rest):=by
 have h:=(putS 0 l ss hs (by omega)).embed rfl (Big:=prB l rest) (Big':=prO q (l++ss.flatten) rest) (pos:=[0,1]) rfl (by simp) (fun i ob hi=>?_) ?_ rfl ?_ (fun p hp hn=>?_) (fun i ob hi=>?_)
 ·exact h
 ·match i with
  |0=>obtain rfl:=Option.some.inj hi;exact⟨0,rfl,rfl⟩
  |1=>obtain rfl:=Option.some.inj hi;exact⟨1,rfl,by rw [reO_vec];rfl⟩
  |i+2=>cases hi
 ·show(okO 2 (bld _ 0 1 l.length) && (okO 2 (vecB l) && true))=true
  rw [show okO 2 (vecB l)=true from okA_by _ _];rfl
 ·rw [stB_len,hq];simp [stB_len];omega
 ·simp only [List.mem_cons,List.not_mem_nil,or_false,not_or] at hn
  obtain⟨p',rfl⟩:∃ p',p=p'+1+1:=⟨p-2,by omega⟩
  simp only [prO,prB,List.getElem?_cons_succ]
  rw [List.getElem?_append_left (by simp at hp;omega)]
 ·have hB:(prB l rest).length=rest.length+2:=by simp
  rw [hq] at hi
  have hlen:=stB_len 136 (0+(q+1)) (l++ss.flatten)
  have hil:i<0+(q+1)+2:=by rw [← hlen];exact(List.getElem?_eq_some_iff.1 hi).1
  match i with
  |0 =>
   obtain rfl:=Option.some.inj hi
   rw [hB]
   show some (bld _ 0 (rest.length+2+q) _)=some (bld _ 0 (rest.length+2+(0+(q+1)+1-2)) _)
   rw [show 0+(q+1)+1-2=q by omega]
  |1 =>
   rw [stB_mid _ _ _ _ (by omega) (by omega)] at hi
   obtain rfl:=Option.some.inj hi
   rfl
  |i+2 =>
   have hat:atOf [0,1] (prB l rest).length (i+2)=rest.length+2+i:=by rw [hB];rfl
   rw [hat]
   rcases Nat.lt_or_ge i q with h1|h1
   ·rw [stB_mid _ _ _ _ (by omega) (by omega)] at hi
    obtain rfl:=Option.some.inj hi
    exact prO_gone q i _ rest h1
   ·have:i=q:=by omega
    subst this
    rw [show i+2=(0+(i+1))+1 by omega,stB_row] at hi
    obtain rfl:=Option.some.inj hi
    rw [reO_vec]
    exact prO_row i _ rest
theorem prR1 {tm:PT AV} {q:Nat} {l l':List Nat} (cs:List DV) (ts:List (Nat × AV)) (he:l=l') (h:allRe (plOf [0,1+2+q,2]) 3 tm ts):Relab 0 ⟨tm,prO q l [.box (cs.map .d)],[]⟩ ⟨PT.ofList ts,prB l' [.box (cs.map .d)],[]⟩:=by
 subst he
 refine⟨ts,[0,1+2+q,2],prB l [.box (cs.map .d)],rfl,rfl,rfl,by simp;omega,fun k hk=>by omega,fun k ob hk=>?_,h⟩
 match k with
 |0=>obtain rfl:=Option.some.inj hk;exact⟨rfl,0,rfl,rfl⟩
 |1=>obtain rfl:=Option.some.inj hk;exact⟨okA_by _ _,_,rfl,by rw [reO_vec];exact prO_row q l _⟩
 |2 =>
  obtain rfl:=Option.some.inj hk
  refine⟨?_,2,rfl,?_⟩
  ·show(cs.map AV.d).all (okA _ 8)=true
   rw [List.all_eq_true];intro x hx;simp only [List.mem_map] at hx;obtain⟨y,_,rfl⟩:=hx;rfl
  ·show some (Ob.box (cs.map .d))=some (Ob.box ((cs.map AV.d).map (reA _ 8)))
   rw [List.map_map];rfl
 |k+3=>cases hk
theorem prR2 {tm:PT AV} {q:Nat} {l l':List Nat} {b:Ob} (ts:List (Nat × AV)) (he:l=l') (h:allRe (plOf [0,1+2+q]) 2 tm ts):Relab 0 ⟨tm,prO q l [b],[]⟩ ⟨PT.ofList ts,prB l' [],[]⟩:=by
 subst he
 refine⟨ts,[0,1+2+q],prB l [],rfl,rfl,rfl,by simp;omega,fun k hk=>by omega,fun k ob hk=>?_,h⟩
 match k with
 |0=>obtain rfl:=Option.some.inj hk;exact⟨rfl,0,rfl,rfl⟩
 |1=>obtain rfl:=Option.some.inj hk;exact⟨okA_by _ _,_,rfl,by rw [reO_vec];exact prO_row q l [b]⟩
 |k+2=>cases hk
theorem prR3 {tm:PT AV} {q:Nat} {l l':List Nat} (ts:List (Nat × AV)) (he:l=l') (h:allRe (plOf [0,q+1]) 2 tm ts):Relab 0 ⟨tm,stB 136 q l,[]⟩ ⟨PT.ofList ts,prB l' [],[]⟩:=by
 subst he
 refine⟨ts,[0,q+1],prB l [],rfl,rfl,rfl,by simp,fun k hk=>by omega,fun k ob hk=>?_,h⟩
 match k with
 |0=>obtain rfl:=Option.some.inj hk;exact⟨rfl,0,rfl,rfl⟩
 |1=>obtain rfl:=Option.some.inj hk;exact⟨okA_by _ _,_,rfl,by rw [reO_vec];exact stB_row _ q l⟩
 |k+2=>cases hk
theorem prI1 {tm:PT AV} {l l':List Nat} (cs:List DV) (ts:List (Nat × AV)) (he:l=l') (h:allRe (plOf [0,1,2]) 3 tm ts):Relab 0 ⟨tm,prB l [.box (cs.map .d)],[]⟩ ⟨PT.ofList ts,prB l' [.box (cs.map .d)],[]⟩:=by
 subst he
 refine⟨ts,[0,1,2],prB l [.box (cs.map .d)],rfl,rfl,rfl,by simp,fun k hk=>by omega,fun k ob hk=>?_,h⟩
 match k with
 |0=>obtain rfl:=Option.some.inj hk;exact⟨rfl,0,rfl,rfl⟩
 |1=>obtain rfl:=Option.some.inj hk;exact⟨okA_by _ _,1,rfl,by rw [reO_vec];rfl⟩
 |2 =>
  obtain rfl:=Option.some.inj hk
  refine⟨?_,2,rfl,?_⟩
  ·show(cs.map AV.d).all (okA _ 8)=true
   rw [List.all_eq_true];intro x hx;simp only [List.mem_map] at hx;obtain⟨y,_,rfl⟩:=hx;rfl
  ·show some (Ob.box (cs.map .d))=some (Ob.box ((cs.map AV.d).map (reA _ 8)))
   rw [List.map_map];rfl
 |k+3=>cases hk
end Go.Av
end
namespace Go.Proofs
open Go.Shelf
def Tryz.lays156_ren:Go.Shelf.Ren:=⟨fun|156=>112|165=>199|166=>198|169=>113|240=>234|241=>235|276=>258|277=>259|n=>n,fun|31=>22|9=>9|3=>3|4=>4|0=>0|20=>20|72=>134|76=>208|70=>132|37=>75|75=>207|127=>211|164=>257|5=>5|80=>139|n=>n,fun|n=>n⟩
theorem Tryz.lays156:Go.Proofs.Lays.n156 Tryz.prog Tryz.lays156_ren:={
 mixed:=by kernel_rfl
 f156:=Tryz.func112.trans (congrArg some (by kernel_rfl))
 f165:=Tryz.func199.trans (congrArg some (by kernel_rfl))
 f166:=Tryz.func198.trans (congrArg some (by kernel_rfl))
 f169:=Tryz.func113.trans (congrArg some (by kernel_rfl))
 f240:=Tryz.func234.trans (congrArg some (by kernel_rfl))
 f241:=Tryz.func235.trans (congrArg some (by kernel_rfl))
 f276:=Tryz.func258.trans (congrArg some (by kernel_rfl))
 f277:=Tryz.func259.trans (congrArg some (by kernel_rfl))
 t0:=Tryz.underlying0
 a0:=Tryz.isAgg0
 z0:=Tryz.sizeOf0
 v0:=Tryz.zeroValue0
 t3:=Tryz.underlying3
 a3:=Tryz.isAgg3
 z3:=Tryz.sizeOf3
 v3:=Tryz.zeroValue3
 t4:=Tryz.underlying4
 a4:=Tryz.isAgg4
 z4:=Tryz.sizeOf4
 v4:=Tryz.zeroValue4
 t9:=Tryz.underlying9
 a9:=Tryz.isAgg9
 z9:=Tryz.sizeOf9
 v9:=Tryz.zeroValue9
 t20:=Tryz.underlying20
 a20:=Tryz.isAgg20
 z20:=Tryz.sizeOf20
 v20:=Tryz.zeroValue20
 t31:=Tryz.underlying22
 a31:=Tryz.isAgg22
 z31:=Tryz.sizeOf22
 v31:=Tryz.zeroValue22
 t37:=Tryz.underlying75
 a37:=Tryz.isAgg75
 z37:=Tryz.sizeOf75
 v37:=Tryz.zeroValue75
 t70:=Tryz.underlying132
 a70:=Tryz.isAgg132
 z70:=Tryz.sizeOf132
 v70:=Tryz.zeroValue132
 t72:=Tryz.underlying134
 a72:=Tryz.isAgg134
 z72:=Tryz.sizeOf134
 v72:=Tryz.zeroValue134
 t75:=Tryz.underlying207
 a75:=Tryz.isAgg207
 z75:=Tryz.sizeOf207
 v75:=Tryz.zeroValue207
 t76:=Tryz.underlying208
 a76:=Tryz.isAgg208
 z76:=Tryz.sizeOf208
 v76:=Tryz.zeroValue208
 t127:=Tryz.underlying211
 a127:=Tryz.isAgg211
 z127:=Tryz.sizeOf211
 v127:=Tryz.zeroValue211
 t164:=Tryz.underlying257
 a164:=Tryz.isAgg257
 z164:=Tryz.sizeOf257
 v164:=Tryz.zeroValue257 }
theorem Tryz.Builder_Extra_156:Builder.Extra Tryz.prog Tryz.lays156_ren:={
 sizeBuilder:=by kernel_rfl
 liesBuilder:=by kernel_rfl
 t5:=Tryz.underlying5
 a5:=Tryz.isAgg5
 z5:=Tryz.sizeOf5
 v5:=Tryz.zeroValue5
 infoByte:=by kernel_rfl
 cellsByte:=by kernel_rfl
 sizeByte:=by kernel_rfl
 neB5:=by decide }
open Go.RowKit in
theorem Tryz.strings_Join_none (a:Option Addr) (c:Nat) (sep:ByteArray) (w:World) :
  Calls Tryz.prog 112 #[.slice a 0 c,.string sep] w fun e w'=>e=.returned (.string ⟨#[]⟩)∧w'=w:=Any.strings_Join_none Tryz.lays156 Tryz.Builder_Extra_156 a c sep w
open Go.RowKit in
theorem Tryz.strings_Join (bk o c:Nat) (xs:List ByteArray) (sep:ByteArray) (w:World) (hcells:∀ (j:Nat) x,xs[j]?=some x→w.cell? ⟨bk,o+j,none⟩=some (.string x)) (hbk:bk<w.heap.size) (hN:xs.length≤140737488355328) (hcap:xs.length≤c) (hlen:(Lib.join (xs.map (·.data.toList)) sep.data.toList).length≤140737488355328) :
  Calls Tryz.prog 112 #[.slice (some ⟨bk,o,none⟩) xs.length c,.string sep] w fun e w'=>e=.returned (.string ⟨(Lib.join (xs.map (·.data.toList)) sep.data.toList).toArray⟩)∧Below w.heap.size w w':=Any.strings_Join Tryz.lays156 Tryz.Builder_Extra_156 bk o c xs sep w hcells hbk hN hcap hlen
end Go.Proofs
noncomputable section
namespace Go.Av
open Go Go.Proofs
set_option maxRecDepth 10000
theorem Step.below {D:DMap} {β:List Bi} {objs:List Ob} {w w':World} (hp:Heap D β objs w) (h:Go.RowKit.Below w.heap.size w w'):Step D β objs w D β objs w' :=
 Step.ext hp h.block h.size h.os h.tape h.output (fun _ _ h=>h) (fun ad v h0 h2=>by rw [h2] at h0;cases h0)
theorem strs_vals {D:DMap}:∀ (ss:List (List Nat)) (vs:List Value),vs.length=ss.length→(∀ (j:Nat) c v,(ss.map DV.str)[j]?=some c→vs[j]?=some v→RepD D c v) →
  ∃ xs:List ByteArray,vs=xs.map Value.string∧ss=xs.map fun b=>b.data.toList.map UInt8.toNat
 |[],vs,hl,_=>⟨[],by simpa using hl,rfl⟩
 |s :: ss,[],hl,_=>by simp at hl
 |s :: ss,v :: vs,hl,h=>by
  obtain⟨xs,h1,h2⟩:=strs_vals ss vs (by simpa using hl) fun j c v hc hv=>h (j+1) c v (by simpa using hc) (by simpa using hv)
  have h0:=h 0 (.str s) v rfl rfl
  cases h0 with
  |@str _ b hb=>exact⟨b :: xs,by simp [h1],by rw [h2];simp [hb]⟩
theorem inter_map {α β:Type} (f:α→β) (sep:List α) (l:List (List α)):(List.intercalate sep l).map f=List.intercalate (sep.map f) (l.map (·.map f)):=by
 simp only [List.intercalate]
 rw [List.map_flatten]
 congr 1
 induction l with
 |nil=>rfl
 |cons a l ih =>
  cases l with
  |nil=>rfl
  |cons b l=>simp only [List.intersperse,List.map_cons] at ih ⊢;rw [ih]
theorem joinK (ss:List (List Nat)) (sep:List Nat) (hn:ss.length≤1099511627776) (hl:(List.intercalate sep ss).length≤1099511627776):KnownCall Tryz.prog 112 [strs ss,.str sep] (.d (.str (List.intercalate sep ss))):=by
 intro o
 refine⟨enters_of Tryz.func112 (by kernel_rfl) rfl,fun D β w vs hp hr=>?_⟩
 obtain⟨v0,v1,rfl,h0,h1⟩:∃ v0 v1,vs=#[v0,v1]∧RepD D (strs ss) v0∧RepD D (.str sep) v1:=by
  obtain⟨l⟩:=vs
  obtain⟨h1,h2⟩:=hr
  match l,h1 with
  |[a,b],_ =>
   refine⟨a,b,rfl,?_,?_⟩
   ·have:=h2 0 _ a rfl rfl
    cases this with|d h=>exact h
   ·have:=h2 1 _ b rfl rfl
    cases this with|d h=>exact h
 have fl:∀ l:List (List Nat),flatD (l.map DV.str)=l.map DV.str:=fun l=>by
  induction l with
  |nil=>rfl
  |cons a l ih=>simp only [flatD,List.map_cons,List.flatMap_cons,cellsD] at ih ⊢;rw [ih];rfl
 cases h1 with
 |@str _ b hb =>
  generalize hes:ss.map DV.str=es at h0
  cases h0 with
  |@sl _ _ a cap us hc hm hsz hnn hv hD hrr =>
   subst hes
   rw [fl] at hv hrr
   obtain⟨xs,e1,e2⟩:=strs_vals ss us (by simpa using hv) hrr
   have hxl:xs.length=ss.length:=by rw [e2];simp
   have hres:∀ ys:List (List UInt8),(List.intercalate b.data.toList ys).map UInt8.toNat=List.intercalate sep (ys.map (·.map UInt8.toNat)):=fun ys=>by rw [inter_map,hb]
   have hin:(Lib.join (xs.map (·.data.toList)) b.data.toList).map UInt8.toNat=List.intercalate sep ss:=by
    rw [show Lib.join (xs.map (·.data.toList)) b.data.toList=List.intercalate b.data.toList (xs.map (·.data.toList)) from rfl,hres,e2,List.map_map];rfl
   cases ss with
   |nil =>
    have hx0:xs=[]:=List.length_eq_zero_iff.1 (by simpa using hxl)
    refine(callsIn_wide (n:=0)).2 ((Tryz.strings_Join_none a cap b w).mono fun e w' he=>?_)
    obtain⟨rfl,rfl⟩:=he
    exact .inl ⟨_,D,β,rfl,Step.refl hp,.d (.str rfl)⟩
   |cons s ss =>
    have hcl:(List.map DV.str (s :: ss)).length=xs.length:=by rw [hxl];simp
    cases a with
    |none=>have:=(hnn rfl).1;cases this
    |some ad =>
     obtain⟨hsp,hcell⟩:=hD ad rfl
     have hpos:0<xs.length:=by rw [hxl];simp
     obtain⟨blk,off,spot⟩:=ad
     have hspot:spot=none:=by
      rcases hsp with h|h
      ·omega
      ·exact h
     subst hspot
     have hcells:∀ (j:Nat) x,xs[j]?=some x→w.cell? ⟨blk,off+j,none⟩=some (.string x):=fun j x hx=>hp.cell (hcell j _ (by rw [e1];simp [hx]))
     have hlt:blk<w.heap.size:=by
      have:=hp.D_lt (hcell 0 (.string xs[0]) (by rw [e1];simp [hpos]))
      exact this
     rw [hcl]
     refine(callsIn_wide (n:=0)).2 ((Tryz.strings_Join blk off cap xs b w hcells hlt (by omega) (by omega) (by have:=congrArg List.length hin;simp only [List.length_map] at this;omega)).mono fun e w' he=>?_)
     obtain⟨rfl,hbel⟩:=he
     exact .inl ⟨_,D,β,rfl,Step.below hp hbel,.d (.str (by simp [hin]))⟩
end Go.Av
end
noncomputable section
namespace Go.Av
open Go Go.Proofs
set_option maxRecDepth 10000
theorem rulesTo_succ {x:Src} {i:Nat} {r:SRule} (h:x.rules[i]?=some r):rulesTo x (i+1)=rulesTo x i++ruleP r:=by
 unfold rulesTo;rw [List.take_add_one,h];simp
theorem rulesTo_le (x:Src) {i j:Nat} (h:i≤j):(rulesTo x i).length≤(rulesTo x j).length:=by
 unfold rulesTo
 obtain⟨d,rfl⟩:∃ d,j=i+d:=⟨j-i,by omega⟩
 rw [List.take_add,List.flatMap_append,List.length_append];omega
theorem altsTo_le (al:List (List (List Nat))) {i j:Nat} (h:i≤j):(altsTo al i).length≤(altsTo al j).length:=by
 induction j with
 |zero =>
  have:i=0:=by omega
  subst this;exact Nat.le_refl _
 |succ j ih =>
  rcases Nat.lt_or_ge i (j+1) with h1|h1
  ·have:=ih (by omega)
   simp only [altsTo,List.length_append];omega
  ·have:i=j+1:=by omega
   subst this;exact Nat.le_refl _
def altTo (a:List (List Nat)) (n:Nat):List Nat:=altTx (a.take n)
theorem altTo_succ {a:List (List Nat)} {i:Nat} {s:List Nat} (h:a[i]?=some s):altTo a (i+1)=altTo a i++(32 :: s):=by
 unfold altTo altTx;rw [List.take_add_one,h];simp
theorem altTo_le (a:List (List Nat)) (i:Nat):(altTo a i).length≤(altTx a).length:=by
 unfold altTo altTx
 conv=>rhs;rw [← List.take_append_drop i a,List.flatMap_append,List.length_append]
 omega
def firstP (x:Src):List (List Nat):=[[108,111,111,107,97,104,101,97,100,32],[48+x.k.toNat],[59,10,116,111,107,101,110,32],List.intercalate [44,32] x.tokens,[59,10,115,101,112,97,114,97,116,111,114,32],x.sep,[59,10,115,116,97,114,116,32],x.start,[59,10]]
theorem firstP_head (x:Src):(firstP x).flatten=headP x:=by simp [firstP,headP]
theorem putE {l l':List Nat} (ss:List (List Nat)) (q:Nat) (rest:List Ob) (he:l++ss.flatten=l') (hq:ss.length=q+1) (hs:l'.length≤1099511627776) (hl:q≤1000) :
  ACall Tryz.prog 111 [.bp 0 0,.d (strs ss)] (prB l rest) (.tup []) (prO q l' rest):=by
 subst he;exact putR l ss q rest hq hs hl
theorem printS (x:Src) (hf:FitsX x) (ht:(innerX x).length≤1048576) (h0:checkX x=0) (hp:(printX x).length≤1099511627776) (hb:∀ c ∈ printX x,c<256) :
  KnownCall Tryz.prog 31 [encX x] (.tup [.d (.str (printX x)),.d (.int .i64 0)]):=by
 have hk:x.k=1∨x.k=2∨x.k=3∨x.k=4:=by
  have hn:¬ (x.k<1∨4<x.k):=fun h=>by rw [checkX_k h] at h0;cases h0
  omega
 have e1:AV.d (.int .i64 (IntKind.i64.wrap (48+x.k)))=.d (.int .i64 (48+x.k)):=by rcases hk with h|h|h|h<;>rw [h]<;>rfl
 have e2:AV.d (.int .u8 (IntKind.u8.wrap (48+x.k)))=.d (.int .u8 (48+x.k)):=by rcases hk with h|h|h|h<;>rw [h]<;>rfl
 have e3:AV.d (.str [(48+x.k).toNat % 256])=.d (.str [48+x.k.toNat]):=by rcases hk with h|h|h|h<;>rw [h]<;>rfl
 have hc:=checkS x hf ht
 rw [h0] at hc
 have hpl:(printX x).length=(headP x).length+(rulesTo x x.rules.length).length:=by simp [printX]
 have hjl:(List.intercalate [44,32] x.tokens).length≤1099511627776:=by
  simp only [headP,List.length_append] at hpl;omega
 have htl:=hf.tokens
 have hrls:=hf.rules
 refine knownE Yo (fnAt Tryz.func31 (by kernel_rfl) (by kernel_rfl):FnAt _ _ (mkFn Tryz.f31 [1,24,33,45,58,68,73])) ?_
 repeat refine zG [1,24,33,45,58,68,73] ?_
 iterate 3 refine zX [1,24,33,45,58,68,73] ?_
 repeat refine zG [1,24,33,45,58,68,73] ?_
 refine zX [1,24,33,45,58,68,73] ?_
 refine oC hc ?_
 refine zX [1,24,33,45,58,68,73] ?_
 repeat refine zG [1,24,33,45,58,68,73] ?_
 iterate 2 refine zX [1,24,33,45,58,68,73] ?_
 repeat refine zG [1,24,33,45,58,68,73] ?_
 iterate 3 refine zX [1,24,33,45,58,68,73] ?_
 repeat refine zG [1,24,33,45,58,68,73] ?_
 iterate 3 refine eX ?_
 refine eX (v:=.d (.int .i64 (48+x.k))) ?_ (he:=e1)
 refine eX (v:=.d (.int .u8 (48+x.k))) ?_ (he:=e2)
 refine eX ?_
 refine eX (v:=.d (.str [48+x.k.toNat])) ?_ (he:=e3)
 iterate 2 refine eX ?_
 refine eC (joinK x.tokens [44,32] (by omega) hjl) ?_
 iterate 4 refine eX ?_
 refine eX (v:=.d (strs (firstP x))) (v':=.d (strs (firstP x))) (ob:=none) (fl:=true) ?_ (hv:=by kernel_rfl) (he:=rfl)
 refine EvD.callO (by rfl) (by rfl) (by rfl) (put0 _ (firstP x).tail ?_ (by simp [firstP])) (by rfl) (by rfl) ?_
 ·show((firstP x).flatten).length≤_
  rw [firstP_head];omega
 refine eN ?_
 repeat refine zG [1,24,33,45,58,68,73] ?_
 iterate 4 refine zX [1,24,33,45,58,68,73] ?_
 repeat refine zG [1,24,33,45,58,68,73] ?_
 refine Run.loopR (fun i:Nat=>⟨PT.ofList [(1,cellX x),(5,.bp 0 0),(36,.d (.sl 2 (x.rules.map encR))),(37,.d (.int .i64 (x.rules.map encR).length)),(38,.d (.int .i64 i))],prB (headP x++rulesTo x i) [],[]⟩) (fun i=>i≤x.rules.length) (fun i=>x.rules.length-i) 0 (Nat.zero_le _) (prR3 _ (show(firstP x).flatten=_ by rw [firstP_head];simp [rulesTo]) ⟨⟨rfl,rfl⟩,⟨rfl,rfl⟩,⟨rfl,rfl⟩,⟨rfl,rfl⟩,⟨rfl,rfl⟩,trivial⟩) (fun i hi=>?_)
 repeat refine zG [1,24,33,45,58,68,73] ?_
 refine zX [1,24,33,45,58,68,73] ?_
 repeat refine zG [1,24,33,45,58,68,73] ?_
 refine Run.cond (by rfl) (fun h=>?_) (fun h=>?_)
 ·have hlt:i<x.rules.length:=by simpa using h
  obtain⟨r,hr⟩:=get_ok hlt
  repeat refine zG [1,24,33,45,58,68,73] ?_
  first|refine oX (frz:=[1,24,33,45,58,68,73]) (v:=.d (.ep [.str r.name,alts r.alts])) Yo ?_ (hf:=(by first|(simp [inB]<;>fail)|(simp [inB];omega))) (he:=(by first|(simp [List.getD_eq_getElem?_getD,cellsD,hr,encR]<;>fail)|fail))|refine eX (v:=.d (.ep [.str r.name,alts r.alts])) ?_ (hf:=(by first|(simp [inB]<;>fail)|(simp [inB];omega))) (he:=(by first|(simp [List.getD_eq_getElem?_getD,cellsD,hr,encR]<;>fail)|fail))
  iterate 3 refine zX [1,24,33,45,58,68,73] ?_
  repeat refine zG [1,24,33,45,58,68,73] ?_
  iterate 4 refine zX [1,24,33,45,58,68,73] ?_
  have hRL:(headP x++rulesTo x i++ruleP r).length≤1099511627776:=by
   have h1:=rulesTo_succ hr
   have h2:=rulesTo_le x (i:=i+1) (j:=x.rules.length) hlt
   rw [List.append_assoc,← h1,List.length_append];omega
  have hrm:=List.mem_of_getElem? hr
  have hal:=hf.alts r hrm
  have hRl:(ruleP r).length=r.name.length+2+(altsTo r.alts r.alts.length).length+3:=by simp [ruleP];omega
  rw [List.length_append] at hRL
  generalize hB:headP x++rulesTo x i=B at *
  refine RunOps.call (by rfl) (by rfl) (putE (l:=B) (l':=B++r.name++[32,61]) [r.name,[32,61]] 1 [.box ([.str r.name,alts r.alts].map .d)] (by simp) rfl (by simp only [List.length_append,List.length_cons,List.length_nil];omega) (by omega)) (by rfl) (by rfl) ?_
  refine RunOps.relab (prR1 [.str r.name,alts r.alts] [(1,cellX x),(5,.bp 0 0),(36,.d (.sl 2 (x.rules.map encR))),(37,.d (.int .i64 (x.rules.map encR).length)),(38,.d (.int .i64 i)),(7,.bp 2 0)] rfl ⟨⟨rfl,rfl⟩,⟨rfl,rfl⟩,⟨rfl,rfl⟩,⟨rfl,rfl⟩,⟨rfl,rfl⟩,⟨rfl,rfl⟩,trivial⟩) ?_
  repeat refine zG [1,24,33,45,58,68,73] ?_
  iterate 4 refine zX [1,24,33,45,58,68,73] ?_
  repeat refine zG [1,24,33,45,58,68,73] ?_
  refine Run.loopR (fun k:Nat=>⟨PT.ofList [(1,cellX x),(5,.bp 0 0),(36,.d (.sl 2 (x.rules.map encR))),(37,.d (.int .i64 (x.rules.map encR).length)),(38,.d (.int .i64 i)),(7,.bp 2 0),(48,.d (alts r.alts)),(49,.d (.int .i64 (r.alts.map strs).length)),(50,.d (.int .i64 k))],prB (B++r.name++[32,61]++altsTo r.alts k) [.box ([.str r.name,alts r.alts].map .d)],[]⟩) (fun k=>k≤r.alts.length) (fun k=>r.alts.length-k) 0 (Nat.zero_le _) (prI1 [.str r.name,alts r.alts] _ (by simp [altsTo]) ⟨⟨rfl,rfl⟩,⟨rfl,rfl⟩,⟨rfl,rfl⟩,⟨rfl,rfl⟩,⟨rfl,rfl⟩,⟨rfl,rfl⟩,⟨rfl,rfl⟩,⟨rfl,rfl⟩,⟨rfl,rfl⟩,trivial⟩) (fun k hk=>?_)
  repeat refine zG [1,24,33,45,58,68,73] ?_
  refine zX [1,24,33,45,58,68,73] ?_
  repeat refine zG [1,24,33,45,58,68,73] ?_
  refine Run.cond (by rfl) (fun h=>?_) (fun h=>?_)
  ·have hklt:k<r.alts.length:=by simpa using h
   obtain⟨a,ha⟩:=get_ok hklt
   have ham:=List.mem_of_getElem? ha
   have hanl:=hf.names r hrm a ham
   have hgd:r.alts.getD k []=a:=by rw [List.getD_eq_getElem?_getD,ha];rfl
   have hnext:altsTo r.alts (k+1)=altsTo r.alts k++barP k++altTx a:=by rw [← hgd];rfl
   have hkl:=altsTo_le r.alts (i:=k+1) (j:=r.alts.length) hklt
   rw [hnext] at hkl
   simp only [List.length_append] at hkl
   repeat refine zG [1,24,33,45,58,68,73] ?_
   refine zX [1,24,33,45,58,68,73] ?_
   first|refine oX (frz:=[1,24,33,45,58,68,73]) (v:=.d (.ep [strs a])) Yo ?_ (hf:=(by first|(simp [inB]<;>fail)|(simp [inB];omega))) (he:=(by first|(simp [List.getD_eq_getElem?_getD,cellsD,ha]<;>fail)|fail))|refine eX (v:=.d (.ep [strs a])) ?_ (hf:=(by first|(simp [inB]<;>fail)|(simp [inB];omega))) (he:=(by first|(simp [List.getD_eq_getElem?_getD,cellsD,ha]<;>fail)|fail))
   iterate 3 refine zX [1,24,33,45,58,68,73] ?_
   repeat refine zG [1,24,33,45,58,68,73] ?_
   iterate 2 refine zX [1,24,33,45,58,68,73] ?_
   repeat refine zG [1,24,33,45,58,68,73] ?_
   refine Run.mono (K:=fun e s1=>e=.normal∧Relab 0 s1 ⟨PT.ofList [(1,cellX x),(5,.bp 0 0),(36,.d (.sl 2 (x.rules.map encR))),(37,.d (.int .i64 (x.rules.map encR).length)),(38,.d (.int .i64 i)),(7,.bp 2 0),(48,.d (alts r.alts)),(49,.d (.int .i64 (r.alts.map strs).length)),(50,.d (.int .i64 k)),(9,.d (strs a))],prB (B++r.name++[32,61]++altsTo r.alts k++barP k) [.box ([.str r.name,alts r.alts].map .d)],[]⟩) ?_ (fun e s1 hk1=>?_)
   ·rcases k with _|k
    ·repeat refine zG [1,24,33,45,58,68,73] ?_
     exact⟨rfl,prI1 [.str r.name,alts r.alts] _ (by simp [barP]) ⟨⟨rfl,rfl⟩,⟨rfl,rfl⟩,⟨rfl,rfl⟩,⟨rfl,rfl⟩,⟨rfl,rfl⟩,⟨rfl,rfl⟩,⟨rfl,rfl⟩,⟨rfl,rfl⟩,⟨rfl,rfl⟩,⟨rfl,rfl⟩,trivial⟩⟩
    ·have hb2:(barP (k+1)).length=2:=rfl
     refine Run.cond (by rfl) (fun h1=>?_) (fun h1=>?_)
     ·repeat refine zG [1,24,33,45,58,68,73] ?_
      iterate 2 refine zX [1,24,33,45,58,68,73] ?_
      refine RunOps.call (by rfl) (by rfl) (putE (l':=B++r.name++[32,61]++altsTo r.alts (k+1)++barP (k+1)) [[32,124]] 0 [.box ([.str r.name,alts r.alts].map .d)] (by simp [barP]) rfl (by simp only [List.length_append,List.length_cons,List.length_nil];omega) (by omega)) (by rfl) (by rfl) ?_
      repeat refine zG [1,24,33,45,58,68,73] ?_
      exact⟨rfl,prR1 [.str r.name,alts r.alts] _ rfl ⟨⟨rfl,rfl⟩,⟨rfl,rfl⟩,⟨rfl,rfl⟩,⟨rfl,rfl⟩,⟨rfl,rfl⟩,⟨rfl,rfl⟩,⟨rfl,rfl⟩,⟨rfl,rfl⟩,⟨rfl,rfl⟩,⟨rfl,rfl⟩,trivial⟩⟩
     ·exfalso;simp at h1
   ·obtain⟨rfl,hk1⟩:=hk1
    refine Run.relab hk1 ?_
    repeat refine zG [1,24,33,45,58,68,73] ?_
    iterate 3 refine zX [1,24,33,45,58,68,73] ?_
    repeat refine zG [1,24,33,45,58,68,73] ?_
    refine Run.loopR (fun j:Nat=>⟨PT.ofList [(1,cellX x),(5,.bp 0 0),(36,.d (.sl 2 (x.rules.map encR))),(37,.d (.int .i64 (x.rules.map encR).length)),(38,.d (.int .i64 i)),(7,.bp 2 0),(48,.d (alts r.alts)),(49,.d (.int .i64 (r.alts.map strs).length)),(50,.d (.int .i64 k)),(9,.d (strs a)),(60,.d (strs a)),(61,.d (.int .i64 (a.map DV.str).length)),(62,.d (.int .i64 j))],prB (B++r.name++[32,61]++altsTo r.alts k++barP k++altTo a j) [.box ([.str r.name,alts r.alts].map .d)],[]⟩) (fun j=>j≤a.length) (fun j=>a.length-j) 0 (Nat.zero_le _) (prI1 [.str r.name,alts r.alts] _ (by simp [altTo,altTx]) ⟨⟨rfl,rfl⟩,⟨rfl,rfl⟩,⟨rfl,rfl⟩,⟨rfl,rfl⟩,⟨rfl,rfl⟩,⟨rfl,rfl⟩,⟨rfl,rfl⟩,⟨rfl,rfl⟩,⟨rfl,rfl⟩,⟨rfl,rfl⟩,⟨rfl,rfl⟩,⟨rfl,rfl⟩,⟨rfl,rfl⟩,trivial⟩) (fun j hj=>?_)
    repeat refine zG [1,24,33,45,58,68,73] ?_
    refine zX [1,24,33,45,58,68,73] ?_
    repeat refine zG [1,24,33,45,58,68,73] ?_
    refine Run.cond (by rfl) (fun h=>?_) (fun h=>?_)
    ·have hjlt:j<a.length:=by simpa using h
     obtain⟨s,hsj⟩:=get_ok hjlt
     have hsu:=altTo_succ hsj
     have hjl:=altTo_le a (j+1)
     rw [hsu,List.length_append] at hjl
     repeat refine zG [1,24,33,45,58,68,73] ?_
     first|refine oX (frz:=[1,24,33,45,58,68,73]) (v:=.d (.ep [.str s])) Yo ?_ (hf:=(by first|(simp [inB]<;>fail)|(simp [inB];omega))) (he:=(by first|(simp [List.getD_eq_getElem?_getD,cellsD,hsj]<;>fail)|fail))|refine eX (v:=.d (.ep [.str s])) ?_ (hf:=(by first|(simp [inB]<;>fail)|(simp [inB];omega))) (he:=(by first|(simp [List.getD_eq_getElem?_getD,cellsD,hsj]<;>fail)|fail))
     iterate 2 refine zX [1,24,33,45,58,68,73] ?_
     repeat refine zG [1,24,33,45,58,68,73] ?_
     iterate 3 refine zX [1,24,33,45,58,68,73] ?_
     refine RunOps.call (by rfl) (by rfl) (putE (l':=B++r.name++[32,61]++altsTo r.alts k++barP k++altTo a j++(32 :: s)) [[32],s] 1 [.box ([.str r.name,alts r.alts].map .d)] (by simp) rfl (by simp only [List.length_append,List.length_cons,List.length_nil] at hjl ⊢;omega) (by omega)) (by rfl) (by rfl) ?_
     refine RunOps.relab (prR1 [.str r.name,alts r.alts] [(1,cellX x),(5,.bp 0 0),(36,.d (.sl 2 (x.rules.map encR))),(37,.d (.int .i64 (x.rules.map encR).length)),(38,.d (.int .i64 i)),(7,.bp 2 0),(48,.d (alts r.alts)),(49,.d (.int .i64 (r.alts.map strs).length)),(50,.d (.int .i64 k)),(9,.d (strs a)),(60,.d (strs a)),(61,.d (.int .i64 (a.map DV.str).length)),(62,.d (.int .i64 j))] (by rw [List.append_assoc _ (altTo a j),← hsu]) ⟨⟨rfl,rfl⟩,⟨rfl,rfl⟩,⟨rfl,rfl⟩,⟨rfl,rfl⟩,⟨rfl,rfl⟩,⟨rfl,rfl⟩,⟨rfl,rfl⟩,⟨rfl,rfl⟩,⟨rfl,rfl⟩,⟨rfl,rfl⟩,⟨rfl,rfl⟩,⟨rfl,rfl⟩,⟨rfl,rfl⟩,trivial⟩) ?_
     repeat refine zG [1,24,33,45,58,68,73] ?_
     refine zX [1,24,33,45,58,68,73] ?_
     refine oX (frz:=[1,24,33,45,58,68,73]) (v:=.d (.int .i64 (j+1:Nat))) Yo ?_ (he:=congrArg (fun n=>AV.d (.int .i64 n)) (wrap_nat (n:=j+1) (by omega)))
     repeat refine zG [1,24,33,45,58,68,73] ?_
     exact⟨j+1,hjlt,by omega,prI1 [.str r.name,alts r.alts] _ rfl ⟨⟨rfl,rfl⟩,⟨rfl,rfl⟩,⟨rfl,rfl⟩,⟨rfl,rfl⟩,⟨rfl,rfl⟩,⟨rfl,rfl⟩,⟨rfl,rfl⟩,⟨rfl,rfl⟩,⟨rfl,rfl⟩,⟨rfl,rfl⟩,⟨rfl,rfl⟩,⟨rfl,rfl⟩,⟨rfl,rfl⟩,trivial⟩⟩
    ·have hge:j=a.length:=by simp at h;omega
     subst hge
     have hta:altTo a a.length=altTx a:=by rw [altTo,List.take_length]
     repeat refine zG [1,24,33,45,58,68,73] ?_
     refine zX [1,24,33,45,58,68,73] ?_
     refine oX (frz:=[1,24,33,45,58,68,73]) (v:=.d (.int .i64 (k+1:Nat))) Yo ?_ (he:=congrArg (fun n=>AV.d (.int .i64 n)) (wrap_nat (n:=k+1) (by omega)))
     repeat refine zG [1,24,33,45,58,68,73] ?_
     exact⟨k+1,hklt,by omega,prI1 [.str r.name,alts r.alts] _ (by rw [hta,hnext];simp only [List.append_assoc]) ⟨⟨rfl,rfl⟩,⟨rfl,rfl⟩,⟨rfl,rfl⟩,⟨rfl,rfl⟩,⟨rfl,rfl⟩,⟨rfl,rfl⟩,⟨rfl,rfl⟩,⟨rfl,rfl⟩,⟨rfl,rfl⟩,trivial⟩⟩
  ·have hge:k=r.alts.length:=by simp at h;omega
   subst hge
   have hru:B++ruleP r=headP x++rulesTo x (i+1):=by rw [rulesTo_succ hr,← hB,List.append_assoc]
   repeat refine zG [1,24,33,45,58,68,73] ?_
   iterate 2 refine zX [1,24,33,45,58,68,73] ?_
   refine RunOps.call (by rfl) (by rfl) (putE (l':=B++ruleP r) [[32,59,10]] 0 [.box ([.str r.name,alts r.alts].map .d)] (by simp [ruleP]) rfl (by rw [List.length_append];omega) (by omega)) (by rfl) (by rfl) ?_
   repeat refine zG [1,24,33,45,58,68,73] ?_
   refine zX [1,24,33,45,58,68,73] ?_
   refine oX (frz:=[1,24,33,45,58,68,73]) (v:=.d (.int .i64 (i+1:Nat))) Yo ?_ (he:=congrArg (fun n=>AV.d (.int .i64 n)) (wrap_nat (n:=i+1) (by omega)))
   repeat refine zG [1,24,33,45,58,68,73] ?_
   exact⟨i+1,hlt,by omega,prR2 _ hru ⟨⟨rfl,rfl⟩,⟨rfl,rfl⟩,⟨rfl,rfl⟩,⟨rfl,rfl⟩,⟨rfl,rfl⟩,trivial⟩⟩
 ·have hge:i=x.rules.length:=by simp at h;omega
  subst hge
  repeat refine zG [1,24,33,45,58,68,73] ?_
  iterate 3 refine zX [1,24,33,45,58,68,73] ?_
  refine RunOps.call (by rfl) (by rfl) (strSP 0 (printX x) (by simp [printX,headP]) hb) (by rfl) (by rfl) ?_
  iterate 2 refine zX [1,24,33,45,58,68,73] ?_
  repeat refine zG [1,24,33,45,58,68,73] ?_
  refine Yt ?_
  exact rT rfl
end Go.Av
end
noncomputable section
namespace Go.Av
open Go Go.Proofs
set_option maxRecDepth 10000
def sepP:Nat→List Nat
 |0=>[]
 |_+1=>[44,32]
def joinTo (l:List (List Nat)):Nat→List Nat
 |0=>[]
 |n+1=>joinTo l n++sepP n++l.getD n []
theorem inter_snoc (sep a:List Nat):∀ l:List (List Nat),l≠[]→List.intercalate sep (l++[a])=List.intercalate sep l++sep++a
 |[],h=>absurd rfl h
 |[x],_=>by simp [List.intercalate,List.intersperse]
 |x :: y :: l,_=>by
  have ih:=inter_snoc sep a (y :: l) (by simp)
  simp only [List.intercalate,List.cons_append,List.intersperse,List.flatten_cons,List.append_assoc] at ih ⊢
  rw [ih]
theorem joinTo_inter (l:List (List Nat)):∀ n,n≤l.length→joinTo l n=List.intercalate [44,32] (l.take n)
 |0,_=>by simp [joinTo,List.intercalate]
 |n+1,h=>by
  have ih:=joinTo_inter l n (by omega)
  have hg:l[n]?=some l[n]:=by simp [h]
  have hd:l.getD n []=l[n]:=by rw [List.getD_eq_getElem?_getD,hg];rfl
  rw [joinTo,ih,hd,List.take_add_one,hg]
  cases n with
  |zero=>simp [List.intercalate,sepP]
  |succ n =>
   have hne:l.take (n+1)≠[]:=by
    intro e;have hl:=congrArg List.length e;rw [List.length_take] at hl;simp only [List.length_nil] at hl;omega
   rw [show(some l[n+1]).toList=[l[n+1]] from rfl,inter_snoc _ _ _ hne];rfl
end Go.Av
end
noncomputable section
namespace Go.Av
open Go Go.Proofs
set_option maxRecDepth 10000
def short8F (l:List (List Nat)):Bool:=decide (l.length≤12) && l.all (fun s=>decide (s.length≤40))
theorem short8F_iff {l:List (List Nat)}:short8F l=true ↔ l.length≤12∧∀ s ∈ l,s.length≤40:=by simp [short8F]
def lightR (r:SRule):Bool:=decide (r.name.length≤40) && decide (r.alts.length≤30) && r.alts.all short8F
def lightX (x:Src):Bool:=short8F x.tokens && decide (x.sep.length≤40) && decide (x.start.length≤40) && decide (x.rules.length≤12) && x.rules.all lightR
structure LightX (x:Src):Prop where
 tokens:x.tokens.length≤12∧∀ s ∈ x.tokens,s.length≤40
 sep:x.sep.length≤40
 start:x.start.length≤40
 rules:x.rules.length≤12
 names:∀ r ∈ x.rules,r.name.length≤40∧r.alts.length≤30∧∀ a ∈ r.alts,a.length≤12∧∀ s ∈ a,s.length≤40
theorem lightX_iff {x:Src} (h:lightX x=true):LightX x:=by
 simp only [lightX,Bool.and_eq_true,decide_eq_true_eq,List.all_eq_true,short8F_iff,lightR] at h
 exact⟨h.1.1.1.1,h.1.1.1.2,h.1.1.2,h.1.2,fun r hr=>⟨(h.2 r hr).1.1,(h.2 r hr).1.2,(h.2 r hr).2⟩⟩
theorem LightX.fits {x:Src} (h:LightX x):FitsX x where
 tokens:=by have:=h.tokens.1;omega
 rules:=by have:=h.rules;omega
 alts r hr:=by have:=(h.names r hr).2.1;omega
 names r hr a ha:=by have:=((h.names r hr).2.2 a ha).1;omega
 sep:=by have:=h.sep;omega
 start:=by have:=h.start;omega
 tokenS s hs:=by have:=h.tokens.2 s hs;omega
 ruleS r hr:=by have:=(h.names r hr).1;omega
 nameS r hr a ha s hs:=by have:=((h.names r hr).2.2 a ha).2 s hs;omega
theorem flatten_le {α:Type} {n:Nat}:∀ {l:List (List α)},(∀ a ∈ l,a.length≤n)→l.flatten.length≤l.length*n
 |[],_=>by simp
 |a :: l,h=>by
  have h1:=h a List.mem_cons_self
  have h2:=flatten_le (l:=l) fun b hb=>h b (List.mem_cons_of_mem _ hb)
  rw [List.flatten_cons,List.length_append,List.length_cons,Nat.succ_mul]
  omega
theorem LightX.inner {x:Src} (h:LightX x):(innerX x).length≤1048576:=by
 have h1:(innerX x).length≤(x.rules.map fun r=>r.alts.flatten).length*360:=by
  unfold innerX
  rw [List.flatMap_def]
  refine flatten_le fun a ha=>?_
  obtain⟨r,hr,rfl⟩:=List.mem_map.1 ha
  have h2:=flatten_le (l:=r.alts) (n:=12) fun a ha=>((h.names r hr).2.2 a ha).1
  have:=(h.names r hr).2.1
  omega
 have:=h.rules
 rw [List.length_map] at h1
 omega
theorem joinTo_len {l:List (List Nat)} {B:Nat} (h:∀ s ∈ l,s.length≤B):∀ n,(joinTo l n).length≤n*(2+B)
 |0=>by simp [joinTo]
 |n+1=>by
  have ih:=joinTo_len h n
  have hs:(sepP n).length≤2:=by cases n<;>simp [sepP]
  have hd:(l.getD n []).length≤B:=by
   rw [List.getD_eq_getElem?_getD]
   cases hg:l[n]? with
   |none=>simp
   |some s=>exact h s (List.mem_of_getElem? hg)
  simp only [joinTo,List.length_append]
  rw [Nat.succ_mul];omega
theorem altQ_len {a:List (List Nat)} {B:Nat} (h:∀ s ∈ a,s.length≤B):(altTx a).length≤a.length*(B+1):=by
 unfold altTx
 rw [List.flatMap_def]
 have:=flatten_le (l:=a.map fun s=>32 :: s) (n:=B+1) fun u hu=>by
  obtain⟨s,hs,rfl⟩:=List.mem_map.1 hu
  have:=h s hs
  simp only [List.length_cons];omega
 rwa [List.length_map] at this
theorem altsTo_len {al:List (List (List Nat))} {B:Nat} (h:∀ a ∈ al,(altTx a).length≤B):∀ n,(altsTo al n).length≤n*(2+B)
 |0=>by simp [altsTo]
 |n+1=>by
  have ih:=altsTo_len h n
  have hs:(barP n).length≤2:=by cases n<;>simp [barP]
  have hd:(altTx (al.getD n [])).length≤B:=by
   rw [List.getD_eq_getElem?_getD]
   cases hg:al[n]? with
   |none=>simp [altTx]
   |some s=>exact h s (List.mem_of_getElem? hg)
  simp only [altsTo,List.length_append]
  rw [Nat.succ_mul];omega
theorem LightX.print {x:Src} (h:LightX x):(printX x).length≤1099511627776:=by
 have h1:(List.intercalate [44,32] x.tokens).length≤x.tokens.length*42:=by
  have:=joinTo_inter x.tokens x.tokens.length (Nat.le_refl _)
  rw [List.take_length] at this
  rw [← this]
  exact joinTo_len h.tokens.2 _
 have h2:(rulesTo x x.rules.length).length≤x.rules.length*20000:=by
  unfold rulesTo
  rw [List.take_length,List.flatMap_def]
  have:=flatten_le (l:=x.rules.map ruleP) (n:=20000) fun u hu=>by
   obtain⟨r,hr,rfl⟩:=List.mem_map.1 hu
   obtain⟨g1,g2,g3⟩:=h.names r hr
   have g4:=altsTo_len (al:=r.alts) (B:=492) (fun a ha=>by
    have:=altQ_len (a:=a) (B:=40) (g3 a ha).2
    have:=(g3 a ha).1
    omega) r.alts.length
   simp only [ruleP,List.length_append,List.length_cons,List.length_nil]
   omega
  rwa [List.length_map] at this
 have:=h.tokens.1
 have:=h.rules
 have:=h.sep
 have:=h.start
 simp only [printX,headP,List.length_append,List.length_cons,List.length_nil]
 omega
structure ByteX (x:Src):Prop where
 tokens:∀ s ∈ x.tokens,∀ c ∈ s,c<256
 sep:∀ c ∈ x.sep,c<256
 start:∀ c ∈ x.start,c<256
 rules:∀ r ∈ x.rules,∀ c ∈ r.name,c<256
 names:∀ r ∈ x.rules,∀ a ∈ r.alts,∀ s ∈ a,∀ c ∈ s,c<256
theorem joinTo_by {l:List (List Nat)} (h:∀ s ∈ l,∀ c ∈ s,c<256):∀ n,∀ c ∈ joinTo l n,c<256
 |0,c,hc=>by simp [joinTo] at hc
 |n+1,c,hc=>by
  simp only [joinTo,List.mem_append] at hc
  rcases hc with(hc|hc)|hc
  ·exact joinTo_by h n c hc
  ·cases n with
   |zero=>simp [sepP] at hc
   |succ n=>simp [sepP] at hc;omega
  ·rw [List.getD_eq_getElem?_getD] at hc
   cases hg:l[n]? with
   |none=>rw [hg] at hc;simp at hc
   |some s=>rw [hg] at hc;exact h s (List.mem_of_getElem? hg) c hc
theorem altQ_by {a:List (List Nat)} (h:∀ s ∈ a,∀ c ∈ s,c<256):∀ c ∈ altTx a,c<256:=by
 intro c hc
 simp only [altTx,List.mem_flatMap,List.mem_cons] at hc
 obtain⟨s,hs,rfl|hc⟩:=hc
 ·omega
 ·exact h s hs c hc
theorem altsTo_by {al:List (List (List Nat))} (h:∀ a ∈ al,∀ s ∈ a,∀ c ∈ s,c<256):∀ n,∀ c ∈ altsTo al n,c<256
 |0,c,hc=>by simp [altsTo] at hc
 |n+1,c,hc=>by
  simp only [altsTo,List.mem_append] at hc
  rcases hc with(hc|hc)|hc
  ·exact altsTo_by h n c hc
  ·cases n with
   |zero=>simp [barP] at hc
   |succ n=>simp [barP] at hc;omega
  ·refine altQ_by (a:=al.getD n []) (fun s hs c hc=>?_) c hc
   rw [List.getD_eq_getElem?_getD] at hs
   cases hg:al[n]? with
   |none=>rw [hg] at hs;simp at hs
   |some a=>rw [hg] at hs;exact h a (List.mem_of_getElem? hg) s hs c hc
theorem ByteX.head {x:Src} (h:ByteX x) (hk:x.k≤4):∀ c ∈ headP x,c<256:=by
 have hj:=joinTo_inter x.tokens x.tokens.length (Nat.le_refl _)
 rw [List.take_length] at hj
 intro c hc
 simp only [headP,List.mem_append] at hc
 rcases hc with(((((((hc|hc)|hc)|hc)|hc)|hc)|hc)|hc)|hc
 ·simp at hc;omega
 ·simp at hc;omega
 ·simp at hc;omega
 ·rw [← hj] at hc;exact joinTo_by h.tokens _ c hc
 ·simp at hc;omega
 ·exact h.sep c hc
 ·simp at hc;omega
 ·exact h.start c hc
 ·simp at hc;omega
theorem ByteX.print {x:Src} (h:ByteX x) (hk:x.k≤4):∀ c ∈ printX x,c<256:=by
 intro c hc
 rcases List.mem_append.1 (show c ∈ headP x++rulesTo x x.rules.length from hc) with hc|hc
 ·exact h.head hk c hc
 ·simp only [rulesTo,List.take_length,List.mem_flatMap] at hc
  obtain⟨r,hr,hc⟩:=hc
  simp only [ruleP,List.mem_append] at hc
  rcases hc with((hc|hc)|hc)|hc
  ·exact h.rules r hr c hc
  ·simp at hc;omega
  ·exact altsTo_by (h.names r hr) _ c hc
  ·simp at hc;omega
def printF (x:Src):List Nat:=if checkX x=0 then printX x else []
theorem printSA (x:Src) (hf:FitsX x) (ht:(innerX x).length≤1048576) (hp:(printX x).length≤1099511627776) (hb:ByteX x) :
  KnownCall Tryz.prog 31 [encX x] (.tup [.d (.str (printF x)),.d (.int .i64 (checkX x))]):=by
 by_cases h0:checkX x=0
 ·have hk:x.k≤4:=by
   have hn:¬ (x.k<1∨4<x.k):=fun h=>by rw [checkX_k h] at h0;cases h0
   omega
  rw [show printF x=printX x from if_pos h0,h0]
  exact printS x hf ht h0 hp (hb.print hk)
 ·have cc:=checkS x hf ht
  rw [show printF x=[] from if_neg h0]
  generalize checkX x=c at cc h0 ⊢
  refine knownE Yo (fnAt Tryz.func31 (by kernel_rfl) (by kernel_rfl):FnAt _ _ (mkFn Tryz.f31 [1])) ?_
  repeat' (first|refine zW [1] ?_|((refine zB [1] (fun h=>?_) (fun h=>?_))<;>(first|exact zk h|skip))|refine zX [1] ?_|refine zC (cc) ?_|(refine zE ?_;(rfl))|((exfalso;first|(simp_all<;>fail)|(simp_all;omega)))|fail)
end Go.Av
end
noncomputable section
namespace Go.Av
open Go Go.Proofs
set_option maxRecDepth 10000
theorem name12 {t:List Nat} (h:nameF t=0):t.length≤12:=by
 have hw:wordF t=0:=by
  unfold nameF at h
  split at h
  ·omega
  ·exact h
 unfold wordF at hw
 split at hw
 ·cases hw
 ·split at hw
  ·cases hw
  ·split at hw
   ·cases hw
   ·omega
theorem word_byte {c:Nat} (h:wordI (c:Nat)=true):c<256:=by
 simp only [wordI,letterI,digitI,Bool.or_eq_true,Bool.and_eq_true,decide_eq_true_eq,beq_iff_eq] at h
 omega
theorem isW_bytes {t:List Nat} (h:IsW t):∀ c ∈ t,c<256:=by
 cases t with
 |nil=>exact h.elim
 |cons c l =>
  intro d hd
  rcases List.mem_cons.1 hd with rfl|hd
  ·exact word_byte (by simp [wordI,h.1])
  ·exact word_byte (h.2 d hd)
theorem SoundX.litX {x:Src} (h:SoundX x):LightX x where
 tokens:=⟨by have:=h.tok8;omega,fun s hs=>by have:=name12 (small_name (h.tokS s hs));omega⟩
 sep:=by have:=name12 (small_name h.sepS);omega
 start:=by have:=name12 (capital_name h.startC);omega
 rules:=by have:=h.rul8;omega
 names r hr:=⟨by have:=name12 (capital_name (h.rulC r hr));omega,by
  have h1:=h.sum
  have:∀ (l:List SRule),r ∈ l→r.alts.length≤(l.map (·.alts.length)).sum:=by
   intro l
   induction l with
   |nil=>intro h;cases h
   |cons u l ih =>
    intro h
    simp only [List.map_cons,List.sum_cons]
    rcases List.mem_cons.1 h with rfl|h
    ·omega
    ·have:=ih h;omega
  have:=this x.rules hr
  omega,fun a ha=>⟨by have:=h.alt6 r hr a ha;omega,fun s hs=>by have:=name12 (may_name (h.altM r hr a ha s hs));omega⟩⟩
theorem SoundX.bytes {x:Src} (h:SoundX x):ByteX x where
 tokens s hs:=isW_bytes (name_isW (small_name (h.tokS s hs)))
 sep:=isW_bytes (name_isW (small_name h.sepS))
 start:=isW_bytes (name_isW (capital_name h.startC))
 rules r hr:=isW_bytes (name_isW (capital_name (h.rulC r hr)))
 names r hr a ha s hs:=isW_bytes (name_isW (may_name (h.altM r hr a ha s hs)))
theorem encL_inj:∀ {l m:List Lx},l.map encL=m.map encL→l=m
 |[],[],_=>rfl
 |[],_ :: _,h=>by cases h
 |_ :: _,[],h=>by cases h
 |x :: l,y :: m,h=>by
  simp only [List.map_cons,List.cons.injEq,encL,lexD,DV.agg.injEq,DV.int.injEq,DV.str.injEq,true_and,and_true] at h
  obtain⟨⟨h1,h2,h3⟩,h4⟩:=h
  obtain⟨k,t,a⟩:=x
  obtain⟨k',t',a'⟩:=y
  simp only at h1 h2 h3
  rw [encL_inj h4,show k=k' by omega,h2,show a=a' by omega]
theorem parseRound {x:Src} (h:checkX x=0) (hl:(printX x).length≤2000):KnownCall Tryz.prog 27 [.str (printX x)] (resX (x,(0,0))):=by
 have hs:=soundX h
 obtain⟨ls,h1,h2⟩:=roundX h hl
 have hb:=hs.bytes.print hs.k.2
 rcases lexemesF_ls (printX x) (by omega) with⟨ls2,h3,h4,h5⟩|⟨e,q,h3,h4⟩
 ·have e:ls2=ls:=encL_inj (by rw [h1] at h3;simp only [Prod.mk.injEq] at h3;exact h3.1.symm)
  subst e
  have:=parseP (printX x) ls2 hb (by omega) h4 h5 h1
  rw [← read_law,h2] at this
  exact this
 ·rw [h1] at h3
  simp only [Prod.mk.injEq] at h3
  exact absurd h3.2.1.symm h4
end Go.Av
end
noncomputable section
namespace Go.Av
open Go Go.Proofs
set_option maxRecDepth 10000
def exS:Src:=⟨2,[[97],[98]],[99],[83],[⟨[83],[[[97],[83]],[[98]],[]]⟩]⟩
def exT:List Nat:=[108,111,111,107,97,104,101,97,100,32,50,59,32,116,111,107,101,110,32,97,44,32,98,59,32,115,101,112,97,114,97,116,111,114,32,99,59,32,115,116,97,114,116,32,83,59,32,83,32,61,32,97,32,83,32,124,32,98,32,124,32,59]
def exL:List Lx:=[⟨1,[108,111,111,107,97,104,101,97,100],0⟩,⟨2,[50],10⟩,⟨3,[59],11⟩,⟨1,[116,111,107,101,110],13⟩,⟨1,[97],19⟩,⟨3,[44],20⟩,⟨1,[98],22⟩,⟨3,[59],23⟩,⟨1,[115,101,112,97,114,97,116,111,114],25⟩,⟨1,[99],35⟩,⟨3,[59],36⟩,⟨1,[115,116,97,114,116],38⟩,⟨1,[83],44⟩,⟨3,[59],45⟩,⟨1,[83],47⟩,⟨3,[61],49⟩,⟨1,[97],51⟩,⟨1,[83],53⟩,⟨3,[124],55⟩,⟨1,[98],57⟩,⟨3,[124],59⟩,⟨3,[59],61⟩]
theorem exT_lex:lexemesF exT=(exL.map encL,0,0):=by kernel_rfl
theorem exS_light:lightX exS=true:=by kernel_rfl
theorem name1 {c:Nat} (h:letterF (c:Nat)=true):nameF [c]=0:=by
 have hw:wordF [c]=0:=by
  unfold wordF
  rw [if_neg (by simp),if_neg,if_neg (by simp)]
  rintro⟨i,d,h1,h2,_⟩
  cases i with
  |zero =>
   simp at h1
   rw [← h1,h] at h2;cases h2
  |succ i=>simp at h1
 have hl:¬ (wordF [c]=0∧languageF [c]=true):=by
  rintro⟨_,h2⟩
  simp [languageF,wLook,wToken,wSep,wStart] at h2
 unfold nameF
 rw [if_neg hl,hw]
theorem small1 {c:Nat} (h:letterF (c:Nat)=true) (hc:97≤c):smallF [c]=true:=by
 unfold smallF
 rw [name1 h]
 simp;omega
theorem capital1 {c:Nat} (h:letterF (c:Nat)=true) (hc:c<97):capitalF [c]=true:=by
 unfold capitalF
 rw [name1 h]
 simp;omega
theorem sA:smallF [97]=true:=small1 (by decide) (by decide)
theorem sB:smallF [98]=true:=small1 (by decide) (by decide)
theorem sC:smallF [99]=true:=small1 (by decide) (by decide)
theorem cS:capitalF [83]=true:=capital1 (by decide) (by decide)
theorem exS_sound:SoundX exS where
 k:=by decide
 tok0:=by decide
 rul0:=by decide
 alt0:=by decide
 alt6:=by decide
 tok8:=by decide
 rul8:=by decide
 sum:=by decide
 tokS s hs:=by
  simp only [exS,List.mem_cons,List.not_mem_nil,or_false] at hs
  rcases hs with rfl|rfl
  ·exact sA
  ·exact sB
 sepS:=sC
 startC:=cS
 rulC r hr:=by
  simp only [exS,List.mem_cons,List.not_mem_nil,or_false] at hr
  subst hr
  exact cS
 altM r hr a ha s hs:=by
  simp only [exS,List.mem_cons,List.not_mem_nil,or_false] at hr
  subst hr
  simp only [List.mem_cons,List.not_mem_nil,or_false] at ha
  unfold mayF
  rcases ha with rfl|rfl|rfl
  ·simp only [List.mem_cons,List.not_mem_nil,or_false] at hs
   rcases hs with rfl|rfl
   ·rw [sA];rfl
   ·rw [cS];simp
  ·simp only [List.mem_cons,List.not_mem_nil,or_false] at hs
   subst hs
   rw [sB];rfl
  ·cases hs
 nodT:=by decide
 nodR:=by decide
 noSep:=by decide
 known:=by decide
 start:=by decide
theorem exS_check:checkX exS=0:=ofSound exS_sound
theorem exT_read:resP (readP exT exL)=(exS,(0,0)):=by
 rw [← read_law]
 exact readPrint exS_sound (by decide)
theorem exL_num:NumL exL:=fun x hx h=>by
 simp only [exL,List.mem_cons,List.not_mem_nil,or_false] at hx
 rcases hx with rfl|rfl|rfl|rfl|rfl|rfl|rfl|rfl|rfl|rfl|rfl|rfl|rfl|rfl|rfl|rfl|rfl|rfl|rfl|rfl|rfl|rfl<;>first|(exact absurd h (by decide))|skip
 exact beginsF_num (c:=50) (l:=[59]) (by kernel_rfl)
theorem exS_bytes:ByteX exS where
 tokens:=by decide
 sep:=by decide
 start:=by decide
 rules:=by decide
 names:=by decide
theorem exampleS:KnownCall Tryz.prog 95 [] (.d (encX exS)) :=
 known_toN (x:=.agg [.int .i64 2,.sl 1 [.str [97],.str [98]],.str [99],.str [83],.sl 2 [.agg [.str [83],.sl 1 [.sl 1 [.str [97],.str [83]],.sl 1 [.str [98]],.nilsl]]]]) (known T0_ok Yo (by kernel_rfl) Ft_ok (k:=100000) (n:=60) (by kernel_rfl)) (dvn_ok (n:=9) (by kernel_rfl))
set_option maxHeartbeats 4000000 in
theorem awakeS:KnownCall Tryz.prog 26 [] (.d (.bool true)):=by
 have c1:=parseP exT exL (by decide) (by decide) ⟨by decide,by decide⟩ exL_num exT_lex
 rw [exT_read] at c1
 have L:=lightX_iff exS_light
 have c2:=exampleS
 have c3:=printSA exS L.fits L.inner L.print exS_bytes
 rw [show printF exS=printX exS from if_pos exS_check,show printX exS=[108,111,111,107,97,104,101,97,100,32,50,59,10,116,111,107,101,110,32,97,44,32,98,59,10,115,101,112,97,114,97,116,111,114,32,99,59,10,115,116,97,114,116,32,83,59,10,83,32,61,32,97,32,83,32,124,32,98,32,124,32,59,10] by kernel_rfl,exS_check] at c3
 have c4:=sameR8 exS exS L.fits
 rw [smX_self] at c4
 unfold resX at c1
 simp only at c1
 refine knownE Yo (fnAt Tryz.func26 (by kernel_rfl) (by kernel_rfl):FnAt _ _ (mkFn Tryz.f26 [1,2])) ?_
 repeat' (first|refine zW [1,2] ?_|((refine zB [1,2] (fun h=>?_) (fun h=>?_))<;>(first|exact zk h|skip))|refine zX [1,2] ?_|refine zC (c1) ?_|refine zC (c2) ?_|refine zC (c3) ?_|refine zC (c4) ?_|(refine zE ?_;(rfl))|((exfalso;first|(simp at h<;>fail)|(simp at h;omega)))|fail)
end Go.Av
end
noncomputable section
namespace Go.Av
open Go Go.Proofs
set_option maxRecDepth 10000
end Go.Av
end
noncomputable section
namespace Go.Av
open Go Go.Proofs
set_option maxRecDepth 10000
def m16 (n:Int):Nat:=(n % 16).toNat
theorem m16_lt (n:Int):m16 n<16:=by unfold m16;omega
theorem mod16 (n:Int) (hn:W64 n):KnownCall Tryz.prog 56 [.int .i64 n,.int .i64 16] (.d (.int .i64 (m16 n:Nat))):=by
 have hw:=hn
 unfold W64 at hw
 have hm:(m16 n:Int)=n % 16:=by unfold m16;omega
 have ht:n.tmod 16=if 0≤n∨(16:Int) ∣ n then n % 16 else n % 16-16:=by
  rw [Int.tmod_eq_emod]
  by_cases h:0≤n∨(16:Int) ∣ n
  ·rw [if_pos h,if_pos h];simp
  ·rw [if_neg h,if_neg h];rfl
 by_cases h:0≤n∨(16:Int) ∣ n
 ·rw [if_pos h] at ht
  rw [hm]
  refine knownE Yo (fnAt Tryz.func56 (by kernel_rfl) (by kernel_rfl):FnAt _ _ (mkFn Tryz.f56 [])) ?_
  repeat' (first|refine oX (frz:=[]) (v:=.d (.int .i64 (n % 16))) Yo ?_ (he:=(congrArg (fun x=>AV.d (.int .i64 x)) ht))|refine eX (v:=.d (.int .i64 (n % 16))) ?_ (he:=(congrArg (fun x=>AV.d (.int .i64 x)) ht))|refine zW [] ?_|((refine zB [] (fun h=>?_) (fun h=>?_))<;>(first|exact zk h|skip))|refine zX [] ?_|(refine zE ?_;(rfl))|((exfalso;first|(simp at h<;>fail)|(simp at h;omega)))|fail)
 ·rw [if_neg h] at ht
  rw [hm]
  have hneg:n % 16-16<0:=by omega
  refine knownE Yo (fnAt Tryz.func56 (by kernel_rfl) (by kernel_rfl):FnAt _ _ (mkFn Tryz.f56 [])) ?_
  repeat' (first|refine oX (frz:=[]) (v:=.d (.int .i64 (n % 16))) Yo ?_ (he:=(congrArg (fun x=>AV.d (.int .i64 x)) ((wrap64 (by omega) (by omega)).trans (by omega))))|refine eX (v:=.d (.int .i64 (n % 16))) ?_ (he:=(congrArg (fun x=>AV.d (.int .i64 x)) ((wrap64 (by omega) (by omega)).trans (by omega))))|refine oX (frz:=[]) (v:=.d (.int .i64 (n % 16-16))) Yo ?_ (he:=(congrArg (fun x=>AV.d (.int .i64 x)) ht))|refine eX (v:=.d (.int .i64 (n % 16-16))) ?_ (he:=(congrArg (fun x=>AV.d (.int .i64 x)) ht))|refine zW [] ?_|((refine zB [] (fun h=>?_) (fun h=>?_))<;>(first|exact zk h|skip))|refine zX [] ?_|(refine zE ?_;(rfl))|((exfalso;first|(simp at h<;>fail)|(simp at h;omega)))|fail)
def m40 (n:Int):Nat:=(n % 1099511627776).toNat
theorem m40_lt (n:Int):m40 n<1099511627776:=by unfold m40;omega
theorem mod40 (n:Int) (hn:W64 n):KnownCall Tryz.prog 56 [.int .i64 n,.int .i64 1099511627776] (.d (.int .i64 (m40 n:Nat))):=by
 have hw:=hn
 unfold W64 at hw
 have hm:(m40 n:Int)=n % 1099511627776:=by unfold m40;omega
 have ht:n.tmod 1099511627776=if 0≤n∨(1099511627776:Int) ∣ n then n % 1099511627776 else n % 1099511627776-1099511627776:=by
  rw [Int.tmod_eq_emod]
  by_cases h:0≤n∨(1099511627776:Int) ∣ n
  ·rw [if_pos h,if_pos h];simp
  ·rw [if_neg h,if_neg h];rfl
 by_cases h:0≤n∨(1099511627776:Int) ∣ n
 ·rw [if_pos h] at ht
  rw [hm]
  refine knownE Yo (fnAt Tryz.func56 (by kernel_rfl) (by kernel_rfl):FnAt _ _ (mkFn Tryz.f56 [])) ?_
  repeat' (first|refine oX (frz:=[]) (v:=.d (.int .i64 (n % 1099511627776))) Yo ?_ (he:=(congrArg (fun x=>AV.d (.int .i64 x)) ht))|refine eX (v:=.d (.int .i64 (n % 1099511627776))) ?_ (he:=(congrArg (fun x=>AV.d (.int .i64 x)) ht))|refine zW [] ?_|((refine zB [] (fun h=>?_) (fun h=>?_))<;>(first|exact zk h|skip))|refine zX [] ?_|(refine zE ?_;(rfl))|((exfalso;first|(simp at h<;>fail)|(simp at h;omega)))|fail)
 ·rw [if_neg h] at ht
  rw [hm]
  have hneg:n % 1099511627776-1099511627776<0:=by omega
  refine knownE Yo (fnAt Tryz.func56 (by kernel_rfl) (by kernel_rfl):FnAt _ _ (mkFn Tryz.f56 [])) ?_
  repeat' (first|refine oX (frz:=[]) (v:=.d (.int .i64 (n % 1099511627776))) Yo ?_ (he:=(congrArg (fun x=>AV.d (.int .i64 x)) ((wrap64 (by omega) (by omega)).trans (by omega))))|refine eX (v:=.d (.int .i64 (n % 1099511627776))) ?_ (he:=(congrArg (fun x=>AV.d (.int .i64 x)) ((wrap64 (by omega) (by omega)).trans (by omega))))|refine oX (frz:=[]) (v:=.d (.int .i64 (n % 1099511627776-1099511627776))) Yo ?_ (he:=(congrArg (fun x=>AV.d (.int .i64 x)) ht))|refine eX (v:=.d (.int .i64 (n % 1099511627776-1099511627776))) ?_ (he:=(congrArg (fun x=>AV.d (.int .i64 x)) ht))|refine zW [] ?_|((refine zB [] (fun h=>?_) (fun h=>?_))<;>(first|exact zk h|skip))|refine zX [] ?_|(refine zE ?_;(rfl))|((exfalso;first|(simp at h<;>fail)|(simp at h;omega)))|fail)
def tblS:List (List Nat):=[[49,32,49,32,83,32,61,32,97,32,83,32,124,32,59],[49,32,50,32,83,32,61,32,97,32,84,32,124,32,59,32,84,32,61,32,98,32,83,32,59],[50,32,50,32,83,32,61,32,97,32,84,32,124,32,59,32,84,32,61,32,98,32,83,32,59],[50,32,50,32,83,32,61,32,97,32,124,32,97,32,98,32,59],[49,32,51,32,83,32,61,32,97,32,83,32,98,32,124,32,99,32,59],[49,32,51,32,83,32,61,32,84,32,85,32,59,32,84,32,61,32,97,32,84,32,124,32,59,32,85,32,61,32,98,32,85,32,124,32,99,32,59],[50,32,51,32,83,32,61,32,97,32,97,32,83,32,124,32,97,32,98,32,124,32,99,32,59],[49,32,51,32,83,32,61,32,97,32,84,32,99,32,59,32,84,32,61,32,98,32,84,32,124,32,85,32,59,32,85,32,61,32,59],[50,32,51,32,83,32,61,32,84,32,99,32,124,32,98,32,83,32,59,32,84,32,61,32,98,32,97,32,124,32,59],[49,32,50,32,83,32,61,32,97,32,83,32,83,32,124,32,98,32,59],[51,32,50,32,83,32,61,32,97,32,97,32,97,32,124,32,97,32,97,32,98,32,83,32,124,32,98,32,59],[49,32,52,32,83,32,61,32,97,32,76,32,98,32,59,32,76,32,61,32,69,32,77,32,59,32,77,32,61,32,99,32,69,32,77,32,124,32,59,32,69,32,61,32,100,32,124,32,83,32,59],[50,32,50,32,83,32,61,32,84,32,84,32,59,32,84,32,61,32,97,32,98,32,124,32,98,32,97,32,59],[49,32,49,32,83,32,61,32,97,32,59],[50,32,51,32,83,32,61,32,97,32,84,32,124,32,97,32,98,32,99,32,59,32,84,32,61,32,97,32,124,32,99,32,83,32,59],[49,32,50,32,83,32,61,32,84,32,85,32,84,32,59,32,84,32,61,32,59,32,85,32,61,32,97,32,85,32,98,32,124,32,59]]
theorem rulesK (n:Int) (hn:W64 n):KnownCall Tryz.prog 110 [.int .i64 n] (.tup [.d (.int .i64 (ruleE (m16 n)).1),.d (.int .i64 (ruleE (m16 n)).2.1),.d (.str (ruleE (m16 n)).2.2)]):=by
 have cm:=mod16 n hn
 have hi:=m16_lt n
 generalize m16 n=i at cm hi ⊢
 rcases(by omega:i=0∨i=1∨i=2∨i=3∨i=4∨i=5∨i=6∨i=7∨i=8∨i=9∨i=10∨i=11∨i=12∨i=13∨i=14∨i=15) with rfl|rfl|rfl|rfl|rfl|rfl|rfl|rfl|rfl|rfl|rfl|rfl|rfl|rfl|rfl|rfl
 all_goals
  clear hi
  refine knownE Yo (fnAt Tryz.func110 (by kernel_rfl) (by kernel_rfl):FnAt _ _ (mkFn Tryz.f110 [7])) ?_
  repeat refine zS ?_
  iterate 3 refine zX [7] ?_
  repeat refine zS ?_
  refine oX (frz:=[7]) (v:=.d (strs tblS)) (v':=.d (strs tblS)) (ob:=none) (fl:=true) (objs':=[]) Yo ?_ (hv:=by kernel_rfl) (he:=rfl) (ho:=rfl)
  repeat' (first|refine zW [7] ?_|((refine zB [7] (fun h=>?_) (fun h=>?_))<;>(first|exact zk h|skip))|refine zX [7] ?_|refine zC (cm) ?_|(refine zE ?_;(rfl))|(fail)|fail)
end Go.Av
end
noncomputable section
namespace Go.Av
open Go Go.Proofs
set_option maxRecDepth 10000
theorem toksT_len:∀ t,(toksT t).length≤3*t
 |0=>by simp [toksT]
 |1=>by simp [toksT]
 |j+2=>by have:=toksT_len (j+1);simp only [toksT,List.length_append,List.length_cons,List.length_nil];omega
theorem toksT_succ {j:Nat} (h:1≤j):toksT (j+1)=toksT j++[44,32]++[97+j]:=by
 obtain⟨i,rfl⟩:∃ i,j=i+1:=⟨j-1,by omega⟩
 rfl
set_option maxHeartbeats 16000000 in
theorem textK0 (n:Int) (hn:W64 n) (k t:Nat) (s:List Nat) (hr:KnownCall Tryz.prog 110 [.int .i64 n] (.tup [.d (.int .i64 (k:Nat)),.d (.int .i64 (t:Nat)),.d (.str s)])) (hk:k≤4) (ht:t≤4) (ht1:1≤t) (hs:s.length≤1000) :
  KnownCall Tryz.prog 30 [.int .i64 n] (.d (.str (textT (kTx (m40 n / 16) k) (tTx (m40 n / 16) t) s))):=by
 have cm:=mod40 n hn
 have hm:=m40_lt n
 generalize m40 n=m at cm hm ⊢
 have hq:AV.d (.int .i64 (IntKind.i64.wrap ((m:Int).tdiv 16)))=.d (.int .i64 ((m / 16:Nat):Int)):=congrArg (fun x=>AV.d (.int .i64 x)) ((congrArg IntKind.i64.wrap (show(m:Int).tdiv 16=((m / 16:Nat):Int) by rw [Int.tdiv_eq_ediv_of_nonneg (by omega)];omega)).trans (wrap_nat (by omega)))
 have hmq:m / 16<68719476736:=by omega
 generalize m / 16=q at hq hmq ⊢
 have hq3:AV.d (.int .i64 ((q:Int).tmod 3))=.d (.int .i64 ((q % 3:Nat):Int)):=congrArg (fun x=>AV.d (.int .i64 x)) (by rw [Int.tmod_eq_emod_of_nonneg (by omega)];omega)
 have hd3:AV.d (.int .i64 (IntKind.i64.wrap ((q:Int).tdiv 3)))=.d (.int .i64 ((q / 3:Nat):Int)):=congrArg (fun x=>AV.d (.int .i64 x)) ((congrArg IntKind.i64.wrap (show(q:Int).tdiv 3=((q / 3:Nat):Int) by rw [Int.tdiv_eq_ediv_of_nonneg (by omega)];omega)).trans (wrap_nat (by omega)))
 have hd34:AV.d (.int .i64 (((q / 3:Nat):Int).tmod 4))=.d (.int .i64 ((q / 3 % 4:Nat):Int)):=congrArg (fun x=>AV.d (.int .i64 x)) (by rw [Int.tmod_eq_emod_of_nonneg (by omega)];omega)
 have hka:AV.d (.int .i64 (IntKind.i64.wrap ((k:Int)+1)))=.d (.int .i64 ((k+1:Nat):Int)):=vN8 (by omega) (by omega)
 have hta:AV.d (.int .i64 (IntKind.i64.wrap ((t:Int)+1)))=.d (.int .i64 ((t+1:Nat):Int)):=vN8 (by omega) (by omega)
 refine knownE Yo (fnAt Tryz.func30 (by kernel_rfl) (by kernel_rfl):FnAt _ _ (mkFn Tryz.f30 [40,54])) ?_
 repeat' (first|refine oX (frz:=[40,54]) (v:=.d (.int .i64 (q:Nat))) Yo ?_ (he:=(hq))|refine eX (v:=.d (.int .i64 (q:Nat))) ?_ (he:=(hq))|refine zR [40,54] ?_|refine zC (hr) ?_|refine zC (cm) ?_|fail)
 refine Yq ?_
 refine Run.mid ⟨PT.ofList [(3,.d (.int .i64 (kTx q k:Nat))),(4,.d (.int .i64 (t:Nat))),(5,.d (.str s)),(6,.d (.int .i64 (q:Nat)))],[],[]⟩ ?_ ?_
 ·by_cases h1:q % 3=2
  ·by_cases h3:k<2
   ·rw [show kTx q k=k+1 from if_pos ⟨h1,h3⟩]
    repeat' (first|refine oX (frz:=[40,54]) (v:=.d (.int .i64 ((k+1:Nat):Int))) Yo ?_ (he:=(hka))|refine eX (v:=.d (.int .i64 ((k+1:Nat):Int))) ?_ (he:=(hka))|refine oX (frz:=[40,54]) (v:=.d (.int .i64 ((q % 3:Nat):Int))) Yo ?_ (he:=(hq3))|refine eX (v:=.d (.int .i64 ((q % 3:Nat):Int))) ?_ (he:=(hq3))|refine oX (frz:=[40,54]) (v:=.d (.int .i64 (q:Nat))) Yo ?_ (he:=(hq))|refine eX (v:=.d (.int .i64 (q:Nat))) ?_ (he:=(hq))|refine zW [40,54] ?_|((refine zB [40,54] (fun h=>?_) (fun h=>?_))<;>(first|exact zk h|skip))|refine zX [40,54] ?_|(refine zE ?_;(skip))|(exact(by show Tidy _ _ _;exact(tidy_of (objs:=_) _ 0 (by rfl) rfl (by repeat' (first|exact trivial|refine⟨(Or.inl rfl),?_⟩|refine⟨(Or.inr rfl),?_⟩|fail)) (by repeat' (first|exact trivial|refine⟨rfl,?_⟩|fail)) rfl rfl)))|((exfalso;first|(simp at h<;>fail)|(simp at h;omega)))|fail)
   ·rw [show kTx q k=k from if_neg (fun h=>h3 h.2)]
    repeat' (first|refine oX (frz:=[40,54]) (v:=.d (.int .i64 ((k+1:Nat):Int))) Yo ?_ (he:=(hka))|refine eX (v:=.d (.int .i64 ((k+1:Nat):Int))) ?_ (he:=(hka))|refine oX (frz:=[40,54]) (v:=.d (.int .i64 ((q % 3:Nat):Int))) Yo ?_ (he:=(hq3))|refine eX (v:=.d (.int .i64 ((q % 3:Nat):Int))) ?_ (he:=(hq3))|refine oX (frz:=[40,54]) (v:=.d (.int .i64 (q:Nat))) Yo ?_ (he:=(hq))|refine eX (v:=.d (.int .i64 (q:Nat))) ?_ (he:=(hq))|refine zW [40,54] ?_|((refine zB [40,54] (fun h=>?_) (fun h=>?_))<;>(first|exact zk h|skip))|refine zX [40,54] ?_|(refine zE ?_;(skip))|(exact(by show Tidy _ _ _;exact(tidy_of (objs:=_) _ 0 (by rfl) rfl (by repeat' (first|exact trivial|refine⟨(Or.inl rfl),?_⟩|refine⟨(Or.inr rfl),?_⟩|fail)) (by repeat' (first|exact trivial|refine⟨rfl,?_⟩|fail)) rfl rfl)))|((exfalso;first|(simp at h<;>fail)|(simp at h;omega)))|fail)
  ·rw [show kTx q k=k from if_neg (fun h=>h1 h.1)]
   repeat' (first|refine oX (frz:=[40,54]) (v:=.d (.int .i64 ((k+1:Nat):Int))) Yo ?_ (he:=(hka))|refine eX (v:=.d (.int .i64 ((k+1:Nat):Int))) ?_ (he:=(hka))|refine oX (frz:=[40,54]) (v:=.d (.int .i64 ((q % 3:Nat):Int))) Yo ?_ (he:=(hq3))|refine eX (v:=.d (.int .i64 ((q % 3:Nat):Int))) ?_ (he:=(hq3))|refine oX (frz:=[40,54]) (v:=.d (.int .i64 (q:Nat))) Yo ?_ (he:=(hq))|refine eX (v:=.d (.int .i64 (q:Nat))) ?_ (he:=(hq))|refine zW [40,54] ?_|((refine zB [40,54] (fun h=>?_) (fun h=>?_))<;>(first|exact zk h|skip))|refine zX [40,54] ?_|(refine zE ?_;(skip))|(exact(by show Tidy _ _ _;exact(tidy_of (objs:=_) _ 0 (by rfl) rfl (by repeat' (first|exact trivial|refine⟨(Or.inl rfl),?_⟩|refine⟨(Or.inr rfl),?_⟩|fail)) (by repeat' (first|exact trivial|refine⟨rfl,?_⟩|fail)) rfl rfl)))|((exfalso;first|(simp at h<;>fail)|(simp at h;omega)))|fail)
 have hK:kTx q k≤5:=by unfold kTx;split<;>omega
 refine Yq ?_
 refine Run.mid ⟨PT.ofList [(3,.d (.int .i64 (kTx q k:Nat))),(4,.d (.int .i64 (tTx q t:Nat))),(5,.d (.str s))],[],[]⟩ ?_ ?_
 ·by_cases h2:q / 3 % 4=3
  ·by_cases h4:t<4
   ·rw [show tTx q t=t+1 from if_pos ⟨h2,h4⟩]
    repeat' (first|refine oX (frz:=[40,54]) (v:=.d (.int .i64 ((t+1:Nat):Int))) Yo ?_ (he:=(hta))|refine eX (v:=.d (.int .i64 ((t+1:Nat):Int))) ?_ (he:=(hta))|refine oX (frz:=[40,54]) (v:=.d (.int .i64 ((q / 3 % 4:Nat):Int))) Yo ?_ (he:=(hd34))|refine eX (v:=.d (.int .i64 ((q / 3 % 4:Nat):Int))) ?_ (he:=(hd34))|refine oX (frz:=[40,54]) (v:=.d (.int .i64 ((q / 3:Nat):Int))) Yo ?_ (he:=(hd3))|refine eX (v:=.d (.int .i64 ((q / 3:Nat):Int))) ?_ (he:=(hd3))|refine zW [40,54] ?_|((refine zB [40,54] (fun h=>?_) (fun h=>?_))<;>(first|exact zk h|skip))|refine zX [40,54] ?_|(refine zE ?_;(skip))|(exact(by show Tidy _ _ _;exact(tidy_of (objs:=_) _ 0 (by rfl) rfl (by repeat' (first|exact trivial|refine⟨(Or.inl rfl),?_⟩|refine⟨(Or.inr rfl),?_⟩|fail)) (by repeat' (first|exact trivial|refine⟨rfl,?_⟩|fail)) rfl rfl)))|((exfalso;first|(simp at h<;>fail)|(simp at h;omega)))|fail)
   ·rw [show tTx q t=t from if_neg (fun h=>h4 h.2)]
    repeat' (first|refine oX (frz:=[40,54]) (v:=.d (.int .i64 ((t+1:Nat):Int))) Yo ?_ (he:=(hta))|refine eX (v:=.d (.int .i64 ((t+1:Nat):Int))) ?_ (he:=(hta))|refine oX (frz:=[40,54]) (v:=.d (.int .i64 ((q / 3 % 4:Nat):Int))) Yo ?_ (he:=(hd34))|refine eX (v:=.d (.int .i64 ((q / 3 % 4:Nat):Int))) ?_ (he:=(hd34))|refine oX (frz:=[40,54]) (v:=.d (.int .i64 ((q / 3:Nat):Int))) Yo ?_ (he:=(hd3))|refine eX (v:=.d (.int .i64 ((q / 3:Nat):Int))) ?_ (he:=(hd3))|refine zW [40,54] ?_|((refine zB [40,54] (fun h=>?_) (fun h=>?_))<;>(first|exact zk h|skip))|refine zX [40,54] ?_|(refine zE ?_;(skip))|(exact(by show Tidy _ _ _;exact(tidy_of (objs:=_) _ 0 (by rfl) rfl (by repeat' (first|exact trivial|refine⟨(Or.inl rfl),?_⟩|refine⟨(Or.inr rfl),?_⟩|fail)) (by repeat' (first|exact trivial|refine⟨rfl,?_⟩|fail)) rfl rfl)))|((exfalso;first|(simp at h<;>fail)|(simp at h;omega)))|fail)
  ·rw [show tTx q t=t from if_neg (fun h=>h2 h.1)]
   repeat' (first|refine oX (frz:=[40,54]) (v:=.d (.int .i64 ((t+1:Nat):Int))) Yo ?_ (he:=(hta))|refine eX (v:=.d (.int .i64 ((t+1:Nat):Int))) ?_ (he:=(hta))|refine oX (frz:=[40,54]) (v:=.d (.int .i64 ((q / 3 % 4:Nat):Int))) Yo ?_ (he:=(hd34))|refine eX (v:=.d (.int .i64 ((q / 3 % 4:Nat):Int))) ?_ (he:=(hd34))|refine oX (frz:=[40,54]) (v:=.d (.int .i64 ((q / 3:Nat):Int))) Yo ?_ (he:=(hd3))|refine eX (v:=.d (.int .i64 ((q / 3:Nat):Int))) ?_ (he:=(hd3))|refine zW [40,54] ?_|((refine zB [40,54] (fun h=>?_) (fun h=>?_))<;>(first|exact zk h|skip))|refine zX [40,54] ?_|(refine zE ?_;(skip))|(exact(by show Tidy _ _ _;exact(tidy_of (objs:=_) _ 0 (by rfl) rfl (by repeat' (first|exact trivial|refine⟨(Or.inl rfl),?_⟩|refine⟨(Or.inr rfl),?_⟩|fail)) (by repeat' (first|exact trivial|refine⟨rfl,?_⟩|fail)) rfl rfl)))|((exfalso;first|(simp at h<;>fail)|(simp at h;omega)))|fail)
 have hT:1≤tTx q t∧tTx q t≤5:=by unfold tTx;split<;>omega
 generalize kTx q k=K at hK ⊢
 generalize tTx q t=T at hT ⊢
 obtain⟨hT1,hT2⟩:=hT
 repeat' (first|refine oX (frz:=[40,54]) (v:=.d (.int .u8 ((48+K:Nat):Int))) Yo ?_ (he:=(vU8 (by omega)))|refine eX (v:=.d (.int .u8 ((48+K:Nat):Int))) ?_ (he:=(vU8 (by omega)))|refine oX (frz:=[40,54]) (v:=.d (.int .i64 ((48+K:Nat):Int))) Yo ?_ (he:=(vN8 (by omega) (by omega)))|refine eX (v:=.d (.int .i64 ((48+K:Nat):Int))) ?_ (he:=(vN8 (by omega) (by omega)))|refine zW [40,54] ?_|((refine zB [40,54] (fun h=>?_) (fun h=>?_))<;>(first|exact zk h|skip))|refine zX [40,54] ?_|refine oX (frz:=[40,54]) Yo ?_ (hf:=(by first|(simp [Nat.ble_eq]<;>fail)|(simp [Nat.ble_eq];omega)))|refine eX ?_ (hf:=(by first|(simp [Nat.ble_eq]<;>fail)|(simp [Nat.ble_eq];omega)))|(refine zE ?_;(skip))|((exfalso;first|(simp at h<;>fail)|(simp at h;omega)))|fail)
 refine Run.loop (fun j:Nat=>⟨PT.ofList [(4,.d (.int .i64 (T:Nat))),(5,.d (.str s)),(7,.d (.str ([108,111,111,107,97,104,101,97,100,32]++[48+K]++[59,32,116,111,107,101,110,32,97]++toksT j))),(8,.d (.int .i64 (j:Nat)))],[],[]⟩) (fun j=>1≤j∧j≤T) (fun j=>T-j) 1 ⟨Nat.le_refl _,by omega⟩ (weak_of ⟨by kernel_rfl,by kernel_rfl,Eq.trans (b:=some (AV.d (.str ([108,111,111,107,97,104,101,97,100,32]++[((48+K:Nat):Int).toNat % 256]++[59,32,116,111,107,101,110,32,97])))) (by kernel_rfl) (by rw [show((48+K:Nat):Int).toNat % 256=48+K by omega];rfl),by kernel_rfl,trivial⟩) (fun j hj=>?_)
 obtain⟨hj1,hj2⟩:=hj
 have hl:=toksT_len j
 rcases Nat.lt_or_ge j T with hlt|hge
 ·repeat' (first|refine oX (frz:=[40,54]) (v:=.d (.int .u8 ((97+j:Nat):Int))) Yo ?_ (he:=(vU8 (by omega)))|refine eX (v:=.d (.int .u8 ((97+j:Nat):Int))) ?_ (he:=(vU8 (by omega)))|refine oX (frz:=[40,54]) (v:=.d (.int .i64 ((97+j:Nat):Int))) Yo ?_ (he:=(vN8 (by omega) (by omega)))|refine eX (v:=.d (.int .i64 ((97+j:Nat):Int))) ?_ (he:=(vN8 (by omega) (by omega)))|refine zW [40,54] ?_|((refine zB [40,54] (fun h=>?_) (fun h=>?_))<;>(first|exact zk h|skip))|refine zX [40,54] ?_|refine oX (frz:=[40,54]) Yo ?_ (hf:=(by first|(simp [Nat.ble_eq]<;>fail)|(simp [Nat.ble_eq];omega)))|refine eX ?_ (hf:=(by first|(simp [Nat.ble_eq]<;>fail)|(simp [Nat.ble_eq];omega)))|(refine zE ?_;(skip))|((exfalso;(simp at h<;>omega)))|fail)
  exact⟨j+1,⟨by omega,by omega⟩,by omega,weak_of ⟨by kernel_rfl,by kernel_rfl,Eq.trans (b:=some (AV.d (.str ([108,111,111,107,97,104,101,97,100,32]++[48+K]++[59,32,116,111,107,101,110,32,97]++toksT j++[44,32]++[((97+j:Nat):Int).toNat % 256])))) (by kernel_rfl) (by rw [show((97+j:Nat):Int).toNat % 256=97+j by omega,toksT_succ hj1];simp only [List.append_assoc]),(inc_get (k:=j) (by kernel_rfl) (by omega)),trivial⟩⟩
 ·have hje:j=T:=by omega
  subst hje
  repeat' (first|refine zW [40,54] ?_|((refine zB [40,54] (fun h=>?_) (fun h=>?_))<;>(first|exact zk h|skip))|refine zX [40,54] ?_|refine oX (frz:=[40,54]) Yo ?_ (hf:=(by first|(simp [Nat.ble_eq]<;>fail)|(simp [Nat.ble_eq];omega)))|refine eX ?_ (hf:=(by first|(simp [Nat.ble_eq]<;>fail)|(simp [Nat.ble_eq];omega)))|(refine zE ?_;(rfl))|((exfalso;(simp at h<;>omega)))|fail)
end Go.Av
end
noncomputable section
namespace Go.Av
open Go Go.Proofs
set_option maxRecDepth 10000
theorem textK1 (n:Int) (hn:W64 n):∃ p ∈ allTx,KnownCall Tryz.prog 30 [.int .i64 n] (.d (.str (textT p.1 p.2.1 (ruleE p.2.2).2.2))):=by
 have hr:=rulesK n hn
 have hi:=m16_lt n
 generalize m16 n=i at hr hi
 have hb:=List.all_eq_true.1 ruleE_b i (List.mem_range.2 hi)
 simp only [decide_eq_true_eq] at hb
 have ct:=textK0 n hn (ruleE i).1 (ruleE i).2.1 (ruleE i).2.2 hr hb.1 hb.2.1 hb.2.2.1 hb.2.2.2
 have hk:kTx (m40 n / 16) (ruleE i).1=(ruleE i).1∨kTx (m40 n / 16) (ruleE i).1=(ruleE i).1+1∧(ruleE i).1<2:=by
  unfold kTx;split
  ·rename_i h;exact .inr ⟨rfl,h.2⟩
  ·exact .inl rfl
 have ht:tTx (m40 n / 16) (ruleE i).2.1=(ruleE i).2.1∨tTx (m40 n / 16) (ruleE i).2.1=(ruleE i).2.1+1∧(ruleE i).2.1<4:=by
  unfold tTx;split
  ·rename_i h;exact .inr ⟨rfl,h.2⟩
  ·exact .inl rfl
 exact⟨_,tx_mem hi hk ht,ct⟩
theorem textK (n:Int) (hn:W64 n):∃ t x,SoundX x∧textB t x=true∧(printX x).length≤2000∧(∀ c ∈ t,c<256)∧KnownCall Tryz.prog 30 [.int .i64 n] (.d (.str t)):=by
 obtain⟨p,hm,ct⟩:=textK1 n hn
 obtain⟨h1,h2,h3,h4⟩:=all_ok hm
 exact⟨_,_,h1,h2,h3,h4,ct⟩
theorem w64_of {n:Int} (h:(Lit.int .i64 n).wf=true):W64 n:=by
 simp only [Lit.wf,Bool.and_eq_true,decide_eq_true_eq] at h
 exact h
end Go.Av
end
noncomputable section
namespace Go.Av
open Go Go.Proofs
set_option maxRecDepth 10000
theorem smX_eq {a b:Src} (h:smX a b=true):a=b:=by
 simp only [smX,Bool.and_eq_true,decide_eq_true_eq] at h
 obtain⟨⟨⟨⟨h1,h2⟩,h3⟩,h4⟩,h5⟩:=h
 have gen:∀ (l m:List SRule),smL smR l m=true→l=m:=by
  intro l
  induction l with
  |nil=>intro m h;cases m with|nil=>rfl|cons y m=>simp [smL] at h
  |cons x l ih =>
   intro m h
   cases m with
   |nil=>simp [smL] at h
   |cons y m =>
    have e:smR x y=true∧smL smR l m=true:=by simpa [smL] using h
    have h6:=e.1
    simp only [smR,Bool.and_eq_true,decide_eq_true_eq] at h6
    have:x=y:=by cases x;cases y;simp only at h6;rw [h6.1,h6.2]
    rw [this,ih m e.2]
 have h5:=gen _ _ h5
 cases a;cases b
 simp only at h1 h2 h3 h4 h5
 rw [h1,h2,h3,h4,h5]
theorem print_inj {x y:Src} (hx:checkX x=0) (hy:checkX y=0) (lx:(printX x).length≤2000) (ly:(printX y).length≤2000) (h:printX x=printX y):x=y:=by
 obtain⟨l1,h1,h2⟩:=roundX hx lx
 obtain⟨l2,h3,h4⟩:=roundX hy ly
 rw [h,h3] at h1
 simp only [Prod.mk.injEq] at h1
 have e:l2=l1:=encL_inj h1.1
 subst e
 have:=(h2 []).symm.trans (h4 [])
 exact(Prod.mk.injEq .. ▸ this).1
theorem parseT {t:List Nat} {x:Src} (hs:SoundX x) (h:textB t x=true):KnownCall Tryz.prog 28 [.str t] (resX (x,(0,0))):=by
 have hl:=textB_len h
 obtain⟨ls,h1,h2⟩:=textB_ok hs h
 rcases lexemesF_ls t (by omega) with⟨ls2,h3,h4,h5⟩|⟨e,q,h3,h4⟩
 ·have e:ls2=ls:=encL_inj (by rw [h1] at h3;simp only [Prod.mk.injEq] at h3;exact h3.1.symm)
  subst e
  have:=parse4 t ls2 (by omega) h4 h5 h1
  rw [h2] at this
  exact this
 ·rw [h1] at h3
  simp only [Prod.mk.injEq] at h3
  exact absurd h3.2.1.symm h4
set_option maxHeartbeats 4000000 in
theorem lawSB (n:Int) (hn:W64 n) (m:Int) (hm:W64 m):KnownCall Tryz.prog 5 [.int .i64 n,.int .i64 m] (.d (.bool true)):=by
 obtain⟨t,x,x1,x2,x3,x4,cx⟩:=textK n hn
 obtain⟨u,y,y1,y2,y3,y4,cy⟩:=textK m hm
 have px:=parseT x1 x2
 have py:=parseT y1 y2
 have Lx:=x1.litX
 have Ly:=y1.litX
 have hx:=ofSound x1
 have hy:=ofSound y1
 have c1:=printSA x Lx.fits Lx.inner Lx.print x1.bytes
 have c2:=printSA y Ly.fits Ly.inner Ly.print y1.bytes
 have c3:=parseRound hx x3
 have c4:=sameR8 x x Lx.fits
 have c5:=sameSr x y Lx.fits
 have c6:=awakeS
 rw [smX_self] at c4
 rw [show printF x=printX x from if_pos hx,hx] at c1
 rw [show printF y=printX y from if_pos hy,hy] at c2
 have hE:decide (printX x=printX y)=smX x y:=by
  cases hs:smX x y with
  |true=>rw [smX_eq hs];simp
  |false =>
   rw [decide_eq_false]
   intro e
   rw [print_inj hx hy x3 y3 e,smX_self] at hs
   cases hs
 unfold resX at px py c3
 simp only at px py c3
 rw [← hE] at c5
 generalize printX x=p at c1 c3 c5
 generalize printX y=q at c2 c5
 cases hd:decide (p=q) with
 |true =>
  rw [hd] at c5
  have e:=of_decide_eq_true hd
  subst e
  refine knownE Yo (fnAt Tryz.func5 (by kernel_rfl) (by kernel_rfl):FnAt _ _ (mkFn Tryz.f5 [5,7,8,13])) ?_
  repeat' (first|refine zW [5,7,8,13] ?_|((refine zB [5,7,8,13] (fun h=>?_) (fun h=>?_))<;>(first|exact zk h|skip))|refine zX [5,7,8,13] ?_|refine zC (cx) ?_|refine zC (cy) ?_|refine zC (px) ?_|refine zC (py) ?_|refine zC (c1) ?_|refine zC (c2) ?_|refine zC (c3) ?_|refine zC (c4) ?_|refine zC (c5) ?_|refine zC (c6) ?_|(refine zE ?_;(rfl))|((exfalso;first|(simp at h<;>fail)|(simp at h;omega)))|fail)
 |false =>
  rw [hd] at c5
  have e:=of_decide_eq_false hd
  have hv:AV.d (.bool (decide (p=q)))=.d (.bool false):=by rw [hd]
  refine knownE Yo (fnAt Tryz.func5 (by kernel_rfl) (by kernel_rfl):FnAt _ _ (mkFn Tryz.f5 [5,7,8,13])) ?_
  repeat' (first|refine oX (frz:=[5,7,8,13]) (v:=.d (.bool false)) Yo ?_ (he:=(hv))|refine eX (v:=.d (.bool false)) ?_ (he:=(hv))|refine zW [5,7,8,13] ?_|((refine zB [5,7,8,13] (fun h=>?_) (fun h=>?_))<;>(first|exact zk h|skip))|refine zX [5,7,8,13] ?_|refine zC (cx) ?_|refine zC (cy) ?_|refine zC (px) ?_|refine zC (py) ?_|refine zC (c1) ?_|refine zC (c2) ?_|refine zC (c3) ?_|refine zC (c4) ?_|refine zC (c5) ?_|refine zC (c6) ?_|(refine zE ?_;(rfl))|((exfalso;first|(simp at h<;>fail)|(simp at h;omega)|simp_all))|fail)
theorem lawSBA (n:Int) (hn:(Lit.int .i64 n).wf=true) (m:Int) (hm:(Lit.int .i64 m).wf=true):KnownCall Tryz.prog 5 [.int .i64 n,.int .i64 m] (.d (.bool true)):=lawSB n (w64_of hn) m (w64_of hm)
end Go.Av
end

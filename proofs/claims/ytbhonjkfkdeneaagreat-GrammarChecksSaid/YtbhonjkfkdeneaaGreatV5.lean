/-
  Parts of the way to the law, joined: rules for code over data, and what the functions return. Conditions stand at each.
-/
import Derived.Test.YtbhonjkfkdeneaaGreatV4
import Derived.Test.YtbhonjkfkdeneaaGreatV2
import Derived.Test.YtbhonjkfkdeneaaGreatV3
noncomputable section
namespace Go.Av
open Go Go.Proofs
set_option maxRecDepth 10000
def sepP:Nat→List Nat
 |0=>[]
 |_+1=>[44,32]
def joinTo (l:List (List Nat)):Nat→List Nat
 |0=>[]
 |n+1=>joinTo l n++sepP n++l.getD n []
theorem inter_snoc (sep a:List Nat):∀ l:List (List Nat),l≠[]→List.intercalate sep (l++[a])=List.intercalate sep l++sep++a
 |[],h=>absurd rfl h
 |[x],_=>by simp [List.intercalate,List.intersperse]
 |x :: y :: l,_=>by
  have ih:=inter_snoc sep a (y :: l) (by simp)
  simp only [List.intercalate,List.cons_append,List.intersperse,List.flatten_cons,List.append_assoc] at ih ⊢
  rw [ih]
theorem joinTo_inter (l:List (List Nat)):∀ n,n≤l.length→joinTo l n=List.intercalate [44,32] (l.take n)
 |0,_=>by simp [joinTo,List.intercalate]
 |n+1,h=>by
  have ih:=joinTo_inter l n (by omega)
  have hg:l[n]?=some l[n]:=by simp [h]
  have hd:l.getD n []=l[n]:=by rw [List.getD_eq_getElem?_getD,hg];rfl
  rw [joinTo,ih,hd,List.take_add_one,hg]
  cases n with
  |zero=>simp [List.intercalate,sepP]
  |succ n =>
   have hne:l.take (n+1)≠[]:=by
    intro e;have hl:=congrArg List.length e;rw [List.length_take] at hl;simp only [List.length_nil] at hl;omega
   rw [show(some l[n+1]).toList=[l[n+1]] from rfl,inter_snoc _ _ _ hne];rfl
theorem joinTo_z {l:List (List Nat)} {s:List Nat} (h:l[0]?=some s):joinTo l (0+1)=joinTo l 0++s:=by
 have hd:l.getD 0 []=s:=by rw [List.getD_eq_getElem?_getD,h];rfl
 show []++[]++l.getD 0 []=[]++s
 rw [hd];rfl
theorem joinTo_p {l:List (List Nat)} {n:Nat} {s:List Nat} (h0:0<n) (h:l[n]?=some s):joinTo l (n+1)=joinTo l n++[44,32]++s:=by
 have hd:l.getD n []=s:=by rw [List.getD_eq_getElem?_getD,h];rfl
 obtain⟨m,rfl⟩:∃ m,n=m+1:=⟨n-1,by omega⟩
 rw [joinTo,hd];rfl
theorem joinTo_le (l:List (List Nat)) {i j:Nat} (h:i≤j):(joinTo l i).length≤(joinTo l j).length:=by
 induction j with
 |zero =>
  have:i=0:=by omega
  subst this;exact Nat.le_refl _
 |succ j ih =>
  rcases Nat.lt_or_ge i (j+1) with h1|h1
  ·have:=ih (by omega)
   simp only [joinTo,List.length_append];omega
  ·have:i=j+1:=by omega
   subst this;exact Nat.le_refl _
set_option maxHeartbeats 4000000 in
theorem printR (x:Src) (hf:FitsX x) (h0:checkX x=0) (hp:(printX x).length≤1099511627776) :
  KnownCall Tryz.prog 34 [encX x] (.tup [.d (.str (printX x)),.d (.int .i64 0)]):=by
 have hk:x.k=1∨x.k=2∨x.k=3∨x.k=4:=by
  have hn:¬ (x.k<1∨4<x.k):=fun h=>by rw [checkX_k h] at h0;cases h0
  omega
 have e1:AV.d (.int .i64 (IntKind.i64.wrap (x.k+1)))=.d (.int .i64 (x.k+1)):=by rcases hk with h|h|h|h<;>rw [h]<;>rfl
 have e2:AV.d (.str (cutL (some x.k) (some (x.k+1)) [48,49,50,51,52]))=.d (.str [48+x.k.toNat]):=by rcases hk with h|h|h|h<;>rw [h]<;>rfl
 have e3:(cutC (some x.k) (some (x.k+1)) 5)=true:=by rcases hk with h|h|h|h<;>rw [h]<;>rfl
 have hc:=check08 x hf
 rw [h0] at hc
 have hpl:(printX x).length=(headP x).length+(rulesTo x x.rules.length).length:=by simp [printX]
 have hji:=joinTo_inter x.tokens x.tokens.length (Nat.le_refl _)
 rw [List.take_length] at hji
 have hhl:(headP x).length=10+1+8+(joinTo x.tokens x.tokens.length).length+12+x.sep.length+8+x.start.length+2:=by
  rw [hji];simp only [headP,List.length_append,List.length_cons,List.length_nil]
 have htl:=hf.tokens
 have hrls:=hf.rules
 refine knownE Yo (fnAt Tryz.func34 (by kernel_rfl) (by kernel_rfl):FnAt _ _ (mkFn Tryz.f34 [1])) ?_
 repeat (first|refine Yg ?_|refine Yq ?_|refine Yn ?_|refine Yk ?_|refine cT ?_|refine cF ?_|refine Yb ?_|refine Ye ?_|refine eN ?_|refine Yd (frz:=[1]) Yo (by kernel_rfl) ?_)
 iterate 3 refine oX (frz:=[1]) Yo ?_
 repeat (first|refine Yg ?_|refine Yq ?_|refine Yn ?_|refine Yk ?_|refine cT ?_|refine cF ?_|refine Yb ?_|refine Ye ?_|refine eN ?_|refine Yd (frz:=[1]) Yo (by kernel_rfl) ?_)
 refine oX (frz:=[1]) Yo ?_
 refine oC hc ?_
 refine oX (frz:=[1]) Yo ?_
 repeat (first|refine Yg ?_|refine Yq ?_|refine Yn ?_|refine Yk ?_|refine cT ?_|refine cF ?_|refine Yb ?_|refine Ye ?_|refine eN ?_|refine Yd (frz:=[1]) Yo (by kernel_rfl) ?_)
 iterate 2 refine oX (frz:=[1]) Yo ?_
 repeat (first|refine Yg ?_|refine Yq ?_|refine Yn ?_|refine Yk ?_|refine cT ?_|refine cF ?_|refine Yb ?_|refine Ye ?_|refine eN ?_|refine Yd (frz:=[1]) Yo (by kernel_rfl) ?_)
 iterate 4 refine oX (frz:=[1]) Yo ?_
 refine oX (frz:=[1]) (v:=.d (.int .i64 (x.k+1))) Yo ?_ (he:=e1)
 refine oX (frz:=[1]) (v:=.d (.str [48+x.k.toNat])) Yo ?_ (hf:=e3) (he:=e2)
 iterate 3 refine oX (frz:=[1]) Yo ?_
 repeat (first|refine Yg ?_|refine Yq ?_|refine Yn ?_|refine Yk ?_|refine cT ?_|refine cF ?_|refine Yb ?_|refine Ye ?_|refine eN ?_|refine Yd (frz:=[1]) Yo (by kernel_rfl) ?_)
 refine oX (frz:=[1]) Yo ?_
 repeat (first|refine Yg ?_|refine Yq ?_|refine Yn ?_|refine Yk ?_|refine cT ?_|refine cF ?_|refine Yb ?_|refine Ye ?_|refine eN ?_|refine Yd (frz:=[1]) Yo (by kernel_rfl) ?_)
 refine Run.loop (fun i:Nat=>⟨PT.ofList [(1,cellX x),(5,.d (.str ([108,111,111,107,97,104,101,97,100,32]++[48+x.k.toNat]++[59,10,116,111,107,101,110,32]++joinTo x.tokens i))),(6,.d (.int .i64 i))],[],[]⟩) (fun i=>i≤x.tokens.length) (fun i=>x.tokens.length-i) 0 (Nat.zero_le _) (weak_of ⟨rfl,by rw [joinTo,List.append_nil];rfl,rfl,trivial⟩) (fun i hi=>?_)
 rcases Nat.lt_or_ge i x.tokens.length with hlt|hge
 ·obtain⟨s,hs⟩:=get_ok hlt
  have hle:=joinTo_le x.tokens (i:=i+1) (j:=x.tokens.length) hlt
  rcases Nat.eq_zero_or_pos i with hz|hz
  ·subst hz
   have hn:=joinTo_z hs
   rw [hn,List.length_append] at hle
   repeat' (first|refine Yg ?_|refine Yq ?_|(refine oB (frz:=[1]) Yo ?_ ?_<;>intro h<;>first|(exfalso;simp at h;first|done|omega)|skip)|(refine eB ?_ ?_<;>intro h<;>first|(exfalso;simp at h;first|done|omega)|skip)|refine oX (frz:=[1]) Yo ?_|refine oS ?_|refine Yn ?_|refine Yk ?_|refine cT ?_|refine cF ?_|refine Yb ?_|refine Ye ?_|refine Yd (frz:=[1]) Yo (by kernel_rfl) ?_|refine eX ?_|refine eS ?_|refine eN ?_|refine oX (frz:=[1]) (v:=.d (.ep [.str s])) Yo ?_ (hf:=(by first|(simp [inB]<;>fail)|(simp [inB];omega))) (he:=(by first|(simp [List.getD_eq_getElem?_getD,cellsD,hs]<;>fail)|fail))|refine eX (v:=.d (.ep [.str s])) ?_ (hf:=(by first|(simp [inB]<;>fail)|(simp [inB];omega))) (he:=(by first|(simp [List.getD_eq_getElem?_getD,cellsD,hs]<;>fail)|fail))|refine oX (frz:=[1]) Yo ?_ (hf:=(by first|(simp [Nat.ble_eq]<;>fail)|(simp [Nat.ble_eq];omega)))|refine eX ?_ (hf:=(by first|(simp [Nat.ble_eq]<;>fail)|(simp [Nat.ble_eq];omega)))|(refine Yt ?_;(first|refine rB ?_|refine rI ?_|refine rA ?_|refine rII ?_|refine rSI ?_|refine rT ?_|refine rS ?_);first|done|(skip))|(exact⟨0+1,hlt,by omega,weak_of (by repeat' (first|exact trivial|refine⟨rfl,?_⟩|refine⟨(inc_get (k:=0) (by kernel_rfl) (by omega)),?_⟩|refine⟨(by rw [hn,← List.append_assoc];rfl),?_⟩|fail))⟩)|fail)
   all_goals (exfalso;simp only [List.length_map,decide_eq_false_iff_not] at h;omega)
  ·have hn:=joinTo_p hz hs
   rw [hn,List.length_append,List.length_append] at hle
   repeat' (first|refine Yg ?_|refine Yq ?_|(refine oB (frz:=[1]) Yo ?_ ?_<;>intro h<;>first|(exfalso;simp at h;first|done|omega)|skip)|(refine eB ?_ ?_<;>intro h<;>first|(exfalso;simp at h;first|done|omega)|skip)|refine oX (frz:=[1]) Yo ?_|refine oS ?_|refine Yn ?_|refine Yk ?_|refine cT ?_|refine cF ?_|refine Yb ?_|refine Ye ?_|refine Yd (frz:=[1]) Yo (by kernel_rfl) ?_|refine eX ?_|refine eS ?_|refine eN ?_|refine oX (frz:=[1]) (v:=.d (.ep [.str s])) Yo ?_ (hf:=(by first|(simp [inB]<;>fail)|(simp [inB];omega))) (he:=(by first|(simp [List.getD_eq_getElem?_getD,cellsD,hs]<;>fail)|fail))|refine eX (v:=.d (.ep [.str s])) ?_ (hf:=(by first|(simp [inB]<;>fail)|(simp [inB];omega))) (he:=(by first|(simp [List.getD_eq_getElem?_getD,cellsD,hs]<;>fail)|fail))|refine oX (frz:=[1]) Yo ?_ (hf:=(by first|(simp [Nat.ble_eq]<;>fail)|(simp [Nat.ble_eq];omega)))|refine eX ?_ (hf:=(by first|(simp [Nat.ble_eq]<;>fail)|(simp [Nat.ble_eq];omega)))|(refine Yt ?_;(first|refine rB ?_|refine rI ?_|refine rA ?_|refine rII ?_|refine rSI ?_|refine rT ?_|refine rS ?_);first|done|(skip))|(exact⟨i+1,hlt,by omega,weak_of (by repeat' (first|exact trivial|refine⟨rfl,?_⟩|refine⟨(inc_get (k:=i) (by kernel_rfl) (by omega)),?_⟩|refine⟨(by rw [hn,← List.append_assoc,← List.append_assoc];rfl),?_⟩|fail))⟩)|fail)
   all_goals (exfalso;simp only [List.length_map,decide_eq_false_iff_not] at h;omega)
 ·have hge2:i=x.tokens.length:=by omega
  subst hge2
  have hh:[108,111,111,107,97,104,101,97,100,32]++[48+x.k.toNat]++[59,10,116,111,107,101,110,32]++joinTo x.tokens x.tokens.length++[59,10,115,101,112,97,114,97,116,111,114,32]++x.sep++[59,10,115,116,97,114,116,32]++x.start++[59,10]=headP x:=by rw [hji,headP]
  repeat' (first|refine Yg ?_|refine Yq ?_|(refine oB (frz:=[1]) Yo ?_ ?_<;>intro h<;>first|(exfalso;simp at h;first|done|omega)|skip)|(refine eB ?_ ?_<;>intro h<;>first|(exfalso;simp at h;first|done|omega)|skip)|refine oX (frz:=[1]) Yo ?_|refine oS ?_|refine Yn ?_|refine Yk ?_|refine cT ?_|refine cF ?_|refine Yb ?_|refine Ye ?_|refine Yd (frz:=[1]) Yo (by kernel_rfl) ?_|refine eX ?_|refine eS ?_|refine eN ?_|refine oX (frz:=[1]) Yo ?_ (hf:=(by first|(simp [Nat.ble_eq]<;>fail)|(simp [Nat.ble_eq];omega)))|refine eX ?_ (hf:=(by first|(simp [Nat.ble_eq]<;>fail)|(simp [Nat.ble_eq];omega)))|(refine Yt ?_;(first|refine rB ?_|refine rI ?_|refine rA ?_|refine rII ?_|refine rSI ?_|refine rT ?_|refine rS ?_);first|done|(skip))|(exfalso;simp only [List.length_map,decide_eq_true_eq] at h;omega)|fail)
  have hhb:(headP x++rulesTo x 0).length≤(printX x).length:=by rw [List.length_append,hpl];have:=rulesTo_le x (Nat.zero_le x.rules.length);omega
  refine Run.loop (fun i:Nat=>⟨PT.ofList [(1,cellX x),(5,.d (.str (headP x++rulesTo x i))),(7,.d (.int .i64 i))],[],[]⟩) (fun i=>i≤x.rules.length) (fun i=>x.rules.length-i) 0 (Nat.zero_le _) (weak_of ⟨rfl,by rw [rulesTo,List.take_zero,List.flatMap_nil,List.append_nil,← hh];rfl,rfl,trivial⟩) (fun i hi=>?_)
  rcases Nat.lt_or_ge i x.rules.length with hlt|hge
  ·obtain⟨r,hr⟩:=get_ok hlt
   have hru:=rulesTo_succ hr
   have hrl:=rulesTo_le x (i:=i+1) (j:=x.rules.length) hlt
   rw [hru,List.length_append] at hrl
   have hrm:=List.mem_of_getElem? hr
   have hal:=hf.alts r hrm
   have hRl:(ruleP r).length=r.name.length+2+(altsTo r.alts r.alts.length).length+3:=by simp [ruleP];omega
   have hnB:(headP x++rulesTo x i)++ruleP r=headP x++rulesTo x (i+1):=by rw [hru,List.append_assoc]
   have hBl:(headP x++rulesTo x i).length=(headP x).length+(rulesTo x i).length:=List.length_append
   generalize headP x++rulesTo x i=B at *
   repeat (first|refine Yg ?_|refine Yq ?_|refine Yn ?_|refine Yk ?_|refine cT ?_|refine cF ?_|refine Yb ?_|refine Ye ?_|refine eN ?_|refine Yd (frz:=[1]) Yo (by kernel_rfl) ?_)
   iterate 4 refine oX (frz:=[1]) Yo ?_
   repeat (first|refine Yg ?_|refine Yq ?_|refine Yn ?_|refine Yk ?_|refine cT ?_|refine cF ?_|refine Yb ?_|refine Ye ?_|refine eN ?_|refine Yd (frz:=[1]) Yo (by kernel_rfl) ?_)
   refine oX (frz:=[1]) Yo ?_
   repeat (first|refine Yg ?_|refine Yq ?_|refine Yn ?_|refine Yk ?_|refine cT ?_|refine cF ?_|refine Yb ?_|refine Ye ?_|refine eN ?_|refine Yd (frz:=[1]) Yo (by kernel_rfl) ?_)
   refine Run.cond (by rfl) (fun h=>?_) (fun h=>?_)
   ·repeat (first|refine Yg ?_|refine Yq ?_|refine Yn ?_|refine Yk ?_|refine cT ?_|refine cF ?_|refine Yb ?_|refine Ye ?_|refine eN ?_|refine Yd (frz:=[1]) Yo (by kernel_rfl) ?_)
    iterate 4 refine oX (frz:=[1]) Yo ?_
    first|refine oX (frz:=[1]) (v:=.d (.ep [.str r.name,alts r.alts])) Yo ?_ (hf:=(by first|(simp [inB]<;>fail)|(simp [inB];omega))) (he:=(by first|(simp [List.getD_eq_getElem?_getD,cellsD,hr,encR]<;>fail)|fail))|refine eX (v:=.d (.ep [.str r.name,alts r.alts])) ?_ (hf:=(by first|(simp [inB]<;>fail)|(simp [inB];omega))) (he:=(by first|(simp [List.getD_eq_getElem?_getD,cellsD,hr,encR]<;>fail)|fail))
    iterate 2 refine oX (frz:=[1]) Yo ?_
    repeat' (first|refine Yg ?_|refine Yq ?_|(refine oB (frz:=[1]) Yo ?_ ?_<;>intro h<;>first|(exfalso;simp at h;first|done|omega)|skip)|(refine eB ?_ ?_<;>intro h<;>first|(exfalso;simp at h;first|done|omega)|skip)|refine oX (frz:=[1]) Yo ?_|refine oS ?_|refine Yn ?_|refine Yk ?_|refine cT ?_|refine cF ?_|refine Yb ?_|refine Ye ?_|refine Yd (frz:=[1]) Yo (by kernel_rfl) ?_|refine eX ?_|refine eS ?_|refine eN ?_|refine oX (frz:=[1]) Yo ?_ (hf:=(by first|(simp [Nat.ble_eq]<;>fail)|(simp [Nat.ble_eq];omega)))|refine eX ?_ (hf:=(by first|(simp [Nat.ble_eq]<;>fail)|(simp [Nat.ble_eq];omega)))|(refine Yt ?_;(first|refine rB ?_|refine rI ?_|refine rA ?_|refine rII ?_|refine rSI ?_|refine rT ?_|refine rS ?_);first|done|(skip))|fail)
    refine Run.loop (fun k:Nat=>⟨PT.ofList [(1,cellX x),(5,.d (.str (B++r.name++[32,61]++altsTo r.alts k))),(7,.d (.int .i64 i)),(8,.d (.int .i64 k))],[],[]⟩) (fun k=>k≤r.alts.length) (fun k=>r.alts.length-k) 0 (Nat.zero_le _) (weak_of ⟨rfl,by rw [altsTo,List.append_nil];rfl,rfl,rfl,trivial⟩) (fun k hk=>?_)
    rcases Nat.lt_or_ge k r.alts.length with hklt|hkge
    ·obtain⟨a,ha⟩:=get_ok hklt
     have ham:=List.mem_of_getElem? ha
     have hanl:=hf.names r hrm a ham
     have hgd:r.alts.getD k []=a:=by rw [List.getD_eq_getElem?_getD,ha];rfl
     have hnext:altsTo r.alts (k+1)=altsTo r.alts k++barP k++altQ a:=by rw [← hgd];rfl
     have hkl:=altsTo_le r.alts (i:=k+1) (j:=r.alts.length) hklt
     rw [hnext] at hkl
     simp only [List.length_append] at hkl
     repeat (first|refine Yg ?_|refine Yq ?_|refine Yn ?_|refine Yk ?_|refine cT ?_|refine cF ?_|refine Yb ?_|refine Ye ?_|refine eN ?_|refine Yd (frz:=[1]) Yo (by kernel_rfl) ?_)
     iterate 4 refine oX (frz:=[1]) Yo ?_
     first|refine oX (frz:=[1]) (v:=.d (.ep [.str r.name,alts r.alts])) Yo ?_ (hf:=(by first|(simp [inB]<;>fail)|(simp [inB];omega))) (he:=(by first|(simp [List.getD_eq_getElem?_getD,cellsD,hr,encR]<;>fail)|fail))|refine eX (v:=.d (.ep [.str r.name,alts r.alts])) ?_ (hf:=(by first|(simp [inB]<;>fail)|(simp [inB];omega))) (he:=(by first|(simp [List.getD_eq_getElem?_getD,cellsD,hr,encR]<;>fail)|fail))
     iterate 4 refine oX (frz:=[1]) Yo ?_
     repeat (first|refine Yg ?_|refine Yq ?_|refine Yn ?_|refine Yk ?_|refine cT ?_|refine cF ?_|refine Yb ?_|refine Ye ?_|refine eN ?_|refine Yd (frz:=[1]) Yo (by kernel_rfl) ?_)
     refine Run.cond (by rfl) (fun h=>?_) (fun h=>?_)
     ·repeat (first|refine Yg ?_|refine Yq ?_|refine Yn ?_|refine Yk ?_|refine cT ?_|refine cF ?_|refine Yb ?_|refine Ye ?_|refine eN ?_|refine Yd (frz:=[1]) Yo (by kernel_rfl) ?_)
      iterate 2 refine oX (frz:=[1]) Yo ?_
      repeat (first|refine Yg ?_|refine Yq ?_|refine Yn ?_|refine Yk ?_|refine cT ?_|refine cF ?_|refine Yb ?_|refine Ye ?_|refine eN ?_|refine Yd (frz:=[1]) Yo (by kernel_rfl) ?_)
      refine Run.mono (K:=fun e s1=>e=.normal∧Weak s1 ⟨PT.ofList [(1,cellX x),(5,.d (.str (B++r.name++[32,61]++altsTo r.alts k++barP k))),(7,.d (.int .i64 i)),(8,.d (.int .i64 k))],[],[]⟩) ?_ (fun e s1 hk1=>?_)
      ·rcases k with _|k
       ·repeat (first|refine Yg ?_|refine Yq ?_|refine Yn ?_|refine Yk ?_|refine cT ?_|refine cF ?_|refine Yb ?_|refine Ye ?_|refine eN ?_|refine Yd (frz:=[1]) Yo (by kernel_rfl) ?_)
        exact⟨rfl,weak_of ⟨rfl,by rw [barP,List.append_nil];rfl,rfl,rfl,trivial⟩⟩
       ·have hb2:(barP (k+1)).length=2:=rfl
        refine Run.cond (by rfl) (fun h1=>?_) (fun h1=>?_)
        ·repeat' (first|refine Yg ?_|refine Yq ?_|(refine oB (frz:=[1]) Yo ?_ ?_<;>intro h<;>first|(exfalso;simp at h;first|done|omega)|skip)|(refine eB ?_ ?_<;>intro h<;>first|(exfalso;simp at h;first|done|omega)|skip)|refine oX (frz:=[1]) Yo ?_|refine oS ?_|refine Yn ?_|refine Yk ?_|refine cT ?_|refine cF ?_|refine Yb ?_|refine Ye ?_|refine Yd (frz:=[1]) Yo (by kernel_rfl) ?_|refine eX ?_|refine eS ?_|refine eN ?_|refine oX (frz:=[1]) Yo ?_ (hf:=(by first|(simp [Nat.ble_eq]<;>fail)|(simp [Nat.ble_eq];omega)))|refine eX ?_ (hf:=(by first|(simp [Nat.ble_eq]<;>fail)|(simp [Nat.ble_eq];omega)))|(refine Yt ?_;(first|refine rB ?_|refine rI ?_|refine rA ?_|refine rII ?_|refine rSI ?_|refine rT ?_|refine rS ?_);first|done|(skip))|fail)
         exact⟨rfl,weak_of (by repeat' (first|exact trivial|refine⟨rfl,?_⟩))⟩
        ·exfalso;simp at h1
      ·obtain⟨rfl,hk1⟩:=hk1
       refine Run.weak hk1 ?_
       repeat (first|refine Yg ?_|refine Yq ?_|refine Yn ?_|refine Yk ?_|refine cT ?_|refine cF ?_|refine Yb ?_|refine Ye ?_|refine eN ?_|refine Yd (frz:=[1]) Yo (by kernel_rfl) ?_)
       refine oX (frz:=[1]) Yo ?_
       repeat (first|refine Yg ?_|refine Yq ?_|refine Yn ?_|refine Yk ?_|refine cT ?_|refine cF ?_|refine Yb ?_|refine Ye ?_|refine eN ?_|refine Yd (frz:=[1]) Yo (by kernel_rfl) ?_)
       refine Run.loop (fun j:Nat=>⟨PT.ofList [(1,cellX x),(5,.d (.str (B++r.name++[32,61]++altsTo r.alts k++barP k++altTo a j))),(7,.d (.int .i64 i)),(8,.d (.int .i64 k)),(9,.d (.int .i64 j))],[],[]⟩) (fun j=>j≤a.length) (fun j=>a.length-j) 0 (Nat.zero_le _) (weak_of ⟨rfl,by rw [show altTo a 0=[] by simp [altTo,altQ],List.append_nil];rfl,rfl,rfl,rfl,trivial⟩) (fun j hj=>?_)
       rcases Nat.lt_or_ge j a.length with hjlt|hjge
       ·obtain⟨s,hsj⟩:=get_ok hjlt
        have hsu:=altTo_succ hsj
        have hjl:=altTo_le a (j+1)
        rw [hsu] at hjl
        simp only [List.length_append,List.length_cons] at hjl
        repeat' (first|refine Yg ?_|refine Yq ?_|(refine oB (frz:=[1]) Yo ?_ ?_<;>intro h<;>first|(exfalso;simp at h;first|done|omega)|skip)|(refine eB ?_ ?_<;>intro h<;>first|(exfalso;simp at h;first|done|omega)|skip)|refine oX (frz:=[1]) Yo ?_|refine oS ?_|refine Yn ?_|refine Yk ?_|refine cT ?_|refine cF ?_|refine Yb ?_|refine Ye ?_|refine Yd (frz:=[1]) Yo (by kernel_rfl) ?_|refine eX ?_|refine eS ?_|refine eN ?_|refine oX (frz:=[1]) (v:=.d (.ep [.str r.name,alts r.alts])) Yo ?_ (hf:=(by first|(simp [inB]<;>fail)|(simp [inB];omega))) (he:=(by first|(simp [List.getD_eq_getElem?_getD,cellsD,hr,encR]<;>fail)|fail))|refine eX (v:=.d (.ep [.str r.name,alts r.alts])) ?_ (hf:=(by first|(simp [inB]<;>fail)|(simp [inB];omega))) (he:=(by first|(simp [List.getD_eq_getElem?_getD,cellsD,hr,encR]<;>fail)|fail))|refine oX (frz:=[1]) (v:=.d (.ep [strs a])) Yo ?_ (hf:=(by first|(simp [inB]<;>fail)|(simp [inB];omega))) (he:=(by first|(simp [List.getD_eq_getElem?_getD,cellsD,ha]<;>fail)|fail))|refine eX (v:=.d (.ep [strs a])) ?_ (hf:=(by first|(simp [inB]<;>fail)|(simp [inB];omega))) (he:=(by first|(simp [List.getD_eq_getElem?_getD,cellsD,ha]<;>fail)|fail))|refine oX (frz:=[1]) (v:=.d (.ep [.str s])) Yo ?_ (hf:=(by first|(simp [inB]<;>fail)|(simp [inB];omega))) (he:=(by first|(simp [List.getD_eq_getElem?_getD,cellsD,hsj]<;>fail)|fail))|refine eX (v:=.d (.ep [.str s])) ?_ (hf:=(by first|(simp [inB]<;>fail)|(simp [inB];omega))) (he:=(by first|(simp [List.getD_eq_getElem?_getD,cellsD,hsj]<;>fail)|fail))|refine oX (frz:=[1]) Yo ?_ (hf:=(by first|(simp [Nat.ble_eq]<;>fail)|(simp [Nat.ble_eq];omega)))|refine eX ?_ (hf:=(by first|(simp [Nat.ble_eq]<;>fail)|(simp [Nat.ble_eq];omega)))|(refine Yt ?_;(first|refine rB ?_|refine rI ?_|refine rA ?_|refine rII ?_|refine rSI ?_|refine rT ?_|refine rS ?_);first|done|(skip))|((exact⟨j+1,hjlt,by omega,weak_of (by repeat' (first|exact trivial|refine⟨rfl,?_⟩|refine⟨(inc_get (k:=j) (by kernel_rfl) (by omega)),?_⟩|refine⟨(by rw [hsu];simp only [List.append_assoc,List.cons_append,List.nil_append];rfl),?_⟩|fail))⟩))|((exfalso;simp at h;omega))|fail)
       ·have hje:j=a.length:=by omega
        subst hje
        have hta:altTo a a.length=altQ a:=by rw [altTo,List.take_length]
        repeat' (first|refine Yg ?_|refine Yq ?_|(refine oB (frz:=[1]) Yo ?_ ?_<;>intro h<;>first|(exfalso;simp at h;first|done|omega)|skip)|(refine eB ?_ ?_<;>intro h<;>first|(exfalso;simp at h;first|done|omega)|skip)|refine oX (frz:=[1]) Yo ?_|refine oS ?_|refine Yn ?_|refine Yk ?_|refine cT ?_|refine cF ?_|refine Yb ?_|refine Ye ?_|refine Yd (frz:=[1]) Yo (by kernel_rfl) ?_|refine eX ?_|refine eS ?_|refine eN ?_|refine oX (frz:=[1]) (v:=.d (.ep [.str r.name,alts r.alts])) Yo ?_ (hf:=(by first|(simp [inB]<;>fail)|(simp [inB];omega))) (he:=(by first|(simp [List.getD_eq_getElem?_getD,cellsD,hr,encR]<;>fail)|fail))|refine eX (v:=.d (.ep [.str r.name,alts r.alts])) ?_ (hf:=(by first|(simp [inB]<;>fail)|(simp [inB];omega))) (he:=(by first|(simp [List.getD_eq_getElem?_getD,cellsD,hr,encR]<;>fail)|fail))|refine oX (frz:=[1]) (v:=.d (.ep [strs a])) Yo ?_ (hf:=(by first|(simp [inB]<;>fail)|(simp [inB];omega))) (he:=(by first|(simp [List.getD_eq_getElem?_getD,cellsD,ha]<;>fail)|fail))|refine eX (v:=.d (.ep [strs a])) ?_ (hf:=(by first|(simp [inB]<;>fail)|(simp [inB];omega))) (he:=(by first|(simp [List.getD_eq_getElem?_getD,cellsD,ha]<;>fail)|fail))|(refine Yt ?_;(first|refine rB ?_|refine rI ?_|refine rA ?_|refine rII ?_|refine rSI ?_|refine rT ?_|refine rS ?_);first|done|(skip))|((exact⟨k+1,hklt,by omega,weak_of (by repeat' (first|exact trivial|refine⟨rfl,?_⟩|refine⟨(inc_get (k:=k) (by kernel_rfl) (by omega)),?_⟩|refine⟨(by rw [hnext,← hta];simp only [List.append_assoc];rfl),?_⟩|fail))⟩))|((exfalso;simp at h;omega))|fail)
     ·exfalso;simp at h;omega
    ·have hke:k=r.alts.length:=by omega
     subst hke
     repeat' (first|refine Yg ?_|refine Yq ?_|(refine oB (frz:=[1]) Yo ?_ ?_<;>intro h<;>first|(exfalso;simp at h;first|done|omega)|skip)|(refine eB ?_ ?_<;>intro h<;>first|(exfalso;simp at h;first|done|omega)|skip)|refine oX (frz:=[1]) Yo ?_|refine oS ?_|refine Yn ?_|refine Yk ?_|refine cT ?_|refine cF ?_|refine Yb ?_|refine Ye ?_|refine Yd (frz:=[1]) Yo (by kernel_rfl) ?_|refine eX ?_|refine eS ?_|refine eN ?_|refine oX (frz:=[1]) (v:=.d (.ep [.str r.name,alts r.alts])) Yo ?_ (hf:=(by first|(simp [inB]<;>fail)|(simp [inB];omega))) (he:=(by first|(simp [List.getD_eq_getElem?_getD,cellsD,hr,encR]<;>fail)|fail))|refine eX (v:=.d (.ep [.str r.name,alts r.alts])) ?_ (hf:=(by first|(simp [inB]<;>fail)|(simp [inB];omega))) (he:=(by first|(simp [List.getD_eq_getElem?_getD,cellsD,hr,encR]<;>fail)|fail))|refine oX (frz:=[1]) Yo ?_ (hf:=(by first|(simp [Nat.ble_eq]<;>fail)|(simp [Nat.ble_eq];omega)))|refine eX ?_ (hf:=(by first|(simp [Nat.ble_eq]<;>fail)|(simp [Nat.ble_eq];omega)))|(refine Yt ?_;(first|refine rB ?_|refine rI ?_|refine rA ?_|refine rII ?_|refine rSI ?_|refine rT ?_|refine rS ?_);first|done|(skip))|((exact⟨i+1,hlt,by omega,weak_of (by repeat' (first|exact trivial|refine⟨rfl,?_⟩|refine⟨(inc_get (k:=i) (by kernel_rfl) (by omega)),?_⟩|refine⟨(by rw [← hnB,ruleP];simp only [List.append_assoc];rfl),?_⟩|fail))⟩))|((exfalso;simp at h;omega))|fail)
   ·exfalso;simp at h;omega
  ·have hie:i=x.rules.length:=by omega
   subst hie
   repeat' (first|refine Yg ?_|refine Yq ?_|(refine oB (frz:=[1]) Yo ?_ ?_<;>intro h<;>first|(exfalso;simp at h;first|done|omega)|skip)|(refine eB ?_ ?_<;>intro h<;>first|(exfalso;simp at h;first|done|omega)|skip)|refine oX (frz:=[1]) Yo ?_|refine oS ?_|refine Yn ?_|refine Yk ?_|refine cT ?_|refine cF ?_|refine Yb ?_|refine Ye ?_|refine Yd (frz:=[1]) Yo (by kernel_rfl) ?_|refine eX ?_|refine eS ?_|refine eN ?_|(refine Yt ?_;(first|refine rB ?_|refine rI ?_|refine rA ?_|refine rII ?_|refine rSI ?_|refine rT ?_|refine rS ?_);first|done|(rfl))|(exfalso;simp at h;omega)|fail)
end Go.Av
end
noncomputable section
namespace Go.Av
open Go Go.Proofs
set_option maxRecDepth 10000
structure LightX (x:Src):Prop where
 tokens:x.tokens.length≤12∧∀ s ∈ x.tokens,s.length≤40
 sep:x.sep.length≤40
 start:x.start.length≤40
 rules:x.rules.length≤12
 names:∀ r ∈ x.rules,r.name.length≤40∧r.alts.length≤30∧∀ a ∈ r.alts,a.length≤12∧∀ s ∈ a,s.length≤40
theorem LightX.fits {x:Src} (h:LightX x):FitsX x where
 tokens:=by have:=h.tokens.1;omega
 rules:=by have:=h.rules;omega
 alts r hr:=by have:=(h.names r hr).2.1;omega
 names r hr a ha:=by have:=((h.names r hr).2.2 a ha).1;omega
 sep:=by have:=h.sep;omega
 start:=by have:=h.start;omega
 tokenS s hs:=by have:=h.tokens.2 s hs;omega
 ruleS r hr:=by have:=(h.names r hr).1;omega
 nameS r hr a ha s hs:=by have:=((h.names r hr).2.2 a ha).2 s hs;omega
theorem flatten_le {α:Type} {n:Nat}:∀ {l:List (List α)},(∀ a ∈ l,a.length≤n)→l.flatten.length≤l.length*n
 |[],_=>by simp
 |a :: l,h=>by
  have h1:=h a List.mem_cons_self
  have h2:=flatten_le (l:=l) fun b hb=>h b (List.mem_cons_of_mem _ hb)
  rw [List.flatten_cons,List.length_append,List.length_cons,Nat.succ_mul]
  omega
theorem LightX.inner {x:Src} (h:LightX x):(innerX x).length≤1048576:=by
 have h1:(innerX x).length≤(x.rules.map fun r=>r.alts.flatten).length*360:=by
  unfold innerX
  rw [List.flatMap_def]
  refine flatten_le fun a ha=>?_
  obtain⟨r,hr,rfl⟩:=List.mem_map.1 ha
  have h2:=flatten_le (l:=r.alts) (n:=12) fun a ha=>((h.names r hr).2.2 a ha).1
  have:=(h.names r hr).2.1
  omega
 have:=h.rules
 rw [List.length_map] at h1
 omega
theorem joinTo_len {l:List (List Nat)} {B:Nat} (h:∀ s ∈ l,s.length≤B):∀ n,(joinTo l n).length≤n*(2+B)
 |0=>by simp [joinTo]
 |n+1=>by
  have ih:=joinTo_len h n
  have hs:(sepP n).length≤2:=by cases n<;>simp [sepP]
  have hd:(l.getD n []).length≤B:=by
   rw [List.getD_eq_getElem?_getD]
   cases hg:l[n]? with
   |none=>simp
   |some s=>exact h s (List.mem_of_getElem? hg)
  simp only [joinTo,List.length_append]
  rw [Nat.succ_mul];omega
theorem altQ_len {a:List (List Nat)} {B:Nat} (h:∀ s ∈ a,s.length≤B):(altQ a).length≤a.length*(B+1):=by
 unfold altQ
 rw [List.flatMap_def]
 have:=flatten_le (l:=a.map fun s=>32 :: s) (n:=B+1) fun u hu=>by
  obtain⟨s,hs,rfl⟩:=List.mem_map.1 hu
  have:=h s hs
  simp only [List.length_cons];omega
 rwa [List.length_map] at this
theorem altsTo_len {al:List (List (List Nat))} {B:Nat} (h:∀ a ∈ al,(altQ a).length≤B):∀ n,(altsTo al n).length≤n*(2+B)
 |0=>by simp [altsTo]
 |n+1=>by
  have ih:=altsTo_len h n
  have hs:(barP n).length≤2:=by cases n<;>simp [barP]
  have hd:(altQ (al.getD n [])).length≤B:=by
   rw [List.getD_eq_getElem?_getD]
   cases hg:al[n]? with
   |none=>simp [altQ]
   |some s=>exact h s (List.mem_of_getElem? hg)
  simp only [altsTo,List.length_append]
  rw [Nat.succ_mul];omega
theorem LightX.print {x:Src} (h:LightX x):(printX x).length≤1099511627776:=by
 have h1:(List.intercalate [44,32] x.tokens).length≤x.tokens.length*42:=by
  have:=joinTo_inter x.tokens x.tokens.length (Nat.le_refl _)
  rw [List.take_length] at this
  rw [← this]
  exact joinTo_len h.tokens.2 _
 have h2:(rulesTo x x.rules.length).length≤x.rules.length*20000:=by
  unfold rulesTo
  rw [List.take_length,List.flatMap_def]
  have:=flatten_le (l:=x.rules.map ruleP) (n:=20000) fun u hu=>by
   obtain⟨r,hr,rfl⟩:=List.mem_map.1 hu
   obtain⟨g1,g2,g3⟩:=h.names r hr
   have g4:=altsTo_len (al:=r.alts) (B:=492) (fun a ha=>by
    have:=altQ_len (a:=a) (B:=40) (g3 a ha).2
    have:=(g3 a ha).1
    omega) r.alts.length
   simp only [ruleP,List.length_append,List.length_cons,List.length_nil]
   omega
  rwa [List.length_map] at this
 have:=h.tokens.1
 have:=h.rules
 have:=h.sep
 have:=h.start
 simp only [printX,headP,List.length_append,List.length_cons,List.length_nil]
 omega
structure ByteX (x:Src):Prop where
 tokens:∀ s ∈ x.tokens,∀ c ∈ s,c<256
 sep:∀ c ∈ x.sep,c<256
 start:∀ c ∈ x.start,c<256
 rules:∀ r ∈ x.rules,∀ c ∈ r.name,c<256
 names:∀ r ∈ x.rules,∀ a ∈ r.alts,∀ s ∈ a,∀ c ∈ s,c<256
theorem joinTo_by {l:List (List Nat)} (h:∀ s ∈ l,∀ c ∈ s,c<256):∀ n,∀ c ∈ joinTo l n,c<256
 |0,c,hc=>by simp [joinTo] at hc
 |n+1,c,hc=>by
  simp only [joinTo,List.mem_append] at hc
  rcases hc with(hc|hc)|hc
  ·exact joinTo_by h n c hc
  ·cases n with
   |zero=>simp [sepP] at hc
   |succ n=>simp [sepP] at hc;omega
  ·rw [List.getD_eq_getElem?_getD] at hc
   cases hg:l[n]? with
   |none=>rw [hg] at hc;simp at hc
   |some s=>rw [hg] at hc;exact h s (List.mem_of_getElem? hg) c hc
theorem altQ_by {a:List (List Nat)} (h:∀ s ∈ a,∀ c ∈ s,c<256):∀ c ∈ altQ a,c<256:=by
 intro c hc
 simp only [altQ,List.mem_flatMap,List.mem_cons] at hc
 obtain⟨s,hs,rfl|hc⟩:=hc
 ·omega
 ·exact h s hs c hc
theorem altsTo_by {al:List (List (List Nat))} (h:∀ a ∈ al,∀ s ∈ a,∀ c ∈ s,c<256):∀ n,∀ c ∈ altsTo al n,c<256
 |0,c,hc=>by simp [altsTo] at hc
 |n+1,c,hc=>by
  simp only [altsTo,List.mem_append] at hc
  rcases hc with(hc|hc)|hc
  ·exact altsTo_by h n c hc
  ·cases n with
   |zero=>simp [barP] at hc
   |succ n=>simp [barP] at hc;omega
  ·refine altQ_by (a:=al.getD n []) (fun s hs c hc=>?_) c hc
   rw [List.getD_eq_getElem?_getD] at hs
   cases hg:al[n]? with
   |none=>rw [hg] at hs;simp at hs
   |some a=>rw [hg] at hs;exact h a (List.mem_of_getElem? hg) s hs c hc
theorem ByteX.head {x:Src} (h:ByteX x) (hk:x.k≤4):∀ c ∈ headP x,c<256:=by
 have hj:=joinTo_inter x.tokens x.tokens.length (Nat.le_refl _)
 rw [List.take_length] at hj
 intro c hc
 simp only [headP,List.mem_append] at hc
 rcases hc with(((((((hc|hc)|hc)|hc)|hc)|hc)|hc)|hc)|hc
 ·simp at hc;omega
 ·simp at hc;omega
 ·simp at hc;omega
 ·rw [← hj] at hc;exact joinTo_by h.tokens _ c hc
 ·simp at hc;omega
 ·exact h.sep c hc
 ·simp at hc;omega
 ·exact h.start c hc
 ·simp at hc;omega
theorem ByteX.print {x:Src} (h:ByteX x) (hk:x.k≤4):∀ c ∈ printX x,c<256:=by
 intro c hc
 rcases List.mem_append.1 (show c ∈ headP x++rulesTo x x.rules.length from hc) with hc|hc
 ·exact h.head hk c hc
 ·simp only [rulesTo,List.take_length,List.mem_flatMap] at hc
  obtain⟨r,hr,hc⟩:=hc
  simp only [ruleP,List.mem_append] at hc
  rcases hc with((hc|hc)|hc)|hc
  ·exact h.rules r hr c hc
  ·simp at hc;omega
  ·exact altsTo_by (h.names r hr) _ c hc
  ·simp at hc;omega
def printF (x:Src):List Nat:=if checkX x=0 then printX x else []
theorem printSA (x:Src) (hf:FitsX x) (ht:(innerX x).length≤1048576) (hp:(printX x).length≤1099511627776) (hb:ByteX x) :
  KnownCall Tryz.prog 31 [encX x] (.tup [.d (.str (printF x)),.d (.int .i64 (checkX x))]):=by
 by_cases h0:checkX x=0
 ·have hk:x.k≤4:=by
   have hn:¬ (x.k<1∨4<x.k):=fun h=>by rw [checkX_k h] at h0;cases h0
   omega
  rw [show printF x=printX x from if_pos h0,h0]
  exact printS x hf ht h0 hp (hb.print hk)
 ·have cc:=checkS x hf ht
  rw [show printF x=[] from if_neg h0]
  generalize checkX x=c at cc h0 ⊢
  refine knownE Yo (fnAt Tryz.func31 (by kernel_rfl) (by kernel_rfl):FnAt _ _ (mkFn Tryz.f31 [1])) ?_
  repeat' (first|refine Yg ?_|refine Yq ?_|(refine oB (frz:=[1]) Yo ?_ ?_<;>intro h<;>first|(exfalso;simp at h;first|done|omega)|skip)|(refine eB ?_ ?_<;>intro h<;>first|(exfalso;simp at h;first|done|omega)|skip)|refine oX (frz:=[1]) Yo ?_|refine oS ?_|refine Yn ?_|refine Yk ?_|refine cT ?_|refine cF ?_|refine Yb ?_|refine Ye ?_|refine Yd (frz:=[1]) Yo (by kernel_rfl) ?_|refine eX ?_|refine eS ?_|refine eN ?_|refine oC (cc) ?_|refine eC (cc) ?_|(refine Yt ?_;(first|refine rB ?_|refine rI ?_|refine rA ?_|refine rII ?_|refine rSI ?_|refine rT ?_|refine rS ?_);first|done|(rfl))|((exfalso;first|(simp_all<;>fail)|(simp_all;omega)))|fail)
theorem printRA (x:Src) (hf:FitsX x) (hp:(printX x).length≤1099511627776) :
  KnownCall Tryz.prog 34 [encX x] (.tup [.d (.str (printF x)),.d (.int .i64 (checkX x))]):=by
 by_cases h0:checkX x=0
 ·rw [show printF x=printX x from if_pos h0,h0]
  exact printR x hf h0 hp
 ·have cc:=check08 x hf
  rw [show printF x=[] from if_neg h0]
  generalize checkX x=c at cc h0 ⊢
  refine knownE Yo (fnAt Tryz.func34 (by kernel_rfl) (by kernel_rfl):FnAt _ _ (mkFn Tryz.f34 [1])) ?_
  repeat' (first|refine Yg ?_|refine Yq ?_|(refine oB (frz:=[1]) Yo ?_ ?_<;>intro h<;>first|(exfalso;simp at h;first|done|omega)|skip)|(refine eB ?_ ?_<;>intro h<;>first|(exfalso;simp at h;first|done|omega)|skip)|refine oX (frz:=[1]) Yo ?_|refine oS ?_|refine Yn ?_|refine Yk ?_|refine cT ?_|refine cF ?_|refine Yb ?_|refine Ye ?_|refine Yd (frz:=[1]) Yo (by kernel_rfl) ?_|refine eX ?_|refine eS ?_|refine eN ?_|refine oC (cc) ?_|refine eC (cc) ?_|(refine Yt ?_;(first|refine rB ?_|refine rI ?_|refine rA ?_|refine rII ?_|refine rSI ?_|refine rT ?_|refine rS ?_);first|done|(rfl))|((exfalso;first|(simp_all<;>fail)|(simp_all;omega)))|fail)
abbrev boxX0:Ob:=.box [.d (.int .i64 0),.d .nilsl,.d (.str []),.d (.str []),.d .nilsl]
end Go.Av
end
noncomputable section
namespace Go.Av
open Go Go.Proofs
set_option maxRecDepth 10000
def isS (n:Nat):Option (AV × Option (List Ob))→Bool
 |some (.d (.str [m]),none)=>Nat.beq m n
 |_=>false
end Go.Av
end
noncomputable section
namespace Go.Av
open Go Go.Proofs
set_option maxRecDepth 10000
theorem nameF_len {s:List Nat} (h:nameF s=0):s.length≤12:=by
 unfold nameF at h
 split at h
 ·omega
 ·unfold wordF at h
  split at h
  ·omega
  ·split at h
   ·omega
   ·split at h
    ·omega
    ·omega
theorem small_len {s:List Nat} (h:smallF s=true):s.length≤12:=by
 simp only [smallF,Bool.and_eq_true,decide_eq_true_eq] at h;exact nameF_len h.1
theorem capital_len {s:List Nat} (h:capitalF s=true):s.length≤12:=by
 simp only [capitalF,Bool.and_eq_true,decide_eq_true_eq] at h;exact nameF_len h.1
structure OkG (g:Gram):Prop where
 k:1≤g.k∧g.k≤4
 tokens:g.tokens.length≤8
 tokenS:∀ s ∈ g.tokens,s.length≤12
 sep:g.sep.length≤12
 names:g.names.length≤8
 nameS:∀ s ∈ g.names,s.length≤12
 start:16≤g.start∧g.start<24
 prods:g.prods.length≤24
 left:∀ p ∈ g.prods,16≤p.left∧p.left<16+g.names.length
 right:∀ p ∈ g.prods,p.right.length≤6
 syms:∀ p ∈ g.prods,∀ s ∈ p.right,(0≤s∧s<g.tokens.length)∨(16≤s∧s<16+g.names.length)
theorem valid_ok {g:Gram} (h:checkF g=0):OkG g:=by
 unfold checkF at h
 split at h
 ·omega
 rename_i hk
 split at h
 ·exact absurd h (by assumption)
 rename_i hm
 have hm:manyF g=0:=Classical.byContradiction hm
 split at h
 ·omega
 split at h
 ·exact absurd h (by assumption)
 rename_i hn
 have hn:namesF g=0:=Classical.byContradiction hn
 have hnz:namedF g=0:=by
  unfold namesF at hn
  split at hn
  ·omega
  ·exact hn
 obtain⟨hs1,hs2⟩:=named_zero hnz
 unfold symbolsF at h
 split at h
 ·rename_i hso
  obtain⟨hst,hps⟩:=hso
  have h1:g.tokens.length≤8:=by
   rcases Nat.lt_or_ge 8 g.tokens.length with hh|hh
   ·rw [many_tok hh] at hm;cases hm
   ·exact hh
  have h2:g.names.length≤8:=by
   rcases Nat.lt_or_ge 8 g.names.length with hh|hh
   ·rw [many_nam hh] at hm;cases hm
   ·exact hh
  have h3:g.prods.length≤24:=by
   rcases Nat.lt_or_ge 24 g.prods.length with hh|hh
   ·rw [many_pro hh] at hm;cases hm
   ·exact hh
  have h4:∀ p ∈ g.prods,p.right.length≤6:=fun p hp=>by
   obtain⟨i,hi,rfl⟩:=List.getElem_of_mem hp
   rcases Nat.lt_or_ge 6 g.prods[i].right.length with hh|hh
   ·rw [many_rig (i:=i) (by simp [hi]) hh] at hm;cases hm
   ·exact hh
  simp only [isNonterm,Bool.and_eq_true,decide_eq_true_eq] at hst
  refine⟨by omega,h1,fun s hs=>small_len (hs1 s (by simp [smalls,hs])),small_len (hs1 g.sep (by simp [smalls])),h2,fun s hs=>capital_len (hs2 s hs),by omega,h3,fun p hp=>?_,h4,fun p hp s hs=>?_⟩
  ·have:=(hps p hp).1
   simp only [isNonterm,Bool.and_eq_true,decide_eq_true_eq] at this
   omega
  ·have:=(hps p hp).2 s hs
   simp only [goodS,isTerm,isNonterm,Bool.or_eq_true,Bool.and_eq_true,decide_eq_true_eq] at this
   omega
 ·cases h
end Go.Av
end
noncomputable section
namespace Go.Av
open Go Go.Proofs
set_option maxRecDepth 10000
theorem sameR9 (a b:Gram) (ha:Fits a):KnownCall Tryz.prog 24 [encG a,encG b] (.d (.bool (smG a b))):=by
 have hat:=ha.tokens
 have han:=ha.names
 have hap:=ha.prods
 have c1:=textsR9 a.tokens b.tokens (by omega)
 have c2:=textsR9 a.names b.names (by omega)
 by_cases h0:a.k=b.k∧a.tokens=b.tokens∧a.sep=b.sep∧a.names=b.names∧a.start=b.start∧a.prods.length=b.prods.length
 ·obtain⟨h1,h2,h3,h4,h5,h6⟩:=h0
  have he:smG a b=smL smP a.prods b.prods:=by simp [smG,h1,h2,h3,h4,h5]
  rw [he]
  rw [decide_eq_true h2] at c1
  rw [decide_eq_true h4] at c2
  refine knownE Yo (fnAt Tryz.func24 (by kernel_rfl) (by kernel_rfl):FnAt _ _ (mkFn Tryz.f24 [2,3])) ?_
  repeat' (first|refine Yg ?_|refine Yq ?_|(refine oB (frz:=[2,3]) Yo ?_ ?_<;>intro h<;>first|(exfalso;simp at h;first|done|omega)|skip)|(refine eB ?_ ?_<;>intro h<;>first|(exfalso;simp at h;first|done|omega)|skip)|refine oX (frz:=[2,3]) Yo ?_|refine oS ?_|refine Yn ?_|refine Yk ?_|refine cT ?_|refine cF ?_|refine Yb ?_|refine Ye ?_|refine Yd (frz:=[2,3]) Yo (by kernel_rfl) ?_|refine eX ?_|refine eS ?_|refine eN ?_|refine oC (c1) ?_|refine eC (c1) ?_|refine oC (c2) ?_|refine eC (c2) ?_|(refine Yt ?_;(first|refine rB ?_|refine rI ?_|refine rA ?_|refine rII ?_|refine rSI ?_|refine rT ?_|refine rS ?_);first|done|(skip))|((exfalso;first|(simp_all<;>fail)|(simp_all;omega)))|fail)
  refine Run.loop (fun i:Nat=>⟨PT.ofList [(2,.d (.ep [.int .i64 a.k,strs a.tokens,.str a.sep,strs a.names,.int .i64 a.start,.sl 2 (a.prods.map encP)])),(3,.d (.ep [.int .i64 b.k,strs b.tokens,.str b.sep,strs b.names,.int .i64 b.start,.sl 2 (b.prods.map encP)])),(5,.d (.int .i64 i))],[],[]⟩) (fun i=>i≤a.prods.length∧∀ j:Nat,j<i→∀ u v,a.prods[j]?=some u→b.prods[j]?=some v→smP u v=true) (fun i=>a.prods.length-i) 0 ⟨Nat.zero_le _,fun j hj=>by omega⟩ (weak_of (by repeat' (first|exact trivial|refine⟨rfl,?_⟩))) (fun i hi=>?_)
  rcases Nat.lt_or_ge i a.prods.length with hlt|hge
  ·obtain⟨x,hx⟩:=get_ok hlt
   obtain⟨y,hy⟩:=get_ok (show i<b.prods.length by omega)
   have hxr:=ha.rights x (List.mem_of_getElem? hx)
   have c3:=intsR9 x.right y.right (by omega)
   by_cases hl:x.left=y.left
   ·have hp:smP x y=decide (x.right=y.right):=by simp [smP,hl]
    cases hr:decide (x.right=y.right) with
    |true =>
     rw [hr] at c3 hp
     have ht:=upTo_succ hi.2 hx hy hp
     repeat' (first|refine Yg ?_|refine Yq ?_|(refine oB (frz:=[2,3]) Yo ?_ ?_<;>intro h<;>first|(exfalso;simp at h;first|done|omega)|skip)|(refine eB ?_ ?_<;>intro h<;>first|(exfalso;simp at h;first|done|omega)|skip)|refine oX (frz:=[2,3]) Yo ?_|refine oS ?_|refine Yn ?_|refine Yk ?_|refine cT ?_|refine cF ?_|refine Yb ?_|refine Ye ?_|refine Yd (frz:=[2,3]) Yo (by kernel_rfl) ?_|refine eX ?_|refine eS ?_|refine eN ?_|refine oX (frz:=[2,3]) (v:=.d (.ep [.int .i64 x.left,ints x.right])) Yo ?_ (hf:=(by first|(simp [inB]<;>fail)|(simp [inB];omega))) (he:=(by first|(simp [List.getD_eq_getElem?_getD,cellsD,hx,encP]<;>fail)|fail))|refine eX (v:=.d (.ep [.int .i64 x.left,ints x.right])) ?_ (hf:=(by first|(simp [inB]<;>fail)|(simp [inB];omega))) (he:=(by first|(simp [List.getD_eq_getElem?_getD,cellsD,hx,encP]<;>fail)|fail))|refine oX (frz:=[2,3]) (v:=.d (.ep [.int .i64 y.left,ints y.right])) Yo ?_ (hf:=(by first|(simp [inB]<;>fail)|(simp [inB];omega))) (he:=(by first|(simp [List.getD_eq_getElem?_getD,cellsD,hy,encP]<;>fail)|fail))|refine eX (v:=.d (.ep [.int .i64 y.left,ints y.right])) ?_ (hf:=(by first|(simp [inB]<;>fail)|(simp [inB];omega))) (he:=(by first|(simp [List.getD_eq_getElem?_getD,cellsD,hy,encP]<;>fail)|fail))|refine oC (c3) ?_|refine eC (c3) ?_|(refine Yt ?_;(first|refine rB ?_|refine rI ?_|refine rA ?_|refine rII ?_|refine rSI ?_|refine rT ?_|refine rS ?_);first|done|(skip))|(exact⟨i+1,⟨hlt,ht⟩,by omega,weak_of (by repeat' (first|exact trivial|refine⟨rfl,?_⟩|refine⟨(inc_get (k:=i) (by kernel_rfl) (by omega)),?_⟩))⟩)|((exfalso;first|(simp [hl] at h<;>fail)|(simp at h;omega)))|fail)
    |false =>
     rw [hr] at c3 hp
     rw [smL_at hx hy hp]
     repeat' (first|refine Yg ?_|refine Yq ?_|(refine oB (frz:=[2,3]) Yo ?_ ?_<;>intro h<;>first|(exfalso;simp at h;first|done|omega)|skip)|(refine eB ?_ ?_<;>intro h<;>first|(exfalso;simp at h;first|done|omega)|skip)|refine oX (frz:=[2,3]) Yo ?_|refine oS ?_|refine Yn ?_|refine Yk ?_|refine cT ?_|refine cF ?_|refine Yb ?_|refine Ye ?_|refine Yd (frz:=[2,3]) Yo (by kernel_rfl) ?_|refine eX ?_|refine eS ?_|refine eN ?_|refine oX (frz:=[2,3]) (v:=.d (.ep [.int .i64 x.left,ints x.right])) Yo ?_ (hf:=(by first|(simp [inB]<;>fail)|(simp [inB];omega))) (he:=(by first|(simp [List.getD_eq_getElem?_getD,cellsD,hx,encP]<;>fail)|fail))|refine eX (v:=.d (.ep [.int .i64 x.left,ints x.right])) ?_ (hf:=(by first|(simp [inB]<;>fail)|(simp [inB];omega))) (he:=(by first|(simp [List.getD_eq_getElem?_getD,cellsD,hx,encP]<;>fail)|fail))|refine oX (frz:=[2,3]) (v:=.d (.ep [.int .i64 y.left,ints y.right])) Yo ?_ (hf:=(by first|(simp [inB]<;>fail)|(simp [inB];omega))) (he:=(by first|(simp [List.getD_eq_getElem?_getD,cellsD,hy,encP]<;>fail)|fail))|refine eX (v:=.d (.ep [.int .i64 y.left,ints y.right])) ?_ (hf:=(by first|(simp [inB]<;>fail)|(simp [inB];omega))) (he:=(by first|(simp [List.getD_eq_getElem?_getD,cellsD,hy,encP]<;>fail)|fail))|refine oC (c3) ?_|refine eC (c3) ?_|(refine Yt ?_;(first|refine rB ?_|refine rI ?_|refine rA ?_|refine rII ?_|refine rSI ?_|refine rT ?_|refine rS ?_);first|done|(rfl))|((exfalso;first|(simp [hl] at h<;>fail)|(simp at h;omega)))|fail)
   ·have hp:smP x y=false:=by simp [smP,hl]
    have hlb:AV.d (.bool (x.left != y.left))=.d (.bool true):=by simp [hl]
    rw [smL_at hx hy hp]
    repeat' (first|refine oX (frz:=[2,3]) (v:=.d (.bool true)) Yo ?_ (he:=(hlb))|refine eX (v:=.d (.bool true)) ?_ (he:=(hlb))|refine Yg ?_|refine Yq ?_|(refine oB (frz:=[2,3]) Yo ?_ ?_<;>intro h<;>first|(exfalso;simp at h;first|done|omega)|skip)|(refine eB ?_ ?_<;>intro h<;>first|(exfalso;simp at h;first|done|omega)|skip)|refine oX (frz:=[2,3]) Yo ?_|refine oS ?_|refine Yn ?_|refine Yk ?_|refine cT ?_|refine cF ?_|refine Yb ?_|refine Ye ?_|refine Yd (frz:=[2,3]) Yo (by kernel_rfl) ?_|refine eX ?_|refine eS ?_|refine eN ?_|refine oX (frz:=[2,3]) (v:=.d (.ep [.int .i64 x.left,ints x.right])) Yo ?_ (hf:=(by first|(simp [inB]<;>fail)|(simp [inB];omega))) (he:=(by first|(simp [List.getD_eq_getElem?_getD,cellsD,hx,encP]<;>fail)|fail))|refine eX (v:=.d (.ep [.int .i64 x.left,ints x.right])) ?_ (hf:=(by first|(simp [inB]<;>fail)|(simp [inB];omega))) (he:=(by first|(simp [List.getD_eq_getElem?_getD,cellsD,hx,encP]<;>fail)|fail))|refine oX (frz:=[2,3]) (v:=.d (.ep [.int .i64 y.left,ints y.right])) Yo ?_ (hf:=(by first|(simp [inB]<;>fail)|(simp [inB];omega))) (he:=(by first|(simp [List.getD_eq_getElem?_getD,cellsD,hy,encP]<;>fail)|fail))|refine eX (v:=.d (.ep [.int .i64 y.left,ints y.right])) ?_ (hf:=(by first|(simp [inB]<;>fail)|(simp [inB];omega))) (he:=(by first|(simp [List.getD_eq_getElem?_getD,cellsD,hy,encP]<;>fail)|fail))|(refine Yt ?_;(first|refine rB ?_|refine rI ?_|refine rA ?_|refine rII ?_|refine rSI ?_|refine rT ?_|refine rS ?_);first|done|(rfl))|((exfalso;(simp at h<;>omega)))|fail)
  ·rw [upTo_all h6 hge hi.2]
   have hie:i=a.prods.length:=by have:=hi.1;omega
   subst hie
   repeat' (first|refine Yg ?_|refine Yq ?_|(refine oB (frz:=[2,3]) Yo ?_ ?_<;>intro h<;>first|(exfalso;simp at h;first|done|omega)|skip)|(refine eB ?_ ?_<;>intro h<;>first|(exfalso;simp at h;first|done|omega)|skip)|refine oX (frz:=[2,3]) Yo ?_|refine oS ?_|refine Yn ?_|refine Yk ?_|refine cT ?_|refine cF ?_|refine Yb ?_|refine Ye ?_|refine Yd (frz:=[2,3]) Yo (by kernel_rfl) ?_|refine eX ?_|refine eS ?_|refine eN ?_|(refine Yt ?_;(first|refine rB ?_|refine rI ?_|refine rA ?_|refine rII ?_|refine rSI ?_|refine rT ?_|refine rS ?_);first|done|(rfl))|((exfalso;(simp at h<;>omega)))|fail)
 ·have hf:smG a b=false:=by
   cases hb:smG a b with
   |false=>rfl
   |true =>
    simp only [smG,Bool.and_eq_true,decide_eq_true_eq] at hb
    obtain⟨⟨⟨⟨⟨g1,g2⟩,g3⟩,g4⟩,g5⟩,g6⟩:=hb
    refine absurd ⟨g1,g2,g3,g4,g5,Classical.byContradiction fun hl=>?_⟩ h0
    rw [smL_len hl] at g6;cases g6
  rw [hf]
  generalize hbt:decide (a.tokens=b.tokens)=bt at c1
  generalize hbn:decide (a.names=b.names)=bn at c2
  refine knownE Yo (fnAt Tryz.func24 (by kernel_rfl) (by kernel_rfl):FnAt _ _ (mkFn Tryz.f24 [2,3])) ?_
  repeat' (first|refine Yg ?_|refine Yq ?_|(refine oB (frz:=[2,3]) Yo ?_ ?_<;>intro h<;>first|(exfalso;simp at h;first|done|omega)|skip)|(refine eB ?_ ?_<;>intro h<;>first|(exfalso;simp at h;first|done|omega)|skip)|refine oX (frz:=[2,3]) Yo ?_|refine oS ?_|refine Yn ?_|refine Yk ?_|refine cT ?_|refine cF ?_|refine Yb ?_|refine Ye ?_|refine Yd (frz:=[2,3]) Yo (by kernel_rfl) ?_|refine eX ?_|refine eS ?_|refine eN ?_|(refine oK (c1) ?_ ?_<;>intro h<;>first|(exfalso;simp at h;first|done|omega)|skip)|refine oC (c1) ?_|(refine eK (c1) ?_ ?_<;>intro h<;>first|(exfalso;simp at h;first|done|omega)|skip)|refine eC (c1) ?_|(refine oK (c2) ?_ ?_<;>intro h<;>first|(exfalso;simp at h;first|done|omega)|skip)|refine oC (c2) ?_|(refine eK (c2) ?_ ?_<;>intro h<;>first|(exfalso;simp at h;first|done|omega)|skip)|refine eC (c2) ?_|(refine Yt ?_;(first|refine rB ?_|refine rI ?_|refine rA ?_|refine rII ?_|refine rSI ?_|refine rT ?_|refine rS ?_);first|done|(rfl))|fail)
  exfalso
  rename_i g1 g2 g3 g4 g5 g6 g7
  have e1:=g1
  simp at e1
  have e4:=g4
  simp at e4
  have e7:=g7
  simp at e7
  have e8:=h
  simp at e8
  exact h0 ⟨e1,of_decide_eq_true (hbt.trans g2),e4,of_decide_eq_true (hbn.trans g5),by omega,by omega⟩
def altsG (g:Gram) (r:Nat):List (List (List Nat)):=(prodsF g (16+r)).map fun p=>(g.prods.getD p ⟨0,[]⟩).right.map (nameS g)
def ruleG (g:Gram) (r:Nat):SRule:=⟨g.names.getD r [],altsG g r⟩
def srcG (g:Gram):Src:=⟨g.k,g.tokens,g.sep,nameS g g.start,(List.range g.names.length).map (ruleG g)⟩
def x0:Src:=⟨0,[],[],[],[]⟩
def srcR (g:Gram):Src:=if checkF g=0 then srcG g else x0
theorem zeroX:DvN (.agg [.int .i64 0,.nilsl,.str [],.str [],.nilsl]) (encX x0) :=
 .agg rfl fun j x y hx hy=>by
  match j with
  |0|2|3=>simp [x0] at hx hy;subst hx hy;exact .refl
  |1|4=>simp [x0,strs] at hx hy;subst hx hy;exact .nil
  |j+5=>simp at hx
theorem symName_some {g:Gram} (h:OkG g) {s:Int} (hs:(0≤s∧s<g.tokens.length)∨(16≤s∧s<16+g.names.length)):symName g s=some (nameS g s):=by
 have:∃ x,symName g s=some x:=by
  have:=h.tokens
  unfold symName
  rcases hs with⟨h1,h2⟩|⟨h1,h2⟩
  ·rw [if_neg (by omega),if_pos h1]
   exact get_ok (by omega)
  ·rw [if_pos h1]
   exact get_ok (by omega)
 obtain⟨x,hx⟩:=this
 rw [hx,nameS_of hx]
theorem symName_start {g:Gram} (h0:checkF g=0):symName g g.start=some (nameS g g.start):=by
 have hv:=valid_ok h0
 refine symName_some hv (.inr ⟨hv.start.1,?_⟩)
 have hso:symbolsF g=0:=by
  unfold checkF at h0
  split at h0
  ·omega
  ·split at h0
   ·exact absurd h0 (by assumption)
   ·split at h0
    ·omega
    ·split at h0
     ·exact absurd h0 (by assumption)
     ·exact h0
 unfold symbolsF at hso
 split at hso
 ·rename_i hh
  have:=hh.1
  simp only [isNonterm,Bool.and_eq_true,decide_eq_true_eq] at this
  omega
 ·cases hso
theorem mem_prodsF {g:Gram} {s:Int} {p:Nat} (h:p ∈ prodsF g s):∃ q,g.prods[p]?=some q∧q.left=s:=by
 simp only [prodsF,prodsTo,List.take_length,List.mem_map,List.mem_filter,decide_eq_true_eq] at h
 obtain⟨⟨q,i⟩,⟨h1,h2⟩,rfl⟩:=h
 have:=List.mem_zipIdx h1
 exact⟨q,by rw [this.2.2];simp,h2⟩
abbrev rmG (g:Gram):Ob:=.room (([]:List DV).length+(g.tokens.map DV.str).length) 1
abbrev boxS (g:Gram) (st:List Nat) (rs:AV):Ob:=.box [.d (.int .i64 g.k),.sr 1 1 ([]++g.tokens.map DV.str),.d (.str g.sep),.d (.str st),rs]
theorem rngS {α:Type} (f:Nat→α) (n:Nat):(List.range (n+1)).map f=(List.range n).map f++[f n]:=by rw [List.range_succ,List.map_append];rfl
theorem getD_some {α:Type} {l:List α} {i:Nat} {x d:α} (h:l[i]?=some x):l.getD i d=x:=by rw [List.getD_eq_getElem?_getD,h];rfl
set_option maxHeartbeats 4000000 in
theorem srcRef0 (g:Gram) (hf:Fits g) (h0:checkF g=0):KnownCall Tryz.prog 17 [encG g] (.tup [.d (encX (srcG g)),.d (.int .i64 0)]):=by
 have cc:=refCheck g hf
 rw [h0] at cc
 have hv:=valid_ok h0
 have htl:=hv.tokens
 have hnl:=hv.names
 have hpl:=hv.prods
 obtain⟨st,hst⟩:∃ st,st=nameS g g.start:=⟨_,rfl⟩
 have hs0:symName g g.start=some st:=by rw [hst];exact symName_start h0
 have cn:=refName g g.start st hf hs0
 have he:encX (srcG g)=.agg [.int .i64 g.k,strs g.tokens,.str g.sep,.str st,.sl 2 (((List.range g.names.length).map (ruleG g)).map encR)]:=by rw [hst];rfl
 rw [he]
 refine knownE Yo (fnAt Tryz.func17 (by kernel_rfl) (by kernel_rfl):FnAt _ _ (mkFn Tryz.f17 [1,77,82,88])) ?_
 repeat' (first|refine Yg ?_|refine Yq ?_|(refine oB (frz:=[1,77,82,88]) Yo ?_ ?_<;>intro h<;>first|(exfalso;simp at h;first|done|omega)|skip)|(refine eB ?_ ?_<;>intro h<;>first|(exfalso;simp at h;first|done|omega)|skip)|refine oX (frz:=[1,77,82,88]) Yo ?_|refine oS ?_|refine Yn ?_|refine Yk ?_|refine cT ?_|refine cF ?_|refine Yb ?_|refine Ye ?_|refine Yd (frz:=[1,77,82,88]) Yo (by kernel_rfl) ?_|refine eX ?_|refine eS ?_|refine eN ?_|refine oC (cc) ?_|refine eC (cc) ?_|refine oC (cn) ?_|refine eC (cn) ?_|refine oX (frz:=[1,77,82,88]) Yo ?_ (hv:=app1) (hf:=rfl) (he:=rfl)|refine eX ?_ (hv:=app1) (hf:=rfl) (he:=rfl)|refine oX (frz:=[1,77,82,88]) Yo ?_ (hv:=app0) (hf:=rfl) (he:=rfl)|refine eX ?_ (hv:=app0) (hf:=rfl) (he:=rfl)|(refine Yt ?_;(first|refine rB ?_|refine rI ?_|refine rA ?_|refine rII ?_|refine rSI ?_|refine rT ?_|refine rS ?_);first|done|(skip))|((exfalso;(simp at h<;>omega)))|fail)
 refine Run.cellRoom 2 4 2 ?_
 refine Run.loopT (fun y:Nat × List DV=>⟨PT.ofList [(1,(.d (.ep [.int .i64 g.k,strs g.tokens,.str g.sep,strs g.names,.int .i64 g.start,.sl 2 (g.prods.map encP)]))),(2,.bp 0 0),(3,.d (.int .i64 0)),(5,.bp 2 0),(6,.d (.int .i64 y.1))],[boxX0,rmG g,boxS g st (.sr 3 2 y.2),.room y.2.length 2],[]⟩) (fun y=>y.1≤g.names.length∧y.2=((List.range y.1).map (ruleG g)).map encR) (fun y=>g.names.length-y.1) (0,[]) ⟨Nat.zero_le _,rfl⟩ (tidy_of (objs:=_) _ 4 (by rfl) rfl (by repeat' (first|exact trivial|refine⟨(Or.inl rfl),?_⟩|refine⟨(Or.inr rfl),?_⟩|fail)) (by repeat' (first|exact trivial|refine⟨rfl,?_⟩|fail)) rfl rfl) (fun y hy=>?_)
 obtain⟨i,acc⟩:=y
 obtain⟨hi1,hi2⟩:=hy
 simp only at hi1 hi2 ⊢
 have hal:acc.length=i:=by rw [hi2];simp
 rcases Nat.lt_or_ge i g.names.length with hlt|hge
 ·obtain⟨nm,hnm⟩:=get_ok hlt
  have hi16:AV.d (.int .i64 (IntKind.i64.wrap (16+(i:Int))))=.d (.int .i64 ((16+i:Nat):Int)):=vN8 (by omega) (by omega)
  have cp:=refProds g ((16+i:Nat):Int) hf
  have hpm:∀ p ∈ prodsF g ((16+i:Nat):Int),∃ q,g.prods[p]?=some q∧q.left=((16+i:Nat):Int):=fun p hp=>mem_prodsF hp
  have hpe:altsG g i=(prodsF g ((16+i:Nat):Int)).map fun p=>(g.prods.getD p ⟨0,[]⟩).right.map (nameS g):=by unfold altsG;rw [show(16:Int)+(i:Int)=((16+i:Nat):Int) by omega]
  have hpll:=prodsTo_len g ((16+i:Nat):Int) g.prods.length
  change (prodsF g ((16+i:Nat):Int)).length≤_ at hpll
  generalize prodsF g ((16+i:Nat):Int)=l at cp hpm hpe hpll
  repeat' (first|refine oX (frz:=[1,77,82,88]) (v:=.d (.int .i64 ((16+i:Nat):Int))) Yo ?_ (he:=(hi16))|refine eX (v:=.d (.int .i64 ((16+i:Nat):Int))) ?_ (he:=(hi16))|refine Yg ?_|refine Yq ?_|(refine oB (frz:=[1,77,82,88]) Yo ?_ ?_<;>intro h<;>first|(exfalso;simp at h;first|done|omega)|skip)|(refine eB ?_ ?_<;>intro h<;>first|(exfalso;simp at h;first|done|omega)|skip)|refine oX (frz:=[1,77,82,88]) Yo ?_|refine oS ?_|refine Yn ?_|refine Yk ?_|refine cT ?_|refine cF ?_|refine Yb ?_|refine Ye ?_|refine Yd (frz:=[1,77,82,88]) Yo (by kernel_rfl) ?_|refine eX ?_|refine eS ?_|refine eN ?_|refine oX (frz:=[1,77,82,88]) (v:=.d (.ep [.str nm])) Yo ?_ (hf:=(by first|(simp [inB]<;>fail)|(simp [inB];omega))) (he:=(by first|(simp [List.getD_eq_getElem?_getD,cellsD,hnm]<;>fail)|fail))|refine eX (v:=.d (.ep [.str nm])) ?_ (hf:=(by first|(simp [inB]<;>fail)|(simp [inB];omega))) (he:=(by first|(simp [List.getD_eq_getElem?_getD,cellsD,hnm]<;>fail)|fail))|refine oC (cp) ?_|refine eC (cp) ?_|(refine Yt ?_;(first|refine rB ?_|refine rI ?_|refine rA ?_|refine rII ?_|refine rSI ?_|refine rT ?_|refine rS ?_);first|done|(skip))|((exfalso;(simp at h<;>omega)))|fail)
  refine Run.cellRoom 4 1 1 ?_
  refine Run.loopT (fun z:Nat × List DV=>⟨PT.ofList [(1,(.d (.ep [.int .i64 g.k,strs g.tokens,.str g.sep,strs g.names,.int .i64 g.start,.sl 2 (g.prods.map encP)]))),(2,.bp 0 0),(3,.d (.int .i64 0)),(5,.bp 2 0),(6,.d (.int .i64 i)),(7,.bp 4 0),(8,.d (.sl 1 (natsD l))),(9,.d (.int .i64 z.1))],[boxX0,rmG g,boxS g st (.sr 3 2 acc),.room acc.length 2,.box [.d (.str nm),.sr 5 1 z.2],.room z.2.length 1],[]⟩) (fun z=>z.1≤l.length∧z.2=(l.take z.1).map fun p=>strs ((g.prods.getD p ⟨0,[]⟩).right.map (nameS g))) (fun z=>l.length-z.1) (0,[]) ⟨Nat.zero_le _,rfl⟩ (tidy_of (objs:=_) _ 6 (by rfl) rfl (by repeat' (first|exact trivial|refine⟨(Or.inl rfl),?_⟩|refine⟨(Or.inr rfl),?_⟩|fail)) (by repeat' (first|exact trivial|refine⟨rfl,?_⟩|fail)) rfl rfl) (fun z hz=>?_)
  obtain⟨k,es⟩:=z
  obtain⟨hk1,hk2⟩:=hz
  simp only at hk1 hk2 ⊢
  have hel:es.length≤k:=by rw [hk2];simp;omega
  rcases Nat.lt_or_ge k l.length with hkl|hkg
  ·obtain⟨p,hp⟩:=get_ok hkl
   obtain⟨q,hq,hql⟩:=hpm p (List.mem_of_getElem? hp)
   have hqm:=List.mem_of_getElem? hq
   have hq6:=hv.right q hqm
   have hpn:=(List.getElem?_eq_some_iff.1 hq).1
   repeat' (first|refine Yg ?_|refine Yq ?_|(refine oB (frz:=[1,77,82,88]) Yo ?_ ?_<;>intro h<;>first|(exfalso;simp at h;first|done|omega)|skip)|(refine eB ?_ ?_<;>intro h<;>first|(exfalso;simp at h;first|done|omega)|skip)|refine oX (frz:=[1,77,82,88]) Yo ?_|refine oS ?_|refine Yn ?_|refine Yk ?_|refine cT ?_|refine cF ?_|refine Yb ?_|refine Ye ?_|refine Yd (frz:=[1,77,82,88]) Yo (by kernel_rfl) ?_|refine eX ?_|refine eS ?_|refine eN ?_|refine oX (frz:=[1,77,82,88]) (v:=.d (.ep [.int .i64 (p:Nat)])) Yo ?_ (hf:=(by first|(simp [inB]<;>fail)|(simp [inB];omega))) (he:=(by first|(simp [List.getD_eq_getElem?_getD,cellsD,hp]<;>fail)|fail))|refine eX (v:=.d (.ep [.int .i64 (p:Nat)])) ?_ (hf:=(by first|(simp [inB]<;>fail)|(simp [inB];omega))) (he:=(by first|(simp [List.getD_eq_getElem?_getD,cellsD,hp]<;>fail)|fail))|refine oX (frz:=[1,77,82,88]) (v:=.d (.ep [.int .i64 q.left,ints q.right])) Yo ?_ (hf:=(by first|(simp [inB]<;>fail)|(simp [inB];omega))) (he:=(by first|(simp [List.getD_eq_getElem?_getD,cellsD,hq,encP]<;>fail)|fail))|refine eX (v:=.d (.ep [.int .i64 q.left,ints q.right])) ?_ (hf:=(by first|(simp [inB]<;>fail)|(simp [inB];omega))) (he:=(by first|(simp [List.getD_eq_getElem?_getD,cellsD,hq,encP]<;>fail)|fail))|(refine Yt ?_;(first|refine rB ?_|refine rI ?_|refine rA ?_|refine rII ?_|refine rSI ?_|refine rT ?_|refine rS ?_);first|done|(skip))|((exfalso;(simp at h<;>omega)))|fail)
   refine Run.mkRoom 10 1 [(1,(.d (.ep [.int .i64 g.k,strs g.tokens,.str g.sep,strs g.names,.int .i64 g.start,.sl 2 (g.prods.map encP)]))),(2,.bp 0 0),(3,.d (.int .i64 0)),(5,.bp 2 0),(6,.d (.int .i64 i)),(7,.bp 4 0),(8,.d (.sl 1 (natsD l))),(9,.d (.int .i64 k)),(10,.sr 6 1 []),(11,.d (ints q.right)),(12,.d (.int .i64 (0:Nat)))] (by kernel_rfl) (ofList_cases (by intro p hp;simp only [List.mem_cons,List.not_mem_nil,or_false] at hp;rcases hp with rfl|rfl|rfl|rfl|rfl|rfl|rfl|rfl|rfl|rfl|rfl<;>first|exact .inl ⟨rfl,rfl⟩|exact .inr (by kernel_rfl))) ?_
   refine Run.loopT (fun u:Nat × List DV=>⟨PT.ofList [(1,(.d (.ep [.int .i64 g.k,strs g.tokens,.str g.sep,strs g.names,.int .i64 g.start,.sl 2 (g.prods.map encP)]))),(2,.bp 0 0),(3,.d (.int .i64 0)),(5,.bp 2 0),(6,.d (.int .i64 i)),(7,.bp 4 0),(8,.d (.sl 1 (natsD l))),(9,.d (.int .i64 k)),(10,.sr 6 1 u.2),(11,.d (ints q.right)),(12,.d (.int .i64 u.1))],[boxX0,rmG g,boxS g st (.sr 3 2 acc),.room acc.length 2,.box [.d (.str nm),.sr 5 1 es],.room es.length 1,.room u.2.length 1],[]⟩) (fun u=>u.1≤q.right.length∧u.2=(q.right.take u.1).map fun s=>.str (nameS g s)) (fun u=>q.right.length-u.1) (0,[]) ⟨Nat.zero_le _,rfl⟩ (tidy_of (objs:=_) _ 7 (by rfl) rfl (by repeat' (first|exact trivial|refine⟨(Or.inl rfl),?_⟩|refine⟨(Or.inr rfl),?_⟩|fail)) (by repeat' (first|exact trivial|refine⟨rfl,?_⟩|fail)) rfl rfl) (fun u hu=>?_)
   obtain⟨j,ns⟩:=u
   obtain⟨hj1,hj2⟩:=hu
   simp only at hj1 hj2 ⊢
   have hnsl:ns.length≤j:=by rw [hj2];simp;omega
   rcases Nat.lt_or_ge j q.right.length with hjl|hjg
   ·obtain⟨s,hs⟩:=get_ok hjl
    have hsn:=symName_some hv (hv.syms q hqm s (List.mem_of_getElem? hs))
    have cs:=refName g s (nameS g s) hf hsn
    have hnx:ns++[.str (nameS g s)]=(q.right.take (j+1)).map fun s=>DV.str (nameS g s):=by rw [List.take_add_one,hs,hj2];simp
    repeat' (first|refine Yg ?_|refine Yq ?_|(refine oB (frz:=[1,77,82,88]) Yo ?_ ?_<;>intro h<;>first|(exfalso;simp at h;first|done|omega)|skip)|(refine eB ?_ ?_<;>intro h<;>first|(exfalso;simp at h;first|done|omega)|skip)|refine oX (frz:=[1,77,82,88]) Yo ?_|refine oS ?_|refine Yn ?_|refine Yk ?_|refine cT ?_|refine cF ?_|refine Yb ?_|refine Ye ?_|refine Yd (frz:=[1,77,82,88]) Yo (by kernel_rfl) ?_|refine eX ?_|refine eS ?_|refine eN ?_|refine oX (frz:=[1,77,82,88]) (v:=.d (.ep [.int .i64 s])) Yo ?_ (hf:=(by first|(simp [inB]<;>fail)|(simp [inB];omega))) (he:=(by first|(simp [List.getD_eq_getElem?_getD,cellsD,hs]<;>fail)|fail))|refine eX (v:=.d (.ep [.int .i64 s])) ?_ (hf:=(by first|(simp [inB]<;>fail)|(simp [inB];omega))) (he:=(by first|(simp [List.getD_eq_getElem?_getD,cellsD,hs]<;>fail)|fail))|refine oC (cs) ?_|refine eC (cs) ?_|refine oX (frz:=[1,77,82,88]) Yo ?_ (hv:=app1) (hf:=rfl) (he:=rfl)|refine eX ?_ (hv:=app1) (hf:=rfl) (he:=rfl)|refine oX (frz:=[1,77,82,88]) Yo ?_ (hv:=app0) (hf:=rfl) (he:=rfl)|refine eX ?_ (hv:=app0) (hf:=rfl) (he:=rfl)|(refine Yt ?_;(first|refine rB ?_|refine rI ?_|refine rA ?_|refine rII ?_|refine rSI ?_|refine rT ?_|refine rS ?_);first|done|(skip))|((exfalso;(simp at h<;>omega)))|fail)
    exact⟨(j+1,ns++[.str (nameS g s)]),⟨hjl,hnx⟩,by simp only<;>omega,(tidy_of (objs:=_) _ 7 (Eq.trans (b:=[boxX0,rmG g,boxS g st (.sr 3 2 acc),.room acc.length 2,.box [.d (.str nm),.sr 5 1 es],.room es.length 1,.room (ns.length+1) 1]) rfl (by simp)) rfl (by repeat' (first|exact trivial|refine⟨(Or.inl rfl),?_⟩|refine⟨(Or.inl (inc_get (k:=j) (by kernel_rfl) (by omega))),?_⟩|refine⟨(Or.inr rfl),?_⟩|fail)) (by repeat' (first|exact trivial|refine⟨rfl,?_⟩|fail)) rfl rfl)⟩
   ·have hje:j=q.right.length:=by omega
    have hns:ns=(q.right.map (nameS g)).map DV.str:=by rw [hj2,hje,List.take_length,List.map_map];rfl
    have hnx:es++[.sl 1 ns]=(l.take (k+1)).map fun p=>strs ((g.prods.getD p ⟨0,[]⟩).right.map (nameS g)):=by rw [List.take_add_one,hp,hk2,hns];simp [hq]
    repeat (first|refine Yq ?_|refine Yg ?_|refine Yn ?_|refine Yk ?_|refine cT ?_|refine cF ?_|refine Yb ?_|refine Ye ?_)
    iterate 3 refine oX (frz:=[1,77,82,88]) Yo ?_
    refine oX (frz:=[1,77,82,88]) (v:=.d (.bool false)) Yo ?_ (he:=vF8 (by simp<;>omega))
    repeat (first|refine Yq ?_|refine Yg ?_|refine Yn ?_|refine Yk ?_|refine cT ?_|refine cF ?_|refine Yb ?_|refine Ye ?_)
    first|refine Run.tidy (tidy_of (objs:=_) [(1,(.d (.ep [.int .i64 g.k,strs g.tokens,.str g.sep,strs g.names,.int .i64 g.start,.sl 2 (g.prods.map encP)]))),(2,.bp 0 0),(3,.d (.int .i64 0)),(5,.bp 2 0),(6,.d (.int .i64 i)),(7,.bp 4 0),(8,.d (.sl 1 (natsD l))),(9,.d (.int .i64 k)),(10,.d (.sl 1 ns))] 6 (Eq.trans (b:=[boxX0,rmG g,boxS g st (.sr 3 2 acc),.room acc.length 2,.box [.d (.str nm),.sr 5 1 es],.room es.length 1]) rfl rfl) rfl (by repeat' (first|exact trivial|refine⟨(Or.inl rfl),?_⟩|refine⟨(Or.inr rfl),?_⟩|refine⟨rfl,?_⟩|fail)) (by repeat' (first|exact trivial|refine⟨(Or.inl rfl),?_⟩|refine⟨(Or.inr rfl),?_⟩|refine⟨rfl,?_⟩|fail)) rfl rfl) ?_|refine RunOps.tidy (tidy_of (objs:=_) [(1,(.d (.ep [.int .i64 g.k,strs g.tokens,.str g.sep,strs g.names,.int .i64 g.start,.sl 2 (g.prods.map encP)]))),(2,.bp 0 0),(3,.d (.int .i64 0)),(5,.bp 2 0),(6,.d (.int .i64 i)),(7,.bp 4 0),(8,.d (.sl 1 (natsD l))),(9,.d (.int .i64 k)),(10,.d (.sl 1 ns))] 6 (Eq.trans (b:=[boxX0,rmG g,boxS g st (.sr 3 2 acc),.room acc.length 2,.box [.d (.str nm),.sr 5 1 es],.room es.length 1]) rfl rfl) rfl (by repeat' (first|exact trivial|refine⟨(Or.inl rfl),?_⟩|refine⟨(Or.inr rfl),?_⟩|refine⟨rfl,?_⟩|fail)) (by repeat' (first|exact trivial|refine⟨(Or.inl rfl),?_⟩|refine⟨(Or.inr rfl),?_⟩|refine⟨rfl,?_⟩|fail)) rfl rfl) ?_
    repeat' (first|refine Yg ?_|refine Yq ?_|(refine oB (frz:=[1,77,82,88]) Yo ?_ ?_<;>intro h<;>first|(exfalso;simp at h;first|done|omega)|skip)|(refine eB ?_ ?_<;>intro h<;>first|(exfalso;simp at h;first|done|omega)|skip)|refine oX (frz:=[1,77,82,88]) Yo ?_|refine oS ?_|refine Yn ?_|refine Yk ?_|refine cT ?_|refine cF ?_|refine Yb ?_|refine Ye ?_|refine Yd (frz:=[1,77,82,88]) Yo (by kernel_rfl) ?_|refine eX ?_|refine eS ?_|refine eN ?_|refine oX (frz:=[1,77,82,88]) Yo ?_ (hv:=app1) (hf:=rfl) (he:=rfl)|refine eX ?_ (hv:=app1) (hf:=rfl) (he:=rfl)|refine oX (frz:=[1,77,82,88]) Yo ?_ (hv:=app0) (hf:=rfl) (he:=rfl)|refine eX ?_ (hv:=app0) (hf:=rfl) (he:=rfl)|(refine Yt ?_;(first|refine rB ?_|refine rI ?_|refine rA ?_|refine rII ?_|refine rSI ?_|refine rT ?_|refine rS ?_);first|done|(skip))|((exfalso;(simp at h<;>omega)))|fail)
    exact⟨(k+1,es++[.sl 1 ns]),⟨hkl,hnx⟩,by simp only<;>omega,(tidy_of (objs:=_) _ 6 (Eq.trans (b:=[boxX0,rmG g,boxS g st (.sr 3 2 acc),.room acc.length 2,.box [.d (.str nm),.sr 5 1 (es++[.sl 1 ns])],.room (es.length+1) 1]) rfl (by simp)) rfl (by repeat' (first|exact trivial|refine⟨(Or.inl rfl),?_⟩|refine⟨(Or.inl (inc_get (k:=k) (by kernel_rfl) (by omega))),?_⟩|refine⟨(Or.inr rfl),?_⟩|fail)) (by repeat' (first|exact trivial|refine⟨rfl,?_⟩|fail)) rfl rfl)⟩
  ·have hke:k=l.length:=by omega
   have hes:DV.sl 1 es=alts (altsG g i):=by
    rw [hk2,hke,List.take_length,hpe]
    show _=DV.sl 1 (List.map strs (List.map _ l))
    rw [List.map_map];rfl
   have hnx:acc++[.agg [.str nm,.sl 1 es]]=((List.range (i+1)).map (ruleG g)).map encR:=by
    rw [rngS,List.map_append,hi2,hes]
    show _=_++[encR (ruleG g i)]
    rw [ruleG,getD_some hnm];rfl
   repeat (first|refine Yq ?_|refine Yg ?_|refine Yn ?_|refine Yk ?_|refine cT ?_|refine cF ?_|refine Yb ?_|refine Ye ?_)
   iterate 3 refine oX (frz:=[1,77,82,88]) Yo ?_
   refine oX (frz:=[1,77,82,88]) (v:=.d (.bool false)) Yo ?_ (he:=vF8 (by simp<;>omega))
   repeat (first|refine Yq ?_|refine Yg ?_|refine Yn ?_|refine Yk ?_|refine cT ?_|refine cF ?_|refine Yb ?_|refine Ye ?_)
   iterate 3 refine oX (frz:=[1,77,82,88]) Yo ?_
   first|refine Run.tidy (tidy_of (objs:=_) [(1,(.d (.ep [.int .i64 g.k,strs g.tokens,.str g.sep,strs g.names,.int .i64 g.start,.sl 2 (g.prods.map encP)]))),(2,.bp 0 0),(3,.d (.int .i64 0)),(5,.bp 2 0),(6,.d (.int .i64 i)),(86,.sr 3 2 acc),(87,.d (.agg [.str nm,.sl 1 es]))] 4 (Eq.trans (b:=[boxX0,rmG g,boxS g st (.sr 3 2 acc),.room acc.length 2]) rfl rfl) rfl (by repeat' (first|exact trivial|refine⟨(Or.inl rfl),?_⟩|refine⟨(Or.inr rfl),?_⟩|refine⟨rfl,?_⟩|fail)) (by repeat' (first|exact trivial|refine⟨(Or.inl rfl),?_⟩|refine⟨(Or.inr rfl),?_⟩|refine⟨rfl,?_⟩|fail)) rfl rfl) ?_|refine RunOps.tidy (tidy_of (objs:=_) [(1,(.d (.ep [.int .i64 g.k,strs g.tokens,.str g.sep,strs g.names,.int .i64 g.start,.sl 2 (g.prods.map encP)]))),(2,.bp 0 0),(3,.d (.int .i64 0)),(5,.bp 2 0),(6,.d (.int .i64 i)),(86,.sr 3 2 acc),(87,.d (.agg [.str nm,.sl 1 es]))] 4 (Eq.trans (b:=[boxX0,rmG g,boxS g st (.sr 3 2 acc),.room acc.length 2]) rfl rfl) rfl (by repeat' (first|exact trivial|refine⟨(Or.inl rfl),?_⟩|refine⟨(Or.inr rfl),?_⟩|refine⟨rfl,?_⟩|fail)) (by repeat' (first|exact trivial|refine⟨(Or.inl rfl),?_⟩|refine⟨(Or.inr rfl),?_⟩|refine⟨rfl,?_⟩|fail)) rfl rfl) ?_
   repeat' (first|refine Yg ?_|refine Yq ?_|(refine oB (frz:=[1,77,82,88]) Yo ?_ ?_<;>intro h<;>first|(exfalso;simp at h;first|done|omega)|skip)|(refine eB ?_ ?_<;>intro h<;>first|(exfalso;simp at h;first|done|omega)|skip)|refine oX (frz:=[1,77,82,88]) Yo ?_|refine oS ?_|refine Yn ?_|refine Yk ?_|refine cT ?_|refine cF ?_|refine Yb ?_|refine Ye ?_|refine Yd (frz:=[1,77,82,88]) Yo (by kernel_rfl) ?_|refine eX ?_|refine eS ?_|refine eN ?_|refine oX (frz:=[1,77,82,88]) Yo ?_ (hv:=app1) (hf:=rfl) (he:=rfl)|refine eX ?_ (hv:=app1) (hf:=rfl) (he:=rfl)|refine oX (frz:=[1,77,82,88]) Yo ?_ (hv:=app0) (hf:=rfl) (he:=rfl)|refine eX ?_ (hv:=app0) (hf:=rfl) (he:=rfl)|(refine Yt ?_;(first|refine rB ?_|refine rI ?_|refine rA ?_|refine rII ?_|refine rSI ?_|refine rT ?_|refine rS ?_);first|done|(skip))|((exfalso;(simp at h<;>omega)))|fail)
   exact⟨(i+1,acc++[.agg [.str nm,.sl 1 es]]),⟨hlt,hnx⟩,by simp only<;>omega,(tidy_of (objs:=_) _ 4 (Eq.trans (b:=[boxX0,rmG g,boxS g st (.sr 3 2 (acc++[.agg [.str nm,.sl 1 es]])),.room (acc.length+1) 2]) rfl (by simp)) rfl (by repeat' (first|exact trivial|refine⟨(Or.inl rfl),?_⟩|refine⟨(Or.inl (inc_get (k:=i) (by kernel_rfl) (by omega))),?_⟩|refine⟨(Or.inr rfl),?_⟩|fail)) (by repeat' (first|exact trivial|refine⟨rfl,?_⟩|fail)) rfl rfl)⟩
 ·have hie:i=g.names.length:=by omega
  have hae:((List.range g.names.length).map (ruleG g)).map encR=acc:=by rw [hi2,hie]
  rw [hae]
  repeat' (first|refine Yg ?_|refine Yq ?_|(refine oB (frz:=[1,77,82,88]) Yo ?_ ?_<;>intro h<;>first|(exfalso;simp at h;first|done|omega)|skip)|(refine eB ?_ ?_<;>intro h<;>first|(exfalso;simp at h;first|done|omega)|skip)|refine oX (frz:=[1,77,82,88]) Yo ?_|refine oS ?_|refine Yn ?_|refine Yk ?_|refine cT ?_|refine cF ?_|refine Yb ?_|refine Ye ?_|refine Yd (frz:=[1,77,82,88]) Yo (by kernel_rfl) ?_|refine eX ?_|refine eS ?_|refine eN ?_|(refine Yt ?_;(first|refine rB ?_|refine rI ?_|refine rA ?_|refine rII ?_|refine rSI ?_|refine rT ?_|refine rS ?_);first|done|(rfl))|((exfalso;(simp at h<;>omega)))|fail)
theorem srcRef (g:Gram) (hf:Fits g):KnownCall Tryz.prog 17 [encG g] (.tup [.d (encX (srcR g)),.d (.int .i64 (checkF g))]):=by
 by_cases h0:checkF g=0
 ·rw [show srcR g=srcG g from if_pos h0,h0]
  exact srcRef0 g hf h0
 ·rw [show srcR g=x0 from if_neg h0]
  have cc:=refCheck g hf
  generalize checkF g=c at cc h0 ⊢
  refine known_toN2 ?_ zeroX
  refine knownE Yo (fnAt Tryz.func17 (by kernel_rfl) (by kernel_rfl):FnAt _ _ (mkFn Tryz.f17 [1])) ?_
  repeat' (first|refine Yg ?_|refine Yq ?_|(refine oB (frz:=[1]) Yo ?_ ?_<;>intro h<;>first|(exfalso;simp at h;first|done|omega)|skip)|(refine eB ?_ ?_<;>intro h<;>first|(exfalso;simp at h;first|done|omega)|skip)|refine oX (frz:=[1]) Yo ?_|refine oS ?_|refine Yn ?_|refine Yk ?_|refine cT ?_|refine cF ?_|refine Yb ?_|refine Ye ?_|refine Yd (frz:=[1]) Yo (by kernel_rfl) ?_|refine eX ?_|refine eS ?_|refine eN ?_|refine oC (cc) ?_|refine eC (cc) ?_|(refine Yt ?_;(first|refine rB ?_|refine rI ?_|refine rA ?_|refine rII ?_|refine rSI ?_|refine rT ?_|refine rS ?_);first|done|(rfl))|((exfalso;first|(simp_all<;>fail)|(simp_all;omega)))|fail)
end Go.Av
end
noncomputable section
namespace Go.Av
open Go Go.Proofs
set_option maxRecDepth 10000
def cntL (l:List GProd) (v:Int):Nat:=l.countP fun p=>decide (p.left<v)
theorem cntL_mono (l:List GProd) (v:Int):cntL l v≤cntL l (v+1):=by
 refine List.countP_mono_left fun p _ h=>?_
 simp only [decide_eq_true_eq] at h ⊢
 omega
theorem sorted_iff:∀ {l:List GProd},l.Pairwise (fun a b=>a.left≤b.left)→∀ (v:Int) (k:Nat) (p:GProd),l[k]?=some p→(p.left<v ↔ k<cntL l v)
 |[],_,v,k,p,h=>by simp at h
 |a :: l,hs,v,k,p,h=>by
  rw [List.pairwise_cons] at hs
  have ih:=sorted_iff hs.2 v
  unfold cntL at ih ⊢
  rw [List.countP_cons]
  by_cases ha:a.left<v
  ·rw [if_pos (by simpa using ha)]
   cases k with
   |zero=>simp at h;subst h;simp [ha]
   |succ k=>rw [ih k p (by simpa using h)];omega
  ·have hz:l.countP (fun p=>decide (p.left<v))=0:=by
    rw [List.countP_eq_zero]
    intro q hq
    have:=hs.1 q hq
    simp only [decide_eq_true_eq];omega
   rw [if_neg (by simpa using ha),hz]
   cases k with
   |zero=>simp at h;subst h;simp [ha]
   |succ k =>
    have:=hs.1 p (List.mem_of_getElem? (show l[k]?=some p by simpa using h))
    omega
theorem prodsTo_range {g:Gram} (hs:g.prods.Pairwise (fun a b=>a.left≤b.left)) (s:Int):∀ i:Nat,i≤g.prods.length→prodsTo g s i=List.range' (min i (cntL g.prods s)) (min i (cntL g.prods (s+1))-min i (cntL g.prods s))
 |0,_=>by simp [prodsTo]
 |i+1,hi=>by
  obtain⟨p,hp⟩:=get_ok (show i<g.prods.length by omega)
  have ih:=prodsTo_range hs s i (by omega)
  have h1:=sorted_iff hs s i p hp
  have h2:=sorted_iff hs (s+1) i p hp
  have hm:=cntL_mono g.prods s
  rw [prodsTo_succ hp,ih]
  generalize cntL g.prods s=a at *
  generalize cntL g.prods (s+1)=b at *
  by_cases he:p.left=s
  ·rw [if_pos he]
   have ha:a≤i:=by omega
   have hb:i<b:=by omega
   rw [show min i a=a by omega,show min (i+1) a=a by omega,show min i b=i by omega,show min (i+1) b=i+1 by omega,show i+1-a=(i-a)+1 by omega,List.range'_concat]
   congr 1
   simp;omega
  ·rw [if_neg he,List.append_nil]
   rcases Nat.lt_or_ge i a with ha|ha
   ·rw [show min i b-min i a=0 by omega,show min (i+1) b-min (i+1) a=0 by omega];rfl
   ·have hb:b≤i:=by omega
    rw [show min (i+1) a=min i a by omega,show min (i+1) b=min i b by omega]
theorem prodsF_range {g:Gram} (hs:g.prods.Pairwise (fun a b=>a.left≤b.left)) (s:Int):prodsF g s=List.range' (cntL g.prods s) (cntL g.prods (s+1)-cntL g.prods s):=by
 have h1:cntL g.prods s≤g.prods.length:=List.countP_le_length
 have h2:cntL g.prods (s+1)≤g.prods.length:=List.countP_le_length
 rw [show prodsF g s=prodsTo g s g.prods.length from rfl,prodsTo_range hs s _ (Nat.le_refl _),Nat.min_eq_right h1,Nat.min_eq_right h2]
theorem sorted_of {l:List GProd} (h:∀ (i:Nat) (p q:GProd),l[i]?=some p→l[i+1]?=some q→p.left≤q.left):l.Pairwise (fun a b=>a.left≤b.left):=by
 induction l with
 |nil=>exact .nil
 |cons a l ih =>
  have ht:l.Pairwise (fun a b=>a.left≤b.left):=ih fun i p q hp hq=>h (i+1) p q (by simpa using hp) (by simpa using hq)
  refine List.pairwise_cons.2 ⟨fun q hq=>?_,ht⟩
  cases l with
  |nil=>cases hq
  |cons b l =>
   have hab:=h 0 a b rfl rfl
   rcases List.mem_cons.1 hq with rfl|hq
   ·exact hab
   ·have:=(List.pairwise_cons.1 ht).1 q hq
    omega
theorem valid_sorted {g:Gram} (h:checkF g=0):g.prods.Pairwise (fun a b=>a.left≤b.left):=by
 obtain⟨_,ho,_⟩:=symbols_zero (check_parts h).2.2.2.2
 refine sorted_of fun i p q hp hq=>?_
 rcases Int.lt_or_le q.left p.left with hl|hl
 ·exact absurd ⟨i,p,q,hp,hq,hl⟩ ho
 ·exact hl
theorem valid_some {g:Gram} (h:checkF g=0) {i:Nat} (hi:i<g.names.length):cntL g.prods (16+i)<cntL g.prods (16+i+1):=by
 obtain⟨_,_,hm⟩:=symbols_zero (check_parts h).2.2.2.2
 have hne:prodsF g (16+i)≠[]:=fun e=>hm ⟨i,hi,e⟩
 rw [prodsF_range (valid_sorted h)] at hne
 rcases Nat.lt_or_ge (cntL g.prods (16+i)) (cntL g.prods (16+i+1)) with hl|hl
 ·exact hl
 ·exact absurd (by rw [Nat.sub_eq_zero_of_le hl];rfl) hne
end Go.Av
end
noncomputable section
namespace Go.Av
open Go Go.Proofs
set_option maxRecDepth 10000
def cntG (g:Gram) (k:Nat):Nat:=if k=0 then 0 else((g.prods.getD (k-1) ⟨15,[]⟩).left-15).toNat
def altsT (g:Gram) (r k:Nat):List (List (List Nat)):=(prodsTo g ((16+r:Nat):Int) k).map fun p=>(g.prods.getD p ⟨0,[]⟩).right.map (nameS g)
theorem cnt_lt {g:Gram} (h0:checkF g=0) {k:Nat} (hk:k≤g.prods.length) (r:Nat):r<cntG g k ↔ cntL g.prods ((16+r:Nat):Int)<k:=by
 have hv:=valid_ok h0
 unfold cntG
 rcases k with _|k
 ·simp
 ·obtain⟨p,hp⟩:=get_ok (show k<g.prods.length by omega)
  have h1:=sorted_iff (valid_sorted h0) ((16+r:Nat):Int) k p hp
  have h2:=hv.left p (List.mem_of_getElem? hp)
  rw [if_neg (by omega),show k+1-1=k from rfl,getD_some hp]
  omega
theorem cnt_step {g:Gram} (h0:checkF g=0) {k:Nat} {p:GProd} (hp:g.prods[k]?=some p):∃ r,p.left=((16+r:Nat):Int)∧r<g.names.length∧cntG g (k+1)=r+1∧((r=cntG g k∧prodsTo g ((16+r:Nat):Int) k=[])∨r+1=cntG g k):=by
 have hv:=valid_ok h0
 have hk:=(List.getElem?_eq_some_iff.1 hp).1
 obtain⟨hl1,hl2⟩:=hv.left p (List.mem_of_getElem? hp)
 have hs:=valid_sorted h0
 refine⟨(p.left-16).toNat,by omega,by omega,?_,?_⟩
 ·unfold cntG
  rw [if_neg (by omega),show k+1-1=k from rfl,getD_some hp]
  omega
 ·have hc1:cntG g (k+1)=(p.left-16).toNat+1:=by
   unfold cntG
   rw [if_neg (by omega),show k+1-1=k from rfl,getD_some hp]
   omega
  obtain⟨r,hr⟩:∃ r,r=(p.left-16).toNat:=⟨_,rfl⟩
  rw [← hr] at hc1 ⊢
  have hle:cntG g k≤r+1:=by
   rcases Nat.lt_or_ge (r+1) (cntG g k) with hh|hh
   ·have h1:=(cnt_lt h0 (k:=k) (by omega) (r+1)).1 hh
    have h2:=(cnt_lt h0 (k:=k+1) (by omega) (r+1)).2 (by omega)
    omega
   ·exact hh
  have ha:=sorted_iff hs ((16+r:Nat):Int) k p hp
  rcases Nat.lt_or_ge r (cntG g k) with hh|hh
  ·exact .inr (by omega)
  ·have hnot:¬ cntL g.prods ((16+r:Nat):Int)<k:=fun hc=>by
    have:=(cnt_lt h0 (k:=k) (by omega) r).2 hc
    omega
   have hak:cntL g.prods ((16+r:Nat):Int)=k:=by
    have:¬ p.left<((16+r:Nat):Int):=by omega
    have:=mt ha.2 this
    omega
   refine .inl ⟨?_,?_⟩
   ·rcases Nat.lt_or_ge (cntG g k) r with h3|h3
    ·have h4:=valid_some h0 (i:=r-1) (by omega)
     have h5:cntL g.prods ((16+(r-1):Nat):Int)<k:=by
      rw [show(16:Int)+((r-1:Nat):Int)=((16+(r-1):Nat):Int) by omega,show((16+(r-1):Nat):Int)+1=((16+r:Nat):Int) by omega,hak] at h4
      exact h4
     have:=(cnt_lt h0 (k:=k) (by omega) (r-1)).2 h5
     omega
    ·omega
   ·rw [prodsTo_range hs _ k (by omega),hak]
    simp
    omega
theorem altsT_new {g:Gram} {k r:Nat} {p:GProd} (hp:g.prods[k]?=some p) (hl:p.left=((16+r:Nat):Int)):altsT g r (k+1)=altsT g r k++[p.right.map (nameS g)]:=by
 unfold altsT
 rw [prodsTo_succ hp,if_pos hl,List.map_append]
 simp [hp]
theorem altsT_old {g:Gram} {k r s:Nat} {p:GProd} (hp:g.prods[k]?=some p) (hl:p.left=((16+r:Nat):Int)) (hs:s≠r):altsT g s (k+1)=altsT g s k:=by
 unfold altsT
 rw [prodsTo_succ hp,if_neg (by omega),List.append_nil]
theorem altsT_all (g:Gram) (r:Nat):altsT g r g.prods.length=altsG g r:=by
 unfold altsT altsG prodsF
 rw [show(16:Int)+(r:Int)=((16+r:Nat):Int) by omega]
theorem altsT_len (g:Gram) (r k:Nat):(altsT g r k).length≤k:=by
 unfold altsT
 rw [List.length_map]
 exact prodsTo_len _ _ _
def prL {α:Type} (f h:Nat→α) (n:Nat):List α:=(List.range n).flatMap fun r=>[f r,h r]
theorem prL_succ {α:Type} (f h:Nat→α) (n:Nat):prL f h (n+1)=prL f h n++[f n,h n]:=by
 simp [prL,List.range_succ]
theorem prL_len {α:Type} (f h:Nat→α):∀ n,(prL f h n).length=2*n
 |0=>rfl
 |n+1=>by rw [prL_succ,List.length_append,prL_len f h n];simp;omega
theorem prL_get {α:Type} (f h:Nat→α):∀ {n r:Nat},r<n→(prL f h n)[2*r]?=some (f r)∧(prL f h n)[2*r+1]?=some (h r)
 |0,r,hr=>by omega
 |n+1,r,hr=>by
  have hl:=prL_len f h n
  rw [prL_succ]
  rcases Nat.lt_or_ge r n with h1|h1
  ·have ih:=prL_get f h h1
   rw [List.getElem?_append_left (by omega),List.getElem?_append_left (by omega)]
   exact ih
  ·have:r=n:=by omega
   subst this
   rw [List.getElem?_append_right (by omega),List.getElem?_append_right (by omega),hl]
   simp
theorem prL_congr {α:Type} {f h f' h':Nat→α} {n:Nat} (h1:∀ r,r<n→f r=f' r) (h2:∀ r,r<n→h r=h' r):prL f h n=prL f' h' n:=by
 induction n with
 |zero=>rfl
 |succ n ih=>rw [prL_succ,prL_succ,ih (fun r hr=>h1 r (by omega)) (fun r hr=>h2 r (by omega)),h1 n (by omega),h2 n (by omega)]
theorem prL_set {α:Type} {f h h':Nat→α} {n r:Nat} (hr:r<n) (hs:∀ s,s<n→s≠r→h' s=h s):(prL f h n).take (2*r+1)++[h' r]++(prL f h n).drop (2*r+2)=prL f h' n:=by
 induction n with
 |zero=>omega
 |succ n ih =>
  have hl:=prL_len f h n
  rw [prL_succ,prL_succ]
  rcases Nat.lt_or_ge r n with h1|h1
  ·rw [List.take_append_of_le_length (by omega),List.drop_append_of_le_length (by omega),← List.append_assoc,ih h1 (fun s h2 h3=>hs s (by omega) h3),hs n (by omega) (by omega)]
  ·have:r=n:=by omega
   subst this
   rw [List.take_append,List.drop_append,hl,List.take_of_length_le (by omega),List.drop_eq_nil_of_le (by omega)]
   rw [show 2*r+1-2*r=1 by omega,show 2*r+2-2*r=2 by omega,prL_congr (f':=f) (h':=h') (fun _ _=>rfl) (fun s h2=>(hs s (by omega) (by omega)).symm)]
   simp
theorem prL_all {α:Type} {f h:Nat→α} {n:Nat} {p:α→Bool} (h1:∀ r,r<n→p (f r)=true∧p (h r)=true):(prL f h n).all p=true:=by
 induction n with
 |zero=>rfl
 |succ n ih=>rw [prL_succ,List.all_append,ih (fun r hr=>h1 r (by omega))];simp [h1 n (by omega)]
section
variable {E:PT Ty} {H:Hd} {frz:List Nat} {rd:Operand→AV} {objs:List Ob} {o:Oper} {t:TypeId} {x xv:Operand} {y:Ty} {i off sz n:Nat} {T:TypeId} {ag:Bool} {cs:List AV} {c:AV}
theorem evAny_loadV (hop:o.op=.load t x) (h1:E.get? t=some y) (ha:isAggT y.desc=false) (hx:rd x=.bp i off) (hi:objs[i]?=some (.vec T ag sz n cs)) (hc:cs[off]?=some c):evAny E H frz rd objs o=some (c,none,true):=by
 obtain⟨dst,op,ty,pos,after,guard⟩:=o
 simp only at hop
 subst hop
 cases cs with
 |nil=>simp at hc
 |cons a l=>simp only [evAny,quiet,evOp,loadR,h1,hx,hi,obCells,ha,hc,pureR,if_true,Option.map_some]
theorem evAny_storeV (hop:o.op=.store t x xv) (h1:E.get? t=some y) (hs:y.size=1) (hx:rd x=.bp i off) (hv:rd xv=c) (hk:knownA c=true) (hl:c.cells=[c]) (hi:objs[i]?=some (.vec T ag sz n cs)) (hc:off<cs.length) :
  evAny E H frz rd objs o=some (.d .any,some (objs.set i (.vec T ag sz n (cs.take off++[c]++cs.drop (off+1)))),true):=by
 obtain⟨dst,op,ty,pos,after,guard⟩:=o
 simp only at hop
 subst hop
 cases cs with
 |nil=>simp at hc
 |cons a l =>
  have hb:Nat.ble (off+1) (a :: l).length=true:=Nat.ble_eq_true_of_le hc
  simp only [evAny,quiet,evOp,storeR,h1,hx,hv,hi,obCells,hk,hl,hs,hb,List.length_cons,List.length_nil,pureR,Bool.and_self,if_true,Option.map_some,obPut]
  simp [hb]
  simp only [List.length_cons] at hc
  omega
end
theorem Run.dropLast {P:Program} {nt m:Nat} {ro':Option Nat} {K:Ex→S→Prop} {c:Code} {tm:PT AV} {O:List Ob} {ds:List DV} (l:List (Nat × AV)) (h:Run P nt m ro' c ⟨PT.ofList l,O,[]⟩ K) (hm:m≤O.length) (hO:O.all (refOb O.length)=true)
  (ht:∀ t v,(PT.ofList l).get? t=some v→tm.get? t=some v∨∃ off,off≤ds.length∧tm.get? t=some (.bp O.length off)∧v=.d (.ep (ds.drop off))) (hr:allQ (refA 8 O.length) l):Run P nt m ro' c ⟨tm,O++[.box (ds.map .d)],[]⟩ K:=by
 refine Run.freeze O.length (tm':=PT.ofList l) (objs':=O++[.gone]) (ds:=ds) ?_ (by simp) (by rw [List.set_append_right _ _ (Nat.le_refl _)];simp) ht
 refine Run.trunc O.length (by simpa using hm) ?_ ?_
 ·simp only [refS,ptAll_ofList hr,List.take_left,hO,List.all_nil,Bool.and_self]
 ·simpa [S.trunc] using h
theorem Run.imp {P:Program} {nt m:Nat} {ro':Option Nat} {K K':Ex→S→Prop} {c:Code} {s:S} (h:Run P nt m ro' c s K) (f:∀ e s',K e s'→K' e s'):Run P nt m ro' c s K' :=
 fun D0 β0 o0 w0 hb0 ro Q a w hro hK hs=>h D0 β0 o0 w0 hb0 ro Q a w hro (fun e s1 hk=>hK e s1 (f e s1 hk)) hs
theorem ayield_box {P:Program} {L:Nat} {B B' X X':List Ob} {args:List AV} {tm:PT AV} {nt:Nat} {frz:List Nat} {qs:Array Tmp} {assign body:Code} (ds:List DV) (l:List (Nat × AV))
  (hlen:args.length=qs.size) (hlt:qs.toList.all (fun t=>Nat.blt t nt)=true) (hB:B.length=L) (hB':B'.length=L)
  (hBr:B.all (refOb (L+2+X.length))=true) (hXr:X.all (refOb (L+2+X.length))=true) (hT:ptAll (refA 8 (L+2+X.length)) tm=true) (hl:allQ (refA 8 (L+2+X.length)) l)
  (has:Run P nt (L+2+X.length) (some (L+1)) assign ⟨setTms tm (qs.toList.zip args),rangeObs B tm nt frz qs assign body .ready none++X,[]⟩ (fun e s1=>e=.normal∧∃ tmA,s1=⟨tmA,(rangeObs B tm nt frz qs assign body .ready none++X)++[.box (ds.map .d)],[]⟩ ∧
   (∀ t v,(PT.ofList l).get? t=some v→tmA.get? t=some v∨∃ off,off≤ds.length∧tmA.get? t=some (.bp (rangeObs B tm nt frz qs assign body .ready none++X).length off)∧v=.d (.ep (ds.drop off)))))
  (hbody:∀ a b,refOb (L+2+X.length) a=true→refOb (L+2+X.length) b=true→Run P nt (L+2+X.length) (some (L+1)) body ⟨PT.ofList l,B++[a,b]++X,[]⟩ (fun e s2=>e=.normal∧s2.objs=B'++[a,b]++X')) :
  AYield P (L+1) args (rangeObs B tm nt frz qs assign body .ready none++X) (.d (.bool true)) (rangeObs B' tm nt frz qs assign body .ready none++X'):=by
 have hO:∀ st,(rangeObs B tm nt frz qs assign body st none++X).length=L+2+X.length:=fun st=>by simp [rangeObs,hB];omega
 have hget:∀ (C:List Ob) st (Z:List Ob),C.length=L→(rangeObs C tm nt frz qs assign body st none++Z)[L+1]?=some (.loop tm nt frz qs assign body st none):=fun C st Z hC=>by
  subst hC;simp [rangeObs]
 have hset:∀ (C:List Ob) st st' (Z:List Ob),C.length=L→(rangeObs C tm nt frz qs assign body st none++Z).set (L+1) (.loop tm nt frz qs assign body st' none)=rangeObs C tm nt frz qs assign body st' none++Z:=fun C st st' Z hC=>by
  subst hC
  rw [List.set_append_left _ _ (by simp [rangeObs])]
  congr 1
  unfold rangeObs
  rw [List.set_append_right _ _ (by simp)]
  simp
 refine ayield_of_run (i:=L+1) (hget B _ X hB) hlen hlt ?_
 rw [hO]
 refine has.imp ?_
 rintro e s1 ⟨rfl,tmA,rfl,htA⟩
 refine⟨rfl,tm,nt,frz,qs,assign,body,none,?_,?_⟩
 ·show(rangeObs B tm nt frz qs assign body .ready none++X++[Ob.box (ds.map .d)])[L+1]?=_
  rw [List.append_assoc];exact hget B _ _ hB
 ·show Run P nt _ _ body ⟨tmA,(rangeObs B tm nt frz qs assign body .ready none++X++[Ob.box (ds.map .d)]).set (L+1) (.loop tm nt frz qs assign body .busy none),[]⟩ _
  rw [List.append_assoc,hset B _ _ _ hB,← List.append_assoc]
  have hloop:refOb (L+2+X.length) (.loop tm nt frz qs assign body .busy none)=true:=by simp only [refOb,hT,Bool.and_self]
  refine Run.dropLast (ds:=ds) l ?_ (by rw [hO];exact Nat.le_refl _) ?_ (fun t v hv=>?_) (by rw [hO];exact hl)
  ·rw [show rangeObs B tm nt frz qs assign body .busy none++X=B++[Ob.raw (.deferred (some [])),Ob.loop tm nt frz qs assign body .busy none]++X from by simp [rangeObs]]
   refine(hbody _ _ rfl hloop).imp ?_
   rintro e ⟨tm2,o2,d2⟩ ⟨rfl,he⟩
   simp only at he
   subst he
   have e1:∀ st,B'++[Ob.raw (.deferred (some [])),Ob.loop tm nt frz qs assign body st none]++X'=rangeObs B' tm nt frz qs assign body st none++X':=fun st=>by simp [rangeObs]
   refine⟨tm,nt,frz,qs,assign,body,.busy,none,?_,rfl,?_⟩
   ·show(B'++_++X')[L+1]?=_
    rw [e1];exact hget B' _ _ hB'
   ·show _=(B'++_++X').set (L+1) _
    rw [e1,hset B' _ _ _ hB']
  ·rw [hO]
   unfold rangeObs
   simp only [List.all_append,hBr,hXr,List.all_cons,List.all_nil,Bool.true_and,Bool.and_true,hloop]
   rfl
  ·rcases htA t v hv with h1|h1
   ·exact .inl h1
   ·rw [hO] at h1 ⊢;exact .inr h1
section
variable {E:PT Ty} {H:Hd} {frz:List Nat} {rd:Operand→AV} {O:List Ob} {o:Oper} {t:TypeId} {x xv:Operand} {y:Ty} {cs:List AV} {v:AV} {i:Nat}
theorem evAny_store_last (hop:o.op=.store t x xv:=by rfl) (hy:E.get? t=some y:=by rfl) (hx:rd x=.bp i 0:=by rfl) (hi:i=O.length:=by rfl) (hv:rd xv=v:=by rfl) (hk:knownA v=true:=by rfl) (hl:Nat.beq v.cells.length y.size=true:=by rfl) (hc:Nat.beq cs.length y.size=true:=by rfl) :
  evAny E H frz rd (O++[.box cs]) o=some (.d .any,some (O++[.box v.cells]),true):=by
 subst hi
 obtain⟨dst,op,ty,pos,after,guard⟩:=o
 simp only at hop
 subst hop
 have h1:evAny E H frz rd (O++[.box cs]) ⟨dst,.store t x xv,ty,pos,after,guard⟩=Option.map (fun(p:AV × List Ob × Bool)=>(p.1,some p.2.1,p.2.2)) (storeR E t (.bp O.length 0) v (O++[.box cs])):=by
  simp only [evAny,quiet,evOp,hx,hv]
 rw [h1,store_last hy O cs hk hl hc]
 rfl
end
theorem set_last {O:List Ob} {a b:Ob}:(O++[a]).set O.length b=O++[b]:=by simp
theorem get_last {O:List Ob} {a:Ob}:(O++[a])[O.length]?=some a:=by simp
end Go.Av
end
noncomputable section
namespace Go.Av
open Go Go.Proofs
set_option maxRecDepth 10000
abbrev vecN (g:Gram) (i:Nat):List DV:=prL (fun r=>.str (g.names.getD r [])) (fun _=>.nilsl) i
def cellP (g:Gram) (k r:Nat):AV:=if r<cntG g k then .sr (6+r) 1 (alts' g r k) else .d .nilsl
where alts' (g:Gram) (r k:Nat):List DV:=(altsT g r k).map strs
abbrev cellsP (g:Gram) (k:Nat):List AV:=prL (fun r=>.d (.str (g.names.getD r []))) (cellP g k) g.names.length
abbrev boxP (g:Gram) (st:List Nat) (n:Nat):Ob:=boxS g st (.vs 3 2 0 n)
abbrev vecP (n:Nat) (cs:List AV):Ob:=.vec 96 true 2 n cs
abbrev bsP (g:Gram) (st:List Nat) (k:Nat):List Ob:=[boxX0,rmG g,boxP g st g.names.length,vecP g.names.length (cellsP g k)]
abbrev xsP (g:Gram) (k:Nat):List Ob:=(List.range (cntG g k)).map fun r=>.room (altsT g r k).length 1
theorem prL_map {α β:Type} (u:α→β) (f h:Nat→α) (n:Nat):(prL f h n).map u=prL (fun r=>u (f r)) (fun r=>u (h r)) n:=by
 induction n with
 |zero=>rfl
 |succ n ih=>rw [prL_succ,prL_succ,List.map_append,ih];rfl
theorem cellsP_zero (g:Gram):(vecN g g.names.length).map AV.d=cellsP g 0:=by
 rw [prL_map]
 exact prL_congr (fun _ _=>rfl) (fun r _=>by simp [cellP,cntG])
theorem relV0 {g:Gram} {st:List Nat} {tm:PT AV} {i:Nat} {cs:List AV} {ds:List DV} (ts:List (Nat × AV)) (hd:cs=ds.map .d) (h:allRe (plOf [0,1,2,3]) 4 tm ts) :
  Relab 0 ⟨tm,[boxX0,rmG g,boxP g st i,vecP i cs],[]⟩ ⟨PT.ofList ts,[boxX0,rmG g,boxP g st i,vecP i (ds.map .d)],[]⟩:=by
 subst hd
 refine⟨ts,[0,1,2,3],_,rfl,rfl,rfl,by simp,fun k hk=>by omega,fun k ob hk=>?_,h⟩
 match k with
 |0=>obtain rfl:=Option.some.inj hk;exact⟨rfl,0,rfl,rfl⟩
 |1=>obtain rfl:=Option.some.inj hk;exact⟨rfl,1,rfl,rfl⟩
 |2=>obtain rfl:=Option.some.inj hk;exact⟨rfl,2,rfl,rfl⟩
 |3 =>
  obtain rfl:=Option.some.inj hk
  refine⟨?_,3,rfl,?_⟩
  ·show(ds.map AV.d).all (okA _ 8)=true
   rw [List.all_eq_true];intro x hx;simp only [List.mem_map] at hx;obtain⟨y,_,rfl⟩:=hx;rfl
  ·show some (vecP i (ds.map .d))=some (vecP i ((ds.map AV.d).map (reA _ 8)))
   rw [List.map_map];rfl
 |k+4=>cases hk
theorem relV {g:Gram} {st:List Nat} {tm:PT AV} {i:Nat} {cs:List AV} {ds:List DV} (ts:List (Nat × AV)) (hd:cs=ds.map .d) (h:allRe (plOf [0,1,2,4]) 4 tm ts) :
  Relab 0 ⟨tm,[boxX0,rmG g,boxS g st (.vs 4 2 0 i),.gone,vecP i cs],[]⟩ ⟨PT.ofList ts,[boxX0,rmG g,boxP g st i,vecP i (ds.map .d)],[]⟩:=by
 subst hd
 refine⟨ts,[0,1,2,4],_,rfl,rfl,rfl,by simp,fun k hk=>by omega,fun k ob hk=>?_,h⟩
 match k with
 |0=>obtain rfl:=Option.some.inj hk;exact⟨rfl,0,rfl,rfl⟩
 |1=>obtain rfl:=Option.some.inj hk;exact⟨rfl,1,rfl,rfl⟩
 |2=>obtain rfl:=Option.some.inj hk;exact⟨rfl,2,rfl,rfl⟩
 |3 =>
  obtain rfl:=Option.some.inj hk
  refine⟨?_,4,rfl,?_⟩
  ·show(ds.map AV.d).all (okA _ 8)=true
   rw [List.all_eq_true];intro x hx;simp only [List.mem_map] at hx;obtain⟨y,_,rfl⟩:=hx;rfl
  ·show some (vecP i (ds.map .d))=some (vecP i ((ds.map AV.d).map (reA _ 8)))
   rw [List.map_map];rfl
 |k+4=>cases hk
theorem vecN_succ {g:Gram} {i:Nat} {nm:List Nat} (h:g.names[i]?=some nm):(List.map AV.d (vecN g i)).take (i*2)++[AV.d (.str nm),AV.d .nilsl]=(vecN g (i+1)).map AV.d:=by
 have e:vecN g (i+1)=vecN g i++[.str (g.names.getD i []),.nilsl]:=prL_succ _ _ _
 rw [e,List.map_append,List.take_of_length_le (by rw [List.length_map,prL_len];omega),getD_some h];rfl
theorem xsP_len (g:Gram) (k:Nat):(xsP g k).length=cntG g k:=by simp
theorem bltN {a n:Nat} (h:a<n):Nat.blt a n=true:=by rw [Nat.blt_eq];exact h
theorem bsP_ref (g:Gram) (st:List Nat) (k:Nat):(bsP g st k).all (refOb (4+2+(xsP g k).length))=true:=by
 rw [xsP_len]
 have h1:refOb (4+2+cntG g k) (boxP g st g.names.length)=true:=by
  simp only [refOb,List.all_cons,List.all_nil,refA,bltN (show 1<4+2+cntG g k by omega),bltN (show 3<4+2+cntG g k by omega),Bool.and_self]
 have h2:refOb (4+2+cntG g k) (vecP g.names.length (cellsP g k))=true:=by
  refine prL_all fun r _=>⟨rfl,?_⟩
  unfold cellP
  split
  ·exact bltN (by omega)
  ·rfl
 have h3:refOb (4+2+cntG g k) boxX0=true:=rfl
 have h4:refOb (4+2+cntG g k) (rmG g)=true:=rfl
 simp only [List.all_cons,List.all_nil,h1,h2,h3,h4,Bool.and_self]
theorem xsP_ref (g:Gram) (k n:Nat):(xsP g k).all (refOb n)=true:=by
 rw [List.all_eq_true]
 intro x hx
 simp only [List.mem_map] at hx
 obtain⟨r,_,rfl⟩:=hx
 rfl
theorem prL_cons {α:Type} (f h:Nat→α) (n:Nat):prL f h (n+1)=[f 0,h 0]++prL (fun r=>f (r+1)) (fun r=>h (r+1)) n:=by
 simp [prL,List.range_succ_eq_map,List.flatMap_map]
theorem chunk_prL:∀ (n:Nat) (f h:Nat→DV),chunk true 2 n (prL f h n)=(List.range n).map fun r=>.agg [f r,h r]
 |0,_,_=>rfl
 |n+1,f,h=>by
  rw [prL_cons,List.range_succ_eq_map,List.map_cons,List.map_map]
  show DV.agg [f 0,h 0] :: chunk true 2 n (prL _ _ n)=_
  rw [chunk_prL n];rfl
theorem allM_snoc {α β:Type} {f:α→Option β} {b c:β} {x y:α}:∀ {l:List α} {r:List β},allM f l=some r→f x=some b→f y=some c→allM f (l++[x,y])=some (r++[b,c])
 |[],r,h1,h2,h3=>by simp [allM] at h1;subst h1;simp [allM,h2,h3]
 |a :: l,r,h1,h2,h3=>by
  simp only [allM] at h1
  cases ha:f a with
  |none=>rw [ha] at h1;cases h1
  |some a' =>
   cases hl:allM f l with
   |none=>rw [ha,hl] at h1;cases h1
   |some l' =>
    rw [ha,hl] at h1
    cases h1
    have:=allM_snoc hl h2 h3
    simp [allM,ha,this]
theorem allM_prL {α β:Type} {f:α→Option β} {a b:Nat→α} {a' b':Nat→β}:∀ {n:Nat},(∀ r,r<n→f (a r)=some (a' r)∧f (b r)=some (b' r))→allM f (prL a b n)=some (prL a' b' n)
 |0,_=>rfl
 |n+1,h=>by
  rw [prL_succ,prL_succ]
  exact allM_snoc (allM_prL fun r hr=>h r (by omega)) (h n (by omega)).1 (h n (by omega)).2
theorem dvOf_vecP {g:Gram} (h0:checkF g=0) {objs:List Ob} (k:Nat) (hi:objs[3]?=some (vecP g.names.length (cellsP g g.prods.length))) :
  dvOf objs (k+2) (.vs 3 2 0 g.names.length)=some (.sl 2 (((List.range g.names.length).map (ruleG g)).map encR)):=by
 have hall:∀ r,r<g.names.length→cellP g g.prods.length r=.sr (6+r) 1 ((altsG g r).map strs):=fun r hr=>by
  have h1:r<cntG g g.prods.length:=(cnt_lt h0 (Nat.le_refl _) r).2 (by
   have h2:=valid_some h0 (i:=r) hr
   have h3:cntL g.prods (16+(r:Int)+1)≤g.prods.length:=List.countP_le_length
   rw [show(16:Int)+(r:Int)=((16+r:Nat):Int) by omega] at h2 h3
   omega)
  unfold cellP
  rw [if_pos h1,cellP.alts',altsT_all]
 have hM:allM (dvOf objs (k+1)) (((cellsP g g.prods.length).drop (0*2)).take (g.names.length*2))=some (prL (fun r=>.str (g.names.getD r [])) (fun r=>alts (altsG g r)) g.names.length):=by
  rw [Nat.zero_mul,List.drop_zero,List.take_of_length_le (by rw [prL_len];omega)]
  exact allM_prL fun r hr=>⟨rfl,by rw [hall r hr];rfl⟩
 have hb:Nat.ble (0+g.names.length) g.names.length=true:=Nat.ble_eq_true_of_le (by omega)
 simp only [dvOf,hi,hb]
 rw [hM]
 simp only [Option.map_some,chunk_prL,List.map_map]
 rfl
theorem close_src {objs:List Ob} {n:Nat} {X a c d e:DV} {b:List DV} (h:dvOf objs 7 (.vs 3 2 0 n)=some X) :
  closeA objs 8 (.tup [.agg [.d a,.sr 1 1 b,.d c,.d d,.vs 3 2 0 n],.d e])=some (.tup [.d (.agg [a,.sl 1 b,c,d,X]),.d e]):=by
 have h1:allM (dvOf objs 7) [.d a,.sr 1 1 b,.d c,.d d,.vs 3 2 0 n]=some [a,.sl 1 b,c,d,X]:=by
  simp only [allM];rw [h];rfl
 have h2:dvOf objs 8 (.agg [.d a,.sr 1 1 b,.d c,.d d,.vs 3 2 0 n])=some (.agg [a,.sl 1 b,c,d,X]):=by
  show(allM (dvOf objs 7) _).map DV.agg=_
  rw [h1];rfl
 show(allM (fun x=>(dvOf objs 8 x).map AV.d) [.agg [.d a,.sr 1 1 b,.d c,.d d,.vs 3 2 0 n],.d e]).map AV.tup=_
 simp only [allM];rw [h2];rfl
theorem cells_step {g:Gram} {k r:Nat} {p:GProd} (hp:g.prods[k]?=some p) (hl:p.left=((16+r:Nat):Int)) (hr:r<g.names.length) (hc:cntG g (k+1)=r+1) (hcase:r=cntG g k∨r+1=cntG g k) :
  (cellsP g k).take (2*r+1)++[.sr (6+r) 1 ((altsT g r k).map strs++[strs (p.right.map (nameS g))])]++(cellsP g k).drop (2*r+2)=cellsP g (k+1):=by
 have e:cellP g (k+1) r=.sr (6+r) 1 ((altsT g r k).map strs++[strs (p.right.map (nameS g))]):=by
  unfold cellP
  rw [if_pos (by omega),cellP.alts',altsT_new hp hl,List.map_append];rfl
 rw [← e]
 refine prL_set hr fun s hs hne=>?_
 unfold cellP cellP.alts'
 rw [altsT_old hp hl hne]
 by_cases h:s<cntG g k
 ·rw [if_pos h,if_pos (by omega)]
 ·rw [if_neg h,if_neg (by omega)]
theorem xs_new {g:Gram} {k r:Nat} {p:GProd} (hp:g.prods[k]?=some p) (hl:p.left=((16+r:Nat):Int)) (hc:cntG g (k+1)=r+1) (h1:r=cntG g k) (h2:altsT g r k=[]):xsP g k++[.room 1 1]=xsP g (k+1):=by
 unfold xsP
 rw [hc,← h1,List.range_succ,List.map_append,List.map_cons,List.map_nil,altsT_new hp hl,h2]
 congr 1
 refine List.map_congr_left fun s hs=>?_
 rw [altsT_old hp hl (by have:=List.mem_range.1 hs;omega)]
theorem xs_old {g:Gram} {k r:Nat} {p:GProd} (hp:g.prods[k]?=some p) (hl:p.left=((16+r:Nat):Int)) (hc:cntG g (k+1)=r+1) (h1:r+1=cntG g k):(xsP g k).set r (.room ((altsT g r k).length+1) 1)=xsP g (k+1):=by
 refine List.ext_getElem? fun j=>?_
 unfold xsP
 rw [hc,← h1,List.getElem?_set]
 by_cases hj:r=j
 ·subst hj
  rw [if_pos rfl,if_pos (by simp),List.getElem?_map,List.getElem?_range (by omega)]
  simp [altsT_new hp hl]
 ·rw [if_neg hj,List.getElem?_map,List.getElem?_map]
  rcases Nat.lt_or_ge j (r+1) with h|h
  ·rw [List.getElem?_range h]
   simp [altsT_old hp hl (fun e=>hj e.symm)]
  ·rw [List.getElem?_eq_none (by simpa using h)];rfl
theorem xs_get {g:Gram} {k r:Nat} (h1:r+1=cntG g k):(xsP g k)[r]?=some (.room (altsT g r k).length 1):=by
 unfold xsP
 rw [List.getElem?_map,List.getElem?_range (by omega)];rfl
theorem six_get {o0 o1 o2 o3 a b:Ob} {X:List Ob} {r:Nat}:([o0,o1,o2,o3]++[a,b]++X)[6+r]?=X[r]?:=by rw [Nat.add_comm];rfl
theorem six_set {o0 o1 o2 o3 a b x:Ob} {X:List Ob} {r:Nat}:([o0,o1,o2,o3]++[a,b]++X).set (6+r) x=[o0,o1,o2,o3]++[a,b]++X.set r x:=by rw [Nat.add_comm];rfl
set_option maxHeartbeats 8000000 in
theorem srcPr0 (g:Gram) (hf:Fits g) (h0:checkF g=0):KnownCall Tryz.prog 16 [encG g] (.tup [.d (encX (srcG g)),.d (.int .i64 0)]):=by
 have cc:=grCheck g hf
 rw [h0] at cc
 have hv:=valid_ok h0
 have htl:=hv.tokens
 have hnl:=hv.names
 have hpl:=hv.prods
 have htk:=hf.tokens
 obtain⟨st,hst⟩:∃ st,st=nameS g g.start:=⟨_,rfl⟩
 have hs0:symName g g.start=some st:=by rw [hst];exact symName_start h0
 have cn:=called g g.start st hf htl hs0
 have c0:=fun O=>ACall.lift (ds:=[strs g.tokens]) (cloneA g.tokens htk) rfl O
 have he:encX (srcG g)=.agg [.int .i64 g.k,strs g.tokens,.str g.sep,.str st,.sl 2 (((List.range g.names.length).map (ruleG g)).map encR)]:=by rw [hst];rfl
 rw [he]
 refine knownE Yo (fnAt Tryz.func16 (by kernel_rfl) (by kernel_rfl):FnAt _ _ (mkFn Tryz.f16 [1,65580,43,62,77])) ?_
 repeat' (first|refine Yg ?_|refine Yq ?_|(refine oB (frz:=[1,65580,43,62,77]) Yo ?_ ?_<;>intro h<;>first|(exfalso;simp at h;first|done|omega)|skip)|(refine eB ?_ ?_<;>intro h<;>first|(exfalso;simp at h;first|done|omega)|skip)|refine oX (frz:=[1,65580,43,62,77]) Yo ?_|refine oS ?_|refine Yn ?_|refine Yk ?_|refine cT ?_|refine cF ?_|refine Yb ?_|refine Ye ?_|refine Yd (frz:=[1,65580,43,62,77]) Yo (by kernel_rfl) ?_|refine eX ?_|refine eS ?_|refine eN ?_|refine oC (cc) ?_|refine eC (cc) ?_|refine oC (cn) ?_|refine eC (cn) ?_|refine eA (c0 _) ?_|(refine Yt ?_;(first|refine rB ?_|refine rI ?_|refine rA ?_|refine rII ?_|refine rSI ?_|refine rT ?_|refine rS ?_);first|done|(skip))|((exfalso;(simp at h<;>omega)))|fail)
 refine Run.cellVec 2 4 96 true 2 ?_
 refine Run.loopR (fun i:Nat=>⟨PT.ofList [(1,(.d (.ep [.int .i64 g.k,strs g.tokens,.str g.sep,strs g.names,.int .i64 g.start,.sl 2 (g.prods.map encP)]))),(2,.bp 0 0),(3,.d (.int .i64 0)),(5,.bp 2 0),(33,.d (strs g.names)),(34,.d (.int .i64 (g.names.map DV.str).length)),(35,.d (.int .i64 i))],[boxX0,rmG g,boxP g st i,vecP i ((vecN g i).map .d)],[]⟩) (fun i=>i≤g.names.length) (fun i=>g.names.length-i) 0 (Nat.zero_le _) (relV0 _ rfl ⟨⟨rfl,rfl⟩,⟨rfl,rfl⟩,⟨rfl,rfl⟩,⟨rfl,rfl⟩,⟨rfl,rfl⟩,⟨rfl,rfl⟩,⟨rfl,rfl⟩,trivial⟩) (fun i hi=>?_)
 rcases Nat.lt_or_ge i g.names.length with hlt|hge
 ·obtain⟨nm,hnm⟩:=get_ok hlt
  have happ:(Nat.ble i i && Nat.ble ((i+1)*40) 1099511627776)=true:=by rw [Bool.and_eq_true,Nat.ble_eq,Nat.ble_eq];exact⟨Nat.le_refl _,by omega⟩
  repeat' (first|refine Yg ?_|refine Yq ?_|(refine oB (frz:=[1,65580,43,62,77]) Yo ?_ ?_<;>intro h<;>first|(exfalso;simp at h;first|done|omega)|skip)|(refine eB ?_ ?_<;>intro h<;>first|(exfalso;simp at h;first|done|omega)|skip)|refine oX (frz:=[1,65580,43,62,77]) Yo ?_|refine oS ?_|refine Yn ?_|refine Yk ?_|refine cT ?_|refine cF ?_|refine Yb ?_|refine Ye ?_|refine Yd (frz:=[1,65580,43,62,77]) Yo (by kernel_rfl) ?_|refine eX ?_|refine eS ?_|refine eN ?_|refine oX (frz:=[1,65580,43,62,77]) (v:=.d (.ep [.str nm])) Yo ?_ (hf:=(by first|(simp [inB]<;>fail)|(simp [inB];omega))) (he:=(by first|(simp [List.getD_eq_getElem?_getD,cellsD,hnm]<;>fail)|fail))|refine eX (v:=.d (.ep [.str nm])) ?_ (hf:=(by first|(simp [inB]<;>fail)|(simp [inB];omega))) (he:=(by first|(simp [List.getD_eq_getElem?_getD,cellsD,hnm]<;>fail)|fail))|refine oX (frz:=[1,65580,43,62,77]) Yo ?_ (hf:=by first|(simp [Nat.ble_eq]<;>fail)|(simp [Nat.ble_eq];omega))|(refine Yt ?_;(first|refine rB ?_|refine rI ?_|refine rA ?_|refine rII ?_|refine rSI ?_|refine rT ?_|refine rS ?_);first|done|(skip))|((exfalso;(simp at h<;>omega)))|fail)
  refine oX (frz:=[1,65580,43,62,77]) (v:=.vs 4 2 0 (i+1)) (objs':=[boxX0,rmG g,boxP g st i,.gone,vecP (i+1) ((vecN g (i+1)).map .d)]) Yo ?_ (hf:=happ) (he:=rfl) (ho:=by rw [← vecN_succ hnm];rfl)
  repeat' (first|refine Yg ?_|refine Yq ?_|(refine oB (frz:=[1,65580,43,62,77]) Yo ?_ ?_<;>intro h<;>first|(exfalso;simp at h;first|done|omega)|skip)|(refine eB ?_ ?_<;>intro h<;>first|(exfalso;simp at h;first|done|omega)|skip)|refine oX (frz:=[1,65580,43,62,77]) Yo ?_|refine oS ?_|refine Yn ?_|refine Yk ?_|refine cT ?_|refine cF ?_|refine Yb ?_|refine Ye ?_|refine Yd (frz:=[1,65580,43,62,77]) Yo (by kernel_rfl) ?_|refine eX ?_|refine eS ?_|refine eN ?_|(refine Yt ?_;(first|refine rB ?_|refine rI ?_|refine rA ?_|refine rII ?_|refine rSI ?_|refine rT ?_|refine rS ?_);first|done|(skip))|(fail)|fail)
  exact⟨i+1,hlt,by omega,relV _ rfl ⟨⟨rfl,rfl⟩,⟨rfl,rfl⟩,⟨rfl,rfl⟩,⟨rfl,rfl⟩,⟨rfl,rfl⟩,⟨rfl,rfl⟩,⟨rfl,(inc_get (k:=i) (by kernel_rfl) (by omega))⟩,trivial⟩⟩
 ·have hie:i=g.names.length:=by omega
  subst hie
  rw [cellsP_zero]
  have cp:=prodsOf g
  repeat' (first|refine Yg ?_|refine Yq ?_|(refine oB (frz:=[1,65580,43,62,77]) Yo ?_ ?_<;>intro h<;>first|(exfalso;simp at h;first|done|omega)|skip)|(refine eB ?_ ?_<;>intro h<;>first|(exfalso;simp at h;first|done|omega)|skip)|refine oX (frz:=[1,65580,43,62,77]) Yo ?_|refine oS ?_|refine Yn ?_|refine Yk ?_|refine cT ?_|refine cF ?_|refine Yb ?_|refine Ye ?_|refine Yd (frz:=[1,65580,43,62,77]) Yo (by kernel_rfl) ?_|refine eX ?_|refine eS ?_|refine eN ?_|refine oC (cp) ?_|refine eC (cp) ?_|(refine Yt ?_;(first|refine rB ?_|refine rI ?_|refine rA ?_|refine rII ?_|refine rSI ?_|refine rT ?_|refine rS ?_);first|done|(skip))|((exfalso;(simp at h<;>omega)))|fail)
  refine Run.rangeProdsX (frz:=[1,65580,43,62,77]) 4 (bsP g st) (xsP g) g.prods (by omega) (by rfl) rfl (fun _=>rfl) (fun k=>bsP_ref g st k) (fun k=>xsP_ref g k _) (fun n=>?_) (fun k p hk hp=>?_) ?_
  ·rw [show 4+2+n=n+6 from by omega];rfl
  ·obtain⟨r,hl,hr,hc1,hcase⟩:=cnt_step h0 hp
   have hX:=xsP_len g k
   have hpm:=List.mem_of_getElem? hp
   refine ayield_box [.int .i64 p.left,ints p.right] [(1,(.d (.ep [.int .i64 g.k,strs g.tokens,.str g.sep,strs g.names,.int .i64 g.start,.sl 2 (g.prods.map encP)]))),(5,.bp 2 0),(9,.d (.ep [.int .i64 p.left,ints p.right]))] rfl rfl rfl rfl (bsP_ref g st k) (xsP_ref g k _) (by rw [show 4+2+(xsP g k).length=(xsP g k).length+6 from by omega];rfl) ⟨rfl,bltN (by omega),rfl,trivial⟩ ?_ (fun a b ha hb=>?_)
   ·repeat' (first|refine Yg ?_|refine Yq ?_|(refine oB (frz:=[1,65580,43,62,77]) Yo ?_ ?_<;>intro h<;>first|(exfalso;simp at h;first|done|omega)|skip)|(refine eB ?_ ?_<;>intro h<;>first|(exfalso;simp at h;first|done|omega)|skip)|refine oX (frz:=[1,65580,43,62,77]) Yo ?_|refine oS ?_|refine Yn ?_|refine Yk ?_|refine cT ?_|refine cF ?_|refine Yb ?_|refine Ye ?_|refine Yd (frz:=[1,65580,43,62,77]) Yo (by kernel_rfl) ?_|refine eX ?_|refine eS ?_|refine eN ?_|refine oX (frz:=[1,65580,43,62,77]) Yo ?_ (hv:=evAny_store_last)|(refine Yt ?_;(first|refine rB ?_|refine rI ?_|refine rA ?_|refine rII ?_|refine rSI ?_|refine rT ?_|refine rS ?_);first|done|(skip))|(fail)|fail)
    exact⟨rfl,_,rfl,ofList_cases (by intro q hq;simp only [List.mem_cons,List.not_mem_nil,or_false] at hq;rcases hq with rfl|rfl|rfl;exact .inl (by kernel_rfl);exact .inl (by kernel_rfl);exact .inr ⟨0,Nat.zero_le _,by kernel_rfl,rfl⟩)⟩
   ·obtain⟨O,hO⟩:∃ O,O=bsP g st k++[a,b]++xsP g k:=⟨_,rfl⟩
    rw [← hO]
    have hOl:O.length=6+cntG g k:=by rw [hO];simp;omega
    have hOr:O.all (refOb O.length)=true:=by
     have h1:=bsP_ref g st k
     have h2:=xsP_ref g k (4+2+(xsP g k).length)
     have e:O.length=4+2+(xsP g k).length:=by omega
     rw [e,hO]
     simp only [List.all_append,h1,h2,List.all_cons,List.all_nil,ha,hb,Bool.true_and,Bool.and_true]
    repeat' (first|refine Yg ?_|refine Yq ?_|(refine oB (frz:=[1,65580,43,62,77]) Yo ?_ ?_<;>intro h<;>first|(exfalso;simp at h;first|done|omega)|skip)|(refine eB ?_ ?_<;>intro h<;>first|(exfalso;simp at h;first|done|omega)|skip)|refine oX (frz:=[1,65580,43,62,77]) Yo ?_|refine oS ?_|refine Yn ?_|refine Yk ?_|refine cT ?_|refine cF ?_|refine Yb ?_|refine Ye ?_|refine Yd (frz:=[1,65580,43,62,77]) Yo (by kernel_rfl) ?_|refine eX ?_|refine eS ?_|refine eN ?_|(refine Yt ?_;(first|refine rB ?_|refine rI ?_|refine rA ?_|refine rII ?_|refine rSI ?_|refine rT ?_|refine rS ?_);first|done|(skip))|(fail)|fail)
    refine Run.mkRoom 10 1 [(1,(.d (.ep [.int .i64 g.k,strs g.tokens,.str g.sep,strs g.names,.int .i64 g.start,.sl 2 (g.prods.map encP)]))),(5,.bp 2 0),(9,.d (.ep [.int .i64 p.left,ints p.right])),(10,.sr O.length 1 []),(52,.d (ints p.right)),(53,.d (.int .i64 (p.right.map (DV.int .i64)).length)),(54,.d (.int .i64 (0:Nat)))] (by kernel_rfl) (ofList_cases (by intro q hq;simp only [List.mem_cons,List.not_mem_nil,or_false] at hq;rcases hq with rfl|rfl|rfl|rfl|rfl|rfl|rfl<;>first|exact .inl ⟨rfl,rfl⟩|exact .inr (by kernel_rfl))) ?_
    refine Run.loop (fun u:Nat × List DV=>⟨PT.ofList [(1,(.d (.ep [.int .i64 g.k,strs g.tokens,.str g.sep,strs g.names,.int .i64 g.start,.sl 2 (g.prods.map encP)]))),(5,.bp 2 0),(9,.d (.ep [.int .i64 p.left,ints p.right])),(10,.sr O.length 1 u.2),(52,.d (ints p.right)),(53,.d (.int .i64 (p.right.map (DV.int .i64)).length)),(54,.d (.int .i64 (u.1:Nat)))],O++[.room u.2.length 1],[]⟩) (fun u=>u.1≤p.right.length∧u.2=(p.right.take u.1).map fun s=>.str (nameS g s)) (fun u=>p.right.length-u.1) (0,[]) ⟨Nat.zero_le _,rfl⟩ (weak_of (by repeat' (first|exact trivial|refine⟨(by kernel_rfl),?_⟩))) (fun u hu=>?_)
    obtain⟨j,ns⟩:=u
    obtain⟨hj1,hj2⟩:=hu
    simp only at hj1 hj2 ⊢
    have hr6:=hv.right p hpm
    have hnsl:ns.length≤j:=by rw [hj2];simp;omega
    rcases Nat.lt_or_ge j p.right.length with hjl|hjg
    ·obtain⟨s,hs⟩:=get_ok hjl
     have hsn:=symName_some hv (hv.syms p hpm s (List.mem_of_getElem? hs))
     have cs:=called g s (nameS g s) hf htl hsn
     have hnx:ns++[.str (nameS g s)]=(p.right.take (j+1)).map fun s=>DV.str (nameS g s):=by rw [List.take_add_one,hs,hj2];simp
     repeat' (first|refine Yg ?_|refine Yq ?_|(refine oB (frz:=[1,65580,43,62,77]) Yo ?_ ?_<;>intro h<;>first|(exfalso;simp at h;first|done|omega)|skip)|(refine eB ?_ ?_<;>intro h<;>first|(exfalso;simp at h;first|done|omega)|skip)|refine oX (frz:=[1,65580,43,62,77]) Yo ?_|refine oS ?_|refine Yn ?_|refine Yk ?_|refine cT ?_|refine cF ?_|refine Yb ?_|refine Ye ?_|refine Yd (frz:=[1,65580,43,62,77]) Yo (by kernel_rfl) ?_|refine eX ?_|refine eS ?_|refine eN ?_|refine oX (frz:=[1,65580,43,62,77]) (v:=.d (.ep [.int .i64 s])) Yo ?_ (hf:=(by first|(simp [inB]<;>fail)|(simp [inB];omega))) (he:=(by first|(simp [List.getD_eq_getElem?_getD,cellsD,hs]<;>fail)|fail))|refine eX (v:=.d (.ep [.int .i64 s])) ?_ (hf:=(by first|(simp [inB]<;>fail)|(simp [inB];omega))) (he:=(by first|(simp [List.getD_eq_getElem?_getD,cellsD,hs]<;>fail)|fail))|refine oC (cs) ?_|refine eC (cs) ?_|(refine Yt ?_;(first|refine rB ?_|refine rI ?_|refine rA ?_|refine rII ?_|refine rSI ?_|refine rT ?_|refine rS ?_);first|done|(skip))|((exfalso;(simp at h<;>omega)))|fail)
     refine oX (frz:=[1,65580,43,62,77]) (v:=.sr O.length 1 (ns++[.str (nameS g s)])) (objs':=O++[.room (ns.length+1) 1]) Yo ?_ (hv:=app1 (h8:=get_last)) (he:=by rfl) (ho:=by exact set_last (O:=O))
     repeat' (first|refine Yg ?_|refine Yq ?_|(refine oB (frz:=[1,65580,43,62,77]) Yo ?_ ?_<;>intro h<;>first|(exfalso;simp at h;first|done|omega)|skip)|(refine eB ?_ ?_<;>intro h<;>first|(exfalso;simp at h;first|done|omega)|skip)|refine oX (frz:=[1,65580,43,62,77]) Yo ?_|refine oS ?_|refine Yn ?_|refine Yk ?_|refine cT ?_|refine cF ?_|refine Yb ?_|refine Ye ?_|refine Yd (frz:=[1,65580,43,62,77]) Yo (by kernel_rfl) ?_|refine eX ?_|refine eS ?_|refine eN ?_|(refine Yt ?_;(first|refine rB ?_|refine rI ?_|refine rA ?_|refine rII ?_|refine rSI ?_|refine rT ?_|refine rS ?_);first|done|(skip))|(fail)|fail)
     exact⟨(j+1,ns++[.str (nameS g s)]),⟨hjl,hnx⟩,by simp only<;>omega,weak_of' (by simp) rfl (by repeat' (first|exact trivial|refine⟨rfl,?_⟩|refine⟨(inc_get (k:=j) (by kernel_rfl) (by omega)),?_⟩))⟩
    ·have hje:j=p.right.length:=by omega
     have hns:ns=(p.right.map (nameS g)).map DV.str:=by rw [hj2,hje,List.take_length,List.map_map];rfl
     repeat (first|refine Yq ?_|refine Yg ?_|refine Yn ?_|refine Yk ?_|refine cT ?_|refine cF ?_|refine Yb ?_|refine Ye ?_)
     refine oX (frz:=[1,65580,43,62,77]) (v:=.d (.bool false)) Yo ?_ (he:=vF8 (by simp<;>omega))
     repeat (first|refine Yq ?_|refine Yg ?_|refine Yn ?_|refine Yk ?_|refine cT ?_|refine cF ?_|refine Yb ?_|refine Ye ?_)
     refine RunOps.tidy (tidy_of (objs:=_) (objs':=O) [(1,(.d (.ep [.int .i64 g.k,strs g.tokens,.str g.sep,strs g.names,.int .i64 g.start,.sl 2 (g.prods.map encP)]))),(5,.bp 2 0),(9,.d (.ep [.int .i64 p.left,ints p.right])),(10,.d (.sl 1 ns))] O.length List.take_left (Nat.ble_eq_true_of_le (by omega)) (by repeat' (first|exact trivial|refine⟨(Or.inl rfl),?_⟩|refine⟨(Or.inr rfl),?_⟩|fail)) ⟨rfl,bltN (by omega),rfl,rfl,trivial⟩ hOr rfl) ?_
     have hr16:AV.d (.int .i64 (IntKind.i64.wrap (p.left-16)))=.d (.int .i64 (r:Nat)):=vN8 (by omega) (by omega)
     have hin:inB (r:Int) g.names.length=true:=by simp only [inB,Bool.and_eq_true,decide_eq_true_eq];omega
     subst hO
     repeat' (first|refine oX (frz:=[1,65580,43,62,77]) (v:=.d (.int .i64 (r:Nat))) Yo ?_ (he:=(hr16))|refine eX (v:=.d (.int .i64 (r:Nat))) ?_ (he:=(hr16))|refine Yg ?_|refine Yq ?_|(refine oB (frz:=[1,65580,43,62,77]) Yo ?_ ?_<;>intro h<;>first|(exfalso;simp at h;first|done|omega)|skip)|(refine eB ?_ ?_<;>intro h<;>first|(exfalso;simp at h;first|done|omega)|skip)|refine oX (frz:=[1,65580,43,62,77]) Yo ?_|refine oS ?_|refine Yn ?_|refine Yk ?_|refine cT ?_|refine cF ?_|refine Yb ?_|refine Ye ?_|refine Yd (frz:=[1,65580,43,62,77]) Yo (by kernel_rfl) ?_|refine eX ?_|refine eS ?_|refine eN ?_|refine oX (frz:=[1,65580,43,62,77]) (v:=.bp 3 (2*r)) Yo ?_ (hf:=hin) (he:=congrArg (AV.bp 3) (show(0+r)*2=2*r by omega))|(refine Yt ?_;(first|refine rB ?_|refine rI ?_|refine rA ?_|refine rII ?_|refine rSI ?_|refine rT ?_|refine rS ?_);first|done|(skip))|(fail)|fail)
     have hcell:(cellsP g k)[2*r+1]?=some (cellP g k r):=(prL_get _ _ hr).2
     rcases hcase with⟨hn1,hn2⟩|ho1
     ·have hcp:cellP g k r=.d .nilsl:=if_neg (by omega)
      refine oX (frz:=[1,65580,43,62,77]) (v:=.d .nilsl) Yo ?_ (hv:=evAny_loadV rfl rfl rfl rfl rfl (hcell.trans (congrArg some hcp)))
      repeat' (first|refine Yg ?_|refine Yq ?_|(refine oB (frz:=[1,65580,43,62,77]) Yo ?_ ?_<;>intro h<;>first|(exfalso;simp at h;first|done|omega)|skip)|(refine eB ?_ ?_<;>intro h<;>first|(exfalso;simp at h;first|done|omega)|skip)|refine oX (frz:=[1,65580,43,62,77]) Yo ?_|refine oS ?_|refine Yn ?_|refine Yk ?_|refine cT ?_|refine cF ?_|refine Yb ?_|refine Ye ?_|refine Yd (frz:=[1,65580,43,62,77]) Yo (by kernel_rfl) ?_|refine eX ?_|refine eS ?_|refine eN ?_|(refine Yt ?_;(first|refine rB ?_|refine rI ?_|refine rA ?_|refine rII ?_|refine rSI ?_|refine rT ?_|refine rS ?_);first|done|(skip))|(fail)|fail)
      have hal:altsT g r k=[]:=by unfold altsT;rw [hn2];rfl
      have hcs:=cells_step hp hl hr hc1 (.inl hn1)
      have hxs:=xs_new hp hl hc1 hn1 hal
      rw [hal] at hcs
      refine oX (frz:=[1,65580,43,62,77]) (objs':=bsP g st (k+1)++[a,b]++xsP g (k+1)) Yo ?_ (hv:=evAny_storeV (off:=2*r+1) (c:=.sr (6+r) 1 [strs (p.right.map (nameS g))]) rfl rfl rfl rfl (by rw [hns] at *;exact congrArg (fun n=>AV.sr n 1 _) (hOl.trans (by omega))) rfl rfl rfl (show 2*r+1<(cellsP g k).length by rw [prL_len];omega)) (ho:=?_)
      ·repeat' (first|refine Yg ?_|refine Yq ?_|(refine oB (frz:=[1,65580,43,62,77]) Yo ?_ ?_<;>intro h<;>first|(exfalso;simp at h;first|done|omega)|skip)|(refine eB ?_ ?_<;>intro h<;>first|(exfalso;simp at h;first|done|omega)|skip)|refine oX (frz:=[1,65580,43,62,77]) Yo ?_|refine oS ?_|refine Yn ?_|refine Yk ?_|refine cT ?_|refine cF ?_|refine Yb ?_|refine Ye ?_|refine Yd (frz:=[1,65580,43,62,77]) Yo (by kernel_rfl) ?_|refine eX ?_|refine eS ?_|refine eN ?_|(refine Yt ?_;(first|refine rB ?_|refine rI ?_|refine rA ?_|refine rII ?_|refine rSI ?_|refine rT ?_|refine rS ?_);first|done|(skip))|(fail)|fail)
       exact⟨rfl,rfl⟩
      ·show _=[boxX0,rmG g,boxP g st g.names.length,vecP g.names.length (cellsP g (k+1))]++[a,b]++xsP g (k+1)
       rw [← hcs,← hxs];rfl
     ·have hcp:cellP g k r=.sr (6+r) 1 ((altsT g r k).map strs):=by unfold cellP;rw [if_pos (by omega)];rfl
      have hcs:=cells_step hp hl hr hc1 (.inr ho1)
      have hxs:=xs_old hp hl hc1 ho1
      have hall:=altsT_len g r k
      refine oX (frz:=[1,65580,43,62,77]) (v:=.sr (6+r) 1 ((altsT g r k).map strs)) Yo ?_ (hv:=evAny_loadV rfl rfl rfl rfl rfl (hcell.trans (congrArg some hcp)))
      repeat' (first|refine Yg ?_|refine Yq ?_|(refine oB (frz:=[1,65580,43,62,77]) Yo ?_ ?_<;>intro h<;>first|(exfalso;simp at h;first|done|omega)|skip)|(refine eB ?_ ?_<;>intro h<;>first|(exfalso;simp at h;first|done|omega)|skip)|refine oX (frz:=[1,65580,43,62,77]) Yo ?_|refine oS ?_|refine Yn ?_|refine Yk ?_|refine cT ?_|refine cF ?_|refine Yb ?_|refine Ye ?_|refine Yd (frz:=[1,65580,43,62,77]) Yo (by kernel_rfl) ?_|refine eX ?_|refine eS ?_|refine eN ?_|(refine Yt ?_;(first|refine rB ?_|refine rI ?_|refine rA ?_|refine rII ?_|refine rSI ?_|refine rT ?_|refine rS ?_);first|done|(skip))|(fail)|fail)
      refine oX (frz:=[1,65580,43,62,77]) (v:=.sr (6+r) 1 ((altsT g r k).map strs++[.sl 1 ns])) (objs':=bsP g st k++[a,b]++xsP g (k+1)) Yo ?_ (hv:=app1 (h8:=six_get.trans (xs_get ho1)) (hn:=by simp) (hlen:=by simp [chunk,cutL]<;>omega)) (he:=by rfl) (ho:=by exact six_set.trans (congrArg (fun X=>bsP g st k++[a,b]++X) hxs))
      repeat' (first|refine Yg ?_|refine Yq ?_|(refine oB (frz:=[1,65580,43,62,77]) Yo ?_ ?_<;>intro h<;>first|(exfalso;simp at h;first|done|omega)|skip)|(refine eB ?_ ?_<;>intro h<;>first|(exfalso;simp at h;first|done|omega)|skip)|refine oX (frz:=[1,65580,43,62,77]) Yo ?_|refine oS ?_|refine Yn ?_|refine Yk ?_|refine cT ?_|refine cF ?_|refine Yb ?_|refine Ye ?_|refine Yd (frz:=[1,65580,43,62,77]) Yo (by kernel_rfl) ?_|refine eX ?_|refine eS ?_|refine eN ?_|(refine Yt ?_;(first|refine rB ?_|refine rI ?_|refine rA ?_|refine rII ?_|refine rSI ?_|refine rT ?_|refine rS ?_);first|done|(skip))|(fail)|fail)
      refine oX (frz:=[1,65580,43,62,77]) (objs':=bsP g st (k+1)++[a,b]++xsP g (k+1)) Yo ?_ (hv:=evAny_storeV (off:=2*r+1) (c:=.sr (6+r) 1 ((altsT g r k).map strs++[strs (p.right.map (nameS g))])) rfl rfl rfl rfl (by rw [hns];rfl) rfl rfl rfl (show 2*r+1<(cellsP g k).length by rw [prL_len];omega)) (ho:=?_)
      ·repeat' (first|refine Yg ?_|refine Yq ?_|(refine oB (frz:=[1,65580,43,62,77]) Yo ?_ ?_<;>intro h<;>first|(exfalso;simp at h;first|done|omega)|skip)|(refine eB ?_ ?_<;>intro h<;>first|(exfalso;simp at h;first|done|omega)|skip)|refine oX (frz:=[1,65580,43,62,77]) Yo ?_|refine oS ?_|refine Yn ?_|refine Yk ?_|refine cT ?_|refine cF ?_|refine Yb ?_|refine Ye ?_|refine Yd (frz:=[1,65580,43,62,77]) Yo (by kernel_rfl) ?_|refine eX ?_|refine eS ?_|refine eN ?_|(refine Yt ?_;(first|refine rB ?_|refine rI ?_|refine rA ?_|refine rII ?_|refine rSI ?_|refine rT ?_|refine rS ?_);first|done|(skip))|(fail)|fail)
       exact⟨rfl,rfl⟩
      ·show _=[boxX0,rmG g,boxP g st g.names.length,vecP g.names.length (cellsP g (k+1))]++[a,b]++xsP g (k+1)
       rw [← hcs];rfl
  ·repeat' (first|refine Yg ?_|refine Yq ?_|(refine oB (frz:=[1,65580,43,62,77]) Yo ?_ ?_<;>intro h<;>first|(exfalso;simp at h;first|done|omega)|skip)|(refine eB ?_ ?_<;>intro h<;>first|(exfalso;simp at h;first|done|omega)|skip)|refine oX (frz:=[1,65580,43,62,77]) Yo ?_|refine oS ?_|refine Yn ?_|refine Yk ?_|refine cT ?_|refine cF ?_|refine Yb ?_|refine Ye ?_|refine Yd (frz:=[1,65580,43,62,77]) Yo (by kernel_rfl) ?_|refine eX ?_|refine eS ?_|refine eN ?_|(refine Yt ?_;(first|refine rB ?_|refine rI ?_|refine rA ?_|refine rII ?_|refine rSI ?_|refine rT ?_|refine rS ?_);first|done|(skip))|(fail)|fail)
   refine Yt ?_
   refine⟨trivial,_,_,by rfl,by rfl,?_⟩
   exact close_src (dvOf_vecP h0 5 rfl)
theorem srcPr (g:Gram) (hf:Fits g):KnownCall Tryz.prog 16 [encG g] (.tup [.d (encX (srcR g)),.d (.int .i64 (checkF g))]):=by
 by_cases h0:checkF g=0
 ·rw [show srcR g=srcG g from if_pos h0,h0]
  exact srcPr0 g hf h0
 ·rw [show srcR g=x0 from if_neg h0]
  have cc:=grCheck g hf
  generalize checkF g=c at cc h0 ⊢
  refine known_toN2 ?_ zeroX
  refine knownE Yo (fnAt Tryz.func16 (by kernel_rfl) (by kernel_rfl):FnAt _ _ (mkFn Tryz.f16 [1])) ?_
  repeat' (first|refine Yg ?_|refine Yq ?_|(refine oB (frz:=[1]) Yo ?_ ?_<;>intro h<;>first|(exfalso;simp at h;first|done|omega)|skip)|(refine eB ?_ ?_<;>intro h<;>first|(exfalso;simp at h;first|done|omega)|skip)|refine oX (frz:=[1]) Yo ?_|refine oS ?_|refine Yn ?_|refine Yk ?_|refine cT ?_|refine cF ?_|refine Yb ?_|refine Ye ?_|refine Yd (frz:=[1]) Yo (by kernel_rfl) ?_|refine eX ?_|refine eS ?_|refine eN ?_|refine oC (cc) ?_|refine eC (cc) ?_|(refine Yt ?_;(first|refine rB ?_|refine rI ?_|refine rA ?_|refine rII ?_|refine rSI ?_|refine rT ?_|refine rS ?_);first|done|(rfl))|((exfalso;first|(simp_all<;>fail)|(simp_all;omega)))|fail)
end Go.Av
end
noncomputable section
namespace Go.Av
open Go Go.Proofs
set_option maxRecDepth 10000
theorem nameS_cases (g:Gram) (s:Int):nameS g s=[]∨nameS g s ∈ g.tokens∨nameS g s ∈ g.names:=by
 cases h:symName g s with
 |none=>exact .inl (by simp [nameS,h])
 |some x =>
  rw [nameS_of h]
  unfold symName at h
  split at h
  ·exact .inr (.inr (List.mem_of_getElem? h))
  ·split at h
   ·exact .inr (.inl (List.mem_of_getElem? h))
   ·cases h
theorem mem_altsG {g:Gram} {r:Nat} {a:List (List Nat)} (h:a ∈ altsG g r):∃ p ∈ g.prods,a=p.right.map (nameS g):=by
 unfold altsG at h
 obtain⟨p,hp,rfl⟩:=List.mem_map.1 h
 obtain⟨q,hq,_⟩:=mem_prodsF hp
 exact⟨q,List.mem_of_getElem? hq,by rw [getD_some hq]⟩
theorem mem_rules {g:Gram} {r:SRule} (h:r ∈ (srcG g).rules):∃ n,n<g.names.length∧r=ruleG g n:=by
 obtain⟨n,hn,rfl⟩:=List.mem_map.1 h
 exact⟨n,List.mem_range.1 hn,rfl⟩
theorem srcG_light {g:Gram} (h:lightF g=true):LightX (srcG g):=by
 simp only [lightF,shortS,Bool.and_eq_true,decide_eq_true_eq,List.all_eq_true] at h
 obtain⟨⟨⟨⟨⟨⟨h1,h2⟩,h3⟩,h4⟩,h5⟩,h6⟩,h7⟩:=h
 have hn:∀ s,(nameS g s).length≤40:=fun s=>by
  rcases nameS_cases g s with e|e|e
  ·rw [e];simp
  ·exact h5 _ e
  ·exact h6 _ e
 refine⟨⟨by show g.tokens.length≤12;omega,h5⟩,h4,hn _,by show((List.range g.names.length).map (ruleG g)).length≤12;rw [List.length_map,List.length_range];omega,fun r hr=>?_⟩
 obtain⟨n,hlt,rfl⟩:=mem_rules hr
 obtain⟨nm,hnm⟩:=get_ok hlt
 refine⟨by show(g.names.getD n []).length≤40;rw [getD_some hnm];exact h6 _ (List.mem_of_getElem? hnm),?_,fun a ha=>?_⟩
 ·have:=altsT_len g n g.prods.length
  rw [altsT_all] at this
  show(altsG g n).length≤30
  omega
 ·obtain⟨p,hp,rfl⟩:=mem_altsG ha
  refine⟨by rw [List.length_map];have:=h7 p hp;omega,fun s hs=>?_⟩
  obtain⟨t,_,rfl⟩:=List.mem_map.1 hs
  exact hn t
theorem srcG_bytes {g:Gram} (ht:∀ s ∈ g.tokens,∀ c ∈ s,c<256) (hs:∀ c ∈ g.sep,c<256) (hnm:∀ s ∈ g.names,∀ c ∈ s,c<256):ByteX (srcG g):=by
 have hn:∀ s,∀ c ∈ nameS g s,c<256:=fun s=>by
  rcases nameS_cases g s with e|e|e
  ·rw [e];simp
  ·exact ht _ e
  ·exact hnm _ e
 refine⟨ht,hs,hn _,fun r hr=>?_,fun r hr a ha s hs=>?_⟩
 ·obtain⟨n,hlt,rfl⟩:=mem_rules hr
  obtain⟨nm,hnm'⟩:=get_ok hlt
  show ∀ c ∈ g.names.getD n [],c<256
  rw [getD_some hnm'];exact hnm _ (List.mem_of_getElem? hnm')
 ·obtain⟨n,hlt,rfl⟩:=mem_rules hr
  obtain⟨p,hp,rfl⟩:=mem_altsG ha
  obtain⟨t,_,rfl⟩:=List.mem_map.1 hs
  exact hn t
def textG (g:Gram):List Nat:=if checkF g=0 then printF (srcG g) else []
def textE (g:Gram):Int:=if checkF g=0 then checkX (srcG g) else checkF g
theorem textS (g:Gram) (hl:lightF g=true) (hb:ByteX (srcG g)):KnownCall Tryz.prog 18 [encG g] (.tup [.d (.str (textG g)),.d (.int .i64 (textE g))]):=by
 have cs:=srcPr g (light_fits hl)
 by_cases h0:checkF g=0
 ·have L:=srcG_light hl
  have cp:=printSA (srcG g) L.fits L.inner L.print hb
  rw [show srcR g=srcG g from if_pos h0,h0] at cs
  rw [show textG g=printF (srcG g) from if_pos h0,show textE g=checkX (srcG g) from if_pos h0]
  generalize srcG g=x at cs cp
  generalize printF x=px at cp ⊢
  generalize checkX x=cx at cp ⊢
  refine knownE Yo (fnAt Tryz.func18 (by kernel_rfl) (by kernel_rfl):FnAt _ _ (mkFn Tryz.f18 [1])) ?_
  repeat' (first|refine Yg ?_|refine Yq ?_|(refine oB (frz:=[1]) Yo ?_ ?_<;>intro h<;>first|(exfalso;simp at h;first|done|omega)|skip)|(refine eB ?_ ?_<;>intro h<;>first|(exfalso;simp at h;first|done|omega)|skip)|refine oX (frz:=[1]) Yo ?_|refine oS ?_|refine Yn ?_|refine Yk ?_|refine cT ?_|refine cF ?_|refine Yb ?_|refine Ye ?_|refine Yd (frz:=[1]) Yo (by kernel_rfl) ?_|refine eX ?_|refine eS ?_|refine eN ?_|refine oC (cs) ?_|refine eC (cs) ?_|refine oC (cp) ?_|refine eC (cp) ?_|(refine Yt ?_;(first|refine rB ?_|refine rI ?_|refine rA ?_|refine rII ?_|refine rSI ?_|refine rT ?_|refine rS ?_);first|done|(rfl))|((exfalso;(simp at h<;>fail)))|fail)
 ·rw [show textG g=[] from if_neg h0,show textE g=checkF g from if_neg h0]
  generalize srcR g=x at cs
  generalize checkF g=c at cs h0 ⊢
  refine knownE Yo (fnAt Tryz.func18 (by kernel_rfl) (by kernel_rfl):FnAt _ _ (mkFn Tryz.f18 [1])) ?_
  repeat' (first|refine Yg ?_|refine Yq ?_|(refine oB (frz:=[1]) Yo ?_ ?_<;>intro h<;>first|(exfalso;simp at h;first|done|omega)|skip)|(refine eB ?_ ?_<;>intro h<;>first|(exfalso;simp at h;first|done|omega)|skip)|refine oX (frz:=[1]) Yo ?_|refine oS ?_|refine Yn ?_|refine Yk ?_|refine cT ?_|refine cF ?_|refine Yb ?_|refine Ye ?_|refine Yd (frz:=[1]) Yo (by kernel_rfl) ?_|refine eX ?_|refine eS ?_|refine eN ?_|refine oC (cs) ?_|refine eC (cs) ?_|(refine Yt ?_;(first|refine rB ?_|refine rI ?_|refine rA ?_|refine rII ?_|refine rSI ?_|refine rT ?_|refine rS ?_);first|done|(rfl))|((exfalso;first|(simp_all<;>fail)|(simp_all;omega)))|fail)
theorem textR (g:Gram) (hl:lightF g=true):KnownCall Tryz.prog 19 [encG g] (.tup [.d (.str (textG g)),.d (.int .i64 (textE g))]):=by
 have cs:=srcRef g (light_fits hl)
 by_cases h0:checkF g=0
 ·have L:=srcG_light hl
  have cp:=printRA (srcG g) L.fits L.print
  rw [show srcR g=srcG g from if_pos h0,h0] at cs
  rw [show textG g=printF (srcG g) from if_pos h0,show textE g=checkX (srcG g) from if_pos h0]
  generalize srcG g=x at cs cp
  generalize printF x=px at cp ⊢
  generalize checkX x=cx at cp ⊢
  refine knownE Yo (fnAt Tryz.func19 (by kernel_rfl) (by kernel_rfl):FnAt _ _ (mkFn Tryz.f19 [1])) ?_
  repeat' (first|refine Yg ?_|refine Yq ?_|(refine oB (frz:=[1]) Yo ?_ ?_<;>intro h<;>first|(exfalso;simp at h;first|done|omega)|skip)|(refine eB ?_ ?_<;>intro h<;>first|(exfalso;simp at h;first|done|omega)|skip)|refine oX (frz:=[1]) Yo ?_|refine oS ?_|refine Yn ?_|refine Yk ?_|refine cT ?_|refine cF ?_|refine Yb ?_|refine Ye ?_|refine Yd (frz:=[1]) Yo (by kernel_rfl) ?_|refine eX ?_|refine eS ?_|refine eN ?_|refine oC (cs) ?_|refine eC (cs) ?_|refine oC (cp) ?_|refine eC (cp) ?_|(refine Yt ?_;(first|refine rB ?_|refine rI ?_|refine rA ?_|refine rII ?_|refine rSI ?_|refine rT ?_|refine rS ?_);first|done|(rfl))|((exfalso;(simp at h<;>fail)))|fail)
 ·rw [show textG g=[] from if_neg h0,show textE g=checkF g from if_neg h0]
  generalize srcR g=x at cs
  generalize checkF g=c at cs h0 ⊢
  refine knownE Yo (fnAt Tryz.func19 (by kernel_rfl) (by kernel_rfl):FnAt _ _ (mkFn Tryz.f19 [1])) ?_
  repeat' (first|refine Yg ?_|refine Yq ?_|(refine oB (frz:=[1]) Yo ?_ ?_<;>intro h<;>first|(exfalso;simp at h;first|done|omega)|skip)|(refine eB ?_ ?_<;>intro h<;>first|(exfalso;simp at h;first|done|omega)|skip)|refine oX (frz:=[1]) Yo ?_|refine oS ?_|refine Yn ?_|refine Yk ?_|refine cT ?_|refine cF ?_|refine Yb ?_|refine Ye ?_|refine Yd (frz:=[1]) Yo (by kernel_rfl) ?_|refine eX ?_|refine eS ?_|refine eN ?_|refine oC (cs) ?_|refine eC (cs) ?_|(refine Yt ?_;(first|refine rB ?_|refine rI ?_|refine rA ?_|refine rII ?_|refine rSI ?_|refine rT ?_|refine rS ?_);first|done|(rfl))|((exfalso;first|(simp_all<;>fail)|(simp_all;omega)))|fail)
end Go.Av
end
noncomputable section
namespace Go.Av
open Go Go.Proofs
set_option maxRecDepth 10000
section
variable {H:Type} {enc:TypeId × Value→H} {w:World} {spare:Nat→Bool} {held:Bool} {fuel:Nat} {cs:List Value} {x:DataW H × List MemPlace}
abbrev Wf64 (n:Int):Prop:=(Lit.int .i64 n).wf=true
def wfStr (s:List Nat):Prop:=s.length≤maxLen∧∀ c ∈ s,c<256
structure WfProd (p:GProd):Prop where
 left:Wf64 p.left
 len:p.right.length≤maxLen
 right:∀ n ∈ p.right,Wf64 n
structure WfGram (g:Gram):Prop where
 k:Wf64 g.k
 tokensL:g.tokens.length≤maxLen
 tokens:∀ s ∈ g.tokens,wfStr s
 sep:wfStr g.sep
 namesL:g.names.length≤maxLen
 names:∀ s ∈ g.names,wfStr s
 start:Wf64 g.start
 prodsL:g.prods.length≤maxLen
 prods:∀ p ∈ g.prods,WfProd p
theorem cr_ints (hsp:∀ b,spare b=true) (h:DataW.trod enc Tryz.prog w 0 spare held fuel 66 cs=some x):∃ l:List Int,CellsRep (heapD w) (ints l) cs∧l.length≤maxLen∧∀ n ∈ l,Wf64 n :=
 cr_slice (DV.int .i64) Wf64 Tryz.underlying66 (by kernel_rfl) (Nat.le_refl _) hsp (fun n cs' y _ hy=>cr_int Tryz.underlying3 hy) h
theorem cr_strs (hsp:∀ b,spare b=true) (h:DataW.trod enc Tryz.prog w 0 spare held fuel 22 cs=some x):∃ l:List (List Nat),CellsRep (heapD w) (strs l) cs∧l.length≤maxLen∧∀ s ∈ l,wfStr s :=
 cr_slice DV.str wfStr Tryz.underlying22 (by kernel_rfl) (Nat.le_refl _) hsp (fun n cs' y _ hy=>cr_str Tryz.underlying9 hy) h
theorem cr_prod (hsp:∀ b,spare b=true) (hl:cs.length=2) (h:DataW.trod enc Tryz.prog w 0 spare held fuel 82 cs=some x):∃ p:GProd,CellsRep (heapD w) (encP p) cs∧WfProd p:=by
 match cs,hl,h with
 |[v0,v1],_,h =>
  obtain⟨n0,y0,e0⟩:=trod_field Tryz.underlying82 h 0 rfl (by kernel_rfl) rfl
  obtain⟨n1,y1,e1⟩:=trod_field Tryz.underlying82 h 1 rfl (by kernel_rfl) rfl
  obtain⟨a,ha,wa⟩:=cr_int Tryz.underlying3 e0
  obtain⟨l,hl,wl,wr⟩:=cr_ints hsp e1
  exact⟨⟨a,l⟩,cr_all ⟨⟨rfl,ha⟩,⟨rfl,hl⟩,trivial⟩,⟨wa,wl,wr⟩⟩
theorem cr_gram (hsp:∀ b,spare b=true) (hl:cs.length=6) (h:DataW.trod enc Tryz.prog w 0 spare held fuel 25 cs=some x):∃ g:Gram,CellsRep (heapD w) (encG g) cs∧WfGram g:=by
 match cs,hl,h with
 |[v0,v1,v2,v3,v4,v5],_,h =>
  obtain⟨n0,y0,e0⟩:=trod_field Tryz.underlying25 h 0 rfl (by kernel_rfl) rfl
  obtain⟨n1,y1,e1⟩:=trod_field Tryz.underlying25 h 1 rfl (by kernel_rfl) rfl
  obtain⟨n2,y2,e2⟩:=trod_field Tryz.underlying25 h 2 rfl (by kernel_rfl) rfl
  obtain⟨n3,y3,e3⟩:=trod_field Tryz.underlying25 h 3 rfl (by kernel_rfl) rfl
  obtain⟨n4,y4,e4⟩:=trod_field Tryz.underlying25 h 4 rfl (by kernel_rfl) rfl
  obtain⟨n5,y5,e5⟩:=trod_field Tryz.underlying25 h 5 rfl (by kernel_rfl) rfl
  obtain⟨k,hk,wk⟩:=cr_int Tryz.underlying3 e0
  obtain⟨ts,hts,wt1,wt2⟩:=cr_strs hsp e1
  obtain⟨sep,hsep,ws1,ws2⟩:=cr_str Tryz.underlying9 e2
  obtain⟨ns,hns,wn1,wn2⟩:=cr_strs hsp e3
  obtain⟨st,hst,wst⟩:=cr_int Tryz.underlying3 e4
  obtain⟨ps,hps,wp1,wp2⟩:=cr_slice encP WfProd (sz:=2) Tryz.underlying23 (by kernel_rfl) (by omega) hsp (fun n cs' y hn hy=>cr_prod hsp hn hy) e5
  exact⟨⟨k,ts,sep,ns,st,ps⟩,cr_all ⟨⟨rfl,hk⟩,⟨rfl,hts⟩,⟨rfl,hsep⟩,⟨rfl,hns⟩,⟨rfl,hst⟩,⟨rfl,hps⟩,trivial⟩,⟨wk,wt1,wt2,⟨ws1,ws2⟩,wn1,wn2,wst,wp1,wp2⟩⟩
theorem arg_gram {r:Reach} {b0:Nat} {v:Value} {d:DataW H} {ps:List MemPlace} (hsp:∀ b,spare b=true) (hval:Value.okWide Tryz.prog w r b0 25 v) (h:DataW.Trod enc Tryz.prog w 0 spare held 25 v d ps) :
  ∃ g:Gram,RepD (heapD w) (encG g) v∧WfGram g :=
 arg_agg (f:=fun g:Gram=>[.int .i64 g.k,strs g.tokens,.str g.sep,strs g.names,.int .i64 g.start,.sl 2 (g.prods.map encP)]) Tryz.underlying25 hval h (fun n cs x hl hx=>cr_gram hsp (hl.trans (by kernel_rfl)) hx)
end
end Go.Av
end
noncomputable section
namespace Go.Av
open Go Go.Proofs
def e0:List DV × AV:=([(.str [97])],(.d (.int .i64 0)))
theorem k0:KnownCall Tryz.prog 204 e0.1 e0.2:=knownF T0_ok Yo (by kernel_rfl) Ft_ok (k:=100000) (n:=60) (by kernel_rfl)
def e1:List DV × AV:=([(.str [98])],(.d (.int .i64 0)))
theorem k1:KnownCall Tryz.prog 204 e1.1 e1.2:=knownF T0_ok Yo (by kernel_rfl) Ft_ok (k:=100000) (n:=60) (by kernel_rfl)
def e2:List DV × AV:=([(.str [110,108])],(.d (.int .i64 0)))
theorem k2:KnownCall Tryz.prog 204 e2.1 e2.2:=knownF T0_ok Yo (by kernel_rfl) Ft_ok (k:=100000) (n:=60) (by kernel_rfl)
def e3:List DV × AV:=([(.str [83])],(.d (.int .i64 0)))
theorem k3:KnownCall Tryz.prog 204 e3.1 e3.2:=knownF T0_ok Yo (by kernel_rfl) Ft_ok (k:=100000) (n:=60) (by kernel_rfl)
def e4:List DV × AV:=([(.str [84])],(.d (.int .i64 0)))
theorem k4:KnownCall Tryz.prog 204 e4.1 e4.2:=knownF T0_ok Yo (by kernel_rfl) Ft_ok (k:=100000) (n:=60) (by kernel_rfl)
def e6:List DV × AV:=([(.sl 1 [(.int .i64 0),(.int .i64 17)]),(.fn (.func 169) [] [(.ep [(.int .i64 2),(.sl 1 [(.str [97]),(.str [98])]),(.str [110,108]),(.sl 1 [(.str [83]),(.str [84])]),(.int .i64 16),(.sl 2 [(.agg [(.int .i64 16),(.sl 1 [(.int .i64 0),(.int .i64 17)])]),(.agg [(.int .i64 16),.nilsl]),(.agg [(.int .i64 17),(.sl 1 [(.int .i64 1),(.int .i64 16)])])])])])],(.d (.int .i64 (-1))))
theorem k6:KnownCall Tryz.prog 222 e6.1 e6.2:=knownF T0_ok Yo (by kernel_rfl) Ft_ok (k:=100000) (n:=60) (by kernel_rfl)
def e7:List DV × AV:=([(.sl 1 [(.int .i64 1),(.int .i64 16)]),(.fn (.func 169) [] [(.ep [(.int .i64 2),(.sl 1 [(.str [97]),(.str [98])]),(.str [110,108]),(.sl 1 [(.str [83]),(.str [84])]),(.int .i64 16),(.sl 2 [(.agg [(.int .i64 16),(.sl 1 [(.int .i64 0),(.int .i64 17)])]),(.agg [(.int .i64 16),.nilsl]),(.agg [(.int .i64 17),(.sl 1 [(.int .i64 1),(.int .i64 16)])])])])])],(.d (.int .i64 (-1))))
theorem k7:KnownCall Tryz.prog 222 e7.1 e7.2:=knownF T0_ok Yo (by kernel_rfl) Ft_ok (k:=100000) (n:=60) (by kernel_rfl)
def e9:List DV × AV:=([(.agg [(.int .i64 2),(.sl 1 [(.str [97]),(.str [98])]),(.str [110,108]),(.sl 1 [(.str [83]),(.str [84])]),(.int .i64 16),(.sl 2 [(.agg [(.int .i64 16),(.sl 1 [(.int .i64 0),(.int .i64 17)])]),(.agg [(.int .i64 16),.nilsl]),(.agg [(.int .i64 17),(.sl 1 [(.int .i64 1),(.int .i64 16)])])])])],(.d (.int .i64 0)))
theorem k9:KnownCall Tryz.prog 81 e9.1 e9.2:=knownF T0_ok Yo (by kernel_rfl) Ft_ok (k:=100000) (n:=60) (by kernel_rfl)
def e10:List DV × AV:=([(.agg [(.int .i64 2),(.sl 1 [(.str [97]),(.str [98])]),(.str [110,108]),(.sl 1 [(.str [83]),(.str [84])]),(.int .i64 16),(.sl 2 [(.agg [(.int .i64 16),(.sl 1 [(.int .i64 0),(.int .i64 17)])]),(.agg [(.int .i64 16),.nilsl]),(.agg [(.int .i64 17),(.sl 1 [(.int .i64 1),(.int .i64 16)])])])])],(.d (.int .i64 0)))
theorem k10:KnownCall Tryz.prog 82 e10.1 e10.2:=knownF T0_ok Yo (by kernel_rfl) Ft_ok (k:=100000) (n:=60) (by kernel_rfl)
end Go.Av
end
noncomputable section
namespace Go.Av
open Go Go.Proofs
def T1:Memo:=(.node (.node .nil none (.node (.node (.node .nil none (.node (.node .nil (some [e9]) .nil) none .nil)) none .nil) none .nil)) none (.node (.node .nil none (.node .nil none (.node (.node (.node .nil none (.node .nil (some [e0,e1,e2,e3,e4]) .nil)) none .nil) none .nil))) none (.node (.node (.node .nil none (.node (.node .nil (some [e10]) .nil) none .nil)) none .nil) none (.node .nil none (.node .nil none (.node (.node .nil none (.node .nil (some [e6,e7]) .nil)) none .nil))))))
theorem T1_ok:MemoOK Tryz.prog T1:=⟨trivial,⟨trivial,trivial,⟨trivial,⟨trivial,⟨trivial,trivial,⟨trivial,⟨⟨k9,trivial⟩,trivial,trivial⟩,trivial⟩⟩,trivial⟩,trivial⟩⟩,⟨trivial,⟨trivial,trivial,⟨trivial,trivial,⟨trivial,⟨trivial,⟨trivial,trivial,⟨⟨k0,k1,k2,k3,k4,trivial⟩,trivial,trivial⟩⟩,trivial⟩,trivial⟩⟩⟩,⟨trivial,⟨trivial,⟨trivial,trivial,⟨trivial,⟨⟨k10,trivial⟩,trivial,trivial⟩,trivial⟩⟩,trivial⟩,⟨trivial,trivial,⟨trivial,trivial,⟨trivial,⟨trivial,trivial,⟨⟨k6,k7,trivial⟩,trivial,trivial⟩⟩,trivial⟩⟩⟩⟩⟩⟩
end Go.Av
end
noncomputable section
namespace Go.Av
open Go Go.Proofs
def e5:List DV × AV:=([(.agg [(.int .i64 2),(.sl 1 [(.str [97]),(.str [98])]),(.str [110,108]),(.sl 1 [(.str [83]),(.str [84])]),(.int .i64 16),(.sl 2 [(.agg [(.int .i64 16),(.sl 1 [(.int .i64 0),(.int .i64 17)])]),(.agg [(.int .i64 16),.nilsl]),(.agg [(.int .i64 17),(.sl 1 [(.int .i64 1),(.int .i64 16)])])])])],(.d (.int .i64 0)))
theorem k5:KnownCall Tryz.prog 78 e5.1 e5.2:=knownF T1_ok Yo (by kernel_rfl) Ft_ok (k:=100000) (n:=60) (by kernel_rfl)
def e8:List DV × AV:=([(.agg [(.int .i64 2),(.sl 1 [(.str [97]),(.str [98])]),(.str [110,108]),(.sl 1 [(.str [83]),(.str [84])]),(.int .i64 16),(.sl 2 [(.agg [(.int .i64 16),(.sl 1 [(.int .i64 0),(.int .i64 17)])]),(.agg [(.int .i64 16),.nilsl]),(.agg [(.int .i64 17),(.sl 1 [(.int .i64 1),(.int .i64 16)])])])])],(.d (.int .i64 0)))
theorem k8:KnownCall Tryz.prog 80 e8.1 e8.2:=knownF T1_ok Yo (by kernel_rfl) Ft_ok (k:=100000) (n:=60) (by kernel_rfl)
end Go.Av
end
noncomputable section
namespace Go.Av
open Go Go.Proofs
def T2:Memo:=(.node (.node .nil none (.node (.node (.node .nil none (.node (.node .nil (some [e9]) .nil) none .nil)) none .nil) none .nil)) none (.node (.node (.node (.node .nil none (.node (.node .nil (some [e8]) .nil) none .nil)) none .nil) none (.node .nil none (.node (.node (.node .nil none (.node .nil (some [e0,e1,e2,e3,e4]) .nil)) none .nil) none .nil))) none (.node (.node (.node .nil none (.node (.node .nil (some [e10]) .nil) none .nil)) none .nil) none (.node .nil none (.node (.node (.node .nil (some [e5]) .nil) none .nil) none (.node (.node .nil none (.node .nil (some [e6,e7]) .nil)) none .nil))))))
theorem T2_ok:MemoOK Tryz.prog T2:=⟨trivial,⟨trivial,trivial,⟨trivial,⟨trivial,⟨trivial,trivial,⟨trivial,⟨⟨k9,trivial⟩,trivial,trivial⟩,trivial⟩⟩,trivial⟩,trivial⟩⟩,⟨trivial,⟨trivial,⟨trivial,⟨trivial,trivial,⟨trivial,⟨⟨k8,trivial⟩,trivial,trivial⟩,trivial⟩⟩,trivial⟩,⟨trivial,trivial,⟨trivial,⟨trivial,⟨trivial,trivial,⟨⟨k0,k1,k2,k3,k4,trivial⟩,trivial,trivial⟩⟩,trivial⟩,trivial⟩⟩⟩,⟨trivial,⟨trivial,⟨trivial,trivial,⟨trivial,⟨⟨k10,trivial⟩,trivial,trivial⟩,trivial⟩⟩,trivial⟩,⟨trivial,trivial,⟨trivial,⟨trivial,⟨⟨k5,trivial⟩,trivial,trivial⟩,trivial⟩,⟨trivial,⟨trivial,trivial,⟨⟨k6,k7,trivial⟩,trivial,trivial⟩⟩,trivial⟩⟩⟩⟩⟩⟩
end Go.Av
end
noncomputable section
namespace Go.Av
open Go Go.Proofs
def e11:List DV × AV:=([(.agg [(.int .i64 2),(.sl 1 [(.str [97]),(.str [98])]),(.str [110,108]),(.sl 1 [(.str [83]),(.str [84])]),(.int .i64 16),(.sl 2 [(.agg [(.int .i64 16),(.sl 1 [(.int .i64 0),(.int .i64 17)])]),(.agg [(.int .i64 16),.nilsl]),(.agg [(.int .i64 17),(.sl 1 [(.int .i64 1),(.int .i64 16)])])])])],(.d (.int .i64 0)))
theorem k11:KnownCall Tryz.prog 20 e11.1 e11.2:=knownF T2_ok Yo (by kernel_rfl) Ft_ok (k:=100000) (n:=60) (by kernel_rfl)
end Go.Av
end
noncomputable section
namespace Go.Av
open Go Go.Proofs
def T3:Memo:=(.node (.node .nil none (.node (.node (.node .nil none (.node (.node .nil (some [e9]) .nil) none .nil)) none .nil) none .nil)) none (.node (.node (.node (.node .nil none (.node (.node .nil (some [e8]) .nil) none .nil)) none .nil) none (.node (.node .nil (some [e11]) .nil) none (.node (.node (.node .nil none (.node .nil (some [e0,e1,e2,e3,e4]) .nil)) none .nil) none .nil))) none (.node (.node (.node .nil none (.node (.node .nil (some [e10]) .nil) none .nil)) none .nil) none (.node .nil none (.node (.node (.node .nil (some [e5]) .nil) none .nil) none (.node (.node .nil none (.node .nil (some [e6,e7]) .nil)) none .nil))))))
theorem T3_ok:MemoOK Tryz.prog T3:=⟨trivial,⟨trivial,trivial,⟨trivial,⟨trivial,⟨trivial,trivial,⟨trivial,⟨⟨k9,trivial⟩,trivial,trivial⟩,trivial⟩⟩,trivial⟩,trivial⟩⟩,⟨trivial,⟨trivial,⟨trivial,⟨trivial,trivial,⟨trivial,⟨⟨k8,trivial⟩,trivial,trivial⟩,trivial⟩⟩,trivial⟩,⟨trivial,⟨⟨k11,trivial⟩,trivial,trivial⟩,⟨trivial,⟨trivial,⟨trivial,trivial,⟨⟨k0,k1,k2,k3,k4,trivial⟩,trivial,trivial⟩⟩,trivial⟩,trivial⟩⟩⟩,⟨trivial,⟨trivial,⟨trivial,trivial,⟨trivial,⟨⟨k10,trivial⟩,trivial,trivial⟩,trivial⟩⟩,trivial⟩,⟨trivial,trivial,⟨trivial,⟨trivial,⟨⟨k5,trivial⟩,trivial,trivial⟩,trivial⟩,⟨trivial,⟨trivial,trivial,⟨⟨k6,k7,trivial⟩,trivial,trivial⟩⟩,trivial⟩⟩⟩⟩⟩⟩
end Go.Av
end
noncomputable section
namespace Go.Av
open Go Go.Proofs
def e12:List DV × AV:=([],(.d (.bool true)))
theorem k12:KnownCall Tryz.prog 14 e12.1 e12.2:=knownF T3_ok Yo (by kernel_rfl) Ft_ok (k:=100000) (n:=60) (by kernel_rfl)
end Go.Av
end
noncomputable section
namespace Go.Av
open Go Go.Proofs
def T4:Memo:=(.node (.node .nil none (.node (.node (.node .nil none (.node (.node .nil (some [e9]) .nil) none .nil)) none .nil) none .nil)) none (.node (.node (.node (.node .nil none (.node (.node .nil (some [e8]) .nil) none .nil)) none .nil) none (.node (.node .nil (some [e11]) .nil) none (.node (.node (.node .nil none (.node .nil (some [e0,e1,e2,e3,e4]) .nil)) none .nil) none .nil))) none (.node (.node (.node .nil none (.node (.node .nil (some [e10]) .nil) none .nil)) none .nil) none (.node .nil (some [e12]) (.node (.node (.node .nil (some [e5]) .nil) none .nil) none (.node (.node .nil none (.node .nil (some [e6,e7]) .nil)) none .nil))))))
theorem T4_ok:MemoOK Tryz.prog T4:=⟨trivial,⟨trivial,trivial,⟨trivial,⟨trivial,⟨trivial,trivial,⟨trivial,⟨⟨k9,trivial⟩,trivial,trivial⟩,trivial⟩⟩,trivial⟩,trivial⟩⟩,⟨trivial,⟨trivial,⟨trivial,⟨trivial,trivial,⟨trivial,⟨⟨k8,trivial⟩,trivial,trivial⟩,trivial⟩⟩,trivial⟩,⟨trivial,⟨⟨k11,trivial⟩,trivial,trivial⟩,⟨trivial,⟨trivial,⟨trivial,trivial,⟨⟨k0,k1,k2,k3,k4,trivial⟩,trivial,trivial⟩⟩,trivial⟩,trivial⟩⟩⟩,⟨trivial,⟨trivial,⟨trivial,trivial,⟨trivial,⟨⟨k10,trivial⟩,trivial,trivial⟩,trivial⟩⟩,trivial⟩,⟨⟨k12,trivial⟩,trivial,⟨trivial,⟨trivial,⟨⟨k5,trivial⟩,trivial,trivial⟩,trivial⟩,⟨trivial,⟨trivial,trivial,⟨⟨k6,k7,trivial⟩,trivial,trivial⟩⟩,trivial⟩⟩⟩⟩⟩⟩
end Go.Av
end
noncomputable section
namespace Go.Av
open Go Go.Proofs
theorem awake9:KnownCall Tryz.prog 14 [] (.d (.bool true)):=knownF T4_ok Yo (by kernel_rfl) Ft_ok (k:=100000) (n:=60) (by kernel_rfl)
end Go.Av
end
noncomputable section
namespace Go.Av
open Go Go.Proofs
set_option maxRecDepth 10000
set_option maxHeartbeats 4000000 in
theorem lawGC (a b:Gram) (wa:WfGram a):KnownCall Tryz.prog 3 [encG a,encG b] (.d (.bool true)):=by
 have hA:=awake9
 have l1:=light a
 have l2:=light b
 cases h1:lightF a with
 |false =>
  rw [h1] at l1
  refine knownE Yo (fnAt Tryz.func3 (by kernel_rfl) (by kernel_rfl):FnAt _ _ (mkFn Tryz.f3 [2,3])) ?_
  repeat' (first|refine Yg ?_|refine Yq ?_|(refine oB (frz:=[2,3]) Yo ?_ ?_<;>intro h<;>first|(exfalso;simp at h;first|done|omega)|skip)|(refine eB ?_ ?_<;>intro h<;>first|(exfalso;simp at h;first|done|omega)|skip)|refine oX (frz:=[2,3]) Yo ?_|refine oS ?_|refine Yn ?_|refine Yk ?_|refine cT ?_|refine cF ?_|refine Yb ?_|refine Ye ?_|refine Yd (frz:=[2,3]) Yo (by kernel_rfl) ?_|refine eX ?_|refine eS ?_|refine eN ?_|refine oC (hA) ?_|refine eC (hA) ?_|refine oC (l1) ?_|refine eC (l1) ?_|refine oC (l2) ?_|refine eC (l2) ?_|(refine Yt ?_;(first|refine rB ?_|refine rI ?_|refine rA ?_|refine rII ?_|refine rSI ?_|refine rT ?_|refine rS ?_);first|done|(rfl))|((exfalso;(simp at h<;>fail)))|fail)
 |true =>
  rw [h1] at l1
  cases h2:lightF b with
  |false =>
   rw [h2] at l2
   refine knownE Yo (fnAt Tryz.func3 (by kernel_rfl) (by kernel_rfl):FnAt _ _ (mkFn Tryz.f3 [2,3])) ?_
   repeat' (first|refine Yg ?_|refine Yq ?_|(refine oB (frz:=[2,3]) Yo ?_ ?_<;>intro h<;>first|(exfalso;simp at h;first|done|omega)|skip)|(refine eB ?_ ?_<;>intro h<;>first|(exfalso;simp at h;first|done|omega)|skip)|refine oX (frz:=[2,3]) Yo ?_|refine oS ?_|refine Yn ?_|refine Yk ?_|refine cT ?_|refine cF ?_|refine Yb ?_|refine Ye ?_|refine Yd (frz:=[2,3]) Yo (by kernel_rfl) ?_|refine eX ?_|refine eS ?_|refine eN ?_|refine oC (hA) ?_|refine eC (hA) ?_|refine oC (l1) ?_|refine eC (l1) ?_|refine oC (l2) ?_|refine eC (l2) ?_|(refine Yt ?_;(first|refine rB ?_|refine rI ?_|refine rA ?_|refine rII ?_|refine rSI ?_|refine rT ?_|refine rS ?_);first|done|(rfl))|((exfalso;(simp at h<;>fail)))|fail)
  |true =>
   rw [h2] at l2
   have hf:=light_fits h1
   have hb:ByteX (srcG a):=srcG_bytes (fun s hs=>(wa.tokens s hs).2) wa.sep.2 (fun s hs=>(wa.names s hs).2)
   have hx:FitsX (srcR a):=by
    by_cases h0:checkF a=0
    ·rw [show srcR a=srcG a from if_pos h0];exact(srcG_light h1).fits
    ·rw [show srcR a=x0 from if_neg h0]
     exact⟨by simp [x0],by simp [x0],by simp [x0],by simp [x0],by simp [x0],by simp [x0],by simp [x0],by simp [x0],by simp [x0]⟩
   have c0:=ownGrammar a hf
   have c1:=srcPr a hf
   have c2:=srcRef a hf
   have c3:=textS a h1 hb
   have c4:=textR a h1
   have c5:=grCheck a hf
   have c6:=refCheck a hf
   have c7:=sameSr (srcR a) (srcR a) hx
   have c8:=sameGr a b hf
   have c9:=sameR9 a b hf
   have c10:=sameGr a a hf
   have c11:=sameSelf a hf
   rw [smX_self] at c7
   rw [smG_self] at c10
   generalize textG a=tx at c3 c4
   generalize textE a=te at c3 c4
   generalize checkF a=c at c1 c2 c5 c6
   generalize srcR a=x at c1 c2 c7
   generalize smG a b=bb at c8 c9
   clear hx hb h1 h2 hf wa
   refine knownE Yo (fnAt Tryz.func3 (by kernel_rfl) (by kernel_rfl):FnAt _ _ (mkFn Tryz.f3 [2,3])) ?_
   repeat' (first|refine Yg ?_|refine Yq ?_|(refine oB (frz:=[2,3]) Yo ?_ ?_<;>intro h<;>first|(exfalso;simp at h;first|done|omega)|skip)|(refine eB ?_ ?_<;>intro h<;>first|(exfalso;simp at h;first|done|omega)|skip)|refine oX (frz:=[2,3]) Yo ?_|refine oS ?_|refine Yn ?_|refine Yk ?_|refine cT ?_|refine cF ?_|refine Yb ?_|refine Ye ?_|refine Yd (frz:=[2,3]) Yo (by kernel_rfl) ?_|refine eX ?_|refine eS ?_|refine eN ?_|refine oC (hA) ?_|refine eC (hA) ?_|refine oC (l1) ?_|refine eC (l1) ?_|refine oC (l2) ?_|refine eC (l2) ?_|refine oC (c0) ?_|refine eC (c0) ?_|refine oC (c1) ?_|refine eC (c1) ?_|refine oC (c2) ?_|refine eC (c2) ?_|refine oC (c3) ?_|refine eC (c3) ?_|refine oC (c4) ?_|refine eC (c4) ?_|refine oC (c5) ?_|refine eC (c5) ?_|refine oC (c6) ?_|refine eC (c6) ?_|refine oC (c7) ?_|refine eC (c7) ?_|refine oC (c8) ?_|refine eC (c8) ?_|refine oC (c9) ?_|refine eC (c9) ?_|refine oC (c10) ?_|refine eC (c10) ?_|refine oC (c11) ?_|refine eC (c11) ?_|(refine Yt ?_;(first|refine rB ?_|refine rI ?_|refine rA ?_|refine rII ?_|refine rSI ?_|refine rT ?_|refine rS ?_);first|done|(rfl))|((exfalso;(simp at h<;>fail)))|fail)
theorem lawGCA (a:Gram) (wa:WfGram a) (b:Gram) (_:WfGram b):KnownCall Tryz.prog 3 [encG a,encG b] (.d (.bool true)):=lawGC a b wa
end Go.Av
end

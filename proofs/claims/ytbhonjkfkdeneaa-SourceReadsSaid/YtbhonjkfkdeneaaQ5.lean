/-
  Parts of the way to the law, joined: rules for code over data, and what the functions return. Conditions stand at each.
-/
import Derived.Test.YtbhonjkfkdeneaaQ4
import Derived.Test.YtbhonjkfkdeneaaQ3
import Derived.Test.YtbhonjkfkdeneaaQ2
set_option linter.all false
noncomputable section
namespace Go.Av
open Go Go.Proofs
set_option maxRecDepth 10000
theorem rulesTo_succ {x:Src} {i:Nat} {r:SRule} (h:x.rules[i]?=some r):rulesTo x (i+1)=rulesTo x i++ruleP r:=by
 unfold rulesTo;rw [List.take_add_one,h];simp
theorem rulesTo_le (x:Src) {i j:Nat} (h:i≤j):(rulesTo x i).length≤(rulesTo x j).length:=by
 unfold rulesTo
 obtain⟨d,rfl⟩:∃ d,j=i+d:=⟨j-i,by omega⟩
 rw [List.take_add,List.flatMap_append,List.length_append];omega
theorem altsTo_le (al:List (List (List Nat))) {i j:Nat} (h:i≤j):(altsTo al i).length≤(altsTo al j).length:=by
 induction j with
 |zero =>
  have:i=0:=by omega
  subst this;exact Nat.le_refl _
 |succ j ih =>
  rcases Nat.lt_or_ge i (j+1) with h1|h1
  ·have:=ih (by omega)
   simp only [altsTo,List.length_append];omega
  ·have:i=j+1:=by omega
   subst this;exact Nat.le_refl _
def altTo (a:List (List Nat)) (n:Nat):List Nat:=altTx (a.take n)
theorem altTo_succ {a:List (List Nat)} {i:Nat} {s:List Nat} (h:a[i]?=some s):altTo a (i+1)=altTo a i++(32 :: s):=by
 unfold altTo altTx;rw [List.take_add_one,h];simp
theorem altTo_le (a:List (List Nat)) (i:Nat):(altTo a i).length≤(altTx a).length:=by
 unfold altTo altTx
 conv=>rhs;rw [← List.take_append_drop i a,List.flatMap_append,List.length_append]
 omega
def firstP (x:Src):List (List Nat):=[[108,111,111,107,97,104,101,97,100,32],[48+x.k.toNat],[59,10,116,111,107,101,110,32],List.intercalate [44,32] x.tokens,[59,10,115,101,112,97,114,97,116,111,114,32],x.sep,[59,10,115,116,97,114,116,32],x.start,[59,10]]
theorem firstP_head (x:Src):(firstP x).flatten=headP x:=by simp [firstP,headP]
theorem putE {l l':List Nat} (ss:List (List Nat)) (q:Nat) (rest:List Ob) (he:l++ss.flatten=l') (hq:ss.length=q+1) (hs:l'.length≤1099511627776) (hl:q≤1000) :
  ACall Try.prog 21 [.bp 0 0,.d (strs ss)] (prB l rest) (.tup []) (prO q l' rest):=by
 subst he;exact putR l ss q rest hq hs hl
theorem printS (x:Src) (hf:FitsX x) (ht:(innerX x).length≤1048576) (h0:checkX x=0) (hp:(printX x).length≤1099511627776) (hb:∀ c ∈ printX x,c<256) :
  KnownCall Try.prog 7 [encX x] (.tup [.d (.str (printX x)),.d (.int .i64 0)]):=by
 have hk:x.k=1∨x.k=2∨x.k=3∨x.k=4:=by
  have hn:¬ (x.k<1∨4<x.k):=fun h=>by rw [checkX_k h] at h0;cases h0
  omega
 have e1:AV.d (.int .i64 (IntKind.i64.wrap (48+x.k)))=.d (.int .i64 (48+x.k)):=by rcases hk with h|h|h|h<;>rw [h]<;>rfl
 have e2:AV.d (.int .u8 (IntKind.u8.wrap (48+x.k)))=.d (.int .u8 (48+x.k)):=by rcases hk with h|h|h|h<;>rw [h]<;>rfl
 have e3:AV.d (.str [(48+x.k).toNat % 256])=.d (.str [48+x.k.toNat]):=by rcases hk with h|h|h|h<;>rw [h]<;>rfl
 have hc:=checkS x hf ht
 rw [h0] at hc
 have hpl:(printX x).length=(headP x).length+(rulesTo x x.rules.length).length:=by simp [printX]
 have hjl:(List.intercalate [44,32] x.tokens).length≤1099511627776:=by
  simp only [headP,List.length_append] at hpl;omega
 have htl:=hf.tokens
 have hrls:=hf.rules
 refine knownE Yo (fnAt Try.func7 (by kernel_rfl) (by kernel_rfl):FnAt _ _ (mkFn Try.f7 [1,24,33,45,58,68,73])) ?_
 repeat (first|refine Yg ?_|refine Yq ?_|refine Yn ?_|refine Yk ?_|refine cT ?_|refine cF ?_|refine Yb ?_|refine Ye ?_|refine eN ?_|refine Yd (frz:=[1,24,33,45,58,68,73]) Yo (by kernel_rfl) ?_)
 iterate 3 refine oX (frz:=[1,24,33,45,58,68,73]) Yo ?_
 repeat (first|refine Yg ?_|refine Yq ?_|refine Yn ?_|refine Yk ?_|refine cT ?_|refine cF ?_|refine Yb ?_|refine Ye ?_|refine eN ?_|refine Yd (frz:=[1,24,33,45,58,68,73]) Yo (by kernel_rfl) ?_)
 refine oX (frz:=[1,24,33,45,58,68,73]) Yo ?_
 refine oC hc ?_
 refine oX (frz:=[1,24,33,45,58,68,73]) Yo ?_
 repeat (first|refine Yg ?_|refine Yq ?_|refine Yn ?_|refine Yk ?_|refine cT ?_|refine cF ?_|refine Yb ?_|refine Ye ?_|refine eN ?_|refine Yd (frz:=[1,24,33,45,58,68,73]) Yo (by kernel_rfl) ?_)
 iterate 2 refine oX (frz:=[1,24,33,45,58,68,73]) Yo ?_
 repeat (first|refine Yg ?_|refine Yq ?_|refine Yn ?_|refine Yk ?_|refine cT ?_|refine cF ?_|refine Yb ?_|refine Ye ?_|refine eN ?_|refine Yd (frz:=[1,24,33,45,58,68,73]) Yo (by kernel_rfl) ?_)
 iterate 3 refine oX (frz:=[1,24,33,45,58,68,73]) Yo ?_
 repeat (first|refine Yg ?_|refine Yq ?_|refine Yn ?_|refine Yk ?_|refine cT ?_|refine cF ?_|refine Yb ?_|refine Ye ?_|refine eN ?_|refine Yd (frz:=[1,24,33,45,58,68,73]) Yo (by kernel_rfl) ?_)
 iterate 3 refine eX ?_
 refine eX (v:=.d (.int .i64 (48+x.k))) ?_ (he:=e1)
 refine eX (v:=.d (.int .u8 (48+x.k))) ?_ (he:=e2)
 refine eX ?_
 refine eX (v:=.d (.str [48+x.k.toNat])) ?_ (he:=e3)
 iterate 2 refine eX ?_
 refine eC (joinK x.tokens [44,32] (by omega) hjl) ?_
 iterate 4 refine eX ?_
 refine eX (v:=.d (strs (firstP x))) (v':=.d (strs (firstP x))) (ob:=none) (fl:=true) ?_ (hv:=by kernel_rfl) (he:=rfl)
 refine EvD.callO (by rfl) (by rfl) (by rfl) (put0 _ (firstP x).tail ?_ (by simp [firstP])) (by rfl) (by rfl) ?_
 ·show((firstP x).flatten).length≤_
  rw [firstP_head];omega
 refine eN ?_
 repeat (first|refine Yg ?_|refine Yq ?_|refine Yn ?_|refine Yk ?_|refine cT ?_|refine cF ?_|refine Yb ?_|refine Ye ?_|refine eN ?_|refine Yd (frz:=[1,24,33,45,58,68,73]) Yo (by kernel_rfl) ?_)
 iterate 4 refine oX (frz:=[1,24,33,45,58,68,73]) Yo ?_
 repeat (first|refine Yg ?_|refine Yq ?_|refine Yn ?_|refine Yk ?_|refine cT ?_|refine cF ?_|refine Yb ?_|refine Ye ?_|refine eN ?_|refine Yd (frz:=[1,24,33,45,58,68,73]) Yo (by kernel_rfl) ?_)
 refine Run.loopR (fun i:Nat=>⟨PT.ofList [(1,cellX x),(5,.bp 0 0),(36,.d (.sl 2 (x.rules.map encR))),(37,.d (.int .i64 (x.rules.map encR).length)),(38,.d (.int .i64 i))],prB (headP x++rulesTo x i) [],[]⟩) (fun i=>i≤x.rules.length) (fun i=>x.rules.length-i) 0 (Nat.zero_le _) (prR3 _ (show(firstP x).flatten=_ by rw [firstP_head];simp [rulesTo]) ⟨⟨rfl,rfl⟩,⟨rfl,rfl⟩,⟨rfl,rfl⟩,⟨rfl,rfl⟩,⟨rfl,rfl⟩,trivial⟩) (fun i hi=>?_)
 repeat (first|refine Yg ?_|refine Yq ?_|refine Yn ?_|refine Yk ?_|refine cT ?_|refine cF ?_|refine Yb ?_|refine Ye ?_|refine eN ?_|refine Yd (frz:=[1,24,33,45,58,68,73]) Yo (by kernel_rfl) ?_)
 refine oX (frz:=[1,24,33,45,58,68,73]) Yo ?_
 repeat (first|refine Yg ?_|refine Yq ?_|refine Yn ?_|refine Yk ?_|refine cT ?_|refine cF ?_|refine Yb ?_|refine Ye ?_|refine eN ?_|refine Yd (frz:=[1,24,33,45,58,68,73]) Yo (by kernel_rfl) ?_)
 refine Run.cond (by rfl) (fun h=>?_) (fun h=>?_)
 ·have hlt:i<x.rules.length:=by simpa using h
  obtain⟨r,hr⟩:=get_ok hlt
  repeat (first|refine Yg ?_|refine Yq ?_|refine Yn ?_|refine Yk ?_|refine cT ?_|refine cF ?_|refine Yb ?_|refine Ye ?_|refine eN ?_|refine Yd (frz:=[1,24,33,45,58,68,73]) Yo (by kernel_rfl) ?_)
  first|refine oX (frz:=[1,24,33,45,58,68,73]) (v:=.d (.ep [.str r.name,alts r.alts])) Yo ?_ (hf:=(by first|(simp [inB]<;>fail)|(simp [inB];omega))) (he:=(by first|(simp [List.getD_eq_getElem?_getD,cellsD,hr,encR]<;>fail)|fail))|refine eX (v:=.d (.ep [.str r.name,alts r.alts])) ?_ (hf:=(by first|(simp [inB]<;>fail)|(simp [inB];omega))) (he:=(by first|(simp [List.getD_eq_getElem?_getD,cellsD,hr,encR]<;>fail)|fail))
  iterate 3 refine oX (frz:=[1,24,33,45,58,68,73]) Yo ?_
  repeat (first|refine Yg ?_|refine Yq ?_|refine Yn ?_|refine Yk ?_|refine cT ?_|refine cF ?_|refine Yb ?_|refine Ye ?_|refine eN ?_|refine Yd (frz:=[1,24,33,45,58,68,73]) Yo (by kernel_rfl) ?_)
  iterate 4 refine oX (frz:=[1,24,33,45,58,68,73]) Yo ?_
  have hRL:(headP x++rulesTo x i++ruleP r).length≤1099511627776:=by
   have h1:=rulesTo_succ hr
   have h2:=rulesTo_le x (i:=i+1) (j:=x.rules.length) hlt
   rw [List.append_assoc,← h1,List.length_append];omega
  have hrm:=List.mem_of_getElem? hr
  have hal:=hf.alts r hrm
  have hRl:(ruleP r).length=r.name.length+2+(altsTo r.alts r.alts.length).length+3:=by simp [ruleP];omega
  rw [List.length_append] at hRL
  generalize hB:headP x++rulesTo x i=B at *
  refine RunOps.call (by rfl) (by rfl) (putE (l:=B) (l':=B++r.name++[32,61]) [r.name,[32,61]] 1 [.box ([.str r.name,alts r.alts].map .d)] (by simp) rfl (by simp only [List.length_append,List.length_cons,List.length_nil];omega) (by omega)) (by rfl) (by rfl) ?_
  refine RunOps.relab (prR1 [.str r.name,alts r.alts] [(1,cellX x),(5,.bp 0 0),(36,.d (.sl 2 (x.rules.map encR))),(37,.d (.int .i64 (x.rules.map encR).length)),(38,.d (.int .i64 i)),(7,.bp 2 0)] rfl ⟨⟨rfl,rfl⟩,⟨rfl,rfl⟩,⟨rfl,rfl⟩,⟨rfl,rfl⟩,⟨rfl,rfl⟩,⟨rfl,rfl⟩,trivial⟩) ?_
  repeat (first|refine Yg ?_|refine Yq ?_|refine Yn ?_|refine Yk ?_|refine cT ?_|refine cF ?_|refine Yb ?_|refine Ye ?_|refine eN ?_|refine Yd (frz:=[1,24,33,45,58,68,73]) Yo (by kernel_rfl) ?_)
  iterate 4 refine oX (frz:=[1,24,33,45,58,68,73]) Yo ?_
  repeat (first|refine Yg ?_|refine Yq ?_|refine Yn ?_|refine Yk ?_|refine cT ?_|refine cF ?_|refine Yb ?_|refine Ye ?_|refine eN ?_|refine Yd (frz:=[1,24,33,45,58,68,73]) Yo (by kernel_rfl) ?_)
  refine Run.loopR (fun k:Nat=>⟨PT.ofList [(1,cellX x),(5,.bp 0 0),(36,.d (.sl 2 (x.rules.map encR))),(37,.d (.int .i64 (x.rules.map encR).length)),(38,.d (.int .i64 i)),(7,.bp 2 0),(48,.d (alts r.alts)),(49,.d (.int .i64 (r.alts.map strs).length)),(50,.d (.int .i64 k))],prB (B++r.name++[32,61]++altsTo r.alts k) [.box ([.str r.name,alts r.alts].map .d)],[]⟩) (fun k=>k≤r.alts.length) (fun k=>r.alts.length-k) 0 (Nat.zero_le _) (prI1 [.str r.name,alts r.alts] _ (by simp [altsTo]) ⟨⟨rfl,rfl⟩,⟨rfl,rfl⟩,⟨rfl,rfl⟩,⟨rfl,rfl⟩,⟨rfl,rfl⟩,⟨rfl,rfl⟩,⟨rfl,rfl⟩,⟨rfl,rfl⟩,⟨rfl,rfl⟩,trivial⟩) (fun k hk=>?_)
  repeat (first|refine Yg ?_|refine Yq ?_|refine Yn ?_|refine Yk ?_|refine cT ?_|refine cF ?_|refine Yb ?_|refine Ye ?_|refine eN ?_|refine Yd (frz:=[1,24,33,45,58,68,73]) Yo (by kernel_rfl) ?_)
  refine oX (frz:=[1,24,33,45,58,68,73]) Yo ?_
  repeat (first|refine Yg ?_|refine Yq ?_|refine Yn ?_|refine Yk ?_|refine cT ?_|refine cF ?_|refine Yb ?_|refine Ye ?_|refine eN ?_|refine Yd (frz:=[1,24,33,45,58,68,73]) Yo (by kernel_rfl) ?_)
  refine Run.cond (by rfl) (fun h=>?_) (fun h=>?_)
  ·have hklt:k<r.alts.length:=by simpa using h
   obtain⟨a,ha⟩:=get_ok hklt
   have ham:=List.mem_of_getElem? ha
   have hanl:=hf.names r hrm a ham
   have hgd:r.alts.getD k []=a:=by rw [List.getD_eq_getElem?_getD,ha];rfl
   have hnext:altsTo r.alts (k+1)=altsTo r.alts k++barP k++altTx a:=by rw [← hgd];rfl
   have hkl:=altsTo_le r.alts (i:=k+1) (j:=r.alts.length) hklt
   rw [hnext] at hkl
   simp only [List.length_append] at hkl
   repeat (first|refine Yg ?_|refine Yq ?_|refine Yn ?_|refine Yk ?_|refine cT ?_|refine cF ?_|refine Yb ?_|refine Ye ?_|refine eN ?_|refine Yd (frz:=[1,24,33,45,58,68,73]) Yo (by kernel_rfl) ?_)
   refine oX (frz:=[1,24,33,45,58,68,73]) Yo ?_
   first|refine oX (frz:=[1,24,33,45,58,68,73]) (v:=.d (.ep [strs a])) Yo ?_ (hf:=(by first|(simp [inB]<;>fail)|(simp [inB];omega))) (he:=(by first|(simp [List.getD_eq_getElem?_getD,cellsD,ha]<;>fail)|fail))|refine eX (v:=.d (.ep [strs a])) ?_ (hf:=(by first|(simp [inB]<;>fail)|(simp [inB];omega))) (he:=(by first|(simp [List.getD_eq_getElem?_getD,cellsD,ha]<;>fail)|fail))
   iterate 3 refine oX (frz:=[1,24,33,45,58,68,73]) Yo ?_
   repeat (first|refine Yg ?_|refine Yq ?_|refine Yn ?_|refine Yk ?_|refine cT ?_|refine cF ?_|refine Yb ?_|refine Ye ?_|refine eN ?_|refine Yd (frz:=[1,24,33,45,58,68,73]) Yo (by kernel_rfl) ?_)
   iterate 2 refine oX (frz:=[1,24,33,45,58,68,73]) Yo ?_
   repeat (first|refine Yg ?_|refine Yq ?_|refine Yn ?_|refine Yk ?_|refine cT ?_|refine cF ?_|refine Yb ?_|refine Ye ?_|refine eN ?_|refine Yd (frz:=[1,24,33,45,58,68,73]) Yo (by kernel_rfl) ?_)
   refine Run.mono (K:=fun e s1=>e=.normal∧Relab 0 s1 ⟨PT.ofList [(1,cellX x),(5,.bp 0 0),(36,.d (.sl 2 (x.rules.map encR))),(37,.d (.int .i64 (x.rules.map encR).length)),(38,.d (.int .i64 i)),(7,.bp 2 0),(48,.d (alts r.alts)),(49,.d (.int .i64 (r.alts.map strs).length)),(50,.d (.int .i64 k)),(9,.d (strs a))],prB (B++r.name++[32,61]++altsTo r.alts k++barP k) [.box ([.str r.name,alts r.alts].map .d)],[]⟩) ?_ (fun e s1 hk1=>?_)
   ·rcases k with _|k
    ·repeat (first|refine Yg ?_|refine Yq ?_|refine Yn ?_|refine Yk ?_|refine cT ?_|refine cF ?_|refine Yb ?_|refine Ye ?_|refine eN ?_|refine Yd (frz:=[1,24,33,45,58,68,73]) Yo (by kernel_rfl) ?_)
     exact⟨rfl,prI1 [.str r.name,alts r.alts] _ (by simp [barP]) ⟨⟨rfl,rfl⟩,⟨rfl,rfl⟩,⟨rfl,rfl⟩,⟨rfl,rfl⟩,⟨rfl,rfl⟩,⟨rfl,rfl⟩,⟨rfl,rfl⟩,⟨rfl,rfl⟩,⟨rfl,rfl⟩,⟨rfl,rfl⟩,trivial⟩⟩
    ·have hb2:(barP (k+1)).length=2:=rfl
     refine Run.cond (by rfl) (fun h1=>?_) (fun h1=>?_)
     ·repeat (first|refine Yg ?_|refine Yq ?_|refine Yn ?_|refine Yk ?_|refine cT ?_|refine cF ?_|refine Yb ?_|refine Ye ?_|refine eN ?_|refine Yd (frz:=[1,24,33,45,58,68,73]) Yo (by kernel_rfl) ?_)
      iterate 2 refine oX (frz:=[1,24,33,45,58,68,73]) Yo ?_
      refine RunOps.call (by rfl) (by rfl) (putE (l':=B++r.name++[32,61]++altsTo r.alts (k+1)++barP (k+1)) [[32,124]] 0 [.box ([.str r.name,alts r.alts].map .d)] (by simp [barP]) rfl (by simp only [List.length_append,List.length_cons,List.length_nil];omega) (by omega)) (by rfl) (by rfl) ?_
      repeat (first|refine Yg ?_|refine Yq ?_|refine Yn ?_|refine Yk ?_|refine cT ?_|refine cF ?_|refine Yb ?_|refine Ye ?_|refine eN ?_|refine Yd (frz:=[1,24,33,45,58,68,73]) Yo (by kernel_rfl) ?_)
      exact⟨rfl,prR1 [.str r.name,alts r.alts] _ rfl ⟨⟨rfl,rfl⟩,⟨rfl,rfl⟩,⟨rfl,rfl⟩,⟨rfl,rfl⟩,⟨rfl,rfl⟩,⟨rfl,rfl⟩,⟨rfl,rfl⟩,⟨rfl,rfl⟩,⟨rfl,rfl⟩,⟨rfl,rfl⟩,trivial⟩⟩
     ·exfalso;simp at h1
   ·obtain⟨rfl,hk1⟩:=hk1
    refine Run.relab hk1 ?_
    repeat (first|refine Yg ?_|refine Yq ?_|refine Yn ?_|refine Yk ?_|refine cT ?_|refine cF ?_|refine Yb ?_|refine Ye ?_|refine eN ?_|refine Yd (frz:=[1,24,33,45,58,68,73]) Yo (by kernel_rfl) ?_)
    iterate 3 refine oX (frz:=[1,24,33,45,58,68,73]) Yo ?_
    repeat (first|refine Yg ?_|refine Yq ?_|refine Yn ?_|refine Yk ?_|refine cT ?_|refine cF ?_|refine Yb ?_|refine Ye ?_|refine eN ?_|refine Yd (frz:=[1,24,33,45,58,68,73]) Yo (by kernel_rfl) ?_)
    refine Run.loopR (fun j:Nat=>⟨PT.ofList [(1,cellX x),(5,.bp 0 0),(36,.d (.sl 2 (x.rules.map encR))),(37,.d (.int .i64 (x.rules.map encR).length)),(38,.d (.int .i64 i)),(7,.bp 2 0),(48,.d (alts r.alts)),(49,.d (.int .i64 (r.alts.map strs).length)),(50,.d (.int .i64 k)),(9,.d (strs a)),(60,.d (strs a)),(61,.d (.int .i64 (a.map DV.str).length)),(62,.d (.int .i64 j))],prB (B++r.name++[32,61]++altsTo r.alts k++barP k++altTo a j) [.box ([.str r.name,alts r.alts].map .d)],[]⟩) (fun j=>j≤a.length) (fun j=>a.length-j) 0 (Nat.zero_le _) (prI1 [.str r.name,alts r.alts] _ (by simp [altTo,altTx]) ⟨⟨rfl,rfl⟩,⟨rfl,rfl⟩,⟨rfl,rfl⟩,⟨rfl,rfl⟩,⟨rfl,rfl⟩,⟨rfl,rfl⟩,⟨rfl,rfl⟩,⟨rfl,rfl⟩,⟨rfl,rfl⟩,⟨rfl,rfl⟩,⟨rfl,rfl⟩,⟨rfl,rfl⟩,⟨rfl,rfl⟩,trivial⟩) (fun j hj=>?_)
    repeat (first|refine Yg ?_|refine Yq ?_|refine Yn ?_|refine Yk ?_|refine cT ?_|refine cF ?_|refine Yb ?_|refine Ye ?_|refine eN ?_|refine Yd (frz:=[1,24,33,45,58,68,73]) Yo (by kernel_rfl) ?_)
    refine oX (frz:=[1,24,33,45,58,68,73]) Yo ?_
    repeat (first|refine Yg ?_|refine Yq ?_|refine Yn ?_|refine Yk ?_|refine cT ?_|refine cF ?_|refine Yb ?_|refine Ye ?_|refine eN ?_|refine Yd (frz:=[1,24,33,45,58,68,73]) Yo (by kernel_rfl) ?_)
    refine Run.cond (by rfl) (fun h=>?_) (fun h=>?_)
    ·have hjlt:j<a.length:=by simpa using h
     obtain⟨s,hsj⟩:=get_ok hjlt
     have hsu:=altTo_succ hsj
     have hjl:=altTo_le a (j+1)
     rw [hsu,List.length_append] at hjl
     repeat (first|refine Yg ?_|refine Yq ?_|refine Yn ?_|refine Yk ?_|refine cT ?_|refine cF ?_|refine Yb ?_|refine Ye ?_|refine eN ?_|refine Yd (frz:=[1,24,33,45,58,68,73]) Yo (by kernel_rfl) ?_)
     first|refine oX (frz:=[1,24,33,45,58,68,73]) (v:=.d (.ep [.str s])) Yo ?_ (hf:=(by first|(simp [inB]<;>fail)|(simp [inB];omega))) (he:=(by first|(simp [List.getD_eq_getElem?_getD,cellsD,hsj]<;>fail)|fail))|refine eX (v:=.d (.ep [.str s])) ?_ (hf:=(by first|(simp [inB]<;>fail)|(simp [inB];omega))) (he:=(by first|(simp [List.getD_eq_getElem?_getD,cellsD,hsj]<;>fail)|fail))
     iterate 2 refine oX (frz:=[1,24,33,45,58,68,73]) Yo ?_
     repeat (first|refine Yg ?_|refine Yq ?_|refine Yn ?_|refine Yk ?_|refine cT ?_|refine cF ?_|refine Yb ?_|refine Ye ?_|refine eN ?_|refine Yd (frz:=[1,24,33,45,58,68,73]) Yo (by kernel_rfl) ?_)
     iterate 3 refine oX (frz:=[1,24,33,45,58,68,73]) Yo ?_
     refine RunOps.call (by rfl) (by rfl) (putE (l':=B++r.name++[32,61]++altsTo r.alts k++barP k++altTo a j++(32 :: s)) [[32],s] 1 [.box ([.str r.name,alts r.alts].map .d)] (by simp) rfl (by simp only [List.length_append,List.length_cons,List.length_nil] at hjl ⊢;omega) (by omega)) (by rfl) (by rfl) ?_
     refine RunOps.relab (prR1 [.str r.name,alts r.alts] [(1,cellX x),(5,.bp 0 0),(36,.d (.sl 2 (x.rules.map encR))),(37,.d (.int .i64 (x.rules.map encR).length)),(38,.d (.int .i64 i)),(7,.bp 2 0),(48,.d (alts r.alts)),(49,.d (.int .i64 (r.alts.map strs).length)),(50,.d (.int .i64 k)),(9,.d (strs a)),(60,.d (strs a)),(61,.d (.int .i64 (a.map DV.str).length)),(62,.d (.int .i64 j))] (by rw [List.append_assoc _ (altTo a j),← hsu]) ⟨⟨rfl,rfl⟩,⟨rfl,rfl⟩,⟨rfl,rfl⟩,⟨rfl,rfl⟩,⟨rfl,rfl⟩,⟨rfl,rfl⟩,⟨rfl,rfl⟩,⟨rfl,rfl⟩,⟨rfl,rfl⟩,⟨rfl,rfl⟩,⟨rfl,rfl⟩,⟨rfl,rfl⟩,⟨rfl,rfl⟩,trivial⟩) ?_
     repeat (first|refine Yg ?_|refine Yq ?_|refine Yn ?_|refine Yk ?_|refine cT ?_|refine cF ?_|refine Yb ?_|refine Ye ?_|refine eN ?_|refine Yd (frz:=[1,24,33,45,58,68,73]) Yo (by kernel_rfl) ?_)
     refine oX (frz:=[1,24,33,45,58,68,73]) Yo ?_
     refine oX (frz:=[1,24,33,45,58,68,73]) (v:=.d (.int .i64 (j+1:Nat))) Yo ?_ (he:=congrArg (fun n=>AV.d (.int .i64 n)) (wrap_nat (n:=j+1) (by omega)))
     repeat (first|refine Yg ?_|refine Yq ?_|refine Yn ?_|refine Yk ?_|refine cT ?_|refine cF ?_|refine Yb ?_|refine Ye ?_|refine eN ?_|refine Yd (frz:=[1,24,33,45,58,68,73]) Yo (by kernel_rfl) ?_)
     exact⟨j+1,hjlt,by omega,prI1 [.str r.name,alts r.alts] _ rfl ⟨⟨rfl,rfl⟩,⟨rfl,rfl⟩,⟨rfl,rfl⟩,⟨rfl,rfl⟩,⟨rfl,rfl⟩,⟨rfl,rfl⟩,⟨rfl,rfl⟩,⟨rfl,rfl⟩,⟨rfl,rfl⟩,⟨rfl,rfl⟩,⟨rfl,rfl⟩,⟨rfl,rfl⟩,⟨rfl,rfl⟩,trivial⟩⟩
    ·have hge:j=a.length:=by simp at h;omega
     subst hge
     have hta:altTo a a.length=altTx a:=by rw [altTo,List.take_length]
     repeat (first|refine Yg ?_|refine Yq ?_|refine Yn ?_|refine Yk ?_|refine cT ?_|refine cF ?_|refine Yb ?_|refine Ye ?_|refine eN ?_|refine Yd (frz:=[1,24,33,45,58,68,73]) Yo (by kernel_rfl) ?_)
     refine oX (frz:=[1,24,33,45,58,68,73]) Yo ?_
     refine oX (frz:=[1,24,33,45,58,68,73]) (v:=.d (.int .i64 (k+1:Nat))) Yo ?_ (he:=congrArg (fun n=>AV.d (.int .i64 n)) (wrap_nat (n:=k+1) (by omega)))
     repeat (first|refine Yg ?_|refine Yq ?_|refine Yn ?_|refine Yk ?_|refine cT ?_|refine cF ?_|refine Yb ?_|refine Ye ?_|refine eN ?_|refine Yd (frz:=[1,24,33,45,58,68,73]) Yo (by kernel_rfl) ?_)
     exact⟨k+1,hklt,by omega,prI1 [.str r.name,alts r.alts] _ (by rw [hta,hnext];simp only [List.append_assoc]) ⟨⟨rfl,rfl⟩,⟨rfl,rfl⟩,⟨rfl,rfl⟩,⟨rfl,rfl⟩,⟨rfl,rfl⟩,⟨rfl,rfl⟩,⟨rfl,rfl⟩,⟨rfl,rfl⟩,⟨rfl,rfl⟩,trivial⟩⟩
  ·have hge:k=r.alts.length:=by simp at h;omega
   subst hge
   have hru:B++ruleP r=headP x++rulesTo x (i+1):=by rw [rulesTo_succ hr,← hB,List.append_assoc]
   repeat (first|refine Yg ?_|refine Yq ?_|refine Yn ?_|refine Yk ?_|refine cT ?_|refine cF ?_|refine Yb ?_|refine Ye ?_|refine eN ?_|refine Yd (frz:=[1,24,33,45,58,68,73]) Yo (by kernel_rfl) ?_)
   iterate 2 refine oX (frz:=[1,24,33,45,58,68,73]) Yo ?_
   refine RunOps.call (by rfl) (by rfl) (putE (l':=B++ruleP r) [[32,59,10]] 0 [.box ([.str r.name,alts r.alts].map .d)] (by simp [ruleP]) rfl (by rw [List.length_append];omega) (by omega)) (by rfl) (by rfl) ?_
   repeat (first|refine Yg ?_|refine Yq ?_|refine Yn ?_|refine Yk ?_|refine cT ?_|refine cF ?_|refine Yb ?_|refine Ye ?_|refine eN ?_|refine Yd (frz:=[1,24,33,45,58,68,73]) Yo (by kernel_rfl) ?_)
   refine oX (frz:=[1,24,33,45,58,68,73]) Yo ?_
   refine oX (frz:=[1,24,33,45,58,68,73]) (v:=.d (.int .i64 (i+1:Nat))) Yo ?_ (he:=congrArg (fun n=>AV.d (.int .i64 n)) (wrap_nat (n:=i+1) (by omega)))
   repeat (first|refine Yg ?_|refine Yq ?_|refine Yn ?_|refine Yk ?_|refine cT ?_|refine cF ?_|refine Yb ?_|refine Ye ?_|refine eN ?_|refine Yd (frz:=[1,24,33,45,58,68,73]) Yo (by kernel_rfl) ?_)
   exact⟨i+1,hlt,by omega,prR2 _ hru ⟨⟨rfl,rfl⟩,⟨rfl,rfl⟩,⟨rfl,rfl⟩,⟨rfl,rfl⟩,⟨rfl,rfl⟩,trivial⟩⟩
 ·have hge:i=x.rules.length:=by simp at h;omega
  subst hge
  repeat (first|refine Yg ?_|refine Yq ?_|refine Yn ?_|refine Yk ?_|refine cT ?_|refine cF ?_|refine Yb ?_|refine Ye ?_|refine eN ?_|refine Yd (frz:=[1,24,33,45,58,68,73]) Yo (by kernel_rfl) ?_)
  iterate 3 refine oX (frz:=[1,24,33,45,58,68,73]) Yo ?_
  refine RunOps.call (by rfl) (by rfl) (strSP 0 (printX x) (by simp [printX,headP]) hb) (by rfl) (by rfl) ?_
  iterate 2 refine oX (frz:=[1,24,33,45,58,68,73]) Yo ?_
  repeat (first|refine Yg ?_|refine Yq ?_|refine Yn ?_|refine Yk ?_|refine cT ?_|refine cF ?_|refine Yb ?_|refine Ye ?_|refine eN ?_|refine Yd (frz:=[1,24,33,45,58,68,73]) Yo (by kernel_rfl) ?_)
  refine Yt ?_
  exact rT rfl
end Go.Av
end
noncomputable section
namespace Go.Av
open Go Go.Proofs
set_option maxRecDepth 10000
def sepP:Nat→List Nat
 |0=>[]
 |_+1=>[44,32]
def joinTo (l:List (List Nat)):Nat→List Nat
 |0=>[]
 |n+1=>joinTo l n++sepP n++l.getD n []
theorem inter_snoc (sep a:List Nat):∀ l:List (List Nat),l≠[]→List.intercalate sep (l++[a])=List.intercalate sep l++sep++a
 |[],h=>absurd rfl h
 |[x],_=>by simp [List.intercalate,List.intersperse]
 |x :: y :: l,_=>by
  have ih:=inter_snoc sep a (y :: l) (by simp)
  simp only [List.intercalate,List.cons_append,List.intersperse,List.flatten_cons,List.append_assoc] at ih ⊢
  rw [ih]
theorem joinTo_inter (l:List (List Nat)):∀ n,n≤l.length→joinTo l n=List.intercalate [44,32] (l.take n)
 |0,_=>by simp [joinTo,List.intercalate]
 |n+1,h=>by
  have ih:=joinTo_inter l n (by omega)
  have hg:l[n]?=some l[n]:=by simp [h]
  have hd:l.getD n []=l[n]:=by rw [List.getD_eq_getElem?_getD,hg];rfl
  rw [joinTo,ih,hd,List.take_add_one,hg]
  cases n with
  |zero=>simp [List.intercalate,sepP]
  |succ n =>
   have hne:l.take (n+1)≠[]:=by
    intro e;have hl:=congrArg List.length e;rw [List.length_take] at hl;simp only [List.length_nil] at hl;omega
   rw [show(some l[n+1]).toList=[l[n+1]] from rfl,inter_snoc _ _ _ hne];rfl
end Go.Av
end
noncomputable section
namespace Go.Av
open Go Go.Proofs
set_option maxRecDepth 10000
def short8F (l:List (List Nat)):Bool:=decide (l.length≤12) && l.all (fun s=>decide (s.length≤40))
theorem short8F_iff {l:List (List Nat)}:short8F l=true ↔ l.length≤12∧∀ s ∈ l,s.length≤40:=by simp [short8F]
def lightR (r:SRule):Bool:=decide (r.name.length≤40) && decide (r.alts.length≤30) && r.alts.all short8F
def lightX (x:Src):Bool:=short8F x.tokens && decide (x.sep.length≤40) && decide (x.start.length≤40) && decide (x.rules.length≤12) && x.rules.all lightR
structure LightX (x:Src):Prop where
 tokens:x.tokens.length≤12∧∀ s ∈ x.tokens,s.length≤40
 sep:x.sep.length≤40
 start:x.start.length≤40
 rules:x.rules.length≤12
 names:∀ r ∈ x.rules,r.name.length≤40∧r.alts.length≤30∧∀ a ∈ r.alts,a.length≤12∧∀ s ∈ a,s.length≤40
theorem lightX_iff {x:Src} (h:lightX x=true):LightX x:=by
 simp only [lightX,Bool.and_eq_true,decide_eq_true_eq,List.all_eq_true,short8F_iff,lightR] at h
 exact⟨h.1.1.1.1,h.1.1.1.2,h.1.1.2,h.1.2,fun r hr=>⟨(h.2 r hr).1.1,(h.2 r hr).1.2,(h.2 r hr).2⟩⟩
theorem LightX.fits {x:Src} (h:LightX x):FitsX x where
 tokens:=by have:=h.tokens.1;omega
 rules:=by have:=h.rules;omega
 alts r hr:=by have:=(h.names r hr).2.1;omega
 names r hr a ha:=by have:=((h.names r hr).2.2 a ha).1;omega
 sep:=by have:=h.sep;omega
 start:=by have:=h.start;omega
 tokenS s hs:=by have:=h.tokens.2 s hs;omega
 ruleS r hr:=by have:=(h.names r hr).1;omega
 nameS r hr a ha s hs:=by have:=((h.names r hr).2.2 a ha).2 s hs;omega
theorem flatten_le {α:Type} {n:Nat}:∀ {l:List (List α)},(∀ a ∈ l,a.length≤n)→l.flatten.length≤l.length*n
 |[],_=>by simp
 |a :: l,h=>by
  have h1:=h a List.mem_cons_self
  have h2:=flatten_le (l:=l) fun b hb=>h b (List.mem_cons_of_mem _ hb)
  rw [List.flatten_cons,List.length_append,List.length_cons,Nat.succ_mul]
  omega
theorem LightX.inner {x:Src} (h:LightX x):(innerX x).length≤1048576:=by
 have h1:(innerX x).length≤(x.rules.map fun r=>r.alts.flatten).length*360:=by
  unfold innerX
  rw [List.flatMap_def]
  refine flatten_le fun a ha=>?_
  obtain⟨r,hr,rfl⟩:=List.mem_map.1 ha
  have h2:=flatten_le (l:=r.alts) (n:=12) fun a ha=>((h.names r hr).2.2 a ha).1
  have:=(h.names r hr).2.1
  omega
 have:=h.rules
 rw [List.length_map] at h1
 omega
theorem joinTo_len {l:List (List Nat)} {B:Nat} (h:∀ s ∈ l,s.length≤B):∀ n,(joinTo l n).length≤n*(2+B)
 |0=>by simp [joinTo]
 |n+1=>by
  have ih:=joinTo_len h n
  have hs:(sepP n).length≤2:=by cases n<;>simp [sepP]
  have hd:(l.getD n []).length≤B:=by
   rw [List.getD_eq_getElem?_getD]
   cases hg:l[n]? with
   |none=>simp
   |some s=>exact h s (List.mem_of_getElem? hg)
  simp only [joinTo,List.length_append]
  rw [Nat.succ_mul];omega
theorem altQ_len {a:List (List Nat)} {B:Nat} (h:∀ s ∈ a,s.length≤B):(altTx a).length≤a.length*(B+1):=by
 unfold altTx
 rw [List.flatMap_def]
 have:=flatten_le (l:=a.map fun s=>32 :: s) (n:=B+1) fun u hu=>by
  obtain⟨s,hs,rfl⟩:=List.mem_map.1 hu
  have:=h s hs
  simp only [List.length_cons];omega
 rwa [List.length_map] at this
theorem altsTo_len {al:List (List (List Nat))} {B:Nat} (h:∀ a ∈ al,(altTx a).length≤B):∀ n,(altsTo al n).length≤n*(2+B)
 |0=>by simp [altsTo]
 |n+1=>by
  have ih:=altsTo_len h n
  have hs:(barP n).length≤2:=by cases n<;>simp [barP]
  have hd:(altTx (al.getD n [])).length≤B:=by
   rw [List.getD_eq_getElem?_getD]
   cases hg:al[n]? with
   |none=>simp [altTx]
   |some s=>exact h s (List.mem_of_getElem? hg)
  simp only [altsTo,List.length_append]
  rw [Nat.succ_mul];omega
theorem LightX.print {x:Src} (h:LightX x):(printX x).length≤1099511627776:=by
 have h1:(List.intercalate [44,32] x.tokens).length≤x.tokens.length*42:=by
  have:=joinTo_inter x.tokens x.tokens.length (Nat.le_refl _)
  rw [List.take_length] at this
  rw [← this]
  exact joinTo_len h.tokens.2 _
 have h2:(rulesTo x x.rules.length).length≤x.rules.length*20000:=by
  unfold rulesTo
  rw [List.take_length,List.flatMap_def]
  have:=flatten_le (l:=x.rules.map ruleP) (n:=20000) fun u hu=>by
   obtain⟨r,hr,rfl⟩:=List.mem_map.1 hu
   obtain⟨g1,g2,g3⟩:=h.names r hr
   have g4:=altsTo_len (al:=r.alts) (B:=492) (fun a ha=>by
    have:=altQ_len (a:=a) (B:=40) (g3 a ha).2
    have:=(g3 a ha).1
    omega) r.alts.length
   simp only [ruleP,List.length_append,List.length_cons,List.length_nil]
   omega
  rwa [List.length_map] at this
 have:=h.tokens.1
 have:=h.rules
 have:=h.sep
 have:=h.start
 simp only [printX,headP,List.length_append,List.length_cons,List.length_nil]
 omega
structure ByteX (x:Src):Prop where
 tokens:∀ s ∈ x.tokens,∀ c ∈ s,c<256
 sep:∀ c ∈ x.sep,c<256
 start:∀ c ∈ x.start,c<256
 rules:∀ r ∈ x.rules,∀ c ∈ r.name,c<256
 names:∀ r ∈ x.rules,∀ a ∈ r.alts,∀ s ∈ a,∀ c ∈ s,c<256
theorem joinTo_by {l:List (List Nat)} (h:∀ s ∈ l,∀ c ∈ s,c<256):∀ n,∀ c ∈ joinTo l n,c<256
 |0,c,hc=>by simp [joinTo] at hc
 |n+1,c,hc=>by
  simp only [joinTo,List.mem_append] at hc
  rcases hc with(hc|hc)|hc
  ·exact joinTo_by h n c hc
  ·cases n with
   |zero=>simp [sepP] at hc
   |succ n=>simp [sepP] at hc;omega
  ·rw [List.getD_eq_getElem?_getD] at hc
   cases hg:l[n]? with
   |none=>rw [hg] at hc;simp at hc
   |some s=>rw [hg] at hc;exact h s (List.mem_of_getElem? hg) c hc
theorem altQ_by {a:List (List Nat)} (h:∀ s ∈ a,∀ c ∈ s,c<256):∀ c ∈ altTx a,c<256:=by
 intro c hc
 simp only [altTx,List.mem_flatMap,List.mem_cons] at hc
 obtain⟨s,hs,rfl|hc⟩:=hc
 ·omega
 ·exact h s hs c hc
theorem altsTo_by {al:List (List (List Nat))} (h:∀ a ∈ al,∀ s ∈ a,∀ c ∈ s,c<256):∀ n,∀ c ∈ altsTo al n,c<256
 |0,c,hc=>by simp [altsTo] at hc
 |n+1,c,hc=>by
  simp only [altsTo,List.mem_append] at hc
  rcases hc with(hc|hc)|hc
  ·exact altsTo_by h n c hc
  ·cases n with
   |zero=>simp [barP] at hc
   |succ n=>simp [barP] at hc;omega
  ·refine altQ_by (a:=al.getD n []) (fun s hs c hc=>?_) c hc
   rw [List.getD_eq_getElem?_getD] at hs
   cases hg:al[n]? with
   |none=>rw [hg] at hs;simp at hs
   |some a=>rw [hg] at hs;exact h a (List.mem_of_getElem? hg) s hs c hc
theorem ByteX.head {x:Src} (h:ByteX x) (hk:x.k≤4):∀ c ∈ headP x,c<256:=by
 have hj:=joinTo_inter x.tokens x.tokens.length (Nat.le_refl _)
 rw [List.take_length] at hj
 intro c hc
 simp only [headP,List.mem_append] at hc
 rcases hc with(((((((hc|hc)|hc)|hc)|hc)|hc)|hc)|hc)|hc
 ·simp at hc;omega
 ·simp at hc;omega
 ·simp at hc;omega
 ·rw [← hj] at hc;exact joinTo_by h.tokens _ c hc
 ·simp at hc;omega
 ·exact h.sep c hc
 ·simp at hc;omega
 ·exact h.start c hc
 ·simp at hc;omega
theorem ByteX.print {x:Src} (h:ByteX x) (hk:x.k≤4):∀ c ∈ printX x,c<256:=by
 intro c hc
 rcases List.mem_append.1 (show c ∈ headP x++rulesTo x x.rules.length from hc) with hc|hc
 ·exact h.head hk c hc
 ·simp only [rulesTo,List.take_length,List.mem_flatMap] at hc
  obtain⟨r,hr,hc⟩:=hc
  simp only [ruleP,List.mem_append] at hc
  rcases hc with((hc|hc)|hc)|hc
  ·exact h.rules r hr c hc
  ·simp at hc;omega
  ·exact altsTo_by (h.names r hr) _ c hc
  ·simp at hc;omega
def printF (x:Src):List Nat:=if checkX x=0 then printX x else []
theorem printSA (x:Src) (hf:FitsX x) (ht:(innerX x).length≤1048576) (hp:(printX x).length≤1099511627776) (hb:ByteX x) :
  KnownCall Try.prog 7 [encX x] (.tup [.d (.str (printF x)),.d (.int .i64 (checkX x))]):=by
 by_cases h0:checkX x=0
 ·have hk:x.k≤4:=by
   have hn:¬ (x.k<1∨4<x.k):=fun h=>by rw [checkX_k h] at h0;cases h0
   omega
  rw [show printF x=printX x from if_pos h0,h0]
  exact printS x hf ht h0 hp (hb.print hk)
 ·have cc:=checkS x hf ht
  rw [show printF x=[] from if_neg h0]
  generalize checkX x=c at cc h0 ⊢
  refine knownE Yo (fnAt Try.func7 (by kernel_rfl) (by kernel_rfl):FnAt _ _ (mkFn Try.f7 [1])) ?_
  repeat' (first|refine Yg ?_|refine Yq ?_|(refine oB (frz:=[1]) Yo ?_ ?_<;>intro h<;>first|(exfalso;simp at h;first|done|omega)|skip)|(refine eB ?_ ?_<;>intro h<;>first|(exfalso;simp at h;first|done|omega)|skip)|refine oX (frz:=[1]) Yo ?_|refine oS ?_|refine Yn ?_|refine Yk ?_|refine cT ?_|refine cF ?_|refine Yb ?_|refine Ye ?_|refine Yd (frz:=[1]) Yo (by kernel_rfl) ?_|refine eX ?_|refine eS ?_|refine eN ?_|refine oC (cc) ?_|refine eC (cc) ?_|(refine Yt ?_;(first|refine rB ?_|refine rI ?_|refine rA ?_|refine rII ?_|refine rSI ?_|refine rT ?_|refine rS ?_);first|done|(rfl))|((exfalso;first|(simp_all<;>fail)|(simp_all;omega)))|fail)
end Go.Av
end
noncomputable section
namespace Go.Av
open Go Go.Proofs
set_option maxRecDepth 10000
theorem name12 {t:List Nat} (h:nameF t=0):t.length≤12:=by
 have hw:wordF t=0:=by
  unfold nameF at h
  split at h
  ·omega
  ·exact h
 unfold wordF at hw
 split at hw
 ·cases hw
 ·split at hw
  ·cases hw
  ·split at hw
   ·cases hw
   ·omega
theorem word_byte {c:Nat} (h:wordI (c:Nat)=true):c<256:=by
 simp only [wordI,letterI,digitI,Bool.or_eq_true,Bool.and_eq_true,decide_eq_true_eq,beq_iff_eq] at h
 omega
theorem isW_bytes {t:List Nat} (h:IsW t):∀ c ∈ t,c<256:=by
 cases t with
 |nil=>exact h.elim
 |cons c l =>
  intro d hd
  rcases List.mem_cons.1 hd with rfl|hd
  ·exact word_byte (by simp [wordI,h.1])
  ·exact word_byte (h.2 d hd)
theorem SoundX.light {x:Src} (h:SoundX x):LightX x where
 tokens:=⟨by have:=h.tok8;omega,fun s hs=>by have:=name12 (small_name (h.tokS s hs));omega⟩
 sep:=by have:=name12 (small_name h.sepS);omega
 start:=by have:=name12 (capital_name h.startC);omega
 rules:=by have:=h.rul8;omega
 names r hr:=⟨by have:=name12 (capital_name (h.rulC r hr));omega,by
  have h1:=h.sum
  have:∀ (l:List SRule),r ∈ l→r.alts.length≤(l.map (·.alts.length)).sum:=by
   intro l
   induction l with
   |nil=>intro h;cases h
   |cons u l ih =>
    intro h
    simp only [List.map_cons,List.sum_cons]
    rcases List.mem_cons.1 h with rfl|h
    ·omega
    ·have:=ih h;omega
  have:=this x.rules hr
  omega,fun a ha=>⟨by have:=h.alt6 r hr a ha;omega,fun s hs=>by have:=name12 (may_name (h.altM r hr a ha s hs));omega⟩⟩
theorem SoundX.bytes {x:Src} (h:SoundX x):ByteX x where
 tokens s hs:=isW_bytes (name_isW (small_name (h.tokS s hs)))
 sep:=isW_bytes (name_isW (small_name h.sepS))
 start:=isW_bytes (name_isW (capital_name h.startC))
 rules r hr:=isW_bytes (name_isW (capital_name (h.rulC r hr)))
 names r hr a ha s hs:=isW_bytes (name_isW (may_name (h.altM r hr a ha s hs)))
theorem encL_inj:∀ {l m:List Lx},l.map encL=m.map encL→l=m
 |[],[],_=>rfl
 |[],_ :: _,h=>by cases h
 |_ :: _,[],h=>by cases h
 |x :: l,y :: m,h=>by
  simp only [List.map_cons,List.cons.injEq,encL,lexD,DV.agg.injEq,DV.int.injEq,DV.str.injEq,true_and,and_true] at h
  obtain⟨⟨h1,h2,h3⟩,h4⟩:=h
  obtain⟨k,t,a⟩:=x
  obtain⟨k',t',a'⟩:=y
  simp only at h1 h2 h3
  rw [encL_inj h4,show k=k' by omega,h2,show a=a' by omega]
theorem parseRound {x:Src} (h:checkX x=0) (hl:(printX x).length≤2000):KnownCall Try.prog 6 [.str (printX x)] (resX (x,(0,0))):=by
 have hs:=soundX h
 obtain⟨ls,h1,h2⟩:=roundX h hl
 have hb:=hs.bytes.print hs.k.2
 rcases lexemesF_ls (printX x) (by omega) with⟨ls2,h3,h4,h5⟩|⟨e,q,h3,h4⟩
 ·have e:ls2=ls:=encL_inj (by rw [h1] at h3;simp only [Prod.mk.injEq] at h3;exact h3.1.symm)
  subst e
  have:=parseP (printX x) ls2 hb (by omega) h4 h5 h1
  rw [← read_law,h2] at this
  exact this
 ·rw [h1] at h3
  simp only [Prod.mk.injEq] at h3
  exact absurd h3.2.1.symm h4
theorem parseX (s:List Nat) (hs:s.length≤2000) (hb:∀ c ∈ s,c<256) :
  (∃ x,checkX x=0∧KnownCall Try.prog 6 [.str s] (resX (x,(0,0))))∨∃ e q,e≠0∧q≤s.length∧KnownCall Try.prog 6 [.str s] (resX (src0,(e,q))):=by
 have hF:lexemesF s=lexesF s (s.length+1) 0 []:=by unfold lexemesF;rw [if_neg (by omega)]
 rcases lexesF_at s (s.length+1) 0 [] (Nat.zero_le _) (Nat.le_refl _) (fun x hx=>by cases hx) with⟨ls,h1,h2⟩|⟨e,q,h1,h2,h3⟩
 ·have h1:lexemesF s=(ls.map encL,0,0):=hF.trans h1
  rcases lexemesF_ls s (by omega) with⟨ls2,h3,h4,h5⟩|⟨e,q,h3,h4⟩
  ·have e:ls2=ls:=encL_inj (by rw [h1] at h3;simp only [Prod.mk.injEq] at h3;exact h3.1.symm)
   subst e
   have cp:=parseP s ls2 hb (by omega) h4 h5 h1
   have er:=readE (s:=s) (N:=s.length) (Nat.le_refl _) h2
   cases hr:readP s ls2 with
   |ok q =>
    rw [hr] at cp
    exact .inl ⟨q.x,readSound hr,cp⟩
   |error e =>
    rw [hr] at cp er
    exact .inr ⟨e.1,e.2,er.1,er.2,cp⟩
  ·rw [h1] at h3
   simp only [Prod.mk.injEq] at h3
   exact absurd h3.2.1.symm h4
 ·exact .inr ⟨e,q,h2,h3,parsePbad s e q hb (by omega) (hF.trans h1) h2⟩
end Go.Av
end
noncomputable section
namespace Go.Av
open Go Go.Proofs
set_option maxRecDepth 10000
def exS:Src:=⟨2,[[97],[98]],[99],[83],[⟨[83],[[[97],[83]],[[98]],[]]⟩]⟩
def exT:List Nat:=[108,111,111,107,97,104,101,97,100,32,50,59,32,116,111,107,101,110,32,97,44,32,98,59,32,115,101,112,97,114,97,116,111,114,32,99,59,32,115,116,97,114,116,32,83,59,32,83,32,61,32,97,32,83,32,124,32,98,32,124,32,59]
def exL:List Lx:=[⟨1,[108,111,111,107,97,104,101,97,100],0⟩,⟨2,[50],10⟩,⟨3,[59],11⟩,⟨1,[116,111,107,101,110],13⟩,⟨1,[97],19⟩,⟨3,[44],20⟩,⟨1,[98],22⟩,⟨3,[59],23⟩,⟨1,[115,101,112,97,114,97,116,111,114],25⟩,⟨1,[99],35⟩,⟨3,[59],36⟩,⟨1,[115,116,97,114,116],38⟩,⟨1,[83],44⟩,⟨3,[59],45⟩,⟨1,[83],47⟩,⟨3,[61],49⟩,⟨1,[97],51⟩,⟨1,[83],53⟩,⟨3,[124],55⟩,⟨1,[98],57⟩,⟨3,[124],59⟩,⟨3,[59],61⟩]
theorem exT_lex:lexemesF exT=(exL.map encL,0,0):=by kernel_rfl
theorem exS_light:lightX exS=true:=by kernel_rfl
theorem name1 {c:Nat} (h:letterF (c:Nat)=true):nameF [c]=0:=by
 have hw:wordF [c]=0:=by
  unfold wordF
  rw [if_neg (by simp),if_neg,if_neg (by simp)]
  rintro⟨i,d,h1,h2,_⟩
  cases i with
  |zero =>
   simp at h1
   rw [← h1,h] at h2;cases h2
  |succ i=>simp at h1
 have hl:¬ (wordF [c]=0∧languageF [c]=true):=by
  rintro⟨_,h2⟩
  simp [languageF,wLook,wToken,wSep,wStart] at h2
 unfold nameF
 rw [if_neg hl,hw]
theorem small1 {c:Nat} (h:letterF (c:Nat)=true) (hc:97≤c):smallF [c]=true:=by
 unfold smallF
 rw [name1 h]
 simp;omega
theorem capital1 {c:Nat} (h:letterF (c:Nat)=true) (hc:c<97):capitalF [c]=true:=by
 unfold capitalF
 rw [name1 h]
 simp;omega
theorem sA:smallF [97]=true:=small1 (by decide) (by decide)
theorem sB:smallF [98]=true:=small1 (by decide) (by decide)
theorem sC:smallF [99]=true:=small1 (by decide) (by decide)
theorem cS:capitalF [83]=true:=capital1 (by decide) (by decide)
theorem exS_sound:SoundX exS where
 k:=by decide
 tok0:=by decide
 rul0:=by decide
 alt0:=by decide
 alt6:=by decide
 tok8:=by decide
 rul8:=by decide
 sum:=by decide
 tokS s hs:=by
  simp only [exS,List.mem_cons,List.not_mem_nil,or_false] at hs
  rcases hs with rfl|rfl
  ·exact sA
  ·exact sB
 sepS:=sC
 startC:=cS
 rulC r hr:=by
  simp only [exS,List.mem_cons,List.not_mem_nil,or_false] at hr
  subst hr
  exact cS
 altM r hr a ha s hs:=by
  simp only [exS,List.mem_cons,List.not_mem_nil,or_false] at hr
  subst hr
  simp only [List.mem_cons,List.not_mem_nil,or_false] at ha
  unfold mayF
  rcases ha with rfl|rfl|rfl
  ·simp only [List.mem_cons,List.not_mem_nil,or_false] at hs
   rcases hs with rfl|rfl
   ·rw [sA];rfl
   ·rw [cS];simp
  ·simp only [List.mem_cons,List.not_mem_nil,or_false] at hs
   subst hs
   rw [sB];rfl
  ·cases hs
 nodT:=by decide
 nodR:=by decide
 noSep:=by decide
 known:=by decide
 start:=by decide
theorem exS_check:checkX exS=0:=ofSound exS_sound
theorem exT_read:resP (readP exT exL)=(exS,(0,0)):=by
 rw [← read_law]
 exact readPrint exS_sound (by decide)
theorem exL_num:NumL exL:=fun x hx h=>by
 simp only [exL,List.mem_cons,List.not_mem_nil,or_false] at hx
 rcases hx with rfl|rfl|rfl|rfl|rfl|rfl|rfl|rfl|rfl|rfl|rfl|rfl|rfl|rfl|rfl|rfl|rfl|rfl|rfl|rfl|rfl|rfl<;>first|(exact absurd h (by decide))|skip
 exact beginsF_num (c:=50) (l:=[59]) (by kernel_rfl)
theorem exS_bytes:ByteX exS where
 tokens:=by decide
 sep:=by decide
 start:=by decide
 rules:=by decide
 names:=by decide
theorem exampleS:KnownCall Try.prog 12 [] (.d (encX exS)) :=
 known_toN (x:=.agg [.int .i64 2,.sl 1 [.str [97],.str [98]],.str [99],.str [83],.sl 2 [.agg [.str [83],.sl 1 [.sl 1 [.str [97],.str [83]],.sl 1 [.str [98]],.nilsl]]]]) (knownF T0_ok Yo (by kernel_rfl) Ft_ok (k:=100000) (n:=60) (by kernel_rfl)) (dvn_ok (n:=9) (by kernel_rfl))
set_option maxHeartbeats 4000000 in
theorem awakeS:KnownCall Try.prog 5 [] (.d (.bool true)):=by
 have c1:=parseP exT exL (by decide) (by decide) ⟨by decide,by decide⟩ exL_num exT_lex
 rw [exT_read] at c1
 have L:=lightX_iff exS_light
 have c2:=exampleS
 have c3:=printSA exS L.fits L.inner L.print exS_bytes
 rw [show printF exS=printX exS from if_pos exS_check,show printX exS=[108,111,111,107,97,104,101,97,100,32,50,59,10,116,111,107,101,110,32,97,44,32,98,59,10,115,101,112,97,114,97,116,111,114,32,99,59,10,115,116,97,114,116,32,83,59,10,83,32,61,32,97,32,83,32,124,32,98,32,124,32,59,10] by kernel_rfl,exS_check] at c3
 have c4:=sameR8 exS exS L.fits
 rw [smX_self] at c4
 unfold resX at c1
 simp only at c1
 refine knownE Yo (fnAt Try.func5 (by kernel_rfl) (by kernel_rfl):FnAt _ _ (mkFn Try.f5 [1,2])) ?_
 repeat' (first|refine Yg ?_|refine Yq ?_|(refine oB (frz:=[1,2]) Yo ?_ ?_<;>intro h<;>first|(exfalso;simp at h;first|done|omega)|skip)|(refine eB ?_ ?_<;>intro h<;>first|(exfalso;simp at h;first|done|omega)|skip)|refine oX (frz:=[1,2]) Yo ?_|refine oS ?_|refine Yn ?_|refine Yk ?_|refine cT ?_|refine cF ?_|refine Yb ?_|refine Ye ?_|refine Yd (frz:=[1,2]) Yo (by kernel_rfl) ?_|refine eX ?_|refine eS ?_|refine eN ?_|refine oC (c1) ?_|refine eC (c1) ?_|refine oC (c2) ?_|refine eC (c2) ?_|refine oC (c3) ?_|refine eC (c3) ?_|refine oC (c4) ?_|refine eC (c4) ?_|(refine Yt ?_;(first|refine rB ?_|refine rI ?_|refine rA ?_|refine rII ?_|refine rSI ?_|refine rT ?_|refine rS ?_);first|done|(rfl))|((exfalso;first|(simp at h<;>fail)|(simp at h;omega)))|fail)
end Go.Av
end
noncomputable section
namespace Go.Av
open Go Go.Proofs
set_option maxRecDepth 10000
set_option maxHeartbeats 4000000 in
theorem lawSR (s:List Nat) (hw:s.length≤maxLen∧∀ c ∈ s,c<256):KnownCall Try.prog 3 [.str s] (.d (.bool true)):=by
 have hA:=awakeS
 by_cases h1:500<s.length
 ·refine knownE Yo (fnAt Try.func3 (by kernel_rfl) (by kernel_rfl):FnAt _ _ (mkFn Try.f3 [3,7])) ?_
  repeat' (first|refine Yg ?_|refine Yq ?_|(refine oB (frz:=[3,7]) Yo ?_ ?_<;>intro h<;>first|(exfalso;simp at h;first|done|omega)|skip)|(refine eB ?_ ?_<;>intro h<;>first|(exfalso;simp at h;first|done|omega)|skip)|refine oX (frz:=[3,7]) Yo ?_|refine oS ?_|refine Yn ?_|refine Yk ?_|refine cT ?_|refine cF ?_|refine Yb ?_|refine Ye ?_|refine Yd (frz:=[3,7]) Yo (by kernel_rfl) ?_|refine eX ?_|refine eS ?_|refine eN ?_|refine oC (hA) ?_|refine eC (hA) ?_|(refine Yt ?_;(first|refine rB ?_|refine rI ?_|refine rA ?_|refine rII ?_|refine rSI ?_|refine rT ?_|refine rS ?_);first|done|(rfl))|((exfalso;first|(simp at h<;>fail)|(simp at h;omega)))|fail)
 ·rcases parseX s (by omega) hw.2 with⟨x,h2,c1⟩|⟨e,q,h2,h3,c1⟩
  ·have hs:=soundX h2
   have L:=hs.light
   have c2:=printSA x L.fits L.inner L.print hs.bytes
   have c3:=checkS x L.fits L.inner
   have c4:=sameR8 x x L.fits
   rw [smX_self] at c4
   rw [h2] at c2 c3
   rw [show printF x=printX x from if_pos h2] at c2
   unfold resX at c1
   simp only at c1
   by_cases h5:2000<(printX x).length
   ·generalize printX x=t at c2 h5
    refine knownE Yo (fnAt Try.func3 (by kernel_rfl) (by kernel_rfl):FnAt _ _ (mkFn Try.f3 [3,7])) ?_
    repeat' (first|refine Yg ?_|refine Yq ?_|(refine oB (frz:=[3,7]) Yo ?_ ?_<;>intro h<;>first|(exfalso;simp at h;first|done|omega)|skip)|(refine eB ?_ ?_<;>intro h<;>first|(exfalso;simp at h;first|done|omega)|skip)|refine oX (frz:=[3,7]) Yo ?_|refine oS ?_|refine Yn ?_|refine Yk ?_|refine cT ?_|refine cF ?_|refine Yb ?_|refine Ye ?_|refine Yd (frz:=[3,7]) Yo (by kernel_rfl) ?_|refine eX ?_|refine eS ?_|refine eN ?_|refine oC (hA) ?_|refine eC (hA) ?_|refine oC (c1) ?_|refine eC (c1) ?_|refine oC (c2) ?_|refine eC (c2) ?_|refine oC (c3) ?_|refine eC (c3) ?_|refine oC (c4) ?_|refine eC (c4) ?_|(refine Yt ?_;(first|refine rB ?_|refine rI ?_|refine rA ?_|refine rII ?_|refine rSI ?_|refine rT ?_|refine rS ?_);first|done|(rfl))|((exfalso;first|(simp at h<;>fail)|(simp at h;omega)))|fail)
   ·have c5:=parseRound h2 (by omega)
    unfold resX at c5
    simp only at c5
    generalize printX x=t at c2 h5 c5
    refine knownE Yo (fnAt Try.func3 (by kernel_rfl) (by kernel_rfl):FnAt _ _ (mkFn Try.f3 [3,7])) ?_
    repeat' (first|refine Yg ?_|refine Yq ?_|(refine oB (frz:=[3,7]) Yo ?_ ?_<;>intro h<;>first|(exfalso;simp at h;first|done|omega)|skip)|(refine eB ?_ ?_<;>intro h<;>first|(exfalso;simp at h;first|done|omega)|skip)|refine oX (frz:=[3,7]) Yo ?_|refine oS ?_|refine Yn ?_|refine Yk ?_|refine cT ?_|refine cF ?_|refine Yb ?_|refine Ye ?_|refine Yd (frz:=[3,7]) Yo (by kernel_rfl) ?_|refine eX ?_|refine eS ?_|refine eN ?_|refine oC (hA) ?_|refine eC (hA) ?_|refine oC (c1) ?_|refine eC (c1) ?_|refine oC (c2) ?_|refine eC (c2) ?_|refine oC (c3) ?_|refine eC (c3) ?_|refine oC (c4) ?_|refine eC (c4) ?_|refine oC (c5) ?_|refine eC (c5) ?_|(refine Yt ?_;(first|refine rB ?_|refine rI ?_|refine rA ?_|refine rII ?_|refine rSI ?_|refine rT ?_|refine rS ?_);first|done|(rfl))|((exfalso;first|(simp at h<;>fail)|(simp at h;omega)))|fail)
  ·have hv:AV.d (.bool (((e:Nat):Int) != 0))=.d (.bool true):=by
    congr 2
    have:¬ ((e:Nat):Int)=0:=by omega
    simpa using this
   unfold resX at c1
   simp only at c1
   refine knownE Yo (fnAt Try.func3 (by kernel_rfl) (by kernel_rfl):FnAt _ _ (mkFn Try.f3 [3,7])) ?_
   repeat' (first|refine oX (frz:=[3,7]) (v:=.d (.bool true)) Yo ?_ (he:=(hv))|refine eX (v:=.d (.bool true)) ?_ (he:=(hv))|refine Yg ?_|refine Yq ?_|(refine oB (frz:=[3,7]) Yo ?_ ?_<;>intro h<;>first|(exfalso;simp at h;first|done|omega)|skip)|(refine eB ?_ ?_<;>intro h<;>first|(exfalso;simp at h;first|done|omega)|skip)|refine oX (frz:=[3,7]) Yo ?_|refine oS ?_|refine Yn ?_|refine Yk ?_|refine cT ?_|refine cF ?_|refine Yb ?_|refine Ye ?_|refine Yd (frz:=[3,7]) Yo (by kernel_rfl) ?_|refine eX ?_|refine eS ?_|refine eN ?_|refine oC (hA) ?_|refine eC (hA) ?_|refine oC (c1) ?_|refine eC (c1) ?_|(refine Yt ?_;(first|refine rB ?_|refine rI ?_|refine rA ?_|refine rII ?_|refine rSI ?_|refine rT ?_|refine rS ?_);first|done|(rfl))|((exfalso;first|(simp at h<;>fail)|(simp at h;omega)))|fail)
end Go.Av
end

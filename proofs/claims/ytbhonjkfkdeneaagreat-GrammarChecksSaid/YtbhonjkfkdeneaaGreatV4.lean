/-
  Parts of the way to the law, joined: rules for code over data, and what the functions return. Conditions stand at each.
-/
import Derived.Test.YtbhonjkfkdeneaaGreatV3
import Derived.Test.YtbhonjkfkdeneaaGreatV2
import Derived.Shelf.Strings.OnBuilder
import Derived.Test.YtbhonjkfkdeneaaGreatProg
noncomputable section
namespace Go.Av
open Go Go.Proofs
set_option maxRecDepth 10000
structure SRule where
 name:List Nat
 alts:List (List (List Nat))
structure Src where
 k:Int
 tokens:List (List Nat)
 sep:List Nat
 start:List Nat
 rules:List SRule
abbrev alts (l:List (List (List Nat))):DV:=.sl 1 (l.map strs)
def encR (r:SRule):DV:=.agg [.str r.name,alts r.alts]
abbrev encX (x:Src):DV:=.agg [.int .i64 x.k,strs x.tokens,.str x.sep,.str x.start,.sl 2 (x.rules.map encR)]
abbrev cellX (x:Src):AV:=.d (.ep [.int .i64 x.k,strs x.tokens,.str x.sep,.str x.start,.sl 2 (x.rules.map encR)])
structure FitsX (x:Src):Prop where
 tokens:x.tokens.length≤1048576
 rules:x.rules.length≤1048576
 alts:∀ r ∈ x.rules,r.alts.length≤1048576
 names:∀ r ∈ x.rules,∀ a ∈ r.alts,a.length≤1048576
 sep:x.sep.length≤1048576
 start:x.start.length≤1048576
 tokenS:∀ s ∈ x.tokens,s.length≤1048576
 ruleS:∀ r ∈ x.rules,r.name.length≤1048576
 nameS:∀ r ∈ x.rules,∀ a ∈ r.alts,∀ s ∈ a,s.length≤1048576
section
variable {α:Type} {l:List α} {p:α→Bool} {i:Nat} {x:α}
theorem any_next (h:l[i]?=some x) (hb:(l.take i).any p=false) (hx:p x=false):(l.take (i+1)).any p=false:=by
 rw [List.take_add_one,h,List.any_append,hb];simp [hx]
theorem any_hit (h:l[i]?=some x) (hx:p x=true):l.any p=true:=List.any_eq_true.2 ⟨x,List.mem_of_getElem? h,hx⟩
theorem any_end (hb:(l.take l.length).any p=false):l.any p=false:=by rw [List.take_length] at hb;exact hb
end
theorem has08 (l:List (List Nat)) (s:List Nat) (hl:l.length≤1099511627776):KnownCall Tryz.prog 196 [strs l,.str s] (.d (.bool (l.any fun y=>decide (y=s)))):=by
 refine knownE Yo (fnAt Tryz.func196 (by kernel_rfl) (by kernel_rfl):FnAt _ _ (mkFn Tryz.f196 [])) ?_
 repeat' (first|refine Yg ?_|refine Yq ?_|(refine oB (frz:=[]) Yo ?_ ?_<;>intro h<;>first|(exfalso;simp at h;first|done|omega)|skip)|(refine eB ?_ ?_<;>intro h<;>first|(exfalso;simp at h;first|done|omega)|skip)|refine oX (frz:=[]) Yo ?_|refine oS ?_|refine Yn ?_|refine Yk ?_|refine cT ?_|refine cF ?_|refine Yb ?_|refine Ye ?_|refine Yd (frz:=[]) Yo (by kernel_rfl) ?_|refine eX ?_|refine eS ?_|refine eN ?_|(refine Yt ?_;(first|refine rB ?_|refine rI ?_|refine rA ?_|refine rII ?_|refine rSI ?_|refine rT ?_|refine rS ?_);first|done|(skip))|fail)
 refine Run.loop (fun i:Nat=>⟨PT.ofList [(0,.d (strs l)),(1,.d (.str s)),(5,.d (.int .i64 i))],[],[]⟩) (fun i=>i≤l.length∧(l.take i).any (fun y=>decide (y=s))=false) (fun i=>l.length-i) 0 ⟨Nat.zero_le _,rfl⟩ (weak_of (by repeat' (first|exact trivial|refine⟨rfl,?_⟩))) (fun i hi=>?_)
 rcases Nat.lt_or_ge i l.length with hlt|hge
 ·obtain⟨y,hy⟩:=get_ok hlt
  by_cases hys:y=s
  ·rw [any_hit hy (p:=fun y=>decide (y=s)) (by simp [hys])]
   repeat' (first|refine Yg ?_|refine Yq ?_|(refine oB (frz:=[]) Yo ?_ ?_<;>intro h<;>first|(exfalso;simp at h;first|done|omega)|skip)|(refine eB ?_ ?_<;>intro h<;>first|(exfalso;simp at h;first|done|omega)|skip)|refine oX (frz:=[]) Yo ?_|refine oS ?_|refine Yn ?_|refine Yk ?_|refine cT ?_|refine cF ?_|refine Yb ?_|refine Ye ?_|refine Yd (frz:=[]) Yo (by kernel_rfl) ?_|refine eX ?_|refine eS ?_|refine eN ?_|refine oX (frz:=[]) (v:=.d (.ep [.str y])) Yo ?_ (hf:=(by first|(simp [inB]<;>fail)|(simp [inB];omega))) (he:=(by first|(simp [List.getD_eq_getElem?_getD,cellsD,hy]<;>fail)|fail))|refine eX (v:=.d (.ep [.str y])) ?_ (hf:=(by first|(simp [inB]<;>fail)|(simp [inB];omega))) (he:=(by first|(simp [List.getD_eq_getElem?_getD,cellsD,hy]<;>fail)|fail))|(refine Yt ?_;(first|refine rB ?_|refine rI ?_|refine rA ?_|refine rII ?_|refine rSI ?_|refine rT ?_|refine rS ?_);first|done|(rfl))|((exfalso;(simp at h<;>fail)))|((exfalso;simp [hys] at h<;>fail))|fail)
  ·repeat' (first|refine Yg ?_|refine Yq ?_|(refine oB (frz:=[]) Yo ?_ ?_<;>intro h<;>first|(exfalso;simp at h;first|done|omega)|skip)|(refine eB ?_ ?_<;>intro h<;>first|(exfalso;simp at h;first|done|omega)|skip)|refine oX (frz:=[]) Yo ?_|refine oS ?_|refine Yn ?_|refine Yk ?_|refine cT ?_|refine cF ?_|refine Yb ?_|refine Ye ?_|refine Yd (frz:=[]) Yo (by kernel_rfl) ?_|refine eX ?_|refine eS ?_|refine eN ?_|refine oX (frz:=[]) (v:=.d (.ep [.str y])) Yo ?_ (hf:=(by first|(simp [inB]<;>fail)|(simp [inB];omega))) (he:=(by first|(simp [List.getD_eq_getElem?_getD,cellsD,hy]<;>fail)|fail))|refine eX (v:=.d (.ep [.str y])) ?_ (hf:=(by first|(simp [inB]<;>fail)|(simp [inB];omega))) (he:=(by first|(simp [List.getD_eq_getElem?_getD,cellsD,hy]<;>fail)|fail))|(refine Yt ?_;(first|refine rB ?_|refine rI ?_|refine rA ?_|refine rII ?_|refine rSI ?_|refine rT ?_|refine rS ?_);first|done|((exfalso;simp [hys] at h<;>fail)))|(exact⟨i+1,⟨hlt,any_next hy hi.2 (by simp [hys])⟩,by omega,weak_of (by repeat' (first|exact trivial|refine⟨rfl,?_⟩|refine⟨(inc_get (k:=i) (by kernel_rfl) (by omega)),?_⟩))⟩)|fail)
 ·have hie:i=l.length:=by omega
  subst hie
  rw [any_end hi.2]
  repeat' (first|refine Yg ?_|refine Yq ?_|(refine oB (frz:=[]) Yo ?_ ?_<;>intro h<;>first|(exfalso;simp at h;first|done|omega)|skip)|(refine eB ?_ ?_<;>intro h<;>first|(exfalso;simp at h;first|done|omega)|skip)|refine oX (frz:=[]) Yo ?_|refine oS ?_|refine Yn ?_|refine Yk ?_|refine cT ?_|refine cF ?_|refine Yb ?_|refine Ye ?_|refine Yd (frz:=[]) Yo (by kernel_rfl) ?_|refine eX ?_|refine eS ?_|refine eN ?_|(refine Yt ?_;(first|refine rB ?_|refine rI ?_|refine rA ?_|refine rII ?_|refine rSI ?_|refine rT ?_|refine rS ?_);first|done|(rfl))|fail)
theorem rules08 (x:Src) (hf:FitsX x):KnownCall Tryz.prog 131 [encX x] (.d (strs (x.rules.map (·.name)))):=by
 have hr:=hf.rules
 refine knownE2 Yo (fnAt Tryz.func131 (by kernel_rfl) (by kernel_rfl):FnAt _ _ (mkFn Tryz.f131 [1,19])) ?_
 repeat' (first|refine Yg ?_|refine Yq ?_|(refine oB (frz:=[1,19]) Yo ?_ ?_<;>intro h<;>first|(exfalso;simp at h;first|done|omega)|skip)|(refine eB ?_ ?_<;>intro h<;>first|(exfalso;simp at h;first|done|omega)|skip)|refine oX (frz:=[1,19]) Yo ?_|refine oS ?_|refine Yn ?_|refine Yk ?_|refine cT ?_|refine cF ?_|refine Yb ?_|refine Ye ?_|refine Yd (frz:=[1,19]) Yo (by kernel_rfl) ?_|refine eX ?_|refine eS ?_|refine eN ?_|(refine Yt ?_;refine r2 ?_;first|done|(skip))|fail)
 refine Run.loop (fun y:Nat × List DV=>⟨PT.ofList [(1,cellX x),(3,rowA 0 1 y.2),(4,.d (.int .i64 y.1))],rowO 1 y.2,[]⟩) (fun y=>y.1≤x.rules.length∧y.2=(x.rules.take y.1).map (fun r=>.str r.name)) (fun y=>x.rules.length-y.1) (0,[]) ⟨Nat.zero_le _,rfl⟩ (weak_of (by repeat' (first|exact trivial|refine⟨rfl,?_⟩))) (fun y hy=>?_)
 obtain⟨i,acc⟩:=y
 obtain⟨hi1,hi2⟩:=hy
 simp only at hi1 hi2 ⊢
 have hal:acc.length≤i:=by rw [hi2];simp;omega
 rcases Nat.lt_or_ge i x.rules.length with hlt|hge
 ·obtain⟨r,hr⟩:=get_ok hlt
  have hnext:acc++[.str r.name]=(x.rules.take (i+1)).map (fun r=>.str r.name):=by rw [List.take_add_one,hr,hi2];simp
  rcases acc with _|⟨a,l⟩
  ·repeat' (first|refine Yg ?_|refine Yq ?_|(refine oB (frz:=[1,19]) Yo ?_ ?_<;>intro h<;>first|(exfalso;simp at h;first|done|omega)|skip)|(refine eB ?_ ?_<;>intro h<;>first|(exfalso;simp at h;first|done|omega)|skip)|refine oX (frz:=[1,19]) Yo ?_|refine oS ?_|refine Yn ?_|refine Yk ?_|refine cT ?_|refine cF ?_|refine Yb ?_|refine Ye ?_|refine Yd (frz:=[1,19]) Yo (by kernel_rfl) ?_|refine eX ?_|refine eS ?_|refine eN ?_|refine oX (frz:=[1,19]) (v:=.d (.ep [.str r.name,alts r.alts])) Yo ?_ (hf:=(by first|(simp [inB]<;>fail)|(simp [inB];omega))) (he:=(by first|(simp [List.getD_eq_getElem?_getD,cellsD,hr,encR]<;>fail)|fail))|refine eX (v:=.d (.ep [.str r.name,alts r.alts])) ?_ (hf:=(by first|(simp [inB]<;>fail)|(simp [inB];omega))) (he:=(by first|(simp [List.getD_eq_getElem?_getD,cellsD,hr,encR]<;>fail)|fail))|refine oX (frz:=[1,19]) Yo ?_ (hv:=app1) (hf:=rfl) (he:=rfl)|refine eX ?_ (hv:=app1) (hf:=rfl) (he:=rfl)|refine oX (frz:=[1,19]) Yo ?_ (hv:=app0) (hf:=rfl) (he:=rfl)|refine eX ?_ (hv:=app0) (hf:=rfl) (he:=rfl)|(refine Yt ?_;refine r2 ?_;first|done|(skip))|(exact⟨(i+1,[.str r.name]),⟨hlt,hnext⟩,by simp only;omega,weak_of' (by rfl) rfl (by repeat' (first|exact trivial|refine⟨rfl,?_⟩|refine⟨(inc_get (k:=i) (by kernel_rfl) (by omega)),?_⟩))⟩)|fail)
  ·have hal':l.length+1≤i:=hal
   repeat' (first|refine Yg ?_|refine Yq ?_|(refine oB (frz:=[1,19]) Yo ?_ ?_<;>intro h<;>first|(exfalso;simp at h;first|done|omega)|skip)|(refine eB ?_ ?_<;>intro h<;>first|(exfalso;simp at h;first|done|omega)|skip)|refine oX (frz:=[1,19]) Yo ?_|refine oS ?_|refine Yn ?_|refine Yk ?_|refine cT ?_|refine cF ?_|refine Yb ?_|refine Ye ?_|refine Yd (frz:=[1,19]) Yo (by kernel_rfl) ?_|refine eX ?_|refine eS ?_|refine eN ?_|refine oX (frz:=[1,19]) (v:=.d (.ep [.str r.name,alts r.alts])) Yo ?_ (hf:=(by first|(simp [inB]<;>fail)|(simp [inB];omega))) (he:=(by first|(simp [List.getD_eq_getElem?_getD,cellsD,hr,encR]<;>fail)|fail))|refine eX (v:=.d (.ep [.str r.name,alts r.alts])) ?_ (hf:=(by first|(simp [inB]<;>fail)|(simp [inB];omega))) (he:=(by first|(simp [List.getD_eq_getElem?_getD,cellsD,hr,encR]<;>fail)|fail))|refine oX (frz:=[1,19]) Yo ?_ (hv:=app1) (hf:=rfl) (he:=rfl)|refine eX ?_ (hv:=app1) (hf:=rfl) (he:=rfl)|refine oX (frz:=[1,19]) Yo ?_ (hv:=app0) (hf:=rfl) (he:=rfl)|refine eX ?_ (hv:=app0) (hf:=rfl) (he:=rfl)|(refine Yt ?_;refine r2 ?_;first|done|(skip))|(exact⟨(i+1,a :: (l++[DV.str r.name])),⟨hlt,hnext⟩,by simp only;omega,weak_of' (by show [Ob.room ((l++[_]).length+1) 1]=[Ob.room (l.length+1+1) 1];rw [List.length_append];rfl) rfl (by repeat' (first|exact trivial|refine⟨rfl,?_⟩|refine⟨(inc_get (k:=i) (by kernel_rfl) (by omega)),?_⟩))⟩)|fail)
 ·have hge:i=x.rules.length:=by omega
  have he:(x.rules.map (·.name)).map DV.str=acc:=by rw [hi2,hge,List.take_length,List.map_map];rfl
  rw [show strs (x.rules.map (·.name))=.sl 1 ((x.rules.map (·.name)).map DV.str) from rfl,he]
  rcases acc with _|⟨a,l⟩
  ·repeat' (first|refine Yg ?_|refine Yq ?_|(refine oB (frz:=[1,19]) Yo ?_ ?_<;>intro h<;>first|(exfalso;simp at h;first|done|omega)|skip)|(refine eB ?_ ?_<;>intro h<;>first|(exfalso;simp at h;first|done|omega)|skip)|refine oX (frz:=[1,19]) Yo ?_|refine oS ?_|refine Yn ?_|refine Yk ?_|refine cT ?_|refine cF ?_|refine Yb ?_|refine Ye ?_|refine Yd (frz:=[1,19]) Yo (by kernel_rfl) ?_|refine eX ?_|refine eS ?_|refine eN ?_|(refine Yt ?_;refine r2 ?_;first|done|(exact .d .nil))|fail)
  ·repeat' (first|refine Yg ?_|refine Yq ?_|(refine oB (frz:=[1,19]) Yo ?_ ?_<;>intro h<;>first|(exfalso;simp at h;first|done|omega)|skip)|(refine eB ?_ ?_<;>intro h<;>first|(exfalso;simp at h;first|done|omega)|skip)|refine oX (frz:=[1,19]) Yo ?_|refine oS ?_|refine Yn ?_|refine Yk ?_|refine cT ?_|refine cF ?_|refine Yb ?_|refine Ye ?_|refine Yd (frz:=[1,19]) Yo (by kernel_rfl) ?_|refine eX ?_|refine eS ?_|refine eN ?_|(refine Yt ?_;refine r2 ?_;first|done|(exact .refl))|fail)
def shortX (x:Src):Bool:=x.rules.any (fun r=>r.alts.isEmpty) || x.tokens.isEmpty || x.rules.isEmpty
theorem short08 (x:Src) (hf:FitsX x):KnownCall Tryz.prog 127 [encX x] (.d (.bool (shortX x))):=by
 have hrl:=hf.rules
 refine knownE Yo (fnAt Tryz.func127 (by kernel_rfl) (by kernel_rfl):FnAt _ _ (mkFn Tryz.f127 [1])) ?_
 repeat' (first|refine Yg ?_|refine Yq ?_|(refine oB (frz:=[1]) Yo ?_ ?_<;>intro h<;>first|(exfalso;simp at h;first|done|omega)|skip)|(refine eB ?_ ?_<;>intro h<;>first|(exfalso;simp at h;first|done|omega)|skip)|refine oX (frz:=[1]) Yo ?_|refine oS ?_|refine Yn ?_|refine Yk ?_|refine cT ?_|refine cF ?_|refine Yb ?_|refine Ye ?_|refine Yd (frz:=[1]) Yo (by kernel_rfl) ?_|refine eX ?_|refine eS ?_|refine eN ?_|(refine Yt ?_;(first|refine rB ?_|refine rI ?_|refine rA ?_|refine rII ?_|refine rSI ?_|refine rT ?_|refine rS ?_);first|done|(skip))|fail)
 refine Run.loop (fun i:Nat=>⟨PT.ofList [(1,cellX x),(3,.d (.int .i64 i))],[],[]⟩) (fun i=>i≤x.rules.length∧(x.rules.take i).any (fun r=>r.alts.isEmpty)=false) (fun i=>x.rules.length-i) 0 ⟨Nat.zero_le _,rfl⟩ (weak_of (by repeat' (first|exact trivial|refine⟨rfl,?_⟩))) (fun i hi=>?_)
 rcases Nat.lt_or_ge i x.rules.length with hlt|hge
 ·obtain⟨r,hr⟩:=get_ok hlt
  cases ha:r.alts with
  |nil =>
   have hs:shortX x=true:=by unfold shortX;rw [any_hit hr (p:=fun r=>r.alts.isEmpty) (by simp [ha])];rfl
   rw [hs]
   repeat' (first|refine Yg ?_|refine Yq ?_|(refine oB (frz:=[1]) Yo ?_ ?_<;>intro h<;>first|(exfalso;simp at h;first|done|omega)|skip)|(refine eB ?_ ?_<;>intro h<;>first|(exfalso;simp at h;first|done|omega)|skip)|refine oX (frz:=[1]) Yo ?_|refine oS ?_|refine Yn ?_|refine Yk ?_|refine cT ?_|refine cF ?_|refine Yb ?_|refine Ye ?_|refine Yd (frz:=[1]) Yo (by kernel_rfl) ?_|refine eX ?_|refine eS ?_|refine eN ?_|refine oX (frz:=[1]) (v:=.d (.ep [.str r.name,alts []])) Yo ?_ (hf:=(by first|(simp [inB]<;>fail)|(simp [inB];omega))) (he:=(by first|(simp [List.getD_eq_getElem?_getD,cellsD,hr,encR,ha]<;>fail)|fail))|refine eX (v:=.d (.ep [.str r.name,alts []])) ?_ (hf:=(by first|(simp [inB]<;>fail)|(simp [inB];omega))) (he:=(by first|(simp [List.getD_eq_getElem?_getD,cellsD,hr,encR,ha]<;>fail)|fail))|(refine Yt ?_;(first|refine rB ?_|refine rI ?_|refine rA ?_|refine rII ?_|refine rSI ?_|refine rT ?_|refine rS ?_);first|done|(rfl))|((exfalso;(simp at h<;>fail)))|fail)
  |cons a l =>
   repeat' (first|refine Yg ?_|refine Yq ?_|(refine oB (frz:=[1]) Yo ?_ ?_<;>intro h<;>first|(exfalso;simp at h;first|done|omega)|skip)|(refine eB ?_ ?_<;>intro h<;>first|(exfalso;simp at h;first|done|omega)|skip)|refine oX (frz:=[1]) Yo ?_|refine oS ?_|refine Yn ?_|refine Yk ?_|refine cT ?_|refine cF ?_|refine Yb ?_|refine Ye ?_|refine Yd (frz:=[1]) Yo (by kernel_rfl) ?_|refine eX ?_|refine eS ?_|refine eN ?_|refine oX (frz:=[1]) (v:=.d (.ep [.str r.name,alts (a :: l)])) Yo ?_ (hf:=(by first|(simp [inB]<;>fail)|(simp [inB];omega))) (he:=(by first|(simp [List.getD_eq_getElem?_getD,cellsD,hr,encR,ha]<;>fail)|fail))|refine eX (v:=.d (.ep [.str r.name,alts (a :: l)])) ?_ (hf:=(by first|(simp [inB]<;>fail)|(simp [inB];omega))) (he:=(by first|(simp [List.getD_eq_getElem?_getD,cellsD,hr,encR,ha]<;>fail)|fail))|(refine Yt ?_;(first|refine rB ?_|refine rI ?_|refine rA ?_|refine rII ?_|refine rSI ?_|refine rT ?_|refine rS ?_);first|done|((exfalso;(simp at h<;>omega))))|(exact⟨i+1,⟨hlt,any_next hr hi.2 (by simp [ha])⟩,by omega,weak_of (by repeat' (first|exact trivial|refine⟨rfl,?_⟩|refine⟨(inc_get (k:=i) (by kernel_rfl) (by omega)),?_⟩))⟩)|fail)
 ·have hie:i=x.rules.length:=by omega
  subst hie
  have hs:shortX x=(x.tokens.isEmpty || x.rules.isEmpty):=by unfold shortX;rw [any_end hi.2];simp
  rw [hs]
  cases ht:x.tokens with
  |nil=>repeat' (first|refine Yg ?_|refine Yq ?_|(refine oB (frz:=[1]) Yo ?_ ?_<;>intro h<;>first|(exfalso;simp at h;first|done|omega)|skip)|(refine eB ?_ ?_<;>intro h<;>first|(exfalso;simp at h;first|done|omega)|skip)|refine oX (frz:=[1]) Yo ?_|refine oS ?_|refine Yn ?_|refine Yk ?_|refine cT ?_|refine cF ?_|refine Yb ?_|refine Ye ?_|refine Yd (frz:=[1]) Yo (by kernel_rfl) ?_|refine eX ?_|refine eS ?_|refine eN ?_|(refine Yt ?_;(first|refine rB ?_|refine rI ?_|refine rA ?_|refine rII ?_|refine rSI ?_|refine rT ?_|refine rS ?_);first|done|(rfl))|((exfalso;(simp_all<;>fail)))|((exfalso;(simp_all<;>omega)))|fail)
  |cons t ts =>
   cases hx:x.rules with
   |nil=>repeat' (first|refine Yg ?_|refine Yq ?_|(refine oB (frz:=[1]) Yo ?_ ?_<;>intro h<;>first|(exfalso;simp at h;first|done|omega)|skip)|(refine eB ?_ ?_<;>intro h<;>first|(exfalso;simp at h;first|done|omega)|skip)|refine oX (frz:=[1]) Yo ?_|refine oS ?_|refine Yn ?_|refine Yk ?_|refine cT ?_|refine cF ?_|refine Yb ?_|refine Ye ?_|refine Yd (frz:=[1]) Yo (by kernel_rfl) ?_|refine eX ?_|refine eS ?_|refine eN ?_|(refine Yt ?_;(first|refine rB ?_|refine rI ?_|refine rA ?_|refine rII ?_|refine rSI ?_|refine rT ?_|refine rS ?_);first|done|(rfl))|((exfalso;(simp_all<;>fail)))|((exfalso;(simp_all<;>omega)))|fail)
   |cons r rs=>repeat' (first|refine Yg ?_|refine Yq ?_|(refine oB (frz:=[1]) Yo ?_ ?_<;>intro h<;>first|(exfalso;simp at h;first|done|omega)|skip)|(refine eB ?_ ?_<;>intro h<;>first|(exfalso;simp at h;first|done|omega)|skip)|refine oX (frz:=[1]) Yo ?_|refine oS ?_|refine Yn ?_|refine Yk ?_|refine cT ?_|refine cF ?_|refine Yb ?_|refine Ye ?_|refine Yd (frz:=[1]) Yo (by kernel_rfl) ?_|refine eX ?_|refine eS ?_|refine eN ?_|(refine Yt ?_;(first|refine rB ?_|refine rI ?_|refine rA ?_|refine rII ?_|refine rSI ?_|refine rT ?_|refine rS ?_);first|done|(rfl))|((exfalso;(simp_all<;>fail)))|((exfalso;(simp_all<;>omega)))|fail)
theorem twice08 (l:List (List Nat)) (hl:l.length≤1099511627776):KnownCall Tryz.prog 130 [strs l] (.d (.bool (decide (¬ l.Nodup)))):=by
 refine knownE Yo (fnAt Tryz.func130 (by kernel_rfl) (by kernel_rfl):FnAt _ _ (mkFn Tryz.f130 [])) ?_
 repeat' (first|refine Yg ?_|refine Yq ?_|(refine oB (frz:=[]) Yo ?_ ?_<;>intro h<;>first|(exfalso;simp at h;first|done|omega)|skip)|(refine eB ?_ ?_<;>intro h<;>first|(exfalso;simp at h;first|done|omega)|skip)|refine oX (frz:=[]) Yo ?_|refine oS ?_|refine Yn ?_|refine Yk ?_|refine cT ?_|refine cF ?_|refine Yb ?_|refine Ye ?_|refine Yd (frz:=[]) Yo (by kernel_rfl) ?_|refine eX ?_|refine eS ?_|refine eN ?_|(refine Yt ?_;(first|refine rB ?_|refine rI ?_|refine rA ?_|refine rII ?_|refine rSI ?_|refine rT ?_|refine rS ?_);first|done|(skip))|fail)
 refine Run.loop (fun i:Nat=>⟨PT.ofList [(0,.d (strs l)),(3,.d (.int .i64 i))],[],[]⟩) (fun i=>i≤l.length∧(l.take i).Nodup) (fun i=>l.length-i) 0 ⟨Nat.zero_le _,by simp⟩ (weak_of (by repeat' (first|exact trivial|refine⟨rfl,?_⟩))) (fun i hi=>?_)
 rcases Nat.lt_or_ge i l.length with hlt|hge
 ·obtain⟨x,hx⟩:=get_ok hlt
  have hh:=has08 (l.take i) x (by simp;omega)
  have hc:AV.d (DV.sl 1 (cutL none (some (i:Int)) (l.map DV.str)))=.d (strs (l.take i)):=by simp [cutL,List.map_take]
  by_cases hm:x ∈ l.take i
  ·rw [show(l.take i).any (fun y=>decide (y=x))=true from List.any_eq_true.2 ⟨x,hm,by simp⟩] at hh
   rw [decide_eq_true (nodup_not hx hm)]
   repeat' (first|refine Yg ?_|refine Yq ?_|(refine oB (frz:=[]) Yo ?_ ?_<;>intro h<;>first|(exfalso;simp at h;first|done|omega)|skip)|(refine eB ?_ ?_<;>intro h<;>first|(exfalso;simp at h;first|done|omega)|skip)|refine oX (frz:=[]) Yo ?_|refine oS ?_|refine Yn ?_|refine Yk ?_|refine cT ?_|refine cF ?_|refine Yb ?_|refine Ye ?_|refine Yd (frz:=[]) Yo (by kernel_rfl) ?_|refine eX ?_|refine eS ?_|refine eN ?_|refine oC (hh) ?_|refine eC (hh) ?_|refine oX (frz:=[]) (v:=.d (.ep [.str x])) Yo ?_ (hf:=(by first|(simp [inB]<;>fail)|(simp [inB];omega))) (he:=(by first|(simp [List.getD_eq_getElem?_getD,cellsD,hx]<;>fail)|fail))|refine eX (v:=.d (.ep [.str x])) ?_ (hf:=(by first|(simp [inB]<;>fail)|(simp [inB];omega))) (he:=(by first|(simp [List.getD_eq_getElem?_getD,cellsD,hx]<;>fail)|fail))|refine eX (v:=.d (strs (l.take i))) ?_ (hf:=by first|(simp [cutC,maxC]<;>fail)|(simp [cutC,maxC];omega)) (he:=hc)|(refine Yt ?_;(first|refine rB ?_|refine rI ?_|refine rA ?_|refine rII ?_|refine rSI ?_|refine rT ?_|refine rS ?_);first|done|(rfl))|((exfalso;(simp at h<;>omega)))|fail)
  ·rw [show(l.take i).any (fun y=>decide (y=x))=false from by rw [List.any_eq_false];intro y hy he;exact hm (by simpa using (by simpa using he:y=x) ▸ hy)] at hh
   have hn:=nodup_take hx hi.2 hm
   repeat' (first|refine Yg ?_|refine Yq ?_|(refine oB (frz:=[]) Yo ?_ ?_<;>intro h<;>first|(exfalso;simp at h;first|done|omega)|skip)|(refine eB ?_ ?_<;>intro h<;>first|(exfalso;simp at h;first|done|omega)|skip)|refine oX (frz:=[]) Yo ?_|refine oS ?_|refine Yn ?_|refine Yk ?_|refine cT ?_|refine cF ?_|refine Yb ?_|refine Ye ?_|refine Yd (frz:=[]) Yo (by kernel_rfl) ?_|refine eX ?_|refine eS ?_|refine eN ?_|refine oC (hh) ?_|refine eC (hh) ?_|refine oX (frz:=[]) (v:=.d (.ep [.str x])) Yo ?_ (hf:=(by first|(simp [inB]<;>fail)|(simp [inB];omega))) (he:=(by first|(simp [List.getD_eq_getElem?_getD,cellsD,hx]<;>fail)|fail))|refine eX (v:=.d (.ep [.str x])) ?_ (hf:=(by first|(simp [inB]<;>fail)|(simp [inB];omega))) (he:=(by first|(simp [List.getD_eq_getElem?_getD,cellsD,hx]<;>fail)|fail))|refine eX (v:=.d (strs (l.take i))) ?_ (hf:=by first|(simp [cutC,maxC]<;>fail)|(simp [cutC,maxC];omega)) (he:=hc)|(refine Yt ?_;(first|refine rB ?_|refine rI ?_|refine rA ?_|refine rII ?_|refine rSI ?_|refine rT ?_|refine rS ?_);first|done|((exfalso;(simp at h<;>omega))))|(exact⟨i+1,⟨hlt,hn⟩,by omega,weak_of (by repeat' (first|exact trivial|refine⟨rfl,?_⟩|refine⟨(inc_get (k:=i) (by kernel_rfl) (by omega)),?_⟩))⟩)|fail)
 ·have hie:i=l.length:=by omega
  subst hie
  have hn:=hi.2
  rw [List.take_length] at hn
  rw [decide_eq_false (by simpa using hn)]
  repeat' (first|refine Yg ?_|refine Yq ?_|(refine oB (frz:=[]) Yo ?_ ?_<;>intro h<;>first|(exfalso;simp at h;first|done|omega)|skip)|(refine eB ?_ ?_<;>intro h<;>first|(exfalso;simp at h;first|done|omega)|skip)|refine oX (frz:=[]) Yo ?_|refine oS ?_|refine Yn ?_|refine Yk ?_|refine cT ?_|refine cF ?_|refine Yb ?_|refine Ye ?_|refine Yd (frz:=[]) Yo (by kernel_rfl) ?_|refine eX ?_|refine eS ?_|refine eN ?_|(refine Yt ?_;(first|refine rB ?_|refine rI ?_|refine rA ?_|refine rII ?_|refine rSI ?_|refine rT ?_|refine rS ?_);first|done|(rfl))|fail)
end Go.Av
end
noncomputable section
namespace Go.Av
open Go Go.Proofs
set_option maxRecDepth 10000
def smL {α:Type} (p:α→α→Bool):List α→List α→Bool
 |[],[]=>true
 |x :: a,y :: b=>p x y && smL p a b
 |_,_=>false
theorem smL_len {α:Type} {p:α→α→Bool}:∀ {a b:List α},a.length≠b.length→smL p a b=false
 |[],[],h=>absurd rfl h
 |[],_ :: _,_=>rfl
 |_ :: _,[],_=>rfl
 |x :: a,y :: b,h=>by
  have:smL p a b=false:=smL_len (by simpa using h)
  simp [smL,this]
theorem smL_at {α:Type} {p:α→α→Bool}:∀ {a b:List α} {i:Nat} {x y:α},a[i]?=some x→b[i]?=some y→p x y=false→smL p a b=false
 |[],_,i,x,y,h,_,_=>by simp at h
 |_ :: _,[],i,x,y,_,h,_=>by simp at h
 |u :: a,v :: b,0,x,y,h,k,hp=>by simp at h k;subst h k;simp [smL,hp]
 |u :: a,v :: b,i+1,x,y,h,k,hp=>by
  have:=smL_at (p:=p) (a:=a) (b:=b) (i:=i) (by simpa using h) (by simpa using k) hp
  simp [smL,this]
theorem smL_all {α:Type} {p:α→α→Bool}:∀ {a b:List α},a.length=b.length→(∀ (j:Nat) x y,a[j]?=some x→b[j]?=some y→p x y=true)→smL p a b=true
 |[],[],_,_=>rfl
 |[],_ :: _,h,_=>by simp at h
 |_ :: _,[],h,_=>by simp at h
 |x :: a,y :: b,h,hp=>by
  have h1:=hp 0 x y rfl rfl
  have h2:=smL_all (p:=p) (a:=a) (b:=b) (by simpa using h) (fun j u v hu hv=>hp (j+1) u v (by simpa using hu) (by simpa using hv))
  simp [smL,h1,h2]
theorem smL_self {α:Type} {p:α→α→Bool} {a:List α} (h:∀ x ∈ a,p x x=true):smL p a a=true :=
 smL_all rfl fun j x y hx hy=>by rw [hx] at hy;cases hy;exact h x (List.mem_of_getElem? hx)
theorem smL_dec {α:Type} [DecidableEq α] {a b:List α}:smL (fun x y=>decide (x=y)) a b=decide (a=b):=by
 by_cases hl:a.length=b.length
 ·by_cases h:a=b
  ·subst h;rw [decide_eq_true rfl];exact smL_self fun x _=>by simp
  ·rw [decide_eq_false h]
   have:∃ j:Nat,∃ x y,a[j]?=some x∧b[j]?=some y∧x≠y:=Classical.byContradiction fun hn=>h (List.ext_getElem hl fun j h1 h2=>Classical.byContradiction fun hne=>hn ⟨j,a[j],b[j],by simp [h1],by simp [h2],hne⟩)
   obtain⟨j,x,y,hx,hy,hne⟩:=this
   exact smL_at hx hy (by simpa using hne)
 ·rw [smL_len hl,decide_eq_false]
  intro e;subst e;exact hl rfl
theorem upTo_succ {α:Type} {a b:List α} {p:α→α→Bool} {i:Nat} {x y:α} (hi:∀ j:Nat,j<i→∀ u v,a[j]?=some u→b[j]?=some v→p u v=true) (hx:a[i]?=some x) (hy:b[i]?=some y) (h:p x y=true) :
  ∀ j:Nat,j<i+1→∀ u v,a[j]?=some u→b[j]?=some v→p u v=true:=by
 intro j hj u v hu hv
 rcases Nat.lt_or_ge j i with h1|h1
 ·exact hi j h1 u v hu hv
 ·have:j=i:=by omega
  subst this
  rw [hx] at hu;rw [hy] at hv;cases hu;cases hv;exact h
theorem upTo_all {α:Type} {a b:List α} {p:α→α→Bool} {i:Nat} (hl:a.length=b.length) (hge:a.length≤i) (hi:∀ j:Nat,j<i→∀ u v,a[j]?=some u→b[j]?=some v→p u v=true):smL p a b=true :=
 smL_all hl fun j u v hu hv=>hi j (Nat.lt_of_lt_of_le (List.getElem?_eq_some_iff.1 hu).1 hge) u v hu hv
def smP (x y:GProd):Bool:=decide (x.left=y.left) && decide (x.right=y.right)
def smR (x y:SRule):Bool:=decide (x.name=y.name) && decide (x.alts=y.alts)
def smG (a b:Gram):Bool:=decide (a.k=b.k) && decide (a.tokens=b.tokens) && decide (a.sep=b.sep) && decide (a.names=b.names) && decide (a.start=b.start) && smL smP a.prods b.prods
def smX (a b:Src):Bool:=decide (a.k=b.k) && decide (a.sep=b.sep) && decide (a.start=b.start) && decide (a.tokens=b.tokens) && smL smR a.rules b.rules
theorem smP_self (x:GProd):smP x x=true:=by simp [smP]
theorem smR_self (x:SRule):smR x x=true:=by simp [smR]
theorem smG_self (a:Gram):smG a a=true:=by simp [smG,smL_self fun x _=>smP_self x]
theorem smX_self (a:Src):smX a a=true:=by simp [smX,smL_self fun x _=>smR_self x]
theorem textsR9 (a b:List (List Nat)) (hal:a.length≤1099511627776):KnownCall Tryz.prog 93 [strs a,strs b] (.d (.bool (decide (a=b)))):=by
 by_cases hlen:a.length=b.length
 ·refine knownE Yo (fnAt Tryz.func93 (by kernel_rfl) (by kernel_rfl):FnAt _ _ (mkFn Tryz.f93 [])) ?_
  repeat' (first|refine Yg ?_|refine Yq ?_|(refine oB (frz:=[]) Yo ?_ ?_<;>intro h<;>first|(exfalso;simp at h;first|done|omega)|skip)|(refine eB ?_ ?_<;>intro h<;>first|(exfalso;simp at h;first|done|omega)|skip)|refine oX (frz:=[]) Yo ?_|refine oS ?_|refine Yn ?_|refine Yk ?_|refine cT ?_|refine cF ?_|refine Yb ?_|refine Ye ?_|refine Yd (frz:=[]) Yo (by kernel_rfl) ?_|refine eX ?_|refine eS ?_|refine eN ?_|(refine Yt ?_;(first|refine rB ?_|refine rI ?_|refine rA ?_|refine rII ?_|refine rSI ?_|refine rT ?_|refine rS ?_);first|done|(skip))|((exfalso;first|(simp_all<;>fail)|(simp_all;omega)))|fail)
  refine Run.loop (fun i:Nat=>⟨PT.ofList [(0,.d (strs a)),(1,.d (strs b)),(5,.d (.int .i64 i))],[],[]⟩) (fun i=>i≤a.length∧a.take i=b.take i) (fun i=>a.length-i) 0 ⟨Nat.zero_le _,rfl⟩ (weak_of (by repeat' (first|exact trivial|refine⟨rfl,?_⟩))) (fun i hi=>?_)
  rcases Nat.lt_or_ge i a.length with hlt|hge
  ·obtain⟨x,hx⟩:=get_ok hlt
   obtain⟨y,hy⟩:=get_ok (show i<b.length by omega)
   by_cases hxy:x=y
   ·subst hxy
    have ht:a.take (i+1)=b.take (i+1):=by rw [List.take_add_one,List.take_add_one,hi.2,hx,hy]
    repeat' (first|refine Yg ?_|refine Yq ?_|(refine oB (frz:=[]) Yo ?_ ?_<;>intro h<;>first|(exfalso;simp at h;first|done|omega)|skip)|(refine eB ?_ ?_<;>intro h<;>first|(exfalso;simp at h;first|done|omega)|skip)|refine oX (frz:=[]) Yo ?_|refine oS ?_|refine Yn ?_|refine Yk ?_|refine cT ?_|refine cF ?_|refine Yb ?_|refine Ye ?_|refine Yd (frz:=[]) Yo (by kernel_rfl) ?_|refine eX ?_|refine eS ?_|refine eN ?_|refine oX (frz:=[]) (v:=.d (.ep [.str x])) Yo ?_ (hf:=(by first|(simp [inB]<;>fail)|(simp [inB];omega))) (he:=(by first|(simp [List.getD_eq_getElem?_getD,cellsD,hx]<;>fail)|fail))|refine eX (v:=.d (.ep [.str x])) ?_ (hf:=(by first|(simp [inB]<;>fail)|(simp [inB];omega))) (he:=(by first|(simp [List.getD_eq_getElem?_getD,cellsD,hx]<;>fail)|fail))|refine oX (frz:=[]) (v:=.d (.ep [.str x])) Yo ?_ (hf:=(by first|(simp [inB]<;>fail)|(simp [inB];omega))) (he:=(by first|(simp [List.getD_eq_getElem?_getD,cellsD,hy]<;>fail)|fail))|refine eX (v:=.d (.ep [.str x])) ?_ (hf:=(by first|(simp [inB]<;>fail)|(simp [inB];omega))) (he:=(by first|(simp [List.getD_eq_getElem?_getD,cellsD,hy]<;>fail)|fail))|(refine Yt ?_;(first|refine rB ?_|refine rI ?_|refine rA ?_|refine rII ?_|refine rSI ?_|refine rT ?_|refine rS ?_);first|done|(skip))|(exact⟨i+1,⟨hlt,ht⟩,by omega,weak_of (by repeat' (first|exact trivial|refine⟨rfl,?_⟩|refine⟨(inc_get (k:=i) (by kernel_rfl) (by omega)),?_⟩))⟩)|((exfalso;first|(simp_all<;>fail)|(simp_all;omega)))|fail)
   ·have hne:a≠b:=fun e=>by subst e;rw [hx] at hy;cases hy;exact hxy rfl
    rw [decide_eq_false hne]
    repeat' (first|refine Yg ?_|refine Yq ?_|(refine oB (frz:=[]) Yo ?_ ?_<;>intro h<;>first|(exfalso;simp at h;first|done|omega)|skip)|(refine eB ?_ ?_<;>intro h<;>first|(exfalso;simp at h;first|done|omega)|skip)|refine oX (frz:=[]) Yo ?_|refine oS ?_|refine Yn ?_|refine Yk ?_|refine cT ?_|refine cF ?_|refine Yb ?_|refine Ye ?_|refine Yd (frz:=[]) Yo (by kernel_rfl) ?_|refine eX ?_|refine eS ?_|refine eN ?_|refine oX (frz:=[]) (v:=.d (.ep [.str x])) Yo ?_ (hf:=(by first|(simp [inB]<;>fail)|(simp [inB];omega))) (he:=(by first|(simp [List.getD_eq_getElem?_getD,cellsD,hx]<;>fail)|fail))|refine eX (v:=.d (.ep [.str x])) ?_ (hf:=(by first|(simp [inB]<;>fail)|(simp [inB];omega))) (he:=(by first|(simp [List.getD_eq_getElem?_getD,cellsD,hx]<;>fail)|fail))|refine oX (frz:=[]) (v:=.d (.ep [.str y])) Yo ?_ (hf:=(by first|(simp [inB]<;>fail)|(simp [inB];omega))) (he:=(by first|(simp [List.getD_eq_getElem?_getD,cellsD,hy]<;>fail)|fail))|refine eX (v:=.d (.ep [.str y])) ?_ (hf:=(by first|(simp [inB]<;>fail)|(simp [inB];omega))) (he:=(by first|(simp [List.getD_eq_getElem?_getD,cellsD,hy]<;>fail)|fail))|(refine Yt ?_;(first|refine rB ?_|refine rI ?_|refine rA ?_|refine rII ?_|refine rSI ?_|refine rT ?_|refine rS ?_);first|done|(rfl))|((exfalso;first|(simp_all<;>fail)|(simp_all;omega)))|fail)
  ·have hie:i=a.length:=by have:=hi.1;omega
   have hab:a=b:=by have:=hi.2;rw [hie,List.take_length,hlen,List.take_length] at this;exact this
   rw [decide_eq_true hab]
   repeat' (first|refine Yg ?_|refine Yq ?_|(refine oB (frz:=[]) Yo ?_ ?_<;>intro h<;>first|(exfalso;simp at h;first|done|omega)|skip)|(refine eB ?_ ?_<;>intro h<;>first|(exfalso;simp at h;first|done|omega)|skip)|refine oX (frz:=[]) Yo ?_|refine oS ?_|refine Yn ?_|refine Yk ?_|refine cT ?_|refine cF ?_|refine Yb ?_|refine Ye ?_|refine Yd (frz:=[]) Yo (by kernel_rfl) ?_|refine eX ?_|refine eS ?_|refine eN ?_|(refine Yt ?_;(first|refine rB ?_|refine rI ?_|refine rA ?_|refine rII ?_|refine rSI ?_|refine rT ?_|refine rS ?_);first|done|(rfl))|((exfalso;first|(simp_all<;>fail)|(simp_all;omega)))|fail)
 ·have hne:a≠b:=fun e=>by subst e;exact hlen rfl
  rw [decide_eq_false hne]
  refine knownE Yo (fnAt Tryz.func93 (by kernel_rfl) (by kernel_rfl):FnAt _ _ (mkFn Tryz.f93 [])) ?_
  repeat' (first|refine Yg ?_|refine Yq ?_|(refine oB (frz:=[]) Yo ?_ ?_<;>intro h<;>first|(exfalso;simp at h;first|done|omega)|skip)|(refine eB ?_ ?_<;>intro h<;>first|(exfalso;simp at h;first|done|omega)|skip)|refine oX (frz:=[]) Yo ?_|refine oS ?_|refine Yn ?_|refine Yk ?_|refine cT ?_|refine cF ?_|refine Yb ?_|refine Ye ?_|refine Yd (frz:=[]) Yo (by kernel_rfl) ?_|refine eX ?_|refine eS ?_|refine eN ?_|(refine Yt ?_;(first|refine rB ?_|refine rI ?_|refine rA ?_|refine rII ?_|refine rSI ?_|refine rT ?_|refine rS ?_);first|done|(rfl))|((exfalso;first|(simp_all<;>fail)|(simp_all;omega)))|fail)
theorem intsR9 (a b:List Int) (hal:a.length≤1099511627776):KnownCall Tryz.prog 94 [ints a,ints b] (.d (.bool (decide (a=b)))):=by
 by_cases hlen:a.length=b.length
 ·refine knownE Yo (fnAt Tryz.func94 (by kernel_rfl) (by kernel_rfl):FnAt _ _ (mkFn Tryz.f94 [])) ?_
  repeat' (first|refine Yg ?_|refine Yq ?_|(refine oB (frz:=[]) Yo ?_ ?_<;>intro h<;>first|(exfalso;simp at h;first|done|omega)|skip)|(refine eB ?_ ?_<;>intro h<;>first|(exfalso;simp at h;first|done|omega)|skip)|refine oX (frz:=[]) Yo ?_|refine oS ?_|refine Yn ?_|refine Yk ?_|refine cT ?_|refine cF ?_|refine Yb ?_|refine Ye ?_|refine Yd (frz:=[]) Yo (by kernel_rfl) ?_|refine eX ?_|refine eS ?_|refine eN ?_|(refine Yt ?_;(first|refine rB ?_|refine rI ?_|refine rA ?_|refine rII ?_|refine rSI ?_|refine rT ?_|refine rS ?_);first|done|(skip))|((exfalso;first|(simp_all<;>fail)|(simp_all;omega)))|fail)
  refine Run.loop (fun i:Nat=>⟨PT.ofList [(0,.d (ints a)),(1,.d (ints b)),(5,.d (.int .i64 i))],[],[]⟩) (fun i=>i≤a.length∧a.take i=b.take i) (fun i=>a.length-i) 0 ⟨Nat.zero_le _,rfl⟩ (weak_of (by repeat' (first|exact trivial|refine⟨rfl,?_⟩))) (fun i hi=>?_)
  rcases Nat.lt_or_ge i a.length with hlt|hge
  ·obtain⟨x,hx⟩:=get_ok hlt
   obtain⟨y,hy⟩:=get_ok (show i<b.length by omega)
   by_cases hxy:x=y
   ·subst hxy
    have ht:a.take (i+1)=b.take (i+1):=by rw [List.take_add_one,List.take_add_one,hi.2,hx,hy]
    repeat' (first|refine Yg ?_|refine Yq ?_|(refine oB (frz:=[]) Yo ?_ ?_<;>intro h<;>first|(exfalso;simp at h;first|done|omega)|skip)|(refine eB ?_ ?_<;>intro h<;>first|(exfalso;simp at h;first|done|omega)|skip)|refine oX (frz:=[]) Yo ?_|refine oS ?_|refine Yn ?_|refine Yk ?_|refine cT ?_|refine cF ?_|refine Yb ?_|refine Ye ?_|refine Yd (frz:=[]) Yo (by kernel_rfl) ?_|refine eX ?_|refine eS ?_|refine eN ?_|refine oX (frz:=[]) (v:=.d (.ep [.int .i64 x])) Yo ?_ (hf:=(by first|(simp [inB]<;>fail)|(simp [inB];omega))) (he:=(by first|(simp [List.getD_eq_getElem?_getD,cellsD,hx]<;>fail)|fail))|refine eX (v:=.d (.ep [.int .i64 x])) ?_ (hf:=(by first|(simp [inB]<;>fail)|(simp [inB];omega))) (he:=(by first|(simp [List.getD_eq_getElem?_getD,cellsD,hx]<;>fail)|fail))|refine oX (frz:=[]) (v:=.d (.ep [.int .i64 x])) Yo ?_ (hf:=(by first|(simp [inB]<;>fail)|(simp [inB];omega))) (he:=(by first|(simp [List.getD_eq_getElem?_getD,cellsD,hy]<;>fail)|fail))|refine eX (v:=.d (.ep [.int .i64 x])) ?_ (hf:=(by first|(simp [inB]<;>fail)|(simp [inB];omega))) (he:=(by first|(simp [List.getD_eq_getElem?_getD,cellsD,hy]<;>fail)|fail))|(refine Yt ?_;(first|refine rB ?_|refine rI ?_|refine rA ?_|refine rII ?_|refine rSI ?_|refine rT ?_|refine rS ?_);first|done|(skip))|(exact⟨i+1,⟨hlt,ht⟩,by omega,weak_of (by repeat' (first|exact trivial|refine⟨rfl,?_⟩|refine⟨(inc_get (k:=i) (by kernel_rfl) (by omega)),?_⟩))⟩)|((exfalso;first|(simp_all<;>fail)|(simp_all;omega)))|fail)
   ·have hne:a≠b:=fun e=>by subst e;rw [hx] at hy;cases hy;exact hxy rfl
    rw [decide_eq_false hne]
    repeat' (first|refine Yg ?_|refine Yq ?_|(refine oB (frz:=[]) Yo ?_ ?_<;>intro h<;>first|(exfalso;simp at h;first|done|omega)|skip)|(refine eB ?_ ?_<;>intro h<;>first|(exfalso;simp at h;first|done|omega)|skip)|refine oX (frz:=[]) Yo ?_|refine oS ?_|refine Yn ?_|refine Yk ?_|refine cT ?_|refine cF ?_|refine Yb ?_|refine Ye ?_|refine Yd (frz:=[]) Yo (by kernel_rfl) ?_|refine eX ?_|refine eS ?_|refine eN ?_|refine oX (frz:=[]) (v:=.d (.ep [.int .i64 x])) Yo ?_ (hf:=(by first|(simp [inB]<;>fail)|(simp [inB];omega))) (he:=(by first|(simp [List.getD_eq_getElem?_getD,cellsD,hx]<;>fail)|fail))|refine eX (v:=.d (.ep [.int .i64 x])) ?_ (hf:=(by first|(simp [inB]<;>fail)|(simp [inB];omega))) (he:=(by first|(simp [List.getD_eq_getElem?_getD,cellsD,hx]<;>fail)|fail))|refine oX (frz:=[]) (v:=.d (.ep [.int .i64 y])) Yo ?_ (hf:=(by first|(simp [inB]<;>fail)|(simp [inB];omega))) (he:=(by first|(simp [List.getD_eq_getElem?_getD,cellsD,hy]<;>fail)|fail))|refine eX (v:=.d (.ep [.int .i64 y])) ?_ (hf:=(by first|(simp [inB]<;>fail)|(simp [inB];omega))) (he:=(by first|(simp [List.getD_eq_getElem?_getD,cellsD,hy]<;>fail)|fail))|(refine Yt ?_;(first|refine rB ?_|refine rI ?_|refine rA ?_|refine rII ?_|refine rSI ?_|refine rT ?_|refine rS ?_);first|done|(rfl))|((exfalso;first|(simp_all<;>fail)|(simp_all;omega)))|fail)
  ·have hie:i=a.length:=by have:=hi.1;omega
   have hab:a=b:=by have:=hi.2;rw [hie,List.take_length,hlen,List.take_length] at this;exact this
   rw [decide_eq_true hab]
   repeat' (first|refine Yg ?_|refine Yq ?_|(refine oB (frz:=[]) Yo ?_ ?_<;>intro h<;>first|(exfalso;simp at h;first|done|omega)|skip)|(refine eB ?_ ?_<;>intro h<;>first|(exfalso;simp at h;first|done|omega)|skip)|refine oX (frz:=[]) Yo ?_|refine oS ?_|refine Yn ?_|refine Yk ?_|refine cT ?_|refine cF ?_|refine Yb ?_|refine Ye ?_|refine Yd (frz:=[]) Yo (by kernel_rfl) ?_|refine eX ?_|refine eS ?_|refine eN ?_|(refine Yt ?_;(first|refine rB ?_|refine rI ?_|refine rA ?_|refine rII ?_|refine rSI ?_|refine rT ?_|refine rS ?_);first|done|(rfl))|((exfalso;first|(simp_all<;>fail)|(simp_all;omega)))|fail)
 ·have hne:a≠b:=fun e=>by subst e;exact hlen rfl
  rw [decide_eq_false hne]
  refine knownE Yo (fnAt Tryz.func94 (by kernel_rfl) (by kernel_rfl):FnAt _ _ (mkFn Tryz.f94 [])) ?_
  repeat' (first|refine Yg ?_|refine Yq ?_|(refine oB (frz:=[]) Yo ?_ ?_<;>intro h<;>first|(exfalso;simp at h;first|done|omega)|skip)|(refine eB ?_ ?_<;>intro h<;>first|(exfalso;simp at h;first|done|omega)|skip)|refine oX (frz:=[]) Yo ?_|refine oS ?_|refine Yn ?_|refine Yk ?_|refine cT ?_|refine cF ?_|refine Yb ?_|refine Ye ?_|refine Yd (frz:=[]) Yo (by kernel_rfl) ?_|refine eX ?_|refine eS ?_|refine eN ?_|(refine Yt ?_;(first|refine rB ?_|refine rI ?_|refine rA ?_|refine rII ?_|refine rSI ?_|refine rT ?_|refine rS ?_);first|done|(rfl))|((exfalso;first|(simp_all<;>fail)|(simp_all;omega)))|fail)
theorem equalS (a b:List (List Nat)) (hal:a.length≤1099511627776):KnownCall Tryz.prog 86 [strs a,strs b] (.d (.bool (decide (a=b)))):=by
 by_cases hlen:a.length=b.length
 ·refine knownE Yo (fnAt Tryz.func86 (by kernel_rfl) (by kernel_rfl):FnAt _ _ (mkFn Tryz.f86 [])) ?_
  repeat' (first|refine Yg ?_|refine Yq ?_|(refine oB (frz:=[]) Yo ?_ ?_<;>intro h<;>first|(exfalso;simp at h;first|done|omega)|skip)|(refine eB ?_ ?_<;>intro h<;>first|(exfalso;simp at h;first|done|omega)|skip)|refine oX (frz:=[]) Yo ?_|refine oS ?_|refine Yn ?_|refine Yk ?_|refine cT ?_|refine cF ?_|refine Yb ?_|refine Ye ?_|refine Yd (frz:=[]) Yo (by kernel_rfl) ?_|refine eX ?_|refine eS ?_|refine eN ?_|(refine Yt ?_;(first|refine rB ?_|refine rI ?_|refine rA ?_|refine rII ?_|refine rSI ?_|refine rT ?_|refine rS ?_);first|done|(skip))|((exfalso;first|(simp_all<;>fail)|(simp_all;omega)))|fail)
  refine Run.loop (fun i:Nat=>⟨PT.ofList [(0,.d (strs a)),(1,.d (strs b)),(12,.d (.int .i64 (a.map DV.str).length)),(13,.d (.int .i64 i))],[],[]⟩) (fun i=>i≤a.length∧a.take i=b.take i) (fun i=>a.length-i) 0 ⟨Nat.zero_le _,rfl⟩ (weak_of (by repeat' (first|exact trivial|refine⟨rfl,?_⟩))) (fun i hi=>?_)
  rcases Nat.lt_or_ge i a.length with hlt|hge
  ·obtain⟨x,hx⟩:=get_ok hlt
   obtain⟨y,hy⟩:=get_ok (show i<b.length by omega)
   by_cases hxy:x=y
   ·subst hxy
    have ht:a.take (i+1)=b.take (i+1):=by rw [List.take_add_one,List.take_add_one,hi.2,hx,hy]
    repeat' (first|refine Yg ?_|refine Yq ?_|(refine oB (frz:=[]) Yo ?_ ?_<;>intro h<;>first|(exfalso;simp at h;first|done|omega)|skip)|(refine eB ?_ ?_<;>intro h<;>first|(exfalso;simp at h;first|done|omega)|skip)|refine oX (frz:=[]) Yo ?_|refine oS ?_|refine Yn ?_|refine Yk ?_|refine cT ?_|refine cF ?_|refine Yb ?_|refine Ye ?_|refine Yd (frz:=[]) Yo (by kernel_rfl) ?_|refine eX ?_|refine eS ?_|refine eN ?_|refine oX (frz:=[]) (v:=.d (.ep [.str x])) Yo ?_ (hf:=(by first|(simp [inB]<;>fail)|(simp [inB];omega))) (he:=(by first|(simp [List.getD_eq_getElem?_getD,cellsD,hx]<;>fail)|fail))|refine eX (v:=.d (.ep [.str x])) ?_ (hf:=(by first|(simp [inB]<;>fail)|(simp [inB];omega))) (he:=(by first|(simp [List.getD_eq_getElem?_getD,cellsD,hx]<;>fail)|fail))|refine oX (frz:=[]) (v:=.d (.ep [.str x])) Yo ?_ (hf:=(by first|(simp [inB]<;>fail)|(simp [inB];omega))) (he:=(by first|(simp [List.getD_eq_getElem?_getD,cellsD,hy]<;>fail)|fail))|refine eX (v:=.d (.ep [.str x])) ?_ (hf:=(by first|(simp [inB]<;>fail)|(simp [inB];omega))) (he:=(by first|(simp [List.getD_eq_getElem?_getD,cellsD,hy]<;>fail)|fail))|(refine Yt ?_;(first|refine rB ?_|refine rI ?_|refine rA ?_|refine rII ?_|refine rSI ?_|refine rT ?_|refine rS ?_);first|done|(skip))|(exact⟨i+1,⟨hlt,ht⟩,by omega,weak_of (by repeat' (first|exact trivial|refine⟨rfl,?_⟩|refine⟨(inc_get (k:=i) (by kernel_rfl) (by omega)),?_⟩))⟩)|((exfalso;first|(simp_all<;>fail)|(simp_all;omega)))|fail)
   ·have hne:a≠b:=fun e=>by subst e;rw [hx] at hy;cases hy;exact hxy rfl
    rw [decide_eq_false hne]
    repeat' (first|refine Yg ?_|refine Yq ?_|(refine oB (frz:=[]) Yo ?_ ?_<;>intro h<;>first|(exfalso;simp at h;first|done|omega)|skip)|(refine eB ?_ ?_<;>intro h<;>first|(exfalso;simp at h;first|done|omega)|skip)|refine oX (frz:=[]) Yo ?_|refine oS ?_|refine Yn ?_|refine Yk ?_|refine cT ?_|refine cF ?_|refine Yb ?_|refine Ye ?_|refine Yd (frz:=[]) Yo (by kernel_rfl) ?_|refine eX ?_|refine eS ?_|refine eN ?_|refine oX (frz:=[]) (v:=.d (.ep [.str x])) Yo ?_ (hf:=(by first|(simp [inB]<;>fail)|(simp [inB];omega))) (he:=(by first|(simp [List.getD_eq_getElem?_getD,cellsD,hx]<;>fail)|fail))|refine eX (v:=.d (.ep [.str x])) ?_ (hf:=(by first|(simp [inB]<;>fail)|(simp [inB];omega))) (he:=(by first|(simp [List.getD_eq_getElem?_getD,cellsD,hx]<;>fail)|fail))|refine oX (frz:=[]) (v:=.d (.ep [.str y])) Yo ?_ (hf:=(by first|(simp [inB]<;>fail)|(simp [inB];omega))) (he:=(by first|(simp [List.getD_eq_getElem?_getD,cellsD,hy]<;>fail)|fail))|refine eX (v:=.d (.ep [.str y])) ?_ (hf:=(by first|(simp [inB]<;>fail)|(simp [inB];omega))) (he:=(by first|(simp [List.getD_eq_getElem?_getD,cellsD,hy]<;>fail)|fail))|(refine Yt ?_;(first|refine rB ?_|refine rI ?_|refine rA ?_|refine rII ?_|refine rSI ?_|refine rT ?_|refine rS ?_);first|done|(rfl))|((exfalso;first|(simp_all<;>fail)|(simp_all;omega)))|fail)
  ·have hie:i=a.length:=by have:=hi.1;omega
   have hab:a=b:=by have:=hi.2;rw [hie,List.take_length,hlen,List.take_length] at this;exact this
   rw [decide_eq_true hab]
   repeat' (first|refine Yg ?_|refine Yq ?_|(refine oB (frz:=[]) Yo ?_ ?_<;>intro h<;>first|(exfalso;simp at h;first|done|omega)|skip)|(refine eB ?_ ?_<;>intro h<;>first|(exfalso;simp at h;first|done|omega)|skip)|refine oX (frz:=[]) Yo ?_|refine oS ?_|refine Yn ?_|refine Yk ?_|refine cT ?_|refine cF ?_|refine Yb ?_|refine Ye ?_|refine Yd (frz:=[]) Yo (by kernel_rfl) ?_|refine eX ?_|refine eS ?_|refine eN ?_|(refine Yt ?_;(first|refine rB ?_|refine rI ?_|refine rA ?_|refine rII ?_|refine rSI ?_|refine rT ?_|refine rS ?_);first|done|(rfl))|((exfalso;first|(simp_all<;>fail)|(simp_all;omega)))|fail)
 ·have hne:a≠b:=fun e=>by subst e;exact hlen rfl
  rw [decide_eq_false hne]
  refine knownE Yo (fnAt Tryz.func86 (by kernel_rfl) (by kernel_rfl):FnAt _ _ (mkFn Tryz.f86 [])) ?_
  repeat' (first|refine Yg ?_|refine Yq ?_|(refine oB (frz:=[]) Yo ?_ ?_<;>intro h<;>first|(exfalso;simp at h;first|done|omega)|skip)|(refine eB ?_ ?_<;>intro h<;>first|(exfalso;simp at h;first|done|omega)|skip)|refine oX (frz:=[]) Yo ?_|refine oS ?_|refine Yn ?_|refine Yk ?_|refine cT ?_|refine cF ?_|refine Yb ?_|refine Ye ?_|refine Yd (frz:=[]) Yo (by kernel_rfl) ?_|refine eX ?_|refine eS ?_|refine eN ?_|(refine Yt ?_;(first|refine rB ?_|refine rI ?_|refine rA ?_|refine rII ?_|refine rSI ?_|refine rT ?_|refine rS ?_);first|done|(rfl))|((exfalso;first|(simp_all<;>fail)|(simp_all;omega)))|fail)
theorem equalI (a b:List Int) (hal:a.length≤1099511627776):KnownCall Tryz.prog 92 [ints a,ints b] (.d (.bool (decide (a=b)))):=by
 by_cases hlen:a.length=b.length
 ·refine knownE Yo (fnAt Tryz.func92 (by kernel_rfl) (by kernel_rfl):FnAt _ _ (mkFn Tryz.f92 [])) ?_
  repeat' (first|refine Yg ?_|refine Yq ?_|(refine oB (frz:=[]) Yo ?_ ?_<;>intro h<;>first|(exfalso;simp at h;first|done|omega)|skip)|(refine eB ?_ ?_<;>intro h<;>first|(exfalso;simp at h;first|done|omega)|skip)|refine oX (frz:=[]) Yo ?_|refine oS ?_|refine Yn ?_|refine Yk ?_|refine cT ?_|refine cF ?_|refine Yb ?_|refine Ye ?_|refine Yd (frz:=[]) Yo (by kernel_rfl) ?_|refine eX ?_|refine eS ?_|refine eN ?_|(refine Yt ?_;(first|refine rB ?_|refine rI ?_|refine rA ?_|refine rII ?_|refine rSI ?_|refine rT ?_|refine rS ?_);first|done|(skip))|((exfalso;first|(simp_all<;>fail)|(simp_all;omega)))|fail)
  refine Run.loop (fun i:Nat=>⟨PT.ofList [(0,.d (ints a)),(1,.d (ints b)),(12,.d (.int .i64 (a.map (DV.int .i64)).length)),(13,.d (.int .i64 i))],[],[]⟩) (fun i=>i≤a.length∧a.take i=b.take i) (fun i=>a.length-i) 0 ⟨Nat.zero_le _,rfl⟩ (weak_of (by repeat' (first|exact trivial|refine⟨rfl,?_⟩))) (fun i hi=>?_)
  rcases Nat.lt_or_ge i a.length with hlt|hge
  ·obtain⟨x,hx⟩:=get_ok hlt
   obtain⟨y,hy⟩:=get_ok (show i<b.length by omega)
   by_cases hxy:x=y
   ·subst hxy
    have ht:a.take (i+1)=b.take (i+1):=by rw [List.take_add_one,List.take_add_one,hi.2,hx,hy]
    repeat' (first|refine Yg ?_|refine Yq ?_|(refine oB (frz:=[]) Yo ?_ ?_<;>intro h<;>first|(exfalso;simp at h;first|done|omega)|skip)|(refine eB ?_ ?_<;>intro h<;>first|(exfalso;simp at h;first|done|omega)|skip)|refine oX (frz:=[]) Yo ?_|refine oS ?_|refine Yn ?_|refine Yk ?_|refine cT ?_|refine cF ?_|refine Yb ?_|refine Ye ?_|refine Yd (frz:=[]) Yo (by kernel_rfl) ?_|refine eX ?_|refine eS ?_|refine eN ?_|refine oX (frz:=[]) (v:=.d (.ep [.int .i64 x])) Yo ?_ (hf:=(by first|(simp [inB]<;>fail)|(simp [inB];omega))) (he:=(by first|(simp [List.getD_eq_getElem?_getD,cellsD,hx]<;>fail)|fail))|refine eX (v:=.d (.ep [.int .i64 x])) ?_ (hf:=(by first|(simp [inB]<;>fail)|(simp [inB];omega))) (he:=(by first|(simp [List.getD_eq_getElem?_getD,cellsD,hx]<;>fail)|fail))|refine oX (frz:=[]) (v:=.d (.ep [.int .i64 x])) Yo ?_ (hf:=(by first|(simp [inB]<;>fail)|(simp [inB];omega))) (he:=(by first|(simp [List.getD_eq_getElem?_getD,cellsD,hy]<;>fail)|fail))|refine eX (v:=.d (.ep [.int .i64 x])) ?_ (hf:=(by first|(simp [inB]<;>fail)|(simp [inB];omega))) (he:=(by first|(simp [List.getD_eq_getElem?_getD,cellsD,hy]<;>fail)|fail))|(refine Yt ?_;(first|refine rB ?_|refine rI ?_|refine rA ?_|refine rII ?_|refine rSI ?_|refine rT ?_|refine rS ?_);first|done|(skip))|(exact⟨i+1,⟨hlt,ht⟩,by omega,weak_of (by repeat' (first|exact trivial|refine⟨rfl,?_⟩|refine⟨(inc_get (k:=i) (by kernel_rfl) (by omega)),?_⟩))⟩)|((exfalso;first|(simp_all<;>fail)|(simp_all;omega)))|fail)
   ·have hne:a≠b:=fun e=>by subst e;rw [hx] at hy;cases hy;exact hxy rfl
    rw [decide_eq_false hne]
    repeat' (first|refine Yg ?_|refine Yq ?_|(refine oB (frz:=[]) Yo ?_ ?_<;>intro h<;>first|(exfalso;simp at h;first|done|omega)|skip)|(refine eB ?_ ?_<;>intro h<;>first|(exfalso;simp at h;first|done|omega)|skip)|refine oX (frz:=[]) Yo ?_|refine oS ?_|refine Yn ?_|refine Yk ?_|refine cT ?_|refine cF ?_|refine Yb ?_|refine Ye ?_|refine Yd (frz:=[]) Yo (by kernel_rfl) ?_|refine eX ?_|refine eS ?_|refine eN ?_|refine oX (frz:=[]) (v:=.d (.ep [.int .i64 x])) Yo ?_ (hf:=(by first|(simp [inB]<;>fail)|(simp [inB];omega))) (he:=(by first|(simp [List.getD_eq_getElem?_getD,cellsD,hx]<;>fail)|fail))|refine eX (v:=.d (.ep [.int .i64 x])) ?_ (hf:=(by first|(simp [inB]<;>fail)|(simp [inB];omega))) (he:=(by first|(simp [List.getD_eq_getElem?_getD,cellsD,hx]<;>fail)|fail))|refine oX (frz:=[]) (v:=.d (.ep [.int .i64 y])) Yo ?_ (hf:=(by first|(simp [inB]<;>fail)|(simp [inB];omega))) (he:=(by first|(simp [List.getD_eq_getElem?_getD,cellsD,hy]<;>fail)|fail))|refine eX (v:=.d (.ep [.int .i64 y])) ?_ (hf:=(by first|(simp [inB]<;>fail)|(simp [inB];omega))) (he:=(by first|(simp [List.getD_eq_getElem?_getD,cellsD,hy]<;>fail)|fail))|(refine Yt ?_;(first|refine rB ?_|refine rI ?_|refine rA ?_|refine rII ?_|refine rSI ?_|refine rT ?_|refine rS ?_);first|done|(rfl))|((exfalso;first|(simp_all<;>fail)|(simp_all;omega)))|fail)
  ·have hie:i=a.length:=by have:=hi.1;omega
   have hab:a=b:=by have:=hi.2;rw [hie,List.take_length,hlen,List.take_length] at this;exact this
   rw [decide_eq_true hab]
   repeat' (first|refine Yg ?_|refine Yq ?_|(refine oB (frz:=[]) Yo ?_ ?_<;>intro h<;>first|(exfalso;simp at h;first|done|omega)|skip)|(refine eB ?_ ?_<;>intro h<;>first|(exfalso;simp at h;first|done|omega)|skip)|refine oX (frz:=[]) Yo ?_|refine oS ?_|refine Yn ?_|refine Yk ?_|refine cT ?_|refine cF ?_|refine Yb ?_|refine Ye ?_|refine Yd (frz:=[]) Yo (by kernel_rfl) ?_|refine eX ?_|refine eS ?_|refine eN ?_|(refine Yt ?_;(first|refine rB ?_|refine rI ?_|refine rA ?_|refine rII ?_|refine rSI ?_|refine rT ?_|refine rS ?_);first|done|(rfl))|((exfalso;first|(simp_all<;>fail)|(simp_all;omega)))|fail)
 ·have hne:a≠b:=fun e=>by subst e;exact hlen rfl
  rw [decide_eq_false hne]
  refine knownE Yo (fnAt Tryz.func92 (by kernel_rfl) (by kernel_rfl):FnAt _ _ (mkFn Tryz.f92 [])) ?_
  repeat' (first|refine Yg ?_|refine Yq ?_|(refine oB (frz:=[]) Yo ?_ ?_<;>intro h<;>first|(exfalso;simp at h;first|done|omega)|skip)|(refine eB ?_ ?_<;>intro h<;>first|(exfalso;simp at h;first|done|omega)|skip)|refine oX (frz:=[]) Yo ?_|refine oS ?_|refine Yn ?_|refine Yk ?_|refine cT ?_|refine cF ?_|refine Yb ?_|refine Ye ?_|refine Yd (frz:=[]) Yo (by kernel_rfl) ?_|refine eX ?_|refine eS ?_|refine eN ?_|(refine Yt ?_;(first|refine rB ?_|refine rI ?_|refine rA ?_|refine rII ?_|refine rSI ?_|refine rT ?_|refine rS ?_);first|done|(rfl))|((exfalso;first|(simp_all<;>fail)|(simp_all;omega)))|fail)
theorem equalFuncRules (a b:List SRule) (hal:a.length≤1099511627776) (F:FuncId) (p:SRule→SRule→Bool) (hp:∀ x ∈ a,∀ y ∈ b,KnownCall Tryz.prog F [encR x,encR y] (.d (.bool (p x y)))) :
  KnownCall Tryz.prog 87 [.sl 2 (a.map encR),.sl 2 (b.map encR),.fn (.func F) [] []] (.d (.bool (smL p a b))):=by
 by_cases hlen:a.length=b.length
 ·refine knownE Yo (fnAt Tryz.func87 (by kernel_rfl) (by kernel_rfl):FnAt _ _ (mkFn Tryz.f87 [])) ?_
  repeat' (first|refine Yg ?_|refine Yq ?_|(refine oB (frz:=[]) Yo ?_ ?_<;>intro h<;>first|(exfalso;simp at h;first|done|omega)|skip)|(refine eB ?_ ?_<;>intro h<;>first|(exfalso;simp at h;first|done|omega)|skip)|refine oX (frz:=[]) Yo ?_|refine oS ?_|refine Yn ?_|refine Yk ?_|refine cT ?_|refine cF ?_|refine Yb ?_|refine Ye ?_|refine Yd (frz:=[]) Yo (by kernel_rfl) ?_|refine eX ?_|refine eS ?_|refine eN ?_|(refine Yt ?_;(first|refine rB ?_|refine rI ?_|refine rA ?_|refine rII ?_|refine rSI ?_|refine rT ?_|refine rS ?_);first|done|(skip))|((exfalso;first|(simp_all<;>fail)|(simp_all;omega)))|fail)
  refine Run.loopT (fun i:Nat=>⟨PT.ofList [(1,.d (.sl 2 (b.map encR))),(2,.d (.fn (.func F) [] [])),(15,.d (.sl 2 (a.map encR))),(16,.d (.int .i64 (a.map encR).length)),(17,.d (.int .i64 i))],[],[]⟩) (fun i=>i≤a.length∧∀ j:Nat,j<i→∀ u v,a[j]?=some u→b[j]?=some v→p u v=true) (fun i=>a.length-i) 0 ⟨Nat.zero_le _,fun j hj=>by omega⟩ (tidy_of (objs:=_) _ 0 (by rfl) rfl (by repeat' (first|exact trivial|refine⟨(Or.inl rfl),?_⟩|refine⟨(Or.inr rfl),?_⟩|fail)) (by repeat' (first|exact trivial|refine⟨rfl,?_⟩|fail)) rfl rfl) (fun i hi=>?_)
  rcases Nat.lt_or_ge i a.length with hlt|hge
  ·obtain⟨x,hx⟩:=get_ok hlt
   obtain⟨y,hy⟩:=get_ok (show i<b.length by omega)
   have hc:=hp x (List.mem_of_getElem? hx) y (List.mem_of_getElem? hy)
   cases hxy:p x y with
   |true =>
    rw [hxy] at hc
    have ht:=upTo_succ hi.2 hx hy hxy
    repeat' (first|refine Yg ?_|refine Yq ?_|(refine oB (frz:=[]) Yo ?_ ?_<;>intro h<;>first|(exfalso;simp at h;first|done|omega)|skip)|(refine eB ?_ ?_<;>intro h<;>first|(exfalso;simp at h;first|done|omega)|skip)|refine oX (frz:=[]) Yo ?_|refine oS ?_|refine Yn ?_|refine Yk ?_|refine cT ?_|refine cF ?_|refine Yb ?_|refine Ye ?_|refine Yd (frz:=[]) Yo (by kernel_rfl) ?_|refine eX ?_|refine eS ?_|refine eN ?_|refine oX (frz:=[]) (v:=.d (.ep [.str x.name,Go.Av.alts x.alts])) Yo ?_ (hf:=(by first|(simp [inB]<;>fail)|(simp [inB];omega))) (he:=(by first|(simp [List.getD_eq_getElem?_getD,cellsD,hx,encR]<;>fail)|fail))|refine eX (v:=.d (.ep [.str x.name,Go.Av.alts x.alts])) ?_ (hf:=(by first|(simp [inB]<;>fail)|(simp [inB];omega))) (he:=(by first|(simp [List.getD_eq_getElem?_getD,cellsD,hx,encR]<;>fail)|fail))|refine oX (frz:=[]) (v:=.d (.ep [.str y.name,Go.Av.alts y.alts])) Yo ?_ (hf:=(by first|(simp [inB]<;>fail)|(simp [inB];omega))) (he:=(by first|(simp [List.getD_eq_getElem?_getD,cellsD,hy,encR]<;>fail)|fail))|refine eX (v:=.d (.ep [.str y.name,Go.Av.alts y.alts])) ?_ (hf:=(by first|(simp [inB]<;>fail)|(simp [inB];omega))) (he:=(by first|(simp [List.getD_eq_getElem?_getD,cellsD,hy,encR]<;>fail)|fail))|refine oC (hc) ?_|refine eC (hc) ?_|(refine Yt ?_;(first|refine rB ?_|refine rI ?_|refine rA ?_|refine rII ?_|refine rSI ?_|refine rT ?_|refine rS ?_);first|done|(skip))|(exact⟨i+1,⟨hlt,ht⟩,by omega,(tidy_of (objs:=_) _ 0 (by rfl) rfl (by repeat' (first|exact trivial|refine⟨(Or.inl rfl),?_⟩|refine⟨(Or.inl (inc_get (k:=i) (by kernel_rfl) (by omega))),?_⟩|refine⟨(Or.inr rfl),?_⟩|fail)) (by repeat' (first|exact trivial|refine⟨rfl,?_⟩|fail)) rfl rfl)⟩)|((exfalso;first|(simp_all<;>fail)|(simp_all;omega)))|fail)
   |false =>
    rw [hxy] at hc
    rw [smL_at hx hy hxy]
    repeat' (first|refine Yg ?_|refine Yq ?_|(refine oB (frz:=[]) Yo ?_ ?_<;>intro h<;>first|(exfalso;simp at h;first|done|omega)|skip)|(refine eB ?_ ?_<;>intro h<;>first|(exfalso;simp at h;first|done|omega)|skip)|refine oX (frz:=[]) Yo ?_|refine oS ?_|refine Yn ?_|refine Yk ?_|refine cT ?_|refine cF ?_|refine Yb ?_|refine Ye ?_|refine Yd (frz:=[]) Yo (by kernel_rfl) ?_|refine eX ?_|refine eS ?_|refine eN ?_|refine oX (frz:=[]) (v:=.d (.ep [.str x.name,Go.Av.alts x.alts])) Yo ?_ (hf:=(by first|(simp [inB]<;>fail)|(simp [inB];omega))) (he:=(by first|(simp [List.getD_eq_getElem?_getD,cellsD,hx,encR]<;>fail)|fail))|refine eX (v:=.d (.ep [.str x.name,Go.Av.alts x.alts])) ?_ (hf:=(by first|(simp [inB]<;>fail)|(simp [inB];omega))) (he:=(by first|(simp [List.getD_eq_getElem?_getD,cellsD,hx,encR]<;>fail)|fail))|refine oX (frz:=[]) (v:=.d (.ep [.str y.name,Go.Av.alts y.alts])) Yo ?_ (hf:=(by first|(simp [inB]<;>fail)|(simp [inB];omega))) (he:=(by first|(simp [List.getD_eq_getElem?_getD,cellsD,hy,encR]<;>fail)|fail))|refine eX (v:=.d (.ep [.str y.name,Go.Av.alts y.alts])) ?_ (hf:=(by first|(simp [inB]<;>fail)|(simp [inB];omega))) (he:=(by first|(simp [List.getD_eq_getElem?_getD,cellsD,hy,encR]<;>fail)|fail))|refine oC (hc) ?_|refine eC (hc) ?_|(refine Yt ?_;(first|refine rB ?_|refine rI ?_|refine rA ?_|refine rII ?_|refine rSI ?_|refine rT ?_|refine rS ?_);first|done|(rfl))|((exfalso;first|(simp_all<;>fail)|(simp_all;omega)))|fail)
  ·rw [upTo_all hlen hge hi.2]
   have hie:i=a.length:=by have:=hi.1;omega
   subst hie
   repeat' (first|refine Yg ?_|refine Yq ?_|(refine oB (frz:=[]) Yo ?_ ?_<;>intro h<;>first|(exfalso;simp at h;first|done|omega)|skip)|(refine eB ?_ ?_<;>intro h<;>first|(exfalso;simp at h;first|done|omega)|skip)|refine oX (frz:=[]) Yo ?_|refine oS ?_|refine Yn ?_|refine Yk ?_|refine cT ?_|refine cF ?_|refine Yb ?_|refine Ye ?_|refine Yd (frz:=[]) Yo (by kernel_rfl) ?_|refine eX ?_|refine eS ?_|refine eN ?_|(refine Yt ?_;(first|refine rB ?_|refine rI ?_|refine rA ?_|refine rII ?_|refine rSI ?_|refine rT ?_|refine rS ?_);first|done|(rfl))|((exfalso;first|(simp_all<;>fail)|(simp_all;omega)))|fail)
 ·rw [smL_len hlen]
  refine knownE Yo (fnAt Tryz.func87 (by kernel_rfl) (by kernel_rfl):FnAt _ _ (mkFn Tryz.f87 [])) ?_
  repeat' (first|refine Yg ?_|refine Yq ?_|(refine oB (frz:=[]) Yo ?_ ?_<;>intro h<;>first|(exfalso;simp at h;first|done|omega)|skip)|(refine eB ?_ ?_<;>intro h<;>first|(exfalso;simp at h;first|done|omega)|skip)|refine oX (frz:=[]) Yo ?_|refine oS ?_|refine Yn ?_|refine Yk ?_|refine cT ?_|refine cF ?_|refine Yb ?_|refine Ye ?_|refine Yd (frz:=[]) Yo (by kernel_rfl) ?_|refine eX ?_|refine eS ?_|refine eN ?_|(refine Yt ?_;(first|refine rB ?_|refine rI ?_|refine rA ?_|refine rII ?_|refine rSI ?_|refine rT ?_|refine rS ?_);first|done|(rfl))|((exfalso;first|(simp_all<;>fail)|(simp_all;omega)))|fail)
theorem equalFuncProds (a b:List GProd) (hal:a.length≤1099511627776) (F:FuncId) (p:GProd→GProd→Bool) (hp:∀ x ∈ a,∀ y ∈ b,KnownCall Tryz.prog F [encP x,encP y] (.d (.bool (p x y)))) :
  KnownCall Tryz.prog 90 [.sl 2 (a.map encP),.sl 2 (b.map encP),.fn (.func F) [] []] (.d (.bool (smL p a b))):=by
 by_cases hlen:a.length=b.length
 ·refine knownE Yo (fnAt Tryz.func90 (by kernel_rfl) (by kernel_rfl):FnAt _ _ (mkFn Tryz.f90 [])) ?_
  repeat' (first|refine Yg ?_|refine Yq ?_|(refine oB (frz:=[]) Yo ?_ ?_<;>intro h<;>first|(exfalso;simp at h;first|done|omega)|skip)|(refine eB ?_ ?_<;>intro h<;>first|(exfalso;simp at h;first|done|omega)|skip)|refine oX (frz:=[]) Yo ?_|refine oS ?_|refine Yn ?_|refine Yk ?_|refine cT ?_|refine cF ?_|refine Yb ?_|refine Ye ?_|refine Yd (frz:=[]) Yo (by kernel_rfl) ?_|refine eX ?_|refine eS ?_|refine eN ?_|(refine Yt ?_;(first|refine rB ?_|refine rI ?_|refine rA ?_|refine rII ?_|refine rSI ?_|refine rT ?_|refine rS ?_);first|done|(skip))|((exfalso;first|(simp_all<;>fail)|(simp_all;omega)))|fail)
  refine Run.loopT (fun i:Nat=>⟨PT.ofList [(1,.d (.sl 2 (b.map encP))),(2,.d (.fn (.func F) [] [])),(15,.d (.sl 2 (a.map encP))),(16,.d (.int .i64 (a.map encP).length)),(17,.d (.int .i64 i))],[],[]⟩) (fun i=>i≤a.length∧∀ j:Nat,j<i→∀ u v,a[j]?=some u→b[j]?=some v→p u v=true) (fun i=>a.length-i) 0 ⟨Nat.zero_le _,fun j hj=>by omega⟩ (tidy_of (objs:=_) _ 0 (by rfl) rfl (by repeat' (first|exact trivial|refine⟨(Or.inl rfl),?_⟩|refine⟨(Or.inr rfl),?_⟩|fail)) (by repeat' (first|exact trivial|refine⟨rfl,?_⟩|fail)) rfl rfl) (fun i hi=>?_)
  rcases Nat.lt_or_ge i a.length with hlt|hge
  ·obtain⟨x,hx⟩:=get_ok hlt
   obtain⟨y,hy⟩:=get_ok (show i<b.length by omega)
   have hc:=hp x (List.mem_of_getElem? hx) y (List.mem_of_getElem? hy)
   cases hxy:p x y with
   |true =>
    rw [hxy] at hc
    have ht:=upTo_succ hi.2 hx hy hxy
    repeat' (first|refine Yg ?_|refine Yq ?_|(refine oB (frz:=[]) Yo ?_ ?_<;>intro h<;>first|(exfalso;simp at h;first|done|omega)|skip)|(refine eB ?_ ?_<;>intro h<;>first|(exfalso;simp at h;first|done|omega)|skip)|refine oX (frz:=[]) Yo ?_|refine oS ?_|refine Yn ?_|refine Yk ?_|refine cT ?_|refine cF ?_|refine Yb ?_|refine Ye ?_|refine Yd (frz:=[]) Yo (by kernel_rfl) ?_|refine eX ?_|refine eS ?_|refine eN ?_|refine oX (frz:=[]) (v:=.d (.ep [.int .i64 x.left,ints x.right])) Yo ?_ (hf:=(by first|(simp [inB]<;>fail)|(simp [inB];omega))) (he:=(by first|(simp [List.getD_eq_getElem?_getD,cellsD,hx,encP]<;>fail)|fail))|refine eX (v:=.d (.ep [.int .i64 x.left,ints x.right])) ?_ (hf:=(by first|(simp [inB]<;>fail)|(simp [inB];omega))) (he:=(by first|(simp [List.getD_eq_getElem?_getD,cellsD,hx,encP]<;>fail)|fail))|refine oX (frz:=[]) (v:=.d (.ep [.int .i64 y.left,ints y.right])) Yo ?_ (hf:=(by first|(simp [inB]<;>fail)|(simp [inB];omega))) (he:=(by first|(simp [List.getD_eq_getElem?_getD,cellsD,hy,encP]<;>fail)|fail))|refine eX (v:=.d (.ep [.int .i64 y.left,ints y.right])) ?_ (hf:=(by first|(simp [inB]<;>fail)|(simp [inB];omega))) (he:=(by first|(simp [List.getD_eq_getElem?_getD,cellsD,hy,encP]<;>fail)|fail))|refine oC (hc) ?_|refine eC (hc) ?_|(refine Yt ?_;(first|refine rB ?_|refine rI ?_|refine rA ?_|refine rII ?_|refine rSI ?_|refine rT ?_|refine rS ?_);first|done|(skip))|(exact⟨i+1,⟨hlt,ht⟩,by omega,(tidy_of (objs:=_) _ 0 (by rfl) rfl (by repeat' (first|exact trivial|refine⟨(Or.inl rfl),?_⟩|refine⟨(Or.inl (inc_get (k:=i) (by kernel_rfl) (by omega))),?_⟩|refine⟨(Or.inr rfl),?_⟩|fail)) (by repeat' (first|exact trivial|refine⟨rfl,?_⟩|fail)) rfl rfl)⟩)|((exfalso;first|(simp_all<;>fail)|(simp_all;omega)))|fail)
   |false =>
    rw [hxy] at hc
    rw [smL_at hx hy hxy]
    repeat' (first|refine Yg ?_|refine Yq ?_|(refine oB (frz:=[]) Yo ?_ ?_<;>intro h<;>first|(exfalso;simp at h;first|done|omega)|skip)|(refine eB ?_ ?_<;>intro h<;>first|(exfalso;simp at h;first|done|omega)|skip)|refine oX (frz:=[]) Yo ?_|refine oS ?_|refine Yn ?_|refine Yk ?_|refine cT ?_|refine cF ?_|refine Yb ?_|refine Ye ?_|refine Yd (frz:=[]) Yo (by kernel_rfl) ?_|refine eX ?_|refine eS ?_|refine eN ?_|refine oX (frz:=[]) (v:=.d (.ep [.int .i64 x.left,ints x.right])) Yo ?_ (hf:=(by first|(simp [inB]<;>fail)|(simp [inB];omega))) (he:=(by first|(simp [List.getD_eq_getElem?_getD,cellsD,hx,encP]<;>fail)|fail))|refine eX (v:=.d (.ep [.int .i64 x.left,ints x.right])) ?_ (hf:=(by first|(simp [inB]<;>fail)|(simp [inB];omega))) (he:=(by first|(simp [List.getD_eq_getElem?_getD,cellsD,hx,encP]<;>fail)|fail))|refine oX (frz:=[]) (v:=.d (.ep [.int .i64 y.left,ints y.right])) Yo ?_ (hf:=(by first|(simp [inB]<;>fail)|(simp [inB];omega))) (he:=(by first|(simp [List.getD_eq_getElem?_getD,cellsD,hy,encP]<;>fail)|fail))|refine eX (v:=.d (.ep [.int .i64 y.left,ints y.right])) ?_ (hf:=(by first|(simp [inB]<;>fail)|(simp [inB];omega))) (he:=(by first|(simp [List.getD_eq_getElem?_getD,cellsD,hy,encP]<;>fail)|fail))|refine oC (hc) ?_|refine eC (hc) ?_|(refine Yt ?_;(first|refine rB ?_|refine rI ?_|refine rA ?_|refine rII ?_|refine rSI ?_|refine rT ?_|refine rS ?_);first|done|(rfl))|((exfalso;first|(simp_all<;>fail)|(simp_all;omega)))|fail)
  ·rw [upTo_all hlen hge hi.2]
   have hie:i=a.length:=by have:=hi.1;omega
   subst hie
   repeat' (first|refine Yg ?_|refine Yq ?_|(refine oB (frz:=[]) Yo ?_ ?_<;>intro h<;>first|(exfalso;simp at h;first|done|omega)|skip)|(refine eB ?_ ?_<;>intro h<;>first|(exfalso;simp at h;first|done|omega)|skip)|refine oX (frz:=[]) Yo ?_|refine oS ?_|refine Yn ?_|refine Yk ?_|refine cT ?_|refine cF ?_|refine Yb ?_|refine Ye ?_|refine Yd (frz:=[]) Yo (by kernel_rfl) ?_|refine eX ?_|refine eS ?_|refine eN ?_|(refine Yt ?_;(first|refine rB ?_|refine rI ?_|refine rA ?_|refine rII ?_|refine rSI ?_|refine rT ?_|refine rS ?_);first|done|(rfl))|((exfalso;first|(simp_all<;>fail)|(simp_all;omega)))|fail)
 ·rw [smL_len hlen]
  refine knownE Yo (fnAt Tryz.func90 (by kernel_rfl) (by kernel_rfl):FnAt _ _ (mkFn Tryz.f90 [])) ?_
  repeat' (first|refine Yg ?_|refine Yq ?_|(refine oB (frz:=[]) Yo ?_ ?_<;>intro h<;>first|(exfalso;simp at h;first|done|omega)|skip)|(refine eB ?_ ?_<;>intro h<;>first|(exfalso;simp at h;first|done|omega)|skip)|refine oX (frz:=[]) Yo ?_|refine oS ?_|refine Yn ?_|refine Yk ?_|refine cT ?_|refine cF ?_|refine Yb ?_|refine Ye ?_|refine Yd (frz:=[]) Yo (by kernel_rfl) ?_|refine eX ?_|refine eS ?_|refine eN ?_|(refine Yt ?_;(first|refine rB ?_|refine rI ?_|refine rA ?_|refine rII ?_|refine rSI ?_|refine rT ?_|refine rS ?_);first|done|(rfl))|((exfalso;first|(simp_all<;>fail)|(simp_all;omega)))|fail)
theorem equalFuncAlts (a b:List (List (List Nat))) (hal:a.length≤1099511627776) (F:FuncId) (p:(List (List Nat))→(List (List Nat))→Bool) (hp:∀ x ∈ a,∀ y ∈ b,KnownCall Tryz.prog F [strs x,strs y] (.d (.bool (p x y)))) :
  KnownCall Tryz.prog 89 [.sl 1 (a.map strs),.sl 1 (b.map strs),.fn (.func F) [] []] (.d (.bool (smL p a b))):=by
 by_cases hlen:a.length=b.length
 ·refine knownE Yo (fnAt Tryz.func89 (by kernel_rfl) (by kernel_rfl):FnAt _ _ (mkFn Tryz.f89 [])) ?_
  repeat' (first|refine Yg ?_|refine Yq ?_|(refine oB (frz:=[]) Yo ?_ ?_<;>intro h<;>first|(exfalso;simp at h;first|done|omega)|skip)|(refine eB ?_ ?_<;>intro h<;>first|(exfalso;simp at h;first|done|omega)|skip)|refine oX (frz:=[]) Yo ?_|refine oS ?_|refine Yn ?_|refine Yk ?_|refine cT ?_|refine cF ?_|refine Yb ?_|refine Ye ?_|refine Yd (frz:=[]) Yo (by kernel_rfl) ?_|refine eX ?_|refine eS ?_|refine eN ?_|(refine Yt ?_;(first|refine rB ?_|refine rI ?_|refine rA ?_|refine rII ?_|refine rSI ?_|refine rT ?_|refine rS ?_);first|done|(skip))|((exfalso;first|(simp_all<;>fail)|(simp_all;omega)))|fail)
  refine Run.loopT (fun i:Nat=>⟨PT.ofList [(1,.d (.sl 1 (b.map strs))),(2,.d (.fn (.func F) [] [])),(15,.d (.sl 1 (a.map strs))),(16,.d (.int .i64 (a.map strs).length)),(17,.d (.int .i64 i))],[],[]⟩) (fun i=>i≤a.length∧∀ j:Nat,j<i→∀ u v,a[j]?=some u→b[j]?=some v→p u v=true) (fun i=>a.length-i) 0 ⟨Nat.zero_le _,fun j hj=>by omega⟩ (tidy_of (objs:=_) _ 0 (by rfl) rfl (by repeat' (first|exact trivial|refine⟨(Or.inl rfl),?_⟩|refine⟨(Or.inr rfl),?_⟩|fail)) (by repeat' (first|exact trivial|refine⟨rfl,?_⟩|fail)) rfl rfl) (fun i hi=>?_)
  rcases Nat.lt_or_ge i a.length with hlt|hge
  ·obtain⟨x,hx⟩:=get_ok hlt
   obtain⟨y,hy⟩:=get_ok (show i<b.length by omega)
   have hc:=hp x (List.mem_of_getElem? hx) y (List.mem_of_getElem? hy)
   cases hxy:p x y with
   |true =>
    rw [hxy] at hc
    have ht:=upTo_succ hi.2 hx hy hxy
    repeat' (first|refine Yg ?_|refine Yq ?_|(refine oB (frz:=[]) Yo ?_ ?_<;>intro h<;>first|(exfalso;simp at h;first|done|omega)|skip)|(refine eB ?_ ?_<;>intro h<;>first|(exfalso;simp at h;first|done|omega)|skip)|refine oX (frz:=[]) Yo ?_|refine oS ?_|refine Yn ?_|refine Yk ?_|refine cT ?_|refine cF ?_|refine Yb ?_|refine Ye ?_|refine Yd (frz:=[]) Yo (by kernel_rfl) ?_|refine eX ?_|refine eS ?_|refine eN ?_|refine oX (frz:=[]) (v:=.d (.ep [strs x])) Yo ?_ (hf:=(by first|(simp [inB]<;>fail)|(simp [inB];omega))) (he:=(by first|(simp [List.getD_eq_getElem?_getD,cellsD,hx,strs]<;>fail)|fail))|refine eX (v:=.d (.ep [strs x])) ?_ (hf:=(by first|(simp [inB]<;>fail)|(simp [inB];omega))) (he:=(by first|(simp [List.getD_eq_getElem?_getD,cellsD,hx,strs]<;>fail)|fail))|refine oX (frz:=[]) (v:=.d (.ep [strs y])) Yo ?_ (hf:=(by first|(simp [inB]<;>fail)|(simp [inB];omega))) (he:=(by first|(simp [List.getD_eq_getElem?_getD,cellsD,hy,strs]<;>fail)|fail))|refine eX (v:=.d (.ep [strs y])) ?_ (hf:=(by first|(simp [inB]<;>fail)|(simp [inB];omega))) (he:=(by first|(simp [List.getD_eq_getElem?_getD,cellsD,hy,strs]<;>fail)|fail))|refine oC (hc) ?_|refine eC (hc) ?_|(refine Yt ?_;(first|refine rB ?_|refine rI ?_|refine rA ?_|refine rII ?_|refine rSI ?_|refine rT ?_|refine rS ?_);first|done|(skip))|(exact⟨i+1,⟨hlt,ht⟩,by omega,(tidy_of (objs:=_) _ 0 (by rfl) rfl (by repeat' (first|exact trivial|refine⟨(Or.inl rfl),?_⟩|refine⟨(Or.inl (inc_get (k:=i) (by kernel_rfl) (by omega))),?_⟩|refine⟨(Or.inr rfl),?_⟩|fail)) (by repeat' (first|exact trivial|refine⟨rfl,?_⟩|fail)) rfl rfl)⟩)|((exfalso;first|(simp_all<;>fail)|(simp_all;omega)))|fail)
   |false =>
    rw [hxy] at hc
    rw [smL_at hx hy hxy]
    repeat' (first|refine Yg ?_|refine Yq ?_|(refine oB (frz:=[]) Yo ?_ ?_<;>intro h<;>first|(exfalso;simp at h;first|done|omega)|skip)|(refine eB ?_ ?_<;>intro h<;>first|(exfalso;simp at h;first|done|omega)|skip)|refine oX (frz:=[]) Yo ?_|refine oS ?_|refine Yn ?_|refine Yk ?_|refine cT ?_|refine cF ?_|refine Yb ?_|refine Ye ?_|refine Yd (frz:=[]) Yo (by kernel_rfl) ?_|refine eX ?_|refine eS ?_|refine eN ?_|refine oX (frz:=[]) (v:=.d (.ep [strs x])) Yo ?_ (hf:=(by first|(simp [inB]<;>fail)|(simp [inB];omega))) (he:=(by first|(simp [List.getD_eq_getElem?_getD,cellsD,hx,strs]<;>fail)|fail))|refine eX (v:=.d (.ep [strs x])) ?_ (hf:=(by first|(simp [inB]<;>fail)|(simp [inB];omega))) (he:=(by first|(simp [List.getD_eq_getElem?_getD,cellsD,hx,strs]<;>fail)|fail))|refine oX (frz:=[]) (v:=.d (.ep [strs y])) Yo ?_ (hf:=(by first|(simp [inB]<;>fail)|(simp [inB];omega))) (he:=(by first|(simp [List.getD_eq_getElem?_getD,cellsD,hy,strs]<;>fail)|fail))|refine eX (v:=.d (.ep [strs y])) ?_ (hf:=(by first|(simp [inB]<;>fail)|(simp [inB];omega))) (he:=(by first|(simp [List.getD_eq_getElem?_getD,cellsD,hy,strs]<;>fail)|fail))|refine oC (hc) ?_|refine eC (hc) ?_|(refine Yt ?_;(first|refine rB ?_|refine rI ?_|refine rA ?_|refine rII ?_|refine rSI ?_|refine rT ?_|refine rS ?_);first|done|(rfl))|((exfalso;first|(simp_all<;>fail)|(simp_all;omega)))|fail)
  ·rw [upTo_all hlen hge hi.2]
   have hie:i=a.length:=by have:=hi.1;omega
   subst hie
   repeat' (first|refine Yg ?_|refine Yq ?_|(refine oB (frz:=[]) Yo ?_ ?_<;>intro h<;>first|(exfalso;simp at h;first|done|omega)|skip)|(refine eB ?_ ?_<;>intro h<;>first|(exfalso;simp at h;first|done|omega)|skip)|refine oX (frz:=[]) Yo ?_|refine oS ?_|refine Yn ?_|refine Yk ?_|refine cT ?_|refine cF ?_|refine Yb ?_|refine Ye ?_|refine Yd (frz:=[]) Yo (by kernel_rfl) ?_|refine eX ?_|refine eS ?_|refine eN ?_|(refine Yt ?_;(first|refine rB ?_|refine rI ?_|refine rA ?_|refine rII ?_|refine rSI ?_|refine rT ?_|refine rS ?_);first|done|(rfl))|((exfalso;first|(simp_all<;>fail)|(simp_all;omega)))|fail)
 ·rw [smL_len hlen]
  refine knownE Yo (fnAt Tryz.func89 (by kernel_rfl) (by kernel_rfl):FnAt _ _ (mkFn Tryz.f89 [])) ?_
  repeat' (first|refine Yg ?_|refine Yq ?_|(refine oB (frz:=[]) Yo ?_ ?_<;>intro h<;>first|(exfalso;simp at h;first|done|omega)|skip)|(refine eB ?_ ?_<;>intro h<;>first|(exfalso;simp at h;first|done|omega)|skip)|refine oX (frz:=[]) Yo ?_|refine oS ?_|refine Yn ?_|refine Yk ?_|refine cT ?_|refine cF ?_|refine Yb ?_|refine Ye ?_|refine Yd (frz:=[]) Yo (by kernel_rfl) ?_|refine eX ?_|refine eS ?_|refine eN ?_|(refine Yt ?_;(first|refine rB ?_|refine rI ?_|refine rA ?_|refine rII ?_|refine rSI ?_|refine rT ?_|refine rS ?_);first|done|(rfl))|((exfalso;first|(simp_all<;>fail)|(simp_all;omega)))|fail)
theorem sameProd1 (x y:GProd) (hx:x.right.length≤1099511627776):KnownCall Tryz.prog 91 [encP x,encP y] (.d (.bool (smP x y))):=by
 have c:=equalI x.right y.right hx
 unfold smP
 generalize decide (x.right=y.right)=b at c ⊢
 by_cases h1:x.left=y.left
 ·rw [decide_eq_true h1]
  cases b with
  |true =>
   refine knownE Yo (fnAt Tryz.func91 (by kernel_rfl) (by kernel_rfl):FnAt _ _ (mkFn Tryz.f91 [2,3])) ?_
   repeat' (first|refine Yg ?_|refine Yq ?_|(refine oB (frz:=[2,3]) Yo ?_ ?_<;>intro h<;>first|(exfalso;simp at h;first|done|omega)|skip)|(refine eB ?_ ?_<;>intro h<;>first|(exfalso;simp at h;first|done|omega)|skip)|refine oX (frz:=[2,3]) Yo ?_|refine oS ?_|refine Yn ?_|refine Yk ?_|refine cT ?_|refine cF ?_|refine Yb ?_|refine Ye ?_|refine Yd (frz:=[2,3]) Yo (by kernel_rfl) ?_|refine eX ?_|refine eS ?_|refine eN ?_|refine oC (c) ?_|refine eC (c) ?_|(refine Yt ?_;(first|refine rB ?_|refine rI ?_|refine rA ?_|refine rII ?_|refine rSI ?_|refine rT ?_|refine rS ?_);first|done|(rfl))|((exfalso;first|(simp_all<;>fail)|(simp_all;omega)))|fail)
  |false =>
   refine knownE Yo (fnAt Tryz.func91 (by kernel_rfl) (by kernel_rfl):FnAt _ _ (mkFn Tryz.f91 [2,3])) ?_
   repeat' (first|refine Yg ?_|refine Yq ?_|(refine oB (frz:=[2,3]) Yo ?_ ?_<;>intro h<;>first|(exfalso;simp at h;first|done|omega)|skip)|(refine eB ?_ ?_<;>intro h<;>first|(exfalso;simp at h;first|done|omega)|skip)|refine oX (frz:=[2,3]) Yo ?_|refine oS ?_|refine Yn ?_|refine Yk ?_|refine cT ?_|refine cF ?_|refine Yb ?_|refine Ye ?_|refine Yd (frz:=[2,3]) Yo (by kernel_rfl) ?_|refine eX ?_|refine eS ?_|refine eN ?_|refine oC (c) ?_|refine eC (c) ?_|(refine Yt ?_;(first|refine rB ?_|refine rI ?_|refine rA ?_|refine rII ?_|refine rSI ?_|refine rT ?_|refine rS ?_);first|done|(rfl))|((exfalso;first|(simp_all<;>fail)|(simp_all;omega)))|fail)
 ·rw [decide_eq_false h1]
  refine knownE Yo (fnAt Tryz.func91 (by kernel_rfl) (by kernel_rfl):FnAt _ _ (mkFn Tryz.f91 [2,3])) ?_
  repeat' (first|refine Yg ?_|refine Yq ?_|(refine oB (frz:=[2,3]) Yo ?_ ?_<;>intro h<;>first|(exfalso;simp at h;first|done|omega)|skip)|(refine eB ?_ ?_<;>intro h<;>first|(exfalso;simp at h;first|done|omega)|skip)|refine oX (frz:=[2,3]) Yo ?_|refine oS ?_|refine Yn ?_|refine Yk ?_|refine cT ?_|refine cF ?_|refine Yb ?_|refine Ye ?_|refine Yd (frz:=[2,3]) Yo (by kernel_rfl) ?_|refine eX ?_|refine eS ?_|refine eN ?_|refine oC (c) ?_|refine eC (c) ?_|(refine Yt ?_;(first|refine rB ?_|refine rI ?_|refine rA ?_|refine rII ?_|refine rSI ?_|refine rT ?_|refine rS ?_);first|done|(rfl))|((exfalso;first|(simp_all<;>fail)|(simp_all;omega)))|fail)
theorem sameRule1 (x y:SRule) (hx:x.alts.length≤1099511627776) (hxs:∀ a ∈ x.alts,a.length≤1099511627776):KnownCall Tryz.prog 88 [encR x,encR y] (.d (.bool (smR x y))):=by
 have c:=equalFuncAlts x.alts y.alts hx 86 (fun u v=>decide (u=v)) (fun u hu v _=>equalS u v (hxs u hu))
 rw [smL_dec] at c
 unfold smR
 generalize decide (x.alts=y.alts)=b at c ⊢
 by_cases h1:x.name=y.name
 ·rw [decide_eq_true h1]
  cases b with
  |true =>
   refine knownE Yo (fnAt Tryz.func88 (by kernel_rfl) (by kernel_rfl):FnAt _ _ (mkFn Tryz.f88 [2,3])) ?_
   repeat' (first|refine Yg ?_|refine Yq ?_|(refine oB (frz:=[2,3]) Yo ?_ ?_<;>intro h<;>first|(exfalso;simp at h;first|done|omega)|skip)|(refine eB ?_ ?_<;>intro h<;>first|(exfalso;simp at h;first|done|omega)|skip)|refine oX (frz:=[2,3]) Yo ?_|refine oS ?_|refine Yn ?_|refine Yk ?_|refine cT ?_|refine cF ?_|refine Yb ?_|refine Ye ?_|refine Yd (frz:=[2,3]) Yo (by kernel_rfl) ?_|refine eX ?_|refine eS ?_|refine eN ?_|refine oC (c) ?_|refine eC (c) ?_|(refine Yt ?_;(first|refine rB ?_|refine rI ?_|refine rA ?_|refine rII ?_|refine rSI ?_|refine rT ?_|refine rS ?_);first|done|(rfl))|((exfalso;first|(simp_all<;>fail)|(simp_all;omega)))|fail)
  |false =>
   refine knownE Yo (fnAt Tryz.func88 (by kernel_rfl) (by kernel_rfl):FnAt _ _ (mkFn Tryz.f88 [2,3])) ?_
   repeat' (first|refine Yg ?_|refine Yq ?_|(refine oB (frz:=[2,3]) Yo ?_ ?_<;>intro h<;>first|(exfalso;simp at h;first|done|omega)|skip)|(refine eB ?_ ?_<;>intro h<;>first|(exfalso;simp at h;first|done|omega)|skip)|refine oX (frz:=[2,3]) Yo ?_|refine oS ?_|refine Yn ?_|refine Yk ?_|refine cT ?_|refine cF ?_|refine Yb ?_|refine Ye ?_|refine Yd (frz:=[2,3]) Yo (by kernel_rfl) ?_|refine eX ?_|refine eS ?_|refine eN ?_|refine oC (c) ?_|refine eC (c) ?_|(refine Yt ?_;(first|refine rB ?_|refine rI ?_|refine rA ?_|refine rII ?_|refine rSI ?_|refine rT ?_|refine rS ?_);first|done|(rfl))|((exfalso;first|(simp_all<;>fail)|(simp_all;omega)))|fail)
 ·rw [decide_eq_false h1]
  refine knownE Yo (fnAt Tryz.func88 (by kernel_rfl) (by kernel_rfl):FnAt _ _ (mkFn Tryz.f88 [2,3])) ?_
  repeat' (first|refine Yg ?_|refine Yq ?_|(refine oB (frz:=[2,3]) Yo ?_ ?_<;>intro h<;>first|(exfalso;simp at h;first|done|omega)|skip)|(refine eB ?_ ?_<;>intro h<;>first|(exfalso;simp at h;first|done|omega)|skip)|refine oX (frz:=[2,3]) Yo ?_|refine oS ?_|refine Yn ?_|refine Yk ?_|refine cT ?_|refine cF ?_|refine Yb ?_|refine Ye ?_|refine Yd (frz:=[2,3]) Yo (by kernel_rfl) ?_|refine eX ?_|refine eS ?_|refine eN ?_|refine oC (c) ?_|refine eC (c) ?_|(refine Yt ?_;(first|refine rB ?_|refine rI ?_|refine rA ?_|refine rII ?_|refine rSI ?_|refine rT ?_|refine rS ?_);first|done|(rfl))|((exfalso;first|(simp_all<;>fail)|(simp_all;omega)))|fail)
theorem sameGr (a b:Gram) (ha:Fits a):KnownCall Tryz.prog 23 [encG a,encG b] (.d (.bool (smG a b))):=by
 have c1:=equalS a.tokens b.tokens (Nat.le_trans ha.tokens (by decide))
 have c2:=equalS a.names b.names (Nat.le_trans ha.names (by decide))
 have c3:=equalFuncProds a.prods b.prods (Nat.le_trans ha.prods (by decide)) 91 smP (fun x hx y _=>sameProd1 x y (Nat.le_trans (ha.rights x hx) (by decide)))
 unfold smG
 generalize decide (a.tokens=b.tokens)=b1 at c1 ⊢
 generalize decide (a.names=b.names)=b2 at c2 ⊢
 generalize smL smP a.prods b.prods=b3 at c3 ⊢
 refine knownE Yo (fnAt Tryz.func23 (by kernel_rfl) (by kernel_rfl):FnAt _ _ (mkFn Tryz.f23 [2,3])) ?_
 repeat' (first|refine Yg ?_|refine Yq ?_|(refine oB (frz:=[2,3]) Yo ?_ ?_<;>intro h<;>first|(exfalso;simp at h;first|done|omega)|skip)|(refine eB ?_ ?_<;>intro h<;>first|(exfalso;simp at h;first|done|omega)|skip)|refine oX (frz:=[2,3]) Yo ?_|refine oS ?_|refine Yn ?_|refine Yk ?_|refine cT ?_|refine cF ?_|refine Yb ?_|refine Ye ?_|refine Yd (frz:=[2,3]) Yo (by kernel_rfl) ?_|refine eX ?_|refine eS ?_|refine eN ?_|(refine oK (c1) ?_ ?_<;>intro h<;>first|(exfalso;simp at h;first|done|omega)|skip)|refine oC (c1) ?_|(refine eK (c1) ?_ ?_<;>intro h<;>first|(exfalso;simp at h;first|done|omega)|skip)|refine eC (c1) ?_|(refine oK (c2) ?_ ?_<;>intro h<;>first|(exfalso;simp at h;first|done|omega)|skip)|refine oC (c2) ?_|(refine eK (c2) ?_ ?_<;>intro h<;>first|(exfalso;simp at h;first|done|omega)|skip)|refine eC (c2) ?_|(refine oK (c3) ?_ ?_<;>intro h<;>first|(exfalso;simp at h;first|done|omega)|skip)|refine oC (c3) ?_|(refine eK (c3) ?_ ?_<;>intro h<;>first|(exfalso;simp at h;first|done|omega)|skip)|refine eC (c3) ?_|(refine Yt ?_;(first|refine rB ?_|refine rI ?_|refine rA ?_|refine rII ?_|refine rSI ?_|refine rT ?_|refine rS ?_);first|done|(first|rfl|(simp_all<;>fail)))|((exfalso;first|(simp_all<;>fail)|(simp_all;omega)))|fail)
theorem sameSr (a b:Src) (ha:FitsX a):KnownCall Tryz.prog 22 [encX a,encX b] (.d (.bool (smX a b))):=by
 have c1:=equalS a.tokens b.tokens (Nat.le_trans ha.tokens (by decide))
 have c3:=equalFuncRules a.rules b.rules (Nat.le_trans ha.rules (by decide)) 88 smR (fun x hx y _=>sameRule1 x y (Nat.le_trans (ha.alts x hx) (by decide)) (fun u hu=>Nat.le_trans (ha.names x hx u hu) (by decide)))
 unfold smX
 generalize decide (a.tokens=b.tokens)=b1 at c1 ⊢
 generalize smL smR a.rules b.rules=b3 at c3 ⊢
 refine knownE Yo (fnAt Tryz.func22 (by kernel_rfl) (by kernel_rfl):FnAt _ _ (mkFn Tryz.f22 [2,3])) ?_
 repeat' (first|refine Yg ?_|refine Yq ?_|(refine oB (frz:=[2,3]) Yo ?_ ?_<;>intro h<;>first|(exfalso;simp at h;first|done|omega)|skip)|(refine eB ?_ ?_<;>intro h<;>first|(exfalso;simp at h;first|done|omega)|skip)|refine oX (frz:=[2,3]) Yo ?_|refine oS ?_|refine Yn ?_|refine Yk ?_|refine cT ?_|refine cF ?_|refine Yb ?_|refine Ye ?_|refine Yd (frz:=[2,3]) Yo (by kernel_rfl) ?_|refine eX ?_|refine eS ?_|refine eN ?_|(refine oK (c1) ?_ ?_<;>intro h<;>first|(exfalso;simp at h;first|done|omega)|skip)|refine oC (c1) ?_|(refine eK (c1) ?_ ?_<;>intro h<;>first|(exfalso;simp at h;first|done|omega)|skip)|refine eC (c1) ?_|(refine oK (c3) ?_ ?_<;>intro h<;>first|(exfalso;simp at h;first|done|omega)|skip)|refine oC (c3) ?_|(refine eK (c3) ?_ ?_<;>intro h<;>first|(exfalso;simp at h;first|done|omega)|skip)|refine eC (c3) ?_|(refine Yt ?_;(first|refine rB ?_|refine rI ?_|refine rA ?_|refine rII ?_|refine rSI ?_|refine rT ?_|refine rS ?_);first|done|(first|rfl|(simp_all<;>fail)))|((exfalso;first|(simp_all<;>fail)|(simp_all;omega)))|fail)
end Go.Av
end
noncomputable section
namespace Go.Av
open Go Go.Proofs
set_option maxRecDepth 10000
end Go.Av
end
noncomputable section
namespace Go.Av
open Go Go.Proofs
set_option maxRecDepth 10000
theorem vN8 {x:Int} {n:Nat} (h:x=(n:Int)) (hn:n≤1099511627776):AV.d (.int .i64 (IntKind.i64.wrap x))=.d (.int .i64 (n:Int)):=by
 subst h;exact congrArg (fun n=>AV.d (.int .i64 n)) (wrap_nat hn)
def longA (a:List (List Nat)):Bool:=decide (6<a.length)
def sumTo (x:Src) (i:Nat):Nat:=((x.rules.take i).map (·.alts.length)).sum
theorem sumTo_succ {x:Src} {i:Nat} {r:SRule} (h:x.rules[i]?=some r):sumTo x (i+1)=sumTo x i+r.alts.length:=by
 simp [sumTo,List.take_add_one,h]
theorem sumTo_le {x:Src} (hf:FitsX x):∀ {i:Nat},i≤x.rules.length→sumTo x i≤i*1048576
 |0,_=>by simp [sumTo]
 |i+1,hi=>by
  obtain⟨r,hr⟩:=get_ok (show i<x.rules.length by omega)
  have h1:=sumTo_le hf (i:=i) (by omega)
  have h2:=hf.alts r (List.mem_of_getElem? hr)
  rw [sumTo_succ hr,Nat.succ_mul];omega
theorem le_sum:∀ {l:List Nat} {a:Nat},a ∈ l→a≤l.sum
 |b :: l,a,h=>by
  rw [List.sum_cons]
  rcases List.mem_cons.1 h with rfl|h
  ·omega
  ·have:=le_sum h;omega
theorem le_sumTo {x:Src} {r:SRule} (h:r ∈ x.rules):r.alts.length≤sumTo x x.rules.length:=by
 unfold sumTo
 rw [List.take_length]
 obtain⟨i,hi,rfl⟩:=List.getElem_of_mem h
 exact le_sum (List.mem_map.2 ⟨_,h,rfl⟩)
def fullX (x:Src):Bool:=x.rules.any (fun r=>r.alts.any longA) || decide (8<x.tokens.length) || decide (8<x.rules.length) || decide (24<sumTo x x.rules.length)
theorem fullX_end {x:Src} (h:(x.rules.take x.rules.length).any (fun r=>(r.alts.take 25).any longA)=false):fullX x=(decide (8<x.tokens.length) || decide (8<x.rules.length) || decide (24<sumTo x x.rules.length)):=by
 by_cases hs:24<sumTo x x.rules.length
 ·simp [fullX,hs]
 ·have:x.rules.any (fun r=>r.alts.any longA)=false:=by
   rw [List.any_eq_false]
   intro r hr
   have h1:=le_sumTo hr
   rw [List.take_length,List.any_eq_false] at h
   have h2:=h r hr
   rw [List.take_of_length_le (by omega)] at h2
   exact h2
  simp [fullX,this]
theorem full08 (x:Src) (hf:FitsX x):KnownCall Tryz.prog 128 [encX x] (.d (.bool (fullX x))):=by
 have hrl:=hf.rules
 refine knownE Yo (fnAt Tryz.func128 (by kernel_rfl) (by kernel_rfl):FnAt _ _ (mkFn Tryz.f128 [1])) ?_
 repeat' (first|refine Yg ?_|refine Yq ?_|(refine oB (frz:=[1]) Yo ?_ ?_<;>intro h<;>first|(exfalso;simp at h;first|done|omega)|skip)|(refine eB ?_ ?_<;>intro h<;>first|(exfalso;simp at h;first|done|omega)|skip)|refine oX (frz:=[1]) Yo ?_|refine oS ?_|refine Yn ?_|refine Yk ?_|refine cT ?_|refine cF ?_|refine Yb ?_|refine Ye ?_|refine Yd (frz:=[1]) Yo (by kernel_rfl) ?_|refine eX ?_|refine eS ?_|refine eN ?_|(refine Yt ?_;(first|refine rB ?_|refine rI ?_|refine rA ?_|refine rII ?_|refine rSI ?_|refine rT ?_|refine rS ?_);first|done|(skip))|fail)
 refine Run.loop (fun i:Nat=>⟨PT.ofList [(1,cellX x),(3,.d (.int .i64 (sumTo x i:Nat))),(4,.d (.int .i64 i))],[],[]⟩) (fun i=>i≤x.rules.length∧i≤9∧(x.rules.take i).any (fun r=>(r.alts.take 25).any longA)=false) (fun i=>x.rules.length-i) 0 ⟨Nat.zero_le _,Nat.zero_le _,rfl⟩ (weak_of (by repeat' (first|exact trivial|refine⟨rfl,?_⟩))) (fun i hi=>?_)
 obtain⟨hi1,hi2,hi3⟩:=hi
 by_cases hlt:i<x.rules.length∧i≤8
 ·obtain⟨hl1,hl2⟩:=hlt
  obtain⟨r,hr⟩:=get_ok hl1
  have hra:=hf.alts r (List.mem_of_getElem? hr)
  have hsl:=sumTo_le hf (i:=i) hi1
  have hsum:AV.d (.int .i64 (IntKind.i64.wrap ((sumTo x i:Nat)+((r.alts.map strs).length:Int))))=.d (.int .i64 (sumTo x (i+1):Nat)):=vN8 (by rw [sumTo_succ hr];simp) (by rw [sumTo_succ hr];omega)
  repeat' (first|refine oX (frz:=[1]) (v:=.d (.int .i64 (sumTo x (i+1):Nat))) Yo ?_ (he:=(hsum))|refine eX (v:=.d (.int .i64 (sumTo x (i+1):Nat))) ?_ (he:=(hsum))|refine Yg ?_|refine Yq ?_|(refine oB (frz:=[1]) Yo ?_ ?_<;>intro h<;>first|(exfalso;simp at h;first|done|omega)|skip)|(refine eB ?_ ?_<;>intro h<;>first|(exfalso;simp at h;first|done|omega)|skip)|refine oX (frz:=[1]) Yo ?_|refine oS ?_|refine Yn ?_|refine Yk ?_|refine cT ?_|refine cF ?_|refine Yb ?_|refine Ye ?_|refine Yd (frz:=[1]) Yo (by kernel_rfl) ?_|refine eX ?_|refine eS ?_|refine eN ?_|refine oX (frz:=[1]) (v:=.d (.ep [.str r.name,alts r.alts])) Yo ?_ (hf:=(by first|(simp [inB]<;>fail)|(simp [inB];omega))) (he:=(by first|(simp [List.getD_eq_getElem?_getD,cellsD,hr,encR]<;>fail)|fail))|refine eX (v:=.d (.ep [.str r.name,alts r.alts])) ?_ (hf:=(by first|(simp [inB]<;>fail)|(simp [inB];omega))) (he:=(by first|(simp [List.getD_eq_getElem?_getD,cellsD,hr,encR]<;>fail)|fail))|(refine Yt ?_;(first|refine rB ?_|refine rI ?_|refine rA ?_|refine rII ?_|refine rSI ?_|refine rT ?_|refine rS ?_);first|done|(skip))|((exfalso;(simp at h<;>omega)))|fail)
  refine Run.loop (fun k:Nat=>⟨PT.ofList [(1,cellX x),(3,.d (.int .i64 (sumTo x (i+1):Nat))),(4,.d (.int .i64 i)),(5,.d (.int .i64 k))],[],[]⟩) (fun k=>k≤r.alts.length∧k≤25∧(r.alts.take k).any longA=false) (fun k=>r.alts.length-k) 0 ⟨Nat.zero_le _,Nat.zero_le _,rfl⟩ (weak_of (by repeat' (first|exact trivial|refine⟨rfl,?_⟩))) (fun k hk=>?_)
  obtain⟨hk1,hk2,hk3⟩:=hk
  by_cases hkl:k<r.alts.length∧k≤24
  ·obtain⟨hm1,hm2⟩:=hkl
   obtain⟨a,ha⟩:=get_ok hm1
   cases hla:longA a with
   |true =>
    have hfx:fullX x=true:=by unfold fullX;rw [any_hit hr (p:=fun r=>r.alts.any longA) (any_hit ha hla)];rfl
    have hla':6<a.length:=by simpa [longA] using hla
    rw [hfx]
    repeat' (first|refine Yg ?_|refine Yq ?_|(refine oB (frz:=[1]) Yo ?_ ?_<;>intro h<;>first|(exfalso;simp at h;first|done|omega)|skip)|(refine eB ?_ ?_<;>intro h<;>first|(exfalso;simp at h;first|done|omega)|skip)|refine oX (frz:=[1]) Yo ?_|refine oS ?_|refine Yn ?_|refine Yk ?_|refine cT ?_|refine cF ?_|refine Yb ?_|refine Ye ?_|refine Yd (frz:=[1]) Yo (by kernel_rfl) ?_|refine eX ?_|refine eS ?_|refine eN ?_|refine oX (frz:=[1]) (v:=.d (.ep [.str r.name,alts r.alts])) Yo ?_ (hf:=(by first|(simp [inB]<;>fail)|(simp [inB];omega))) (he:=(by first|(simp [List.getD_eq_getElem?_getD,cellsD,hr,encR]<;>fail)|fail))|refine eX (v:=.d (.ep [.str r.name,alts r.alts])) ?_ (hf:=(by first|(simp [inB]<;>fail)|(simp [inB];omega))) (he:=(by first|(simp [List.getD_eq_getElem?_getD,cellsD,hr,encR]<;>fail)|fail))|refine oX (frz:=[1]) (v:=.d (.ep [strs a])) Yo ?_ (hf:=(by first|(simp [inB]<;>fail)|(simp [inB];omega))) (he:=(by first|(simp [List.getD_eq_getElem?_getD,cellsD,ha]<;>fail)|fail))|refine eX (v:=.d (.ep [strs a])) ?_ (hf:=(by first|(simp [inB]<;>fail)|(simp [inB];omega))) (he:=(by first|(simp [List.getD_eq_getElem?_getD,cellsD,ha]<;>fail)|fail))|(refine Yt ?_;(first|refine rB ?_|refine rI ?_|refine rA ?_|refine rII ?_|refine rSI ?_|refine rT ?_|refine rS ?_);first|done|(rfl))|((exfalso;(simp at h<;>omega)))|fail)
   |false =>
    have hla':¬ 6<a.length:=by simpa [longA] using hla
    repeat' (first|refine Yg ?_|refine Yq ?_|(refine oB (frz:=[1]) Yo ?_ ?_<;>intro h<;>first|(exfalso;simp at h;first|done|omega)|skip)|(refine eB ?_ ?_<;>intro h<;>first|(exfalso;simp at h;first|done|omega)|skip)|refine oX (frz:=[1]) Yo ?_|refine oS ?_|refine Yn ?_|refine Yk ?_|refine cT ?_|refine cF ?_|refine Yb ?_|refine Ye ?_|refine Yd (frz:=[1]) Yo (by kernel_rfl) ?_|refine eX ?_|refine eS ?_|refine eN ?_|refine oX (frz:=[1]) (v:=.d (.ep [.str r.name,alts r.alts])) Yo ?_ (hf:=(by first|(simp [inB]<;>fail)|(simp [inB];omega))) (he:=(by first|(simp [List.getD_eq_getElem?_getD,cellsD,hr,encR]<;>fail)|fail))|refine eX (v:=.d (.ep [.str r.name,alts r.alts])) ?_ (hf:=(by first|(simp [inB]<;>fail)|(simp [inB];omega))) (he:=(by first|(simp [List.getD_eq_getElem?_getD,cellsD,hr,encR]<;>fail)|fail))|refine oX (frz:=[1]) (v:=.d (.ep [strs a])) Yo ?_ (hf:=(by first|(simp [inB]<;>fail)|(simp [inB];omega))) (he:=(by first|(simp [List.getD_eq_getElem?_getD,cellsD,ha]<;>fail)|fail))|refine eX (v:=.d (.ep [strs a])) ?_ (hf:=(by first|(simp [inB]<;>fail)|(simp [inB];omega))) (he:=(by first|(simp [List.getD_eq_getElem?_getD,cellsD,ha]<;>fail)|fail))|(refine Yt ?_;(first|refine rB ?_|refine rI ?_|refine rA ?_|refine rII ?_|refine rSI ?_|refine rT ?_|refine rS ?_);first|done|((exfalso;(simp at h<;>omega))))|(exact⟨k+1,⟨by omega,by omega,any_next ha hk3 hla⟩,by omega,weak_of (by repeat' (first|exact trivial|refine⟨rfl,?_⟩|refine⟨(inc_get (k:=k) (by kernel_rfl) (by omega)),?_⟩))⟩)|((exfalso;(simp at h<;>omega)))|fail)
  ·have hall:(r.alts.take 25).any longA=false:=by
    rcases Nat.lt_or_ge k 25 with hc|hc
    ·have:k=r.alts.length:=by omega
     subst this
     rw [List.take_length] at hk3
     rw [List.take_of_length_le (by omega)];exact hk3
    ·have:k=25:=by omega
     subst this;exact hk3
   by_cases hka:k<r.alts.length
   ·have hkb:¬ k≤24:=fun e=>hkl ⟨hka,e⟩
    repeat' (first|refine Yg ?_|refine Yq ?_|(refine oB (frz:=[1]) Yo ?_ ?_<;>intro h<;>first|(exfalso;simp at h;first|done|omega)|skip)|(refine eB ?_ ?_<;>intro h<;>first|(exfalso;simp at h;first|done|omega)|skip)|refine oX (frz:=[1]) Yo ?_|refine oS ?_|refine Yn ?_|refine Yk ?_|refine cT ?_|refine cF ?_|refine Yb ?_|refine Ye ?_|refine Yd (frz:=[1]) Yo (by kernel_rfl) ?_|refine eX ?_|refine eS ?_|refine eN ?_|refine oX (frz:=[1]) (v:=.d (.ep [.str r.name,alts r.alts])) Yo ?_ (hf:=(by first|(simp [inB]<;>fail)|(simp [inB];omega))) (he:=(by first|(simp [List.getD_eq_getElem?_getD,cellsD,hr,encR]<;>fail)|fail))|refine eX (v:=.d (.ep [.str r.name,alts r.alts])) ?_ (hf:=(by first|(simp [inB]<;>fail)|(simp [inB];omega))) (he:=(by first|(simp [List.getD_eq_getElem?_getD,cellsD,hr,encR]<;>fail)|fail))|(refine Yt ?_;(first|refine rB ?_|refine rI ?_|refine rA ?_|refine rII ?_|refine rSI ?_|refine rT ?_|refine rS ?_);first|done|(skip))|(exact⟨i+1,⟨by omega,by omega,any_next hr hi3 hall⟩,by omega,weak_of (by repeat' (first|exact trivial|refine⟨rfl,?_⟩|refine⟨(inc_get (k:=i) (by kernel_rfl) (by omega)),?_⟩))⟩)|((exfalso;(simp at h<;>omega)))|fail)
   ·repeat' (first|refine Yg ?_|refine Yq ?_|(refine oB (frz:=[1]) Yo ?_ ?_<;>intro h<;>first|(exfalso;simp at h;first|done|omega)|skip)|(refine eB ?_ ?_<;>intro h<;>first|(exfalso;simp at h;first|done|omega)|skip)|refine oX (frz:=[1]) Yo ?_|refine oS ?_|refine Yn ?_|refine Yk ?_|refine cT ?_|refine cF ?_|refine Yb ?_|refine Ye ?_|refine Yd (frz:=[1]) Yo (by kernel_rfl) ?_|refine eX ?_|refine eS ?_|refine eN ?_|refine oX (frz:=[1]) (v:=.d (.ep [.str r.name,alts r.alts])) Yo ?_ (hf:=(by first|(simp [inB]<;>fail)|(simp [inB];omega))) (he:=(by first|(simp [List.getD_eq_getElem?_getD,cellsD,hr,encR]<;>fail)|fail))|refine eX (v:=.d (.ep [.str r.name,alts r.alts])) ?_ (hf:=(by first|(simp [inB]<;>fail)|(simp [inB];omega))) (he:=(by first|(simp [List.getD_eq_getElem?_getD,cellsD,hr,encR]<;>fail)|fail))|(refine Yt ?_;(first|refine rB ?_|refine rI ?_|refine rA ?_|refine rII ?_|refine rSI ?_|refine rT ?_|refine rS ?_);first|done|(skip))|(exact⟨i+1,⟨by omega,by omega,any_next hr hi3 hall⟩,by omega,weak_of (by repeat' (first|exact trivial|refine⟨rfl,?_⟩|refine⟨(inc_get (k:=i) (by kernel_rfl) (by omega)),?_⟩))⟩)|((exfalso;(simp at h<;>omega)))|fail)
 ·by_cases h8:8<x.rules.length
  ·have hi9:i=9:=by omega
   subst hi9
   have hfx:fullX x=true:=by simp [fullX,h8]
   rw [hfx]
   by_cases ht:8<x.tokens.length
   ·by_cases hn:9<x.rules.length
    ·repeat' (first|refine Yg ?_|refine Yq ?_|(refine oB (frz:=[1]) Yo ?_ ?_<;>intro h<;>first|(exfalso;simp at h;first|done|omega)|skip)|(refine eB ?_ ?_<;>intro h<;>first|(exfalso;simp at h;first|done|omega)|skip)|refine oX (frz:=[1]) Yo ?_|refine oS ?_|refine Yn ?_|refine Yk ?_|refine cT ?_|refine cF ?_|refine Yb ?_|refine Ye ?_|refine Yd (frz:=[1]) Yo (by kernel_rfl) ?_|refine eX ?_|refine eS ?_|refine eN ?_|(refine Yt ?_;(first|refine rB ?_|refine rI ?_|refine rA ?_|refine rII ?_|refine rSI ?_|refine rT ?_|refine rS ?_);first|done|(rfl))|((exfalso;(simp at h<;>omega)))|fail)
    ·repeat' (first|refine Yg ?_|refine Yq ?_|(refine oB (frz:=[1]) Yo ?_ ?_<;>intro h<;>first|(exfalso;simp at h;first|done|omega)|skip)|(refine eB ?_ ?_<;>intro h<;>first|(exfalso;simp at h;first|done|omega)|skip)|refine oX (frz:=[1]) Yo ?_|refine oS ?_|refine Yn ?_|refine Yk ?_|refine cT ?_|refine cF ?_|refine Yb ?_|refine Ye ?_|refine Yd (frz:=[1]) Yo (by kernel_rfl) ?_|refine eX ?_|refine eS ?_|refine eN ?_|(refine Yt ?_;(first|refine rB ?_|refine rI ?_|refine rA ?_|refine rII ?_|refine rSI ?_|refine rT ?_|refine rS ?_);first|done|(rfl))|((exfalso;(simp at h<;>omega)))|fail)
   ·by_cases hn:9<x.rules.length
    ·repeat' (first|refine Yg ?_|refine Yq ?_|(refine oB (frz:=[1]) Yo ?_ ?_<;>intro h<;>first|(exfalso;simp at h;first|done|omega)|skip)|(refine eB ?_ ?_<;>intro h<;>first|(exfalso;simp at h;first|done|omega)|skip)|refine oX (frz:=[1]) Yo ?_|refine oS ?_|refine Yn ?_|refine Yk ?_|refine cT ?_|refine cF ?_|refine Yb ?_|refine Ye ?_|refine Yd (frz:=[1]) Yo (by kernel_rfl) ?_|refine eX ?_|refine eS ?_|refine eN ?_|(refine Yt ?_;(first|refine rB ?_|refine rI ?_|refine rA ?_|refine rII ?_|refine rSI ?_|refine rT ?_|refine rS ?_);first|done|(rfl))|((exfalso;(simp at h<;>omega)))|fail)
    ·repeat' (first|refine Yg ?_|refine Yq ?_|(refine oB (frz:=[1]) Yo ?_ ?_<;>intro h<;>first|(exfalso;simp at h;first|done|omega)|skip)|(refine eB ?_ ?_<;>intro h<;>first|(exfalso;simp at h;first|done|omega)|skip)|refine oX (frz:=[1]) Yo ?_|refine oS ?_|refine Yn ?_|refine Yk ?_|refine cT ?_|refine cF ?_|refine Yb ?_|refine Ye ?_|refine Yd (frz:=[1]) Yo (by kernel_rfl) ?_|refine eX ?_|refine eS ?_|refine eN ?_|(refine Yt ?_;(first|refine rB ?_|refine rI ?_|refine rA ?_|refine rII ?_|refine rSI ?_|refine rT ?_|refine rS ?_);first|done|(rfl))|((exfalso;(simp at h<;>omega)))|fail)
  ·have hie:i=x.rules.length:=by omega
   subst hie
   rw [fullX_end hi3,decide_eq_false h8]
   by_cases ht:8<x.tokens.length
   ·rw [decide_eq_true ht]
    repeat' (first|refine Yg ?_|refine Yq ?_|(refine oB (frz:=[1]) Yo ?_ ?_<;>intro h<;>first|(exfalso;simp at h;first|done|omega)|skip)|(refine eB ?_ ?_<;>intro h<;>first|(exfalso;simp at h;first|done|omega)|skip)|refine oX (frz:=[1]) Yo ?_|refine oS ?_|refine Yn ?_|refine Yk ?_|refine cT ?_|refine cF ?_|refine Yb ?_|refine Ye ?_|refine Yd (frz:=[1]) Yo (by kernel_rfl) ?_|refine eX ?_|refine eS ?_|refine eN ?_|(refine Yt ?_;(first|refine rB ?_|refine rI ?_|refine rA ?_|refine rII ?_|refine rSI ?_|refine rT ?_|refine rS ?_);first|done|(rfl))|((exfalso;(simp at h<;>omega)))|fail)
   ·rw [decide_eq_false ht]
    by_cases hs:24<sumTo x x.rules.length
    ·rw [decide_eq_true hs]
     repeat' (first|refine Yg ?_|refine Yq ?_|(refine oB (frz:=[1]) Yo ?_ ?_<;>intro h<;>first|(exfalso;simp at h;first|done|omega)|skip)|(refine eB ?_ ?_<;>intro h<;>first|(exfalso;simp at h;first|done|omega)|skip)|refine oX (frz:=[1]) Yo ?_|refine oS ?_|refine Yn ?_|refine Yk ?_|refine cT ?_|refine cF ?_|refine Yb ?_|refine Ye ?_|refine Yd (frz:=[1]) Yo (by kernel_rfl) ?_|refine eX ?_|refine eS ?_|refine eN ?_|(refine Yt ?_;(first|refine rB ?_|refine rI ?_|refine rA ?_|refine rII ?_|refine rSI ?_|refine rT ?_|refine rS ?_);first|done|(rfl))|((exfalso;(simp at h<;>omega)))|fail)
    ·rw [decide_eq_false hs]
     repeat' (first|refine Yg ?_|refine Yq ?_|(refine oB (frz:=[1]) Yo ?_ ?_<;>intro h<;>first|(exfalso;simp at h;first|done|omega)|skip)|(refine eB ?_ ?_<;>intro h<;>first|(exfalso;simp at h;first|done|omega)|skip)|refine oX (frz:=[1]) Yo ?_|refine oS ?_|refine Yn ?_|refine Yk ?_|refine cT ?_|refine cF ?_|refine Yb ?_|refine Ye ?_|refine Yd (frz:=[1]) Yo (by kernel_rfl) ?_|refine eX ?_|refine eS ?_|refine eN ?_|(refine Yt ?_;(first|refine rB ?_|refine rI ?_|refine rA ?_|refine rII ?_|refine rSI ?_|refine rT ?_|refine rS ?_);first|done|(rfl))|((exfalso;(simp at h<;>omega)))|fail)
end Go.Av
end
noncomputable section
namespace Go.Av
open Go Go.Proofs
set_option maxRecDepth 10000
def noName (s:List Nat):Bool:=!smallF s && !capitalF s
def misR (r:SRule):Bool:=!capitalF r.name || r.alts.any (fun a=>a.any noName)
def misX (x:Src):Bool:=x.tokens.any (fun s=>!smallF s) || x.rules.any misR || !smallF x.sep || !capitalF x.start
theorem misnamed08 (x:Src) (hf:FitsX x):KnownCall Tryz.prog 129 [encX x] (.d (.bool (misX x))):=by
 have hrl:=hf.rules
 have htl:=hf.tokens
 refine knownE Yo (fnAt Tryz.func129 (by kernel_rfl) (by kernel_rfl):FnAt _ _ (mkFn Tryz.f129 [1])) ?_
 repeat' (first|refine Yg ?_|refine Yq ?_|(refine oB (frz:=[1]) Yo ?_ ?_<;>intro h<;>first|(exfalso;simp at h;first|done|omega)|skip)|(refine eB ?_ ?_<;>intro h<;>first|(exfalso;simp at h;first|done|omega)|skip)|refine oX (frz:=[1]) Yo ?_|refine oS ?_|refine Yn ?_|refine Yk ?_|refine cT ?_|refine cF ?_|refine Yb ?_|refine Ye ?_|refine Yd (frz:=[1]) Yo (by kernel_rfl) ?_|refine eX ?_|refine eS ?_|refine eN ?_|(refine Yt ?_;(first|refine rB ?_|refine rI ?_|refine rA ?_|refine rII ?_|refine rSI ?_|refine rT ?_|refine rS ?_);first|done|(skip))|fail)
 refine Run.loop (fun i:Nat=>⟨PT.ofList [(1,cellX x),(3,.d (.int .i64 i))],[],[]⟩) (fun i=>i≤x.tokens.length∧(x.tokens.take i).any (fun s=>!smallF s)=false) (fun i=>x.tokens.length-i) 0 ⟨Nat.zero_le _,rfl⟩ (weak_of (by repeat' (first|exact trivial|refine⟨rfl,?_⟩))) (fun i hi=>?_)
 rcases Nat.lt_or_ge i x.tokens.length with hlt|hge
 ·obtain⟨s,hs⟩:=get_ok hlt
  have hsm:=refSmall s (Nat.le_trans (hf.tokenS s (List.mem_of_getElem? hs)) (by decide))
  cases hb:smallF s with
  |true =>
   rw [hb] at hsm
   repeat' (first|refine Yg ?_|refine Yq ?_|(refine oB (frz:=[1]) Yo ?_ ?_<;>intro h<;>first|(exfalso;simp at h;first|done|omega)|skip)|(refine eB ?_ ?_<;>intro h<;>first|(exfalso;simp at h;first|done|omega)|skip)|refine oX (frz:=[1]) Yo ?_|refine oS ?_|refine Yn ?_|refine Yk ?_|refine cT ?_|refine cF ?_|refine Yb ?_|refine Ye ?_|refine Yd (frz:=[1]) Yo (by kernel_rfl) ?_|refine eX ?_|refine eS ?_|refine eN ?_|refine oX (frz:=[1]) (v:=.d (.ep [.str s])) Yo ?_ (hf:=(by first|(simp [inB]<;>fail)|(simp [inB];omega))) (he:=(by first|(simp [List.getD_eq_getElem?_getD,cellsD,hs]<;>fail)|fail))|refine eX (v:=.d (.ep [.str s])) ?_ (hf:=(by first|(simp [inB]<;>fail)|(simp [inB];omega))) (he:=(by first|(simp [List.getD_eq_getElem?_getD,cellsD,hs]<;>fail)|fail))|refine oC (hsm) ?_|refine eC (hsm) ?_|(refine Yt ?_;(first|refine rB ?_|refine rI ?_|refine rA ?_|refine rII ?_|refine rSI ?_|refine rT ?_|refine rS ?_);first|done|(skip))|(exact⟨i+1,⟨hlt,any_next hs hi.2 (by simp [hb])⟩,by omega,weak_of (by repeat' (first|exact trivial|refine⟨rfl,?_⟩|refine⟨(inc_get (k:=i) (by kernel_rfl) (by omega)),?_⟩))⟩)|((exfalso;(simp at h<;>omega)))|fail)
  |false =>
   rw [hb] at hsm
   have hm:misX x=true:=by unfold misX;rw [any_hit hs (p:=fun s=>!smallF s) (by simp [hb])];rfl
   rw [hm]
   repeat' (first|refine Yg ?_|refine Yq ?_|(refine oB (frz:=[1]) Yo ?_ ?_<;>intro h<;>first|(exfalso;simp at h;first|done|omega)|skip)|(refine eB ?_ ?_<;>intro h<;>first|(exfalso;simp at h;first|done|omega)|skip)|refine oX (frz:=[1]) Yo ?_|refine oS ?_|refine Yn ?_|refine Yk ?_|refine cT ?_|refine cF ?_|refine Yb ?_|refine Ye ?_|refine Yd (frz:=[1]) Yo (by kernel_rfl) ?_|refine eX ?_|refine eS ?_|refine eN ?_|refine oX (frz:=[1]) (v:=.d (.ep [.str s])) Yo ?_ (hf:=(by first|(simp [inB]<;>fail)|(simp [inB];omega))) (he:=(by first|(simp [List.getD_eq_getElem?_getD,cellsD,hs]<;>fail)|fail))|refine eX (v:=.d (.ep [.str s])) ?_ (hf:=(by first|(simp [inB]<;>fail)|(simp [inB];omega))) (he:=(by first|(simp [List.getD_eq_getElem?_getD,cellsD,hs]<;>fail)|fail))|refine oC (hsm) ?_|refine eC (hsm) ?_|(refine Yt ?_;(first|refine rB ?_|refine rI ?_|refine rA ?_|refine rII ?_|refine rSI ?_|refine rT ?_|refine rS ?_);first|done|(rfl))|((exfalso;(simp at h<;>omega)))|fail)
 ·have hie:i=x.tokens.length:=by omega
  have htk:=hi.2
  rw [hie,List.take_length] at htk
  subst hie
  repeat' (first|refine Yg ?_|refine Yq ?_|(refine oB (frz:=[1]) Yo ?_ ?_<;>intro h<;>first|(exfalso;simp at h;first|done|omega)|skip)|(refine eB ?_ ?_<;>intro h<;>first|(exfalso;simp at h;first|done|omega)|skip)|refine oX (frz:=[1]) Yo ?_|refine oS ?_|refine Yn ?_|refine Yk ?_|refine cT ?_|refine cF ?_|refine Yb ?_|refine Ye ?_|refine Yd (frz:=[1]) Yo (by kernel_rfl) ?_|refine eX ?_|refine eS ?_|refine eN ?_|(refine Yt ?_;(first|refine rB ?_|refine rI ?_|refine rA ?_|refine rII ?_|refine rSI ?_|refine rT ?_|refine rS ?_);first|done|(skip))|fail)
  refine Run.loop (fun i:Nat=>⟨PT.ofList [(1,cellX x),(4,.d (.int .i64 i))],[],[]⟩) (fun i=>i≤x.rules.length∧(x.rules.take i).any misR=false) (fun i=>x.rules.length-i) 0 ⟨Nat.zero_le _,rfl⟩ (weak_of (by repeat' (first|exact trivial|refine⟨rfl,?_⟩))) (fun i hi=>?_)
  rcases Nat.lt_or_ge i x.rules.length with hlt|hge
  ·obtain⟨r,hr⟩:=get_ok hlt
   have hmem:=List.mem_of_getElem? hr
   have hra:=hf.alts r hmem
   have hcm:=refCapital r.name (Nat.le_trans (hf.ruleS r hmem) (by decide))
   cases hb:capitalF r.name with
   |false =>
    rw [hb] at hcm
    have hm:misX x=true:=by unfold misX;rw [any_hit hr (p:=misR) (by simp [misR,hb])];simp
    rw [hm]
    repeat' (first|refine Yg ?_|refine Yq ?_|(refine oB (frz:=[1]) Yo ?_ ?_<;>intro h<;>first|(exfalso;simp at h;first|done|omega)|skip)|(refine eB ?_ ?_<;>intro h<;>first|(exfalso;simp at h;first|done|omega)|skip)|refine oX (frz:=[1]) Yo ?_|refine oS ?_|refine Yn ?_|refine Yk ?_|refine cT ?_|refine cF ?_|refine Yb ?_|refine Ye ?_|refine Yd (frz:=[1]) Yo (by kernel_rfl) ?_|refine eX ?_|refine eS ?_|refine eN ?_|refine oX (frz:=[1]) (v:=.d (.ep [.str r.name,alts r.alts])) Yo ?_ (hf:=(by first|(simp [inB]<;>fail)|(simp [inB];omega))) (he:=(by first|(simp [List.getD_eq_getElem?_getD,cellsD,hr,encR]<;>fail)|fail))|refine eX (v:=.d (.ep [.str r.name,alts r.alts])) ?_ (hf:=(by first|(simp [inB]<;>fail)|(simp [inB];omega))) (he:=(by first|(simp [List.getD_eq_getElem?_getD,cellsD,hr,encR]<;>fail)|fail))|refine oC (hcm) ?_|refine eC (hcm) ?_|(refine Yt ?_;(first|refine rB ?_|refine rI ?_|refine rA ?_|refine rII ?_|refine rSI ?_|refine rT ?_|refine rS ?_);first|done|(rfl))|((exfalso;(simp at h<;>omega)))|fail)
   |true =>
    rw [hb] at hcm
    repeat' (first|refine Yg ?_|refine Yq ?_|(refine oB (frz:=[1]) Yo ?_ ?_<;>intro h<;>first|(exfalso;simp at h;first|done|omega)|skip)|(refine eB ?_ ?_<;>intro h<;>first|(exfalso;simp at h;first|done|omega)|skip)|refine oX (frz:=[1]) Yo ?_|refine oS ?_|refine Yn ?_|refine Yk ?_|refine cT ?_|refine cF ?_|refine Yb ?_|refine Ye ?_|refine Yd (frz:=[1]) Yo (by kernel_rfl) ?_|refine eX ?_|refine eS ?_|refine eN ?_|refine oX (frz:=[1]) (v:=.d (.ep [.str r.name,alts r.alts])) Yo ?_ (hf:=(by first|(simp [inB]<;>fail)|(simp [inB];omega))) (he:=(by first|(simp [List.getD_eq_getElem?_getD,cellsD,hr,encR]<;>fail)|fail))|refine eX (v:=.d (.ep [.str r.name,alts r.alts])) ?_ (hf:=(by first|(simp [inB]<;>fail)|(simp [inB];omega))) (he:=(by first|(simp [List.getD_eq_getElem?_getD,cellsD,hr,encR]<;>fail)|fail))|refine oC (hcm) ?_|refine eC (hcm) ?_|(refine Yt ?_;(first|refine rB ?_|refine rI ?_|refine rA ?_|refine rII ?_|refine rSI ?_|refine rT ?_|refine rS ?_);first|done|(skip))|fail)
    refine Run.loop (fun k:Nat=>⟨PT.ofList [(1,cellX x),(4,.d (.int .i64 i)),(5,.d (.int .i64 k))],[],[]⟩) (fun k=>k≤r.alts.length∧(r.alts.take k).any (fun a=>a.any noName)=false) (fun k=>r.alts.length-k) 0 ⟨Nat.zero_le _,rfl⟩ (weak_of (by repeat' (first|exact trivial|refine⟨rfl,?_⟩))) (fun k hk=>?_)
    rcases Nat.lt_or_ge k r.alts.length with hkl|hkg
    ·obtain⟨a,ha⟩:=get_ok hkl
     have hmema:=List.mem_of_getElem? ha
     have hal:=hf.names r hmem a hmema
     repeat' (first|refine Yg ?_|refine Yq ?_|(refine oB (frz:=[1]) Yo ?_ ?_<;>intro h<;>first|(exfalso;simp at h;first|done|omega)|skip)|(refine eB ?_ ?_<;>intro h<;>first|(exfalso;simp at h;first|done|omega)|skip)|refine oX (frz:=[1]) Yo ?_|refine oS ?_|refine Yn ?_|refine Yk ?_|refine cT ?_|refine cF ?_|refine Yb ?_|refine Ye ?_|refine Yd (frz:=[1]) Yo (by kernel_rfl) ?_|refine eX ?_|refine eS ?_|refine eN ?_|refine oX (frz:=[1]) (v:=.d (.ep [.str r.name,alts r.alts])) Yo ?_ (hf:=(by first|(simp [inB]<;>fail)|(simp [inB];omega))) (he:=(by first|(simp [List.getD_eq_getElem?_getD,cellsD,hr,encR]<;>fail)|fail))|refine eX (v:=.d (.ep [.str r.name,alts r.alts])) ?_ (hf:=(by first|(simp [inB]<;>fail)|(simp [inB];omega))) (he:=(by first|(simp [List.getD_eq_getElem?_getD,cellsD,hr,encR]<;>fail)|fail))|(refine Yt ?_;(first|refine rB ?_|refine rI ?_|refine rA ?_|refine rII ?_|refine rSI ?_|refine rT ?_|refine rS ?_);first|done|(skip))|((exfalso;(simp at h<;>omega)))|fail)
     refine Run.loop (fun j:Nat=>⟨PT.ofList [(1,cellX x),(4,.d (.int .i64 i)),(5,.d (.int .i64 k)),(6,.d (.int .i64 j))],[],[]⟩) (fun j=>j≤a.length∧(a.take j).any noName=false) (fun j=>a.length-j) 0 ⟨Nat.zero_le _,rfl⟩ (weak_of (by repeat' (first|exact trivial|refine⟨rfl,?_⟩))) (fun j hj=>?_)
     rcases Nat.lt_or_ge j a.length with hjl|hjg
     ·obtain⟨s,hs⟩:=get_ok hjl
      have hsl:=Nat.le_trans (hf.nameS r hmem a hmema s (List.mem_of_getElem? hs)) (show 1048576≤1099511627776 by decide)
      have hsm:=refSmall s hsl
      have hsc:=refCapital s hsl
      cases hc1:smallF s with
      |true =>
       rw [hc1] at hsm
       repeat' (first|refine Yg ?_|refine Yq ?_|(refine oB (frz:=[1]) Yo ?_ ?_<;>intro h<;>first|(exfalso;simp at h;first|done|omega)|skip)|(refine eB ?_ ?_<;>intro h<;>first|(exfalso;simp at h;first|done|omega)|skip)|refine oX (frz:=[1]) Yo ?_|refine oS ?_|refine Yn ?_|refine Yk ?_|refine cT ?_|refine cF ?_|refine Yb ?_|refine Ye ?_|refine Yd (frz:=[1]) Yo (by kernel_rfl) ?_|refine eX ?_|refine eS ?_|refine eN ?_|refine oX (frz:=[1]) (v:=.d (.ep [.str r.name,alts r.alts])) Yo ?_ (hf:=(by first|(simp [inB]<;>fail)|(simp [inB];omega))) (he:=(by first|(simp [List.getD_eq_getElem?_getD,cellsD,hr,encR]<;>fail)|fail))|refine eX (v:=.d (.ep [.str r.name,alts r.alts])) ?_ (hf:=(by first|(simp [inB]<;>fail)|(simp [inB];omega))) (he:=(by first|(simp [List.getD_eq_getElem?_getD,cellsD,hr,encR]<;>fail)|fail))|refine oX (frz:=[1]) (v:=.d (.ep [strs a])) Yo ?_ (hf:=(by first|(simp [inB]<;>fail)|(simp [inB];omega))) (he:=(by first|(simp [List.getD_eq_getElem?_getD,cellsD,ha]<;>fail)|fail))|refine eX (v:=.d (.ep [strs a])) ?_ (hf:=(by first|(simp [inB]<;>fail)|(simp [inB];omega))) (he:=(by first|(simp [List.getD_eq_getElem?_getD,cellsD,ha]<;>fail)|fail))|refine oX (frz:=[1]) (v:=.d (.ep [.str s])) Yo ?_ (hf:=(by first|(simp [inB]<;>fail)|(simp [inB];omega))) (he:=(by first|(simp [List.getD_eq_getElem?_getD,cellsD,hs]<;>fail)|fail))|refine eX (v:=.d (.ep [.str s])) ?_ (hf:=(by first|(simp [inB]<;>fail)|(simp [inB];omega))) (he:=(by first|(simp [List.getD_eq_getElem?_getD,cellsD,hs]<;>fail)|fail))|refine oC (hsm) ?_|refine eC (hsm) ?_|refine oC (hsc) ?_|refine eC (hsc) ?_|(refine Yt ?_;(first|refine rB ?_|refine rI ?_|refine rA ?_|refine rII ?_|refine rSI ?_|refine rT ?_|refine rS ?_);first|done|(skip))|(exact⟨j+1,⟨hjl,any_next hs hj.2 (by simp [noName,hc1])⟩,by omega,weak_of (by repeat' (first|exact trivial|refine⟨rfl,?_⟩|refine⟨(inc_get (k:=j) (by kernel_rfl) (by omega)),?_⟩))⟩)|((exfalso;(simp at h<;>omega)))|fail)
      |false =>
       rw [hc1] at hsm
       cases hc2:capitalF s with
       |true =>
        rw [hc2] at hsc
        repeat' (first|refine Yg ?_|refine Yq ?_|(refine oB (frz:=[1]) Yo ?_ ?_<;>intro h<;>first|(exfalso;simp at h;first|done|omega)|skip)|(refine eB ?_ ?_<;>intro h<;>first|(exfalso;simp at h;first|done|omega)|skip)|refine oX (frz:=[1]) Yo ?_|refine oS ?_|refine Yn ?_|refine Yk ?_|refine cT ?_|refine cF ?_|refine Yb ?_|refine Ye ?_|refine Yd (frz:=[1]) Yo (by kernel_rfl) ?_|refine eX ?_|refine eS ?_|refine eN ?_|refine oX (frz:=[1]) (v:=.d (.ep [.str r.name,alts r.alts])) Yo ?_ (hf:=(by first|(simp [inB]<;>fail)|(simp [inB];omega))) (he:=(by first|(simp [List.getD_eq_getElem?_getD,cellsD,hr,encR]<;>fail)|fail))|refine eX (v:=.d (.ep [.str r.name,alts r.alts])) ?_ (hf:=(by first|(simp [inB]<;>fail)|(simp [inB];omega))) (he:=(by first|(simp [List.getD_eq_getElem?_getD,cellsD,hr,encR]<;>fail)|fail))|refine oX (frz:=[1]) (v:=.d (.ep [strs a])) Yo ?_ (hf:=(by first|(simp [inB]<;>fail)|(simp [inB];omega))) (he:=(by first|(simp [List.getD_eq_getElem?_getD,cellsD,ha]<;>fail)|fail))|refine eX (v:=.d (.ep [strs a])) ?_ (hf:=(by first|(simp [inB]<;>fail)|(simp [inB];omega))) (he:=(by first|(simp [List.getD_eq_getElem?_getD,cellsD,ha]<;>fail)|fail))|refine oX (frz:=[1]) (v:=.d (.ep [.str s])) Yo ?_ (hf:=(by first|(simp [inB]<;>fail)|(simp [inB];omega))) (he:=(by first|(simp [List.getD_eq_getElem?_getD,cellsD,hs]<;>fail)|fail))|refine eX (v:=.d (.ep [.str s])) ?_ (hf:=(by first|(simp [inB]<;>fail)|(simp [inB];omega))) (he:=(by first|(simp [List.getD_eq_getElem?_getD,cellsD,hs]<;>fail)|fail))|refine oC (hsm) ?_|refine eC (hsm) ?_|refine oC (hsc) ?_|refine eC (hsc) ?_|(refine Yt ?_;(first|refine rB ?_|refine rI ?_|refine rA ?_|refine rII ?_|refine rSI ?_|refine rT ?_|refine rS ?_);first|done|(skip))|(exact⟨j+1,⟨hjl,any_next hs hj.2 (by simp [noName,hc2])⟩,by omega,weak_of (by repeat' (first|exact trivial|refine⟨rfl,?_⟩|refine⟨(inc_get (k:=j) (by kernel_rfl) (by omega)),?_⟩))⟩)|((exfalso;(simp at h<;>omega)))|fail)
       |false =>
        rw [hc2] at hsc
        have hm:misX x=true:=by unfold misX;rw [any_hit hr (p:=misR) (by simp only [misR];rw [any_hit ha (p:=fun a=>a.any noName) (any_hit hs (by simp [noName,hc1,hc2]))];simp)];simp
        rw [hm]
        repeat' (first|refine Yg ?_|refine Yq ?_|(refine oB (frz:=[1]) Yo ?_ ?_<;>intro h<;>first|(exfalso;simp at h;first|done|omega)|skip)|(refine eB ?_ ?_<;>intro h<;>first|(exfalso;simp at h;first|done|omega)|skip)|refine oX (frz:=[1]) Yo ?_|refine oS ?_|refine Yn ?_|refine Yk ?_|refine cT ?_|refine cF ?_|refine Yb ?_|refine Ye ?_|refine Yd (frz:=[1]) Yo (by kernel_rfl) ?_|refine eX ?_|refine eS ?_|refine eN ?_|refine oX (frz:=[1]) (v:=.d (.ep [.str r.name,alts r.alts])) Yo ?_ (hf:=(by first|(simp [inB]<;>fail)|(simp [inB];omega))) (he:=(by first|(simp [List.getD_eq_getElem?_getD,cellsD,hr,encR]<;>fail)|fail))|refine eX (v:=.d (.ep [.str r.name,alts r.alts])) ?_ (hf:=(by first|(simp [inB]<;>fail)|(simp [inB];omega))) (he:=(by first|(simp [List.getD_eq_getElem?_getD,cellsD,hr,encR]<;>fail)|fail))|refine oX (frz:=[1]) (v:=.d (.ep [strs a])) Yo ?_ (hf:=(by first|(simp [inB]<;>fail)|(simp [inB];omega))) (he:=(by first|(simp [List.getD_eq_getElem?_getD,cellsD,ha]<;>fail)|fail))|refine eX (v:=.d (.ep [strs a])) ?_ (hf:=(by first|(simp [inB]<;>fail)|(simp [inB];omega))) (he:=(by first|(simp [List.getD_eq_getElem?_getD,cellsD,ha]<;>fail)|fail))|refine oX (frz:=[1]) (v:=.d (.ep [.str s])) Yo ?_ (hf:=(by first|(simp [inB]<;>fail)|(simp [inB];omega))) (he:=(by first|(simp [List.getD_eq_getElem?_getD,cellsD,hs]<;>fail)|fail))|refine eX (v:=.d (.ep [.str s])) ?_ (hf:=(by first|(simp [inB]<;>fail)|(simp [inB];omega))) (he:=(by first|(simp [List.getD_eq_getElem?_getD,cellsD,hs]<;>fail)|fail))|refine oC (hsm) ?_|refine eC (hsm) ?_|refine oC (hsc) ?_|refine eC (hsc) ?_|(refine Yt ?_;(first|refine rB ?_|refine rI ?_|refine rA ?_|refine rII ?_|refine rSI ?_|refine rT ?_|refine rS ?_);first|done|(rfl))|((exfalso;(simp at h<;>omega)))|fail)
     ·have hje:j=a.length:=by omega
      subst hje
      have haa:=any_end hj.2
      repeat' (first|refine Yg ?_|refine Yq ?_|(refine oB (frz:=[1]) Yo ?_ ?_<;>intro h<;>first|(exfalso;simp at h;first|done|omega)|skip)|(refine eB ?_ ?_<;>intro h<;>first|(exfalso;simp at h;first|done|omega)|skip)|refine oX (frz:=[1]) Yo ?_|refine oS ?_|refine Yn ?_|refine Yk ?_|refine cT ?_|refine cF ?_|refine Yb ?_|refine Ye ?_|refine Yd (frz:=[1]) Yo (by kernel_rfl) ?_|refine eX ?_|refine eS ?_|refine eN ?_|refine oX (frz:=[1]) (v:=.d (.ep [.str r.name,alts r.alts])) Yo ?_ (hf:=(by first|(simp [inB]<;>fail)|(simp [inB];omega))) (he:=(by first|(simp [List.getD_eq_getElem?_getD,cellsD,hr,encR]<;>fail)|fail))|refine eX (v:=.d (.ep [.str r.name,alts r.alts])) ?_ (hf:=(by first|(simp [inB]<;>fail)|(simp [inB];omega))) (he:=(by first|(simp [List.getD_eq_getElem?_getD,cellsD,hr,encR]<;>fail)|fail))|refine oX (frz:=[1]) (v:=.d (.ep [strs a])) Yo ?_ (hf:=(by first|(simp [inB]<;>fail)|(simp [inB];omega))) (he:=(by first|(simp [List.getD_eq_getElem?_getD,cellsD,ha]<;>fail)|fail))|refine eX (v:=.d (.ep [strs a])) ?_ (hf:=(by first|(simp [inB]<;>fail)|(simp [inB];omega))) (he:=(by first|(simp [List.getD_eq_getElem?_getD,cellsD,ha]<;>fail)|fail))|(refine Yt ?_;(first|refine rB ?_|refine rI ?_|refine rA ?_|refine rII ?_|refine rSI ?_|refine rT ?_|refine rS ?_);first|done|(skip))|(exact⟨k+1,⟨hkl,any_next ha hk.2 haa⟩,by omega,weak_of (by repeat' (first|exact trivial|refine⟨rfl,?_⟩|refine⟨(inc_get (k:=k) (by kernel_rfl) (by omega)),?_⟩))⟩)|((exfalso;(simp at h<;>omega)))|fail)
    ·have hke:k=r.alts.length:=by omega
     subst hke
     have hkk:=any_end hk.2
     repeat' (first|refine Yg ?_|refine Yq ?_|(refine oB (frz:=[1]) Yo ?_ ?_<;>intro h<;>first|(exfalso;simp at h;first|done|omega)|skip)|(refine eB ?_ ?_<;>intro h<;>first|(exfalso;simp at h;first|done|omega)|skip)|refine oX (frz:=[1]) Yo ?_|refine oS ?_|refine Yn ?_|refine Yk ?_|refine cT ?_|refine cF ?_|refine Yb ?_|refine Ye ?_|refine Yd (frz:=[1]) Yo (by kernel_rfl) ?_|refine eX ?_|refine eS ?_|refine eN ?_|refine oX (frz:=[1]) (v:=.d (.ep [.str r.name,alts r.alts])) Yo ?_ (hf:=(by first|(simp [inB]<;>fail)|(simp [inB];omega))) (he:=(by first|(simp [List.getD_eq_getElem?_getD,cellsD,hr,encR]<;>fail)|fail))|refine eX (v:=.d (.ep [.str r.name,alts r.alts])) ?_ (hf:=(by first|(simp [inB]<;>fail)|(simp [inB];omega))) (he:=(by first|(simp [List.getD_eq_getElem?_getD,cellsD,hr,encR]<;>fail)|fail))|(refine Yt ?_;(first|refine rB ?_|refine rI ?_|refine rA ?_|refine rII ?_|refine rSI ?_|refine rT ?_|refine rS ?_);first|done|(skip))|(exact⟨i+1,⟨hlt,any_next hr hi.2 (by simp only [misR,hb,hkk];rfl)⟩,by omega,weak_of (by repeat' (first|exact trivial|refine⟨rfl,?_⟩|refine⟨(inc_get (k:=i) (by kernel_rfl) (by omega)),?_⟩))⟩)|((exfalso;(simp at h<;>omega)))|fail)
  ·have hie:i=x.rules.length:=by omega
   subst hie
   have hm:misX x=(!smallF x.sep || !capitalF x.start):=by unfold misX;rw [htk,any_end hi.2];simp
   rw [hm]
   have hsm:=refSmall x.sep (Nat.le_trans hf.sep (by decide))
   have hsc:=refCapital x.start (Nat.le_trans hf.start (by decide))
   cases hc1:smallF x.sep with
   |false =>
    rw [hc1] at hsm
    repeat' (first|refine Yg ?_|refine Yq ?_|(refine oB (frz:=[1]) Yo ?_ ?_<;>intro h<;>first|(exfalso;simp at h;first|done|omega)|skip)|(refine eB ?_ ?_<;>intro h<;>first|(exfalso;simp at h;first|done|omega)|skip)|refine oX (frz:=[1]) Yo ?_|refine oS ?_|refine Yn ?_|refine Yk ?_|refine cT ?_|refine cF ?_|refine Yb ?_|refine Ye ?_|refine Yd (frz:=[1]) Yo (by kernel_rfl) ?_|refine eX ?_|refine eS ?_|refine eN ?_|refine oC (hsm) ?_|refine eC (hsm) ?_|refine oC (hsc) ?_|refine eC (hsc) ?_|(refine Yt ?_;(first|refine rB ?_|refine rI ?_|refine rA ?_|refine rII ?_|refine rSI ?_|refine rT ?_|refine rS ?_);first|done|(rfl))|((exfalso;(simp at h<;>omega)))|fail)
   |true =>
    rw [hc1] at hsm
    cases hc2:capitalF x.start with
    |false =>
     rw [hc2] at hsc
     repeat' (first|refine Yg ?_|refine Yq ?_|(refine oB (frz:=[1]) Yo ?_ ?_<;>intro h<;>first|(exfalso;simp at h;first|done|omega)|skip)|(refine eB ?_ ?_<;>intro h<;>first|(exfalso;simp at h;first|done|omega)|skip)|refine oX (frz:=[1]) Yo ?_|refine oS ?_|refine Yn ?_|refine Yk ?_|refine cT ?_|refine cF ?_|refine Yb ?_|refine Ye ?_|refine Yd (frz:=[1]) Yo (by kernel_rfl) ?_|refine eX ?_|refine eS ?_|refine eN ?_|refine oC (hsm) ?_|refine eC (hsm) ?_|refine oC (hsc) ?_|refine eC (hsc) ?_|(refine Yt ?_;(first|refine rB ?_|refine rI ?_|refine rA ?_|refine rII ?_|refine rSI ?_|refine rT ?_|refine rS ?_);first|done|(rfl))|((exfalso;(simp at h<;>omega)))|fail)
    |true =>
     rw [hc2] at hsc
     repeat' (first|refine Yg ?_|refine Yq ?_|(refine oB (frz:=[1]) Yo ?_ ?_<;>intro h<;>first|(exfalso;simp at h;first|done|omega)|skip)|(refine eB ?_ ?_<;>intro h<;>first|(exfalso;simp at h;first|done|omega)|skip)|refine oX (frz:=[1]) Yo ?_|refine oS ?_|refine Yn ?_|refine Yk ?_|refine cT ?_|refine cF ?_|refine Yb ?_|refine Ye ?_|refine Yd (frz:=[1]) Yo (by kernel_rfl) ?_|refine eX ?_|refine eS ?_|refine eN ?_|refine oC (hsm) ?_|refine eC (hsm) ?_|refine oC (hsc) ?_|refine eC (hsc) ?_|(refine Yt ?_;(first|refine rB ?_|refine rI ?_|refine rA ?_|refine rII ?_|refine rSI ?_|refine rT ?_|refine rS ?_);first|done|(rfl))|((exfalso;(simp at h<;>omega)))|fail)
end Go.Av
end
noncomputable section
namespace Go.Av
open Go Go.Proofs
set_option maxRecDepth 10000
def hasF (l:List (List Nat)) (s:List Nat):Bool:=l.any fun y=>decide (y=s)
def usesR (s:List Nat) (r:SRule):Bool:=r.alts.any (fun a=>hasF a s)
def usesX (x:Src) (s:List Nat):Bool:=x.rules.any (usesR s)
theorem uses08 (x:Src) (t:List Nat) (hf:FitsX x):KnownCall Tryz.prog 132 [encX x,.str t] (.d (.bool (usesX x t))):=by
 have hrl:=hf.rules
 refine knownE Yo (fnAt Tryz.func132 (by kernel_rfl) (by kernel_rfl):FnAt _ _ (mkFn Tryz.f132 [2])) ?_
 repeat' (first|refine Yg ?_|refine Yq ?_|(refine oB (frz:=[2]) Yo ?_ ?_<;>intro h<;>first|(exfalso;simp at h;first|done|omega)|skip)|(refine eB ?_ ?_<;>intro h<;>first|(exfalso;simp at h;first|done|omega)|skip)|refine oX (frz:=[2]) Yo ?_|refine oS ?_|refine Yn ?_|refine Yk ?_|refine cT ?_|refine cF ?_|refine Yb ?_|refine Ye ?_|refine Yd (frz:=[2]) Yo (by kernel_rfl) ?_|refine eX ?_|refine eS ?_|refine eN ?_|(refine Yt ?_;(first|refine rB ?_|refine rI ?_|refine rA ?_|refine rII ?_|refine rSI ?_|refine rT ?_|refine rS ?_);first|done|(skip))|fail)
 refine Run.loop (fun i:Nat=>⟨PT.ofList [(1,.d (.str t)),(2,cellX x),(5,.d (.int .i64 i))],[],[]⟩) (fun i=>i≤x.rules.length∧(x.rules.take i).any (usesR t)=false) (fun i=>x.rules.length-i) 0 ⟨Nat.zero_le _,rfl⟩ (weak_of (by repeat' (first|exact trivial|refine⟨rfl,?_⟩))) (fun i hi=>?_)
 rcases Nat.lt_or_ge i x.rules.length with hlt|hge
 ·obtain⟨r,hr⟩:=get_ok hlt
  have hmem:=List.mem_of_getElem? hr
  have hra:=hf.alts r hmem
  repeat' (first|refine Yg ?_|refine Yq ?_|(refine oB (frz:=[2]) Yo ?_ ?_<;>intro h<;>first|(exfalso;simp at h;first|done|omega)|skip)|(refine eB ?_ ?_<;>intro h<;>first|(exfalso;simp at h;first|done|omega)|skip)|refine oX (frz:=[2]) Yo ?_|refine oS ?_|refine Yn ?_|refine Yk ?_|refine cT ?_|refine cF ?_|refine Yb ?_|refine Ye ?_|refine Yd (frz:=[2]) Yo (by kernel_rfl) ?_|refine eX ?_|refine eS ?_|refine eN ?_|(refine Yt ?_;(first|refine rB ?_|refine rI ?_|refine rA ?_|refine rII ?_|refine rSI ?_|refine rT ?_|refine rS ?_);first|done|(skip))|((exfalso;(simp at h<;>omega)))|fail)
  refine Run.loop (fun k:Nat=>⟨PT.ofList [(1,.d (.str t)),(2,cellX x),(5,.d (.int .i64 i)),(6,.d (.int .i64 k))],[],[]⟩) (fun k=>k≤r.alts.length∧(r.alts.take k).any (fun a=>hasF a t)=false) (fun k=>r.alts.length-k) 0 ⟨Nat.zero_le _,rfl⟩ (weak_of (by repeat' (first|exact trivial|refine⟨rfl,?_⟩))) (fun k hk=>?_)
  rcases Nat.lt_or_ge k r.alts.length with hkl|hkg
  ·obtain⟨a,ha⟩:=get_ok hkl
   have hh:=has08 a t (Nat.le_trans (hf.names r hmem a (List.mem_of_getElem? ha)) (by decide))
   cases hb:hasF a t with
   |true =>
    rw [show(a.any fun y=>decide (y=t))=true from hb] at hh
    have hu:usesX x t=true:=any_hit hr (p:=usesR t) (any_hit ha (p:=fun a=>hasF a t) hb)
    rw [hu]
    repeat' (first|refine Yg ?_|refine Yq ?_|(refine oB (frz:=[2]) Yo ?_ ?_<;>intro h<;>first|(exfalso;simp at h;first|done|omega)|skip)|(refine eB ?_ ?_<;>intro h<;>first|(exfalso;simp at h;first|done|omega)|skip)|refine oX (frz:=[2]) Yo ?_|refine oS ?_|refine Yn ?_|refine Yk ?_|refine cT ?_|refine cF ?_|refine Yb ?_|refine Ye ?_|refine Yd (frz:=[2]) Yo (by kernel_rfl) ?_|refine eX ?_|refine eS ?_|refine eN ?_|refine oX (frz:=[2]) (v:=.d (.ep [.str r.name,alts r.alts])) Yo ?_ (hf:=(by first|(simp [inB]<;>fail)|(simp [inB];omega))) (he:=(by first|(simp [List.getD_eq_getElem?_getD,cellsD,hr,encR]<;>fail)|fail))|refine eX (v:=.d (.ep [.str r.name,alts r.alts])) ?_ (hf:=(by first|(simp [inB]<;>fail)|(simp [inB];omega))) (he:=(by first|(simp [List.getD_eq_getElem?_getD,cellsD,hr,encR]<;>fail)|fail))|refine oX (frz:=[2]) (v:=.d (.ep [strs a])) Yo ?_ (hf:=(by first|(simp [inB]<;>fail)|(simp [inB];omega))) (he:=(by first|(simp [List.getD_eq_getElem?_getD,cellsD,ha]<;>fail)|fail))|refine eX (v:=.d (.ep [strs a])) ?_ (hf:=(by first|(simp [inB]<;>fail)|(simp [inB];omega))) (he:=(by first|(simp [List.getD_eq_getElem?_getD,cellsD,ha]<;>fail)|fail))|refine oC (hh) ?_|refine eC (hh) ?_|(refine Yt ?_;(first|refine rB ?_|refine rI ?_|refine rA ?_|refine rII ?_|refine rSI ?_|refine rT ?_|refine rS ?_);first|done|(rfl))|((exfalso;(simp at h<;>omega)))|fail)
   |false =>
    rw [show(a.any fun y=>decide (y=t))=false from hb] at hh
    repeat' (first|refine Yg ?_|refine Yq ?_|(refine oB (frz:=[2]) Yo ?_ ?_<;>intro h<;>first|(exfalso;simp at h;first|done|omega)|skip)|(refine eB ?_ ?_<;>intro h<;>first|(exfalso;simp at h;first|done|omega)|skip)|refine oX (frz:=[2]) Yo ?_|refine oS ?_|refine Yn ?_|refine Yk ?_|refine cT ?_|refine cF ?_|refine Yb ?_|refine Ye ?_|refine Yd (frz:=[2]) Yo (by kernel_rfl) ?_|refine eX ?_|refine eS ?_|refine eN ?_|refine oX (frz:=[2]) (v:=.d (.ep [.str r.name,alts r.alts])) Yo ?_ (hf:=(by first|(simp [inB]<;>fail)|(simp [inB];omega))) (he:=(by first|(simp [List.getD_eq_getElem?_getD,cellsD,hr,encR]<;>fail)|fail))|refine eX (v:=.d (.ep [.str r.name,alts r.alts])) ?_ (hf:=(by first|(simp [inB]<;>fail)|(simp [inB];omega))) (he:=(by first|(simp [List.getD_eq_getElem?_getD,cellsD,hr,encR]<;>fail)|fail))|refine oX (frz:=[2]) (v:=.d (.ep [strs a])) Yo ?_ (hf:=(by first|(simp [inB]<;>fail)|(simp [inB];omega))) (he:=(by first|(simp [List.getD_eq_getElem?_getD,cellsD,ha]<;>fail)|fail))|refine eX (v:=.d (.ep [strs a])) ?_ (hf:=(by first|(simp [inB]<;>fail)|(simp [inB];omega))) (he:=(by first|(simp [List.getD_eq_getElem?_getD,cellsD,ha]<;>fail)|fail))|refine oC (hh) ?_|refine eC (hh) ?_|(refine Yt ?_;(first|refine rB ?_|refine rI ?_|refine rA ?_|refine rII ?_|refine rSI ?_|refine rT ?_|refine rS ?_);first|done|(skip))|(exact⟨k+1,⟨hkl,any_next ha hk.2 hb⟩,by omega,weak_of (by repeat' (first|exact trivial|refine⟨rfl,?_⟩|refine⟨(inc_get (k:=k) (by kernel_rfl) (by omega)),?_⟩))⟩)|((exfalso;(simp at h<;>omega)))|fail)
  ·have hke:k=r.alts.length:=by omega
   subst hke
   have hkk:=any_end hk.2
   repeat' (first|refine Yg ?_|refine Yq ?_|(refine oB (frz:=[2]) Yo ?_ ?_<;>intro h<;>first|(exfalso;simp at h;first|done|omega)|skip)|(refine eB ?_ ?_<;>intro h<;>first|(exfalso;simp at h;first|done|omega)|skip)|refine oX (frz:=[2]) Yo ?_|refine oS ?_|refine Yn ?_|refine Yk ?_|refine cT ?_|refine cF ?_|refine Yb ?_|refine Ye ?_|refine Yd (frz:=[2]) Yo (by kernel_rfl) ?_|refine eX ?_|refine eS ?_|refine eN ?_|refine oX (frz:=[2]) (v:=.d (.ep [.str r.name,alts r.alts])) Yo ?_ (hf:=(by first|(simp [inB]<;>fail)|(simp [inB];omega))) (he:=(by first|(simp [List.getD_eq_getElem?_getD,cellsD,hr,encR]<;>fail)|fail))|refine eX (v:=.d (.ep [.str r.name,alts r.alts])) ?_ (hf:=(by first|(simp [inB]<;>fail)|(simp [inB];omega))) (he:=(by first|(simp [List.getD_eq_getElem?_getD,cellsD,hr,encR]<;>fail)|fail))|(refine Yt ?_;(first|refine rB ?_|refine rI ?_|refine rA ?_|refine rII ?_|refine rSI ?_|refine rT ?_|refine rS ?_);first|done|(skip))|(exact⟨i+1,⟨hlt,any_next hr hi.2 hkk⟩,by omega,weak_of (by repeat' (first|exact trivial|refine⟨rfl,?_⟩|refine⟨(inc_get (k:=i) (by kernel_rfl) (by omega)),?_⟩))⟩)|((exfalso;(simp at h<;>omega)))|fail)
 ·have hie:i=x.rules.length:=by omega
  subst hie
  rw [show usesX x t=false from any_end hi.2]
  repeat' (first|refine Yg ?_|refine Yq ?_|(refine oB (frz:=[2]) Yo ?_ ?_<;>intro h<;>first|(exfalso;simp at h;first|done|omega)|skip)|(refine eB ?_ ?_<;>intro h<;>first|(exfalso;simp at h;first|done|omega)|skip)|refine oX (frz:=[2]) Yo ?_|refine oS ?_|refine Yn ?_|refine Yk ?_|refine cT ?_|refine cF ?_|refine Yb ?_|refine Ye ?_|refine Yd (frz:=[2]) Yo (by kernel_rfl) ?_|refine eX ?_|refine eS ?_|refine eN ?_|(refine Yt ?_;(first|refine rB ?_|refine rI ?_|refine rA ?_|refine rII ?_|refine rSI ?_|refine rT ?_|refine rS ?_);first|done|(rfl))|((exfalso;(simp at h<;>omega)))|fail)
abbrev ruleNames (x:Src):List (List Nat):=x.rules.map (·.name)
def unkS (x:Src) (s:List Nat):Bool:=!hasF (ruleNames x) s && !hasF x.tokens s
def unkR (x:Src) (r:SRule):Bool:=r.alts.any (fun a=>a.any (unkS x))
def unkX (x:Src):Bool:=x.rules.any (unkR x) || !hasF (ruleNames x) x.start
theorem unknown08 (x:Src) (hf:FitsX x):KnownCall Tryz.prog 133 [encX x] (.d (.bool (unkX x))):=by
 have hrl:=hf.rules
 have htl:=hf.tokens
 have hrn:=rules08 x hf
 have hnl:(ruleNames x).length≤1099511627776:=by simp;omega
 obtain⟨ns,hns⟩:∃ ns,ns=ruleNames x:=⟨_,rfl⟩
 rw [show x.rules.map (·.name)=ns from hns.symm] at hrn
 rw [← hns] at hnl
 have hunk:∀ s,unkS x s=(!hasF ns s && !hasF x.tokens s):=fun s=>by rw [hns];rfl
 refine knownE Yo (fnAt Tryz.func133 (by kernel_rfl) (by kernel_rfl):FnAt _ _ (mkFn Tryz.f133 [1])) ?_
 repeat' (first|refine Yg ?_|refine Yq ?_|(refine oB (frz:=[1]) Yo ?_ ?_<;>intro h<;>first|(exfalso;simp at h;first|done|omega)|skip)|(refine eB ?_ ?_<;>intro h<;>first|(exfalso;simp at h;first|done|omega)|skip)|refine oX (frz:=[1]) Yo ?_|refine oS ?_|refine Yn ?_|refine Yk ?_|refine cT ?_|refine cF ?_|refine Yb ?_|refine Ye ?_|refine Yd (frz:=[1]) Yo (by kernel_rfl) ?_|refine eX ?_|refine eS ?_|refine eN ?_|(refine oK (hrn) ?_ ?_<;>intro h<;>first|(exfalso;simp at h;first|done|omega)|skip)|refine oC (hrn) ?_|(refine eK (hrn) ?_ ?_<;>intro h<;>first|(exfalso;simp at h;first|done|omega)|skip)|refine eC (hrn) ?_|(refine Yt ?_;(first|refine rB ?_|refine rI ?_|refine rA ?_|refine rII ?_|refine rSI ?_|refine rT ?_|refine rS ?_);first|done|(skip))|fail)
 refine Run.loop (fun i:Nat=>⟨PT.ofList [(1,cellX x),(3,.d (strs ns)),(4,.d (.int .i64 i))],[],[]⟩) (fun i=>i≤x.rules.length∧(x.rules.take i).any (unkR x)=false) (fun i=>x.rules.length-i) 0 ⟨Nat.zero_le _,rfl⟩ (weak_of (by repeat' (first|exact trivial|refine⟨rfl,?_⟩))) (fun i hi=>?_)
 rcases Nat.lt_or_ge i x.rules.length with hlt|hge
 ·obtain⟨r,hr⟩:=get_ok hlt
  have hmem:=List.mem_of_getElem? hr
  have hra:=hf.alts r hmem
  repeat' (first|refine Yg ?_|refine Yq ?_|(refine oB (frz:=[1]) Yo ?_ ?_<;>intro h<;>first|(exfalso;simp at h;first|done|omega)|skip)|(refine eB ?_ ?_<;>intro h<;>first|(exfalso;simp at h;first|done|omega)|skip)|refine oX (frz:=[1]) Yo ?_|refine oS ?_|refine Yn ?_|refine Yk ?_|refine cT ?_|refine cF ?_|refine Yb ?_|refine Ye ?_|refine Yd (frz:=[1]) Yo (by kernel_rfl) ?_|refine eX ?_|refine eS ?_|refine eN ?_|(refine Yt ?_;(first|refine rB ?_|refine rI ?_|refine rA ?_|refine rII ?_|refine rSI ?_|refine rT ?_|refine rS ?_);first|done|(skip))|((exfalso;(simp at h<;>omega)))|fail)
  refine Run.loop (fun k:Nat=>⟨PT.ofList [(1,cellX x),(3,.d (strs ns)),(4,.d (.int .i64 i)),(5,.d (.int .i64 k))],[],[]⟩) (fun k=>k≤r.alts.length∧(r.alts.take k).any (fun a=>a.any (unkS x))=false) (fun k=>r.alts.length-k) 0 ⟨Nat.zero_le _,rfl⟩ (weak_of (by repeat' (first|exact trivial|refine⟨rfl,?_⟩))) (fun k hk=>?_)
  rcases Nat.lt_or_ge k r.alts.length with hkl|hkg
  ·obtain⟨a,ha⟩:=get_ok hkl
   have hmema:=List.mem_of_getElem? ha
   have hal:=hf.names r hmem a hmema
   repeat' (first|refine Yg ?_|refine Yq ?_|(refine oB (frz:=[1]) Yo ?_ ?_<;>intro h<;>first|(exfalso;simp at h;first|done|omega)|skip)|(refine eB ?_ ?_<;>intro h<;>first|(exfalso;simp at h;first|done|omega)|skip)|refine oX (frz:=[1]) Yo ?_|refine oS ?_|refine Yn ?_|refine Yk ?_|refine cT ?_|refine cF ?_|refine Yb ?_|refine Ye ?_|refine Yd (frz:=[1]) Yo (by kernel_rfl) ?_|refine eX ?_|refine eS ?_|refine eN ?_|refine oX (frz:=[1]) (v:=.d (.ep [.str r.name,alts r.alts])) Yo ?_ (hf:=(by first|(simp [inB]<;>fail)|(simp [inB];omega))) (he:=(by first|(simp [List.getD_eq_getElem?_getD,cellsD,hr,encR]<;>fail)|fail))|refine eX (v:=.d (.ep [.str r.name,alts r.alts])) ?_ (hf:=(by first|(simp [inB]<;>fail)|(simp [inB];omega))) (he:=(by first|(simp [List.getD_eq_getElem?_getD,cellsD,hr,encR]<;>fail)|fail))|(refine Yt ?_;(first|refine rB ?_|refine rI ?_|refine rA ?_|refine rII ?_|refine rSI ?_|refine rT ?_|refine rS ?_);first|done|(skip))|((exfalso;(simp at h<;>omega)))|fail)
   refine Run.loop (fun j:Nat=>⟨PT.ofList [(1,cellX x),(3,.d (strs ns)),(4,.d (.int .i64 i)),(5,.d (.int .i64 k)),(6,.d (.int .i64 j))],[],[]⟩) (fun j=>j≤a.length∧(a.take j).any (unkS x)=false) (fun j=>a.length-j) 0 ⟨Nat.zero_le _,rfl⟩ (weak_of (by repeat' (first|exact trivial|refine⟨rfl,?_⟩))) (fun j hj=>?_)
   rcases Nat.lt_or_ge j a.length with hjl|hjg
   ·obtain⟨s,hs⟩:=get_ok hjl
    have h1:=has08 ns s hnl
    have h2:=has08 x.tokens s (Nat.le_trans htl (by decide))
    have hu:=hunk s
    cases hc1:hasF ns s with
    |true =>
     rw [show(ns.any fun y=>decide (y=s))=true from hc1] at h1
     rw [hc1] at hu
     repeat' (first|refine Yg ?_|refine Yq ?_|(refine oB (frz:=[1]) Yo ?_ ?_<;>intro h<;>first|(exfalso;simp at h;first|done|omega)|skip)|(refine eB ?_ ?_<;>intro h<;>first|(exfalso;simp at h;first|done|omega)|skip)|refine oX (frz:=[1]) Yo ?_|refine oS ?_|refine Yn ?_|refine Yk ?_|refine cT ?_|refine cF ?_|refine Yb ?_|refine Ye ?_|refine Yd (frz:=[1]) Yo (by kernel_rfl) ?_|refine eX ?_|refine eS ?_|refine eN ?_|refine oX (frz:=[1]) (v:=.d (.ep [.str r.name,alts r.alts])) Yo ?_ (hf:=(by first|(simp [inB]<;>fail)|(simp [inB];omega))) (he:=(by first|(simp [List.getD_eq_getElem?_getD,cellsD,hr,encR]<;>fail)|fail))|refine eX (v:=.d (.ep [.str r.name,alts r.alts])) ?_ (hf:=(by first|(simp [inB]<;>fail)|(simp [inB];omega))) (he:=(by first|(simp [List.getD_eq_getElem?_getD,cellsD,hr,encR]<;>fail)|fail))|refine oX (frz:=[1]) (v:=.d (.ep [strs a])) Yo ?_ (hf:=(by first|(simp [inB]<;>fail)|(simp [inB];omega))) (he:=(by first|(simp [List.getD_eq_getElem?_getD,cellsD,ha]<;>fail)|fail))|refine eX (v:=.d (.ep [strs a])) ?_ (hf:=(by first|(simp [inB]<;>fail)|(simp [inB];omega))) (he:=(by first|(simp [List.getD_eq_getElem?_getD,cellsD,ha]<;>fail)|fail))|refine oX (frz:=[1]) (v:=.d (.ep [.str s])) Yo ?_ (hf:=(by first|(simp [inB]<;>fail)|(simp [inB];omega))) (he:=(by first|(simp [List.getD_eq_getElem?_getD,cellsD,hs]<;>fail)|fail))|refine eX (v:=.d (.ep [.str s])) ?_ (hf:=(by first|(simp [inB]<;>fail)|(simp [inB];omega))) (he:=(by first|(simp [List.getD_eq_getElem?_getD,cellsD,hs]<;>fail)|fail))|refine oC (h1) ?_|refine eC (h1) ?_|refine oC (h2) ?_|refine eC (h2) ?_|(refine Yt ?_;(first|refine rB ?_|refine rI ?_|refine rA ?_|refine rII ?_|refine rSI ?_|refine rT ?_|refine rS ?_);first|done|(skip))|(exact⟨j+1,⟨hjl,any_next hs hj.2 (by rw [hu];rfl)⟩,by omega,weak_of (by repeat' (first|exact trivial|refine⟨rfl,?_⟩|refine⟨(inc_get (k:=j) (by kernel_rfl) (by omega)),?_⟩))⟩)|((exfalso;(simp at h<;>omega)))|fail)
    |false =>
     rw [show(ns.any fun y=>decide (y=s))=false from hc1] at h1
     rw [hc1] at hu
     cases hc2:hasF x.tokens s with
     |true =>
      rw [show(x.tokens.any fun y=>decide (y=s))=true from hc2] at h2
      rw [hc2] at hu
      repeat' (first|refine Yg ?_|refine Yq ?_|(refine oB (frz:=[1]) Yo ?_ ?_<;>intro h<;>first|(exfalso;simp at h;first|done|omega)|skip)|(refine eB ?_ ?_<;>intro h<;>first|(exfalso;simp at h;first|done|omega)|skip)|refine oX (frz:=[1]) Yo ?_|refine oS ?_|refine Yn ?_|refine Yk ?_|refine cT ?_|refine cF ?_|refine Yb ?_|refine Ye ?_|refine Yd (frz:=[1]) Yo (by kernel_rfl) ?_|refine eX ?_|refine eS ?_|refine eN ?_|refine oX (frz:=[1]) (v:=.d (.ep [.str r.name,alts r.alts])) Yo ?_ (hf:=(by first|(simp [inB]<;>fail)|(simp [inB];omega))) (he:=(by first|(simp [List.getD_eq_getElem?_getD,cellsD,hr,encR]<;>fail)|fail))|refine eX (v:=.d (.ep [.str r.name,alts r.alts])) ?_ (hf:=(by first|(simp [inB]<;>fail)|(simp [inB];omega))) (he:=(by first|(simp [List.getD_eq_getElem?_getD,cellsD,hr,encR]<;>fail)|fail))|refine oX (frz:=[1]) (v:=.d (.ep [strs a])) Yo ?_ (hf:=(by first|(simp [inB]<;>fail)|(simp [inB];omega))) (he:=(by first|(simp [List.getD_eq_getElem?_getD,cellsD,ha]<;>fail)|fail))|refine eX (v:=.d (.ep [strs a])) ?_ (hf:=(by first|(simp [inB]<;>fail)|(simp [inB];omega))) (he:=(by first|(simp [List.getD_eq_getElem?_getD,cellsD,ha]<;>fail)|fail))|refine oX (frz:=[1]) (v:=.d (.ep [.str s])) Yo ?_ (hf:=(by first|(simp [inB]<;>fail)|(simp [inB];omega))) (he:=(by first|(simp [List.getD_eq_getElem?_getD,cellsD,hs]<;>fail)|fail))|refine eX (v:=.d (.ep [.str s])) ?_ (hf:=(by first|(simp [inB]<;>fail)|(simp [inB];omega))) (he:=(by first|(simp [List.getD_eq_getElem?_getD,cellsD,hs]<;>fail)|fail))|refine oC (h1) ?_|refine eC (h1) ?_|refine oC (h2) ?_|refine eC (h2) ?_|(refine Yt ?_;(first|refine rB ?_|refine rI ?_|refine rA ?_|refine rII ?_|refine rSI ?_|refine rT ?_|refine rS ?_);first|done|(skip))|(exact⟨j+1,⟨hjl,any_next hs hj.2 (by rw [hu];rfl)⟩,by omega,weak_of (by repeat' (first|exact trivial|refine⟨rfl,?_⟩|refine⟨(inc_get (k:=j) (by kernel_rfl) (by omega)),?_⟩))⟩)|((exfalso;(simp at h<;>omega)))|fail)
     |false =>
      rw [show(x.tokens.any fun y=>decide (y=s))=false from hc2] at h2
      rw [hc2] at hu
      have hm:unkX x=true:=by unfold unkX;rw [any_hit hr (p:=unkR x) (by unfold unkR;exact any_hit ha (p:=fun a=>a.any (unkS x)) (any_hit hs (by rw [hu];rfl)))];rfl
      rw [hm]
      repeat' (first|refine Yg ?_|refine Yq ?_|(refine oB (frz:=[1]) Yo ?_ ?_<;>intro h<;>first|(exfalso;simp at h;first|done|omega)|skip)|(refine eB ?_ ?_<;>intro h<;>first|(exfalso;simp at h;first|done|omega)|skip)|refine oX (frz:=[1]) Yo ?_|refine oS ?_|refine Yn ?_|refine Yk ?_|refine cT ?_|refine cF ?_|refine Yb ?_|refine Ye ?_|refine Yd (frz:=[1]) Yo (by kernel_rfl) ?_|refine eX ?_|refine eS ?_|refine eN ?_|refine oX (frz:=[1]) (v:=.d (.ep [.str r.name,alts r.alts])) Yo ?_ (hf:=(by first|(simp [inB]<;>fail)|(simp [inB];omega))) (he:=(by first|(simp [List.getD_eq_getElem?_getD,cellsD,hr,encR]<;>fail)|fail))|refine eX (v:=.d (.ep [.str r.name,alts r.alts])) ?_ (hf:=(by first|(simp [inB]<;>fail)|(simp [inB];omega))) (he:=(by first|(simp [List.getD_eq_getElem?_getD,cellsD,hr,encR]<;>fail)|fail))|refine oX (frz:=[1]) (v:=.d (.ep [strs a])) Yo ?_ (hf:=(by first|(simp [inB]<;>fail)|(simp [inB];omega))) (he:=(by first|(simp [List.getD_eq_getElem?_getD,cellsD,ha]<;>fail)|fail))|refine eX (v:=.d (.ep [strs a])) ?_ (hf:=(by first|(simp [inB]<;>fail)|(simp [inB];omega))) (he:=(by first|(simp [List.getD_eq_getElem?_getD,cellsD,ha]<;>fail)|fail))|refine oX (frz:=[1]) (v:=.d (.ep [.str s])) Yo ?_ (hf:=(by first|(simp [inB]<;>fail)|(simp [inB];omega))) (he:=(by first|(simp [List.getD_eq_getElem?_getD,cellsD,hs]<;>fail)|fail))|refine eX (v:=.d (.ep [.str s])) ?_ (hf:=(by first|(simp [inB]<;>fail)|(simp [inB];omega))) (he:=(by first|(simp [List.getD_eq_getElem?_getD,cellsD,hs]<;>fail)|fail))|refine oC (h1) ?_|refine eC (h1) ?_|refine oC (h2) ?_|refine eC (h2) ?_|(refine Yt ?_;(first|refine rB ?_|refine rI ?_|refine rA ?_|refine rII ?_|refine rSI ?_|refine rT ?_|refine rS ?_);first|done|(rfl))|((exfalso;(simp at h<;>omega)))|fail)
   ·have hje:j=a.length:=by omega
    subst hje
    have haa:=any_end hj.2
    repeat' (first|refine Yg ?_|refine Yq ?_|(refine oB (frz:=[1]) Yo ?_ ?_<;>intro h<;>first|(exfalso;simp at h;first|done|omega)|skip)|(refine eB ?_ ?_<;>intro h<;>first|(exfalso;simp at h;first|done|omega)|skip)|refine oX (frz:=[1]) Yo ?_|refine oS ?_|refine Yn ?_|refine Yk ?_|refine cT ?_|refine cF ?_|refine Yb ?_|refine Ye ?_|refine Yd (frz:=[1]) Yo (by kernel_rfl) ?_|refine eX ?_|refine eS ?_|refine eN ?_|refine oX (frz:=[1]) (v:=.d (.ep [.str r.name,alts r.alts])) Yo ?_ (hf:=(by first|(simp [inB]<;>fail)|(simp [inB];omega))) (he:=(by first|(simp [List.getD_eq_getElem?_getD,cellsD,hr,encR]<;>fail)|fail))|refine eX (v:=.d (.ep [.str r.name,alts r.alts])) ?_ (hf:=(by first|(simp [inB]<;>fail)|(simp [inB];omega))) (he:=(by first|(simp [List.getD_eq_getElem?_getD,cellsD,hr,encR]<;>fail)|fail))|refine oX (frz:=[1]) (v:=.d (.ep [strs a])) Yo ?_ (hf:=(by first|(simp [inB]<;>fail)|(simp [inB];omega))) (he:=(by first|(simp [List.getD_eq_getElem?_getD,cellsD,ha]<;>fail)|fail))|refine eX (v:=.d (.ep [strs a])) ?_ (hf:=(by first|(simp [inB]<;>fail)|(simp [inB];omega))) (he:=(by first|(simp [List.getD_eq_getElem?_getD,cellsD,ha]<;>fail)|fail))|(refine Yt ?_;(first|refine rB ?_|refine rI ?_|refine rA ?_|refine rII ?_|refine rSI ?_|refine rT ?_|refine rS ?_);first|done|(skip))|(exact⟨k+1,⟨hkl,any_next ha hk.2 haa⟩,by omega,weak_of (by repeat' (first|exact trivial|refine⟨rfl,?_⟩|refine⟨(inc_get (k:=k) (by kernel_rfl) (by omega)),?_⟩))⟩)|((exfalso;(simp at h<;>omega)))|fail)
  ·have hke:k=r.alts.length:=by omega
   subst hke
   have hkk:=any_end hk.2
   repeat' (first|refine Yg ?_|refine Yq ?_|(refine oB (frz:=[1]) Yo ?_ ?_<;>intro h<;>first|(exfalso;simp at h;first|done|omega)|skip)|(refine eB ?_ ?_<;>intro h<;>first|(exfalso;simp at h;first|done|omega)|skip)|refine oX (frz:=[1]) Yo ?_|refine oS ?_|refine Yn ?_|refine Yk ?_|refine cT ?_|refine cF ?_|refine Yb ?_|refine Ye ?_|refine Yd (frz:=[1]) Yo (by kernel_rfl) ?_|refine eX ?_|refine eS ?_|refine eN ?_|refine oX (frz:=[1]) (v:=.d (.ep [.str r.name,alts r.alts])) Yo ?_ (hf:=(by first|(simp [inB]<;>fail)|(simp [inB];omega))) (he:=(by first|(simp [List.getD_eq_getElem?_getD,cellsD,hr,encR]<;>fail)|fail))|refine eX (v:=.d (.ep [.str r.name,alts r.alts])) ?_ (hf:=(by first|(simp [inB]<;>fail)|(simp [inB];omega))) (he:=(by first|(simp [List.getD_eq_getElem?_getD,cellsD,hr,encR]<;>fail)|fail))|(refine Yt ?_;(first|refine rB ?_|refine rI ?_|refine rA ?_|refine rII ?_|refine rSI ?_|refine rT ?_|refine rS ?_);first|done|(skip))|(exact⟨i+1,⟨hlt,any_next hr hi.2 hkk⟩,by omega,weak_of (by repeat' (first|exact trivial|refine⟨rfl,?_⟩|refine⟨(inc_get (k:=i) (by kernel_rfl) (by omega)),?_⟩))⟩)|((exfalso;(simp at h<;>omega)))|fail)
 ·have hie:i=x.rules.length:=by omega
  subst hie
  have h1:=has08 ns x.start hnl
  have hm:unkX x=!hasF ns x.start:=by unfold unkX;rw [any_end hi.2,hns];rfl
  rw [hm]
  cases hc1:hasF ns x.start with
  |true =>
   rw [show(ns.any fun y=>decide (y=x.start))=true from hc1] at h1
   repeat' (first|refine Yg ?_|refine Yq ?_|(refine oB (frz:=[1]) Yo ?_ ?_<;>intro h<;>first|(exfalso;simp at h;first|done|omega)|skip)|(refine eB ?_ ?_<;>intro h<;>first|(exfalso;simp at h;first|done|omega)|skip)|refine oX (frz:=[1]) Yo ?_|refine oS ?_|refine Yn ?_|refine Yk ?_|refine cT ?_|refine cF ?_|refine Yb ?_|refine Ye ?_|refine Yd (frz:=[1]) Yo (by kernel_rfl) ?_|refine eX ?_|refine eS ?_|refine eN ?_|refine oC (h1) ?_|refine eC (h1) ?_|(refine Yt ?_;(first|refine rB ?_|refine rI ?_|refine rA ?_|refine rII ?_|refine rSI ?_|refine rT ?_|refine rS ?_);first|done|(rfl))|((exfalso;(simp at h<;>omega)))|fail)
  |false =>
   rw [show(ns.any fun y=>decide (y=x.start))=false from hc1] at h1
   repeat' (first|refine Yg ?_|refine Yq ?_|(refine oB (frz:=[1]) Yo ?_ ?_<;>intro h<;>first|(exfalso;simp at h;first|done|omega)|skip)|(refine eB ?_ ?_<;>intro h<;>first|(exfalso;simp at h;first|done|omega)|skip)|refine oX (frz:=[1]) Yo ?_|refine oS ?_|refine Yn ?_|refine Yk ?_|refine cT ?_|refine cF ?_|refine Yb ?_|refine Ye ?_|refine Yd (frz:=[1]) Yo (by kernel_rfl) ?_|refine eX ?_|refine eS ?_|refine eN ?_|refine oC (h1) ?_|refine eC (h1) ?_|(refine Yt ?_;(first|refine rB ?_|refine rI ?_|refine rA ?_|refine rII ?_|refine rSI ?_|refine rT ?_|refine rS ?_);first|done|(rfl))|((exfalso;(simp at h<;>omega)))|fail)
def smallsX (x:Src):List (List Nat):=x.tokens++[x.sep]
def twoX (x:Src):Bool:=decide (¬ (smallsX x).Nodup) || decide (¬ (ruleNames x).Nodup)
def checkX (x:Src):Int:=if x.k<1∨4<x.k then 2 else if shortX x=true then 5 else if fullX x=true then 6 else if misX x=true then 12 else if twoX x=true then 8 else if usesX x x.sep=true then 14 else if unkX x=true then 7 else 0
theorem strs_smallsX (x:Src):DV.sl 1 ([]++x.tokens.map DV.str++[DV.str x.sep])=strs (smallsX x):=by simp [smallsX]
theorem checkX_k {x:Src} (h:x.k<1∨4<x.k):checkX x=2:=if_pos h
theorem check08 (x:Src) (hf:FitsX x):KnownCall Tryz.prog 36 [encX x] (.d (.int .i64 (checkX x))):=by
 have htl:=hf.tokens
 have hrl:=hf.rules
 have c1:=short08 x hf
 have c2:=full08 x hf
 have c3:=misnamed08 x hf
 have c4:=twice08 (smallsX x) (by simp [smallsX];omega)
 have c5:=rules08 x hf
 have c6:=twice08 (ruleNames x) (by simp;omega)
 have c7:=uses08 x x.sep hf
 have c8:=unknown08 x hf
 rw [← strs_smallsX] at c4
 by_cases hk:x.k<1∨4<x.k
 ·rw [checkX_k hk]
  by_cases hk1:x.k<1
  ·refine knownE Yo (fnAt Tryz.func36 (by kernel_rfl) (by kernel_rfl):FnAt _ _ (mkFn Tryz.f36 [1,28])) ?_
   repeat' (first|refine Yg ?_|refine Yq ?_|(refine oB (frz:=[1,28]) Yo ?_ ?_<;>intro h<;>first|(exfalso;simp at h;first|done|omega)|skip)|(refine eB ?_ ?_<;>intro h<;>first|(exfalso;simp at h;first|done|omega)|skip)|refine oX (frz:=[1,28]) Yo ?_|refine oS ?_|refine Yn ?_|refine Yk ?_|refine cT ?_|refine cF ?_|refine Yb ?_|refine Ye ?_|refine Yd (frz:=[1,28]) Yo (by kernel_rfl) ?_|refine eX ?_|refine eS ?_|refine eN ?_|(refine Yt ?_;(first|refine rB ?_|refine rI ?_|refine rA ?_|refine rII ?_|refine rSI ?_|refine rT ?_|refine rS ?_);first|done|(rfl))|((exfalso;(simp at h<;>omega)))|fail)
  ·have hk4:4<x.k:=by omega
   refine knownE Yo (fnAt Tryz.func36 (by kernel_rfl) (by kernel_rfl):FnAt _ _ (mkFn Tryz.f36 [1,28])) ?_
   repeat' (first|refine Yg ?_|refine Yq ?_|(refine oB (frz:=[1,28]) Yo ?_ ?_<;>intro h<;>first|(exfalso;simp at h;first|done|omega)|skip)|(refine eB ?_ ?_<;>intro h<;>first|(exfalso;simp at h;first|done|omega)|skip)|refine oX (frz:=[1,28]) Yo ?_|refine oS ?_|refine Yn ?_|refine Yk ?_|refine cT ?_|refine cF ?_|refine Yb ?_|refine Ye ?_|refine Yd (frz:=[1,28]) Yo (by kernel_rfl) ?_|refine eX ?_|refine eS ?_|refine eN ?_|(refine Yt ?_;(first|refine rB ?_|refine rI ?_|refine rA ?_|refine rII ?_|refine rSI ?_|refine rT ?_|refine rS ?_);first|done|(rfl))|((exfalso;(simp at h<;>omega)))|fail)
 ·have hk1:¬ x.k<1:=fun h=>hk (.inl h)
  have hk4:¬ 4<x.k:=fun h=>hk (.inr h)
  have hc:checkX x=if shortX x=true then 5 else if fullX x=true then 6 else if misX x=true then 12 else if(decide (¬ (smallsX x).Nodup) || decide (¬ (ruleNames x).Nodup))=true then 8 else if usesX x x.sep=true then 14 else if unkX x=true then 7 else 0:=if_neg hk
  rw [hc]
  generalize shortX x=b1 at c1 ⊢
  generalize fullX x=b2 at c2 ⊢
  generalize misX x=b3 at c3 ⊢
  generalize decide (¬ (smallsX x).Nodup)=b4 at c4 ⊢
  generalize decide (¬ (ruleNames x).Nodup)=b5 at c6 ⊢
  generalize usesX x x.sep=b6 at c7 ⊢
  generalize unkX x=b7 at c8 ⊢
  cases b1 with
  |true =>
   refine knownE Yo (fnAt Tryz.func36 (by kernel_rfl) (by kernel_rfl):FnAt _ _ (mkFn Tryz.f36 [1,28])) ?_
   repeat' (first|refine Yg ?_|refine Yq ?_|(refine oB (frz:=[1,28]) Yo ?_ ?_<;>intro h<;>first|(exfalso;simp at h;first|done|omega)|skip)|(refine eB ?_ ?_<;>intro h<;>first|(exfalso;simp at h;first|done|omega)|skip)|refine oX (frz:=[1,28]) Yo ?_|refine oS ?_|refine Yn ?_|refine Yk ?_|refine cT ?_|refine cF ?_|refine Yb ?_|refine Ye ?_|refine Yd (frz:=[1,28]) Yo (by kernel_rfl) ?_|refine eX ?_|refine eS ?_|refine eN ?_|refine oC (c1) ?_|refine eC (c1) ?_|(refine Yt ?_;(first|refine rB ?_|refine rI ?_|refine rA ?_|refine rII ?_|refine rSI ?_|refine rT ?_|refine rS ?_);first|done|(rfl))|((exfalso;(simp at h<;>omega)))|fail)
  |false =>
   cases b2 with
   |true =>
    refine knownE Yo (fnAt Tryz.func36 (by kernel_rfl) (by kernel_rfl):FnAt _ _ (mkFn Tryz.f36 [1,28])) ?_
    repeat' (first|refine Yg ?_|refine Yq ?_|(refine oB (frz:=[1,28]) Yo ?_ ?_<;>intro h<;>first|(exfalso;simp at h;first|done|omega)|skip)|(refine eB ?_ ?_<;>intro h<;>first|(exfalso;simp at h;first|done|omega)|skip)|refine oX (frz:=[1,28]) Yo ?_|refine oS ?_|refine Yn ?_|refine Yk ?_|refine cT ?_|refine cF ?_|refine Yb ?_|refine Ye ?_|refine Yd (frz:=[1,28]) Yo (by kernel_rfl) ?_|refine eX ?_|refine eS ?_|refine eN ?_|refine oC (c1) ?_|refine eC (c1) ?_|refine oC (c2) ?_|refine eC (c2) ?_|(refine Yt ?_;(first|refine rB ?_|refine rI ?_|refine rA ?_|refine rII ?_|refine rSI ?_|refine rT ?_|refine rS ?_);first|done|(rfl))|((exfalso;(simp at h<;>omega)))|fail)
   |false =>
    cases b3 with
    |true =>
     refine knownE Yo (fnAt Tryz.func36 (by kernel_rfl) (by kernel_rfl):FnAt _ _ (mkFn Tryz.f36 [1,28])) ?_
     repeat' (first|refine Yg ?_|refine Yq ?_|(refine oB (frz:=[1,28]) Yo ?_ ?_<;>intro h<;>first|(exfalso;simp at h;first|done|omega)|skip)|(refine eB ?_ ?_<;>intro h<;>first|(exfalso;simp at h;first|done|omega)|skip)|refine oX (frz:=[1,28]) Yo ?_|refine oS ?_|refine Yn ?_|refine Yk ?_|refine cT ?_|refine cF ?_|refine Yb ?_|refine Ye ?_|refine Yd (frz:=[1,28]) Yo (by kernel_rfl) ?_|refine eX ?_|refine eS ?_|refine eN ?_|refine oC (c1) ?_|refine eC (c1) ?_|refine oC (c2) ?_|refine eC (c2) ?_|refine oC (c3) ?_|refine eC (c3) ?_|(refine Yt ?_;(first|refine rB ?_|refine rI ?_|refine rA ?_|refine rII ?_|refine rSI ?_|refine rT ?_|refine rS ?_);first|done|(rfl))|((exfalso;(simp at h<;>omega)))|fail)
    |false =>
     refine knownE Yo (fnAt Tryz.func36 (by kernel_rfl) (by kernel_rfl):FnAt _ _ (mkFn Tryz.f36 [1,28])) ?_
     repeat' (first|refine Yg ?_|refine Yq ?_|(refine oB (frz:=[1,28]) Yo ?_ ?_<;>intro h<;>first|(exfalso;simp at h;first|done|omega)|skip)|(refine eB ?_ ?_<;>intro h<;>first|(exfalso;simp at h;first|done|omega)|skip)|refine oX (frz:=[1,28]) Yo ?_|refine oS ?_|refine Yn ?_|refine Yk ?_|refine cT ?_|refine cF ?_|refine Yb ?_|refine Ye ?_|refine Yd (frz:=[1,28]) Yo (by kernel_rfl) ?_|refine eX ?_|refine eS ?_|refine eN ?_|refine oC (c1) ?_|refine eC (c1) ?_|refine oC (c2) ?_|refine eC (c2) ?_|refine oC (c3) ?_|refine eC (c3) ?_|(refine oLb (c4) ?_ ?_<;>intro h<;>first|(exfalso;simp at h;first|done|omega)|skip)|refine oL (c4) ?_|(refine eLb (c4) ?_ ?_<;>intro h<;>first|(exfalso;simp at h;first|done|omega)|skip)|refine eL (c4) ?_|(refine oK (c5) ?_ ?_<;>intro h<;>first|(exfalso;simp at h;first|done|omega)|skip)|refine oC (c5) ?_|(refine eK (c5) ?_ ?_<;>intro h<;>first|(exfalso;simp at h;first|done|omega)|skip)|refine eC (c5) ?_|(refine oK (c6) ?_ ?_<;>intro h<;>first|(exfalso;simp at h;first|done|omega)|skip)|refine oC (c6) ?_|(refine eK (c6) ?_ ?_<;>intro h<;>first|(exfalso;simp at h;first|done|omega)|skip)|refine eC (c6) ?_|(refine oK (c7) ?_ ?_<;>intro h<;>first|(exfalso;simp at h;first|done|omega)|skip)|refine oC (c7) ?_|(refine eK (c7) ?_ ?_<;>intro h<;>first|(exfalso;simp at h;first|done|omega)|skip)|refine eC (c7) ?_|(refine oK (c8) ?_ ?_<;>intro h<;>first|(exfalso;simp at h;first|done|omega)|skip)|refine oC (c8) ?_|(refine eK (c8) ?_ ?_<;>intro h<;>first|(exfalso;simp at h;first|done|omega)|skip)|refine eC (c8) ?_|refine oX (frz:=[1,28]) Yo ?_ (hv:=app1) (hf:=rfl) (he:=rfl)|refine eX ?_ (hv:=app1) (hf:=rfl) (he:=rfl)|refine oX (frz:=[1,28]) Yo ?_ (hv:=app0) (hf:=rfl) (he:=rfl)|refine eX ?_ (hv:=app0) (hf:=rfl) (he:=rfl)|(refine Yt ?_;(first|refine rB ?_|refine rI ?_|refine rA ?_|refine rII ?_|refine rSI ?_|refine rT ?_|refine rS ?_);first|done|(first|rfl|(simp_all<;>fail)))|((exfalso;(simp at h<;>omega)))|((exfalso;simp_all<;>fail))|fail)
end Go.Av
end
noncomputable section
namespace Go.Av
open Go Go.Proofs
set_option maxRecDepth 10000
theorem indexFuncStrs (l:List (List Nat)) (hl:l.length≤1099511627776) (F:FuncId) (caps:List DV) (p:(List Nat)→Bool) (hp:∀ x ∈ l,KnownCall Tryz.prog F ((.str x) :: caps) (.d (.bool (p x)))) :
  KnownCall Tryz.prog 237 [(.sl 1 (l.map .str)),.fn (.func F) [] caps] (.d (.int .i64 (idxP l p))):=by
 refine knownE Yo (fnAt Tryz.func237 (by kernel_rfl) (by kernel_rfl):FnAt _ _ (mkFn Tryz.f237 [])) ?_
 repeat' (first|refine Yg ?_|refine Yq ?_|(refine oB (frz:=[]) Yo ?_ ?_<;>intro h<;>first|(exfalso;simp at h;first|done|omega)|skip)|(refine eB ?_ ?_<;>intro h<;>first|(exfalso;simp at h;first|done|omega)|skip)|refine oX (frz:=[]) Yo ?_|refine oS ?_|refine Yn ?_|refine Yk ?_|refine cT ?_|refine cF ?_|refine Yb ?_|refine Ye ?_|refine Yd (frz:=[]) Yo (by kernel_rfl) ?_|refine eX ?_|refine eS ?_|refine eN ?_|(refine Yt ?_;(first|refine rB ?_|refine rI ?_|refine rA ?_|refine rII ?_|refine rSI ?_|refine rT ?_|refine rS ?_);first|done|(skip))|fail)
 refine Run.loop (fun i:Nat=>⟨PT.ofList [(0,.d (.sl 1 (l.map .str))),(1,.d (.fn (.func F) [] caps)),(7,.d (.int .i64 l.length)),(8,.d (.int .i64 i))],[],[]⟩) (fun i=>i≤l.length∧∀ j,j<i→∀ y,l[j]?=some y→p y=false) (fun i=>l.length-i) 0 ⟨Nat.zero_le _,fun j hj=>by omega⟩ (weak_of (by repeat' (first|exact trivial|refine⟨rfl,?_⟩|refine⟨Eq.trans (b:=some (.d (.int .i64 (l.map _).length))) rfl (by rw [List.length_map]),?_⟩|fail))) (fun i hi=>?_)
 obtain⟨hi1,hi2⟩:=hi
 rcases Nat.lt_or_ge i l.length with hlt|hge
 ·obtain⟨x,hx⟩:=get_ok hlt
  have hc:=hp x (List.mem_of_getElem? hx)
  repeat' (first|refine Yg ?_|refine Yq ?_|(refine oB (frz:=[]) Yo ?_ ?_<;>intro h<;>first|(exfalso;simp at h;first|done|omega)|skip)|(refine eB ?_ ?_<;>intro h<;>first|(exfalso;simp at h;first|done|omega)|skip)|refine oX (frz:=[]) Yo ?_|refine oS ?_|refine Yn ?_|refine Yk ?_|refine cT ?_|refine cF ?_|refine Yb ?_|refine Ye ?_|refine Yd (frz:=[]) Yo (by kernel_rfl) ?_|refine eX ?_|refine eS ?_|refine eN ?_|refine oX (frz:=[]) (v:=.d (.ep [.str x])) Yo ?_ (hf:=(by first|(simp [inB]<;>fail)|(simp [inB];omega))) (he:=(by first|(simp [List.getD_eq_getElem?_getD,cellsD,hx]<;>fail)|fail))|refine eX (v:=.d (.ep [.str x])) ?_ (hf:=(by first|(simp [inB]<;>fail)|(simp [inB];omega))) (he:=(by first|(simp [List.getD_eq_getElem?_getD,cellsD,hx]<;>fail)|fail))|(refine oK (hc) ?_ ?_<;>intro h<;>first|(exfalso;simp at h;first|done|omega)|skip)|refine oC (hc) ?_|(refine eK (hc) ?_ ?_<;>intro h<;>first|(exfalso;simp at h;first|done|omega)|skip)|refine eC (hc) ?_|(refine Yt ?_;(first|refine rB ?_|refine rI ?_|refine rA ?_|refine rII ?_|refine rSI ?_|refine rT ?_|refine rS ?_);first|done|(rw [idxP_at hx (by simp_all) hi2]))|(exact⟨i+1,⟨by omega,all_succ hi2 (fun q hq=>by rw [hx] at hq;cases hq;simp_all)⟩,by omega,weak_of (by repeat' (first|exact trivial|refine⟨rfl,?_⟩|refine⟨(inc_get (k:=i) (by kernel_rfl) (by omega)),?_⟩))⟩)|fail)
 ·have hge:i=l.length:=by omega
  repeat' (first|refine Yg ?_|refine Yq ?_|(refine oB (frz:=[]) Yo ?_ ?_<;>intro h<;>first|(exfalso;simp at h;first|done|omega)|skip)|(refine eB ?_ ?_<;>intro h<;>first|(exfalso;simp at h;first|done|omega)|skip)|refine oX (frz:=[]) Yo ?_|refine oS ?_|refine Yn ?_|refine Yk ?_|refine cT ?_|refine cF ?_|refine Yb ?_|refine Ye ?_|refine Yd (frz:=[]) Yo (by kernel_rfl) ?_|refine eX ?_|refine eS ?_|refine eN ?_|(refine Yt ?_;(first|refine rB ?_|refine rI ?_|refine rA ?_|refine rII ?_|refine rSI ?_|refine rT ?_|refine rS ?_);first|done|(rw [idxP_none (fun j hj=>hi2 j (by omega))]))|fail)
theorem containsFuncStrs (l:List (List Nat)) (hl:l.length≤1099511627776) (F:FuncId) (caps:List DV) (p:(List Nat)→Bool) (hp:∀ x ∈ l,KnownCall Tryz.prog F ((.str x) :: caps) (.d (.bool (p x)))) :
  KnownCall Tryz.prog 202 [(.sl 1 (l.map .str)),.fn (.func F) [] caps] (.d (.bool (l.any p))):=by
 refine knownE Yo (fnAt Tryz.func202 (by kernel_rfl) (by kernel_rfl):FnAt _ _ (mkFn Tryz.f202 [])) ?_
 have e:=idxP_any l p
 repeat' (first|refine Yg ?_|refine Yq ?_|(refine oB (frz:=[]) Yo ?_ ?_<;>intro h<;>first|(exfalso;simp at h;first|done|omega)|skip)|(refine eB ?_ ?_<;>intro h<;>first|(exfalso;simp at h;first|done|omega)|skip)|refine oX (frz:=[]) Yo ?_|refine oS ?_|refine Yn ?_|refine Yk ?_|refine cT ?_|refine cF ?_|refine Yb ?_|refine Ye ?_|refine Yd (frz:=[]) Yo (by kernel_rfl) ?_|refine eX ?_|refine eS ?_|refine eN ?_|(refine oK (indexFuncStrs _ hl _ _ _ hp) ?_ ?_<;>intro h<;>first|(exfalso;simp at h;first|done|omega)|skip)|refine oC (indexFuncStrs _ hl _ _ _ hp) ?_|(refine eK (indexFuncStrs _ hl _ _ _ hp) ?_ ?_<;>intro h<;>first|(exfalso;simp at h;first|done|omega)|skip)|refine eC (indexFuncStrs _ hl _ _ _ hp) ?_|(refine Yt ?_;(first|refine rB ?_|refine rI ?_|refine rA ?_|refine rII ?_|refine rSI ?_|refine rT ?_|refine rS ?_);first|done|(first|(rw [← e]<;>simp_all<;>fail)|fail))|fail)
theorem indexFuncRules (l:List SRule) (hl:l.length≤1099511627776) (F:FuncId) (caps:List DV) (p:SRule→Bool) (hp:∀ x ∈ l,KnownCall Tryz.prog F ((encR x) :: caps) (.d (.bool (p x)))) :
  KnownCall Tryz.prog 201 [(.sl 2 (l.map encR)),.fn (.func F) [] caps] (.d (.int .i64 (idxP l p))):=by
 refine knownE Yo (fnAt Tryz.func201 (by kernel_rfl) (by kernel_rfl):FnAt _ _ (mkFn Tryz.f201 [])) ?_
 repeat' (first|refine Yg ?_|refine Yq ?_|(refine oB (frz:=[]) Yo ?_ ?_<;>intro h<;>first|(exfalso;simp at h;first|done|omega)|skip)|(refine eB ?_ ?_<;>intro h<;>first|(exfalso;simp at h;first|done|omega)|skip)|refine oX (frz:=[]) Yo ?_|refine oS ?_|refine Yn ?_|refine Yk ?_|refine cT ?_|refine cF ?_|refine Yb ?_|refine Ye ?_|refine Yd (frz:=[]) Yo (by kernel_rfl) ?_|refine eX ?_|refine eS ?_|refine eN ?_|(refine Yt ?_;(first|refine rB ?_|refine rI ?_|refine rA ?_|refine rII ?_|refine rSI ?_|refine rT ?_|refine rS ?_);first|done|(skip))|fail)
 refine Run.loop (fun i:Nat=>⟨PT.ofList [(0,.d (.sl 2 (l.map encR))),(1,.d (.fn (.func F) [] caps)),(7,.d (.int .i64 l.length)),(8,.d (.int .i64 i))],[],[]⟩) (fun i=>i≤l.length∧∀ j,j<i→∀ y,l[j]?=some y→p y=false) (fun i=>l.length-i) 0 ⟨Nat.zero_le _,fun j hj=>by omega⟩ (weak_of (by repeat' (first|exact trivial|refine⟨rfl,?_⟩|refine⟨Eq.trans (b:=some (.d (.int .i64 (l.map _).length))) rfl (by rw [List.length_map]),?_⟩|fail))) (fun i hi=>?_)
 obtain⟨hi1,hi2⟩:=hi
 rcases Nat.lt_or_ge i l.length with hlt|hge
 ·obtain⟨x,hx⟩:=get_ok hlt
  have hc:=hp x (List.mem_of_getElem? hx)
  repeat' (first|refine Yg ?_|refine Yq ?_|(refine oB (frz:=[]) Yo ?_ ?_<;>intro h<;>first|(exfalso;simp at h;first|done|omega)|skip)|(refine eB ?_ ?_<;>intro h<;>first|(exfalso;simp at h;first|done|omega)|skip)|refine oX (frz:=[]) Yo ?_|refine oS ?_|refine Yn ?_|refine Yk ?_|refine cT ?_|refine cF ?_|refine Yb ?_|refine Ye ?_|refine Yd (frz:=[]) Yo (by kernel_rfl) ?_|refine eX ?_|refine eS ?_|refine eN ?_|refine oX (frz:=[]) (v:=.d (.ep [.str x.name,alts x.alts])) Yo ?_ (hf:=(by first|(simp [inB]<;>fail)|(simp [inB];omega))) (he:=(by first|(simp [List.getD_eq_getElem?_getD,cellsD,hx,encR]<;>fail)|fail))|refine eX (v:=.d (.ep [.str x.name,alts x.alts])) ?_ (hf:=(by first|(simp [inB]<;>fail)|(simp [inB];omega))) (he:=(by first|(simp [List.getD_eq_getElem?_getD,cellsD,hx,encR]<;>fail)|fail))|(refine oK (hc) ?_ ?_<;>intro h<;>first|(exfalso;simp at h;first|done|omega)|skip)|refine oC (hc) ?_|(refine eK (hc) ?_ ?_<;>intro h<;>first|(exfalso;simp at h;first|done|omega)|skip)|refine eC (hc) ?_|(refine Yt ?_;(first|refine rB ?_|refine rI ?_|refine rA ?_|refine rII ?_|refine rSI ?_|refine rT ?_|refine rS ?_);first|done|(rw [idxP_at hx (by simp_all) hi2]))|(exact⟨i+1,⟨by omega,all_succ hi2 (fun q hq=>by rw [hx] at hq;cases hq;simp_all)⟩,by omega,weak_of (by repeat' (first|exact trivial|refine⟨rfl,?_⟩|refine⟨(inc_get (k:=i) (by kernel_rfl) (by omega)),?_⟩))⟩)|fail)
 ·have hge:i=l.length:=by omega
  repeat' (first|refine Yg ?_|refine Yq ?_|(refine oB (frz:=[]) Yo ?_ ?_<;>intro h<;>first|(exfalso;simp at h;first|done|omega)|skip)|(refine eB ?_ ?_<;>intro h<;>first|(exfalso;simp at h;first|done|omega)|skip)|refine oX (frz:=[]) Yo ?_|refine oS ?_|refine Yn ?_|refine Yk ?_|refine cT ?_|refine cF ?_|refine Yb ?_|refine Ye ?_|refine Yd (frz:=[]) Yo (by kernel_rfl) ?_|refine eX ?_|refine eS ?_|refine eN ?_|(refine Yt ?_;(first|refine rB ?_|refine rI ?_|refine rA ?_|refine rII ?_|refine rSI ?_|refine rT ?_|refine rS ?_);first|done|(rw [idxP_none (fun j hj=>hi2 j (by omega))]))|fail)
theorem containsFuncRules (l:List SRule) (hl:l.length≤1099511627776) (F:FuncId) (caps:List DV) (p:SRule→Bool) (hp:∀ x ∈ l,KnownCall Tryz.prog F ((encR x) :: caps) (.d (.bool (p x)))) :
  KnownCall Tryz.prog 117 [(.sl 2 (l.map encR)),.fn (.func F) [] caps] (.d (.bool (l.any p))):=by
 refine knownE Yo (fnAt Tryz.func117 (by kernel_rfl) (by kernel_rfl):FnAt _ _ (mkFn Tryz.f117 [])) ?_
 have e:=idxP_any l p
 repeat' (first|refine Yg ?_|refine Yq ?_|(refine oB (frz:=[]) Yo ?_ ?_<;>intro h<;>first|(exfalso;simp at h;first|done|omega)|skip)|(refine eB ?_ ?_<;>intro h<;>first|(exfalso;simp at h;first|done|omega)|skip)|refine oX (frz:=[]) Yo ?_|refine oS ?_|refine Yn ?_|refine Yk ?_|refine cT ?_|refine cF ?_|refine Yb ?_|refine Ye ?_|refine Yd (frz:=[]) Yo (by kernel_rfl) ?_|refine eX ?_|refine eS ?_|refine eN ?_|(refine oK (indexFuncRules _ hl _ _ _ hp) ?_ ?_<;>intro h<;>first|(exfalso;simp at h;first|done|omega)|skip)|refine oC (indexFuncRules _ hl _ _ _ hp) ?_|(refine eK (indexFuncRules _ hl _ _ _ hp) ?_ ?_<;>intro h<;>first|(exfalso;simp at h;first|done|omega)|skip)|refine eC (indexFuncRules _ hl _ _ _ hp) ?_|(refine Yt ?_;(first|refine rB ?_|refine rI ?_|refine rA ?_|refine rII ?_|refine rSI ?_|refine rT ?_|refine rS ?_);first|done|(first|(rw [← e]<;>simp_all<;>fail)|fail))|fail)
def headsO (r0:SRule):List DV→List Ob
 |[]=>[]
 |_ :: l=>[.box [.d (.str r0.name),.d (alts r0.alts)],.room (l.length+1) 1]
theorem heads (x:Src) (hf:FitsX x):KnownCall Tryz.prog 115 [encX x] (.d (strs (x.rules.map (·.name)))):=by
 have hrl:=hf.rules
 obtain⟨r0,hr0⟩:∃ r0:SRule,∀ r,x.rules[0]?=some r→r=r0:=⟨(x.rules[0]?).getD ⟨[],[]⟩,fun r h=>by rw [h];rfl⟩
 refine knownE2 Yo (fnAt Tryz.func115 (by kernel_rfl) (by kernel_rfl):FnAt _ _ (mkFn Tryz.f115 [1,16])) ?_
 repeat' (first|refine Yg ?_|refine Yq ?_|(refine oB (frz:=[1,16]) Yo ?_ ?_<;>intro h<;>first|(exfalso;simp at h;first|done|omega)|skip)|(refine eB ?_ ?_<;>intro h<;>first|(exfalso;simp at h;first|done|omega)|skip)|refine oX (frz:=[1,16]) Yo ?_|refine oS ?_|refine Yn ?_|refine Yk ?_|refine cT ?_|refine cF ?_|refine Yb ?_|refine Ye ?_|refine Yd (frz:=[1,16]) Yo (by kernel_rfl) ?_|refine eX ?_|refine eS ?_|refine eN ?_|(refine Yt ?_;refine r2 ?_;first|done|(skip))|fail)
 refine Run.loopT (fun y:Nat × List DV=>⟨PT.ofList [(3,rowA 1 1 y.2),(7,.d (.sl 2 (x.rules.map encR))),(8,.d (.int .i64 (x.rules.map encR).length)),(9,.d (.int .i64 y.1))],headsO r0 y.2,[]⟩) (fun y=>y.1≤x.rules.length∧y.2=(x.rules.take y.1).map (fun r=>.str r.name)) (fun y=>x.rules.length-y.1) (0,[]) ⟨Nat.zero_le _,rfl⟩ (tidy_of (objs:=_) _ 0 (by rfl) rfl (by repeat' (first|exact trivial|refine⟨(Or.inl rfl),?_⟩|refine⟨(Or.inr rfl),?_⟩|fail)) (by repeat' (first|exact trivial|refine⟨rfl,?_⟩|fail)) rfl rfl) (fun y hy=>?_)
 obtain⟨i,acc⟩:=y
 obtain⟨hi1,hi2⟩:=hy
 simp only at hi1 hi2 ⊢
 have hal:acc.length≤i:=by rw [hi2];simp;omega
 rcases Nat.lt_or_ge i x.rules.length with hlt|hge
 ·obtain⟨r,hr⟩:=get_ok hlt
  have hnext:acc++[DV.str r.name]=(x.rules.take (i+1)).map (fun r=>.str r.name):=by rw [List.take_add_one,hr,hi2];simp
  rcases acc with _|⟨a,l⟩
  ·have hi0:i=0:=by
    have:=congrArg List.length hi2
    simp at this;omega
   have hrr:=hr0 r (by rw [← hi0];exact hr)
   subst hrr
   repeat' (first|refine Yg ?_|refine Yq ?_|(refine oB (frz:=[1,16]) Yo ?_ ?_<;>intro h<;>first|(exfalso;simp at h;first|done|omega)|skip)|(refine eB ?_ ?_<;>intro h<;>first|(exfalso;simp at h;first|done|omega)|skip)|refine oX (frz:=[1,16]) Yo ?_|refine oS ?_|refine Yn ?_|refine Yk ?_|refine cT ?_|refine cF ?_|refine Yb ?_|refine Ye ?_|refine Yd (frz:=[1,16]) Yo (by kernel_rfl) ?_|refine eX ?_|refine eS ?_|refine eN ?_|refine oX (frz:=[1,16]) (v:=.d (.ep [.str r.name,alts r.alts])) Yo ?_ (hf:=(by first|(simp [inB]<;>fail)|(simp [inB];omega))) (he:=(by first|(simp [List.getD_eq_getElem?_getD,cellsD,hr,encR]<;>fail)|fail))|refine eX (v:=.d (.ep [.str r.name,alts r.alts])) ?_ (hf:=(by first|(simp [inB]<;>fail)|(simp [inB];omega))) (he:=(by first|(simp [List.getD_eq_getElem?_getD,cellsD,hr,encR]<;>fail)|fail))|refine oX (frz:=[1,16]) Yo ?_ (hv:=app1) (hf:=rfl) (he:=rfl)|refine eX ?_ (hv:=app1) (hf:=rfl) (he:=rfl)|refine oX (frz:=[1,16]) Yo ?_ (hv:=app0) (hf:=rfl) (he:=rfl)|refine eX ?_ (hv:=app0) (hf:=rfl) (he:=rfl)|(refine Yt ?_;refine r2 ?_;first|done|(skip))|(exact⟨(i+1,[DV.str r.name]),⟨hlt,hnext⟩,by simp only;omega,(tidy_of (objs:=_) _ 2 (Eq.trans (b:=[.box [.d (.str r.name),.d (alts r.alts)],.room 1 1]) rfl (by first|rfl|(simp [rowA,rowO,headsO]<;>fail))) rfl (by repeat' (first|exact trivial|refine⟨(Or.inl rfl),?_⟩|refine⟨(Or.inl (inc_get (k:=i) (by kernel_rfl) (by omega))),?_⟩|refine⟨(Or.inr rfl),?_⟩|fail)) (by repeat' (first|exact trivial|refine⟨rfl,?_⟩|fail)) rfl rfl)⟩)|fail)
  ·have hal':l.length+1≤i:=hal
   repeat' (first|refine Yg ?_|refine Yq ?_|(refine oB (frz:=[1,16]) Yo ?_ ?_<;>intro h<;>first|(exfalso;simp at h;first|done|omega)|skip)|(refine eB ?_ ?_<;>intro h<;>first|(exfalso;simp at h;first|done|omega)|skip)|refine oX (frz:=[1,16]) Yo ?_|refine oS ?_|refine Yn ?_|refine Yk ?_|refine cT ?_|refine cF ?_|refine Yb ?_|refine Ye ?_|refine Yd (frz:=[1,16]) Yo (by kernel_rfl) ?_|refine eX ?_|refine eS ?_|refine eN ?_|refine oX (frz:=[1,16]) (v:=.d (.ep [.str r.name,alts r.alts])) Yo ?_ (hf:=(by first|(simp [inB]<;>fail)|(simp [inB];omega))) (he:=(by first|(simp [List.getD_eq_getElem?_getD,cellsD,hr,encR]<;>fail)|fail))|refine eX (v:=.d (.ep [.str r.name,alts r.alts])) ?_ (hf:=(by first|(simp [inB]<;>fail)|(simp [inB];omega))) (he:=(by first|(simp [List.getD_eq_getElem?_getD,cellsD,hr,encR]<;>fail)|fail))|refine oX (frz:=[1,16]) Yo ?_ (hv:=app1) (hf:=rfl) (he:=rfl)|refine eX ?_ (hv:=app1) (hf:=rfl) (he:=rfl)|refine oX (frz:=[1,16]) Yo ?_ (hv:=app0) (hf:=rfl) (he:=rfl)|refine eX ?_ (hv:=app0) (hf:=rfl) (he:=rfl)|(refine Yt ?_;refine r2 ?_;first|done|(skip))|(exact⟨(i+1,a :: (l++[DV.str r.name])),⟨hlt,hnext⟩,by simp only;omega,(tidy_of (objs:=_) _ 2 (Eq.trans (b:=[.box [.d (.str r0.name),.d (alts r0.alts)],.room (l.length+1+1) 1]) rfl (by first|rfl|(simp [rowA,rowO,headsO]<;>fail))) rfl (by repeat' (first|exact trivial|refine⟨(Or.inl rfl),?_⟩|refine⟨(Or.inl (inc_get (k:=i) (by kernel_rfl) (by omega))),?_⟩|refine⟨(Or.inr rfl),?_⟩|fail)) (by repeat' (first|exact trivial|refine⟨rfl,?_⟩|fail)) rfl rfl)⟩)|fail)
 ·have hge:i=x.rules.length:=by omega
  have he:(x.rules.map (·.name)).map DV.str=acc:=by rw [hi2,hge,List.take_length,List.map_map];rfl
  rw [show strs (x.rules.map (·.name))=.sl 1 ((x.rules.map (·.name)).map DV.str) from rfl,he]
  rcases acc with _|⟨a,l⟩
  ·repeat' (first|refine Yg ?_|refine Yq ?_|(refine oB (frz:=[1,16]) Yo ?_ ?_<;>intro h<;>first|(exfalso;simp at h;first|done|omega)|skip)|(refine eB ?_ ?_<;>intro h<;>first|(exfalso;simp at h;first|done|omega)|skip)|refine oX (frz:=[1,16]) Yo ?_|refine oS ?_|refine Yn ?_|refine Yk ?_|refine cT ?_|refine cF ?_|refine Yb ?_|refine Ye ?_|refine Yd (frz:=[1,16]) Yo (by kernel_rfl) ?_|refine eX ?_|refine eS ?_|refine eN ?_|(refine Yt ?_;refine r2 ?_;first|done|(exact .d .nil))|fail)
  ·repeat' (first|refine Yg ?_|refine Yq ?_|(refine oB (frz:=[1,16]) Yo ?_ ?_<;>intro h<;>first|(exfalso;simp at h;first|done|omega)|skip)|(refine eB ?_ ?_<;>intro h<;>first|(exfalso;simp at h;first|done|omega)|skip)|refine oX (frz:=[1,16]) Yo ?_|refine oS ?_|refine Yn ?_|refine Yk ?_|refine cT ?_|refine cF ?_|refine Yb ?_|refine Ye ?_|refine Yd (frz:=[1,16]) Yo (by kernel_rfl) ?_|refine eX ?_|refine eS ?_|refine eN ?_|(refine Yt ?_;refine r2 ?_;first|done|(exact .refl))|fail)
theorem twiceS (l:List (List Nat)) (hl:l.length≤1099511627776):KnownCall Tryz.prog 124 [strs l] (.d (.bool (decide (¬ l.Nodup)))):=by
 refine knownE Yo (fnAt Tryz.func124 (by kernel_rfl) (by kernel_rfl):FnAt _ _ (mkFn Tryz.f124 [])) ?_
 repeat' (first|refine Yg ?_|refine Yq ?_|(refine oB (frz:=[]) Yo ?_ ?_<;>intro h<;>first|(exfalso;simp at h;first|done|omega)|skip)|(refine eB ?_ ?_<;>intro h<;>first|(exfalso;simp at h;first|done|omega)|skip)|refine oX (frz:=[]) Yo ?_|refine oS ?_|refine Yn ?_|refine Yk ?_|refine cT ?_|refine cF ?_|refine Yb ?_|refine Ye ?_|refine Yd (frz:=[]) Yo (by kernel_rfl) ?_|refine eX ?_|refine eS ?_|refine eN ?_|(refine Yt ?_;(first|refine rB ?_|refine rI ?_|refine rA ?_|refine rII ?_|refine rSI ?_|refine rT ?_|refine rS ?_);first|done|(skip))|fail)
 refine Run.loop (fun i:Nat=>⟨PT.ofList [(0,.d (strs l)),(5,.d (strs l)),(6,.d (.int .i64 (l.map DV.str).length)),(7,.d (.int .i64 i))],[],[]⟩) (fun i=>i≤l.length∧(l.take i).Nodup) (fun i=>l.length-i) 0 ⟨Nat.zero_le _,by simp⟩ (weak_of (by repeat' (first|exact trivial|refine⟨rfl,?_⟩))) (fun i hi=>?_)
 rcases Nat.lt_or_ge i l.length with hlt|hge
 ·obtain⟨x,hx⟩:=get_ok hlt
  have hh:=contains (l.take i) x (by simp;omega)
  have hc:AV.d (DV.sl 1 (cutL none (some (i:Int)) (l.map DV.str)))=.d (strs (l.take i)):=by simp [cutL,List.map_take]
  by_cases hm:x ∈ l.take i
  ·rw [decide_eq_true hm] at hh
   rw [decide_eq_true (nodup_not hx hm)]
   repeat' (first|refine Yg ?_|refine Yq ?_|(refine oB (frz:=[]) Yo ?_ ?_<;>intro h<;>first|(exfalso;simp at h;first|done|omega)|skip)|(refine eB ?_ ?_<;>intro h<;>first|(exfalso;simp at h;first|done|omega)|skip)|refine oX (frz:=[]) Yo ?_|refine oS ?_|refine Yn ?_|refine Yk ?_|refine cT ?_|refine cF ?_|refine Yb ?_|refine Ye ?_|refine Yd (frz:=[]) Yo (by kernel_rfl) ?_|refine eX ?_|refine eS ?_|refine eN ?_|refine oC (hh) ?_|refine eC (hh) ?_|refine oX (frz:=[]) (v:=.d (.ep [.str x])) Yo ?_ (hf:=(by first|(simp [inB]<;>fail)|(simp [inB];omega))) (he:=(by first|(simp [List.getD_eq_getElem?_getD,cellsD,hx]<;>fail)|fail))|refine eX (v:=.d (.ep [.str x])) ?_ (hf:=(by first|(simp [inB]<;>fail)|(simp [inB];omega))) (he:=(by first|(simp [List.getD_eq_getElem?_getD,cellsD,hx]<;>fail)|fail))|refine oX (frz:=[]) (v:=.d (strs (l.take i))) Yo ?_ (hf:=by first|(simp [cutC,maxC]<;>fail)|(simp [cutC,maxC];omega)) (he:=hc)|(refine Yt ?_;(first|refine rB ?_|refine rI ?_|refine rA ?_|refine rII ?_|refine rSI ?_|refine rT ?_|refine rS ?_);first|done|(rfl))|((exfalso;(simp at h<;>omega)))|fail)
  ·rw [decide_eq_false hm] at hh
   have hn:=nodup_take hx hi.2 hm
   repeat' (first|refine Yg ?_|refine Yq ?_|(refine oB (frz:=[]) Yo ?_ ?_<;>intro h<;>first|(exfalso;simp at h;first|done|omega)|skip)|(refine eB ?_ ?_<;>intro h<;>first|(exfalso;simp at h;first|done|omega)|skip)|refine oX (frz:=[]) Yo ?_|refine oS ?_|refine Yn ?_|refine Yk ?_|refine cT ?_|refine cF ?_|refine Yb ?_|refine Ye ?_|refine Yd (frz:=[]) Yo (by kernel_rfl) ?_|refine eX ?_|refine eS ?_|refine eN ?_|refine oC (hh) ?_|refine eC (hh) ?_|refine oX (frz:=[]) (v:=.d (.ep [.str x])) Yo ?_ (hf:=(by first|(simp [inB]<;>fail)|(simp [inB];omega))) (he:=(by first|(simp [List.getD_eq_getElem?_getD,cellsD,hx]<;>fail)|fail))|refine eX (v:=.d (.ep [.str x])) ?_ (hf:=(by first|(simp [inB]<;>fail)|(simp [inB];omega))) (he:=(by first|(simp [List.getD_eq_getElem?_getD,cellsD,hx]<;>fail)|fail))|refine oX (frz:=[]) (v:=.d (strs (l.take i))) Yo ?_ (hf:=by first|(simp [cutC,maxC]<;>fail)|(simp [cutC,maxC];omega)) (he:=hc)|(refine Yt ?_;(first|refine rB ?_|refine rI ?_|refine rA ?_|refine rII ?_|refine rSI ?_|refine rT ?_|refine rS ?_);first|done|((exfalso;(simp at h<;>omega))))|(exact⟨i+1,⟨hlt,hn⟩,by omega,weak_of (by repeat' (first|exact trivial|refine⟨rfl,?_⟩|refine⟨(inc_get (k:=i) (by kernel_rfl) (by omega)),?_⟩))⟩)|fail)
 ·have hie:i=l.length:=by omega
  subst hie
  have hn:=hi.2
  rw [List.take_length] at hn
  rw [decide_eq_false (by simpa using hn)]
  repeat' (first|refine Yg ?_|refine Yq ?_|(refine oB (frz:=[]) Yo ?_ ?_<;>intro h<;>first|(exfalso;simp at h;first|done|omega)|skip)|(refine eB ?_ ?_<;>intro h<;>first|(exfalso;simp at h;first|done|omega)|skip)|refine oX (frz:=[]) Yo ?_|refine oS ?_|refine Yn ?_|refine Yk ?_|refine cT ?_|refine cF ?_|refine Yb ?_|refine Ye ?_|refine Yd (frz:=[]) Yo (by kernel_rfl) ?_|refine eX ?_|refine eS ?_|refine eN ?_|(refine Yt ?_;(first|refine rB ?_|refine rI ?_|refine rA ?_|refine rII ?_|refine rSI ?_|refine rT ?_|refine rS ?_);first|done|(rfl))|((exfalso;(simp at h<;>omega)))|fail)
theorem fullX_all {x:Src} (h:(x.rules.take x.rules.length).any (fun r=>r.alts.any longA)=false):fullX x=(decide (8<x.tokens.length) || decide (8<x.rules.length) || decide (24<sumTo x x.rules.length)):=by
 unfold fullX
 rw [any_end h];simp
theorem fullS (x:Src) (hf:FitsX x):KnownCall Tryz.prog 119 [encX x] (.d (.bool (fullX x))):=by
 have hrl:=hf.rules
 refine knownE Yo (fnAt Tryz.func119 (by kernel_rfl) (by kernel_rfl):FnAt _ _ (mkFn Tryz.f119 [1])) ?_
 repeat' (first|refine Yg ?_|refine Yq ?_|(refine oB (frz:=[1]) Yo ?_ ?_<;>intro h<;>first|(exfalso;simp at h;first|done|omega)|skip)|(refine eB ?_ ?_<;>intro h<;>first|(exfalso;simp at h;first|done|omega)|skip)|refine oX (frz:=[1]) Yo ?_|refine oS ?_|refine Yn ?_|refine Yk ?_|refine cT ?_|refine cF ?_|refine Yb ?_|refine Ye ?_|refine Yd (frz:=[1]) Yo (by kernel_rfl) ?_|refine eX ?_|refine eS ?_|refine eN ?_|(refine Yt ?_;(first|refine rB ?_|refine rI ?_|refine rA ?_|refine rII ?_|refine rSI ?_|refine rT ?_|refine rS ?_);first|done|(skip))|fail)
 refine Run.loopT (fun i:Nat=>⟨PT.ofList [(1,cellX x),(3,.d (.int .i64 (sumTo x i:Nat))),(9,.d (.sl 2 (x.rules.map encR))),(10,.d (.int .i64 (x.rules.map encR).length)),(11,.d (.int .i64 i))],[],[]⟩) (fun i=>i≤x.rules.length∧(x.rules.take i).any (fun r=>r.alts.any longA)=false) (fun i=>x.rules.length-i) 0 ⟨Nat.zero_le _,rfl⟩ (tidy_of (objs:=_) _ 0 (by rfl) rfl (by repeat' (first|exact trivial|refine⟨(Or.inl rfl),?_⟩|refine⟨(Or.inr rfl),?_⟩|fail)) (by repeat' (first|exact trivial|refine⟨rfl,?_⟩|fail)) rfl rfl) (fun i hi=>?_)
 obtain⟨hi1,hi3⟩:=hi
 rcases Nat.lt_or_ge i x.rules.length with hlt|hge
 ·obtain⟨r,hr⟩:=get_ok hlt
  have hra:=hf.alts r (List.mem_of_getElem? hr)
  have hsl:=sumTo_le hf (i:=i) hi1
  have hsum:AV.d (.int .i64 (IntKind.i64.wrap ((sumTo x i:Nat)+((r.alts.map strs).length:Int))))=.d (.int .i64 (sumTo x (i+1):Nat)):=vN8 (by rw [sumTo_succ hr];simp) (by rw [sumTo_succ hr];omega)
  repeat' (first|refine oX (frz:=[1]) (v:=.d (.int .i64 (sumTo x (i+1):Nat))) Yo ?_ (he:=(hsum))|refine eX (v:=.d (.int .i64 (sumTo x (i+1):Nat))) ?_ (he:=(hsum))|refine Yg ?_|refine Yq ?_|(refine oB (frz:=[1]) Yo ?_ ?_<;>intro h<;>first|(exfalso;simp at h;first|done|omega)|skip)|(refine eB ?_ ?_<;>intro h<;>first|(exfalso;simp at h;first|done|omega)|skip)|refine oX (frz:=[1]) Yo ?_|refine oS ?_|refine Yn ?_|refine Yk ?_|refine cT ?_|refine cF ?_|refine Yb ?_|refine Ye ?_|refine Yd (frz:=[1]) Yo (by kernel_rfl) ?_|refine eX ?_|refine eS ?_|refine eN ?_|refine oX (frz:=[1]) (v:=.d (.ep [.str r.name,alts r.alts])) Yo ?_ (hf:=(by first|(simp [inB]<;>fail)|(simp [inB];omega))) (he:=(by first|(simp [List.getD_eq_getElem?_getD,cellsD,hr,encR]<;>fail)|fail))|refine eX (v:=.d (.ep [.str r.name,alts r.alts])) ?_ (hf:=(by first|(simp [inB]<;>fail)|(simp [inB];omega))) (he:=(by first|(simp [List.getD_eq_getElem?_getD,cellsD,hr,encR]<;>fail)|fail))|(refine Yt ?_;(first|refine rB ?_|refine rI ?_|refine rA ?_|refine rII ?_|refine rSI ?_|refine rT ?_|refine rS ?_);first|done|(skip))|((exfalso;(simp at h<;>omega)))|fail)
  refine Run.loopT (fun k:Nat=>⟨PT.ofList [(1,cellX x),(3,.d (.int .i64 (sumTo x (i+1):Nat))),(9,.d (.sl 2 (x.rules.map encR))),(10,.d (.int .i64 (x.rules.map encR).length)),(11,.d (.int .i64 i)),(21,.d (alts r.alts)),(22,.d (.int .i64 (r.alts.map strs).length)),(23,.d (.int .i64 k))],[],[]⟩) (fun k=>k≤r.alts.length∧(r.alts.take k).any longA=false) (fun k=>r.alts.length-k) 0 ⟨Nat.zero_le _,rfl⟩ (tidy_of (objs:=_) _ 0 (by rfl) rfl (by repeat' (first|exact trivial|refine⟨(Or.inl rfl),?_⟩|refine⟨(Or.inr rfl),?_⟩|fail)) (by repeat' (first|exact trivial|refine⟨rfl,?_⟩|fail)) rfl rfl) (fun k hk=>?_)
  obtain⟨hk1,hk3⟩:=hk
  rcases Nat.lt_or_ge k r.alts.length with hkl|hkg
  ·obtain⟨a,ha⟩:=get_ok hkl
   cases hla:longA a with
   |true =>
    have hfx:fullX x=true:=by unfold fullX;rw [any_hit hr (p:=fun r=>r.alts.any longA) (any_hit ha hla)];rfl
    have hla':6<a.length:=by simpa [longA] using hla
    rw [hfx]
    repeat' (first|refine Yg ?_|refine Yq ?_|(refine oB (frz:=[1]) Yo ?_ ?_<;>intro h<;>first|(exfalso;simp at h;first|done|omega)|skip)|(refine eB ?_ ?_<;>intro h<;>first|(exfalso;simp at h;first|done|omega)|skip)|refine oX (frz:=[1]) Yo ?_|refine oS ?_|refine Yn ?_|refine Yk ?_|refine cT ?_|refine cF ?_|refine Yb ?_|refine Ye ?_|refine Yd (frz:=[1]) Yo (by kernel_rfl) ?_|refine eX ?_|refine eS ?_|refine eN ?_|refine oX (frz:=[1]) (v:=.d (.ep [strs a])) Yo ?_ (hf:=(by first|(simp [inB]<;>fail)|(simp [inB];omega))) (he:=(by first|(simp [List.getD_eq_getElem?_getD,cellsD,ha]<;>fail)|fail))|refine eX (v:=.d (.ep [strs a])) ?_ (hf:=(by first|(simp [inB]<;>fail)|(simp [inB];omega))) (he:=(by first|(simp [List.getD_eq_getElem?_getD,cellsD,ha]<;>fail)|fail))|(refine Yt ?_;(first|refine rB ?_|refine rI ?_|refine rA ?_|refine rII ?_|refine rSI ?_|refine rT ?_|refine rS ?_);first|done|(rfl))|((exfalso;(simp at h<;>omega)))|fail)
   |false =>
    have hla':¬ 6<a.length:=by simpa [longA] using hla
    repeat' (first|refine Yg ?_|refine Yq ?_|(refine oB (frz:=[1]) Yo ?_ ?_<;>intro h<;>first|(exfalso;simp at h;first|done|omega)|skip)|(refine eB ?_ ?_<;>intro h<;>first|(exfalso;simp at h;first|done|omega)|skip)|refine oX (frz:=[1]) Yo ?_|refine oS ?_|refine Yn ?_|refine Yk ?_|refine cT ?_|refine cF ?_|refine Yb ?_|refine Ye ?_|refine Yd (frz:=[1]) Yo (by kernel_rfl) ?_|refine eX ?_|refine eS ?_|refine eN ?_|refine oX (frz:=[1]) (v:=.d (.ep [strs a])) Yo ?_ (hf:=(by first|(simp [inB]<;>fail)|(simp [inB];omega))) (he:=(by first|(simp [List.getD_eq_getElem?_getD,cellsD,ha]<;>fail)|fail))|refine eX (v:=.d (.ep [strs a])) ?_ (hf:=(by first|(simp [inB]<;>fail)|(simp [inB];omega))) (he:=(by first|(simp [List.getD_eq_getElem?_getD,cellsD,ha]<;>fail)|fail))|(refine Yt ?_;(first|refine rB ?_|refine rI ?_|refine rA ?_|refine rII ?_|refine rSI ?_|refine rT ?_|refine rS ?_);first|done|((exfalso;(simp at h<;>omega))))|(exact⟨k+1,⟨by omega,any_next ha hk3 hla⟩,by omega,(tidy_of (objs:=_) _ 0 (by rfl) rfl (by repeat' (first|exact trivial|refine⟨(Or.inl rfl),?_⟩|refine⟨(Or.inl (inc_get (k:=k) (by kernel_rfl) (by omega))),?_⟩|refine⟨(Or.inr rfl),?_⟩|fail)) (by repeat' (first|exact trivial|refine⟨rfl,?_⟩|fail)) rfl rfl)⟩)|((exfalso;(simp at h<;>omega)))|fail)
  ·have hke:k=r.alts.length:=by omega
   subst hke
   have hall:=any_end hk3
   repeat' (first|refine Yg ?_|refine Yq ?_|(refine oB (frz:=[1]) Yo ?_ ?_<;>intro h<;>first|(exfalso;simp at h;first|done|omega)|skip)|(refine eB ?_ ?_<;>intro h<;>first|(exfalso;simp at h;first|done|omega)|skip)|refine oX (frz:=[1]) Yo ?_|refine oS ?_|refine Yn ?_|refine Yk ?_|refine cT ?_|refine cF ?_|refine Yb ?_|refine Ye ?_|refine Yd (frz:=[1]) Yo (by kernel_rfl) ?_|refine eX ?_|refine eS ?_|refine eN ?_|(refine Yt ?_;(first|refine rB ?_|refine rI ?_|refine rA ?_|refine rII ?_|refine rSI ?_|refine rT ?_|refine rS ?_);first|done|(skip))|(exact⟨i+1,⟨by omega,any_next hr hi3 hall⟩,by omega,(tidy_of (objs:=_) _ 0 (by rfl) rfl (by repeat' (first|exact trivial|refine⟨(Or.inl rfl),?_⟩|refine⟨(Or.inl (inc_get (k:=i) (by kernel_rfl) (by omega))),?_⟩|refine⟨(Or.inr rfl),?_⟩|fail)) (by repeat' (first|exact trivial|refine⟨rfl,?_⟩|fail)) rfl rfl)⟩)|((exfalso;(simp at h<;>omega)))|fail)
 ·have hie:i=x.rules.length:=by omega
  subst hie
  rw [fullX_all hi3]
  by_cases ht:8<x.tokens.length
  ·rw [decide_eq_true ht]
   repeat' (first|refine Yg ?_|refine Yq ?_|(refine oB (frz:=[1]) Yo ?_ ?_<;>intro h<;>first|(exfalso;simp at h;first|done|omega)|skip)|(refine eB ?_ ?_<;>intro h<;>first|(exfalso;simp at h;first|done|omega)|skip)|refine oX (frz:=[1]) Yo ?_|refine oS ?_|refine Yn ?_|refine Yk ?_|refine cT ?_|refine cF ?_|refine Yb ?_|refine Ye ?_|refine Yd (frz:=[1]) Yo (by kernel_rfl) ?_|refine eX ?_|refine eS ?_|refine eN ?_|(refine Yt ?_;(first|refine rB ?_|refine rI ?_|refine rA ?_|refine rII ?_|refine rSI ?_|refine rT ?_|refine rS ?_);first|done|(rfl))|((exfalso;(simp at h<;>omega)))|fail)
  ·rw [decide_eq_false ht]
   by_cases h8:8<x.rules.length
   ·rw [decide_eq_true h8]
    repeat' (first|refine Yg ?_|refine Yq ?_|(refine oB (frz:=[1]) Yo ?_ ?_<;>intro h<;>first|(exfalso;simp at h;first|done|omega)|skip)|(refine eB ?_ ?_<;>intro h<;>first|(exfalso;simp at h;first|done|omega)|skip)|refine oX (frz:=[1]) Yo ?_|refine oS ?_|refine Yn ?_|refine Yk ?_|refine cT ?_|refine cF ?_|refine Yb ?_|refine Ye ?_|refine Yd (frz:=[1]) Yo (by kernel_rfl) ?_|refine eX ?_|refine eS ?_|refine eN ?_|(refine Yt ?_;(first|refine rB ?_|refine rI ?_|refine rA ?_|refine rII ?_|refine rSI ?_|refine rT ?_|refine rS ?_);first|done|(rfl))|((exfalso;(simp at h<;>omega)))|fail)
   ·rw [decide_eq_false h8]
    by_cases hs:24<sumTo x x.rules.length
    ·rw [decide_eq_true hs]
     repeat' (first|refine Yg ?_|refine Yq ?_|(refine oB (frz:=[1]) Yo ?_ ?_<;>intro h<;>first|(exfalso;simp at h;first|done|omega)|skip)|(refine eB ?_ ?_<;>intro h<;>first|(exfalso;simp at h;first|done|omega)|skip)|refine oX (frz:=[1]) Yo ?_|refine oS ?_|refine Yn ?_|refine Yk ?_|refine cT ?_|refine cF ?_|refine Yb ?_|refine Ye ?_|refine Yd (frz:=[1]) Yo (by kernel_rfl) ?_|refine eX ?_|refine eS ?_|refine eN ?_|(refine Yt ?_;(first|refine rB ?_|refine rI ?_|refine rA ?_|refine rII ?_|refine rSI ?_|refine rT ?_|refine rS ?_);first|done|(rfl))|((exfalso;(simp at h<;>omega)))|fail)
    ·rw [decide_eq_false hs]
     repeat' (first|refine Yg ?_|refine Yq ?_|(refine oB (frz:=[1]) Yo ?_ ?_<;>intro h<;>first|(exfalso;simp at h;first|done|omega)|skip)|(refine eB ?_ ?_<;>intro h<;>first|(exfalso;simp at h;first|done|omega)|skip)|refine oX (frz:=[1]) Yo ?_|refine oS ?_|refine Yn ?_|refine Yk ?_|refine cT ?_|refine cF ?_|refine Yb ?_|refine Ye ?_|refine Yd (frz:=[1]) Yo (by kernel_rfl) ?_|refine eX ?_|refine eS ?_|refine eN ?_|(refine Yt ?_;(first|refine rB ?_|refine rI ?_|refine rA ?_|refine rII ?_|refine rSI ?_|refine rT ?_|refine rS ?_);first|done|(rfl))|((exfalso;(simp at h<;>omega)))|fail)
end Go.Av
end
noncomputable section
namespace Go.Av
open Go Go.Proofs
set_option maxRecDepth 10000
theorem vT8 {p:Prop} [Decidable p] (h:p):AV.d (.bool (decide p))=.d (.bool true):=by rw [decide_eq_true h]
theorem vF8 {p:Prop} [Decidable p] (h:¬ p):AV.d (.bool (decide p))=.d (.bool false):=by rw [decide_eq_false h]
section
variable {E:PT Ty} {H:Hd} {frz:List Nat} {rd:Operand→AV} {objs:List Ob} {o:Oper} {args:Array Operand} {tys:Array TypeId} {a b:Operand} {ts tx e:TypeId} {yts z:Ty} {szx k:Nat} {ys:List DV}
theorem appV (hlen:ys.length≤16777216) (hop:o.op=.call ⟨.builtin .append,args,tys⟩:=by rfl) (ha:args.toList=[a,b]:=by rfl) (ht:tys.toList=[ts,tx]:=by rfl)
  (hv:hintV o.dst frz=true:=by rfl) (h1:E.get? ts=some yts:=by rfl) (h2:yts.desc=.slice e:=by rfl) (h3:E.get? e=some z:=by rfl) (h4:appSrc E z tx (rd b) objs=some (szx,ys):=by rfl) (h5:(Nat.ble 1 z.size && Nat.ble 1 z.bytes)=true:=by rfl) (hk:z.size=k:=by rfl)
  (h6:szx=k∨ys=[]:=by first|rfl|(exact Or.inl rfl)|(exact Or.inr rfl))
  (h7:rd a=.d .nilsl:=by rfl) (h11:Nat.ble z.bytes 65536=true:=by rfl) :
  evAny E H frz rd objs o=some (.vs objs.length k 0 ys.length,some (objs++[.vec e (isAggT z.desc) k ys.length ((flatD ys).map .d)]),true):=by
 obtain⟨dst,op,ty,pos,after,guard⟩:=o
 obtain⟨desc,size,bytes,zero⟩:=yts
 simp only at hop h2 hv
 subst hop h2 hk
 have hb:∀ q:Nat,Nat.beq q q=true:=fun q=>Nat.beq_refl q
 have hs:srcSz szx z.size ys=z.size:=by
  rcases h6 with rfl|rfl
  ·cases ys<;>rfl
  ·rfl
 have hm:Nat.ble (ys.length*z.bytes) 1099511627776=true:=Nat.ble_eq_true_of_le (Nat.le_trans (Nat.mul_le_mul hlen (Nat.le_of_ble_eq_true h11)) (by decide))
 simp only [evAny,ha,ht,hv,appendR,h1,appSrc0,h3,h4,h5,hs,hb,h7,hm,Bool.and_self,if_true,Option.map_some]
end
theorem appSrc_make {n:Nat} (hn:n≤1048576) {objs:List Ob}:appSrc Et ty9 3 (.d (.int .i64 (n:Nat))) objs=some (1,List.replicate n (.str [])):=by
 have h1:Nat.ble n 1048576=true:=Nat.ble_eq_true_of_le hn
 have h2:Nat.ble (n*ty9.bytes) 1099511627776=true:=Nat.ble_eq_true_of_le (Nat.le_trans (Nat.mul_le_mul hn (show ty9.bytes≤16 from Nat.le_refl _)) (by decide))
 have h3:(decide (0≤((n:Nat):Int)) && Nat.ble ((n:Nat):Int).toNat 1048576 && Nat.ble (((n:Nat):Int).toNat*ty9.bytes) 1099511627776 && (isAggT ty9.desc || Nat.beq ty9.size 1))=true:=by
  rw [Int.toNat_natCast,h1,h2];simp;exact .inr rfl
 show(match decide (0≤((n:Nat):Int)) && Nat.ble ((n:Nat):Int).toNat 1048576 && Nat.ble (((n:Nat):Int).toNat*ty9.bytes) 1099511627776 && (isAggT ty9.desc || Nat.beq ty9.size 1) with
  |true=>some (ty9.size,List.replicate ((n:Nat):Int).toNat (zeroE ty9))
  |false=>none)=_
 rw [h3];rfl
theorem cloneA (l:List (List Nat)) (hl:l.length≤1048576):ACall Tryz.prog 72 [.d (strs l)] [] (.sr 0 1 ([]++l.map DV.str)) [.room (([]:List DV).length+(l.map DV.str).length) 1]:=by
 refine acall_of_run Yo (fnAt Tryz.func72 (by kernel_rfl) (by kernel_rfl):FnAt _ _ (mkFn Tryz.f72 [])) rfl rfl ?_
 repeat (first|refine Yg ?_|refine Yq ?_|refine Yn ?_|refine Yk ?_|refine cT ?_|refine cF ?_|refine Yb ?_|refine Ye ?_|refine eN ?_|refine Yd (frz:=[]) Yo (by kernel_rfl) ?_)
 iterate 1 (first|refine oX (frz:=[]) Yo ?_|refine eX ?_)
 repeat (first|refine Yg ?_|refine Yq ?_|refine Yn ?_|refine Yk ?_|refine cT ?_|refine cF ?_|refine Yb ?_|refine Ye ?_|refine eN ?_|refine Yd (frz:=[]) Yo (by kernel_rfl) ?_)
 iterate 1 (first|refine oX (frz:=[]) Yo ?_|refine eX ?_)
 refine oNil Yo (fun hnil=>?_) ?_
 ·have hl0:l=[]:=by simpa using hnil
  subst hl0
  repeat (first|refine Yg ?_|refine Yq ?_|refine Yn ?_|refine Yk ?_|refine cT ?_|refine cF ?_|refine Yb ?_|refine Ye ?_|refine eN ?_|refine Yd (frz:=[]) Yo (by kernel_rfl) ?_)
  iterate 1 (first|refine oX (frz:=[]) Yo ?_|refine eX ?_)
  repeat (first|refine Yg ?_|refine Yq ?_|refine Yn ?_|refine Yk ?_|refine cT ?_|refine cF ?_|refine Yb ?_|refine Ye ?_|refine eN ?_|refine Yd (frz:=[]) Yo (by kernel_rfl) ?_)
  refine Run.mkRoom 2 1 [(2,.sr 0 1 [])] rfl (ofList_cases (by intro p hp;simp at hp;subst hp;exact .inl ⟨rfl,rfl⟩)) ?_
  refine Yt ?_
  exact⟨trivial,rfl,rfl⟩
 ·repeat (first|refine Yg ?_|refine Yq ?_|refine Yn ?_|refine Yk ?_|refine cT ?_|refine cF ?_|refine Yb ?_|refine Ye ?_|refine eN ?_|refine Yd (frz:=[]) Yo (by kernel_rfl) ?_)
  iterate 2 (first|refine oX (frz:=[]) Yo ?_|refine eX ?_)
  refine oX (frz:=[]) Yo ?_ (hv:=app1) (hf:=rfl) (he:=rfl)
  iterate 1 (first|refine oX (frz:=[]) Yo ?_|refine eX ?_)
  repeat (first|refine Yg ?_|refine Yq ?_|refine Yn ?_|refine Yk ?_|refine cT ?_|refine cF ?_|refine Yb ?_|refine Ye ?_|refine eN ?_|refine Yd (frz:=[]) Yo (by kernel_rfl) ?_)
  refine Yt ?_
  exact⟨trivial,rfl,rfl⟩
theorem grow0:ACall Tryz.prog 236 [.d .nilsl,.d (.int .i64 (0:Nat))] [] (.sr 0 1 []) [.room 0 1]:=by
 refine nil_room ?_
 refine acall_of_run Yo (fnAt Tryz.func236 (by kernel_rfl) (by kernel_rfl):FnAt _ _ (mkFn Tryz.f236 [])) rfl rfl ?_
 repeat (first|refine Yg ?_|refine Yq ?_|refine Yn ?_|refine Yk ?_|refine cT ?_|refine cF ?_|refine Yb ?_|refine Ye ?_|refine eN ?_|refine Yd (frz:=[]) Yo (by kernel_rfl) ?_)
 iterate 1 (first|refine oX (frz:=[]) Yo ?_|refine eX ?_)
 repeat (first|refine Yg ?_|refine Yq ?_|refine Yn ?_|refine Yk ?_|refine cT ?_|refine cF ?_|refine Yb ?_|refine Ye ?_|refine eN ?_|refine Yd (frz:=[]) Yo (by kernel_rfl) ?_)
 iterate 1 (first|refine oX (frz:=[]) Yo ?_|refine eX ?_)
 first|refine oX (frz:=[]) (v:=.d (.bool false)) Yo ?_ (he:=(vF8 (by decide)))|refine eX (v:=.d (.bool false)) ?_ (he:=(vF8 (by decide)))
 repeat (first|refine Yg ?_|refine Yq ?_|refine Yn ?_|refine Yk ?_|refine cT ?_|refine cF ?_|refine Yb ?_|refine Ye ?_|refine eN ?_|refine Yd (frz:=[]) Yo (by kernel_rfl) ?_)
 iterate 5 (first|refine oX (frz:=[]) Yo ?_|refine eX ?_)
 first|refine oX (frz:=[]) (v:=.d (.int .i64 0)) Yo ?_ (he:=(rfl))|refine eX (v:=.d (.int .i64 0)) ?_ (he:=(rfl))
 first|refine oX (frz:=[]) (v:=.d (.int .i64 (0:Nat))) Yo ?_ (he:=(rfl))|refine eX (v:=.d (.int .i64 (0:Nat))) ?_ (he:=(rfl))
 iterate 1 (first|refine oX (frz:=[]) Yo ?_|refine eX ?_)
 repeat (first|refine Yg ?_|refine Yq ?_|refine Yn ?_|refine Yk ?_|refine cT ?_|refine cF ?_|refine Yb ?_|refine Ye ?_|refine eN ?_|refine Yd (frz:=[]) Yo (by kernel_rfl) ?_)
 iterate 1 (first|refine oX (frz:=[]) Yo ?_|refine eX ?_)
 first|refine oX (frz:=[]) (v:=.d (.bool false)) Yo ?_ (he:=(vF8 (by decide)))|refine eX (v:=.d (.bool false)) ?_ (he:=(vF8 (by decide)))
 repeat (first|refine Yg ?_|refine Yq ?_|refine Yn ?_|refine Yk ?_|refine cT ?_|refine cF ?_|refine Yb ?_|refine Ye ?_|refine eN ?_|refine Yd (frz:=[]) Yo (by kernel_rfl) ?_)
 iterate 2 (first|refine oX (frz:=[]) Yo ?_|refine eX ?_)
 repeat (first|refine Yg ?_|refine Yq ?_|refine Yn ?_|refine Yk ?_|refine cT ?_|refine cF ?_|refine Yb ?_|refine Ye ?_|refine eN ?_|refine Yd (frz:=[]) Yo (by kernel_rfl) ?_)
 refine Yt ?_
 exact⟨trivial,rfl,rfl⟩
theorem growN (n:Nat) (h0:0<n) (hn:n≤1048576):∃ m cs,ACall Tryz.prog 236 [.d .nilsl,.d (.int .i64 (n:Nat))] [] (.vs 0 1 0 0) [.vec 9 false 1 m cs]:=by
 refine⟨(List.replicate n (DV.str [])).length,(flatD (List.replicate n (.str []))).map .d,?_⟩
 refine acall_of_run Yo (fnAt Tryz.func236 (by kernel_rfl) (by kernel_rfl):FnAt _ _ (mkFn Tryz.f236 [65558,200000])) rfl rfl ?_
 repeat (first|refine Yg ?_|refine Yq ?_|refine Yn ?_|refine Yk ?_|refine cT ?_|refine cF ?_|refine Yb ?_|refine Ye ?_|refine eN ?_|refine Yd (frz:=[65558,200000]) Yo (by kernel_rfl) ?_)
 iterate 1 (first|refine oX (frz:=[65558,200000]) Yo ?_|refine eX ?_)
 repeat (first|refine Yg ?_|refine Yq ?_|refine Yn ?_|refine Yk ?_|refine cT ?_|refine cF ?_|refine Yb ?_|refine Ye ?_|refine eN ?_|refine Yd (frz:=[65558,200000]) Yo (by kernel_rfl) ?_)
 iterate 1 (first|refine oX (frz:=[65558,200000]) Yo ?_|refine eX ?_)
 first|refine oX (frz:=[65558,200000]) (v:=.d (.bool false)) Yo ?_ (he:=(vF8 (by omega)))|refine eX (v:=.d (.bool false)) ?_ (he:=(vF8 (by omega)))
 repeat (first|refine Yg ?_|refine Yq ?_|refine Yn ?_|refine Yk ?_|refine cT ?_|refine cF ?_|refine Yb ?_|refine Ye ?_|refine eN ?_|refine Yd (frz:=[65558,200000]) Yo (by kernel_rfl) ?_)
 iterate 5 (first|refine oX (frz:=[65558,200000]) Yo ?_|refine eX ?_)
 first|refine oX (frz:=[65558,200000]) (v:=.d (.int .i64 0)) Yo ?_ (he:=(rfl))|refine eX (v:=.d (.int .i64 0)) ?_ (he:=(rfl))
 first|refine oX (frz:=[65558,200000]) (v:=.d (.int .i64 (n:Nat))) Yo ?_ (he:=(vN8 (by omega) (by omega)))|refine eX (v:=.d (.int .i64 (n:Nat))) ?_ (he:=(vN8 (by omega) (by omega)))
 iterate 1 (first|refine oX (frz:=[65558,200000]) Yo ?_|refine eX ?_)
 repeat (first|refine Yg ?_|refine Yq ?_|refine Yn ?_|refine Yk ?_|refine cT ?_|refine cF ?_|refine Yb ?_|refine Ye ?_|refine eN ?_|refine Yd (frz:=[65558,200000]) Yo (by kernel_rfl) ?_)
 iterate 1 (first|refine oX (frz:=[65558,200000]) Yo ?_|refine eX ?_)
 first|refine oX (frz:=[65558,200000]) (v:=.d (.bool true)) Yo ?_ (he:=(vT8 (by omega)))|refine eX (v:=.d (.bool true)) ?_ (he:=(vT8 (by omega)))
 repeat (first|refine Yg ?_|refine Yq ?_|refine Yn ?_|refine Yk ?_|refine cT ?_|refine cF ?_|refine Yb ?_|refine Ye ?_|refine eN ?_|refine Yd (frz:=[65558,200000]) Yo (by kernel_rfl) ?_)
 iterate 5 (first|refine oX (frz:=[65558,200000]) Yo ?_|refine eX ?_)
 refine oX (frz:=[65558,200000]) Yo ?_ (hv:=appV (ys:=List.replicate n (.str [])) (by rw [List.length_replicate]<;>omega) (h4:=by exact appSrc_make hn)) (hf:=rfl) (he:=rfl)
 iterate 2 (first|refine oX (frz:=[65558,200000]) Yo ?_|refine eX ?_)
 refine oX (frz:=[65558,200000]) Yo ?_ (hf:=by simp [cutC])
 iterate 1 (first|refine oX (frz:=[65558,200000]) Yo ?_|refine eX ?_)
 repeat (first|refine Yg ?_|refine Yq ?_|refine Yn ?_|refine Yk ?_|refine cT ?_|refine cF ?_|refine Yb ?_|refine Ye ?_|refine eN ?_|refine Yd (frz:=[65558,200000]) Yo (by kernel_rfl) ?_)
 iterate 2 (first|refine oX (frz:=[65558,200000]) Yo ?_|refine eX ?_)
 repeat (first|refine Yg ?_|refine Yq ?_|refine Yn ?_|refine Yk ?_|refine cT ?_|refine cF ?_|refine Yb ?_|refine Ye ?_|refine eN ?_|refine Yd (frz:=[65558,200000]) Yo (by kernel_rfl) ?_)
 refine Yt ?_
 exact⟨trivial,rfl,rfl⟩
theorem growR (n:Nat) (hn:n≤1048576):ACall Tryz.prog 236 [.d .nilsl,.d (.int .i64 (n:Nat))] [] (.sr 0 1 []) [.room 0 1]:=by
 rcases Nat.eq_zero_or_pos n with h0|h0
 ·subst h0;exact grow0
 ·obtain⟨m,cs,h⟩:=growN n h0 hn
  exact vec_room h
def lensTo (l:List (List (List Nat))) (i:Nat):Nat:=(l.take i).flatten.length
theorem lensTo_succ {l:List (List (List Nat))} {i:Nat} {a:List (List Nat)} (h:l[i]?=some a):lensTo l (i+1)=lensTo l i+a.length:=by
 simp [lensTo,List.take_add_one,h]
theorem lensTo_le (l:List (List (List Nat))) (i:Nat):lensTo l i≤l.flatten.length:=by
 unfold lensTo
 conv=>rhs;rw [← List.take_append_drop i l,List.flatten_append,List.length_append]
 omega
theorem concat (l:List (List (List Nat))) (hl:l.length≤1099511627776) (ht:l.flatten.length≤1048576):KnownCall Tryz.prog 200 [alts l] (.d (strs l.flatten)):=by
 refine knownE Yo (fnAt Tryz.func200 (by kernel_rfl) (by kernel_rfl):FnAt _ _ (mkFn Tryz.f200 [])) ?_
 repeat' (first|refine Yg ?_|refine Yq ?_|(refine oB (frz:=[]) Yo ?_ ?_<;>intro h<;>first|(exfalso;simp at h;first|done|omega)|skip)|(refine eB ?_ ?_<;>intro h<;>first|(exfalso;simp at h;first|done|omega)|skip)|refine oX (frz:=[]) Yo ?_|refine oS ?_|refine Yn ?_|refine Yk ?_|refine cT ?_|refine cF ?_|refine Yb ?_|refine Ye ?_|refine Yd (frz:=[]) Yo (by kernel_rfl) ?_|refine eX ?_|refine eS ?_|refine eN ?_|(refine Yt ?_;(first|refine rB ?_|refine rI ?_|refine rA ?_|refine rII ?_|refine rSI ?_|refine rT ?_|refine rS ?_);first|done|(skip))|fail)
 refine Run.loop (fun i:Nat=>⟨PT.ofList [(0,.d (alts l)),(3,.d (.int .i64 (lensTo l i:Nat))),(9,.d (alts l)),(10,.d (.int .i64 (l.map strs).length)),(11,.d (.int .i64 i))],[],[]⟩) (fun i=>i≤l.length) (fun i=>l.length-i) 0 (Nat.zero_le _) (weak_of (by repeat' (first|exact trivial|refine⟨rfl,?_⟩))) (fun i hi=>?_)
 rcases Nat.lt_or_ge i l.length with hlt|hge
 ·obtain⟨a,ha⟩:=get_ok hlt
  have h1:=lensTo_le l (i+1)
  have h2:=lensTo_succ ha
  repeat (first|refine Yg ?_|refine Yq ?_|refine Yn ?_|refine Yk ?_|refine cT ?_|refine cF ?_|refine Yb ?_|refine Ye ?_|refine eN ?_|refine Yd (frz:=[]) Yo (by kernel_rfl) ?_)
  first|refine oX (frz:=[]) (v:=.d (.bool true)) Yo ?_ (he:=(vT8 (by simp<;>omega)))|refine eX (v:=.d (.bool true)) ?_ (he:=(vT8 (by simp<;>omega)))
  repeat (first|refine Yg ?_|refine Yq ?_|refine Yn ?_|refine Yk ?_|refine cT ?_|refine cF ?_|refine Yb ?_|refine Ye ?_|refine eN ?_|refine Yd (frz:=[]) Yo (by kernel_rfl) ?_)
  refine oX (frz:=[]) (v:=.d (.ep [strs a])) Yo ?_ (hf:=by simp [inB]<;>omega) (he:=by simp [List.getD_eq_getElem?_getD,cellsD,ha])
  iterate 2 (first|refine oX (frz:=[]) Yo ?_|refine eX ?_)
  repeat (first|refine Yg ?_|refine Yq ?_|refine Yn ?_|refine Yk ?_|refine cT ?_|refine cF ?_|refine Yb ?_|refine Ye ?_|refine eN ?_|refine Yd (frz:=[]) Yo (by kernel_rfl) ?_)
  iterate 3 (first|refine oX (frz:=[]) Yo ?_|refine eX ?_)
  first|refine oX (frz:=[]) (v:=.d (.int .i64 (lensTo l (i+1):Nat))) Yo ?_ (he:=(vN8 (by rw [h2];simp) (by omega)))|refine eX (v:=.d (.int .i64 (lensTo l (i+1):Nat))) ?_ (he:=(vN8 (by rw [h2];simp) (by omega)))
  iterate 1 (first|refine oX (frz:=[]) Yo ?_|refine eX ?_)
  repeat (first|refine Yg ?_|refine Yq ?_|refine Yn ?_|refine Yk ?_|refine cT ?_|refine cF ?_|refine Yb ?_|refine Ye ?_|refine eN ?_|refine Yd (frz:=[]) Yo (by kernel_rfl) ?_)
  iterate 1 (first|refine oX (frz:=[]) Yo ?_|refine eX ?_)
  first|refine oX (frz:=[]) (v:=.d (.bool false)) Yo ?_ (he:=(vF8 (by omega)))|refine eX (v:=.d (.bool false)) ?_ (he:=(vF8 (by omega)))
  repeat (first|refine Yg ?_|refine Yq ?_|refine Yn ?_|refine Yk ?_|refine cT ?_|refine cF ?_|refine Yb ?_|refine Ye ?_|refine eN ?_|refine Yd (frz:=[]) Yo (by kernel_rfl) ?_)
  first|refine oX (frz:=[]) (v:=.d (.int .i64 (i+1:Nat))) Yo ?_ (he:=(vN8 (by omega) (by omega)))|refine eX (v:=.d (.int .i64 (i+1:Nat))) ?_ (he:=(vN8 (by omega) (by omega)))
  iterate 1 (first|refine oX (frz:=[]) Yo ?_|refine eX ?_)
  repeat (first|refine Yg ?_|refine Yq ?_|refine Yn ?_|refine Yk ?_|refine cT ?_|refine cF ?_|refine Yb ?_|refine Ye ?_|refine eN ?_|refine Yd (frz:=[]) Yo (by kernel_rfl) ?_)
  exact⟨i+1,hlt,by omega,weak_of (by repeat' (first|exact trivial|refine⟨rfl,?_⟩))⟩
 ·have hie:i=l.length:=by omega
  have hsum:lensTo l i=l.flatten.length:=by unfold lensTo;rw [hie,List.take_length]
  rw [hsum]
  subst hie
  repeat (first|refine Yg ?_|refine Yq ?_|refine Yn ?_|refine Yk ?_|refine cT ?_|refine cF ?_|refine Yb ?_|refine Ye ?_|refine eN ?_|refine Yd (frz:=[]) Yo (by kernel_rfl) ?_)
  first|refine oX (frz:=[]) (v:=.d (.bool false)) Yo ?_ (he:=(vF8 (by simp)))|refine eX (v:=.d (.bool false)) ?_ (he:=(vF8 (by simp)))
  repeat (first|refine Yg ?_|refine Yq ?_|refine Yn ?_|refine Yk ?_|refine cT ?_|refine cF ?_|refine Yb ?_|refine Ye ?_|refine eN ?_|refine Yd (frz:=[]) Yo (by kernel_rfl) ?_)
  iterate 1 (first|refine oX (frz:=[]) Yo ?_|refine eX ?_)
  refine oA (growR _ ht) ?_
  iterate 1 (first|refine oX (frz:=[]) Yo ?_|refine eX ?_)
  repeat (first|refine Yg ?_|refine Yq ?_|refine Yn ?_|refine Yk ?_|refine cT ?_|refine cF ?_|refine Yb ?_|refine Ye ?_|refine eN ?_|refine Yd (frz:=[]) Yo (by kernel_rfl) ?_)
  iterate 3 (first|refine oX (frz:=[]) Yo ?_|refine eX ?_)
  repeat (first|refine Yg ?_|refine Yq ?_|refine Yn ?_|refine Yk ?_|refine cT ?_|refine cF ?_|refine Yb ?_|refine Ye ?_|refine eN ?_|refine Yd (frz:=[]) Yo (by kernel_rfl) ?_)
  refine Run.loop (fun y:Nat × List DV=>⟨PT.ofList [(6,.sr 0 1 y.2),(25,.d (alts l)),(26,.d (.int .i64 (l.map strs).length)),(27,.d (.int .i64 y.1))],[.room y.2.length 1],[]⟩) (fun y=>y.1≤l.length∧y.2=(l.take y.1).flatten.map DV.str) (fun y=>l.length-y.1) (0,[]) ⟨Nat.zero_le _,rfl⟩ (weak_of (by repeat' (first|exact trivial|refine⟨rfl,?_⟩))) (fun y hy=>?_)
  obtain⟨i,acc⟩:=y
  obtain⟨hi1,hi2⟩:=hy
  simp only at hi1 hi2 ⊢
  rcases Nat.lt_or_ge i l.length with hlt|hge
  ·obtain⟨a,ha⟩:=get_ok hlt
   have h1:=lensTo_le l (i+1)
   have h2:=lensTo_succ ha
   have hal:acc.length=lensTo l i:=by rw [hi2,List.length_map];rfl
   have hnext:acc++a.map DV.str=(l.take (i+1)).flatten.map DV.str:=by rw [List.take_add_one,ha,hi2];simp
   repeat (first|refine Yg ?_|refine Yq ?_|refine Yn ?_|refine Yk ?_|refine cT ?_|refine cF ?_|refine Yb ?_|refine Ye ?_|refine eN ?_|refine Yd (frz:=[]) Yo (by kernel_rfl) ?_)
   first|refine oX (frz:=[]) (v:=.d (.bool true)) Yo ?_ (he:=(vT8 (by simp<;>omega)))|refine eX (v:=.d (.bool true)) ?_ (he:=(vT8 (by simp<;>omega)))
   repeat (first|refine Yg ?_|refine Yq ?_|refine Yn ?_|refine Yk ?_|refine cT ?_|refine cF ?_|refine Yb ?_|refine Ye ?_|refine eN ?_|refine Yd (frz:=[]) Yo (by kernel_rfl) ?_)
   refine oX (frz:=[]) (v:=.d (.ep [strs a])) Yo ?_ (hf:=by simp [inB]<;>omega) (he:=by simp [List.getD_eq_getElem?_getD,cellsD,ha])
   iterate 2 (first|refine oX (frz:=[]) Yo ?_|refine eX ?_)
   repeat (first|refine Yg ?_|refine Yq ?_|refine Yn ?_|refine Yk ?_|refine cT ?_|refine cF ?_|refine Yb ?_|refine Ye ?_|refine eN ?_|refine Yd (frz:=[]) Yo (by kernel_rfl) ?_)
   iterate 2 (first|refine oX (frz:=[]) Yo ?_|refine eX ?_)
   refine oX (frz:=[]) Yo ?_ (hv:=app1 (hlen:=by simp<;>omega)) (hf:=rfl) (he:=rfl)
   iterate 1 (first|refine oX (frz:=[]) Yo ?_|refine eX ?_)
   repeat (first|refine Yg ?_|refine Yq ?_|refine Yn ?_|refine Yk ?_|refine cT ?_|refine cF ?_|refine Yb ?_|refine Ye ?_|refine eN ?_|refine Yd (frz:=[]) Yo (by kernel_rfl) ?_)
   first|refine oX (frz:=[]) (v:=.d (.int .i64 (i+1:Nat))) Yo ?_ (he:=(vN8 (by omega) (by omega)))|refine eX (v:=.d (.int .i64 (i+1:Nat))) ?_ (he:=(vN8 (by omega) (by omega)))
   iterate 1 (first|refine oX (frz:=[]) Yo ?_|refine eX ?_)
   repeat (first|refine Yg ?_|refine Yq ?_|refine Yn ?_|refine Yk ?_|refine cT ?_|refine cF ?_|refine Yb ?_|refine Ye ?_|refine eN ?_|refine Yd (frz:=[]) Yo (by kernel_rfl) ?_)
   exact⟨(i+1,acc++a.map DV.str),⟨hlt,hnext⟩,by simp only<;>omega,weak_of' (by show [Ob.room (acc++a.map DV.str).length 1]=[Ob.room (acc.length+(a.map DV.str).length) 1]<;>rw [List.length_append]) rfl (by repeat' (first|exact trivial|refine⟨rfl,?_⟩))⟩
  ·have hie:i=l.length:=by omega
   have he:l.flatten.map DV.str=acc:=by rw [hi2,hie,List.take_length]
   rw [show strs l.flatten=.sl 1 (l.flatten.map DV.str) from rfl,he]
   subst hie
   repeat (first|refine Yg ?_|refine Yq ?_|refine Yn ?_|refine Yk ?_|refine cT ?_|refine cF ?_|refine Yb ?_|refine Ye ?_|refine eN ?_|refine Yd (frz:=[]) Yo (by kernel_rfl) ?_)
   first|refine oX (frz:=[]) (v:=.d (.bool false)) Yo ?_ (he:=(vF8 (by simp)))|refine eX (v:=.d (.bool false)) ?_ (he:=(vF8 (by simp)))
   repeat' (first|refine Yg ?_|refine Yq ?_|(refine oB (frz:=[]) Yo ?_ ?_<;>intro h<;>first|(exfalso;simp at h;first|done|omega)|skip)|(refine eB ?_ ?_<;>intro h<;>first|(exfalso;simp at h;first|done|omega)|skip)|refine oX (frz:=[]) Yo ?_|refine oS ?_|refine Yn ?_|refine Yk ?_|refine cT ?_|refine cF ?_|refine Yb ?_|refine Ye ?_|refine Yd (frz:=[]) Yo (by kernel_rfl) ?_|refine eX ?_|refine eS ?_|refine eN ?_|(refine Yt ?_;(first|refine rB ?_|refine rI ?_|refine rA ?_|refine rII ?_|refine rSI ?_|refine rT ?_|refine rS ?_);first|done|(rfl))|fail)
end Go.Av
end
noncomputable section
namespace Go.Av
open Go Go.Proofs
set_option maxRecDepth 10000
def innerX (x:Src):List (List Nat):=x.rules.flatMap (fun r=>r.alts.flatten)
def innerTo (x:Src) (i:Nat):List (List Nat):=(x.rules.take i).flatMap (fun r=>r.alts.flatten)
theorem innerTo_succ {x:Src} {i:Nat} {r:SRule} (h:x.rules[i]?=some r):innerTo x (i+1)=innerTo x i++r.alts.flatten:=by
 simp [innerTo,List.take_add_one,h]
theorem innerTo_le (x:Src) (i:Nat):(innerTo x i).length≤(innerX x).length:=by
 unfold innerTo innerX
 conv=>rhs;rw [← List.take_append_drop i x.rules,List.flatMap_append,List.length_append]
 omega
theorem inner (x:Src) (hf:FitsX x) (ht:(innerX x).length≤1048576):KnownCall Tryz.prog 116 [encX x] (.d (strs (innerX x))):=by
 have hrl:=hf.rules
 refine knownE Yo (fnAt Tryz.func116 (by kernel_rfl) (by kernel_rfl):FnAt _ _ (mkFn Tryz.f116 [1])) ?_
 repeat (first|refine Yg ?_|refine Yq ?_|refine Yn ?_|refine Yk ?_|refine cT ?_|refine cF ?_|refine Yb ?_|refine Ye ?_|refine eN ?_|refine Yd (frz:=[1]) Yo (by kernel_rfl) ?_)
 iterate 2 (first|refine oX (frz:=[1]) Yo ?_|refine eX ?_)
 repeat (first|refine Yg ?_|refine Yq ?_|refine Yn ?_|refine Yk ?_|refine cT ?_|refine cF ?_|refine Yb ?_|refine Ye ?_|refine eN ?_|refine Yd (frz:=[1]) Yo (by kernel_rfl) ?_)
 iterate 1 (first|refine oX (frz:=[1]) Yo ?_|refine eX ?_)
 refine RunOps.nilRow 3 1 [(1,cellX x),(3,.d (.sl 1 []))] (by rfl) (by refine ofList_cases ?_;intro p hp;rcases List.mem_cons.1 hp with rfl|hp;right;dsimp only;rfl;rcases List.mem_cons.1 hp with rfl|hp;exact .inl ⟨rfl,rfl⟩;cases hp) ?_
 repeat (first|refine Yg ?_|refine Yq ?_|refine Yn ?_|refine Yk ?_|refine cT ?_|refine cF ?_|refine Yb ?_|refine Ye ?_|refine eN ?_|refine Yd (frz:=[1]) Yo (by kernel_rfl) ?_)
 iterate 4 (first|refine oX (frz:=[1]) Yo ?_|refine eX ?_)
 repeat (first|refine Yg ?_|refine Yq ?_|refine Yn ?_|refine Yk ?_|refine cT ?_|refine cF ?_|refine Yb ?_|refine Ye ?_|refine eN ?_|refine Yd (frz:=[1]) Yo (by kernel_rfl) ?_)
 refine Run.loopT (fun i:Nat=>⟨PT.ofList [(3,.d (strs (innerTo x i))),(7,.d (.sl 2 (x.rules.map encR))),(8,.d (.int .i64 (x.rules.map encR).length)),(9,.d (.int .i64 i))],[],[]⟩) (fun i=>i≤x.rules.length) (fun i=>x.rules.length-i) 0 (Nat.zero_le _) (tidy_of (objs:=_) _ 0 (by rfl) rfl (by repeat' (first|exact trivial|refine⟨(Or.inl rfl),?_⟩|refine⟨(Or.inr rfl),?_⟩|fail)) (by repeat' (first|exact trivial|refine⟨rfl,?_⟩|fail)) rfl rfl) (fun i hi=>?_)
 rcases Nat.lt_or_ge i x.rules.length with hlt|hge
 ·obtain⟨r,hr⟩:=get_ok hlt
  have hra:=hf.alts r (List.mem_of_getElem? hr)
  have h1:=innerTo_le x (i+1)
  have h2:=innerTo_succ hr
  have hfl:(innerTo x i :: r.alts).flatten=innerTo x (i+1):=by rw [h2];rfl
  have hc:=concat (innerTo x i :: r.alts) (by simp;omega) (by rw [hfl];omega)
  rw [hfl] at hc
  repeat' (first|refine Yg ?_|refine Yq ?_|(refine oB (frz:=[1]) Yo ?_ ?_<;>intro h<;>first|(exfalso;simp at h;first|done|omega)|skip)|(refine eB ?_ ?_<;>intro h<;>first|(exfalso;simp at h;first|done|omega)|skip)|refine oX (frz:=[1]) Yo ?_|refine oS ?_|refine Yn ?_|refine Yk ?_|refine cT ?_|refine cF ?_|refine Yb ?_|refine Ye ?_|refine Yd (frz:=[1]) Yo (by kernel_rfl) ?_|refine eX ?_|refine eS ?_|refine eN ?_|refine oX (frz:=[1]) (v:=.d (.ep [.str r.name,alts r.alts])) Yo ?_ (hf:=(by first|(simp [inB]<;>fail)|(simp [inB];omega))) (he:=(by first|(simp [List.getD_eq_getElem?_getD,cellsD,hr,encR]<;>fail)|fail))|refine eX (v:=.d (.ep [.str r.name,alts r.alts])) ?_ (hf:=(by first|(simp [inB]<;>fail)|(simp [inB];omega))) (he:=(by first|(simp [List.getD_eq_getElem?_getD,cellsD,hr,encR]<;>fail)|fail))|refine oL (hc) ?_|refine eL (hc) ?_|refine oM (hc) ?_|refine eM (hc) ?_|refine oX (frz:=[1]) Yo ?_ (hv:=app1) (hf:=rfl) (he:=rfl)|refine eX ?_ (hv:=app1) (hf:=rfl) (he:=rfl)|refine oX (frz:=[1]) Yo ?_ (hv:=app0) (hf:=rfl) (he:=rfl)|refine eX ?_ (hv:=app0) (hf:=rfl) (he:=rfl)|(refine Yt ?_;(first|refine rB ?_|refine rI ?_|refine rA ?_|refine rII ?_|refine rSI ?_|refine rT ?_|refine rS ?_);first|done|(skip))|(exact⟨i+1,hlt,by omega,(tidy_of (objs:=_) _ 0 (by rfl) rfl (by repeat' (first|exact trivial|refine⟨(Or.inl rfl),?_⟩|refine⟨(Or.inl (inc_get (k:=i) (by kernel_rfl) (by omega))),?_⟩|refine⟨(Or.inr rfl),?_⟩|fail)) (by repeat' (first|exact trivial|refine⟨rfl,?_⟩|fail)) rfl rfl)⟩)|((exfalso;(simp at h<;>omega)))|fail)
 ·have hie:i=x.rules.length:=by omega
  have he:innerTo x i=innerX x:=by rw [hie];simp [innerTo,innerX]
  rw [he]
  subst hie
  repeat' (first|refine Yg ?_|refine Yq ?_|(refine oB (frz:=[1]) Yo ?_ ?_<;>intro h<;>first|(exfalso;simp at h;first|done|omega)|skip)|(refine eB ?_ ?_<;>intro h<;>first|(exfalso;simp at h;first|done|omega)|skip)|refine oX (frz:=[1]) Yo ?_|refine oS ?_|refine Yn ?_|refine Yk ?_|refine cT ?_|refine cF ?_|refine Yb ?_|refine Ye ?_|refine Yd (frz:=[1]) Yo (by kernel_rfl) ?_|refine eX ?_|refine eS ?_|refine eN ?_|(refine Yt ?_;(first|refine rB ?_|refine rI ?_|refine rA ?_|refine rII ?_|refine rSI ?_|refine rT ?_|refine rS ?_);first|done|(rfl))|((exfalso;(simp at h<;>omega)))|fail)
theorem chk1 (r:SRule):KnownCall Tryz.prog 118 [encR r] (.d (.bool r.alts.isEmpty)):=by
 refine knownE Yo (fnAt Tryz.func118 (by kernel_rfl) (by kernel_rfl):FnAt _ _ (mkFn Tryz.f118 [1])) ?_
 cases ha:r.alts with
 |nil =>
  rw [show encR r=.agg [.str r.name,alts []] from by rw [encR,ha]]
  repeat' (first|refine Yg ?_|refine Yq ?_|(refine oB (frz:=[1]) Yo ?_ ?_<;>intro h<;>first|(exfalso;simp at h;first|done|omega)|skip)|(refine eB ?_ ?_<;>intro h<;>first|(exfalso;simp at h;first|done|omega)|skip)|refine oX (frz:=[1]) Yo ?_|refine oS ?_|refine Yn ?_|refine Yk ?_|refine cT ?_|refine cF ?_|refine Yb ?_|refine Ye ?_|refine Yd (frz:=[1]) Yo (by kernel_rfl) ?_|refine eX ?_|refine eS ?_|refine eN ?_|(refine Yt ?_;(first|refine rB ?_|refine rI ?_|refine rA ?_|refine rII ?_|refine rSI ?_|refine rT ?_|refine rS ?_);first|done|(rfl))|((exfalso;(simp at h<;>omega)))|fail)
 |cons a l =>
  rw [show encR r=.agg [.str r.name,alts (a :: l)] from by rw [encR,ha]]
  repeat' (first|refine Yg ?_|refine Yq ?_|(refine oB (frz:=[1]) Yo ?_ ?_<;>intro h<;>first|(exfalso;simp at h;first|done|omega)|skip)|(refine eB ?_ ?_<;>intro h<;>first|(exfalso;simp at h;first|done|omega)|skip)|refine oX (frz:=[1]) Yo ?_|refine oS ?_|refine Yn ?_|refine Yk ?_|refine cT ?_|refine cF ?_|refine Yb ?_|refine Ye ?_|refine Yd (frz:=[1]) Yo (by kernel_rfl) ?_|refine eX ?_|refine eS ?_|refine eN ?_|(refine Yt ?_;(first|refine rB ?_|refine rI ?_|refine rA ?_|refine rII ?_|refine rSI ?_|refine rT ?_|refine rS ?_);first|done|(rfl))|((exfalso;(simp at h<;>omega)))|fail)
def mayF (s:List Nat):Bool:=smallF s || capitalF s
theorem chk2 (s:List Nat) (hl:s.length≤1099511627776):KnownCall Tryz.prog 123 [.str s] (.d (.bool (mayF s))):=by
 have c1:=small s hl
 have c2:=capital s hl
 unfold mayF
 generalize smallF s=b1 at c1 ⊢
 generalize capitalF s=b2 at c2 ⊢
 cases b1 with
 |true =>
  refine knownE Yo (fnAt Tryz.func123 (by kernel_rfl) (by kernel_rfl):FnAt _ _ (mkFn Tryz.f123 [])) ?_
  repeat' (first|refine Yg ?_|refine Yq ?_|(refine oB (frz:=[]) Yo ?_ ?_<;>intro h<;>first|(exfalso;simp at h;first|done|omega)|skip)|(refine eB ?_ ?_<;>intro h<;>first|(exfalso;simp at h;first|done|omega)|skip)|refine oX (frz:=[]) Yo ?_|refine oS ?_|refine Yn ?_|refine Yk ?_|refine cT ?_|refine cF ?_|refine Yb ?_|refine Ye ?_|refine Yd (frz:=[]) Yo (by kernel_rfl) ?_|refine eX ?_|refine eS ?_|refine eN ?_|refine oC (c1) ?_|refine eC (c1) ?_|refine oC (c2) ?_|refine eC (c2) ?_|(refine Yt ?_;(first|refine rB ?_|refine rI ?_|refine rA ?_|refine rII ?_|refine rSI ?_|refine rT ?_|refine rS ?_);first|done|(rfl))|((exfalso;(simp at h<;>omega)))|fail)
 |false =>
  refine knownE Yo (fnAt Tryz.func123 (by kernel_rfl) (by kernel_rfl):FnAt _ _ (mkFn Tryz.f123 [])) ?_
  repeat' (first|refine Yg ?_|refine Yq ?_|(refine oB (frz:=[]) Yo ?_ ?_<;>intro h<;>first|(exfalso;simp at h;first|done|omega)|skip)|(refine eB ?_ ?_<;>intro h<;>first|(exfalso;simp at h;first|done|omega)|skip)|refine oX (frz:=[]) Yo ?_|refine oS ?_|refine Yn ?_|refine Yk ?_|refine cT ?_|refine cF ?_|refine Yb ?_|refine Ye ?_|refine Yd (frz:=[]) Yo (by kernel_rfl) ?_|refine eX ?_|refine eS ?_|refine eN ?_|refine oC (c1) ?_|refine eC (c1) ?_|refine oC (c2) ?_|refine eC (c2) ?_|(refine Yt ?_;(first|refine rB ?_|refine rI ?_|refine rA ?_|refine rII ?_|refine rSI ?_|refine rT ?_|refine rS ?_);first|done|(rfl))|((exfalso;(simp at h<;>omega)))|fail)
theorem all1 (s:List Nat) (F:FuncId) (caps:List DV) (b:Bool) (hp:KnownCall Tryz.prog F (.str s :: caps) (.d (.bool b))):KnownCall Tryz.prog 203 [.str s,.ep [.fn (.func F) [] caps]] (.d (.bool (!b))):=by
 cases b with
 |true =>
  refine knownE Yo (fnAt Tryz.func203 (by kernel_rfl) (by kernel_rfl):FnAt _ _ (mkFn Tryz.f203 [])) ?_
  repeat' (first|refine Yg ?_|refine Yq ?_|(refine oB (frz:=[]) Yo ?_ ?_<;>intro h<;>first|(exfalso;simp at h;first|done|omega)|skip)|(refine eB ?_ ?_<;>intro h<;>first|(exfalso;simp at h;first|done|omega)|skip)|refine oX (frz:=[]) Yo ?_|refine oS ?_|refine Yn ?_|refine Yk ?_|refine cT ?_|refine cF ?_|refine Yb ?_|refine Ye ?_|refine Yd (frz:=[]) Yo (by kernel_rfl) ?_|refine eX ?_|refine eS ?_|refine eN ?_|refine oC (hp) ?_|refine eC (hp) ?_|(refine Yt ?_;(first|refine rB ?_|refine rI ?_|refine rA ?_|refine rII ?_|refine rSI ?_|refine rT ?_|refine rS ?_);first|done|(rfl))|((exfalso;(simp at h<;>omega)))|fail)
 |false =>
  refine knownE Yo (fnAt Tryz.func203 (by kernel_rfl) (by kernel_rfl):FnAt _ _ (mkFn Tryz.f203 [])) ?_
  repeat' (first|refine Yg ?_|refine Yq ?_|(refine oB (frz:=[]) Yo ?_ ?_<;>intro h<;>first|(exfalso;simp at h;first|done|omega)|skip)|(refine eB ?_ ?_<;>intro h<;>first|(exfalso;simp at h;first|done|omega)|skip)|refine oX (frz:=[]) Yo ?_|refine oS ?_|refine Yn ?_|refine Yk ?_|refine cT ?_|refine cF ?_|refine Yb ?_|refine Ye ?_|refine Yd (frz:=[]) Yo (by kernel_rfl) ?_|refine eX ?_|refine eS ?_|refine eN ?_|refine oC (hp) ?_|refine eC (hp) ?_|(refine Yt ?_;(first|refine rB ?_|refine rI ?_|refine rA ?_|refine rII ?_|refine rSI ?_|refine rT ?_|refine rS ?_);first|done|(rfl))|((exfalso;(simp at h<;>omega)))|fail)
theorem allS (l:List (List Nat)) (hl:l.length≤1099511627776) (F:FuncId) (caps:List DV) (p:List Nat→Bool) (hp:∀ s ∈ l,KnownCall Tryz.prog F (.str s :: caps) (.d (.bool (p s)))) :
  KnownCall Tryz.prog 120 [strs l,.fn (.func F) [] caps] (.d (.bool (l.all p))):=by
 have hc:=containsFuncStrs l hl 203 [.ep [.fn (.func F) [] caps]] (fun s=>!p s) (fun s hs=>all1 s F caps (p s) (hp s hs))
 have e:l.all p=!(l.any fun s=>!p s):=by rw [List.all_eq_not_any_not]
 rw [e]
 generalize (l.any fun s=>!p s)=b at hc ⊢
 cases b with
 |true =>
  refine knownE Yo (fnAt Tryz.func120 (by kernel_rfl) (by kernel_rfl):FnAt _ _ (mkFn Tryz.f120 [3])) ?_
  repeat' (first|refine Yg ?_|refine Yq ?_|(refine oB (frz:=[3]) Yo ?_ ?_<;>intro h<;>first|(exfalso;simp at h;first|done|omega)|skip)|(refine eB ?_ ?_<;>intro h<;>first|(exfalso;simp at h;first|done|omega)|skip)|refine oX (frz:=[3]) Yo ?_|refine oS ?_|refine Yn ?_|refine Yk ?_|refine cT ?_|refine cF ?_|refine Yb ?_|refine Ye ?_|refine Yd (frz:=[3]) Yo (by kernel_rfl) ?_|refine eX ?_|refine eS ?_|refine eN ?_|refine oC (hc) ?_|refine eC (hc) ?_|(refine Yt ?_;(first|refine rB ?_|refine rI ?_|refine rA ?_|refine rII ?_|refine rSI ?_|refine rT ?_|refine rS ?_);first|done|(rfl))|((exfalso;(simp at h<;>omega)))|fail)
 |false =>
  refine knownE Yo (fnAt Tryz.func120 (by kernel_rfl) (by kernel_rfl):FnAt _ _ (mkFn Tryz.f120 [3])) ?_
  repeat' (first|refine Yg ?_|refine Yq ?_|(refine oB (frz:=[3]) Yo ?_ ?_<;>intro h<;>first|(exfalso;simp at h;first|done|omega)|skip)|(refine eB ?_ ?_<;>intro h<;>first|(exfalso;simp at h;first|done|omega)|skip)|refine oX (frz:=[3]) Yo ?_|refine oS ?_|refine Yn ?_|refine Yk ?_|refine cT ?_|refine cF ?_|refine Yb ?_|refine Ye ?_|refine Yd (frz:=[3]) Yo (by kernel_rfl) ?_|refine eX ?_|refine eS ?_|refine eN ?_|refine oC (hc) ?_|refine eC (hc) ?_|(refine Yt ?_;(first|refine rB ?_|refine rI ?_|refine rA ?_|refine rII ?_|refine rSI ?_|refine rT ?_|refine rS ?_);first|done|(rfl))|((exfalso;(simp at h<;>omega)))|fail)
theorem indexFuncSA (l:List (List Nat)) (hl:l.length≤1099511627776) (F:FuncId) (caps:List AV) (objs:List Ob) (p:List Nat→Bool) (hp:∀ x ∈ l,ACall Tryz.prog F (.d (.str x) :: caps) objs (.d (.bool (p x))) objs) :
  ACall Tryz.prog 237 [.d (strs l),.fn (.func F) [] caps] objs (.d (.int .i64 (idxP l p))) objs:=by
 refine acall_of_run Yo (fnAt Tryz.func237 (by kernel_rfl) (by kernel_rfl):FnAt _ _ (mkFn Tryz.f237 [])) rfl rfl ?_
 repeat' (first|refine Yg ?_|refine Yq ?_|(refine oB (frz:=[]) Yo ?_ ?_<;>intro h<;>first|(exfalso;simp at h;first|done|omega)|skip)|(refine eB ?_ ?_<;>intro h<;>first|(exfalso;simp at h;first|done|omega)|skip)|refine oX (frz:=[]) Yo ?_|refine oS ?_|refine Yn ?_|refine Yk ?_|refine cT ?_|refine cF ?_|refine Yb ?_|refine Ye ?_|refine Yd (frz:=[]) Yo (by kernel_rfl) ?_|refine eX ?_|refine eS ?_|refine eN ?_|(refine Yt ?_;(first|refine rB ?_|refine rI ?_|refine rA ?_|refine rII ?_|refine rSI ?_|refine rT ?_|refine rS ?_);first|done|(skip))|fail)
 refine Run.loop (fun i:Nat=>⟨PT.ofList [(0,.d (strs l)),(1,.fn (.func F) [] caps),(7,.d (.int .i64 l.length)),(8,.d (.int .i64 i))],objs,[]⟩) (fun i=>i≤l.length∧∀ j,j<i→∀ y,l[j]?=some y→p y=false) (fun i=>l.length-i) 0 ⟨Nat.zero_le _,fun j hj=>by omega⟩ (weak_of (by repeat' (first|exact trivial|refine⟨rfl,?_⟩|refine⟨Eq.trans (b:=some (.d (.int .i64 (l.map _).length))) rfl (by rw [List.length_map]),?_⟩|fail))) (fun i hi=>?_)
 obtain⟨hi1,hi2⟩:=hi
 rcases Nat.lt_or_ge i l.length with hlt|hge
 ·obtain⟨x,hx⟩:=get_ok hlt
  have hc:=hp x (List.mem_of_getElem? hx)
  cases hpx:p x with
  |true =>
   rw [hpx] at hc
   repeat' (first|refine Yg ?_|refine Yq ?_|(refine oB (frz:=[]) Yo ?_ ?_<;>intro h<;>first|(exfalso;simp at h;first|done|omega)|skip)|(refine eB ?_ ?_<;>intro h<;>first|(exfalso;simp at h;first|done|omega)|skip)|refine oX (frz:=[]) Yo ?_|refine oS ?_|refine Yn ?_|refine Yk ?_|refine cT ?_|refine cF ?_|refine Yb ?_|refine Ye ?_|refine Yd (frz:=[]) Yo (by kernel_rfl) ?_|refine eX ?_|refine eS ?_|refine eN ?_|refine oX (frz:=[]) (v:=.d (.ep [.str x])) Yo ?_ (hf:=(by first|(simp [inB]<;>fail)|(simp [inB];omega))) (he:=(by first|(simp [List.getD_eq_getElem?_getD,cellsD,hx]<;>fail)|fail))|refine eX (v:=.d (.ep [.str x])) ?_ (hf:=(by first|(simp [inB]<;>fail)|(simp [inB];omega))) (he:=(by first|(simp [List.getD_eq_getElem?_getD,cellsD,hx]<;>fail)|fail))|refine RunOps.call (by rfl) (by rfl) hc (by rfl) (by rfl) ?_|(refine Yt ?_;(first|refine rB ?_|refine rI ?_|refine rA ?_|refine rII ?_|refine rSI ?_|refine rT ?_|refine rS ?_);first|done|(skip))|fail)
   refine Yt ?_
   refine⟨trivial,rfl,?_⟩
   rw [idxP_at hx hpx hi2];rfl
  |false =>
   rw [hpx] at hc
   repeat' (first|refine Yg ?_|refine Yq ?_|(refine oB (frz:=[]) Yo ?_ ?_<;>intro h<;>first|(exfalso;simp at h;first|done|omega)|skip)|(refine eB ?_ ?_<;>intro h<;>first|(exfalso;simp at h;first|done|omega)|skip)|refine oX (frz:=[]) Yo ?_|refine oS ?_|refine Yn ?_|refine Yk ?_|refine cT ?_|refine cF ?_|refine Yb ?_|refine Ye ?_|refine Yd (frz:=[]) Yo (by kernel_rfl) ?_|refine eX ?_|refine eS ?_|refine eN ?_|refine oX (frz:=[]) (v:=.d (.ep [.str x])) Yo ?_ (hf:=(by first|(simp [inB]<;>fail)|(simp [inB];omega))) (he:=(by first|(simp [List.getD_eq_getElem?_getD,cellsD,hx]<;>fail)|fail))|refine eX (v:=.d (.ep [.str x])) ?_ (hf:=(by first|(simp [inB]<;>fail)|(simp [inB];omega))) (he:=(by first|(simp [List.getD_eq_getElem?_getD,cellsD,hx]<;>fail)|fail))|refine RunOps.call (by rfl) (by rfl) hc (by rfl) (by rfl) ?_|(refine Yt ?_;(first|refine rB ?_|refine rI ?_|refine rA ?_|refine rII ?_|refine rSI ?_|refine rT ?_|refine rS ?_);first|done|(skip))|(exact⟨i+1,⟨by omega,all_succ hi2 (fun q hq=>by rw [hx] at hq;cases hq;exact hpx)⟩,by omega,weak_of (by repeat' (first|exact trivial|refine⟨rfl,?_⟩|refine⟨(inc_get (k:=i) (by kernel_rfl) (by omega)),?_⟩))⟩)|fail)
 ·have hge:i=l.length:=by omega
  repeat' (first|refine Yg ?_|refine Yq ?_|(refine oB (frz:=[]) Yo ?_ ?_<;>intro h<;>first|(exfalso;simp at h;first|done|omega)|skip)|(refine eB ?_ ?_<;>intro h<;>first|(exfalso;simp at h;first|done|omega)|skip)|refine oX (frz:=[]) Yo ?_|refine oS ?_|refine Yn ?_|refine Yk ?_|refine cT ?_|refine cF ?_|refine Yb ?_|refine Ye ?_|refine Yd (frz:=[]) Yo (by kernel_rfl) ?_|refine eX ?_|refine eS ?_|refine eN ?_|(refine Yt ?_;(first|refine rB ?_|refine rI ?_|refine rA ?_|refine rII ?_|refine rSI ?_|refine rT ?_|refine rS ?_);first|done|(skip))|fail)
  refine Yt ?_
  refine⟨trivial,rfl,?_⟩
  rw [idxP_none (fun j hj=>hi2 j (by omega))];rfl
theorem containsFuncSA (l:List (List Nat)) (hl:l.length≤1099511627776) (F:FuncId) (caps:List AV) (objs:List Ob) (p:List Nat→Bool) (hp:∀ x ∈ l,ACall Tryz.prog F (.d (.str x) :: caps) objs (.d (.bool (p x))) objs) :
  ACall Tryz.prog 202 [.d (strs l),.fn (.func F) [] caps] objs (.d (.bool (l.any p))) objs:=by
 refine acall_of_run Yo (fnAt Tryz.func202 (by kernel_rfl) (by kernel_rfl):FnAt _ _ (mkFn Tryz.f202 [])) rfl rfl ?_
 repeat (first|refine oX (frz:=[]) Yo ?_|refine oS ?_|refine Yn ?_|refine Yg ?_|refine Yq ?_|refine Yk ?_|refine Yb ?_|refine Ye ?_|refine Yd (frz:=[]) Yo (by kernel_rfl) ?_|refine eX ?_|refine eS ?_|refine eN ?_)
 refine RunOps.call (by rfl) (by rfl) (indexFuncSA l hl F caps objs p hp) (by rfl) (by rfl) ?_
 repeat (first|refine oX (frz:=[]) Yo ?_|refine oS ?_|refine Yn ?_|refine Yg ?_|refine Yq ?_|refine Yk ?_|refine Yb ?_|refine Ye ?_|refine Yd (frz:=[]) Yo (by kernel_rfl) ?_|refine eX ?_|refine eS ?_|refine eN ?_)
 refine Yt ?_
 refine⟨trivial,rfl,Eq.trans (b:=some (.d (.bool (decide (idxP l p ≥ 0))))) (by kernel_rfl) ?_⟩
 rw [show decide (idxP l p ≥ 0)=l.any p from idxP_any l p]
def knowF (x:Src) (rn:List (List Nat)) (s:List Nat):Bool:=decide (s ∈ x.tokens) || decide (s ∈ rn)
theorem chk3 (x:Src) (rn:List (List Nat)) (O:Ob) (B:List Ob) (s:List Nat) (hf:FitsX x) (hrn:rn.length≤1099511627776) :
  ACall Tryz.prog 126 [.d (.str s),cellX x,.bp 1 0] (O :: .box [.d (strs rn)] :: B) (.d (.bool (knowF x rn s))) (O :: .box [.d (strs rn)] :: B):=by
 have c1:=contains x.tokens s (Nat.le_trans hf.tokens (by decide))
 have c2:=contains rn s hrn
 unfold knowF
 generalize decide (s ∈ x.tokens)=b1 at c1 ⊢
 generalize decide (s ∈ rn)=b2 at c2 ⊢
 cases b1 with
 |true =>
  refine acall_of_run Yo (fnAt Tryz.func126 (by kernel_rfl) (by kernel_rfl):FnAt _ _ (mkFn Tryz.f126 [])) rfl rfl ?_
  repeat' (first|refine Yg ?_|refine Yq ?_|(refine oB (frz:=[]) Yo ?_ ?_<;>intro h<;>first|(exfalso;simp at h;first|done|omega)|skip)|(refine eB ?_ ?_<;>intro h<;>first|(exfalso;simp at h;first|done|omega)|skip)|refine oX (frz:=[]) Yo ?_|refine oS ?_|refine Yn ?_|refine Yk ?_|refine cT ?_|refine cF ?_|refine Yb ?_|refine Ye ?_|refine Yd (frz:=[]) Yo (by kernel_rfl) ?_|refine eX ?_|refine eS ?_|refine eN ?_|refine oC (c1) ?_|refine eC (c1) ?_|refine oC (c2) ?_|refine eC (c2) ?_|(refine Yt ?_;(first|refine rB ?_|refine rI ?_|refine rA ?_|refine rII ?_|refine rSI ?_|refine rT ?_|refine rS ?_);first|done|(skip))|fail)
  refine Yt ?_
  exact⟨trivial,rfl,rfl⟩
 |false =>
  refine acall_of_run Yo (fnAt Tryz.func126 (by kernel_rfl) (by kernel_rfl):FnAt _ _ (mkFn Tryz.f126 [])) rfl rfl ?_
  repeat' (first|refine Yg ?_|refine Yq ?_|(refine oB (frz:=[]) Yo ?_ ?_<;>intro h<;>first|(exfalso;simp at h;first|done|omega)|skip)|(refine eB ?_ ?_<;>intro h<;>first|(exfalso;simp at h;first|done|omega)|skip)|refine oX (frz:=[]) Yo ?_|refine oS ?_|refine Yn ?_|refine Yk ?_|refine cT ?_|refine cF ?_|refine Yb ?_|refine Ye ?_|refine Yd (frz:=[]) Yo (by kernel_rfl) ?_|refine eX ?_|refine eS ?_|refine eN ?_|refine oC (c1) ?_|refine eC (c1) ?_|refine oC (c2) ?_|refine eC (c2) ?_|(refine Yt ?_;(first|refine rB ?_|refine rI ?_|refine rA ?_|refine rII ?_|refine rSI ?_|refine rT ?_|refine rS ?_);first|done|(skip))|fail)
  refine Yt ?_
  exact⟨trivial,rfl,rfl⟩
theorem all1A (F:FuncId) (caps:List AV) (O P:Ob) (s:List Nat) (b:Bool) (hp:ACall Tryz.prog F (.d (.str s) :: caps) [O,P,.box [.fn (.func F) [] caps]] (.d (.bool b)) [O,P,.box [.fn (.func F) [] caps]]) :
  ACall Tryz.prog 203 [.d (.str s),.bp 2 0] [O,P,.box [.fn (.func F) [] caps]] (.d (.bool (!b))) [O,P,.box [.fn (.func F) [] caps]]:=by
 cases b with
 |true =>
  refine acall_of_run Yo (fnAt Tryz.func203 (by kernel_rfl) (by kernel_rfl):FnAt _ _ (mkFn Tryz.f203 [])) rfl rfl ?_
  repeat' (first|refine Yg ?_|refine Yq ?_|(refine oB (frz:=[]) Yo ?_ ?_<;>intro h<;>first|(exfalso;simp at h;first|done|omega)|skip)|(refine eB ?_ ?_<;>intro h<;>first|(exfalso;simp at h;first|done|omega)|skip)|refine oX (frz:=[]) Yo ?_|refine oS ?_|refine Yn ?_|refine Yk ?_|refine cT ?_|refine cF ?_|refine Yb ?_|refine Ye ?_|refine Yd (frz:=[]) Yo (by kernel_rfl) ?_|refine eX ?_|refine eS ?_|refine eN ?_|refine RunOps.call (by rfl) (by rfl) hp (by rfl) (by rfl) ?_|(refine Yt ?_;(first|refine rB ?_|refine rI ?_|refine rA ?_|refine rII ?_|refine rSI ?_|refine rT ?_|refine rS ?_);first|done|(skip))|fail)
  refine Yt ?_
  exact⟨trivial,rfl,rfl⟩
 |false =>
  refine acall_of_run Yo (fnAt Tryz.func203 (by kernel_rfl) (by kernel_rfl):FnAt _ _ (mkFn Tryz.f203 [])) rfl rfl ?_
  repeat' (first|refine Yg ?_|refine Yq ?_|(refine oB (frz:=[]) Yo ?_ ?_<;>intro h<;>first|(exfalso;simp at h;first|done|omega)|skip)|(refine eB ?_ ?_<;>intro h<;>first|(exfalso;simp at h;first|done|omega)|skip)|refine oX (frz:=[]) Yo ?_|refine oS ?_|refine Yn ?_|refine Yk ?_|refine cT ?_|refine cF ?_|refine Yb ?_|refine Ye ?_|refine Yd (frz:=[]) Yo (by kernel_rfl) ?_|refine eX ?_|refine eS ?_|refine eN ?_|refine RunOps.call (by rfl) (by rfl) hp (by rfl) (by rfl) ?_|(refine Yt ?_;(first|refine rB ?_|refine rI ?_|refine rA ?_|refine rII ?_|refine rSI ?_|refine rT ?_|refine rS ?_);first|done|(skip))|fail)
  refine Yt ?_
  exact⟨trivial,rfl,rfl⟩
theorem allA (l:List (List Nat)) (hl:l.length≤1099511627776) (F:FuncId) (caps:List AV) (O P:Ob) (p:List Nat→Bool) (hp:∀ x ∈ l,ACall Tryz.prog F (.d (.str x) :: caps) [O,P,.box [.fn (.func F) [] caps]] (.d (.bool (p x))) [O,P,.box [.fn (.func F) [] caps]]) :
  ACall Tryz.prog 120 [.d (strs l),.fn (.func F) [] caps] [O,P] (.d (.bool (l.all p))) [O,P,.box [.fn (.func F) [] caps]]:=by
 have hc:=containsFuncSA l hl 203 [.bp 2 0] [O,P,.box [.fn (.func F) [] caps]] (fun s=>!p s) (fun s hs=>all1A F caps O P s (p s) (hp s hs))
 have e:l.all p=!(l.any fun s=>!p s):=by rw [List.all_eq_not_any_not]
 rw [e]
 generalize (l.any fun s=>!p s)=b at hc ⊢
 cases b with
 |true =>
  refine acall_of_run Yo (fnAt Tryz.func120 (by kernel_rfl) (by kernel_rfl):FnAt _ _ (mkFn Tryz.f120 [])) rfl rfl ?_
  repeat' (first|refine Yg ?_|refine Yq ?_|(refine oB (frz:=[]) Yo ?_ ?_<;>intro h<;>first|(exfalso;simp at h;first|done|omega)|skip)|(refine eB ?_ ?_<;>intro h<;>first|(exfalso;simp at h;first|done|omega)|skip)|refine oX (frz:=[]) Yo ?_|refine oS ?_|refine Yn ?_|refine Yk ?_|refine cT ?_|refine cF ?_|refine Yb ?_|refine Ye ?_|refine Yd (frz:=[]) Yo (by kernel_rfl) ?_|refine eX ?_|refine eS ?_|refine eN ?_|refine RunOps.call (by rfl) (by rfl) hc (by rfl) (by rfl) ?_|(refine Yt ?_;(first|refine rB ?_|refine rI ?_|refine rA ?_|refine rII ?_|refine rSI ?_|refine rT ?_|refine rS ?_);first|done|(skip))|fail)
  refine Yt ?_
  exact⟨trivial,rfl,rfl⟩
 |false =>
  refine acall_of_run Yo (fnAt Tryz.func120 (by kernel_rfl) (by kernel_rfl):FnAt _ _ (mkFn Tryz.f120 [])) rfl rfl ?_
  repeat' (first|refine Yg ?_|refine Yq ?_|(refine oB (frz:=[]) Yo ?_ ?_<;>intro h<;>first|(exfalso;simp at h;first|done|omega)|skip)|(refine eB ?_ ?_<;>intro h<;>first|(exfalso;simp at h;first|done|omega)|skip)|refine oX (frz:=[]) Yo ?_|refine oS ?_|refine Yn ?_|refine Yk ?_|refine cT ?_|refine cF ?_|refine Yb ?_|refine Ye ?_|refine Yd (frz:=[]) Yo (by kernel_rfl) ?_|refine eX ?_|refine eS ?_|refine eN ?_|refine RunOps.call (by rfl) (by rfl) hc (by rfl) (by rfl) ?_|(refine Yt ?_;(first|refine rB ?_|refine rI ?_|refine rA ?_|refine rII ?_|refine rSI ?_|refine rT ?_|refine rS ?_);first|done|(skip))|fail)
  refine Yt ?_
  exact⟨trivial,rfl,rfl⟩
end Go.Av
end
noncomputable section
namespace Go.Av
open Go Go.Proofs
set_option maxRecDepth 10000
theorem hasF_mem (l:List (List Nat)) (s:List Nat):hasF l s=decide (s ∈ l):=by
 rw [Bool.eq_iff_iff]
 simp only [hasF,List.any_eq_true,decide_eq_true_eq]
 constructor
 ·rintro⟨y,hy,rfl⟩;exact hy
 ·exact fun h=>⟨s,h,rfl⟩
theorem mem_innerX {x:Src} {s:List Nat}:s ∈ innerX x ↔ ∃ r ∈ x.rules,∃ a ∈ r.alts,s ∈ a:=by
 simp [innerX,List.mem_flatMap,List.mem_flatten]
theorem mis_eq (x:Src):misX x=!((smallsX x).all smallF && capitalF x.start && (ruleNames x).all capitalF && (innerX x).all mayF):=by
 rw [Bool.eq_iff_iff,Bool.not_eq_true',← Bool.not_eq_true]
 simp only [misX,misR,noName,mayF,smallsX,ruleNames,Bool.or_eq_true,Bool.and_eq_true,List.any_eq_true,List.all_eq_true,Bool.not_eq_true',List.mem_append,List.mem_singleton,List.mem_map,mem_innerX]
 constructor
 ·rintro(((⟨s,hs,h⟩|⟨r,hr,h|⟨a,ha,s,hs,h1,h2⟩⟩)|h)|h) ⟨⟨⟨g1,g2⟩,g3⟩,g4⟩
  ·rw [g1 s (.inl hs)] at h;cases h
  ·rw [g3 _ ⟨r,hr,rfl⟩] at h;cases h
  ·rcases g4 s ⟨r,hr,a,ha,hs⟩ with g|g
   ·rw [g] at h1;cases h1
   ·rw [g] at h2;cases h2
  ·rw [g1 _ (.inr rfl)] at h;cases h
  ·rw [g2] at h;cases h
 ·intro h
  refine Classical.byContradiction fun hn=>h ⟨⟨⟨?_,?_⟩,?_⟩,?_⟩
  ·intro s hs
   cases hb:smallF s with
   |true=>rfl
   |false =>
    rcases hs with hs|rfl
    ·exact absurd (.inl (.inl (.inl ⟨s,hs,hb⟩))) hn
    ·exact absurd (.inl (.inr hb)) hn
  ·cases hb:capitalF x.start with
   |true=>rfl
   |false=>exact absurd (.inr hb) hn
  ·rintro s ⟨r,hr,rfl⟩
   cases hb:capitalF r.name with
   |true=>rfl
   |false=>exact absurd (.inl (.inl (.inr ⟨r,hr,.inl hb⟩))) hn
  ·rintro s ⟨r,hr,a,ha,hs⟩
   cases hb:smallF s with
   |true=>exact .inl rfl
   |false=>cases hb2:capitalF s with
    |true=>exact .inr rfl
    |false=>exact absurd (.inl (.inl (.inr ⟨r,hr,.inr ⟨a,ha,s,hs,hb,hb2⟩⟩))) hn
theorem uses_eq (x:Src) (s:List Nat):usesX x s=decide (s ∈ innerX x):=by
 rw [Bool.eq_iff_iff]
 simp only [usesX,usesR,List.any_eq_true,hasF_mem,decide_eq_true_eq,mem_innerX]
theorem unk_eq (x:Src):unkX x=(!decide (x.start ∈ ruleNames x) || !(innerX x).all (knowF x (ruleNames x))):=by
 rw [Bool.eq_iff_iff]
 simp only [unkX,unkR,unkS,knowF,hasF_mem,Bool.or_eq_true,Bool.and_eq_true,List.any_eq_true,Bool.not_eq_true',decide_eq_false_iff_not,← Bool.not_eq_true,List.all_eq_true,mem_innerX,decide_eq_true_eq]
 constructor
 ·rintro(⟨r,hr,a,ha,s,hs,h1,h2⟩|h)
  ·exact .inr fun g=>(g s ⟨r,hr,a,ha,hs⟩).elim h2 h1
  ·exact .inl h
 ·rintro(h|h)
  ·exact .inr h
  ·refine .inl (Classical.byContradiction fun hn=>h ?_)
   rintro s ⟨r,hr,a,ha,hs⟩
   refine Classical.byContradiction fun hk=>hn ⟨r,hr,a,ha,s,hs,fun e=>hk (.inr e),fun e=>hk (.inl e)⟩
set_option maxHeartbeats 4000000 in
theorem checkS (x:Src) (hf:FitsX x) (ht:(innerX x).length≤1048576):KnownCall Tryz.prog 35 [encX x] (.d (.int .i64 (checkX x))):=by
 have htl:=hf.tokens
 have hrl:=hf.rules
 have c0:=cloneA x.tokens htl
 have c1:KnownCall Tryz.prog 115 [encX x] (.d (strs (ruleNames x))):=heads x hf
 have c2:=inner x hf ht
 have c3:=containsFuncRules x.rules (by omega) 118 [] (fun r=>r.alts.isEmpty) (fun r _=>chk1 r)
 have c4:=fullS x hf
 have c5:=allS (smallsX x) (by simp [smallsX];omega) 121 [] smallF (fun s hs=>small s (by
  simp only [smallsX,List.mem_append,List.mem_singleton] at hs
  rcases hs with hs|rfl
  ·exact Nat.le_trans (hf.tokenS s hs) (by decide)
  ·exact Nat.le_trans hf.sep (by decide)))
 have c6:=capital x.start (Nat.le_trans hf.start (by decide))
 have c7:=allS (ruleNames x) (by simp;omega) 122 [] capitalF (fun s hs=>capital s (by
  obtain⟨r,hr,rfl⟩:=List.mem_map.1 hs
  exact Nat.le_trans (hf.ruleS r hr) (by decide)))
 have c8:=allS (innerX x) (by omega) 123 [] mayF (fun s hs=>chk2 s (by
  obtain⟨r,hr,a,ha,hs⟩:=mem_innerX.1 hs
  exact Nat.le_trans (hf.nameS r hr a ha s hs) (by decide)))
 have c9:=twiceS (smallsX x) (by simp [smallsX];omega)
 have c10:=twiceS (ruleNames x) (by simp;omega)
 have c11:=contains (innerX x) x.sep (by omega)
 have c12:=contains (ruleNames x) x.start (by simp;omega)
 have c13:=fun(O:Ob)=>allA (innerX x) (by omega) 126 [cellX x,.bp 1 0] O (.box [.d (strs (ruleNames x))]) (knowF x (ruleNames x)) (fun s _=>chk3 x (ruleNames x) O [_] s hf (by simp;omega))
 rw [← strs_smallsX] at c5 c9
 have hrn:(ruleNames x).length=x.rules.length:=by simp
 have hshort:shortX x=(decide (x.tokens.length=0) || decide ((ruleNames x).length=0) || x.rules.any (fun r=>r.alts.isEmpty)):=by
  unfold shortX
  rw [hrn]
  cases x.tokens<;>cases x.rules<;>simp
 have hchk:checkX x=if x.k<1∨4<x.k then 2 else if shortX x=true then 5 else if fullX x=true then 6 else if misX x=true then 12 else if twoX x=true then 8 else if usesX x x.sep=true then 14 else if unkX x=true then 7 else 0:=rfl
 rw [hshort,mis_eq,uses_eq,unk_eq,twoX] at hchk
 rw [hchk]
 generalize x.rules.any (fun r=>r.alts.isEmpty)=b1 at c3 ⊢
 generalize fullX x=b2 at c4 ⊢
 generalize (smallsX x).all smallF=b3 at c5 ⊢
 generalize capitalF x.start=b4 at c6 ⊢
 generalize (ruleNames x).all capitalF=b5 at c7 ⊢
 generalize (innerX x).all mayF=b6 at c8 ⊢
 generalize decide (¬ (smallsX x).Nodup)=b7 at c9 ⊢
 generalize decide (¬ (ruleNames x).Nodup)=b8 at c10 ⊢
 generalize decide (x.sep ∈ innerX x)=b9 at c11 ⊢
 generalize decide (x.start ∈ ruleNames x)=b10 at c12 ⊢
 generalize (innerX x).all (knowF x (ruleNames x))=b11 at c13 ⊢
 clear hchk hshort
 generalize hrn2:ruleNames x=rn at *
 generalize hin2:innerX x=inn at *
 by_cases hk1:x.k<1
 ·rw [if_pos (.inl hk1)]
  refine knownE Yo (fnAt Tryz.func35 (by kernel_rfl) (by kernel_rfl):FnAt _ _ (mkFn Tryz.f35 [1,11])) ?_
  repeat' (first|refine Yg ?_|refine Yq ?_|(refine oB (frz:=[1,11]) Yo ?_ ?_<;>intro h<;>first|(exfalso;simp at h;first|done|omega)|skip)|(refine eB ?_ ?_<;>intro h<;>first|(exfalso;simp at h;first|done|omega)|skip)|refine oX (frz:=[1,11]) Yo ?_|refine oS ?_|refine Yn ?_|refine Yk ?_|refine cT ?_|refine cF ?_|refine Yb ?_|refine Ye ?_|refine Yd (frz:=[1,11]) Yo (by kernel_rfl) ?_|refine eX ?_|refine eS ?_|refine eN ?_|refine eA c0 ?_|refine oC (c1) ?_|refine eC (c1) ?_|refine oC (c2) ?_|refine eC (c2) ?_|refine oX (frz:=[1,11]) Yo ?_ (hv:=app1) (hf:=rfl) (he:=rfl)|refine eX ?_ (hv:=app1) (hf:=rfl) (he:=rfl)|refine oX (frz:=[1,11]) Yo ?_ (hv:=app0) (hf:=rfl) (he:=rfl)|refine eX ?_ (hv:=app0) (hf:=rfl) (he:=rfl)|(refine Yt ?_;(first|refine rB ?_|refine rI ?_|refine rA ?_|refine rII ?_|refine rSI ?_|refine rT ?_|refine rS ?_);first|done|(rfl))|((exfalso;(simp at h<;>omega)))|fail)
 ·by_cases hk4:4<x.k
  ·rw [if_pos (.inr hk4)]
   refine knownE Yo (fnAt Tryz.func35 (by kernel_rfl) (by kernel_rfl):FnAt _ _ (mkFn Tryz.f35 [1,11])) ?_
   repeat' (first|refine Yg ?_|refine Yq ?_|(refine oB (frz:=[1,11]) Yo ?_ ?_<;>intro h<;>first|(exfalso;simp at h;first|done|omega)|skip)|(refine eB ?_ ?_<;>intro h<;>first|(exfalso;simp at h;first|done|omega)|skip)|refine oX (frz:=[1,11]) Yo ?_|refine oS ?_|refine Yn ?_|refine Yk ?_|refine cT ?_|refine cF ?_|refine Yb ?_|refine Ye ?_|refine Yd (frz:=[1,11]) Yo (by kernel_rfl) ?_|refine eX ?_|refine eS ?_|refine eN ?_|refine eA c0 ?_|refine oC (c1) ?_|refine eC (c1) ?_|refine oC (c2) ?_|refine eC (c2) ?_|refine oX (frz:=[1,11]) Yo ?_ (hv:=app1) (hf:=rfl) (he:=rfl)|refine eX ?_ (hv:=app1) (hf:=rfl) (he:=rfl)|refine oX (frz:=[1,11]) Yo ?_ (hv:=app0) (hf:=rfl) (he:=rfl)|refine eX ?_ (hv:=app0) (hf:=rfl) (he:=rfl)|(refine Yt ?_;(first|refine rB ?_|refine rI ?_|refine rA ?_|refine rII ?_|refine rSI ?_|refine rT ?_|refine rS ?_);first|done|(rfl))|((exfalso;(simp at h<;>omega)))|fail)
  ·rw [if_neg (by omega)]
   by_cases ht0:x.tokens.length=0
   ·have hT:AV.d (.bool ((((x.tokens.map DV.str).length:Nat):Int) == 0))=.d (.bool true):=by rw [List.length_map,ht0];rfl
    rw [show(decide (x.tokens.length=0) || decide (rn.length=0) || b1)=true from by simp [ht0],if_pos rfl]
    refine knownE Yo (fnAt Tryz.func35 (by kernel_rfl) (by kernel_rfl):FnAt _ _ (mkFn Tryz.f35 [1,11])) ?_
    repeat' (first|refine oX (frz:=[1,11]) (v:=.d (.bool true)) Yo ?_ (he:=(hT))|refine eX (v:=.d (.bool true)) ?_ (he:=(hT))|refine Yg ?_|refine Yq ?_|(refine oB (frz:=[1,11]) Yo ?_ ?_<;>intro h<;>first|(exfalso;simp at h;first|done|omega)|skip)|(refine eB ?_ ?_<;>intro h<;>first|(exfalso;simp at h;first|done|omega)|skip)|refine oX (frz:=[1,11]) Yo ?_|refine oS ?_|refine Yn ?_|refine Yk ?_|refine cT ?_|refine cF ?_|refine Yb ?_|refine Ye ?_|refine Yd (frz:=[1,11]) Yo (by kernel_rfl) ?_|refine eX ?_|refine eS ?_|refine eN ?_|refine eA c0 ?_|refine oC (c1) ?_|refine eC (c1) ?_|refine oC (c2) ?_|refine eC (c2) ?_|refine oX (frz:=[1,11]) Yo ?_ (hv:=app1) (hf:=rfl) (he:=rfl)|refine eX ?_ (hv:=app1) (hf:=rfl) (he:=rfl)|refine oX (frz:=[1,11]) Yo ?_ (hv:=app0) (hf:=rfl) (he:=rfl)|refine eX ?_ (hv:=app0) (hf:=rfl) (he:=rfl)|(refine Yt ?_;(first|refine rB ?_|refine rI ?_|refine rA ?_|refine rII ?_|refine rSI ?_|refine rT ?_|refine rS ?_);first|done|(rfl))|((exfalso;(simp at h<;>omega)))|fail)
   ·have hT:AV.d (.bool ((((x.tokens.map DV.str).length:Nat):Int) == 0))=.d (.bool false):=by
     rw [List.length_map];exact congrArg (fun b=>AV.d (.bool b)) (by simpa using ht0)
    by_cases hr0:rn.length=0
    ·have hR:AV.d (.bool ((((rn.map DV.str).length:Nat):Int) == 0))=.d (.bool true):=by rw [List.length_map,hr0];rfl
     rw [show(decide (x.tokens.length=0) || decide (rn.length=0) || b1)=true from by simp [hr0],if_pos rfl]
     refine knownE Yo (fnAt Tryz.func35 (by kernel_rfl) (by kernel_rfl):FnAt _ _ (mkFn Tryz.f35 [1,11])) ?_
     repeat' (first|refine oX (frz:=[1,11]) (v:=.d (.bool true)) Yo ?_ (he:=(hR))|refine eX (v:=.d (.bool true)) ?_ (he:=(hR))|refine oX (frz:=[1,11]) (v:=.d (.bool false)) Yo ?_ (he:=(hT))|refine eX (v:=.d (.bool false)) ?_ (he:=(hT))|refine Yg ?_|refine Yq ?_|(refine oB (frz:=[1,11]) Yo ?_ ?_<;>intro h<;>first|(exfalso;simp at h;first|done|omega)|skip)|(refine eB ?_ ?_<;>intro h<;>first|(exfalso;simp at h;first|done|omega)|skip)|refine oX (frz:=[1,11]) Yo ?_|refine oS ?_|refine Yn ?_|refine Yk ?_|refine cT ?_|refine cF ?_|refine Yb ?_|refine Ye ?_|refine Yd (frz:=[1,11]) Yo (by kernel_rfl) ?_|refine eX ?_|refine eS ?_|refine eN ?_|refine eA c0 ?_|refine oC (c1) ?_|refine eC (c1) ?_|refine oC (c2) ?_|refine eC (c2) ?_|refine oX (frz:=[1,11]) Yo ?_ (hv:=app1) (hf:=rfl) (he:=rfl)|refine eX ?_ (hv:=app1) (hf:=rfl) (he:=rfl)|refine oX (frz:=[1,11]) Yo ?_ (hv:=app0) (hf:=rfl) (he:=rfl)|refine eX ?_ (hv:=app0) (hf:=rfl) (he:=rfl)|(refine Yt ?_;(first|refine rB ?_|refine rI ?_|refine rA ?_|refine rII ?_|refine rSI ?_|refine rT ?_|refine rS ?_);first|done|(rfl))|((exfalso;(simp at h<;>omega)))|fail)
    ·have hR:AV.d (.bool ((((rn.map DV.str).length:Nat):Int) == 0))=.d (.bool false):=by
      rw [List.length_map];exact congrArg (fun b=>AV.d (.bool b)) (by simpa using hr0)
     rw [show(decide (x.tokens.length=0) || decide (rn.length=0) || b1)=b1 from by simp [ht0,hr0]]
     cases b1 with
     |true =>
      refine knownE Yo (fnAt Tryz.func35 (by kernel_rfl) (by kernel_rfl):FnAt _ _ (mkFn Tryz.f35 [1,11])) ?_
      repeat' (first|refine oX (frz:=[1,11]) (v:=.d (.bool false)) Yo ?_ (he:=(hR))|refine eX (v:=.d (.bool false)) ?_ (he:=(hR))|refine oX (frz:=[1,11]) (v:=.d (.bool false)) Yo ?_ (he:=(hT))|refine eX (v:=.d (.bool false)) ?_ (he:=(hT))|refine Yg ?_|refine Yq ?_|(refine oB (frz:=[1,11]) Yo ?_ ?_<;>intro h<;>first|(exfalso;simp at h;first|done|omega)|skip)|(refine eB ?_ ?_<;>intro h<;>first|(exfalso;simp at h;first|done|omega)|skip)|refine oX (frz:=[1,11]) Yo ?_|refine oS ?_|refine Yn ?_|refine Yk ?_|refine cT ?_|refine cF ?_|refine Yb ?_|refine Ye ?_|refine Yd (frz:=[1,11]) Yo (by kernel_rfl) ?_|refine eX ?_|refine eS ?_|refine eN ?_|refine eA c0 ?_|refine oC (c1) ?_|refine eC (c1) ?_|refine oC (c2) ?_|refine eC (c2) ?_|refine oC (c3) ?_|refine eC (c3) ?_|refine oX (frz:=[1,11]) Yo ?_ (hv:=app1) (hf:=rfl) (he:=rfl)|refine eX ?_ (hv:=app1) (hf:=rfl) (he:=rfl)|refine oX (frz:=[1,11]) Yo ?_ (hv:=app0) (hf:=rfl) (he:=rfl)|refine eX ?_ (hv:=app0) (hf:=rfl) (he:=rfl)|(refine Yt ?_;(first|refine rB ?_|refine rI ?_|refine rA ?_|refine rII ?_|refine rSI ?_|refine rT ?_|refine rS ?_);first|done|(rfl))|((exfalso;(simp at h<;>omega)))|fail)
     |false =>
      cases b2 with
      |true =>
       refine knownE Yo (fnAt Tryz.func35 (by kernel_rfl) (by kernel_rfl):FnAt _ _ (mkFn Tryz.f35 [1,11])) ?_
       repeat' (first|refine oX (frz:=[1,11]) (v:=.d (.bool false)) Yo ?_ (he:=(hR))|refine eX (v:=.d (.bool false)) ?_ (he:=(hR))|refine oX (frz:=[1,11]) (v:=.d (.bool false)) Yo ?_ (he:=(hT))|refine eX (v:=.d (.bool false)) ?_ (he:=(hT))|refine Yg ?_|refine Yq ?_|(refine oB (frz:=[1,11]) Yo ?_ ?_<;>intro h<;>first|(exfalso;simp at h;first|done|omega)|skip)|(refine eB ?_ ?_<;>intro h<;>first|(exfalso;simp at h;first|done|omega)|skip)|refine oX (frz:=[1,11]) Yo ?_|refine oS ?_|refine Yn ?_|refine Yk ?_|refine cT ?_|refine cF ?_|refine Yb ?_|refine Ye ?_|refine Yd (frz:=[1,11]) Yo (by kernel_rfl) ?_|refine eX ?_|refine eS ?_|refine eN ?_|refine eA c0 ?_|refine oC (c1) ?_|refine eC (c1) ?_|refine oC (c2) ?_|refine eC (c2) ?_|refine oC (c3) ?_|refine eC (c3) ?_|refine oC (c4) ?_|refine eC (c4) ?_|refine oX (frz:=[1,11]) Yo ?_ (hv:=app1) (hf:=rfl) (he:=rfl)|refine eX ?_ (hv:=app1) (hf:=rfl) (he:=rfl)|refine oX (frz:=[1,11]) Yo ?_ (hv:=app0) (hf:=rfl) (he:=rfl)|refine eX ?_ (hv:=app0) (hf:=rfl) (he:=rfl)|(refine Yt ?_;(first|refine rB ?_|refine rI ?_|refine rA ?_|refine rII ?_|refine rSI ?_|refine rT ?_|refine rS ?_);first|done|(rfl))|((exfalso;(simp at h<;>omega)))|fail)
      |false =>
       refine knownE Yo (fnAt Tryz.func35 (by kernel_rfl) (by kernel_rfl):FnAt _ _ (mkFn Tryz.f35 [1,11])) ?_
       repeat' (first|refine oX (frz:=[1,11]) (v:=.d (.bool false)) Yo ?_ (he:=(hR))|refine eX (v:=.d (.bool false)) ?_ (he:=(hR))|refine oX (frz:=[1,11]) (v:=.d (.bool false)) Yo ?_ (he:=(hT))|refine eX (v:=.d (.bool false)) ?_ (he:=(hT))|refine Yg ?_|refine Yq ?_|(refine oB (frz:=[1,11]) Yo ?_ ?_<;>intro h<;>first|(exfalso;simp at h;first|done|omega)|skip)|(refine eB ?_ ?_<;>intro h<;>first|(exfalso;simp at h;first|done|omega)|skip)|refine oX (frz:=[1,11]) Yo ?_|refine oS ?_|refine Yn ?_|refine Yk ?_|refine cT ?_|refine cF ?_|refine Yb ?_|refine Ye ?_|refine Yd (frz:=[1,11]) Yo (by kernel_rfl) ?_|refine eX ?_|refine eS ?_|refine eN ?_|refine eA c0 ?_|refine oC (c1) ?_|refine eC (c1) ?_|refine oC (c2) ?_|refine eC (c2) ?_|refine oC (c3) ?_|refine eC (c3) ?_|refine oC (c4) ?_|refine eC (c4) ?_|(refine oLb (c5) ?_ ?_<;>intro h<;>first|(exfalso;simp at h;first|done|omega)|skip)|refine oL (c5) ?_|(refine eLb (c5) ?_ ?_<;>intro h<;>first|(exfalso;simp at h;first|done|omega)|skip)|refine eL (c5) ?_|(refine oK (c6) ?_ ?_<;>intro h<;>first|(exfalso;simp at h;first|done|omega)|skip)|refine oC (c6) ?_|(refine eK (c6) ?_ ?_<;>intro h<;>first|(exfalso;simp at h;first|done|omega)|skip)|refine eC (c6) ?_|(refine oK (c7) ?_ ?_<;>intro h<;>first|(exfalso;simp at h;first|done|omega)|skip)|refine oC (c7) ?_|(refine eK (c7) ?_ ?_<;>intro h<;>first|(exfalso;simp at h;first|done|omega)|skip)|refine eC (c7) ?_|(refine oK (c8) ?_ ?_<;>intro h<;>first|(exfalso;simp at h;first|done|omega)|skip)|refine oC (c8) ?_|(refine eK (c8) ?_ ?_<;>intro h<;>first|(exfalso;simp at h;first|done|omega)|skip)|refine eC (c8) ?_|(refine oLb (c9) ?_ ?_<;>intro h<;>first|(exfalso;simp at h;first|done|omega)|skip)|refine oL (c9) ?_|(refine eLb (c9) ?_ ?_<;>intro h<;>first|(exfalso;simp at h;first|done|omega)|skip)|refine eL (c9) ?_|(refine oK (c10) ?_ ?_<;>intro h<;>first|(exfalso;simp at h;first|done|omega)|skip)|refine oC (c10) ?_|(refine eK (c10) ?_ ?_<;>intro h<;>first|(exfalso;simp at h;first|done|omega)|skip)|refine eC (c10) ?_|(refine oK (c11) ?_ ?_<;>intro h<;>first|(exfalso;simp at h;first|done|omega)|skip)|refine oC (c11) ?_|(refine eK (c11) ?_ ?_<;>intro h<;>first|(exfalso;simp at h;first|done|omega)|skip)|refine eC (c11) ?_|(refine oK (c12) ?_ ?_<;>intro h<;>first|(exfalso;simp at h;first|done|omega)|skip)|refine oC (c12) ?_|(refine eK (c12) ?_ ?_<;>intro h<;>first|(exfalso;simp at h;first|done|omega)|skip)|refine eC (c12) ?_|refine oA (c13 _) ?_|refine oX (frz:=[1,11]) Yo ?_ (hv:=app1) (hf:=rfl) (he:=rfl)|refine eX ?_ (hv:=app1) (hf:=rfl) (he:=rfl)|refine oX (frz:=[1,11]) Yo ?_ (hv:=app0) (hf:=rfl) (he:=rfl)|refine eX ?_ (hv:=app0) (hf:=rfl) (he:=rfl)|(refine Yt ?_;(first|refine rB ?_|refine rI ?_|refine rA ?_|refine rII ?_|refine rSI ?_|refine rT ?_|refine rS ?_);first|done|(first|rfl|(simp_all<;>fail)))|((exfalso;(simp at h<;>omega)))|((exfalso;simp_all<;>fail))|fail)
end Go.Av
end
noncomputable section
namespace Go.Av
open Go Go.Proofs
set_option maxRecDepth 10000
end Go.Av
end
noncomputable section
namespace Go.Av
open Go Go.Proofs
set_option maxRecDepth 10000
end Go.Av
end
noncomputable section
namespace Go.Av
open Go Go.Proofs
set_option maxRecDepth 10000
theorem known_toN2 {P:Program} {f:FuncId} {ds:List DV} {x y e:DV} (h:KnownCall P f ds (.tup [.d x,.d e])) (hr:DvN x y):KnownCall P f ds (.tup [.d y,.d e]):=by
 intro o
 refine⟨(h o).1,fun D β w vs hp hv=>((h o).2 D β w vs hp hv).mono fun en w' he=>?_⟩
 rcases he with⟨v,D',β',rfl,hs,hv⟩|⟨z,v,D',β',hz,rfl,hs,hrep⟩
 ·refine .inl ⟨v,D',β',rfl,hs,?_⟩
  cases hv with
  |tup hl hg =>
   refine .tup hl fun j c v hc hv'=>?_
   match j with
   |0 =>
    simp at hc;subst hc
    have:=hg 0 (.d x) v rfl hv'
    cases this with
    |d k=>exact .d (hr.rep k)
   |1 =>
    simp at hc;subst hc
    exact hg 1 (.d e) v rfl hv'
   |j+2=>simp at hc
 ·cases hz
def g0:Gram:=⟨0,[],[],[],0,[]⟩
end Go.Av
end
noncomputable section
namespace Go.Av
open Go Go.Proofs
set_option maxRecDepth 10000
end Go.Av
end
noncomputable section
namespace Go.Av
open Go Go.Proofs
set_option maxRecDepth 10000
theorem evC {f:FuncId} {args:List AV} {objs objs':List Ob} {r:AV} {n k:Nat} (h:evCall Et Ft.get? (hdl Et Ft.get? k n) k f args objs=some (r,objs')):ACall Tryz.prog f args objs r objs' :=
 evCall_ok Yo (hdl_ok Yo (by kernel_rfl) Ft_ok k n) (by kernel_rfl) Ft_ok h
abbrev byV (l:List Nat):List AV:=l.map fun n=>.d (.int .u8 (n:Nat))
abbrev vecB (l:List Nat):Ob:=.vec 5 false 1 l.length (byV l)
abbrev bld0 (T:TypeId):Ob:=.tb T [.d .nilptr,.d .nilsl]
abbrev bld (T:TypeId) (i j n:Nat):Ob:=.tb T [.bp i 0,.vs j 1 0 n]
theorem bytesA_map {l:List Nat} (h:∀ x ∈ l,x<256):bytesA (byV l)=some l:=by
 induction l with
 |nil=>rfl
 |cons a l ih =>
  have h1:=h a (by simp)
  simp only [List.map_cons,bytesA,ih (fun x hx=>h x (by simp [hx])),byteA]
  rw [if_pos (by simp;omega)]
  simp
theorem chk0P (b:AV):ACall Tryz.prog 234 [.bp 0 0] [.tb 136 [.d .nilptr,b]] (.tup []) [.tb 136 [.bp 0 0,b]]:=evC (n:=3) (k:=100) (by kernel_rfl)
theorem chk1P (n:Nat) (l:List AV) (m:Nat):ACall Tryz.prog 234 [.bp 0 0] [bld 136 0 1 n,.vec 5 false 1 m l] (.tup []) [bld 136 0 1 n,.vec 5 false 1 m l]:=evC (n:=3) (k:=100) (by kernel_rfl)
end Go.Av
end
noncomputable section
namespace Go.Av
open Go Go.Proofs
set_option maxRecDepth 10000
theorem flat_by (s:List Nat):(flatD (s.map fun(n:Nat)=>DV.int .u8 n)).map AV.d=byV s:=by
 induction s with
 |nil=>rfl
 |cons a s ih =>
  simp only [flatD,List.map_cons,List.flatMap_cons,cellsD,List.cons_append,List.nil_append]
  exact congrArg _ ih
theorem srcSz_by (s:List Nat):srcSz 1 1 (s.map fun(n:Nat)=>DV.int .u8 n)=1:=by cases s<;>rfl
section
variable {H:Hd} {frz:List Nat} {rd:Operand→AV} {objs:List Ob} {o:Oper} {args:Array Operand} {tys:Array TypeId} {a b:Operand}
theorem appS0 {s:List Nat} (hlen:s.length≤1099511627776) (hop:o.op=.call ⟨.builtin .append,args,tys⟩:=by rfl) (ha:args.toList=[a,b]:=by rfl) (ht:tys.toList=[75,9]:=by rfl)
  (hv:hintV o.dst frz=true:=by rfl) (h7:rd a=.d .nilsl:=by rfl) (h8:rd b=.d (.str s):=by rfl) :
  evAny Et H frz rd objs o=some (.vs objs.length 1 0 s.length,some (objs++[vecB s]),true):=by
 obtain⟨dst,op,ty,pos,after,guard⟩:=o
 simp only at hop hv
 subst hop
 have h1:Et.get? 75=some ty75:=rfl
 have h2:Et.get? 9=some ty9:=rfl
 have h3:Et.get? 5=some ty5:=rfl
 have hm:Nat.ble (s.length*1) 1099511627776=true:=Nat.ble_eq_true_of_le (by omega)
 have h4:appSrc Et ty5 9 (.d (.str s)) objs=some (1,s.map fun(n:Nat)=>.int .u8 n):=rfl
 have h5:=flat_by s
 simp only [evAny,ha,ht,hv,appendR,h1,ty75,appSrc0,h3,h7,h8,h4]
 simp only [ty5,srcSz_by,List.length_map,h5,hm]
 rfl
theorem appS1 {s l:List Nat} {i n:Nat} (hlen:(l++s).length≤1099511627776) (hop:o.op=.call ⟨.builtin .append,args,tys⟩:=by rfl) (ha:args.toList=[a,b]:=by rfl) (ht:tys.toList=[75,9]:=by rfl)
  (hv:hintV o.dst frz=true:=by rfl) (h7:rd a=.vs i 1 0 n:=by rfl) (h8:rd b=.d (.str s):=by rfl) (hn:n=l.length:=by rfl) (h9:objs[i]?=some (vecB l):=by rfl) :
  evAny Et H frz rd objs o=some (.vs objs.length 1 0 (l++s).length,some (objs.set i .gone++[vecB (l++s)]),true):=by
 obtain⟨dst,op,ty,pos,after,guard⟩:=o
 simp only at hop hv
 subst hop hn
 simp only [List.length_append] at hlen
 have h1:Et.get? 75=some ty75:=rfl
 have h2:Et.get? 9=some ty9:=rfl
 have h3:Et.get? 5=some ty5:=rfl
 have hm:Nat.ble ((l.length+s.length)*1) 1099511627776=true:=Nat.ble_eq_true_of_le (by omega)
 have hb:Nat.ble l.length l.length=true:=Nat.ble_eq_true_of_le (Nat.le_refl _)
 have h4:appSrc Et ty5 9 (.d (.str s)) objs=some (1,s.map fun(n:Nat)=>.int .u8 n):=rfl
 have h5:=flat_by s
 have h6:(byV l).take (l.length*1)++byV s=byV (l++s):=by rw [Nat.mul_one,List.take_of_length_le (by simp),byV,byV,byV,List.map_append]
 have h10:(l++s).length=l.length+s.length:=List.length_append
 simp only [evAny,ha,ht,hv,appendR,h1,ty75,appSrc0,h3,h7,h8,h4,h9]
 simp only [ty5,srcSz_by,List.length_map,h5,hm,hb,h6,vecB,h10]
 rfl
end
theorem wr0P (s:List Nat) (hs:s.length≤1099511627776):ACall Tryz.prog 198 [.bp 0 0,.d (.str s)] [bld0 136] (.tup [.d (.int .i64 s.length),.d .niliface]) [bld 136 0 1 s.length,vecB s]:=by
 refine acall_of_run Yo (fnAt Tryz.func198 (by kernel_rfl) (by kernel_rfl):FnAt _ _ (mkFn Tryz.f198 [65550])) rfl rfl ?_
 repeat (first|refine Yg ?_|refine Yq ?_|refine Yn ?_|refine Yk ?_|refine cT ?_|refine cF ?_|refine Yb ?_|refine Ye ?_|refine eN ?_|refine Yd (frz:=[65550]) Yo (by kernel_rfl) ?_)
 iterate 2 refine oX (frz:=[65550]) Yo ?_
 repeat (first|refine Yg ?_|refine Yq ?_|refine Yn ?_|refine Yk ?_|refine cT ?_|refine cF ?_|refine Yb ?_|refine Ye ?_|refine eN ?_|refine Yd (frz:=[65550]) Yo (by kernel_rfl) ?_)
 refine oX (frz:=[65550]) Yo ?_
 refine RunOps.call (by rfl) (by rfl) (chk0P _) (by rfl) (by rfl) ?_
 repeat (first|refine Yg ?_|refine Yq ?_|refine Yn ?_|refine Yk ?_|refine cT ?_|refine cF ?_|refine Yb ?_|refine Ye ?_|refine eN ?_|refine Yd (frz:=[65550]) Yo (by kernel_rfl) ?_)
 iterate 6 refine oX (frz:=[65550]) Yo ?_
 refine oX (frz:=[65550]) Yo ?_ (hv:=appS0 hs)
 iterate 3 refine oX (frz:=[65550]) Yo ?_
 repeat (first|refine Yg ?_|refine Yq ?_|refine Yn ?_|refine Yk ?_|refine cT ?_|refine cF ?_|refine Yb ?_|refine Ye ?_|refine eN ?_|refine Yd (frz:=[65550]) Yo (by kernel_rfl) ?_)
 iterate 4 refine oX (frz:=[65550]) Yo ?_
 repeat (first|refine Yg ?_|refine Yq ?_|refine Yn ?_|refine Yk ?_|refine cT ?_|refine cF ?_|refine Yb ?_|refine Ye ?_|refine eN ?_|refine Yd (frz:=[65550]) Yo (by kernel_rfl) ?_)
 refine Yt ?_
 exact⟨trivial,rfl,rfl⟩
theorem wr1P (l s:List Nat) (hs:(l++s).length≤1099511627776):ACall Tryz.prog 198 [.bp 0 0,.d (.str s)] [bld 136 0 1 l.length,vecB l] (.tup [.d (.int .i64 s.length),.d .niliface]) [bld 136 0 2 (l++s).length,.gone,vecB (l++s)]:=by
 refine acall_of_run Yo (fnAt Tryz.func198 (by kernel_rfl) (by kernel_rfl):FnAt _ _ (mkFn Tryz.f198 [65550])) rfl rfl ?_
 repeat (first|refine Yg ?_|refine Yq ?_|refine Yn ?_|refine Yk ?_|refine cT ?_|refine cF ?_|refine Yb ?_|refine Ye ?_|refine eN ?_|refine Yd (frz:=[65550]) Yo (by kernel_rfl) ?_)
 iterate 2 refine oX (frz:=[65550]) Yo ?_
 repeat (first|refine Yg ?_|refine Yq ?_|refine Yn ?_|refine Yk ?_|refine cT ?_|refine cF ?_|refine Yb ?_|refine Ye ?_|refine eN ?_|refine Yd (frz:=[65550]) Yo (by kernel_rfl) ?_)
 refine oX (frz:=[65550]) Yo ?_
 refine RunOps.call (by rfl) (by rfl) (chk1P _ _ _) (by rfl) (by rfl) ?_
 repeat (first|refine Yg ?_|refine Yq ?_|refine Yn ?_|refine Yk ?_|refine cT ?_|refine cF ?_|refine Yb ?_|refine Ye ?_|refine eN ?_|refine Yd (frz:=[65550]) Yo (by kernel_rfl) ?_)
 iterate 6 refine oX (frz:=[65550]) Yo ?_
 refine oX (frz:=[65550]) Yo ?_ (hv:=appS1 hs)
 iterate 3 refine oX (frz:=[65550]) Yo ?_
 repeat (first|refine Yg ?_|refine Yq ?_|refine Yn ?_|refine Yk ?_|refine cT ?_|refine cF ?_|refine Yb ?_|refine Ye ?_|refine eN ?_|refine Yd (frz:=[65550]) Yo (by kernel_rfl) ?_)
 iterate 4 refine oX (frz:=[65550]) Yo ?_
 repeat (first|refine Yg ?_|refine Yq ?_|refine Yn ?_|refine Yk ?_|refine cT ?_|refine cF ?_|refine Yb ?_|refine Ye ?_|refine eN ?_|refine Yd (frz:=[65550]) Yo (by kernel_rfl) ?_)
 refine Yt ?_
 exact⟨trivial,rfl,rfl⟩
end Go.Av
end
noncomputable section
namespace Go.Av
open Go Go.Proofs
set_option maxRecDepth 10000
section
variable {H:Hd} {frz:List Nat} {rd:Operand→AV} {objs:List Ob} {o:Oper} {args:Array Operand} {tys:Array TypeId} {a b:Operand}
theorem dataOf {i sz n:Nat} (h0:0<n) (hop:o.op=.call ⟨.builtin .unsafeSliceData,args,tys⟩:=by rfl) (ha:args.toList=[a]:=by rfl) (ht:tys.toList=[75]:=by rfl) (h7:rd a=.vs i sz 0 n:=by rfl) :
  evAny Et H frz rd objs o=some (.bp i 0,none,true):=by
 obtain⟨dst,op,ty,pos,after,guard⟩:=o
 simp only at hop
 subst hop
 have hlt:Nat.blt 0 n=true:=by rw [Nat.blt_eq];exact h0
 show((evOp Et rd objs (.call ⟨.builtin .unsafeSliceData,args,tys⟩)).map fun p=>(p.1,none,p.2.2))=_
 simp only [evOp,ha,ht,sliceDataR,h7,hlt]
 rfl
theorem strOf {l:List Nat} {i n:Nat} (h0:0<l.length) (hb:∀ x ∈ l,x<256) (hop:o.op=.call ⟨.builtin .unsafeString,args,tys⟩:=by rfl) (ha:args.toList=[a,b]:=by rfl) (ht:tys.toList=[211,3]:=by rfl)
  (h7:rd a=.bp i 0:=by rfl) (h8:rd b=.d (.int .i64 (n:Nat)):=by rfl) (hn:n=l.length:=by rfl) (h9:objs[i]?=some (vecB l):=by rfl) :
  evAny Et H frz rd objs o=some (.d (.str l),some (objs.set i .gone),true):=by
 obtain⟨dst,op,ty,pos,after,guard⟩:=o
 simp only at hop
 subst hop hn
 have h1:Et.get? 211=some ty211:=rfl
 have hB:isByteT Et 5=true:=rfl
 have hle:Nat.ble l.length l.length=true:=Nat.ble_eq_true_of_le (Nat.le_refl _)
 have hbb:bytesA ((byV l).take l.length)=some l:=by rw [List.take_of_length_le (by simp)];exact bytesA_map hb
 have hd:decide ((0:Int)<(l.length:Nat))=true:=by rw [decide_eq_true_eq];omega
 show((evOp Et rd objs (.call ⟨.builtin .unsafeString,args,tys⟩)).map fun p=>(p.1,some p.2.1,p.2.2))=_
 simp only [evOp,ha,ht,unsafeStrR,h7,h8,h1,ty211,h9,vecB,hB,hle,hbb,hd,Int.toNat_natCast]
 rfl
end
theorem str1P (l:List Nat) (h0:0<l.length) (hb:∀ x ∈ l,x<256):ACall Tryz.prog 113 [.bp 0 0] [bld 136 0 1 l.length,vecB l] (.d (.str l)) [bld 136 0 1 l.length,.gone]:=by
 refine acall_of_run Yo (fnAt Tryz.func113 (by kernel_rfl) (by kernel_rfl):FnAt _ _ (mkFn Tryz.f113 [])) rfl rfl ?_
 repeat (first|refine Yg ?_|refine Yq ?_|refine Yn ?_|refine Yk ?_|refine cT ?_|refine cF ?_|refine Yb ?_|refine Ye ?_|refine eN ?_|refine Yd (frz:=[]) Yo (by kernel_rfl) ?_)
 refine oX (frz:=[]) Yo ?_
 repeat (first|refine Yg ?_|refine Yq ?_|refine Yn ?_|refine Yk ?_|refine cT ?_|refine cF ?_|refine Yb ?_|refine Ye ?_|refine eN ?_|refine Yd (frz:=[]) Yo (by kernel_rfl) ?_)
 iterate 4 refine eX ?_
 refine eX ?_ (hv:=dataOf h0)
 iterate 5 refine eX ?_
 refine eX ?_ (hv:=strOf h0 hb)
 refine eX ?_
 refine eN ?_
 repeat (first|refine Yg ?_|refine Yq ?_|refine Yn ?_|refine Yk ?_|refine cT ?_|refine cF ?_|refine Yb ?_|refine Ye ?_|refine eN ?_|refine Yd (frz:=[]) Yo (by kernel_rfl) ?_)
 refine Yt ?_
 exact⟨trivial,rfl,rfl⟩
end Go.Av
end
noncomputable section
namespace Go.Av
open Go Go.Proofs
set_option maxRecDepth 10000
def stB (T:TypeId) (k:Nat) (l:List Nat):List Ob:=bld T 0 (k+1) l.length :: (List.replicate k .gone++[vecB l])
theorem stB_len (T:TypeId) (k:Nat) (l:List Nat):(stB T k l).length=k+2:=by simp [stB]
theorem stB_row (T:TypeId) (k:Nat) (l:List Nat):(stB T k l)[k+1]?=some (vecB l):=by
 simp only [stB,List.getElem?_cons_succ]
 rw [List.getElem?_append_right (by simp)];simp
theorem stB_mid (T:TypeId) (k p:Nat) (l:List Nat) (h0:0<p) (hp:p<k+1):(stB T k l)[p]?=some .gone:=by
 obtain⟨q,rfl⟩:∃ q,p=q+1:=⟨p-1,by omega⟩
 simp only [stB,List.getElem?_cons_succ]
 rw [List.getElem?_append_left (by simp;omega),List.getElem?_replicate,if_pos (by omega)]
theorem reA_by (ρ:Nat→Nat) (l:List Nat):(byV l).map (reA ρ 8)=byV l:=by
 rw [byV,List.map_map];rfl
theorem okA_by (n:Nat) (l:List Nat):(byV l).all (okA n 8)=true:=by
 rw [List.all_eq_true];intro x hx;simp only [byV,List.mem_map] at hx;obtain⟨y,_,rfl⟩:=hx;rfl
theorem reO_vec (ρ:Nat→Nat) (l:List Nat):reO ρ (vecB l)=vecB l:=by
 show Ob.vec _ _ _ _ ((byV l).map (reA ρ 8))=_
 rw [reA_by]
theorem wrSP (k:Nat) (l s:List Nat) (hs:(l++s).length≤1099511627776):ACall Tryz.prog 198 [.bp 0 0,.d (.str s)] (stB 136 k l) (.tup [.d (.int .i64 s.length),.d .niliface]) (stB 136 (k+1) (l++s)):=by
 have hlen:=stB_len 136 k l
 have h:=(wr1P l s hs).embed rfl (Big:=stB 136 k l) (Big':=stB 136 (k+1) (l++s)) (pos:=[0,k+1]) rfl (by simp) (fun i ob hi=>?_) ?_ rfl ?_ (fun p hp hn=>?_) (fun i ob hi=>?_)
 ·exact h
 ·match i with
  |0=>simp at hi;subst hi;exact⟨0,rfl,rfl⟩
  |1=>simp at hi;subst hi;exact⟨k+1,rfl,by rw [reO_vec];exact stB_row _ _ _⟩
  |i+2=>simp at hi
 ·simp only [List.all_cons,List.all_nil,Bool.and_true,Bool.and_eq_true]
  exact⟨rfl,okA_by _ _⟩
 ·rw [hlen,stB_len];rfl
 ·simp only [List.mem_cons,List.not_mem_nil,or_false,not_or] at hn
  rw [stB_mid _ _ _ _ (by omega) (by omega),stB_mid _ _ _ _ (by omega) (by omega)]
 ·match i with
  |0=>obtain rfl:=Option.some.inj hi;rw [hlen];rfl
  |1=>obtain rfl:=Option.some.inj hi;exact stB_mid 136 (k+1) (k+1) (l++s) (by omega) (by omega)
  |2 =>
   obtain rfl:=Option.some.inj hi
   rw [reO_vec,hlen]
   exact stB_row 136 (k+1) (l++s)
  |i+3=>simp at hi
theorem strSP (k:Nat) (l:List Nat) (h0:0<l.length) (hb:∀ x ∈ l,x<256):ACall Tryz.prog 113 [.bp 0 0] (stB 136 k l) (.d (.str l)) (bld 136 0 (k+1) l.length :: List.replicate (k+1) .gone):=by
 have hlen:=stB_len 136 k l
 have h:=(str1P l h0 hb).embed rfl (Big:=stB 136 k l) (Big':=bld 136 0 (k+1) l.length :: List.replicate (k+1) .gone) (pos:=[0,k+1]) rfl (by simp) (fun i ob hi=>?_) ?_ rfl ?_ (fun p hp hn=>?_) (fun i ob hi=>?_)
 ·exact h
 ·match i with
  |0=>simp at hi;subst hi;exact⟨0,rfl,rfl⟩
  |1=>simp at hi;subst hi;exact⟨k+1,rfl,by rw [reO_vec];exact stB_row _ _ _⟩
  |i+2=>simp at hi
 ·simp only [List.all_cons,List.all_nil,Bool.and_true,Bool.and_eq_true]
  exact⟨rfl,okA_by _ _⟩
 ·rw [hlen];simp
 ·simp only [List.mem_cons,List.not_mem_nil,or_false,not_or] at hn
  obtain⟨q,rfl⟩:∃ q,p=q+1:=⟨p-1,by omega⟩
  rw [stB_mid _ _ _ _ (by omega) (by omega),List.getElem?_cons_succ,List.getElem?_replicate,if_pos (by omega)]
 ·match i with
  |0=>simp at hi;subst hi;rfl
  |1=>simp at hi;subst hi;simp [atOf,reO]
  |i+2=>simp at hi
theorem putS (k:Nat) (l:List Nat) (ss:List (List Nat)) (hs:(l++ss.flatten).length≤1099511627776) (hl:ss.length≤1099511627776):ACall Tryz.prog 111 [.bp 0 0,.d (strs ss)] (stB 136 k l) (.tup []) (stB 136 (k+ss.length) (l++ss.flatten)):=by
 refine acall_of_run Yo (fnAt Tryz.func111 (by kernel_rfl) (by kernel_rfl):FnAt _ _ (mkFn Tryz.f111 [])) rfl rfl ?_
 repeat (first|refine Yg ?_|refine Yq ?_|refine Yn ?_|refine Yk ?_|refine cT ?_|refine cF ?_|refine Yb ?_|refine Ye ?_|refine eN ?_|refine Yd (frz:=[]) Yo (by kernel_rfl) ?_)
 iterate 3 refine oX (frz:=[]) Yo ?_
 repeat (first|refine Yg ?_|refine Yq ?_|refine Yn ?_|refine Yk ?_|refine cT ?_|refine cF ?_|refine Yb ?_|refine Ye ?_|refine eN ?_|refine Yd (frz:=[]) Yo (by kernel_rfl) ?_)
 refine Run.loop (fun i:Nat=>⟨PT.ofList [(0,.bp 0 0),(6,.d (strs ss)),(7,.d (.int .i64 ss.length)),(8,.d (.int .i64 i))],stB 136 (k+i) (l++(ss.take i).flatten),[]⟩) (fun i=>i≤ss.length) (fun i=>ss.length-i) 0 (Nat.zero_le _) (weak_of' (by simp) rfl ⟨rfl,rfl,congrArg (fun n:Nat=>some (AV.d (.int .i64 (n:Int)))) (List.length_map ..),rfl,trivial⟩) (fun i hi=>?_)
 repeat (first|refine Yg ?_|refine Yq ?_|refine Yn ?_|refine Yk ?_|refine cT ?_|refine cF ?_|refine Yb ?_|refine Ye ?_|refine eN ?_|refine Yd (frz:=[]) Yo (by kernel_rfl) ?_)
 refine oX (frz:=[]) Yo ?_
 repeat (first|refine Yg ?_|refine Yq ?_|refine Yn ?_|refine Yk ?_|refine cT ?_|refine cF ?_|refine Yb ?_|refine Ye ?_|refine eN ?_|refine Yd (frz:=[]) Yo (by kernel_rfl) ?_)
 refine Run.cond (by rfl) (fun h=>?_) (fun h=>?_)
 ·have hlt:i<ss.length:=by simpa using h
  obtain⟨x,hx⟩:=get_ok hlt
  have hf:(ss.take (i+1)).flatten=(ss.take i).flatten++x:=by rw [List.take_add_one,hx];simp
  have hle:((ss.take (i+1)).flatten).length≤ss.flatten.length:=by
   conv=>rhs;rw [← List.take_append_drop (i+1) ss,List.flatten_append]
   simp
  rw [hf] at hle
  simp only [List.length_append] at hle hs
  repeat (first|refine Yg ?_|refine Yq ?_|refine Yn ?_|refine Yk ?_|refine cT ?_|refine cF ?_|refine Yb ?_|refine Ye ?_|refine eN ?_|refine Yd (frz:=[]) Yo (by kernel_rfl) ?_)
  first|refine oX (frz:=[]) (v:=.d (.ep [.str x])) Yo ?_ (hf:=(by first|(simp [inB]<;>fail)|(simp [inB];omega))) (he:=(by first|(simp [List.getD_eq_getElem?_getD,cellsD,hx]<;>fail)|fail))|refine eX (v:=.d (.ep [.str x])) ?_ (hf:=(by first|(simp [inB]<;>fail)|(simp [inB];omega))) (he:=(by first|(simp [List.getD_eq_getElem?_getD,cellsD,hx]<;>fail)|fail))
  iterate 2 refine oX (frz:=[]) Yo ?_
  repeat (first|refine Yg ?_|refine Yq ?_|refine Yn ?_|refine Yk ?_|refine cT ?_|refine cF ?_|refine Yb ?_|refine Ye ?_|refine eN ?_|refine Yd (frz:=[]) Yo (by kernel_rfl) ?_)
  iterate 4 refine oX (frz:=[]) Yo ?_
  refine RunOps.call (by rfl) (by rfl) (wrSP (k+i) (l++(ss.take i).flatten) x (by simp only [List.length_append];omega)) (by rfl) (by rfl) ?_
  repeat (first|refine Yg ?_|refine Yq ?_|refine Yn ?_|refine Yk ?_|refine cT ?_|refine cF ?_|refine Yb ?_|refine Ye ?_|refine eN ?_|refine Yd (frz:=[]) Yo (by kernel_rfl) ?_)
  refine oX (frz:=[]) Yo ?_
  refine oX (frz:=[]) (v:=.d (.int .i64 (i+1:Nat))) Yo ?_ (he:=congrArg (fun n=>AV.d (.int .i64 n)) (wrap_nat (n:=i+1) (by omega)))
  repeat (first|refine Yg ?_|refine Yq ?_|refine Yn ?_|refine Yk ?_|refine cT ?_|refine cF ?_|refine Yb ?_|refine Ye ?_|refine eN ?_|refine Yd (frz:=[]) Yo (by kernel_rfl) ?_)
  exact⟨i+1,hlt,by omega,weak_of' (by rw [hf,List.append_assoc];rfl) rfl ⟨rfl,rfl,rfl,rfl,trivial⟩⟩
 ·have hge:i=ss.length:=by simp at h;omega
  subst hge
  repeat (first|refine Yg ?_|refine Yq ?_|refine Yn ?_|refine Yk ?_|refine cT ?_|refine cF ?_|refine Yb ?_|refine Ye ?_|refine eN ?_|refine Yd (frz:=[]) Yo (by kernel_rfl) ?_)
  refine⟨trivial,?_,rfl⟩
  show some ((none:Option DV),stB 136 (k+ss.length) (l++(ss.take ss.length).flatten))=_
  rw [List.take_length]
def stF (T:TypeId) (ss:List (List Nat)):Nat→List Ob
 |0=>[bld0 T]
 |i+1=>stB T i (ss.take (i+1)).flatten
theorem put0 (s:List Nat) (ss:List (List Nat)) (hs:((s :: ss).flatten).length≤1099511627776) (hl:(s :: ss).length≤1099511627776):ACall Tryz.prog 111 [.bp 0 0,.d (strs (s :: ss))] [bld0 136] (.tup []) (stB 136 ss.length (s :: ss).flatten):=by
 have hend:stF 136 (s :: ss) (s :: ss).length=stB 136 ss.length (s :: ss).flatten:=by
  show stB _ _ ((s :: ss).take (s :: ss).length).flatten=_
  rw [List.take_length]
 rw [← hend]
 generalize hss:s :: ss=l at *
 refine acall_of_run Yo (fnAt Tryz.func111 (by kernel_rfl) (by kernel_rfl):FnAt _ _ (mkFn Tryz.f111 [])) rfl rfl ?_
 repeat (first|refine Yg ?_|refine Yq ?_|refine Yn ?_|refine Yk ?_|refine cT ?_|refine cF ?_|refine Yb ?_|refine Ye ?_|refine eN ?_|refine Yd (frz:=[]) Yo (by kernel_rfl) ?_)
 iterate 3 refine oX (frz:=[]) Yo ?_
 repeat (first|refine Yg ?_|refine Yq ?_|refine Yn ?_|refine Yk ?_|refine cT ?_|refine cF ?_|refine Yb ?_|refine Ye ?_|refine eN ?_|refine Yd (frz:=[]) Yo (by kernel_rfl) ?_)
 refine Run.loop (fun i:Nat=>⟨PT.ofList [(0,.bp 0 0),(6,.d (strs l)),(7,.d (.int .i64 l.length)),(8,.d (.int .i64 i))],stF 136 l i,[]⟩) (fun i=>i≤l.length) (fun i=>l.length-i) 0 (Nat.zero_le _) (weak_of' rfl rfl ⟨rfl,rfl,congrArg (fun n:Nat=>some (AV.d (.int .i64 (n:Int)))) (List.length_map ..),rfl,trivial⟩) (fun i hi=>?_)
 repeat (first|refine Yg ?_|refine Yq ?_|refine Yn ?_|refine Yk ?_|refine cT ?_|refine cF ?_|refine Yb ?_|refine Ye ?_|refine eN ?_|refine Yd (frz:=[]) Yo (by kernel_rfl) ?_)
 refine oX (frz:=[]) Yo ?_
 repeat (first|refine Yg ?_|refine Yq ?_|refine Yn ?_|refine Yk ?_|refine cT ?_|refine cF ?_|refine Yb ?_|refine Ye ?_|refine eN ?_|refine Yd (frz:=[]) Yo (by kernel_rfl) ?_)
 refine Run.cond (by rfl) (fun h=>?_) (fun h=>?_)
 ·have hlt:i<l.length:=by simpa using h
  obtain⟨x,hx⟩:=get_ok hlt
  have hf:(l.take (i+1)).flatten=(l.take i).flatten++x:=by rw [List.take_add_one,hx];simp
  have hle:((l.take (i+1)).flatten).length≤l.flatten.length:=by
   conv=>rhs;rw [← List.take_append_drop (i+1) l,List.flatten_append]
   simp
  have hA:ACall Tryz.prog 198 [.bp 0 0,.d (.str x)] (stF 136 l i) (.tup [.d (.int .i64 x.length),.d .niliface]) (stF 136 l (i+1)):=by
   cases i with
   |zero =>
    have hx0:(l.take (0+1)).flatten=x:=by rw [hf];simp
    have h:=wr0P x (by rw [hf] at hle;simp only [List.length_append] at hle;omega)
    show ACall _ _ _ [bld0 _] _ (stB _ 0 (l.take (0+1)).flatten)
    rw [hx0];exact h
   |succ j =>
    have h:=wrSP j (l.take (j+1)).flatten x (by rw [← hf];omega)
    show ACall _ _ _ (stB _ j _) _ (stB _ (j+1) (l.take (j+1+1)).flatten)
    rw [hf];exact h
  repeat (first|refine Yg ?_|refine Yq ?_|refine Yn ?_|refine Yk ?_|refine cT ?_|refine cF ?_|refine Yb ?_|refine Ye ?_|refine eN ?_|refine Yd (frz:=[]) Yo (by kernel_rfl) ?_)
  first|refine oX (frz:=[]) (v:=.d (.ep [.str x])) Yo ?_ (hf:=(by first|(simp [inB]<;>fail)|(simp [inB];omega))) (he:=(by first|(simp [List.getD_eq_getElem?_getD,cellsD,hx]<;>fail)|fail))|refine eX (v:=.d (.ep [.str x])) ?_ (hf:=(by first|(simp [inB]<;>fail)|(simp [inB];omega))) (he:=(by first|(simp [List.getD_eq_getElem?_getD,cellsD,hx]<;>fail)|fail))
  iterate 2 refine oX (frz:=[]) Yo ?_
  repeat (first|refine Yg ?_|refine Yq ?_|refine Yn ?_|refine Yk ?_|refine cT ?_|refine cF ?_|refine Yb ?_|refine Ye ?_|refine eN ?_|refine Yd (frz:=[]) Yo (by kernel_rfl) ?_)
  iterate 4 refine oX (frz:=[]) Yo ?_
  refine RunOps.call (by rfl) (by rfl) hA (by rfl) (by rfl) ?_
  repeat (first|refine Yg ?_|refine Yq ?_|refine Yn ?_|refine Yk ?_|refine cT ?_|refine cF ?_|refine Yb ?_|refine Ye ?_|refine eN ?_|refine Yd (frz:=[]) Yo (by kernel_rfl) ?_)
  refine oX (frz:=[]) Yo ?_
  refine oX (frz:=[]) (v:=.d (.int .i64 (i+1:Nat))) Yo ?_ (he:=congrArg (fun n=>AV.d (.int .i64 n)) (wrap_nat (n:=i+1) (by omega)))
  repeat (first|refine Yg ?_|refine Yq ?_|refine Yn ?_|refine Yk ?_|refine cT ?_|refine cF ?_|refine Yb ?_|refine Ye ?_|refine eN ?_|refine Yd (frz:=[]) Yo (by kernel_rfl) ?_)
  exact⟨i+1,hlt,by omega,weak_of' rfl rfl ⟨rfl,rfl,rfl,rfl,trivial⟩⟩
 ·have hge:i=l.length:=by simp at h;omega
  subst hge
  repeat (first|refine Yg ?_|refine Yq ?_|refine Yn ?_|refine Yk ?_|refine cT ?_|refine cF ?_|refine Yb ?_|refine Ye ?_|refine eN ?_|refine Yd (frz:=[]) Yo (by kernel_rfl) ?_)
  exact⟨trivial,rfl,rfl⟩
end Go.Av
end
noncomputable section
namespace Go.Av
open Go Go.Proofs
set_option maxRecDepth 10000
abbrev prB (l:List Nat) (rest:List Ob):List Ob:=bld 136 0 1 l.length :: vecB l :: rest
abbrev prO (q:Nat) (l:List Nat) (rest:List Ob):List Ob:=bld 136 0 (rest.length+2+q) l.length :: .gone :: (rest++(List.replicate q .gone++[vecB l]))
theorem prO_row (q:Nat) (l:List Nat) (rest:List Ob):(prO q l rest)[rest.length+2+q]?=some (vecB l):=by
 rw [show rest.length+2+q=(rest.length+q)+1+1 by omega]
 simp only [prO,List.getElem?_cons_succ]
 rw [List.getElem?_append_right (by omega),List.getElem?_append_right (by simp)]
 simp
theorem prO_gone (q p:Nat) (l:List Nat) (rest:List Ob) (hp:p<q):(prO q l rest)[rest.length+2+p]?=some .gone:=by
 rw [show rest.length+2+p=(rest.length+p)+1+1 by omega]
 simp only [prO,List.getElem?_cons_succ]
 rw [List.getElem?_append_right (by omega),List.getElem?_append_left (by simp;omega),List.getElem?_replicate,if_pos (by omega)]
theorem putR (l:List Nat) (ss:List (List Nat)) (q:Nat) (rest:List Ob) (hq:ss.length=q+1) (hs:(l++ss.flatten).length≤1099511627776) (hl:q≤1000) :
  ACall Tryz.prog 111 [.bp 0 0,.d (strs ss)] (prB l rest) (.tup []) (prO q (l++ss.flatten) rest):=by
 have h:=(putS 0 l ss hs (by omega)).embed rfl (Big:=prB l rest) (Big':=prO q (l++ss.flatten) rest) (pos:=[0,1]) rfl (by simp) (fun i ob hi=>?_) ?_ rfl ?_ (fun p hp hn=>?_) (fun i ob hi=>?_)
 ·exact h
 ·match i with
  |0=>obtain rfl:=Option.some.inj hi;exact⟨0,rfl,rfl⟩
  |1=>obtain rfl:=Option.some.inj hi;exact⟨1,rfl,by rw [reO_vec];rfl⟩
  |i+2=>cases hi
 ·show(okO 2 (bld _ 0 1 l.length) && (okO 2 (vecB l) && true))=true
  rw [show okO 2 (vecB l)=true from okA_by _ _];rfl
 ·rw [stB_len,hq];simp [stB_len];omega
 ·simp only [List.mem_cons,List.not_mem_nil,or_false,not_or] at hn
  obtain⟨p',rfl⟩:∃ p',p=p'+1+1:=⟨p-2,by omega⟩
  simp only [prO,prB,List.getElem?_cons_succ]
  rw [List.getElem?_append_left (by simp at hp;omega)]
 ·have hB:(prB l rest).length=rest.length+2:=by simp
  rw [hq] at hi
  have hlen:=stB_len 136 (0+(q+1)) (l++ss.flatten)
  have hil:i<0+(q+1)+2:=by rw [← hlen];exact(List.getElem?_eq_some_iff.1 hi).1
  match i with
  |0 =>
   obtain rfl:=Option.some.inj hi
   rw [hB]
   show some (bld _ 0 (rest.length+2+q) _)=some (bld _ 0 (rest.length+2+(0+(q+1)+1-2)) _)
   rw [show 0+(q+1)+1-2=q by omega]
  |1 =>
   rw [stB_mid _ _ _ _ (by omega) (by omega)] at hi
   obtain rfl:=Option.some.inj hi
   rfl
  |i+2 =>
   have hat:atOf [0,1] (prB l rest).length (i+2)=rest.length+2+i:=by rw [hB];rfl
   rw [hat]
   rcases Nat.lt_or_ge i q with h1|h1
   ·rw [stB_mid _ _ _ _ (by omega) (by omega)] at hi
    obtain rfl:=Option.some.inj hi
    exact prO_gone q i _ rest h1
   ·have:i=q:=by omega
    subst this
    rw [show i+2=(0+(i+1))+1 by omega,stB_row] at hi
    obtain rfl:=Option.some.inj hi
    rw [reO_vec]
    exact prO_row i _ rest
theorem prR1 {tm:PT AV} {q:Nat} {l l':List Nat} (cs:List DV) (ts:List (Nat × AV)) (he:l=l') (h:allRe (plOf [0,1+2+q,2]) 3 tm ts):Relab 0 ⟨tm,prO q l [.box (cs.map .d)],[]⟩ ⟨PT.ofList ts,prB l' [.box (cs.map .d)],[]⟩:=by
 subst he
 refine⟨ts,[0,1+2+q,2],prB l [.box (cs.map .d)],rfl,rfl,rfl,by simp;omega,fun k hk=>by omega,fun k ob hk=>?_,h⟩
 match k with
 |0=>obtain rfl:=Option.some.inj hk;exact⟨rfl,0,rfl,rfl⟩
 |1=>obtain rfl:=Option.some.inj hk;exact⟨okA_by _ _,_,rfl,by rw [reO_vec];exact prO_row q l _⟩
 |2 =>
  obtain rfl:=Option.some.inj hk
  refine⟨?_,2,rfl,?_⟩
  ·show(cs.map AV.d).all (okA _ 8)=true
   rw [List.all_eq_true];intro x hx;simp only [List.mem_map] at hx;obtain⟨y,_,rfl⟩:=hx;rfl
  ·show some (Ob.box (cs.map .d))=some (Ob.box ((cs.map AV.d).map (reA _ 8)))
   rw [List.map_map];rfl
 |k+3=>cases hk
theorem prR2 {tm:PT AV} {q:Nat} {l l':List Nat} {b:Ob} (ts:List (Nat × AV)) (he:l=l') (h:allRe (plOf [0,1+2+q]) 2 tm ts):Relab 0 ⟨tm,prO q l [b],[]⟩ ⟨PT.ofList ts,prB l' [],[]⟩:=by
 subst he
 refine⟨ts,[0,1+2+q],prB l [],rfl,rfl,rfl,by simp;omega,fun k hk=>by omega,fun k ob hk=>?_,h⟩
 match k with
 |0=>obtain rfl:=Option.some.inj hk;exact⟨rfl,0,rfl,rfl⟩
 |1=>obtain rfl:=Option.some.inj hk;exact⟨okA_by _ _,_,rfl,by rw [reO_vec];exact prO_row q l [b]⟩
 |k+2=>cases hk
theorem prR3 {tm:PT AV} {q:Nat} {l l':List Nat} (ts:List (Nat × AV)) (he:l=l') (h:allRe (plOf [0,q+1]) 2 tm ts):Relab 0 ⟨tm,stB 136 q l,[]⟩ ⟨PT.ofList ts,prB l' [],[]⟩:=by
 subst he
 refine⟨ts,[0,q+1],prB l [],rfl,rfl,rfl,by simp,fun k hk=>by omega,fun k ob hk=>?_,h⟩
 match k with
 |0=>obtain rfl:=Option.some.inj hk;exact⟨rfl,0,rfl,rfl⟩
 |1=>obtain rfl:=Option.some.inj hk;exact⟨okA_by _ _,_,rfl,by rw [reO_vec];exact stB_row _ q l⟩
 |k+2=>cases hk
theorem prI1 {tm:PT AV} {l l':List Nat} (cs:List DV) (ts:List (Nat × AV)) (he:l=l') (h:allRe (plOf [0,1,2]) 3 tm ts):Relab 0 ⟨tm,prB l [.box (cs.map .d)],[]⟩ ⟨PT.ofList ts,prB l' [.box (cs.map .d)],[]⟩:=by
 subst he
 refine⟨ts,[0,1,2],prB l [.box (cs.map .d)],rfl,rfl,rfl,by simp,fun k hk=>by omega,fun k ob hk=>?_,h⟩
 match k with
 |0=>obtain rfl:=Option.some.inj hk;exact⟨rfl,0,rfl,rfl⟩
 |1=>obtain rfl:=Option.some.inj hk;exact⟨okA_by _ _,1,rfl,by rw [reO_vec];rfl⟩
 |2 =>
  obtain rfl:=Option.some.inj hk
  refine⟨?_,2,rfl,?_⟩
  ·show(cs.map AV.d).all (okA _ 8)=true
   rw [List.all_eq_true];intro x hx;simp only [List.mem_map] at hx;obtain⟨y,_,rfl⟩:=hx;rfl
  ·show some (Ob.box (cs.map .d))=some (Ob.box ((cs.map AV.d).map (reA _ 8)))
   rw [List.map_map];rfl
 |k+3=>cases hk
end Go.Av
end
namespace Go.Proofs
open Go.Shelf
def Tryz.lays156_ren:Go.Shelf.Ren:=⟨fun|156=>112|165=>199|166=>198|169=>113|240=>234|241=>235|276=>258|277=>259|n=>n,fun|31=>22|9=>9|3=>3|4=>4|0=>0|20=>20|72=>134|76=>208|70=>132|37=>75|75=>207|127=>211|164=>257|5=>5|80=>139|n=>n,fun|n=>n⟩
theorem Tryz.lays156:Go.Proofs.Lays.n156 Tryz.prog Tryz.lays156_ren:={
 mixed:=by kernel_rfl
 f156:=Tryz.func112.trans (congrArg some (by kernel_rfl))
 f165:=Tryz.func199.trans (congrArg some (by kernel_rfl))
 f166:=Tryz.func198.trans (congrArg some (by kernel_rfl))
 f169:=Tryz.func113.trans (congrArg some (by kernel_rfl))
 f240:=Tryz.func234.trans (congrArg some (by kernel_rfl))
 f241:=Tryz.func235.trans (congrArg some (by kernel_rfl))
 f276:=Tryz.func258.trans (congrArg some (by kernel_rfl))
 f277:=Tryz.func259.trans (congrArg some (by kernel_rfl))
 t0:=Tryz.underlying0
 a0:=Tryz.isAgg0
 z0:=Tryz.sizeOf0
 v0:=Tryz.zeroValue0
 t3:=Tryz.underlying3
 a3:=Tryz.isAgg3
 z3:=Tryz.sizeOf3
 v3:=Tryz.zeroValue3
 t4:=Tryz.underlying4
 a4:=Tryz.isAgg4
 z4:=Tryz.sizeOf4
 v4:=Tryz.zeroValue4
 t9:=Tryz.underlying9
 a9:=Tryz.isAgg9
 z9:=Tryz.sizeOf9
 v9:=Tryz.zeroValue9
 t20:=Tryz.underlying20
 a20:=Tryz.isAgg20
 z20:=Tryz.sizeOf20
 v20:=Tryz.zeroValue20
 t31:=Tryz.underlying22
 a31:=Tryz.isAgg22
 z31:=Tryz.sizeOf22
 v31:=Tryz.zeroValue22
 t37:=Tryz.underlying75
 a37:=Tryz.isAgg75
 z37:=Tryz.sizeOf75
 v37:=Tryz.zeroValue75
 t70:=Tryz.underlying132
 a70:=Tryz.isAgg132
 z70:=Tryz.sizeOf132
 v70:=Tryz.zeroValue132
 t72:=Tryz.underlying134
 a72:=Tryz.isAgg134
 z72:=Tryz.sizeOf134
 v72:=Tryz.zeroValue134
 t75:=Tryz.underlying207
 a75:=Tryz.isAgg207
 z75:=Tryz.sizeOf207
 v75:=Tryz.zeroValue207
 t76:=Tryz.underlying208
 a76:=Tryz.isAgg208
 z76:=Tryz.sizeOf208
 v76:=Tryz.zeroValue208
 t127:=Tryz.underlying211
 a127:=Tryz.isAgg211
 z127:=Tryz.sizeOf211
 v127:=Tryz.zeroValue211
 t164:=Tryz.underlying257
 a164:=Tryz.isAgg257
 z164:=Tryz.sizeOf257
 v164:=Tryz.zeroValue257 }
theorem Tryz.Builder_Extra_156:Builder.Extra Tryz.prog Tryz.lays156_ren:={
 sizeBuilder:=by kernel_rfl
 liesBuilder:=by kernel_rfl
 t5:=Tryz.underlying5
 a5:=Tryz.isAgg5
 z5:=Tryz.sizeOf5
 v5:=Tryz.zeroValue5
 infoByte:=by kernel_rfl
 cellsByte:=by kernel_rfl
 sizeByte:=by kernel_rfl
 neB5:=by decide }
open Go.RowKit in
theorem Tryz.strings_Join_none (a:Option Addr) (c:Nat) (sep:ByteArray) (w:World) :
  Calls Tryz.prog 112 #[.slice a 0 c,.string sep] w fun e w'=>e=.returned (.string ⟨#[]⟩)∧w'=w:=Any.strings_Join_none Tryz.lays156 Tryz.Builder_Extra_156 a c sep w
open Go.RowKit in
theorem Tryz.strings_Join (bk o c:Nat) (xs:List ByteArray) (sep:ByteArray) (w:World) (hcells:∀ (j:Nat) x,xs[j]?=some x→w.cell? ⟨bk,o+j,none⟩=some (.string x)) (hbk:bk<w.heap.size) (hN:xs.length≤140737488355328) (hcap:xs.length≤c) (hlen:(Lib.join (xs.map (·.data.toList)) sep.data.toList).length≤140737488355328) :
  Calls Tryz.prog 112 #[.slice (some ⟨bk,o,none⟩) xs.length c,.string sep] w fun e w'=>e=.returned (.string ⟨(Lib.join (xs.map (·.data.toList)) sep.data.toList).toArray⟩)∧Below w.heap.size w w':=Any.strings_Join Tryz.lays156 Tryz.Builder_Extra_156 bk o c xs sep w hcells hbk hN hcap hlen
end Go.Proofs
noncomputable section
namespace Go.Av
open Go Go.Proofs
set_option maxRecDepth 10000
theorem Step.below {D:DMap} {β:List Bi} {objs:List Ob} {w w':World} (hp:Heap D β objs w) (h:Go.RowKit.Below w.heap.size w w'):Step D β objs w D β objs w' :=
 Step.ext hp h.block h.size h.os h.tape h.output (fun _ _ h=>h) (fun ad v h0 h2=>by rw [h2] at h0;cases h0)
theorem strs_vals {D:DMap}:∀ (ss:List (List Nat)) (vs:List Value),vs.length=ss.length→(∀ (j:Nat) c v,(ss.map DV.str)[j]?=some c→vs[j]?=some v→RepD D c v) →
  ∃ xs:List ByteArray,vs=xs.map Value.string∧ss=xs.map fun b=>b.data.toList.map UInt8.toNat
 |[],vs,hl,_=>⟨[],by simpa using hl,rfl⟩
 |s :: ss,[],hl,_=>by simp at hl
 |s :: ss,v :: vs,hl,h=>by
  obtain⟨xs,h1,h2⟩:=strs_vals ss vs (by simpa using hl) fun j c v hc hv=>h (j+1) c v (by simpa using hc) (by simpa using hv)
  have h0:=h 0 (.str s) v rfl rfl
  cases h0 with
  |@str _ b hb=>exact⟨b :: xs,by simp [h1],by rw [h2];simp [hb]⟩
theorem inter_map {α β:Type} (f:α→β) (sep:List α) (l:List (List α)):(List.intercalate sep l).map f=List.intercalate (sep.map f) (l.map (·.map f)):=by
 simp only [List.intercalate]
 rw [List.map_flatten]
 congr 1
 induction l with
 |nil=>rfl
 |cons a l ih =>
  cases l with
  |nil=>rfl
  |cons b l=>simp only [List.intersperse,List.map_cons] at ih ⊢;rw [ih]
theorem joinK (ss:List (List Nat)) (sep:List Nat) (hn:ss.length≤1099511627776) (hl:(List.intercalate sep ss).length≤1099511627776):KnownCall Tryz.prog 112 [strs ss,.str sep] (.d (.str (List.intercalate sep ss))):=by
 intro o
 refine⟨enters_of Tryz.func112 (by kernel_rfl) rfl,fun D β w vs hp hr=>?_⟩
 obtain⟨v0,v1,rfl,h0,h1⟩:∃ v0 v1,vs=#[v0,v1]∧RepD D (strs ss) v0∧RepD D (.str sep) v1:=by
  obtain⟨l⟩:=vs
  obtain⟨h1,h2⟩:=hr
  match l,h1 with
  |[a,b],_ =>
   refine⟨a,b,rfl,?_,?_⟩
   ·have:=h2 0 _ a rfl rfl
    cases this with|d h=>exact h
   ·have:=h2 1 _ b rfl rfl
    cases this with|d h=>exact h
 have fl:∀ l:List (List Nat),flatD (l.map DV.str)=l.map DV.str:=fun l=>by
  induction l with
  |nil=>rfl
  |cons a l ih=>simp only [flatD,List.map_cons,List.flatMap_cons,cellsD] at ih ⊢;rw [ih];rfl
 cases h1 with
 |@str _ b hb =>
  generalize hes:ss.map DV.str=es at h0
  cases h0 with
  |@sl _ _ a cap us hc hm hsz hnn hv hD hrr =>
   subst hes
   rw [fl] at hv hrr
   obtain⟨xs,e1,e2⟩:=strs_vals ss us (by simpa using hv) hrr
   have hxl:xs.length=ss.length:=by rw [e2];simp
   have hres:∀ ys:List (List UInt8),(List.intercalate b.data.toList ys).map UInt8.toNat=List.intercalate sep (ys.map (·.map UInt8.toNat)):=fun ys=>by rw [inter_map,hb]
   have hin:(Lib.join (xs.map (·.data.toList)) b.data.toList).map UInt8.toNat=List.intercalate sep ss:=by
    rw [show Lib.join (xs.map (·.data.toList)) b.data.toList=List.intercalate b.data.toList (xs.map (·.data.toList)) from rfl,hres,e2,List.map_map];rfl
   cases ss with
   |nil =>
    have hx0:xs=[]:=List.length_eq_zero_iff.1 (by simpa using hxl)
    refine(callsIn_wide (n:=0)).2 ((Tryz.strings_Join_none a cap b w).mono fun e w' he=>?_)
    obtain⟨rfl,rfl⟩:=he
    exact .inl ⟨_,D,β,rfl,Step.refl hp,.d (.str rfl)⟩
   |cons s ss =>
    have hcl:(List.map DV.str (s :: ss)).length=xs.length:=by rw [hxl];simp
    cases a with
    |none=>have:=(hnn rfl).1;cases this
    |some ad =>
     obtain⟨hsp,hcell⟩:=hD ad rfl
     have hpos:0<xs.length:=by rw [hxl];simp
     obtain⟨blk,off,spot⟩:=ad
     have hspot:spot=none:=by
      rcases hsp with h|h
      ·omega
      ·exact h
     subst hspot
     have hcells:∀ (j:Nat) x,xs[j]?=some x→w.cell? ⟨blk,off+j,none⟩=some (.string x):=fun j x hx=>hp.cell (hcell j _ (by rw [e1];simp [hx]))
     have hlt:blk<w.heap.size:=by
      have:=hp.D_lt (hcell 0 (.string xs[0]) (by rw [e1];simp [hpos]))
      exact this
     rw [hcl]
     refine(callsIn_wide (n:=0)).2 ((Tryz.strings_Join blk off cap xs b w hcells hlt (by omega) (by omega) (by have:=congrArg List.length hin;simp only [List.length_map] at this;omega)).mono fun e w' he=>?_)
     obtain⟨rfl,hbel⟩:=he
     exact .inl ⟨_,D,β,rfl,Step.below hp hbel,.d (.str (by simp [hin]))⟩
end Go.Av
end
noncomputable section
namespace Go.Av
open Go Go.Proofs
set_option maxRecDepth 10000
def altQ (a:List (List Nat)):List Nat:=a.flatMap fun s=>32 :: s
def barP:Nat→List Nat
 |0=>[]
 |_+1=>[32,124]
def altsTo (al:List (List (List Nat))):Nat→List Nat
 |0=>[]
 |n+1=>altsTo al n++barP n++altQ (al.getD n [])
def ruleP (r:SRule):List Nat:=r.name++[32,61]++altsTo r.alts r.alts.length++[32,59,10]
def headP (x:Src):List Nat:=[108,111,111,107,97,104,101,97,100,32]++[48+x.k.toNat]++[59,10,116,111,107,101,110,32]++List.intercalate [44,32] x.tokens++[59,10,115,101,112,97,114,97,116,111,114,32]++x.sep++[59,10,115,116,97,114,116,32]++x.start++[59,10]
def rulesTo (x:Src) (n:Nat):List Nat:=(x.rules.take n).flatMap ruleP
def printX (x:Src):List Nat:=headP x++rulesTo x x.rules.length
theorem rulesTo_succ {x:Src} {i:Nat} {r:SRule} (h:x.rules[i]?=some r):rulesTo x (i+1)=rulesTo x i++ruleP r:=by
 unfold rulesTo;rw [List.take_add_one,h];simp
theorem rulesTo_le (x:Src) {i j:Nat} (h:i≤j):(rulesTo x i).length≤(rulesTo x j).length:=by
 unfold rulesTo
 obtain⟨d,rfl⟩:∃ d,j=i+d:=⟨j-i,by omega⟩
 rw [List.take_add,List.flatMap_append,List.length_append];omega
theorem altsTo_le (al:List (List (List Nat))) {i j:Nat} (h:i≤j):(altsTo al i).length≤(altsTo al j).length:=by
 induction j with
 |zero =>
  have:i=0:=by omega
  subst this;exact Nat.le_refl _
 |succ j ih =>
  rcases Nat.lt_or_ge i (j+1) with h1|h1
  ·have:=ih (by omega)
   simp only [altsTo,List.length_append];omega
  ·have:i=j+1:=by omega
   subst this;exact Nat.le_refl _
def altTo (a:List (List Nat)) (n:Nat):List Nat:=altQ (a.take n)
theorem altTo_succ {a:List (List Nat)} {i:Nat} {s:List Nat} (h:a[i]?=some s):altTo a (i+1)=altTo a i++(32 :: s):=by
 unfold altTo altQ;rw [List.take_add_one,h];simp
theorem altTo_le (a:List (List Nat)) (i:Nat):(altTo a i).length≤(altQ a).length:=by
 unfold altTo altQ
 conv=>rhs;rw [← List.take_append_drop i a,List.flatMap_append,List.length_append]
 omega
def firstP (x:Src):List (List Nat):=[[108,111,111,107,97,104,101,97,100,32],[48+x.k.toNat],[59,10,116,111,107,101,110,32],List.intercalate [44,32] x.tokens,[59,10,115,101,112,97,114,97,116,111,114,32],x.sep,[59,10,115,116,97,114,116,32],x.start,[59,10]]
theorem firstP_head (x:Src):(firstP x).flatten=headP x:=by simp [firstP,headP]
theorem putE {l l':List Nat} (ss:List (List Nat)) (q:Nat) (rest:List Ob) (he:l++ss.flatten=l') (hq:ss.length=q+1) (hs:l'.length≤1099511627776) (hl:q≤1000) :
  ACall Tryz.prog 111 [.bp 0 0,.d (strs ss)] (prB l rest) (.tup []) (prO q l' rest):=by
 subst he;exact putR l ss q rest hq hs hl
theorem printS (x:Src) (hf:FitsX x) (ht:(innerX x).length≤1048576) (h0:checkX x=0) (hp:(printX x).length≤1099511627776) (hb:∀ c ∈ printX x,c<256) :
  KnownCall Tryz.prog 31 [encX x] (.tup [.d (.str (printX x)),.d (.int .i64 0)]):=by
 have hk:x.k=1∨x.k=2∨x.k=3∨x.k=4:=by
  have hn:¬ (x.k<1∨4<x.k):=fun h=>by rw [checkX_k h] at h0;cases h0
  omega
 have e1:AV.d (.int .i64 (IntKind.i64.wrap (48+x.k)))=.d (.int .i64 (48+x.k)):=by rcases hk with h|h|h|h<;>rw [h]<;>rfl
 have e2:AV.d (.int .u8 (IntKind.u8.wrap (48+x.k)))=.d (.int .u8 (48+x.k)):=by rcases hk with h|h|h|h<;>rw [h]<;>rfl
 have e3:AV.d (.str [(48+x.k).toNat % 256])=.d (.str [48+x.k.toNat]):=by rcases hk with h|h|h|h<;>rw [h]<;>rfl
 have hc:=checkS x hf ht
 rw [h0] at hc
 have hpl:(printX x).length=(headP x).length+(rulesTo x x.rules.length).length:=by simp [printX]
 have hjl:(List.intercalate [44,32] x.tokens).length≤1099511627776:=by
  simp only [headP,List.length_append] at hpl;omega
 have htl:=hf.tokens
 have hrls:=hf.rules
 refine knownE Yo (fnAt Tryz.func31 (by kernel_rfl) (by kernel_rfl):FnAt _ _ (mkFn Tryz.f31 [1,24,33,45,58,68,73])) ?_
 repeat (first|refine Yg ?_|refine Yq ?_|refine Yn ?_|refine Yk ?_|refine cT ?_|refine cF ?_|refine Yb ?_|refine Ye ?_|refine eN ?_|refine Yd (frz:=[1,24,33,45,58,68,73]) Yo (by kernel_rfl) ?_)
 iterate 3 refine oX (frz:=[1,24,33,45,58,68,73]) Yo ?_
 repeat (first|refine Yg ?_|refine Yq ?_|refine Yn ?_|refine Yk ?_|refine cT ?_|refine cF ?_|refine Yb ?_|refine Ye ?_|refine eN ?_|refine Yd (frz:=[1,24,33,45,58,68,73]) Yo (by kernel_rfl) ?_)
 refine oX (frz:=[1,24,33,45,58,68,73]) Yo ?_
 refine oC hc ?_
 refine oX (frz:=[1,24,33,45,58,68,73]) Yo ?_
 repeat (first|refine Yg ?_|refine Yq ?_|refine Yn ?_|refine Yk ?_|refine cT ?_|refine cF ?_|refine Yb ?_|refine Ye ?_|refine eN ?_|refine Yd (frz:=[1,24,33,45,58,68,73]) Yo (by kernel_rfl) ?_)
 iterate 2 refine oX (frz:=[1,24,33,45,58,68,73]) Yo ?_
 repeat (first|refine Yg ?_|refine Yq ?_|refine Yn ?_|refine Yk ?_|refine cT ?_|refine cF ?_|refine Yb ?_|refine Ye ?_|refine eN ?_|refine Yd (frz:=[1,24,33,45,58,68,73]) Yo (by kernel_rfl) ?_)
 iterate 3 refine oX (frz:=[1,24,33,45,58,68,73]) Yo ?_
 repeat (first|refine Yg ?_|refine Yq ?_|refine Yn ?_|refine Yk ?_|refine cT ?_|refine cF ?_|refine Yb ?_|refine Ye ?_|refine eN ?_|refine Yd (frz:=[1,24,33,45,58,68,73]) Yo (by kernel_rfl) ?_)
 iterate 3 refine eX ?_
 refine eX (v:=.d (.int .i64 (48+x.k))) ?_ (he:=e1)
 refine eX (v:=.d (.int .u8 (48+x.k))) ?_ (he:=e2)
 refine eX ?_
 refine eX (v:=.d (.str [48+x.k.toNat])) ?_ (he:=e3)
 iterate 2 refine eX ?_
 refine eC (joinK x.tokens [44,32] (by omega) hjl) ?_
 iterate 4 refine eX ?_
 refine eX (v:=.d (strs (firstP x))) (v':=.d (strs (firstP x))) (ob:=none) (fl:=true) ?_ (hv:=by kernel_rfl) (he:=rfl)
 refine EvD.callO (by rfl) (by rfl) (by rfl) (put0 _ (firstP x).tail ?_ (by simp [firstP])) (by rfl) (by rfl) ?_
 ·show((firstP x).flatten).length≤_
  rw [firstP_head];omega
 refine eN ?_
 repeat (first|refine Yg ?_|refine Yq ?_|refine Yn ?_|refine Yk ?_|refine cT ?_|refine cF ?_|refine Yb ?_|refine Ye ?_|refine eN ?_|refine Yd (frz:=[1,24,33,45,58,68,73]) Yo (by kernel_rfl) ?_)
 iterate 4 refine oX (frz:=[1,24,33,45,58,68,73]) Yo ?_
 repeat (first|refine Yg ?_|refine Yq ?_|refine Yn ?_|refine Yk ?_|refine cT ?_|refine cF ?_|refine Yb ?_|refine Ye ?_|refine eN ?_|refine Yd (frz:=[1,24,33,45,58,68,73]) Yo (by kernel_rfl) ?_)
 refine Run.loopR (fun i:Nat=>⟨PT.ofList [(1,cellX x),(5,.bp 0 0),(36,.d (.sl 2 (x.rules.map encR))),(37,.d (.int .i64 (x.rules.map encR).length)),(38,.d (.int .i64 i))],prB (headP x++rulesTo x i) [],[]⟩) (fun i=>i≤x.rules.length) (fun i=>x.rules.length-i) 0 (Nat.zero_le _) (prR3 _ (show(firstP x).flatten=_ by rw [firstP_head];simp [rulesTo]) ⟨⟨rfl,rfl⟩,⟨rfl,rfl⟩,⟨rfl,rfl⟩,⟨rfl,rfl⟩,⟨rfl,rfl⟩,trivial⟩) (fun i hi=>?_)
 repeat (first|refine Yg ?_|refine Yq ?_|refine Yn ?_|refine Yk ?_|refine cT ?_|refine cF ?_|refine Yb ?_|refine Ye ?_|refine eN ?_|refine Yd (frz:=[1,24,33,45,58,68,73]) Yo (by kernel_rfl) ?_)
 refine oX (frz:=[1,24,33,45,58,68,73]) Yo ?_
 repeat (first|refine Yg ?_|refine Yq ?_|refine Yn ?_|refine Yk ?_|refine cT ?_|refine cF ?_|refine Yb ?_|refine Ye ?_|refine eN ?_|refine Yd (frz:=[1,24,33,45,58,68,73]) Yo (by kernel_rfl) ?_)
 refine Run.cond (by rfl) (fun h=>?_) (fun h=>?_)
 ·have hlt:i<x.rules.length:=by simpa using h
  obtain⟨r,hr⟩:=get_ok hlt
  repeat (first|refine Yg ?_|refine Yq ?_|refine Yn ?_|refine Yk ?_|refine cT ?_|refine cF ?_|refine Yb ?_|refine Ye ?_|refine eN ?_|refine Yd (frz:=[1,24,33,45,58,68,73]) Yo (by kernel_rfl) ?_)
  first|refine oX (frz:=[1,24,33,45,58,68,73]) (v:=.d (.ep [.str r.name,alts r.alts])) Yo ?_ (hf:=(by first|(simp [inB]<;>fail)|(simp [inB];omega))) (he:=(by first|(simp [List.getD_eq_getElem?_getD,cellsD,hr,encR]<;>fail)|fail))|refine eX (v:=.d (.ep [.str r.name,alts r.alts])) ?_ (hf:=(by first|(simp [inB]<;>fail)|(simp [inB];omega))) (he:=(by first|(simp [List.getD_eq_getElem?_getD,cellsD,hr,encR]<;>fail)|fail))
  iterate 3 refine oX (frz:=[1,24,33,45,58,68,73]) Yo ?_
  repeat (first|refine Yg ?_|refine Yq ?_|refine Yn ?_|refine Yk ?_|refine cT ?_|refine cF ?_|refine Yb ?_|refine Ye ?_|refine eN ?_|refine Yd (frz:=[1,24,33,45,58,68,73]) Yo (by kernel_rfl) ?_)
  iterate 4 refine oX (frz:=[1,24,33,45,58,68,73]) Yo ?_
  have hRL:(headP x++rulesTo x i++ruleP r).length≤1099511627776:=by
   have h1:=rulesTo_succ hr
   have h2:=rulesTo_le x (i:=i+1) (j:=x.rules.length) hlt
   rw [List.append_assoc,← h1,List.length_append];omega
  have hrm:=List.mem_of_getElem? hr
  have hal:=hf.alts r hrm
  have hRl:(ruleP r).length=r.name.length+2+(altsTo r.alts r.alts.length).length+3:=by simp [ruleP];omega
  rw [List.length_append] at hRL
  generalize hB:headP x++rulesTo x i=B at *
  refine RunOps.call (by rfl) (by rfl) (putE (l:=B) (l':=B++r.name++[32,61]) [r.name,[32,61]] 1 [.box ([.str r.name,alts r.alts].map .d)] (by simp) rfl (by simp only [List.length_append,List.length_cons,List.length_nil];omega) (by omega)) (by rfl) (by rfl) ?_
  refine RunOps.relab (prR1 [.str r.name,alts r.alts] [(1,cellX x),(5,.bp 0 0),(36,.d (.sl 2 (x.rules.map encR))),(37,.d (.int .i64 (x.rules.map encR).length)),(38,.d (.int .i64 i)),(7,.bp 2 0)] rfl ⟨⟨rfl,rfl⟩,⟨rfl,rfl⟩,⟨rfl,rfl⟩,⟨rfl,rfl⟩,⟨rfl,rfl⟩,⟨rfl,rfl⟩,trivial⟩) ?_
  repeat (first|refine Yg ?_|refine Yq ?_|refine Yn ?_|refine Yk ?_|refine cT ?_|refine cF ?_|refine Yb ?_|refine Ye ?_|refine eN ?_|refine Yd (frz:=[1,24,33,45,58,68,73]) Yo (by kernel_rfl) ?_)
  iterate 4 refine oX (frz:=[1,24,33,45,58,68,73]) Yo ?_
  repeat (first|refine Yg ?_|refine Yq ?_|refine Yn ?_|refine Yk ?_|refine cT ?_|refine cF ?_|refine Yb ?_|refine Ye ?_|refine eN ?_|refine Yd (frz:=[1,24,33,45,58,68,73]) Yo (by kernel_rfl) ?_)
  refine Run.loopR (fun k:Nat=>⟨PT.ofList [(1,cellX x),(5,.bp 0 0),(36,.d (.sl 2 (x.rules.map encR))),(37,.d (.int .i64 (x.rules.map encR).length)),(38,.d (.int .i64 i)),(7,.bp 2 0),(48,.d (alts r.alts)),(49,.d (.int .i64 (r.alts.map strs).length)),(50,.d (.int .i64 k))],prB (B++r.name++[32,61]++altsTo r.alts k) [.box ([.str r.name,alts r.alts].map .d)],[]⟩) (fun k=>k≤r.alts.length) (fun k=>r.alts.length-k) 0 (Nat.zero_le _) (prI1 [.str r.name,alts r.alts] _ (by simp [altsTo]) ⟨⟨rfl,rfl⟩,⟨rfl,rfl⟩,⟨rfl,rfl⟩,⟨rfl,rfl⟩,⟨rfl,rfl⟩,⟨rfl,rfl⟩,⟨rfl,rfl⟩,⟨rfl,rfl⟩,⟨rfl,rfl⟩,trivial⟩) (fun k hk=>?_)
  repeat (first|refine Yg ?_|refine Yq ?_|refine Yn ?_|refine Yk ?_|refine cT ?_|refine cF ?_|refine Yb ?_|refine Ye ?_|refine eN ?_|refine Yd (frz:=[1,24,33,45,58,68,73]) Yo (by kernel_rfl) ?_)
  refine oX (frz:=[1,24,33,45,58,68,73]) Yo ?_
  repeat (first|refine Yg ?_|refine Yq ?_|refine Yn ?_|refine Yk ?_|refine cT ?_|refine cF ?_|refine Yb ?_|refine Ye ?_|refine eN ?_|refine Yd (frz:=[1,24,33,45,58,68,73]) Yo (by kernel_rfl) ?_)
  refine Run.cond (by rfl) (fun h=>?_) (fun h=>?_)
  ·have hklt:k<r.alts.length:=by simpa using h
   obtain⟨a,ha⟩:=get_ok hklt
   have ham:=List.mem_of_getElem? ha
   have hanl:=hf.names r hrm a ham
   have hgd:r.alts.getD k []=a:=by rw [List.getD_eq_getElem?_getD,ha];rfl
   have hnext:altsTo r.alts (k+1)=altsTo r.alts k++barP k++altQ a:=by rw [← hgd];rfl
   have hkl:=altsTo_le r.alts (i:=k+1) (j:=r.alts.length) hklt
   rw [hnext] at hkl
   simp only [List.length_append] at hkl
   repeat (first|refine Yg ?_|refine Yq ?_|refine Yn ?_|refine Yk ?_|refine cT ?_|refine cF ?_|refine Yb ?_|refine Ye ?_|refine eN ?_|refine Yd (frz:=[1,24,33,45,58,68,73]) Yo (by kernel_rfl) ?_)
   refine oX (frz:=[1,24,33,45,58,68,73]) Yo ?_
   first|refine oX (frz:=[1,24,33,45,58,68,73]) (v:=.d (.ep [strs a])) Yo ?_ (hf:=(by first|(simp [inB]<;>fail)|(simp [inB];omega))) (he:=(by first|(simp [List.getD_eq_getElem?_getD,cellsD,ha]<;>fail)|fail))|refine eX (v:=.d (.ep [strs a])) ?_ (hf:=(by first|(simp [inB]<;>fail)|(simp [inB];omega))) (he:=(by first|(simp [List.getD_eq_getElem?_getD,cellsD,ha]<;>fail)|fail))
   iterate 3 refine oX (frz:=[1,24,33,45,58,68,73]) Yo ?_
   repeat (first|refine Yg ?_|refine Yq ?_|refine Yn ?_|refine Yk ?_|refine cT ?_|refine cF ?_|refine Yb ?_|refine Ye ?_|refine eN ?_|refine Yd (frz:=[1,24,33,45,58,68,73]) Yo (by kernel_rfl) ?_)
   iterate 2 refine oX (frz:=[1,24,33,45,58,68,73]) Yo ?_
   repeat (first|refine Yg ?_|refine Yq ?_|refine Yn ?_|refine Yk ?_|refine cT ?_|refine cF ?_|refine Yb ?_|refine Ye ?_|refine eN ?_|refine Yd (frz:=[1,24,33,45,58,68,73]) Yo (by kernel_rfl) ?_)
   refine Run.mono (K:=fun e s1=>e=.normal∧Relab 0 s1 ⟨PT.ofList [(1,cellX x),(5,.bp 0 0),(36,.d (.sl 2 (x.rules.map encR))),(37,.d (.int .i64 (x.rules.map encR).length)),(38,.d (.int .i64 i)),(7,.bp 2 0),(48,.d (alts r.alts)),(49,.d (.int .i64 (r.alts.map strs).length)),(50,.d (.int .i64 k)),(9,.d (strs a))],prB (B++r.name++[32,61]++altsTo r.alts k++barP k) [.box ([.str r.name,alts r.alts].map .d)],[]⟩) ?_ (fun e s1 hk1=>?_)
   ·rcases k with _|k
    ·repeat (first|refine Yg ?_|refine Yq ?_|refine Yn ?_|refine Yk ?_|refine cT ?_|refine cF ?_|refine Yb ?_|refine Ye ?_|refine eN ?_|refine Yd (frz:=[1,24,33,45,58,68,73]) Yo (by kernel_rfl) ?_)
     exact⟨rfl,prI1 [.str r.name,alts r.alts] _ (by simp [barP]) ⟨⟨rfl,rfl⟩,⟨rfl,rfl⟩,⟨rfl,rfl⟩,⟨rfl,rfl⟩,⟨rfl,rfl⟩,⟨rfl,rfl⟩,⟨rfl,rfl⟩,⟨rfl,rfl⟩,⟨rfl,rfl⟩,⟨rfl,rfl⟩,trivial⟩⟩
    ·have hb2:(barP (k+1)).length=2:=rfl
     refine Run.cond (by rfl) (fun h1=>?_) (fun h1=>?_)
     ·repeat (first|refine Yg ?_|refine Yq ?_|refine Yn ?_|refine Yk ?_|refine cT ?_|refine cF ?_|refine Yb ?_|refine Ye ?_|refine eN ?_|refine Yd (frz:=[1,24,33,45,58,68,73]) Yo (by kernel_rfl) ?_)
      iterate 2 refine oX (frz:=[1,24,33,45,58,68,73]) Yo ?_
      refine RunOps.call (by rfl) (by rfl) (putE (l':=B++r.name++[32,61]++altsTo r.alts (k+1)++barP (k+1)) [[32,124]] 0 [.box ([.str r.name,alts r.alts].map .d)] (by simp [barP]) rfl (by simp only [List.length_append,List.length_cons,List.length_nil];omega) (by omega)) (by rfl) (by rfl) ?_
      repeat (first|refine Yg ?_|refine Yq ?_|refine Yn ?_|refine Yk ?_|refine cT ?_|refine cF ?_|refine Yb ?_|refine Ye ?_|refine eN ?_|refine Yd (frz:=[1,24,33,45,58,68,73]) Yo (by kernel_rfl) ?_)
      exact⟨rfl,prR1 [.str r.name,alts r.alts] _ rfl ⟨⟨rfl,rfl⟩,⟨rfl,rfl⟩,⟨rfl,rfl⟩,⟨rfl,rfl⟩,⟨rfl,rfl⟩,⟨rfl,rfl⟩,⟨rfl,rfl⟩,⟨rfl,rfl⟩,⟨rfl,rfl⟩,⟨rfl,rfl⟩,trivial⟩⟩
     ·exfalso;simp at h1
   ·obtain⟨rfl,hk1⟩:=hk1
    refine Run.relab hk1 ?_
    repeat (first|refine Yg ?_|refine Yq ?_|refine Yn ?_|refine Yk ?_|refine cT ?_|refine cF ?_|refine Yb ?_|refine Ye ?_|refine eN ?_|refine Yd (frz:=[1,24,33,45,58,68,73]) Yo (by kernel_rfl) ?_)
    iterate 3 refine oX (frz:=[1,24,33,45,58,68,73]) Yo ?_
    repeat (first|refine Yg ?_|refine Yq ?_|refine Yn ?_|refine Yk ?_|refine cT ?_|refine cF ?_|refine Yb ?_|refine Ye ?_|refine eN ?_|refine Yd (frz:=[1,24,33,45,58,68,73]) Yo (by kernel_rfl) ?_)
    refine Run.loopR (fun j:Nat=>⟨PT.ofList [(1,cellX x),(5,.bp 0 0),(36,.d (.sl 2 (x.rules.map encR))),(37,.d (.int .i64 (x.rules.map encR).length)),(38,.d (.int .i64 i)),(7,.bp 2 0),(48,.d (alts r.alts)),(49,.d (.int .i64 (r.alts.map strs).length)),(50,.d (.int .i64 k)),(9,.d (strs a)),(60,.d (strs a)),(61,.d (.int .i64 (a.map DV.str).length)),(62,.d (.int .i64 j))],prB (B++r.name++[32,61]++altsTo r.alts k++barP k++altTo a j) [.box ([.str r.name,alts r.alts].map .d)],[]⟩) (fun j=>j≤a.length) (fun j=>a.length-j) 0 (Nat.zero_le _) (prI1 [.str r.name,alts r.alts] _ (by simp [altTo,altQ]) ⟨⟨rfl,rfl⟩,⟨rfl,rfl⟩,⟨rfl,rfl⟩,⟨rfl,rfl⟩,⟨rfl,rfl⟩,⟨rfl,rfl⟩,⟨rfl,rfl⟩,⟨rfl,rfl⟩,⟨rfl,rfl⟩,⟨rfl,rfl⟩,⟨rfl,rfl⟩,⟨rfl,rfl⟩,⟨rfl,rfl⟩,trivial⟩) (fun j hj=>?_)
    repeat (first|refine Yg ?_|refine Yq ?_|refine Yn ?_|refine Yk ?_|refine cT ?_|refine cF ?_|refine Yb ?_|refine Ye ?_|refine eN ?_|refine Yd (frz:=[1,24,33,45,58,68,73]) Yo (by kernel_rfl) ?_)
    refine oX (frz:=[1,24,33,45,58,68,73]) Yo ?_
    repeat (first|refine Yg ?_|refine Yq ?_|refine Yn ?_|refine Yk ?_|refine cT ?_|refine cF ?_|refine Yb ?_|refine Ye ?_|refine eN ?_|refine Yd (frz:=[1,24,33,45,58,68,73]) Yo (by kernel_rfl) ?_)
    refine Run.cond (by rfl) (fun h=>?_) (fun h=>?_)
    ·have hjlt:j<a.length:=by simpa using h
     obtain⟨s,hsj⟩:=get_ok hjlt
     have hsu:=altTo_succ hsj
     have hjl:=altTo_le a (j+1)
     rw [hsu,List.length_append] at hjl
     repeat (first|refine Yg ?_|refine Yq ?_|refine Yn ?_|refine Yk ?_|refine cT ?_|refine cF ?_|refine Yb ?_|refine Ye ?_|refine eN ?_|refine Yd (frz:=[1,24,33,45,58,68,73]) Yo (by kernel_rfl) ?_)
     first|refine oX (frz:=[1,24,33,45,58,68,73]) (v:=.d (.ep [.str s])) Yo ?_ (hf:=(by first|(simp [inB]<;>fail)|(simp [inB];omega))) (he:=(by first|(simp [List.getD_eq_getElem?_getD,cellsD,hsj]<;>fail)|fail))|refine eX (v:=.d (.ep [.str s])) ?_ (hf:=(by first|(simp [inB]<;>fail)|(simp [inB];omega))) (he:=(by first|(simp [List.getD_eq_getElem?_getD,cellsD,hsj]<;>fail)|fail))
     iterate 2 refine oX (frz:=[1,24,33,45,58,68,73]) Yo ?_
     repeat (first|refine Yg ?_|refine Yq ?_|refine Yn ?_|refine Yk ?_|refine cT ?_|refine cF ?_|refine Yb ?_|refine Ye ?_|refine eN ?_|refine Yd (frz:=[1,24,33,45,58,68,73]) Yo (by kernel_rfl) ?_)
     iterate 3 refine oX (frz:=[1,24,33,45,58,68,73]) Yo ?_
     refine RunOps.call (by rfl) (by rfl) (putE (l':=B++r.name++[32,61]++altsTo r.alts k++barP k++altTo a j++(32 :: s)) [[32],s] 1 [.box ([.str r.name,alts r.alts].map .d)] (by simp) rfl (by simp only [List.length_append,List.length_cons,List.length_nil] at hjl ⊢;omega) (by omega)) (by rfl) (by rfl) ?_
     refine RunOps.relab (prR1 [.str r.name,alts r.alts] [(1,cellX x),(5,.bp 0 0),(36,.d (.sl 2 (x.rules.map encR))),(37,.d (.int .i64 (x.rules.map encR).length)),(38,.d (.int .i64 i)),(7,.bp 2 0),(48,.d (alts r.alts)),(49,.d (.int .i64 (r.alts.map strs).length)),(50,.d (.int .i64 k)),(9,.d (strs a)),(60,.d (strs a)),(61,.d (.int .i64 (a.map DV.str).length)),(62,.d (.int .i64 j))] (by rw [List.append_assoc _ (altTo a j),← hsu]) ⟨⟨rfl,rfl⟩,⟨rfl,rfl⟩,⟨rfl,rfl⟩,⟨rfl,rfl⟩,⟨rfl,rfl⟩,⟨rfl,rfl⟩,⟨rfl,rfl⟩,⟨rfl,rfl⟩,⟨rfl,rfl⟩,⟨rfl,rfl⟩,⟨rfl,rfl⟩,⟨rfl,rfl⟩,⟨rfl,rfl⟩,trivial⟩) ?_
     repeat (first|refine Yg ?_|refine Yq ?_|refine Yn ?_|refine Yk ?_|refine cT ?_|refine cF ?_|refine Yb ?_|refine Ye ?_|refine eN ?_|refine Yd (frz:=[1,24,33,45,58,68,73]) Yo (by kernel_rfl) ?_)
     refine oX (frz:=[1,24,33,45,58,68,73]) Yo ?_
     refine oX (frz:=[1,24,33,45,58,68,73]) (v:=.d (.int .i64 (j+1:Nat))) Yo ?_ (he:=congrArg (fun n=>AV.d (.int .i64 n)) (wrap_nat (n:=j+1) (by omega)))
     repeat (first|refine Yg ?_|refine Yq ?_|refine Yn ?_|refine Yk ?_|refine cT ?_|refine cF ?_|refine Yb ?_|refine Ye ?_|refine eN ?_|refine Yd (frz:=[1,24,33,45,58,68,73]) Yo (by kernel_rfl) ?_)
     exact⟨j+1,hjlt,by omega,prI1 [.str r.name,alts r.alts] _ rfl ⟨⟨rfl,rfl⟩,⟨rfl,rfl⟩,⟨rfl,rfl⟩,⟨rfl,rfl⟩,⟨rfl,rfl⟩,⟨rfl,rfl⟩,⟨rfl,rfl⟩,⟨rfl,rfl⟩,⟨rfl,rfl⟩,⟨rfl,rfl⟩,⟨rfl,rfl⟩,⟨rfl,rfl⟩,⟨rfl,rfl⟩,trivial⟩⟩
    ·have hge:j=a.length:=by simp at h;omega
     subst hge
     have hta:altTo a a.length=altQ a:=by rw [altTo,List.take_length]
     repeat (first|refine Yg ?_|refine Yq ?_|refine Yn ?_|refine Yk ?_|refine cT ?_|refine cF ?_|refine Yb ?_|refine Ye ?_|refine eN ?_|refine Yd (frz:=[1,24,33,45,58,68,73]) Yo (by kernel_rfl) ?_)
     refine oX (frz:=[1,24,33,45,58,68,73]) Yo ?_
     refine oX (frz:=[1,24,33,45,58,68,73]) (v:=.d (.int .i64 (k+1:Nat))) Yo ?_ (he:=congrArg (fun n=>AV.d (.int .i64 n)) (wrap_nat (n:=k+1) (by omega)))
     repeat (first|refine Yg ?_|refine Yq ?_|refine Yn ?_|refine Yk ?_|refine cT ?_|refine cF ?_|refine Yb ?_|refine Ye ?_|refine eN ?_|refine Yd (frz:=[1,24,33,45,58,68,73]) Yo (by kernel_rfl) ?_)
     exact⟨k+1,hklt,by omega,prI1 [.str r.name,alts r.alts] _ (by rw [hta,hnext];simp only [List.append_assoc]) ⟨⟨rfl,rfl⟩,⟨rfl,rfl⟩,⟨rfl,rfl⟩,⟨rfl,rfl⟩,⟨rfl,rfl⟩,⟨rfl,rfl⟩,⟨rfl,rfl⟩,⟨rfl,rfl⟩,⟨rfl,rfl⟩,trivial⟩⟩
  ·have hge:k=r.alts.length:=by simp at h;omega
   subst hge
   have hru:B++ruleP r=headP x++rulesTo x (i+1):=by rw [rulesTo_succ hr,← hB,List.append_assoc]
   repeat (first|refine Yg ?_|refine Yq ?_|refine Yn ?_|refine Yk ?_|refine cT ?_|refine cF ?_|refine Yb ?_|refine Ye ?_|refine eN ?_|refine Yd (frz:=[1,24,33,45,58,68,73]) Yo (by kernel_rfl) ?_)
   iterate 2 refine oX (frz:=[1,24,33,45,58,68,73]) Yo ?_
   refine RunOps.call (by rfl) (by rfl) (putE (l':=B++ruleP r) [[32,59,10]] 0 [.box ([.str r.name,alts r.alts].map .d)] (by simp [ruleP]) rfl (by rw [List.length_append];omega) (by omega)) (by rfl) (by rfl) ?_
   repeat (first|refine Yg ?_|refine Yq ?_|refine Yn ?_|refine Yk ?_|refine cT ?_|refine cF ?_|refine Yb ?_|refine Ye ?_|refine eN ?_|refine Yd (frz:=[1,24,33,45,58,68,73]) Yo (by kernel_rfl) ?_)
   refine oX (frz:=[1,24,33,45,58,68,73]) Yo ?_
   refine oX (frz:=[1,24,33,45,58,68,73]) (v:=.d (.int .i64 (i+1:Nat))) Yo ?_ (he:=congrArg (fun n=>AV.d (.int .i64 n)) (wrap_nat (n:=i+1) (by omega)))
   repeat (first|refine Yg ?_|refine Yq ?_|refine Yn ?_|refine Yk ?_|refine cT ?_|refine cF ?_|refine Yb ?_|refine Ye ?_|refine eN ?_|refine Yd (frz:=[1,24,33,45,58,68,73]) Yo (by kernel_rfl) ?_)
   exact⟨i+1,hlt,by omega,prR2 _ hru ⟨⟨rfl,rfl⟩,⟨rfl,rfl⟩,⟨rfl,rfl⟩,⟨rfl,rfl⟩,⟨rfl,rfl⟩,trivial⟩⟩
 ·have hge:i=x.rules.length:=by simp at h;omega
  subst hge
  repeat (first|refine Yg ?_|refine Yq ?_|refine Yn ?_|refine Yk ?_|refine cT ?_|refine cF ?_|refine Yb ?_|refine Ye ?_|refine eN ?_|refine Yd (frz:=[1,24,33,45,58,68,73]) Yo (by kernel_rfl) ?_)
  iterate 3 refine oX (frz:=[1,24,33,45,58,68,73]) Yo ?_
  refine RunOps.call (by rfl) (by rfl) (strSP 0 (printX x) (by simp [printX,headP]) hb) (by rfl) (by rfl) ?_
  iterate 2 refine oX (frz:=[1,24,33,45,58,68,73]) Yo ?_
  repeat (first|refine Yg ?_|refine Yq ?_|refine Yn ?_|refine Yk ?_|refine cT ?_|refine cF ?_|refine Yb ?_|refine Ye ?_|refine eN ?_|refine Yd (frz:=[1,24,33,45,58,68,73]) Yo (by kernel_rfl) ?_)
  refine Yt ?_
  exact rT rfl
end Go.Av
end

/-
  Parts of the way to the law, joined. Conditions stand at each.
-/
import Derived.Test.YtbhonjkfkdeneaaGreatGb4
import Derived.Test.YtbhonjkfkdeneaaGreatGb3
import Derived.Shelf.Strings.OnBuilder
import Derived.Test.YtbhonjkfkdeneaaGreatProg
set_option linter.all false
noncomputable section
namespace Go.Av
open Go Go.Proofs
set_option maxRecDepth 10000
theorem vN {x:Int} {n:Nat} (h:x=(n:Int)) (hn:n<=1099511627776):AV.d (.int .i64 (IntKind.i64.wrap x))=.d (.int .i64 (n:Int)):=by
 subst h;exact congrArg (fun n=>AV.d (.int .i64 n)) (qaT hn)
theorem qzf (l:List Int) (hl:∀ n ∈ l,W64 n) (i:Nat):qaa Tryz.prog 56 [.int .i64 (atF l i),.int .i64 1073741824] (.d (.int .i64 (qgh l i:Nat))):=qzi _ (qxV hl i)
theorem qAH {a b:Nat} (h:b<=64):Int.fdiv (a:Int) (2 ^ (min (b:Int).toNat 64))=((a / 2 ^ b:Nat):Int):=by
 rw [Int.toNat_natCast,Nat.min_eq_left h,Int.fdiv_eq_ediv_of_nonneg _ (Int.pow_nonneg (by decide))]
 push_cast
 rfl
theorem qA0 (n:Nat):(!decide ((n:Int)<0))=true:=by simp
def qh2 (k:Nat):List (List Nat):=[[97],[98]].take (1+k / 2 % 2)
def qhP (k:Nat):Nat:=1+k / 4 % 3
def zF (y s:Nat):Nat:=y / 4 / 2 ^ (4*s) % 16
def qxn (T M z:Nat):Nat:=if z % 5<3 then z % T else 16+z % M
def qfd (T M y s:Nat):List Int:=(List.range s).map fun s=>((qxn T M (zF y s):Nat):Int)
def qgV (nums:List Int) (T M i j:Nat):qaV:=⟨((16+i:Nat):Int),qfd T M (qgh nums (4+3*i+j)) (qgh nums (4+3*i+j) % 4)⟩
def qfb (nums:List Int) (T M i j:Nat):List qaV:=(List.range j).map (qgV nums T M i)
def qcF (nums:List Int) (T M:Nat):Nat->List qaV
 |0=>[]
 |i+1=>(qcF nums T M i++qfb nums T M i (qgh nums (1+i) % 3+1)).take 7
def qcM (i:Nat):List (List Nat):=(List.range i).map fun i=>[83+i]
def qtK (nums:List Int):qaH :=
 ⟨((1+qgh nums 0 % 2:Nat):Int),qh2 (qgh nums 0),[122],qcM (qhP (qgh nums 0)),16,qcF nums (qh2 (qgh nums 0)).length (qhP (qgh nums 0)) (qhP (qgh nums 0))⟩
theorem qok (k:Nat):(qh2 k).length=1+k / 2 % 2:=by simp [qh2];omega
theorem qvv (k:Nat):AV.d (DV.sl 1 (qdQ none (some ((1+k / 2 % 2:Nat):Int)) [.str [97],.str [98]]))=AV.d (qao (qh2 k)):=by
 rcases Nat.mod_two_eq_zero_or_one (k / 2) with h|h<;>simp only [qh2,h]<;>rfl
theorem qvp (k:Nat):(qbR none (some ((1+k / 2 % 2:Nat):Int)) 2 && true)=true:=by
 rcases Nat.mod_two_eq_zero_or_one (k / 2) with h|h<;>rw [h]<;>rfl
abbrev fA:List Nat:=[19,40,42,96,105,111]
abbrev qwr (k:Int) (toks:List (List Nat)) (ns ps:AV):Ob:=.box [.d (.int .i64 k),.d (qao toks),.d (.str [122]),ns,.d (.int .i64 16),ps]
theorem vU8 {n:Nat} (h:n<256):AV.d (.int .u8 (IntKind.u8.wrap (n:Int)))=.d (.int .u8 (n:Int)):=by
 have:IntKind.u8.wrap (n:Int)=n:=by unfold IntKind.wrap;simp [IntKind.bits,IntKind.signed];omega
 rw [this]
theorem qAB {n:Nat} (h:n<1048576):AV.d (.int .u64 (IntKind.u64.wrap (n:Int)))=.d (.int .u64 (n:Int)):=by
 have:IntKind.u64.wrap (n:Int)=n:=by unfold IntKind.wrap;simp [IntKind.bits,IntKind.signed];omega
 rw [this]
theorem vT {p:Prop} [Decidable p] (h:p):AV.d (.bool (decide p))=.d (.bool true):=by rw [decide_eq_true h]
theorem vF {p:Prop} [Decidable p] (h:¬ p):AV.d (.bool (decide p))=.d (.bool false):=by rw [decide_eq_false h]
def nsD (i:Nat):List DV:=(qcM i).map .str
def qkX (l:List Int):List DV:=l.map (.int .i64)
theorem qnj (j d:Nat):List.range (j+d)=List.range j++List.range' j d:=by
 rw [List.range_eq_range',List.range_eq_range',<- List.range'_append_1,Nat.zero_add]
theorem qtd (i:Nat):nsD (i+1)=nsD i++[.str [83+i]]:=by simp [nsD,qcM,List.range_succ]
theorem qq4 (nums:List Int) (T M i:Nat):(qcF nums T M i).length<=7:=by
 cases i with
 |zero=>exact Nat.zero_le _
 |succ i=>simp only [qcF,List.length_take];omega
set_option maxHeartbeats 4000000 in
theorem qAC (nums:List Int) (hn:∀ n ∈ nums,W64 n):qaa Tryz.prog 52 [qcV nums] (.d (qd5 (qtK nums))):=by
 obtain⟨k,hk⟩:∃ k,k=qgh nums 0:=⟨_,rfl⟩
 have hkl:=qnn nums 0;have hm0:=qzf nums hn 0;rw [<- hk] at hm0 hkl;obtain⟨M,hM⟩:∃ M,M=1+k / 4 % 3:=⟨_,rfl⟩
 obtain⟨T,hT⟩:∃ T,T=(qh2 k).length:=⟨_,rfl⟩
 have hT2:1<=T/\T<=2:=by rw [hT,qok];omega
 rw [show qd5 (qtK nums)=.agg [.int .i64 ((1+k % 2:Nat):Int),qao (qh2 k),.str [122],.sl 1 (nsD M),.int .i64 16,.sl 2 ((qcF nums T M M).map qbf)] from by simp only [qd5,qtK,<- hk,hM,hT,qhP];rfl];refine kF Tryz.func52 fA fun w=>?_
 show Run _ _ _ _ _ _ (qqa _ _ (.d (.agg [.int .i64 ((1+k % 2:Nat):Int),qao (qh2 k),.str [122],.sl 1 (nsD M),.int .i64 16,.sl 2 ((qcF nums T M M).map qbf)])))
 repeat refine zG ?_
 refine zX ?_
 repeat refine zG ?_
 refine zX ?_;refine oC (atS nums 0) ?_;refine oC hm0 ?_;refine zX ?_
 repeat refine zG ?_
 refine zX ?_
 first|refine oV (v:=.d (.int .i64 ((k % 2:Nat):Int))) ?_ (he:=(rfl))|refine eX (v:=.d (.int .i64 ((k % 2:Nat):Int))) ?_ (he:=(rfl))
 first|refine oV (v:=.d (.int .i64 ((1+k % 2:Nat):Int))) ?_ (he:=(vN (by omega) (by omega)))|refine eX (v:=.d (.int .i64 ((1+k % 2:Nat):Int))) ?_ (he:=(vN (by omega) (by omega)))
 iterate 2 refine zX ?_
 first|refine oV (v:=.d (.int .i64 ((k / 2:Nat):Int))) ?_ (he:=(vN rfl (by omega)))|refine eX (v:=.d (.int .i64 ((k / 2:Nat):Int))) ?_ (he:=(vN rfl (by omega)))
 first|refine oV (v:=.d (.int .i64 ((k / 2 % 2:Nat):Int))) ?_ (he:=(rfl))|refine eX (v:=.d (.int .i64 ((k / 2 % 2:Nat):Int))) ?_ (he:=(rfl))
 first|refine oV (v:=.d (.int .i64 ((1+k / 2 % 2:Nat):Int))) ?_ (he:=(vN (by omega) (by omega)))|refine eX (v:=.d (.int .i64 ((1+k / 2 % 2:Nat):Int))) ?_ (he:=(vN (by omega) (by omega)))
 refine oV (v:=.d (qao (qh2 k))) ?_ (hf:=qvp k) (he:=qvv k);iterate 3 refine zX ?_
 repeat refine zG ?_
 refine zX ?_
 first|refine oV (v:=.d (.int .i64 ((k / 4:Nat):Int))) ?_ (he:=(vN rfl (by omega)))|refine eX (v:=.d (.int .i64 ((k / 4:Nat):Int))) ?_ (he:=(vN rfl (by omega)))
 first|refine oV (v:=.d (.int .i64 ((k / 4 % 3:Nat):Int))) ?_ (he:=(rfl))|refine eX (v:=.d (.int .i64 ((k / 4 % 3:Nat):Int))) ?_ (he:=(rfl))
 first|refine oV (v:=.d (.int .i64 (M:Nat))) ?_ (he:=(vN (by omega) (by omega)))|refine eX (v:=.d (.int .i64 (M:Nat))) ?_ (he:=(vN (by omega) (by omega)))
 refine zX ?_
 repeat refine zG ?_
 refine zX ?_
 repeat refine zG ?_
 refine Run.cellRoom 1 3 1 ?_;refine Run.cellRoom 1 5 2 ?_;refine Run.loopT (fun i:Nat=>⟨PT.ofList [(0,.d (qcV nums)),(2,.bp 0 0),(4,.bp 1 0),(5,.d (.int .i64 (M:Nat))),(6,.d (.int .i64 i))],[qcG,qwr ((1+k % 2:Nat):Int) (qh2 k) (.sr 2 1 (nsD i)) (.sr 3 2 ((qcF nums T M i).map qbf)),.room i 1,.room (qcF nums T M i).length 2],[]⟩) (fun i=>i<=M) (fun i=>M-i) 0 (Nat.zero_le _) (ti _ 4) (fun i hi=>?_);have hMl:M<=3:=by omega
 have hL:=qq4 nums T M i;rcases Nat.lt_or_ge i M with hlt|hge
 .have hx:=qzf nums hn (1+i)
  have hxl:=qnn nums (1+i);obtain⟨x,hxe⟩:∃ x,x=qgh nums (1+i):=⟨_,rfl⟩
  rw [<- hxe] at hx hxl;have hnl:(nsD i).length=i:=by simp [nsD,qcM]
  repeat refine zS ?_
  iterate 2 refine zX ?_
  refine oV (v:=.d (.bool true)) ?_ (he:=vT (by omega))
  repeat refine zS ?_
  iterate 3 refine zX ?_
  refine oV (v:=.d (.int .i64 (83+i:Nat))) ?_ (he:=vN (by omega) (by omega));refine oV (v:=.d (.int .u8 (83+i:Nat))) ?_ (he:=vU8 (by omega));refine zX ?_;refine oV (v:=.d (.str [83+i])) ?_ (he:=congrArg (fun c=>AV.d (.str [c])) (show((83+i:Nat):Int).toNat % 256=83+i by omega));refine zX ?_;refine oV (v:=.sr 2 1 (nsD (i+1))) ?_ (hv:=qnV (hn:=hnl.symm) (hlen:=by rw [hnl];show i+1<=_;omega)) (hf:=rfl) (he:=by rw [qtd];rfl);iterate 2 refine zX ?_
  repeat refine zS ?_
  iterate 2 refine zX ?_
  refine oV (v:=.d (.int .i64 (1+i:Nat))) ?_ (he:=vN (by omega) (by omega));refine oC (atS nums (1+i)) ?_;refine oC hx ?_;refine zX ?_
  repeat refine zS ?_
  refine zX ?_
  repeat refine zS ?_
  refine Run.loopT (fun y:Nat × List qaV=>⟨PT.ofList [(0,.d (qcV nums)),(2,.bp 0 0),(4,.bp 1 0),(5,.d (.int .i64 (M:Nat))),(6,.d (.int .i64 i)),(7,.d (.int .i64 x)),(8,.d (.int .i64 y.1))],[qcG,qwr ((1+k % 2:Nat):Int) (qh2 k) (.sr 2 1 (nsD (i+1))) (.sr 3 2 (y.2.map qbf)),.room (i+1) 1,.room y.2.length 2],[]⟩)
   (fun y=>y.1<=x % 3+1/\y.2=qcF nums T M i++qfb nums T M i y.1/\y.2.length<=7) (fun y=>x % 3+1-y.1) (0,qcF nums T M i) ⟨Nat.zero_le _,by simp [qfb],hL⟩ (ti _ 4) (fun y hy=>?_)
  obtain⟨j,acc⟩:=y;obtain⟨hj1,hj2,hj3⟩:=hy;simp only at hj1 hj2 hj3 |-;by_cases hj:j<=x % 3/\acc.length<7
  .obtain⟨hja,hjb⟩:=hj
   have hy:=qzf nums hn (4+3*i+j);have hyl:=qnn nums (4+3*i+j);have hyp:qgV nums T M i j=⟨((16+i:Nat):Int),qfd T M (qgh nums (4+3*i+j)) (qgh nums (4+3*i+j) % 4)⟩:=rfl;have hrow:qfb nums T M i (j+1)=qfb nums T M i j++[qgV nums T M i j]:=by simp [qfb,List.range_succ]
   have hat:=atS nums (4+3*i+j);obtain⟨v,hv⟩:∃ v,v=qgh nums (4+3*i+j):=⟨_,rfl⟩
   rw [<- hv] at hy hyl hyp;have hnext:acc++[qgV nums T M i j]=qcF nums T M i++qfb nums T M i (j+1):=by rw [hj2,hrow,List.append_assoc]
   rw [hyp] at hnext
   repeat refine zS ?_
   iterate 2 refine zX ?_
   refine oV (v:=.d (.int .i64 ((x % 3:Nat):Int))) ?_ (he:=rfl);refine oV (v:=.d (.bool true)) ?_ (he:=vT (by omega));iterate 4 refine zX ?_
   refine oV (v:=.d (.bool true)) ?_ (he:=vT (by rw [List.length_map]<;>omega));refine zX ?_
   repeat refine zS ?_
   refine zX ?_;refine oV (v:=.d (.int .i64 ((16+i:Nat):Int))) ?_ (he:=vN (by omega) (by omega));iterate 3 refine zX ?_
   repeat refine zS ?_
   iterate 2 refine zX ?_
   refine oV (v:=.d (.int .i64 ((3*i:Nat):Int))) ?_ (he:=vN (by omega) (by omega));refine oV (v:=.d (.int .i64 ((4+3*i:Nat):Int))) ?_ (he:=vN (by omega) (by omega));refine zX ?_;refine oV (v:=.d (.int .i64 ((4+3*i+j:Nat):Int))) ?_ (he:=vN (by omega) (by omega));refine oC hat ?_;refine oC hy ?_;refine zX ?_
   repeat refine zS ?_
   refine zX ?_
   repeat refine zS ?_
   refine Run.cellRoom 4 1 1 ?_;refine Run.loopT (fun s:Nat=>⟨PT.ofList [(0,.d (qcV nums)),(2,.bp 0 0),(4,.bp 1 0),(5,.d (.int .i64 (M:Nat))),(6,.d (.int .i64 i)),(7,.d (.int .i64 x)),(8,.d (.int .i64 j)),(9,.bp 4 0),(10,.d (.int .i64 v)),(11,.d (.int .i64 s))],[qcG,qwr ((1+k % 2:Nat):Int) (qh2 k) (.sr 2 1 (nsD (i+1))) (.sr 3 2 (acc.map qbf)),.room (i+1) 1,.room acc.length 2,.box [.d (.int .i64 ((16+i:Nat):Int)),.sr 5 1 (qkX (qfd T M v s))],.room s 1],[]⟩)
    (fun s=>s<=v % 4) (fun s=>v % 4-s) 0 (Nat.zero_le _) (ti _ 6) (fun s hs1=>?_)
   have hrl:(qkX (qfd T M v s)).length=s:=by simp [qkX,qfd]
   rcases Nat.lt_or_ge s (v % 4) with hsl|hsg
   .have hnx:qkX (qfd T M v (s+1))=qkX (qfd T M v s)++[.int .i64 ((qxn T M (zF v s):Nat):Int)]:=by simp [qkX,qfd,List.range_succ]
    repeat refine zS ?_
    iterate 2 refine zX ?_
    refine oV (v:=.d (.int .i64 ((v % 4:Nat):Int))) ?_ (he:=rfl);refine oV (v:=.d (.bool true)) ?_ (he:=vT (by omega))
    repeat refine zS ?_
    refine zX ?_;refine oV (v:=.d (.int .i64 ((v / 4:Nat):Int))) ?_ (he:=vN rfl (by omega));refine zX ?_;refine oV (v:=.d (.int .i64 ((4*s:Nat):Int))) ?_ (he:=vN (by omega) (by omega));refine oV (v:=.d (.int .u64 ((4*s:Nat):Int))) ?_ (he:=qAB (by omega));refine oV (v:=.d (.int .i64 ((v / 4 / 2 ^ (4*s):Nat):Int))) ?_ (hf:=qA0 (4*s)) (he:=congrArg (fun n=>AV.d (.int .i64 n)) (qAH (by omega)));refine oV (v:=.d (.int .i64 ((zF v s:Nat):Int))) ?_ (he:=rfl);refine zX ?_
    repeat refine zS ?_
    refine zX ?_;refine oV (v:=.d (.int .i64 ((zF v s % 5:Nat):Int))) ?_ (he:=rfl);by_cases h5:zF v s % 5<3
    .refine oV (v:=.d (.bool true)) ?_ (he:=vT (by omega))
     have hsy:qxn T M (zF v s)=zF v s % T:=if_pos h5;rw [hsy] at hnx
     repeat refine zG ?_
     iterate 5 refine zX ?_
     first|refine oV (v:=.d (.int .i64 (T:Nat))) ?_ (he:=(by rw [hT,List.length_map]))|refine eX (v:=.d (.int .i64 (T:Nat))) ?_ (he:=(by rw [hT,List.length_map]))
     refine eX (v:=.d (.int .i64 ((zF v s % T:Nat):Int))) ?_ (hf:=by simp<;>omega) (he:=rfl);refine zX ?_;refine eX (v:=.sr 5 1 (qkX (qfd T M v (s+1)))) ?_ (hv:=qnV (hn:=hrl.symm) (hlen:=by rw [hrl];show s+1<=_;omega)) (hf:=rfl) (he:=by rw [hnx];rfl);iterate 2 refine zX ?_
     repeat refine zG ?_
     refine zX ?_;refine oV (v:=.d (.int .i64 ((s+1:Nat):Int))) ?_ (he:=vN (by omega) (by omega));refine zX ?_
     repeat refine zS ?_
     exact⟨s+1,hsl,by omega,(ti _ 6)⟩
    .refine oV (v:=.d (.bool false)) ?_ (he:=vF (by omega))
     have hsy:qxn T M (zF v s)=16+zF v s % M:=if_neg h5;rw [hsy] at hnx
     repeat refine zG ?_
     iterate 4 refine zX ?_
     refine eX (v:=.d (.int .i64 ((zF v s % M:Nat):Int))) ?_ (hf:=by simp<;>omega) (he:=rfl)
     first|refine oV (v:=.d (.int .i64 ((16+zF v s % M:Nat):Int))) ?_ (he:=(vN (by omega) (by have:=Nat.mod_lt (zF v s) (show 0<M by omega)<;>omega)))|refine eX (v:=.d (.int .i64 ((16+zF v s % M:Nat):Int))) ?_ (he:=(vN (by omega) (by have:=Nat.mod_lt (zF v s) (show 0<M by omega)<;>omega)))
     refine zX ?_;refine eX (v:=.sr 5 1 (qkX (qfd T M v (s+1)))) ?_ (hv:=qnV (hn:=hrl.symm) (hlen:=by rw [hrl];show s+1<=_;omega)) (hf:=rfl) (he:=by rw [hnx];rfl);iterate 2 refine zX ?_
     repeat refine zG ?_
     refine zX ?_;refine oV (v:=.d (.int .i64 ((s+1:Nat):Int))) ?_ (he:=vN (by omega) (by omega));refine zX ?_
     repeat refine zS ?_
     exact⟨s+1,hsl,by omega,(ti _ 6)⟩
   .have hse:v % 4=s:=by omega
    rw [hse] at hnext
    repeat refine zS ?_
    iterate 2 refine zX ?_
    refine oV (v:=.d (.int .i64 ((v % 4:Nat):Int))) ?_ (he:=rfl);refine oV (v:=.d (.bool false)) ?_ (he:=vF (by omega))
    repeat refine zS ?_
    iterate 3 refine zX ?_
    first|refine Run.tidy (qcQ (objs:=_) [(0,.d (qcV nums)),(2,.bp 0 0),(4,.bp 1 0),(5,.d (.int .i64 (M:Nat))),(6,.d (.int .i64 i)),(7,.d (.int .i64 x)),(8,.d (.int .i64 j)),(109,.sr 3 2 (acc.map qbf)),(110,.d (qbf ⟨((16+i:Nat):Int),qfd T M v s⟩))] 4 (Eq.trans (b:=[qcG,qwr ((1+k % 2:Nat):Int) (qh2 k) (.sr 2 1 (nsD (i+1))) (.sr 3 2 (acc.map qbf)),.room (i+1) 1,.room acc.length 2]) rfl rfl) rfl (by repeat' (first|exact trivial|refine⟨(Or.inl rfl),?_⟩|refine⟨(Or.inr rfl),?_⟩|refine⟨rfl,?_⟩|fail)) (by repeat' (first|exact trivial|refine⟨(Or.inl rfl),?_⟩|refine⟨(Or.inr rfl),?_⟩|refine⟨rfl,?_⟩|fail)) rfl rfl) ?_|refine RunOps.tidy (qcQ (objs:=_) [(0,.d (qcV nums)),(2,.bp 0 0),(4,.bp 1 0),(5,.d (.int .i64 (M:Nat))),(6,.d (.int .i64 i)),(7,.d (.int .i64 x)),(8,.d (.int .i64 j)),(109,.sr 3 2 (acc.map qbf)),(110,.d (qbf ⟨((16+i:Nat):Int),qfd T M v s⟩))] 4 (Eq.trans (b:=[qcG,qwr ((1+k % 2:Nat):Int) (qh2 k) (.sr 2 1 (nsD (i+1))) (.sr 3 2 (acc.map qbf)),.room (i+1) 1,.room acc.length 2]) rfl rfl) rfl (by repeat' (first|exact trivial|refine⟨(Or.inl rfl),?_⟩|refine⟨(Or.inr rfl),?_⟩|refine⟨rfl,?_⟩|fail)) (by repeat' (first|exact trivial|refine⟨(Or.inl rfl),?_⟩|refine⟨(Or.inr rfl),?_⟩|refine⟨rfl,?_⟩|fail)) rfl rfl) ?_
    refine zX ?_;refine oV (v:=.sr 3 2 ((acc++[(⟨((16+i:Nat):Int),qfd T M v s⟩:qaV)]).map qbf)) (objs':=[qcG,qwr ((1+k % 2:Nat):Int) (qh2 k) (.sr 2 1 (nsD (i+1))) (.sr 3 2 (acc.map qbf)),.room (i+1) 1,.room (acc++[(⟨((16+i:Nat):Int),qfd T M v s⟩:qaV)]).length 2]) ?_ (hv:=qnV (hn:=(List.length_map ..).symm) (hlen:=by rw [List.length_map];show acc.length+1<=_;omega)) (hf:=rfl) (he:=by rw [List.map_append];rfl) (ho:=by rw [List.length_append];rfl);iterate 2 refine zX ?_
    repeat refine zS ?_
    refine zX ?_;refine oV (v:=.d (.int .i64 ((j+1:Nat):Int))) ?_ (he:=vN (by omega) (by omega));refine zX ?_
    repeat refine zS ?_
    exact⟨(j+1,acc++[(⟨((16+i:Nat):Int),qfd T M v s⟩:qaV)]),⟨by simp only;omega,hnext,by simp;omega⟩,by simp only;omega,(ti _ 4)⟩
  .have hacc':acc=qcF nums T M (i+1):=by
    simp only [qcF,<- hxe];by_cases h7:acc.length<7
    .have hje:j=x % 3+1:=by have:¬ j<=x % 3:=fun h=>hj ⟨h,h7⟩;omega
     rw [<- hje,<- hj2,List.take_of_length_le hj3]
    .have h7':acc.length=7:=by omega
     obtain⟨d,hd⟩:∃ d,x % 3+1=j+d:=⟨x % 3+1-j,by omega⟩
     have hro:qfb nums T M i (x % 3+1)=qfb nums T M i j++(List.range' j d).map (qgV nums T M i):=by
      rw [hd,qfb,qfb,<- List.map_append,qnj]
     rw [hro,<- List.append_assoc,<- hj2,<- h7',List.take_left]
   by_cases hja:j<=x % 3
   .have h7:¬ acc.length<7:=fun h=>hj ⟨hja,h⟩
    repeat refine zS ?_
    iterate 2 refine zX ?_
    refine oV (v:=.d (.int .i64 ((x % 3:Nat):Int))) ?_ (he:=rfl);refine oV (v:=.d (.bool true)) ?_ (he:=vT (by omega));iterate 4 refine zX ?_
    refine oV (v:=.d (.bool false)) ?_ (he:=vF (by rw [List.length_map]<;>omega));refine zX ?_
    repeat refine zS ?_
    refine zX ?_;refine oV (v:=.d (.int .i64 ((i+1:Nat):Int))) ?_ (he:=vN (by omega) (by omega));refine zX ?_
    repeat refine zS ?_
    subst hacc';exact⟨i+1,hlt,by omega,(ti _ 4)⟩
   .repeat refine zS ?_
    iterate 2 refine zX ?_
    refine oV (v:=.d (.int .i64 ((x % 3:Nat):Int))) ?_ (he:=rfl);refine oV (v:=.d (.bool false)) ?_ (he:=vF (by omega));refine zX ?_;refine oS ?_;refine oS ?_;refine oS ?_;refine oS ?_;refine zX ?_
    repeat refine zS ?_
    refine zX ?_;refine oV (v:=.d (.int .i64 ((i+1:Nat):Int))) ?_ (he:=vN (by omega) (by omega));refine zX ?_
    repeat refine zS ?_
    subst hacc';exact⟨i+1,hlt,by omega,(ti _ 4)⟩
 .have hie:i=M:=by omega
  subst hie
  repeat refine zG ?_
  iterate 2 refine zX ?_
  refine oV (v:=.d (.bool false)) ?_ (he:=vF (by omega))
  repeat' (first|refine zW ?_|refine zB ?_ ?_<;>intro h<;>try exact zk h|rfl|fail)
def qhQ (ts ns:List (List Nat)) (s:List Nat):Int:=if 0<=qbX ns s then 16+qbX ns s else qbX ts s
theorem quJ (ts ns:List (List Nat)) (s:List Nat) (hft:ts.length<=1048576) (hfn:ns.length<=1048576):qaa Tryz.prog 134 [.agg [.any,qao ts,.any,qao ns,.any,.any],.str s] (.d (.int .i64 (qhQ ts ns s))):=by
 have hr:=qnO ns s;have hw:IntKind.i64.wrap (16+qbX ns s)=16+qbX ns s:=qeL (by omega) (by omega);refine kF Tryz.func134 [2] fun w=>?_
 repeat' (first|refine zW ?_|refine zB ?_ ?_<;>intro h<;>try exact zk h|refine zK (qkM _ _ (show ns.length<=_ by omega)) ?_ ?_<;>intro h<;>try exact zk h|refine zC (qkM _ _ (show ns.length<=_ by omega)) ?_|refine zK (qkM _ _ (show ts.length<=_ by omega)) ?_ ?_<;>intro h<;>try exact zk h|refine zC (qkM _ _ (show ts.length<=_ by omega)) ?_|(show _=_;first|(simp_all [qhQ]<;>fail)|(simp_all [qhQ];omega))|fail)
def qoa (ts ns:List (List Nat)) (i:Nat) (a:List (List Nat)):qaV:=⟨((16+i:Nat):Int),a.map (qhQ ts ns)⟩
def ofP (x:Src) (i:Nat):List qaV:=(x.rules.take i).zipIdx.flatMap fun p=>p.1.alts.map (qoa x.tokens (qab x) p.2)
theorem qhY {x:Src} {i:Nat} {r:SRule} (h:x.rules[i]?=some r):ofP x (i+1)=ofP x i++r.alts.map (qoa x.tokens (qab x) i):=by
 have hi:=(List.getElem?_eq_some_iff.1 h).1;have hl:(x.rules.take i).length=i:=by simp;omega
 simp only [ofP];rw [List.take_add_one,h,List.zipIdx_append,List.flatMap_append,hl]
 simp
def ofX (x:Src):qaH:=⟨x.k,x.tokens,x.sep,qab x,qhQ x.tokens (qab x) x.start,ofP x x.rules.length⟩
abbrev rmT (x:Src):Ob:=.room (([]:List DV).length+(x.tokens.map DV.str).length) 1
abbrev qwP (x:Src) (st:Int) (ns ps:AV):Ob:=.box [.d (.int .i64 x.k),.sr 1 1 ([]++x.tokens.map DV.str),.d (.str x.sep),ns,.d (.int .i64 st),ps]
abbrev fO:List Nat:=[1,42,94,100]
theorem qlP {x:Src} (h:qa0 x=0):x.rules≠[]/\∀ r ∈ x.rules,r.alts≠[]:=by
 have hs:qcw x=false:=by
  cases hb:qcw x with
  |false=>rfl
  |true=>unfold qa0 at h;rw [hb] at h;split at h<;>simp at h
 unfold qcw at hs;simp only [Bool.or_eq_false_iff,List.any_eq_false,List.isEmpty_iff] at hs;exact⟨fun e=>by simp [e] at hs,fun r hr e=>hs.1.1 r hr (by simp [e])⟩
theorem qnl {x:Src} {i:Nat} (hi:i<=x.rules.length):(ofP x i).length=qcc x i:=by
 induction i with
 |zero=>simp [ofP,qcc]
 |succ i ih =>
  obtain⟨r,hr⟩:=qai (show i<x.rules.length by omega);rw [qhY hr,qdx hr,List.length_append,List.length_map,ih (by omega)]
theorem qhz {x:Src} (h:qa0 x=0):x.tokens.length<=8/\x.rules.length<=8/\qcc x x.rules.length<=24/\∀ r ∈ x.rules,∀ a ∈ r.alts,a.length<=6:=by
 have hs:qcN x=false:=by
  cases hb:qcN x with
  |false=>rfl
  |true =>
   unfold qa0 at h;rw [hb] at h;split at h
   .omega
   .split at h<;>simp at h
 unfold qcN at hs;simp only [Bool.or_eq_false_iff,List.any_eq_false,decide_eq_false_iff_not] at hs;refine⟨by omega,by omega,by omega,fun r hr a ha=>?_⟩;have:=hs.1.1.1 r hr;simp only [List.any_eq_true,not_exists,not_and] at this;have:=this a ha;simp only [qeo,decide_eq_true_eq] at this;omega
abbrev qsp (x:Src) (st:Int) (ns ps:AV):Ob:=.box [.d (.int .i64 x.k),.d (qao x.tokens),.d (.str x.sep),ns,.d (.int .i64 st),ps]
set_option maxHeartbeats 4000000 in
theorem qxj (x:Src) (hf:qde x) (h0:qa0 x=0):qaa Tryz.prog 43 [qfO x] (.tup [.d (qd5 (ofX x)),.d (.int .i64 0)]):=by
 have htl:=hf.tokens;have hrl:=hf.rules;obtain⟨hs1,hs2,hs3,hs4⟩:=qhz h0;have cc:=qqZ x hf;rw [h0] at cc;obtain⟨st,hst⟩:∃ st,st=qhQ x.tokens (qab x) x.start:=⟨_,rfl⟩
 have hsym:=fun s=>quJ x.tokens (qab x) s htl (by simp;omega);have hsst:=hsym x.start;rw [<- hst] at hsst;rw [show qd5 (ofX x)=.agg [.int .i64 x.k,qao x.tokens,.str x.sep,qao (qab x),.int .i64 st,.sl 2 ((ofP x x.rules.length).map qbf)] by rw [hst];rfl];refine kF Tryz.func43 fO fun w=>?_
 repeat' (first|refine zW ?_|refine zB ?_ ?_<;>intro h<;>try exact zk h|refine zC (cc) ?_|refine zAp ?_|exact zk h|fail)
 refine Run.cellData 2 1 ?_;refine Run.tidy (s':=⟨PT.ofList [(1,qbK x),(2,.bp 0 0),(3,.d (.int .i64 0)),(5,.bp 2 0),(6,.d (.int .i64 ((0:Nat):Int)))],[qcG,rmT x,qsp x 0 (.d .nilsl) (.d .nilsl)],[]⟩) (ti _ 3) ?_;refine Run.cellRoom 2 3 1 ?_;refine Run.loopT (fun y:Nat × List DV=>⟨PT.ofList [(1,qbK x),(2,.bp 0 0),(3,.d (.int .i64 0)),(5,.bp 2 0),(6,.d (.int .i64 (y.1:Nat)))],[qcG,rmT x,qsp x 0 (.sr 3 1 y.2) (.d .nilsl),.room y.2.length 1],[]⟩) (fun y=>y.1<=x.rules.length/\y.2=(x.rules.take y.1).map (fun r=>.str r.name)) (fun y=>x.rules.length-y.1) (0,[]) ⟨Nat.zero_le _,rfl⟩ (ti _ 4) (fun y hy=>?_);obtain⟨i,ds⟩:=y;obtain⟨hi1,hi2⟩:=hy;simp only at hi1 hi2 |-;have hal:ds.length<=i:=by rw [hi2];simp;omega
 have ai:AV.d (.int .i64 (IntKind.i64.wrap ((i:Int)+1)))=.d (.int .i64 ((i+1:Nat):Int)):=vN8 (by omega) (by omega);rcases Nat.lt_or_ge i x.rules.length with hlt|hge
 .obtain⟨r,hr⟩:=qai hlt
  repeat' (first|refine zV ai ?_|refine zW ?_|refine zB ?_ ?_<;>intro h<;>try exact zk h|refine zIR w (.d (.ep [.str r.name,alts r.alts])) hr ?_|refine zAp ?_|(exact⟨(i+1,ds++[.str r.name]),⟨hlt,by rw [List.take_add_one,hr,hi2];simp⟩,by simp only;omega,(ti _ 4 (Eq.trans (b:=[qcG,rmT x,qsp x 0 (.sr 3 1 (ds++[.str r.name])) (.d .nilsl),.room (ds.length+1) 1]) rfl (by simp)))⟩)|exact zk h|fail)
 .obtain rfl:i=x.rules.length:=by omega
  rw [List.take_length] at hi2;have hns:(qab x).map DV.str=ds:=by rw [hi2,List.map_map];rfl
  subst hns;clear hi2 hal;refine Run.cellData 2 3 ?_
  repeat' (first|refine zW ?_|refine zB ?_ ?_<;>intro h<;>try exact zk h|refine oW hsst ?_|exact zk h|fail)
  refine Run.tidy (s':=⟨PT.ofList [(1,qbK x),(2,.bp 0 0),(3,.d (.int .i64 0)),(5,.bp 2 0),(7,.d (.int .i64 ((0:Nat):Int)))],[qcG,rmT x,qsp x st (.d (qao (qab x))) (.d .nilsl)],[]⟩) (ti _ 3) ?_;refine Run.cellRoom 2 5 2 ?_;refine Run.loopT (fun y:Nat × List qaV=>⟨PT.ofList [(1,qbK x),(2,.bp 0 0),(3,.d (.int .i64 0)),(5,.bp 2 0),(7,.d (.int .i64 (y.1:Nat)))],[qcG,rmT x,qsp x st (.d (qao (qab x))) (.sr 3 2 (y.2.map qbf)),.room y.2.length 2],[]⟩) (fun y=>y.1<=x.rules.length/\y.2=ofP x y.1) (fun y=>x.rules.length-y.1) (0,[]) ⟨Nat.zero_le _,rfl⟩ (ti _ 4) (fun y hy=>?_);obtain⟨i,acc⟩:=y;obtain⟨hi1,hi2⟩:=hy;simp only at hi1 hi2 |-;have ai:AV.d (.int .i64 (IntKind.i64.wrap ((i:Int)+1)))=.d (.int .i64 ((i+1:Nat):Int)):=vN8 (by omega) (by omega);rcases Nat.lt_or_ge i x.rules.length with hlt|hge
  .obtain⟨r,hr⟩:=qai hlt
   have hmem:=List.mem_of_getElem? hr;have hra:=hf.alts r hmem;have hro:=qhY hr;have hsl:(ofP x (i+1)).length<=24:=by
    have h1:=qnl (x:=x) (i:=i+1) hlt;have h2:qcc x (i+1)<=qcc x x.rules.length:=by
     unfold qcc;rw [List.take_length]
     conv=>rhs;rw [<- List.take_append_drop (i+1) x.rules,List.map_append,List.sum_append]
     omega
    omega
   repeat' (first|refine zW ?_|refine zB ?_ ?_<;>intro h<;>try exact zk h|exact zk h|fail)
   refine Run.loopT (fun y:Nat × List qaV=>⟨PT.ofList [(1,qbK x),(2,.bp 0 0),(3,.d (.int .i64 0)),(5,.bp 2 0),(7,.d (.int .i64 (i:Nat))),(8,.d (.int .i64 (y.1:Nat)))],[qcG,rmT x,qsp x st (.d (qao (qab x))) (.sr 3 2 (y.2.map qbf)),.room y.2.length 2],[]⟩) (fun y=>y.1<=r.alts.length/\y.2=ofP x i++(r.alts.take y.1).map (qoa x.tokens (qab x) i)) (fun y=>r.alts.length-y.1) (0,acc) ⟨Nat.zero_le _,by rw [hi2];simp⟩ (ti _ 4) (fun y hy=>?_);obtain⟨k,acc⟩:=y;obtain⟨hk1,hk2⟩:=hy;simp only at hk1 hk2 |-;rcases Nat.lt_or_ge k r.alts.length with hkl|hkg
   .obtain⟨a,ha⟩:=qai hkl
    have hal6:=hs4 r hmem a (List.mem_of_getElem? ha);have hnext:acc++[qoa x.tokens (qab x) i a]=ofP x i++(r.alts.take (k+1)).map (qoa x.tokens (qab x) i):=by rw [List.take_add_one,ha,hk2];simp
    have haccl:acc.length+1<=24:=by
     have h1:=congrArg List.length hnext;rw [hro,List.length_append,List.length_map] at hsl;simp only [List.length_append,List.length_map,List.length_take,List.length_cons,List.length_nil] at h1;omega
    have hL:AV.d (.int .i64 (IntKind.i64.wrap (16+(i:Int))))=.d (.int .i64 ((16+i:Nat):Int)):=vN8 (by omega) (by omega);have ak:AV.d (.int .i64 (IntKind.i64.wrap ((k:Int)+1)))=.d (.int .i64 ((k+1:Nat):Int)):=vN8 (by omega) (by omega)
    repeat' (first|refine zV hL ?_|refine zW ?_|refine zB ?_ ?_<;>intro h<;>try exact zk h|refine zIR w (.d (.ep [.str r.name,alts r.alts])) hr ?_|refine zI w (.d (.ep [qao a])) ha ?_|exact zk h|fail)
    refine Run.tidy (s':=⟨PT.ofList [(1,qbK x),(2,.bp 0 0),(3,.d (.int .i64 0)),(5,.bp 2 0),(7,.d (.int .i64 (i:Nat))),(8,.d (.int .i64 (k:Nat))),(9,.bp 4 0),(10,.d (qao a)),(11,.d (.int .i64 ((0:Nat):Int)))],[qcG,rmT x,qsp x st (.d (qao (qab x))) (.sr 3 2 (acc.map qbf)),.room acc.length 2,.box [.d (.int .i64 ((16+i:Nat):Int)),.d .nilsl]],[]⟩) (ti _ 5) ?_;refine Run.cellRoom 4 1 1 ?_;refine Run.loopT (fun z:Nat × List DV=>⟨PT.ofList [(1,qbK x),(2,.bp 0 0),(3,.d (.int .i64 0)),(5,.bp 2 0),(7,.d (.int .i64 (i:Nat))),(8,.d (.int .i64 (k:Nat))),(9,.bp 4 0),(10,.d (qao a)),(11,.d (.int .i64 (z.1:Nat)))],[qcG,rmT x,qsp x st (.d (qao (qab x))) (.sr 3 2 (acc.map qbf)),.room acc.length 2,.box [.d (.int .i64 ((16+i:Nat):Int)),.sr 5 1 z.2],.room z.2.length 1],[]⟩) (fun z=>z.1<=a.length/\z.2=(a.take z.1).map (fun s=>.int .i64 (qhQ x.tokens (qab x) s))) (fun z=>a.length-z.1) (0,[]) ⟨Nat.zero_le _,rfl⟩ (ti _ 6) (fun z hz=>?_);obtain⟨j,rg⟩:=z;obtain⟨hj1,hj2⟩:=hz;simp only at hj1 hj2 |-;have hrl:rg.length=j:=by rw [hj2];simp;omega
    have aj:AV.d (.int .i64 (IntKind.i64.wrap ((j:Int)+1)))=.d (.int .i64 ((j+1:Nat):Int)):=vN8 (by omega) (by omega);rcases Nat.lt_or_ge j a.length with hjl|hjg
    .obtain⟨s,hs⟩:=qai hjl
     repeat' (first|refine zV aj ?_|refine zW ?_|refine zB ?_ ?_<;>intro h<;>try exact zk h|refine zI w (.d (.ep [.str s])) hs ?_|refine eW (hsym s) ?_|refine zAp ?_|(exact⟨(j+1,rg++[.int .i64 (qhQ x.tokens (qab x) s)]),⟨hjl,by rw [List.take_add_one,hs,hj2];simp⟩,by simp only;omega,(ti _ 6 (Eq.trans (b:=[qcG,rmT x,qsp x st (.d (qao (qab x))) (.sr 3 2 (acc.map qbf)),.room acc.length 2,.box [.d (.int .i64 ((16+i:Nat):Int)),.sr 5 1 (rg++[.int .i64 (qhQ x.tokens (qab x) s)])],.room (rg.length+1) 1]) rfl (by simp)))⟩)|exact zk h|fail)
    .have hje:j=a.length:=by omega
     have hrg:rg=(a.map (qhQ x.tokens (qab x))).map (DV.int .i64):=by rw [hj2,hje,List.take_length,List.map_map];rfl
     subst hrg;refine Run.cellData 4 1 ?_
     repeat' (first|refine zV ak ?_|refine zW ?_|refine zB ?_ ?_<;>intro h<;>try exact zk h|refine zAp ?_|(exact⟨(k+1,acc++[qoa x.tokens (qab x) i a]),⟨hkl,hnext⟩,by simp only;omega,(qcQ (objs:=_) _ 4 (Eq.trans (b:=[qcG,rmT x,qsp x st (.d (qao (qab x))) (.sr 3 2 (acc.map qbf++[qbf (qoa x.tokens (qab x) i a)])),.room (acc.length+1) 2]) (by first|rfl|(simp<;>fail)|(rw [<- List.length_map (f:=qbf)];rfl)) (by simp)) rfl (by repeat' (first|exact trivial|refine⟨(Or.inl rfl),?_⟩|refine⟨(Or.inr rfl),?_⟩)) (by repeat' (first|exact trivial|refine⟨rfl,?_⟩)) rfl rfl)⟩)|exact zk h|fail)
   .have hke:k=r.alts.length:=by omega
    have hk3:acc=ofP x (i+1):=by rw [hk2,hke,List.take_length,hro]
    repeat' (first|refine zV ai ?_|refine zW ?_|refine zB ?_ ?_<;>intro h<;>try exact zk h|refine zIR w (.d (.ep [.str r.name,alts r.alts])) hr ?_|(exact⟨(i+1,acc),⟨hlt,hk3⟩,by simp only;omega,(ti _ 4)⟩)|exact zk h|fail)
  .obtain rfl:i=x.rules.length:=by omega
   rw [<- hi2];refine Run.cellData 2 5 ?_
   repeat' (first|refine zW ?_|refine zB ?_ ?_<;>intro h<;>try exact zk h|rfl|exact zk h|fail)
theorem qg3 {P:Program} {f:FuncId} {ds:List DV} {x y e:DV} (h:qaa P f ds (.tup [.d x,.d e])) (hr:DvN x y):qaa P f ds (.tup [.d y,.d e]):=by
 intro o;refine⟨(h o).1,fun D β w vs hp hv=>((h o).2 D β w vs hp hv).mono fun en w' he=>?_⟩;rcases he with⟨v,D',β',rfl,hs,hv⟩|⟨z,v,D',β',hz,rfl,hs,hrep⟩
 .refine .inl ⟨v,D',β',rfl,hs,?_⟩
  cases hv with
  |tup hl hg =>
   refine .tup hl fun j c v hc hv'=>?_
   match j with
   |0 =>
    simp at hc;subst hc;have:=hg 0 (.d x) v rfl hv';cases this with
    |d k=>exact .d (hr.rep k)
   |1 =>
    simp at hc;subst hc;exact hg 1 (.d e) v rfl hv'
   |j+2=>simp at hc
 .cases hz
def g0:qaH:=⟨0,[],[],[],0,[]⟩
def qmD (x:Src):qaH:=if qa0 x=0 then ofX x else g0
theorem qxq:DvN (.agg [.int .i64 0,.nilsl,.str [],.nilsl,.int .i64 0,.nilsl]) (qd5 g0) :=
 .agg rfl fun j x y hx hy=>by
  match j with
  |0|2|4=>simp [g0] at hx hy;subst hx hy;exact .refl
  |1|3|5=>simp [g0,qao] at hx hy;subst hx hy;exact .nil
  |j+6=>simp at hx
theorem qzR (x:Src) (hf:qde x):qaa Tryz.prog 43 [qfO x] (.tup [.d (qd5 (qmD x)),.d (.int .i64 (qa0 x))]):=by
 by_cases h0:qa0 x=0
 .have e:qmD x=ofX x:=if_pos h0
  rw [e,h0];exact qxj x hf h0
 .have e:qmD x=g0:=if_neg h0
  rw [e];have cc:=qqZ x hf;generalize qa0 x=c at cc h0 |-;refine qg3 ?_ qxq;refine kF Tryz.func43 fO fun w=>?_
  repeat' (first|refine zW ?_|refine zB ?_ ?_<;>intro h<;>try exact zk h|refine zC (cc) ?_|rfl|((exfalso;(simp [h0] at h<;>fail)))|fail)
section
set_option maxRecDepth 10000
end
theorem evC {f:FuncId} {args:List AV} {objs objs':List Ob} {r:AV} {n k:Nat} (h:qeH Et Ft.get? (hdl Et Ft.get? k n) k f args objs=some (r,objs')):ACall Tryz.prog f args objs r objs' :=
 qcy qak (qut qak (by kernel_rfl) qdk k n) (by kernel_rfl) qdk h
abbrev byV (l:List Nat):List AV:=l.map fun n=>.d (.int .u8 (n:Nat))
abbrev qkT (l:List Nat):Ob:=.vec 5 false 1 l.length (byV l)
abbrev qyl (T:TypeId):Ob:=.tb T [.d .nilptr,.d .nilsl]
abbrev bld (T:TypeId) (i j n:Nat):Ob:=.tb T [.bp i 0,.vs j 1 0 n]
theorem qp0 {l:List Nat} (h:∀ x ∈ l,x<256):qhG (byV l)=some l:=by
 induction l with
 |nil=>rfl
 |cons a l ih =>
  have h1:=h a (by simp);simp only [List.map_cons,qhG,ih (fun x hx=>h x (by simp [hx])),qpn];rw [if_pos (by simp;omega)]
  simp
theorem qzq (b:AV):ACall Tryz.prog 234 [.bp 0 0] [.tb 136 [.d .nilptr,b]] (.tup []) [.tb 136 [.bp 0 0,b]]:=evC (n:=3) (k:=100) (by kernel_rfl)
theorem qyM (n:Nat) (l:List AV) (m:Nat):ACall Tryz.prog 234 [.bp 0 0] [bld 136 0 1 n,.vec 5 false 1 m l] (.tup []) [bld 136 0 1 n,.vec 5 false 1 m l]:=evC (n:=3) (k:=100) (by kernel_rfl)
theorem qqN (s:List Nat):(qav (s.map fun(n:Nat)=>DV.int .u8 n)).map AV.d=byV s:=by
 induction s with
 |nil=>rfl
 |cons a s ih =>
  simp only [qav,List.map_cons,List.flatMap_cons,qam,List.cons_append,List.nil_append];exact congrArg _ ih
theorem qpe (s:List Nat):qlk 1 1 (s.map fun(n:Nat)=>DV.int .u8 n)=1:=by cases s<;>rfl
section
variable {H:Hd} {frz:List Nat} {rd:Operand->AV} {objs:List Ob} {o:Oper} {args:Array Operand} {tys:Array TypeId} {a b:Operand}
theorem qzJ {s:List Nat} (hlen:s.length<=1099511627776) (hop:o.op=.call ⟨.builtin .append,args,tys⟩:=by rfl) (ha:args.toList=[a,b]:=by rfl) (ht:tys.toList=[75,9]:=by rfl)
  (hv:qk2 o.dst frz=true:=by rfl) (h7:rd a=.d .nilsl:=by rfl) (h8:rd b=.d (.str s):=by rfl) :
  qax Et H frz rd objs o=some (.vs objs.length 1 0 s.length,some (objs++[qkT s]),true):=by
 obtain⟨dst,op,ty,pos,after,guard⟩:=o;simp only at hop hv;subst hop;have h1:Et.get? 75=some qxC:=rfl;have h2:Et.get? 9=some ty9:=rfl;have h3:Et.get? 5=some ty5:=rfl;have hm:Nat.ble (s.length*1) 1099511627776=true:=Nat.ble_eq_true_of_le (by omega);have h4:qeK Et ty5 9 (.d (.str s)) objs=some (1,s.map fun(n:Nat)=>.int .u8 n):=rfl;have h5:=qqN s;simp only [qax,ha,ht,hv,qdd,h1,qxC,qfY,h3,h7,h8,h4];simp only [ty5,qpe,List.length_map,h5,hm]
 rfl
theorem qyQ {s l:List Nat} {i n:Nat} (hlen:(l++s).length<=1099511627776) (hop:o.op=.call ⟨.builtin .append,args,tys⟩:=by rfl) (ha:args.toList=[a,b]:=by rfl) (ht:tys.toList=[75,9]:=by rfl)
  (hv:qk2 o.dst frz=true:=by rfl) (h7:rd a=.vs i 1 0 n:=by rfl) (h8:rd b=.d (.str s):=by rfl) (hn:n=l.length:=by rfl) (h9:objs[i]?=some (qkT l):=by rfl) :
  qax Et H frz rd objs o=some (.vs objs.length 1 0 (l++s).length,some (objs.set i .gone++[qkT (l++s)]),true):=by
 obtain⟨dst,op,ty,pos,after,guard⟩:=o;simp only at hop hv;subst hop hn;simp only [List.length_append] at hlen;have h1:Et.get? 75=some qxC:=rfl;have h2:Et.get? 9=some ty9:=rfl;have h3:Et.get? 5=some ty5:=rfl;have hm:Nat.ble ((l.length+s.length)*1) 1099511627776=true:=Nat.ble_eq_true_of_le (by omega);have hb:Nat.ble l.length l.length=true:=Nat.ble_eq_true_of_le (Nat.le_refl _);have h4:qeK Et ty5 9 (.d (.str s)) objs=some (1,s.map fun(n:Nat)=>.int .u8 n):=rfl;have h5:=qqN s;have h6:(byV l).take (l.length*1)++byV s=byV (l++s):=by rw [Nat.mul_one,List.take_of_length_le (by simp),byV,byV,byV,List.map_append]
 have h10:(l++s).length=l.length+s.length:=List.length_append;simp only [qax,ha,ht,hv,qdd,h1,qxC,qfY,h3,h7,h8,h4,h9];simp only [ty5,qpe,List.length_map,h5,hm,hb,h6,qkT,h10]
 rfl
end
theorem qA1 (s:List Nat) (hs:s.length<=1099511627776):ACall Tryz.prog 198 [.bp 0 0,.d (.str s)] [qyl 136] (.tup [.d (.int .i64 s.length),.d .niliface]) [bld 136 0 1 s.length,qkT s]:=by
 have w:Fz [65550]:=trivial;refine qaf qak (fnB Tryz.func198 [65550]) rfl rfl ?_
 repeat refine zG ?_
 iterate 2 refine zX ?_
 repeat refine zG ?_
 refine zX ?_;refine RunOps.call (by rfl) (by rfl) (qzq _) (by rfl) (by rfl) ?_
 repeat refine zG ?_
 iterate 6 refine zX ?_
 refine oV ?_ (hv:=qzJ hs);iterate 3 refine zX ?_
 repeat refine zG ?_
 iterate 4 refine zX ?_
 repeat refine zG ?_
 refine Yt ?_;exact⟨trivial,rfl,rfl⟩
theorem qAD (l s:List Nat) (hs:(l++s).length<=1099511627776):ACall Tryz.prog 198 [.bp 0 0,.d (.str s)] [bld 136 0 1 l.length,qkT l] (.tup [.d (.int .i64 s.length),.d .niliface]) [bld 136 0 2 (l++s).length,.gone,qkT (l++s)]:=by
 have w:Fz [65550]:=trivial;refine qaf qak (fnB Tryz.func198 [65550]) rfl rfl ?_
 repeat refine zG ?_
 iterate 2 refine zX ?_
 repeat refine zG ?_
 refine zX ?_;refine RunOps.call (by rfl) (by rfl) (qyM _ _ _) (by rfl) (by rfl) ?_
 repeat refine zG ?_
 iterate 6 refine zX ?_
 refine oV ?_ (hv:=qyQ hs);iterate 3 refine zX ?_
 repeat refine zG ?_
 iterate 4 refine zX ?_
 repeat refine zG ?_
 refine Yt ?_;exact⟨trivial,rfl,rfl⟩
section
variable {H:Hd} {frz:List Nat} {rd:Operand->AV} {objs:List Ob} {o:Oper} {args:Array Operand} {tys:Array TypeId} {a b:Operand}
theorem qxJ {i sz n:Nat} (h0:0<n) (hop:o.op=.call ⟨.builtin .unsafeSliceData,args,tys⟩:=by rfl) (ha:args.toList=[a]:=by rfl) (ht:tys.toList=[75]:=by rfl) (h7:rd a=.vs i sz 0 n:=by rfl) :
  qax Et H frz rd objs o=some (.bp i 0,none,true):=by
 obtain⟨dst,op,ty,pos,after,guard⟩:=o;simp only at hop;subst hop;have hlt:Nat.blt 0 n=true:=by rw [Nat.blt_eq];exact h0
 show((qca Et rd objs (.call ⟨.builtin .unsafeSliceData,args,tys⟩)).map fun p=>(p.1,none,p.2.2))=_
 simp only [qca,ha,ht,qdu,h7,hlt]
 rfl
theorem qzT {l:List Nat} {i n:Nat} (h0:0<l.length) (hb:∀ x ∈ l,x<256) (hop:o.op=.call ⟨.builtin .unsafeString,args,tys⟩:=by rfl) (ha:args.toList=[a,b]:=by rfl) (ht:tys.toList=[211,3]:=by rfl)
  (h7:rd a=.bp i 0:=by rfl) (h8:rd b=.d (.int .i64 (n:Nat)):=by rfl) (hn:n=l.length:=by rfl) (h9:objs[i]?=some (qkT l):=by rfl) :
  qax Et H frz rd objs o=some (.d (.str l),some (objs.set i .gone),true):=by
 obtain⟨dst,op,ty,pos,after,guard⟩:=o;simp only at hop;subst hop hn;have h1:Et.get? 211=some qv1:=rfl;have hB:qi5 Et 5=true:=rfl;have hle:Nat.ble l.length l.length=true:=Nat.ble_eq_true_of_le (Nat.le_refl _);have hbb:qhG ((byV l).take l.length)=some l:=by rw [List.take_of_length_le (by simp)];exact qp0 hb
 have hd:decide ((0:Int)<(l.length:Nat))=true:=by rw [decide_eq_true_eq];omega
 show((qca Et rd objs (.call ⟨.builtin .unsafeString,args,tys⟩)).map fun p=>(p.1,some p.2.1,p.2.2))=_
 simp only [qca,ha,ht,qfF,h7,h8,h1,qv1,h9,qkT,hB,hle,hbb,hd,Int.toNat_natCast]
 rfl
end
theorem qzc (l:List Nat) (h0:0<l.length) (hb:∀ x ∈ l,x<256):ACall Tryz.prog 113 [.bp 0 0] [bld 136 0 1 l.length,qkT l] (.d (.str l)) [bld 136 0 1 l.length,.gone]:=by
 have w:Fz []:=trivial;refine qaf qak (fnB Tryz.func113 []) rfl rfl ?_
 repeat refine zG ?_
 refine zX ?_
 repeat refine zG ?_
 iterate 4 refine eX ?_
 refine eX ?_ (hv:=qxJ h0);iterate 5 refine eX ?_
 refine eX ?_ (hv:=qzT h0 hb);refine eX ?_;refine eN ?_
 repeat refine zG ?_
 refine Yt ?_;exact⟨trivial,rfl,rfl⟩
def stB (T:TypeId) (k:Nat) (l:List Nat):List Ob:=bld T 0 (k+1) l.length :: (List.replicate k .gone++[qkT l])
theorem qgY (T:TypeId) (k:Nat) (l:List Nat):(stB T k l).length=k+2:=by simp [stB]
theorem qi0 (T:TypeId) (k:Nat) (l:List Nat):(stB T k l)[k+1]?=some (qkT l):=by
 simp only [stB,List.getElem?_cons_succ];rw [List.getElem?_append_right (by simp)];simp
theorem qgX (T:TypeId) (k p:Nat) (l:List Nat) (h0:0<p) (hp:p<k+1):(stB T k l)[p]?=some .gone:=by
 obtain⟨q,rfl⟩:∃ q,p=q+1:=⟨p-1,by omega⟩
 simp only [stB,List.getElem?_cons_succ];rw [List.getElem?_append_left (by simp;omega),List.getElem?_replicate,if_pos (by omega)]
theorem qxc (ρ:Nat->Nat) (l:List Nat):(byV l).map (reA ρ 8)=byV l:=by
 rw [byV,List.map_map];rfl
theorem qiM (n:Nat) (l:List Nat):(byV l).all (okA n 8)=true:=by
 rw [List.all_eq_true];intro x hx;simp only [byV,List.mem_map] at hx;obtain⟨y,_,rfl⟩:=hx;rfl
theorem qet (ρ:Nat->Nat) (l:List Nat):reO ρ (qkT l)=qkT l:=by
 show Ob.vec _ _ _ _ ((byV l).map (reA ρ 8))=_
 rw [qxc]
theorem qAf (k:Nat) (l s:List Nat) (hs:(l++s).length<=1099511627776):ACall Tryz.prog 198 [.bp 0 0,.d (.str s)] (stB 136 k l) (.tup [.d (.int .i64 s.length),.d .niliface]) (stB 136 (k+1) (l++s)):=by
 have hlen:=qgY 136 k l;have h:=(qAD l s hs).embed rfl (Big:=stB 136 k l) (Big':=stB 136 (k+1) (l++s)) (pos:=[0,k+1]) rfl (by simp) (fun i ob hi=>?_) ?_ rfl ?_ (fun p hp hn=>?_) (fun i ob hi=>?_)
 .exact h
 .match i with
  |0=>simp at hi;subst hi;exact⟨0,rfl,rfl⟩
  |1=>simp at hi;subst hi;exact⟨k+1,rfl,by rw [qet];exact qi0 _ _ _⟩
  |i+2=>simp at hi
 .simp only [List.all_cons,List.all_nil,Bool.and_true,Bool.and_eq_true]
  exact⟨rfl,qiM _ _⟩
 .rw [hlen,qgY];rfl
 .simp only [List.mem_cons,List.not_mem_nil,or_false,not_or] at hn
  rw [qgX _ _ _ _ (by omega) (by omega),qgX _ _ _ _ (by omega) (by omega)]
 .match i with
  |0=>obtain rfl:=Option.some.inj hi;rw [hlen];rfl
  |1=>obtain rfl:=Option.some.inj hi;exact qgX 136 (k+1) (k+1) (l++s) (by omega) (by omega)
  |2 =>
   obtain rfl:=Option.some.inj hi;rw [qet,hlen];exact qi0 136 (k+1) (l++s)
  |i+3=>simp at hi
theorem qy7 (k:Nat) (l:List Nat) (h0:0<l.length) (hb:∀ x ∈ l,x<256):ACall Tryz.prog 113 [.bp 0 0] (stB 136 k l) (.d (.str l)) (bld 136 0 (k+1) l.length :: List.replicate (k+1) .gone):=by
 have hlen:=qgY 136 k l;have h:=(qzc l h0 hb).embed rfl (Big:=stB 136 k l) (Big':=bld 136 0 (k+1) l.length :: List.replicate (k+1) .gone) (pos:=[0,k+1]) rfl (by simp) (fun i ob hi=>?_) ?_ rfl ?_ (fun p hp hn=>?_) (fun i ob hi=>?_)
 .exact h
 .match i with
  |0=>simp at hi;subst hi;exact⟨0,rfl,rfl⟩
  |1=>simp at hi;subst hi;exact⟨k+1,rfl,by rw [qet];exact qi0 _ _ _⟩
  |i+2=>simp at hi
 .simp only [List.all_cons,List.all_nil,Bool.and_true,Bool.and_eq_true]
  exact⟨rfl,qiM _ _⟩
 .rw [hlen];simp
 .simp only [List.mem_cons,List.not_mem_nil,or_false,not_or] at hn
  obtain⟨q,rfl⟩:∃ q,p=q+1:=⟨p-1,by omega⟩
  rw [qgX _ _ _ _ (by omega) (by omega),List.getElem?_cons_succ,List.getElem?_replicate,if_pos (by omega)]
 .match i with
  |0=>simp at hi;subst hi;rfl
  |1=>simp at hi;subst hi;simp [qfP,reO]
  |i+2=>simp at hi
theorem qAM (k:Nat) (l:List Nat) (ss:List (List Nat)) (hs:(l++ss.flatten).length<=1099511627776) (hl:ss.length<=1099511627776):ACall Tryz.prog 111 [.bp 0 0,.d (qao ss)] (stB 136 k l) (.tup []) (stB 136 (k+ss.length) (l++ss.flatten)):=by
 have w:Fz []:=trivial;refine qaf qak (fnB Tryz.func111 []) rfl rfl ?_
 repeat refine zG ?_
 iterate 3 refine zX ?_
 repeat refine zG ?_
 refine Run.loop (fun i:Nat=>⟨PT.ofList [(0,.bp 0 0),(6,.d (qao ss)),(7,.d (.int .i64 ss.length)),(8,.d (.int .i64 i))],stB 136 (k+i) (l++(ss.take i).flatten),[]⟩) (fun i=>i<=ss.length) (fun i=>ss.length-i) 0 (Nat.zero_le _) (qb4 (by simp) rfl ⟨rfl,rfl,congrArg (fun n:Nat=>some (AV.d (.int .i64 (n:Int)))) (List.length_map ..),rfl,trivial⟩) (fun i hi=>?_)
 repeat refine zG ?_
 refine zX ?_
 repeat refine zG ?_
 refine Run.cond (by rfl) (fun h=>?_) (fun h=>?_)
 .have hlt:i<ss.length:=by simpa using h
  obtain⟨x,hx⟩:=qai hlt;have hf:(ss.take (i+1)).flatten=(ss.take i).flatten++x:=by rw [List.take_add_one,hx];simp
  have hle:((ss.take (i+1)).flatten).length<=ss.flatten.length:=by
   conv=>rhs;rw [<- List.take_append_drop (i+1) ss,List.flatten_append]
   simp
  rw [hf] at hle;simp only [List.length_append] at hle hs
  repeat refine zG ?_
  first|refine oV (v:=.d (.ep [.str x])) ?_ (hf:=(by first|(simp [inB]<;>fail)|(simp [inB];omega))) (he:=(by first|(simp [List.getD_eq_getElem?_getD,qam,hx]<;>fail)|fail))|refine eX (v:=.d (.ep [.str x])) ?_ (hf:=(by first|(simp [inB]<;>fail)|(simp [inB];omega))) (he:=(by first|(simp [List.getD_eq_getElem?_getD,qam,hx]<;>fail)|fail))
  iterate 2 refine zX ?_
  repeat refine zG ?_
  iterate 4 refine zX ?_
  refine RunOps.call (by rfl) (by rfl) (qAf (k+i) (l++(ss.take i).flatten) x (by simp only [List.length_append];omega)) (by rfl) (by rfl) ?_
  repeat refine zG ?_
  refine zX ?_;refine oV (v:=.d (.int .i64 (i+1:Nat))) ?_ (he:=congrArg (fun n=>AV.d (.int .i64 n)) (qaT (n:=i+1) (by omega)))
  repeat refine zG ?_
  exact⟨i+1,hlt,by omega,qb4 (by rw [hf,List.append_assoc];rfl) rfl ⟨rfl,rfl,rfl,rfl,trivial⟩⟩
 .have hge:i=ss.length:=by simp at h;omega
  subst hge
  repeat refine zG ?_
  refine⟨trivial,?_,rfl⟩
  show some ((none:Option DV),stB 136 (k+ss.length) (l++(ss.take ss.length).flatten))=_
  rw [List.take_length]
def stF (T:TypeId) (ss:List (List Nat)):Nat->List Ob
 |0=>[qyl T]
 |i+1=>stB T i (ss.take (i+1)).flatten
theorem qAS (s:List Nat) (ss:List (List Nat)) (hs:((s :: ss).flatten).length<=1099511627776) (hl:(s :: ss).length<=1099511627776):ACall Tryz.prog 111 [.bp 0 0,.d (qao (s :: ss))] [qyl 136] (.tup []) (stB 136 ss.length (s :: ss).flatten):=by
 have w:Fz []:=trivial;have hend:stF 136 (s :: ss) (s :: ss).length=stB 136 ss.length (s :: ss).flatten:=by
  show stB _ _ ((s :: ss).take (s :: ss).length).flatten=_
  rw [List.take_length]
 rw [<- hend];generalize hss:s :: ss=l at *;refine qaf qak (fnB Tryz.func111 []) rfl rfl ?_
 repeat refine zG ?_
 iterate 3 refine zX ?_
 repeat refine zG ?_
 refine Run.loop (fun i:Nat=>⟨PT.ofList [(0,.bp 0 0),(6,.d (qao l)),(7,.d (.int .i64 l.length)),(8,.d (.int .i64 i))],stF 136 l i,[]⟩) (fun i=>i<=l.length) (fun i=>l.length-i) 0 (Nat.zero_le _) (qb4 rfl rfl ⟨rfl,rfl,congrArg (fun n:Nat=>some (AV.d (.int .i64 (n:Int)))) (List.length_map ..),rfl,trivial⟩) (fun i hi=>?_)
 repeat refine zG ?_
 refine zX ?_
 repeat refine zG ?_
 refine Run.cond (by rfl) (fun h=>?_) (fun h=>?_)
 .have hlt:i<l.length:=by simpa using h
  obtain⟨x,hx⟩:=qai hlt;have hf:(l.take (i+1)).flatten=(l.take i).flatten++x:=by rw [List.take_add_one,hx];simp
  have hle:((l.take (i+1)).flatten).length<=l.flatten.length:=by
   conv=>rhs;rw [<- List.take_append_drop (i+1) l,List.flatten_append]
   simp
  have hA:ACall Tryz.prog 198 [.bp 0 0,.d (.str x)] (stF 136 l i) (.tup [.d (.int .i64 x.length),.d .niliface]) (stF 136 l (i+1)):=by
   cases i with
   |zero =>
    have hx0:(l.take (0+1)).flatten=x:=by rw [hf];simp
    have h:=qA1 x (by rw [hf] at hle;simp only [List.length_append] at hle;omega)
    show ACall _ _ _ [qyl _] _ (stB _ 0 (l.take (0+1)).flatten)
    rw [hx0];exact h
   |succ j =>
    have h:=qAf j (l.take (j+1)).flatten x (by rw [<- hf];omega)
    show ACall _ _ _ (stB _ j _) _ (stB _ (j+1) (l.take (j+1+1)).flatten)
    rw [hf];exact h
  repeat refine zG ?_
  first|refine oV (v:=.d (.ep [.str x])) ?_ (hf:=(by first|(simp [inB]<;>fail)|(simp [inB];omega))) (he:=(by first|(simp [List.getD_eq_getElem?_getD,qam,hx]<;>fail)|fail))|refine eX (v:=.d (.ep [.str x])) ?_ (hf:=(by first|(simp [inB]<;>fail)|(simp [inB];omega))) (he:=(by first|(simp [List.getD_eq_getElem?_getD,qam,hx]<;>fail)|fail))
  iterate 2 refine zX ?_
  repeat refine zG ?_
  iterate 4 refine zX ?_
  refine RunOps.call (by rfl) (by rfl) hA (by rfl) (by rfl) ?_
  repeat refine zG ?_
  refine zX ?_;refine oV (v:=.d (.int .i64 (i+1:Nat))) ?_ (he:=congrArg (fun n=>AV.d (.int .i64 n)) (qaT (n:=i+1) (by omega)))
  repeat refine zG ?_
  exact⟨i+1,hlt,by omega,qb4 rfl rfl ⟨rfl,rfl,rfl,rfl,trivial⟩⟩
 .have hge:i=l.length:=by simp at h;omega
  subst hge
  repeat refine zG ?_
  exact⟨trivial,rfl,rfl⟩
abbrev prB (l:List Nat) (rest:List Ob):List Ob:=bld 136 0 1 l.length :: qkT l :: rest
abbrev prO (q:Nat) (l:List Nat) (rest:List Ob):List Ob:=bld 136 0 (rest.length+2+q) l.length :: .gone :: (rest++(List.replicate q .gone++[qkT l]))
theorem qnJ (q:Nat) (l:List Nat) (rest:List Ob):(prO q l rest)[rest.length+2+q]?=some (qkT l):=by
 rw [show rest.length+2+q=(rest.length+q)+1+1 by omega];simp only [prO,List.getElem?_cons_succ];rw [List.getElem?_append_right (by omega),List.getElem?_append_right (by simp)]
 simp
theorem qsz (q p:Nat) (l:List Nat) (rest:List Ob) (hp:p<q):(prO q l rest)[rest.length+2+p]?=some .gone:=by
 rw [show rest.length+2+p=(rest.length+p)+1+1 by omega];simp only [prO,List.getElem?_cons_succ];rw [List.getElem?_append_right (by omega),List.getElem?_append_left (by simp;omega),List.getElem?_replicate,if_pos (by omega)]
theorem qAQ (l:List Nat) (ss:List (List Nat)) (q:Nat) (rest:List Ob) (hq:ss.length=q+1) (hs:(l++ss.flatten).length<=1099511627776) (hl:q<=1000) :
  ACall Tryz.prog 111 [.bp 0 0,.d (qao ss)] (prB l rest) (.tup []) (prO q (l++ss.flatten) rest):=by
 have h:=(qAM 0 l ss hs (by omega)).embed rfl (Big:=prB l rest) (Big':=prO q (l++ss.flatten) rest) (pos:=[0,1]) rfl (by simp) (fun i ob hi=>?_) ?_ rfl ?_ (fun p hp hn=>?_) (fun i ob hi=>?_)
 .exact h
 .match i with
  |0=>obtain rfl:=Option.some.inj hi;exact⟨0,rfl,rfl⟩
  |1=>obtain rfl:=Option.some.inj hi;exact⟨1,rfl,by rw [qet];rfl⟩
  |i+2=>cases hi
 .show(okO 2 (bld _ 0 1 l.length) && (okO 2 (qkT l) && true))=true
  rw [show okO 2 (qkT l)=true from qiM _ _];rfl
 .rw [qgY,hq];simp [qgY];omega
 .simp only [List.mem_cons,List.not_mem_nil,or_false,not_or] at hn
  obtain⟨p',rfl⟩:∃ p',p=p'+1+1:=⟨p-2,by omega⟩
  simp only [prO,prB,List.getElem?_cons_succ];rw [List.getElem?_append_left (by simp at hp;omega)]
 .have hB:(prB l rest).length=rest.length+2:=by simp
  rw [hq] at hi;have hlen:=qgY 136 (0+(q+1)) (l++ss.flatten);have hil:i<0+(q+1)+2:=by rw [<- hlen];exact(List.getElem?_eq_some_iff.1 hi).1
  match i with
  |0 =>
   obtain rfl:=Option.some.inj hi;rw [hB]
   show some (bld _ 0 (rest.length+2+q) _)=some (bld _ 0 (rest.length+2+(0+(q+1)+1-2)) _)
   rw [show 0+(q+1)+1-2=q by omega]
  |1 =>
   rw [qgX _ _ _ _ (by omega) (by omega)] at hi;obtain rfl:=Option.some.inj hi
   rfl
  |i+2 =>
   have hat:qfP [0,1] (prB l rest).length (i+2)=rest.length+2+i:=by rw [hB];rfl
   rw [hat];rcases Nat.lt_or_ge i q with h1|h1
   .rw [qgX _ _ _ _ (by omega) (by omega)] at hi
    obtain rfl:=Option.some.inj hi;exact qsz q i _ rest h1
   .have:i=q:=by omega
    subst this;rw [show i+2=(0+(i+1))+1 by omega,qi0] at hi;obtain rfl:=Option.some.inj hi;rw [qet];exact qnJ i _ rest
theorem qzY {tm:PT AV} {q:Nat} {l l':List Nat} (cs:List DV) (ts:List (Nat × AV)) (he:l=l') (h:qlt (qjG [0,1+2+q,2]) 3 tm ts):qhU 0 ⟨tm,prO q l [.box (cs.map .d)],[]⟩ ⟨PT.ofList ts,prB l' [.box (cs.map .d)],[]⟩:=by
 subst he;refine⟨ts,[0,1+2+q,2],prB l [.box (cs.map .d)],rfl,rfl,rfl,by simp;omega,fun k hk=>by omega,fun k ob hk=>?_,h⟩
 match k with
 |0=>obtain rfl:=Option.some.inj hk;exact⟨rfl,0,rfl,rfl⟩
 |1=>obtain rfl:=Option.some.inj hk;exact⟨qiM _ _,_,rfl,by rw [qet];exact qnJ q l _⟩
 |2 =>
  obtain rfl:=Option.some.inj hk;refine⟨?_,2,rfl,?_⟩
  .show(cs.map AV.d).all (okA _ 8)=true
   rw [List.all_eq_true];intro x hx;simp only [List.mem_map] at hx;obtain⟨y,_,rfl⟩:=hx;rfl
  .show some (Ob.box (cs.map .d))=some (Ob.box ((cs.map AV.d).map (reA _ 8)))
   rw [List.map_map];rfl
 |k+3=>cases hk
theorem qAj {tm:PT AV} {q:Nat} {l l':List Nat} {b:Ob} (ts:List (Nat × AV)) (he:l=l') (h:qlt (qjG [0,1+2+q]) 2 tm ts):qhU 0 ⟨tm,prO q l [b],[]⟩ ⟨PT.ofList ts,prB l' [],[]⟩:=by
 subst he;refine⟨ts,[0,1+2+q],prB l [],rfl,rfl,rfl,by simp;omega,fun k hk=>by omega,fun k ob hk=>?_,h⟩
 match k with
 |0=>obtain rfl:=Option.some.inj hk;exact⟨rfl,0,rfl,rfl⟩
 |1=>obtain rfl:=Option.some.inj hk;exact⟨qiM _ _,_,rfl,by rw [qet];exact qnJ q l [b]⟩
 |k+2=>cases hk
theorem qAT {tm:PT AV} {q:Nat} {l l':List Nat} (ts:List (Nat × AV)) (he:l=l') (h:qlt (qjG [0,q+1]) 2 tm ts):qhU 0 ⟨tm,stB 136 q l,[]⟩ ⟨PT.ofList ts,prB l' [],[]⟩:=by
 subst he;refine⟨ts,[0,q+1],prB l [],rfl,rfl,rfl,by simp,fun k hk=>by omega,fun k ob hk=>?_,h⟩
 match k with
 |0=>obtain rfl:=Option.some.inj hk;exact⟨rfl,0,rfl,rfl⟩
 |1=>obtain rfl:=Option.some.inj hk;exact⟨qiM _ _,_,rfl,by rw [qet];exact qi0 _ q l⟩
 |k+2=>cases hk
theorem qxp {tm:PT AV} {l l':List Nat} (cs:List DV) (ts:List (Nat × AV)) (he:l=l') (h:qlt (qjG [0,1,2]) 3 tm ts):qhU 0 ⟨tm,prB l [.box (cs.map .d)],[]⟩ ⟨PT.ofList ts,prB l' [.box (cs.map .d)],[]⟩:=by
 subst he;refine⟨ts,[0,1,2],prB l [.box (cs.map .d)],rfl,rfl,rfl,by simp,fun k hk=>by omega,fun k ob hk=>?_,h⟩
 match k with
 |0=>obtain rfl:=Option.some.inj hk;exact⟨rfl,0,rfl,rfl⟩
 |1=>obtain rfl:=Option.some.inj hk;exact⟨qiM _ _,1,rfl,by rw [qet];rfl⟩
 |2 =>
  obtain rfl:=Option.some.inj hk;refine⟨?_,2,rfl,?_⟩
  .show(cs.map AV.d).all (okA _ 8)=true
   rw [List.all_eq_true];intro x hx;simp only [List.mem_map] at hx;obtain⟨y,_,rfl⟩:=hx;rfl
  .show some (Ob.box (cs.map .d))=some (Ob.box ((cs.map AV.d).map (reA _ 8)))
   rw [List.map_map];rfl
 |k+3=>cases hk
end Go.Av
end
namespace Go.Proofs
open Go.Shelf
def Tryz.lays156_ren:Go.Shelf.Ren:=⟨fun|156=>112|165=>199|166=>198|169=>113|240=>234|241=>235|276=>258|277=>259|n=>n,fun|31=>22|9=>9|3=>3|4=>4|0=>0|20=>20|72=>134|76=>208|70=>132|37=>75|75=>207|127=>211|164=>257|5=>5|80=>139|n=>n,fun|n=>n⟩
theorem Tryz.lays156:Go.Proofs.Lays.n156 Tryz.prog Tryz.lays156_ren:={
 mixed:=by kernel_rfl
 f156:=Tryz.func112.trans (congrArg some (by kernel_rfl))
 f165:=Tryz.func199.trans (congrArg some (by kernel_rfl))
 f166:=Tryz.func198.trans (congrArg some (by kernel_rfl))
 f169:=Tryz.func113.trans (congrArg some (by kernel_rfl))
 f240:=Tryz.func234.trans (congrArg some (by kernel_rfl))
 f241:=Tryz.func235.trans (congrArg some (by kernel_rfl))
 f276:=Tryz.func258.trans (congrArg some (by kernel_rfl))
 f277:=Tryz.func259.trans (congrArg some (by kernel_rfl))
 t0:=Tryz.underlying0
 a0:=Tryz.isAgg0
 z0:=Tryz.sizeOf0
 v0:=Tryz.zeroValue0
 t3:=Tryz.underlying3
 a3:=Tryz.isAgg3
 z3:=Tryz.sizeOf3
 v3:=Tryz.zeroValue3
 t4:=Tryz.underlying4
 a4:=Tryz.isAgg4
 z4:=Tryz.sizeOf4
 v4:=Tryz.zeroValue4
 t9:=Tryz.underlying9
 a9:=Tryz.isAgg9
 z9:=Tryz.sizeOf9
 v9:=Tryz.zeroValue9
 t20:=Tryz.underlying20
 a20:=Tryz.isAgg20
 z20:=Tryz.sizeOf20
 v20:=Tryz.zeroValue20
 t31:=Tryz.underlying22
 a31:=Tryz.isAgg22
 z31:=Tryz.sizeOf22
 v31:=Tryz.zeroValue22
 t37:=Tryz.underlying75
 a37:=Tryz.isAgg75
 z37:=Tryz.sizeOf75
 v37:=Tryz.zeroValue75
 t70:=Tryz.underlying132
 a70:=Tryz.isAgg132
 z70:=Tryz.sizeOf132
 v70:=Tryz.zeroValue132
 t72:=Tryz.underlying134
 a72:=Tryz.isAgg134
 z72:=Tryz.sizeOf134
 v72:=Tryz.zeroValue134
 t75:=Tryz.underlying207
 a75:=Tryz.isAgg207
 z75:=Tryz.sizeOf207
 v75:=Tryz.zeroValue207
 t76:=Tryz.underlying208
 a76:=Tryz.isAgg208
 z76:=Tryz.sizeOf208
 v76:=Tryz.zeroValue208
 t127:=Tryz.underlying211
 a127:=Tryz.isAgg211
 z127:=Tryz.sizeOf211
 v127:=Tryz.zeroValue211
 t164:=Tryz.underlying257
 a164:=Tryz.isAgg257
 z164:=Tryz.sizeOf257
 v164:=Tryz.zeroValue257 }
theorem Tryz.Builder_Extra_156:Builder.Extra Tryz.prog Tryz.lays156_ren:={
 sizeBuilder:=by kernel_rfl
 liesBuilder:=by kernel_rfl
 t5:=Tryz.underlying5
 a5:=Tryz.isAgg5
 z5:=Tryz.sizeOf5
 v5:=Tryz.zeroValue5
 infoByte:=by kernel_rfl
 cellsByte:=by kernel_rfl
 sizeByte:=by kernel_rfl
 neB5:=by decide }
open Go.RowKit in
theorem Tryz.strings_Join_none (a:Option Addr) (c:Nat) (sep:ByteArray) (w:World) :
  Calls Tryz.prog 112 #[.slice a 0 c,.string sep] w fun e w'=>e=.returned (.string ⟨#[]⟩)/\w'=w:=Any.strings_Join_none Tryz.lays156 Tryz.Builder_Extra_156 a c sep w
open Go.RowKit in
theorem Tryz.strings_Join (bk o c:Nat) (xs:List ByteArray) (sep:ByteArray) (w:World) (hcells:∀ (j:Nat) x,xs[j]?=some x->w.cell? ⟨bk,o+j,none⟩=some (.string x)) (hbk:bk<w.heap.size) (hN:xs.length<=140737488355328) (hcap:xs.length<=c) (hlen:(Lib.join (xs.map (·.data.toList)) sep.data.toList).length<=140737488355328) :
  Calls Tryz.prog 112 #[.slice (some ⟨bk,o,none⟩) xs.length c,.string sep] w fun e w'=>e=.returned (.string ⟨(Lib.join (xs.map (·.data.toList)) sep.data.toList).toArray⟩)/\Below w.heap.size w w':=Any.strings_Join Tryz.lays156 Tryz.Builder_Extra_156 bk o c xs sep w hcells hbk hN hcap hlen
end Go.Proofs
noncomputable section
namespace Go.Av
open Go Go.Proofs
set_option maxRecDepth 10000
theorem Step.below {D:qay} {β:List Bi} {objs:List Ob} {w w':World} (hp:Heap D β objs w) (h:Go.RowKit.Below w.heap.size w w'):Step D β objs w D β objs w' :=
 Step.ext hp h.block h.size h.os h.tape h.output (fun _ _ h=>h) (fun ad v h0 h2=>by rw [h2] at h0;cases h0)
theorem qmw {D:qay}:∀ (ss:List (List Nat)) (vs:List Value),vs.length=ss.length->(∀ (j:Nat) c v,(ss.map DV.str)[j]?=some c->vs[j]?=some v->RepD D c v) ->
  ∃ xs:List ByteArray,vs=xs.map Value.string/\ss=xs.map fun b=>b.data.toList.map UInt8.toNat
 |[],vs,hl,_=>⟨[],by simpa using hl,rfl⟩
 |s :: ss,[],hl,_=>by simp at hl
 |s :: ss,v :: vs,hl,h=>by
  obtain⟨xs,h1,h2⟩:=qmw ss vs (by simpa using hl) fun j c v hc hv=>h (j+1) c v (by simpa using hc) (by simpa using hv);have h0:=h 0 (.str s) v rfl rfl;cases h0 with
  |@str _ b hb=>exact⟨b :: xs,by simp [h1],by rw [h2];simp [hb]⟩
theorem qrd {α β:Type} (f:α->β) (sep:List α) (l:List (List α)):(List.intercalate sep l).map f=List.intercalate (sep.map f) (l.map (·.map f)):=by
 simp only [List.intercalate];rw [List.map_flatten]
 congr 1
 induction l with
 |nil=>rfl
 |cons a l ih =>
  cases l with
  |nil=>rfl
  |cons b l=>simp only [List.intersperse,List.map_cons] at ih |-;rw [ih]
theorem qzv (ss:List (List Nat)) (sep:List Nat) (hn:ss.length<=1099511627776) (hl:(List.intercalate sep ss).length<=1099511627776):qaa Tryz.prog 112 [qao ss,.str sep] (.d (.str (List.intercalate sep ss))):=by
 intro o;refine⟨qep Tryz.func112 (by kernel_rfl) rfl,fun D β w vs hp hr=>?_⟩;obtain⟨v0,v1,rfl,h0,h1⟩:∃ v0 v1,vs=#[v0,v1]/\RepD D (qao ss) v0/\RepD D (.str sep) v1:=by
  obtain⟨l⟩:=vs;obtain⟨h1,h2⟩:=hr
  match l,h1 with
  |[a,b],_ =>
   refine⟨a,b,rfl,?_,?_⟩
   .have:=h2 0 _ a rfl rfl
    cases this with|d h=>exact h
   .have:=h2 1 _ b rfl rfl
    cases this with|d h=>exact h
 have fl:∀ l:List (List Nat),qav (l.map DV.str)=l.map DV.str:=fun l=>by
  induction l with
  |nil=>rfl
  |cons a l ih=>simp only [qav,List.map_cons,List.flatMap_cons,qam] at ih |-;rw [ih];rfl
 cases h1 with
 |@str _ b hb =>
  generalize hes:ss.map DV.str=es at h0;cases h0 with
  |@sl _ _ a cap us hc hm hsz hnn hv hD hrr =>
   subst hes;rw [fl] at hv hrr;obtain⟨xs,e1,e2⟩:=qmw ss us (by simpa using hv) hrr;have hxl:xs.length=ss.length:=by rw [e2];simp
   have hres:∀ ys:List (List UInt8),(List.intercalate b.data.toList ys).map UInt8.toNat=List.intercalate sep (ys.map (·.map UInt8.toNat)):=fun ys=>by rw [qrd,hb]
   have hin:(Lib.join (xs.map (·.data.toList)) b.data.toList).map UInt8.toNat=List.intercalate sep ss:=by
    rw [show Lib.join (xs.map (·.data.toList)) b.data.toList=List.intercalate b.data.toList (xs.map (·.data.toList)) from rfl,hres,e2,List.map_map];rfl
   cases ss with
   |nil =>
    have hx0:xs=[]:=List.length_eq_zero_iff.1 (by simpa using hxl);refine(callsIn_wide (n:=0)).2 ((Tryz.strings_Join_none a cap b w).mono fun e w' he=>?_);obtain⟨rfl,rfl⟩:=he;exact .inl ⟨_,D,β,rfl,Step.refl hp,.d (.str rfl)⟩
   |cons s ss =>
    have hcl:(List.map DV.str (s :: ss)).length=xs.length:=by rw [hxl];simp
    cases a with
    |none=>have:=(hnn rfl).1;cases this
    |some ad =>
     obtain⟨hsp,hcell⟩:=hD ad rfl;have hpos:0<xs.length:=by rw [hxl];simp
     obtain⟨blk,off,spot⟩:=ad;have hspot:spot=none:=by
      rcases hsp with h|h
      .omega
      .exact h
     subst hspot;have hcells:∀ (j:Nat) x,xs[j]?=some x->w.cell? ⟨blk,off+j,none⟩=some (.string x):=fun j x hx=>hp.cell (hcell j _ (by rw [e1];simp [hx]));have hlt:blk<w.heap.size:=by
      have:=hp.D_lt (hcell 0 (.string xs[0]) (by rw [e1];simp [hpos]));exact this
     rw [hcl];refine(callsIn_wide (n:=0)).2 ((Tryz.strings_Join blk off cap xs b w hcells hlt (by omega) (by omega) (by have:=congrArg List.length hin;simp only [List.length_map] at this;omega)).mono fun e w' he=>?_);obtain⟨rfl,hbel⟩:=he;exact .inl ⟨_,D,β,rfl,Step.below hp hbel,.d (.str (by simp [hin]))⟩
def qd2 (a:List (List Nat)):List Nat:=a.flatMap fun s=>32 :: s
def qpu:Nat->List Nat
 |0=>[]
 |_+1=>[32,124]
def qb1 (al:List (List (List Nat))):Nat->List Nat
 |0=>[]
 |n+1=>qb1 al n++qpu n++qd2 (al.getD n [])
def qeQ (r:SRule):List Nat:=r.name++[32,61]++qb1 r.alts r.alts.length++[32,59,10]
def qfJ (x:Src):List Nat:=[108,111,111,107,97,104,101,97,100,32]++[48+x.k.toNat]++[59,10,116,111,107,101,110,32]++List.intercalate [44,32] x.tokens++[59,10,115,101,112,97,114,97,116,111,114,32]++x.sep++[59,10,115,116,97,114,116,32]++x.start++[59,10]
def qbF (x:Src) (n:Nat):List Nat:=(x.rules.take n).flatMap qeQ
def qaQ (x:Src):List Nat:=qfJ x++qbF x x.rules.length
theorem qhw {x:Src} {i:Nat} {r:SRule} (h:x.rules[i]?=some r):qbF x (i+1)=qbF x i++qeQ r:=by
 unfold qbF;rw [List.take_add_one,h];simp
theorem qp2 (x:Src) {i j:Nat} (h:i<=j):(qbF x i).length<=(qbF x j).length:=by
 unfold qbF;obtain⟨d,rfl⟩:∃ d,j=i+d:=⟨j-i,by omega⟩
 rw [List.take_add,List.flatMap_append,List.length_append];omega
theorem qqm (al:List (List (List Nat))) {i j:Nat} (h:i<=j):(qb1 al i).length<=(qb1 al j).length:=by
 induction j with
 |zero =>
  have:i=0:=by omega
  subst this;exact Nat.le_refl _
 |succ j ih =>
  rcases Nat.lt_or_ge i (j+1) with h1|h1
  .have:=ih (by omega)
   simp only [qb1,List.length_append];omega
  .have:i=j+1:=by omega
   subst this;exact Nat.le_refl _
def qjt (a:List (List Nat)) (n:Nat):List Nat:=qd2 (a.take n)
theorem qpN {a:List (List Nat)} {i:Nat} {s:List Nat} (h:a[i]?=some s):qjt a (i+1)=qjt a i++(32 :: s):=by
 unfold qjt qd2;rw [List.take_add_one,h];simp
theorem qsJ (a:List (List Nat)) (i:Nat):(qjt a i).length<=(qd2 a).length:=by
 unfold qjt qd2
 conv=>rhs;rw [<- List.take_append_drop i a,List.flatMap_append,List.length_append]
 omega
def qhL (x:Src):List (List Nat):=[[108,111,111,107,97,104,101,97,100,32],[48+x.k.toNat],[59,10,116,111,107,101,110,32],List.intercalate [44,32] x.tokens,[59,10,115,101,112,97,114,97,116,111,114,32],x.sep,[59,10,115,116,97,114,116,32],x.start,[59,10]]
theorem qjq (x:Src):(qhL x).flatten=qfJ x:=by simp [qhL,qfJ]
theorem qyk {l l':List Nat} (ss:List (List Nat)) (q:Nat) (rest:List Ob) (he:l++ss.flatten=l') (hq:ss.length=q+1) (hs:l'.length<=1099511627776) (hl:q<=1000) :
  ACall Tryz.prog 111 [.bp 0 0,.d (qao ss)] (prB l rest) (.tup []) (prO q l' rest):=by
 subst he;exact qAQ l ss q rest hq hs hl
theorem qwz (x:Src) (hf:qde x) (ht:(qbz x).length<=1048576) (h0:qa0 x=0) (hp:(qaQ x).length<=1099511627776) (hb:∀ c ∈ qaQ x,c<256) :
  qaa Tryz.prog 31 [qfO x] (.tup [.d (.str (qaQ x)),.d (.int .i64 0)]):=by
 have hk:x.k=1\/x.k=2\/x.k=3\/x.k=4:=by
  have hn:¬ (x.k<1\/4<x.k):=fun h=>by rw [qk0 h] at h0;cases h0
  omega
 have e1:AV.d (.int .i64 (IntKind.i64.wrap (48+x.k)))=.d (.int .i64 (48+x.k)):=by rcases hk with h|h|h|h<;>rw [h]<;>rfl
 have e2:AV.d (.int .u8 (IntKind.u8.wrap (48+x.k)))=.d (.int .u8 (48+x.k)):=by rcases hk with h|h|h|h<;>rw [h]<;>rfl
 have e3:AV.d (.str [(48+x.k).toNat % 256])=.d (.str [48+x.k.toNat]):=by rcases hk with h|h|h|h<;>rw [h]<;>rfl
 have hc:=qoL x hf ht;rw [h0] at hc;have hpl:(qaQ x).length=(qfJ x).length+(qbF x x.rules.length).length:=by simp [qaQ]
 have hjl:(List.intercalate [44,32] x.tokens).length<=1099511627776:=by
  simp only [qfJ,List.length_append] at hpl;omega
 have htl:=hf.tokens;have hrls:=hf.rules;refine kF Tryz.func31 [1,24,33,45,58,68,73] fun w=>?_
 repeat refine zG ?_
 iterate 3 refine zX ?_
 repeat refine zG ?_
 refine zX ?_;refine oC hc ?_;refine zX ?_
 repeat refine zG ?_
 iterate 2 refine zX ?_
 repeat refine zG ?_
 iterate 3 refine zX ?_
 repeat refine zG ?_
 iterate 3 refine eX ?_
 refine eX (v:=.d (.int .i64 (48+x.k))) ?_ (he:=e1);refine eX (v:=.d (.int .u8 (48+x.k))) ?_ (he:=e2);refine eX ?_;refine eX (v:=.d (.str [48+x.k.toNat])) ?_ (he:=e3);iterate 2 refine eX ?_
 refine eC (qzv x.tokens [44,32] (by omega) hjl) ?_;iterate 4 refine eX ?_
 refine eX (v:=.d (qao (qhL x))) (v':=.d (qao (qhL x))) (ob:=none) (fl:=true) ?_ (hv:=by kernel_rfl) (he:=rfl);refine EvD.callO (by rfl) (by rfl) (by rfl) (qAS _ (qhL x).tail ?_ (by simp [qhL])) (by rfl) (by rfl) ?_
 .show((qhL x).flatten).length<=_
  rw [qjq];omega
 refine eN ?_
 repeat refine zG ?_
 iterate 4 refine zX ?_
 repeat refine zG ?_
 refine Run.loopR (fun i:Nat=>⟨PT.ofList [(1,qbK x),(5,.bp 0 0),(36,.d (.sl 2 (x.rules.map qbV))),(37,.d (.int .i64 (x.rules.map qbV).length)),(38,.d (.int .i64 i))],prB (qfJ x++qbF x i) [],[]⟩) (fun i=>i<=x.rules.length) (fun i=>x.rules.length-i) 0 (Nat.zero_le _) (qAT _ (show(qhL x).flatten=_ by rw [qjq];simp [qbF]) ⟨⟨rfl,rfl⟩,⟨rfl,rfl⟩,⟨rfl,rfl⟩,⟨rfl,rfl⟩,⟨rfl,rfl⟩,trivial⟩) (fun i hi=>?_)
 repeat refine zG ?_
 refine zX ?_
 repeat refine zG ?_
 refine Run.cond (by rfl) (fun h=>?_) (fun h=>?_)
 .have hlt:i<x.rules.length:=by simpa using h
  obtain⟨r,hr⟩:=qai hlt
  repeat refine zG ?_
  first|refine oV (v:=.d (.ep [.str r.name,alts r.alts])) ?_ (hf:=(by first|(simp [inB]<;>fail)|(simp [inB];omega))) (he:=(by first|(simp [List.getD_eq_getElem?_getD,qam,hr,qbV]<;>fail)|fail))|refine eX (v:=.d (.ep [.str r.name,alts r.alts])) ?_ (hf:=(by first|(simp [inB]<;>fail)|(simp [inB];omega))) (he:=(by first|(simp [List.getD_eq_getElem?_getD,qam,hr,qbV]<;>fail)|fail))
  iterate 3 refine zX ?_
  repeat refine zG ?_
  iterate 4 refine zX ?_
  have hRL:(qfJ x++qbF x i++qeQ r).length<=1099511627776:=by
   have h1:=qhw hr;have h2:=qp2 x (i:=i+1) (j:=x.rules.length) hlt;rw [List.append_assoc,<- h1,List.length_append];omega
  have hrm:=List.mem_of_getElem? hr;have hal:=hf.alts r hrm;have hRl:(qeQ r).length=r.name.length+2+(qb1 r.alts r.alts.length).length+3:=by simp [qeQ];omega
  rw [List.length_append] at hRL;generalize hB:qfJ x++qbF x i=B at *;refine RunOps.call (by rfl) (by rfl) (qyk (l:=B) (l':=B++r.name++[32,61]) [r.name,[32,61]] 1 [.box ([.str r.name,alts r.alts].map .d)] (by simp) rfl (by simp only [List.length_append,List.length_cons,List.length_nil];omega) (by omega)) (by rfl) (by rfl) ?_;refine RunOps.relab (qzY [.str r.name,alts r.alts] [(1,qbK x),(5,.bp 0 0),(36,.d (.sl 2 (x.rules.map qbV))),(37,.d (.int .i64 (x.rules.map qbV).length)),(38,.d (.int .i64 i)),(7,.bp 2 0)] rfl ⟨⟨rfl,rfl⟩,⟨rfl,rfl⟩,⟨rfl,rfl⟩,⟨rfl,rfl⟩,⟨rfl,rfl⟩,⟨rfl,rfl⟩,trivial⟩) ?_
  repeat refine zG ?_
  iterate 4 refine zX ?_
  repeat refine zG ?_
  refine Run.loopR (fun k:Nat=>⟨PT.ofList [(1,qbK x),(5,.bp 0 0),(36,.d (.sl 2 (x.rules.map qbV))),(37,.d (.int .i64 (x.rules.map qbV).length)),(38,.d (.int .i64 i)),(7,.bp 2 0),(48,.d (alts r.alts)),(49,.d (.int .i64 (r.alts.map qao).length)),(50,.d (.int .i64 k))],prB (B++r.name++[32,61]++qb1 r.alts k) [.box ([.str r.name,alts r.alts].map .d)],[]⟩) (fun k=>k<=r.alts.length) (fun k=>r.alts.length-k) 0 (Nat.zero_le _) (qxp [.str r.name,alts r.alts] _ (by simp [qb1]) ⟨⟨rfl,rfl⟩,⟨rfl,rfl⟩,⟨rfl,rfl⟩,⟨rfl,rfl⟩,⟨rfl,rfl⟩,⟨rfl,rfl⟩,⟨rfl,rfl⟩,⟨rfl,rfl⟩,⟨rfl,rfl⟩,trivial⟩) (fun k hk=>?_)
  repeat refine zG ?_
  refine zX ?_
  repeat refine zG ?_
  refine Run.cond (by rfl) (fun h=>?_) (fun h=>?_)
  .have hklt:k<r.alts.length:=by simpa using h
   obtain⟨a,ha⟩:=qai hklt;have ham:=List.mem_of_getElem? ha;have hanl:=hf.names r hrm a ham;have hgd:r.alts.getD k []=a:=by rw [List.getD_eq_getElem?_getD,ha];rfl
   have hnext:qb1 r.alts (k+1)=qb1 r.alts k++qpu k++qd2 a:=by rw [<- hgd];rfl
   have hkl:=qqm r.alts (i:=k+1) (j:=r.alts.length) hklt;rw [hnext] at hkl;simp only [List.length_append] at hkl
   repeat refine zG ?_
   refine zX ?_
   first|refine oV (v:=.d (.ep [qao a])) ?_ (hf:=(by first|(simp [inB]<;>fail)|(simp [inB];omega))) (he:=(by first|(simp [List.getD_eq_getElem?_getD,qam,ha]<;>fail)|fail))|refine eX (v:=.d (.ep [qao a])) ?_ (hf:=(by first|(simp [inB]<;>fail)|(simp [inB];omega))) (he:=(by first|(simp [List.getD_eq_getElem?_getD,qam,ha]<;>fail)|fail))
   iterate 3 refine zX ?_
   repeat refine zG ?_
   iterate 2 refine zX ?_
   repeat refine zG ?_
   refine Run.mono (K:=fun e s1=>e=.normal/\qhU 0 s1 ⟨PT.ofList [(1,qbK x),(5,.bp 0 0),(36,.d (.sl 2 (x.rules.map qbV))),(37,.d (.int .i64 (x.rules.map qbV).length)),(38,.d (.int .i64 i)),(7,.bp 2 0),(48,.d (alts r.alts)),(49,.d (.int .i64 (r.alts.map qao).length)),(50,.d (.int .i64 k)),(9,.d (qao a))],prB (B++r.name++[32,61]++qb1 r.alts k++qpu k) [.box ([.str r.name,alts r.alts].map .d)],[]⟩) ?_ (fun e s1 hk1=>?_)
   .rcases k with _|k
    .repeat refine zG ?_
     exact⟨rfl,qxp [.str r.name,alts r.alts] _ (by simp [qpu]) ⟨⟨rfl,rfl⟩,⟨rfl,rfl⟩,⟨rfl,rfl⟩,⟨rfl,rfl⟩,⟨rfl,rfl⟩,⟨rfl,rfl⟩,⟨rfl,rfl⟩,⟨rfl,rfl⟩,⟨rfl,rfl⟩,⟨rfl,rfl⟩,trivial⟩⟩
    .have hb2:(qpu (k+1)).length=2:=rfl
     refine Run.cond (by rfl) (fun h1=>?_) (fun h1=>?_)
     .repeat refine zG ?_
      iterate 2 refine zX ?_
      refine RunOps.call (by rfl) (by rfl) (qyk (l':=B++r.name++[32,61]++qb1 r.alts (k+1)++qpu (k+1)) [[32,124]] 0 [.box ([.str r.name,alts r.alts].map .d)] (by simp [qpu]) rfl (by simp only [List.length_append,List.length_cons,List.length_nil];omega) (by omega)) (by rfl) (by rfl) ?_
      repeat refine zG ?_
      exact⟨rfl,qzY [.str r.name,alts r.alts] _ rfl ⟨⟨rfl,rfl⟩,⟨rfl,rfl⟩,⟨rfl,rfl⟩,⟨rfl,rfl⟩,⟨rfl,rfl⟩,⟨rfl,rfl⟩,⟨rfl,rfl⟩,⟨rfl,rfl⟩,⟨rfl,rfl⟩,⟨rfl,rfl⟩,trivial⟩⟩
     .exfalso;simp at h1
   .obtain⟨rfl,hk1⟩:=hk1
    refine Run.relab hk1 ?_
    repeat refine zG ?_
    iterate 3 refine zX ?_
    repeat refine zG ?_
    refine Run.loopR (fun j:Nat=>⟨PT.ofList [(1,qbK x),(5,.bp 0 0),(36,.d (.sl 2 (x.rules.map qbV))),(37,.d (.int .i64 (x.rules.map qbV).length)),(38,.d (.int .i64 i)),(7,.bp 2 0),(48,.d (alts r.alts)),(49,.d (.int .i64 (r.alts.map qao).length)),(50,.d (.int .i64 k)),(9,.d (qao a)),(60,.d (qao a)),(61,.d (.int .i64 (a.map DV.str).length)),(62,.d (.int .i64 j))],prB (B++r.name++[32,61]++qb1 r.alts k++qpu k++qjt a j) [.box ([.str r.name,alts r.alts].map .d)],[]⟩) (fun j=>j<=a.length) (fun j=>a.length-j) 0 (Nat.zero_le _) (qxp [.str r.name,alts r.alts] _ (by simp [qjt,qd2]) ⟨⟨rfl,rfl⟩,⟨rfl,rfl⟩,⟨rfl,rfl⟩,⟨rfl,rfl⟩,⟨rfl,rfl⟩,⟨rfl,rfl⟩,⟨rfl,rfl⟩,⟨rfl,rfl⟩,⟨rfl,rfl⟩,⟨rfl,rfl⟩,⟨rfl,rfl⟩,⟨rfl,rfl⟩,⟨rfl,rfl⟩,trivial⟩) (fun j hj=>?_)
    repeat refine zG ?_
    refine zX ?_
    repeat refine zG ?_
    refine Run.cond (by rfl) (fun h=>?_) (fun h=>?_)
    .have hjlt:j<a.length:=by simpa using h
     obtain⟨s,hsj⟩:=qai hjlt;have hsu:=qpN hsj;have hjl:=qsJ a (j+1);rw [hsu,List.length_append] at hjl
     repeat refine zG ?_
     first|refine oV (v:=.d (.ep [.str s])) ?_ (hf:=(by first|(simp [inB]<;>fail)|(simp [inB];omega))) (he:=(by first|(simp [List.getD_eq_getElem?_getD,qam,hsj]<;>fail)|fail))|refine eX (v:=.d (.ep [.str s])) ?_ (hf:=(by first|(simp [inB]<;>fail)|(simp [inB];omega))) (he:=(by first|(simp [List.getD_eq_getElem?_getD,qam,hsj]<;>fail)|fail))
     iterate 2 refine zX ?_
     repeat refine zG ?_
     iterate 3 refine zX ?_
     refine RunOps.call (by rfl) (by rfl) (qyk (l':=B++r.name++[32,61]++qb1 r.alts k++qpu k++qjt a j++(32 :: s)) [[32],s] 1 [.box ([.str r.name,alts r.alts].map .d)] (by simp) rfl (by simp only [List.length_append,List.length_cons,List.length_nil] at hjl |-;omega) (by omega)) (by rfl) (by rfl) ?_;refine RunOps.relab (qzY [.str r.name,alts r.alts] [(1,qbK x),(5,.bp 0 0),(36,.d (.sl 2 (x.rules.map qbV))),(37,.d (.int .i64 (x.rules.map qbV).length)),(38,.d (.int .i64 i)),(7,.bp 2 0),(48,.d (alts r.alts)),(49,.d (.int .i64 (r.alts.map qao).length)),(50,.d (.int .i64 k)),(9,.d (qao a)),(60,.d (qao a)),(61,.d (.int .i64 (a.map DV.str).length)),(62,.d (.int .i64 j))] (by rw [List.append_assoc _ (qjt a j),<- hsu]) ⟨⟨rfl,rfl⟩,⟨rfl,rfl⟩,⟨rfl,rfl⟩,⟨rfl,rfl⟩,⟨rfl,rfl⟩,⟨rfl,rfl⟩,⟨rfl,rfl⟩,⟨rfl,rfl⟩,⟨rfl,rfl⟩,⟨rfl,rfl⟩,⟨rfl,rfl⟩,⟨rfl,rfl⟩,⟨rfl,rfl⟩,trivial⟩) ?_
     repeat refine zG ?_
     refine zX ?_;refine oV (v:=.d (.int .i64 (j+1:Nat))) ?_ (he:=congrArg (fun n=>AV.d (.int .i64 n)) (qaT (n:=j+1) (by omega)))
     repeat refine zG ?_
     exact⟨j+1,hjlt,by omega,qxp [.str r.name,alts r.alts] _ rfl ⟨⟨rfl,rfl⟩,⟨rfl,rfl⟩,⟨rfl,rfl⟩,⟨rfl,rfl⟩,⟨rfl,rfl⟩,⟨rfl,rfl⟩,⟨rfl,rfl⟩,⟨rfl,rfl⟩,⟨rfl,rfl⟩,⟨rfl,rfl⟩,⟨rfl,rfl⟩,⟨rfl,rfl⟩,⟨rfl,rfl⟩,trivial⟩⟩
    .have hge:j=a.length:=by simp at h;omega
     subst hge;have hta:qjt a a.length=qd2 a:=by rw [qjt,List.take_length]
     repeat refine zG ?_
     refine zX ?_;refine oV (v:=.d (.int .i64 (k+1:Nat))) ?_ (he:=congrArg (fun n=>AV.d (.int .i64 n)) (qaT (n:=k+1) (by omega)))
     repeat refine zG ?_
     exact⟨k+1,hklt,by omega,qxp [.str r.name,alts r.alts] _ (by rw [hta,hnext];simp only [List.append_assoc]) ⟨⟨rfl,rfl⟩,⟨rfl,rfl⟩,⟨rfl,rfl⟩,⟨rfl,rfl⟩,⟨rfl,rfl⟩,⟨rfl,rfl⟩,⟨rfl,rfl⟩,⟨rfl,rfl⟩,⟨rfl,rfl⟩,trivial⟩⟩
  .have hge:k=r.alts.length:=by simp at h;omega
   subst hge;have hru:B++qeQ r=qfJ x++qbF x (i+1):=by rw [qhw hr,<- hB,List.append_assoc]
   repeat refine zG ?_
   iterate 2 refine zX ?_
   refine RunOps.call (by rfl) (by rfl) (qyk (l':=B++qeQ r) [[32,59,10]] 0 [.box ([.str r.name,alts r.alts].map .d)] (by simp [qeQ]) rfl (by rw [List.length_append];omega) (by omega)) (by rfl) (by rfl) ?_
   repeat refine zG ?_
   refine zX ?_;refine oV (v:=.d (.int .i64 (i+1:Nat))) ?_ (he:=congrArg (fun n=>AV.d (.int .i64 n)) (qaT (n:=i+1) (by omega)))
   repeat refine zG ?_
   exact⟨i+1,hlt,by omega,qAj _ hru ⟨⟨rfl,rfl⟩,⟨rfl,rfl⟩,⟨rfl,rfl⟩,⟨rfl,rfl⟩,⟨rfl,rfl⟩,trivial⟩⟩
 .have hge:i=x.rules.length:=by simp at h;omega
  subst hge
  repeat refine zG ?_
  iterate 3 refine zX ?_
  refine RunOps.call (by rfl) (by rfl) (qy7 0 (qaQ x) (by simp [qaQ,qfJ]) hb) (by rfl) (by rfl) ?_;iterate 2 refine zX ?_
  repeat refine zG ?_
  refine Yt ?_;exact rT rfl
def qwn:Nat->List Nat
 |0=>[]
 |_+1=>[44,32]
def qfN (l:List (List Nat)):Nat->List Nat
 |0=>[]
 |n+1=>qfN l n++qwn n++l.getD n []
theorem qkp (sep a:List Nat):∀ l:List (List Nat),l≠[]->List.intercalate sep (l++[a])=List.intercalate sep l++sep++a
 |[],h=>absurd rfl h
 |[x],_=>by simp [List.intercalate,List.intersperse]
 |x :: y :: l,_=>by
  have ih:=qkp sep a (y :: l) (by simp);simp only [List.intercalate,List.cons_append,List.intersperse,List.flatten_cons,List.append_assoc] at ih |-;rw [ih]
theorem qdV (l:List (List Nat)):∀ n,n<=l.length->qfN l n=List.intercalate [44,32] (l.take n)
 |0,_=>by simp [qfN,List.intercalate]
 |n+1,h=>by
  have ih:=qdV l n (by omega);have hg:l[n]?=some l[n]:=by simp [h]
  have hd:l.getD n []=l[n]:=by rw [List.getD_eq_getElem?_getD,hg];rfl
  rw [qfN,ih,hd,List.take_add_one,hg];cases n with
  |zero=>simp [List.intercalate,qwn]
  |succ n =>
   have hne:l.take (n+1)≠[]:=by
    intro e;have hl:=congrArg List.length e;rw [List.length_take] at hl;simp only [List.length_nil] at hl;omega
   rw [show(some l[n+1]).toList=[l[n+1]] from rfl,qkp _ _ _ hne];rfl
structure LightX (x:Src):Prop where
 tokens:x.tokens.length<=12/\∀ s ∈ x.tokens,s.length<=40
 sep:x.sep.length<=40
 start:x.start.length<=40
 rules:x.rules.length<=12
 names:∀ r ∈ x.rules,r.name.length<=40/\r.alts.length<=30/\∀ a ∈ r.alts,a.length<=12/\∀ s ∈ a,s.length<=40
theorem LightX.fits {x:Src} (h:LightX x):qde x where
 tokens:=by have:=h.tokens.1;omega
 rules:=by have:=h.rules;omega
 alts r hr:=by have:=(h.names r hr).2.1;omega
 names r hr a ha:=by have:=((h.names r hr).2.2 a ha).1;omega
 sep:=by have:=h.sep;omega
 start:=by have:=h.start;omega
 tokenS s hs:=by have:=h.tokens.2 s hs;omega
 ruleS r hr:=by have:=(h.names r hr).1;omega
 nameS r hr a ha s hs:=by have:=((h.names r hr).2.2 a ha).2 s hs;omega
theorem qdy {α:Type} {n:Nat}:∀ {l:List (List α)},(∀ a ∈ l,a.length<=n)->l.flatten.length<=l.length*n
 |[],_=>by simp
 |a :: l,h=>by
  have h1:=h a List.mem_cons_self;have h2:=qdy (l:=l) fun b hb=>h b (List.mem_cons_of_mem _ hb);rw [List.flatten_cons,List.length_append,List.length_cons,Nat.succ_mul];omega
theorem LightX.inner {x:Src} (h:LightX x):(qbz x).length<=1048576:=by
 have h1:(qbz x).length<=(x.rules.map fun r=>r.alts.flatten).length*360:=by
  unfold qbz;rw [List.flatMap_def];refine qdy fun a ha=>?_;obtain⟨r,hr,rfl⟩:=List.mem_map.1 ha;have h2:=qdy (l:=r.alts) (n:=12) fun a ha=>((h.names r hr).2.2 a ha).1;have:=(h.names r hr).2.1;omega
 have:=h.rules;rw [List.length_map] at h1;omega
theorem qg9 {l:List (List Nat)} {B:Nat} (h:∀ s ∈ l,s.length<=B):∀ n,(qfN l n).length<=n*(2+B)
 |0=>by simp [qfN]
 |n+1=>by
  have ih:=qg9 h n;have hs:(qwn n).length<=2:=by cases n<;>simp [qwn]
  have hd:(l.getD n []).length<=B:=by
   rw [List.getD_eq_getElem?_getD];cases hg:l[n]? with
   |none=>simp
   |some s=>exact h s (List.mem_of_getElem? hg)
  simp only [qfN,List.length_append];rw [Nat.succ_mul];omega
theorem qoy {a:List (List Nat)} {B:Nat} (h:∀ s ∈ a,s.length<=B):(qd2 a).length<=a.length*(B+1):=by
 unfold qd2;rw [List.flatMap_def];have:=qdy (l:=a.map fun s=>32 :: s) (n:=B+1) fun u hu=>by
  obtain⟨s,hs,rfl⟩:=List.mem_map.1 hu;have:=h s hs;simp only [List.length_cons];omega
 rwa [List.length_map] at this
theorem qhe {al:List (List (List Nat))} {B:Nat} (h:∀ a ∈ al,(qd2 a).length<=B):∀ n,(qb1 al n).length<=n*(2+B)
 |0=>by simp [qb1]
 |n+1=>by
  have ih:=qhe h n;have hs:(qpu n).length<=2:=by cases n<;>simp [qpu]
  have hd:(qd2 (al.getD n [])).length<=B:=by
   rw [List.getD_eq_getElem?_getD];cases hg:al[n]? with
   |none=>simp [qd2]
   |some s=>exact h s (List.mem_of_getElem? hg)
  simp only [qb1,List.length_append];rw [Nat.succ_mul];omega
theorem LightX.print {x:Src} (h:LightX x):(qaQ x).length<=1099511627776:=by
 have h1:(List.intercalate [44,32] x.tokens).length<=x.tokens.length*42:=by
  have:=qdV x.tokens x.tokens.length (Nat.le_refl _);rw [List.take_length] at this;rw [<- this];exact qg9 h.tokens.2 _
 have h2:(qbF x x.rules.length).length<=x.rules.length*20000:=by
  unfold qbF;rw [List.take_length,List.flatMap_def];have:=qdy (l:=x.rules.map qeQ) (n:=20000) fun u hu=>by
   obtain⟨r,hr,rfl⟩:=List.mem_map.1 hu;obtain⟨g1,g2,g3⟩:=h.names r hr;have g4:=qhe (al:=r.alts) (B:=492) (fun a ha=>by
    have:=qoy (a:=a) (B:=40) (g3 a ha).2;have:=(g3 a ha).1;omega) r.alts.length
   simp only [qeQ,List.length_append,List.length_cons,List.length_nil];omega
  rwa [List.length_map] at this
 have:=h.tokens.1;have:=h.rules;have:=h.sep;have:=h.start;simp only [qaQ,qfJ,List.length_append,List.length_cons,List.length_nil];omega
structure ByteX (x:Src):Prop where
 tokens:∀ s ∈ x.tokens,∀ c ∈ s,c<256
 sep:∀ c ∈ x.sep,c<256
 start:∀ c ∈ x.start,c<256
 rules:∀ r ∈ x.rules,∀ c ∈ r.name,c<256
 names:∀ r ∈ x.rules,∀ a ∈ r.alts,∀ s ∈ a,∀ c ∈ s,c<256
theorem qmr {l:List (List Nat)} (h:∀ s ∈ l,∀ c ∈ s,c<256):∀ n,∀ c ∈ qfN l n,c<256
 |0,c,hc=>by simp [qfN] at hc
 |n+1,c,hc=>by
  simp only [qfN,List.mem_append] at hc;rcases hc with(hc|hc)|hc
  .exact qmr h n c hc
  .cases n with
   |zero=>simp [qwn] at hc
   |succ n=>simp [qwn] at hc;omega
  .rw [List.getD_eq_getElem?_getD] at hc
   cases hg:l[n]? with
   |none=>rw [hg] at hc;simp at hc
   |some s=>rw [hg] at hc;exact h s (List.mem_of_getElem? hg) c hc
theorem qvl {a:List (List Nat)} (h:∀ s ∈ a,∀ c ∈ s,c<256):∀ c ∈ qd2 a,c<256:=by
 intro c hc;simp only [qd2,List.mem_flatMap,List.mem_cons] at hc;obtain⟨s,hs,rfl|hc⟩:=hc
 .omega
 .exact h s hs c hc
theorem qmg {al:List (List (List Nat))} (h:∀ a ∈ al,∀ s ∈ a,∀ c ∈ s,c<256):∀ n,∀ c ∈ qb1 al n,c<256
 |0,c,hc=>by simp [qb1] at hc
 |n+1,c,hc=>by
  simp only [qb1,List.mem_append] at hc;rcases hc with(hc|hc)|hc
  .exact qmg h n c hc
  .cases n with
   |zero=>simp [qpu] at hc
   |succ n=>simp [qpu] at hc;omega
  .refine qvl (a:=al.getD n []) (fun s hs c hc=>?_) c hc
   rw [List.getD_eq_getElem?_getD] at hs;cases hg:al[n]? with
   |none=>rw [hg] at hs;simp at hs
   |some a=>rw [hg] at hs;exact h a (List.mem_of_getElem? hg) s hs c hc
theorem ByteX.head {x:Src} (h:ByteX x) (hk:x.k<=4):∀ c ∈ qfJ x,c<256:=by
 have hj:=qdV x.tokens x.tokens.length (Nat.le_refl _);rw [List.take_length] at hj;intro c hc;simp only [qfJ,List.mem_append] at hc;rcases hc with(((((((hc|hc)|hc)|hc)|hc)|hc)|hc)|hc)|hc
 .simp at hc;omega
 .simp at hc;omega
 .simp at hc;omega
 .rw [<- hj] at hc;exact qmr h.tokens _ c hc
 .simp at hc;omega
 .exact h.sep c hc
 .simp at hc;omega
 .exact h.start c hc
 .simp at hc;omega
theorem ByteX.print {x:Src} (h:ByteX x) (hk:x.k<=4):∀ c ∈ qaQ x,c<256:=by
 intro c hc;rcases List.mem_append.1 (show c ∈ qfJ x++qbF x x.rules.length from hc) with hc|hc
 .exact h.head hk c hc
 .simp only [qbF,List.take_length,List.mem_flatMap] at hc
  obtain⟨r,hr,hc⟩:=hc;simp only [qeQ,List.mem_append] at hc;rcases hc with((hc|hc)|hc)|hc
  .exact h.rules r hr c hc
  .simp at hc;omega
  .exact qmg (h.names r hr) _ c hc
  .simp at hc;omega
def qo0 (x:Src):List Nat:=if qa0 x=0 then qaQ x else []
theorem qv0 (x:Src) (hf:qde x) (ht:(qbz x).length<=1048576) (hp:(qaQ x).length<=1099511627776) (hb:ByteX x) :
  qaa Tryz.prog 31 [qfO x] (.tup [.d (.str (qo0 x)),.d (.int .i64 (qa0 x))]):=by
 by_cases h0:qa0 x=0
 .have hk:x.k<=4:=by
   have hn:¬ (x.k<1\/4<x.k):=fun h=>by rw [qk0 h] at h0;cases h0
   omega
  rw [show qo0 x=qaQ x from if_pos h0,h0];exact qwz x hf ht h0 hp (hb.print hk)
 .have cc:=qoL x hf ht
  rw [show qo0 x=[] from if_neg h0];generalize qa0 x=c at cc h0 |-;refine kF Tryz.func31 [1] fun w=>?_
  repeat' (first|refine zW ?_|refine zB ?_ ?_<;>intro h<;>try exact zk h|refine zC (cc) ?_|rfl|((exfalso;first|(simp_all<;>fail)|(simp_all;omega)))|fail)
abbrev qjy:Ob:=.box [.d (.int .i64 0),.d .nilsl,.d (.str []),.d (.str []),.d .nilsl]
def isS (n:Nat):Option (AV × Option (List Ob))->Bool
 |some (.d (.str [m]),none)=>Nat.beq m n
 |_=>false
theorem qm8 {s:List Nat} (h:qcS s=0):s.length<=12:=by
 unfold qcS at h;split at h
 .omega
 .unfold qea at h
  split at h
  .omega
  .split at h
   .omega
   .split at h
    .omega
    .omega
theorem qmp {s:List Nat} (h:qap s=true):s.length<=12:=by
 simp only [qap,Bool.and_eq_true,decide_eq_true_eq] at h;exact qm8 h.1
theorem qn5 {s:List Nat} (h:qae s=true):s.length<=12:=by
 simp only [qae,Bool.and_eq_true,decide_eq_true_eq] at h;exact qm8 h.1
structure OkG (g:qaH):Prop where
 k:1<=g.k/\g.k<=4
 tokens:g.tokens.length<=8
 tokenS:∀ s ∈ g.tokens,s.length<=12
 sep:g.sep.length<=12
 names:g.names.length<=8
 nameS:∀ s ∈ g.names,s.length<=12
 start:16<=g.start/\g.start<24
 prods:g.prods.length<=24
 left:∀ p ∈ g.prods,16<=p.left/\p.left<16+g.names.length
 right:∀ p ∈ g.prods,p.right.length<=6
 syms:∀ p ∈ g.prods,∀ s ∈ p.right,(0<=s/\s<g.tokens.length)\/(16<=s/\s<16+g.names.length)
theorem qdS {g:qaH} (h:qaM g=0):OkG g:=by
 unfold qaM at h;split at h
 .omega
 rename_i hk;split at h
 .exact absurd h (by assumption)
 rename_i hm;have hm:qc0 g=0:=Classical.byContradiction hm;split at h
 .omega
 split at h
 .exact absurd h (by assumption)
 rename_i hn;have hn:qct g=0:=Classical.byContradiction hn;have hnz:qb6 g=0:=by
  unfold qct at hn;split at hn
  .omega
  .exact hn
 obtain⟨hs1,hs2⟩:=qfx hnz;unfold qco at h;split at h
 .rename_i hso
  obtain⟨hst,hps⟩:=hso;have h1:g.tokens.length<=8:=by
   rcases Nat.lt_or_ge 8 g.tokens.length with hh|hh
   .rw [qsW hh] at hm;cases hm
   .exact hh
  have h2:g.names.length<=8:=by
   rcases Nat.lt_or_ge 8 g.names.length with hh|hh
   .rw [qtk hh] at hm;cases hm
   .exact hh
  have h3:g.prods.length<=24:=by
   rcases Nat.lt_or_ge 24 g.prods.length with hh|hh
   .rw [qsy hh] at hm;cases hm
   .exact hh
  have h4:∀ p ∈ g.prods,p.right.length<=6:=fun p hp=>by
   obtain⟨i,hi,rfl⟩:=List.getElem_of_mem hp;rcases Nat.lt_or_ge 6 g.prods[i].right.length with hh|hh
   .rw [qsC (i:=i) (by simp [hi]) hh] at hm;cases hm
   .exact hh
  simp only [qaK,Bool.and_eq_true,decide_eq_true_eq] at hst;refine⟨by omega,h1,fun s hs=>qmp (hs1 s (by simp [qaz,hs])),qmp (hs1 g.sep (by simp [qaz])),h2,fun s hs=>qn5 (hs2 s hs),by omega,h3,fun p hp=>?_,h4,fun p hp s hs=>?_⟩
  .have:=(hps p hp).1
   simp only [qaK,Bool.and_eq_true,decide_eq_true_eq] at this;omega
  .have:=(hps p hp).2 s hs
   simp only [qfq,qek,qaK,Bool.or_eq_true,Bool.and_eq_true,decide_eq_true_eq] at this;omega
 .cases h
def qjC (g:qaH) (r:Nat):List (List (List Nat)):=(qdG g (16+r)).map fun p=>(g.prods.getD p ⟨0,[]⟩).right.map (nameS g)
def qqe (g:qaH) (r:Nat):SRule:=⟨g.names.getD r [],qjC g r⟩
def qcH (g:qaH):Src:=⟨g.k,g.tokens,g.sep,nameS g g.start,(List.range g.names.length).map (qqe g)⟩
def x0:Src:=⟨0,[],[],[],[]⟩
def qyc (g:qaH):Src:=if qaM g=0 then qcH g else x0
theorem qzN:DvN (.agg [.int .i64 0,.nilsl,.str [],.str [],.nilsl]) (qfO x0) :=
 .agg rfl fun j x y hx hy=>by
  match j with
  |0|2|3=>simp [x0] at hx hy;subst hx hy;exact .refl
  |1|4=>simp [x0,qao] at hx hy;subst hx hy;exact .nil
  |j+5=>simp at hx
theorem qhD {g:qaH} (h:OkG g) {s:Int} (hs:(0<=s/\s<g.tokens.length)\/(16<=s/\s<16+g.names.length)):qcq g s=some (nameS g s):=by
 have:∃ x,qcq g s=some x:=by
  have:=h.tokens;unfold qcq;rcases hs with⟨h1,h2⟩|⟨h1,h2⟩
  .rw [if_neg (by omega),if_pos h1]
   exact qai (by omega)
  .rw [if_pos h1]
   exact qai (by omega)
 obtain⟨x,hx⟩:=this;rw [hx,qh7 hx]
theorem qkB {g:qaH} (h0:qaM g=0):qcq g g.start=some (nameS g g.start):=by
 have hv:=qdS h0;refine qhD hv (.inr ⟨hv.start.1,?_⟩);have hso:qco g=0:=by
  unfold qaM at h0;split at h0
  .omega
  .split at h0
   .exact absurd h0 (by assumption)
   .split at h0
    .omega
    .split at h0
     .exact absurd h0 (by assumption)
     .exact h0
 unfold qco at hso;split at hso
 .rename_i hh
  have:=hh.1;simp only [qaK,Bool.and_eq_true,decide_eq_true_eq] at this;omega
 .cases hso
abbrev rmG (g:qaH):Ob:=.room (([]:List DV).length+(g.tokens.map DV.str).length) 1
abbrev qz7 (g:qaH) (st:List Nat) (rs:AV):Ob:=.box [.d (.int .i64 g.k),.sr 1 1 ([]++g.tokens.map DV.str),.d (.str g.sep),.d (.str st),rs]
theorem getD_some {α:Type} {l:List α} {i:Nat} {x d:α} (h:l[i]?=some x):l.getD i d=x:=by rw [List.getD_eq_getElem?_getD,h];rfl
def qfz (l:List qaV) (v:Int):Nat:=l.countP fun p=>decide (p.left<v)
theorem qmF (l:List qaV) (v:Int):qfz l v<=qfz l (v+1):=by
 refine List.countP_mono_left fun p _ h=>?_;simp only [decide_eq_true_eq] at h |-;omega
theorem qeg:∀ {l:List qaV},l.Pairwise (fun a b=>a.left<=b.left)->∀ (v:Int) (k:Nat) (p:qaV),l[k]?=some p->(p.left<v ↔ k<qfz l v)
 |[],_,v,k,p,h=>by simp at h
 |a :: l,hs,v,k,p,h=>by
  rw [List.pairwise_cons] at hs;have ih:=qeg hs.2 v;unfold qfz at ih |-;rw [List.countP_cons];by_cases ha:a.left<v
  .rw [if_pos (by simpa using ha)]
   cases k with
   |zero=>simp at h;subst h;simp [ha]
   |succ k=>rw [ih k p (by simpa using h)];omega
  .have hz:l.countP (fun p=>decide (p.left<v))=0:=by
    rw [List.countP_eq_zero];intro q hq;have:=hs.1 q hq;simp only [decide_eq_true_eq];omega
   rw [if_neg (by simpa using ha),hz];cases k with
   |zero=>simp at h;subst h;simp [ha]
   |succ k =>
    have:=hs.1 p (List.mem_of_getElem? (show l[k]?=some p by simpa using h));omega
theorem qes {g:qaH} (hs:g.prods.Pairwise (fun a b=>a.left<=b.left)) (s:Int):∀ i:Nat,i<=g.prods.length->qcB g s i=List.range' (min i (qfz g.prods s)) (min i (qfz g.prods (s+1))-min i (qfz g.prods s))
 |0,_=>by simp [qcB]
 |i+1,hi=>by
  obtain⟨p,hp⟩:=qai (show i<g.prods.length by omega);have ih:=qes hs s i (by omega);have h1:=qeg hs s i p hp;have h2:=qeg hs (s+1) i p hp;have hm:=qmF g.prods s;rw [qfs hp,ih];generalize qfz g.prods s=a at *;generalize qfz g.prods (s+1)=b at *;by_cases he:p.left=s
  .rw [if_pos he]
   have ha:a<=i:=by omega
   have hb:i<b:=by omega
   rw [show min i a=a by omega,show min (i+1) a=a by omega,show min i b=i by omega,show min (i+1) b=i+1 by omega,show i+1-a=(i-a)+1 by omega,List.range'_concat]
   congr 1
   simp;omega
  .rw [if_neg he,List.append_nil]
   rcases Nat.lt_or_ge i a with ha|ha
   .rw [show min i b-min i a=0 by omega,show min (i+1) b-min (i+1) a=0 by omega];rfl
   .have hb:b<=i:=by omega
    rw [show min (i+1) a=min i a by omega,show min (i+1) b=min i b by omega]
theorem qhF {g:qaH} (hs:g.prods.Pairwise (fun a b=>a.left<=b.left)) (s:Int):qdG g s=List.range' (qfz g.prods s) (qfz g.prods (s+1)-qfz g.prods s):=by
 have h1:qfz g.prods s<=g.prods.length:=List.countP_le_length;have h2:qfz g.prods (s+1)<=g.prods.length:=List.countP_le_length;rw [show qdG g s=qcB g s g.prods.length from rfl,qes hs s _ (Nat.le_refl _),Nat.min_eq_right h1,Nat.min_eq_right h2]
theorem qq7 {l:List qaV} (h:∀ (i:Nat) (p q:qaV),l[i]?=some p->l[i+1]?=some q->p.left<=q.left):l.Pairwise (fun a b=>a.left<=b.left):=by
 induction l with
 |nil=>exact .nil
 |cons a l ih =>
  have ht:l.Pairwise (fun a b=>a.left<=b.left):=ih fun i p q hp hq=>h (i+1) p q (by simpa using hp) (by simpa using hq);refine List.pairwise_cons.2 ⟨fun q hq=>?_,ht⟩;cases l with
  |nil=>cases hq
  |cons b l =>
   have hab:=h 0 a b rfl rfl;rcases List.mem_cons.1 hq with rfl|hq
   .exact hab
   .have:=(List.pairwise_cons.1 ht).1 q hq
    omega
theorem qdT {g:qaH} (h:qaM g=0):g.prods.Pairwise (fun a b=>a.left<=b.left):=by
 obtain⟨_,ho,_⟩:=qb3 (qbh h).2.2.2.2;refine qq7 fun i p q hp hq=>?_;rcases Int.lt_or_le q.left p.left with hl|hl
 .exact absurd ⟨i,p,q,hp,hq,hl⟩ ho
 .exact hl
theorem qnF {g:qaH} (h:qaM g=0):qfz g.prods 16=0:=by
 obtain⟨hs,_,_⟩:=qb3 (qbh h).2.2.2.2;rw [qfz,List.countP_eq_zero];intro p hp;have:=(hs.2 p hp).1;simp only [qaK,Bool.and_eq_true,decide_eq_true_eq] at this |-;omega
theorem qj3 {g:qaH} (h:qaM g=0):qfz g.prods (16+g.names.length)=g.prods.length:=by
 obtain⟨hs,_,_⟩:=qb3 (qbh h).2.2.2.2;rw [qfz,List.countP_eq_length];intro p hp;have:=(hs.2 p hp).1;simp only [qaK,Bool.and_eq_true,decide_eq_true_eq] at this |-;omega
theorem qjP {g:qaH} (h:qaM g=0) {i:Nat} (hi:i<g.names.length):qfz g.prods (16+i)<qfz g.prods (16+i+1):=by
 obtain⟨_,_,hm⟩:=qb3 (qbh h).2.2.2.2;have hne:qdG g (16+i)≠[]:=fun e=>hm ⟨i,hi,e⟩;rw [qhF (qdT h)] at hne;rcases Nat.lt_or_ge (qfz g.prods (16+i)) (qfz g.prods (16+i+1)) with hl|hl
 .exact hl
 .exact absurd (by rw [Nat.sub_eq_zero_of_le hl];rfl) hne
theorem qgF {α:Type} [DecidableEq α] [BEq α] [LawfulBEq α] {l:List α} (hn:l.Nodup) {i:Nat} {x:α} (h:l[i]?=some x):l.idxOf x=i:=by
 obtain⟨hi,rfl⟩:=List.getElem?_eq_some_iff.1 h;exact hn.idxOf_getElem i hi
theorem qpy {g:qaH} (h:qaM g=0) {s:Int} (hg:qfq g s=true):qnT g (nameS g s)=(s,0):=by
 obtain⟨hm,_,_,hn,_⟩:=qbh h;obtain⟨ht,_⟩:=qis hm;have hn0:qb6 g=0:=by
  unfold qct at hn;split at hn
  .omega
  .exact hn
 have hnd:(qaz g).Nodup/\g.names.Nodup:=by
  unfold qct at hn;rw [hn0] at hn;by_cases h1:(qaz g).Nodup<;>by_cases h2:g.names.Nodup<;>simp_all
 have htn:g.tokens.Nodup:=by
  have:=hnd.1;unfold qaz at this;exact(List.nodup_append.1 this).1
 obtain⟨x,hx⟩:=qeX ht hg;rw [qh7 hx];have hsym:qxo g x=s:=by
  unfold qcq at hx;by_cases h16:16<=s
  .rw [if_pos h16] at hx
   have hmem:=List.mem_of_getElem? hx;have hf:qbX g.names x=((s-16).toNat:Int):=by
    unfold qbX;rw [if_pos hmem,qgF hnd.2 hx]
   unfold qxo;rw [hf,if_pos (by omega)];omega
  .rw [if_neg h16] at hx
   by_cases h0:0<=s
   .rw [if_pos h0] at hx
    have hmem:=List.mem_of_getElem? hx;have hno:x ∉ g.names:=fun hc=>qnB h x hmem hc;have hf:qbX g.tokens x=(s.toNat:Int):=by
     unfold qbX;rw [if_pos hmem,qgF htn hx]
    unfold qxo;rw [show qbX g.names x=-1 from by unfold qbX;rw [if_neg hno],if_neg (by omega),hf];omega
   .rw [if_neg h0] at hx;cases hx
 have hs0:0<=s:=by
  simp only [qfq,qek,qaK,Bool.or_eq_true,Bool.and_eq_true,decide_eq_true_eq] at hg;omega
 unfold qnT;rw [if_neg (by simp [h]),hsym,if_neg (by omega)]
theorem qo2 {g:qaH} (h:qaM g=0) {s:Int} (hg:qfq g s=true):qhQ g.tokens g.names (nameS g s)=s:=by
 have hb:=qpy h hg;unfold qnT at hb;rw [if_neg (by simp [h])] at hb;split at hb
 .simp at hb
 .simp only [Prod.mk.injEq,and_true] at hb
  exact hb
theorem qb5 (g:qaH):qab (qcH g)=g.names:=by
 unfold qab qcH;rw [List.map_map];apply List.ext_getElem?;intro i;rw [List.getElem?_map];rcases Nat.lt_or_ge i g.names.length with h|h
 .rw [List.getElem?_range h,List.getElem?_eq_getElem h]
  simp [qqe,List.getD_eq_getElem?_getD,h]
 .rw [List.getElem?_eq_none (by simpa using h),List.getElem?_eq_none h];rfl
theorem qi7 {g:qaH} {s:Int} {p:Nat} (h:p ∈ qdG g s):∃ q,g.prods[p]?=some q/\q.left=s:=by
 unfold qdG qcB at h;rw [List.take_length] at h;obtain⟨⟨q,j⟩,hm,rfl⟩:=List.mem_map.1 h;obtain⟨h1,h2⟩:=List.mem_filter.1 hm;exact⟨q,List.mk_mem_zipIdx_iff_getElem?.1 h1,of_decide_eq_true h2⟩
theorem qqY {l:List qaV} {d:qaV} (c n:Nat) (h:c+n<=l.length):(List.range' c n).map (fun p=>l.getD p d)=(l.drop c).take n:=by
 apply List.ext_getElem?;intro i;rw [List.getElem?_map];rcases Nat.lt_or_ge i n with hi|hi
 .rw [List.getElem?_range' hi,List.getElem?_take_of_lt hi,List.getElem?_drop]
  simp only [Option.map_some,Nat.one_mul];rw [List.getD_eq_getElem?_getD,List.getElem?_eq_getElem (by omega)];rfl
 .rw [List.getElem?_eq_none (by simpa using hi),List.getElem?_eq_none (by rw [List.length_take];omega)];rfl
theorem qkc {g:qaH} (h:qaM g=0) {p:qaV} (hp:p ∈ g.prods) {s:Int} (hs:s ∈ p.right):qfq g s=true:=by
 obtain⟨hs0,_,_⟩:=qb3 (qbh h).2.2.2.2;exact(hs0.2 p hp).2 s hs
theorem qrp {g:qaH} (h:qaM g=0) (i:Nat):(qjC g i).map (qoa g.tokens g.names i)=(qdG g (16+i)).map (fun p=>g.prods.getD p ⟨0,[]⟩):=by
 unfold qjC;rw [List.map_map];apply List.map_congr_left;intro p hp;obtain⟨q,hq,hl⟩:=qi7 hp;have hd:g.prods.getD p ⟨0,[]⟩=q:=by rw [List.getD_eq_getElem?_getD,hq];rfl
 simp only [Function.comp_apply,hd,qoa,List.map_map];have hr:q.right.map (qhQ g.tokens g.names ∘ nameS g)=q.right:=by
  conv=>rhs;rw [<- List.map_id q.right]
  apply List.map_congr_left;intro s hs;exact qo2 h (qkc h (List.mem_of_getElem? hq) hs)
 rw [hr];cases q;simp only at hl |-;rw [hl]
 simp
theorem qkR {g:qaH} (h:qaM g=0):∀ i,i<=g.names.length->ofP (qcH g) i=g.prods.take (qfz g.prods (16+i))
 |0,_=>by
  show ofP (qcH g) 0=g.prods.take (qfz g.prods 16)
  rw [qnF h];simp [ofP]
 |i+1,hi=>by
  have hr:(qcH g).rules[i]?=some (qqe g i):=by
   unfold qcH;simp only [List.getElem?_map];rw [List.getElem?_range (by omega)];rfl
  rw [qhY hr,qkR h i (by omega),qb5]
  show _++(qjC g i).map (qoa g.tokens g.names i)=_
  rw [qrp h,qhF (qdT h)];have h1:qfz g.prods (16+(i:Int))<=qfz g.prods (16+(i:Int)+1):=qmF _ _;have h2:qfz g.prods (16+(i:Int)+1)<=g.prods.length:=List.countP_le_length;rw [qqY _ _ (by omega),show(16:Int)+((i+1:Nat):Int)=16+(i:Int)+1 by omega];generalize qfz g.prods (16+(i:Int))=c at h1 |-;generalize qfz g.prods (16+(i:Int)+1)=c' at h1 h2 |-;rw [<- List.take_append_drop c (g.prods.take c'),List.take_take,Nat.min_eq_left h1,List.drop_take]
theorem qkz {g:qaH} (h:qaM g=0):ofX (qcH g)=g:=by
 have hst:qfq g g.start=true:=by
  obtain⟨hs0,_,_⟩:=qb3 (qbh h).2.2.2.2;unfold qfq;rw [hs0.1,Bool.or_true]
 have hp:=qkR h g.names.length (Nat.le_refl _);rw [qj3 h,List.take_length] at hp;have hn:=qb5 g;unfold ofX;rw [hn];have hl:(qcH g).rules.length=g.names.length:=by simp [qcH]
 rw [hl,hp]
 show(⟨g.k,g.tokens,g.sep,g.names,qhQ g.tokens g.names (nameS g g.start),g.prods⟩:qaH)=g
 rw [qo2 h hst]
structure Lx where
 k:Nat
 t:List Nat
 a:Nat
abbrev Fa:=Nat × Nat
abbrev qau:List Nat:=[59]
abbrev qdF:List Nat:=[44]
abbrev sEq:List Nat:=[61]
abbrev qfC:List Nat:=[124]
abbrev lx0:Lx:=⟨0,[],0⟩
abbrev qdj:Src:=⟨0,[],[],[],[]⟩
def qd6 (t:List Nat):Nat:=t.foldl (fun n c=>10*n+(c-48)) 0
def qdP (t:List Nat):Bool:=decide (1<=qd6 t/\qd6 t<=4)
def isL (t:List Nat):List Lx->Bool
 |x :: _=>decide (x.k=3/\x.t=t)
 |[]=>false
structure RS where
 pos:Nat
 f:Fa
 alts:Nat
 x:Src
def qaw (e a:Nat) (r:RS):RS:=if r.f.1=0 then { r with f:=(e,a) } else r
section
variable (s:List Nat) (ls:List Lx)
def qaF (r:RS):Lx × RS:=match ls[r.pos]? with
 |some x=>(x,r)
 |none=>(lx0,qaw 5 s.length r)
def qa5 (r:RS):Lx × RS:=((qaF s ls r).1,{ (qaF s ls r).2 with pos:=(qaF s ls r).2.pos+1 })
def qeP (k:Nat) (t:List Nat) (p:Lx × RS):RS:=if p.2.f.1=0/\¬ (p.1.k=k/\p.1.t=t) then qaw 3 p.1.a p.2 else p.2
def qaG (k:Nat) (t:List Nat) (r:RS):RS:=qeP k t (qa5 s ls r)
def qbu (t:List Nat) (r:RS):Bool × RS:=if r.f.1=0/\isL t (ls.drop r.pos)=true then(true,{ r with pos:=r.pos+1 }) else(false,r)
def qfo (cap:Bool) (p:Lx × RS):List Nat × RS:=(p.1.t,if p.2.f.1≠0 then p.2 else if p.1.k≠1 then qaw 3 p.1.a p.2 else if(if cap then qae p.1.t else qap p.1.t)=true then p.2 else qaw 12 p.1.a p.2)
def qbt (cap:Bool) (r:RS):List Nat × RS:=qfo cap (qa5 s ls r)
def qgj (l:List (List Nat)) (t:List Nat) (a:Nat) (r:RS):RS:=if qc8 l t=true then qaw 8 a r else r
def qa7 (n w a:Nat) (r:RS):RS:=if n=w then qaw 6 a r else r
def qbI (r:RS):RS :=
 let p:=qaF s ls r
 let q:=qbt s ls false p.2
 let r2:=qa7 q.2.x.tokens.length 8 p.1.a (qgj q.2.x.tokens q.1 p.1.a q.2)
 { r2 with x:={ r2.x with tokens:=r2.x.tokens++[q.1] } }
def qaL:Nat->RS->RS
 |0,r=>r
 |n+1,r=>if r.f.1=0 then(let q:=qbu ls qdF (qbI s ls r);if q.1=true then qaL n q.2 else q.2) else r
def qeB (r:RS):RS :=
 let p:=qa5 s ls (qaG s ls 1 qcz r)
 let r1:=if p.2.f.1=0/\p.1.k≠2 then qaw 3 p.1.a p.2 else p.2
 let r2:=if r1.f.1=0 then(if qdP p.1.t=true then { r1 with x:={ r1.x with k:=(qd6 p.1.t:Nat) } } else { qaw 2 p.1.a r1 with x:={ r1.x with k:=0 } }) else r1
 qaG s ls 3 qau r2
def qso (r:RS):RS :=
 let p:=qaF s ls (qaG s ls 1 qf2 r)
 let q:=qbt s ls false p.2
 let r1:={ q.2 with x:={ q.2.x with sep:=q.1 } }
 qaG s ls 3 qau (qgj r1.x.tokens q.1 p.1.a r1)
def qdU (r:RS):Lx × RS :=
 let p:=qaF s ls (qaG s ls 1 qbk r)
 let q:=qbt s ls true p.2
 (p.1,qaG s ls 3 qau { q.2 with x:={ q.2.x with start:=q.1 } })
def qgd (r:RS):Lx × RS:=qdU s ls (qso s ls (qaG s ls 3 qau (qaL s ls (ls.length+1) (qaG s ls 1 qaZ (qeB s ls r)))))
def qfI (n:Nat) (p:Lx × RS):RS:=qa7 n 6 p.1.a (if qfh p.1.t=true then p.2 else qaw 12 p.1.a p.2)
def qgi:Nat->List (List Nat)->RS->List (List Nat) × RS
 |0,acc,r=>(acc,r)
 |n+1,acc,r=>if r.f.1=0 then(let p:=qaF s ls r;if p.1.k=1 then(let q:=qa5 s ls p.2;qgi n (acc++[q.1.t]) (qfI acc.length q)) else(acc,p.2)) else(acc,r)
def qbH (r:RS):RS:={ qa7 r.alts 24 (ls.getD (r.pos-1) lx0).a r with alts:=r.alts+1 }
def qaS (r:RS):List (List Nat) × RS:=qgi s ls (ls.length+1) [] (qbH ls r)
def qcf:Nat->List (List (List Nat))->RS->List (List (List Nat)) × RS
 |0,acc,r=>(acc,r)
 |n+1,acc,r =>
  let p:=qaS s ls r
  let q:=qbu ls qfC p.2
  if q.1=true then qcf n (acc++[p.1]) q.2 else(acc++[p.1],q.2)
def qfL (r:RS):RS :=
 let p:=qaF s ls r
 let q:=qbt s ls true p.2
 let r1:=if q.2.f.1=0 then qgj (qab q.2.x) q.1 p.1.a q.2 else q.2
 let r2:=qaG s ls 3 sEq (qa7 r1.x.rules.length 8 p.1.a r1)
 let v:=if r2.f.1=0 then qcf s ls (ls.length+1) [] r2 else([],r2)
 let r3:=qaG s ls 3 qau v.2
 { r3 with x:={ r3.x with rules:=r3.x.rules++[⟨q.1,v.1⟩] } }
def qcI:Nat->Bool->RS->RS
 |0,_,r=>r
 |n+1,first,r=>if r.f.1=0/\(first=true\/r.pos<ls.length) then qcI n false (qfL s ls r) else r
def qmC (x:Src) (t:List Nat):Nat:=if t=x.sep then 14 else if qc8 (qab x) t=false/\qc8 x.tokens t=false then 7 else 0
def qaB (x:Lx) (r:RS):RS:=if x.k=1/\qmC r.x x.t≠0 then qaw (qmC r.x x.t) x.a r else r
def qcK:List Lx->RS->RS
 |[],r=>r
 |x :: l,r=>qcK l (qaB x r)
def qhJ (st:Lx) (l:List Lx) (r:RS):RS:=qcK l (if qc8 (qab r.x) st.t=false then qaw 7 st.a r else r)
def qjB:RS :=
 let p:=qgd s ls ⟨0,(0,0),0,qdj⟩
 let r:=qcI s ls (ls.length+2) true p.2
 if r.f.1=0 then qhJ p.1 (ls.drop p.2.pos) r else r
def qpG (r:RS):Src × Fa:=if r.f.1=0 then(r.x,(0,0)) else(qdj,r.f)
end
structure PS where
 l:List Lx
 x:Src
 names:List (List Nat × Bool × Bool × Bool)
 uses:List (List Nat × Nat)
 total:Nat
def qdD (l:List (List Nat × Bool × Bool × Bool)) (t:List Nat):Bool × Bool × Bool:=((l.findIdx? (fun p=>p.1 == t)).bind fun i=>(l[i]?).map fun p=>p.2).getD (false,false,false)
def qp4 (l:List (List Nat × Bool × Bool × Bool)) (t:List Nat) (v:Bool × Bool × Bool):List (List Nat × Bool × Bool × Bool):=match l.findIdx? (fun p=>p.1 == t) with
 |some i=>l.set i (t,v)
 |none=>l++[(t,v)]
section
variable (s:List Nat)
def qce (p:PS):Except Fa (Lx × PS):=match p.l with
 |[]=>.error (5,s.length)
 |x :: l=>.ok (x,{ p with l:=l })
def qa3 (k:Nat) (t:List Nat) (p:PS):Except Fa PS:=(qce s p).bind fun q=>if q.1.k=k/\q.1.t=t then .ok q.2 else .error (3,q.1.a)
def qcb (may:List Nat->Bool) (p:PS):Except Fa (Lx × PS):=(qce s p).bind fun q=>if q.1.k≠1 then .error (3,q.1.a) else if may q.1.t=true then .ok q else .error (12,q.1.a)
def qa8 (sep:Bool) (p:PS):Except Fa (List Nat × PS):=(qcb s qap p).bind fun q =>
 if(qdD q.2.names q.1.t).1=true\/(qdD q.2.names q.1.t).2.1=true then .error (8,q.1.a) else if sep=false/\q.2.x.tokens.length=8 then .error (6,q.1.a)
 else .ok (q.1.t,{ q.2 with names:=qp4 q.2.names q.1.t (!sep,sep,false) })
def qhT (p:PS):Except Fa PS:=(qa3 s 1 qcz p).bind fun p=>(qce s p).bind fun q=>if q.1.k≠2 then .error (3,q.1.a) else if qdP q.1.t=true then qa3 s 3 qau { q.2 with x:={ q.2.x with k:=(qd6 q.1.t:Nat) } } else .error (2,q.1.a)
def qeM (p:PS):Except Fa PS:=(qa8 s false p).bind fun q=>.ok { q.2 with x:={ q.2.x with tokens:=q.2.x.tokens++[q.1] } }
def qcm:Nat->PS->Except Fa PS
 |0,p=>.ok p
 |n+1,p=>if isL qdF p.l=true then(qce s p).bind fun q=>(qeM s q.2).bind fun p=>qcm n p else .ok p
def qdb (p:PS):Except Fa PS:=(qa3 s 1 qaZ p).bind fun p=>(qeM s p).bind fun p=>(qcm s (p.l.length+1) p).bind fun p=>qa3 s 3 qau p
def qp9 (p:PS):Except Fa PS:=(qa3 s 1 qf2 p).bind fun p=>(qa8 s true p).bind fun q=>qa3 s 3 qau { q.2 with x:={ q.2.x with sep:=q.1 } }
def qeI (p:PS):Except Fa PS:=(qa3 s 1 qbk p).bind fun p=>(qcb s qae p).bind fun q=>qa3 s 3 qau { q.2 with x:={ q.2.x with start:=q.1.t },uses:=q.2.uses++[(q.1.t,q.1.a)] }
def qpK:Nat->List (List Nat)->PS->Except Fa (List (List Nat) × PS)
 |0,acc,p=>.ok (acc,p)
 |n+1,acc,p=>match p.l with
  |[]=>.ok (acc,p)
  |x :: _=>if x.k=1 then(qcb s qfh p).bind fun q=>if acc.length=6 then .error (6,q.1.a) else qpK n (acc++[q.1.t]) { q.2 with uses:=q.2.uses++[(q.1.t,q.1.a)] } else .ok (acc,p)
def qdI (p:PS):Except Fa (List (List Nat) × PS):=qpK s (p.l.length+1) [] p
def qf3:Nat->Bool->List (List (List Nat))->PS->Except Fa (List (List (List Nat)) × PS)
 |0,_,acc,p=>.ok (acc,p)
 |n+1,first,acc,p=>if first=false/\isL qfC p.l=false then .ok (acc,p) else(qce s p).bind fun q =>
  if q.1.k=3/\q.1.t=(if first then sEq else qfC) then(if q.2.total=24 then .error (6,q.1.a) else(qdI s { q.2 with total:=q.2.total+1 }).bind fun v=>qf3 n false (acc++[v.1]) v.2) else .error (3,q.1.a)
def qnu (p:PS):Except Fa PS:=(qcb s qae p).bind fun q =>
 if(qdD q.2.names q.1.t).2.2=true then .error (8,q.1.a) else if q.2.x.rules.length=8 then .error (6,q.1.a)
 else(qf3 s (q.2.l.length+1) true [] { q.2 with names:=qp4 q.2.names q.1.t (false,false,true) }).bind fun v=>(qa3 s 3 qau v.2).bind fun p=>.ok { p with x:={ p.x with rules:=p.x.rules++[⟨q.1.t,v.1⟩] } }
def qcZ:Nat->Bool->PS->Except Fa PS
 |0,_,p=>.ok p
 |n+1,first,p=>if first=true\/0<p.l.length then(qnu s p).bind fun p=>qcZ n false p else .ok p
def qsl (names:List (List Nat × Bool × Bool × Bool)) (first:Bool) (t:List Nat):Nat:=if(qdD names t).2.1=true then 14 else if(qdD names t).2.2=false/\(first=true\/(qdD names t).1=false) then 7 else 0
def qiB (names:List (List Nat × Bool × Bool × Bool)):Bool->List (List Nat × Nat)->Except Fa Unit
 |_,[]=>.ok ()
 |first,u :: l=>if qsl names first u.1≠0 then .error (qsl names first u.1,u.2) else qiB names false l
def qjA (p:PS):Except Fa PS:=(qiB p.names true p.uses).bind fun _=>.ok p
def qrG (ls:List Lx):Except Fa PS :=
 (qhT s ⟨ls,qdj,[],[],0⟩).bind fun p=>(qdb s p).bind fun p=>(qp9 s p).bind fun p=>(qeI s p).bind fun p=>(qcZ s (p.l.length+1) true p).bind fun p=>qjA p
def qwm:Except Fa PS->Src × Fa
 |.ok p=>(p.x,(0,0))
 |.error e=>(qdj,e)
end
def qby (c:Int):Bool:=(c == 32) || (c == 9) || (c == 10) || (c == 13)
def qc2 (c:Int):Bool:=(c == 61) || (c == 124) || (c == 59) || (c == 44)
def qaP (c:Int):Bool:=(decide (97<=c) && decide (c<=122)) || (decide (65<=c) && decide (c<=90))
def qal (c:Int):Bool:=decide (48<=c) && decide (c<=57)
theorem qxs (c:Int):qaa Tryz.prog 254 [.int .u8 c] (.d (.bool (qby c))):=by
 refine kF Tryz.func254 [] fun w=>?_
 repeat' (first|refine zW ?_|refine zB ?_ ?_<;>intro h<;>try exact zk h|(show _=_;(refine congrArg (fun b=>AV.d (.bool b)) ?_;simp_all [qby]))|fail)
theorem qyz (c:Int):qaa Tryz.prog 255 [.int .u8 c] (.d (.bool (qc2 c))):=by
 refine kF Tryz.func255 [] fun w=>?_
 repeat' (first|refine zW ?_|refine zB ?_ ?_<;>intro h<;>try exact zk h|(show _=_;(refine congrArg (fun b=>AV.d (.bool b)) ?_;simp_all [qc2]))|fail)
theorem qnq (c:Int):qaa Tryz.prog 256 [.int .u8 c] (.d (.bool (qaP c))):=by
 refine kF Tryz.func256 [] fun w=>?_
 repeat' (first|refine zW ?_|refine zB ?_ ?_<;>intro h<;>try exact zk h|(show _=_;(refine congrArg (fun b=>AV.d (.bool b)) ?_;simp_all [qaP]<;>omega))|fail)
theorem qry (c:Int):qaa Tryz.prog 257 [.int .u8 c] (.d (.bool (qal c))):=by
 refine kF Tryz.func257 [] fun w=>?_
 repeat' (first|refine zW ?_|refine zB ?_ ?_<;>intro h<;>try exact zk h|(show _=_;(refine congrArg (fun b=>AV.d (.bool b)) ?_;simp_all [qal]<;>omega))|fail)
def qbi:Bool->List Nat->Nat
 |_,[]=>0
 |true,c :: l=>1+qbi (decide (c≠10)) l
 |false,c :: l=>if qby c then 1+qbi false l else if c=35 then 1+qbi true l else 0
theorem qh5:∀ (b:Bool) (l:List Nat),qbi b l<=l.length
 |true,[]=>Nat.le_refl _
 |false,[]=>Nat.le_refl _
 |true,c :: l=>by have:=qh5 (decide (c≠10)) l;simp only [qbi,List.length_cons];omega
 |false,c :: l=>by
  have h1:=qh5 false l;have h2:=qh5 true l;simp only [qbi,List.length_cons];split
  .omega
  .split<;>omega
theorem qbj {s:List Nat} {i c:Nat} (h:s[i]?=some c):s.drop i=c :: s.drop (i+1):=by
 obtain⟨h1,h2⟩:=List.getElem?_eq_some_iff.1 h;rw [List.drop_eq_getElem_cons h1,h2]
theorem qzn (s:List Nat) (at0:Nat) (hl:s.length<=1048576) (ha:at0<=s.length):qaa Tryz.prog 230 [.str s,.int .i64 (at0:Nat)] (.d (.int .i64 ((at0+qbi false (s.drop at0):Nat):Int))):=by
 refine kF Tryz.func230 [] fun w=>?_
 repeat' (first|refine zW ?_|refine zB ?_ ?_<;>intro h<;>try exact zk h|fail)
 refine Run.loop (fun i:Nat=>⟨PT.ofList [(0,.d (.str s)),(1,.d (.int .i64 (i:Nat)))],[],[]⟩) (fun i=>i<=s.length/\i+qbi false (s.drop i)=at0+qbi false (s.drop at0)) (fun i=>s.length-i) at0 ⟨ha,rfl⟩ (qac (by repeat' (first|exact trivial|refine⟨rfl,?_⟩))) (fun i hi=>?_);obtain⟨hi1,hi2⟩:=hi;rcases Nat.lt_or_ge i s.length with hlt|hge
 .obtain⟨c,hc⟩:=qai hlt
  have hd:=qbj hc;have cb:=qxs (c:Nat);cases hb:qby (c:Nat) with
  |true =>
   rw [hb] at cb;have hn:i+1+qbi false (s.drop (i+1))=at0+qbi false (s.drop at0):=by rw [<- hi2,hd,qbi,if_pos hb];omega
   repeat' (first|refine zW ?_|refine zB ?_ ?_<;>intro h<;>try exact zk h|refine oV (v:=.d (.int .u8 (c:Nat))) ?_ (hf:=by simp [inB];omega) (he:=by simp [List.getD_eq_getElem?_getD,hc])|refine zC (cb) ?_|(exact⟨i+1,⟨hlt,hn⟩,by omega,qac (by repeat' (first|exact trivial|refine⟨rfl,?_⟩|refine⟨(qaq (k:=i) (by kernel_rfl) (by omega)),?_⟩))⟩)|exact zk h|fail)
  |false =>
   rw [hb] at cb;by_cases h35:c=35
   .subst h35
    have hX:i+qbi true (s.drop i)=at0+qbi false (s.drop at0):=by rw [<- hi2,hd];simp [qbi,qby]
    clear hi2;generalize at0+qbi false (s.drop at0)=X at hX |-
    repeat' (first|refine zW ?_|refine zB ?_ ?_<;>intro h<;>try exact zk h|refine oV (v:=.d (.int .u8 ((35:Nat):Int))) ?_ (hf:=by simp [inB];omega) (he:=by simp [List.getD_eq_getElem?_getD,hc])|refine zC (cb) ?_|exact zk h|fail)
    refine Run.loop (fun j:Nat=>⟨PT.ofList [(0,.d (.str s)),(1,.d (.int .i64 (j:Nat)))],[],[]⟩) (fun j=>i<=j/\j<=s.length/\j+qbi true (s.drop j)=X) (fun j=>s.length-j) i ⟨Nat.le_refl _,hi1,hX⟩ (qac (by repeat' (first|exact trivial|refine⟨rfl,?_⟩))) (fun j hj=>?_);obtain⟨hj1,hj2,hj3⟩:=hj;rcases Nat.lt_or_ge j s.length with hjl|hjg
    .obtain⟨e,he⟩:=qai hjl
     have hde:=qbj he;by_cases h10:e=10
     .subst h10
      have hij:i≠j:=fun h=>by subst h;rw [hc] at he;cases he
      have hX2:j+qbi false (s.drop j)=X:=by rw [<- hj3,hde];simp [qbi,qby]
      repeat' (first|refine zW ?_|refine zB ?_ ?_<;>intro h<;>try exact zk h|refine oV (v:=.d (.int .u8 ((10:Nat):Int))) ?_ (hf:=by simp [inB];omega) (he:=by simp [List.getD_eq_getElem?_getD,he])|(exact⟨j,⟨hj2,hX2⟩,by omega,qac (by repeat' (first|exact trivial|refine⟨rfl,?_⟩))⟩)|exact zk h|fail)
     .have hX2:j+1+qbi true (s.drop (j+1))=X:=by rw [<- hj3,hde];simp [qbi,h10];omega
      repeat' (first|refine zW ?_|refine zB ?_ ?_<;>intro h<;>try exact zk h|refine oV (v:=.d (.int .u8 (e:Nat))) ?_ (hf:=by simp [inB];omega) (he:=by simp [List.getD_eq_getElem?_getD,he])|(exact⟨j+1,⟨by omega,hjl,hX2⟩,by omega,qac (by repeat' (first|exact trivial|refine⟨rfl,?_⟩|refine⟨(qaq (k:=j) (by kernel_rfl) (by omega)),?_⟩))⟩)|exact zk h|fail)
    .have hje:j=s.length:=by omega
     subst hje;have hX2:s.length+qbi false (s.drop s.length)=X:=by rw [<- hj3,List.drop_length];rfl
     repeat' (first|refine zW ?_|refine zB ?_ ?_<;>intro h<;>try exact zk h|(exact⟨s.length,⟨Nat.le_refl _,hX2⟩,by omega,qac (by repeat' (first|exact trivial|refine⟨rfl,?_⟩))⟩)|exact zk h|fail)
   .rw [show at0+qbi false (s.drop at0)=i by rw [<- hi2,hd,qbi,if_neg (by rw [hb];simp),if_neg h35,Nat.add_zero]]
    repeat' (first|refine zW ?_|refine zB ?_ ?_<;>intro h<;>try exact zk h|refine oV (v:=.d (.int .u8 (c:Nat))) ?_ (hf:=by simp [inB];omega) (he:=by simp [List.getD_eq_getElem?_getD,hc])|refine zC (cb) ?_|rfl|exact zk h|fail)
 .have hie:i=s.length:=by omega
  subst hie;have hz:qbi false (s.drop s.length)=0:=by rw [List.drop_length];rfl
  rw [<- hi2,hz,Nat.add_zero]
  repeat' (first|refine zW ?_|refine zB ?_ ?_<;>intro h<;>try exact zk h|rfl|exact zk h|fail)
def qa9 (c:Int):Bool:=qaP c || qal c || (c == 95)
def qaU (p:Int->Bool):List Nat->Nat
 |[]=>0
 |c :: l=>if p c then 1+qaU p l else 0
theorem qgg (p:Int->Bool):∀ l,qaU p l<=l.length
 |[]=>Nat.le_refl _
 |c :: l=>by have:=qgg p l;simp only [qaU,List.length_cons];split<;>omega
abbrev qgU (k:Nat) (t:List Nat) (a:Nat):DV:=.agg [.int .i64 (k:Nat),.str t,.int .i64 (a:Nat)]
def qfa (c:Int):Bool:=qaP c || (c == 95)
def qah:List Nat->Nat × List Nat
 |[]=>(0,[])
 |c :: l=>if qc2 c then(3,[c]) else if qaP c then(1,(c :: l).take (1+qaU qa9 l)) else if qal c then
   (if(c=48/\1<1+qaU qal l)\/(∃ e,(c :: l)[1+qaU qal l]?=some e/\qfa e=true) then(0,[]) else(2,(c :: l).take (1+qaU qal l))) else(0,[])
set_option maxHeartbeats 2000000 in
theorem qrv (c:Nat) (l:List Nat) (hl:(c :: l).length<=1048576):qaa Tryz.prog 231 [.str (c :: l)] (.d (qgU (qah (c :: l)).1 (qah (c :: l)).2 0)):=by
 have c1:=qyz (c:Nat);have c2:=qnq (c:Nat);have c3:=qry (c:Nat);have hx0:(c :: l)[0]?=some c:=rfl;cases h1:qc2 (c:Nat) with
 |true =>
  rw [h1] at c1;rw [show qah (c :: l)=(3,[c]) by simp [qah,h1]];refine kF Tryz.func231 [] fun w=>?_
  repeat' (first|refine zW ?_|refine zB ?_ ?_<;>intro h<;>try exact zk h|refine oI (v:=.d (.int .u8 (c:Nat))) ?_ (he:=by first|(simp [gD,hx0]<;>fail)|fail)|refine zC (c1) ?_|refine oV ?_ (hf:=(by first|(simp [qbR]<;>fail)|(simp [qbR];omega)))|refine eX ?_ (hf:=(by first|(simp [qbR]<;>fail)|(simp [qbR];omega)))|rfl|((exfalso;first|(simp at h<;>fail)|(simp at h;omega)|(simp_all [qa9]<;>fail)))|fail)
 |false =>
  rw [h1] at c1;cases h2:qaP (c:Nat) with
  |true =>
   rw [h2] at c2;rw [show qah (c :: l)=(1,(c :: l).take (1+qaU qa9 l)) by simp [qah,h1,h2]];obtain⟨X,hX⟩:∃ X,X=1+qaU qa9 l:=⟨_,rfl⟩
   rw [<- hX];generalize hs:c :: l=s at *;have hX0:1+qaU qa9 (s.drop 1)=X:=by rw [hX,<- hs];rfl
   have hl1:1<=s.length:=by rw [<- hs];simp
   refine kF Tryz.func231 [] fun w=>?_
   repeat' (first|refine zW ?_|refine zB ?_ ?_<;>intro h<;>try exact zk h|refine oI (v:=.d (.int .u8 (c:Nat))) ?_ (he:=by first|(simp [gD,hx0]<;>fail)|fail)|refine zC (c1) ?_|refine zC (c2) ?_|((exfalso;first|(simp at h<;>fail)|(simp at h;omega)|(simp_all [qa9]<;>fail)))|fail)
   refine Run.loop (fun j:Nat=>⟨PT.ofList [(0,.d (.str s)),(2,.bp 0 0),(3,.d (.int .i64 (j:Nat)))],[.box [.d (.int .i64 0),.d (.str []),.d (.int .i64 0)]],[]⟩) (fun j=>1<=j/\j<=s.length/\j+qaU qa9 (s.drop j)=X) (fun j=>s.length-j) 1 ⟨Nat.le_refl _,hl1,hX0⟩ (qac (by repeat' (first|exact trivial|refine⟨rfl,?_⟩))) (fun j hj=>?_);obtain⟨hj1,hj2,hj3⟩:=hj;rcases Nat.lt_or_ge j s.length with hjl|hjg
   .obtain⟨e,he⟩:=qai hjl
    have hde:=qbj he;have d2:=qnq (e:Nat);have d3:=qry (e:Nat);rw [hde,qaU] at hj3;cases hw:qa9 (e:Nat) with
    |true =>
     rw [if_pos hw] at hj3
     repeat' (first|refine zW ?_|refine zB ?_ ?_<;>intro h<;>try exact zk h|refine oI (v:=.d (.int .u8 (e:Nat))) ?_ (he:=by first|(simp [gD,he]<;>fail)|fail)|refine zK (d2) ?_ ?_<;>intro h<;>try exact zk h|refine zC (d2) ?_|refine zK (d3) ?_ ?_<;>intro h<;>try exact zk h|refine zC (d3) ?_|(exact⟨j+1,⟨by omega,hjl,by omega⟩,by omega,qac (by repeat' (first|exact trivial|refine⟨rfl,?_⟩|refine⟨(qaq (k:=j) (by kernel_rfl) (by omega)),?_⟩))⟩)|((exfalso;first|(simp at h<;>fail)|(simp at h;omega)|(simp_all [qa9]<;>fail)))|fail)
    |false =>
     rw [hw] at hj3;have hjX:j=X:=by simpa using hj3
     subst hjX
     repeat' (first|refine zW ?_|refine zB ?_ ?_<;>intro h<;>try exact zk h|refine oI (v:=.d (.int .u8 (e:Nat))) ?_ (he:=by first|(simp [gD,he]<;>fail)|fail)|refine zK (d2) ?_ ?_<;>intro h<;>try exact zk h|refine zC (d2) ?_|refine zK (d3) ?_ ?_<;>intro h<;>try exact zk h|refine zC (d3) ?_|refine oV ?_ (hf:=(by first|(simp [qbR]<;>fail)|(simp [qbR];omega)))|refine eX ?_ (hf:=(by first|(simp [qbR]<;>fail)|(simp [qbR];omega)))|rfl|((exfalso;first|(simp at h<;>fail)|(simp at h;omega)|(simp_all [qa9]<;>fail)))|fail)
   .have hje:j=X:=by rw [List.drop_eq_nil_of_le hjg] at hj3;simpa [qaU] using hj3
    subst hje
    repeat' (first|refine zW ?_|refine zB ?_ ?_<;>intro h<;>try exact zk h|refine oV ?_ (hf:=(by first|(simp [qbR]<;>fail)|(simp [qbR];omega)))|refine eX ?_ (hf:=(by first|(simp [qbR]<;>fail)|(simp [qbR];omega)))|rfl|((exfalso;first|(simp at h<;>fail)|(simp at h;omega)|(simp_all [qa9]<;>fail)))|fail)
  |false =>
   rw [h2] at c2;cases h3:qal (c:Nat) with
   |false =>
    rw [h3] at c3;rw [show qah (c :: l)=(0,[]) by simp [qah,h1,h2,h3]];refine kF Tryz.func231 [] fun w=>?_
    repeat' (first|refine zW ?_|refine zB ?_ ?_<;>intro h<;>try exact zk h|refine oI (v:=.d (.int .u8 (c:Nat))) ?_ (he:=by first|(simp [gD,hx0]<;>fail)|fail)|refine zC (c1) ?_|refine zC (c2) ?_|refine zC (c3) ?_|rfl|((exfalso;first|(simp at h<;>fail)|(simp at h;omega)|(simp_all [qfa]<;>fail)|(simp_all [qfa];omega)))|fail)
   |true =>
    rw [h3] at c3;obtain⟨R,hR⟩:∃ R:Nat × List Nat,R=if(c=48/\1<1+qaU qal l)\/(∃ e,(c :: l)[1+qaU qal l]?=some e/\qfa e=true) then(0,[]) else(2,(c :: l).take (1+qaU qal l)):=⟨_,rfl⟩
    rw [show qah (c :: l)=R by rw [hR];simp only [qah,h1,h2,h3];rfl];obtain⟨X,hX⟩:∃ X,X=1+qaU qal l:=⟨_,rfl⟩
    rw [<- hX] at hR;generalize hs:c :: l=s at *;have hX0:1+qaU qal (s.drop 1)=X:=by rw [hX,<- hs];rfl
    have hl1:1<=s.length:=by rw [<- hs];simp
    clear hX;refine kF Tryz.func231 [] fun w=>?_
    repeat' (first|refine zW ?_|refine zB ?_ ?_<;>intro h<;>try exact zk h|refine oI (v:=.d (.int .u8 (c:Nat))) ?_ (he:=by first|(simp [gD,hx0]<;>fail)|fail)|refine zC (c1) ?_|refine zC (c2) ?_|refine zC (c3) ?_|((exfalso;first|(simp at h<;>fail)|(simp at h;omega)|(simp_all [qfa]<;>fail)|(simp_all [qfa];omega)))|fail)
    refine Run.loop (fun j:Nat=>⟨PT.ofList [(0,.d (.str s)),(2,.bp 0 0),(3,.d (.int .i64 (j:Nat)))],[.box [.d (.int .i64 0),.d (.str []),.d (.int .i64 0)]],[]⟩) (fun j=>1<=j/\j<=s.length/\j+qaU qal (s.drop j)=X) (fun j=>s.length-j) 1 ⟨Nat.le_refl _,hl1,hX0⟩ (qac (by repeat' (first|exact trivial|refine⟨rfl,?_⟩))) (fun j hj=>?_);obtain⟨hj1,hj2,hj3⟩:=hj;rcases Nat.lt_or_ge j s.length with hjl|hjg
    .obtain⟨e,he⟩:=qai hjl
     have hde:=qbj he;have d2:=qnq (e:Nat);have d3:=qry (e:Nat);rw [hde,qaU] at hj3;cases hw:qal (e:Nat) with
     |true =>
      rw [if_pos hw] at hj3;rw [hw] at d3
      repeat' (first|refine zW ?_|refine zB ?_ ?_<;>intro h<;>try exact zk h|refine oI (v:=.d (.int .u8 (e:Nat))) ?_ (he:=by first|(simp [gD,he]<;>fail)|fail)|refine zC (d3) ?_|(exact⟨j+1,⟨by omega,hjl,by omega⟩,by omega,qac (by repeat' (first|exact trivial|refine⟨rfl,?_⟩|refine⟨(qaq (k:=j) (by kernel_rfl) (by omega)),?_⟩))⟩)|((exfalso;first|(simp at h<;>fail)|(simp at h;omega)|(simp_all [qfa]<;>fail)|(simp_all [qfa];omega)))|fail)
     |false =>
      rw [hw] at hj3 d3;have hjX:j=X:=by simpa using hj3
      subst hjX;by_cases hz:c=48/\1<j
      .rw [if_pos (.inl hz)] at hR
       subst hR;obtain⟨hz1,hz2⟩:=hz;subst hz1
       repeat' (first|refine zW ?_|refine zB ?_ ?_<;>intro h<;>try exact zk h|refine oI (v:=.d (.int .u8 (e:Nat))) ?_ (he:=by first|(simp [gD,he]<;>fail)|fail)|refine oI (v:=.d (.int .u8 ((48:Nat):Int))) ?_ (he:=by first|(simp [gD,hx0]<;>fail)|fail)|refine zC (d3) ?_|rfl|((exfalso;first|(simp at h<;>fail)|(simp at h;omega)|(simp_all [qfa]<;>fail)|(simp_all [qfa];omega)))|fail)
      .cases hE:qfa (e:Nat) with
       |true =>
        rw [if_pos (.inr ⟨e,he,hE⟩)] at hR;subst hR
        repeat' (first|refine zW ?_|refine zB ?_ ?_<;>intro h<;>try exact zk h|refine oI (v:=.d (.int .u8 (e:Nat))) ?_ (he:=by first|(simp [gD,he]<;>fail)|fail)|refine oI (v:=.d (.int .u8 (c:Nat))) ?_ (he:=by first|(simp [gD,hx0]<;>fail)|fail)|refine zC (d3) ?_|refine zK (d2) ?_ ?_<;>intro h<;>try exact zk h|refine zC (d2) ?_|rfl|((exfalso;first|(simp at h<;>fail)|(simp at h;omega)|(simp_all [qfa]<;>fail)|(simp_all [qfa];omega)))|fail)
       |false =>
        rw [if_neg (fun h=>h.elim hz (fun⟨e',h1,h2⟩=>by rw [he] at h1;cases h1;rw [hE] at h2;cases h2))] at hR;subst hR
        repeat' (first|refine zW ?_|refine zB ?_ ?_<;>intro h<;>try exact zk h|refine oI (v:=.d (.int .u8 (e:Nat))) ?_ (he:=by first|(simp [gD,he]<;>fail)|fail)|refine oI (v:=.d (.int .u8 (c:Nat))) ?_ (he:=by first|(simp [gD,hx0]<;>fail)|fail)|refine zC (d3) ?_|refine zK (d2) ?_ ?_<;>intro h<;>try exact zk h|refine zC (d2) ?_|refine oV ?_ (hf:=(by first|(simp [qbR]<;>fail)|(simp [qbR];omega)))|refine eX ?_ (hf:=(by first|(simp [qbR]<;>fail)|(simp [qbR];omega)))|rfl|((exfalso;first|(simp at h<;>fail)|(simp at h;omega)|(simp_all [qfa]<;>fail)|(simp_all [qfa];omega)))|fail)
    .have hje:j=X:=by rw [List.drop_eq_nil_of_le hjg] at hj3;simpa [qaU] using hj3
     subst hje;have hjn:s[j]?=none:=List.getElem?_eq_none hjg;by_cases hz:c=48/\1<j
     .rw [if_pos (.inl hz)] at hR
      subst hR;obtain⟨hz1,hz2⟩:=hz;subst hz1
      repeat' (first|refine zW ?_|refine zB ?_ ?_<;>intro h<;>try exact zk h|refine oI (v:=.d (.int .u8 ((48:Nat):Int))) ?_ (he:=by first|(simp [gD,hx0]<;>fail)|fail)|rfl|((exfalso;first|(simp at h<;>fail)|(simp at h;omega)|(simp_all [qfa]<;>fail)|(simp_all [qfa];omega)))|fail)
     .rw [if_neg (fun h=>h.elim hz (fun⟨e',h1,_⟩=>by rw [hjn] at h1;cases h1))] at hR
      subst hR
      repeat' (first|refine zW ?_|refine zB ?_ ?_<;>intro h<;>try exact zk h|refine oI (v:=.d (.int .u8 (c:Nat))) ?_ (he:=by first|(simp [gD,hx0]<;>fail)|fail)|refine oV ?_ (hf:=(by first|(simp [qbR]<;>fail)|(simp [qbR];omega)))|refine eX ?_ (hf:=(by first|(simp [qbR]<;>fail)|(simp [qbR];omega)))|rfl|((exfalso;first|(simp at h<;>fail)|(simp at h;omega)|(simp_all [qfa]<;>fail)|(simp_all [qfa];omega)))|fail)
theorem qgR (c:Nat) (l:List Nat):qah (c :: l)=(0,[])\/∃ k n,k≠0/\qah (c :: l)=(k,(c :: l).take (n+1)):=by
 have e:qah (c :: l)=if qc2 c then(3,[c]) else if qaP c then(1,(c :: l).take (1+qaU qa9 l)) else if qal c then
   (if(c=48/\1<1+qaU qal l)\/(∃ e,(c :: l)[1+qaU qal l]?=some e/\qfa e=true) then(0,[]) else(2,(c :: l).take (1+qaU qal l))) else(0,[]):=rfl
 rw [e];by_cases h1:qc2 c=true
 .rw [if_pos h1];exact .inr ⟨3,0,by omega,rfl⟩
 .rw [if_neg h1]
  by_cases h2:qaP c=true
  .rw [if_pos h2];exact .inr ⟨1,qaU qa9 l,by omega,by rw [Nat.add_comm]⟩
  .rw [if_neg h2]
   by_cases h3:qal c=true
   .rw [if_pos h3]
    by_cases h4:(c=48/\1<1+qaU qal l)\/(∃ e,(c :: l)[1+qaU qal l]?=some e/\qfa e=true)
    .rw [if_pos h4];exact .inl rfl
    .rw [if_neg h4];exact .inr ⟨2,qaU qal l,by omega,by rw [Nat.add_comm]⟩
   .rw [if_neg h3];exact .inl rfl
theorem qdH:∀ s:List Nat,(qah s).2.length<=s.length
 |[]=>Nat.le_refl _
 |c :: l=>by
  rcases qgR c l with h|⟨k,n,_,h⟩<;>rw [h]
  .simp
  .simp only [List.length_take];omega
theorem qdB {c:Nat} {l:List Nat} (h:(qah (c :: l)).1≠0):1<=(qah (c :: l)).2.length:=by
 rcases qgR c l with h'|⟨k,n,_,h'⟩<;>rw [h'] at h |-
 .simp at h
 .simp only [List.length_take,List.length_cons];omega
abbrev qch (c a:Nat):DV:=.agg [.int .i64 (c:Nat),.int .i64 (a:Nat)]
def qaC (s:List Nat) (a:Nat):Nat:=a+qbi false (s.drop a)
theorem qdL {s:List Nat} {a:Nat} (h:a<=s.length):qaC s a<=s.length:=by
 have:=qh5 false (s.drop a);unfold qaC;rw [List.length_drop] at this;omega
def nextT (s:List Nat) (a:Nat):List AV :=
 if qaC s a=s.length then [.d (qgU 0 [] 0),.d (.int .i64 (0:Nat)),.d (qch 5 (qaC s a))]
 else if(qah (s.drop (qaC s a))).1=0 then [.d (qgU 0 [] 0),.d (.int .i64 (0:Nat)),.d (qch 3 (qaC s a))]
 else [.d (qgU (qah (s.drop (qaC s a))).1 (qah (s.drop (qaC s a))).2 (qaC s a)),.d (.int .i64 ((qaC s a+(qah (s.drop (qaC s a))).2.length:Nat):Int)),.d (qch 0 0)]
theorem qzj (s:List Nat) (a:Nat) (hl:s.length<=1048576) (ha:a<=s.length):qaa Tryz.prog 188 [.str s,.int .i64 (a:Nat)] (.tup (nextT s a)):=by
 have cp:=qzn s a hl ha;have hle:=qdL ha;unfold nextT;rw [show a+qbi false (s.drop a)=qaC s a from rfl] at cp;generalize qaC s a=p at cp hle |-;by_cases hp:p=s.length
 .rw [if_pos hp]
  subst hp;refine kF Tryz.func188 [] fun w=>?_
  repeat' (first|refine zW ?_|refine zB ?_ ?_<;>intro h<;>try exact zk h|refine zC (cp) ?_|rfl|exact zk h|fail)
 .rw [if_neg hp]
  obtain⟨c,hc⟩:=qai (show p<s.length by omega);have hd:=qbj hc;have cb:qaa Tryz.prog 231 [.str (s.drop p)] (.d (qgU (qah (s.drop p)).1 (qah (s.drop p)).2 0)):=by
   have hdl:(s.drop p).length<=1048576:=by rw [List.length_drop];omega
   rw [hd] at hdl |-;exact qrv c _ hdl
  have hbl:=qdH (s.drop p);rw [List.length_drop] at hbl;generalize qah (s.drop p)=b at cb hbl |-;obtain⟨k,t⟩:=b;simp only at cb hbl |-;have hadd:AV.d (.int .i64 (IntKind.i64.wrap ((p:Int)+(t.length:Int))))=.d (.int .i64 ((p+t.length:Nat):Int)):=vN8 (by omega) (by omega);by_cases hk:k=0
  .rw [if_pos hk]
   subst hk;refine kF Tryz.func188 [] fun w=>?_
   repeat' (first|refine zW ?_|refine zB ?_ ?_<;>intro h<;>try exact zk h|refine zC (cp) ?_|refine zC (cb) ?_|refine oV ?_ (hf:=(by first|(simp [qbR]<;>fail)|(simp [qbR];omega)))|refine eX ?_ (hf:=(by first|(simp [qbR]<;>fail)|(simp [qbR];omega)))|rfl|exact zk h|fail)
  .rw [if_neg hk]
   refine kF Tryz.func188 [] fun w=>?_
   repeat' (first|refine zV hadd ?_|refine zW ?_|refine zB ?_ ?_<;>intro h<;>try exact zk h|refine zC (cp) ?_|refine zC (cb) ?_|refine oV ?_ (hf:=(by first|(simp [qbR]<;>fail)|(simp [qbR];omega)))|refine eX ?_ (hf:=(by first|(simp [qbR]<;>fail)|(simp [qbR];omega)))|rfl|exact zk h|fail)
def qc1 (s:List Nat):Nat->Nat->List DV->List DV × Nat × Nat
 |0,_,_=>([],0,0)
 |n+1,a,acc=>if qaC s a=s.length then(acc,0,0) else if(qah (s.drop (qaC s a))).1=0 then([],3,qaC s a)
  else qc1 s n (qaC s a+(qah (s.drop (qaC s a))).2.length) (acc++[qgU (qah (s.drop (qaC s a))).1 (qah (s.drop (qaC s a))).2 (qaC s a)])
def qbm (s:List Nat):List DV × Nat × Nat:=if 2000<s.length then([],4,2000) else qc1 s (s.length+1) 0 []
abbrev qwR (r:List DV × Nat × Nat):AV:=.tup [.d (.sl 3 r.1),.d (qch r.2.1 r.2.2)]
theorem qst (s:List Nat) (hl:s.length<=1048576):qaa Tryz.prog 104 [.str s] (qwR (qbm s)):=by
 have w:Fz [31]:=trivial;unfold qbm;by_cases h2:2000<s.length
 .rw [if_pos h2]
  refine qf5 qak (fnB Tryz.func104 [31]) ?_
  repeat' (first|refine zW ?_|refine zB ?_ ?_<;>intro h<;>try exact zk h|(refine Yt ?_;refine r2 ?_;first|done|(exact .tup2 .nil .refl))|exact zk h|fail)
 .rw [if_neg h2]
  obtain⟨R,hR⟩:∃ R,R=qc1 s (s.length+1) 0 []:=⟨_,rfl⟩
  rw [<- hR];refine qf5 qak (fnB Tryz.func104 [31]) ?_
  repeat' (first|refine zW ?_|refine zB ?_ ?_<;>intro h<;>try exact zk h|(refine Yt ?_;refine r2 ?_;first|done|(skip))|exact zk h|fail)
  refine Run.mkRoom 4 3 [(0,.d (.str s)),(3,.bp 0 0),(4,.sr 1 3 []),(5,.d (.int .i64 (0:Nat)))] (by kernel_rfl) (qbW (by intro p hp;simp only [List.mem_cons,List.not_mem_nil,or_false] at hp;rcases hp with rfl|rfl|rfl|rfl<;>first|exact .inl ⟨rfl,rfl⟩|exact .inr (by kernel_rfl))) ?_;refine Run.loopT (fun y:Nat × Nat × List DV=>⟨PT.ofList [(0,.d (.str s)),(3,.bp 0 0),(4,.sr 1 3 y.2.2),(5,.d (.int .i64 (y.2.1:Nat)))],[.box [.d (.int .i64 0),.d (.int .i64 0)],.room y.2.2.length 3],[]⟩) (fun y=>y.2.1<=s.length/\y.2.2.length<=y.2.1/\s.length+1<=y.1+y.2.1/\qc1 s y.1 y.2.1 y.2.2=R) (fun y=>s.length-y.2.1) (s.length+1,0,[]) ⟨Nat.zero_le _,Nat.le_refl _,Nat.le_refl _,hR.symm⟩ (ti _ 2) (fun y hy=>?_);obtain⟨n,a,acc⟩:=y;obtain⟨hy1,hy2,hy3,hy4⟩:=hy;simp only at hy1 hy2 hy3 hy4 |-;obtain⟨m,rfl⟩:∃ m,n=m+1:=⟨n-1,by omega⟩
  have cn:=qzj s a hl hy1;have hle:=qdL hy1;have hge:a<=qaC s a:=Nat.le_add_right _ _;unfold qc1 at hy4;unfold nextT at cn;generalize qaC s a=p at cn hle hge hy4;by_cases hp:p=s.length
  .rw [if_pos hp] at cn hy4
   subst hy4
   repeat' (first|refine zW ?_|refine zB ?_ ?_<;>intro h<;>try exact zk h|refine zC (cn) ?_|(refine Yt ?_;refine r2 ?_;first|done|(exact .refl))|exact zk h|fail)
  .rw [if_neg hp] at cn hy4
   obtain⟨c,hc⟩:=qai (show p<s.length by omega);have hd:=qbj hc;have hbl:=qdH (s.drop p);have hbp:(qah (s.drop p)).1≠0->1<=(qah (s.drop p)).2.length:=by rw [hd];exact qdB
   rw [List.length_drop] at hbl;generalize qah (s.drop p)=b at cn hbl hbp hy4;obtain⟨k,t⟩:=b;simp only at cn hbl hbp hy4;by_cases hk:k=0
   .rw [if_pos hk] at cn hy4
    subst hy4
    repeat' (first|refine zW ?_|refine zB ?_ ?_<;>intro h<;>try exact zk h|refine zC (cn) ?_|(refine Yt ?_;refine r2 ?_;first|done|(exact .tup2 .nil .refl))|exact zk h|fail)
   .rw [if_neg hk] at cn hy4
    have ht:=hbp hk
    repeat' (first|refine zW ?_|refine zB ?_ ?_<;>intro h<;>try exact zk h|refine zC (cn) ?_|refine zAp ?_|(refine Yt ?_;refine r2 ?_;first|done|(skip))|exact zk h|fail)
    exact⟨(m,p+t.length,acc++[qgU k t p]),⟨by simp only<;>omega,by simp only [List.length_append,List.length_cons,List.length_nil]<;>omega,by simp only<;>omega,hy4⟩,by simp only<;>omega,(ti _ 2 (Eq.trans (b:=[.box [.d (.int .i64 0),.d (.int .i64 0)],.room (acc.length+1) 3]) rfl (by first|rfl|(simp [qxM,qyd,qkX]<;>fail))))⟩
abbrev qdJ (x:Lx):DV:=qgU x.k x.t x.a
abbrev qeJ (s:List Nat) (ls:List Lx) (r:RS):Ob:=.box [.d (.str s),.d (.sl 3 (ls.map qdJ)),.d (.int .i64 (r.pos:Nat)),.d (.int .i64 (r.f.1:Nat)),.d (.int .i64 (r.f.2:Nat)),.d (.int .i64 (r.alts:Nat)),.d (.int .i64 r.x.k),.sr 1 1 (r.x.tokens.map .str),.d (.str r.x.sep),.d (.str r.x.start),.sr 2 2 (r.x.rules.map qbV)]
abbrev rO (s:List Nat) (ls:List Lx) (r:RS):List Ob:=[qeJ s ls r,.room r.x.tokens.length 1,.room r.x.rules.length 2]
structure Bd (s:List Nat) (ls:List Lx) (r:RS):Prop where
 s:s.length<=1048576
 l:ls.length<=1048576
 pos:r.pos<=16777216
 alts:r.alts<=16777216
 toks:r.x.tokens.length<=2097152
 rules:r.x.rules.length<=1048576
 len:∀ x ∈ ls,x.t.length<=1048576
theorem qpH (s:List Nat) (ls:List Lx) (r:RS) (h0:r.f.1=0):ACall Tryz.prog 106 [.bp 0 0] (rO s ls r) (.d (.bool true)) (rO s ls r):=by
 have w:Fz []:=trivial;unfold rO qeJ;rw [h0];refine qad qak (fnB Tryz.func106 []) rfl rfl rfl rfl rfl ?_
 repeat' (first|refine zW ?_|refine zB ?_ ?_<;>intro h<;>try exact zk h|(((first|refine Yt ?_|skip);exact⟨trivial,_,_,rfl,rfl,.refl,wkE⟩))|exact zk h|fail)
theorem qpv (s:List Nat) (ls:List Lx) (r:RS) (h0:r.f.1≠0):ACall Tryz.prog 106 [.bp 0 0] (rO s ls r) (.d (.bool false)) (rO s ls r):=by
 have w:Fz []:=trivial;have hv:AV.d (.bool (decide (((r.f.1:Nat):Int)=0)))=.d (.bool false):=by rw [decide_eq_false (by omega)]
 refine qad qak (fnB Tryz.func106 []) rfl rfl rfl rfl rfl ?_
 repeat' (first|refine zW ?_|refine zB ?_ ?_<;>intro h<;>try exact zk h|(((first|refine Yt ?_|skip);exact⟨trivial,_,_,rfl,rfl,.refl,wkE⟩))|exact zk h|fail)
theorem qAV (s:List Nat) (ls:List Lx) (r:RS):ACall Tryz.prog 106 [.bp 0 0] (rO s ls r) (.d (.bool (decide (r.f.1=0)))) (rO s ls r):=by
 by_cases h0:r.f.1=0
 .rw [decide_eq_true h0];exact qpH s ls r h0
 .rw [decide_eq_false h0];exact qpv s ls r h0
theorem qe5 (s:List Nat) (ls:List Lx) (r:RS) (e a:Nat):ACall Tryz.prog 191 [.bp 0 0,.d (.int .i64 (e:Nat)),.d (.int .i64 (a:Nat))] (rO s ls r) (.tup []) (rO s ls (qaw e a r)):=by
 have w:Fz []:=trivial;by_cases h0:r.f.1=0
 .have c0:=qpH s ls r h0
  rw [show qaw e a r={ r with f:=(e,a) } by simp [qaw,h0]];refine qad qak (fnB Tryz.func191 []) rfl rfl rfl rfl rfl ?_
  repeat' (first|refine zW ?_|refine zB ?_ ?_<;>intro h<;>try exact zk h|refine oF (c0) ?_|refine eF (c0) ?_|(((first|refine Yt ?_|skip);exact⟨trivial,_,_,rfl,rfl,.refl,wkE⟩))|exact zk h|fail)
 .have c0:=qpv s ls r h0
  rw [show qaw e a r=r by simp [qaw,h0]];refine qad qak (fnB Tryz.func191 []) rfl rfl rfl rfl rfl ?_
  repeat' (first|refine zW ?_|refine zB ?_ ?_<;>intro h<;>try exact zk h|refine oF (c0) ?_|refine eF (c0) ?_|(((first|refine Yt ?_|skip);exact⟨trivial,_,_,rfl,rfl,.refl,wkE⟩))|exact zk h|fail)
theorem qpU (s:List Nat) (ls:List Lx) (r:RS) (hb:Bd s ls r):ACall Tryz.prog 194 [.bp 0 0] (rO s ls r) (.d (qdJ (qaF s ls r).1)) (rO s ls (qaF s ls r).2):=by
 have w:Fz []:=trivial;obtain⟨b1,b2,b3,b4,b5,b6,b7⟩:=hb;rcases Nat.lt_or_ge r.pos ls.length with hlt|hge
 .obtain⟨x,hx⟩:=qai hlt
  have he:qaF s ls r=(x,r):=by simp [qaF,hx]
  rw [he];refine qad qak (fnB Tryz.func194 []) rfl rfl rfl rfl rfl ?_
  repeat' (first|refine zW ?_|refine zB ?_ ?_<;>intro h<;>try exact zk h|refine zI w (.d (.ep [.int .i64 (x.k:Nat),.str x.t,.int .i64 (x.a:Nat)])) hx ?_|(((first|refine Yt ?_|skip);exact⟨trivial,_,_,rfl,rfl,.refl,wkE⟩))|exact zk h|fail)
 .have he:qaF s ls r=(lx0,qaw 5 s.length r):=by simp [qaF,List.getElem?_eq_none hge]
  have c0:=qe5 s ls r 5 s.length;rw [he];generalize qaw 5 s.length r=r' at c0 |-;refine qad qak (fnB Tryz.func194 []) rfl rfl rfl rfl rfl ?_
  repeat' (first|refine zW ?_|refine zB ?_ ?_<;>intro h<;>try exact zk h|refine oF (c0) ?_|refine eF (c0) ?_|(((first|refine Yt ?_|skip);exact⟨trivial,_,_,rfl,rfl,.refl,wkE⟩))|exact zk h|fail)
theorem qs5 (s:List Nat) (ls:List Lx) (r:RS) (hb:Bd s ls r):ACall Tryz.prog 190 [.bp 0 0] (rO s ls r) (.d (qdJ (qa5 s ls r).1)) (rO s ls (qa5 s ls r).2):=by
 have w:Fz []:=trivial;have c0:=qpU s ls r hb;have hp:(qaF s ls r).2.pos=r.pos:=by unfold qaF;split<;>simp [qaw];split<;>rfl
 have hb3:=hb.pos;unfold qa5;generalize qaF s ls r=p at c0 hp |-;obtain⟨x,r1⟩:=p;simp only at c0 hp |-;have hinc:AV.d (.int .i64 (IntKind.i64.wrap ((r1.pos:Int)+1)))=.d (.int .i64 ((r1.pos+1:Nat):Int)):=congrArg (fun x=>AV.d (.int .i64 x)) ((congrArg IntKind.i64.wrap (show(r1.pos:Int)+1=((r1.pos+1:Nat):Int) by omega)).trans (qaT (by omega)));refine qad qak (fnB Tryz.func190 []) rfl rfl rfl rfl rfl ?_
 repeat' (first|refine zV hinc ?_|refine zW ?_|refine zB ?_ ?_<;>intro h<;>try exact zk h|refine oF (c0) ?_|refine eF (c0) ?_|(((first|refine Yt ?_|skip);exact⟨trivial,_,_,rfl,rfl,.refl,wkE⟩))|exact zk h|fail)
theorem qAg (x:Lx) (k:Nat) (t:List Nat) (h1:x.k=k/\x.t=t):qaa Tryz.prog 232 [qdJ x,.int .i64 (k:Nat),.str t] (.d (.bool true)):=by
 obtain⟨h1,h2⟩:=h1;subst h1 h2;refine kF Tryz.func232 [] fun w=>?_
 repeat' (first|refine zW ?_|refine zB ?_ ?_<;>intro h<;>try exact zk h|(show _=_;(refine congrArg (fun b=>AV.d (.bool b)) ?_;simp_all))|exact zk h|fail)
theorem qAd (x:Lx) (k:Nat) (t:List Nat) (h1:¬ (x.k=k/\x.t=t)):qaa Tryz.prog 232 [qdJ x,.int .i64 (k:Nat),.str t] (.d (.bool false)):=by
 refine kF Tryz.func232 [] fun w=>?_
 repeat' (first|refine zW ?_|refine zB ?_ ?_<;>intro h<;>try exact zk h|(show _=_;(refine congrArg (fun b=>AV.d (.bool b)) ?_;simp_all<;>omega))|exact zk h|fail)
theorem qjE (s:List Nat) (ls:List Lx) (r:RS) (k:Nat) (t:List Nat) (hb:Bd s ls r):ACall Tryz.prog 189 [.bp 0 0,.d (.int .i64 (k:Nat)),.d (.str t)] (rO s ls r) (.tup []) (rO s ls (qaG s ls k t r)):=by
 have w:Fz []:=trivial;have c0:=qs5 s ls r hb;unfold qaG;generalize qa5 s ls r=p at c0 |-;obtain⟨x,r1⟩:=p;simp only at c0 |-;by_cases h0:r1.f.1=0
 .have c1:=qpH s ls r1 h0
  by_cases hc:x.k=k/\x.t=t
  .have c2:=qAg x k t hc
   rw [show qeP k t (x,r1)=r1 by simp [qeP,hc]];refine qad qak (fnB Tryz.func189 []) rfl rfl rfl rfl rfl ?_
   repeat' (first|refine zW ?_|refine zB ?_ ?_<;>intro h<;>try exact zk h|refine oF (c0) ?_|refine eF (c0) ?_|refine oF (c1) ?_|refine eF (c1) ?_|refine zC (c2) ?_|(((first|refine Yt ?_|skip);exact⟨trivial,_,_,rfl,rfl,.refl,wkE⟩))|exact zk h|fail)
  .have c2:=qAd x k t hc
   have c3:=qe5 s ls r1 3 x.a;rw [show qeP k t (x,r1)=qaw 3 x.a r1 by simp only [qeP];rw [if_pos ⟨h0,hc⟩]];generalize qaw 3 x.a r1=r2 at c3 |-;refine qad qak (fnB Tryz.func189 []) rfl rfl rfl rfl rfl ?_
   repeat' (first|refine zW ?_|refine zB ?_ ?_<;>intro h<;>try exact zk h|refine oF (c0) ?_|refine eF (c0) ?_|refine oF (c1) ?_|refine eF (c1) ?_|refine oF (c3) ?_|refine eF (c3) ?_|refine zC (c2) ?_|(((first|refine Yt ?_|skip);exact⟨trivial,_,_,rfl,rfl,.refl,wkE⟩))|exact zk h|fail)
 .have c1:=qpv s ls r1 h0
  rw [show qeP k t (x,r1)=r1 by simp [qeP,h0]];refine qad qak (fnB Tryz.func189 []) rfl rfl rfl rfl rfl ?_
  repeat' (first|refine zW ?_|refine zB ?_ ?_<;>intro h<;>try exact zk h|refine oF (c0) ?_|refine eF (c0) ?_|refine oF (c1) ?_|refine eF (c1) ?_|(((first|refine Yt ?_|skip);exact⟨trivial,_,_,rfl,rfl,.refl,wkE⟩))|exact zk h|fail)
abbrev qun (v:Bool × Bool × Bool):DV:=.agg [.bool v.1,.bool v.2.1,.bool v.2.2]
abbrev qp8 (u:List Nat × Nat):DV:=.agg [.str u.1,.int .i64 (u.2:Nat)]
abbrev kvN (l:List (List Nat × Bool × Bool × Bool)):List (DV × DV):=(l.map fun p=>(p.1,qun p.2)).map fun p=>(.str p.1,p.2)
abbrev qqf (s:List Nat) (p:PS):Ob:=.box [.d (.str s),.d (.sl 3 (p.l.map qdJ)),.d (.int .i64 p.x.k),.sr 1 1 (p.x.tokens.map .str),.d (.str p.x.sep),.d (.str p.x.start),.sr 2 2 (p.x.rules.map qbV),.mp 3,.sr 4 2 (p.uses.map qp8),.d (.int .i64 (p.total:Nat))]
abbrev pO (s:List Nat) (p:PS):List Ob:=[qqf s p,.room p.x.tokens.length 1,.room p.x.rules.length 2,.map (kvN p.names),.room p.uses.length 2]
abbrev pE (p:PS):List Ob:=[.box [.d .any,.d .any,.d .any,.sr 1 1 (p.x.tokens.map .str),.d .any,.d .any,.d .any,.d .any,.d .any,.d .any],.room p.x.tokens.length 1,.gone,.gone,.gone]
abbrev qoE (e:Fa):DV:=.iface 113 (.agg [.int .i64 (e.1:Nat),.int .i64 (e.2:Nat)])
section
variable {E:PT Ty} {H:Hd} {frz:List Nat} {rd:Operand->AV} {objs:List Ob} {o:Oper}
theorem qoX (l:List (List Nat × Bool × Bool × Bool)) (s:List Nat):(l.map fun p=>(p.1,qun p.2)).findIdx? (fun p=>p.1 == s)=l.findIdx? (fun p=>p.1 == s):=by
 rw [List.findIdx?_map];rfl
theorem qbr {t kt et:TypeId} {y yk:Ty} {yt:Ty} {m k:Operand} {i:Nat} (l:List (List Nat × Bool × Bool × Bool)) (s:List Nat) (hop:o.op=.lookup t m k false:=by rfl) (h1:E.get? t=some yt:=by rfl) (h2:yt.desc=.map kt et:=by rfl) (h3:E.get? et=some y:=by rfl) (h4:E.get? kt=some yk:=by rfl) (h5:yk.desc=.string:=by rfl)
  (hm:rd m=.mp i:=by rfl) (hi:objs[i]?=some (.map (kvN l)):=by rfl) (hk:rd k=.d (.str s):=by rfl) (hz:qkH y=some (qun (false,false,false)):=by rfl) :
  qax E H frz rd objs o=some (.d (qun (qdD l s)),none,true):=by
 have hf:=qcU (E:=E) (t:=kt) s (l.map fun p=>(p.1,qun p.2));rw [qoX] at hf;cases hj:l.findIdx? (fun p=>p.1 == s) with
 |none =>
  rw [hj] at hf;rw [qbJ hop h1 h2 h3 h4 h5 hm hi hk hf hz];simp [qdD,hj]
 |some j =>
  obtain⟨g1,_,_⟩:=List.findIdx?_eq_some_iff_getElem.1 hj;rw [hj] at hf;simp only [Option.bind_some,List.getElem?_map,List.getElem?_eq_getElem g1,Option.map_some] at hf;rw [qbJ hop h1 h2 h3 h4 h5 hm hi hk hf hz];simp [qdD,hj,g1]
theorem qiw {t kt et:TypeId} {yk:Ty} {yt:Ty} {m k v:Operand} {i:Nat} (l:List (List Nat × Bool × Bool × Bool)) (s:List Nat) (u:Bool × Bool × Bool) (hop:o.op=.mapUpdate t m k v:=by rfl) (h1:E.get? t=some yt:=by rfl) (h2:yt.desc=.map kt et:=by rfl) (h4:E.get? kt=some yk:=by rfl) (h5:yk.desc=.string:=by rfl)
  (hm:rd m=.mp i:=by rfl) (hi:objs[i]?=some (.map (kvN l)):=by rfl) (hk:rd k=.d (.str s):=by rfl) (hd:rd v=.d (qun u):=by rfl) :
  qax E H frz rd objs o=some (.d .any,some (objs.set i (.map (kvN (qp4 l s u)))),true):=by
 have hf:=qcU (E:=E) (t:=kt) s (l.map fun p=>(p.1,qun p.2));rw [qoX] at hf;unfold qp4;cases hj:l.findIdx? (fun p=>p.1 == s) with
 |none =>
  rw [hj] at hf;rw [qcE hop h1 h2 h4 h5 hm hi hk hd hf]
  simp
 |some j =>
  obtain⟨g1,g2,_⟩:=List.findIdx?_eq_some_iff_getElem.1 hj;have g2:l[j].1=s:=by simpa using g2
  rw [hj] at hf;simp only [Option.bind_some,List.getElem?_map,List.getElem?_eq_getElem g1,Option.map_some] at hf;rw [qil hop h1 h2 h4 h5 hm hi hk hd hf];have:(kvN l).modify j (fun p=>(p.1,qun u))=kvN (l.set j (s,u)):=by
   apply List.ext_getElem?;intro n;simp only [List.getElem?_modify,List.getElem?_map,List.getElem?_set];by_cases hn:j=n
   .subst hn
    simp [g1,g2]
   .simp only [hn,if_false]
    cases l[n]?<;>simp
  rw [this]
end
theorem qsY {l:List DV} {a:DV}:AV.d (.sl 3 (qdQ (some 1) none (a :: l)))=.d (.sl 3 l):=by simp [qdQ]
theorem qf1 (s:List Nat) (p:PS) (e a:Nat):ACall Tryz.prog 180 [.bp 0 0,.d (.int .i64 (e:Nat)),.d (.int .i64 (a:Nat))] (pO s p) (.pan (qoE (e,a))) (pE p):=by
 have w:Fz []:=trivial;refine qaj (fnB Tryz.func180 []) rfl rfl rfl rfl ?_
 repeat' (first|refine zW ?_|refine zB ?_ ?_<;>intro h<;>try exact zk h|refine qAo ?_|(exact⟨rfl,rfl,wkE⟩)|fail)
theorem qjn (s:List Nat) (p:PS) (x:Lx) (l:List Lx) (hl:p.l=x :: l):ACall Tryz.prog 179 [.bp 0 0] (pO s p) (.d (qdJ x)) (pO s { p with l:=l }):=by
 have w:Fz []:=trivial;unfold pO qqf;rw [hl,List.map_cons];refine qad qak (fnB Tryz.func179 []) rfl rfl rfl rfl rfl ?_;have hcut:=qsY (l:=l.map qdJ) (a:=qdJ x)
 repeat' (first|refine zW ?_|refine zB ?_ ?_<;>intro h<;>try exact zk h|refine oV (v:=.d (.sl 3 (l.map qdJ))) ?_ (he:=hcut) (hf:=by first|(simp [qbR,qjZ]<;>fail)|(simp [qbR,qjZ];omega))|refine zI w (.d (.ep [.int .i64 (x.k:Nat),.str x.t,.int .i64 (x.a:Nat)])) hl ?_|(((first|refine Yt ?_|skip);exact⟨trivial,_,_,rfl,rfl,.refl,wkE⟩))|exact zk h|fail)
theorem qia (s:List Nat) (p:PS) (hl:p.l=[]):ACall Tryz.prog 179 [.bp 0 0] (pO s p) (.pan (qoE (5,s.length))) (pE p):=by
 have w:Fz []:=trivial;have c0:=qf1 s p 5 s.length;unfold pO qqf at c0 |-;rw [hl] at c0 |-;refine qaj (fnB Tryz.func179 []) rfl rfl rfl rfl ?_
 repeat' (first|refine zW ?_|refine zB ?_ ?_<;>intro h<;>try exact zk h|refine oFP (c0) ?_|(exact⟨rfl,rfl,wkE⟩)|exact zk h|fail)
section
variable {s:List Nat} {ls:List Lx}
theorem qkw {r:RS} {e a:Nat} (h:r.f.1≠0):qaw e a r=r:=by simp [qaw,h]
theorem qiK {r:RS} (h:r.f.1≠0):(qaF s ls r).2=r:=by
 unfold qaF;split
 .rfl
 .exact qkw h
theorem qnX {r:RS} (h:r.f.1≠0):(qa5 s ls r).2.f=r.f:=by simp [qa5,qiK h]
theorem qvq {k:Nat} {t:List Nat} {p:Lx × RS} (h:p.2.f.1≠0):qeP k t p=p.2:=by simp [qeP,h]
theorem qaY {k:Nat} {t:List Nat} {r:RS} (h:r.f.1≠0):(qaG s ls k t r).f=r.f:=by
 have:=qnX (s:=s) (ls:=ls) h;unfold qaG;rw [qvq (by rw [this];exact h),this]
theorem qlg {t:List Nat} {r:RS} (h:r.f.1≠0):qbu ls t r=(false,r):=by simp [qbu,h]
theorem qu6 {c:Bool} {p:Lx × RS} (h:p.2.f.1≠0):(qfo c p).2=p.2:=by simp [qfo,h]
theorem qhg {c:Bool} {r:RS} (h:r.f.1≠0):(qbt s ls c r).2.f=r.f:=by
 have:=qnX (s:=s) (ls:=ls) h;unfold qbt;rw [qu6 (by rw [this];exact h),this]
theorem ql4 {l:List (List Nat)} {t:List Nat} {a:Nat} {r:RS} (h:r.f.1≠0):qgj l t a r=r:=by unfold qgj;split<;>simp [qkw h]
theorem qiO {n w a:Nat} {r:RS} (h:r.f.1≠0):qa7 n w a r=r:=by unfold qa7;split<;>simp [qkw h]
theorem qeT {n:Nat} {r:RS} (h:r.f.1≠0):qaL s ls n r=r:=by cases n<;>simp [qaL,h]
theorem qoh {r:RS} (h:r.f.1≠0):(qso s ls r).f=r.f:=by
 have h1:=qaY (s:=s) (ls:=ls) (k:=1) (t:=qf2) h;have h1':(qaG s ls 1 qf2 r).f.1≠0:=by rw [h1];exact h
 have h2:=qiK (s:=s) (ls:=ls) h1';have h3:(qbt s ls false (qaF s ls (qaG s ls 1 qf2 r)).2).2.f=r.f:=by rw [h2,qhg h1',h1]
 simp only [qso];rw [ql4 (by simp only [h3];exact h),qaY (by simp only [h3];exact h)];exact h3
theorem qkA {r:RS} (h:r.f.1≠0):(qdU s ls r).2.f=r.f:=by
 have h1:=qaY (s:=s) (ls:=ls) (k:=1) (t:=qbk) h;have h1':(qaG s ls 1 qbk r).f.1≠0:=by rw [h1];exact h
 have h2:=qiK (s:=s) (ls:=ls) h1';have h3:(qbt s ls true (qaF s ls (qaG s ls 1 qbk r)).2).2.f=r.f:=by rw [h2,qhg h1',h1]
 simp only [qdU];rw [qaY (by simp only [h3];exact h)];exact h3
theorem qm1 {n:Nat} {acc:List (List Nat)} {r:RS} (h:r.f.1≠0):qgi s ls n acc r=(acc,r):=by cases n<;>simp [qgi,h]
theorem qkI {n:Nat} {b:Bool} {r:RS} (h:r.f.1≠0):qcI s ls n b r=r:=by cases n<;>simp [qcI,h]
structure Rel (ls:List Lx) (r:RS) (p:PS):Prop where
 f:r.f=(0,0)
 l:p.l=ls.drop r.pos
 x:r.x=p.x
 n:r.alts=p.total
def Ok (ls:List Lx) (r:RS) (Q:PS->Prop):Except Fa PS->Prop
 |.ok q=>Rel ls r q/\Q q
 |.error e=>r.f=e/\e.1≠0
theorem Rel.f0 {r:RS} {p:PS} (h:Rel ls r p):r.f.1=0:=by rw [h.f]
theorem qk5 {i:Nat} {x:Lx} (h:ls[i]?=some x):ls.drop i=x :: ls.drop (i+1):=by
 obtain⟨h1,h2⟩:=List.getElem?_eq_some_iff.1 h;rw [List.drop_eq_getElem_cons h1,h2]
theorem Rel.cases {r:RS} {p:PS} (h:Rel ls r p):(∃ x,ls[r.pos]?=some x/\p.l=x :: ls.drop (r.pos+1)/\qaF s ls r=(x,r)/\qa5 s ls r=(x,{ r with pos:=r.pos+1 })/\qce s p=.ok (x,{ p with l:=ls.drop (r.pos+1) }) /\
   Rel ls { r with pos:=r.pos+1 } { p with l:=ls.drop (r.pos+1) }) \/
  (ls[r.pos]?=none/\p.l=[]/\qaF s ls r=(lx0,{ r with f:=(5,s.length) })/\qa5 s ls r=(lx0,{ r with f:=(5,s.length),pos:=r.pos+1 })/\qce s p=.error (5,s.length)):=by
 have h0:=h.f0;cases hx:ls[r.pos]? with
 |some x =>
  have hl:=h.l;rw [qk5 hx] at hl;refine .inl ⟨x,rfl,hl,by simp [qaF,hx],by simp [qa5,qaF,hx],by simp [qce,hl],⟨h.f,rfl,h.x,h.n⟩⟩
 |none =>
  have hl:=h.l;rw [List.drop_eq_nil_of_le (List.getElem?_eq_none_iff.1 hx)] at hl;exact .inr ⟨rfl,hl,by simp [qaF,hx,qaw,h0],by simp [qa5,qaF,hx,qaw,h0],by simp [qce,hl]⟩
theorem qdi {r:RS} {p:PS} (h:Rel ls r p) (k:Nat) (t:List Nat):Ok ls (qaG s ls k t r) (fun q=>q={ p with l:=ls.drop (r.pos+1) }/\q.l.length<p.l.length/\(qaG s ls k t r).pos=r.pos+1/\∃ x,ls[r.pos]?=some x/\x.k=k/\x.t=t) (qa3 s k t p):=by
 have h0:=h.f0;rcases h.cases (s:=s) with⟨x,hx,hl,_,e1,e2,hr⟩|⟨hx,hl,_,e1,e2⟩
 .by_cases hc:x.k=k/\x.t=t
  .have e:qaG s ls k t r={ r with pos:=r.pos+1 }:=by simp [qaG,qeP,e1,hc]
   simp only [qa3,e2,Except.bind,hc,and_self,if_true,Ok,e];exact⟨hr,(by first|exact trivial|rfl),by rw [hl];simp,(by first|exact trivial|rfl),x,hx,hc.1,hc.2⟩
  .simp only [qa3,e2,Except.bind,hc,if_false,Ok,qaG,qeP,e1,h0,not_false_iff,and_self,if_true,qaw]
   exact⟨(by first|exact trivial|rfl),by simp⟩
 .simp [qa3,e2,Except.bind,Ok,qaG,qeP,e1]
theorem qlq {r:RS} {p:PS} (h:Rel ls r p) (c:Bool):match qcb s (if c then qae else qap) p with
  |.ok q=>q.2={ p with l:=ls.drop (r.pos+1) }/\q.2.l.length<p.l.length/\qaF s ls r=(q.1,r)/\qbt s ls c r=(q.1.t,{ r with pos:=r.pos+1 })/\Rel ls { r with pos:=r.pos+1 } q.2/\(if c then qae else qap) q.1.t=true/\ls[r.pos]?=some q.1/\q.1.k=1
  |.error e=>e.1≠0/\((qaF s ls r).2=r/\(qbt s ls c r).2.f=e\/(qaF s ls r).2.f=e):=by
 have h0:=h.f0;rcases h.cases (s:=s) with⟨x,hx,hl,e0,e1,e2,hr⟩|⟨hx,hl,e0,e1,e2⟩
 .by_cases hk:x.k=1
  .by_cases hc:(if c then qae else qap) x.t=true
   .have hc':(if c=true then qae x.t else qap x.t)=true:=by cases c<;>simpa using hc
    simp only [qcb,e2,Except.bind,hk,ne_eq,not_true,if_false,hc,if_true];refine⟨trivial,by rw [hl];simp,e0,?_,hr,trivial,hx,trivial⟩;simp [qbt,qfo,e1,h0,hk,hc']
   .have hc':¬ (if c=true then qae x.t else qap x.t)=true:=by cases c<;>simpa using hc
    simp only [qcb,e2,Except.bind,hk,ne_eq,not_true,if_false,hc];refine⟨by simp,.inl ⟨by rw [e0],?_⟩⟩;simp [qbt,qfo,e1,h0,hk,hc',qaw]
  .simp only [qcb,e2,Except.bind,hk,ne_eq,not_false_iff,if_true]
   refine⟨by simp,.inl ⟨by rw [e0],?_⟩⟩;simp [qbt,qfo,e1,h0,hk,qaw]
 .simp only [qcb,e2,Except.bind]
  exact⟨by simp,.inr (by rw [e0])⟩
theorem qh6 {r:RS} {c:Bool} {e:Fa} (he:e.1≠0) (h:(qaF s ls r).2=r/\(qbt s ls c r).2.f=e\/(qaF s ls r).2.f=e):(qbt s ls c (qaF s ls r).2).2.f=e:=by
 rcases h with⟨h1,h2⟩|h1
 .rw [h1,h2]
 .rw [qhg (by rw [h1];exact he),h1]
theorem qiC {l:List (List Nat × Bool × Bool × Bool)} {t u:List Nat} {v:Bool × Bool × Bool}:qdD (qp4 l t v) u=if u=t then v else qdD l u:=by
 have gen:∀ l:List (List Nat × Bool × Bool × Bool),qdD l u=((l.find? (fun p=>p.1 == u)).map (·.2)).getD (false,false,false):=by
  intro l;unfold qdD
  congr 1
  induction l with
  |nil=>rfl
  |cons a l ih =>
   rw [List.findIdx?_cons,List.find?_cons];cases ha:a.1 == u with
   |true=>simp
   |false =>
    simp only [Bool.false_eq_true,if_false];rw [<- ih];cases l.findIdx? (fun p=>p.1 == u)<;>simp
 rw [gen,gen];unfold qp4;split
 .rename_i i hi
  obtain⟨h1,h2,h3⟩:=List.findIdx?_eq_some_iff_getElem.1 hi;have h2:l[i].1=t:=by simpa using h2
  have hsp:l=l.take i++l[i] :: l.drop (i+1):=by rw [<- List.drop_eq_getElem_cons h1,List.take_append_drop]
  have hset:l.set i (t,v)=l.take i++(t,v) :: l.drop (i+1):=by
   apply List.ext_getElem?;intro j;rw [List.getElem?_set];rcases Nat.lt_trichotomy j i with hj|hj|hj
   .rw [if_neg (by omega),List.getElem?_append_left (by simp;omega),List.getElem?_take,if_pos hj]
   .subst hj
    rw [if_pos rfl,if_pos h1,List.getElem?_append_right (by simp;omega)];simp [Nat.min_eq_left (Nat.le_of_lt h1)]
   .rw [if_neg (by omega),List.getElem?_append_right (by simp;omega)]
    obtain⟨d,rfl⟩:∃ d,j=i+1+d:=⟨j-(i+1),by omega⟩
    rw [List.length_take,Nat.min_eq_left (Nat.le_of_lt h1),show i+1+d-i=d+1 by omega]
    simp
  have hno:∀ u',(u'=t)->(l.take i).find? (fun p=>p.1 == u')=none:=by
   intro u' e;subst e;rw [List.find?_eq_none];intro x hx;obtain⟨j,hj,e⟩:=List.getElem_of_mem hx;have hj':j<i:=by simp at hj;omega
   have:=h3 j hj';rw [List.getElem_take] at e;subst e;simpa using this
  rw [hset]
  conv=>rhs;rw [hsp]
  rw [List.find?_append,List.find?_append,List.find?_cons,List.find?_cons];by_cases hu:u=t
  .rw [if_pos hu,hno u hu];simp [hu]
  .rw [if_neg hu]
   have a1:(t == u)=false:=by simpa using fun e=>hu e.symm
   have a2:(l[i].1 == u)=false:=by rw [h2];exact a1
   simp only [a1,a2]
 .rename_i hi
  have hno:∀ x ∈ l,¬ x.1=t:=by
   intro x hx;have:=List.findIdx?_eq_none_iff.1 hi x hx;simpa using this
  rw [List.find?_append];by_cases hu:u=t
  .subst hu
   rw [if_pos rfl,List.find?_eq_none.2 (by simpa using hno)]
   simp
  .rw [if_neg hu]
   have a1:(t == u)=false:=by simpa using fun e=>hu e.symm
   cases hf:l.find? (fun p=>p.1 == u)<;>simp [a1]
theorem qfi {t:List Nat} (h:qap t=true):qae t=false:=by
 simp only [qap,qae,Bool.and_eq_true,decide_eq_true_eq] at h |-;rw [decide_eq_false (show ¬ t.getD 0 0<97 by omega),Bool.and_false]
theorem ql1 {l:List (List Nat)} {t u:List Nat}:qc8 (l++[t]) u=(qc8 l u || decide (t=u)):=by simp [qc8]
def NH (p:PS):Prop:=(∀ t,qdD p.names t=(qc8 p.x.tokens t,false,false))/\(∀ t ∈ p.x.tokens,qap t=true)/\p.uses=[]/\p.x.rules=[]
theorem qlw {r:RS} {p:PS} (h:Rel ls r p) (hn:NH p):Ok ls (qbI s ls r) (fun q=>NH q/\q.l.length+1=p.l.length) (qeM s p):=by
 have hw:=qlq (s:=s) h false;simp only [Bool.false_eq_true,if_false] at hw;unfold qeM qa8;cases hq:qcb s qap p with
 |error e =>
  rw [hq] at hw;have h1:=qh6 hw.1 hw.2;have h3:(qbt s ls false (qaF s ls r).2).2.f.1≠0:=by rw [h1];exact hw.1
  simp only [Except.bind,Ok,qbI];rw [ql4 h3,qiO h3];exact⟨h1,hw.1⟩
 |ok q =>
  rw [hq] at hw;obtain⟨e0,_,e1,e2,e3,e4,e5,_⟩:=hw;obtain⟨x,q⟩:=q;simp only at e0 e1 e2 e3 e4 e5;have h0:=h.f0;have hl:q.l.length+1=p.l.length:=by rw [h.l,qk5 e5,e0];rfl
  have hkn:qdD q.names x.t=(qc8 p.x.tokens x.t,false,false):=by rw [e0];exact hn.1 _
  have hqt:q.x.tokens=p.x.tokens:=by rw [e0]
  simp only [Except.bind,qbI,e1,e2,hkn,hqt];have hrt:r.x.tokens=p.x.tokens:=by rw [h.x]
  by_cases hh:qc8 p.x.tokens x.t=true
  .rw [if_pos (by simp [hh])]
   refine⟨?_,by simp⟩;simp only [qgj,hrt,hh,if_true];rw [qiO (by simp [qaw,h0])];simp [qaw,h0]
  .have hh:qc8 p.x.tokens x.t=false:=by simpa using hh
   rw [if_neg (by simp [hh])];simp only [qgj,hrt,hh,Bool.false_eq_true,if_false,true_and];by_cases h8:p.x.tokens.length=8
   .rw [if_pos h8]
    refine⟨?_,by simp⟩;simp [qa7,hrt,h8,qaw,h0]
   .rw [if_neg h8]
    simp only [qa7,hrt,h8,if_false,Ok];refine⟨⟨h.f,e3.l,?_,e3.n⟩,⟨fun t=>?_,?_,?_,?_⟩,hl⟩
    .have:=h.x
     simp only [hqt,hrt,e0,this]
    .simp only [qiC,ql1]
     by_cases ht:t=x.t
     .subst ht;simp
     .rw [if_neg ht,show q.names=p.names by rw [e0],hn.1]
      simp [show ¬ x.t=t from fun e=>ht e.symm,hqt]
    .intro t ht
     simp only [List.mem_append,List.mem_singleton] at ht;rcases ht with ht|rfl
     .exact hn.2.1 t (by rw [<- hqt];exact ht)
     .exact e4
    .rw [e0];exact hn.2.2.1
    .rw [e0];exact hn.2.2.2
theorem qsB {t:List Nat} {l:List Lx} (h:isL t l=true):∃ x l',l=x :: l'/\x.k=3/\x.t=t:=by
 cases l with
 |nil=>cases h
 |cons x l'=>exact⟨x,l',rfl,by simpa [isL] using h⟩
theorem qkk:∀ (n m:Nat) {r:RS} {p:PS},Rel ls r p->NH p->p.l.length<n->p.l.length<=m->Ok ls (qaL s ls n r) NH ((qeM s p).bind fun p=>qcm s m p)
 |0,_,_,_,_,_,hn,_=>by omega
 |n+1,m,r,p,h,hN,hn,hm=>by
  have ht:=qlw (s:=s) h hN;simp only [qaL,h.f0,if_true];cases hq:qeM s p with
  |error e =>
   rw [hq] at ht;simp only [Except.bind,Ok];rw [qlg (by rw [ht.1];exact ht.2)];exact ht
  |ok q =>
   rw [hq] at ht;obtain⟨hr,hN',hl⟩:=ht;simp only [Except.bind];obtain⟨m,rfl⟩:∃ k,m=k+1:=⟨m-1,by omega⟩
   unfold qcm;rw [hr.l];cases hc:isL qdF (ls.drop (qbI s ls r).pos) with
   |false=>simp only [qbu,hr.f0,hc];exact⟨hr,hN'⟩
   |true =>
    simp only [qbu,hr.f0,hc,and_self,if_true];rcases hr.cases (s:=s) with⟨x,hx,hl2,_,_,e2,hr2⟩|⟨hx,hl2,_,_,e2⟩
    .rw [e2]
     simp only [Except.bind];have hl3:({ q with l:=ls.drop ((qbI s ls r).pos+1) }:PS).l.length+1=q.l.length:=by rw [hl2];rfl
     exact qkk n m hr2 hN' (by omega) (by omega)
    .rw [hr.l] at hl2
     rw [hl2] at hc;cases hc
end
abbrev qyW (s:List Nat) (p:PS):Except Fa PS->List Ob
 |.ok q=>pO s q
 |.error _=>pE p
abbrev qsi:Except Fa PS->AV
 |.ok _=>.tup []
 |.error e=>.pan (qoE e)
structure PB (p:PS):Prop where
 len:∀ x ∈ p.l,x.t.length<=1048576
 l:p.l.length<=100000
 toks:p.x.tokens.length<=1000
 rules:p.x.rules.length<=1000
 uses:p.uses.length+p.l.length<=200000
 total:p.total<=1000
theorem qzM (x:Lx) (k:Nat) (t:List Nat) (h1:x.k=k/\x.t=t):qaa Tryz.prog 186 [qdJ x,.int .i64 (k:Nat),.str t] (.d (.bool true)):=by
 obtain⟨h1,h2⟩:=h1;subst h1 h2;refine kF Tryz.func186 [] fun w=>?_
 repeat' (first|refine zW ?_|refine zB ?_ ?_<;>intro h<;>try exact zk h|(show _=_;(refine congrArg (fun b=>AV.d (.bool b)) ?_;simp_all))|exact zk h|fail)
theorem qyH (x:Lx) (k:Nat) (t:List Nat) (h1:¬ (x.k=k/\x.t=t)):qaa Tryz.prog 186 [qdJ x,.int .i64 (k:Nat),.str t] (.d (.bool false)):=by
 refine kF Tryz.func186 [] fun w=>?_
 repeat' (first|refine zW ?_|refine zB ?_ ?_<;>intro h<;>try exact zk h|(show _=_;(refine congrArg (fun b=>AV.d (.bool b)) ?_;simp_all<;>omega))|exact zk h|fail)
theorem qws (s:List Nat) (p:PS) (k:Nat) (t:List Nat):ACall Tryz.prog 227 [.bp 0 0,.d (.int .i64 (k:Nat)),.d (.str t)] (pO s p) (qsi (qa3 s k t p)) (qyW s p (qa3 s k t p)):=by
 have w:Fz []:=trivial;cases hl:p.l with
 |nil =>
  have c0:=qia s p hl;rw [show qa3 s k t p=.error (5,s.length) by simp [qa3,qce,hl,Except.bind]];refine qaj (fnB Tryz.func227 []) rfl rfl rfl rfl ?_
  repeat' (first|refine zW ?_|refine zB ?_ ?_<;>intro h<;>try exact zk h|refine oFP (c0) ?_|(exact⟨rfl,rfl,wkE⟩)|exact zk h|fail)
 |cons x l =>
  have c0:=qjn s p x l hl;by_cases hc:x.k=k/\x.t=t
  .have c1:=qzM x k t hc
   rw [show qa3 s k t p=.ok { p with l:=l } by simp [qa3,qce,hl,Except.bind,hc]];refine qad qak (fnB Tryz.func227 []) rfl rfl rfl rfl rfl ?_
   repeat' (first|refine zW ?_|refine zB ?_ ?_<;>intro h<;>try exact zk h|refine oF (c0) ?_|refine eF (c0) ?_|refine zC (c1) ?_|(((first|refine Yt ?_|skip);exact⟨trivial,_,_,rfl,rfl,.refl,wkE⟩))|exact zk h|fail)
  .have c1:=qyH x k t hc
   have c2:=qf1 s { p with l:=l } 3 x.a;rw [show qa3 s k t p=.error (3,x.a) by simp only [qa3,qce,hl,Except.bind];rw [if_neg hc]];refine qaj (fnB Tryz.func227 []) rfl rfl rfl rfl ?_
   repeat' (first|refine zW ?_|refine zB ?_ ?_<;>intro h<;>try exact zk h|refine oF (c0) ?_|refine eF (c0) ?_|refine zC (c1) ?_|refine oFP (c2) ?_|(exact⟨rfl,rfl,wkE⟩)|exact zk h|fail)
theorem qtL (s:List Nat) (p:PS) (t:List Nat):ACall Tryz.prog 178 [.bp 0 0,.d (.str t)] (pO s p) (qsi (qa3 s 1 t p)) (qyW s p (qa3 s 1 t p)):=by
 have w:Fz []:=trivial;have c0:=qws s p 1 t;cases h:qa3 s 1 t p with
 |ok q =>
  rw [h] at c0;refine qad qak (fnB Tryz.func178 []) rfl rfl rfl rfl rfl ?_
  repeat' (first|refine zW ?_|refine zB ?_ ?_<;>intro h<;>try exact zk h|refine oF (c0) ?_|refine eF (c0) ?_|(((first|refine Yt ?_|skip);exact⟨trivial,_,_,rfl,rfl,.refl,wkE⟩))|fail)
 |error e =>
  rw [h] at c0;refine qaj (fnB Tryz.func178 []) rfl rfl rfl rfl ?_
  repeat' (first|refine zW ?_|refine zB ?_ ?_<;>intro h<;>try exact zk h|refine oFP (c0) ?_|(exact⟨rfl,rfl,wkE⟩)|fail)
theorem qxA (s:List Nat) (p:PS):ACall Tryz.prog 182 [.bp 0 0] (pO s p) (qsi (qa3 s 3 qau p)) (qyW s p (qa3 s 3 qau p)):=by
 have w:Fz []:=trivial;have c0:=qws s p 3 qau;cases h:qa3 s 3 qau p with
 |ok q =>
  rw [h] at c0;refine qad qak (fnB Tryz.func182 []) rfl rfl rfl rfl rfl ?_
  repeat' (first|refine zW ?_|refine zB ?_ ?_<;>intro h<;>try exact zk h|refine oF (c0) ?_|refine eF (c0) ?_|(((first|refine Yt ?_|skip);exact⟨trivial,_,_,rfl,rfl,.refl,wkE⟩))|fail)
 |error e =>
  rw [h] at c0;refine qaj (fnB Tryz.func182 []) rfl rfl rfl rfl ?_
  repeat' (first|refine zW ?_|refine zB ?_ ?_<;>intro h<;>try exact zk h|refine oFP (c0) ?_|(exact⟨rfl,rfl,wkE⟩)|fail)
theorem qAa (s:List Nat) (p:PS) (t:List Nat):ACall Tryz.prog 184 [.bp 0 0,.d (.str t)] (pO s p) (.d (.bool (isL t p.l))) (pO s p):=by
 have w:Fz []:=trivial;cases hl:p.l with
 |nil =>
  unfold pO qqf;rw [hl,show isL t []=false from rfl];refine qad qak (fnB Tryz.func184 []) rfl rfl rfl rfl rfl ?_
  repeat' (first|refine zW ?_|refine zB ?_ ?_<;>intro h<;>try exact zk h|(((first|refine Yt ?_|skip);exact⟨trivial,_,_,rfl,rfl,.refl,wkE⟩))|exact zk h|fail)
 |cons x l =>
  unfold pO qqf;rw [hl,List.map_cons];by_cases hc:x.k=3/\x.t=t
  .have c1:=qzM x 3 t hc
   rw [show isL t (x :: l)=true by simp [isL,hc]];refine qad qak (fnB Tryz.func184 []) rfl rfl rfl rfl rfl ?_
   repeat' (first|refine zW ?_|refine zB ?_ ?_<;>intro h<;>try exact zk h|refine zC (c1) ?_|refine zI w (.d (.ep [.int .i64 (x.k:Nat),.str x.t,.int .i64 (x.a:Nat)])) hl ?_|(((first|refine Yt ?_|skip);exact⟨trivial,_,_,rfl,rfl,.refl,wkE⟩))|exact zk h|fail)
  .have c1:=qyH x 3 t hc
   rw [show isL t (x :: l)=false by simp only [isL,decide_eq_false_iff_not];exact hc];refine qad qak (fnB Tryz.func184 []) rfl rfl rfl rfl rfl ?_
   repeat' (first|refine zW ?_|refine zB ?_ ?_<;>intro h<;>try exact zk h|refine zC (c1) ?_|refine zI w (.d (.ep [.int .i64 (x.k:Nat),.str x.t,.int .i64 (x.a:Nat)])) hl ?_|(((first|refine Yt ?_|skip);exact⟨trivial,_,_,rfl,rfl,.refl,wkE⟩))|exact zk h|fail)
abbrev qyT:Except Fa (Lx × PS)->AV
 |.ok q=>.d (qdJ q.1)
 |.error e=>.pan (qoE e)
abbrev qzA (s:List Nat) (p:PS):Except Fa (Lx × PS)->List Ob
 |.ok q=>pO s q.2
 |.error _=>pE p
theorem qs0 (s:List Nat) (p:PS) (F:FuncId) (may:List Nat->Bool) (hb:∀ x ∈ p.l,x.t.length<=1048576) (hm:∀ t:List Nat,t.length<=1048576->qaa Tryz.prog F [.str t] (.d (.bool (may t)))) :
  ACall Tryz.prog 185 [.bp 0 0,.d (.fn (.func F) [] [])] (pO s p) (qyT (qcb s may p)) (qzA s p (qcb s may p)):=by
 have w:Fz []:=trivial;cases hl:p.l with
 |nil =>
  have c0:=qia s p hl;rw [show qcb s may p=.error (5,s.length) by simp [qcb,qce,hl,Except.bind]];refine qaj (fnB Tryz.func185 []) rfl rfl rfl rfl ?_
  repeat' (first|refine zW ?_|refine zB ?_ ?_<;>intro h<;>try exact zk h|refine oFP (c0) ?_|(exact⟨rfl,rfl,wkE⟩)|exact zk h|fail)
 |cons x l =>
  have c0:=qjn s p x l hl;have cm:=hm x.t (hb x (by rw [hl];exact List.mem_cons_self));by_cases hk:x.k=1
  .have hkk:AV.d (.bool (((x.k:Nat):Int) != 1))=.d (.bool false):=by rw [hk];rfl
   cases hy:may x.t with
   |true =>
    rw [hy] at cm;rw [show qcb s may p=.ok (x,{ p with l:=l }) by simp [qcb,qce,hl,Except.bind,hk,hy]];refine qad qak (fnB Tryz.func185 []) rfl rfl rfl rfl rfl ?_
    repeat' (first|refine zV hkk ?_|refine zW ?_|refine zB ?_ ?_<;>intro h<;>try exact zk h|refine oF (c0) ?_|refine eF (c0) ?_|refine zC (cm) ?_|(((first|refine Yt ?_|skip);exact⟨trivial,_,_,rfl,rfl,.refl,wkE⟩))|exact zk h|fail)
   |false =>
    rw [hy] at cm;have c2:=qf1 s { p with l:=l } 12 x.a;rw [show qcb s may p=.error (12,x.a) by simp [qcb,qce,hl,Except.bind,hk,hy]];refine qaj (fnB Tryz.func185 []) rfl rfl rfl rfl ?_
    repeat' (first|refine zV hkk ?_|refine zW ?_|refine zB ?_ ?_<;>intro h<;>try exact zk h|refine oF (c0) ?_|refine eF (c0) ?_|refine zC (cm) ?_|refine oFP (c2) ?_|(exact⟨rfl,rfl,wkE⟩)|exact zk h|fail)
  .have c2:=qf1 s { p with l:=l } 3 x.a
   rw [show qcb s may p=.error (3,x.a) by simp [qcb,qce,hl,Except.bind,hk]];refine qaj (fnB Tryz.func185 []) rfl rfl rfl rfl ?_
   repeat' (first|refine zW ?_|refine zB ?_ ?_<;>intro h<;>try exact zk h|refine oF (c0) ?_|refine eF (c0) ?_|refine oFP (c2) ?_|(exact⟨rfl,rfl,wkE⟩)|exact zk h|fail)
abbrev qyN:Except Fa (List Nat × PS)->AV
 |.ok q=>.d (.str q.1)
 |.error e=>.pan (qoE e)
abbrev qyC (s:List Nat) (p:PS):Except Fa (List Nat × PS)->List Ob
 |.ok q=>pO s q.2
 |.error _=>pE p
theorem qwT:∀ t:List Nat,t.length<=1048576->qaa Tryz.prog 121 [.str t] (.d (.bool (qap t))):=fun t h=>small t (by omega)
theorem qoM:∀ t:List Nat,t.length<=1048576->qaa Tryz.prog 122 [.str t] (.d (.bool (qae t))):=fun t h=>qfV t (by omega)
set_option maxHeartbeats 4000000 in
theorem qjf (s:List Nat) (p:PS) (sep:Bool) (hb:PB p):ACall Tryz.prog 183 [.bp 0 0,.d (.bool sep)] (pO s p) (qyN (qa8 s sep p)) (qyC s p (qa8 s sep p)):=by
 have w:Fz []:=trivial;have c0:=qs0 s p _ qap hb.len qwT;have ht:=hb.toks;unfold qa8;cases hw:qcb s qap p with
 |error e =>
  rw [hw] at c0;simp only [Except.bind];refine qaj (fnB Tryz.func183 []) rfl rfl rfl rfl ?_
  repeat' (first|refine zW ?_|refine zB ?_ ?_<;>intro h<;>try exact zk h|refine oFP (c0) ?_|(exact⟨rfl,rfl,wkE⟩)|exact zk h|fail)
 |ok q =>
  rw [hw] at c0;obtain⟨x,q⟩:=q;have hqx:q.x=p.x:=by
   unfold qcb qce at hw;cases hl:p.l with
   |nil=>rw [hl] at hw;simp [Except.bind] at hw
   |cons y l =>
    rw [hl] at hw;simp only [Except.bind] at hw;split at hw
    .cases hw
    .split at hw
     .simp only [Except.ok.injEq,Prod.mk.injEq] at hw;rw [<- hw.2]
     .cases hw
  simp only [Except.bind];obtain⟨kk,hkk⟩:∃ kk,kk=qdD q.names x.t:=⟨_,rfl⟩
  rw [<- hkk];have eK:=hkk;obtain⟨a,b,c⟩:=kk;have e8:ACall Tryz.prog 180 [.bp 0 0,.d (.int .i64 (8:Nat)),.d (.int .i64 (x.a:Nat))] (pO s q) (.pan (qoE (8,x.a))) (pE p):=by
   have:=qf1 s q 8 x.a;rw [show pE q=pE p by unfold pE;rw [hqx]] at this;exact this
  have e6:ACall Tryz.prog 180 [.bp 0 0,.d (.int .i64 (6:Nat)),.d (.int .i64 (x.a:Nat))] (pO s q) (.pan (qoE (6,x.a))) (pE p):=by
   have:=qf1 s q 6 x.a;rw [show pE q=pE p by unfold pE;rw [hqx]] at this;exact this
  by_cases hab:a=true\/b=true
  .rw [if_pos (by simpa using hab)]
   cases a with
   |true =>
    refine qaj (fnB Tryz.func183 []) rfl rfl rfl rfl ?_
    repeat' (first|refine zW ?_|refine zB ?_ ?_<;>intro h<;>try exact zk h|refine oF (c0) ?_|refine eF (c0) ?_|refine oFP (e8) ?_|refine eX ?_ (hv:=(qbr q.names x.t).trans (by rw [<- eK]))|(exact⟨rfl,rfl,wkE⟩)|exact zk h|fail)
   |false =>
    cases b with
    |true =>
     refine qaj (fnB Tryz.func183 []) rfl rfl rfl rfl ?_
     repeat' (first|refine zW ?_|refine zB ?_ ?_<;>intro h<;>try exact zk h|refine oF (c0) ?_|refine eF (c0) ?_|refine oFP (e8) ?_|refine eX ?_ (hv:=(qbr q.names x.t).trans (by rw [<- eK]))|(exact⟨rfl,rfl,wkE⟩)|exact zk h|fail)
    |false=>simp at hab
  .rw [if_neg (by simpa using hab)]
   have ha:a=false:=by cases a<;>simp at hab |-
   have hb':b=false:=by cases b<;>simp at hab |-
   subst ha hb';cases sep with
   |true =>
    rw [if_neg (by simp)];refine qad qak (fnB Tryz.func183 []) rfl rfl rfl rfl rfl ?_
    repeat' (first|refine zW ?_|refine zB ?_ ?_<;>intro h<;>try exact zk h|refine oF (c0) ?_|refine eF (c0) ?_|refine eX ?_ (hv:=(qbr q.names x.t).trans (by rw [<- eK]))|refine eX ?_ (hv:=qiw q.names x.t (false,true,false))|(((first|refine Yt ?_|skip);exact⟨trivial,_,_,rfl,rfl,.refl,wkE⟩))|exact zk h|fail)
   |false =>
    by_cases h8:q.x.tokens.length=8
    .rw [if_pos ⟨rfl,h8⟩]
     refine qaj (fnB Tryz.func183 []) rfl rfl rfl rfl ?_
     repeat' (first|refine zW ?_|refine zB ?_ ?_<;>intro h<;>try exact zk h|refine oF (c0) ?_|refine eF (c0) ?_|refine oFP (e6) ?_|refine eX ?_ (hv:=(qbr q.names x.t).trans (by rw [<- eK]))|(exact⟨rfl,rfl,wkE⟩)|exact zk h|fail)
    .rw [if_neg (fun e=>h8 e.2)]
     refine qad qak (fnB Tryz.func183 []) rfl rfl rfl rfl rfl ?_
     repeat' (first|refine zW ?_|refine zB ?_ ?_<;>intro h<;>try exact zk h|refine oF (c0) ?_|refine eF (c0) ?_|refine eX ?_ (hv:=(qbr q.names x.t).trans (by rw [<- eK]))|refine eX ?_ (hv:=qiw q.names x.t (true,false,false))|(((first|refine Yt ?_|skip);exact⟨trivial,_,_,rfl,rfl,.refl,wkE⟩))|exact zk h|fail)
def qbb (c:Int):Nat:=if qc2 c then 4 else if qaP c then 1 else if qal c then 2 else if c == 95 then 3 else if qby c then 5 else if c == 35 then 6 else 0
def qwe:Option (AV × Option (List Ob))->Nat->Bool
 |some (.d (.int .i64 (.ofNat n)),none),m=>Nat.beq n m
 |_,_=>false
theorem qtt {r:Option (AV × Option (List Ob))} {m:Nat} (h:qwe r m=true):r=some (.d (.int .i64 (m:Nat)),none):=by
 unfold qwe at h;split at h
 .have:=Nat.eq_of_beq_eq_true h
  subst this;rfl
 .cases h
def qkP (p:Nat->Bool):Nat->Bool
 |0=>true
 |n+1=>p n && qkP p n
theorem qeD {p:Nat->Bool}:∀ {n:Nat},qkP p n=true->∀ i,i<n->p i=true
 |0,_,i,hi=>by omega
 |n+1,h,i,hi=>by
  simp only [qkP,Bool.and_eq_true] at h;rcases Nat.lt_or_ge i n with h1|h1
  .exact qeD h.2 i h1
  .rw [show i=n by omega];exact h.1
def qt8 (c:Nat):Bool:=qwe (qgm Et Ft.get? (qvN .nil Et Ft.get? 1000 5) 1000 268 [.d (.int .u8 (c:Nat))] []) (qbb (c:Nat))
def qgv (k:Nat):Bool:=qkP (fun i=>qt8 (32*k+i)) 32
theorem qvP:qgv 0=true:=by kernel_rfl
theorem quR:qgv 1=true:=by kernel_rfl
theorem qvL:qgv 2=true:=by kernel_rfl
theorem qv4:qgv 3=true:=by kernel_rfl
theorem qvm:qgv 4=true:=by kernel_rfl
theorem qvF:qgv 5=true:=by kernel_rfl
theorem qvf:qgv 6=true:=by kernel_rfl
theorem qv5:qgv 7=true:=by kernel_rfl
theorem qpf (c:Nat) (h:c<256):qt8 c=true:=by
 have hk:qgv (c / 32)=true:=by
  rcases(by omega:c / 32=0\/c / 32=1\/c / 32=2\/c / 32=3\/c / 32=4\/c / 32=5\/c / 32=6\/c / 32=7) with e|e|e|e|e|e|e|e<;>rw [e]
  .exact qvP
  .exact quR
  .exact qvL
  .exact qv4
  .exact qvm
  .exact qvF
  .exact qvf
  .exact qv5
 have:=qeD hk (c % 32) (by omega);simpa only [Nat.div_add_mod] using this
theorem qxk (c:Nat) (h:c<256):qaa Tryz.prog 268 [.int .u8 (c:Nat)] (.d (.int .i64 (qbb (c:Nat):Nat))) :=
 known (T:=.nil) trivial qak (by kernel_rfl) qdk (k:=1000) (n:=5) (qtt (qpf c h))
abbrev qeR (s:List Nat) (p:Nat):Ob:=.box [.d (.str s),.d (.int .i64 (p:Nat))]
def qb9 (s:List Nat) (p:Nat):Nat:=match s[p]? with|some c=>qbb (c:Nat)|none=>0
theorem qdm (X':List Ob) (s:List Nat) (p:Nat) (hb:∀ c ∈ s,c<256) (hl:s.length<=1048576) (hp:p<=s.length) :
  ACall Tryz.prog 252 [.bp 0 0] (qeR s p :: X') (.d (.int .i64 (qb9 s p:Nat))) (qeR s p :: X'):=by
 have w:Fz []:=trivial;rcases Nat.lt_or_ge p s.length with hlt|hge
 .obtain⟨c,hc⟩:=qai hlt
  rw [show qb9 s p=qbb (c:Nat) by simp [qb9,hc]];have cc:=qxk c (hb c (List.mem_of_getElem? hc));generalize qbb (c:Nat)=k at cc |-;refine qaf qak (fnB Tryz.func252 []) rfl rfl ?_
  repeat' (first|refine zW ?_|refine zB ?_ ?_<;>intro h<;>try exact zk h|refine oI (v:=.d (.int .u8 (c:Nat))) ?_ (he:=by first|(simp [gD,hc]<;>fail)|fail)|refine eI (v:=.d (.int .u8 (c:Nat))) ?_ (he:=by first|(simp [gD,hc]<;>fail)|fail)|refine zC (cc) ?_|((refine Yt ?_;exact⟨trivial,rfl,rfl⟩))|exact zk h|fail)
 .have hpe:p=s.length:=by omega
  subst hpe;rw [show qb9 s s.length=0 by simp [qb9]];refine qaf qak (fnB Tryz.func252 []) rfl rfl ?_
  repeat' (first|refine zW ?_|refine zB ?_ ?_<;>intro h<;>try exact zk h|((refine Yt ?_;exact⟨trivial,rfl,rfl⟩))|exact zk h|fail)
def inK (l:List Int) (k:Int):Bool:=l.any (fun x=>x == k)
def inC (l:List Int) (c:Int):Bool:=inK l (qbb c:Nat)
set_option maxHeartbeats 1000000 in
theorem qnw (X':List Ob) (s:List Nat) (p:Nat) (l:List Int) (hb:∀ c ∈ s,c<256) (hl:s.length<=1048576) (hp:p<=s.length) (hll:l.length<=1048576) :
  ACall Tryz.prog 253 [.bp 0 0,.d (qcV l)] (qeR s p :: X') (.tup []) (qeR s (p+qaU (inC l) (s.drop p)) :: X'):=by
 have w:Fz []:=trivial;obtain⟨X,hX⟩:∃ X,X=p+qaU (inC l) (s.drop p):=⟨_,rfl⟩
 rw [<- hX];refine qaf qak (fnB Tryz.func253 []) rfl rfl ?_
 repeat refine zS ?_
 refine Run.loop (fun q:Nat=>⟨PT.ofList [(0,.bp 0 0),(1,.d (qcV l))],(qeR s q :: X'),[]⟩) (fun q=>q<=s.length/\q+qaU (inC l) (s.drop q)=X) (fun q=>s.length-q) p ⟨hp,hX.symm⟩ (qac (by repeat' (first|exact trivial|refine⟨rfl,?_⟩))) (fun q hq=>?_);obtain⟨hq1,hq2⟩:=hq;rcases Nat.lt_or_ge q s.length with hlt|hge
 .obtain⟨c,hc⟩:=qai hlt
  have hd:=qbj hc;rw [hd,qaU] at hq2;have ck:qb9 s q=qbb (c:Nat):=by simp [qb9,hc]
  have cc:=qdm X' s q hb hl hq1;rw [ck] at cc;rw [show inC l (c:Nat)=inK l (qbb (c:Nat):Nat) from rfl] at hq2;obtain⟨k,hk⟩:∃ k,k=qbb (c:Nat):=⟨_,rfl⟩
  rw [<- hk] at cc hq2
  repeat' (first|refine zW ?_|refine zB ?_ ?_<;>intro h<;>try exact zk h|refine RunOps.call (by rfl) (by rfl) cc (by rfl) (by rfl) ?_|exact zk h|fail)
  refine Run.loop (fun j:Nat=>⟨PT.ofList [(0,.bp 0 0),(1,.d (qcV l)),(4,.d (.int .i64 (k:Nat))),(5,.d (.bool (inK (l.take j) (k:Nat)))),(20,.d (qcV l)),(21,.d (.int .i64 (l.map (DV.int .i64)).length)),(22,.d (.int .i64 (j:Nat)))],(qeR s q :: X'),[]⟩) (fun j=>j<=l.length) (fun j=>l.length-j) 0 (Nat.zero_le _) (qac (by repeat' (first|exact trivial|refine⟨rfl,?_⟩))) (fun j hj=>?_);rcases Nat.lt_or_ge j l.length with hjl|hjg
  .obtain⟨x,hx⟩:=qai hjl
   have hn:inK (l.take (j+1)) (k:Nat)=(inK (l.take j) (k:Nat) || (x == (k:Int))):=by unfold inK;rw [List.take_add_one,hx,List.any_append];simp
   cases hbj:inK (l.take j) (k:Nat) with
   |true =>
    rw [hbj,Bool.true_or] at hn
    repeat' (first|refine zW ?_|refine zB ?_ ?_<;>intro h<;>try exact zk h|refine zI w (.d (.ep [.int .i64 x])) hx ?_|(exact⟨j+1,hjl,by omega,qac ⟨by kernel_rfl,by kernel_rfl,by kernel_rfl,by rw [hn];kernel_rfl,by kernel_rfl,by kernel_rfl,(qaq (k:=j) (by kernel_rfl) (by omega)),trivial⟩⟩)|exact zk h|fail)
   |false =>
    rw [hbj,Bool.false_or] at hn;cases hxk:(x == (k:Int)) with
    |true =>
     rw [hxk] at hn;have hv:AV.d (.bool (x == (k:Int)))=.d (.bool true):=by rw [hxk]
     repeat' (first|refine zV hv ?_|refine zW ?_|refine zB ?_ ?_<;>intro h<;>try exact zk h|refine zI w (.d (.ep [.int .i64 x])) hx ?_|(exact⟨j+1,hjl,by omega,qac ⟨by kernel_rfl,by kernel_rfl,by kernel_rfl,by rw [hn];kernel_rfl,by kernel_rfl,by kernel_rfl,(qaq (k:=j) (by kernel_rfl) (by omega)),trivial⟩⟩)|exact zk h|fail)
    |false =>
     rw [hxk] at hn;have hv:AV.d (.bool (x == (k:Int)))=.d (.bool false):=by rw [hxk]
     repeat' (first|refine zV hv ?_|refine zW ?_|refine zB ?_ ?_<;>intro h<;>try exact zk h|refine zI w (.d (.ep [.int .i64 x])) hx ?_|(exact⟨j+1,hjl,by omega,qac ⟨by kernel_rfl,by kernel_rfl,by kernel_rfl,by rw [hn];kernel_rfl,by kernel_rfl,by kernel_rfl,(qaq (k:=j) (by kernel_rfl) (by omega)),trivial⟩⟩)|exact zk h|fail)
  .have hje:j=l.length:=by omega
   subst hje;rw [List.take_length];cases hbk:inK l (k:Nat) with
   |true =>
    rw [hbk,if_pos rfl] at hq2;have hinc:AV.d (.int .i64 (IntKind.i64.wrap ((q:Int)+1)))=.d (.int .i64 ((q+1:Nat):Int)):=congrArg (fun x=>AV.d (.int .i64 x)) ((congrArg IntKind.i64.wrap (show(q:Int)+1=((q+1:Nat):Int) by omega)).trans (qaT (by omega)))
    repeat' (first|refine zV hinc ?_|refine zW ?_|refine zB ?_ ?_<;>intro h<;>try exact zk h|(exact⟨q+1,⟨hlt,by omega⟩,by omega,qb4 (by rfl) rfl (by repeat' (first|exact trivial|refine⟨rfl,?_⟩))⟩)|exact zk h|fail)
   |false =>
    rw [hbk] at hq2;have hqX:q=X:=by simpa using hq2
    subst hqX
    repeat' (first|refine zW ?_|refine zB ?_ ?_<;>intro h<;>try exact zk h|((refine Yt ?_;exact⟨trivial,rfl,rfl⟩))|exact zk h|fail)
 .have hqX:q=X:=by rw [List.drop_eq_nil_of_le hge] at hq2;simpa [qaU] using hq2
  subst hqX
  repeat' (first|refine zW ?_|refine zB ?_ ?_<;>intro h<;>try exact zk h|(exact⟨trivial,rfl,rfl⟩)|exact zk h|fail)
theorem qtQ:qkP (fun c=>inC [5] (c:Nat) == qby (c:Nat)) 256=true:=by kernel_rfl
theorem qtR:qkP (fun c=>(qbb (c:Nat) == 6) == decide (c=35)) 256=true:=by kernel_rfl
theorem qAr {c:Nat} (h:c<256):inC [5] (c:Nat)=qby (c:Nat):=by simpa using qeD qtQ c h
theorem qAF {c:Nat} (h:c<256):qbb (c:Nat)=6 ↔ c=35:=by
 have:=qeD qtR c h;by_cases h1:c=35
 .simp [h1] at this |-;exact this
 .simp [h1] at this |-;exact this
theorem qfu {p q:Int->Bool}:∀ {l:List Nat},(∀ c ∈ l,p (c:Nat)=q (c:Nat))->qaU p l=qaU q l
 |[],_=>rfl
 |c :: l,h=>by
  rw [qaU,qaU,h c List.mem_cons_self,qfu fun d hd=>h d (List.mem_cons_of_mem _ hd)]
theorem qlE:∀ l:List Nat,qbi false l=qaU qby l+qbi false (l.drop (qaU qby l))
 |[]=>rfl
 |c :: l=>by
  cases hb:qby (c:Nat) with
  |true =>
   have ih:=qlE l;rw [qaU,if_pos hb,qbi,if_pos hb,Nat.add_comm 1 (qaU qby l),List.drop_succ_cons];omega
  |false=>rw [qaU,hb];simp
theorem qmM (p:Int->Bool):∀ (l:List Nat) (c:Nat),(l.drop (qaU p l))[0]?=some c->p (c:Nat)=false
 |[],c,h=>by simp [qaU] at h
 |d :: l,c,h=>by
  rw [qaU] at h;cases hd:p (d:Nat) with
  |true =>
   rw [if_pos hd,Nat.add_comm,List.drop_succ_cons] at h;exact qmM p l c h
  |false =>
   rw [hd] at h;simp at h;subst h;exact hd
def qfW (s:List Nat) (p:Nat):Nat:=p+qaU qby (s.drop p)
theorem qlo {s:List Nat} {p:Nat} (h:p<=s.length):qfW s p<=s.length:=by
 have:=qgg qby (s.drop p);rw [List.length_drop] at this;unfold qfW;omega
theorem qhp (s:List Nat) (p:Nat):qfW s p+qbi false (s.drop (qfW s p))=p+qbi false (s.drop p):=by
 have:=qlE (s.drop p);rw [List.drop_drop] at this;unfold qfW;omega
theorem qhn {s:List Nat} {p c:Nat} (h:s[qfW s p]?=some c):qby (c:Nat)=false:=by
 refine qmM qby (s.drop p) c ?_;rw [List.drop_drop,List.getElem?_drop,Nat.add_zero];exact h
theorem qk3 (X':List Ob) (s:List Nat) (p:Nat) (hb:∀ c ∈ s,c<256) (hl:s.length<=1048576) (hp:p<=s.length) :
  ACall Tryz.prog 253 [.bp 0 0,.d (qcV [5])] (qeR s p :: X') (.tup []) (qeR s (qfW s p) :: X'):=by
 have:=qnw X' s p [5] hb hl hp (by simp)
 rwa [qfu fun c hc=>qAr (hb c (List.mem_of_mem_drop hc))] at this
set_option maxHeartbeats 2000000 in
theorem qg7 (X':List Ob) (s:List Nat) (p:Nat) (hb:∀ c ∈ s,c<256) (hl:s.length<=1048576) (hp:p<=s.length) :
  ACall Tryz.prog 251 [.bp 0 0] (qeR s p :: X') (.tup []) (qeR s (qaC s p) :: X'):=by
 have w:Fz [5,15]:=trivial;obtain⟨X,hX⟩:∃ X,X=qaC s p:=⟨_,rfl⟩
 rw [<- hX];unfold qaC at hX;rw [<- qhp] at hX;have c0:=qk3 X' s p hb hl hp;have hs0:=qlo hp;have ht0:∀ c,s[qfW s p]?=some c->qby (c:Nat)=false:=fun c=>qhn;generalize qfW s p=p0 at hX c0 hs0 ht0;refine qaf qak (fnB Tryz.func251 [5,15]) rfl rfl ?_
 repeat' (first|refine zW ?_|refine zB ?_ ?_<;>intro h<;>try exact zk h|refine zX ?_|refine oA c0 ?_|(fail)|fail)
 refine Run.loop (fun q:Nat=>⟨PT.ofList [(0,.bp 0 0)],(qeR s q :: X'),[]⟩) (fun q=>q<=s.length/\q+qbi false (s.drop q)=X/\∀ c,s[q]?=some c->qby (c:Nat)=false) (fun q=>s.length-q) p0 ⟨hs0,hX.symm,ht0⟩ (qac (by repeat' (first|exact trivial|refine⟨rfl,?_⟩))) (fun q hq=>?_);obtain⟨hq1,hq2,hq3⟩:=hq;have cc:=qdm X' s q hb hl hq1;by_cases h35:s[q]?=some 35
 .have hlt:=(List.getElem?_eq_some_iff.1 h35).1
  have hd:=qbj h35;have hX1:q+qbi true (s.drop q)=X:=by rw [<- hq2,hd];simp [qbi,qby]
  rw [show qb9 s q=6 by simp only [qb9,h35];rfl] at cc
  repeat' (first|refine zW ?_|refine zB ?_ ?_<;>intro h<;>try exact zk h|refine zX ?_|refine oA cc ?_|exact zk h|fail)
  refine Run.loop (fun j:Nat=>⟨PT.ofList [(0,.bp 0 0)],(qeR s j :: X'),[]⟩) (fun j=>q<=j/\j<=s.length/\j+qbi true (s.drop j)=X) (fun j=>s.length-j) q ⟨Nat.le_refl _,hq1,hX1⟩ (qac (by repeat' (first|exact trivial|refine⟨rfl,?_⟩))) (fun j hj=>?_);obtain⟨hj1,hj2,hj3⟩:=hj;rcases Nat.lt_or_ge j s.length with hjl|hjg
  .obtain⟨e,he⟩:=qai hjl
   have hde:=qbj he;by_cases h10:e=10
   .subst h10
    have hij:q≠j:=fun h=>by subst h;rw [h35] at he;cases he
    have hX2:j+qbi false (s.drop j)=X:=by rw [<- hj3,hde];simp [qbi,qby]
    rw [<- qhp] at hX2;have c1:=qk3 X' s j hb hl hj2;have hs1:=qlo hj2;have ht1:∀ c,s[qfW s j]?=some c->qby (c:Nat)=false:=fun c=>qhn;have hge1:j<=qfW s j:=Nat.le_add_right _ _;generalize qfW s j=p1 at hX2 c1 hs1 ht1 hge1
    repeat' (first|refine zW ?_|refine zB ?_ ?_<;>intro h<;>try exact zk h|refine zX ?_|refine eI (v:=.d (.int .u8 ((10:Nat):Int))) ?_ (he:=by first|(simp [gD,he]<;>fail)|fail)|refine oA c1 ?_|(exact⟨p1,⟨hs1,hX2,ht1⟩,by omega,qac (by repeat' (first|exact trivial|refine⟨rfl,?_⟩))⟩)|exact zk h|fail)
   .have hX2:j+1+qbi true (s.drop (j+1))=X:=by rw [<- hj3,hde];simp [qbi,h10];omega
    have hinc:AV.d (.int .i64 (IntKind.i64.wrap ((j:Int)+1)))=.d (.int .i64 ((j+1:Nat):Int)):=congrArg (fun x=>AV.d (.int .i64 x)) ((congrArg IntKind.i64.wrap (show(j:Int)+1=((j+1:Nat):Int) by omega)).trans (qaT (by omega)))
    repeat' (first|refine zV hinc ?_|refine zW ?_|refine zB ?_ ?_<;>intro h<;>try exact zk h|refine zX ?_|refine eI (v:=.d (.int .u8 (e:Nat))) ?_ (he:=by first|(simp [gD,he]<;>fail)|fail)|(exact⟨j+1,⟨by omega,hjl,hX2⟩,by omega,qb4 (by rfl) rfl (by repeat' (first|exact trivial|refine⟨rfl,?_⟩))⟩)|exact zk h|fail)
  .have hje:j=s.length:=by omega
   subst hje;have hX2:s.length+qbi false (s.drop s.length)=X:=by rw [<- hj3,List.drop_length];rfl
   rw [<- qhp] at hX2;have c1:=qk3 X' s s.length hb hl hj2;have hs1:=qlo hj2;have ht1:∀ c,s[qfW s s.length]?=some c->qby (c:Nat)=false:=fun c=>qhn;have hge1:s.length<=qfW s s.length:=Nat.le_add_right _ _;generalize qfW s s.length=p1 at hX2 c1 hs1 ht1 hge1
   repeat' (first|refine zW ?_|refine zB ?_ ?_<;>intro h<;>try exact zk h|refine zX ?_|refine oA c1 ?_|(exact⟨p1,⟨hs1,hX2,ht1⟩,by omega,qac (by repeat' (first|exact trivial|refine⟨rfl,?_⟩))⟩)|exact zk h|fail)
 .have hqX:q=X:=by
   rcases Nat.lt_or_ge q s.length with hlt|hge
   .obtain⟨c,hc⟩:=qai hlt
    rw [qbj hc,qbi,if_neg (by rw [hq3 c hc];simp),if_neg (fun e=>h35 (by rw [hc,e]))] at hq2;exact hq2
   .rw [List.drop_eq_nil_of_le hge] at hq2;exact hq2
  subst hqX;have hk:qb9 s q≠6:=by
   unfold qb9;split
   .rename_i c hc
    intro e;exact h35 (by rw [hc,(qAF (hb c (List.mem_of_getElem? hc))).1 e])
   .simp
  generalize qb9 s q=k at cc hk
  repeat' (first|refine zW ?_|refine zB ?_ ?_<;>intro h<;>try exact zk h|refine zX ?_|refine oA cc ?_|(exact⟨trivial,rfl,rfl⟩)|exact zk h|fail)
theorem qpX:qkP (fun c=>inC [1,2,3] (c:Nat) == qa9 (c:Nat)) 256=true:=by kernel_rfl
theorem qsQ:qkP (fun c=>inC [2] (c:Nat) == qal (c:Nat)) 256=true:=by kernel_rfl
theorem qvI (X':List Ob) (s:List Nat) (p:Nat) (hb:∀ c ∈ s,c<256) (hl:s.length<=1048576) (hp:p<=s.length) :
  ACall Tryz.prog 253 [.bp 0 0,.d (qcV [1,2,3])] (qeR s p :: X') (.tup []) (qeR s (p+qaU qa9 (s.drop p)) :: X'):=by
 have:=qnw X' s p [1,2,3] hb hl hp (by simp)
 rwa [qfu fun c hc=>show inC [1,2,3] (c:Nat)=qa9 (c:Nat) by simpa using qeD qpX c (hb c (List.mem_of_mem_drop hc))] at this
theorem qm9 (X':List Ob) (s:List Nat) (p:Nat) (hb:∀ c ∈ s,c<256) (hl:s.length<=1048576) (hp:p<=s.length) :
  ACall Tryz.prog 253 [.bp 0 0,.d (qcV [2])] (qeR s p :: X') (.tup []) (qeR s (p+qaU qal (s.drop p)) :: X'):=by
 have:=qnw X' s p [2] hb hl hp (by simp)
 rwa [qfu fun c hc=>show inC [2] (c:Nat)=qal (c:Nat) by simpa using qeD qsQ c (hb c (List.mem_of_mem_drop hc))] at this
abbrev qng (s:List Nat) (q k:Nat) (t:List Nat) (a c d:Nat):List Ob:=[qeR s q,.box [.d (.int .i64 (k:Nat)),.d (.str t),.d (.int .i64 (a:Nat))],.box [.d (.int .i64 (c:Nat)),.d (.int .i64 (d:Nat))]]
abbrev bxs:List Ob:=[.box [.d (.int .i64 0),.d (.str []),.d (.int .i64 0)],.box [.d (.int .i64 0),.d (.int .i64 0)]]
theorem quX (s:List Nat) (p:Nat) (hb:∀ c ∈ s,c<256) (hl:s.length<=1048576) (hp:p<=s.length) (he:qaC s p=s.length) :
  ACall Tryz.prog 226 [.bp 0 0] [qeR s p] (.tup [.d (qgU 0 [] 0),.d (qch 5 s.length)]) (qng s s.length 0 [] 0 5 s.length):=by
 have w:Fz [33,40]:=trivial;have cg:=qg7 bxs s p hb hl hp;rw [he] at cg;refine qaf qak (fnB Tryz.func226 [33,40]) rfl rfl ?_
 repeat' (first|refine zW ?_|refine zB ?_ ?_<;>intro h<;>try exact zk h|refine zX ?_|refine oA cg ?_|((refine Yt ?_;exact⟨trivial,rfl,rfl⟩))|exact zk h|fail)
theorem qtx (s:List Nat) (p c:Nat) (hb:∀ c ∈ s,c<256) (hl:s.length<=1048576) (hp:p<=s.length) (hc:s[qaC s p]?=some c) (hk:qbb (c:Nat)=1) :
  ACall Tryz.prog 226 [.bp 0 0] [qeR s p] (.tup [.d (qgU 1 ((s.drop (qaC s p)).take (qaU qa9 (s.drop (qaC s p)))) (qaC s p)),.d (qch 0 0)]) (qng s (qaC s p+qaU qa9 (s.drop (qaC s p))) 1 ((s.drop (qaC s p)).take (qaU qa9 (s.drop (qaC s p)))) (qaC s p) 0 0):=by
 have w:Fz [33,40]:=trivial;have cg:=qg7 bxs s p hb hl hp;have hq:=qdL hp;generalize qaC s p=q at cg hc hq |-;have hlt:=(List.getElem?_eq_some_iff.1 hc).1;have cc:=qdm bxs s q hb hl hq;rw [show qb9 s q=1 by simp only [qb9,hc];exact hk] at cc;have cw:=qvI bxs s q hb hl hq;have hr:=qgg qa9 (s.drop q);rw [List.length_drop] at hr;generalize qaU qa9 (s.drop q)=n at cw hr |-;have hcut:(s.take (q+n)).drop q=(s.drop q).take n:=by rw [List.drop_take];congr 1;omega
 rw [<- hcut];refine qaf qak (fnB Tryz.func226 [33,40]) rfl rfl ?_
 repeat' (first|refine zW ?_|refine zB ?_ ?_<;>intro h<;>try exact zk h|refine zX ?_|refine oA cg ?_|refine oA cc ?_|refine oA cw ?_|refine oV ?_ (hf:=(by first|(simp [qbR]<;>fail)|(simp [qbR];omega)))|refine eX ?_ (hf:=(by first|(simp [qbR]<;>fail)|(simp [qbR];omega)))|((refine Yt ?_;exact⟨trivial,rfl,rfl⟩))|exact zk h|fail)
theorem qs7 (s:List Nat) (p c:Nat) (hb:∀ c ∈ s,c<256) (hl:s.length<=1048576) (hp:p<=s.length) (hc:s[qaC s p]?=some c) (hk:qbb (c:Nat)=4) :
  ACall Tryz.prog 226 [.bp 0 0] [qeR s p] (.tup [.d (qgU 3 [c] (qaC s p)),.d (qch 0 0)]) (qng s (qaC s p+1) 3 [c] (qaC s p) 0 0):=by
 have w:Fz [33,40]:=trivial;have cg:=qg7 bxs s p hb hl hp;have hq:=qdL hp;generalize qaC s p=q at cg hc hq |-;have hlt:=(List.getElem?_eq_some_iff.1 hc).1;have cc:=qdm bxs s q hb hl hq;rw [show qb9 s q=4 by simp only [qb9,hc];exact hk] at cc;have hcut:(s.take (q+1)).drop q=[c]:=by rw [List.drop_take,qbj hc,show q+1-q=1 by omega];rfl
 have hinc:AV.d (.int .i64 (IntKind.i64.wrap ((q:Int)+1)))=.d (.int .i64 ((q+1:Nat):Int)):=congrArg (fun x=>AV.d (.int .i64 x)) ((congrArg IntKind.i64.wrap (show(q:Int)+1=((q+1:Nat):Int) by omega)).trans (qaT (by omega)));rw [<- hcut];refine qaf qak (fnB Tryz.func226 [33,40]) rfl rfl ?_
 repeat' (first|refine zV hinc ?_|refine zW ?_|refine zB ?_ ?_<;>intro h<;>try exact zk h|refine zX ?_|refine oA cg ?_|refine oA cc ?_|refine oV ?_ (hf:=(by first|(simp [qbR]<;>fail)|(simp [qbR];omega)))|refine eX ?_ (hf:=(by first|(simp [qbR]<;>fail)|(simp [qbR];omega)))|((refine Yt ?_;exact⟨trivial,rfl,rfl⟩))|exact zk h|fail)
theorem qvb (s:List Nat) (p c:Nat) (hb:∀ c ∈ s,c<256) (hl:s.length<=1048576) (hp:p<=s.length) (hc:s[qaC s p]?=some c) (h1:qbb (c:Nat)≠1) (h2:qbb (c:Nat)≠2) (h4:qbb (c:Nat)≠4) :
  ACall Tryz.prog 226 [.bp 0 0] [qeR s p] (.tup [.d (qgU 0 [] 0),.d (qch 3 (qaC s p))]) (qng s (qaC s p) 0 [] 0 3 (qaC s p)):=by
 have w:Fz [33,40]:=trivial;have cg:=qg7 bxs s p hb hl hp;have hq:=qdL hp;generalize qaC s p=q at cg hc hq |-;have hlt:=(List.getElem?_eq_some_iff.1 hc).1;have cc:=qdm bxs s q hb hl hq;rw [show qb9 s q=qbb (c:Nat) by simp only [qb9,hc]] at cc;generalize qbb (c:Nat)=k at cc h1 h2 h4;refine qaf qak (fnB Tryz.func226 [33,40]) rfl rfl ?_
 repeat' (first|refine zW ?_|refine zB ?_ ?_<;>intro h<;>try exact zk h|refine zX ?_|refine oA cg ?_|refine oA cc ?_|((refine Yt ?_;exact⟨trivial,rfl,rfl⟩))|exact zk h|fail)
set_option maxHeartbeats 2000000 in
theorem qqW (s:List Nat) (p c:Nat) (hb:∀ c ∈ s,c<256) (hl:s.length<=1048576) (hp:p<=s.length) (hc:s[qaC s p]?=some c) (hk:qbb (c:Nat)=2)
  (hz:¬ (c=48/\1<qaU qal (s.drop (qaC s p)))) (h1:qb9 s (qaC s p+qaU qal (s.drop (qaC s p)))≠1) (h3:qb9 s (qaC s p+qaU qal (s.drop (qaC s p)))≠3) :
  ACall Tryz.prog 226 [.bp 0 0] [qeR s p] (.tup [.d (qgU 2 ((s.drop (qaC s p)).take (qaU qal (s.drop (qaC s p)))) (qaC s p)),.d (qch 0 0)]) (qng s (qaC s p+qaU qal (s.drop (qaC s p))) 2 ((s.drop (qaC s p)).take (qaU qal (s.drop (qaC s p)))) (qaC s p) 0 0):=by
 have w:Fz [33,40]:=trivial;have cg:=qg7 bxs s p hb hl hp;have hq:=qdL hp;generalize qaC s p=q at cg hc hq hz h1 h3 |-;have hlt:=(List.getElem?_eq_some_iff.1 hc).1;have cc:=qdm bxs s q hb hl hq;rw [show qb9 s q=2 by simp only [qb9,hc];exact hk] at cc;have cw:=qm9 bxs s q hb hl hq;have hr:=qgg qal (s.drop q);rw [List.length_drop] at hr;generalize qaU qal (s.drop q)=n at cw hr hz h1 h3 |-;have c2:=qdm bxs s (q+n) hb hl (by omega);generalize qb9 s (q+n)=k at c2 h1 h3;have hcut:(s.take (q+n)).drop q=(s.drop q).take n:=by rw [List.drop_take];congr 1;omega
 have hinc:AV.d (.int .i64 (IntKind.i64.wrap ((q:Int)+1)))=.d (.int .i64 ((q+1:Nat):Int)):=congrArg (fun x=>AV.d (.int .i64 x)) ((congrArg IntKind.i64.wrap (show(q:Int)+1=((q+1:Nat):Int) by omega)).trans (qaT (by omega)));rw [<- hcut];refine qaf qak (fnB Tryz.func226 [33,40]) rfl rfl ?_
 repeat' (first|refine zV hinc ?_|refine zW ?_|refine zB ?_ ?_<;>intro h<;>try exact zk h|refine zX ?_|refine oI (v:=.d (.int .u8 (c:Nat))) ?_ (he:=by first|(simp [gD,hc]<;>fail)|fail)|refine oA cg ?_|refine oA cc ?_|refine oA cw ?_|refine oA c2 ?_|refine oV ?_ (hf:=(by first|(simp [qbR]<;>fail)|(simp [qbR];omega)))|refine eX ?_ (hf:=(by first|(simp [qbR]<;>fail)|(simp [qbR];omega)))|((refine Yt ?_;exact⟨trivial,rfl,rfl⟩))|exact zk h|((exfalso;rename_i g1 g0;have e1:=of_decide_eq_true g0;simp at g1;omega))|fail)
structure NumT (t:List Nat):Prop where
 digs:∀ c ∈ t,48<=c/\c<=57
 ne:t≠[]
 zero:¬ (t[0]?=some 48/\1<t.length)
def quE (ls:List Lx):Prop:=∀ x ∈ ls,x.k=2->NumT x.t
theorem qen {c:Nat}:qal (c:Nat)=true ↔ 48<=c/\c<=57:=by
 simp only [qal,Bool.and_eq_true,decide_eq_true_eq];omega
theorem qkE {p:Int->Bool}:∀ {l:List Nat},(∀ c ∈ l,p (c:Nat)=true)->qaU p l=l.length
 |[],_=>rfl
 |c :: l,h=>by
  rw [qaU,if_pos (h c List.mem_cons_self),qkE fun d hd=>h d (List.mem_cons_of_mem _ hd),List.length_cons];omega
theorem qo4 {p:Int->Bool}:∀ {l:List Nat} {c:Nat},c ∈ l.take (qaU p l)->p (c:Nat)=true
 |[],c,h=>by simp at h
 |d :: l,c,h=>by
  rw [qaU] at h;cases hd:p (d:Nat) with
  |true =>
   rw [hd,if_pos rfl,Nat.add_comm,List.take_succ_cons] at h;rcases List.mem_cons.1 h with rfl|h
   .exact hd
   .exact qo4 h
  |false=>rw [hd] at h;simp at h
theorem NumT.run {t:List Nat} (h:NumT t):qaU qal t=t.length:=qkE fun c hc=>qen.2 (h.digs c hc)
theorem qrt {c:Nat} (h:48<=c/\c<=57):qc2 (c:Nat)=false/\qaP (c:Nat)=false:=by
 have:∀ d,d<10->qc2 ((48+d:Nat):Int)=false/\qaP ((48+d:Nat):Int)=false:=by decide
 have:=this (c-48) (by omega)
 rwa [show 48+(c-48)=c by omega] at this
theorem NumT.begins {t:List Nat} (h:NumT t):qah t=(2,t):=by
 cases t with
 |nil=>exact absurd rfl h.ne
 |cons c l =>
  have hc:=h.digs c List.mem_cons_self;have hr:qaU qal l=l.length:=qkE fun d hd=>qen.2 (h.digs d (List.mem_cons_of_mem _ hd));have hz:¬ ((c=48/\1<1+qaU qal l)\/∃ e,(c :: l)[1+qaU qal l]?=some e/\qfa e=true):=by
   rintro(⟨h1,h2⟩|⟨e,h1,_⟩)
   .exact h.zero ⟨by simp [h1],by simp;omega⟩
   .rw [hr,List.getElem?_eq_none (by simp;omega)] at h1;cases h1
  have e:qah (c :: l)=if qc2 c then(3,[c]) else if qaP c then(1,(c :: l).take (1+qaU qa9 l)) else if qal c then
   (if(c=48/\1<1+qaU qal l)\/(∃ e,(c :: l)[1+qaU qal l]?=some e/\qfa e=true) then(0,[]) else(2,(c :: l).take (1+qaU qal l))) else(0,[]):=rfl
  rw [e,if_neg (by rw [(qrt hc).1];simp),if_neg (by rw [(qrt hc).2];simp),if_pos (qen.2 hc),if_neg hz,hr,List.take_of_length_le (by simp;omega)]
theorem qn2 {c:Nat} {l t:List Nat} (h:qah (c :: l)=(2,t)):NumT t:=by
 have e:qah (c :: l)=if qc2 c then(3,[c]) else if qaP c then(1,(c :: l).take (1+qaU qa9 l)) else if qal c then
   (if(c=48/\1<1+qaU qal l)\/(∃ e,(c :: l)[1+qaU qal l]?=some e/\qfa e=true) then(0,[]) else(2,(c :: l).take (1+qaU qal l))) else(0,[]):=rfl
 rw [e] at h;by_cases h1:qc2 c=true
 .rw [if_pos h1] at h;simp at h
 .rw [if_neg h1] at h
  by_cases h2:qaP c=true
  .rw [if_pos h2] at h;simp at h
  .rw [if_neg h2] at h
   by_cases h3:qal c=true
   .rw [if_pos h3] at h
    by_cases h4:(c=48/\1<1+qaU qal l)\/(∃ e,(c :: l)[1+qaU qal l]?=some e/\qfa e=true)
    .rw [if_pos h4] at h;simp at h
    .rw [if_neg h4] at h
     simp only [Prod.mk.injEq,true_and] at h;subst h;rw [Nat.add_comm,List.take_succ_cons];refine⟨fun d hd=>?_,by simp,fun hz=>?_⟩
     .rcases List.mem_cons.1 hd with rfl|hd
      .exact qen.1 h3
      .exact qen.1 (qo4 hd)
     .have e1:c=48:=by have:=hz.1;simpa using this
      have e2:=hz.2;rw [List.length_cons,List.length_take] at e2;exact h4 (.inl ⟨e1,by omega⟩)
   .rw [if_neg h3] at h;simp at h
theorem qlz {t:List Nat} {i c:Nat} (h:t[i]?=some c):qd6 (t.take (i+1))=10*qd6 (t.take i)+(c-48):=by
 unfold qd6;rw [List.take_add_one,h,Option.toList_some,List.foldl_append];rfl
theorem qqt:∀ (l:List Nat) (n:Nat),n<=l.foldl (fun n c=>10*n+(c-48)) n
 |[],n=>Nat.le_refl _
 |c :: l,n=>Nat.le_trans (by omega) (qqt l (10*n+(c-48)))
theorem qvu {t:List Nat} (i:Nat):qd6 (t.take i)<=qd6 t:=by
 conv=>rhs;rw [<- List.take_append_drop i t]
 unfold qd6;rw [List.foldl_append];exact qqt _ _
abbrev qoT (t:List Nat):Int:=if qdP t=true then(qd6 t:Nat) else 0
abbrev qoF (t:List Nat):Nat:=if qdP t=true then 0 else 2
theorem qrs {t:List Nat} {i:Nat} (h:4<qd6 (t.take i)):qdP t=false:=by
 have:=qvu (t:=t) i;simp only [qdP,decide_eq_false_iff_not];omega
theorem qx6 {c:Nat} (h:48<=c/\c<=57):IntKind.u8.wrap ((c:Int)-48)=((c-48:Nat):Int):=by
 have:∀ d,d<10->IntKind.u8.wrap (((48+d:Nat):Int)-48)=(d:Int):=by decide
 have:=this (c-48) (by omega)
 rwa [show 48+(c-48)=c by omega] at this
theorem qjz {x:Int} {n:Nat} (h:x=(n:Int)) (hn:n<=9223372036854775807):IntKind.i64.wrap x=(n:Int):=by
 subst h;unfold IntKind.wrap;simp [IntKind.bits,IntKind.signed];omega
theorem qww (x:Lx) (h:x.k=2) (ht:NumT x.t) (hl:x.t.length<=1048576):qaa Tryz.prog 233 [qdJ x] (.d (.int .i64 0)):=by
 obtain⟨k,t,a⟩:=x;simp only at h ht hl;subst h;have hb:=ht.begins;cases t with
 |nil=>exact absurd rfl ht.ne
 |cons c l =>
  have cb:=qrv c l hl;rw [hb] at cb;simp only at cb;refine kF Tryz.func233 [1] fun w=>?_
  repeat' (first|refine zW ?_|refine zB ?_ ?_<;>intro h<;>try exact zk h|refine zC (cb) ?_|rfl|exact zk h|fail)
set_option maxHeartbeats 2000000 in
theorem quP (x:Lx) (h:x.k=2) (ht:NumT x.t) (hl:x.t.length<=1048576):qaa Tryz.prog 192 [qdJ x,.int .i64 1,.int .i64 4] (.tup [.d (.int .i64 (qoT x.t)),.d (.int .i64 (qoF x.t:Nat))]):=by
 have cc:=qww x h ht hl;obtain⟨k,t,a⟩:=x;simp only at h ht hl cc |-;subst h;obtain⟨V,hV⟩:∃ V:Int × Nat,V=(qoT t,qoF t):=⟨_,rfl⟩
 rw [show qoT t=V.1 by rw [hV],show qoF t=V.2 by rw [hV]];refine kF Tryz.func192 [3] fun w=>?_
 repeat' (first|refine zW ?_|refine zB ?_ ?_<;>intro h<;>try exact zk h|refine zC (cc) ?_|exact zk h|fail)
 refine Run.loop (fun i:Nat=>⟨PT.ofList [(1,.d (.int .i64 1)),(2,.d (.int .i64 4)),(3,.d (.ep [.int .i64 (2:Nat),.str t,.int .i64 (a:Nat)])),(9,.d (.int .i64 (qd6 (t.take i):Nat))),(10,.d (.int .i64 (i:Nat)))],[],[]⟩) (fun i=>i<=t.length/\qd6 (t.take i)<=9223372036854775807) (fun i=>t.length-i) 0 ⟨Nat.zero_le _,by simp [qd6]⟩ (qac (by repeat' (first|exact trivial|refine⟨rfl,?_⟩))) (fun i hi=>?_);obtain⟨hi1,hi2⟩:=hi;rcases Nat.lt_or_ge i t.length with hlt|hge
 .obtain⟨c,hc⟩:=qai hlt
  have hd:=ht.digs c (List.mem_of_getElem? hc);have hs:=qlz hc;obtain⟨n,hn⟩:∃ n,n=qd6 (t.take i):=⟨_,rfl⟩
  rw [<- hn] at hi2 hs |-;have v1:AV.d (.int .u8 (IntKind.u8.wrap ((c:Int)-48)))=.d (.int .u8 ((c-48:Nat):Int)):=by rw [qx6 hd]
  have v2:AV.d (.int .i64 (IntKind.i64.wrap ((c-48:Nat):Int)))=.d (.int .i64 ((c-48:Nat):Int)):=by rw [qjz rfl (by omega)]
  have v3:AV.d (.int .i64 (IntKind.i64.wrap (9223372036854775807-((c-48:Nat):Int))))=.d (.int .i64 ((9223372036854775807-(c-48):Nat):Int)):=by rw [qjz (n:=9223372036854775807-(c-48)) (by omega) (by omega)]
  have v4:AV.d (.int .i64 (IntKind.i64.wrap (((9223372036854775807-(c-48):Nat):Int).tdiv 10)))=.d (.int .i64 (((9223372036854775807-(c-48)) / 10:Nat):Int)):=by
   rw [qjz (n:=(9223372036854775807-(c-48)) / 10) (by rw [Int.tdiv_eq_ediv_of_nonneg (by omega)];omega) (by omega)]
  by_cases hbig:(9223372036854775807-(c-48)) / 10<n
  .have hV2:V=(0,2):=by
    rw [hV];have:qdP t=false:=qrs (i:=i+1) (by rw [hs];omega);simp [qoT,qoF,this]
   subst hV2
   repeat' (first|refine zV v4 ?_|refine zV v3 ?_|refine zV v2 ?_|refine zV v1 ?_|refine zW ?_|refine zB ?_ ?_<;>intro h<;>try exact zk h|refine oI (v:=.d (.int .u8 (c:Nat))) ?_ (he:=by first|(simp [gD,hc]<;>fail)|fail)|rfl|exact zk h|fail)
  .have v5:AV.d (.int .i64 (IntKind.i64.wrap (10*(n:Int))))=.d (.int .i64 ((10*n:Nat):Int)):=by rw [qjz (n:=10*n) (by omega) (by omega)]
   have v6:AV.d (.int .i64 (IntKind.i64.wrap (((10*n:Nat):Int)+((c-48:Nat):Int))))=.d (.int .i64 ((10*n+(c-48):Nat):Int)):=by rw [qjz (n:=10*n+(c-48)) (by omega) (by omega)]
   repeat' (first|refine zV v6 ?_|refine zV v5 ?_|refine zV v4 ?_|refine zV v3 ?_|refine zV v2 ?_|refine zV v1 ?_|refine zW ?_|refine zB ?_ ?_<;>intro h<;>try exact zk h|refine oI (v:=.d (.int .u8 (c:Nat))) ?_ (he:=by first|(simp [gD,hc]<;>fail)|fail)|(exact⟨i+1,⟨hlt,by rw [hs];omega⟩,by omega,qac ⟨by kernel_rfl,by kernel_rfl,by kernel_rfl,by rw [hs];kernel_rfl,(qaq (k:=i) (by kernel_rfl) (by omega)),trivial⟩⟩)|exact zk h|fail)
 .have hie:i=t.length:=by omega
  subst hie;rw [List.take_length] at hi2 |-;by_cases hr:1<=qd6 t/\qd6 t<=4
  .have hV2:V=(((qd6 t:Nat):Int),0):=by rw [hV];simp [qoT,qoF,qdP,hr]
   subst hV2
   repeat' (first|refine zW ?_|refine zB ?_ ?_<;>intro h<;>try exact zk h|rfl|exact zk h|fail)
  .have hV2:V=(0,2):=by
    have hno:qdP t=false:=by simp only [qdP,decide_eq_false_iff_not];exact hr
    rw [hV];simp [qoT,qoF,hno]
   subst hV2
   rcases(show qd6 t<1\/4<qd6 t by omega) with hr1|hr1
   .skip
    repeat' (first|refine zW ?_|refine zB ?_ ?_<;>intro h<;>try exact zk h|rfl|exact zk h|fail)
   .skip
    repeat' (first|refine zW ?_|refine zB ?_ ?_<;>intro h<;>try exact zk h|rfl|exact zk h|fail)
theorem NumT.at0 {t:List Nat} (h:NumT t):qaC t 0=0:=by
 cases t with
 |nil=>exact absurd rfl h.ne
 |cons c l =>
  have hc:=h.digs c List.mem_cons_self;have hb:qby (c:Nat)=false:=by
   have:∀ d,d<10->qby ((48+d:Nat):Int)=false:=by decide
   have:=this (c-48) (by omega)
   rwa [show 48+(c-48)=c by omega] at this
  simp only [qaC,List.drop_zero,qbi,hb,Bool.false_eq_true,if_false];rw [if_neg (by omega)]
theorem NumT.class {t:List Nat} (h:NumT t) {c:Nat} (hc:t[0]?=some c):qbb (c:Nat)=2:=by
 have hd:=h.digs c (List.mem_of_getElem? hc);have:∀ d,d<10->qbb ((48+d:Nat):Int)=2:=by decide
 have:=this (c-48) (by omega)
 rwa [show 48+(c-48)=c by omega] at this
theorem qxu (x:Lx) (h:x.k=2) (ht:NumT x.t) (hl:x.t.length<=1048576):qaa Tryz.prog 228 [qdJ x] (.d (.int .i64 0)):=by
 obtain⟨k,t,a⟩:=x;simp only at h ht hl;subst h;obtain⟨c,hc⟩:=qai (show 0<t.length from List.length_pos_iff.2 ht.ne);have h0:=ht.at0;have hr:=ht.run;have cs:=qqW t 0 c (fun c hc=>by have:=ht.digs c hc;omega) hl (Nat.zero_le _) (by rw [h0];exact hc) (ht.class hc)
  (by rw [h0,List.drop_zero,hr];rintro⟨e1,e2⟩;subst e1;exact ht.zero ⟨hc,e2⟩)
  (by rw [h0,List.drop_zero,hr,Nat.zero_add];simp [qb9]) (by rw [h0,List.drop_zero,hr,Nat.zero_add];simp [qb9])
 rw [h0,List.drop_zero,hr,List.take_length] at cs;refine kF Tryz.func228 [1] fun w=>?_
 repeat' (first|refine zW ?_|refine zB ?_ ?_<;>intro h<;>try exact zk h|refine oA cs ?_|rfl|exact zk h|fail)
set_option maxHeartbeats 2000000 in
theorem qu8 (x:Lx) (h:x.k=2) (ht:NumT x.t) (hl:x.t.length<=1048576):qaa Tryz.prog 181 [qdJ x,.int .i64 1,.int .i64 4] (.tup [.d (.int .i64 (qoT x.t)),.d (.int .i64 (qoF x.t:Nat))]):=by
 have cc:=qxu x h ht hl;obtain⟨k,t,a⟩:=x;simp only at h ht hl cc |-;subst h;obtain⟨V,hV⟩:∃ V:Int × Nat,V=(qoT t,qoF t):=⟨_,rfl⟩
 rw [show qoT t=V.1 by rw [hV],show qoF t=V.2 by rw [hV]];refine kF Tryz.func181 [3] fun w=>?_
 repeat' (first|refine zW ?_|refine zB ?_ ?_<;>intro h<;>try exact zk h|refine zC (cc) ?_|exact zk h|fail)
 refine Run.loop (fun i:Nat=>⟨PT.ofList [(1,.d (.int .i64 1)),(2,.d (.int .i64 4)),(3,.d (.ep [.int .i64 (2:Nat),.str t,.int .i64 (a:Nat)])),(9,.d (.int .i64 (qd6 (t.take i):Nat))),(22,.d (.int .i64 (t.length:Nat))),(23,.d (.int .i64 (i:Nat)))],[],[]⟩) (fun i=>i<=t.length/\qd6 (t.take i)<=9223372036854775807) (fun i=>t.length-i) 0 ⟨Nat.zero_le _,by simp [qd6]⟩ (qac (by repeat' (first|exact trivial|refine⟨rfl,?_⟩))) (fun i hi=>?_);obtain⟨hi1,hi2⟩:=hi;rcases Nat.lt_or_ge i t.length with hlt|hge
 .obtain⟨c,hc⟩:=qai hlt
  have hd:=ht.digs c (List.mem_of_getElem? hc);have hs:=qlz hc;obtain⟨n,hn⟩:∃ n,n=qd6 (t.take i):=⟨_,rfl⟩
  rw [<- hn] at hi2 hs |-;have v1:AV.d (.int .u8 (IntKind.u8.wrap ((c:Int)-48)))=.d (.int .u8 ((c-48:Nat):Int)):=by rw [qx6 hd]
  have v2:AV.d (.int .i64 (IntKind.i64.wrap ((c-48:Nat):Int)))=.d (.int .i64 ((c-48:Nat):Int)):=by rw [qjz rfl (by omega)]
  have v3:AV.d (.int .i64 (IntKind.i64.wrap (9223372036854775807-((c-48:Nat):Int))))=.d (.int .i64 ((9223372036854775807-(c-48):Nat):Int)):=by rw [qjz (n:=9223372036854775807-(c-48)) (by omega) (by omega)]
  have v4:AV.d (.int .i64 (IntKind.i64.wrap (((9223372036854775807-(c-48):Nat):Int).tdiv 10)))=.d (.int .i64 (((9223372036854775807-(c-48)) / 10:Nat):Int)):=by
   rw [qjz (n:=(9223372036854775807-(c-48)) / 10) (by rw [Int.tdiv_eq_ediv_of_nonneg (by omega)];omega) (by omega)]
  by_cases hbig:(9223372036854775807-(c-48)) / 10<n
  .have hV2:V=(0,2):=by
    rw [hV];have:qdP t=false:=qrs (i:=i+1) (by rw [hs];omega);simp [qoT,qoF,this]
   subst hV2
   repeat' (first|refine zV v4 ?_|refine zV v3 ?_|refine zV v2 ?_|refine zV v1 ?_|refine zW ?_|refine zB ?_ ?_<;>intro h<;>try exact zk h|refine oI (v:=.d (.int .u8 (c:Nat))) ?_ (he:=by first|(simp [gD,hc]<;>fail)|fail)|rfl|exact zk h|fail)
  .have v5:AV.d (.int .i64 (IntKind.i64.wrap (10*(n:Int))))=.d (.int .i64 ((10*n:Nat):Int)):=by rw [qjz (n:=10*n) (by omega) (by omega)]
   have v6:AV.d (.int .i64 (IntKind.i64.wrap (((10*n:Nat):Int)+((c-48:Nat):Int))))=.d (.int .i64 ((10*n+(c-48):Nat):Int)):=by rw [qjz (n:=10*n+(c-48)) (by omega) (by omega)]
   repeat' (first|refine zV v6 ?_|refine zV v5 ?_|refine zV v4 ?_|refine zV v3 ?_|refine zV v2 ?_|refine zV v1 ?_|refine zW ?_|refine zB ?_ ?_<;>intro h<;>try exact zk h|refine oI (v:=.d (.int .u8 (c:Nat))) ?_ (he:=by first|(simp [gD,hc]<;>fail)|fail)|(exact⟨i+1,⟨hlt,by rw [hs];omega⟩,by omega,qac ⟨by kernel_rfl,by kernel_rfl,by kernel_rfl,by rw [hs];kernel_rfl,by kernel_rfl,(qaq (k:=i) (by kernel_rfl) (by omega)),trivial⟩⟩)|exact zk h|fail)
 .have hie:i=t.length:=by omega
  subst hie;rw [List.take_length] at hi2 |-;by_cases hr:1<=qd6 t/\qd6 t<=4
  .have hV2:V=(((qd6 t:Nat):Int),0):=by rw [hV];simp [qoT,qoF,qdP,hr]
   subst hV2
   repeat' (first|refine zW ?_|refine zB ?_ ?_<;>intro h<;>try exact zk h|rfl|exact zk h|fail)
  .have hV2:V=(0,2):=by
    have hno:qdP t=false:=by simp only [qdP,decide_eq_false_iff_not];exact hr
    rw [hV];simp [qoT,qoF,hno]
   subst hV2
   rcases(show qd6 t<1\/4<qd6 t by omega) with hr1|hr1
   .skip
    repeat' (first|refine zW ?_|refine zB ?_ ?_<;>intro h<;>try exact zk h|rfl|exact zk h|fail)
   .skip
    repeat' (first|refine zW ?_|refine zB ?_ ?_<;>intro h<;>try exact zk h|rfl|exact zk h|fail)
abbrev pG:List Ob:=[.gone,.gone,.gone,.gone,.gone]
abbrev qvc (s:List Nat):Except Fa PS->List Ob
 |.ok q=>pO s q
 |.error _=>pG
theorem qga {s:List Nat} {k:Nat} {t:List Nat} {p q:PS} (h:qa3 s k t p=.ok q):q={ p with l:=q.l }/\p.l.length=q.l.length+1/\∀ x ∈ q.l,x ∈ p.l:=by
 unfold qa3 qce at h;cases hl:p.l with
 |nil=>rw [hl] at h;simp [Except.bind] at h
 |cons x l =>
  rw [hl] at h;simp only [Except.bind] at h;split at h
  .simp only [Except.ok.injEq] at h
   rw [<- h];exact⟨rfl,rfl,fun y hy=>List.mem_cons_of_mem _ hy⟩
  .cases h
theorem qge {s:List Nat} {may:List Nat->Bool} {p:PS} {q:Lx × PS} (h:qcb s may p=.ok q):q.2={ p with l:=q.2.l }/\p.l=q.1 :: q.2.l:=by
 unfold qcb qce at h;cases hl:p.l with
 |nil=>rw [hl] at h;simp [Except.bind] at h
 |cons x l =>
  rw [hl] at h;simp only [Except.bind] at h;split at h
  .cases h
  .split at h
   .simp only [Except.ok.injEq] at h
    rw [<- h];exact⟨rfl,rfl⟩
   .cases h
theorem qew {s:List Nat} {sep:Bool} {p:PS} {q:List Nat × PS} (h:qa8 s sep p=.ok q):q.2={ p with l:=q.2.l,names:=q.2.names }/\p.l.length=q.2.l.length+1/\(∀ x ∈ q.2.l,x ∈ p.l)/\(sep=false->p.x.tokens.length≠8):=by
 unfold qa8 at h;cases hw:qcb s qap p with
 |error e=>rw [hw] at h;cases h
 |ok v =>
  rw [hw] at h;obtain⟨e1,e2⟩:=qge hw;simp only [Except.bind] at h;split at h
  .cases h
  .split at h
   .cases h
   .rename_i hc
    simp only [Except.ok.injEq] at h;rw [<- h];have ex:v.2.x=p.x:=by rw [e1]
    refine⟨?_,by rw [e2];rfl,fun x hx=>by rw [e2];exact List.mem_cons_of_mem _ hx,fun hs e=>hc ⟨hs,by rw [ex];exact e⟩⟩;simp only;rw [e1]
theorem PB.of {p q:PS} (h:PB p) (hl:∀ x ∈ q.l,x ∈ p.l) (hll:q.l.length<=p.l.length) (ht:q.x.tokens.length<=1000) (hr:q.x.rules.length<=1000) (hu:q.uses.length+q.l.length<=200000) (hn:q.total<=1000):PB q :=
 ⟨fun x hx=>h.len x (hl x hx),Nat.le_trans hll h.l,ht,hr,hu,hn⟩
theorem PB.l' {p q:PS} (h:PB p) (e:q={ p with l:=q.l }) (hl:∀ x ∈ q.l,x ∈ p.l) (hll:q.l.length<=p.l.length):PB q :=
 h.of hl hll (by rw [e];exact h.toks) (by rw [e];exact h.rules) (by rw [e];have:=h.uses;simp only;omega) (by rw [e];exact h.total)
set_option maxHeartbeats 4000000 in
theorem qyx (s:List Nat) (p:PS) (hb:PB p) (hn:quE p.l):ACall Tryz.prog 98 [.bp 0 0] (pO s p) (qsi (qhT s p)) (qvc s (qhT s p)):=by
 have w:Fz []:=trivial;have c0:=qtL s p qcz;unfold qhT;cases h0:qa3 s 1 qcz p with
 |error e =>
  rw [h0] at c0;simp only [Except.bind];refine qaj (fnB Tryz.func98 []) rfl rfl rfl rfl ?_
  repeat' (first|refine zW ?_|refine zB ?_ ?_<;>intro h<;>try exact zk h|refine oFP (c0) ?_|(exact⟨rfl,rfl,wkE⟩)|exact zk h|fail)
 |ok q =>
  rw [h0] at c0;obtain⟨e1,e2,e3⟩:=qga h0;simp only [Except.bind];cases hl:q.l with
  |nil =>
   have c1:=qia s q hl;rw [show qce s q=.error (5,s.length) by simp [qce,hl]];refine qaj (fnB Tryz.func98 []) rfl rfl rfl rfl ?_
   repeat' (first|refine zW ?_|refine zB ?_ ?_<;>intro h<;>try exact zk h|refine oF (c0) ?_|refine eF (c0) ?_|refine oFP (c1) ?_|(exact⟨rfl,rfl,wkE⟩)|exact zk h|fail)
  |cons x l =>
   have c1:=qjn s q x l hl;rw [show qce s q=.ok (x,{ q with l:=l }) by simp [qce,hl]];simp only;have hx:x ∈ p.l:=e3 x (by rw [hl];exact List.mem_cons_self);by_cases hk:x.k=2
   .have hkk:AV.d (.bool (((x.k:Nat):Int) != 2))=.d (.bool false):=by rw [hk];rfl
    have cn:=qu8 x hk (hn x hx hk) (hb.len x hx);unfold qoT qoF at cn;rw [if_neg (by simp [hk])];cases hv:qdP x.t with
    |true =>
     rw [hv,if_pos rfl,if_pos rfl] at cn;rw [if_pos rfl];have c2:=qxA s { q with l:=l,x:={ q.x with k:=(qd6 x.t:Nat) } };cases h3:qa3 s 3 qau { q with l:=l,x:={ q.x with k:=(qd6 x.t:Nat) } } with
     |error e =>
      rw [h3] at c2;refine qaj (fnB Tryz.func98 []) rfl rfl rfl rfl ?_
      repeat' (first|refine zV hkk ?_|refine zW ?_|refine zB ?_ ?_<;>intro h<;>try exact zk h|refine oF (c0) ?_|refine eF (c0) ?_|refine oF (c1) ?_|refine eF (c1) ?_|refine zC (cn) ?_|refine oFP (c2) ?_|(exact⟨rfl,rfl,wkE⟩)|exact zk h|fail)
     |ok q3 =>
      rw [h3] at c2;refine qad qak (fnB Tryz.func98 []) rfl rfl rfl rfl rfl ?_
      repeat' (first|refine zV hkk ?_|refine zW ?_|refine zB ?_ ?_<;>intro h<;>try exact zk h|refine oF (c0) ?_|refine eF (c0) ?_|refine oF (c1) ?_|refine eF (c1) ?_|refine zC (cn) ?_|refine oF (c2) ?_|refine eF (c2) ?_|(((first|refine Yt ?_|skip);exact⟨trivial,_,_,rfl,rfl,.refl,wkE⟩))|exact zk h|fail)
    |false =>
     rw [hv,if_neg (by simp),if_neg (by simp)] at cn;rw [if_neg (by simp)];have c2:=qf1 s { q with l:=l } 2 x.a;refine qaj (fnB Tryz.func98 []) rfl rfl rfl rfl ?_
     repeat' (first|refine zV hkk ?_|refine zW ?_|refine zB ?_ ?_<;>intro h<;>try exact zk h|refine oF (c0) ?_|refine eF (c0) ?_|refine oF (c1) ?_|refine eF (c1) ?_|refine zC (cn) ?_|refine oFP (c2) ?_|(exact⟨rfl,rfl,wkE⟩)|exact zk h|fail)
   .have c2:=qf1 s { q with l:=l } 3 x.a
    rw [if_pos hk];refine qaj (fnB Tryz.func98 []) rfl rfl rfl rfl ?_
    repeat' (first|refine zW ?_|refine zB ?_ ?_<;>intro h<;>try exact zk h|refine oF (c0) ?_|refine eF (c0) ?_|refine oF (c1) ?_|refine eF (c1) ?_|refine oFP (c2) ?_|(exact⟨rfl,rfl,wkE⟩)|exact zk h|fail)
theorem qAP (s:List Nat) (p:PS) (hb:PB p):ACall Tryz.prog 100 [.bp 0 0] (pO s p) (qsi (qp9 s p)) (qvc s (qp9 s p)):=by
 have w:Fz []:=trivial;have c0:=qtL s p qf2;unfold qp9;cases h0:qa3 s 1 qf2 p with
 |error e =>
  rw [h0] at c0;simp only [Except.bind];refine qaj (fnB Tryz.func100 []) rfl rfl rfl rfl ?_
  repeat' (first|refine zW ?_|refine zB ?_ ?_<;>intro h<;>try exact zk h|refine oFP (c0) ?_|(exact⟨rfl,rfl,wkE⟩)|exact zk h|fail)
 |ok q =>
  rw [h0] at c0;obtain⟨e1,e2,e3⟩:=qga h0;simp only [Except.bind];have c1:=qjf s q true (hb.l' e1 e3 (by omega));cases h1:qa8 s true q with
  |error e =>
   rw [h1] at c1;refine qaj (fnB Tryz.func100 []) rfl rfl rfl rfl ?_
   repeat' (first|refine zW ?_|refine zB ?_ ?_<;>intro h<;>try exact zk h|refine oF (c0) ?_|refine eF (c0) ?_|refine oFP (c1) ?_|(exact⟨rfl,rfl,wkE⟩)|exact zk h|fail)
  |ok v =>
   rw [h1] at c1;obtain⟨t,v⟩:=v;have c2:=qxA s { v with x:={ v.x with sep:=t } };simp only;cases h2:qa3 s 3 qau { v with x:={ v.x with sep:=t } } with
   |error e =>
    rw [h2] at c2;refine qaj (fnB Tryz.func100 []) rfl rfl rfl rfl ?_
    repeat' (first|refine zW ?_|refine zB ?_ ?_<;>intro h<;>try exact zk h|refine oF (c0) ?_|refine eF (c0) ?_|refine oF (c1) ?_|refine eF (c1) ?_|refine oFP (c2) ?_|(exact⟨rfl,rfl,wkE⟩)|exact zk h|fail)
   |ok q3 =>
    rw [h2] at c2;refine qad qak (fnB Tryz.func100 []) rfl rfl rfl rfl rfl ?_
    repeat' (first|refine zW ?_|refine zB ?_ ?_<;>intro h<;>try exact zk h|refine oF (c0) ?_|refine eF (c0) ?_|refine oF (c1) ?_|refine eF (c1) ?_|refine oF (c2) ?_|refine eF (c2) ?_|(((first|refine Yt ?_|skip);exact⟨trivial,_,_,rfl,rfl,.refl,wkE⟩))|exact zk h|fail)
theorem qty {s:List Nat} {p q:PS} (h:qeM s p=.ok q):∃ t v,qa8 s false p=.ok (t,v)/\q={ v with x:={ v.x with tokens:=v.x.tokens++[t] } }:=by
 unfold qeM at h;cases hv:qa8 s false p with
 |error e=>rw [hv] at h;cases h
 |ok v =>
  rw [hv] at h;simp only [Except.bind,Except.ok.injEq] at h;exact⟨v.1,v.2,rfl,h.symm⟩
abbrev pOt (s:List Nat) (v:PS) (t:List Nat):List Ob:=[.box [.d (.str s),.d (.sl 3 (v.l.map qdJ)),.d (.int .i64 v.x.k),.sr 1 1 (v.x.tokens.map .str++[.str t]),.d (.str v.x.sep),.d (.str v.x.start),.sr 2 2 (v.x.rules.map qbV),.mp 3,.sr 4 2 (v.uses.map qp8),.d (.int .i64 (v.total:Nat))],.room (v.x.tokens.length+1) 1,.room v.x.rules.length 2,.map (kvN v.names),.room v.uses.length 2]
theorem qtZ (s:List Nat) (v:PS) (t:List Nat):pO s { v with x:={ v.x with tokens:=v.x.tokens++[t] } }=pOt s v t:=by
 unfold pO qqf pOt;simp only [List.map_append,List.map_cons,List.map_nil,List.length_append,List.length_cons,List.length_nil]
def KXu (s:List Nat) (rv:Array ResultVar) (R:Except Fa PS):Ex->S->Prop:=fun e st=>match R with
 |.ok q=>(match e with|.normal=>True|.ret=>True|_=>False)/\∃ objs2 r0,qaX H0 st.dl none st.objs=some (none,objs2)/\qaD Et ⟨st.tm,objs2,[]⟩ rv=some r0/\AvR r0 (.tup [])/\WkObs objs2 (pO s q)
 |.error x=>e=.pan (qoE x)/\st.dl=[]/\WkObs st.objs pG
theorem qqQ {f:FuncId} {i:FnI} (hF:qmt Tryz.prog f i) {args:List AV} {s:List Nat} {p:PS} {R:Except Fa PS} (hlen:args.length=i.np) (hle:Nat.ble i.np i.nt=true)
  (h:Run Tryz.prog i.nt (pO s p).length none i.body ⟨qb7 0 args .nil,pO s p,[]⟩ (KXu s i.results R)):ACall Tryz.prog f args (pO s p) (qsi R) (qvc s R):=by
 cases R with
 |ok q=>exact qad qak hF hlen hle rfl rfl rfl h
 |error x=>exact qaj hF hlen hle rfl rfl h
theorem qje {s:List Nat} {sep:Bool} {p:PS} {t:List Nat} {v:PS} (h:qa8 s sep p=.ok (t,v)):∃ l n,v=⟨l,p.x,n,p.uses,p.total⟩:=by
 have:=(qew h).1;exact⟨v.l,v.names,this⟩
set_option maxHeartbeats 8000000 in
theorem qvG (s:List Nat) (p:PS) (hb:PB p) (h8:p.x.tokens.length<=8):ACall Tryz.prog 99 [.bp 0 0] (pO s p) (qsi (qdb s p)) (qvc s (qdb s p)):=by
 have w:Fz [12,29]:=trivial;have c0:=qtL s p qaZ;unfold qdb;cases h0:qa3 s 1 qaZ p with
 |error e =>
  rw [h0] at c0;simp only [Except.bind];refine qaj (fnB Tryz.func99 [12,29]) rfl rfl rfl rfl ?_
  repeat' (first|refine zW ?_|refine zB ?_ ?_<;>intro h<;>try exact zk h|refine zX ?_|refine oFP (c0) ?_|(exact⟨rfl,rfl,wkE⟩)|exact zk h|fail)
 |ok q =>
  rw [h0] at c0;obtain⟨e1,e2,e3⟩:=qga h0;have hbq:=hb.l' e1 e3 (by omega);simp only [Except.bind];have ct:=qjf s q false hbq;have htq:=hbq.toks;unfold qeM;cases h1:qa8 s false q with
  |error e =>
   rw [h1] at ct;simp only [Except.bind];refine qaj (fnB Tryz.func99 [12,29]) rfl rfl rfl rfl ?_
   repeat' (first|refine zRn ?_|refine oF (c0) ?_|refine eF (c0) ?_|fail)
   refine Run.drawP (frz:=[12,29]) qak (by kernel_rfl) [(5,7)] 7 [8,9,13,10,11,12] (x:=qoE e) (obP:=pE q) (by rfl) (by kernel_rfl) ?_ ?_
   .iterate 7 refine cX ?_
    refine cP ct ?_;iterate 6 refine cD ?_
    refine EvC.nil ⟨by kernel_rfl,⟨⟨_,_,_,_,_,_,_,rfl,rfl,rfl,rfl,rfl,rfl⟩,trivial⟩⟩
   .exact⟨rfl,rfl,wkE⟩
  |ok v =>
   rw [h1] at ct;obtain⟨t,v⟩:=v;obtain⟨y1,y2,y3,y4⟩:=qew h1;have y4:=y4 rfl;obtain⟨vl,vn,rfl⟩:=qje h1;simp only [Except.bind] at y2 y3 |-;obtain⟨p1,hp1⟩:∃ p1:PS,p1=⟨vl,{ q.x with tokens:=q.x.tokens++[t] },vn,q.uses,q.total⟩:=⟨_,rfl⟩
   have hO1:pO s p1=pOt s ⟨vl,q.x,vn,q.uses,q.total⟩ t:=by rw [hp1];exact qtZ s ⟨vl,q.x,vn,q.uses,q.total⟩ t
   have hq8:q.x.tokens.length<=100000:=by omega
   have h8q:q.x.tokens.length<=8:=by rw [e1];exact h8
   have hbV:∀ (l:List Lx) (X:Src) (n:List (List Nat × Bool × Bool × Bool)) (u:List (List Nat × Nat)) (k:Nat) (t:List Nat),(∀ x ∈ l,x ∈ q.l)->l.length<=q.l.length->X.tokens.length<=8->X.rules.length<=1000->u.length<=q.uses.length->k<=1000->PB ⟨l,{ X with tokens:=X.tokens++[t] },n,u,k⟩:=fun l X n u k t g1 g2 g3 g4 g5 g6 =>
    ⟨fun x hx=>hbq.len x (g1 x hx),by have:=hbq.l;simp only;omega,by simp;omega,g4,by have:=hbq.uses;simp only;omega,g6⟩
   have hb1:PB p1:=by rw [hp1];exact hbV vl q.x vn q.uses q.total t y3 (by omega) h8q hbq.rules (Nat.le_refl _) hbq.total
   obtain⟨R,hR⟩:∃ R,R=(qcm s (vl.length+1) p1).bind fun p=>qa3 s 3 qau p:=⟨_,rfl⟩
   rw [hp1] at hR;simp only [Except.bind] at hR;rw [<- hR];refine qqQ (fnB Tryz.func99 [12,29]) rfl rfl ?_
   repeat' (first|refine zRn ?_|refine oF (c0) ?_|refine eF (c0) ?_|fail)
   refine Run.drawC (frz:=[12,29]) qak (by kernel_rfl) [(5,7)] ?_;iterate 7 refine cX ?_
   refine qtF ct ?_;refine cX ?_;refine cX ?_ (hv:=qnV) (hf:=rfl) (he:=rfl);iterate 4 refine cX ?_
   refine EvC.nil ⟨by kernel_rfl,⟨⟨_,_,_,_,_,_,_,rfl,rfl,rfl,rfl,rfl,rfl⟩,trivial⟩,?_⟩;refine Yq ?_;refine Yb ?_;refine Run.loopT (fun y:Nat × PS=>⟨PT.ofList [(0,.bp 0 0)],pO s y.2,[]⟩) (fun y=>((qcm s y.1 y.2).bind fun p=>qa3 s 3 qau p)=R/\PB y.2/\y.2.x.tokens.length<=8/\y.2.l.length<y.1/\y.2.l.length<=q.l.length/\(∀ x ∈ y.2.l,x ∈ q.l)/\y.2.uses.length<=q.uses.length) (fun y=>y.1) (vl.length+1,p1)
    ⟨by rw [hR,hp1];rfl,hb1,by rw [hp1];simp;omega,by rw [hp1];simp only;omega,by rw [hp1];simp only;omega,by rw [hp1];exact y3,by rw [hp1];exact Nat.le_refl _⟩ (by show qbU _ _ ⟨_,pO s p1,_⟩;rw [hO1];exact(ti _ 5)) (fun y hy=>?_)
   obtain⟨n,y⟩:=y;obtain⟨i1,i2,i3,i4,i5,i6,i7⟩:=hy;simp only at i1 i2 i3 i4 i5 i6 i7 |-;obtain⟨n,rfl⟩:∃ j,n=j+1:=⟨n-1,by omega⟩
   have ci:=qAa s y qdF;unfold qcm at i1;cases hc:isL qdF y.l with
   |false =>
    rw [hc] at ci i1;simp only [Bool.false_eq_true,if_false,Except.bind] at i1;have ce:=qxA s y;rw [i1] at ce;cases R with
    |ok q9 =>
     repeat' (first|refine zW ?_|refine zB ?_ ?_<;>intro h<;>try exact zk h|refine zX ?_|refine oF (ci) ?_|refine eF (ci) ?_|refine oF (ce) ?_|refine eF (ce) ?_|(((first|refine Yt ?_|skip);exact⟨trivial,_,_,rfl,rfl,.refl,wkE⟩))|exact zk h|fail)
    |error e9 =>
     repeat' (first|refine zW ?_|refine zB ?_ ?_<;>intro h<;>try exact zk h|refine zX ?_|refine oF (ci) ?_|refine eF (ci) ?_|refine oFP (ce) ?_|(exact⟨rfl,rfl,wkE⟩)|exact zk h|fail)
   |true =>
    rw [hc,if_pos rfl] at i1;rw [hc] at ci;obtain⟨x,l,hl,_,_⟩:=qsB hc;have cn:=qjn s y x l hl;rw [show qce s y=.ok (x,{ y with l:=l }) by simp [qce,hl]] at i1;simp only [Except.bind] at i1;have hby:PB { y with l:=l }:=i2.of (fun z hz=>by rw [hl];exact List.mem_cons_of_mem _ hz) (by rw [hl];simp) i2.toks i2.rules (by have:=i2.uses;rw [hl] at this;simp at this |-;omega) i2.total;have cz:=qjf s { y with l:=l } false hby;have hty:=i2.toks;unfold qeM at i1;cases hz:qa8 s false { y with l:=l } with
    |error e9 =>
     rw [hz] at cz i1;simp only [Except.bind] at i1;subst i1
     repeat' (first|refine zN ?_|refine zB ?_ ?_<;>intro h<;>try exact zk h|refine zX ?_|refine oF (ci) ?_|refine eF (ci) ?_|refine oF (cn) ?_|refine eF (cn) ?_|exact zk h|fail)
     refine Run.drawP (frz:=[12,29]) qak (by kernel_rfl) [(5,7)] 7 [8,9,13,10,11,12] (x:=qoE e9) (obP:=pE { y with l:=l }) (by rfl) (by kernel_rfl) ?_ ?_
     .iterate 7 refine cX ?_
      refine cP cz ?_;iterate 6 refine cD ?_
      refine EvC.nil ⟨by kernel_rfl,⟨⟨_,_,_,_,_,_,_,rfl,rfl,rfl,rfl,rfl,rfl⟩,trivial⟩⟩
     .exact⟨rfl,rfl,wkE⟩
    |ok w =>
     rw [hz] at cz i1;obtain⟨tz,w⟩:=w;obtain⟨z1,z2,z3,z4⟩:=qew hz;have z4:=z4 rfl;obtain⟨wl,wn,rfl⟩:=qje hz;simp only [Except.bind] at i1 z2 z3 z4;have hlq:l.length<q.l.length/\l.length+1=y.l.length:=by rw [hl] at i5 |-;simp at i5 |-;omega
     have hmem:∀ x ∈ wl,x ∈ q.l:=fun x hx=>i6 x (by rw [hl];exact List.mem_cons_of_mem _ (z3 x hx));have h7:y.x.tokens.length<=7:=by omega
     have fin:∀ s1:S,qbU 5 s1 ⟨PT.ofList [(0,.bp 0 0)],pOt s ⟨wl,y.x,wn,y.uses,y.total⟩ tz,[]⟩ ->
       ∃ x':Nat × PS,(((qcm s x'.1 x'.2).bind fun p=>qa3 s 3 qau p)=R/\PB x'.2/\x'.2.x.tokens.length<=8/\x'.2.l.length<x'.1/\x'.2.l.length<=q.l.length/\(∀ x ∈ x'.2.l,x ∈ q.l)/\x'.2.uses.length<=q.uses.length)/\x'.1<n+1/\qbU 5 s1 ⟨PT.ofList [(0,.bp 0 0)],pO s x'.2,[]⟩:=fun s1 ht =>
      ⟨(n,⟨wl,{ y.x with tokens:=y.x.tokens++[tz] },wn,y.uses,y.total⟩),⟨i1,hbV wl y.x wn y.uses y.total tz hmem (by omega) (by omega) i2.rules i7 i2.total,by simp;omega,by simp only;omega,by simp only;omega,hmem,i7⟩,Nat.lt_succ_self _,by
       show qbU 5 s1 ⟨PT.ofList [(0,.bp 0 0)],pO s ⟨wl,{ y.x with tokens:=y.x.tokens++[tz] },wn,y.uses,y.total⟩,[]⟩
       rw [qtZ s ⟨wl,y.x,wn,y.uses,y.total⟩ tz];exact ht⟩
     repeat' (first|refine zN ?_|refine zB ?_ ?_<;>intro h<;>try exact zk h|refine zX ?_|refine oF (ci) ?_|refine eF (ci) ?_|refine oF (cn) ?_|refine eF (cn) ?_|exact zk h|fail)
     refine Run.drawC (frz:=[12,29]) qak (by kernel_rfl) [(5,7)] ?_;iterate 7 refine cX ?_
     refine qtF cz ?_;refine cX ?_;refine cX ?_ (hv:=qnV) (hf:=rfl) (he:=rfl);iterate 4 refine cX ?_
     refine EvC.nil ⟨by kernel_rfl,⟨⟨_,_,_,_,_,_,_,rfl,rfl,rfl,rfl,rfl,rfl⟩,trivial⟩,?_⟩
     repeat' (first|refine zW ?_|refine zB ?_ ?_<;>intro h<;>try exact zk h|refine zX ?_|(exact fin _ (ti _ 5))|exact zk h|fail)
end Go.Av
end

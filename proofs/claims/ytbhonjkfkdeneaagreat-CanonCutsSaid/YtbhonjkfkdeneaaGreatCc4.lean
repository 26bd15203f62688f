/-
  Parts of the way to the law, joined: rules for code over data, and what the functions return. Conditions stand at each.
-/
import Derived.Test.YtbhonjkfkdeneaaGreatCc3
import Derived.Test.YtbhonjkfkdeneaaGreatCc2
set_option linter.all false
noncomputable section
namespace Go.Av
open Go Go.Proofs
set_option maxRecDepth 10000
theorem vN {x:Int} {n:Nat} (h:x=(n:Int)) (hn:n≤1099511627776):AV.d (.int .i64 (IntKind.i64.wrap x))=.d (.int .i64 (n:Int)):=by
 subst h;exact congrArg (fun n=>AV.d (.int .i64 n)) (wrap_nat hn)
theorem numS (l:List Int) (hl:∀ n ∈ l,W64 n) (i:Nat):KnownCall Tryz.prog 56 [.int .i64 (atF l i),.int .i64 1073741824] (.d (.int .i64 (numF l i:Nat))):=mod30 _ (atF_wf hl i)
theorem shrN {a b:Nat} (h:b≤64):Int.fdiv (a:Int) (2 ^ (min (b:Int).toNat 64))=((a / 2 ^ b:Nat):Int):=by
 rw [Int.toNat_natCast,Nat.min_eq_left h,Int.fdiv_eq_ediv_of_nonneg _ (Int.pow_nonneg (by decide))]
 push_cast
 rfl
theorem shrF (n:Nat):(!decide ((n:Int)<0))=true:=by simp
def kTok (k:Nat):List (List Nat):=[[97],[98]].take (1+k / 2 % 2)
def kMany (k:Nat):Nat:=1+k / 4 % 3
def zF (y s:Nat):Nat:=y / 4 / 2 ^ (4*s) % 16
def symN (T M z:Nat):Nat:=if z % 5<3 then z % T else 16+z % M
def rgtTo (T M y s:Nat):List Int:=(List.range s).map fun s=>((symN T M (zF y s):Nat):Int)
def prodN (nums:List Int) (T M i j:Nat):GProd:=⟨((16+i:Nat):Int),rgtTo T M (numF nums (4+3*i+j)) (numF nums (4+3*i+j) % 4)⟩
def rowTo (nums:List Int) (T M i j:Nat):List GProd:=(List.range j).map (prodN nums T M i)
def accTo (nums:List Int) (T M:Nat):Nat→List GProd
 |0=>[]
 |i+1=>(accTo nums T M i++rowTo nums T M i (numF nums (1+i) % 3+1)).take 7
def namesTo (i:Nat):List (List Nat):=(List.range i).map fun i=>[83+i]
def anyF (nums:List Int):Gram :=
 ⟨((1+numF nums 0 % 2:Nat):Int),kTok (numF nums 0),[122],namesTo (kMany (numF nums 0)),16,accTo nums (kTok (numF nums 0)).length (kMany (numF nums 0)) (kMany (numF nums 0))⟩
theorem kTok_len (k:Nat):(kTok k).length=1+k / 2 % 2:=by simp [kTok];omega
theorem cutTokV (k:Nat):AV.d (DV.sl 1 (cutL none (some ((1+k / 2 % 2:Nat):Int)) [.str [97],.str [98]]))=AV.d (strs (kTok k)):=by
 rcases Nat.mod_two_eq_zero_or_one (k / 2) with h|h<;>simp only [kTok,h]<;>rfl
theorem cutTokF (k:Nat):(cutC none (some ((1+k / 2 % 2:Nat):Int)) 2 && true)=true:=by
 rcases Nat.mod_two_eq_zero_or_one (k / 2) with h|h<;>rw [h]<;>rfl
abbrev fA:List Nat:=[19,40,42,96,105,111]
abbrev boxA (k:Int) (toks:List (List Nat)) (ns ps:AV):Ob:=.box [.d (.int .i64 k),.d (strs toks),.d (.str [122]),ns,.d (.int .i64 16),ps]
theorem vU8 {n:Nat} (h:n<256):AV.d (.int .u8 (IntKind.u8.wrap (n:Int)))=.d (.int .u8 (n:Int)):=by
 have:IntKind.u8.wrap (n:Int)=n:=by unfold IntKind.wrap;simp [IntKind.bits,IntKind.signed];omega
 rw [this]
theorem vU64 {n:Nat} (h:n<1048576):AV.d (.int .u64 (IntKind.u64.wrap (n:Int)))=.d (.int .u64 (n:Int)):=by
 have:IntKind.u64.wrap (n:Int)=n:=by unfold IntKind.wrap;simp [IntKind.bits,IntKind.signed];omega
 rw [this]
theorem vT {p:Prop} [Decidable p] (h:p):AV.d (.bool (decide p))=.d (.bool true):=by rw [decide_eq_true h]
theorem vF {p:Prop} [Decidable p] (h:¬ p):AV.d (.bool (decide p))=.d (.bool false):=by rw [decide_eq_false h]
def nsD (i:Nat):List DV:=(namesTo i).map .str
def rgtD (l:List Int):List DV:=l.map (.int .i64)
def rowN:List Int→DV
 |[]=>.nilsl
 |a :: l=>ints (a :: l)
def encN (p:GProd):DV:=.agg [.int .i64 p.left,rowN p.right]
theorem encN_to (l:List GProd):DvN (.sl 2 (l.map encN)) (.sl 2 (l.map encP)):=by
 refine DvN.map (f:=encN) (g:=encP) (n:=2) (fun _=>rfl) (fun _=>rfl) l fun a _ i x y hx hy=>?_
 match i with
 |0=>simp [encN,encP,cellsD] at hx hy;subst hx hy;exact .refl
 |1 =>
  simp [encN,encP,cellsD] at hx hy;subst hx hy
  cases a.right with
  |nil=>exact .nil
  |cons r l=>exact .refl
 |i+2=>simp [encN,cellsD] at hx
theorem range_split (j d:Nat):List.range (j+d)=List.range j++List.range' j d:=by
 rw [List.range_eq_range',List.range_eq_range',← List.range'_append_1,Nat.zero_add]
theorem nsD_succ (i:Nat):nsD (i+1)=nsD i++[.str [83+i]]:=by simp [nsD,namesTo,List.range_succ]
def psI (p:GProd):Nat:=match p.right with|[]=>4|_ :: _=>5
def psA:List GProd→AV
 |[]=>.d .nilsl
 |p :: l=>.sr (psI p) 2 (encN p :: l.map encN)
def psO:List GProd→List Ob
 |[]=>[]
 |p :: l=>.box [.d (.int .i64 p.left),rowA 4 1 (rgtD p.right)] :: (rowO 1 (rgtD p.right)++[.room (l.length+1) 2])
theorem accTo_len (nums:List Int) (T M i:Nat):(accTo nums T M i).length≤7:=by
 cases i with
 |zero=>exact Nat.zero_le _
 |succ i=>simp only [accTo,List.length_take];omega
theorem acc_ne (nums:List Int) (T M i:Nat):accTo nums T M (i+1)≠[]:=fun h=>by
 have h:=congrArg List.length h
 simp [accTo,rowTo] at h
set_option maxHeartbeats 4000000 in
theorem anyS0 (nums:List Int) (hn:∀ n ∈ nums,W64 n):KnownCall Tryz.prog 52 [ints nums] (.d (.agg [.int .i64 (anyF nums).k,strs (anyF nums).tokens,.str (anyF nums).sep,strs (anyF nums).names,.int .i64 (anyF nums).start,.sl 2 ((anyF nums).prods.map encN)])):=by
 obtain⟨k,hk⟩:∃ k,k=numF nums 0:=⟨_,rfl⟩
 have hkl:=numF_lt nums 0
 have hm0:=numS nums hn 0
 rw [← hk] at hm0 hkl
 obtain⟨M,hM⟩:∃ M,M=1+k / 4 % 3:=⟨_,rfl⟩
 obtain⟨T,hT⟩:∃ T,T=(kTok k).length:=⟨_,rfl⟩
 have hT2:1≤T∧T≤2:=by rw [hT,kTok_len];omega
 rw [show anyF nums=⟨((1+k % 2:Nat):Int),kTok k,[122],namesTo M,16,accTo nums T M M⟩ from by simp only [anyF,← hk,hM,hT,kMany]]
 refine knownE Yo (fnAt Tryz.func52 (by kernel_rfl) (by kernel_rfl):FnAt _ _ (mkFn Tryz.f52 fA)) ?_
 show Run _ _ _ _ _ _ (EndK _ _ (.d (.agg [.int .i64 ((1+k % 2:Nat):Int),strs (kTok k),.str [122],strs (namesTo M),.int .i64 16,.sl 2 ((accTo nums T M M).map encN)])))
 repeat refine zG fA ?_
 iterate 1 refine zX fA ?_
 repeat refine zG fA ?_
 iterate 1 refine zX fA ?_
 refine oC (atS nums 0) ?_
 refine oC hm0 ?_
 iterate 1 refine zX fA ?_
 repeat refine zG fA ?_
 iterate 1 refine zX fA ?_
 first|refine oX (frz:=fA) (v:=.d (.int .i64 ((k % 2:Nat):Int))) Yo ?_ (he:=(rfl))|refine eX (v:=.d (.int .i64 ((k % 2:Nat):Int))) ?_ (he:=(rfl))
 first|refine oX (frz:=fA) (v:=.d (.int .i64 ((1+k % 2:Nat):Int))) Yo ?_ (he:=(vN (by omega) (by omega)))|refine eX (v:=.d (.int .i64 ((1+k % 2:Nat):Int))) ?_ (he:=(vN (by omega) (by omega)))
 iterate 2 refine zX fA ?_
 first|refine oX (frz:=fA) (v:=.d (.int .i64 ((k / 2:Nat):Int))) Yo ?_ (he:=(vN rfl (by omega)))|refine eX (v:=.d (.int .i64 ((k / 2:Nat):Int))) ?_ (he:=(vN rfl (by omega)))
 first|refine oX (frz:=fA) (v:=.d (.int .i64 ((k / 2 % 2:Nat):Int))) Yo ?_ (he:=(rfl))|refine eX (v:=.d (.int .i64 ((k / 2 % 2:Nat):Int))) ?_ (he:=(rfl))
 first|refine oX (frz:=fA) (v:=.d (.int .i64 ((1+k / 2 % 2:Nat):Int))) Yo ?_ (he:=(vN (by omega) (by omega)))|refine eX (v:=.d (.int .i64 ((1+k / 2 % 2:Nat):Int))) ?_ (he:=(vN (by omega) (by omega)))
 refine oX (frz:=fA) (v:=.d (strs (kTok k))) Yo ?_ (hf:=cutTokF k) (he:=cutTokV k)
 iterate 3 refine zX fA ?_
 repeat refine zG fA ?_
 iterate 1 refine zX fA ?_
 first|refine oX (frz:=fA) (v:=.d (.int .i64 ((k / 4:Nat):Int))) Yo ?_ (he:=(vN rfl (by omega)))|refine eX (v:=.d (.int .i64 ((k / 4:Nat):Int))) ?_ (he:=(vN rfl (by omega)))
 first|refine oX (frz:=fA) (v:=.d (.int .i64 ((k / 4 % 3:Nat):Int))) Yo ?_ (he:=(rfl))|refine eX (v:=.d (.int .i64 ((k / 4 % 3:Nat):Int))) ?_ (he:=(rfl))
 first|refine oX (frz:=fA) (v:=.d (.int .i64 (M:Nat))) Yo ?_ (he:=(vN (by omega) (by omega)))|refine eX (v:=.d (.int .i64 (M:Nat))) ?_ (he:=(vN (by omega) (by omega)))
 iterate 1 refine zX fA ?_
 repeat refine zG fA ?_
 iterate 1 refine zX fA ?_
 repeat refine zG fA ?_
 refine Run.loopT (fun x:Nat × List DV × List GProd=>⟨PT.ofList [(0,.d (ints nums)),(2,.bp 0 0),(4,.bp 1 0),(5,.d (.int .i64 (M:Nat))),(6,.d (.int .i64 x.1))],boxG0 :: boxA ((1+k % 2:Nat):Int) (kTok k) (rowA 2 1 x.2.1) (psA x.2.2) :: (rowO 1 x.2.1++psO x.2.2),[]⟩)
  (fun x=>x.1≤M∧x.2.1=nsD x.1∧x.2.2=accTo nums T M x.1) (fun x=>M-x.1) (0,[],[]) ⟨Nat.zero_le _,rfl,rfl⟩ (tidy_of (objs:=_) _ 2 (by rfl) rfl (by repeat' (first|exact trivial|refine⟨(Or.inl rfl),?_⟩|refine⟨(Or.inr rfl),?_⟩|fail)) (by repeat' (first|exact trivial|refine⟨rfl,?_⟩|fail)) rfl rfl) (fun x hx=>?_)
 obtain⟨i,ns,acc⟩:=x
 obtain⟨hi,hns,hacc⟩:=hx
 simp only at hi hns hacc ⊢
 have hMl:M≤3:=by omega
 rcases Nat.lt_or_ge i M with hlt|hge
 ·have hx:=numS nums hn (1+i)
  have hxl:=numF_lt nums (1+i)
  obtain⟨x,hxe⟩:∃ x,x=numF nums (1+i):=⟨_,rfl⟩
  rw [← hxe] at hx hxl
  have hmod:IntKind.i64.wrap=IntKind.i64.wrap:=rfl
  rcases ns with _|⟨m0,ml⟩
  ·rcases acc with _|⟨p0,pl⟩
   ·have hi0:i=0:=by cases i with|zero=>rfl|succ i=>simp [nsD,namesTo,List.range_succ] at hns
    have hns':[DV.str [83+i]]=nsD (i+1):=by subst hi0;rfl
    repeat refine zS ?_
    iterate 2 refine zX fA ?_
    refine oX (frz:=fA) (v:=.d (.bool true)) Yo ?_ (he:=vT (by omega))
    repeat refine zS ?_
    iterate 3 refine zX fA ?_
    refine oX (frz:=fA) (v:=.d (.int .i64 (83+i:Nat))) Yo ?_ (he:=vN (by omega) (by omega))
    refine oX (frz:=fA) (v:=.d (.int .u8 (83+i:Nat))) Yo ?_ (he:=vU8 (by omega))
    refine zX fA ?_
    refine oX (frz:=fA) (v:=.d (.str [83+i])) Yo ?_ (he:=congrArg (fun c=>AV.d (.str [c])) (show((83+i:Nat):Int).toNat % 256=83+i by omega))
    refine zX fA ?_
    refine oX (frz:=fA) Yo ?_ (hv:=app0) (hf:=rfl) (he:=rfl)
    iterate 2 refine zX fA ?_
    repeat refine zS ?_
    iterate 2 refine zX fA ?_
    refine oX (frz:=fA) (v:=.d (.int .i64 (1+i:Nat))) Yo ?_ (he:=vN (by omega) (by omega))
    refine oC (atS nums (1+i)) ?_
    refine oC hx ?_
    refine zX fA ?_
    repeat refine zS ?_
    refine zX fA ?_
    repeat refine zS ?_
    refine Run.loopT (fun y:Nat × List GProd=>⟨PT.ofList [(0,.d (ints nums)),(2,.bp 0 0),(4,.bp 1 0),(5,.d (.int .i64 (M:Nat))),(6,.d (.int .i64 i)),(7,.d (.int .i64 x)),(8,.d (.int .i64 y.1))],boxG0 :: boxA ((1+k % 2:Nat):Int) (kTok k) (.sr 2 1 ([DV.str [83+i]])) (psA y.2) :: .room (1) 1 :: psO y.2,[]⟩)
     (fun y=>y.1≤x % 3+1∧y.2=accTo nums T M i++rowTo nums T M i y.1∧y.2.length≤7) (fun y=>x % 3+1-y.1) (0,[]) ⟨Nat.zero_le _,by rw [← hacc];simp [rowTo],Nat.zero_le _⟩ (tidy_of (objs:=_) _ 3 (by rfl) rfl (by repeat' (first|exact trivial|refine⟨(Or.inl rfl),?_⟩|refine⟨(Or.inr rfl),?_⟩|fail)) (by repeat' (first|exact trivial|refine⟨rfl,?_⟩|fail)) rfl rfl) (fun y hy=>?_)
    obtain⟨j,acc⟩:=y
    obtain⟨hj1,hj2,hj3⟩:=hy
    simp only at hj1 hj2 hj3 ⊢
    by_cases hj:j≤x % 3∧acc.length<7
    ·obtain⟨hja,hjb⟩:=hj
     have hy:=numS nums hn (4+3*i+j)
     have hyl:=numF_lt nums (4+3*i+j)
     have hyp:prodN nums T M i j=⟨((16+i:Nat):Int),rgtTo T M (numF nums (4+3*i+j)) (numF nums (4+3*i+j) % 4)⟩:=rfl
     have hrow:rowTo nums T M i (j+1)=rowTo nums T M i j++[prodN nums T M i j]:=by simp [rowTo,List.range_succ]
     have hat:=atS nums (4+3*i+j)
     obtain⟨v,hv⟩:∃ v,v=numF nums (4+3*i+j):=⟨_,rfl⟩
     rw [← hv] at hy hyl hyp
     have hnext:acc++[prodN nums T M i j]=accTo nums T M i++rowTo nums T M i (j+1):=by rw [hj2,hrow,List.append_assoc]
     rw [hyp] at hnext
     rcases acc with _|⟨⟨pl,pr⟩,ps⟩
     ·repeat refine zS ?_
      iterate 2 refine zX fA ?_
      refine oX (frz:=fA) (v:=.d (.int .i64 ((x % 3:Nat):Int))) Yo ?_ (he:=rfl)
      refine oX (frz:=fA) (v:=.d (.bool true)) Yo ?_ (he:=vT (by omega))
      iterate 4 refine zX fA ?_
      refine zX fA ?_
      refine zX fA ?_
      repeat refine zS ?_
      refine zX fA ?_
      refine oX (frz:=fA) (v:=.d (.int .i64 ((16+i:Nat):Int))) Yo ?_ (he:=vN (by omega) (by omega))
      iterate 3 refine zX fA ?_
      repeat refine zS ?_
      iterate 2 refine zX fA ?_
      refine oX (frz:=fA) (v:=.d (.int .i64 ((3*i:Nat):Int))) Yo ?_ (he:=vN (by omega) (by omega))
      refine oX (frz:=fA) (v:=.d (.int .i64 ((4+3*i:Nat):Int))) Yo ?_ (he:=vN (by omega) (by omega))
      refine zX fA ?_
      refine oX (frz:=fA) (v:=.d (.int .i64 ((4+3*i+j:Nat):Int))) Yo ?_ (he:=vN (by omega) (by omega))
      refine oC hat ?_
      refine oC hy ?_
      refine zX fA ?_
      repeat refine zS ?_
      refine zX fA ?_
      repeat refine zS ?_
      refine Run.loopT (fun z:Nat × List Int=>⟨PT.ofList [(0,.d (ints nums)),(2,.bp 0 0),(4,.bp 1 0),(5,.d (.int .i64 (M:Nat))),(6,.d (.int .i64 i)),(7,.d (.int .i64 x)),(8,.d (.int .i64 j)),(9,.bp 3 0),(10,.d (.int .i64 v)),(11,.d (.int .i64 z.1))],boxG0 :: boxA ((1+k % 2:Nat):Int) (kTok k) (.sr 2 1 ([DV.str [83+i]])) (.d .nilsl) :: .room (1) 1 :: .box [.d (.int .i64 ((16+i:Nat):Int)),rowA 4 1 (rgtD z.2)] :: rowO 1 (rgtD z.2),[]⟩)
       (fun z=>z.1≤v % 4∧z.2=rgtTo T M v z.1) (fun z=>v % 4-z.1) (0,[]) ⟨Nat.zero_le _,rfl⟩ (tidy_of (objs:=_) _ 4 (by rfl) rfl (by repeat' (first|exact trivial|refine⟨(Or.inl rfl),?_⟩|refine⟨(Or.inr rfl),?_⟩|fail)) (by repeat' (first|exact trivial|refine⟨rfl,?_⟩|fail)) rfl rfl) (fun z hz=>?_)
      obtain⟨s,r⟩:=z
      obtain⟨hs1,hs2⟩:=hz
      simp only at hs1 hs2 ⊢
      have hrl:r.length=s:=by rw [hs2];simp [rgtTo]
      rcases Nat.lt_or_ge s (v % 4) with hsl|hsg
      ·have hnx:r++[((symN T M (zF v s):Nat):Int)]=rgtTo T M v (s+1):=by rw [hs2];simp [rgtTo,List.range_succ]
       rcases r with _|⟨r1,rr⟩
       ·have hrl':=hrl
        simp only [List.length_cons,List.length_nil] at hrl'
        repeat refine zS ?_
        iterate 2 refine zX fA ?_
        refine oX (frz:=fA) (v:=.d (.int .i64 ((v % 4:Nat):Int))) Yo ?_ (he:=rfl)
        refine oX (frz:=fA) (v:=.d (.bool true)) Yo ?_ (he:=vT (by omega))
        repeat refine zS ?_
        refine zX fA ?_
        refine oX (frz:=fA) (v:=.d (.int .i64 ((v / 4:Nat):Int))) Yo ?_ (he:=vN rfl (by omega))
        refine zX fA ?_
        refine oX (frz:=fA) (v:=.d (.int .i64 ((4*s:Nat):Int))) Yo ?_ (he:=vN (by omega) (by omega))
        refine oX (frz:=fA) (v:=.d (.int .u64 ((4*s:Nat):Int))) Yo ?_ (he:=vU64 (by omega))
        refine oX (frz:=fA) (v:=.d (.int .i64 ((v / 4 / 2 ^ (4*s):Nat):Int))) Yo ?_ (hf:=shrF (4*s)) (he:=congrArg (fun n=>AV.d (.int .i64 n)) (shrN (by omega)))
        refine oX (frz:=fA) (v:=.d (.int .i64 ((zF v s:Nat):Int))) Yo ?_ (he:=rfl)
        refine zX fA ?_
        repeat refine zS ?_
        refine zX fA ?_
        refine oX (frz:=fA) (v:=.d (.int .i64 ((zF v s % 5:Nat):Int))) Yo ?_ (he:=rfl)
        by_cases h5:zF v s % 5<3
        ·refine oX (frz:=fA) (v:=.d (.bool true)) Yo ?_ (he:=vT (by omega))
         have hsy:symN T M (zF v s)=zF v s % T:=if_pos h5
         rw [hsy] at hnx
         repeat refine zG fA ?_
         iterate 5 refine zX fA ?_
         first|refine oX (frz:=fA) (v:=.d (.int .i64 (T:Nat))) Yo ?_ (he:=(by rw [hT,List.length_map]))|refine eX (v:=.d (.int .i64 (T:Nat))) ?_ (he:=(by rw [hT,List.length_map]))
         refine eX (v:=.d (.int .i64 ((zF v s % T:Nat):Int))) ?_ (hf:=by simp<;>omega) (he:=rfl)
         iterate 1 refine zX fA ?_
         first|refine oX (frz:=fA) Yo ?_ (hv:=app0) (hf:=rfl) (he:=rfl)|refine eX ?_ (hv:=app0) (hf:=rfl) (he:=rfl)
         iterate 2 refine zX fA ?_
         repeat refine zG fA ?_
         refine zX fA ?_
         refine oX (frz:=fA) (v:=.d (.int .i64 ((s+1:Nat):Int))) Yo ?_ (he:=vN (by omega) (by omega))
         refine zX fA ?_
         repeat refine zS ?_
         exact⟨(s+1,_),⟨hsl,hnx⟩,by simp only<;>omega,(tidy_of (objs:=_) _ 5 (by rfl) rfl (by repeat' (first|exact trivial|refine⟨(Or.inl rfl),?_⟩|refine⟨(Or.inr rfl),?_⟩|fail)) (by repeat' (first|exact trivial|refine⟨rfl,?_⟩|fail)) rfl rfl)⟩
        ·refine oX (frz:=fA) (v:=.d (.bool false)) Yo ?_ (he:=vF (by omega))
         have hsy:symN T M (zF v s)=16+zF v s % M:=if_neg h5
         rw [hsy] at hnx
         repeat refine zG fA ?_
         iterate 4 refine zX fA ?_
         refine eX (v:=.d (.int .i64 ((zF v s % M:Nat):Int))) ?_ (hf:=by simp<;>omega) (he:=rfl)
         first|refine oX (frz:=fA) (v:=.d (.int .i64 ((16+zF v s % M:Nat):Int))) Yo ?_ (he:=(vN (by omega) (by have:=Nat.mod_lt (zF v s) (show 0<M by omega)<;>omega)))|refine eX (v:=.d (.int .i64 ((16+zF v s % M:Nat):Int))) ?_ (he:=(vN (by omega) (by have:=Nat.mod_lt (zF v s) (show 0<M by omega)<;>omega)))
         iterate 1 refine zX fA ?_
         first|refine oX (frz:=fA) Yo ?_ (hv:=app0) (hf:=rfl) (he:=rfl)|refine eX ?_ (hv:=app0) (hf:=rfl) (he:=rfl)
         iterate 2 refine zX fA ?_
         repeat refine zG fA ?_
         refine zX fA ?_
         refine oX (frz:=fA) (v:=.d (.int .i64 ((s+1:Nat):Int))) Yo ?_ (he:=vN (by omega) (by omega))
         refine zX fA ?_
         repeat refine zS ?_
         exact⟨(s+1,_),⟨hsl,hnx⟩,by simp only<;>omega,(tidy_of (objs:=_) _ 5 (by rfl) rfl (by repeat' (first|exact trivial|refine⟨(Or.inl rfl),?_⟩|refine⟨(Or.inr rfl),?_⟩|fail)) (by repeat' (first|exact trivial|refine⟨rfl,?_⟩|fail)) rfl rfl)⟩
       ·have hrl':=hrl
        simp only [List.length_cons,List.length_nil] at hrl'
        repeat refine zS ?_
        iterate 2 refine zX fA ?_
        refine oX (frz:=fA) (v:=.d (.int .i64 ((v % 4:Nat):Int))) Yo ?_ (he:=rfl)
        refine oX (frz:=fA) (v:=.d (.bool true)) Yo ?_ (he:=vT (by omega))
        repeat refine zS ?_
        refine zX fA ?_
        refine oX (frz:=fA) (v:=.d (.int .i64 ((v / 4:Nat):Int))) Yo ?_ (he:=vN rfl (by omega))
        refine zX fA ?_
        refine oX (frz:=fA) (v:=.d (.int .i64 ((4*s:Nat):Int))) Yo ?_ (he:=vN (by omega) (by omega))
        refine oX (frz:=fA) (v:=.d (.int .u64 ((4*s:Nat):Int))) Yo ?_ (he:=vU64 (by omega))
        refine oX (frz:=fA) (v:=.d (.int .i64 ((v / 4 / 2 ^ (4*s):Nat):Int))) Yo ?_ (hf:=shrF (4*s)) (he:=congrArg (fun n=>AV.d (.int .i64 n)) (shrN (by omega)))
        refine oX (frz:=fA) (v:=.d (.int .i64 ((zF v s:Nat):Int))) Yo ?_ (he:=rfl)
        refine zX fA ?_
        repeat refine zS ?_
        refine zX fA ?_
        refine oX (frz:=fA) (v:=.d (.int .i64 ((zF v s % 5:Nat):Int))) Yo ?_ (he:=rfl)
        by_cases h5:zF v s % 5<3
        ·refine oX (frz:=fA) (v:=.d (.bool true)) Yo ?_ (he:=vT (by omega))
         have hsy:symN T M (zF v s)=zF v s % T:=if_pos h5
         rw [hsy] at hnx
         repeat refine zG fA ?_
         iterate 5 refine zX fA ?_
         first|refine oX (frz:=fA) (v:=.d (.int .i64 (T:Nat))) Yo ?_ (he:=(by rw [hT,List.length_map]))|refine eX (v:=.d (.int .i64 (T:Nat))) ?_ (he:=(by rw [hT,List.length_map]))
         refine eX (v:=.d (.int .i64 ((zF v s % T:Nat):Int))) ?_ (hf:=by simp<;>omega) (he:=rfl)
         iterate 1 refine zX fA ?_
         first|refine oX (frz:=fA) Yo ?_ (hv:=app1) (hf:=rfl) (he:=rfl)|refine eX ?_ (hv:=app1) (hf:=rfl) (he:=rfl)
         iterate 2 refine zX fA ?_
         repeat refine zG fA ?_
         refine zX fA ?_
         refine oX (frz:=fA) (v:=.d (.int .i64 ((s+1:Nat):Int))) Yo ?_ (he:=vN (by omega) (by omega))
         refine zX fA ?_
         repeat refine zS ?_
         exact⟨(s+1,_),⟨hsl,hnx⟩,by simp only<;>omega,(tidy_of (objs:=_) _ 5 (by first|rfl|(simp only [rowO,rgtD,List.map_append,List.map_cons,List.map_nil,List.cons_append,List.length_append,List.length_cons,List.length_nil]<;>rfl)) rfl (by repeat' (first|exact trivial|refine⟨(Or.inl rfl),?_⟩|refine⟨(Or.inr rfl),?_⟩|fail)) (by repeat' (first|exact trivial|refine⟨rfl,?_⟩|fail)) rfl rfl)⟩
        ·refine oX (frz:=fA) (v:=.d (.bool false)) Yo ?_ (he:=vF (by omega))
         have hsy:symN T M (zF v s)=16+zF v s % M:=if_neg h5
         rw [hsy] at hnx
         repeat refine zG fA ?_
         iterate 4 refine zX fA ?_
         refine eX (v:=.d (.int .i64 ((zF v s % M:Nat):Int))) ?_ (hf:=by simp<;>omega) (he:=rfl)
         first|refine oX (frz:=fA) (v:=.d (.int .i64 ((16+zF v s % M:Nat):Int))) Yo ?_ (he:=(vN (by omega) (by have:=Nat.mod_lt (zF v s) (show 0<M by omega)<;>omega)))|refine eX (v:=.d (.int .i64 ((16+zF v s % M:Nat):Int))) ?_ (he:=(vN (by omega) (by have:=Nat.mod_lt (zF v s) (show 0<M by omega)<;>omega)))
         iterate 1 refine zX fA ?_
         first|refine oX (frz:=fA) Yo ?_ (hv:=app1) (hf:=rfl) (he:=rfl)|refine eX ?_ (hv:=app1) (hf:=rfl) (he:=rfl)
         iterate 2 refine zX fA ?_
         repeat refine zG fA ?_
         refine zX fA ?_
         refine oX (frz:=fA) (v:=.d (.int .i64 ((s+1:Nat):Int))) Yo ?_ (he:=vN (by omega) (by omega))
         refine zX fA ?_
         repeat refine zS ?_
         exact⟨(s+1,_),⟨hsl,hnx⟩,by simp only<;>omega,(tidy_of (objs:=_) _ 5 (by first|rfl|(simp only [rowO,rgtD,List.map_append,List.map_cons,List.map_nil,List.cons_append,List.length_append,List.length_cons,List.length_nil]<;>rfl)) rfl (by repeat' (first|exact trivial|refine⟨(Or.inl rfl),?_⟩|refine⟨(Or.inr rfl),?_⟩|fail)) (by repeat' (first|exact trivial|refine⟨rfl,?_⟩|fail)) rfl rfl)⟩
      ·have hse:s=v % 4:=by omega
       rw [hse] at hs2
       rw [← hs2] at hnext
       rcases r with _|⟨r1,rr⟩
       ·repeat refine zS ?_
        iterate 2 refine zX fA ?_
        refine oX (frz:=fA) (v:=.d (.int .i64 ((v % 4:Nat):Int))) Yo ?_ (he:=rfl)
        refine oX (frz:=fA) (v:=.d (.bool false)) Yo ?_ (he:=vF (by omega))
        repeat refine zS ?_
        iterate 3 refine zX fA ?_
        first|refine Run.tidy (tidy_of (objs:=_) [(0,.d (ints nums)),(2,.bp 0 0),(4,.bp 1 0),(5,.d (.int .i64 (M:Nat))),(6,.d (.int .i64 i)),(7,.d (.int .i64 x)),(8,.d (.int .i64 j)),(109,.d .nilsl),(110,.d (encN (⟨((16+i:Nat):Int),[]⟩:GProd)))] 4 (Eq.trans (b:=boxG0 :: boxA ((1+k % 2:Nat):Int) (kTok k) (.sr 2 1 ([DV.str [83+i]])) (.d .nilsl) :: .room (1) 1 :: [.box [.d (.int .i64 ((16+i:Nat):Int)),.d .nilsl]]) rfl rfl) rfl (by repeat' (first|exact trivial|refine⟨(Or.inl rfl),?_⟩|refine⟨(Or.inr rfl),?_⟩|refine⟨rfl,?_⟩|fail)) (by repeat' (first|exact trivial|refine⟨(Or.inl rfl),?_⟩|refine⟨(Or.inr rfl),?_⟩|refine⟨rfl,?_⟩|fail)) rfl rfl) ?_|refine RunOps.tidy (tidy_of (objs:=_) [(0,.d (ints nums)),(2,.bp 0 0),(4,.bp 1 0),(5,.d (.int .i64 (M:Nat))),(6,.d (.int .i64 i)),(7,.d (.int .i64 x)),(8,.d (.int .i64 j)),(109,.d .nilsl),(110,.d (encN (⟨((16+i:Nat):Int),[]⟩:GProd)))] 4 (Eq.trans (b:=boxG0 :: boxA ((1+k % 2:Nat):Int) (kTok k) (.sr 2 1 ([DV.str [83+i]])) (.d .nilsl) :: .room (1) 1 :: [.box [.d (.int .i64 ((16+i:Nat):Int)),.d .nilsl]]) rfl rfl) rfl (by repeat' (first|exact trivial|refine⟨(Or.inl rfl),?_⟩|refine⟨(Or.inr rfl),?_⟩|refine⟨rfl,?_⟩|fail)) (by repeat' (first|exact trivial|refine⟨(Or.inl rfl),?_⟩|refine⟨(Or.inr rfl),?_⟩|refine⟨rfl,?_⟩|fail)) rfl rfl) ?_
        refine zX fA ?_
        first|refine oX (frz:=fA) Yo ?_ (hv:=app0) (hf:=rfl) (he:=rfl)|refine eX ?_ (hv:=app0) (hf:=rfl) (he:=rfl)
        iterate 2 refine zX fA ?_
        repeat refine zS ?_
        refine zX fA ?_
        refine oX (frz:=fA) (v:=.d (.int .i64 ((j+1:Nat):Int))) Yo ?_ (he:=vN (by omega) (by omega))
        refine zX fA ?_
        repeat refine zS ?_
        exact⟨(j+1,[(⟨((16+i:Nat):Int),[]⟩:GProd)]),⟨by simp only<;>omega,hnext,by simp at hjb ⊢<;>omega⟩,by simp only<;>omega,(tidy_of (objs:=_) _ 5 (Eq.trans (b:=boxG0 :: boxA ((1+k % 2:Nat):Int) (kTok k) (.sr 2 1 ([DV.str [83+i]])) (.sr 4 2 [encN (⟨((16+i:Nat):Int),[]⟩:GProd)]) :: .room (1) 1 :: [.box [.d (.int .i64 ((16+i:Nat):Int)),.d .nilsl],.room 1 2]) rfl (by first|rfl|(simp [psA,psO,psI,rowA,rowO,rgtD]<;>fail))) rfl (by repeat' (first|exact trivial|refine⟨(Or.inl rfl),?_⟩|refine⟨(Or.inr rfl),?_⟩|fail)) (by repeat' (first|exact trivial|refine⟨rfl,?_⟩|fail)) rfl rfl)⟩
       ·repeat refine zS ?_
        iterate 2 refine zX fA ?_
        refine oX (frz:=fA) (v:=.d (.int .i64 ((v % 4:Nat):Int))) Yo ?_ (he:=rfl)
        refine oX (frz:=fA) (v:=.d (.bool false)) Yo ?_ (he:=vF (by omega))
        repeat refine zS ?_
        iterate 3 refine zX fA ?_
        first|refine Run.tidy (tidy_of (objs:=_) [(0,.d (ints nums)),(2,.bp 0 0),(4,.bp 1 0),(5,.d (.int .i64 (M:Nat))),(6,.d (.int .i64 i)),(7,.d (.int .i64 x)),(8,.d (.int .i64 j)),(109,.d .nilsl),(110,.d (encN (⟨((16+i:Nat):Int),r1 :: rr⟩:GProd)))] 5 (Eq.trans (b:=boxG0 :: boxA ((1+k % 2:Nat):Int) (kTok k) (.sr 2 1 ([DV.str [83+i]])) (.d .nilsl) :: .room (1) 1 :: .box [.d (.int .i64 ((16+i:Nat):Int)),.sr 4 1 (rgtD (r1 :: rr))] :: [.room ((rgtD rr).length+1) 1]) rfl rfl) rfl (by repeat' (first|exact trivial|refine⟨(Or.inl rfl),?_⟩|refine⟨(Or.inr rfl),?_⟩|refine⟨rfl,?_⟩|fail)) (by repeat' (first|exact trivial|refine⟨(Or.inl rfl),?_⟩|refine⟨(Or.inr rfl),?_⟩|refine⟨rfl,?_⟩|fail)) rfl rfl) ?_|refine RunOps.tidy (tidy_of (objs:=_) [(0,.d (ints nums)),(2,.bp 0 0),(4,.bp 1 0),(5,.d (.int .i64 (M:Nat))),(6,.d (.int .i64 i)),(7,.d (.int .i64 x)),(8,.d (.int .i64 j)),(109,.d .nilsl),(110,.d (encN (⟨((16+i:Nat):Int),r1 :: rr⟩:GProd)))] 5 (Eq.trans (b:=boxG0 :: boxA ((1+k % 2:Nat):Int) (kTok k) (.sr 2 1 ([DV.str [83+i]])) (.d .nilsl) :: .room (1) 1 :: .box [.d (.int .i64 ((16+i:Nat):Int)),.sr 4 1 (rgtD (r1 :: rr))] :: [.room ((rgtD rr).length+1) 1]) rfl rfl) rfl (by repeat' (first|exact trivial|refine⟨(Or.inl rfl),?_⟩|refine⟨(Or.inr rfl),?_⟩|refine⟨rfl,?_⟩|fail)) (by repeat' (first|exact trivial|refine⟨(Or.inl rfl),?_⟩|refine⟨(Or.inr rfl),?_⟩|refine⟨rfl,?_⟩|fail)) rfl rfl) ?_
        refine zX fA ?_
        first|refine oX (frz:=fA) Yo ?_ (hv:=app0) (hf:=rfl) (he:=rfl)|refine eX ?_ (hv:=app0) (hf:=rfl) (he:=rfl)
        iterate 2 refine zX fA ?_
        repeat refine zS ?_
        refine zX fA ?_
        refine oX (frz:=fA) (v:=.d (.int .i64 ((j+1:Nat):Int))) Yo ?_ (he:=vN (by omega) (by omega))
        refine zX fA ?_
        repeat refine zS ?_
        exact⟨(j+1,[(⟨((16+i:Nat):Int),r1 :: rr⟩:GProd)]),⟨by simp only<;>omega,hnext,by simp at hjb ⊢<;>omega⟩,by simp only<;>omega,(tidy_of (objs:=_) _ 6 (Eq.trans (b:=boxG0 :: boxA ((1+k % 2:Nat):Int) (kTok k) (.sr 2 1 ([DV.str [83+i]])) (.sr 5 2 [encN (⟨((16+i:Nat):Int),r1 :: rr⟩:GProd)]) :: .room (1) 1 :: .box [.d (.int .i64 ((16+i:Nat):Int)),.sr 4 1 (rgtD (r1 :: rr))] :: [.room ((rgtD rr).length+1) 1,.room 1 2]) rfl (by first|rfl|(simp [psA,psO,psI,rowA,rowO,rgtD]<;>fail))) rfl (by repeat' (first|exact trivial|refine⟨(Or.inl rfl),?_⟩|refine⟨(Or.inr rfl),?_⟩|fail)) (by repeat' (first|exact trivial|refine⟨rfl,?_⟩|fail)) rfl rfl)⟩
     ·rcases pr with _|⟨r0,rl⟩
      ·have hjc:ps.length+1<7:=by simpa using hjb
       repeat refine zS ?_
       iterate 2 refine zX fA ?_
       refine oX (frz:=fA) (v:=.d (.int .i64 ((x % 3:Nat):Int))) Yo ?_ (he:=rfl)
       refine oX (frz:=fA) (v:=.d (.bool true)) Yo ?_ (he:=vT (by omega))
       iterate 4 refine zX fA ?_
       refine oX (frz:=fA) (v:=.d (.bool true)) Yo ?_ (he:=vT (by simp at hjb ⊢<;>omega))
       refine zX fA ?_
       repeat refine zS ?_
       refine zX fA ?_
       refine oX (frz:=fA) (v:=.d (.int .i64 ((16+i:Nat):Int))) Yo ?_ (he:=vN (by omega) (by omega))
       iterate 3 refine zX fA ?_
       repeat refine zS ?_
       iterate 2 refine zX fA ?_
       refine oX (frz:=fA) (v:=.d (.int .i64 ((3*i:Nat):Int))) Yo ?_ (he:=vN (by omega) (by omega))
       refine oX (frz:=fA) (v:=.d (.int .i64 ((4+3*i:Nat):Int))) Yo ?_ (he:=vN (by omega) (by omega))
       refine zX fA ?_
       refine oX (frz:=fA) (v:=.d (.int .i64 ((4+3*i+j:Nat):Int))) Yo ?_ (he:=vN (by omega) (by omega))
       refine oC hat ?_
       refine oC hy ?_
       refine zX fA ?_
       repeat refine zS ?_
       refine zX fA ?_
       repeat refine zS ?_
       refine Run.loopT (fun z:Nat × List Int=>⟨PT.ofList [(0,.d (ints nums)),(2,.bp 0 0),(4,.bp 1 0),(5,.d (.int .i64 (M:Nat))),(6,.d (.int .i64 i)),(7,.d (.int .i64 x)),(8,.d (.int .i64 j)),(9,.bp 5 0),(10,.d (.int .i64 v)),(11,.d (.int .i64 z.1))],boxG0 :: boxA ((1+k % 2:Nat):Int) (kTok k) (.sr 2 1 ([DV.str [83+i]])) (.sr 4 2 (encN ⟨pl,[]⟩ :: ps.map encN)) :: .room (1) 1 :: .box [.d (.int .i64 pl),.d .nilsl] :: .room (ps.length+1) 2 :: .box [.d (.int .i64 ((16+i:Nat):Int)),rowA 6 1 (rgtD z.2)] :: rowO 1 (rgtD z.2),[]⟩)
        (fun z=>z.1≤v % 4∧z.2=rgtTo T M v z.1) (fun z=>v % 4-z.1) (0,[]) ⟨Nat.zero_le _,rfl⟩ (tidy_of (objs:=_) _ 6 (by rfl) rfl (by repeat' (first|exact trivial|refine⟨(Or.inl rfl),?_⟩|refine⟨(Or.inr rfl),?_⟩|fail)) (by repeat' (first|exact trivial|refine⟨rfl,?_⟩|fail)) rfl rfl) (fun z hz=>?_)
       obtain⟨s,r⟩:=z
       obtain⟨hs1,hs2⟩:=hz
       simp only at hs1 hs2 ⊢
       have hrl:r.length=s:=by rw [hs2];simp [rgtTo]
       rcases Nat.lt_or_ge s (v % 4) with hsl|hsg
       ·have hnx:r++[((symN T M (zF v s):Nat):Int)]=rgtTo T M v (s+1):=by rw [hs2];simp [rgtTo,List.range_succ]
        rcases r with _|⟨r1,rr⟩
        ·have hrl':=hrl
         simp only [List.length_cons,List.length_nil] at hrl'
         repeat refine zS ?_
         iterate 2 refine zX fA ?_
         refine oX (frz:=fA) (v:=.d (.int .i64 ((v % 4:Nat):Int))) Yo ?_ (he:=rfl)
         refine oX (frz:=fA) (v:=.d (.bool true)) Yo ?_ (he:=vT (by omega))
         repeat refine zS ?_
         refine zX fA ?_
         refine oX (frz:=fA) (v:=.d (.int .i64 ((v / 4:Nat):Int))) Yo ?_ (he:=vN rfl (by omega))
         refine zX fA ?_
         refine oX (frz:=fA) (v:=.d (.int .i64 ((4*s:Nat):Int))) Yo ?_ (he:=vN (by omega) (by omega))
         refine oX (frz:=fA) (v:=.d (.int .u64 ((4*s:Nat):Int))) Yo ?_ (he:=vU64 (by omega))
         refine oX (frz:=fA) (v:=.d (.int .i64 ((v / 4 / 2 ^ (4*s):Nat):Int))) Yo ?_ (hf:=shrF (4*s)) (he:=congrArg (fun n=>AV.d (.int .i64 n)) (shrN (by omega)))
         refine oX (frz:=fA) (v:=.d (.int .i64 ((zF v s:Nat):Int))) Yo ?_ (he:=rfl)
         refine zX fA ?_
         repeat refine zS ?_
         refine zX fA ?_
         refine oX (frz:=fA) (v:=.d (.int .i64 ((zF v s % 5:Nat):Int))) Yo ?_ (he:=rfl)
         by_cases h5:zF v s % 5<3
         ·refine oX (frz:=fA) (v:=.d (.bool true)) Yo ?_ (he:=vT (by omega))
          have hsy:symN T M (zF v s)=zF v s % T:=if_pos h5
          rw [hsy] at hnx
          repeat refine zG fA ?_
          iterate 5 refine zX fA ?_
          first|refine oX (frz:=fA) (v:=.d (.int .i64 (T:Nat))) Yo ?_ (he:=(by rw [hT,List.length_map]))|refine eX (v:=.d (.int .i64 (T:Nat))) ?_ (he:=(by rw [hT,List.length_map]))
          refine eX (v:=.d (.int .i64 ((zF v s % T:Nat):Int))) ?_ (hf:=by simp<;>omega) (he:=rfl)
          iterate 1 refine zX fA ?_
          first|refine oX (frz:=fA) Yo ?_ (hv:=app0) (hf:=rfl) (he:=rfl)|refine eX ?_ (hv:=app0) (hf:=rfl) (he:=rfl)
          iterate 2 refine zX fA ?_
          repeat refine zG fA ?_
          refine zX fA ?_
          refine oX (frz:=fA) (v:=.d (.int .i64 ((s+1:Nat):Int))) Yo ?_ (he:=vN (by omega) (by omega))
          refine zX fA ?_
          repeat refine zS ?_
          exact⟨(s+1,_),⟨hsl,hnx⟩,by simp only<;>omega,(tidy_of (objs:=_) _ 7 (by rfl) rfl (by repeat' (first|exact trivial|refine⟨(Or.inl rfl),?_⟩|refine⟨(Or.inr rfl),?_⟩|fail)) (by repeat' (first|exact trivial|refine⟨rfl,?_⟩|fail)) rfl rfl)⟩
         ·refine oX (frz:=fA) (v:=.d (.bool false)) Yo ?_ (he:=vF (by omega))
          have hsy:symN T M (zF v s)=16+zF v s % M:=if_neg h5
          rw [hsy] at hnx
          repeat refine zG fA ?_
          iterate 4 refine zX fA ?_
          refine eX (v:=.d (.int .i64 ((zF v s % M:Nat):Int))) ?_ (hf:=by simp<;>omega) (he:=rfl)
          first|refine oX (frz:=fA) (v:=.d (.int .i64 ((16+zF v s % M:Nat):Int))) Yo ?_ (he:=(vN (by omega) (by have:=Nat.mod_lt (zF v s) (show 0<M by omega)<;>omega)))|refine eX (v:=.d (.int .i64 ((16+zF v s % M:Nat):Int))) ?_ (he:=(vN (by omega) (by have:=Nat.mod_lt (zF v s) (show 0<M by omega)<;>omega)))
          iterate 1 refine zX fA ?_
          first|refine oX (frz:=fA) Yo ?_ (hv:=app0) (hf:=rfl) (he:=rfl)|refine eX ?_ (hv:=app0) (hf:=rfl) (he:=rfl)
          iterate 2 refine zX fA ?_
          repeat refine zG fA ?_
          refine zX fA ?_
          refine oX (frz:=fA) (v:=.d (.int .i64 ((s+1:Nat):Int))) Yo ?_ (he:=vN (by omega) (by omega))
          refine zX fA ?_
          repeat refine zS ?_
          exact⟨(s+1,_),⟨hsl,hnx⟩,by simp only<;>omega,(tidy_of (objs:=_) _ 7 (by rfl) rfl (by repeat' (first|exact trivial|refine⟨(Or.inl rfl),?_⟩|refine⟨(Or.inr rfl),?_⟩|fail)) (by repeat' (first|exact trivial|refine⟨rfl,?_⟩|fail)) rfl rfl)⟩
        ·have hrl':=hrl
         simp only [List.length_cons,List.length_nil] at hrl'
         repeat refine zS ?_
         iterate 2 refine zX fA ?_
         refine oX (frz:=fA) (v:=.d (.int .i64 ((v % 4:Nat):Int))) Yo ?_ (he:=rfl)
         refine oX (frz:=fA) (v:=.d (.bool true)) Yo ?_ (he:=vT (by omega))
         repeat refine zS ?_
         refine zX fA ?_
         refine oX (frz:=fA) (v:=.d (.int .i64 ((v / 4:Nat):Int))) Yo ?_ (he:=vN rfl (by omega))
         refine zX fA ?_
         refine oX (frz:=fA) (v:=.d (.int .i64 ((4*s:Nat):Int))) Yo ?_ (he:=vN (by omega) (by omega))
         refine oX (frz:=fA) (v:=.d (.int .u64 ((4*s:Nat):Int))) Yo ?_ (he:=vU64 (by omega))
         refine oX (frz:=fA) (v:=.d (.int .i64 ((v / 4 / 2 ^ (4*s):Nat):Int))) Yo ?_ (hf:=shrF (4*s)) (he:=congrArg (fun n=>AV.d (.int .i64 n)) (shrN (by omega)))
         refine oX (frz:=fA) (v:=.d (.int .i64 ((zF v s:Nat):Int))) Yo ?_ (he:=rfl)
         refine zX fA ?_
         repeat refine zS ?_
         refine zX fA ?_
         refine oX (frz:=fA) (v:=.d (.int .i64 ((zF v s % 5:Nat):Int))) Yo ?_ (he:=rfl)
         by_cases h5:zF v s % 5<3
         ·refine oX (frz:=fA) (v:=.d (.bool true)) Yo ?_ (he:=vT (by omega))
          have hsy:symN T M (zF v s)=zF v s % T:=if_pos h5
          rw [hsy] at hnx
          repeat refine zG fA ?_
          iterate 5 refine zX fA ?_
          first|refine oX (frz:=fA) (v:=.d (.int .i64 (T:Nat))) Yo ?_ (he:=(by rw [hT,List.length_map]))|refine eX (v:=.d (.int .i64 (T:Nat))) ?_ (he:=(by rw [hT,List.length_map]))
          refine eX (v:=.d (.int .i64 ((zF v s % T:Nat):Int))) ?_ (hf:=by simp<;>omega) (he:=rfl)
          iterate 1 refine zX fA ?_
          first|refine oX (frz:=fA) Yo ?_ (hv:=app1) (hf:=rfl) (he:=rfl)|refine eX ?_ (hv:=app1) (hf:=rfl) (he:=rfl)
          iterate 2 refine zX fA ?_
          repeat refine zG fA ?_
          refine zX fA ?_
          refine oX (frz:=fA) (v:=.d (.int .i64 ((s+1:Nat):Int))) Yo ?_ (he:=vN (by omega) (by omega))
          refine zX fA ?_
          repeat refine zS ?_
          exact⟨(s+1,_),⟨hsl,hnx⟩,by simp only<;>omega,(tidy_of (objs:=_) _ 7 (by first|rfl|(simp only [rowO,rgtD,List.map_append,List.map_cons,List.map_nil,List.cons_append,List.length_append,List.length_cons,List.length_nil]<;>rfl)) rfl (by repeat' (first|exact trivial|refine⟨(Or.inl rfl),?_⟩|refine⟨(Or.inr rfl),?_⟩|fail)) (by repeat' (first|exact trivial|refine⟨rfl,?_⟩|fail)) rfl rfl)⟩
         ·refine oX (frz:=fA) (v:=.d (.bool false)) Yo ?_ (he:=vF (by omega))
          have hsy:symN T M (zF v s)=16+zF v s % M:=if_neg h5
          rw [hsy] at hnx
          repeat refine zG fA ?_
          iterate 4 refine zX fA ?_
          refine eX (v:=.d (.int .i64 ((zF v s % M:Nat):Int))) ?_ (hf:=by simp<;>omega) (he:=rfl)
          first|refine oX (frz:=fA) (v:=.d (.int .i64 ((16+zF v s % M:Nat):Int))) Yo ?_ (he:=(vN (by omega) (by have:=Nat.mod_lt (zF v s) (show 0<M by omega)<;>omega)))|refine eX (v:=.d (.int .i64 ((16+zF v s % M:Nat):Int))) ?_ (he:=(vN (by omega) (by have:=Nat.mod_lt (zF v s) (show 0<M by omega)<;>omega)))
          iterate 1 refine zX fA ?_
          first|refine oX (frz:=fA) Yo ?_ (hv:=app1) (hf:=rfl) (he:=rfl)|refine eX ?_ (hv:=app1) (hf:=rfl) (he:=rfl)
          iterate 2 refine zX fA ?_
          repeat refine zG fA ?_
          refine zX fA ?_
          refine oX (frz:=fA) (v:=.d (.int .i64 ((s+1:Nat):Int))) Yo ?_ (he:=vN (by omega) (by omega))
          refine zX fA ?_
          repeat refine zS ?_
          exact⟨(s+1,_),⟨hsl,hnx⟩,by simp only<;>omega,(tidy_of (objs:=_) _ 7 (by first|rfl|(simp only [rowO,rgtD,List.map_append,List.map_cons,List.map_nil,List.cons_append,List.length_append,List.length_cons,List.length_nil]<;>rfl)) rfl (by repeat' (first|exact trivial|refine⟨(Or.inl rfl),?_⟩|refine⟨(Or.inr rfl),?_⟩|fail)) (by repeat' (first|exact trivial|refine⟨rfl,?_⟩|fail)) rfl rfl)⟩
       ·have hse:s=v % 4:=by omega
        rw [hse] at hs2
        rw [← hs2] at hnext
        rcases r with _|⟨r1,rr⟩
        ·repeat refine zS ?_
         iterate 2 refine zX fA ?_
         refine oX (frz:=fA) (v:=.d (.int .i64 ((v % 4:Nat):Int))) Yo ?_ (he:=rfl)
         refine oX (frz:=fA) (v:=.d (.bool false)) Yo ?_ (he:=vF (by omega))
         repeat refine zS ?_
         iterate 3 refine zX fA ?_
         first|refine Run.tidy (tidy_of (objs:=_) [(0,.d (ints nums)),(2,.bp 0 0),(4,.bp 1 0),(5,.d (.int .i64 (M:Nat))),(6,.d (.int .i64 i)),(7,.d (.int .i64 x)),(8,.d (.int .i64 j)),(109,.sr 4 2 (encN ⟨pl,[]⟩ :: ps.map encN)),(110,.d (encN (⟨((16+i:Nat):Int),[]⟩:GProd)))] 6 (Eq.trans (b:=boxG0 :: boxA ((1+k % 2:Nat):Int) (kTok k) (.sr 2 1 ([DV.str [83+i]])) (.sr 4 2 (encN ⟨pl,[]⟩ :: ps.map encN)) :: .room (1) 1 :: .box [.d (.int .i64 pl),.d .nilsl] :: .room (ps.length+1) 2 :: [.box [.d (.int .i64 ((16+i:Nat):Int)),.d .nilsl]]) rfl rfl) rfl (by repeat' (first|exact trivial|refine⟨(Or.inl rfl),?_⟩|refine⟨(Or.inr rfl),?_⟩|refine⟨rfl,?_⟩|fail)) (by repeat' (first|exact trivial|refine⟨(Or.inl rfl),?_⟩|refine⟨(Or.inr rfl),?_⟩|refine⟨rfl,?_⟩|fail)) rfl rfl) ?_|refine RunOps.tidy (tidy_of (objs:=_) [(0,.d (ints nums)),(2,.bp 0 0),(4,.bp 1 0),(5,.d (.int .i64 (M:Nat))),(6,.d (.int .i64 i)),(7,.d (.int .i64 x)),(8,.d (.int .i64 j)),(109,.sr 4 2 (encN ⟨pl,[]⟩ :: ps.map encN)),(110,.d (encN (⟨((16+i:Nat):Int),[]⟩:GProd)))] 6 (Eq.trans (b:=boxG0 :: boxA ((1+k % 2:Nat):Int) (kTok k) (.sr 2 1 ([DV.str [83+i]])) (.sr 4 2 (encN ⟨pl,[]⟩ :: ps.map encN)) :: .room (1) 1 :: .box [.d (.int .i64 pl),.d .nilsl] :: .room (ps.length+1) 2 :: [.box [.d (.int .i64 ((16+i:Nat):Int)),.d .nilsl]]) rfl rfl) rfl (by repeat' (first|exact trivial|refine⟨(Or.inl rfl),?_⟩|refine⟨(Or.inr rfl),?_⟩|refine⟨rfl,?_⟩|fail)) (by repeat' (first|exact trivial|refine⟨(Or.inl rfl),?_⟩|refine⟨(Or.inr rfl),?_⟩|refine⟨rfl,?_⟩|fail)) rfl rfl) ?_
         refine zX fA ?_
         first|refine oX (frz:=fA) Yo ?_ (hv:=app1) (hf:=rfl) (he:=rfl)|refine eX ?_ (hv:=app1) (hf:=rfl) (he:=rfl)
         iterate 2 refine zX fA ?_
         repeat refine zS ?_
         refine zX fA ?_
         refine oX (frz:=fA) (v:=.d (.int .i64 ((j+1:Nat):Int))) Yo ?_ (he:=vN (by omega) (by omega))
         refine zX fA ?_
         repeat refine zS ?_
         exact⟨(j+1,⟨pl,[]⟩ :: (ps++[(⟨((16+i:Nat):Int),[]⟩:GProd)])),⟨by simp only<;>omega,hnext,by simp at hjb ⊢<;>omega⟩,by simp only<;>omega,(tidy_of (objs:=_) _ 5 (Eq.trans (b:=boxG0 :: boxA ((1+k % 2:Nat):Int) (kTok k) (.sr 2 1 ([DV.str [83+i]])) (.sr 4 2 (encN ⟨pl,[]⟩ :: (ps.map encN++[encN (⟨((16+i:Nat):Int),[]⟩:GProd)]))) :: .room (1) 1 :: .box [.d (.int .i64 pl),.d .nilsl] :: [.room (ps.length+1+1) 2]) rfl (by first|rfl|(simp [psA,psO,psI,rowA,rowO,rgtD]<;>fail))) rfl (by repeat' (first|exact trivial|refine⟨(Or.inl rfl),?_⟩|refine⟨(Or.inr rfl),?_⟩|fail)) (by repeat' (first|exact trivial|refine⟨rfl,?_⟩|fail)) rfl rfl)⟩
        ·repeat refine zS ?_
         iterate 2 refine zX fA ?_
         refine oX (frz:=fA) (v:=.d (.int .i64 ((v % 4:Nat):Int))) Yo ?_ (he:=rfl)
         refine oX (frz:=fA) (v:=.d (.bool false)) Yo ?_ (he:=vF (by omega))
         repeat refine zS ?_
         iterate 3 refine zX fA ?_
         first|refine Run.tidy (tidy_of (objs:=_) [(0,.d (ints nums)),(2,.bp 0 0),(4,.bp 1 0),(5,.d (.int .i64 (M:Nat))),(6,.d (.int .i64 i)),(7,.d (.int .i64 x)),(8,.d (.int .i64 j)),(109,.sr 4 2 (encN ⟨pl,[]⟩ :: ps.map encN)),(110,.d (encN (⟨((16+i:Nat):Int),r1 :: rr⟩:GProd)))] 7 (Eq.trans (b:=boxG0 :: boxA ((1+k % 2:Nat):Int) (kTok k) (.sr 2 1 ([DV.str [83+i]])) (.sr 4 2 (encN ⟨pl,[]⟩ :: ps.map encN)) :: .room (1) 1 :: .box [.d (.int .i64 pl),.d .nilsl] :: .room (ps.length+1) 2 :: .box [.d (.int .i64 ((16+i:Nat):Int)),.sr 6 1 (rgtD (r1 :: rr))] :: [.room ((rgtD rr).length+1) 1]) rfl rfl) rfl (by repeat' (first|exact trivial|refine⟨(Or.inl rfl),?_⟩|refine⟨(Or.inr rfl),?_⟩|refine⟨rfl,?_⟩|fail)) (by repeat' (first|exact trivial|refine⟨(Or.inl rfl),?_⟩|refine⟨(Or.inr rfl),?_⟩|refine⟨rfl,?_⟩|fail)) rfl rfl) ?_|refine RunOps.tidy (tidy_of (objs:=_) [(0,.d (ints nums)),(2,.bp 0 0),(4,.bp 1 0),(5,.d (.int .i64 (M:Nat))),(6,.d (.int .i64 i)),(7,.d (.int .i64 x)),(8,.d (.int .i64 j)),(109,.sr 4 2 (encN ⟨pl,[]⟩ :: ps.map encN)),(110,.d (encN (⟨((16+i:Nat):Int),r1 :: rr⟩:GProd)))] 7 (Eq.trans (b:=boxG0 :: boxA ((1+k % 2:Nat):Int) (kTok k) (.sr 2 1 ([DV.str [83+i]])) (.sr 4 2 (encN ⟨pl,[]⟩ :: ps.map encN)) :: .room (1) 1 :: .box [.d (.int .i64 pl),.d .nilsl] :: .room (ps.length+1) 2 :: .box [.d (.int .i64 ((16+i:Nat):Int)),.sr 6 1 (rgtD (r1 :: rr))] :: [.room ((rgtD rr).length+1) 1]) rfl rfl) rfl (by repeat' (first|exact trivial|refine⟨(Or.inl rfl),?_⟩|refine⟨(Or.inr rfl),?_⟩|refine⟨rfl,?_⟩|fail)) (by repeat' (first|exact trivial|refine⟨(Or.inl rfl),?_⟩|refine⟨(Or.inr rfl),?_⟩|refine⟨rfl,?_⟩|fail)) rfl rfl) ?_
         refine zX fA ?_
         first|refine oX (frz:=fA) Yo ?_ (hv:=app1) (hf:=rfl) (he:=rfl)|refine eX ?_ (hv:=app1) (hf:=rfl) (he:=rfl)
         iterate 2 refine zX fA ?_
         repeat refine zS ?_
         refine zX fA ?_
         refine oX (frz:=fA) (v:=.d (.int .i64 ((j+1:Nat):Int))) Yo ?_ (he:=vN (by omega) (by omega))
         refine zX fA ?_
         repeat refine zS ?_
         exact⟨(j+1,⟨pl,[]⟩ :: (ps++[(⟨((16+i:Nat):Int),r1 :: rr⟩:GProd)])),⟨by simp only<;>omega,hnext,by simp at hjb ⊢<;>omega⟩,by simp only<;>omega,(tidy_of (objs:=_) _ 5 (Eq.trans (b:=boxG0 :: boxA ((1+k % 2:Nat):Int) (kTok k) (.sr 2 1 ([DV.str [83+i]])) (.sr 4 2 (encN ⟨pl,[]⟩ :: (ps.map encN++[encN (⟨((16+i:Nat):Int),r1 :: rr⟩:GProd)]))) :: .room (1) 1 :: .box [.d (.int .i64 pl),.d .nilsl] :: [.room (ps.length+1+1) 2]) rfl (by first|rfl|(simp [psA,psO,psI,rowA,rowO,rgtD]<;>fail))) rfl (by repeat' (first|exact trivial|refine⟨(Or.inl rfl),?_⟩|refine⟨(Or.inr rfl),?_⟩|fail)) (by repeat' (first|exact trivial|refine⟨rfl,?_⟩|fail)) rfl rfl)⟩
      ·have hjc:ps.length+1<7:=by simpa using hjb
       repeat refine zS ?_
       iterate 2 refine zX fA ?_
       refine oX (frz:=fA) (v:=.d (.int .i64 ((x % 3:Nat):Int))) Yo ?_ (he:=rfl)
       refine oX (frz:=fA) (v:=.d (.bool true)) Yo ?_ (he:=vT (by omega))
       iterate 4 refine zX fA ?_
       refine oX (frz:=fA) (v:=.d (.bool true)) Yo ?_ (he:=vT (by simp at hjb ⊢<;>omega))
       refine zX fA ?_
       repeat refine zS ?_
       refine zX fA ?_
       refine oX (frz:=fA) (v:=.d (.int .i64 ((16+i:Nat):Int))) Yo ?_ (he:=vN (by omega) (by omega))
       iterate 3 refine zX fA ?_
       repeat refine zS ?_
       iterate 2 refine zX fA ?_
       refine oX (frz:=fA) (v:=.d (.int .i64 ((3*i:Nat):Int))) Yo ?_ (he:=vN (by omega) (by omega))
       refine oX (frz:=fA) (v:=.d (.int .i64 ((4+3*i:Nat):Int))) Yo ?_ (he:=vN (by omega) (by omega))
       refine zX fA ?_
       refine oX (frz:=fA) (v:=.d (.int .i64 ((4+3*i+j:Nat):Int))) Yo ?_ (he:=vN (by omega) (by omega))
       refine oC hat ?_
       refine oC hy ?_
       refine zX fA ?_
       repeat refine zS ?_
       refine zX fA ?_
       repeat refine zS ?_
       refine Run.loopT (fun z:Nat × List Int=>⟨PT.ofList [(0,.d (ints nums)),(2,.bp 0 0),(4,.bp 1 0),(5,.d (.int .i64 (M:Nat))),(6,.d (.int .i64 i)),(7,.d (.int .i64 x)),(8,.d (.int .i64 j)),(9,.bp 6 0),(10,.d (.int .i64 v)),(11,.d (.int .i64 z.1))],boxG0 :: boxA ((1+k % 2:Nat):Int) (kTok k) (.sr 2 1 ([DV.str [83+i]])) (.sr 5 2 (encN ⟨pl,r0 :: rl⟩ :: ps.map encN)) :: .room (1) 1 :: .box [.d (.int .i64 pl),.sr 4 1 (rgtD (r0 :: rl))] :: .room ((rgtD rl).length+1) 1 :: .room (ps.length+1) 2 :: .box [.d (.int .i64 ((16+i:Nat):Int)),rowA 7 1 (rgtD z.2)] :: rowO 1 (rgtD z.2),[]⟩)
        (fun z=>z.1≤v % 4∧z.2=rgtTo T M v z.1) (fun z=>v % 4-z.1) (0,[]) ⟨Nat.zero_le _,rfl⟩ (tidy_of (objs:=_) _ 7 (by rfl) rfl (by repeat' (first|exact trivial|refine⟨(Or.inl rfl),?_⟩|refine⟨(Or.inr rfl),?_⟩|fail)) (by repeat' (first|exact trivial|refine⟨rfl,?_⟩|fail)) rfl rfl) (fun z hz=>?_)
       obtain⟨s,r⟩:=z
       obtain⟨hs1,hs2⟩:=hz
       simp only at hs1 hs2 ⊢
       have hrl:r.length=s:=by rw [hs2];simp [rgtTo]
       rcases Nat.lt_or_ge s (v % 4) with hsl|hsg
       ·have hnx:r++[((symN T M (zF v s):Nat):Int)]=rgtTo T M v (s+1):=by rw [hs2];simp [rgtTo,List.range_succ]
        rcases r with _|⟨r1,rr⟩
        ·have hrl':=hrl
         simp only [List.length_cons,List.length_nil] at hrl'
         repeat refine zS ?_
         iterate 2 refine zX fA ?_
         refine oX (frz:=fA) (v:=.d (.int .i64 ((v % 4:Nat):Int))) Yo ?_ (he:=rfl)
         refine oX (frz:=fA) (v:=.d (.bool true)) Yo ?_ (he:=vT (by omega))
         repeat refine zS ?_
         refine zX fA ?_
         refine oX (frz:=fA) (v:=.d (.int .i64 ((v / 4:Nat):Int))) Yo ?_ (he:=vN rfl (by omega))
         refine zX fA ?_
         refine oX (frz:=fA) (v:=.d (.int .i64 ((4*s:Nat):Int))) Yo ?_ (he:=vN (by omega) (by omega))
         refine oX (frz:=fA) (v:=.d (.int .u64 ((4*s:Nat):Int))) Yo ?_ (he:=vU64 (by omega))
         refine oX (frz:=fA) (v:=.d (.int .i64 ((v / 4 / 2 ^ (4*s):Nat):Int))) Yo ?_ (hf:=shrF (4*s)) (he:=congrArg (fun n=>AV.d (.int .i64 n)) (shrN (by omega)))
         refine oX (frz:=fA) (v:=.d (.int .i64 ((zF v s:Nat):Int))) Yo ?_ (he:=rfl)
         refine zX fA ?_
         repeat refine zS ?_
         refine zX fA ?_
         refine oX (frz:=fA) (v:=.d (.int .i64 ((zF v s % 5:Nat):Int))) Yo ?_ (he:=rfl)
         by_cases h5:zF v s % 5<3
         ·refine oX (frz:=fA) (v:=.d (.bool true)) Yo ?_ (he:=vT (by omega))
          have hsy:symN T M (zF v s)=zF v s % T:=if_pos h5
          rw [hsy] at hnx
          repeat refine zG fA ?_
          iterate 5 refine zX fA ?_
          first|refine oX (frz:=fA) (v:=.d (.int .i64 (T:Nat))) Yo ?_ (he:=(by rw [hT,List.length_map]))|refine eX (v:=.d (.int .i64 (T:Nat))) ?_ (he:=(by rw [hT,List.length_map]))
          refine eX (v:=.d (.int .i64 ((zF v s % T:Nat):Int))) ?_ (hf:=by simp<;>omega) (he:=rfl)
          iterate 1 refine zX fA ?_
          first|refine oX (frz:=fA) Yo ?_ (hv:=app0) (hf:=rfl) (he:=rfl)|refine eX ?_ (hv:=app0) (hf:=rfl) (he:=rfl)
          iterate 2 refine zX fA ?_
          repeat refine zG fA ?_
          refine zX fA ?_
          refine oX (frz:=fA) (v:=.d (.int .i64 ((s+1:Nat):Int))) Yo ?_ (he:=vN (by omega) (by omega))
          refine zX fA ?_
          repeat refine zS ?_
          exact⟨(s+1,_),⟨hsl,hnx⟩,by simp only<;>omega,(tidy_of (objs:=_) _ 8 (by rfl) rfl (by repeat' (first|exact trivial|refine⟨(Or.inl rfl),?_⟩|refine⟨(Or.inr rfl),?_⟩|fail)) (by repeat' (first|exact trivial|refine⟨rfl,?_⟩|fail)) rfl rfl)⟩
         ·refine oX (frz:=fA) (v:=.d (.bool false)) Yo ?_ (he:=vF (by omega))
          have hsy:symN T M (zF v s)=16+zF v s % M:=if_neg h5
          rw [hsy] at hnx
          repeat refine zG fA ?_
          iterate 4 refine zX fA ?_
          refine eX (v:=.d (.int .i64 ((zF v s % M:Nat):Int))) ?_ (hf:=by simp<;>omega) (he:=rfl)
          first|refine oX (frz:=fA) (v:=.d (.int .i64 ((16+zF v s % M:Nat):Int))) Yo ?_ (he:=(vN (by omega) (by have:=Nat.mod_lt (zF v s) (show 0<M by omega)<;>omega)))|refine eX (v:=.d (.int .i64 ((16+zF v s % M:Nat):Int))) ?_ (he:=(vN (by omega) (by have:=Nat.mod_lt (zF v s) (show 0<M by omega)<;>omega)))
          iterate 1 refine zX fA ?_
          first|refine oX (frz:=fA) Yo ?_ (hv:=app0) (hf:=rfl) (he:=rfl)|refine eX ?_ (hv:=app0) (hf:=rfl) (he:=rfl)
          iterate 2 refine zX fA ?_
          repeat refine zG fA ?_
          refine zX fA ?_
          refine oX (frz:=fA) (v:=.d (.int .i64 ((s+1:Nat):Int))) Yo ?_ (he:=vN (by omega) (by omega))
          refine zX fA ?_
          repeat refine zS ?_
          exact⟨(s+1,_),⟨hsl,hnx⟩,by simp only<;>omega,(tidy_of (objs:=_) _ 8 (by rfl) rfl (by repeat' (first|exact trivial|refine⟨(Or.inl rfl),?_⟩|refine⟨(Or.inr rfl),?_⟩|fail)) (by repeat' (first|exact trivial|refine⟨rfl,?_⟩|fail)) rfl rfl)⟩
        ·have hrl':=hrl
         simp only [List.length_cons,List.length_nil] at hrl'
         repeat refine zS ?_
         iterate 2 refine zX fA ?_
         refine oX (frz:=fA) (v:=.d (.int .i64 ((v % 4:Nat):Int))) Yo ?_ (he:=rfl)
         refine oX (frz:=fA) (v:=.d (.bool true)) Yo ?_ (he:=vT (by omega))
         repeat refine zS ?_
         refine zX fA ?_
         refine oX (frz:=fA) (v:=.d (.int .i64 ((v / 4:Nat):Int))) Yo ?_ (he:=vN rfl (by omega))
         refine zX fA ?_
         refine oX (frz:=fA) (v:=.d (.int .i64 ((4*s:Nat):Int))) Yo ?_ (he:=vN (by omega) (by omega))
         refine oX (frz:=fA) (v:=.d (.int .u64 ((4*s:Nat):Int))) Yo ?_ (he:=vU64 (by omega))
         refine oX (frz:=fA) (v:=.d (.int .i64 ((v / 4 / 2 ^ (4*s):Nat):Int))) Yo ?_ (hf:=shrF (4*s)) (he:=congrArg (fun n=>AV.d (.int .i64 n)) (shrN (by omega)))
         refine oX (frz:=fA) (v:=.d (.int .i64 ((zF v s:Nat):Int))) Yo ?_ (he:=rfl)
         refine zX fA ?_
         repeat refine zS ?_
         refine zX fA ?_
         refine oX (frz:=fA) (v:=.d (.int .i64 ((zF v s % 5:Nat):Int))) Yo ?_ (he:=rfl)
         by_cases h5:zF v s % 5<3
         ·refine oX (frz:=fA) (v:=.d (.bool true)) Yo ?_ (he:=vT (by omega))
          have hsy:symN T M (zF v s)=zF v s % T:=if_pos h5
          rw [hsy] at hnx
          repeat refine zG fA ?_
          iterate 5 refine zX fA ?_
          first|refine oX (frz:=fA) (v:=.d (.int .i64 (T:Nat))) Yo ?_ (he:=(by rw [hT,List.length_map]))|refine eX (v:=.d (.int .i64 (T:Nat))) ?_ (he:=(by rw [hT,List.length_map]))
          refine eX (v:=.d (.int .i64 ((zF v s % T:Nat):Int))) ?_ (hf:=by simp<;>omega) (he:=rfl)
          iterate 1 refine zX fA ?_
          first|refine oX (frz:=fA) Yo ?_ (hv:=app1) (hf:=rfl) (he:=rfl)|refine eX ?_ (hv:=app1) (hf:=rfl) (he:=rfl)
          iterate 2 refine zX fA ?_
          repeat refine zG fA ?_
          refine zX fA ?_
          refine oX (frz:=fA) (v:=.d (.int .i64 ((s+1:Nat):Int))) Yo ?_ (he:=vN (by omega) (by omega))
          refine zX fA ?_
          repeat refine zS ?_
          exact⟨(s+1,_),⟨hsl,hnx⟩,by simp only<;>omega,(tidy_of (objs:=_) _ 8 (by first|rfl|(simp only [rowO,rgtD,List.map_append,List.map_cons,List.map_nil,List.cons_append,List.length_append,List.length_cons,List.length_nil]<;>rfl)) rfl (by repeat' (first|exact trivial|refine⟨(Or.inl rfl),?_⟩|refine⟨(Or.inr rfl),?_⟩|fail)) (by repeat' (first|exact trivial|refine⟨rfl,?_⟩|fail)) rfl rfl)⟩
         ·refine oX (frz:=fA) (v:=.d (.bool false)) Yo ?_ (he:=vF (by omega))
          have hsy:symN T M (zF v s)=16+zF v s % M:=if_neg h5
          rw [hsy] at hnx
          repeat refine zG fA ?_
          iterate 4 refine zX fA ?_
          refine eX (v:=.d (.int .i64 ((zF v s % M:Nat):Int))) ?_ (hf:=by simp<;>omega) (he:=rfl)
          first|refine oX (frz:=fA) (v:=.d (.int .i64 ((16+zF v s % M:Nat):Int))) Yo ?_ (he:=(vN (by omega) (by have:=Nat.mod_lt (zF v s) (show 0<M by omega)<;>omega)))|refine eX (v:=.d (.int .i64 ((16+zF v s % M:Nat):Int))) ?_ (he:=(vN (by omega) (by have:=Nat.mod_lt (zF v s) (show 0<M by omega)<;>omega)))
          iterate 1 refine zX fA ?_
          first|refine oX (frz:=fA) Yo ?_ (hv:=app1) (hf:=rfl) (he:=rfl)|refine eX ?_ (hv:=app1) (hf:=rfl) (he:=rfl)
          iterate 2 refine zX fA ?_
          repeat refine zG fA ?_
          refine zX fA ?_
          refine oX (frz:=fA) (v:=.d (.int .i64 ((s+1:Nat):Int))) Yo ?_ (he:=vN (by omega) (by omega))
          refine zX fA ?_
          repeat refine zS ?_
          exact⟨(s+1,_),⟨hsl,hnx⟩,by simp only<;>omega,(tidy_of (objs:=_) _ 8 (by first|rfl|(simp only [rowO,rgtD,List.map_append,List.map_cons,List.map_nil,List.cons_append,List.length_append,List.length_cons,List.length_nil]<;>rfl)) rfl (by repeat' (first|exact trivial|refine⟨(Or.inl rfl),?_⟩|refine⟨(Or.inr rfl),?_⟩|fail)) (by repeat' (first|exact trivial|refine⟨rfl,?_⟩|fail)) rfl rfl)⟩
       ·have hse:s=v % 4:=by omega
        rw [hse] at hs2
        rw [← hs2] at hnext
        rcases r with _|⟨r1,rr⟩
        ·repeat refine zS ?_
         iterate 2 refine zX fA ?_
         refine oX (frz:=fA) (v:=.d (.int .i64 ((v % 4:Nat):Int))) Yo ?_ (he:=rfl)
         refine oX (frz:=fA) (v:=.d (.bool false)) Yo ?_ (he:=vF (by omega))
         repeat refine zS ?_
         iterate 3 refine zX fA ?_
         first|refine Run.tidy (tidy_of (objs:=_) [(0,.d (ints nums)),(2,.bp 0 0),(4,.bp 1 0),(5,.d (.int .i64 (M:Nat))),(6,.d (.int .i64 i)),(7,.d (.int .i64 x)),(8,.d (.int .i64 j)),(109,.sr 5 2 (encN ⟨pl,r0 :: rl⟩ :: ps.map encN)),(110,.d (encN (⟨((16+i:Nat):Int),[]⟩:GProd)))] 7 (Eq.trans (b:=boxG0 :: boxA ((1+k % 2:Nat):Int) (kTok k) (.sr 2 1 ([DV.str [83+i]])) (.sr 5 2 (encN ⟨pl,r0 :: rl⟩ :: ps.map encN)) :: .room (1) 1 :: .box [.d (.int .i64 pl),.sr 4 1 (rgtD (r0 :: rl))] :: .room ((rgtD rl).length+1) 1 :: .room (ps.length+1) 2 :: [.box [.d (.int .i64 ((16+i:Nat):Int)),.d .nilsl]]) rfl rfl) rfl (by repeat' (first|exact trivial|refine⟨(Or.inl rfl),?_⟩|refine⟨(Or.inr rfl),?_⟩|refine⟨rfl,?_⟩|fail)) (by repeat' (first|exact trivial|refine⟨(Or.inl rfl),?_⟩|refine⟨(Or.inr rfl),?_⟩|refine⟨rfl,?_⟩|fail)) rfl rfl) ?_|refine RunOps.tidy (tidy_of (objs:=_) [(0,.d (ints nums)),(2,.bp 0 0),(4,.bp 1 0),(5,.d (.int .i64 (M:Nat))),(6,.d (.int .i64 i)),(7,.d (.int .i64 x)),(8,.d (.int .i64 j)),(109,.sr 5 2 (encN ⟨pl,r0 :: rl⟩ :: ps.map encN)),(110,.d (encN (⟨((16+i:Nat):Int),[]⟩:GProd)))] 7 (Eq.trans (b:=boxG0 :: boxA ((1+k % 2:Nat):Int) (kTok k) (.sr 2 1 ([DV.str [83+i]])) (.sr 5 2 (encN ⟨pl,r0 :: rl⟩ :: ps.map encN)) :: .room (1) 1 :: .box [.d (.int .i64 pl),.sr 4 1 (rgtD (r0 :: rl))] :: .room ((rgtD rl).length+1) 1 :: .room (ps.length+1) 2 :: [.box [.d (.int .i64 ((16+i:Nat):Int)),.d .nilsl]]) rfl rfl) rfl (by repeat' (first|exact trivial|refine⟨(Or.inl rfl),?_⟩|refine⟨(Or.inr rfl),?_⟩|refine⟨rfl,?_⟩|fail)) (by repeat' (first|exact trivial|refine⟨(Or.inl rfl),?_⟩|refine⟨(Or.inr rfl),?_⟩|refine⟨rfl,?_⟩|fail)) rfl rfl) ?_
         refine zX fA ?_
         first|refine oX (frz:=fA) Yo ?_ (hv:=app1) (hf:=rfl) (he:=rfl)|refine eX ?_ (hv:=app1) (hf:=rfl) (he:=rfl)
         iterate 2 refine zX fA ?_
         repeat refine zS ?_
         refine zX fA ?_
         refine oX (frz:=fA) (v:=.d (.int .i64 ((j+1:Nat):Int))) Yo ?_ (he:=vN (by omega) (by omega))
         refine zX fA ?_
         repeat refine zS ?_
         exact⟨(j+1,⟨pl,r0 :: rl⟩ :: (ps++[(⟨((16+i:Nat):Int),[]⟩:GProd)])),⟨by simp only<;>omega,hnext,by simp at hjb ⊢<;>omega⟩,by simp only<;>omega,(tidy_of (objs:=_) _ 6 (Eq.trans (b:=boxG0 :: boxA ((1+k % 2:Nat):Int) (kTok k) (.sr 2 1 ([DV.str [83+i]])) (.sr 5 2 (encN ⟨pl,r0 :: rl⟩ :: (ps.map encN++[encN (⟨((16+i:Nat):Int),[]⟩:GProd)]))) :: .room (1) 1 :: .box [.d (.int .i64 pl),.sr 4 1 (rgtD (r0 :: rl))] :: .room ((rgtD rl).length+1) 1 :: [.room (ps.length+1+1) 2]) rfl (by first|rfl|(simp [psA,psO,psI,rowA,rowO,rgtD]<;>fail))) rfl (by repeat' (first|exact trivial|refine⟨(Or.inl rfl),?_⟩|refine⟨(Or.inr rfl),?_⟩|fail)) (by repeat' (first|exact trivial|refine⟨rfl,?_⟩|fail)) rfl rfl)⟩
        ·repeat refine zS ?_
         iterate 2 refine zX fA ?_
         refine oX (frz:=fA) (v:=.d (.int .i64 ((v % 4:Nat):Int))) Yo ?_ (he:=rfl)
         refine oX (frz:=fA) (v:=.d (.bool false)) Yo ?_ (he:=vF (by omega))
         repeat refine zS ?_
         iterate 3 refine zX fA ?_
         first|refine Run.tidy (tidy_of (objs:=_) [(0,.d (ints nums)),(2,.bp 0 0),(4,.bp 1 0),(5,.d (.int .i64 (M:Nat))),(6,.d (.int .i64 i)),(7,.d (.int .i64 x)),(8,.d (.int .i64 j)),(109,.sr 5 2 (encN ⟨pl,r0 :: rl⟩ :: ps.map encN)),(110,.d (encN (⟨((16+i:Nat):Int),r1 :: rr⟩:GProd)))] 8 (Eq.trans (b:=boxG0 :: boxA ((1+k % 2:Nat):Int) (kTok k) (.sr 2 1 ([DV.str [83+i]])) (.sr 5 2 (encN ⟨pl,r0 :: rl⟩ :: ps.map encN)) :: .room (1) 1 :: .box [.d (.int .i64 pl),.sr 4 1 (rgtD (r0 :: rl))] :: .room ((rgtD rl).length+1) 1 :: .room (ps.length+1) 2 :: .box [.d (.int .i64 ((16+i:Nat):Int)),.sr 7 1 (rgtD (r1 :: rr))] :: [.room ((rgtD rr).length+1) 1]) rfl rfl) rfl (by repeat' (first|exact trivial|refine⟨(Or.inl rfl),?_⟩|refine⟨(Or.inr rfl),?_⟩|refine⟨rfl,?_⟩|fail)) (by repeat' (first|exact trivial|refine⟨(Or.inl rfl),?_⟩|refine⟨(Or.inr rfl),?_⟩|refine⟨rfl,?_⟩|fail)) rfl rfl) ?_|refine RunOps.tidy (tidy_of (objs:=_) [(0,.d (ints nums)),(2,.bp 0 0),(4,.bp 1 0),(5,.d (.int .i64 (M:Nat))),(6,.d (.int .i64 i)),(7,.d (.int .i64 x)),(8,.d (.int .i64 j)),(109,.sr 5 2 (encN ⟨pl,r0 :: rl⟩ :: ps.map encN)),(110,.d (encN (⟨((16+i:Nat):Int),r1 :: rr⟩:GProd)))] 8 (Eq.trans (b:=boxG0 :: boxA ((1+k % 2:Nat):Int) (kTok k) (.sr 2 1 ([DV.str [83+i]])) (.sr 5 2 (encN ⟨pl,r0 :: rl⟩ :: ps.map encN)) :: .room (1) 1 :: .box [.d (.int .i64 pl),.sr 4 1 (rgtD (r0 :: rl))] :: .room ((rgtD rl).length+1) 1 :: .room (ps.length+1) 2 :: .box [.d (.int .i64 ((16+i:Nat):Int)),.sr 7 1 (rgtD (r1 :: rr))] :: [.room ((rgtD rr).length+1) 1]) rfl rfl) rfl (by repeat' (first|exact trivial|refine⟨(Or.inl rfl),?_⟩|refine⟨(Or.inr rfl),?_⟩|refine⟨rfl,?_⟩|fail)) (by repeat' (first|exact trivial|refine⟨(Or.inl rfl),?_⟩|refine⟨(Or.inr rfl),?_⟩|refine⟨rfl,?_⟩|fail)) rfl rfl) ?_
         refine zX fA ?_
         first|refine oX (frz:=fA) Yo ?_ (hv:=app1) (hf:=rfl) (he:=rfl)|refine eX ?_ (hv:=app1) (hf:=rfl) (he:=rfl)
         iterate 2 refine zX fA ?_
         repeat refine zS ?_
         refine zX fA ?_
         refine oX (frz:=fA) (v:=.d (.int .i64 ((j+1:Nat):Int))) Yo ?_ (he:=vN (by omega) (by omega))
         refine zX fA ?_
         repeat refine zS ?_
         exact⟨(j+1,⟨pl,r0 :: rl⟩ :: (ps++[(⟨((16+i:Nat):Int),r1 :: rr⟩:GProd)])),⟨by simp only<;>omega,hnext,by simp at hjb ⊢<;>omega⟩,by simp only<;>omega,(tidy_of (objs:=_) _ 6 (Eq.trans (b:=boxG0 :: boxA ((1+k % 2:Nat):Int) (kTok k) (.sr 2 1 ([DV.str [83+i]])) (.sr 5 2 (encN ⟨pl,r0 :: rl⟩ :: (ps.map encN++[encN (⟨((16+i:Nat):Int),r1 :: rr⟩:GProd)]))) :: .room (1) 1 :: .box [.d (.int .i64 pl),.sr 4 1 (rgtD (r0 :: rl))] :: .room ((rgtD rl).length+1) 1 :: [.room (ps.length+1+1) 2]) rfl (by first|rfl|(simp [psA,psO,psI,rowA,rowO,rgtD]<;>fail))) rfl (by repeat' (first|exact trivial|refine⟨(Or.inl rfl),?_⟩|refine⟨(Or.inr rfl),?_⟩|fail)) (by repeat' (first|exact trivial|refine⟨rfl,?_⟩|fail)) rfl rfl)⟩
    ·have hz:acc≠[]:=fun hz=>by
      rw [hz] at hj2 hj
      have hr0:=(List.append_eq_nil_iff.1 hj2.symm).2
      have:j=0:=by simpa [rowTo] using hr0
      exact hj ⟨by omega,by simp⟩
     have hacc':acc=accTo nums T M (i+1):=by
      simp only [accTo,← hxe]
      by_cases h7:acc.length<7
      ·have hje:j=x % 3+1:=by have:¬ j≤x % 3:=fun h=>hj ⟨h,h7⟩;omega
       rw [← hje,← hj2,List.take_of_length_le hj3]
      ·have h7':acc.length=7:=by omega
       obtain⟨d,hd⟩:∃ d,x % 3+1=j+d:=⟨x % 3+1-j,by omega⟩
       have hro:rowTo nums T M i (x % 3+1)=rowTo nums T M i j++(List.range' j d).map (prodN nums T M i):=by
        rw [hd,rowTo,rowTo,← List.map_append,range_split]
       rw [hro,← List.append_assoc,← hj2,← h7',List.take_left]
     rcases acc with _|⟨⟨pl,pr⟩,ps⟩
     ·exact absurd rfl hz
     ·rcases pr with _|⟨r0,rl⟩
      ·by_cases hja:j≤x % 3
       ·have h7:¬ (ps.length+1<7):=fun h=>hj ⟨hja,by simpa using h⟩
        repeat refine zS ?_
        iterate 2 refine zX fA ?_
        refine oX (frz:=fA) (v:=.d (.int .i64 ((x % 3:Nat):Int))) Yo ?_ (he:=rfl)
        refine oX (frz:=fA) (v:=.d (.bool true)) Yo ?_ (he:=vT (by omega))
        iterate 4 refine zX fA ?_
        refine oX (frz:=fA) (v:=.d (.bool false)) Yo ?_ (he:=vF (by simp<;>omega))
        refine zX fA ?_
        repeat refine zS ?_
        refine zX fA ?_
        refine oX (frz:=fA) (v:=.d (.int .i64 ((i+1:Nat):Int))) Yo ?_ (he:=vN (by omega) (by omega))
        refine zX fA ?_
        repeat refine zS ?_
        exact⟨(i+1,[DV.str [83+i]],⟨pl,[]⟩ :: ps),⟨hlt,hns',hacc'⟩,by simp only<;>omega,(tidy_of (objs:=_) _ 5 (Eq.trans (b:=boxG0 :: boxA ((1+k % 2:Nat):Int) (kTok k) (.sr 2 1 ([DV.str [83+i]])) (.sr 4 2 (encN ⟨pl,[]⟩ :: ps.map encN)) :: .room (1) 1 :: .box [.d (.int .i64 pl),.d .nilsl] :: [.room (ps.length+1) 2]) rfl (by first|rfl|(simp [psA,psO,psI,rowA,rowO,rgtD]<;>fail))) rfl (by repeat' (first|exact trivial|refine⟨(Or.inl rfl),?_⟩|refine⟨(Or.inr rfl),?_⟩|fail)) (by repeat' (first|exact trivial|refine⟨rfl,?_⟩|fail)) rfl rfl)⟩
       ·repeat refine zS ?_
        iterate 2 refine zX fA ?_
        refine oX (frz:=fA) (v:=.d (.int .i64 ((x % 3:Nat):Int))) Yo ?_ (he:=rfl)
        refine oX (frz:=fA) (v:=.d (.bool false)) Yo ?_ (he:=vF (by omega))
        refine zX fA ?_
        refine oS ?_
        refine oS ?_
        refine oS ?_
        refine oS ?_
        refine zX fA ?_
        repeat refine zS ?_
        refine zX fA ?_
        refine oX (frz:=fA) (v:=.d (.int .i64 ((i+1:Nat):Int))) Yo ?_ (he:=vN (by omega) (by omega))
        refine zX fA ?_
        repeat refine zS ?_
        exact⟨(i+1,[DV.str [83+i]],⟨pl,[]⟩ :: ps),⟨hlt,hns',hacc'⟩,by simp only<;>omega,(tidy_of (objs:=_) _ 5 (Eq.trans (b:=boxG0 :: boxA ((1+k % 2:Nat):Int) (kTok k) (.sr 2 1 ([DV.str [83+i]])) (.sr 4 2 (encN ⟨pl,[]⟩ :: ps.map encN)) :: .room (1) 1 :: .box [.d (.int .i64 pl),.d .nilsl] :: [.room (ps.length+1) 2]) rfl (by first|rfl|(simp [psA,psO,psI,rowA,rowO,rgtD]<;>fail))) rfl (by repeat' (first|exact trivial|refine⟨(Or.inl rfl),?_⟩|refine⟨(Or.inr rfl),?_⟩|fail)) (by repeat' (first|exact trivial|refine⟨rfl,?_⟩|fail)) rfl rfl)⟩
      ·by_cases hja:j≤x % 3
       ·have h7:¬ (ps.length+1<7):=fun h=>hj ⟨hja,by simpa using h⟩
        repeat refine zS ?_
        iterate 2 refine zX fA ?_
        refine oX (frz:=fA) (v:=.d (.int .i64 ((x % 3:Nat):Int))) Yo ?_ (he:=rfl)
        refine oX (frz:=fA) (v:=.d (.bool true)) Yo ?_ (he:=vT (by omega))
        iterate 4 refine zX fA ?_
        refine oX (frz:=fA) (v:=.d (.bool false)) Yo ?_ (he:=vF (by simp<;>omega))
        refine zX fA ?_
        repeat refine zS ?_
        refine zX fA ?_
        refine oX (frz:=fA) (v:=.d (.int .i64 ((i+1:Nat):Int))) Yo ?_ (he:=vN (by omega) (by omega))
        refine zX fA ?_
        repeat refine zS ?_
        exact⟨(i+1,[DV.str [83+i]],⟨pl,r0 :: rl⟩ :: ps),⟨hlt,hns',hacc'⟩,by simp only<;>omega,(tidy_of (objs:=_) _ 6 (Eq.trans (b:=boxG0 :: boxA ((1+k % 2:Nat):Int) (kTok k) (.sr 2 1 ([DV.str [83+i]])) (.sr 5 2 (encN ⟨pl,r0 :: rl⟩ :: ps.map encN)) :: .room (1) 1 :: .box [.d (.int .i64 pl),.sr 4 1 (rgtD (r0 :: rl))] :: .room ((rgtD rl).length+1) 1 :: [.room (ps.length+1) 2]) rfl (by first|rfl|(simp [psA,psO,psI,rowA,rowO,rgtD]<;>fail))) rfl (by repeat' (first|exact trivial|refine⟨(Or.inl rfl),?_⟩|refine⟨(Or.inr rfl),?_⟩|fail)) (by repeat' (first|exact trivial|refine⟨rfl,?_⟩|fail)) rfl rfl)⟩
       ·repeat refine zS ?_
        iterate 2 refine zX fA ?_
        refine oX (frz:=fA) (v:=.d (.int .i64 ((x % 3:Nat):Int))) Yo ?_ (he:=rfl)
        refine oX (frz:=fA) (v:=.d (.bool false)) Yo ?_ (he:=vF (by omega))
        refine zX fA ?_
        refine oS ?_
        refine oS ?_
        refine oS ?_
        refine oS ?_
        refine zX fA ?_
        repeat refine zS ?_
        refine zX fA ?_
        refine oX (frz:=fA) (v:=.d (.int .i64 ((i+1:Nat):Int))) Yo ?_ (he:=vN (by omega) (by omega))
        refine zX fA ?_
        repeat refine zS ?_
        exact⟨(i+1,[DV.str [83+i]],⟨pl,r0 :: rl⟩ :: ps),⟨hlt,hns',hacc'⟩,by simp only<;>omega,(tidy_of (objs:=_) _ 6 (Eq.trans (b:=boxG0 :: boxA ((1+k % 2:Nat):Int) (kTok k) (.sr 2 1 ([DV.str [83+i]])) (.sr 5 2 (encN ⟨pl,r0 :: rl⟩ :: ps.map encN)) :: .room (1) 1 :: .box [.d (.int .i64 pl),.sr 4 1 (rgtD (r0 :: rl))] :: .room ((rgtD rl).length+1) 1 :: [.room (ps.length+1) 2]) rfl (by first|rfl|(simp [psA,psO,psI,rowA,rowO,rgtD]<;>fail))) rfl (by repeat' (first|exact trivial|refine⟨(Or.inl rfl),?_⟩|refine⟨(Or.inr rfl),?_⟩|fail)) (by repeat' (first|exact trivial|refine⟨rfl,?_⟩|fail)) rfl rfl)⟩
   ·exfalso
    cases i with|zero=>cases hacc|succ i=>simp [nsD,namesTo,List.range_succ] at hns
  ·rcases acc with _|⟨⟨ql,qr⟩,qs⟩
   ·exfalso
    cases i with|zero=>simp [nsD,namesTo] at hns|succ i=>exact acc_ne nums T M i hacc.symm
   ·have hns':m0 :: (ml++[DV.str [83+i]])=nsD (i+1):=by rw [nsD_succ,← hns];rfl
    have hq3:qs.length+1≤7:=by have:=accTo_len nums T M i;rw [← hacc] at this;simpa using this
    have hml:ml.length+1=i:=by have:=congrArg List.length hns;simpa [nsD,namesTo] using this
    rcases qr with _|⟨u0,ul⟩
    ·repeat refine zS ?_
     iterate 2 refine zX fA ?_
     refine oX (frz:=fA) (v:=.d (.bool true)) Yo ?_ (he:=vT (by omega))
     repeat refine zS ?_
     iterate 3 refine zX fA ?_
     refine oX (frz:=fA) (v:=.d (.int .i64 (83+i:Nat))) Yo ?_ (he:=vN (by omega) (by omega))
     refine oX (frz:=fA) (v:=.d (.int .u8 (83+i:Nat))) Yo ?_ (he:=vU8 (by omega))
     refine zX fA ?_
     refine oX (frz:=fA) (v:=.d (.str [83+i])) Yo ?_ (he:=congrArg (fun c=>AV.d (.str [c])) (show((83+i:Nat):Int).toNat % 256=83+i by omega))
     refine zX fA ?_
     refine oX (frz:=fA) Yo ?_ (hv:=app1) (hf:=rfl) (he:=rfl)
     iterate 2 refine zX fA ?_
     repeat refine zS ?_
     iterate 2 refine zX fA ?_
     refine oX (frz:=fA) (v:=.d (.int .i64 (1+i:Nat))) Yo ?_ (he:=vN (by omega) (by omega))
     refine oC (atS nums (1+i)) ?_
     refine oC hx ?_
     refine zX fA ?_
     repeat refine zS ?_
     refine zX fA ?_
     repeat refine zS ?_
     refine Run.loopT (fun y:Nat × List GProd=>⟨PT.ofList [(0,.d (ints nums)),(2,.bp 0 0),(4,.bp 1 0),(5,.d (.int .i64 (M:Nat))),(6,.d (.int .i64 i)),(7,.d (.int .i64 x)),(8,.d (.int .i64 y.1))],boxG0 :: boxA ((1+k % 2:Nat):Int) (kTok k) (.sr 2 1 (m0 :: (ml++[DV.str [83+i]]))) (psA y.2) :: .room (ml.length+1+1) 1 :: psO y.2,[]⟩)
      (fun y=>y.1≤x % 3+1∧y.2=accTo nums T M i++rowTo nums T M i y.1∧y.2.length≤7) (fun y=>x % 3+1-y.1) (0,(⟨ql,[]⟩ :: qs)) ⟨Nat.zero_le _,by rw [← hacc];simp [rowTo],hq3⟩ (tidy_of (objs:=_) _ 5 (by rfl) rfl (by repeat' (first|exact trivial|refine⟨(Or.inl rfl),?_⟩|refine⟨(Or.inr rfl),?_⟩|fail)) (by repeat' (first|exact trivial|refine⟨rfl,?_⟩|fail)) rfl rfl) (fun y hy=>?_)
     obtain⟨j,acc⟩:=y
     obtain⟨hj1,hj2,hj3⟩:=hy
     simp only at hj1 hj2 hj3 ⊢
     by_cases hj:j≤x % 3∧acc.length<7
     ·obtain⟨hja,hjb⟩:=hj
      have hy:=numS nums hn (4+3*i+j)
      have hyl:=numF_lt nums (4+3*i+j)
      have hyp:prodN nums T M i j=⟨((16+i:Nat):Int),rgtTo T M (numF nums (4+3*i+j)) (numF nums (4+3*i+j) % 4)⟩:=rfl
      have hrow:rowTo nums T M i (j+1)=rowTo nums T M i j++[prodN nums T M i j]:=by simp [rowTo,List.range_succ]
      have hat:=atS nums (4+3*i+j)
      obtain⟨v,hv⟩:∃ v,v=numF nums (4+3*i+j):=⟨_,rfl⟩
      rw [← hv] at hy hyl hyp
      have hnext:acc++[prodN nums T M i j]=accTo nums T M i++rowTo nums T M i (j+1):=by rw [hj2,hrow,List.append_assoc]
      rw [hyp] at hnext
      rcases acc with _|⟨⟨pl,pr⟩,ps⟩
      ·repeat refine zS ?_
       iterate 2 refine zX fA ?_
       refine oX (frz:=fA) (v:=.d (.int .i64 ((x % 3:Nat):Int))) Yo ?_ (he:=rfl)
       refine oX (frz:=fA) (v:=.d (.bool true)) Yo ?_ (he:=vT (by omega))
       iterate 4 refine zX fA ?_
       refine zX fA ?_
       refine zX fA ?_
       repeat refine zS ?_
       refine zX fA ?_
       refine oX (frz:=fA) (v:=.d (.int .i64 ((16+i:Nat):Int))) Yo ?_ (he:=vN (by omega) (by omega))
       iterate 3 refine zX fA ?_
       repeat refine zS ?_
       iterate 2 refine zX fA ?_
       refine oX (frz:=fA) (v:=.d (.int .i64 ((3*i:Nat):Int))) Yo ?_ (he:=vN (by omega) (by omega))
       refine oX (frz:=fA) (v:=.d (.int .i64 ((4+3*i:Nat):Int))) Yo ?_ (he:=vN (by omega) (by omega))
       refine zX fA ?_
       refine oX (frz:=fA) (v:=.d (.int .i64 ((4+3*i+j:Nat):Int))) Yo ?_ (he:=vN (by omega) (by omega))
       refine oC hat ?_
       refine oC hy ?_
       refine zX fA ?_
       repeat refine zS ?_
       refine zX fA ?_
       repeat refine zS ?_
       refine Run.loopT (fun z:Nat × List Int=>⟨PT.ofList [(0,.d (ints nums)),(2,.bp 0 0),(4,.bp 1 0),(5,.d (.int .i64 (M:Nat))),(6,.d (.int .i64 i)),(7,.d (.int .i64 x)),(8,.d (.int .i64 j)),(9,.bp 3 0),(10,.d (.int .i64 v)),(11,.d (.int .i64 z.1))],boxG0 :: boxA ((1+k % 2:Nat):Int) (kTok k) (.sr 2 1 (m0 :: (ml++[DV.str [83+i]]))) (.d .nilsl) :: .room (ml.length+1+1) 1 :: .box [.d (.int .i64 ((16+i:Nat):Int)),rowA 4 1 (rgtD z.2)] :: rowO 1 (rgtD z.2),[]⟩)
        (fun z=>z.1≤v % 4∧z.2=rgtTo T M v z.1) (fun z=>v % 4-z.1) (0,[]) ⟨Nat.zero_le _,rfl⟩ (tidy_of (objs:=_) _ 4 (by rfl) rfl (by repeat' (first|exact trivial|refine⟨(Or.inl rfl),?_⟩|refine⟨(Or.inr rfl),?_⟩|fail)) (by repeat' (first|exact trivial|refine⟨rfl,?_⟩|fail)) rfl rfl) (fun z hz=>?_)
       obtain⟨s,r⟩:=z
       obtain⟨hs1,hs2⟩:=hz
       simp only at hs1 hs2 ⊢
       have hrl:r.length=s:=by rw [hs2];simp [rgtTo]
       rcases Nat.lt_or_ge s (v % 4) with hsl|hsg
       ·have hnx:r++[((symN T M (zF v s):Nat):Int)]=rgtTo T M v (s+1):=by rw [hs2];simp [rgtTo,List.range_succ]
        rcases r with _|⟨r1,rr⟩
        ·have hrl':=hrl
         simp only [List.length_cons,List.length_nil] at hrl'
         repeat refine zS ?_
         iterate 2 refine zX fA ?_
         refine oX (frz:=fA) (v:=.d (.int .i64 ((v % 4:Nat):Int))) Yo ?_ (he:=rfl)
         refine oX (frz:=fA) (v:=.d (.bool true)) Yo ?_ (he:=vT (by omega))
         repeat refine zS ?_
         refine zX fA ?_
         refine oX (frz:=fA) (v:=.d (.int .i64 ((v / 4:Nat):Int))) Yo ?_ (he:=vN rfl (by omega))
         refine zX fA ?_
         refine oX (frz:=fA) (v:=.d (.int .i64 ((4*s:Nat):Int))) Yo ?_ (he:=vN (by omega) (by omega))
         refine oX (frz:=fA) (v:=.d (.int .u64 ((4*s:Nat):Int))) Yo ?_ (he:=vU64 (by omega))
         refine oX (frz:=fA) (v:=.d (.int .i64 ((v / 4 / 2 ^ (4*s):Nat):Int))) Yo ?_ (hf:=shrF (4*s)) (he:=congrArg (fun n=>AV.d (.int .i64 n)) (shrN (by omega)))
         refine oX (frz:=fA) (v:=.d (.int .i64 ((zF v s:Nat):Int))) Yo ?_ (he:=rfl)
         refine zX fA ?_
         repeat refine zS ?_
         refine zX fA ?_
         refine oX (frz:=fA) (v:=.d (.int .i64 ((zF v s % 5:Nat):Int))) Yo ?_ (he:=rfl)
         by_cases h5:zF v s % 5<3
         ·refine oX (frz:=fA) (v:=.d (.bool true)) Yo ?_ (he:=vT (by omega))
          have hsy:symN T M (zF v s)=zF v s % T:=if_pos h5
          rw [hsy] at hnx
          repeat refine zG fA ?_
          iterate 5 refine zX fA ?_
          first|refine oX (frz:=fA) (v:=.d (.int .i64 (T:Nat))) Yo ?_ (he:=(by rw [hT,List.length_map]))|refine eX (v:=.d (.int .i64 (T:Nat))) ?_ (he:=(by rw [hT,List.length_map]))
          refine eX (v:=.d (.int .i64 ((zF v s % T:Nat):Int))) ?_ (hf:=by simp<;>omega) (he:=rfl)
          iterate 1 refine zX fA ?_
          first|refine oX (frz:=fA) Yo ?_ (hv:=app0) (hf:=rfl) (he:=rfl)|refine eX ?_ (hv:=app0) (hf:=rfl) (he:=rfl)
          iterate 2 refine zX fA ?_
          repeat refine zG fA ?_
          refine zX fA ?_
          refine oX (frz:=fA) (v:=.d (.int .i64 ((s+1:Nat):Int))) Yo ?_ (he:=vN (by omega) (by omega))
          refine zX fA ?_
          repeat refine zS ?_
          exact⟨(s+1,_),⟨hsl,hnx⟩,by simp only<;>omega,(tidy_of (objs:=_) _ 5 (by rfl) rfl (by repeat' (first|exact trivial|refine⟨(Or.inl rfl),?_⟩|refine⟨(Or.inr rfl),?_⟩|fail)) (by repeat' (first|exact trivial|refine⟨rfl,?_⟩|fail)) rfl rfl)⟩
         ·refine oX (frz:=fA) (v:=.d (.bool false)) Yo ?_ (he:=vF (by omega))
          have hsy:symN T M (zF v s)=16+zF v s % M:=if_neg h5
          rw [hsy] at hnx
          repeat refine zG fA ?_
          iterate 4 refine zX fA ?_
          refine eX (v:=.d (.int .i64 ((zF v s % M:Nat):Int))) ?_ (hf:=by simp<;>omega) (he:=rfl)
          first|refine oX (frz:=fA) (v:=.d (.int .i64 ((16+zF v s % M:Nat):Int))) Yo ?_ (he:=(vN (by omega) (by have:=Nat.mod_lt (zF v s) (show 0<M by omega)<;>omega)))|refine eX (v:=.d (.int .i64 ((16+zF v s % M:Nat):Int))) ?_ (he:=(vN (by omega) (by have:=Nat.mod_lt (zF v s) (show 0<M by omega)<;>omega)))
          iterate 1 refine zX fA ?_
          first|refine oX (frz:=fA) Yo ?_ (hv:=app0) (hf:=rfl) (he:=rfl)|refine eX ?_ (hv:=app0) (hf:=rfl) (he:=rfl)
          iterate 2 refine zX fA ?_
          repeat refine zG fA ?_
          refine zX fA ?_
          refine oX (frz:=fA) (v:=.d (.int .i64 ((s+1:Nat):Int))) Yo ?_ (he:=vN (by omega) (by omega))
          refine zX fA ?_
          repeat refine zS ?_
          exact⟨(s+1,_),⟨hsl,hnx⟩,by simp only<;>omega,(tidy_of (objs:=_) _ 5 (by rfl) rfl (by repeat' (first|exact trivial|refine⟨(Or.inl rfl),?_⟩|refine⟨(Or.inr rfl),?_⟩|fail)) (by repeat' (first|exact trivial|refine⟨rfl,?_⟩|fail)) rfl rfl)⟩
        ·have hrl':=hrl
         simp only [List.length_cons,List.length_nil] at hrl'
         repeat refine zS ?_
         iterate 2 refine zX fA ?_
         refine oX (frz:=fA) (v:=.d (.int .i64 ((v % 4:Nat):Int))) Yo ?_ (he:=rfl)
         refine oX (frz:=fA) (v:=.d (.bool true)) Yo ?_ (he:=vT (by omega))
         repeat refine zS ?_
         refine zX fA ?_
         refine oX (frz:=fA) (v:=.d (.int .i64 ((v / 4:Nat):Int))) Yo ?_ (he:=vN rfl (by omega))
         refine zX fA ?_
         refine oX (frz:=fA) (v:=.d (.int .i64 ((4*s:Nat):Int))) Yo ?_ (he:=vN (by omega) (by omega))
         refine oX (frz:=fA) (v:=.d (.int .u64 ((4*s:Nat):Int))) Yo ?_ (he:=vU64 (by omega))
         refine oX (frz:=fA) (v:=.d (.int .i64 ((v / 4 / 2 ^ (4*s):Nat):Int))) Yo ?_ (hf:=shrF (4*s)) (he:=congrArg (fun n=>AV.d (.int .i64 n)) (shrN (by omega)))
         refine oX (frz:=fA) (v:=.d (.int .i64 ((zF v s:Nat):Int))) Yo ?_ (he:=rfl)
         refine zX fA ?_
         repeat refine zS ?_
         refine zX fA ?_
         refine oX (frz:=fA) (v:=.d (.int .i64 ((zF v s % 5:Nat):Int))) Yo ?_ (he:=rfl)
         by_cases h5:zF v s % 5<3
         ·refine oX (frz:=fA) (v:=.d (.bool true)) Yo ?_ (he:=vT (by omega))
          have hsy:symN T M (zF v s)=zF v s % T:=if_pos h5
          rw [hsy] at hnx
          repeat refine zG fA ?_
          iterate 5 refine zX fA ?_
          first|refine oX (frz:=fA) (v:=.d (.int .i64 (T:Nat))) Yo ?_ (he:=(by rw [hT,List.length_map]))|refine eX (v:=.d (.int .i64 (T:Nat))) ?_ (he:=(by rw [hT,List.length_map]))
          refine eX (v:=.d (.int .i64 ((zF v s % T:Nat):Int))) ?_ (hf:=by simp<;>omega) (he:=rfl)
          iterate 1 refine zX fA ?_
          first|refine oX (frz:=fA) Yo ?_ (hv:=app1) (hf:=rfl) (he:=rfl)|refine eX ?_ (hv:=app1) (hf:=rfl) (he:=rfl)
          iterate 2 refine zX fA ?_
          repeat refine zG fA ?_
          refine zX fA ?_
          refine oX (frz:=fA) (v:=.d (.int .i64 ((s+1:Nat):Int))) Yo ?_ (he:=vN (by omega) (by omega))
          refine zX fA ?_
          repeat refine zS ?_
          exact⟨(s+1,_),⟨hsl,hnx⟩,by simp only<;>omega,(tidy_of (objs:=_) _ 5 (by first|rfl|(simp only [rowO,rgtD,List.map_append,List.map_cons,List.map_nil,List.cons_append,List.length_append,List.length_cons,List.length_nil]<;>rfl)) rfl (by repeat' (first|exact trivial|refine⟨(Or.inl rfl),?_⟩|refine⟨(Or.inr rfl),?_⟩|fail)) (by repeat' (first|exact trivial|refine⟨rfl,?_⟩|fail)) rfl rfl)⟩
         ·refine oX (frz:=fA) (v:=.d (.bool false)) Yo ?_ (he:=vF (by omega))
          have hsy:symN T M (zF v s)=16+zF v s % M:=if_neg h5
          rw [hsy] at hnx
          repeat refine zG fA ?_
          iterate 4 refine zX fA ?_
          refine eX (v:=.d (.int .i64 ((zF v s % M:Nat):Int))) ?_ (hf:=by simp<;>omega) (he:=rfl)
          first|refine oX (frz:=fA) (v:=.d (.int .i64 ((16+zF v s % M:Nat):Int))) Yo ?_ (he:=(vN (by omega) (by have:=Nat.mod_lt (zF v s) (show 0<M by omega)<;>omega)))|refine eX (v:=.d (.int .i64 ((16+zF v s % M:Nat):Int))) ?_ (he:=(vN (by omega) (by have:=Nat.mod_lt (zF v s) (show 0<M by omega)<;>omega)))
          iterate 1 refine zX fA ?_
          first|refine oX (frz:=fA) Yo ?_ (hv:=app1) (hf:=rfl) (he:=rfl)|refine eX ?_ (hv:=app1) (hf:=rfl) (he:=rfl)
          iterate 2 refine zX fA ?_
          repeat refine zG fA ?_
          refine zX fA ?_
          refine oX (frz:=fA) (v:=.d (.int .i64 ((s+1:Nat):Int))) Yo ?_ (he:=vN (by omega) (by omega))
          refine zX fA ?_
          repeat refine zS ?_
          exact⟨(s+1,_),⟨hsl,hnx⟩,by simp only<;>omega,(tidy_of (objs:=_) _ 5 (by first|rfl|(simp only [rowO,rgtD,List.map_append,List.map_cons,List.map_nil,List.cons_append,List.length_append,List.length_cons,List.length_nil]<;>rfl)) rfl (by repeat' (first|exact trivial|refine⟨(Or.inl rfl),?_⟩|refine⟨(Or.inr rfl),?_⟩|fail)) (by repeat' (first|exact trivial|refine⟨rfl,?_⟩|fail)) rfl rfl)⟩
       ·have hse:s=v % 4:=by omega
        rw [hse] at hs2
        rw [← hs2] at hnext
        rcases r with _|⟨r1,rr⟩
        ·repeat refine zS ?_
         iterate 2 refine zX fA ?_
         refine oX (frz:=fA) (v:=.d (.int .i64 ((v % 4:Nat):Int))) Yo ?_ (he:=rfl)
         refine oX (frz:=fA) (v:=.d (.bool false)) Yo ?_ (he:=vF (by omega))
         repeat refine zS ?_
         iterate 3 refine zX fA ?_
         first|refine Run.tidy (tidy_of (objs:=_) [(0,.d (ints nums)),(2,.bp 0 0),(4,.bp 1 0),(5,.d (.int .i64 (M:Nat))),(6,.d (.int .i64 i)),(7,.d (.int .i64 x)),(8,.d (.int .i64 j)),(109,.d .nilsl),(110,.d (encN (⟨((16+i:Nat):Int),[]⟩:GProd)))] 4 (Eq.trans (b:=boxG0 :: boxA ((1+k % 2:Nat):Int) (kTok k) (.sr 2 1 (m0 :: (ml++[DV.str [83+i]]))) (.d .nilsl) :: .room (ml.length+1+1) 1 :: [.box [.d (.int .i64 ((16+i:Nat):Int)),.d .nilsl]]) rfl rfl) rfl (by repeat' (first|exact trivial|refine⟨(Or.inl rfl),?_⟩|refine⟨(Or.inr rfl),?_⟩|refine⟨rfl,?_⟩|fail)) (by repeat' (first|exact trivial|refine⟨(Or.inl rfl),?_⟩|refine⟨(Or.inr rfl),?_⟩|refine⟨rfl,?_⟩|fail)) rfl rfl) ?_|refine RunOps.tidy (tidy_of (objs:=_) [(0,.d (ints nums)),(2,.bp 0 0),(4,.bp 1 0),(5,.d (.int .i64 (M:Nat))),(6,.d (.int .i64 i)),(7,.d (.int .i64 x)),(8,.d (.int .i64 j)),(109,.d .nilsl),(110,.d (encN (⟨((16+i:Nat):Int),[]⟩:GProd)))] 4 (Eq.trans (b:=boxG0 :: boxA ((1+k % 2:Nat):Int) (kTok k) (.sr 2 1 (m0 :: (ml++[DV.str [83+i]]))) (.d .nilsl) :: .room (ml.length+1+1) 1 :: [.box [.d (.int .i64 ((16+i:Nat):Int)),.d .nilsl]]) rfl rfl) rfl (by repeat' (first|exact trivial|refine⟨(Or.inl rfl),?_⟩|refine⟨(Or.inr rfl),?_⟩|refine⟨rfl,?_⟩|fail)) (by repeat' (first|exact trivial|refine⟨(Or.inl rfl),?_⟩|refine⟨(Or.inr rfl),?_⟩|refine⟨rfl,?_⟩|fail)) rfl rfl) ?_
         refine zX fA ?_
         first|refine oX (frz:=fA) Yo ?_ (hv:=app0) (hf:=rfl) (he:=rfl)|refine eX ?_ (hv:=app0) (hf:=rfl) (he:=rfl)
         iterate 2 refine zX fA ?_
         repeat refine zS ?_
         refine zX fA ?_
         refine oX (frz:=fA) (v:=.d (.int .i64 ((j+1:Nat):Int))) Yo ?_ (he:=vN (by omega) (by omega))
         refine zX fA ?_
         repeat refine zS ?_
         exact⟨(j+1,[(⟨((16+i:Nat):Int),[]⟩:GProd)]),⟨by simp only<;>omega,hnext,by simp at hjb ⊢<;>omega⟩,by simp only<;>omega,(tidy_of (objs:=_) _ 5 (Eq.trans (b:=boxG0 :: boxA ((1+k % 2:Nat):Int) (kTok k) (.sr 2 1 (m0 :: (ml++[DV.str [83+i]]))) (.sr 4 2 [encN (⟨((16+i:Nat):Int),[]⟩:GProd)]) :: .room (ml.length+1+1) 1 :: [.box [.d (.int .i64 ((16+i:Nat):Int)),.d .nilsl],.room 1 2]) rfl (by first|rfl|(simp [psA,psO,psI,rowA,rowO,rgtD]<;>fail))) rfl (by repeat' (first|exact trivial|refine⟨(Or.inl rfl),?_⟩|refine⟨(Or.inr rfl),?_⟩|fail)) (by repeat' (first|exact trivial|refine⟨rfl,?_⟩|fail)) rfl rfl)⟩
        ·repeat refine zS ?_
         iterate 2 refine zX fA ?_
         refine oX (frz:=fA) (v:=.d (.int .i64 ((v % 4:Nat):Int))) Yo ?_ (he:=rfl)
         refine oX (frz:=fA) (v:=.d (.bool false)) Yo ?_ (he:=vF (by omega))
         repeat refine zS ?_
         iterate 3 refine zX fA ?_
         first|refine Run.tidy (tidy_of (objs:=_) [(0,.d (ints nums)),(2,.bp 0 0),(4,.bp 1 0),(5,.d (.int .i64 (M:Nat))),(6,.d (.int .i64 i)),(7,.d (.int .i64 x)),(8,.d (.int .i64 j)),(109,.d .nilsl),(110,.d (encN (⟨((16+i:Nat):Int),r1 :: rr⟩:GProd)))] 5 (Eq.trans (b:=boxG0 :: boxA ((1+k % 2:Nat):Int) (kTok k) (.sr 2 1 (m0 :: (ml++[DV.str [83+i]]))) (.d .nilsl) :: .room (ml.length+1+1) 1 :: .box [.d (.int .i64 ((16+i:Nat):Int)),.sr 4 1 (rgtD (r1 :: rr))] :: [.room ((rgtD rr).length+1) 1]) rfl rfl) rfl (by repeat' (first|exact trivial|refine⟨(Or.inl rfl),?_⟩|refine⟨(Or.inr rfl),?_⟩|refine⟨rfl,?_⟩|fail)) (by repeat' (first|exact trivial|refine⟨(Or.inl rfl),?_⟩|refine⟨(Or.inr rfl),?_⟩|refine⟨rfl,?_⟩|fail)) rfl rfl) ?_|refine RunOps.tidy (tidy_of (objs:=_) [(0,.d (ints nums)),(2,.bp 0 0),(4,.bp 1 0),(5,.d (.int .i64 (M:Nat))),(6,.d (.int .i64 i)),(7,.d (.int .i64 x)),(8,.d (.int .i64 j)),(109,.d .nilsl),(110,.d (encN (⟨((16+i:Nat):Int),r1 :: rr⟩:GProd)))] 5 (Eq.trans (b:=boxG0 :: boxA ((1+k % 2:Nat):Int) (kTok k) (.sr 2 1 (m0 :: (ml++[DV.str [83+i]]))) (.d .nilsl) :: .room (ml.length+1+1) 1 :: .box [.d (.int .i64 ((16+i:Nat):Int)),.sr 4 1 (rgtD (r1 :: rr))] :: [.room ((rgtD rr).length+1) 1]) rfl rfl) rfl (by repeat' (first|exact trivial|refine⟨(Or.inl rfl),?_⟩|refine⟨(Or.inr rfl),?_⟩|refine⟨rfl,?_⟩|fail)) (by repeat' (first|exact trivial|refine⟨(Or.inl rfl),?_⟩|refine⟨(Or.inr rfl),?_⟩|refine⟨rfl,?_⟩|fail)) rfl rfl) ?_
         refine zX fA ?_
         first|refine oX (frz:=fA) Yo ?_ (hv:=app0) (hf:=rfl) (he:=rfl)|refine eX ?_ (hv:=app0) (hf:=rfl) (he:=rfl)
         iterate 2 refine zX fA ?_
         repeat refine zS ?_
         refine zX fA ?_
         refine oX (frz:=fA) (v:=.d (.int .i64 ((j+1:Nat):Int))) Yo ?_ (he:=vN (by omega) (by omega))
         refine zX fA ?_
         repeat refine zS ?_
         exact⟨(j+1,[(⟨((16+i:Nat):Int),r1 :: rr⟩:GProd)]),⟨by simp only<;>omega,hnext,by simp at hjb ⊢<;>omega⟩,by simp only<;>omega,(tidy_of (objs:=_) _ 6 (Eq.trans (b:=boxG0 :: boxA ((1+k % 2:Nat):Int) (kTok k) (.sr 2 1 (m0 :: (ml++[DV.str [83+i]]))) (.sr 5 2 [encN (⟨((16+i:Nat):Int),r1 :: rr⟩:GProd)]) :: .room (ml.length+1+1) 1 :: .box [.d (.int .i64 ((16+i:Nat):Int)),.sr 4 1 (rgtD (r1 :: rr))] :: [.room ((rgtD rr).length+1) 1,.room 1 2]) rfl (by first|rfl|(simp [psA,psO,psI,rowA,rowO,rgtD]<;>fail))) rfl (by repeat' (first|exact trivial|refine⟨(Or.inl rfl),?_⟩|refine⟨(Or.inr rfl),?_⟩|fail)) (by repeat' (first|exact trivial|refine⟨rfl,?_⟩|fail)) rfl rfl)⟩
      ·rcases pr with _|⟨r0,rl⟩
       ·have hjc:ps.length+1<7:=by simpa using hjb
        repeat refine zS ?_
        iterate 2 refine zX fA ?_
        refine oX (frz:=fA) (v:=.d (.int .i64 ((x % 3:Nat):Int))) Yo ?_ (he:=rfl)
        refine oX (frz:=fA) (v:=.d (.bool true)) Yo ?_ (he:=vT (by omega))
        iterate 4 refine zX fA ?_
        refine oX (frz:=fA) (v:=.d (.bool true)) Yo ?_ (he:=vT (by simp at hjb ⊢<;>omega))
        refine zX fA ?_
        repeat refine zS ?_
        refine zX fA ?_
        refine oX (frz:=fA) (v:=.d (.int .i64 ((16+i:Nat):Int))) Yo ?_ (he:=vN (by omega) (by omega))
        iterate 3 refine zX fA ?_
        repeat refine zS ?_
        iterate 2 refine zX fA ?_
        refine oX (frz:=fA) (v:=.d (.int .i64 ((3*i:Nat):Int))) Yo ?_ (he:=vN (by omega) (by omega))
        refine oX (frz:=fA) (v:=.d (.int .i64 ((4+3*i:Nat):Int))) Yo ?_ (he:=vN (by omega) (by omega))
        refine zX fA ?_
        refine oX (frz:=fA) (v:=.d (.int .i64 ((4+3*i+j:Nat):Int))) Yo ?_ (he:=vN (by omega) (by omega))
        refine oC hat ?_
        refine oC hy ?_
        refine zX fA ?_
        repeat refine zS ?_
        refine zX fA ?_
        repeat refine zS ?_
        refine Run.loopT (fun z:Nat × List Int=>⟨PT.ofList [(0,.d (ints nums)),(2,.bp 0 0),(4,.bp 1 0),(5,.d (.int .i64 (M:Nat))),(6,.d (.int .i64 i)),(7,.d (.int .i64 x)),(8,.d (.int .i64 j)),(9,.bp 5 0),(10,.d (.int .i64 v)),(11,.d (.int .i64 z.1))],boxG0 :: boxA ((1+k % 2:Nat):Int) (kTok k) (.sr 2 1 (m0 :: (ml++[DV.str [83+i]]))) (.sr 4 2 (encN ⟨pl,[]⟩ :: ps.map encN)) :: .room (ml.length+1+1) 1 :: .box [.d (.int .i64 pl),.d .nilsl] :: .room (ps.length+1) 2 :: .box [.d (.int .i64 ((16+i:Nat):Int)),rowA 6 1 (rgtD z.2)] :: rowO 1 (rgtD z.2),[]⟩)
         (fun z=>z.1≤v % 4∧z.2=rgtTo T M v z.1) (fun z=>v % 4-z.1) (0,[]) ⟨Nat.zero_le _,rfl⟩ (tidy_of (objs:=_) _ 6 (by rfl) rfl (by repeat' (first|exact trivial|refine⟨(Or.inl rfl),?_⟩|refine⟨(Or.inr rfl),?_⟩|fail)) (by repeat' (first|exact trivial|refine⟨rfl,?_⟩|fail)) rfl rfl) (fun z hz=>?_)
        obtain⟨s,r⟩:=z
        obtain⟨hs1,hs2⟩:=hz
        simp only at hs1 hs2 ⊢
        have hrl:r.length=s:=by rw [hs2];simp [rgtTo]
        rcases Nat.lt_or_ge s (v % 4) with hsl|hsg
        ·have hnx:r++[((symN T M (zF v s):Nat):Int)]=rgtTo T M v (s+1):=by rw [hs2];simp [rgtTo,List.range_succ]
         rcases r with _|⟨r1,rr⟩
         ·have hrl':=hrl
          simp only [List.length_cons,List.length_nil] at hrl'
          repeat refine zS ?_
          iterate 2 refine zX fA ?_
          refine oX (frz:=fA) (v:=.d (.int .i64 ((v % 4:Nat):Int))) Yo ?_ (he:=rfl)
          refine oX (frz:=fA) (v:=.d (.bool true)) Yo ?_ (he:=vT (by omega))
          repeat refine zS ?_
          refine zX fA ?_
          refine oX (frz:=fA) (v:=.d (.int .i64 ((v / 4:Nat):Int))) Yo ?_ (he:=vN rfl (by omega))
          refine zX fA ?_
          refine oX (frz:=fA) (v:=.d (.int .i64 ((4*s:Nat):Int))) Yo ?_ (he:=vN (by omega) (by omega))
          refine oX (frz:=fA) (v:=.d (.int .u64 ((4*s:Nat):Int))) Yo ?_ (he:=vU64 (by omega))
          refine oX (frz:=fA) (v:=.d (.int .i64 ((v / 4 / 2 ^ (4*s):Nat):Int))) Yo ?_ (hf:=shrF (4*s)) (he:=congrArg (fun n=>AV.d (.int .i64 n)) (shrN (by omega)))
          refine oX (frz:=fA) (v:=.d (.int .i64 ((zF v s:Nat):Int))) Yo ?_ (he:=rfl)
          refine zX fA ?_
          repeat refine zS ?_
          refine zX fA ?_
          refine oX (frz:=fA) (v:=.d (.int .i64 ((zF v s % 5:Nat):Int))) Yo ?_ (he:=rfl)
          by_cases h5:zF v s % 5<3
          ·refine oX (frz:=fA) (v:=.d (.bool true)) Yo ?_ (he:=vT (by omega))
           have hsy:symN T M (zF v s)=zF v s % T:=if_pos h5
           rw [hsy] at hnx
           repeat refine zG fA ?_
           iterate 5 refine zX fA ?_
           first|refine oX (frz:=fA) (v:=.d (.int .i64 (T:Nat))) Yo ?_ (he:=(by rw [hT,List.length_map]))|refine eX (v:=.d (.int .i64 (T:Nat))) ?_ (he:=(by rw [hT,List.length_map]))
           refine eX (v:=.d (.int .i64 ((zF v s % T:Nat):Int))) ?_ (hf:=by simp<;>omega) (he:=rfl)
           iterate 1 refine zX fA ?_
           first|refine oX (frz:=fA) Yo ?_ (hv:=app0) (hf:=rfl) (he:=rfl)|refine eX ?_ (hv:=app0) (hf:=rfl) (he:=rfl)
           iterate 2 refine zX fA ?_
           repeat refine zG fA ?_
           refine zX fA ?_
           refine oX (frz:=fA) (v:=.d (.int .i64 ((s+1:Nat):Int))) Yo ?_ (he:=vN (by omega) (by omega))
           refine zX fA ?_
           repeat refine zS ?_
           exact⟨(s+1,_),⟨hsl,hnx⟩,by simp only<;>omega,(tidy_of (objs:=_) _ 7 (by rfl) rfl (by repeat' (first|exact trivial|refine⟨(Or.inl rfl),?_⟩|refine⟨(Or.inr rfl),?_⟩|fail)) (by repeat' (first|exact trivial|refine⟨rfl,?_⟩|fail)) rfl rfl)⟩
          ·refine oX (frz:=fA) (v:=.d (.bool false)) Yo ?_ (he:=vF (by omega))
           have hsy:symN T M (zF v s)=16+zF v s % M:=if_neg h5
           rw [hsy] at hnx
           repeat refine zG fA ?_
           iterate 4 refine zX fA ?_
           refine eX (v:=.d (.int .i64 ((zF v s % M:Nat):Int))) ?_ (hf:=by simp<;>omega) (he:=rfl)
           first|refine oX (frz:=fA) (v:=.d (.int .i64 ((16+zF v s % M:Nat):Int))) Yo ?_ (he:=(vN (by omega) (by have:=Nat.mod_lt (zF v s) (show 0<M by omega)<;>omega)))|refine eX (v:=.d (.int .i64 ((16+zF v s % M:Nat):Int))) ?_ (he:=(vN (by omega) (by have:=Nat.mod_lt (zF v s) (show 0<M by omega)<;>omega)))
           iterate 1 refine zX fA ?_
           first|refine oX (frz:=fA) Yo ?_ (hv:=app0) (hf:=rfl) (he:=rfl)|refine eX ?_ (hv:=app0) (hf:=rfl) (he:=rfl)
           iterate 2 refine zX fA ?_
           repeat refine zG fA ?_
           refine zX fA ?_
           refine oX (frz:=fA) (v:=.d (.int .i64 ((s+1:Nat):Int))) Yo ?_ (he:=vN (by omega) (by omega))
           refine zX fA ?_
           repeat refine zS ?_
           exact⟨(s+1,_),⟨hsl,hnx⟩,by simp only<;>omega,(tidy_of (objs:=_) _ 7 (by rfl) rfl (by repeat' (first|exact trivial|refine⟨(Or.inl rfl),?_⟩|refine⟨(Or.inr rfl),?_⟩|fail)) (by repeat' (first|exact trivial|refine⟨rfl,?_⟩|fail)) rfl rfl)⟩
         ·have hrl':=hrl
          simp only [List.length_cons,List.length_nil] at hrl'
          repeat refine zS ?_
          iterate 2 refine zX fA ?_
          refine oX (frz:=fA) (v:=.d (.int .i64 ((v % 4:Nat):Int))) Yo ?_ (he:=rfl)
          refine oX (frz:=fA) (v:=.d (.bool true)) Yo ?_ (he:=vT (by omega))
          repeat refine zS ?_
          refine zX fA ?_
          refine oX (frz:=fA) (v:=.d (.int .i64 ((v / 4:Nat):Int))) Yo ?_ (he:=vN rfl (by omega))
          refine zX fA ?_
          refine oX (frz:=fA) (v:=.d (.int .i64 ((4*s:Nat):Int))) Yo ?_ (he:=vN (by omega) (by omega))
          refine oX (frz:=fA) (v:=.d (.int .u64 ((4*s:Nat):Int))) Yo ?_ (he:=vU64 (by omega))
          refine oX (frz:=fA) (v:=.d (.int .i64 ((v / 4 / 2 ^ (4*s):Nat):Int))) Yo ?_ (hf:=shrF (4*s)) (he:=congrArg (fun n=>AV.d (.int .i64 n)) (shrN (by omega)))
          refine oX (frz:=fA) (v:=.d (.int .i64 ((zF v s:Nat):Int))) Yo ?_ (he:=rfl)
          refine zX fA ?_
          repeat refine zS ?_
          refine zX fA ?_
          refine oX (frz:=fA) (v:=.d (.int .i64 ((zF v s % 5:Nat):Int))) Yo ?_ (he:=rfl)
          by_cases h5:zF v s % 5<3
          ·refine oX (frz:=fA) (v:=.d (.bool true)) Yo ?_ (he:=vT (by omega))
           have hsy:symN T M (zF v s)=zF v s % T:=if_pos h5
           rw [hsy] at hnx
           repeat refine zG fA ?_
           iterate 5 refine zX fA ?_
           first|refine oX (frz:=fA) (v:=.d (.int .i64 (T:Nat))) Yo ?_ (he:=(by rw [hT,List.length_map]))|refine eX (v:=.d (.int .i64 (T:Nat))) ?_ (he:=(by rw [hT,List.length_map]))
           refine eX (v:=.d (.int .i64 ((zF v s % T:Nat):Int))) ?_ (hf:=by simp<;>omega) (he:=rfl)
           iterate 1 refine zX fA ?_
           first|refine oX (frz:=fA) Yo ?_ (hv:=app1) (hf:=rfl) (he:=rfl)|refine eX ?_ (hv:=app1) (hf:=rfl) (he:=rfl)
           iterate 2 refine zX fA ?_
           repeat refine zG fA ?_
           refine zX fA ?_
           refine oX (frz:=fA) (v:=.d (.int .i64 ((s+1:Nat):Int))) Yo ?_ (he:=vN (by omega) (by omega))
           refine zX fA ?_
           repeat refine zS ?_
           exact⟨(s+1,_),⟨hsl,hnx⟩,by simp only<;>omega,(tidy_of (objs:=_) _ 7 (by first|rfl|(simp only [rowO,rgtD,List.map_append,List.map_cons,List.map_nil,List.cons_append,List.length_append,List.length_cons,List.length_nil]<;>rfl)) rfl (by repeat' (first|exact trivial|refine⟨(Or.inl rfl),?_⟩|refine⟨(Or.inr rfl),?_⟩|fail)) (by repeat' (first|exact trivial|refine⟨rfl,?_⟩|fail)) rfl rfl)⟩
          ·refine oX (frz:=fA) (v:=.d (.bool false)) Yo ?_ (he:=vF (by omega))
           have hsy:symN T M (zF v s)=16+zF v s % M:=if_neg h5
           rw [hsy] at hnx
           repeat refine zG fA ?_
           iterate 4 refine zX fA ?_
           refine eX (v:=.d (.int .i64 ((zF v s % M:Nat):Int))) ?_ (hf:=by simp<;>omega) (he:=rfl)
           first|refine oX (frz:=fA) (v:=.d (.int .i64 ((16+zF v s % M:Nat):Int))) Yo ?_ (he:=(vN (by omega) (by have:=Nat.mod_lt (zF v s) (show 0<M by omega)<;>omega)))|refine eX (v:=.d (.int .i64 ((16+zF v s % M:Nat):Int))) ?_ (he:=(vN (by omega) (by have:=Nat.mod_lt (zF v s) (show 0<M by omega)<;>omega)))
           iterate 1 refine zX fA ?_
           first|refine oX (frz:=fA) Yo ?_ (hv:=app1) (hf:=rfl) (he:=rfl)|refine eX ?_ (hv:=app1) (hf:=rfl) (he:=rfl)
           iterate 2 refine zX fA ?_
           repeat refine zG fA ?_
           refine zX fA ?_
           refine oX (frz:=fA) (v:=.d (.int .i64 ((s+1:Nat):Int))) Yo ?_ (he:=vN (by omega) (by omega))
           refine zX fA ?_
           repeat refine zS ?_
           exact⟨(s+1,_),⟨hsl,hnx⟩,by simp only<;>omega,(tidy_of (objs:=_) _ 7 (by first|rfl|(simp only [rowO,rgtD,List.map_append,List.map_cons,List.map_nil,List.cons_append,List.length_append,List.length_cons,List.length_nil]<;>rfl)) rfl (by repeat' (first|exact trivial|refine⟨(Or.inl rfl),?_⟩|refine⟨(Or.inr rfl),?_⟩|fail)) (by repeat' (first|exact trivial|refine⟨rfl,?_⟩|fail)) rfl rfl)⟩
        ·have hse:s=v % 4:=by omega
         rw [hse] at hs2
         rw [← hs2] at hnext
         rcases r with _|⟨r1,rr⟩
         ·repeat refine zS ?_
          iterate 2 refine zX fA ?_
          refine oX (frz:=fA) (v:=.d (.int .i64 ((v % 4:Nat):Int))) Yo ?_ (he:=rfl)
          refine oX (frz:=fA) (v:=.d (.bool false)) Yo ?_ (he:=vF (by omega))
          repeat refine zS ?_
          iterate 3 refine zX fA ?_
          first|refine Run.tidy (tidy_of (objs:=_) [(0,.d (ints nums)),(2,.bp 0 0),(4,.bp 1 0),(5,.d (.int .i64 (M:Nat))),(6,.d (.int .i64 i)),(7,.d (.int .i64 x)),(8,.d (.int .i64 j)),(109,.sr 4 2 (encN ⟨pl,[]⟩ :: ps.map encN)),(110,.d (encN (⟨((16+i:Nat):Int),[]⟩:GProd)))] 6 (Eq.trans (b:=boxG0 :: boxA ((1+k % 2:Nat):Int) (kTok k) (.sr 2 1 (m0 :: (ml++[DV.str [83+i]]))) (.sr 4 2 (encN ⟨pl,[]⟩ :: ps.map encN)) :: .room (ml.length+1+1) 1 :: .box [.d (.int .i64 pl),.d .nilsl] :: .room (ps.length+1) 2 :: [.box [.d (.int .i64 ((16+i:Nat):Int)),.d .nilsl]]) rfl rfl) rfl (by repeat' (first|exact trivial|refine⟨(Or.inl rfl),?_⟩|refine⟨(Or.inr rfl),?_⟩|refine⟨rfl,?_⟩|fail)) (by repeat' (first|exact trivial|refine⟨(Or.inl rfl),?_⟩|refine⟨(Or.inr rfl),?_⟩|refine⟨rfl,?_⟩|fail)) rfl rfl) ?_|refine RunOps.tidy (tidy_of (objs:=_) [(0,.d (ints nums)),(2,.bp 0 0),(4,.bp 1 0),(5,.d (.int .i64 (M:Nat))),(6,.d (.int .i64 i)),(7,.d (.int .i64 x)),(8,.d (.int .i64 j)),(109,.sr 4 2 (encN ⟨pl,[]⟩ :: ps.map encN)),(110,.d (encN (⟨((16+i:Nat):Int),[]⟩:GProd)))] 6 (Eq.trans (b:=boxG0 :: boxA ((1+k % 2:Nat):Int) (kTok k) (.sr 2 1 (m0 :: (ml++[DV.str [83+i]]))) (.sr 4 2 (encN ⟨pl,[]⟩ :: ps.map encN)) :: .room (ml.length+1+1) 1 :: .box [.d (.int .i64 pl),.d .nilsl] :: .room (ps.length+1) 2 :: [.box [.d (.int .i64 ((16+i:Nat):Int)),.d .nilsl]]) rfl rfl) rfl (by repeat' (first|exact trivial|refine⟨(Or.inl rfl),?_⟩|refine⟨(Or.inr rfl),?_⟩|refine⟨rfl,?_⟩|fail)) (by repeat' (first|exact trivial|refine⟨(Or.inl rfl),?_⟩|refine⟨(Or.inr rfl),?_⟩|refine⟨rfl,?_⟩|fail)) rfl rfl) ?_
          refine zX fA ?_
          first|refine oX (frz:=fA) Yo ?_ (hv:=app1) (hf:=rfl) (he:=rfl)|refine eX ?_ (hv:=app1) (hf:=rfl) (he:=rfl)
          iterate 2 refine zX fA ?_
          repeat refine zS ?_
          refine zX fA ?_
          refine oX (frz:=fA) (v:=.d (.int .i64 ((j+1:Nat):Int))) Yo ?_ (he:=vN (by omega) (by omega))
          refine zX fA ?_
          repeat refine zS ?_
          exact⟨(j+1,⟨pl,[]⟩ :: (ps++[(⟨((16+i:Nat):Int),[]⟩:GProd)])),⟨by simp only<;>omega,hnext,by simp at hjb ⊢<;>omega⟩,by simp only<;>omega,(tidy_of (objs:=_) _ 5 (Eq.trans (b:=boxG0 :: boxA ((1+k % 2:Nat):Int) (kTok k) (.sr 2 1 (m0 :: (ml++[DV.str [83+i]]))) (.sr 4 2 (encN ⟨pl,[]⟩ :: (ps.map encN++[encN (⟨((16+i:Nat):Int),[]⟩:GProd)]))) :: .room (ml.length+1+1) 1 :: .box [.d (.int .i64 pl),.d .nilsl] :: [.room (ps.length+1+1) 2]) rfl (by first|rfl|(simp [psA,psO,psI,rowA,rowO,rgtD]<;>fail))) rfl (by repeat' (first|exact trivial|refine⟨(Or.inl rfl),?_⟩|refine⟨(Or.inr rfl),?_⟩|fail)) (by repeat' (first|exact trivial|refine⟨rfl,?_⟩|fail)) rfl rfl)⟩
         ·repeat refine zS ?_
          iterate 2 refine zX fA ?_
          refine oX (frz:=fA) (v:=.d (.int .i64 ((v % 4:Nat):Int))) Yo ?_ (he:=rfl)
          refine oX (frz:=fA) (v:=.d (.bool false)) Yo ?_ (he:=vF (by omega))
          repeat refine zS ?_
          iterate 3 refine zX fA ?_
          first|refine Run.tidy (tidy_of (objs:=_) [(0,.d (ints nums)),(2,.bp 0 0),(4,.bp 1 0),(5,.d (.int .i64 (M:Nat))),(6,.d (.int .i64 i)),(7,.d (.int .i64 x)),(8,.d (.int .i64 j)),(109,.sr 4 2 (encN ⟨pl,[]⟩ :: ps.map encN)),(110,.d (encN (⟨((16+i:Nat):Int),r1 :: rr⟩:GProd)))] 7 (Eq.trans (b:=boxG0 :: boxA ((1+k % 2:Nat):Int) (kTok k) (.sr 2 1 (m0 :: (ml++[DV.str [83+i]]))) (.sr 4 2 (encN ⟨pl,[]⟩ :: ps.map encN)) :: .room (ml.length+1+1) 1 :: .box [.d (.int .i64 pl),.d .nilsl] :: .room (ps.length+1) 2 :: .box [.d (.int .i64 ((16+i:Nat):Int)),.sr 6 1 (rgtD (r1 :: rr))] :: [.room ((rgtD rr).length+1) 1]) rfl rfl) rfl (by repeat' (first|exact trivial|refine⟨(Or.inl rfl),?_⟩|refine⟨(Or.inr rfl),?_⟩|refine⟨rfl,?_⟩|fail)) (by repeat' (first|exact trivial|refine⟨(Or.inl rfl),?_⟩|refine⟨(Or.inr rfl),?_⟩|refine⟨rfl,?_⟩|fail)) rfl rfl) ?_|refine RunOps.tidy (tidy_of (objs:=_) [(0,.d (ints nums)),(2,.bp 0 0),(4,.bp 1 0),(5,.d (.int .i64 (M:Nat))),(6,.d (.int .i64 i)),(7,.d (.int .i64 x)),(8,.d (.int .i64 j)),(109,.sr 4 2 (encN ⟨pl,[]⟩ :: ps.map encN)),(110,.d (encN (⟨((16+i:Nat):Int),r1 :: rr⟩:GProd)))] 7 (Eq.trans (b:=boxG0 :: boxA ((1+k % 2:Nat):Int) (kTok k) (.sr 2 1 (m0 :: (ml++[DV.str [83+i]]))) (.sr 4 2 (encN ⟨pl,[]⟩ :: ps.map encN)) :: .room (ml.length+1+1) 1 :: .box [.d (.int .i64 pl),.d .nilsl] :: .room (ps.length+1) 2 :: .box [.d (.int .i64 ((16+i:Nat):Int)),.sr 6 1 (rgtD (r1 :: rr))] :: [.room ((rgtD rr).length+1) 1]) rfl rfl) rfl (by repeat' (first|exact trivial|refine⟨(Or.inl rfl),?_⟩|refine⟨(Or.inr rfl),?_⟩|refine⟨rfl,?_⟩|fail)) (by repeat' (first|exact trivial|refine⟨(Or.inl rfl),?_⟩|refine⟨(Or.inr rfl),?_⟩|refine⟨rfl,?_⟩|fail)) rfl rfl) ?_
          refine zX fA ?_
          first|refine oX (frz:=fA) Yo ?_ (hv:=app1) (hf:=rfl) (he:=rfl)|refine eX ?_ (hv:=app1) (hf:=rfl) (he:=rfl)
          iterate 2 refine zX fA ?_
          repeat refine zS ?_
          refine zX fA ?_
          refine oX (frz:=fA) (v:=.d (.int .i64 ((j+1:Nat):Int))) Yo ?_ (he:=vN (by omega) (by omega))
          refine zX fA ?_
          repeat refine zS ?_
          exact⟨(j+1,⟨pl,[]⟩ :: (ps++[(⟨((16+i:Nat):Int),r1 :: rr⟩:GProd)])),⟨by simp only<;>omega,hnext,by simp at hjb ⊢<;>omega⟩,by simp only<;>omega,(tidy_of (objs:=_) _ 5 (Eq.trans (b:=boxG0 :: boxA ((1+k % 2:Nat):Int) (kTok k) (.sr 2 1 (m0 :: (ml++[DV.str [83+i]]))) (.sr 4 2 (encN ⟨pl,[]⟩ :: (ps.map encN++[encN (⟨((16+i:Nat):Int),r1 :: rr⟩:GProd)]))) :: .room (ml.length+1+1) 1 :: .box [.d (.int .i64 pl),.d .nilsl] :: [.room (ps.length+1+1) 2]) rfl (by first|rfl|(simp [psA,psO,psI,rowA,rowO,rgtD]<;>fail))) rfl (by repeat' (first|exact trivial|refine⟨(Or.inl rfl),?_⟩|refine⟨(Or.inr rfl),?_⟩|fail)) (by repeat' (first|exact trivial|refine⟨rfl,?_⟩|fail)) rfl rfl)⟩
       ·have hjc:ps.length+1<7:=by simpa using hjb
        repeat refine zS ?_
        iterate 2 refine zX fA ?_
        refine oX (frz:=fA) (v:=.d (.int .i64 ((x % 3:Nat):Int))) Yo ?_ (he:=rfl)
        refine oX (frz:=fA) (v:=.d (.bool true)) Yo ?_ (he:=vT (by omega))
        iterate 4 refine zX fA ?_
        refine oX (frz:=fA) (v:=.d (.bool true)) Yo ?_ (he:=vT (by simp at hjb ⊢<;>omega))
        refine zX fA ?_
        repeat refine zS ?_
        refine zX fA ?_
        refine oX (frz:=fA) (v:=.d (.int .i64 ((16+i:Nat):Int))) Yo ?_ (he:=vN (by omega) (by omega))
        iterate 3 refine zX fA ?_
        repeat refine zS ?_
        iterate 2 refine zX fA ?_
        refine oX (frz:=fA) (v:=.d (.int .i64 ((3*i:Nat):Int))) Yo ?_ (he:=vN (by omega) (by omega))
        refine oX (frz:=fA) (v:=.d (.int .i64 ((4+3*i:Nat):Int))) Yo ?_ (he:=vN (by omega) (by omega))
        refine zX fA ?_
        refine oX (frz:=fA) (v:=.d (.int .i64 ((4+3*i+j:Nat):Int))) Yo ?_ (he:=vN (by omega) (by omega))
        refine oC hat ?_
        refine oC hy ?_
        refine zX fA ?_
        repeat refine zS ?_
        refine zX fA ?_
        repeat refine zS ?_
        refine Run.loopT (fun z:Nat × List Int=>⟨PT.ofList [(0,.d (ints nums)),(2,.bp 0 0),(4,.bp 1 0),(5,.d (.int .i64 (M:Nat))),(6,.d (.int .i64 i)),(7,.d (.int .i64 x)),(8,.d (.int .i64 j)),(9,.bp 6 0),(10,.d (.int .i64 v)),(11,.d (.int .i64 z.1))],boxG0 :: boxA ((1+k % 2:Nat):Int) (kTok k) (.sr 2 1 (m0 :: (ml++[DV.str [83+i]]))) (.sr 5 2 (encN ⟨pl,r0 :: rl⟩ :: ps.map encN)) :: .room (ml.length+1+1) 1 :: .box [.d (.int .i64 pl),.sr 4 1 (rgtD (r0 :: rl))] :: .room ((rgtD rl).length+1) 1 :: .room (ps.length+1) 2 :: .box [.d (.int .i64 ((16+i:Nat):Int)),rowA 7 1 (rgtD z.2)] :: rowO 1 (rgtD z.2),[]⟩)
         (fun z=>z.1≤v % 4∧z.2=rgtTo T M v z.1) (fun z=>v % 4-z.1) (0,[]) ⟨Nat.zero_le _,rfl⟩ (tidy_of (objs:=_) _ 7 (by rfl) rfl (by repeat' (first|exact trivial|refine⟨(Or.inl rfl),?_⟩|refine⟨(Or.inr rfl),?_⟩|fail)) (by repeat' (first|exact trivial|refine⟨rfl,?_⟩|fail)) rfl rfl) (fun z hz=>?_)
        obtain⟨s,r⟩:=z
        obtain⟨hs1,hs2⟩:=hz
        simp only at hs1 hs2 ⊢
        have hrl:r.length=s:=by rw [hs2];simp [rgtTo]
        rcases Nat.lt_or_ge s (v % 4) with hsl|hsg
        ·have hnx:r++[((symN T M (zF v s):Nat):Int)]=rgtTo T M v (s+1):=by rw [hs2];simp [rgtTo,List.range_succ]
         rcases r with _|⟨r1,rr⟩
         ·have hrl':=hrl
          simp only [List.length_cons,List.length_nil] at hrl'
          repeat refine zS ?_
          iterate 2 refine zX fA ?_
          refine oX (frz:=fA) (v:=.d (.int .i64 ((v % 4:Nat):Int))) Yo ?_ (he:=rfl)
          refine oX (frz:=fA) (v:=.d (.bool true)) Yo ?_ (he:=vT (by omega))
          repeat refine zS ?_
          refine zX fA ?_
          refine oX (frz:=fA) (v:=.d (.int .i64 ((v / 4:Nat):Int))) Yo ?_ (he:=vN rfl (by omega))
          refine zX fA ?_
          refine oX (frz:=fA) (v:=.d (.int .i64 ((4*s:Nat):Int))) Yo ?_ (he:=vN (by omega) (by omega))
          refine oX (frz:=fA) (v:=.d (.int .u64 ((4*s:Nat):Int))) Yo ?_ (he:=vU64 (by omega))
          refine oX (frz:=fA) (v:=.d (.int .i64 ((v / 4 / 2 ^ (4*s):Nat):Int))) Yo ?_ (hf:=shrF (4*s)) (he:=congrArg (fun n=>AV.d (.int .i64 n)) (shrN (by omega)))
          refine oX (frz:=fA) (v:=.d (.int .i64 ((zF v s:Nat):Int))) Yo ?_ (he:=rfl)
          refine zX fA ?_
          repeat refine zS ?_
          refine zX fA ?_
          refine oX (frz:=fA) (v:=.d (.int .i64 ((zF v s % 5:Nat):Int))) Yo ?_ (he:=rfl)
          by_cases h5:zF v s % 5<3
          ·refine oX (frz:=fA) (v:=.d (.bool true)) Yo ?_ (he:=vT (by omega))
           have hsy:symN T M (zF v s)=zF v s % T:=if_pos h5
           rw [hsy] at hnx
           repeat refine zG fA ?_
           iterate 5 refine zX fA ?_
           first|refine oX (frz:=fA) (v:=.d (.int .i64 (T:Nat))) Yo ?_ (he:=(by rw [hT,List.length_map]))|refine eX (v:=.d (.int .i64 (T:Nat))) ?_ (he:=(by rw [hT,List.length_map]))
           refine eX (v:=.d (.int .i64 ((zF v s % T:Nat):Int))) ?_ (hf:=by simp<;>omega) (he:=rfl)
           iterate 1 refine zX fA ?_
           first|refine oX (frz:=fA) Yo ?_ (hv:=app0) (hf:=rfl) (he:=rfl)|refine eX ?_ (hv:=app0) (hf:=rfl) (he:=rfl)
           iterate 2 refine zX fA ?_
           repeat refine zG fA ?_
           refine zX fA ?_
           refine oX (frz:=fA) (v:=.d (.int .i64 ((s+1:Nat):Int))) Yo ?_ (he:=vN (by omega) (by omega))
           refine zX fA ?_
           repeat refine zS ?_
           exact⟨(s+1,_),⟨hsl,hnx⟩,by simp only<;>omega,(tidy_of (objs:=_) _ 8 (by rfl) rfl (by repeat' (first|exact trivial|refine⟨(Or.inl rfl),?_⟩|refine⟨(Or.inr rfl),?_⟩|fail)) (by repeat' (first|exact trivial|refine⟨rfl,?_⟩|fail)) rfl rfl)⟩
          ·refine oX (frz:=fA) (v:=.d (.bool false)) Yo ?_ (he:=vF (by omega))
           have hsy:symN T M (zF v s)=16+zF v s % M:=if_neg h5
           rw [hsy] at hnx
           repeat refine zG fA ?_
           iterate 4 refine zX fA ?_
           refine eX (v:=.d (.int .i64 ((zF v s % M:Nat):Int))) ?_ (hf:=by simp<;>omega) (he:=rfl)
           first|refine oX (frz:=fA) (v:=.d (.int .i64 ((16+zF v s % M:Nat):Int))) Yo ?_ (he:=(vN (by omega) (by have:=Nat.mod_lt (zF v s) (show 0<M by omega)<;>omega)))|refine eX (v:=.d (.int .i64 ((16+zF v s % M:Nat):Int))) ?_ (he:=(vN (by omega) (by have:=Nat.mod_lt (zF v s) (show 0<M by omega)<;>omega)))
           iterate 1 refine zX fA ?_
           first|refine oX (frz:=fA) Yo ?_ (hv:=app0) (hf:=rfl) (he:=rfl)|refine eX ?_ (hv:=app0) (hf:=rfl) (he:=rfl)
           iterate 2 refine zX fA ?_
           repeat refine zG fA ?_
           refine zX fA ?_
           refine oX (frz:=fA) (v:=.d (.int .i64 ((s+1:Nat):Int))) Yo ?_ (he:=vN (by omega) (by omega))
           refine zX fA ?_
           repeat refine zS ?_
           exact⟨(s+1,_),⟨hsl,hnx⟩,by simp only<;>omega,(tidy_of (objs:=_) _ 8 (by rfl) rfl (by repeat' (first|exact trivial|refine⟨(Or.inl rfl),?_⟩|refine⟨(Or.inr rfl),?_⟩|fail)) (by repeat' (first|exact trivial|refine⟨rfl,?_⟩|fail)) rfl rfl)⟩
         ·have hrl':=hrl
          simp only [List.length_cons,List.length_nil] at hrl'
          repeat refine zS ?_
          iterate 2 refine zX fA ?_
          refine oX (frz:=fA) (v:=.d (.int .i64 ((v % 4:Nat):Int))) Yo ?_ (he:=rfl)
          refine oX (frz:=fA) (v:=.d (.bool true)) Yo ?_ (he:=vT (by omega))
          repeat refine zS ?_
          refine zX fA ?_
          refine oX (frz:=fA) (v:=.d (.int .i64 ((v / 4:Nat):Int))) Yo ?_ (he:=vN rfl (by omega))
          refine zX fA ?_
          refine oX (frz:=fA) (v:=.d (.int .i64 ((4*s:Nat):Int))) Yo ?_ (he:=vN (by omega) (by omega))
          refine oX (frz:=fA) (v:=.d (.int .u64 ((4*s:Nat):Int))) Yo ?_ (he:=vU64 (by omega))
          refine oX (frz:=fA) (v:=.d (.int .i64 ((v / 4 / 2 ^ (4*s):Nat):Int))) Yo ?_ (hf:=shrF (4*s)) (he:=congrArg (fun n=>AV.d (.int .i64 n)) (shrN (by omega)))
          refine oX (frz:=fA) (v:=.d (.int .i64 ((zF v s:Nat):Int))) Yo ?_ (he:=rfl)
          refine zX fA ?_
          repeat refine zS ?_
          refine zX fA ?_
          refine oX (frz:=fA) (v:=.d (.int .i64 ((zF v s % 5:Nat):Int))) Yo ?_ (he:=rfl)
          by_cases h5:zF v s % 5<3
          ·refine oX (frz:=fA) (v:=.d (.bool true)) Yo ?_ (he:=vT (by omega))
           have hsy:symN T M (zF v s)=zF v s % T:=if_pos h5
           rw [hsy] at hnx
           repeat refine zG fA ?_
           iterate 5 refine zX fA ?_
           first|refine oX (frz:=fA) (v:=.d (.int .i64 (T:Nat))) Yo ?_ (he:=(by rw [hT,List.length_map]))|refine eX (v:=.d (.int .i64 (T:Nat))) ?_ (he:=(by rw [hT,List.length_map]))
           refine eX (v:=.d (.int .i64 ((zF v s % T:Nat):Int))) ?_ (hf:=by simp<;>omega) (he:=rfl)
           iterate 1 refine zX fA ?_
           first|refine oX (frz:=fA) Yo ?_ (hv:=app1) (hf:=rfl) (he:=rfl)|refine eX ?_ (hv:=app1) (hf:=rfl) (he:=rfl)
           iterate 2 refine zX fA ?_
           repeat refine zG fA ?_
           refine zX fA ?_
           refine oX (frz:=fA) (v:=.d (.int .i64 ((s+1:Nat):Int))) Yo ?_ (he:=vN (by omega) (by omega))
           refine zX fA ?_
           repeat refine zS ?_
           exact⟨(s+1,_),⟨hsl,hnx⟩,by simp only<;>omega,(tidy_of (objs:=_) _ 8 (by first|rfl|(simp only [rowO,rgtD,List.map_append,List.map_cons,List.map_nil,List.cons_append,List.length_append,List.length_cons,List.length_nil]<;>rfl)) rfl (by repeat' (first|exact trivial|refine⟨(Or.inl rfl),?_⟩|refine⟨(Or.inr rfl),?_⟩|fail)) (by repeat' (first|exact trivial|refine⟨rfl,?_⟩|fail)) rfl rfl)⟩
          ·refine oX (frz:=fA) (v:=.d (.bool false)) Yo ?_ (he:=vF (by omega))
           have hsy:symN T M (zF v s)=16+zF v s % M:=if_neg h5
           rw [hsy] at hnx
           repeat refine zG fA ?_
           iterate 4 refine zX fA ?_
           refine eX (v:=.d (.int .i64 ((zF v s % M:Nat):Int))) ?_ (hf:=by simp<;>omega) (he:=rfl)
           first|refine oX (frz:=fA) (v:=.d (.int .i64 ((16+zF v s % M:Nat):Int))) Yo ?_ (he:=(vN (by omega) (by have:=Nat.mod_lt (zF v s) (show 0<M by omega)<;>omega)))|refine eX (v:=.d (.int .i64 ((16+zF v s % M:Nat):Int))) ?_ (he:=(vN (by omega) (by have:=Nat.mod_lt (zF v s) (show 0<M by omega)<;>omega)))
           iterate 1 refine zX fA ?_
           first|refine oX (frz:=fA) Yo ?_ (hv:=app1) (hf:=rfl) (he:=rfl)|refine eX ?_ (hv:=app1) (hf:=rfl) (he:=rfl)
           iterate 2 refine zX fA ?_
           repeat refine zG fA ?_
           refine zX fA ?_
           refine oX (frz:=fA) (v:=.d (.int .i64 ((s+1:Nat):Int))) Yo ?_ (he:=vN (by omega) (by omega))
           refine zX fA ?_
           repeat refine zS ?_
           exact⟨(s+1,_),⟨hsl,hnx⟩,by simp only<;>omega,(tidy_of (objs:=_) _ 8 (by first|rfl|(simp only [rowO,rgtD,List.map_append,List.map_cons,List.map_nil,List.cons_append,List.length_append,List.length_cons,List.length_nil]<;>rfl)) rfl (by repeat' (first|exact trivial|refine⟨(Or.inl rfl),?_⟩|refine⟨(Or.inr rfl),?_⟩|fail)) (by repeat' (first|exact trivial|refine⟨rfl,?_⟩|fail)) rfl rfl)⟩
        ·have hse:s=v % 4:=by omega
         rw [hse] at hs2
         rw [← hs2] at hnext
         rcases r with _|⟨r1,rr⟩
         ·repeat refine zS ?_
          iterate 2 refine zX fA ?_
          refine oX (frz:=fA) (v:=.d (.int .i64 ((v % 4:Nat):Int))) Yo ?_ (he:=rfl)
          refine oX (frz:=fA) (v:=.d (.bool false)) Yo ?_ (he:=vF (by omega))
          repeat refine zS ?_
          iterate 3 refine zX fA ?_
          first|refine Run.tidy (tidy_of (objs:=_) [(0,.d (ints nums)),(2,.bp 0 0),(4,.bp 1 0),(5,.d (.int .i64 (M:Nat))),(6,.d (.int .i64 i)),(7,.d (.int .i64 x)),(8,.d (.int .i64 j)),(109,.sr 5 2 (encN ⟨pl,r0 :: rl⟩ :: ps.map encN)),(110,.d (encN (⟨((16+i:Nat):Int),[]⟩:GProd)))] 7 (Eq.trans (b:=boxG0 :: boxA ((1+k % 2:Nat):Int) (kTok k) (.sr 2 1 (m0 :: (ml++[DV.str [83+i]]))) (.sr 5 2 (encN ⟨pl,r0 :: rl⟩ :: ps.map encN)) :: .room (ml.length+1+1) 1 :: .box [.d (.int .i64 pl),.sr 4 1 (rgtD (r0 :: rl))] :: .room ((rgtD rl).length+1) 1 :: .room (ps.length+1) 2 :: [.box [.d (.int .i64 ((16+i:Nat):Int)),.d .nilsl]]) rfl rfl) rfl (by repeat' (first|exact trivial|refine⟨(Or.inl rfl),?_⟩|refine⟨(Or.inr rfl),?_⟩|refine⟨rfl,?_⟩|fail)) (by repeat' (first|exact trivial|refine⟨(Or.inl rfl),?_⟩|refine⟨(Or.inr rfl),?_⟩|refine⟨rfl,?_⟩|fail)) rfl rfl) ?_|refine RunOps.tidy (tidy_of (objs:=_) [(0,.d (ints nums)),(2,.bp 0 0),(4,.bp 1 0),(5,.d (.int .i64 (M:Nat))),(6,.d (.int .i64 i)),(7,.d (.int .i64 x)),(8,.d (.int .i64 j)),(109,.sr 5 2 (encN ⟨pl,r0 :: rl⟩ :: ps.map encN)),(110,.d (encN (⟨((16+i:Nat):Int),[]⟩:GProd)))] 7 (Eq.trans (b:=boxG0 :: boxA ((1+k % 2:Nat):Int) (kTok k) (.sr 2 1 (m0 :: (ml++[DV.str [83+i]]))) (.sr 5 2 (encN ⟨pl,r0 :: rl⟩ :: ps.map encN)) :: .room (ml.length+1+1) 1 :: .box [.d (.int .i64 pl),.sr 4 1 (rgtD (r0 :: rl))] :: .room ((rgtD rl).length+1) 1 :: .room (ps.length+1) 2 :: [.box [.d (.int .i64 ((16+i:Nat):Int)),.d .nilsl]]) rfl rfl) rfl (by repeat' (first|exact trivial|refine⟨(Or.inl rfl),?_⟩|refine⟨(Or.inr rfl),?_⟩|refine⟨rfl,?_⟩|fail)) (by repeat' (first|exact trivial|refine⟨(Or.inl rfl),?_⟩|refine⟨(Or.inr rfl),?_⟩|refine⟨rfl,?_⟩|fail)) rfl rfl) ?_
          refine zX fA ?_
          first|refine oX (frz:=fA) Yo ?_ (hv:=app1) (hf:=rfl) (he:=rfl)|refine eX ?_ (hv:=app1) (hf:=rfl) (he:=rfl)
          iterate 2 refine zX fA ?_
          repeat refine zS ?_
          refine zX fA ?_
          refine oX (frz:=fA) (v:=.d (.int .i64 ((j+1:Nat):Int))) Yo ?_ (he:=vN (by omega) (by omega))
          refine zX fA ?_
          repeat refine zS ?_
          exact⟨(j+1,⟨pl,r0 :: rl⟩ :: (ps++[(⟨((16+i:Nat):Int),[]⟩:GProd)])),⟨by simp only<;>omega,hnext,by simp at hjb ⊢<;>omega⟩,by simp only<;>omega,(tidy_of (objs:=_) _ 6 (Eq.trans (b:=boxG0 :: boxA ((1+k % 2:Nat):Int) (kTok k) (.sr 2 1 (m0 :: (ml++[DV.str [83+i]]))) (.sr 5 2 (encN ⟨pl,r0 :: rl⟩ :: (ps.map encN++[encN (⟨((16+i:Nat):Int),[]⟩:GProd)]))) :: .room (ml.length+1+1) 1 :: .box [.d (.int .i64 pl),.sr 4 1 (rgtD (r0 :: rl))] :: .room ((rgtD rl).length+1) 1 :: [.room (ps.length+1+1) 2]) rfl (by first|rfl|(simp [psA,psO,psI,rowA,rowO,rgtD]<;>fail))) rfl (by repeat' (first|exact trivial|refine⟨(Or.inl rfl),?_⟩|refine⟨(Or.inr rfl),?_⟩|fail)) (by repeat' (first|exact trivial|refine⟨rfl,?_⟩|fail)) rfl rfl)⟩
         ·repeat refine zS ?_
          iterate 2 refine zX fA ?_
          refine oX (frz:=fA) (v:=.d (.int .i64 ((v % 4:Nat):Int))) Yo ?_ (he:=rfl)
          refine oX (frz:=fA) (v:=.d (.bool false)) Yo ?_ (he:=vF (by omega))
          repeat refine zS ?_
          iterate 3 refine zX fA ?_
          first|refine Run.tidy (tidy_of (objs:=_) [(0,.d (ints nums)),(2,.bp 0 0),(4,.bp 1 0),(5,.d (.int .i64 (M:Nat))),(6,.d (.int .i64 i)),(7,.d (.int .i64 x)),(8,.d (.int .i64 j)),(109,.sr 5 2 (encN ⟨pl,r0 :: rl⟩ :: ps.map encN)),(110,.d (encN (⟨((16+i:Nat):Int),r1 :: rr⟩:GProd)))] 8 (Eq.trans (b:=boxG0 :: boxA ((1+k % 2:Nat):Int) (kTok k) (.sr 2 1 (m0 :: (ml++[DV.str [83+i]]))) (.sr 5 2 (encN ⟨pl,r0 :: rl⟩ :: ps.map encN)) :: .room (ml.length+1+1) 1 :: .box [.d (.int .i64 pl),.sr 4 1 (rgtD (r0 :: rl))] :: .room ((rgtD rl).length+1) 1 :: .room (ps.length+1) 2 :: .box [.d (.int .i64 ((16+i:Nat):Int)),.sr 7 1 (rgtD (r1 :: rr))] :: [.room ((rgtD rr).length+1) 1]) rfl rfl) rfl (by repeat' (first|exact trivial|refine⟨(Or.inl rfl),?_⟩|refine⟨(Or.inr rfl),?_⟩|refine⟨rfl,?_⟩|fail)) (by repeat' (first|exact trivial|refine⟨(Or.inl rfl),?_⟩|refine⟨(Or.inr rfl),?_⟩|refine⟨rfl,?_⟩|fail)) rfl rfl) ?_|refine RunOps.tidy (tidy_of (objs:=_) [(0,.d (ints nums)),(2,.bp 0 0),(4,.bp 1 0),(5,.d (.int .i64 (M:Nat))),(6,.d (.int .i64 i)),(7,.d (.int .i64 x)),(8,.d (.int .i64 j)),(109,.sr 5 2 (encN ⟨pl,r0 :: rl⟩ :: ps.map encN)),(110,.d (encN (⟨((16+i:Nat):Int),r1 :: rr⟩:GProd)))] 8 (Eq.trans (b:=boxG0 :: boxA ((1+k % 2:Nat):Int) (kTok k) (.sr 2 1 (m0 :: (ml++[DV.str [83+i]]))) (.sr 5 2 (encN ⟨pl,r0 :: rl⟩ :: ps.map encN)) :: .room (ml.length+1+1) 1 :: .box [.d (.int .i64 pl),.sr 4 1 (rgtD (r0 :: rl))] :: .room ((rgtD rl).length+1) 1 :: .room (ps.length+1) 2 :: .box [.d (.int .i64 ((16+i:Nat):Int)),.sr 7 1 (rgtD (r1 :: rr))] :: [.room ((rgtD rr).length+1) 1]) rfl rfl) rfl (by repeat' (first|exact trivial|refine⟨(Or.inl rfl),?_⟩|refine⟨(Or.inr rfl),?_⟩|refine⟨rfl,?_⟩|fail)) (by repeat' (first|exact trivial|refine⟨(Or.inl rfl),?_⟩|refine⟨(Or.inr rfl),?_⟩|refine⟨rfl,?_⟩|fail)) rfl rfl) ?_
          refine zX fA ?_
          first|refine oX (frz:=fA) Yo ?_ (hv:=app1) (hf:=rfl) (he:=rfl)|refine eX ?_ (hv:=app1) (hf:=rfl) (he:=rfl)
          iterate 2 refine zX fA ?_
          repeat refine zS ?_
          refine zX fA ?_
          refine oX (frz:=fA) (v:=.d (.int .i64 ((j+1:Nat):Int))) Yo ?_ (he:=vN (by omega) (by omega))
          refine zX fA ?_
          repeat refine zS ?_
          exact⟨(j+1,⟨pl,r0 :: rl⟩ :: (ps++[(⟨((16+i:Nat):Int),r1 :: rr⟩:GProd)])),⟨by simp only<;>omega,hnext,by simp at hjb ⊢<;>omega⟩,by simp only<;>omega,(tidy_of (objs:=_) _ 6 (Eq.trans (b:=boxG0 :: boxA ((1+k % 2:Nat):Int) (kTok k) (.sr 2 1 (m0 :: (ml++[DV.str [83+i]]))) (.sr 5 2 (encN ⟨pl,r0 :: rl⟩ :: (ps.map encN++[encN (⟨((16+i:Nat):Int),r1 :: rr⟩:GProd)]))) :: .room (ml.length+1+1) 1 :: .box [.d (.int .i64 pl),.sr 4 1 (rgtD (r0 :: rl))] :: .room ((rgtD rl).length+1) 1 :: [.room (ps.length+1+1) 2]) rfl (by first|rfl|(simp [psA,psO,psI,rowA,rowO,rgtD]<;>fail))) rfl (by repeat' (first|exact trivial|refine⟨(Or.inl rfl),?_⟩|refine⟨(Or.inr rfl),?_⟩|fail)) (by repeat' (first|exact trivial|refine⟨rfl,?_⟩|fail)) rfl rfl)⟩
     ·have hz:acc≠[]:=fun hz=>by
       rw [hz] at hj2 hj
       have hr0:=(List.append_eq_nil_iff.1 hj2.symm).2
       have:j=0:=by simpa [rowTo] using hr0
       exact hj ⟨by omega,by simp⟩
      have hacc':acc=accTo nums T M (i+1):=by
       simp only [accTo,← hxe]
       by_cases h7:acc.length<7
       ·have hje:j=x % 3+1:=by have:¬ j≤x % 3:=fun h=>hj ⟨h,h7⟩;omega
        rw [← hje,← hj2,List.take_of_length_le hj3]
       ·have h7':acc.length=7:=by omega
        obtain⟨d,hd⟩:∃ d,x % 3+1=j+d:=⟨x % 3+1-j,by omega⟩
        have hro:rowTo nums T M i (x % 3+1)=rowTo nums T M i j++(List.range' j d).map (prodN nums T M i):=by
         rw [hd,rowTo,rowTo,← List.map_append,range_split]
        rw [hro,← List.append_assoc,← hj2,← h7',List.take_left]
      rcases acc with _|⟨⟨pl,pr⟩,ps⟩
      ·exact absurd rfl hz
      ·rcases pr with _|⟨r0,rl⟩
       ·by_cases hja:j≤x % 3
        ·have h7:¬ (ps.length+1<7):=fun h=>hj ⟨hja,by simpa using h⟩
         repeat refine zS ?_
         iterate 2 refine zX fA ?_
         refine oX (frz:=fA) (v:=.d (.int .i64 ((x % 3:Nat):Int))) Yo ?_ (he:=rfl)
         refine oX (frz:=fA) (v:=.d (.bool true)) Yo ?_ (he:=vT (by omega))
         iterate 4 refine zX fA ?_
         refine oX (frz:=fA) (v:=.d (.bool false)) Yo ?_ (he:=vF (by simp<;>omega))
         refine zX fA ?_
         repeat refine zS ?_
         refine zX fA ?_
         refine oX (frz:=fA) (v:=.d (.int .i64 ((i+1:Nat):Int))) Yo ?_ (he:=vN (by omega) (by omega))
         refine zX fA ?_
         repeat refine zS ?_
         exact⟨(i+1,m0 :: (ml++[DV.str [83+i]]),⟨pl,[]⟩ :: ps),⟨hlt,hns',hacc'⟩,by simp only<;>omega,(tidy_of (objs:=_) _ 5 (Eq.trans (b:=boxG0 :: boxA ((1+k % 2:Nat):Int) (kTok k) (.sr 2 1 (m0 :: (ml++[DV.str [83+i]]))) (.sr 4 2 (encN ⟨pl,[]⟩ :: ps.map encN)) :: .room (ml.length+1+1) 1 :: .box [.d (.int .i64 pl),.d .nilsl] :: [.room (ps.length+1) 2]) rfl (by first|rfl|(simp [psA,psO,psI,rowA,rowO,rgtD]<;>fail))) rfl (by repeat' (first|exact trivial|refine⟨(Or.inl rfl),?_⟩|refine⟨(Or.inr rfl),?_⟩|fail)) (by repeat' (first|exact trivial|refine⟨rfl,?_⟩|fail)) rfl rfl)⟩
        ·repeat refine zS ?_
         iterate 2 refine zX fA ?_
         refine oX (frz:=fA) (v:=.d (.int .i64 ((x % 3:Nat):Int))) Yo ?_ (he:=rfl)
         refine oX (frz:=fA) (v:=.d (.bool false)) Yo ?_ (he:=vF (by omega))
         refine zX fA ?_
         refine oS ?_
         refine oS ?_
         refine oS ?_
         refine oS ?_
         refine zX fA ?_
         repeat refine zS ?_
         refine zX fA ?_
         refine oX (frz:=fA) (v:=.d (.int .i64 ((i+1:Nat):Int))) Yo ?_ (he:=vN (by omega) (by omega))
         refine zX fA ?_
         repeat refine zS ?_
         exact⟨(i+1,m0 :: (ml++[DV.str [83+i]]),⟨pl,[]⟩ :: ps),⟨hlt,hns',hacc'⟩,by simp only<;>omega,(tidy_of (objs:=_) _ 5 (Eq.trans (b:=boxG0 :: boxA ((1+k % 2:Nat):Int) (kTok k) (.sr 2 1 (m0 :: (ml++[DV.str [83+i]]))) (.sr 4 2 (encN ⟨pl,[]⟩ :: ps.map encN)) :: .room (ml.length+1+1) 1 :: .box [.d (.int .i64 pl),.d .nilsl] :: [.room (ps.length+1) 2]) rfl (by first|rfl|(simp [psA,psO,psI,rowA,rowO,rgtD]<;>fail))) rfl (by repeat' (first|exact trivial|refine⟨(Or.inl rfl),?_⟩|refine⟨(Or.inr rfl),?_⟩|fail)) (by repeat' (first|exact trivial|refine⟨rfl,?_⟩|fail)) rfl rfl)⟩
       ·by_cases hja:j≤x % 3
        ·have h7:¬ (ps.length+1<7):=fun h=>hj ⟨hja,by simpa using h⟩
         repeat refine zS ?_
         iterate 2 refine zX fA ?_
         refine oX (frz:=fA) (v:=.d (.int .i64 ((x % 3:Nat):Int))) Yo ?_ (he:=rfl)
         refine oX (frz:=fA) (v:=.d (.bool true)) Yo ?_ (he:=vT (by omega))
         iterate 4 refine zX fA ?_
         refine oX (frz:=fA) (v:=.d (.bool false)) Yo ?_ (he:=vF (by simp<;>omega))
         refine zX fA ?_
         repeat refine zS ?_
         refine zX fA ?_
         refine oX (frz:=fA) (v:=.d (.int .i64 ((i+1:Nat):Int))) Yo ?_ (he:=vN (by omega) (by omega))
         refine zX fA ?_
         repeat refine zS ?_
         exact⟨(i+1,m0 :: (ml++[DV.str [83+i]]),⟨pl,r0 :: rl⟩ :: ps),⟨hlt,hns',hacc'⟩,by simp only<;>omega,(tidy_of (objs:=_) _ 6 (Eq.trans (b:=boxG0 :: boxA ((1+k % 2:Nat):Int) (kTok k) (.sr 2 1 (m0 :: (ml++[DV.str [83+i]]))) (.sr 5 2 (encN ⟨pl,r0 :: rl⟩ :: ps.map encN)) :: .room (ml.length+1+1) 1 :: .box [.d (.int .i64 pl),.sr 4 1 (rgtD (r0 :: rl))] :: .room ((rgtD rl).length+1) 1 :: [.room (ps.length+1) 2]) rfl (by first|rfl|(simp [psA,psO,psI,rowA,rowO,rgtD]<;>fail))) rfl (by repeat' (first|exact trivial|refine⟨(Or.inl rfl),?_⟩|refine⟨(Or.inr rfl),?_⟩|fail)) (by repeat' (first|exact trivial|refine⟨rfl,?_⟩|fail)) rfl rfl)⟩
        ·repeat refine zS ?_
         iterate 2 refine zX fA ?_
         refine oX (frz:=fA) (v:=.d (.int .i64 ((x % 3:Nat):Int))) Yo ?_ (he:=rfl)
         refine oX (frz:=fA) (v:=.d (.bool false)) Yo ?_ (he:=vF (by omega))
         refine zX fA ?_
         refine oS ?_
         refine oS ?_
         refine oS ?_
         refine oS ?_
         refine zX fA ?_
         repeat refine zS ?_
         refine zX fA ?_
         refine oX (frz:=fA) (v:=.d (.int .i64 ((i+1:Nat):Int))) Yo ?_ (he:=vN (by omega) (by omega))
         refine zX fA ?_
         repeat refine zS ?_
         exact⟨(i+1,m0 :: (ml++[DV.str [83+i]]),⟨pl,r0 :: rl⟩ :: ps),⟨hlt,hns',hacc'⟩,by simp only<;>omega,(tidy_of (objs:=_) _ 6 (Eq.trans (b:=boxG0 :: boxA ((1+k % 2:Nat):Int) (kTok k) (.sr 2 1 (m0 :: (ml++[DV.str [83+i]]))) (.sr 5 2 (encN ⟨pl,r0 :: rl⟩ :: ps.map encN)) :: .room (ml.length+1+1) 1 :: .box [.d (.int .i64 pl),.sr 4 1 (rgtD (r0 :: rl))] :: .room ((rgtD rl).length+1) 1 :: [.room (ps.length+1) 2]) rfl (by first|rfl|(simp [psA,psO,psI,rowA,rowO,rgtD]<;>fail))) rfl (by repeat' (first|exact trivial|refine⟨(Or.inl rfl),?_⟩|refine⟨(Or.inr rfl),?_⟩|fail)) (by repeat' (first|exact trivial|refine⟨rfl,?_⟩|fail)) rfl rfl)⟩
    ·repeat refine zS ?_
     iterate 2 refine zX fA ?_
     refine oX (frz:=fA) (v:=.d (.bool true)) Yo ?_ (he:=vT (by omega))
     repeat refine zS ?_
     iterate 3 refine zX fA ?_
     refine oX (frz:=fA) (v:=.d (.int .i64 (83+i:Nat))) Yo ?_ (he:=vN (by omega) (by omega))
     refine oX (frz:=fA) (v:=.d (.int .u8 (83+i:Nat))) Yo ?_ (he:=vU8 (by omega))
     refine zX fA ?_
     refine oX (frz:=fA) (v:=.d (.str [83+i])) Yo ?_ (he:=congrArg (fun c=>AV.d (.str [c])) (show((83+i:Nat):Int).toNat % 256=83+i by omega))
     refine zX fA ?_
     refine oX (frz:=fA) Yo ?_ (hv:=app1) (hf:=rfl) (he:=rfl)
     iterate 2 refine zX fA ?_
     repeat refine zS ?_
     iterate 2 refine zX fA ?_
     refine oX (frz:=fA) (v:=.d (.int .i64 (1+i:Nat))) Yo ?_ (he:=vN (by omega) (by omega))
     refine oC (atS nums (1+i)) ?_
     refine oC hx ?_
     refine zX fA ?_
     repeat refine zS ?_
     refine zX fA ?_
     repeat refine zS ?_
     refine Run.loopT (fun y:Nat × List GProd=>⟨PT.ofList [(0,.d (ints nums)),(2,.bp 0 0),(4,.bp 1 0),(5,.d (.int .i64 (M:Nat))),(6,.d (.int .i64 i)),(7,.d (.int .i64 x)),(8,.d (.int .i64 y.1))],boxG0 :: boxA ((1+k % 2:Nat):Int) (kTok k) (.sr 2 1 (m0 :: (ml++[DV.str [83+i]]))) (psA y.2) :: .room (ml.length+1+1) 1 :: psO y.2,[]⟩)
      (fun y=>y.1≤x % 3+1∧y.2=accTo nums T M i++rowTo nums T M i y.1∧y.2.length≤7) (fun y=>x % 3+1-y.1) (0,(⟨ql,u0 :: ul⟩ :: qs)) ⟨Nat.zero_le _,by rw [← hacc];simp [rowTo],hq3⟩ (tidy_of (objs:=_) _ 6 (by rfl) rfl (by repeat' (first|exact trivial|refine⟨(Or.inl rfl),?_⟩|refine⟨(Or.inr rfl),?_⟩|fail)) (by repeat' (first|exact trivial|refine⟨rfl,?_⟩|fail)) rfl rfl) (fun y hy=>?_)
     obtain⟨j,acc⟩:=y
     obtain⟨hj1,hj2,hj3⟩:=hy
     simp only at hj1 hj2 hj3 ⊢
     by_cases hj:j≤x % 3∧acc.length<7
     ·obtain⟨hja,hjb⟩:=hj
      have hy:=numS nums hn (4+3*i+j)
      have hyl:=numF_lt nums (4+3*i+j)
      have hyp:prodN nums T M i j=⟨((16+i:Nat):Int),rgtTo T M (numF nums (4+3*i+j)) (numF nums (4+3*i+j) % 4)⟩:=rfl
      have hrow:rowTo nums T M i (j+1)=rowTo nums T M i j++[prodN nums T M i j]:=by simp [rowTo,List.range_succ]
      have hat:=atS nums (4+3*i+j)
      obtain⟨v,hv⟩:∃ v,v=numF nums (4+3*i+j):=⟨_,rfl⟩
      rw [← hv] at hy hyl hyp
      have hnext:acc++[prodN nums T M i j]=accTo nums T M i++rowTo nums T M i (j+1):=by rw [hj2,hrow,List.append_assoc]
      rw [hyp] at hnext
      rcases acc with _|⟨⟨pl,pr⟩,ps⟩
      ·repeat refine zS ?_
       iterate 2 refine zX fA ?_
       refine oX (frz:=fA) (v:=.d (.int .i64 ((x % 3:Nat):Int))) Yo ?_ (he:=rfl)
       refine oX (frz:=fA) (v:=.d (.bool true)) Yo ?_ (he:=vT (by omega))
       iterate 4 refine zX fA ?_
       refine zX fA ?_
       refine zX fA ?_
       repeat refine zS ?_
       refine zX fA ?_
       refine oX (frz:=fA) (v:=.d (.int .i64 ((16+i:Nat):Int))) Yo ?_ (he:=vN (by omega) (by omega))
       iterate 3 refine zX fA ?_
       repeat refine zS ?_
       iterate 2 refine zX fA ?_
       refine oX (frz:=fA) (v:=.d (.int .i64 ((3*i:Nat):Int))) Yo ?_ (he:=vN (by omega) (by omega))
       refine oX (frz:=fA) (v:=.d (.int .i64 ((4+3*i:Nat):Int))) Yo ?_ (he:=vN (by omega) (by omega))
       refine zX fA ?_
       refine oX (frz:=fA) (v:=.d (.int .i64 ((4+3*i+j:Nat):Int))) Yo ?_ (he:=vN (by omega) (by omega))
       refine oC hat ?_
       refine oC hy ?_
       refine zX fA ?_
       repeat refine zS ?_
       refine zX fA ?_
       repeat refine zS ?_
       refine Run.loopT (fun z:Nat × List Int=>⟨PT.ofList [(0,.d (ints nums)),(2,.bp 0 0),(4,.bp 1 0),(5,.d (.int .i64 (M:Nat))),(6,.d (.int .i64 i)),(7,.d (.int .i64 x)),(8,.d (.int .i64 j)),(9,.bp 3 0),(10,.d (.int .i64 v)),(11,.d (.int .i64 z.1))],boxG0 :: boxA ((1+k % 2:Nat):Int) (kTok k) (.sr 2 1 (m0 :: (ml++[DV.str [83+i]]))) (.d .nilsl) :: .room (ml.length+1+1) 1 :: .box [.d (.int .i64 ((16+i:Nat):Int)),rowA 4 1 (rgtD z.2)] :: rowO 1 (rgtD z.2),[]⟩)
        (fun z=>z.1≤v % 4∧z.2=rgtTo T M v z.1) (fun z=>v % 4-z.1) (0,[]) ⟨Nat.zero_le _,rfl⟩ (tidy_of (objs:=_) _ 4 (by rfl) rfl (by repeat' (first|exact trivial|refine⟨(Or.inl rfl),?_⟩|refine⟨(Or.inr rfl),?_⟩|fail)) (by repeat' (first|exact trivial|refine⟨rfl,?_⟩|fail)) rfl rfl) (fun z hz=>?_)
       obtain⟨s,r⟩:=z
       obtain⟨hs1,hs2⟩:=hz
       simp only at hs1 hs2 ⊢
       have hrl:r.length=s:=by rw [hs2];simp [rgtTo]
       rcases Nat.lt_or_ge s (v % 4) with hsl|hsg
       ·have hnx:r++[((symN T M (zF v s):Nat):Int)]=rgtTo T M v (s+1):=by rw [hs2];simp [rgtTo,List.range_succ]
        rcases r with _|⟨r1,rr⟩
        ·have hrl':=hrl
         simp only [List.length_cons,List.length_nil] at hrl'
         repeat refine zS ?_
         iterate 2 refine zX fA ?_
         refine oX (frz:=fA) (v:=.d (.int .i64 ((v % 4:Nat):Int))) Yo ?_ (he:=rfl)
         refine oX (frz:=fA) (v:=.d (.bool true)) Yo ?_ (he:=vT (by omega))
         repeat refine zS ?_
         refine zX fA ?_
         refine oX (frz:=fA) (v:=.d (.int .i64 ((v / 4:Nat):Int))) Yo ?_ (he:=vN rfl (by omega))
         refine zX fA ?_
         refine oX (frz:=fA) (v:=.d (.int .i64 ((4*s:Nat):Int))) Yo ?_ (he:=vN (by omega) (by omega))
         refine oX (frz:=fA) (v:=.d (.int .u64 ((4*s:Nat):Int))) Yo ?_ (he:=vU64 (by omega))
         refine oX (frz:=fA) (v:=.d (.int .i64 ((v / 4 / 2 ^ (4*s):Nat):Int))) Yo ?_ (hf:=shrF (4*s)) (he:=congrArg (fun n=>AV.d (.int .i64 n)) (shrN (by omega)))
         refine oX (frz:=fA) (v:=.d (.int .i64 ((zF v s:Nat):Int))) Yo ?_ (he:=rfl)
         refine zX fA ?_
         repeat refine zS ?_
         refine zX fA ?_
         refine oX (frz:=fA) (v:=.d (.int .i64 ((zF v s % 5:Nat):Int))) Yo ?_ (he:=rfl)
         by_cases h5:zF v s % 5<3
         ·refine oX (frz:=fA) (v:=.d (.bool true)) Yo ?_ (he:=vT (by omega))
          have hsy:symN T M (zF v s)=zF v s % T:=if_pos h5
          rw [hsy] at hnx
          repeat refine zG fA ?_
          iterate 5 refine zX fA ?_
          first|refine oX (frz:=fA) (v:=.d (.int .i64 (T:Nat))) Yo ?_ (he:=(by rw [hT,List.length_map]))|refine eX (v:=.d (.int .i64 (T:Nat))) ?_ (he:=(by rw [hT,List.length_map]))
          refine eX (v:=.d (.int .i64 ((zF v s % T:Nat):Int))) ?_ (hf:=by simp<;>omega) (he:=rfl)
          iterate 1 refine zX fA ?_
          first|refine oX (frz:=fA) Yo ?_ (hv:=app0) (hf:=rfl) (he:=rfl)|refine eX ?_ (hv:=app0) (hf:=rfl) (he:=rfl)
          iterate 2 refine zX fA ?_
          repeat refine zG fA ?_
          refine zX fA ?_
          refine oX (frz:=fA) (v:=.d (.int .i64 ((s+1:Nat):Int))) Yo ?_ (he:=vN (by omega) (by omega))
          refine zX fA ?_
          repeat refine zS ?_
          exact⟨(s+1,_),⟨hsl,hnx⟩,by simp only<;>omega,(tidy_of (objs:=_) _ 5 (by rfl) rfl (by repeat' (first|exact trivial|refine⟨(Or.inl rfl),?_⟩|refine⟨(Or.inr rfl),?_⟩|fail)) (by repeat' (first|exact trivial|refine⟨rfl,?_⟩|fail)) rfl rfl)⟩
         ·refine oX (frz:=fA) (v:=.d (.bool false)) Yo ?_ (he:=vF (by omega))
          have hsy:symN T M (zF v s)=16+zF v s % M:=if_neg h5
          rw [hsy] at hnx
          repeat refine zG fA ?_
          iterate 4 refine zX fA ?_
          refine eX (v:=.d (.int .i64 ((zF v s % M:Nat):Int))) ?_ (hf:=by simp<;>omega) (he:=rfl)
          first|refine oX (frz:=fA) (v:=.d (.int .i64 ((16+zF v s % M:Nat):Int))) Yo ?_ (he:=(vN (by omega) (by have:=Nat.mod_lt (zF v s) (show 0<M by omega)<;>omega)))|refine eX (v:=.d (.int .i64 ((16+zF v s % M:Nat):Int))) ?_ (he:=(vN (by omega) (by have:=Nat.mod_lt (zF v s) (show 0<M by omega)<;>omega)))
          iterate 1 refine zX fA ?_
          first|refine oX (frz:=fA) Yo ?_ (hv:=app0) (hf:=rfl) (he:=rfl)|refine eX ?_ (hv:=app0) (hf:=rfl) (he:=rfl)
          iterate 2 refine zX fA ?_
          repeat refine zG fA ?_
          refine zX fA ?_
          refine oX (frz:=fA) (v:=.d (.int .i64 ((s+1:Nat):Int))) Yo ?_ (he:=vN (by omega) (by omega))
          refine zX fA ?_
          repeat refine zS ?_
          exact⟨(s+1,_),⟨hsl,hnx⟩,by simp only<;>omega,(tidy_of (objs:=_) _ 5 (by rfl) rfl (by repeat' (first|exact trivial|refine⟨(Or.inl rfl),?_⟩|refine⟨(Or.inr rfl),?_⟩|fail)) (by repeat' (first|exact trivial|refine⟨rfl,?_⟩|fail)) rfl rfl)⟩
        ·have hrl':=hrl
         simp only [List.length_cons,List.length_nil] at hrl'
         repeat refine zS ?_
         iterate 2 refine zX fA ?_
         refine oX (frz:=fA) (v:=.d (.int .i64 ((v % 4:Nat):Int))) Yo ?_ (he:=rfl)
         refine oX (frz:=fA) (v:=.d (.bool true)) Yo ?_ (he:=vT (by omega))
         repeat refine zS ?_
         refine zX fA ?_
         refine oX (frz:=fA) (v:=.d (.int .i64 ((v / 4:Nat):Int))) Yo ?_ (he:=vN rfl (by omega))
         refine zX fA ?_
         refine oX (frz:=fA) (v:=.d (.int .i64 ((4*s:Nat):Int))) Yo ?_ (he:=vN (by omega) (by omega))
         refine oX (frz:=fA) (v:=.d (.int .u64 ((4*s:Nat):Int))) Yo ?_ (he:=vU64 (by omega))
         refine oX (frz:=fA) (v:=.d (.int .i64 ((v / 4 / 2 ^ (4*s):Nat):Int))) Yo ?_ (hf:=shrF (4*s)) (he:=congrArg (fun n=>AV.d (.int .i64 n)) (shrN (by omega)))
         refine oX (frz:=fA) (v:=.d (.int .i64 ((zF v s:Nat):Int))) Yo ?_ (he:=rfl)
         refine zX fA ?_
         repeat refine zS ?_
         refine zX fA ?_
         refine oX (frz:=fA) (v:=.d (.int .i64 ((zF v s % 5:Nat):Int))) Yo ?_ (he:=rfl)
         by_cases h5:zF v s % 5<3
         ·refine oX (frz:=fA) (v:=.d (.bool true)) Yo ?_ (he:=vT (by omega))
          have hsy:symN T M (zF v s)=zF v s % T:=if_pos h5
          rw [hsy] at hnx
          repeat refine zG fA ?_
          iterate 5 refine zX fA ?_
          first|refine oX (frz:=fA) (v:=.d (.int .i64 (T:Nat))) Yo ?_ (he:=(by rw [hT,List.length_map]))|refine eX (v:=.d (.int .i64 (T:Nat))) ?_ (he:=(by rw [hT,List.length_map]))
          refine eX (v:=.d (.int .i64 ((zF v s % T:Nat):Int))) ?_ (hf:=by simp<;>omega) (he:=rfl)
          iterate 1 refine zX fA ?_
          first|refine oX (frz:=fA) Yo ?_ (hv:=app1) (hf:=rfl) (he:=rfl)|refine eX ?_ (hv:=app1) (hf:=rfl) (he:=rfl)
          iterate 2 refine zX fA ?_
          repeat refine zG fA ?_
          refine zX fA ?_
          refine oX (frz:=fA) (v:=.d (.int .i64 ((s+1:Nat):Int))) Yo ?_ (he:=vN (by omega) (by omega))
          refine zX fA ?_
          repeat refine zS ?_
          exact⟨(s+1,_),⟨hsl,hnx⟩,by simp only<;>omega,(tidy_of (objs:=_) _ 5 (by first|rfl|(simp only [rowO,rgtD,List.map_append,List.map_cons,List.map_nil,List.cons_append,List.length_append,List.length_cons,List.length_nil]<;>rfl)) rfl (by repeat' (first|exact trivial|refine⟨(Or.inl rfl),?_⟩|refine⟨(Or.inr rfl),?_⟩|fail)) (by repeat' (first|exact trivial|refine⟨rfl,?_⟩|fail)) rfl rfl)⟩
         ·refine oX (frz:=fA) (v:=.d (.bool false)) Yo ?_ (he:=vF (by omega))
          have hsy:symN T M (zF v s)=16+zF v s % M:=if_neg h5
          rw [hsy] at hnx
          repeat refine zG fA ?_
          iterate 4 refine zX fA ?_
          refine eX (v:=.d (.int .i64 ((zF v s % M:Nat):Int))) ?_ (hf:=by simp<;>omega) (he:=rfl)
          first|refine oX (frz:=fA) (v:=.d (.int .i64 ((16+zF v s % M:Nat):Int))) Yo ?_ (he:=(vN (by omega) (by have:=Nat.mod_lt (zF v s) (show 0<M by omega)<;>omega)))|refine eX (v:=.d (.int .i64 ((16+zF v s % M:Nat):Int))) ?_ (he:=(vN (by omega) (by have:=Nat.mod_lt (zF v s) (show 0<M by omega)<;>omega)))
          iterate 1 refine zX fA ?_
          first|refine oX (frz:=fA) Yo ?_ (hv:=app1) (hf:=rfl) (he:=rfl)|refine eX ?_ (hv:=app1) (hf:=rfl) (he:=rfl)
          iterate 2 refine zX fA ?_
          repeat refine zG fA ?_
          refine zX fA ?_
          refine oX (frz:=fA) (v:=.d (.int .i64 ((s+1:Nat):Int))) Yo ?_ (he:=vN (by omega) (by omega))
          refine zX fA ?_
          repeat refine zS ?_
          exact⟨(s+1,_),⟨hsl,hnx⟩,by simp only<;>omega,(tidy_of (objs:=_) _ 5 (by first|rfl|(simp only [rowO,rgtD,List.map_append,List.map_cons,List.map_nil,List.cons_append,List.length_append,List.length_cons,List.length_nil]<;>rfl)) rfl (by repeat' (first|exact trivial|refine⟨(Or.inl rfl),?_⟩|refine⟨(Or.inr rfl),?_⟩|fail)) (by repeat' (first|exact trivial|refine⟨rfl,?_⟩|fail)) rfl rfl)⟩
       ·have hse:s=v % 4:=by omega
        rw [hse] at hs2
        rw [← hs2] at hnext
        rcases r with _|⟨r1,rr⟩
        ·repeat refine zS ?_
         iterate 2 refine zX fA ?_
         refine oX (frz:=fA) (v:=.d (.int .i64 ((v % 4:Nat):Int))) Yo ?_ (he:=rfl)
         refine oX (frz:=fA) (v:=.d (.bool false)) Yo ?_ (he:=vF (by omega))
         repeat refine zS ?_
         iterate 3 refine zX fA ?_
         first|refine Run.tidy (tidy_of (objs:=_) [(0,.d (ints nums)),(2,.bp 0 0),(4,.bp 1 0),(5,.d (.int .i64 (M:Nat))),(6,.d (.int .i64 i)),(7,.d (.int .i64 x)),(8,.d (.int .i64 j)),(109,.d .nilsl),(110,.d (encN (⟨((16+i:Nat):Int),[]⟩:GProd)))] 4 (Eq.trans (b:=boxG0 :: boxA ((1+k % 2:Nat):Int) (kTok k) (.sr 2 1 (m0 :: (ml++[DV.str [83+i]]))) (.d .nilsl) :: .room (ml.length+1+1) 1 :: [.box [.d (.int .i64 ((16+i:Nat):Int)),.d .nilsl]]) rfl rfl) rfl (by repeat' (first|exact trivial|refine⟨(Or.inl rfl),?_⟩|refine⟨(Or.inr rfl),?_⟩|refine⟨rfl,?_⟩|fail)) (by repeat' (first|exact trivial|refine⟨(Or.inl rfl),?_⟩|refine⟨(Or.inr rfl),?_⟩|refine⟨rfl,?_⟩|fail)) rfl rfl) ?_|refine RunOps.tidy (tidy_of (objs:=_) [(0,.d (ints nums)),(2,.bp 0 0),(4,.bp 1 0),(5,.d (.int .i64 (M:Nat))),(6,.d (.int .i64 i)),(7,.d (.int .i64 x)),(8,.d (.int .i64 j)),(109,.d .nilsl),(110,.d (encN (⟨((16+i:Nat):Int),[]⟩:GProd)))] 4 (Eq.trans (b:=boxG0 :: boxA ((1+k % 2:Nat):Int) (kTok k) (.sr 2 1 (m0 :: (ml++[DV.str [83+i]]))) (.d .nilsl) :: .room (ml.length+1+1) 1 :: [.box [.d (.int .i64 ((16+i:Nat):Int)),.d .nilsl]]) rfl rfl) rfl (by repeat' (first|exact trivial|refine⟨(Or.inl rfl),?_⟩|refine⟨(Or.inr rfl),?_⟩|refine⟨rfl,?_⟩|fail)) (by repeat' (first|exact trivial|refine⟨(Or.inl rfl),?_⟩|refine⟨(Or.inr rfl),?_⟩|refine⟨rfl,?_⟩|fail)) rfl rfl) ?_
         refine zX fA ?_
         first|refine oX (frz:=fA) Yo ?_ (hv:=app0) (hf:=rfl) (he:=rfl)|refine eX ?_ (hv:=app0) (hf:=rfl) (he:=rfl)
         iterate 2 refine zX fA ?_
         repeat refine zS ?_
         refine zX fA ?_
         refine oX (frz:=fA) (v:=.d (.int .i64 ((j+1:Nat):Int))) Yo ?_ (he:=vN (by omega) (by omega))
         refine zX fA ?_
         repeat refine zS ?_
         exact⟨(j+1,[(⟨((16+i:Nat):Int),[]⟩:GProd)]),⟨by simp only<;>omega,hnext,by simp at hjb ⊢<;>omega⟩,by simp only<;>omega,(tidy_of (objs:=_) _ 5 (Eq.trans (b:=boxG0 :: boxA ((1+k % 2:Nat):Int) (kTok k) (.sr 2 1 (m0 :: (ml++[DV.str [83+i]]))) (.sr 4 2 [encN (⟨((16+i:Nat):Int),[]⟩:GProd)]) :: .room (ml.length+1+1) 1 :: [.box [.d (.int .i64 ((16+i:Nat):Int)),.d .nilsl],.room 1 2]) rfl (by first|rfl|(simp [psA,psO,psI,rowA,rowO,rgtD]<;>fail))) rfl (by repeat' (first|exact trivial|refine⟨(Or.inl rfl),?_⟩|refine⟨(Or.inr rfl),?_⟩|fail)) (by repeat' (first|exact trivial|refine⟨rfl,?_⟩|fail)) rfl rfl)⟩
        ·repeat refine zS ?_
         iterate 2 refine zX fA ?_
         refine oX (frz:=fA) (v:=.d (.int .i64 ((v % 4:Nat):Int))) Yo ?_ (he:=rfl)
         refine oX (frz:=fA) (v:=.d (.bool false)) Yo ?_ (he:=vF (by omega))
         repeat refine zS ?_
         iterate 3 refine zX fA ?_
         first|refine Run.tidy (tidy_of (objs:=_) [(0,.d (ints nums)),(2,.bp 0 0),(4,.bp 1 0),(5,.d (.int .i64 (M:Nat))),(6,.d (.int .i64 i)),(7,.d (.int .i64 x)),(8,.d (.int .i64 j)),(109,.d .nilsl),(110,.d (encN (⟨((16+i:Nat):Int),r1 :: rr⟩:GProd)))] 5 (Eq.trans (b:=boxG0 :: boxA ((1+k % 2:Nat):Int) (kTok k) (.sr 2 1 (m0 :: (ml++[DV.str [83+i]]))) (.d .nilsl) :: .room (ml.length+1+1) 1 :: .box [.d (.int .i64 ((16+i:Nat):Int)),.sr 4 1 (rgtD (r1 :: rr))] :: [.room ((rgtD rr).length+1) 1]) rfl rfl) rfl (by repeat' (first|exact trivial|refine⟨(Or.inl rfl),?_⟩|refine⟨(Or.inr rfl),?_⟩|refine⟨rfl,?_⟩|fail)) (by repeat' (first|exact trivial|refine⟨(Or.inl rfl),?_⟩|refine⟨(Or.inr rfl),?_⟩|refine⟨rfl,?_⟩|fail)) rfl rfl) ?_|refine RunOps.tidy (tidy_of (objs:=_) [(0,.d (ints nums)),(2,.bp 0 0),(4,.bp 1 0),(5,.d (.int .i64 (M:Nat))),(6,.d (.int .i64 i)),(7,.d (.int .i64 x)),(8,.d (.int .i64 j)),(109,.d .nilsl),(110,.d (encN (⟨((16+i:Nat):Int),r1 :: rr⟩:GProd)))] 5 (Eq.trans (b:=boxG0 :: boxA ((1+k % 2:Nat):Int) (kTok k) (.sr 2 1 (m0 :: (ml++[DV.str [83+i]]))) (.d .nilsl) :: .room (ml.length+1+1) 1 :: .box [.d (.int .i64 ((16+i:Nat):Int)),.sr 4 1 (rgtD (r1 :: rr))] :: [.room ((rgtD rr).length+1) 1]) rfl rfl) rfl (by repeat' (first|exact trivial|refine⟨(Or.inl rfl),?_⟩|refine⟨(Or.inr rfl),?_⟩|refine⟨rfl,?_⟩|fail)) (by repeat' (first|exact trivial|refine⟨(Or.inl rfl),?_⟩|refine⟨(Or.inr rfl),?_⟩|refine⟨rfl,?_⟩|fail)) rfl rfl) ?_
         refine zX fA ?_
         first|refine oX (frz:=fA) Yo ?_ (hv:=app0) (hf:=rfl) (he:=rfl)|refine eX ?_ (hv:=app0) (hf:=rfl) (he:=rfl)
         iterate 2 refine zX fA ?_
         repeat refine zS ?_
         refine zX fA ?_
         refine oX (frz:=fA) (v:=.d (.int .i64 ((j+1:Nat):Int))) Yo ?_ (he:=vN (by omega) (by omega))
         refine zX fA ?_
         repeat refine zS ?_
         exact⟨(j+1,[(⟨((16+i:Nat):Int),r1 :: rr⟩:GProd)]),⟨by simp only<;>omega,hnext,by simp at hjb ⊢<;>omega⟩,by simp only<;>omega,(tidy_of (objs:=_) _ 6 (Eq.trans (b:=boxG0 :: boxA ((1+k % 2:Nat):Int) (kTok k) (.sr 2 1 (m0 :: (ml++[DV.str [83+i]]))) (.sr 5 2 [encN (⟨((16+i:Nat):Int),r1 :: rr⟩:GProd)]) :: .room (ml.length+1+1) 1 :: .box [.d (.int .i64 ((16+i:Nat):Int)),.sr 4 1 (rgtD (r1 :: rr))] :: [.room ((rgtD rr).length+1) 1,.room 1 2]) rfl (by first|rfl|(simp [psA,psO,psI,rowA,rowO,rgtD]<;>fail))) rfl (by repeat' (first|exact trivial|refine⟨(Or.inl rfl),?_⟩|refine⟨(Or.inr rfl),?_⟩|fail)) (by repeat' (first|exact trivial|refine⟨rfl,?_⟩|fail)) rfl rfl)⟩
      ·rcases pr with _|⟨r0,rl⟩
       ·have hjc:ps.length+1<7:=by simpa using hjb
        repeat refine zS ?_
        iterate 2 refine zX fA ?_
        refine oX (frz:=fA) (v:=.d (.int .i64 ((x % 3:Nat):Int))) Yo ?_ (he:=rfl)
        refine oX (frz:=fA) (v:=.d (.bool true)) Yo ?_ (he:=vT (by omega))
        iterate 4 refine zX fA ?_
        refine oX (frz:=fA) (v:=.d (.bool true)) Yo ?_ (he:=vT (by simp at hjb ⊢<;>omega))
        refine zX fA ?_
        repeat refine zS ?_
        refine zX fA ?_
        refine oX (frz:=fA) (v:=.d (.int .i64 ((16+i:Nat):Int))) Yo ?_ (he:=vN (by omega) (by omega))
        iterate 3 refine zX fA ?_
        repeat refine zS ?_
        iterate 2 refine zX fA ?_
        refine oX (frz:=fA) (v:=.d (.int .i64 ((3*i:Nat):Int))) Yo ?_ (he:=vN (by omega) (by omega))
        refine oX (frz:=fA) (v:=.d (.int .i64 ((4+3*i:Nat):Int))) Yo ?_ (he:=vN (by omega) (by omega))
        refine zX fA ?_
        refine oX (frz:=fA) (v:=.d (.int .i64 ((4+3*i+j:Nat):Int))) Yo ?_ (he:=vN (by omega) (by omega))
        refine oC hat ?_
        refine oC hy ?_
        refine zX fA ?_
        repeat refine zS ?_
        refine zX fA ?_
        repeat refine zS ?_
        refine Run.loopT (fun z:Nat × List Int=>⟨PT.ofList [(0,.d (ints nums)),(2,.bp 0 0),(4,.bp 1 0),(5,.d (.int .i64 (M:Nat))),(6,.d (.int .i64 i)),(7,.d (.int .i64 x)),(8,.d (.int .i64 j)),(9,.bp 5 0),(10,.d (.int .i64 v)),(11,.d (.int .i64 z.1))],boxG0 :: boxA ((1+k % 2:Nat):Int) (kTok k) (.sr 2 1 (m0 :: (ml++[DV.str [83+i]]))) (.sr 4 2 (encN ⟨pl,[]⟩ :: ps.map encN)) :: .room (ml.length+1+1) 1 :: .box [.d (.int .i64 pl),.d .nilsl] :: .room (ps.length+1) 2 :: .box [.d (.int .i64 ((16+i:Nat):Int)),rowA 6 1 (rgtD z.2)] :: rowO 1 (rgtD z.2),[]⟩)
         (fun z=>z.1≤v % 4∧z.2=rgtTo T M v z.1) (fun z=>v % 4-z.1) (0,[]) ⟨Nat.zero_le _,rfl⟩ (tidy_of (objs:=_) _ 6 (by rfl) rfl (by repeat' (first|exact trivial|refine⟨(Or.inl rfl),?_⟩|refine⟨(Or.inr rfl),?_⟩|fail)) (by repeat' (first|exact trivial|refine⟨rfl,?_⟩|fail)) rfl rfl) (fun z hz=>?_)
        obtain⟨s,r⟩:=z
        obtain⟨hs1,hs2⟩:=hz
        simp only at hs1 hs2 ⊢
        have hrl:r.length=s:=by rw [hs2];simp [rgtTo]
        rcases Nat.lt_or_ge s (v % 4) with hsl|hsg
        ·have hnx:r++[((symN T M (zF v s):Nat):Int)]=rgtTo T M v (s+1):=by rw [hs2];simp [rgtTo,List.range_succ]
         rcases r with _|⟨r1,rr⟩
         ·have hrl':=hrl
          simp only [List.length_cons,List.length_nil] at hrl'
          repeat refine zS ?_
          iterate 2 refine zX fA ?_
          refine oX (frz:=fA) (v:=.d (.int .i64 ((v % 4:Nat):Int))) Yo ?_ (he:=rfl)
          refine oX (frz:=fA) (v:=.d (.bool true)) Yo ?_ (he:=vT (by omega))
          repeat refine zS ?_
          refine zX fA ?_
          refine oX (frz:=fA) (v:=.d (.int .i64 ((v / 4:Nat):Int))) Yo ?_ (he:=vN rfl (by omega))
          refine zX fA ?_
          refine oX (frz:=fA) (v:=.d (.int .i64 ((4*s:Nat):Int))) Yo ?_ (he:=vN (by omega) (by omega))
          refine oX (frz:=fA) (v:=.d (.int .u64 ((4*s:Nat):Int))) Yo ?_ (he:=vU64 (by omega))
          refine oX (frz:=fA) (v:=.d (.int .i64 ((v / 4 / 2 ^ (4*s):Nat):Int))) Yo ?_ (hf:=shrF (4*s)) (he:=congrArg (fun n=>AV.d (.int .i64 n)) (shrN (by omega)))
          refine oX (frz:=fA) (v:=.d (.int .i64 ((zF v s:Nat):Int))) Yo ?_ (he:=rfl)
          refine zX fA ?_
          repeat refine zS ?_
          refine zX fA ?_
          refine oX (frz:=fA) (v:=.d (.int .i64 ((zF v s % 5:Nat):Int))) Yo ?_ (he:=rfl)
          by_cases h5:zF v s % 5<3
          ·refine oX (frz:=fA) (v:=.d (.bool true)) Yo ?_ (he:=vT (by omega))
           have hsy:symN T M (zF v s)=zF v s % T:=if_pos h5
           rw [hsy] at hnx
           repeat refine zG fA ?_
           iterate 5 refine zX fA ?_
           first|refine oX (frz:=fA) (v:=.d (.int .i64 (T:Nat))) Yo ?_ (he:=(by rw [hT,List.length_map]))|refine eX (v:=.d (.int .i64 (T:Nat))) ?_ (he:=(by rw [hT,List.length_map]))
           refine eX (v:=.d (.int .i64 ((zF v s % T:Nat):Int))) ?_ (hf:=by simp<;>omega) (he:=rfl)
           iterate 1 refine zX fA ?_
           first|refine oX (frz:=fA) Yo ?_ (hv:=app0) (hf:=rfl) (he:=rfl)|refine eX ?_ (hv:=app0) (hf:=rfl) (he:=rfl)
           iterate 2 refine zX fA ?_
           repeat refine zG fA ?_
           refine zX fA ?_
           refine oX (frz:=fA) (v:=.d (.int .i64 ((s+1:Nat):Int))) Yo ?_ (he:=vN (by omega) (by omega))
           refine zX fA ?_
           repeat refine zS ?_
           exact⟨(s+1,_),⟨hsl,hnx⟩,by simp only<;>omega,(tidy_of (objs:=_) _ 7 (by rfl) rfl (by repeat' (first|exact trivial|refine⟨(Or.inl rfl),?_⟩|refine⟨(Or.inr rfl),?_⟩|fail)) (by repeat' (first|exact trivial|refine⟨rfl,?_⟩|fail)) rfl rfl)⟩
          ·refine oX (frz:=fA) (v:=.d (.bool false)) Yo ?_ (he:=vF (by omega))
           have hsy:symN T M (zF v s)=16+zF v s % M:=if_neg h5
           rw [hsy] at hnx
           repeat refine zG fA ?_
           iterate 4 refine zX fA ?_
           refine eX (v:=.d (.int .i64 ((zF v s % M:Nat):Int))) ?_ (hf:=by simp<;>omega) (he:=rfl)
           first|refine oX (frz:=fA) (v:=.d (.int .i64 ((16+zF v s % M:Nat):Int))) Yo ?_ (he:=(vN (by omega) (by have:=Nat.mod_lt (zF v s) (show 0<M by omega)<;>omega)))|refine eX (v:=.d (.int .i64 ((16+zF v s % M:Nat):Int))) ?_ (he:=(vN (by omega) (by have:=Nat.mod_lt (zF v s) (show 0<M by omega)<;>omega)))
           iterate 1 refine zX fA ?_
           first|refine oX (frz:=fA) Yo ?_ (hv:=app0) (hf:=rfl) (he:=rfl)|refine eX ?_ (hv:=app0) (hf:=rfl) (he:=rfl)
           iterate 2 refine zX fA ?_
           repeat refine zG fA ?_
           refine zX fA ?_
           refine oX (frz:=fA) (v:=.d (.int .i64 ((s+1:Nat):Int))) Yo ?_ (he:=vN (by omega) (by omega))
           refine zX fA ?_
           repeat refine zS ?_
           exact⟨(s+1,_),⟨hsl,hnx⟩,by simp only<;>omega,(tidy_of (objs:=_) _ 7 (by rfl) rfl (by repeat' (first|exact trivial|refine⟨(Or.inl rfl),?_⟩|refine⟨(Or.inr rfl),?_⟩|fail)) (by repeat' (first|exact trivial|refine⟨rfl,?_⟩|fail)) rfl rfl)⟩
         ·have hrl':=hrl
          simp only [List.length_cons,List.length_nil] at hrl'
          repeat refine zS ?_
          iterate 2 refine zX fA ?_
          refine oX (frz:=fA) (v:=.d (.int .i64 ((v % 4:Nat):Int))) Yo ?_ (he:=rfl)
          refine oX (frz:=fA) (v:=.d (.bool true)) Yo ?_ (he:=vT (by omega))
          repeat refine zS ?_
          refine zX fA ?_
          refine oX (frz:=fA) (v:=.d (.int .i64 ((v / 4:Nat):Int))) Yo ?_ (he:=vN rfl (by omega))
          refine zX fA ?_
          refine oX (frz:=fA) (v:=.d (.int .i64 ((4*s:Nat):Int))) Yo ?_ (he:=vN (by omega) (by omega))
          refine oX (frz:=fA) (v:=.d (.int .u64 ((4*s:Nat):Int))) Yo ?_ (he:=vU64 (by omega))
          refine oX (frz:=fA) (v:=.d (.int .i64 ((v / 4 / 2 ^ (4*s):Nat):Int))) Yo ?_ (hf:=shrF (4*s)) (he:=congrArg (fun n=>AV.d (.int .i64 n)) (shrN (by omega)))
          refine oX (frz:=fA) (v:=.d (.int .i64 ((zF v s:Nat):Int))) Yo ?_ (he:=rfl)
          refine zX fA ?_
          repeat refine zS ?_
          refine zX fA ?_
          refine oX (frz:=fA) (v:=.d (.int .i64 ((zF v s % 5:Nat):Int))) Yo ?_ (he:=rfl)
          by_cases h5:zF v s % 5<3
          ·refine oX (frz:=fA) (v:=.d (.bool true)) Yo ?_ (he:=vT (by omega))
           have hsy:symN T M (zF v s)=zF v s % T:=if_pos h5
           rw [hsy] at hnx
           repeat refine zG fA ?_
           iterate 5 refine zX fA ?_
           first|refine oX (frz:=fA) (v:=.d (.int .i64 (T:Nat))) Yo ?_ (he:=(by rw [hT,List.length_map]))|refine eX (v:=.d (.int .i64 (T:Nat))) ?_ (he:=(by rw [hT,List.length_map]))
           refine eX (v:=.d (.int .i64 ((zF v s % T:Nat):Int))) ?_ (hf:=by simp<;>omega) (he:=rfl)
           iterate 1 refine zX fA ?_
           first|refine oX (frz:=fA) Yo ?_ (hv:=app1) (hf:=rfl) (he:=rfl)|refine eX ?_ (hv:=app1) (hf:=rfl) (he:=rfl)
           iterate 2 refine zX fA ?_
           repeat refine zG fA ?_
           refine zX fA ?_
           refine oX (frz:=fA) (v:=.d (.int .i64 ((s+1:Nat):Int))) Yo ?_ (he:=vN (by omega) (by omega))
           refine zX fA ?_
           repeat refine zS ?_
           exact⟨(s+1,_),⟨hsl,hnx⟩,by simp only<;>omega,(tidy_of (objs:=_) _ 7 (by first|rfl|(simp only [rowO,rgtD,List.map_append,List.map_cons,List.map_nil,List.cons_append,List.length_append,List.length_cons,List.length_nil]<;>rfl)) rfl (by repeat' (first|exact trivial|refine⟨(Or.inl rfl),?_⟩|refine⟨(Or.inr rfl),?_⟩|fail)) (by repeat' (first|exact trivial|refine⟨rfl,?_⟩|fail)) rfl rfl)⟩
          ·refine oX (frz:=fA) (v:=.d (.bool false)) Yo ?_ (he:=vF (by omega))
           have hsy:symN T M (zF v s)=16+zF v s % M:=if_neg h5
           rw [hsy] at hnx
           repeat refine zG fA ?_
           iterate 4 refine zX fA ?_
           refine eX (v:=.d (.int .i64 ((zF v s % M:Nat):Int))) ?_ (hf:=by simp<;>omega) (he:=rfl)
           first|refine oX (frz:=fA) (v:=.d (.int .i64 ((16+zF v s % M:Nat):Int))) Yo ?_ (he:=(vN (by omega) (by have:=Nat.mod_lt (zF v s) (show 0<M by omega)<;>omega)))|refine eX (v:=.d (.int .i64 ((16+zF v s % M:Nat):Int))) ?_ (he:=(vN (by omega) (by have:=Nat.mod_lt (zF v s) (show 0<M by omega)<;>omega)))
           iterate 1 refine zX fA ?_
           first|refine oX (frz:=fA) Yo ?_ (hv:=app1) (hf:=rfl) (he:=rfl)|refine eX ?_ (hv:=app1) (hf:=rfl) (he:=rfl)
           iterate 2 refine zX fA ?_
           repeat refine zG fA ?_
           refine zX fA ?_
           refine oX (frz:=fA) (v:=.d (.int .i64 ((s+1:Nat):Int))) Yo ?_ (he:=vN (by omega) (by omega))
           refine zX fA ?_
           repeat refine zS ?_
           exact⟨(s+1,_),⟨hsl,hnx⟩,by simp only<;>omega,(tidy_of (objs:=_) _ 7 (by first|rfl|(simp only [rowO,rgtD,List.map_append,List.map_cons,List.map_nil,List.cons_append,List.length_append,List.length_cons,List.length_nil]<;>rfl)) rfl (by repeat' (first|exact trivial|refine⟨(Or.inl rfl),?_⟩|refine⟨(Or.inr rfl),?_⟩|fail)) (by repeat' (first|exact trivial|refine⟨rfl,?_⟩|fail)) rfl rfl)⟩
        ·have hse:s=v % 4:=by omega
         rw [hse] at hs2
         rw [← hs2] at hnext
         rcases r with _|⟨r1,rr⟩
         ·repeat refine zS ?_
          iterate 2 refine zX fA ?_
          refine oX (frz:=fA) (v:=.d (.int .i64 ((v % 4:Nat):Int))) Yo ?_ (he:=rfl)
          refine oX (frz:=fA) (v:=.d (.bool false)) Yo ?_ (he:=vF (by omega))
          repeat refine zS ?_
          iterate 3 refine zX fA ?_
          first|refine Run.tidy (tidy_of (objs:=_) [(0,.d (ints nums)),(2,.bp 0 0),(4,.bp 1 0),(5,.d (.int .i64 (M:Nat))),(6,.d (.int .i64 i)),(7,.d (.int .i64 x)),(8,.d (.int .i64 j)),(109,.sr 4 2 (encN ⟨pl,[]⟩ :: ps.map encN)),(110,.d (encN (⟨((16+i:Nat):Int),[]⟩:GProd)))] 6 (Eq.trans (b:=boxG0 :: boxA ((1+k % 2:Nat):Int) (kTok k) (.sr 2 1 (m0 :: (ml++[DV.str [83+i]]))) (.sr 4 2 (encN ⟨pl,[]⟩ :: ps.map encN)) :: .room (ml.length+1+1) 1 :: .box [.d (.int .i64 pl),.d .nilsl] :: .room (ps.length+1) 2 :: [.box [.d (.int .i64 ((16+i:Nat):Int)),.d .nilsl]]) rfl rfl) rfl (by repeat' (first|exact trivial|refine⟨(Or.inl rfl),?_⟩|refine⟨(Or.inr rfl),?_⟩|refine⟨rfl,?_⟩|fail)) (by repeat' (first|exact trivial|refine⟨(Or.inl rfl),?_⟩|refine⟨(Or.inr rfl),?_⟩|refine⟨rfl,?_⟩|fail)) rfl rfl) ?_|refine RunOps.tidy (tidy_of (objs:=_) [(0,.d (ints nums)),(2,.bp 0 0),(4,.bp 1 0),(5,.d (.int .i64 (M:Nat))),(6,.d (.int .i64 i)),(7,.d (.int .i64 x)),(8,.d (.int .i64 j)),(109,.sr 4 2 (encN ⟨pl,[]⟩ :: ps.map encN)),(110,.d (encN (⟨((16+i:Nat):Int),[]⟩:GProd)))] 6 (Eq.trans (b:=boxG0 :: boxA ((1+k % 2:Nat):Int) (kTok k) (.sr 2 1 (m0 :: (ml++[DV.str [83+i]]))) (.sr 4 2 (encN ⟨pl,[]⟩ :: ps.map encN)) :: .room (ml.length+1+1) 1 :: .box [.d (.int .i64 pl),.d .nilsl] :: .room (ps.length+1) 2 :: [.box [.d (.int .i64 ((16+i:Nat):Int)),.d .nilsl]]) rfl rfl) rfl (by repeat' (first|exact trivial|refine⟨(Or.inl rfl),?_⟩|refine⟨(Or.inr rfl),?_⟩|refine⟨rfl,?_⟩|fail)) (by repeat' (first|exact trivial|refine⟨(Or.inl rfl),?_⟩|refine⟨(Or.inr rfl),?_⟩|refine⟨rfl,?_⟩|fail)) rfl rfl) ?_
          refine zX fA ?_
          first|refine oX (frz:=fA) Yo ?_ (hv:=app1) (hf:=rfl) (he:=rfl)|refine eX ?_ (hv:=app1) (hf:=rfl) (he:=rfl)
          iterate 2 refine zX fA ?_
          repeat refine zS ?_
          refine zX fA ?_
          refine oX (frz:=fA) (v:=.d (.int .i64 ((j+1:Nat):Int))) Yo ?_ (he:=vN (by omega) (by omega))
          refine zX fA ?_
          repeat refine zS ?_
          exact⟨(j+1,⟨pl,[]⟩ :: (ps++[(⟨((16+i:Nat):Int),[]⟩:GProd)])),⟨by simp only<;>omega,hnext,by simp at hjb ⊢<;>omega⟩,by simp only<;>omega,(tidy_of (objs:=_) _ 5 (Eq.trans (b:=boxG0 :: boxA ((1+k % 2:Nat):Int) (kTok k) (.sr 2 1 (m0 :: (ml++[DV.str [83+i]]))) (.sr 4 2 (encN ⟨pl,[]⟩ :: (ps.map encN++[encN (⟨((16+i:Nat):Int),[]⟩:GProd)]))) :: .room (ml.length+1+1) 1 :: .box [.d (.int .i64 pl),.d .nilsl] :: [.room (ps.length+1+1) 2]) rfl (by first|rfl|(simp [psA,psO,psI,rowA,rowO,rgtD]<;>fail))) rfl (by repeat' (first|exact trivial|refine⟨(Or.inl rfl),?_⟩|refine⟨(Or.inr rfl),?_⟩|fail)) (by repeat' (first|exact trivial|refine⟨rfl,?_⟩|fail)) rfl rfl)⟩
         ·repeat refine zS ?_
          iterate 2 refine zX fA ?_
          refine oX (frz:=fA) (v:=.d (.int .i64 ((v % 4:Nat):Int))) Yo ?_ (he:=rfl)
          refine oX (frz:=fA) (v:=.d (.bool false)) Yo ?_ (he:=vF (by omega))
          repeat refine zS ?_
          iterate 3 refine zX fA ?_
          first|refine Run.tidy (tidy_of (objs:=_) [(0,.d (ints nums)),(2,.bp 0 0),(4,.bp 1 0),(5,.d (.int .i64 (M:Nat))),(6,.d (.int .i64 i)),(7,.d (.int .i64 x)),(8,.d (.int .i64 j)),(109,.sr 4 2 (encN ⟨pl,[]⟩ :: ps.map encN)),(110,.d (encN (⟨((16+i:Nat):Int),r1 :: rr⟩:GProd)))] 7 (Eq.trans (b:=boxG0 :: boxA ((1+k % 2:Nat):Int) (kTok k) (.sr 2 1 (m0 :: (ml++[DV.str [83+i]]))) (.sr 4 2 (encN ⟨pl,[]⟩ :: ps.map encN)) :: .room (ml.length+1+1) 1 :: .box [.d (.int .i64 pl),.d .nilsl] :: .room (ps.length+1) 2 :: .box [.d (.int .i64 ((16+i:Nat):Int)),.sr 6 1 (rgtD (r1 :: rr))] :: [.room ((rgtD rr).length+1) 1]) rfl rfl) rfl (by repeat' (first|exact trivial|refine⟨(Or.inl rfl),?_⟩|refine⟨(Or.inr rfl),?_⟩|refine⟨rfl,?_⟩|fail)) (by repeat' (first|exact trivial|refine⟨(Or.inl rfl),?_⟩|refine⟨(Or.inr rfl),?_⟩|refine⟨rfl,?_⟩|fail)) rfl rfl) ?_|refine RunOps.tidy (tidy_of (objs:=_) [(0,.d (ints nums)),(2,.bp 0 0),(4,.bp 1 0),(5,.d (.int .i64 (M:Nat))),(6,.d (.int .i64 i)),(7,.d (.int .i64 x)),(8,.d (.int .i64 j)),(109,.sr 4 2 (encN ⟨pl,[]⟩ :: ps.map encN)),(110,.d (encN (⟨((16+i:Nat):Int),r1 :: rr⟩:GProd)))] 7 (Eq.trans (b:=boxG0 :: boxA ((1+k % 2:Nat):Int) (kTok k) (.sr 2 1 (m0 :: (ml++[DV.str [83+i]]))) (.sr 4 2 (encN ⟨pl,[]⟩ :: ps.map encN)) :: .room (ml.length+1+1) 1 :: .box [.d (.int .i64 pl),.d .nilsl] :: .room (ps.length+1) 2 :: .box [.d (.int .i64 ((16+i:Nat):Int)),.sr 6 1 (rgtD (r1 :: rr))] :: [.room ((rgtD rr).length+1) 1]) rfl rfl) rfl (by repeat' (first|exact trivial|refine⟨(Or.inl rfl),?_⟩|refine⟨(Or.inr rfl),?_⟩|refine⟨rfl,?_⟩|fail)) (by repeat' (first|exact trivial|refine⟨(Or.inl rfl),?_⟩|refine⟨(Or.inr rfl),?_⟩|refine⟨rfl,?_⟩|fail)) rfl rfl) ?_
          refine zX fA ?_
          first|refine oX (frz:=fA) Yo ?_ (hv:=app1) (hf:=rfl) (he:=rfl)|refine eX ?_ (hv:=app1) (hf:=rfl) (he:=rfl)
          iterate 2 refine zX fA ?_
          repeat refine zS ?_
          refine zX fA ?_
          refine oX (frz:=fA) (v:=.d (.int .i64 ((j+1:Nat):Int))) Yo ?_ (he:=vN (by omega) (by omega))
          refine zX fA ?_
          repeat refine zS ?_
          exact⟨(j+1,⟨pl,[]⟩ :: (ps++[(⟨((16+i:Nat):Int),r1 :: rr⟩:GProd)])),⟨by simp only<;>omega,hnext,by simp at hjb ⊢<;>omega⟩,by simp only<;>omega,(tidy_of (objs:=_) _ 5 (Eq.trans (b:=boxG0 :: boxA ((1+k % 2:Nat):Int) (kTok k) (.sr 2 1 (m0 :: (ml++[DV.str [83+i]]))) (.sr 4 2 (encN ⟨pl,[]⟩ :: (ps.map encN++[encN (⟨((16+i:Nat):Int),r1 :: rr⟩:GProd)]))) :: .room (ml.length+1+1) 1 :: .box [.d (.int .i64 pl),.d .nilsl] :: [.room (ps.length+1+1) 2]) rfl (by first|rfl|(simp [psA,psO,psI,rowA,rowO,rgtD]<;>fail))) rfl (by repeat' (first|exact trivial|refine⟨(Or.inl rfl),?_⟩|refine⟨(Or.inr rfl),?_⟩|fail)) (by repeat' (first|exact trivial|refine⟨rfl,?_⟩|fail)) rfl rfl)⟩
       ·have hjc:ps.length+1<7:=by simpa using hjb
        repeat refine zS ?_
        iterate 2 refine zX fA ?_
        refine oX (frz:=fA) (v:=.d (.int .i64 ((x % 3:Nat):Int))) Yo ?_ (he:=rfl)
        refine oX (frz:=fA) (v:=.d (.bool true)) Yo ?_ (he:=vT (by omega))
        iterate 4 refine zX fA ?_
        refine oX (frz:=fA) (v:=.d (.bool true)) Yo ?_ (he:=vT (by simp at hjb ⊢<;>omega))
        refine zX fA ?_
        repeat refine zS ?_
        refine zX fA ?_
        refine oX (frz:=fA) (v:=.d (.int .i64 ((16+i:Nat):Int))) Yo ?_ (he:=vN (by omega) (by omega))
        iterate 3 refine zX fA ?_
        repeat refine zS ?_
        iterate 2 refine zX fA ?_
        refine oX (frz:=fA) (v:=.d (.int .i64 ((3*i:Nat):Int))) Yo ?_ (he:=vN (by omega) (by omega))
        refine oX (frz:=fA) (v:=.d (.int .i64 ((4+3*i:Nat):Int))) Yo ?_ (he:=vN (by omega) (by omega))
        refine zX fA ?_
        refine oX (frz:=fA) (v:=.d (.int .i64 ((4+3*i+j:Nat):Int))) Yo ?_ (he:=vN (by omega) (by omega))
        refine oC hat ?_
        refine oC hy ?_
        refine zX fA ?_
        repeat refine zS ?_
        refine zX fA ?_
        repeat refine zS ?_
        refine Run.loopT (fun z:Nat × List Int=>⟨PT.ofList [(0,.d (ints nums)),(2,.bp 0 0),(4,.bp 1 0),(5,.d (.int .i64 (M:Nat))),(6,.d (.int .i64 i)),(7,.d (.int .i64 x)),(8,.d (.int .i64 j)),(9,.bp 6 0),(10,.d (.int .i64 v)),(11,.d (.int .i64 z.1))],boxG0 :: boxA ((1+k % 2:Nat):Int) (kTok k) (.sr 2 1 (m0 :: (ml++[DV.str [83+i]]))) (.sr 5 2 (encN ⟨pl,r0 :: rl⟩ :: ps.map encN)) :: .room (ml.length+1+1) 1 :: .box [.d (.int .i64 pl),.sr 4 1 (rgtD (r0 :: rl))] :: .room ((rgtD rl).length+1) 1 :: .room (ps.length+1) 2 :: .box [.d (.int .i64 ((16+i:Nat):Int)),rowA 7 1 (rgtD z.2)] :: rowO 1 (rgtD z.2),[]⟩)
         (fun z=>z.1≤v % 4∧z.2=rgtTo T M v z.1) (fun z=>v % 4-z.1) (0,[]) ⟨Nat.zero_le _,rfl⟩ (tidy_of (objs:=_) _ 7 (by rfl) rfl (by repeat' (first|exact trivial|refine⟨(Or.inl rfl),?_⟩|refine⟨(Or.inr rfl),?_⟩|fail)) (by repeat' (first|exact trivial|refine⟨rfl,?_⟩|fail)) rfl rfl) (fun z hz=>?_)
        obtain⟨s,r⟩:=z
        obtain⟨hs1,hs2⟩:=hz
        simp only at hs1 hs2 ⊢
        have hrl:r.length=s:=by rw [hs2];simp [rgtTo]
        rcases Nat.lt_or_ge s (v % 4) with hsl|hsg
        ·have hnx:r++[((symN T M (zF v s):Nat):Int)]=rgtTo T M v (s+1):=by rw [hs2];simp [rgtTo,List.range_succ]
         rcases r with _|⟨r1,rr⟩
         ·have hrl':=hrl
          simp only [List.length_cons,List.length_nil] at hrl'
          repeat refine zS ?_
          iterate 2 refine zX fA ?_
          refine oX (frz:=fA) (v:=.d (.int .i64 ((v % 4:Nat):Int))) Yo ?_ (he:=rfl)
          refine oX (frz:=fA) (v:=.d (.bool true)) Yo ?_ (he:=vT (by omega))
          repeat refine zS ?_
          refine zX fA ?_
          refine oX (frz:=fA) (v:=.d (.int .i64 ((v / 4:Nat):Int))) Yo ?_ (he:=vN rfl (by omega))
          refine zX fA ?_
          refine oX (frz:=fA) (v:=.d (.int .i64 ((4*s:Nat):Int))) Yo ?_ (he:=vN (by omega) (by omega))
          refine oX (frz:=fA) (v:=.d (.int .u64 ((4*s:Nat):Int))) Yo ?_ (he:=vU64 (by omega))
          refine oX (frz:=fA) (v:=.d (.int .i64 ((v / 4 / 2 ^ (4*s):Nat):Int))) Yo ?_ (hf:=shrF (4*s)) (he:=congrArg (fun n=>AV.d (.int .i64 n)) (shrN (by omega)))
          refine oX (frz:=fA) (v:=.d (.int .i64 ((zF v s:Nat):Int))) Yo ?_ (he:=rfl)
          refine zX fA ?_
          repeat refine zS ?_
          refine zX fA ?_
          refine oX (frz:=fA) (v:=.d (.int .i64 ((zF v s % 5:Nat):Int))) Yo ?_ (he:=rfl)
          by_cases h5:zF v s % 5<3
          ·refine oX (frz:=fA) (v:=.d (.bool true)) Yo ?_ (he:=vT (by omega))
           have hsy:symN T M (zF v s)=zF v s % T:=if_pos h5
           rw [hsy] at hnx
           repeat refine zG fA ?_
           iterate 5 refine zX fA ?_
           first|refine oX (frz:=fA) (v:=.d (.int .i64 (T:Nat))) Yo ?_ (he:=(by rw [hT,List.length_map]))|refine eX (v:=.d (.int .i64 (T:Nat))) ?_ (he:=(by rw [hT,List.length_map]))
           refine eX (v:=.d (.int .i64 ((zF v s % T:Nat):Int))) ?_ (hf:=by simp<;>omega) (he:=rfl)
           iterate 1 refine zX fA ?_
           first|refine oX (frz:=fA) Yo ?_ (hv:=app0) (hf:=rfl) (he:=rfl)|refine eX ?_ (hv:=app0) (hf:=rfl) (he:=rfl)
           iterate 2 refine zX fA ?_
           repeat refine zG fA ?_
           refine zX fA ?_
           refine oX (frz:=fA) (v:=.d (.int .i64 ((s+1:Nat):Int))) Yo ?_ (he:=vN (by omega) (by omega))
           refine zX fA ?_
           repeat refine zS ?_
           exact⟨(s+1,_),⟨hsl,hnx⟩,by simp only<;>omega,(tidy_of (objs:=_) _ 8 (by rfl) rfl (by repeat' (first|exact trivial|refine⟨(Or.inl rfl),?_⟩|refine⟨(Or.inr rfl),?_⟩|fail)) (by repeat' (first|exact trivial|refine⟨rfl,?_⟩|fail)) rfl rfl)⟩
          ·refine oX (frz:=fA) (v:=.d (.bool false)) Yo ?_ (he:=vF (by omega))
           have hsy:symN T M (zF v s)=16+zF v s % M:=if_neg h5
           rw [hsy] at hnx
           repeat refine zG fA ?_
           iterate 4 refine zX fA ?_
           refine eX (v:=.d (.int .i64 ((zF v s % M:Nat):Int))) ?_ (hf:=by simp<;>omega) (he:=rfl)
           first|refine oX (frz:=fA) (v:=.d (.int .i64 ((16+zF v s % M:Nat):Int))) Yo ?_ (he:=(vN (by omega) (by have:=Nat.mod_lt (zF v s) (show 0<M by omega)<;>omega)))|refine eX (v:=.d (.int .i64 ((16+zF v s % M:Nat):Int))) ?_ (he:=(vN (by omega) (by have:=Nat.mod_lt (zF v s) (show 0<M by omega)<;>omega)))
           iterate 1 refine zX fA ?_
           first|refine oX (frz:=fA) Yo ?_ (hv:=app0) (hf:=rfl) (he:=rfl)|refine eX ?_ (hv:=app0) (hf:=rfl) (he:=rfl)
           iterate 2 refine zX fA ?_
           repeat refine zG fA ?_
           refine zX fA ?_
           refine oX (frz:=fA) (v:=.d (.int .i64 ((s+1:Nat):Int))) Yo ?_ (he:=vN (by omega) (by omega))
           refine zX fA ?_
           repeat refine zS ?_
           exact⟨(s+1,_),⟨hsl,hnx⟩,by simp only<;>omega,(tidy_of (objs:=_) _ 8 (by rfl) rfl (by repeat' (first|exact trivial|refine⟨(Or.inl rfl),?_⟩|refine⟨(Or.inr rfl),?_⟩|fail)) (by repeat' (first|exact trivial|refine⟨rfl,?_⟩|fail)) rfl rfl)⟩
         ·have hrl':=hrl
          simp only [List.length_cons,List.length_nil] at hrl'
          repeat refine zS ?_
          iterate 2 refine zX fA ?_
          refine oX (frz:=fA) (v:=.d (.int .i64 ((v % 4:Nat):Int))) Yo ?_ (he:=rfl)
          refine oX (frz:=fA) (v:=.d (.bool true)) Yo ?_ (he:=vT (by omega))
          repeat refine zS ?_
          refine zX fA ?_
          refine oX (frz:=fA) (v:=.d (.int .i64 ((v / 4:Nat):Int))) Yo ?_ (he:=vN rfl (by omega))
          refine zX fA ?_
          refine oX (frz:=fA) (v:=.d (.int .i64 ((4*s:Nat):Int))) Yo ?_ (he:=vN (by omega) (by omega))
          refine oX (frz:=fA) (v:=.d (.int .u64 ((4*s:Nat):Int))) Yo ?_ (he:=vU64 (by omega))
          refine oX (frz:=fA) (v:=.d (.int .i64 ((v / 4 / 2 ^ (4*s):Nat):Int))) Yo ?_ (hf:=shrF (4*s)) (he:=congrArg (fun n=>AV.d (.int .i64 n)) (shrN (by omega)))
          refine oX (frz:=fA) (v:=.d (.int .i64 ((zF v s:Nat):Int))) Yo ?_ (he:=rfl)
          refine zX fA ?_
          repeat refine zS ?_
          refine zX fA ?_
          refine oX (frz:=fA) (v:=.d (.int .i64 ((zF v s % 5:Nat):Int))) Yo ?_ (he:=rfl)
          by_cases h5:zF v s % 5<3
          ·refine oX (frz:=fA) (v:=.d (.bool true)) Yo ?_ (he:=vT (by omega))
           have hsy:symN T M (zF v s)=zF v s % T:=if_pos h5
           rw [hsy] at hnx
           repeat refine zG fA ?_
           iterate 5 refine zX fA ?_
           first|refine oX (frz:=fA) (v:=.d (.int .i64 (T:Nat))) Yo ?_ (he:=(by rw [hT,List.length_map]))|refine eX (v:=.d (.int .i64 (T:Nat))) ?_ (he:=(by rw [hT,List.length_map]))
           refine eX (v:=.d (.int .i64 ((zF v s % T:Nat):Int))) ?_ (hf:=by simp<;>omega) (he:=rfl)
           iterate 1 refine zX fA ?_
           first|refine oX (frz:=fA) Yo ?_ (hv:=app1) (hf:=rfl) (he:=rfl)|refine eX ?_ (hv:=app1) (hf:=rfl) (he:=rfl)
           iterate 2 refine zX fA ?_
           repeat refine zG fA ?_
           refine zX fA ?_
           refine oX (frz:=fA) (v:=.d (.int .i64 ((s+1:Nat):Int))) Yo ?_ (he:=vN (by omega) (by omega))
           refine zX fA ?_
           repeat refine zS ?_
           exact⟨(s+1,_),⟨hsl,hnx⟩,by simp only<;>omega,(tidy_of (objs:=_) _ 8 (by first|rfl|(simp only [rowO,rgtD,List.map_append,List.map_cons,List.map_nil,List.cons_append,List.length_append,List.length_cons,List.length_nil]<;>rfl)) rfl (by repeat' (first|exact trivial|refine⟨(Or.inl rfl),?_⟩|refine⟨(Or.inr rfl),?_⟩|fail)) (by repeat' (first|exact trivial|refine⟨rfl,?_⟩|fail)) rfl rfl)⟩
          ·refine oX (frz:=fA) (v:=.d (.bool false)) Yo ?_ (he:=vF (by omega))
           have hsy:symN T M (zF v s)=16+zF v s % M:=if_neg h5
           rw [hsy] at hnx
           repeat refine zG fA ?_
           iterate 4 refine zX fA ?_
           refine eX (v:=.d (.int .i64 ((zF v s % M:Nat):Int))) ?_ (hf:=by simp<;>omega) (he:=rfl)
           first|refine oX (frz:=fA) (v:=.d (.int .i64 ((16+zF v s % M:Nat):Int))) Yo ?_ (he:=(vN (by omega) (by have:=Nat.mod_lt (zF v s) (show 0<M by omega)<;>omega)))|refine eX (v:=.d (.int .i64 ((16+zF v s % M:Nat):Int))) ?_ (he:=(vN (by omega) (by have:=Nat.mod_lt (zF v s) (show 0<M by omega)<;>omega)))
           iterate 1 refine zX fA ?_
           first|refine oX (frz:=fA) Yo ?_ (hv:=app1) (hf:=rfl) (he:=rfl)|refine eX ?_ (hv:=app1) (hf:=rfl) (he:=rfl)
           iterate 2 refine zX fA ?_
           repeat refine zG fA ?_
           refine zX fA ?_
           refine oX (frz:=fA) (v:=.d (.int .i64 ((s+1:Nat):Int))) Yo ?_ (he:=vN (by omega) (by omega))
           refine zX fA ?_
           repeat refine zS ?_
           exact⟨(s+1,_),⟨hsl,hnx⟩,by simp only<;>omega,(tidy_of (objs:=_) _ 8 (by first|rfl|(simp only [rowO,rgtD,List.map_append,List.map_cons,List.map_nil,List.cons_append,List.length_append,List.length_cons,List.length_nil]<;>rfl)) rfl (by repeat' (first|exact trivial|refine⟨(Or.inl rfl),?_⟩|refine⟨(Or.inr rfl),?_⟩|fail)) (by repeat' (first|exact trivial|refine⟨rfl,?_⟩|fail)) rfl rfl)⟩
        ·have hse:s=v % 4:=by omega
         rw [hse] at hs2
         rw [← hs2] at hnext
         rcases r with _|⟨r1,rr⟩
         ·repeat refine zS ?_
          iterate 2 refine zX fA ?_
          refine oX (frz:=fA) (v:=.d (.int .i64 ((v % 4:Nat):Int))) Yo ?_ (he:=rfl)
          refine oX (frz:=fA) (v:=.d (.bool false)) Yo ?_ (he:=vF (by omega))
          repeat refine zS ?_
          iterate 3 refine zX fA ?_
          first|refine Run.tidy (tidy_of (objs:=_) [(0,.d (ints nums)),(2,.bp 0 0),(4,.bp 1 0),(5,.d (.int .i64 (M:Nat))),(6,.d (.int .i64 i)),(7,.d (.int .i64 x)),(8,.d (.int .i64 j)),(109,.sr 5 2 (encN ⟨pl,r0 :: rl⟩ :: ps.map encN)),(110,.d (encN (⟨((16+i:Nat):Int),[]⟩:GProd)))] 7 (Eq.trans (b:=boxG0 :: boxA ((1+k % 2:Nat):Int) (kTok k) (.sr 2 1 (m0 :: (ml++[DV.str [83+i]]))) (.sr 5 2 (encN ⟨pl,r0 :: rl⟩ :: ps.map encN)) :: .room (ml.length+1+1) 1 :: .box [.d (.int .i64 pl),.sr 4 1 (rgtD (r0 :: rl))] :: .room ((rgtD rl).length+1) 1 :: .room (ps.length+1) 2 :: [.box [.d (.int .i64 ((16+i:Nat):Int)),.d .nilsl]]) rfl rfl) rfl (by repeat' (first|exact trivial|refine⟨(Or.inl rfl),?_⟩|refine⟨(Or.inr rfl),?_⟩|refine⟨rfl,?_⟩|fail)) (by repeat' (first|exact trivial|refine⟨(Or.inl rfl),?_⟩|refine⟨(Or.inr rfl),?_⟩|refine⟨rfl,?_⟩|fail)) rfl rfl) ?_|refine RunOps.tidy (tidy_of (objs:=_) [(0,.d (ints nums)),(2,.bp 0 0),(4,.bp 1 0),(5,.d (.int .i64 (M:Nat))),(6,.d (.int .i64 i)),(7,.d (.int .i64 x)),(8,.d (.int .i64 j)),(109,.sr 5 2 (encN ⟨pl,r0 :: rl⟩ :: ps.map encN)),(110,.d (encN (⟨((16+i:Nat):Int),[]⟩:GProd)))] 7 (Eq.trans (b:=boxG0 :: boxA ((1+k % 2:Nat):Int) (kTok k) (.sr 2 1 (m0 :: (ml++[DV.str [83+i]]))) (.sr 5 2 (encN ⟨pl,r0 :: rl⟩ :: ps.map encN)) :: .room (ml.length+1+1) 1 :: .box [.d (.int .i64 pl),.sr 4 1 (rgtD (r0 :: rl))] :: .room ((rgtD rl).length+1) 1 :: .room (ps.length+1) 2 :: [.box [.d (.int .i64 ((16+i:Nat):Int)),.d .nilsl]]) rfl rfl) rfl (by repeat' (first|exact trivial|refine⟨(Or.inl rfl),?_⟩|refine⟨(Or.inr rfl),?_⟩|refine⟨rfl,?_⟩|fail)) (by repeat' (first|exact trivial|refine⟨(Or.inl rfl),?_⟩|refine⟨(Or.inr rfl),?_⟩|refine⟨rfl,?_⟩|fail)) rfl rfl) ?_
          refine zX fA ?_
          first|refine oX (frz:=fA) Yo ?_ (hv:=app1) (hf:=rfl) (he:=rfl)|refine eX ?_ (hv:=app1) (hf:=rfl) (he:=rfl)
          iterate 2 refine zX fA ?_
          repeat refine zS ?_
          refine zX fA ?_
          refine oX (frz:=fA) (v:=.d (.int .i64 ((j+1:Nat):Int))) Yo ?_ (he:=vN (by omega) (by omega))
          refine zX fA ?_
          repeat refine zS ?_
          exact⟨(j+1,⟨pl,r0 :: rl⟩ :: (ps++[(⟨((16+i:Nat):Int),[]⟩:GProd)])),⟨by simp only<;>omega,hnext,by simp at hjb ⊢<;>omega⟩,by simp only<;>omega,(tidy_of (objs:=_) _ 6 (Eq.trans (b:=boxG0 :: boxA ((1+k % 2:Nat):Int) (kTok k) (.sr 2 1 (m0 :: (ml++[DV.str [83+i]]))) (.sr 5 2 (encN ⟨pl,r0 :: rl⟩ :: (ps.map encN++[encN (⟨((16+i:Nat):Int),[]⟩:GProd)]))) :: .room (ml.length+1+1) 1 :: .box [.d (.int .i64 pl),.sr 4 1 (rgtD (r0 :: rl))] :: .room ((rgtD rl).length+1) 1 :: [.room (ps.length+1+1) 2]) rfl (by first|rfl|(simp [psA,psO,psI,rowA,rowO,rgtD]<;>fail))) rfl (by repeat' (first|exact trivial|refine⟨(Or.inl rfl),?_⟩|refine⟨(Or.inr rfl),?_⟩|fail)) (by repeat' (first|exact trivial|refine⟨rfl,?_⟩|fail)) rfl rfl)⟩
         ·repeat refine zS ?_
          iterate 2 refine zX fA ?_
          refine oX (frz:=fA) (v:=.d (.int .i64 ((v % 4:Nat):Int))) Yo ?_ (he:=rfl)
          refine oX (frz:=fA) (v:=.d (.bool false)) Yo ?_ (he:=vF (by omega))
          repeat refine zS ?_
          iterate 3 refine zX fA ?_
          first|refine Run.tidy (tidy_of (objs:=_) [(0,.d (ints nums)),(2,.bp 0 0),(4,.bp 1 0),(5,.d (.int .i64 (M:Nat))),(6,.d (.int .i64 i)),(7,.d (.int .i64 x)),(8,.d (.int .i64 j)),(109,.sr 5 2 (encN ⟨pl,r0 :: rl⟩ :: ps.map encN)),(110,.d (encN (⟨((16+i:Nat):Int),r1 :: rr⟩:GProd)))] 8 (Eq.trans (b:=boxG0 :: boxA ((1+k % 2:Nat):Int) (kTok k) (.sr 2 1 (m0 :: (ml++[DV.str [83+i]]))) (.sr 5 2 (encN ⟨pl,r0 :: rl⟩ :: ps.map encN)) :: .room (ml.length+1+1) 1 :: .box [.d (.int .i64 pl),.sr 4 1 (rgtD (r0 :: rl))] :: .room ((rgtD rl).length+1) 1 :: .room (ps.length+1) 2 :: .box [.d (.int .i64 ((16+i:Nat):Int)),.sr 7 1 (rgtD (r1 :: rr))] :: [.room ((rgtD rr).length+1) 1]) rfl rfl) rfl (by repeat' (first|exact trivial|refine⟨(Or.inl rfl),?_⟩|refine⟨(Or.inr rfl),?_⟩|refine⟨rfl,?_⟩|fail)) (by repeat' (first|exact trivial|refine⟨(Or.inl rfl),?_⟩|refine⟨(Or.inr rfl),?_⟩|refine⟨rfl,?_⟩|fail)) rfl rfl) ?_|refine RunOps.tidy (tidy_of (objs:=_) [(0,.d (ints nums)),(2,.bp 0 0),(4,.bp 1 0),(5,.d (.int .i64 (M:Nat))),(6,.d (.int .i64 i)),(7,.d (.int .i64 x)),(8,.d (.int .i64 j)),(109,.sr 5 2 (encN ⟨pl,r0 :: rl⟩ :: ps.map encN)),(110,.d (encN (⟨((16+i:Nat):Int),r1 :: rr⟩:GProd)))] 8 (Eq.trans (b:=boxG0 :: boxA ((1+k % 2:Nat):Int) (kTok k) (.sr 2 1 (m0 :: (ml++[DV.str [83+i]]))) (.sr 5 2 (encN ⟨pl,r0 :: rl⟩ :: ps.map encN)) :: .room (ml.length+1+1) 1 :: .box [.d (.int .i64 pl),.sr 4 1 (rgtD (r0 :: rl))] :: .room ((rgtD rl).length+1) 1 :: .room (ps.length+1) 2 :: .box [.d (.int .i64 ((16+i:Nat):Int)),.sr 7 1 (rgtD (r1 :: rr))] :: [.room ((rgtD rr).length+1) 1]) rfl rfl) rfl (by repeat' (first|exact trivial|refine⟨(Or.inl rfl),?_⟩|refine⟨(Or.inr rfl),?_⟩|refine⟨rfl,?_⟩|fail)) (by repeat' (first|exact trivial|refine⟨(Or.inl rfl),?_⟩|refine⟨(Or.inr rfl),?_⟩|refine⟨rfl,?_⟩|fail)) rfl rfl) ?_
          refine zX fA ?_
          first|refine oX (frz:=fA) Yo ?_ (hv:=app1) (hf:=rfl) (he:=rfl)|refine eX ?_ (hv:=app1) (hf:=rfl) (he:=rfl)
          iterate 2 refine zX fA ?_
          repeat refine zS ?_
          refine zX fA ?_
          refine oX (frz:=fA) (v:=.d (.int .i64 ((j+1:Nat):Int))) Yo ?_ (he:=vN (by omega) (by omega))
          refine zX fA ?_
          repeat refine zS ?_
          exact⟨(j+1,⟨pl,r0 :: rl⟩ :: (ps++[(⟨((16+i:Nat):Int),r1 :: rr⟩:GProd)])),⟨by simp only<;>omega,hnext,by simp at hjb ⊢<;>omega⟩,by simp only<;>omega,(tidy_of (objs:=_) _ 6 (Eq.trans (b:=boxG0 :: boxA ((1+k % 2:Nat):Int) (kTok k) (.sr 2 1 (m0 :: (ml++[DV.str [83+i]]))) (.sr 5 2 (encN ⟨pl,r0 :: rl⟩ :: (ps.map encN++[encN (⟨((16+i:Nat):Int),r1 :: rr⟩:GProd)]))) :: .room (ml.length+1+1) 1 :: .box [.d (.int .i64 pl),.sr 4 1 (rgtD (r0 :: rl))] :: .room ((rgtD rl).length+1) 1 :: [.room (ps.length+1+1) 2]) rfl (by first|rfl|(simp [psA,psO,psI,rowA,rowO,rgtD]<;>fail))) rfl (by repeat' (first|exact trivial|refine⟨(Or.inl rfl),?_⟩|refine⟨(Or.inr rfl),?_⟩|fail)) (by repeat' (first|exact trivial|refine⟨rfl,?_⟩|fail)) rfl rfl)⟩
     ·have hz:acc≠[]:=fun hz=>by
       rw [hz] at hj2 hj
       have hr0:=(List.append_eq_nil_iff.1 hj2.symm).2
       have:j=0:=by simpa [rowTo] using hr0
       exact hj ⟨by omega,by simp⟩
      have hacc':acc=accTo nums T M (i+1):=by
       simp only [accTo,← hxe]
       by_cases h7:acc.length<7
       ·have hje:j=x % 3+1:=by have:¬ j≤x % 3:=fun h=>hj ⟨h,h7⟩;omega
        rw [← hje,← hj2,List.take_of_length_le hj3]
       ·have h7':acc.length=7:=by omega
        obtain⟨d,hd⟩:∃ d,x % 3+1=j+d:=⟨x % 3+1-j,by omega⟩
        have hro:rowTo nums T M i (x % 3+1)=rowTo nums T M i j++(List.range' j d).map (prodN nums T M i):=by
         rw [hd,rowTo,rowTo,← List.map_append,range_split]
        rw [hro,← List.append_assoc,← hj2,← h7',List.take_left]
      rcases acc with _|⟨⟨pl,pr⟩,ps⟩
      ·exact absurd rfl hz
      ·rcases pr with _|⟨r0,rl⟩
       ·by_cases hja:j≤x % 3
        ·have h7:¬ (ps.length+1<7):=fun h=>hj ⟨hja,by simpa using h⟩
         repeat refine zS ?_
         iterate 2 refine zX fA ?_
         refine oX (frz:=fA) (v:=.d (.int .i64 ((x % 3:Nat):Int))) Yo ?_ (he:=rfl)
         refine oX (frz:=fA) (v:=.d (.bool true)) Yo ?_ (he:=vT (by omega))
         iterate 4 refine zX fA ?_
         refine oX (frz:=fA) (v:=.d (.bool false)) Yo ?_ (he:=vF (by simp<;>omega))
         refine zX fA ?_
         repeat refine zS ?_
         refine zX fA ?_
         refine oX (frz:=fA) (v:=.d (.int .i64 ((i+1:Nat):Int))) Yo ?_ (he:=vN (by omega) (by omega))
         refine zX fA ?_
         repeat refine zS ?_
         exact⟨(i+1,m0 :: (ml++[DV.str [83+i]]),⟨pl,[]⟩ :: ps),⟨hlt,hns',hacc'⟩,by simp only<;>omega,(tidy_of (objs:=_) _ 5 (Eq.trans (b:=boxG0 :: boxA ((1+k % 2:Nat):Int) (kTok k) (.sr 2 1 (m0 :: (ml++[DV.str [83+i]]))) (.sr 4 2 (encN ⟨pl,[]⟩ :: ps.map encN)) :: .room (ml.length+1+1) 1 :: .box [.d (.int .i64 pl),.d .nilsl] :: [.room (ps.length+1) 2]) rfl (by first|rfl|(simp [psA,psO,psI,rowA,rowO,rgtD]<;>fail))) rfl (by repeat' (first|exact trivial|refine⟨(Or.inl rfl),?_⟩|refine⟨(Or.inr rfl),?_⟩|fail)) (by repeat' (first|exact trivial|refine⟨rfl,?_⟩|fail)) rfl rfl)⟩
        ·repeat refine zS ?_
         iterate 2 refine zX fA ?_
         refine oX (frz:=fA) (v:=.d (.int .i64 ((x % 3:Nat):Int))) Yo ?_ (he:=rfl)
         refine oX (frz:=fA) (v:=.d (.bool false)) Yo ?_ (he:=vF (by omega))
         refine zX fA ?_
         refine oS ?_
         refine oS ?_
         refine oS ?_
         refine oS ?_
         refine zX fA ?_
         repeat refine zS ?_
         refine zX fA ?_
         refine oX (frz:=fA) (v:=.d (.int .i64 ((i+1:Nat):Int))) Yo ?_ (he:=vN (by omega) (by omega))
         refine zX fA ?_
         repeat refine zS ?_
         exact⟨(i+1,m0 :: (ml++[DV.str [83+i]]),⟨pl,[]⟩ :: ps),⟨hlt,hns',hacc'⟩,by simp only<;>omega,(tidy_of (objs:=_) _ 5 (Eq.trans (b:=boxG0 :: boxA ((1+k % 2:Nat):Int) (kTok k) (.sr 2 1 (m0 :: (ml++[DV.str [83+i]]))) (.sr 4 2 (encN ⟨pl,[]⟩ :: ps.map encN)) :: .room (ml.length+1+1) 1 :: .box [.d (.int .i64 pl),.d .nilsl] :: [.room (ps.length+1) 2]) rfl (by first|rfl|(simp [psA,psO,psI,rowA,rowO,rgtD]<;>fail))) rfl (by repeat' (first|exact trivial|refine⟨(Or.inl rfl),?_⟩|refine⟨(Or.inr rfl),?_⟩|fail)) (by repeat' (first|exact trivial|refine⟨rfl,?_⟩|fail)) rfl rfl)⟩
       ·by_cases hja:j≤x % 3
        ·have h7:¬ (ps.length+1<7):=fun h=>hj ⟨hja,by simpa using h⟩
         repeat refine zS ?_
         iterate 2 refine zX fA ?_
         refine oX (frz:=fA) (v:=.d (.int .i64 ((x % 3:Nat):Int))) Yo ?_ (he:=rfl)
         refine oX (frz:=fA) (v:=.d (.bool true)) Yo ?_ (he:=vT (by omega))
         iterate 4 refine zX fA ?_
         refine oX (frz:=fA) (v:=.d (.bool false)) Yo ?_ (he:=vF (by simp<;>omega))
         refine zX fA ?_
         repeat refine zS ?_
         refine zX fA ?_
         refine oX (frz:=fA) (v:=.d (.int .i64 ((i+1:Nat):Int))) Yo ?_ (he:=vN (by omega) (by omega))
         refine zX fA ?_
         repeat refine zS ?_
         exact⟨(i+1,m0 :: (ml++[DV.str [83+i]]),⟨pl,r0 :: rl⟩ :: ps),⟨hlt,hns',hacc'⟩,by simp only<;>omega,(tidy_of (objs:=_) _ 6 (Eq.trans (b:=boxG0 :: boxA ((1+k % 2:Nat):Int) (kTok k) (.sr 2 1 (m0 :: (ml++[DV.str [83+i]]))) (.sr 5 2 (encN ⟨pl,r0 :: rl⟩ :: ps.map encN)) :: .room (ml.length+1+1) 1 :: .box [.d (.int .i64 pl),.sr 4 1 (rgtD (r0 :: rl))] :: .room ((rgtD rl).length+1) 1 :: [.room (ps.length+1) 2]) rfl (by first|rfl|(simp [psA,psO,psI,rowA,rowO,rgtD]<;>fail))) rfl (by repeat' (first|exact trivial|refine⟨(Or.inl rfl),?_⟩|refine⟨(Or.inr rfl),?_⟩|fail)) (by repeat' (first|exact trivial|refine⟨rfl,?_⟩|fail)) rfl rfl)⟩
        ·repeat refine zS ?_
         iterate 2 refine zX fA ?_
         refine oX (frz:=fA) (v:=.d (.int .i64 ((x % 3:Nat):Int))) Yo ?_ (he:=rfl)
         refine oX (frz:=fA) (v:=.d (.bool false)) Yo ?_ (he:=vF (by omega))
         refine zX fA ?_
         refine oS ?_
         refine oS ?_
         refine oS ?_
         refine oS ?_
         refine zX fA ?_
         repeat refine zS ?_
         refine zX fA ?_
         refine oX (frz:=fA) (v:=.d (.int .i64 ((i+1:Nat):Int))) Yo ?_ (he:=vN (by omega) (by omega))
         refine zX fA ?_
         repeat refine zS ?_
         exact⟨(i+1,m0 :: (ml++[DV.str [83+i]]),⟨pl,r0 :: rl⟩ :: ps),⟨hlt,hns',hacc'⟩,by simp only<;>omega,(tidy_of (objs:=_) _ 6 (Eq.trans (b:=boxG0 :: boxA ((1+k % 2:Nat):Int) (kTok k) (.sr 2 1 (m0 :: (ml++[DV.str [83+i]]))) (.sr 5 2 (encN ⟨pl,r0 :: rl⟩ :: ps.map encN)) :: .room (ml.length+1+1) 1 :: .box [.d (.int .i64 pl),.sr 4 1 (rgtD (r0 :: rl))] :: .room ((rgtD rl).length+1) 1 :: [.room (ps.length+1) 2]) rfl (by first|rfl|(simp [psA,psO,psI,rowA,rowO,rgtD]<;>fail))) rfl (by repeat' (first|exact trivial|refine⟨(Or.inl rfl),?_⟩|refine⟨(Or.inr rfl),?_⟩|fail)) (by repeat' (first|exact trivial|refine⟨rfl,?_⟩|fail)) rfl rfl)⟩
 ·have hie:i=M:=by omega
  subst hie
  rcases ns with _|⟨m0,ml⟩
  ·exfalso
   cases i with|zero=>omega|succ i=>simp [nsD,namesTo,List.range_succ] at hns
  ·rcases acc with _|⟨⟨ql,qr⟩,qs⟩
   ·exfalso
    cases i with|zero=>omega|succ i=>exact acc_ne nums T i.succ i hacc.symm
   ·rw [show strs (namesTo i)=.sl 1 (m0 :: ml) from congrArg (DV.sl 1) hns.symm,← hacc]
    rcases qr with _|⟨u0,ul⟩
    ·repeat refine zG fA ?_
     iterate 2 refine zX fA ?_
     refine oX (frz:=fA) (v:=.d (.bool false)) Yo ?_ (he:=vF (by omega))
     repeat' (first|refine zW fA ?_|((refine zB fA (fun h=>?_) (fun h=>?_))<;>(first|exact zk h|skip))|refine zX fA ?_|(refine zE ?_;(rfl))|fail)
    ·repeat refine zG fA ?_
     iterate 2 refine zX fA ?_
     refine oX (frz:=fA) (v:=.d (.bool false)) Yo ?_ (he:=vF (by omega))
     repeat' (first|refine zW fA ?_|((refine zB fA (fun h=>?_) (fun h=>?_))<;>(first|exact zk h|skip))|refine zX fA ?_|(refine zE ?_;(rfl))|fail)
theorem anyS (nums:List Int) (hn:∀ n ∈ nums,W64 n):KnownCall Tryz.prog 52 [ints nums] (.d (encG (anyF nums))):=by
 refine known_toN (anyS0 nums hn) (.agg rfl fun j x y hx hy=>?_)
 match j with
 |0|1|2|3|4=>simp at hx hy;subst hx hy;exact .refl
 |5=>simp at hx hy;subst hx hy;exact encN_to _
 |j+6=>simp at hx
end Go.Av
end
noncomputable section
namespace Go.Av
open Go Go.Proofs
set_option maxRecDepth 10000
end Go.Av
end
noncomputable section
namespace Go.Av
open Go Go.Proofs
set_option maxRecDepth 10000
def isS (n:Nat):Option (AV × Option (List Ob))→Bool
 |some (.d (.str [m]),none)=>Nat.beq m n
 |_=>false
theorem isS_eq {n:Nat} {x:Option (AV × Option (List Ob))} (h:isS n x=true):x=some (.d (.str [n]),none):=by
 unfold isS at h
 split at h
 ·rw [Nat.eq_of_beq_eq_true h]
 ·cases h
theorem vbS (n:Nat) (h:n<128):KnownCall Tryz.prog 208 [.int .u64 (n:Nat)] (.d (.str [n])):=by
 have hall:upTo 128 (fun n=>isS n (evBoth Et Ft.get? (hdlM T0 Et Ft.get? 1000 20) 1000 208 ([DV.int .u64 (n:Nat)].map .d) []))=true:=by kernel_rfl
 exact known T0_ok Yo (by kernel_rfl) Ft_ok (isS_eq (upTo_get hall n h))
theorem wrapU {n:Nat} (h:n≤1099511627776):AV.d (.int .u64 (IntKind.u64.wrap (n:Int)))=.d (.int .u64 (n:Nat)):=by
 have:IntKind.u64.wrap (n:Int)=n:=IntWalk.u64_in n ⟨by omega,by omega⟩
 rw [this]
abbrev wrC (s:List Nat):List AV:=[.d (.str s),.d (.int .i64 20000),.d (.int .i64 0)]
abbrev wrD (s:List Nat):DV:=.agg [.str s,.int .i64 20000,.int .i64 0]
abbrev wr0:Ob:=.box [.d (.str []),.d (.int .i64 0),.d (.int .i64 0)]
def strsC (l:List (List Nat)):List Nat:=l.flatMap fun x=>x.length :: x
def namesC (l:List (List Nat)):List Nat:=l.length :: strsC l
def pairC (l:List (List Nat)):List (List Nat):=l.flatMap fun x=>[[x.length],x]
theorem pairC_flat (l:List (List Nat)):(pairC l).flatten=strsC l:=by
 induction l with
 |nil=>rfl
 |cons a l ih=>simp only [pairC,strsC,List.flatMap_cons,List.flatten_append] at ih ⊢;rw [ih];simp
theorem makeS:KnownCall Tryz.prog 135 [.int .i64 20000] (.d (wrD [])):=known T0_ok Yo (by kernel_rfl) Ft_ok (k:=1000) (n:=20) (by kernel_rfl)
theorem startA (s:List Nat) (hs:s.length≤20000):ACall Tryz.prog 206 [.d (wrD s)] [] (.bp 1 0) [.box (wrC s),.box (wrC s)]:=by
 refine acall_of_run Yo (fnAt Tryz.func206 (by kernel_rfl) (by kernel_rfl):FnAt _ _ (mkFn Tryz.f206 [])) rfl rfl ?_
 repeat' (first|refine zW [] ?_|((refine zB [] (fun h=>?_) (fun h=>?_))<;>(first|exact zk h|skip))|refine zX [] ?_|(refine zE ?_;(skip))|((exfalso;(simp at h<;>omega)))|fail)
 refine Yt ?_
 exact⟨trivial,rfl,rfl⟩
theorem flatT {l:List (List Nat)} {i:Nat} {x:List Nat} (h:l[i]?=some x):(l.take (i+1)).flatten=(l.take i).flatten++x:=by
 rw [List.take_add_one,h];simp
theorem flatT_le (l:List (List Nat)) (i:Nat):((l.take i).flatten).length≤(l.flatten).length:=by
 conv=>rhs;rw [← List.take_append_drop i l,List.flatten_append,List.length_append]
 omega
set_option maxHeartbeats 1000000 in
theorem writeW (O P:Ob) (s:List Nat) (l:List (List Nat)) (h0:(s++l.flatten).length≤20000) (hl:l.length≤4194304) :
  ACall Tryz.prog 209 [.bp 2 0,.d (strs l)] [O,P,.box (wrC s)] (.d (wrD (s++l.flatten))) [O,P,.box (wrC (s++l.flatten)),.box (wrC (s++l.flatten))]:=by
 rw [List.length_append] at h0
 have h1:AV.d (.int .i64 (IntKind.i64.wrap (20000-(s.length:Int))))=.d (.int .i64 ((20000-s.length:Nat):Int)):=vN8 (by omega) (by omega)
 refine acall_of_run Yo (fnAt Tryz.func209 (by kernel_rfl) (by kernel_rfl):FnAt _ _ (mkFn Tryz.f209 [])) rfl rfl ?_
 repeat' (first|refine oX (frz:=[]) (v:=.d (.int .i64 ((20000-s.length:Nat):Int))) Yo ?_ (he:=(h1))|refine eX (v:=.d (.int .i64 ((20000-s.length:Nat):Int))) ?_ (he:=(h1))|refine zW [] ?_|((refine zB [] (fun h=>?_) (fun h=>?_))<;>(first|exact zk h|skip))|refine zX [] ?_|(refine zE ?_;(skip))|((exfalso;(simp at h<;>omega)))|fail)
 refine Run.loop (fun i:Nat=>⟨PT.ofList [(0,.bp 2 0),(1,.d (strs l)),(4,.bp 3 0),(5,.d (.int .i64 ((20000-s.length-((l.take i).flatten).length:Nat):Int))),(32,.d (strs l)),(33,.d (.int .i64 (l.map DV.str).length)),(34,.d (.int .i64 i))],[O,P,.box (wrC s),wr0],[]⟩) (fun i=>i≤l.length) (fun i=>l.length-i) 0 (Nat.zero_le _) (weak_of (by repeat' (first|exact trivial|refine⟨rfl,?_⟩))) (fun i hi=>?_)
 rcases Nat.lt_or_ge i l.length with hlt|hge
 ·obtain⟨x,hx⟩:=get_ok hlt
  have hfl:=congrArg List.length (flatT hx)
  have hle:=flatT_le l (i+1)
  rw [List.length_append] at hfl
  have h2:AV.d (.int .i64 (IntKind.i64.wrap (((20000-s.length-((l.take i).flatten).length:Nat):Int)-(x.length:Int))))=.d (.int .i64 ((20000-s.length-((l.take (i+1)).flatten).length:Nat):Int)):=vN8 (by omega) (by omega)
  repeat' (first|refine oX (frz:=[]) (v:=.d (.int .i64 ((20000-s.length-((l.take (i+1)).flatten).length:Nat):Int))) Yo ?_ (he:=(h2))|refine eX (v:=.d (.int .i64 ((20000-s.length-((l.take (i+1)).flatten).length:Nat):Int))) ?_ (he:=(h2))|refine zW [] ?_|((refine zB [] (fun h=>?_) (fun h=>?_))<;>(first|exact zk h|skip))|refine zX [] ?_|refine oX (frz:=[]) (v:=.d (.ep [.str x])) Yo ?_ (hf:=(by first|(simp [inB]<;>fail)|(simp [inB];omega))) (he:=(by first|(simp [List.getD_eq_getElem?_getD,cellsD,hx]<;>fail)|fail))|refine eX (v:=.d (.ep [.str x])) ?_ (hf:=(by first|(simp [inB]<;>fail)|(simp [inB];omega))) (he:=(by first|(simp [List.getD_eq_getElem?_getD,cellsD,hx]<;>fail)|fail))|(refine zE ?_;(skip))|(exact⟨i+1,hlt,by omega,weak_of (by repeat' (first|exact trivial|refine⟨rfl,?_⟩|refine⟨(inc_get (k:=i) (by kernel_rfl) (by omega)),?_⟩))⟩)|((exfalso;have h':=of_decide_eq_true h;omega))|fail)
 ·have hie:i=l.length:=by omega
  subst hie
  repeat' (first|refine zW [] ?_|((refine zB [] (fun h=>?_) (fun h=>?_))<;>(first|exact zk h|skip))|refine zX [] ?_|(refine zE ?_;(skip))|((exfalso;(simp at h<;>omega)))|fail)
  refine Run.loop (fun i:Nat=>⟨PT.ofList [(0,.bp 2 0),(1,.d (strs l)),(4,.bp 3 0),(55,.d (strs l)),(56,.d (.int .i64 (l.map DV.str).length)),(57,.d (.int .i64 i))],[O,P,.box (wrC (s++(l.take i).flatten)),wr0],[]⟩) (fun i=>i≤l.length) (fun i=>l.length-i) 0 (Nat.zero_le _) (weak_of' (by rw [List.take_zero,List.flatten_nil,List.append_nil]) rfl (by repeat' (first|exact trivial|refine⟨rfl,?_⟩))) (fun i hi=>?_)
  rcases Nat.lt_or_ge i l.length with hlt|hge
  ·obtain⟨x,hx⟩:=get_ok hlt
   have hft:=flatT hx
   have hfl:=congrArg List.length hft
   have hle:=flatT_le l (i+1)
   rw [List.length_append] at hfl
   repeat' (first|refine zW [] ?_|((refine zB [] (fun h=>?_) (fun h=>?_))<;>(first|exact zk h|skip))|refine zX [] ?_|refine oX (frz:=[]) (v:=.d (.ep [.str x])) Yo ?_ (hf:=(by first|(simp [inB]<;>fail)|(simp [inB];omega))) (he:=(by first|(simp [List.getD_eq_getElem?_getD,cellsD,hx]<;>fail)|fail))|refine eX (v:=.d (.ep [.str x])) ?_ (hf:=(by first|(simp [inB]<;>fail)|(simp [inB];omega))) (he:=(by first|(simp [List.getD_eq_getElem?_getD,cellsD,hx]<;>fail)|fail))|refine oX (frz:=[]) Yo ?_ (hf:=by rw [Nat.ble_eq,List.length_append];omega)|(refine zE ?_;(skip))|(exact⟨i+1,hlt,by omega,weak_of' (by rw [hft,← List.append_assoc];rfl) rfl (by repeat' (first|exact trivial|refine⟨rfl,?_⟩|refine⟨(inc_get (k:=i) (by kernel_rfl) (by omega)),?_⟩))⟩)|((exfalso;(simp at h<;>omega)))|fail)
  ·have hie:i=l.length:=by omega
   subst hie
   rw [List.take_length]
   repeat' (first|refine zW [] ?_|((refine zB [] (fun h=>?_) (fun h=>?_))<;>(first|exact zk h|skip))|refine zX [] ?_|(refine zE ?_;(skip))|((exfalso;(simp at h<;>omega)))|fail)
   refine Yt ?_
   exact⟨trivial,rfl,rfl⟩
theorem putV (s:List Nat) (n:Nat) (hn:n<128) (hs:s.length+1≤20000):KnownCall Tryz.prog 207 [wrD s,.int .u64 (n:Nat)] (.d (wrD (s++[n]))):=by
 have c1:=fun O=>ACall.lift (ds:=[wrD s]) (startA s (by omega)) rfl O
 have c2:=vbS n hn
 have c3:=fun O P=>writeW O P s [[n]] (by simp;omega) (by simp)
 refine knownE Yo (fnAt Tryz.func207 (by kernel_rfl) (by kernel_rfl):FnAt _ _ (mkFn Tryz.f207 [2,9])) ?_
 repeat' (first|refine zW [2,9] ?_|((refine zB [2,9] (fun h=>?_) (fun h=>?_))<;>(first|exact zk h|skip))|refine zX [2,9] ?_|refine oA (c1 _) ?_|refine zC (c2) ?_|refine oA (c3 _ _) ?_|(refine zE ?_;(rfl))|fail)
set_option maxHeartbeats 1000000 in
theorem putStr (s:List Nat) (l:List (List Nat)) (hl:∀ x ∈ l,x.length<128) (hn:l.length≤1048576) (hs:(s++strsC l).length≤20000):KnownCall Tryz.prog 138 [wrD s,strs l] (.d (wrD (s++strsC l))):=by
 rw [List.length_append] at hs
 have c1:=fun O=>ACall.lift (ds:=[wrD s]) (startA s (by omega)) rfl O
 have hpl:(pairC l).length≤2*l.length:=by
  clear c1 hs hn hl
  induction l with
  |nil=>simp [pairC]
  |cons a l ih=>simp only [pairC,List.flatMap_cons,List.length_append,List.length_cons,List.length_nil] at ih ⊢;omega
 have c3:=fun O P=>writeW O P s (pairC l) (by rw [pairC_flat,List.length_append];omega) (by omega)
 rw [pairC_flat] at c3
 refine knownE Yo (fnAt Tryz.func138 (by kernel_rfl) (by kernel_rfl):FnAt _ _ (mkFn Tryz.f138 [2,20])) ?_
 repeat' (first|refine zW [2,20] ?_|((refine zB [2,20] (fun h=>?_) (fun h=>?_))<;>(first|exact zk h|skip))|refine zX [2,20] ?_|(refine zE ?_;(skip))|fail)
 refine Run.mkRoom 5 1 [(1,.d (strs l)),(2,.d (.ep [.str s,.int .i64 20000,.int .i64 0])),(4,.bp 0 0),(5,.sr 1 1 []),(8,.d (strs l)),(9,.d (.int .i64 (l.map DV.str).length)),(10,.d (.int .i64 (0:Nat)))] (by kernel_rfl) (ofList_cases (by intro p hp;simp only [List.mem_cons,List.not_mem_nil,or_false] at hp;rcases hp with rfl|rfl|rfl|rfl|rfl|rfl|rfl<;>first|exact .inl ⟨rfl,rfl⟩|exact .inr (by kernel_rfl))) ?_
 refine Run.loopT (fun y:Nat × List DV=>⟨PT.ofList [(1,.d (strs l)),(2,.d (.ep [.str s,.int .i64 20000,.int .i64 0])),(4,.bp 0 0),(5,.sr 1 1 y.2),(8,.d (strs l)),(9,.d (.int .i64 (l.map DV.str).length)),(10,.d (.int .i64 y.1))],[wr0,.room y.2.length 1],[]⟩) (fun y=>y.1≤l.length∧y.2=(pairC (l.take y.1)).map DV.str∧y.2.length≤2*y.1) (fun y=>l.length-y.1) (0,[]) ⟨Nat.zero_le _,rfl,Nat.le_refl _⟩ (tidy_of (objs:=_) _ 2 (by rfl) rfl (by repeat' (first|exact trivial|refine⟨(Or.inl rfl),?_⟩|refine⟨(Or.inr rfl),?_⟩|fail)) (by repeat' (first|exact trivial|refine⟨rfl,?_⟩|fail)) rfl rfl) (fun y hy=>?_)
 obtain⟨i,acc⟩:=y
 obtain⟨hi1,hi2,hi3⟩:=hy
 simp only at hi1 hi2 hi3 ⊢
 rcases Nat.lt_or_ge i l.length with hlt|hge
 ·obtain⟨x,hx⟩:=get_ok hlt
  have hxl:=hl x (List.mem_of_getElem? hx)
  have c2:=vbS x.length hxl
  have hw:AV.d (.int .u64 (IntKind.u64.wrap (x.length:Int)))=.d (.int .u64 (x.length:Nat)):=wrapU (by omega)
  have hnx:acc++[.str [x.length],.str x]=(pairC (l.take (i+1))).map DV.str:=by
   rw [hi2];simp [pairC,List.take_add_one,hx]
  repeat' (first|refine oX (frz:=[2,20]) (v:=.d (.int .u64 (x.length:Nat))) Yo ?_ (he:=(hw))|refine eX (v:=.d (.int .u64 (x.length:Nat))) ?_ (he:=(hw))|refine zW [2,20] ?_|((refine zB [2,20] (fun h=>?_) (fun h=>?_))<;>(first|exact zk h|skip))|refine zX [2,20] ?_|refine oX (frz:=[2,20]) (v:=.d (.ep [.str x])) Yo ?_ (hf:=(by first|(simp [inB]<;>fail)|(simp [inB];omega))) (he:=(by first|(simp [List.getD_eq_getElem?_getD,cellsD,hx]<;>fail)|fail))|refine eX (v:=.d (.ep [.str x])) ?_ (hf:=(by first|(simp [inB]<;>fail)|(simp [inB];omega))) (he:=(by first|(simp [List.getD_eq_getElem?_getD,cellsD,hx]<;>fail)|fail))|refine zC (c2) ?_|refine oX (frz:=[2,20]) Yo ?_ (hv:=app1) (hf:=rfl) (he:=rfl)|refine eX ?_ (hv:=app1) (hf:=rfl) (he:=rfl)|refine oX (frz:=[2,20]) Yo ?_ (hv:=app0) (hf:=rfl) (he:=rfl)|refine eX ?_ (hv:=app0) (hf:=rfl) (he:=rfl)|(refine zE ?_;(skip))|((exfalso;(simp at h<;>omega)))|fail)
  exact⟨(i+1,acc++[.str [x.length],.str x]),⟨hlt,hnx,by simp;omega⟩,by simp only<;>omega,(tidy_of (objs:=_) _ 2 (Eq.trans (b:=[wr0,.room (acc.length+2) 1]) rfl (by simp)) rfl (by repeat' (first|exact trivial|refine⟨(Or.inl rfl),?_⟩|refine⟨(Or.inl (inc_get (k:=i) (by kernel_rfl) (by omega))),?_⟩|refine⟨(Or.inr rfl),?_⟩|fail)) (by repeat' (first|exact trivial|refine⟨rfl,?_⟩|fail)) rfl rfl)⟩
 ·have hie:i=l.length:=by omega
  subst hie
  rw [List.take_length] at hi2
  subst hi2
  repeat refine zS ?_
  refine oX (frz:=[2,20]) (v:=.d (.bool false)) Yo ?_ (he:=vF8 (by simp))
  repeat refine zS ?_
  first|refine Run.tidy (tidy_of (objs:=_) [(2,.d (.ep [.str s,.int .i64 20000,.int .i64 0])),(4,.bp 0 0),(5,.d (strs (pairC l)))] 1 (Eq.trans (b:=[wr0]) rfl rfl) rfl (by repeat' (first|exact trivial|refine⟨(Or.inl rfl),?_⟩|refine⟨(Or.inr rfl),?_⟩|refine⟨rfl,?_⟩|fail)) (by repeat' (first|exact trivial|refine⟨(Or.inl rfl),?_⟩|refine⟨(Or.inr rfl),?_⟩|refine⟨rfl,?_⟩|fail)) rfl rfl) ?_|refine RunOps.tidy (tidy_of (objs:=_) [(2,.d (.ep [.str s,.int .i64 20000,.int .i64 0])),(4,.bp 0 0),(5,.d (strs (pairC l)))] 1 (Eq.trans (b:=[wr0]) rfl rfl) rfl (by repeat' (first|exact trivial|refine⟨(Or.inl rfl),?_⟩|refine⟨(Or.inr rfl),?_⟩|refine⟨rfl,?_⟩|fail)) (by repeat' (first|exact trivial|refine⟨(Or.inl rfl),?_⟩|refine⟨(Or.inr rfl),?_⟩|refine⟨rfl,?_⟩|fail)) rfl rfl) ?_
  repeat' (first|refine zW [2,20] ?_|((refine zB [2,20] (fun h=>?_) (fun h=>?_))<;>(first|exact zk h|skip))|refine zX [2,20] ?_|refine oA (c1 _) ?_|refine oA (c3 _ _) ?_|(refine zE ?_;(rfl))|fail)
theorem wputS (R:List Ob) (s:List Nat) (l:List Int) (hl:∀ n ∈ l,0≤n∧n<128) (hs:s.length+l.length≤20000) :
  ACall Tryz.prog 136 [.bp 0 0,.d (ints l)] (.box (wrC s) :: R) (.tup []) (.box (wrC (s++l.map Int.toNat)) :: R):=by
 refine acall_of_run Yo (fnAt Tryz.func136 (by kernel_rfl) (by kernel_rfl):FnAt _ _ (mkFn Tryz.f136 [])) rfl rfl ?_
 repeat' (first|refine zW [] ?_|((refine zB [] (fun h=>?_) (fun h=>?_))<;>(first|exact zk h|skip))|refine zX [] ?_|(refine zE ?_;(skip))|fail)
 refine Run.loop (fun i:Nat=>⟨PT.ofList [(0,.bp 0 0),(6,.d (ints l)),(7,.d (.int .i64 (l.map (DV.int .i64)).length)),(8,.d (.int .i64 i))],.box (wrC (s++(l.take i).map Int.toNat)) :: R,[]⟩) (fun i=>i≤l.length) (fun i=>l.length-i) 0 (Nat.zero_le _) (weak_of' (by rw [List.take_zero,List.map_nil,List.append_nil]) rfl (by repeat' (first|exact trivial|refine⟨rfl,?_⟩))) (fun i hi=>?_)
 rcases Nat.lt_or_ge i l.length with hlt|hge
 ·obtain⟨n,hx⟩:=get_ok hlt
  obtain⟨h1,h2⟩:=hl n (List.mem_of_getElem? hx)
  obtain⟨m,rfl⟩:=Int.eq_ofNat_of_zero_le h1
  have hw:AV.d (.int .u64 (IntKind.u64.wrap (m:Int)))=.d (.int .u64 (m:Nat)):=wrapU (by omega)
  have c:=putV (s++(l.take i).map Int.toNat) m (by omega) (by simp;omega)
  have hnx:s++(l.take (i+1)).map Int.toNat=s++(l.take i).map Int.toNat++[m]:=by rw [List.take_add_one,hx];simp
  repeat' (first|refine oX (frz:=[]) (v:=.d (.int .u64 (m:Nat))) Yo ?_ (he:=(hw))|refine eX (v:=.d (.int .u64 (m:Nat))) ?_ (he:=(hw))|refine zW [] ?_|((refine zB [] (fun h=>?_) (fun h=>?_))<;>(first|exact zk h|skip))|refine zX [] ?_|refine oX (frz:=[]) (v:=.d (.ep [.int .i64 (m:Int)])) Yo ?_ (hf:=(by first|(simp [inB]<;>fail)|(simp [inB];omega))) (he:=(by first|(simp [List.getD_eq_getElem?_getD,cellsD,hx]<;>fail)|fail))|refine eX (v:=.d (.ep [.int .i64 (m:Int)])) ?_ (hf:=(by first|(simp [inB]<;>fail)|(simp [inB];omega))) (he:=(by first|(simp [List.getD_eq_getElem?_getD,cellsD,hx]<;>fail)|fail))|refine zC (c) ?_|(refine zE ?_;(skip))|(exact⟨i+1,hlt,by omega,weak_of' (by rw [hnx];rfl) rfl (by repeat' (first|exact trivial|refine⟨rfl,?_⟩|refine⟨(inc_get (k:=i) (by kernel_rfl) (by omega)),?_⟩))⟩)|((exfalso;(simp at h<;>omega)))|fail)
 ·have hie:i=l.length:=by omega
  subst hie
  rw [List.take_length]
  repeat' (first|refine zW [] ?_|((refine zB [] (fun h=>?_) (fun h=>?_))<;>(first|exact zk h|skip))|refine zX [] ?_|(refine zE ?_;(skip))|((exfalso;(simp at h<;>omega)))|(exact⟨trivial,rfl,rfl⟩)|fail)
theorem namesW (R:List Ob) (s:List Nat) (l:List (List Nat)) (hn:l.length<128) (hl:∀ x ∈ l,x.length<128) (hs:(s++namesC l).length≤20000) :
  ACall Tryz.prog 137 [.bp 0 0,.d (strs l)] (.box (wrC s) :: R) (.tup []) (.box (wrC (s++namesC l)) :: R):=by
 simp only [namesC,List.length_append,List.length_cons] at hs
 have c1:=wputS R s [(l.length:Int)] (by intro n hn;simp at hn;omega) (by simp;omega)
 have c2:=putStr (s++[l.length]) l hl (by omega) (by simp;omega)
 have hlen:AV.d (.int .i64 ((l.map DV.str).length:Nat))=.d (.int .i64 (l.length:Nat)):=by rw [List.length_map]
 have he:s++namesC l=s++[l.length]++strsC l:=by simp [namesC]
 rw [he]
 refine acall_of_run Yo (fnAt Tryz.func137 (by kernel_rfl) (by kernel_rfl):FnAt _ _ (mkFn Tryz.f137 [7])) rfl rfl ?_
 repeat' (first|refine oX (frz:=[7]) (v:=.d (.int .i64 (l.length:Nat))) Yo ?_ (he:=(hlen))|refine eX (v:=.d (.int .i64 (l.length:Nat))) ?_ (he:=(hlen))|refine zW [7] ?_|((refine zB [7] (fun h=>?_) (fun h=>?_))<;>(first|exact zk h|skip))|refine zX [7] ?_|refine oA c1 ?_|refine zC (c2) ?_|(refine zE ?_;(skip))|(exact⟨trivial,rfl,rfl⟩)|fail)
end Go.Av
end
noncomputable section
namespace Go.Av
open Go Go.Proofs
set_option maxRecDepth 10000
def stepV (i c:Nat) (n:Int):Int :=
 IntKind.u64.wrap ((BitVec.ofInt 64 n ||| BitVec.ofInt 64 (IntKind.u64.wrap (IntKind.u64.wrap (IntKind.u8.wrap ((BitVec.ofInt 8 (c:Nat) &&& BitVec.ofInt 8 127).toNat))*2 ^ (min ((7*i:Nat):Int).toNat 64)))).toNat)
def vGo (s:List Nat) (at_:Nat):Nat→Nat→Int→Int × Nat × Nat × Nat
 |0,_,_=>(0,0,26,at_+9)
 |f+1,i,n=>match s[at_+i]? with
  |none=>(0,0,5,s.length)
  |some c=>if(0<i∧c=0)∨(i=9∧1<c) then(0,0,26,at_+i) else if c<128 then(stepV i c n,at_+i+1,0,0) else vGo s at_ f (i+1) (stepV i c n)
def vR (s:List Nat) (at_:Nat):Int × Nat × Nat × Nat:=vGo s at_ 10 0 0
abbrev vA (r:Int × Nat × Nat × Nat):AV:=.tup [.d (.int .u64 r.1),.d (.int .i64 (r.2.1:Nat)),.d (.agg [.int .i64 (r.2.2.1:Nat),.int .i64 (r.2.2.2:Nat)])]
set_option maxHeartbeats 8000000 in
theorem readV (s:List Nat) (p:Nat) (hl:s.length≤1000000) (hp:p≤s.length):KnownCall Tryz.prog 264 [.str s,.int .i64 (p:Nat)] (vA (vR s p)):=by
 obtain⟨R,hR⟩:∃ R,R=vGo s p 10 0 0:=⟨_,rfl⟩
 rw [show vR s p=R from hR.symm]
 refine knownE Yo (fnAt Tryz.func264 (by kernel_rfl) (by kernel_rfl):FnAt _ _ (mkFn Tryz.f264 [])) ?_
 repeat' (first|refine zW [] ?_|((refine zB [] (fun h=>?_) (fun h=>?_))<;>(first|exact zk h|skip))|refine zX [] ?_|(refine zE ?_;(skip))|((exfalso;first|(simp at h<;>fail)|(simp at h;omega)|(simp only [decide_eq_true_eq,decide_eq_false_iff_not,beq_iff_eq,beq_eq_false_iff_ne,ne_eq] at *;omega)))|fail)
 refine Run.loopT (fun y:Nat × Int=>⟨PT.ofList [(0,.d (.str s)),(1,.d (.int .i64 (p:Nat))),(4,.d (.int .u64 y.2)),(6,.bp 0 0),(18,.d (.int .i64 (y.1:Nat)))],[.box [.d (.int .i64 0),.d (.int .i64 0)]],[]⟩) (fun y=>y.1≤10∧vGo s p (10-y.1) y.1 y.2=R) (fun y=>10-y.1) (0,0) ⟨by decide,hR.symm⟩ (tidy_of (objs:=_) _ 1 (by rfl) rfl (by repeat' (first|exact trivial|refine⟨(Or.inl rfl),?_⟩|refine⟨(Or.inr rfl),?_⟩|fail)) (by repeat' (first|exact trivial|refine⟨rfl,?_⟩|fail)) rfl rfl) (fun y hy=>?_)
 obtain⟨i,n⟩:=y
 obtain⟨hi,hv⟩:=hy
 simp only at hi hv ⊢
 have a1:AV.d (.int .i64 (IntKind.i64.wrap ((p:Int)+i)))=.d (.int .i64 ((p+i:Nat):Int)):=vN8 (by omega) (by omega)
 have a2:AV.d (.int .i64 (IntKind.i64.wrap (((p+i:Nat):Int)+1)))=.d (.int .i64 ((p+i+1:Nat):Int)):=vN8 (by omega) (by omega)
 have a3:AV.d (.int .i64 (IntKind.i64.wrap (7*(i:Int))))=.d (.int .i64 ((7*i:Nat):Int)):=vN8 (by omega) (by omega)
 have a4:AV.d (.int .u64 (IntKind.u64.wrap ((7*i:Nat):Int)))=.d (.int .u64 ((7*i:Nat):Int)):=wrapU (by omega)
 have a5:AV.d (.int .i64 (IntKind.i64.wrap ((i:Int)+1)))=.d (.int .i64 ((i+1:Nat):Int)):=vN8 (by omega) (by omega)
 have b1:AV.d (.int .i64 (IntKind.i64.wrap ((p:Int)+10)))=.d (.int .i64 ((p+10:Nat):Int)):=vN8 (by omega) (by omega)
 have b2:AV.d (.int .i64 (IntKind.i64.wrap (((p+10:Nat):Int)-1)))=.d (.int .i64 ((p+9:Nat):Int)):=vN8 (by omega) (by omega)
 rcases Nat.lt_or_ge i 10 with hlt|hge
 ·obtain⟨f,hf⟩:∃ f,10-i=f+1:=⟨9-i,by omega⟩
  rw [hf] at hv
  cases hx:s[p+i]? with
  |none =>
   have hln:=List.getElem?_eq_none_iff.1 hx
   have e:R=(0,0,5,s.length):=by rw [← hv];simp [vGo,hx]
   subst e
   generalize hq:p+i=q at *
   repeat' (first|refine oX (frz:=[]) (v:=.d (.int .i64 (q:Int))) Yo ?_ (he:=(a1))|refine eX (v:=.d (.int .i64 (q:Int))) ?_ (he:=(a1))|refine zW [] ?_|((refine zB [] (fun h=>?_) (fun h=>?_))<;>(first|exact zk h|skip))|refine zX [] ?_|(refine zE ?_;(rfl))|((exfalso;first|(simp at h<;>fail)|(simp at h;omega)|(simp only [decide_eq_true_eq,decide_eq_false_iff_not,beq_iff_eq,beq_eq_false_iff_ne,ne_eq] at *;omega)))|fail)
  |some c =>
   have hln:=(List.getElem?_eq_some_iff.1 hx).1
   by_cases h1:(0<i∧c=0)∨(i=9∧1<c)
   ·have e:R=(0,0,26,p+i):=by rw [← hv];simp only [vGo,hx];rw [if_pos h1]
    subst e
    generalize hq:p+i=q at *
    repeat' (first|refine oX (frz:=[]) (v:=.d (.int .i64 (q:Int))) Yo ?_ (he:=(a1))|refine eX (v:=.d (.int .i64 (q:Int))) ?_ (he:=(a1))|refine zW [] ?_|((refine zB [] (fun h=>?_) (fun h=>?_))<;>(first|exact zk h|skip))|refine zX [] ?_|refine oX (frz:=[]) (v:=.d (.int .u8 (c:Nat))) Yo ?_ (hf:=by first|(simp [inB]<;>fail)|(simp [inB];omega)) (he:=by first|(simp [List.getD_eq_getElem?_getD,hx]<;>fail)|fail)|(refine zE ?_;(rfl))|((exfalso;first|(simp at h<;>fail)|(simp at h;omega)|(simp only [decide_eq_true_eq,decide_eq_false_iff_not,beq_iff_eq,beq_eq_false_iff_ne,ne_eq] at *;omega)))|fail)
   ·by_cases h2:c<128
    ·have e:R=(stepV i c n,p+i+1,0,0):=by rw [← hv];simp only [vGo,hx];rw [if_neg h1,if_pos h2]
     subst e
     generalize hq:p+i=q at *
     repeat' (first|refine oX (frz:=[]) (v:=.d (.int .u64 ((7*i:Nat):Int))) Yo ?_ (he:=(a4))|refine eX (v:=.d (.int .u64 ((7*i:Nat):Int))) ?_ (he:=(a4))|refine oX (frz:=[]) (v:=.d (.int .i64 ((7*i:Nat):Int))) Yo ?_ (he:=(a3))|refine eX (v:=.d (.int .i64 ((7*i:Nat):Int))) ?_ (he:=(a3))|refine oX (frz:=[]) (v:=.d (.int .i64 ((q+1:Nat):Int))) Yo ?_ (he:=(a2))|refine eX (v:=.d (.int .i64 ((q+1:Nat):Int))) ?_ (he:=(a2))|refine oX (frz:=[]) (v:=.d (.int .i64 (q:Int))) Yo ?_ (he:=(a1))|refine eX (v:=.d (.int .i64 (q:Int))) ?_ (he:=(a1))|refine zW [] ?_|((refine zB [] (fun h=>?_) (fun h=>?_))<;>(first|exact zk h|skip))|refine zX [] ?_|refine oX (frz:=[]) (v:=.d (.int .u8 (c:Nat))) Yo ?_ (hf:=by first|(simp [inB]<;>fail)|(simp [inB];omega)) (he:=by first|(simp [List.getD_eq_getElem?_getD,hx]<;>fail)|fail)|refine oX (frz:=[]) Yo ?_ (hf:=by first|(simp<;>fail)|(simp;omega))|(refine zE ?_;(rfl))|((exfalso;first|(simp at h<;>fail)|(simp at h;omega)|(simp only [decide_eq_true_eq,decide_eq_false_iff_not,beq_iff_eq,beq_eq_false_iff_ne,ne_eq] at *;omega)))|fail)
    ·have e:vGo s p f (i+1) (stepV i c n)=R:=by rw [← hv];simp only [vGo,hx];rw [if_neg h1,if_neg h2]
     generalize hq:p+i=q at *
     repeat' (first|refine oX (frz:=[]) (v:=.d (.int .i64 ((i+1:Nat):Int))) Yo ?_ (he:=(a5))|refine eX (v:=.d (.int .i64 ((i+1:Nat):Int))) ?_ (he:=(a5))|refine oX (frz:=[]) (v:=.d (.int .u64 ((7*i:Nat):Int))) Yo ?_ (he:=(a4))|refine eX (v:=.d (.int .u64 ((7*i:Nat):Int))) ?_ (he:=(a4))|refine oX (frz:=[]) (v:=.d (.int .i64 ((7*i:Nat):Int))) Yo ?_ (he:=(a3))|refine eX (v:=.d (.int .i64 ((7*i:Nat):Int))) ?_ (he:=(a3))|refine oX (frz:=[]) (v:=.d (.int .i64 (q:Int))) Yo ?_ (he:=(a1))|refine eX (v:=.d (.int .i64 (q:Int))) ?_ (he:=(a1))|refine zW [] ?_|((refine zB [] (fun h=>?_) (fun h=>?_))<;>(first|exact zk h|skip))|refine zX [] ?_|refine oX (frz:=[]) (v:=.d (.int .u8 (c:Nat))) Yo ?_ (hf:=by first|(simp [inB]<;>fail)|(simp [inB];omega)) (he:=by first|(simp [List.getD_eq_getElem?_getD,hx]<;>fail)|fail)|refine oX (frz:=[]) Yo ?_ (hf:=by first|(simp<;>fail)|(simp;omega))|(refine zE ?_;(skip))|(exact⟨(i+1,stepV i c n),⟨hlt,by rw [show 10-(i+1)=f by omega];exact e⟩,by omega,(tidy_of (objs:=_) _ 1 (by rfl) rfl (by repeat' (first|exact trivial|refine⟨(Or.inl rfl),?_⟩|refine⟨(Or.inr rfl),?_⟩|fail)) (by repeat' (first|exact trivial|refine⟨rfl,?_⟩|fail)) rfl rfl)⟩)|((exfalso;first|(simp at h<;>fail)|(simp at h;omega)|(simp only [decide_eq_true_eq,decide_eq_false_iff_not,beq_iff_eq,beq_eq_false_iff_ne,ne_eq] at *;omega)))|fail)
 ·obtain rfl:i=10:=by omega
  have e:R=(0,0,26,p+9):=by rw [← hv];rfl
  subst e
  repeat' (first|refine oX (frz:=[]) (v:=.d (.int .i64 ((p+9:Nat):Int))) Yo ?_ (he:=(b2))|refine eX (v:=.d (.int .i64 ((p+9:Nat):Int))) ?_ (he:=(b2))|refine oX (frz:=[]) (v:=.d (.int .i64 ((p+10:Nat):Int))) Yo ?_ (he:=(b1))|refine eX (v:=.d (.int .i64 ((p+10:Nat):Int))) ?_ (he:=(b1))|refine zW [] ?_|((refine zB [] (fun h=>?_) (fun h=>?_))<;>(first|exact zk h|skip))|refine zX [] ?_|(refine zE ?_;(rfl))|((exfalso;first|(simp at h<;>fail)|(simp at h;omega)|(simp only [decide_eq_true_eq,decide_eq_false_iff_not,beq_iff_eq,beq_eq_false_iff_ne,ne_eq] at *;omega)))|fail)
end Go.Av
end
noncomputable section
namespace Go.Av
open Go Go.Proofs
set_option maxRecDepth 10000
abbrev rC (s:List Nat) (p e a:Nat):List AV:=[.d (.str s),.d (.int .i64 (p:Nat)),.d (.int .i64 (e:Nat)),.d (.int .i64 (a:Nat))]
abbrev rV (s:List Nat) (p e a:Nat):DV:=.agg [.str s,.int .i64 (p:Nat),.int .i64 (e:Nat),.int .i64 (a:Nat)]
abbrev rX (s:List Nat) (p e a:Nat):Ob:=.box (rC s p e a)
theorem beginA (s:List Nat) (p:Nat) (hs:s.length≤20000) (hp:p≤s.length):ACall Tryz.prog 213 [.d (rV s p 0 0)] [] (.bp 2 0) [rX s p 0 0,.box [.d (.int .i64 0),.d (.int .i64 0)],rX s p 0 0]:=by
 refine acall_of_run Yo (fnAt Tryz.func213 (by kernel_rfl) (by kernel_rfl):FnAt _ _ (mkFn Tryz.f213 [])) rfl rfl ?_
 repeat' (first|refine zW [] ?_|((refine zB [] (fun h=>?_) (fun h=>?_))<;>(first|exact zk h|skip))|refine zX [] ?_|(refine zE ?_;(skip))|((exfalso;first|(simp at h<;>fail)|(simp at h;omega)))|fail)
 refine Yt ?_
 exact⟨trivial,rfl,rfl⟩
theorem failsA (s:List Nat) (p e a e' a':Nat):ACall Tryz.prog 243 [.bp 0 0,.d (.int .i64 (e':Nat)),.d (.int .i64 (a':Nat))] [rX s p e a] (.tup []) [rX s p e' a']:=by
 refine acallW_of_run Yo (fnAt Tryz.func243 (by kernel_rfl) (by kernel_rfl):FnAt _ _ (mkFn Tryz.f243 [])) rfl rfl rfl rfl rfl ?_
 repeat' (first|refine zW [] ?_|((refine zB [] (fun h=>?_) (fun h=>?_))<;>(first|exact zk h|skip))|refine zX [] ?_|(refine zE ?_;(skip))|(((first|refine Yt ?_|skip);exact⟨trivial,_,_,rfl,rfl,.refl,(by repeat' (first|exact trivial|refine⟨.refl,?_⟩|refine⟨.gone,?_⟩|refine⟨.box (by repeat' (first|exact trivial|refine⟨.inr rfl,?_⟩|refine⟨.inl rfl,?_⟩)),?_⟩))⟩))|fail)
theorem wideA (s:List Nat) (p:Nat) (hs:s.length≤20000) (hp:p≤s.length) (n:Int) (q e a:Nat) (hv:vR s p=(n,q,e,a)) (h0:e=0→a=0) (h1:¬ e=0→n=0) :
  ACall Tryz.prog 244 [.bp 0 0] [rX s p 0 0] (.d (.int .u64 n)) [rX s (if e=0 then q else p) e a]:=by
 have c0:=readV s p (by omega) hp
 rw [hv] at c0
 by_cases he:e=0
 ·subst he
  obtain rfl:=h0 rfl
  rw [if_pos rfl]
  refine acallW_of_run Yo (fnAt Tryz.func244 (by kernel_rfl) (by kernel_rfl):FnAt _ _ (mkFn Tryz.f244 [])) rfl rfl rfl rfl rfl ?_
  repeat' (first|refine zW [] ?_|((refine zB [] (fun h=>?_) (fun h=>?_))<;>(first|exact zk h|skip))|refine zX [] ?_|refine zC (c0) ?_|(refine zE ?_;(skip))|(((first|refine Yt ?_|skip);exact⟨trivial,_,_,rfl,rfl,.refl,(by repeat' (first|exact trivial|refine⟨.refl,?_⟩|refine⟨.gone,?_⟩|refine⟨.box (by repeat' (first|exact trivial|refine⟨.inr rfl,?_⟩|refine⟨.inl rfl,?_⟩)),?_⟩))⟩))|((exfalso;first|(simp at h<;>fail)|(simp at h;omega)))|fail)
 ·obtain rfl:=h1 he
  rw [if_neg he]
  refine acallW_of_run Yo (fnAt Tryz.func244 (by kernel_rfl) (by kernel_rfl):FnAt _ _ (mkFn Tryz.f244 [])) rfl rfl rfl rfl rfl ?_
  repeat' (first|refine zW [] ?_|((refine zB [] (fun h=>?_) (fun h=>?_))<;>(first|exact zk h|skip))|refine zX [] ?_|refine zC (c0) ?_|(refine zE ?_;(skip))|(((first|refine Yt ?_|skip);exact⟨trivial,_,_,rfl,rfl,.refl,(by repeat' (first|exact trivial|refine⟨.refl,?_⟩|refine⟨.gone,?_⟩|refine⟨.box (by repeat' (first|exact trivial|refine⟨.inr rfl,?_⟩|refine⟨.inl rfl,?_⟩)),?_⟩))⟩))|((exfalso;first|(simp at h<;>fail)|(simp at h;omega)))|fail)
theorem takeA (s:List Nat) (p n:Nat) (hs:s.length≤20000) (hn:p+n≤s.length):ACall Tryz.prog 246 [.bp 0 0,.d (.int .i64 (n:Nat))] [rX s p 0 0] (.d (.str ((s.drop p).take n))) [rX s (p+n) 0 0]:=by
 have a1:AV.d (.int .i64 (IntKind.i64.wrap ((s.length:Int)-p)))=.d (.int .i64 ((s.length-p:Nat):Int)):=congrArg (fun x=>AV.d (.int .i64 x)) ((wrap64 (by omega) (by omega)).trans (by omega))
 have a2:AV.d (.int .i64 (IntKind.i64.wrap ((p:Int)+n)))=.d (.int .i64 ((p+n:Nat):Int)):=vN8 (by omega) (by omega)
 have a3:AV.d (.int .i64 (IntKind.i64.wrap (((p+n:Nat):Int)-n)))=.d (.int .i64 (p:Int)):=congrArg (fun x=>AV.d (.int .i64 x)) ((wrap64 (by omega) (by omega)).trans (by omega))
 have a4:AV.d (.str (cutL (some (p:Int)) (some ((p+n:Nat):Int)) s))=.d (.str ((s.drop p).take n)):=by
  simp only [cutL,Option.getD_some,Int.toNat_natCast]
  rw [List.drop_take]
  simp
 refine acallW_of_run Yo (fnAt Tryz.func246 (by kernel_rfl) (by kernel_rfl):FnAt _ _ (mkFn Tryz.f246 [])) rfl rfl rfl rfl rfl ?_
 repeat' (first|refine oX (frz:=[]) (v:=.d (.int .i64 (p:Int))) Yo ?_ (he:=(a3))|refine eX (v:=.d (.int .i64 (p:Int))) ?_ (he:=(a3))|refine oX (frz:=[]) (v:=.d (.int .i64 ((p+n:Nat):Int))) Yo ?_ (he:=(a2))|refine eX (v:=.d (.int .i64 ((p+n:Nat):Int))) ?_ (he:=(a2))|refine oX (frz:=[]) (v:=.d (.int .i64 ((s.length-p:Nat):Int))) Yo ?_ (he:=(a1))|refine eX (v:=.d (.int .i64 ((s.length-p:Nat):Int))) ?_ (he:=(a1))|refine zW [] ?_|((refine zB [] (fun h=>?_) (fun h=>?_))<;>(first|exact zk h|skip))|refine zX [] ?_|refine eX (v:=.d (.str ((s.drop p).take n))) ?_ (hf:=by first|(simp [cutC]<;>fail)|(simp [cutC];omega)) (he:=a4)|(refine zE ?_;(skip))|(((first|refine Yt ?_|skip);exact⟨trivial,_,_,rfl,rfl,.refl,(by repeat' (first|exact trivial|refine⟨.refl,?_⟩|refine⟨.gone,?_⟩|refine⟨.box (by repeat' (first|exact trivial|refine⟨.inr rfl,?_⟩|refine⟨.inl rfl,?_⟩)),?_⟩))⟩))|((exfalso;first|(simp at h<;>fail)|(simp at h;omega)))|fail)
theorem takeS (s:List Nat) (p n:Nat) (hs:s.length≤20000) (hp:p≤s.length) (hn:¬ p+n≤s.length) (hn2:n≤20000):ACall Tryz.prog 246 [.bp 0 0,.d (.int .i64 (n:Nat))] [rX s p 0 0] (.d (.str [])) [rX s p 5 p]:=by
 have a1:AV.d (.int .i64 (IntKind.i64.wrap ((s.length:Int)-p)))=.d (.int .i64 ((s.length-p:Nat):Int)):=congrArg (fun x=>AV.d (.int .i64 x)) ((wrap64 (by omega) (by omega)).trans (by omega))
 have c0:=failsA s p 0 0 5 p
 refine acallW_of_run Yo (fnAt Tryz.func246 (by kernel_rfl) (by kernel_rfl):FnAt _ _ (mkFn Tryz.f246 [])) rfl rfl rfl rfl rfl ?_
 repeat' (first|refine oX (frz:=[]) (v:=.d (.int .i64 ((s.length-p:Nat):Int))) Yo ?_ (he:=(a1))|refine eX (v:=.d (.int .i64 ((s.length-p:Nat):Int))) ?_ (he:=(a1))|refine zW [] ?_|((refine zB [] (fun h=>?_) (fun h=>?_))<;>(first|exact zk h|skip))|refine zX [] ?_|refine oE [0] c0 ?_|(refine zE ?_;(skip))|(((first|refine Yt ?_|skip);exact⟨trivial,_,_,rfl,rfl,.refl,(by repeat' (first|exact trivial|refine⟨.refl,?_⟩|refine⟨.gone,?_⟩|refine⟨.box (by repeat' (first|exact trivial|refine⟨.inr rfl,?_⟩|refine⟨.inl rfl,?_⟩)),?_⟩))⟩))|((exfalso;first|(simp at h<;>fail)|(simp at h;omega)))|fail)
end Go.Av
end
noncomputable section
namespace Go.Av
open Go Go.Proofs
set_option maxRecDepth 10000
theorem mixedC:Tryz.prog.follows .mixedOrders=true:=by kernel_rfl
def numR (s:List Nat) (p l m:Nat):Nat × Nat × Nat × Nat :=
 if(vR s p).2.2.1≠0 then(0,p,(vR s p).2.2.1,(vR s p).2.2.2) else if(vR s p).1<(l:Int)∨(m:Int)<(vR s p).1 then(0,p,2,p) else((vR s p).1.toNat,(vR s p).2.1,0,0)
abbrev nObs (s:List Nat) (p l m:Nat) (n:Int) (q e a:Nat):List Ob:=[rX s p 0 0,.box [.d (.int .i64 (l:Nat))],.box [.d (.int .i64 (m:Nat))],rX [] 0 0 0,rX s p 0 0,.box [.d (.int .i64 0),.d (.int .i64 0)],rX s q e a,.box [.bp 6 0],.box [.d (.int .i64 n)]]
abbrev nCaps:List AV:=[.bp 7 0,.bp 1 0,.bp 2 0,.bp 8 0]
theorem wrapN {n:Int} (h0:0≤n) (h:n≤1099511627776):AV.d (.int .i64 (IntKind.i64.wrap n))=.d (.int .i64 n):=congrArg (fun x=>AV.d (.int .i64 x)) (wrap64 (by omega) (by omega))
theorem num1E (s:List Nat) (p l m:Nat) (hs:s.length≤20000) (hp:p≤s.length) (hlm:l≤m) (hm:m≤1000) (q e a:Nat) (hv:vR s p=(0,q,e+1,a)) :
  ACall Tryz.prog 242 nCaps (nObs s p l m 0 p 0 0) (.tup []) (nObs s p l m 0 p (e+1) a):=by
 have c0:=wideA s p hs hp 0 q (e+1) a hv (fun h=>by omega) (fun _=>rfl)
 rw [if_neg (by omega)] at c0
 refine acallW_of_run Yo (fnAt Tryz.func242 (by kernel_rfl) (by kernel_rfl):FnAt _ _ (mkFn Tryz.f242 [])) rfl rfl rfl rfl rfl ?_
 repeat' (first|refine oX (frz:=[]) (v:=.d (.int .i64 0)) Yo ?_ (he:=(wrapN (by decide) (by decide)))|refine eX (v:=.d (.int .i64 0)) ?_ (he:=(wrapN (by decide) (by decide)))|refine zW [] ?_|((refine zB [] (fun h=>?_) (fun h=>?_))<;>(first|exact zk h|skip))|refine zX [] ?_|refine oE [6] c0 ?_|(refine zE ?_;(skip))|(((first|refine Yt ?_|skip);exact⟨trivial,_,_,rfl,rfl,.refl,(by repeat' (first|exact trivial|refine⟨.refl,?_⟩|refine⟨.gone,?_⟩|refine⟨.box (by repeat' (first|exact trivial|refine⟨.inr rfl,?_⟩|refine⟨.inl rfl,?_⟩)),?_⟩))⟩))|((exfalso;first|(simp at h<;>fail)|(simp at h;omega)))|fail)
theorem num1R (s:List Nat) (p l m:Nat) (hs:s.length≤20000) (hp:p≤s.length) (hlm:l≤m) (hm:m≤1000) (q:Nat) (n:Int) (hv:vR s p=(n,q,0,0)) (hn:n<(l:Int)∨(m:Int)<n) :
  ACall Tryz.prog 242 nCaps (nObs s p l m 0 p 0 0) (.tup []) (nObs s p l m 0 q 2 p):=by
 have c0:=wideA s p hs hp n q 0 0 hv (fun _=>rfl) (fun h=>absurd rfl h)
 rw [if_pos rfl] at c0
 have c1:=failsA s q 0 0 2 p
 have a1:AV.d (.int .u64 (IntKind.u64.wrap ((l:Nat):Int)))=.d (.int .u64 (l:Nat)):=wrapU (by omega)
 have a2:AV.d (.int .u64 (IntKind.u64.wrap ((m:Nat):Int)))=.d (.int .u64 (m:Nat)):=wrapU (by omega)
 refine acallW_of_run Yo (fnAt Tryz.func242 (by kernel_rfl) (by kernel_rfl):FnAt _ _ (mkFn Tryz.f242 [])) rfl rfl rfl rfl rfl ?_
 repeat' (first|refine oX (frz:=[]) (v:=.d (.int .u64 (m:Nat))) Yo ?_ (he:=(a2))|refine eX (v:=.d (.int .u64 (m:Nat))) ?_ (he:=(a2))|refine oX (frz:=[]) (v:=.d (.int .u64 (l:Nat))) Yo ?_ (he:=(a1))|refine eX (v:=.d (.int .u64 (l:Nat))) ?_ (he:=(a1))|refine zW [] ?_|((refine zB [] (fun h=>?_) (fun h=>?_))<;>(first|exact zk h|skip))|refine zX [] ?_|refine oE [6] c0 ?_|refine oE [6] c1 ?_|(refine zE ?_;(skip))|((exfalso;first|(simp at h<;>fail)|(simp at h;omega)|(simp only [decide_eq_true_eq,decide_eq_false_iff_not] at *;omega)))|(((first|refine Yt ?_|skip);exact⟨trivial,_,_,rfl,rfl,.refl,(by repeat' (first|exact trivial|refine⟨.refl,?_⟩|refine⟨.gone,?_⟩|refine⟨.box (by repeat' (first|exact trivial|refine⟨.inr rfl,?_⟩|refine⟨.inl rfl,?_⟩)),?_⟩))⟩))|fail)
theorem num1O (s:List Nat) (p l m:Nat) (hs:s.length≤20000) (hp:p≤s.length) (hlm:l≤m) (hm:m≤1000) (q:Nat) (n:Int) (hv:vR s p=(n,q,0,0)) (hn:¬ (n<(l:Int)∨(m:Int)<n)) :
  ACall Tryz.prog 242 nCaps (nObs s p l m 0 p 0 0) (.tup []) (nObs s p l m n q 0 0):=by
 have c0:=wideA s p hs hp n q 0 0 hv (fun _=>rfl) (fun h=>absurd rfl h)
 rw [if_pos rfl] at c0
 have a1:AV.d (.int .u64 (IntKind.u64.wrap ((l:Nat):Int)))=.d (.int .u64 (l:Nat)):=wrapU (by omega)
 have a2:AV.d (.int .u64 (IntKind.u64.wrap ((m:Nat):Int)))=.d (.int .u64 (m:Nat)):=wrapU (by omega)
 have a3:AV.d (.int .i64 (IntKind.i64.wrap n))=.d (.int .i64 n):=wrapN (by omega) (by omega)
 refine acallW_of_run Yo (fnAt Tryz.func242 (by kernel_rfl) (by kernel_rfl):FnAt _ _ (mkFn Tryz.f242 [])) rfl rfl rfl rfl rfl ?_
 repeat' (first|refine oX (frz:=[]) (v:=.d (.int .i64 n)) Yo ?_ (he:=(a3))|refine eX (v:=.d (.int .i64 n)) ?_ (he:=(a3))|refine oX (frz:=[]) (v:=.d (.int .u64 (m:Nat))) Yo ?_ (he:=(a2))|refine eX (v:=.d (.int .u64 (m:Nat))) ?_ (he:=(a2))|refine oX (frz:=[]) (v:=.d (.int .u64 (l:Nat))) Yo ?_ (he:=(a1))|refine eX (v:=.d (.int .u64 (l:Nat))) ?_ (he:=(a1))|refine zW [] ?_|((refine zB [] (fun h=>?_) (fun h=>?_))<;>(first|exact zk h|skip))|refine zX [] ?_|refine oE [6] c0 ?_|(refine zE ?_;(skip))|((exfalso;first|(simp at h<;>fail)|(simp at h;omega)|(simp only [decide_eq_true_eq,decide_eq_false_iff_not] at *;omega)))|(((first|refine Yt ?_|skip);exact⟨trivial,_,_,rfl,rfl,.refl,(by repeat' (first|exact trivial|refine⟨.refl,?_⟩|refine⟨.gone,?_⟩|refine⟨.box (by repeat' (first|exact trivial|refine⟨.inr rfl,?_⟩|refine⟨.inl rfl,?_⟩)),?_⟩))⟩))|fail)
abbrev nAll (s:List Nat) (l m:Nat) (n:Int) (q e a p:Nat) (b:Bool):List Ob:=nObs s p l m n q e a++[.box [.bp 6 0],.box [.d (.bool b)],.box [.d (.int .i64 (p:Nat))]]
theorem dfrN0 (s:List Nat) (l m:Nat) (n:Int) (q a p:Nat):ADefer Tryz.prog 263 [.bp 9 0,.bp 10 0,.bp 11 0] none (nAll s l m n q 0 a p false) none (nAll s l m n q 0 a p true) :=
 evDefer_ok Yo H0_ok mixedC Ft_ok (n:=40) (by rfl)
theorem dfrNE (s:List Nat) (l m:Nat) (n:Int) (q e a p:Nat):ADefer Tryz.prog 263 [.bp 9 0,.bp 10 0,.bp 11 0] none (nAll s l m n q (e+1) a p false) none (nAll s l m n p (e+1) a p false) :=
 evDefer_ok Yo H0_ok mixedC Ft_ok (n:=40) (by rfl)
end Go.Av
end
noncomputable section
namespace Go.Av
open Go Go.Proofs
set_option maxRecDepth 10000
theorem wrapU_nn (n:Int):0≤IntKind.u64.wrap n:=by
 simp only [IntKind.wrap]
 exact Int.emod_nonneg _ (by decide)
theorem stepV_nn (i c:Nat) (n:Int):0≤stepV i c n:=wrapU_nn _
def VOK (s:List Nat) (p:Nat) (r:Int × Nat × Nat × Nat):Prop:=0≤r.1∧(r.2.2.1=0→r.2.2.2=0∧r.2.1≤s.length∧p<r.2.1)∧(¬ r.2.2.1=0→r.1=0)
theorem VOK.err {s:List Nat} {p e a:Nat}:VOK s p (0,0,e+1,a):=by
 refine⟨Int.le_refl _,fun h=>?_,fun _=>rfl⟩
 exact absurd h (Nat.succ_ne_zero _)
theorem vGo_ok (s:List Nat) (p:Nat):∀ (f i:Nat) (n:Int),VOK s p (vGo s p f i n)
 |0,i,n=>.err
 |f+1,i,n=>by
  simp only [vGo]
  cases hx:s[p+i]? with
  |none=>exact .err
  |some c =>
   have hl:=(List.getElem?_eq_some_iff.1 hx).1
   simp only
   split
   ·exact .err
   ·split
    ·exact⟨stepV_nn _ _ _,fun _=>⟨rfl,by simp only;omega,by simp only;omega⟩,fun h=>absurd rfl h⟩
    ·exact vGo_ok s p f (i+1) _
theorem vR_ok (s:List Nat) (p:Nat):VOK s p (vR s p):=vGo_ok s p 10 0 0
abbrev nFn:AV:=.fn (.func 242) [] nCaps
theorem fieldN0 (s:List Nat) (p l m:Nat) (n:Int) (q a:Nat) (c:ACall Tryz.prog 242 nCaps (nObs s p l m 0 p 0 0) (.tup []) (nObs s p l m n q 0 a)) :
  ACall Tryz.prog 241 [.bp 6 0,nFn] (nObs s p l m 0 p 0 0) (.d (.bool true)) (nObs s p l m n q 0 a):=by
 refine acallWD_of_run Yo (fnAt Tryz.func241 (by kernel_rfl) (by kernel_rfl):FnAt _ _ (mkFn Tryz.f241 [])) rfl rfl rfl rfl rfl ?_
 repeat' (first|refine zW [] ?_|((refine zB [] (fun h=>?_) (fun h=>?_))<;>(first|exact zk h|skip))|refine zX [] ?_|refine RunOps.deferOp (by rfl) rfl (by rfl) ?_|refine oF (c) ?_|refine eF (c) ?_|(refine zE ?_;(skip))|((exfalso;first|(simp at h<;>fail)|(simp at h;omega)))|((refine Yt ?_;exact⟨none,_,_,rfl,.inr ⟨_,_,rfl,dfrN0 s l m n q a p⟩,by rfl,.refl,(by repeat' (first|exact trivial|refine⟨.refl,?_⟩|refine⟨.gone,?_⟩|refine⟨.box (by repeat' (first|exact trivial|refine⟨.inr rfl,?_⟩|refine⟨.inl rfl,?_⟩)),?_⟩))⟩))|fail)
theorem fieldNE (s:List Nat) (p l m:Nat) (n:Int) (q e a:Nat) (c:ACall Tryz.prog 242 nCaps (nObs s p l m 0 p 0 0) (.tup []) (nObs s p l m n q (e+1) a)) :
  ACall Tryz.prog 241 [.bp 6 0,nFn] (nObs s p l m 0 p 0 0) (.d (.bool false)) (nObs s p l m n p (e+1) a):=by
 refine acallWD_of_run Yo (fnAt Tryz.func241 (by kernel_rfl) (by kernel_rfl):FnAt _ _ (mkFn Tryz.f241 [])) rfl rfl rfl rfl rfl ?_
 repeat' (first|refine zW [] ?_|((refine zB [] (fun h=>?_) (fun h=>?_))<;>(first|exact zk h|skip))|refine zX [] ?_|refine RunOps.deferOp (by rfl) rfl (by rfl) ?_|refine oF (c) ?_|refine eF (c) ?_|(refine zE ?_;(skip))|((exfalso;first|(simp at h<;>fail)|(simp at h;omega)))|((refine Yt ?_;exact⟨none,_,_,rfl,.inr ⟨_,_,rfl,dfrNE s l m n q e a p⟩,by rfl,.refl,(by repeat' (first|exact trivial|refine⟨.refl,?_⟩|refine⟨.gone,?_⟩|refine⟨.box (by repeat' (first|exact trivial|refine⟨.inr rfl,?_⟩|refine⟨.inl rfl,?_⟩)),?_⟩))⟩))|fail)
theorem numO (s:List Nat) (p l m:Nat) (hs:s.length≤20000) (hp:p≤s.length) (n:Int) (q a:Nat) (c:ACall Tryz.prog 242 nCaps (nObs s p l m 0 p 0 0) (.tup []) (nObs s p l m n q 0 a)) :
  KnownCall Tryz.prog 214 [rV s p 0 0,.int .i64 (l:Nat),.int .i64 (m:Nat)] (.tup [.d (rV s q 0 a),.d (.int .i64 n)]):=by
 have c0:=fieldN0 s p l m n q a c
 have b:=fun O=>ACall.lift (ds:=[rV s p 0 0]) (beginA s p hs hp) rfl O
 refine knownE Yo (fnAt Tryz.func214 (by kernel_rfl) (by kernel_rfl):FnAt _ _ (mkFn Tryz.f214 [])) ?_
 repeat' (first|refine zW [] ?_|((refine zB [] (fun h=>?_) (fun h=>?_))<;>(first|exact zk h|skip))|refine zX [] ?_|refine oA (b _) ?_|refine oA c0 ?_|(refine zE ?_;(rfl))|((exfalso;first|(simp at h<;>fail)|(simp at h;omega)))|fail)
theorem numE (s:List Nat) (p l m:Nat) (hs:s.length≤20000) (hp:p≤s.length) (n:Int) (q e a:Nat) (c:ACall Tryz.prog 242 nCaps (nObs s p l m 0 p 0 0) (.tup []) (nObs s p l m n q (e+1) a)) :
  KnownCall Tryz.prog 214 [rV s p 0 0,.int .i64 (l:Nat),.int .i64 (m:Nat)] (.tup [.d (rV s p (e+1) a),.d (.int .i64 0)]):=by
 have c0:=fieldNE s p l m n q e a c
 have b:=fun O=>ACall.lift (ds:=[rV s p 0 0]) (beginA s p hs hp) rfl O
 refine knownE Yo (fnAt Tryz.func214 (by kernel_rfl) (by kernel_rfl):FnAt _ _ (mkFn Tryz.f214 [])) ?_
 repeat' (first|refine zW [] ?_|((refine zB [] (fun h=>?_) (fun h=>?_))<;>(first|exact zk h|skip))|refine zX [] ?_|refine oA (b _) ?_|refine oA c0 ?_|(refine zE ?_;(rfl))|((exfalso;first|(simp at h<;>fail)|(simp at h;omega)))|fail)
theorem numK (s:List Nat) (p l m:Nat) (hs:s.length≤20000) (hp:p≤s.length) (hlm:l≤m) (hm:m≤1000) :
  KnownCall Tryz.prog 214 [rV s p 0 0,.int .i64 (l:Nat),.int .i64 (m:Nat)] (.tup [.d (rV s (numR s p l m).2.1 (numR s p l m).2.2.1 (numR s p l m).2.2.2),.d (.int .i64 ((numR s p l m).1:Nat))]):=by
 obtain⟨k1,k2,k3⟩:=vR_ok s p
 unfold numR
 rcases hv:vR s p with⟨n,q,e,a⟩
 rw [hv] at k1 k2 k3
 simp only at k1 k2 k3 ⊢
 cases e with
 |succ e =>
  obtain rfl:=k3 (by omega)
  rw [if_pos (by omega)]
  exact numE s p l m hs hp 0 p e a (num1E s p l m hs hp hlm hm q e a hv)
 |zero =>
  obtain⟨rfl,_,_⟩:=k2 rfl
  rw [if_neg (by omega)]
  by_cases hn:n<(l:Int)∨(m:Int)<n
  ·rw [if_pos hn]
   exact numE s p l m hs hp 0 q 1 p (num1R s p l m hs hp hlm hm q n hv hn)
  ·rw [if_neg hn]
   have:=numO s p l m hs hp n q 0 (num1O s p l m hs hp hlm hm q n hv hn)
   rw [show n=((n.toNat:Nat):Int) by omega] at this
   exact this
end Go.Av
end
noncomputable section
namespace Go.Av
open Go Go.Proofs
set_option maxRecDepth 10000
def strR (s:List Nat) (p m:Nat):List Nat × Nat × Nat × Nat :=
 if(vR s p).2.2.1≠0 then([],p,(vR s p).2.2.1,(vR s p).2.2.2) else if(m:Int)<(vR s p).1 then([],p,4,p) else if(vR s p).2.1+(vR s p).1.toNat≤s.length then((s.drop (vR s p).2.1).take (vR s p).1.toNat,(vR s p).2.1+(vR s p).1.toNat,0,0) else([],p,5,(vR s p).2.1)
abbrev sObs (s:List Nat) (p m:Nat) (t:List Nat) (q e a:Nat):List Ob:=[rX s p 0 0,.box [.d (.int .i64 (m:Nat))],rX [] 0 0 0,rX s p 0 0,.box [.d (.int .i64 0),.d (.int .i64 0)],rX s q e a,.box [.bp 5 0],.box [.d (.str t)]]
abbrev sCaps:List AV:=[.bp 6 0,.bp 1 0,.bp 7 0]
theorem str1E (s:List Nat) (p m:Nat) (hs:s.length≤20000) (hp:p≤s.length) (hm:m≤1000) (q e a:Nat) (hv:vR s p=(0,q,e+1,a)) :
  ACall Tryz.prog 245 sCaps (sObs s p m [] p 0 0) (.tup []) (sObs s p m [] p (e+1) a):=by
 have c0:=wideA s p hs hp 0 q (e+1) a hv (fun h=>by omega) (fun _=>rfl)
 rw [if_neg (by omega)] at c0
 refine acallW_of_run Yo (fnAt Tryz.func245 (by kernel_rfl) (by kernel_rfl):FnAt _ _ (mkFn Tryz.f245 [])) rfl rfl rfl rfl rfl ?_
 repeat' (first|refine zW [] ?_|((refine zB [] (fun h=>?_) (fun h=>?_))<;>(first|exact zk h|skip))|refine zX [] ?_|refine oE [5] c0 ?_|(refine zE ?_;(skip))|((exfalso;first|(simp at h<;>fail)|(simp at h;omega)))|(((first|refine Yt ?_|skip);exact⟨trivial,_,_,rfl,rfl,.refl,(by repeat' (first|exact trivial|refine⟨.refl,?_⟩|refine⟨.gone,?_⟩|refine⟨.box (by repeat' (first|exact trivial|refine⟨.inr rfl,?_⟩|refine⟨.inl rfl,?_⟩)),?_⟩))⟩))|fail)
theorem str1L (s:List Nat) (p m:Nat) (hs:s.length≤20000) (hp:p≤s.length) (hm:m≤1000) (q:Nat) (n:Int) (hv:vR s p=(n,q,0,0)) (hn:(m:Int)<n) :
  ACall Tryz.prog 245 sCaps (sObs s p m [] p 0 0) (.tup []) (sObs s p m [] q 4 p):=by
 have c0:=wideA s p hs hp n q 0 0 hv (fun _=>rfl) (fun h=>absurd rfl h)
 rw [if_pos rfl] at c0
 have c1:=failsA s q 0 0 4 p
 have a2:AV.d (.int .u64 (IntKind.u64.wrap ((m:Nat):Int)))=.d (.int .u64 (m:Nat)):=wrapU (by omega)
 refine acallW_of_run Yo (fnAt Tryz.func245 (by kernel_rfl) (by kernel_rfl):FnAt _ _ (mkFn Tryz.f245 [])) rfl rfl rfl rfl rfl ?_
 repeat' (first|refine oX (frz:=[]) (v:=.d (.int .u64 (m:Nat))) Yo ?_ (he:=(a2))|refine eX (v:=.d (.int .u64 (m:Nat))) ?_ (he:=(a2))|refine zW [] ?_|((refine zB [] (fun h=>?_) (fun h=>?_))<;>(first|exact zk h|skip))|refine zX [] ?_|refine oE [5] c0 ?_|refine oE [5] c1 ?_|(refine zE ?_;(skip))|((exfalso;first|(simp at h<;>fail)|(simp at h;omega)))|(((first|refine Yt ?_|skip);exact⟨trivial,_,_,rfl,rfl,.refl,(by repeat' (first|exact trivial|refine⟨.refl,?_⟩|refine⟨.gone,?_⟩|refine⟨.box (by repeat' (first|exact trivial|refine⟨.inr rfl,?_⟩|refine⟨.inl rfl,?_⟩)),?_⟩))⟩))|fail)
theorem str1O (s:List Nat) (p m:Nat) (hs:s.length≤20000) (hp:p≤s.length) (hm:m≤1000) (q n:Nat) (hv:vR s p=(((n:Nat):Int),q,0,0)) (hn:n≤m) (hq:q+n≤s.length) :
  ACall Tryz.prog 245 sCaps (sObs s p m [] p 0 0) (.tup []) (sObs s p m ((s.drop q).take n) (q+n) 0 0):=by
 have c0:=wideA s p hs hp n q 0 0 hv (fun _=>rfl) (fun h=>absurd rfl h)
 rw [if_pos rfl] at c0
 have c1:=takeA s q n hs hq
 have a2:AV.d (.int .u64 (IntKind.u64.wrap ((m:Nat):Int)))=.d (.int .u64 (m:Nat)):=wrapU (by omega)
 have a3:AV.d (.int .i64 (IntKind.i64.wrap (n:Int)))=.d (.int .i64 (n:Int)):=wrapN (by omega) (by omega)
 refine acallW_of_run Yo (fnAt Tryz.func245 (by kernel_rfl) (by kernel_rfl):FnAt _ _ (mkFn Tryz.f245 [])) rfl rfl rfl rfl rfl ?_
 repeat' (first|refine oX (frz:=[]) (v:=.d (.int .i64 (n:Int))) Yo ?_ (he:=(a3))|refine eX (v:=.d (.int .i64 (n:Int))) ?_ (he:=(a3))|refine oX (frz:=[]) (v:=.d (.int .u64 (m:Nat))) Yo ?_ (he:=(a2))|refine eX (v:=.d (.int .u64 (m:Nat))) ?_ (he:=(a2))|refine zW [] ?_|((refine zB [] (fun h=>?_) (fun h=>?_))<;>(first|exact zk h|skip))|refine zX [] ?_|refine oE [5] c0 ?_|refine oE [5] c1 ?_|(refine zE ?_;(skip))|((exfalso;first|(simp at h<;>fail)|(simp at h;omega)))|(((first|refine Yt ?_|skip);exact⟨trivial,_,_,rfl,rfl,.refl,(by repeat' (first|exact trivial|refine⟨.refl,?_⟩|refine⟨.gone,?_⟩|refine⟨.box (by repeat' (first|exact trivial|refine⟨.inr rfl,?_⟩|refine⟨.inl rfl,?_⟩)),?_⟩))⟩))|fail)
theorem str1S (s:List Nat) (p m:Nat) (hs:s.length≤20000) (hp:p≤s.length) (hm:m≤1000) (q n:Nat) (hv:vR s p=(((n:Nat):Int),q,0,0)) (hl:q≤s.length) (hn:n≤m) (hq:¬ q+n≤s.length) :
  ACall Tryz.prog 245 sCaps (sObs s p m [] p 0 0) (.tup []) (sObs s p m [] q 5 q):=by
 have c0:=wideA s p hs hp n q 0 0 hv (fun _=>rfl) (fun h=>absurd rfl h)
 rw [if_pos rfl] at c0
 have c1:=takeS s q n hs hl hq (by omega)
 have a2:AV.d (.int .u64 (IntKind.u64.wrap ((m:Nat):Int)))=.d (.int .u64 (m:Nat)):=wrapU (by omega)
 have a3:AV.d (.int .i64 (IntKind.i64.wrap (n:Int)))=.d (.int .i64 (n:Int)):=wrapN (by omega) (by omega)
 refine acallW_of_run Yo (fnAt Tryz.func245 (by kernel_rfl) (by kernel_rfl):FnAt _ _ (mkFn Tryz.f245 [])) rfl rfl rfl rfl rfl ?_
 repeat' (first|refine oX (frz:=[]) (v:=.d (.int .i64 (n:Int))) Yo ?_ (he:=(a3))|refine eX (v:=.d (.int .i64 (n:Int))) ?_ (he:=(a3))|refine oX (frz:=[]) (v:=.d (.int .u64 (m:Nat))) Yo ?_ (he:=(a2))|refine eX (v:=.d (.int .u64 (m:Nat))) ?_ (he:=(a2))|refine zW [] ?_|((refine zB [] (fun h=>?_) (fun h=>?_))<;>(first|exact zk h|skip))|refine zX [] ?_|refine oE [5] c0 ?_|refine oE [5] c1 ?_|(refine zE ?_;(skip))|((exfalso;first|(simp at h<;>fail)|(simp at h;omega)))|(((first|refine Yt ?_|skip);exact⟨trivial,_,_,rfl,rfl,.refl,(by repeat' (first|exact trivial|refine⟨.refl,?_⟩|refine⟨.gone,?_⟩|refine⟨.box (by repeat' (first|exact trivial|refine⟨.inr rfl,?_⟩|refine⟨.inl rfl,?_⟩)),?_⟩))⟩))|fail)
abbrev sAll (s:List Nat) (m:Nat) (t:List Nat) (q e a p:Nat) (b:Bool):List Ob:=sObs s p m t q e a++[.box [.bp 5 0],.box [.d (.bool b)],.box [.d (.int .i64 (p:Nat))]]
theorem dfrS0 (s:List Nat) (m:Nat) (t:List Nat) (q a p:Nat):ADefer Tryz.prog 263 [.bp 8 0,.bp 9 0,.bp 10 0] none (sAll s m t q 0 a p false) none (sAll s m t q 0 a p true) :=
 evDefer_ok Yo H0_ok mixedC Ft_ok (n:=40) (by rfl)
theorem dfrSE (s:List Nat) (m:Nat) (t:List Nat) (q e a p:Nat):ADefer Tryz.prog 263 [.bp 8 0,.bp 9 0,.bp 10 0] none (sAll s m t q (e+1) a p false) none (sAll s m t p (e+1) a p false) :=
 evDefer_ok Yo H0_ok mixedC Ft_ok (n:=40) (by rfl)
abbrev sFn:AV:=.fn (.func 245) [] sCaps
theorem fieldS0 (s:List Nat) (p m:Nat) (t:List Nat) (q a:Nat) (c:ACall Tryz.prog 245 sCaps (sObs s p m [] p 0 0) (.tup []) (sObs s p m t q 0 a)) :
  ACall Tryz.prog 241 [.bp 5 0,sFn] (sObs s p m [] p 0 0) (.d (.bool true)) (sObs s p m t q 0 a):=by
 refine acallWD_of_run Yo (fnAt Tryz.func241 (by kernel_rfl) (by kernel_rfl):FnAt _ _ (mkFn Tryz.f241 [])) rfl rfl rfl rfl rfl ?_
 repeat' (first|refine zW [] ?_|((refine zB [] (fun h=>?_) (fun h=>?_))<;>(first|exact zk h|skip))|refine zX [] ?_|refine RunOps.deferOp (by rfl) rfl (by rfl) ?_|refine oF (c) ?_|refine eF (c) ?_|(refine zE ?_;(skip))|((exfalso;first|(simp at h<;>fail)|(simp at h;omega)))|((refine Yt ?_;exact⟨none,_,_,rfl,.inr ⟨_,_,rfl,dfrS0 s m t q a p⟩,by rfl,.refl,(by repeat' (first|exact trivial|refine⟨.refl,?_⟩|refine⟨.gone,?_⟩|refine⟨.box (by repeat' (first|exact trivial|refine⟨.inr rfl,?_⟩|refine⟨.inl rfl,?_⟩)),?_⟩))⟩))|fail)
theorem fieldSE (s:List Nat) (p m:Nat) (t:List Nat) (q e a:Nat) (c:ACall Tryz.prog 245 sCaps (sObs s p m [] p 0 0) (.tup []) (sObs s p m t q (e+1) a)) :
  ACall Tryz.prog 241 [.bp 5 0,sFn] (sObs s p m [] p 0 0) (.d (.bool false)) (sObs s p m t p (e+1) a):=by
 refine acallWD_of_run Yo (fnAt Tryz.func241 (by kernel_rfl) (by kernel_rfl):FnAt _ _ (mkFn Tryz.f241 [])) rfl rfl rfl rfl rfl ?_
 repeat' (first|refine zW [] ?_|((refine zB [] (fun h=>?_) (fun h=>?_))<;>(first|exact zk h|skip))|refine zX [] ?_|refine RunOps.deferOp (by rfl) rfl (by rfl) ?_|refine oF (c) ?_|refine eF (c) ?_|(refine zE ?_;(skip))|((exfalso;first|(simp at h<;>fail)|(simp at h;omega)))|((refine Yt ?_;exact⟨none,_,_,rfl,.inr ⟨_,_,rfl,dfrSE s m t q e a p⟩,by rfl,.refl,(by repeat' (first|exact trivial|refine⟨.refl,?_⟩|refine⟨.gone,?_⟩|refine⟨.box (by repeat' (first|exact trivial|refine⟨.inr rfl,?_⟩|refine⟨.inl rfl,?_⟩)),?_⟩))⟩))|fail)
theorem strO (s:List Nat) (p m:Nat) (hs:s.length≤20000) (hp:p≤s.length) (t:List Nat) (q a:Nat) (c:ACall Tryz.prog 245 sCaps (sObs s p m [] p 0 0) (.tup []) (sObs s p m t q 0 a)) :
  KnownCall Tryz.prog 215 [rV s p 0 0,.int .i64 (m:Nat)] (.tup [.d (rV s q 0 a),.d (.str t)]):=by
 have c0:=fieldS0 s p m t q a c
 have b:=fun O=>ACall.lift (ds:=[rV s p 0 0]) (beginA s p hs hp) rfl O
 refine knownE Yo (fnAt Tryz.func215 (by kernel_rfl) (by kernel_rfl):FnAt _ _ (mkFn Tryz.f215 [])) ?_
 repeat' (first|refine zW [] ?_|((refine zB [] (fun h=>?_) (fun h=>?_))<;>(first|exact zk h|skip))|refine zX [] ?_|refine oA (b _) ?_|refine oA c0 ?_|(refine zE ?_;(rfl))|((exfalso;first|(simp at h<;>fail)|(simp at h;omega)))|fail)
theorem strE (s:List Nat) (p m:Nat) (hs:s.length≤20000) (hp:p≤s.length) (t:List Nat) (q e a:Nat) (c:ACall Tryz.prog 245 sCaps (sObs s p m [] p 0 0) (.tup []) (sObs s p m t q (e+1) a)) :
  KnownCall Tryz.prog 215 [rV s p 0 0,.int .i64 (m:Nat)] (.tup [.d (rV s p (e+1) a),.d (.str [])]):=by
 have c0:=fieldSE s p m t q e a c
 have b:=fun O=>ACall.lift (ds:=[rV s p 0 0]) (beginA s p hs hp) rfl O
 refine knownE Yo (fnAt Tryz.func215 (by kernel_rfl) (by kernel_rfl):FnAt _ _ (mkFn Tryz.f215 [])) ?_
 repeat' (first|refine zW [] ?_|((refine zB [] (fun h=>?_) (fun h=>?_))<;>(first|exact zk h|skip))|refine zX [] ?_|refine oA (b _) ?_|refine oA c0 ?_|(refine zE ?_;(rfl))|((exfalso;first|(simp at h<;>fail)|(simp at h;omega)))|fail)
theorem strK (s:List Nat) (p m:Nat) (hs:s.length≤20000) (hp:p≤s.length) (hm:m≤1000) :
  KnownCall Tryz.prog 215 [rV s p 0 0,.int .i64 (m:Nat)] (.tup [.d (rV s (strR s p m).2.1 (strR s p m).2.2.1 (strR s p m).2.2.2),.d (.str (strR s p m).1)]):=by
 obtain⟨k1,k2,k3⟩:=vR_ok s p
 unfold strR
 rcases hv:vR s p with⟨n,q,e,a⟩
 rw [hv] at k1 k2 k3
 simp only at k1 k2 k3 ⊢
 cases e with
 |succ e =>
  obtain rfl:=k3 (by omega)
  rw [if_pos (by omega)]
  exact strE s p m hs hp [] p e a (str1E s p m hs hp hm q e a hv)
 |zero =>
  obtain⟨rfl,k4,_⟩:=k2 rfl
  rw [if_neg (by omega)]
  by_cases hn:(m:Int)<n
  ·rw [if_pos hn]
   exact strE s p m hs hp [] q 3 p (str1L s p m hs hp hm q n hv hn)
  ·rw [if_neg hn]
   obtain⟨n,rfl⟩:∃ k:Nat,n=(k:Nat):=⟨n.toNat,by omega⟩
   simp only [Int.toNat_natCast]
   by_cases hq:q+n≤s.length
   ·rw [if_pos hq]
    exact strO s p m hs hp _ (q+n) 0 (str1O s p m hs hp hm q n hv (by omega) hq)
   ·rw [if_neg hq]
    exact strE s p m hs hp [] q 4 q (str1S s p m hs hp hm q n hv k4 (by omega) hq)
theorem readC (s:List Nat) (hs:s.length≤20000):KnownCall Tryz.prog 151 [.str s] (.d (rV s 0 0 0)):=by
 have b:=fun O=>ACall.lift (ds:=[rV s 0 0 0]) (beginA s 0 hs (Nat.zero_le _)) rfl O
 refine knownE Yo (fnAt Tryz.func151 (by kernel_rfl) (by kernel_rfl):FnAt _ _ (mkFn Tryz.f151 [])) ?_
 repeat' (first|refine zW [] ?_|((refine zB [] (fun h=>?_) (fun h=>?_))<;>(first|exact zk h|skip))|refine zX [] ?_|refine oA (b _) ?_|(refine zE ?_;(rfl))|((exfalso;first|(simp at h<;>fail)|(simp at h;omega)))|fail)
def endR12 (s:List Nat) (p:Nat):Nat × Nat:=if p<s.length then(4,p) else(0,0)
theorem endC (s:List Nat) (p:Nat) (hs:s.length≤20000) (hp:p≤s.length):KnownCall Tryz.prog 157 [rV s p 0 0] (.d (.agg [.int .i64 ((endR12 s p).1:Nat),.int .i64 ((endR12 s p).2:Nat)])):=by
 have b:=fun O=>ACall.lift (ds:=[rV s p 0 0]) (beginA s p hs hp) rfl O
 unfold endR12
 by_cases h1:p<s.length
 ·rw [if_pos h1]
  refine knownE Yo (fnAt Tryz.func157 (by kernel_rfl) (by kernel_rfl):FnAt _ _ (mkFn Tryz.f157 [])) ?_
  repeat' (first|refine zW [] ?_|((refine zB [] (fun h=>?_) (fun h=>?_))<;>(first|exact zk h|skip))|refine zX [] ?_|refine oA (b _) ?_|(refine zE ?_;(rfl))|((exfalso;first|(simp at h<;>fail)|(simp at h;omega)))|fail)
 ·rw [if_neg h1]
  refine knownE Yo (fnAt Tryz.func157 (by kernel_rfl) (by kernel_rfl):FnAt _ _ (mkFn Tryz.f157 [])) ?_
  repeat' (first|refine zW [] ?_|((refine zB [] (fun h=>?_) (fun h=>?_))<;>(first|exact zk h|skip))|refine zX [] ?_|refine oA (b _) ?_|(refine zE ?_;(rfl))|((exfalso;first|(simp at h<;>fail)|(simp at h;omega)))|fail)
end Go.Av
end
noncomputable section
namespace Go.Av
open Go Go.Proofs
set_option maxRecDepth 10000
abbrev refC (e:Nat × Nat):DV:=.iface 166 (.agg [.int .i64 (e.1:Nat),.int .i64 (e.2:Nat)])
theorem ends0 (s:List Nat) (p a:Nat):ACall Tryz.prog 152 [.bp 0 0] [rX s p 0 a] (.tup []) [rX s p 0 a]:=by
 refine acallW_of_run Yo (fnAt Tryz.func152 (by kernel_rfl) (by kernel_rfl):FnAt _ _ (mkFn Tryz.f152 [])) rfl rfl rfl rfl rfl ?_
 repeat' (first|refine zW [] ?_|((refine zB [] (fun h=>?_) (fun h=>?_))<;>(first|exact zk h|skip))|refine zX [] ?_|(refine zE ?_;(skip))|((exfalso;first|(simp at h<;>fail)|(simp at h;omega)))|(((first|refine Yt ?_|skip);exact⟨trivial,_,_,rfl,rfl,.refl,(by repeat' (first|exact trivial|refine⟨.refl,?_⟩|refine⟨.gone,?_⟩|refine⟨.box (by repeat' (first|exact trivial|refine⟨.inr rfl,?_⟩|refine⟨.inl rfl,?_⟩)),?_⟩))⟩))|fail)
theorem endsE (s:List Nat) (p e a:Nat):ACall Tryz.prog 152 [.bp 0 0] [rX s p (e+1) a] (.pan (refC (e+1,a))) [.gone]:=by
 refine acallP_of_run (fnAt Tryz.func152 (by kernel_rfl) (by kernel_rfl):FnAt _ _ (mkFn Tryz.f152 [])) rfl rfl rfl rfl ?_
 repeat' (first|refine zW [] ?_|((refine zB [] (fun h=>?_) (fun h=>?_))<;>(first|exact zk h|skip))|refine zX [] ?_|refine oPan ?_|(refine zE ?_;(skip))|((exfalso;first|(simp at h<;>fail)|(simp at h;omega)))|(exact⟨rfl,rfl,(by repeat' (first|exact trivial|refine⟨.refl,?_⟩|refine⟨.gone,?_⟩|refine⟨.box (by repeat' (first|exact trivial|refine⟨.inr rfl,?_⟩|refine⟨.inl rfl,?_⟩)),?_⟩))⟩)|fail)
def numX (s:List Nat) (p l m:Nat):Except (Nat × Nat) (Nat × Nat):=if(numR s p l m).2.2.1=0 then .ok ((numR s p l m).1,(numR s p l m).2.1) else .error ((numR s p l m).2.2.1,(numR s p l m).2.2.2)
def strX (s:List Nat) (p m:Nat):Except (Nat × Nat) (List Nat × Nat):=if(strR s p m).2.2.1=0 then .ok ((strR s p m).1,(strR s p m).2.1) else .error ((strR s p m).2.2.1,(strR s p m).2.2.2)
theorem numR_a {s:List Nat} {p l m:Nat} (h:(numR s p l m).2.2.1=0):(numR s p l m).2.2.2=0:=by
 unfold numR at h ⊢
 split at h
 ·rename_i h0;exact absurd h h0
 ·rename_i h0
  rw [if_neg h0]
  split
  ·rename_i h1;rw [if_pos h1] at h;cases h
  ·rfl
theorem strR_a {s:List Nat} {p m:Nat} (h:(strR s p m).2.2.1=0):(strR s p m).2.2.2=0:=by
 unfold strR at h ⊢
 split at h
 ·rename_i h0;exact absurd h h0
 ·rename_i h0
  rw [if_neg h0]
  split
  ·rename_i h1;rw [if_pos h1] at h;cases h
  ·rename_i h1
   rw [if_neg h1] at h
   split
   ·rfl
   ·rename_i h2;rw [if_neg h2] at h;cases h
theorem numM0 {s:List Nat} {p l m:Nat} (hs:s.length≤20000) (hp:p≤s.length) (hlm:l≤m) (hm:m≤1000) {n q:Nat} (h:numX s p l m=.ok (n,q)) :
  ACall Tryz.prog 153 [.bp 0 0,.d (.int .i64 (l:Nat)),.d (.int .i64 (m:Nat))] [rX s p 0 0] (.d (.int .i64 (n:Nat))) [rX s q 0 0]:=by
 have c0:=numK s p l m hs hp hlm hm
 have k:=numR_a (s:=s) (p:=p) (l:=l) (m:=m)
 unfold numX at h
 split at h
 ·rename_i h0
  simp only [Except.ok.injEq,Prod.mk.injEq] at h
  rw [h0,k h0,h.1,h.2] at c0
  have c1:=ends0 s q 0
  refine acallW_of_run Yo (fnAt Tryz.func153 (by kernel_rfl) (by kernel_rfl):FnAt _ _ (mkFn Tryz.f153 [])) rfl rfl rfl rfl rfl ?_
  repeat' (first|refine zW [] ?_|((refine zB [] (fun h=>?_) (fun h=>?_))<;>(first|exact zk h|skip))|refine zX [] ?_|refine zC (c0) ?_|refine oE [0] c1 ?_|(refine zE ?_;(skip))|((exfalso;first|(simp at h<;>fail)|(simp at h;omega)))|(((first|refine Yt ?_|skip);exact⟨trivial,_,_,rfl,rfl,.refl,(by repeat' (first|exact trivial|refine⟨.refl,?_⟩|refine⟨.gone,?_⟩|refine⟨.box (by repeat' (first|exact trivial|refine⟨.inr rfl,?_⟩|refine⟨.inl rfl,?_⟩)),?_⟩))⟩))|fail)
 ·cases h
theorem numME {s:List Nat} {p l m:Nat} (hs:s.length≤20000) (hp:p≤s.length) (hlm:l≤m) (hm:m≤1000) {e:Nat × Nat} (h:numX s p l m=.error e) :
  ACall Tryz.prog 153 [.bp 0 0,.d (.int .i64 (l:Nat)),.d (.int .i64 (m:Nat))] [rX s p 0 0] (.pan (refC e)) [.gone]:=by
 have c0:=numK s p l m hs hp hlm hm
 unfold numX at h
 split at h
 ·cases h
 ·rename_i h0
  obtain⟨e1,e2⟩:=e
  simp only [Except.error.injEq,Prod.mk.injEq] at h
  obtain⟨h1,h2⟩:=h
  rw [h1] at h0
  obtain⟨e,rfl⟩:∃ k,e1=k+1:=⟨e1-1,by omega⟩
  rw [h1,h2] at c0
  have c1:=endsE s (numR s p l m).2.1 e e2
  refine acallP_of_run (fnAt Tryz.func153 (by kernel_rfl) (by kernel_rfl):FnAt _ _ (mkFn Tryz.f153 [])) rfl rfl rfl rfl ?_
  repeat' (first|refine zW [] ?_|((refine zB [] (fun h=>?_) (fun h=>?_))<;>(first|exact zk h|skip))|refine zX [] ?_|refine zC (c0) ?_|refine oEP [0] c1 ?_|(refine zE ?_;(skip))|((exfalso;first|(simp at h<;>fail)|(simp at h;omega)))|(exact⟨rfl,rfl,(by repeat' (first|exact trivial|refine⟨.refl,?_⟩|refine⟨.gone,?_⟩|refine⟨.box (by repeat' (first|exact trivial|refine⟨.inr rfl,?_⟩|refine⟨.inl rfl,?_⟩)),?_⟩))⟩)|fail)
theorem nameM0 {s:List Nat} {p:Nat} (hs:s.length≤20000) (hp:p≤s.length) {t:List Nat} {q:Nat} (h:strX s p 12=.ok (t,q)) :
  ACall Tryz.prog 155 [.bp 0 0] [rX s p 0 0] (.d (.str t)) [rX s q 0 0]:=by
 have c0:=strK s p 12 hs hp (by decide)
 have k:=strR_a (s:=s) (p:=p) (m:=12)
 unfold strX at h
 split at h
 ·rename_i h0
  simp only [Except.ok.injEq,Prod.mk.injEq] at h
  rw [h0,k h0,h.1,h.2] at c0
  have c1:=ends0 s q 0
  refine acallW_of_run Yo (fnAt Tryz.func155 (by kernel_rfl) (by kernel_rfl):FnAt _ _ (mkFn Tryz.f155 [])) rfl rfl rfl rfl rfl ?_
  repeat' (first|refine zW [] ?_|((refine zB [] (fun h=>?_) (fun h=>?_))<;>(first|exact zk h|skip))|refine zX [] ?_|refine zC (c0) ?_|refine oE [0] c1 ?_|(refine zE ?_;(skip))|((exfalso;first|(simp at h<;>fail)|(simp at h;omega)))|(((first|refine Yt ?_|skip);exact⟨trivial,_,_,rfl,rfl,.refl,(by repeat' (first|exact trivial|refine⟨.refl,?_⟩|refine⟨.gone,?_⟩|refine⟨.box (by repeat' (first|exact trivial|refine⟨.inr rfl,?_⟩|refine⟨.inl rfl,?_⟩)),?_⟩))⟩))|fail)
 ·cases h
theorem nameME {s:List Nat} {p:Nat} (hs:s.length≤20000) (hp:p≤s.length) {e:Nat × Nat} (h:strX s p 12=.error e) :
  ACall Tryz.prog 155 [.bp 0 0] [rX s p 0 0] (.pan (refC e)) [.gone]:=by
 have c0:=strK s p 12 hs hp (by decide)
 unfold strX at h
 split at h
 ·cases h
 ·rename_i h0
  obtain⟨e1,e2⟩:=e
  simp only [Except.error.injEq,Prod.mk.injEq] at h
  obtain⟨h1,h2⟩:=h
  rw [h1] at h0
  obtain⟨e,rfl⟩:∃ k,e1=k+1:=⟨e1-1,by omega⟩
  rw [h1,h2] at c0
  have c1:=endsE s (strR s p 12).2.1 e e2
  refine acallP_of_run (fnAt Tryz.func155 (by kernel_rfl) (by kernel_rfl):FnAt _ _ (mkFn Tryz.f155 [])) rfl rfl rfl rfl ?_
  repeat' (first|refine zW [] ?_|((refine zB [] (fun h=>?_) (fun h=>?_))<;>(first|exact zk h|skip))|refine zX [] ?_|refine zC (c0) ?_|refine oEP [0] c1 ?_|(refine zE ?_;(skip))|((exfalso;first|(simp at h<;>fail)|(simp at h;omega)))|(exact⟨rfl,rfl,(by repeat' (first|exact trivial|refine⟨.refl,?_⟩|refine⟨.gone,?_⟩|refine⟨.box (by repeat' (first|exact trivial|refine⟨.inr rfl,?_⟩|refine⟨.inl rfl,?_⟩)),?_⟩))⟩)|fail)
theorem symI (n:Nat) (h:n≤1000):KnownCall Tryz.prog 156 [.int .i64 (n:Nat)] (.d (.int .i64 ((if n<8 then n else n+8:Nat):Nat))):=by
 have a1:AV.d (.int .i64 (IntKind.i64.wrap ((n:Int)+8)))=.d (.int .i64 ((n+8:Nat):Int)):=vN8 (by omega) (by omega)
 split
 ·refine knownE Yo (fnAt Tryz.func156 (by kernel_rfl) (by kernel_rfl):FnAt _ _ (mkFn Tryz.f156 [])) ?_
  repeat' (first|refine oX (frz:=[]) (v:=.d (.int .i64 ((n+8:Nat):Int))) Yo ?_ (he:=(a1))|refine eX (v:=.d (.int .i64 ((n+8:Nat):Int))) ?_ (he:=(a1))|refine zW [] ?_|((refine zB [] (fun h=>?_) (fun h=>?_))<;>(first|exact zk h|skip))|refine zX [] ?_|(refine zE ?_;(rfl))|((exfalso;first|(simp at h<;>fail)|(simp at h;omega)))|fail)
 ·refine knownE Yo (fnAt Tryz.func156 (by kernel_rfl) (by kernel_rfl):FnAt _ _ (mkFn Tryz.f156 [])) ?_
  repeat' (first|refine oX (frz:=[]) (v:=.d (.int .i64 ((n+8:Nat):Int))) Yo ?_ (he:=(a1))|refine eX (v:=.d (.int .i64 ((n+8:Nat):Int))) ?_ (he:=(a1))|refine zW [] ?_|((refine zB [] (fun h=>?_) (fun h=>?_))<;>(first|exact zk h|skip))|refine zX [] ?_|(refine zE ?_;(rfl))|((exfalso;first|(simp at h<;>fail)|(simp at h;omega)))|fail)
end Go.Av
end
noncomputable section
namespace Go.Av
open Go Go.Proofs
set_option maxRecDepth 10000
theorem numX_ok {s:List Nat} {p l m n q:Nat} (h:numX s p l m=.ok (n,q)):q≤s.length∧p<q∧l≤n∧n≤m∧vR s p=(((n:Nat):Int),q,0,0):=by
 obtain⟨k1,k2,k3⟩:=vR_ok s p
 unfold numX at h
 split at h
 ·rename_i h0
  simp only [Except.ok.injEq,Prod.mk.injEq] at h
  unfold numR at h h0
  rcases hv:vR s p with⟨n',q',e',a'⟩
  rw [hv] at k1 k2 k3 h h0
  simp only at k1 k2 k3 h h0
  by_cases he:e'=0
  ·subst he
   rw [if_neg (by omega)] at h h0
   by_cases hr:n'<(l:Int)∨(m:Int)<n'
   ·rw [if_pos hr] at h0;cases h0
   ·rw [if_neg hr] at h
    simp only at h
    obtain⟨rfl,h3,h4⟩:=k2 rfl
    obtain⟨h1,h2⟩:=h
    refine⟨by omega,by omega,by omega,by omega,?_⟩
    rw [← h2,← h1,show((n'.toNat:Nat):Int)=n' by omega]
  ·rw [if_pos he] at h0;exact absurd h0 he
 ·cases h
theorem strX_ok {s:List Nat} {p m q:Nat} {t:List Nat} (h:strX s p m=.ok (t,q)):∃ r,q≤s.length∧p<r∧r+t.length=q∧t.length≤m∧t=(s.drop r).take t.length∧vR s p=(((t.length:Nat):Int),r,0,0):=by
 obtain⟨k1,k2,k3⟩:=vR_ok s p
 unfold strX at h
 split at h
 ·rename_i h0
  simp only [Except.ok.injEq,Prod.mk.injEq] at h
  unfold strR at h h0
  rcases hv:vR s p with⟨n',q',e',a'⟩
  rw [hv] at k1 k2 k3 h h0
  simp only at k1 k2 k3 h h0
  by_cases he:e'=0
  ·subst he
   rw [if_neg (by omega)] at h h0
   by_cases hr:(m:Int)<n'
   ·rw [if_pos hr] at h0;cases h0
   ·rw [if_neg hr] at h h0
    by_cases hq:q'+n'.toNat≤s.length
    ·rw [if_pos hq] at h
     simp only at h
     obtain⟨rfl,h3,h4⟩:=k2 rfl
     obtain⟨h1,h2⟩:=h
     have hl:t.length=n'.toNat:=by rw [← h1,List.length_take,List.length_drop];omega
     refine⟨q',by omega,h4,by omega,by omega,by rw [hl,h1],?_⟩
     rw [hl,show((n'.toNat:Nat):Int)=n' by omega]
    ·rw [if_neg hq] at h0;cases h0
  ·rw [if_pos he] at h0;exact absurd h0 he
 ·cases h
def namesGo (s:List Nat):Nat→Nat→List (List Nat)→Except (Nat × Nat) (List (List Nat) × Nat)
 |0,p,acc=>.ok (acc,p)
 |k+1,p,acc=>(strX s p 12).bind fun r=>namesGo s k r.2 (acc++[r.1])
def namesX (s:List Nat) (p m:Nat):Except (Nat × Nat) (List (List Nat) × Nat):=(numX s p 1 m).bind fun r=>namesGo s r.1 r.2 []
set_option maxHeartbeats 4000000 in
theorem namesM0 {s:List Nat} {p m:Nat} (hs:s.length≤20000) (hp:p≤s.length) (hm1:1≤m) (hm:m≤1000) {l:List (List Nat)} {q:Nat} (h:namesX s p m=.ok (l,q)) :
  ACall Tryz.prog 154 [.bp 0 0,.d (.int .i64 (m:Nat))] [rX s p 0 0] (.d (strs l)) [rX s q 0 0]:=by
 unfold namesX at h
 rcases hn:numX s p 1 m with e|⟨n,q1⟩
 ·rw [hn] at h;cases h
 ·rw [hn] at h
  have h:namesGo s n q1 []=.ok (l,q):=h
  have c0:=numM0 hs hp hm1 hm hn
  obtain⟨n1,n2,n3,n4,_⟩:=numX_ok hn
  refine acallW_of_run Yo (fnAt Tryz.func154 (by kernel_rfl) (by kernel_rfl):FnAt _ _ (mkFn Tryz.f154 [])) rfl rfl rfl rfl rfl ?_
  repeat' (first|refine zW [] ?_|((refine zB [] (fun h=>?_) (fun h=>?_))<;>(first|exact zk h|skip))|refine zX [] ?_|refine oE [0] c0 ?_|(refine zE ?_;(skip))|((exfalso;first|(simp at h<;>fail)|(simp at h;omega)))|fail)
  refine Run.mkRoom 5 1 [(0,.bp 0 0),(5,.sr 1 1 []),(8,.d (.int .i64 (n:Nat))),(9,.d (.int .i64 (0:Nat)))] (by kernel_rfl) (ofList_cases (by intro p hp;simp only [List.mem_cons,List.not_mem_nil,or_false] at hp;rcases hp with rfl|rfl|rfl|rfl<;>first|exact .inl ⟨rfl,rfl⟩|exact .inr (by kernel_rfl))) ?_
  refine Run.loopT (fun y:Nat × Nat × List DV=>⟨PT.ofList [(0,.bp 0 0),(5,.sr 1 1 y.2.2),(8,.d (.int .i64 (n:Nat))),(9,.d (.int .i64 (y.1:Nat)))],[rX s y.2.1 0 0,.room y.2.2.length 1],[]⟩) (fun y=>y.1≤n∧y.2.1≤s.length∧∃ acc:List (List Nat),y.2.2=acc.map DV.str∧acc.length=y.1∧namesGo s (n-y.1) y.2.1 acc=.ok (l,q)) (fun y=>n-y.1) (0,q1,[]) ⟨Nat.zero_le _,n1,[],rfl,rfl,h⟩ (tidy_of (objs:=_) _ 2 (by rfl) rfl (by repeat' (first|exact trivial|refine⟨(Or.inl rfl),?_⟩|refine⟨(Or.inr rfl),?_⟩|fail)) (by repeat' (first|exact trivial|refine⟨rfl,?_⟩|fail)) rfl rfl) (fun y hy=>?_)
  obtain⟨i,p',ds⟩:=y
  obtain⟨h1,h2,acc,hd,h3,h4⟩:=hy
  simp only at h1 h2 h3 h4 hd ⊢
  have hdl:ds.length=i:=by rw [hd,List.length_map];exact h3
  have ai:AV.d (.int .i64 (IntKind.i64.wrap ((i:Int)+1)))=.d (.int .i64 ((i+1:Nat):Int)):=vN8 (by omega) (by omega)
  rcases Nat.lt_or_ge i n with hlt|hge
  ·obtain⟨f,hf⟩:∃ f,n-i=f+1:=⟨n-i-1,by omega⟩
   rw [hf] at h4
   unfold namesGo at h4
   rcases hx:strX s p' 12 with e|⟨t,q'⟩
   ·rw [hx] at h4;cases h4
   ·rw [hx] at h4
    have h4:namesGo s f q' (acc++[t])=.ok (l,q):=h4
    obtain⟨r,x1,x2,x3,x4,_,_⟩:=strX_ok hx
    have c1:=nameM0 hs h2 hx
    repeat' (first|refine oX (frz:=[]) (v:=.d (.int .i64 ((i+1:Nat):Int))) Yo ?_ (he:=(ai))|refine eX (v:=.d (.int .i64 ((i+1:Nat):Int))) ?_ (he:=(ai))|refine zW [] ?_|((refine zB [] (fun h=>?_) (fun h=>?_))<;>(first|exact zk h|skip))|refine zX [] ?_|refine oE [0] c1 ?_|refine oX (frz:=[]) Yo ?_ (hv:=app1) (hf:=rfl) (he:=rfl)|refine eX ?_ (hv:=app1) (hf:=rfl) (he:=rfl)|refine oX (frz:=[]) Yo ?_ (hv:=app0) (hf:=rfl) (he:=rfl)|refine eX ?_ (hv:=app0) (hf:=rfl) (he:=rfl)|(refine zE ?_;(skip))|(exact⟨(i+1,q',ds++[.str t]),⟨hlt,x1,acc++[t],by rw [hd];simp,by simp;omega,by rw [show n-(i+1)=f by omega];exact h4⟩,by simp only;omega,(tidy_of (objs:=_) _ 2 (Eq.trans (b:=[rX s q' 0 0,.room (ds.length+1) 1]) rfl (by simp)) rfl (by repeat' (first|exact trivial|refine⟨(Or.inl rfl),?_⟩|refine⟨(Or.inl (inc_get (k:=i) (by kernel_rfl) (by omega))),?_⟩|refine⟨(Or.inr rfl),?_⟩|fail)) (by repeat' (first|exact trivial|refine⟨rfl,?_⟩|fail)) rfl rfl)⟩)|((exfalso;first|(simp at h<;>fail)|(simp at h;omega)))|fail)
  ·obtain rfl:i=n:=by omega
   rw [Nat.sub_self] at h4
   unfold namesGo at h4
   simp only [Except.ok.injEq,Prod.mk.injEq] at h4
   obtain⟨rfl,rfl⟩:=h4
   subst hd
   repeat' (first|refine zW [] ?_|((refine zB [] (fun h=>?_) (fun h=>?_))<;>(first|exact zk h|skip))|refine zX [] ?_|(refine zE ?_;(skip))|((exfalso;first|(simp at h<;>fail)|(simp at h;omega)))|(((first|refine Yt ?_|skip);exact⟨trivial,_,_,rfl,rfl,.sr,(by repeat' (first|exact trivial|refine⟨.refl,?_⟩|refine⟨.gone,?_⟩|refine⟨.box (by repeat' (first|exact trivial|refine⟨.inr rfl,?_⟩|refine⟨.inl rfl,?_⟩)),?_⟩))⟩))|fail)
set_option maxHeartbeats 4000000 in
theorem namesME {s:List Nat} {p m:Nat} (hs:s.length≤20000) (hp:p≤s.length) (hm1:1≤m) (hm:m≤1000) {e:Nat × Nat} (h:namesX s p m=.error e) :
  ACall Tryz.prog 154 [.bp 0 0,.d (.int .i64 (m:Nat))] [rX s p 0 0] (.pan (refC e)) [.gone]:=by
 unfold namesX at h
 rcases hn:numX s p 1 m with e1|⟨n,q1⟩
 ·rw [hn] at h
  have h:Except.error e1=Except.error (α:=List (List Nat) × Nat) e:=h
  cases h
  have c0:=numME hs hp hm1 hm hn
  refine acallP_of_run (fnAt Tryz.func154 (by kernel_rfl) (by kernel_rfl):FnAt _ _ (mkFn Tryz.f154 [])) rfl rfl rfl rfl ?_
  repeat' (first|refine zW [] ?_|((refine zB [] (fun h=>?_) (fun h=>?_))<;>(first|exact zk h|skip))|refine zX [] ?_|refine oEP [0] c0 ?_|(refine zE ?_;(skip))|((exfalso;first|(simp at h<;>fail)|(simp at h;omega)))|(exact⟨rfl,rfl,(by repeat' (first|exact trivial|refine⟨.refl,?_⟩|refine⟨.gone,?_⟩|refine⟨.box (by repeat' (first|exact trivial|refine⟨.inr rfl,?_⟩|refine⟨.inl rfl,?_⟩)),?_⟩))⟩)|fail)
 ·rw [hn] at h
  have h:namesGo s n q1 []=.error e:=h
  have c0:=numM0 hs hp hm1 hm hn
  obtain⟨n1,n2,n3,n4,_⟩:=numX_ok hn
  refine acallP_of_run (fnAt Tryz.func154 (by kernel_rfl) (by kernel_rfl):FnAt _ _ (mkFn Tryz.f154 [])) rfl rfl rfl rfl ?_
  repeat' (first|refine zW [] ?_|((refine zB [] (fun h=>?_) (fun h=>?_))<;>(first|exact zk h|skip))|refine zX [] ?_|refine oE [0] c0 ?_|(refine zE ?_;(skip))|((exfalso;first|(simp at h<;>fail)|(simp at h;omega)))|fail)
  refine Run.mkRoom 5 1 [(0,.bp 0 0),(5,.sr 1 1 []),(8,.d (.int .i64 (n:Nat))),(9,.d (.int .i64 (0:Nat)))] (by kernel_rfl) (ofList_cases (by intro p hp;simp only [List.mem_cons,List.not_mem_nil,or_false] at hp;rcases hp with rfl|rfl|rfl|rfl<;>first|exact .inl ⟨rfl,rfl⟩|exact .inr (by kernel_rfl))) ?_
  refine Run.loopT (fun y:Nat × Nat × List DV=>⟨PT.ofList [(0,.bp 0 0),(5,.sr 1 1 y.2.2),(8,.d (.int .i64 (n:Nat))),(9,.d (.int .i64 (y.1:Nat)))],[rX s y.2.1 0 0,.room y.2.2.length 1],[]⟩) (fun y=>y.1≤n∧y.2.1≤s.length∧∃ acc:List (List Nat),y.2.2=acc.map DV.str∧acc.length=y.1∧namesGo s (n-y.1) y.2.1 acc=.error e) (fun y=>n-y.1) (0,q1,[]) ⟨Nat.zero_le _,n1,[],rfl,rfl,h⟩ (tidy_of (objs:=_) _ 2 (by rfl) rfl (by repeat' (first|exact trivial|refine⟨(Or.inl rfl),?_⟩|refine⟨(Or.inr rfl),?_⟩|fail)) (by repeat' (first|exact trivial|refine⟨rfl,?_⟩|fail)) rfl rfl) (fun y hy=>?_)
  obtain⟨i,p',ds⟩:=y
  obtain⟨h1,h2,acc,hd,h3,h4⟩:=hy
  simp only at h1 h2 h3 h4 hd ⊢
  have hdl:ds.length=i:=by rw [hd,List.length_map];exact h3
  have ai:AV.d (.int .i64 (IntKind.i64.wrap ((i:Int)+1)))=.d (.int .i64 ((i+1:Nat):Int)):=vN8 (by omega) (by omega)
  rcases Nat.lt_or_ge i n with hlt|hge
  ·obtain⟨f,hf⟩:∃ f,n-i=f+1:=⟨n-i-1,by omega⟩
   rw [hf] at h4
   unfold namesGo at h4
   rcases hx:strX s p' 12 with e1|⟨t,q'⟩
   ·rw [hx] at h4
    have h4:Except.error e1=Except.error (α:=List (List Nat) × Nat) e:=h4
    cases h4
    have c1:=nameME hs h2 hx
    repeat' (first|refine zW [] ?_|((refine zB [] (fun h=>?_) (fun h=>?_))<;>(first|exact zk h|skip))|refine zX [] ?_|refine oEP [0] c1 ?_|(refine zE ?_;(skip))|((exfalso;first|(simp at h<;>fail)|(simp at h;omega)))|(exact⟨rfl,rfl,(by repeat' (first|exact trivial|refine⟨.refl,?_⟩|refine⟨.gone,?_⟩|refine⟨.box (by repeat' (first|exact trivial|refine⟨.inr rfl,?_⟩|refine⟨.inl rfl,?_⟩)),?_⟩))⟩)|fail)
   ·rw [hx] at h4
    have h4:namesGo s f q' (acc++[t])=.error e:=h4
    obtain⟨r,x1,x2,x3,x4,_,_⟩:=strX_ok hx
    have c1:=nameM0 hs h2 hx
    repeat' (first|refine oX (frz:=[]) (v:=.d (.int .i64 ((i+1:Nat):Int))) Yo ?_ (he:=(ai))|refine eX (v:=.d (.int .i64 ((i+1:Nat):Int))) ?_ (he:=(ai))|refine zW [] ?_|((refine zB [] (fun h=>?_) (fun h=>?_))<;>(first|exact zk h|skip))|refine zX [] ?_|refine oE [0] c1 ?_|refine oX (frz:=[]) Yo ?_ (hv:=app1) (hf:=rfl) (he:=rfl)|refine eX ?_ (hv:=app1) (hf:=rfl) (he:=rfl)|refine oX (frz:=[]) Yo ?_ (hv:=app0) (hf:=rfl) (he:=rfl)|refine eX ?_ (hv:=app0) (hf:=rfl) (he:=rfl)|(refine zE ?_;(skip))|(exact⟨(i+1,q',ds++[.str t]),⟨hlt,x1,acc++[t],by rw [hd];simp,by simp;omega,by rw [show n-(i+1)=f by omega];exact h4⟩,by simp only;omega,(tidy_of (objs:=_) _ 2 (Eq.trans (b:=[rX s q' 0 0,.room (ds.length+1) 1]) rfl (by simp)) rfl (by repeat' (first|exact trivial|refine⟨(Or.inl rfl),?_⟩|refine⟨(Or.inl (inc_get (k:=i) (by kernel_rfl) (by omega))),?_⟩|refine⟨(Or.inr rfl),?_⟩|fail)) (by repeat' (first|exact trivial|refine⟨rfl,?_⟩|fail)) rfl rfl)⟩)|((exfalso;first|(simp at h<;>fail)|(simp at h;omega)))|fail)
  ·obtain rfl:i=n:=by omega
   rw [Nat.sub_self] at h4
   unfold namesGo at h4
   cases h4
end Go.Av
end
noncomputable section
namespace Go.Av
open Go Go.Proofs
set_option maxRecDepth 10000
abbrev Fq:=Nat × Nat
theorem exc_ok {ε α β:Type} (a:α) (f:α→Except ε β):(Except.ok a:Except ε α).bind f=f a:=rfl
def symQ (n:Nat):Nat:=if n<8 then n else n+8
def rightGo (s:List Nat):Nat→Nat→List Int→Except Fq (List Int × Nat)
 |0,p,acc=>.ok (acc,p)
 |k+1,p,acc=>(numX s p 0 15).bind fun r=>rightGo s k r.2 (acc++[((symQ r.1:Nat):Int)])
def prodX (s:List Nat) (p:Nat):Except Fq (GProd × Nat):=(numX s p 0 7).bind fun a=>(numX s a.2 0 6).bind fun b=>(rightGo s b.1 b.2 []).bind fun r=>.ok (⟨((16+a.1:Nat):Int),r.1⟩,r.2)
def prodsGo (s:List Nat):Nat→Nat→List GProd→Except Fq (List GProd × Nat)
 |0,p,acc=>.ok (acc,p)
 |k+1,p,acc=>(prodX s p).bind fun r=>prodsGo s k r.2 (acc++[r.1])
def gramX (s:List Nat):Except Fq Gram :=
 (numX s 0 1 4).bind fun k=>(namesX s k.2 8).bind fun ts=>(strX s ts.2 12).bind fun sp=>(namesX s sp.2 8).bind fun ns=>(numX s ns.2 0 7).bind fun st=>(numX s st.2 1 24).bind fun n =>
  (prodsGo s n.1 n.2 []).bind fun ps=>if(endR12 s ps.2).1=0 then .ok ⟨(k.1:Nat),ts.1,sp.1,ns.1,((16+st.1:Nat):Int),ps.1⟩ else .error (endR12 s ps.2)
def gz:Gram:=⟨0,[],[],[],0,[]⟩
def parseG (s:List Nat):Gram × Int × Int:=match gramX s with
 |.error e=>(gz,(e.1:Nat),(e.2:Nat))
 |.ok g=>if checkF g=0 then(g,0,0) else(gz,checkF g,0)
abbrev resG (r:Gram × Int × Int):AV:=.tup [.d (encG r.1),.d (.agg [.int .i64 r.2.1,.int .i64 r.2.2])]
abbrev grZ:DV:=.agg [.int .i64 0,.nilsl,.str [],.nilsl,.int .i64 0,.nilsl]
theorem grZ_to:DvTo grZ (encG gz):=DvTo.agg rfl (fun j x y hx hy=>match j,hx,hy with
 |0,hx,hy=>by simp at hx hy;subst hx hy;exact .refl
 |1,hx,hy=>by simp at hx hy;subst hx hy;exact .nil
 |2,hx,hy=>by simp at hx hy;subst hx hy;exact .refl
 |3,hx,hy=>by simp at hx hy;subst hx hy;exact .nil
 |4,hx,hy=>by simp at hx hy;subst hx hy;exact .refl
 |5,hx,hy=>by simp at hx hy;subst hx hy;exact .nil
 |j+6,hx,_=>by simp at hx)
abbrev oGZ:Ob:=.box [.d (.int .i64 0),.d .nilsl,.d (.str []),.d .nilsl,.d (.int .i64 0),.d .nilsl]
abbrev oFZ:Ob:=.box [.d (.int .i64 0),.d (.int .i64 0)]
abbrev oFE (e:Fq):Ob:=.box [.d (.int .i64 (e.1:Nat)),.d (.int .i64 (e.2:Nat))]
abbrev dlC:List Dl:=[.call 150 [.bp 0 0,.bp 1 0]]
theorem deferC (objs:List Ob):ADefer Tryz.prog 150 [.bp 0 0,.bp 1 0] none objs none objs :=
 evDefer_ok Yo H0_ok mixedC Ft_ok (n:=40) (by rfl)
theorem deferC3 (e:Fq) (a b c d f g h i:AV) (X:Ob):ADefer Tryz.prog 150 [.bp 0 0,.bp 1 0] (some (refC e)) [.box [a,b,c,d,f,g],.box [h,i],X] none [oGZ,oFE e,X,oFE e] :=
 evDefer_ok Yo H0_ok mixedC Ft_ok (n:=40) (by rfl)
theorem deferC4 (e:Fq) (a b c d f g h i:AV) (X Y:Ob):ADefer Tryz.prog 150 [.bp 0 0,.bp 1 0] (some (refC e)) [.box [a,b,c,d,f,g],.box [h,i],X,Y] none [oGZ,oFE e,X,Y,oFE e] :=
 evDefer_ok Yo H0_ok mixedC Ft_ok (n:=40) (by rfl)
theorem deferC5 (e:Fq) (a b c d f g h i:AV) (X Y Z:Ob):ADefer Tryz.prog 150 [.bp 0 0,.bp 1 0] (some (refC e)) [.box [a,b,c,d,f,g],.box [h,i],X,Y,Z] none [oGZ,oFE e,X,Y,Z,oFE e] :=
 evDefer_ok Yo H0_ok mixedC Ft_ok (n:=40) (by rfl)
theorem deferC6 (e:Fq) (a b c d f g h i:AV) (X Y Z W:Ob):ADefer Tryz.prog 150 [.bp 0 0,.bp 1 0] (some (refC e)) [.box [a,b,c,d,f,g],.box [h,i],X,Y,Z,W] none [oGZ,oFE e,X,Y,Z,W,oFE e] :=
 evDefer_ok Yo H0_ok mixedC Ft_ok (n:=40) (by rfl)
theorem symK (n:Nat) (h:n≤1000):KnownCall Tryz.prog 156 [.int .i64 (n:Nat)] (.d (.int .i64 ((symQ n:Nat):Int))):=symI n h
end Go.Av
end
noncomputable section
namespace Go.Av
open Go Go.Proofs
set_option maxRecDepth 10000
theorem doneS (s:List Nat) (hs:s.length≤20000):KnownCall Tryz.prog 140 [wrD s] (.tup [.d (.str s),.d (.int .i64 0)]):=by
 have c:=startA s hs
 refine knownE Yo (fnAt Tryz.func140 (by kernel_rfl) (by kernel_rfl):FnAt _ _ (mkFn Tryz.f140 [2])) ?_
 repeat' (first|refine zW [2] ?_|((refine zB [2] (fun h=>?_) (fun h=>?_))<;>(first|exact zk h|skip))|refine zX [2] ?_|refine oA (ACall.lift (ds:=[wrD s]) c rfl _) ?_|(refine zE ?_;(rfl))|((exfalso;(simp at h<;>omega)))|fail)
def hashTo (s:List Nat):Nat→Int
 |0=>14695981039346656037
 |i+1=>IntKind.u64.wrap (IntKind.u64.wrap (BitVec.ofInt 64 (hashTo s i) ^^^ BitVec.ofInt 64 ((s.getD i 0:Nat):Int)).toNat*1099511628211)
theorem getD_of {s:List Nat} {i c:Nat} (h:s[i]?=some c):s.getD i 0=c:=by rw [List.getD_eq_getElem?_getD,h];rfl
theorem hashS (s:List Nat) (hs:s.length≤1048576) (hb:∀ c ∈ s,c<256):KnownCall Tryz.prog 49 [.str s] (.d (.int .u64 (hashTo s s.length))):=by
 refine knownE Yo (fnAt Tryz.func49 (by kernel_rfl) (by kernel_rfl):FnAt _ _ (mkFn Tryz.f49 [])) ?_
 repeat' (first|refine zW [] ?_|((refine zB [] (fun h=>?_) (fun h=>?_))<;>(first|exact zk h|skip))|refine zX [] ?_|refine oX (frz:=[]) Yo ?_ (hf:=(by first|(simp [Nat.ble_eq]<;>fail)|(simp [Nat.ble_eq];omega)))|refine eX ?_ (hf:=(by first|(simp [Nat.ble_eq]<;>fail)|(simp [Nat.ble_eq];omega)))|(refine zE ?_;(skip))|fail)
 refine Run.loop (fun i:Nat=>⟨PT.ofList [(3,.d (.int .u64 (hashTo s i))),(7,.d (.sl 1 (s.map fun n=>.int .u8 (n:Nat)))),(8,.d (.int .i64 (s.map fun n=>DV.int .u8 (n:Nat)).length)),(9,.d (.int .i64 i))],[],[]⟩) (fun i=>i≤s.length) (fun i=>s.length-i) 0 (Nat.zero_le _) (weak_of ⟨by rw [hashTo];rfl,rfl,rfl,rfl,trivial⟩) (fun i hi=>?_)
 rcases Nat.lt_or_ge i s.length with hlt|hge
 ·obtain⟨c,hc⟩:=get_ok hlt
  have hcb:=hb c (List.mem_of_getElem? hc)
  have hw:AV.d (.int .u64 (IntKind.u64.wrap (c:Int)))=.d (.int .u64 (c:Nat)):=wrapU (by omega)
  have hgd:=getD_of hc
  repeat' (first|refine oX (frz:=[]) (v:=.d (.int .u64 (c:Nat))) Yo ?_ (he:=(hw))|refine eX (v:=.d (.int .u64 (c:Nat))) ?_ (he:=(hw))|refine zW [] ?_|((refine zB [] (fun h=>?_) (fun h=>?_))<;>(first|exact zk h|skip))|refine zX [] ?_|refine oX (frz:=[]) (v:=.d (.ep [.int .u8 (c:Nat)])) Yo ?_ (hf:=(by first|(simp [inB]<;>fail)|(simp [inB];omega))) (he:=(by first|(simp [List.getD_eq_getElem?_getD,cellsD,hc]<;>fail)|fail))|refine eX (v:=.d (.ep [.int .u8 (c:Nat)])) ?_ (hf:=(by first|(simp [inB]<;>fail)|(simp [inB];omega))) (he:=(by first|(simp [List.getD_eq_getElem?_getD,cellsD,hc]<;>fail)|fail))|(refine zE ?_;(skip))|(exact⟨i+1,hlt,by omega,weak_of ⟨by rw [hashTo,hgd];rfl,rfl,rfl,(inc_get (k:=i) (by kernel_rfl) (by omega)),trivial⟩⟩)|((exfalso;(simp at h<;>omega)))|fail)
 ·have hie:i=s.length:=by omega
  subst hie
  repeat' (first|refine zW [] ?_|((refine zB [] (fun h=>?_) (fun h=>?_))<;>(first|exact zk h|skip))|refine zX [] ?_|(refine zE ?_;(rfl))|((exfalso;(simp at h<;>omega)))|fail)
theorem nameF_len {s:List Nat} (h:nameF s=0):s.length≤12:=by
 unfold nameF at h
 split at h
 ·omega
 ·unfold wordF at h
  split at h
  ·omega
  ·split at h
   ·omega
   ·split at h
    ·omega
    ·omega
theorem small_len {s:List Nat} (h:smallF s=true):s.length≤12:=by
 simp only [smallF,Bool.and_eq_true,decide_eq_true_eq] at h;exact nameF_len h.1
theorem capital_len {s:List Nat} (h:capitalF s=true):s.length≤12:=by
 simp only [capitalF,Bool.and_eq_true,decide_eq_true_eq] at h;exact nameF_len h.1
structure OkG (g:Gram):Prop where
 k:1≤g.k∧g.k≤4
 tokens:g.tokens.length≤8
 tokenS:∀ s ∈ g.tokens,s.length≤12
 sep:g.sep.length≤12
 names:g.names.length≤8
 nameS:∀ s ∈ g.names,s.length≤12
 start:16≤g.start∧g.start<24
 prods:g.prods.length≤24
 left:∀ p ∈ g.prods,16≤p.left∧p.left<16+g.names.length
 right:∀ p ∈ g.prods,p.right.length≤6
 syms:∀ p ∈ g.prods,∀ s ∈ p.right,(0≤s∧s<g.tokens.length)∨(16≤s∧s<16+g.names.length)
theorem valid_ok {g:Gram} (h:checkF g=0):OkG g:=by
 unfold checkF at h
 split at h
 ·omega
 rename_i hk
 split at h
 ·exact absurd h (by assumption)
 rename_i hm
 have hm:manyF g=0:=Classical.byContradiction hm
 split at h
 ·omega
 split at h
 ·exact absurd h (by assumption)
 rename_i hn
 have hn:namesF g=0:=Classical.byContradiction hn
 have hnz:namedF g=0:=by
  unfold namesF at hn
  split at hn
  ·omega
  ·exact hn
 obtain⟨hs1,hs2⟩:=named_zero hnz
 unfold symbolsF at h
 split at h
 ·rename_i hso
  obtain⟨hst,hps⟩:=hso
  have h1:g.tokens.length≤8:=by
   rcases Nat.lt_or_ge 8 g.tokens.length with hh|hh
   ·rw [many_tok hh] at hm;cases hm
   ·exact hh
  have h2:g.names.length≤8:=by
   rcases Nat.lt_or_ge 8 g.names.length with hh|hh
   ·rw [many_nam hh] at hm;cases hm
   ·exact hh
  have h3:g.prods.length≤24:=by
   rcases Nat.lt_or_ge 24 g.prods.length with hh|hh
   ·rw [many_pro hh] at hm;cases hm
   ·exact hh
  have h4:∀ p ∈ g.prods,p.right.length≤6:=fun p hp=>by
   obtain⟨i,hi,rfl⟩:=List.getElem_of_mem hp
   rcases Nat.lt_or_ge 6 g.prods[i].right.length with hh|hh
   ·rw [many_rig (i:=i) (by simp [hi]) hh] at hm;cases hm
   ·exact hh
  simp only [isNonterm,Bool.and_eq_true,decide_eq_true_eq] at hst
  refine⟨by omega,h1,fun s hs=>small_len (hs1 s (by simp [smalls,hs])),small_len (hs1 g.sep (by simp [smalls])),h2,fun s hs=>capital_len (hs2 s hs),by omega,h3,fun p hp=>?_,h4,fun p hp s hs=>?_⟩
  ·have:=(hps p hp).1
   simp only [isNonterm,Bool.and_eq_true,decide_eq_true_eq] at this
   omega
  ·have:=(hps p hp).2 s hs
   simp only [goodS,isTerm,isNonterm,Bool.or_eq_true,Bool.and_eq_true,decide_eq_true_eq] at this
   omega
 ·cases h
end Go.Av
end
noncomputable section
namespace Go.Av
open Go Go.Proofs
set_option maxRecDepth 10000
def numI (s:Int):Int:=if 16≤s then s-8 else s
def numC (s:Int):Nat:=(numI s).toNat
def prodC (p:GProd):List Nat:=[p.left-16,(p.right.length:Int)].map Int.toNat++p.right.map numC
def headC (g:Gram):List Nat:=[]++[g.k].map Int.toNat++namesC g.tokens++strsC [g.sep]++namesC g.names++[g.start-16,(g.prods.length:Int)].map Int.toNat
def canonC (g:Gram):List Nat:=headC g++g.prods.flatMap prodC
def bytesF (g:Gram):List Nat:=if checkF g=0 then canonC g else []
theorem strsC_len {l:List (List Nat)} (h:∀ x ∈ l,x.length≤12):(strsC l).length≤l.length*13:=by
 induction l with
 |nil=>simp [strsC]
 |cons a l ih =>
  have h1:=h a (by simp)
  have h2:=ih fun x hx=>h x (by simp [hx])
  simp only [strsC,List.flatMap_cons,List.length_append,List.length_cons] at h2 ⊢
  omega
theorem headC_len {g:Gram} (h:OkG g):(headC g).length≤300:=by
 have h1:=strsC_len h.tokenS
 have h2:=strsC_len h.nameS
 have h3:(strsC [g.sep]).length=g.sep.length+1:=by simp [strsC]
 have:=h.tokens
 have:=h.names
 have:=h.sep
 simp only [headC,namesC,List.length_append,List.length_cons,List.length_nil,List.length_map]
 omega
theorem prodC_len (p:GProd):(prodC p).length=p.right.length+2:=by simp [prodC]
def prodsC (g:Gram) (i:Nat):List Nat:=(g.prods.take i).flatMap prodC
theorem prodsC_succ {g:Gram} {i:Nat} {p:GProd} (h:g.prods[i]?=some p):prodsC g (i+1)=prodsC g i++prodC p:=by
 simp [prodsC,List.take_add_one,h]
theorem prodsC_len {g:Gram} (h:OkG g):∀ i,i≤g.prods.length→(prodsC g i).length≤i*8
 |0,_=>by simp [prodsC]
 |i+1,hi=>by
  obtain⟨p,hp⟩:=get_ok (show i<g.prods.length by omega)
  have h1:=prodsC_len h i (by omega)
  have h2:=h.right p (List.mem_of_getElem? hp)
  rw [prodsC_succ hp,List.length_append,prodC_len]
  omega
theorem canonC_len {g:Gram} (h:OkG g):(canonC g).length≤492:=by
 have h1:=headC_len h
 have h2:=prodsC_len h g.prods.length (Nat.le_refl _)
 have h3:=h.prods
 rw [prodsC,List.take_length] at h2
 simp only [canonC,List.length_append]
 omega
theorem vI {x y:Int} (h:-9223372036854775808≤x) (h2:x≤9223372036854775807) (e:x=y):AV.d (.int .i64 (IntKind.i64.wrap x))=.d (.int .i64 y):=by rw [wrap64 h h2,e]
theorem numS12 (s:Int) (h1:0≤s) (h2:s≤1048576):KnownCall Tryz.prog 139 [.int .i64 s] (.d (.int .i64 (numI s))):=by
 have hw:AV.d (.int .i64 (IntKind.i64.wrap (s-8)))=.d (.int .i64 (s-8)):=vI (by omega) (by omega) rfl
 by_cases hs:16≤s
 ·rw [show numI s=s-8 from if_pos hs]
  refine knownE Yo (fnAt Tryz.func139 (by kernel_rfl) (by kernel_rfl):FnAt _ _ (mkFn Tryz.f139 [])) ?_
  repeat' (first|refine oX (frz:=[]) (v:=.d (.int .i64 (s-8))) Yo ?_ (he:=(hw))|refine eX (v:=.d (.int .i64 (s-8))) ?_ (he:=(hw))|refine zW [] ?_|((refine zB [] (fun h=>?_) (fun h=>?_))<;>(first|exact zk h|skip))|refine zX [] ?_|(refine zE ?_;(rfl))|((exfalso;(simp at h<;>omega)))|fail)
 ·rw [show numI s=s from if_neg hs]
  refine knownE Yo (fnAt Tryz.func139 (by kernel_rfl) (by kernel_rfl):FnAt _ _ (mkFn Tryz.f139 [])) ?_
  repeat' (first|refine zW [] ?_|((refine zB [] (fun h=>?_) (fun h=>?_))<;>(first|exact zk h|skip))|refine zX [] ?_|(refine zE ?_;(rfl))|((exfalso;(simp at h<;>omega)))|fail)
theorem numI_range {g:Gram} (h:OkG g) {p:GProd} (hp:p ∈ g.prods) {s:Int} (hs:s ∈ p.right):0≤s∧s≤24∧0≤numI s∧numI s<16:=by
 have h1:=h.syms p hp s hs
 have h2:=h.tokens
 have h3:=h.names
 unfold numI
 split<;>omega
set_option maxHeartbeats 4000000 in
theorem bytesS0 (g:Gram) (hf:Fits g) (h0:checkF g=0):KnownCall Tryz.prog 45 [encG g] (.tup [.d (.str (canonC g)),.d (.int .i64 0)]):=by
 have cc:=grCheck g hf
 rw [h0] at cc
 have hv:=valid_ok h0
 have hcl:=canonC_len hv
 have hhl:=headC_len hv
 obtain⟨hk1,hk2⟩:=hv.k
 obtain⟨hst1,hst2⟩:=hv.start
 have htl:=hv.tokens
 have hnl:=hv.names
 have hpl:=hv.prods
 have hsl:=hv.sep
 have ht1:=strsC_len hv.tokenS
 have ht2:=strsC_len hv.nameS
 have ht3:(strsC [g.sep]).length=g.sep.length+1:=by simp [strsC]
 have c1:=wputS [] [] [g.k] (by intro n hn;simp at hn;omega) (by simp)
 have c2:=namesW [] ([]++[g.k].map Int.toNat) g.tokens (by omega) (fun x hx=>by have:=hv.tokenS x hx;omega) (by simp only [namesC,List.length_append,List.length_cons,List.length_nil,List.length_map];omega)
 have c3:=putStr ([]++[g.k].map Int.toNat++namesC g.tokens) [g.sep] (by intro x hx;simp at hx;subst hx;omega) (by simp) (by simp only [namesC,List.length_append,List.length_cons,List.length_nil,List.length_map];omega)
 have c4:=namesW [] ([]++[g.k].map Int.toNat++namesC g.tokens++strsC [g.sep]) g.names (by omega) (fun x hx=>by have:=hv.nameS x hx;omega) (by simp only [namesC,List.length_append,List.length_cons,List.length_nil,List.length_map];omega)
 have c5:=wputS [] ([]++[g.k].map Int.toNat++namesC g.tokens++strsC [g.sep]++namesC g.names) [g.start-16,(g.prods.length:Int)] (by intro n hn;simp at hn;omega) (by simp only [namesC,List.length_append,List.length_cons,List.length_nil,List.length_map];omega)
 have hst:AV.d (.int .i64 (IntKind.i64.wrap (g.start-16)))=.d (.int .i64 (g.start-16)):=vI (by omega) (by omega) rfl
 have hpn:AV.d (.int .i64 ((g.prods.map encP).length:Nat))=.d (.int .i64 (g.prods.length:Nat)):=by rw [List.length_map]
 have c6:=doneS (canonC g) (by omega)
 refine knownE Yo (fnAt Tryz.func45 (by kernel_rfl) (by kernel_rfl):FnAt _ _ (mkFn Tryz.f45 [1,21,34,49,65,77])) ?_
 repeat' (first|refine oX (frz:=[1,21,34,49,65,77]) (v:=.d (.int .i64 (g.prods.length:Nat))) Yo ?_ (he:=(hpn))|refine eX (v:=.d (.int .i64 (g.prods.length:Nat))) ?_ (he:=(hpn))|refine oX (frz:=[1,21,34,49,65,77]) (v:=.d (.int .i64 (g.start-16))) Yo ?_ (he:=(hst))|refine eX (v:=.d (.int .i64 (g.start-16))) ?_ (he:=(hst))|refine zW [1,21,34,49,65,77] ?_|((refine zB [1,21,34,49,65,77] (fun h=>?_) (fun h=>?_))<;>(first|exact zk h|skip))|refine zX [1,21,34,49,65,77] ?_|refine zC (cc) ?_|refine zC (makeS) ?_|refine oA c1 ?_|refine oA c2 ?_|refine zC (c3) ?_|refine oA c4 ?_|refine oA c5 ?_|(refine zE ?_;(skip))|((exfalso;(simp at h<;>omega)))|fail)
 refine Run.loopT (fun i:Nat=>⟨PT.ofList [(1,(.d (.ep [.int .i64 g.k,strs g.tokens,.str g.sep,strs g.names,.int .i64 g.start,.sl 2 (g.prods.map encP)]))),(5,.bp 0 0),(52,.d (.sl 2 (g.prods.map encP))),(53,.d (.int .i64 (g.prods.length:Nat))),(54,.d (.int .i64 i))],[.box (wrC (headC g++prodsC g i))],[]⟩) (fun i=>i≤g.prods.length) (fun i=>g.prods.length-i) 0 (Nat.zero_le _) (tidy_of (objs:=_) _ 1 (Eq.trans (b:=[.box (wrC (headC g))]) rfl (by first|rfl|(simp [rowA,rowO,rgtD,prodsC]<;>fail))) rfl (by repeat' (first|exact trivial|refine⟨(Or.inl rfl),?_⟩|refine⟨(Or.inr rfl),?_⟩|fail)) (by repeat' (first|exact trivial|refine⟨rfl,?_⟩|fail)) rfl rfl) (fun i hi=>?_)
 have hpc:=prodsC_len hv i hi
 rcases Nat.lt_or_ge i g.prods.length with hlt|hge
 ·obtain⟨p,hp⟩:=get_ok hlt
  have hpm:=List.mem_of_getElem? hp
  obtain⟨hl1,hl2⟩:=hv.left p hpm
  have hr6:=hv.right p hpm
  have hsu:=prodsC_succ hp
  have hlf:AV.d (.int .i64 (IntKind.i64.wrap (p.left-16)))=.d (.int .i64 (p.left-16)):=vI (by omega) (by omega) rfl
  have hrn:AV.d (.int .i64 ((p.right.map (DV.int .i64)).length:Nat))=.d (.int .i64 (p.right.length:Nat)):=by rw [List.length_map]
  have c7:=wputS [.box [.d (.int .i64 p.left),.d (ints p.right)]] (headC g++prodsC g i) [p.left-16,(p.right.length:Int)] (by intro n hn;simp at hn;omega) (by simp only [List.length_append,List.length_cons,List.length_nil];omega)
  obtain⟨X,hX⟩:∃ X,X=headC g++prodsC g i++[p.left-16,(p.right.length:Int)].map Int.toNat:=⟨_,rfl⟩
  have hXl:X.length≤494:=by rw [hX];simp only [List.length_append,List.length_cons,List.length_nil,List.length_map];omega
  rw [← hX] at c7
  repeat' (first|refine oX (frz:=[1,21,34,49,65,77]) (v:=.d (.int .i64 (p.right.length:Nat))) Yo ?_ (he:=(hrn))|refine eX (v:=.d (.int .i64 (p.right.length:Nat))) ?_ (he:=(hrn))|refine oX (frz:=[1,21,34,49,65,77]) (v:=.d (.int .i64 (p.left-16))) Yo ?_ (he:=(hlf))|refine eX (v:=.d (.int .i64 (p.left-16))) ?_ (he:=(hlf))|refine zW [1,21,34,49,65,77] ?_|((refine zB [1,21,34,49,65,77] (fun h=>?_) (fun h=>?_))<;>(first|exact zk h|skip))|refine zX [1,21,34,49,65,77] ?_|refine oX (frz:=[1,21,34,49,65,77]) (v:=.d (.ep [.int .i64 p.left,ints p.right])) Yo ?_ (hf:=(by first|(simp [inB]<;>fail)|(simp [inB];omega))) (he:=(by first|(simp [List.getD_eq_getElem?_getD,cellsD,hp,encP]<;>fail)|fail))|refine eX (v:=.d (.ep [.int .i64 p.left,ints p.right])) ?_ (hf:=(by first|(simp [inB]<;>fail)|(simp [inB];omega))) (he:=(by first|(simp [List.getD_eq_getElem?_getD,cellsD,hp,encP]<;>fail)|fail))|refine oA c7 ?_|(refine zE ?_;(skip))|((exfalso;(simp at h<;>omega)))|fail)
  refine Run.loopT (fun k:Nat=>⟨PT.ofList [(1,(.d (.ep [.int .i64 g.k,strs g.tokens,.str g.sep,strs g.names,.int .i64 g.start,.sl 2 (g.prods.map encP)]))),(5,.bp 0 0),(52,.d (.sl 2 (g.prods.map encP))),(53,.d (.int .i64 (g.prods.length:Nat))),(54,.d (.int .i64 i)),(68,.d (ints p.right)),(69,.d (.int .i64 (p.right.length:Nat))),(70,.d (.int .i64 k))],[.box (wrC (X++(p.right.take k).map numC)),.box [.d (.int .i64 p.left),.d (ints p.right)]],[]⟩) (fun k=>k≤p.right.length) (fun k=>p.right.length-k) 0 (Nat.zero_le _) (tidy_of (objs:=_) _ 2 (Eq.trans (b:=[.box (wrC X),.box [.d (.int .i64 p.left),.d (ints p.right)]]) rfl (by first|rfl|(simp [rowA,rowO,rgtD,]<;>fail))) rfl (by repeat' (first|exact trivial|refine⟨(Or.inl rfl),?_⟩|refine⟨(Or.inr rfl),?_⟩|fail)) (by repeat' (first|exact trivial|refine⟨rfl,?_⟩|fail)) rfl rfl) (fun k hk=>?_)
  rcases Nat.lt_or_ge k p.right.length with hkl|hkg
  ·obtain⟨s,hs⟩:=get_ok hkl
   obtain⟨n1,n2,n3,n4⟩:=numI_range hv hpm (List.mem_of_getElem? hs)
   have c8:=numS12 s n1 (by omega)
   have c9:=wputS [.box [.d (.int .i64 p.left),.d (ints p.right)]] (X++(p.right.take k).map numC) [numI s] (by intro n hn;simp at hn;omega) (by simp only [List.length_append,List.length_cons,List.length_nil,List.length_map,List.length_take];omega)
   repeat' (first|refine zW [1,21,34,49,65,77] ?_|((refine zB [1,21,34,49,65,77] (fun h=>?_) (fun h=>?_))<;>(first|exact zk h|skip))|refine zX [1,21,34,49,65,77] ?_|refine oX (frz:=[1,21,34,49,65,77]) (v:=.d (.ep [.int .i64 s])) Yo ?_ (hf:=(by first|(simp [inB]<;>fail)|(simp [inB];omega))) (he:=(by first|(simp [List.getD_eq_getElem?_getD,cellsD,hs]<;>fail)|fail))|refine eX (v:=.d (.ep [.int .i64 s])) ?_ (hf:=(by first|(simp [inB]<;>fail)|(simp [inB];omega))) (he:=(by first|(simp [List.getD_eq_getElem?_getD,cellsD,hs]<;>fail)|fail))|refine zC (c8) ?_|refine oA c9 ?_|(refine zE ?_;(skip))|((exfalso;(simp at h<;>omega)))|fail)
   exact⟨k+1,hkl,by omega,(tidy_of (objs:=_) _ 2 (Eq.trans (b:=[.box (wrC (X++(p.right.take k).map numC++[numI s].map Int.toNat)),.box [.d (.int .i64 p.left),.d (ints p.right)]]) rfl (by rw [List.take_add_one,hs];simp [numC])) rfl (by repeat' (first|exact trivial|refine⟨(Or.inl rfl),?_⟩|refine⟨(Or.inl (inc_get (k:=k) (by kernel_rfl) (by omega))),?_⟩|refine⟨(Or.inr rfl),?_⟩|fail)) (by repeat' (first|exact trivial|refine⟨rfl,?_⟩|fail)) rfl rfl)⟩
  ·have hke:k=p.right.length:=by omega
   subst hke
   rw [List.take_length]
   repeat' (first|refine zW [1,21,34,49,65,77] ?_|((refine zB [1,21,34,49,65,77] (fun h=>?_) (fun h=>?_))<;>(first|exact zk h|skip))|refine zX [1,21,34,49,65,77] ?_|(refine zE ?_;(skip))|((exfalso;(simp at h<;>omega)))|fail)
   exact⟨i+1,hlt,by omega,(tidy_of (objs:=_) _ 1 (Eq.trans (b:=[.box (wrC (X++p.right.map numC))]) rfl (by rw [hsu,hX,prodC];simp only [List.append_assoc])) rfl (by repeat' (first|exact trivial|refine⟨(Or.inl rfl),?_⟩|refine⟨(Or.inl (inc_get (k:=i) (by kernel_rfl) (by omega))),?_⟩|refine⟨(Or.inr rfl),?_⟩|fail)) (by repeat' (first|exact trivial|refine⟨rfl,?_⟩|fail)) rfl rfl)⟩
 ·have hie:i=g.prods.length:=by omega
  subst hie
  have he:headC g++prodsC g g.prods.length=canonC g:=by rw [prodsC,List.take_length];rfl
  rw [he]
  repeat' (first|refine zW [1,21,34,49,65,77] ?_|((refine zB [1,21,34,49,65,77] (fun h=>?_) (fun h=>?_))<;>(first|exact zk h|skip))|refine zX [1,21,34,49,65,77] ?_|refine zC (c6) ?_|(refine zE ?_;(rfl))|((exfalso;(simp at h<;>omega)))|fail)
theorem bytesS12 (g:Gram) (hf:Fits g):KnownCall Tryz.prog 45 [encG g] (.tup [.d (.str (bytesF g)),.d (.int .i64 (checkF g))]):=by
 by_cases h0:checkF g=0
 ·rw [show bytesF g=canonC g from if_pos h0,h0];exact bytesS0 g hf h0
 ·have cc:=grCheck g hf
  rw [show bytesF g=[] from if_neg h0]
  generalize checkF g=c at cc h0 ⊢
  refine knownE Yo (fnAt Tryz.func45 (by kernel_rfl) (by kernel_rfl):FnAt _ _ (mkFn Tryz.f45 [1])) ?_
  repeat' (first|refine zW [1] ?_|((refine zB [1] (fun h=>?_) (fun h=>?_))<;>(first|exact zk h|skip))|refine zX [1] ?_|refine zC (cc) ?_|(refine zE ?_;(rfl))|((exfalso;first|(simp_all<;>fail)|(simp_all;omega)))|fail)
theorem strsC_by {l:List (List Nat)} (h:∀ x ∈ l,x.length≤12) (hb:∀ s ∈ l,∀ c ∈ s,c<256):∀ c ∈ strsC l,c<256:=by
 intro c hc
 simp only [strsC,List.mem_flatMap,List.mem_cons] at hc
 obtain⟨s,hs,rfl|hc⟩:=hc
 ·have:=h s hs;omega
 ·exact hb s hs c hc
structure ByteG (g:Gram):Prop where
 tokens:∀ s ∈ g.tokens,∀ c ∈ s,c<256
 sep:∀ c ∈ g.sep,c<256
 names:∀ s ∈ g.names,∀ c ∈ s,c<256
theorem canonC_by {g:Gram} (hv:OkG g) (hb:ByteG g):∀ c ∈ canonC g,c<256:=by
 obtain⟨hk1,hk2⟩:=hv.k
 obtain⟨hst1,hst2⟩:=hv.start
 have htl:=hv.tokens
 have hnl:=hv.names
 have hpl:=hv.prods
 have hsl:=hv.sep
 intro c hc
 simp only [canonC,headC,namesC,List.mem_append,List.mem_cons,List.map_cons,List.map_nil,List.nil_append,List.not_mem_nil,or_false,List.mem_flatMap] at hc
 rcases hc with(((((rfl|rfl|hc)|hc)|(rfl|hc))|(rfl|rfl))|hc)
 ·omega
 ·omega
 ·exact strsC_by hv.tokenS hb.tokens c hc
 ·exact strsC_by (l:=[g.sep]) (by intro x hx;simp at hx;subst hx;exact hsl) (by intro x hx;simp at hx;subst hx;exact hb.sep) c hc
 ·omega
 ·exact strsC_by hv.nameS hb.names c hc
 ·omega
 ·omega
 ·obtain⟨p,hp,hc⟩:=hc
  have h1:=hv.left p hp
  have h2:=hv.right p hp
  simp only [prodC,List.mem_append,List.mem_cons,List.map_cons,List.map_nil,List.not_mem_nil,or_false,List.mem_map] at hc
  rcases hc with(rfl|rfl)|⟨s,hs,rfl⟩
  ·omega
  ·omega
  ·have:=numI_range hv hp hs
   unfold numC;omega
end Go.Av
end
noncomputable section
namespace Go.Av
open Go Go.Proofs
set_option maxRecDepth 10000
theorem low_all:((List.range 128).all fun c=>decide (stepV 0 c 0=(c:Nat)) && decide (IntKind.u64.wrap (IntKind.u8.wrap ((BitVec.ofInt 8 (c:Nat) &&& BitVec.ofInt 8 127).toNat))=(c:Nat)))=true:=by kernel_rfl
theorem stepV_low {c:Nat} (h:c<128):stepV 0 c 0=(c:Nat):=by
 have:=List.all_eq_true.1 low_all c (List.mem_range.2 h)
 simp only [Bool.and_eq_true,decide_eq_true_eq] at this
 exact this.1
theorem and_low {c:Nat} (h:c<128):IntKind.u64.wrap (IntKind.u8.wrap ((BitVec.ofInt 8 (c:Nat) &&& BitVec.ofInt 8 127).toNat))=(c:Nat):=by
 have:=List.all_eq_true.1 low_all c (List.mem_range.2 h)
 simp only [Bool.and_eq_true,decide_eq_true_eq] at this
 exact this.2
theorem u64_nat {n:Nat} (h:n<18446744073709551616):IntKind.u64.wrap (n:Int)=n:=IntWalk.u64_in n ⟨by omega,by omega⟩
theorem stepV_big {i c:Nat} {n:Int} (h1:1≤i) (h9:i≤9) (hc:c<128) (hc0:c≠0) (hi:i=9→c≤1):128≤stepV i c n:=by
 have hb:c*2 ^ (7*i)<18446744073709551616∧128≤c*2 ^ (7*i):=by
  rcases(by omega:i=1∨i=2∨i=3∨i=4∨i=5∨i=6∨i=7∨i=8∨i=9) with rfl|rfl|rfl|rfl|rfl|rfl|rfl|rfl|rfl<;>simp only [Nat.reduceMul,Nat.reducePow]<;>omega
 unfold stepV
 rw [and_low hc,show min ((7*i:Nat):Int).toNat 64=7*i by omega,show(c:Int)*2 ^ (7*i)=((c*2 ^ (7*i):Nat):Int) by simp,u64_nat hb.1]
 generalize c*2 ^ (7*i)=N at hb
 have e:(BitVec.ofInt 64 n ||| BitVec.ofInt 64 (N:Int)).toNat=(BitVec.ofInt 64 n).toNat ||| N:=by
  rw [BitVec.toNat_or]
  congr 1
  simp only [BitVec.ofInt_natCast,BitVec.toNat_ofNat]
  omega
 have hlt:(BitVec.ofInt 64 n ||| BitVec.ofInt 64 (N:Int)).toNat<18446744073709551616:=(BitVec.ofInt 64 n ||| BitVec.ofInt 64 (N:Int)).isLt
 rw [u64_nat hlt,e]
 have:=Nat.right_le_or (n:=(BitVec.ofInt 64 n).toNat) (m:=N)
 omega
theorem vGo_big {s:List Nat} {p:Nat}:∀ (f i:Nat) (n:Int),1≤i→i+f=10→(vGo s p f i n).2.2.1=0→128≤(vGo s p f i n).1
 |0,i,n,_,_,h=>by cases h
 |f+1,i,n,h1,hf,h=>by
  simp only [vGo] at h ⊢
  cases hx:s[p+i]? with
  |none=>rw [hx] at h;cases h
  |some c =>
   rw [hx] at h
   simp only at h ⊢
   split at h
   ·cases h
   ·rename_i hc
    split at h
    ·rename_i h128
     rw [if_neg hc,if_pos h128]
     simp only at hc ⊢
     exact stepV_big h1 (by omega) h128 (by omega) (by omega)
    ·rename_i h128
     rw [if_neg hc,if_neg h128]
     exact vGo_big f (i+1) _ (by omega) (by omega) h
theorem vR_low {s:List Nat} {p c:Nat} (hx:s[p]?=some c) (h:c<128):vR s p=(((c:Nat):Int),p+1,0,0):=by
 show vGo s p (9+1) 0 0=_
 simp only [vGo,Nat.add_zero,hx]
 rw [if_neg (by omega),if_pos h,stepV_low h]
theorem vR_none {s:List Nat} {p:Nat} (hx:s[p]?=none):vR s p=(0,0,5,s.length):=by
 show vGo s p (9+1) 0 0=_
 simp only [vGo,Nat.add_zero,hx]
theorem vR_inv {s:List Nat} {p n q:Nat} (h:vR s p=(((n:Nat):Int),q,0,0)) (hn:n<128):s[p]?=some n∧q=p+1:=by
 cases hx:s[p]? with
 |none=>rw [vR_none hx] at h;simp at h
 |some c =>
  by_cases hc:c<128
  ·rw [vR_low hx hc] at h
   simp only [Prod.mk.injEq] at h
   exact⟨by rw [show c=n by omega],by omega⟩
  ·exfalso
   have e:vR s p=vGo s p 9 1 (stepV 0 c 0):=by
    show vGo s p (9+1) 0 0=_
    simp only [vGo,Nat.add_zero,hx]
    rw [if_neg (by omega),if_neg hc]
   rw [e] at h
   have:=vGo_big (s:=s) (p:=p) 9 1 (stepV 0 c 0) (by omega) rfl (by rw [h])
   rw [h] at this
   simp only at this
   omega
theorem drop_get {s B:List Nat} {p c:Nat} (h:s.drop p=c :: B):s[p]?=some c∧s.drop (p+1)=B:=by
 refine⟨by rw [← List.head?_drop,h];rfl,?_⟩
 rw [← List.drop_drop,h];rfl
theorem get_drop {s:List Nat} {p c:Nat} (h:s[p]?=some c):s.drop p=c :: s.drop (p+1):=by
 obtain⟨hl,e⟩:=List.getElem?_eq_some_iff.1 h
 rw [List.drop_eq_getElem_cons hl,e]
theorem numX_of {s:List Nat} {p l m c:Nat} (hx:s[p]?=some c) (h1:l≤c) (h2:c≤m) (hm:m<128):numX s p l m=.ok (c,p+1):=by
 have e:numR s p l m=(c,p+1,0,0):=by
  unfold numR
  rw [vR_low hx (by omega)]
  simp only [ne_eq,not_true_eq_false,if_false]
  rw [if_neg (by omega)]
  rfl
 unfold numX
 rw [e];rfl
theorem numX_none {s:List Nat} {p l m:Nat} (hx:s[p]?=none):numX s p l m=.error (5,s.length):=by
 unfold numX numR
 rw [vR_none hx];rfl
theorem numX_inv {s:List Nat} {p l m n q:Nat} (h:numX s p l m=.ok (n,q)) (hm:m<128):s.drop p=n :: s.drop q∧q=p+1∧s[p]?=some n:=by
 obtain⟨_,_,_,h4,h5⟩:=numX_ok h
 obtain⟨a,b⟩:=vR_inv h5 (by omega)
 subst b
 exact⟨get_drop a,rfl,a⟩
theorem strX_of {s B t:List Nat} {p m:Nat} (h:s.drop p=t.length :: (t++B)) (h2:t.length≤m) (hm:m<128):strX s p m=.ok (t,p+1+t.length)∧s.drop (p+1+t.length)=B:=by
 obtain⟨hx,hd⟩:=drop_get h
 have hl:p+1+t.length≤s.length:=by
  have h3:=congrArg List.length hd
  rw [List.length_drop,List.length_append] at h3
  have:=(List.getElem?_eq_some_iff.1 hx).1
  omega
 refine⟨?_,by rw [← List.drop_drop,hd];simp⟩
 have e:strR s p m=(t,p+1+t.length,0,0):=by
  unfold strR
  rw [vR_low hx (by omega)]
  simp only [ne_eq,not_true_eq_false,if_false,Int.toNat_natCast]
  rw [if_neg (by omega),if_pos hl,hd]
  simp
 unfold strX
 rw [e];rfl
theorem strX_inv {s t:List Nat} {p m q:Nat} (h:strX s p m=.ok (t,q)) (hm:m<128):s.drop p=t.length :: (t++s.drop q)∧q=p+1+t.length∧s[p]?=some t.length:=by
 obtain⟨r,h1,_,h3,h4,h5,h6⟩:=strX_ok h
 obtain⟨a,b⟩:=vR_inv h6 (by omega)
 subst b
 refine⟨?_,by omega,a⟩
 rw [get_drop a]
 congr 1
 conv=>lhs;rw [← List.take_append_drop t.length (s.drop (p+1))]
 rw [← h5,List.drop_drop,h3]
def TrR {α:Type} (k:Nat) (r r':Except Fq (α × Nat)):Prop:=∀ a q,r=.ok (a,q)→(q≤k∧r'=.ok (a,q))∨∃ x,r'=.error (5,x)∧x≤k
theorem TrR.bind {α β:Type} {k:Nat} {r r':Except Fq (α × Nat)} {f f':α × Nat→Except Fq (β × Nat)} (h:TrR k r r') (hf:∀ a q,q≤k→TrR k (f (a,q)) (f' (a,q))):TrR k (r.bind f) (r'.bind f'):=by
 intro b q e
 cases r with
 |error x=>cases e
 |ok a =>
  obtain⟨a,q1⟩:=a
  rcases h a q1 rfl with⟨hq,e'⟩|⟨x,e',hx⟩
  ·rw [e'];exact hf a q1 hq b q e
  ·rw [e'];exact .inr ⟨x,rfl,hx⟩
theorem TrR.ok {α:Type} {k q:Nat} {a:α} (h:q≤k):TrR k (.ok (a,q)) (.ok (a,q)):=fun b q' e=>by
 simp only [Except.ok.injEq,Prod.mk.injEq] at e
 obtain⟨rfl,rfl⟩:=e
 exact .inl ⟨h,rfl⟩
section
variable {s:List Nat} {k:Nat}
theorem tr_num {p l m:Nat} (hp:p≤k) (hk:k≤s.length) (hm:m<128):TrR k (numX s p l m) (numX (s.take k) p l m):=by
 intro n q e
 obtain⟨h1,_,h3,h4,_⟩:=numX_ok e
 obtain⟨_,rfl,hx⟩:=numX_inv e hm
 rcases Nat.lt_or_ge p k with hlt|hge
 ·exact .inl ⟨hlt,numX_of (by rw [List.getElem?_take_of_lt hlt];exact hx) h3 h4 hm⟩
 ·exact .inr ⟨(s.take k).length,numX_none (by rw [List.getElem?_eq_none_iff,List.length_take];omega),by rw [List.length_take];omega⟩
theorem tr_str {p m:Nat} (hp:p≤k) (hk:k≤s.length) (hm:m<128):TrR k (strX s p m) (strX (s.take k) p m):=by
 intro t q e
 obtain⟨r,h1,_,h3,h4,h5,_⟩:=strX_ok e
 obtain⟨hd,rfl,hx⟩:=strX_inv e hm
 rcases Nat.lt_or_ge p k with hlt|hge
 ·have hx':(s.take k)[p]?=some t.length:=by rw [List.getElem?_take_of_lt hlt];exact hx
  rcases Nat.lt_or_ge k (p+1+t.length) with h|h
  ·refine .inr ⟨p+1,?_,by omega⟩
   have e:strR (s.take k) p m=([],p,5,p+1):=by
    unfold strR
    rw [vR_low hx' (by omega)]
    simp only [ne_eq,not_true_eq_false,if_false,Int.toNat_natCast]
    rw [if_neg (by omega),if_neg (by rw [List.length_take];omega)]
   unfold strX
   rw [e];rfl
  ·refine .inl ⟨h,?_⟩
   refine(strX_of (B:=(s.take k).drop (p+1+t.length)) ?_ h4 hm).1
   rw [get_drop hx']
   congr 1
   conv=>lhs;rw [← List.take_append_drop t.length ((s.take k).drop (p+1))]
   rw [List.drop_drop,List.take_drop,List.take_take,show min (p+1+t.length) k=p+1+t.length by omega,← List.take_drop]
   have:=(drop_get hd).2
   rw [this];simp
 ·refine .inr ⟨(s.take k).length,?_,by rw [List.length_take];omega⟩
  unfold strX strR
  rw [vR_none (by rw [List.getElem?_eq_none_iff,List.length_take];omega)];rfl
theorem tr_names (hk:k≤s.length):∀ (n p:Nat) (acc:List (List Nat)),p≤k→TrR k (namesGo s n p acc) (namesGo (s.take k) n p acc)
 |0,p,acc,hp=>.ok hp
 |n+1,p,acc,hp=>(tr_str hp hk (by decide)).bind fun _ _ hq=>tr_names hk n _ _ hq
theorem tr_namesX {p m:Nat} (hp:p≤k) (hk:k≤s.length) (hm:m<128):TrR k (namesX s p m) (namesX (s.take k) p m) :=
 (tr_num hp hk hm).bind fun _ _ hq=>tr_names hk _ _ _ hq
theorem tr_right (hk:k≤s.length):∀ (n p:Nat) (acc:List Int),p≤k→TrR k (rightGo s n p acc) (rightGo (s.take k) n p acc)
 |0,p,acc,hp=>.ok hp
 |n+1,p,acc,hp=>(tr_num hp hk (by decide)).bind fun _ _ hq=>tr_right hk n _ _ hq
theorem tr_prod {p:Nat} (hp:p≤k) (hk:k≤s.length):TrR k (prodX s p) (prodX (s.take k) p) :=
 (tr_num hp hk (by decide)).bind fun _ _ h1=>(tr_num h1 hk (by decide)).bind fun _ _ h2=>(tr_right hk _ _ _ h2).bind fun _ _ h3=>.ok h3
theorem tr_prods (hk:k≤s.length):∀ (n p:Nat) (acc:List GProd),p≤k→TrR k (prodsGo s n p acc) (prodsGo (s.take k) n p acc)
 |0,p,acc,hp=>.ok hp
 |n+1,p,acc,hp=>(tr_prod hp hk).bind fun _ _ hq=>tr_prods hk n _ _ hq
end
def gramY (s:List Nat):Except Fq (Gram × Nat) :=
 (numX s 0 1 4).bind fun k=>(namesX s k.2 8).bind fun ts=>(strX s ts.2 12).bind fun sp=>(namesX s sp.2 8).bind fun ns=>(numX s ns.2 0 7).bind fun st=>(numX s st.2 1 24).bind fun n =>
  (prodsGo s n.1 n.2 []).bind fun ps=>.ok (⟨(k.1:Nat),ts.1,sp.1,ns.1,((16+st.1:Nat):Int),ps.1⟩,ps.2)
theorem bind_bind {α β γ:Type} (r:Except Fq α) (f:α→Except Fq β) (g:β→Except Fq γ):(r.bind f).bind g=r.bind fun a=>(f a).bind g:=by cases r<;>rfl
theorem gramX_Y (s:List Nat):gramX s=(gramY s).bind fun r=>if(endR12 s r.2).1=0 then .ok r.1 else .error (endR12 s r.2):=by
 unfold gramX gramY
 simp only [bind_bind]
 rfl
theorem tr_gram {s:List Nat} {k:Nat} (hk:k≤s.length):TrR k (gramY s) (gramY (s.take k)) :=
 (tr_num (Nat.zero_le _) hk (by decide)).bind fun _ _ h1=>(tr_namesX h1 hk (by decide)).bind fun _ _ h2=>(tr_str h2 hk (by decide)).bind fun _ _ h3=>(tr_namesX h3 hk (by decide)).bind fun _ _ h4 =>
  (tr_num h4 hk (by decide)).bind fun _ _ h5=>(tr_num h5 hk (by decide)).bind fun _ _ h6=>(tr_prods hk _ _ _ h6).bind fun _ _ h7=>.ok h7
end Go.Av
end
noncomputable section
namespace Go.Av
open Go Go.Proofs
set_option maxRecDepth 10000
def cntL (l:List GProd) (v:Int):Nat:=l.countP fun p=>decide (p.left<v)
theorem cntL_mono (l:List GProd) (v:Int):cntL l v≤cntL l (v+1):=by
 refine List.countP_mono_left fun p _ h=>?_
 simp only [decide_eq_true_eq] at h ⊢
 omega
theorem sorted_iff:∀ {l:List GProd},l.Pairwise (fun a b=>a.left≤b.left)→∀ (v:Int) (k:Nat) (p:GProd),l[k]?=some p→(p.left<v ↔ k<cntL l v)
 |[],_,v,k,p,h=>by simp at h
 |a :: l,hs,v,k,p,h=>by
  rw [List.pairwise_cons] at hs
  have ih:=sorted_iff hs.2 v
  unfold cntL at ih ⊢
  rw [List.countP_cons]
  by_cases ha:a.left<v
  ·rw [if_pos (by simpa using ha)]
   cases k with
   |zero=>simp at h;subst h;simp [ha]
   |succ k=>rw [ih k p (by simpa using h)];omega
  ·have hz:l.countP (fun p=>decide (p.left<v))=0:=by
    rw [List.countP_eq_zero]
    intro q hq
    have:=hs.1 q hq
    simp only [decide_eq_true_eq];omega
   rw [if_neg (by simpa using ha),hz]
   cases k with
   |zero=>simp at h;subst h;simp [ha]
   |succ k =>
    have:=hs.1 p (List.mem_of_getElem? (show l[k]?=some p by simpa using h))
    omega
theorem prodsTo_range {g:Gram} (hs:g.prods.Pairwise (fun a b=>a.left≤b.left)) (s:Int):∀ i:Nat,i≤g.prods.length→prodsTo g s i=List.range' (min i (cntL g.prods s)) (min i (cntL g.prods (s+1))-min i (cntL g.prods s))
 |0,_=>by simp [prodsTo]
 |i+1,hi=>by
  obtain⟨p,hp⟩:=get_ok (show i<g.prods.length by omega)
  have ih:=prodsTo_range hs s i (by omega)
  have h1:=sorted_iff hs s i p hp
  have h2:=sorted_iff hs (s+1) i p hp
  have hm:=cntL_mono g.prods s
  rw [prodsTo_succ hp,ih]
  generalize cntL g.prods s=a at *
  generalize cntL g.prods (s+1)=b at *
  by_cases he:p.left=s
  ·rw [if_pos he]
   have ha:a≤i:=by omega
   have hb:i<b:=by omega
   rw [show min i a=a by omega,show min (i+1) a=a by omega,show min i b=i by omega,show min (i+1) b=i+1 by omega,show i+1-a=(i-a)+1 by omega,List.range'_concat]
   congr 1
   simp;omega
  ·rw [if_neg he,List.append_nil]
   rcases Nat.lt_or_ge i a with ha|ha
   ·rw [show min i b-min i a=0 by omega,show min (i+1) b-min (i+1) a=0 by omega];rfl
   ·have hb:b≤i:=by omega
    rw [show min (i+1) a=min i a by omega,show min (i+1) b=min i b by omega]
theorem prodsF_range {g:Gram} (hs:g.prods.Pairwise (fun a b=>a.left≤b.left)) (s:Int):prodsF g s=List.range' (cntL g.prods s) (cntL g.prods (s+1)-cntL g.prods s):=by
 have h1:cntL g.prods s≤g.prods.length:=List.countP_le_length
 have h2:cntL g.prods (s+1)≤g.prods.length:=List.countP_le_length
 rw [show prodsF g s=prodsTo g s g.prods.length from rfl,prodsTo_range hs s _ (Nat.le_refl _),Nat.min_eq_right h1,Nat.min_eq_right h2]
theorem sorted_of {l:List GProd} (h:∀ (i:Nat) (p q:GProd),l[i]?=some p→l[i+1]?=some q→p.left≤q.left):l.Pairwise (fun a b=>a.left≤b.left):=by
 induction l with
 |nil=>exact .nil
 |cons a l ih =>
  have ht:l.Pairwise (fun a b=>a.left≤b.left):=ih fun i p q hp hq=>h (i+1) p q (by simpa using hp) (by simpa using hq)
  refine List.pairwise_cons.2 ⟨fun q hq=>?_,ht⟩
  cases l with
  |nil=>cases hq
  |cons b l =>
   have hab:=h 0 a b rfl rfl
   rcases List.mem_cons.1 hq with rfl|hq
   ·exact hab
   ·have:=(List.pairwise_cons.1 ht).1 q hq
    omega
theorem valid_sorted {g:Gram} (h:checkF g=0):g.prods.Pairwise (fun a b=>a.left≤b.left):=by
 obtain⟨_,ho,_⟩:=symbols_zero (check_parts h).2.2.2.2
 refine sorted_of fun i p q hp hq=>?_
 rcases Int.lt_or_le q.left p.left with hl|hl
 ·exact absurd ⟨i,p,q,hp,hq,hl⟩ ho
 ·exact hl
theorem valid_some {g:Gram} (h:checkF g=0) {i:Nat} (hi:i<g.names.length):cntL g.prods (16+i)<cntL g.prods (16+i+1):=by
 obtain⟨_,_,hm⟩:=symbols_zero (check_parts h).2.2.2.2
 have hne:prodsF g (16+i)≠[]:=fun e=>hm ⟨i,hi,e⟩
 rw [prodsF_range (valid_sorted h)] at hne
 rcases Nat.lt_or_ge (cntL g.prods (16+i)) (cntL g.prods (16+i+1)) with hl|hl
 ·exact hl
 ·exact absurd (by rw [Nat.sub_eq_zero_of_le hl];rfl) hne
end Go.Av
end

/-
  The abstract layer, part M: the evaluator of code: regions, control, calls, ranges over functions. Definitions.
-/
import Derived.Test.YtkehiddekhlfaaaL
noncomputable section
namespace Go.Av
open Go

/-- pan: a panic with this value. -/
inductive Ex where
  | normal | exit (id : Nat) | goto (l : Nat) | ret | pan (x : DV)
  deriving Inhabited

/-- What waits for the function's end: the block of a range's deferred calls; a deferred call. -/
inductive Dl where
  | mark (i : Nat)
  | call (g : FuncId) (args : List AV)
  deriving Inhabited

structure S where
  tm : PT AV
  objs : List Ob
  dl : List Dl
  deriving Inhabited

/-- What the evaluator is told of functions: the code, the number of temporaries and of parameters, the results, and the temporaries whose boxes are never written (or whose rows need no room). -/
structure FnI where
  nt : Nat
  np : Nat
  body : Code
  results : Array ResultVar
  frz : List Nat

structure Hd where
  call : FuncId → List AV → List Ob → Option (AV × Option (List Ob))
  yld : Nat → List AV → List Ob → Option (AV × List Ob)
  opn : FuncId → List AV → List Ob → Option (AV × List Ob)
  dfr : FuncId → List AV → Option DV → List Ob → Option (Option DV × List Ob)

def isPan : AV → Bool | .pan _ => true | _ => false

def setD (nt : Nat) (tm : PT AV) (dst : Option Tmp) (v : AV) : Option (PT AV) :=
  match dst with
  | none => some tm
  | some d => match Nat.blt d nt with | true => some (tm.set d v) | false => none

def guardA (ops : Array Oper) (rd : Operand → AV) (o : Oper) : Option Bool :=
  match o.guard with
  | none => some true
  | some (j, want) => match ops[j]? with
    | some oj => match oj.dst with
      | some d => match rd (.tmp d) with
        | .d (.bool b) => some (match want with | true => b | false => !b)
        | .tup [] => some false
        | _ => none
      | none => none
    | none => none

def memN (n : Nat) : List Nat → Bool
  | [] => false
  | a :: r => Nat.beq a n || memN n r

/-- Operations that leave the objects as they are. -/
def quiet : Op → Bool
  | .move _ | .assign _ | .pick _ _ _ | .load _ _ | .nilCheck _ | .binOp _ _ _ _ _ | .unOp _ _ _ | .convert _ _ _ | .makeFunc _ _ _ | .slice _ _ _ _ none | .fieldAddr _ _ _ | .field _ _ _
  | .indexAddr _ _ _ | .index _ _ _ | .lookup _ _ _ _ | .extract _ _ | .build _ _ | .makeInterface _ _ | .typeAssert _ _ _ _ => true
  | .call { callee := .builtin .unsafeSliceData, .. } | .call { callee := .builtin .len, .. } | .call { callee := .builtin .cap, .. } | .call { callee := .builtin .min, .. } | .call { callee := .builtin .max, .. } => true
  | _ => false

abbrev R2 := Option (AV × Option (List Ob) × Bool)

/-- A hint: the row that begins here may be written. -/
def hintV (dst : Option Tmp) (frz : List Nat) : Bool := match dst with | some d => memN (d + 65536) frz | none => false

/-- A hint: the result is handed over in the caller's memory. -/
def hintO (dst : Option Tmp) (frz : List Nat) : Bool := match dst with | some d => memN (d + 131072) frz | none => false

/-- One operation, a call of a function too. No objects: they are as they were. -/
def evAny (E : PT Ty) (H : Hd) (frz : List Nat) (rd : Operand → AV) (objs : List Ob) (o : Oper) : R2 :=
  match o.op with
  | .call { callee := .value f, args, .. } =>
    match rd f with
    | .d (.fn (.func g) a b) => match hintO o.dst frz with
      | true => (H.opn g (a.map .d ++ args.toList.map rd ++ b.map .d) objs).map fun p => (p.1, some p.2, true)
      | false => (H.call g (a.map .d ++ args.toList.map rd ++ b.map .d) objs).map fun p => (p.1, p.2, true)
    | .fn (.func g) a b => (H.call g (a ++ args.toList.map rd ++ b) objs).map fun p => (p.1, p.2, true)
    | .yl i => (H.yld i (args.toList.map rd) objs).map fun p => (p.1, some p.2, true)
    | _ => none
  | .box e x =>
    match (match o.dst with | some d => memN d frz | none => false) && (match allF (rd x).cells with | some _ => true | none => false) with
    | true => (boxER (rd x) objs).map fun p => (p.1, none, p.2.2)
    | false => (evOp E rd objs (.box e x)).map fun p => (p.1, some p.2.1, p.2.2)
  | .buildSlice t len parts =>
    match (match o.dst with | some d => memN d frz | none => false) with
    | true => (buildSliceR E false t len (parts.toList.map fun p => (p.1, rd p.2)) objs).map fun p => (p.1, none, p.2.2)
    | false => match hintV o.dst frz with
      | true => (buildVecR E t len (parts.toList.map fun p => (p.1, rd p.2)) objs).map fun p => (p.1, some p.2.1, p.2.2)
      | false => (evOp E rd objs (.buildSlice t len parts)).map fun p => (p.1, some p.2.1, p.2.2)
  | .call { callee := .builtin .append, args, argTypes } =>
    match args.toList, argTypes.toList with
    | [s, x], [ts, tx] => (appendR E (hintV o.dst frz) ts tx (rd s) (rd x) objs).map fun p => (p.1, some p.2.1, p.2.2)
    | _, _ => none
  | .panic x => match rd x with
    | .d (.iface t v) => some (.pan (.iface t v), none, true)
    | _ => none
  | op => match quiet op with
    | true => (evOp E rd objs op).map fun p => (p.1, none, p.2.2)
    | false => (evOp E rd objs op).map fun p => (p.1, some p.2.1, p.2.2)

/-- What an operation has to do with the objects: it leaves them, and reads this one at most; it changes this one at most (none: any). -/
inductive Eff where
  | a (p : Option Nat)
  | b (q : Option Nat)

def posOf : AV → Option Nat
  | .bp i _ => some i
  | .mp i => some i
  | _ => none
def readsAt (rd : Operand → AV) : Op → Option Nat
  | .load _ x => posOf (rd x)
  | .lookup _ x _ _ => posOf (rd x)
  | .convert _ _ x => posOf (rd x)
  | .call { callee := .builtin .len, args, .. } => match args.toList with | [x] => posOf (rd x) | _ => none
  | _ => none
def writesAt (rd : Operand → AV) (n : Nat) : Op → Option Nat
  | .store _ x _ => posOf (rd x)
  | .mapUpdate _ m _ _ => posOf (rd m)
  | .mapEntry _ m _ => posOf (rd m)
  | .entryStore _ m _ _ => posOf (rd m)
  | .insert _ m _ _ => posOf (rd m)
  | .next it _ => posOf (rd it)
  | .alloc _ | .box _ _ | .buildSlice _ _ _ | .makeMap _ _ | .range _ _ | .makeSlice _ _ _ | .slice _ _ _ _ (some _) => some n
  | .call { callee := .builtin .append, args, .. } => match args.toList with
    | s :: _ => match rd s with | .sr i _ _ => some i | .d .nilsl => some n | _ => none
    | _ => none
  | _ => none
def effOf (rd : Operand → AV) (objs : List Ob) (o : Oper) : Option (List Ob) → Eff
  | none => .a (readsAt rd o.op)
  | some _ => .b (writesAt rd objs.length o.op)

/-- A deferred call. -/
def deferOf (rd : Operand → AV) : Op → Option (FuncId × List AV)
  | .defer { callee := .value f, args, .. } => match rd f with
    | .d (.fn (.func g) a b) => some (g, a.map .d ++ args.toList.map rd ++ b.map .d)
    | .fn (.func g) a b => some (g, a ++ args.toList.map rd ++ b)
    | _ => none
  | _ => none
def isDefer : Op → Bool | .defer _ => true | _ => false

/-- The operations of a region whose order is not drawn; df: calls may be deferred. -/
def evOpsX (E : PT Ty) (H : Hd) (frz : List Nat) (nt : Nat) (df : Bool) (ops : Array Oper) : List Oper → S → Option (Ex × S)
  | [], s => some (.normal, s)
  | o :: l, s =>
    match guardA ops (rd s.tm) o with
    | some true =>
      match isDefer o.op with
      | true => match df, deferOf (rd s.tm) o.op, o.dst with
        | true, some (g, args), none => evOpsX E H frz nt df ops l ⟨s.tm, s.objs, .call g args :: s.dl⟩
        | _, _, _ => none
      | false => match evAny E H frz (rd s.tm) s.objs o with
        | some (v, ob, true) => match v with
          | .pan x => some (.pan x, ⟨s.tm, ob.getD s.objs, s.dl⟩)
          | v => match setD nt s.tm o.dst v with
            | some tm => evOpsX E H frz nt df ops l ⟨tm, ob.getD s.objs, s.dl⟩
            | none => none
        | _ => none
    | some false => match setD nt s.tm o.dst (.tup []) with
      | some tm => evOpsX E H frz nt df ops l ⟨tm, s.objs, s.dl⟩
      | none => none
    | none => none

/-- The operations in the text's order, from the i-th on. dead: those that are never reached; pk: the one that panics. -/
def evOps (E : PT Ty) (H : Nat → Hd) (frz : List Nat) (nt : Nat) (ops : Array Oper) (dead pk : Nat → Bool) : Nat → List Oper → S → Option (List Eff × S)
  | _, [], s => some ([], s)
  | i, o :: l, s =>
    match dead i with
    | true => match setD nt s.tm o.dst (.d .any) with
      | some tm => match evOps E H frz nt ops dead pk (i + 1) l ⟨tm, s.objs, s.dl⟩ with
        | some (es, s') => some (.a none :: es, s')
        | none => none
      | none => none
    | false =>
      match guardA ops (rd s.tm) o with
      | some true =>
        match evAny E (H i) frz (rd s.tm) s.objs o with
        | some (v, ob, true) => match pk i with
          | true => match v with
            | .pan _ => match setD nt s.tm o.dst (.d .any) with
              | some tm => match evOps E H frz nt ops dead pk (i + 1) l ⟨tm, ob.getD s.objs, s.dl⟩ with
                | some (es, s') => some (.b none :: es, s')
                | none => none
              | none => none
            | _ => none
          | false => match isPan v with
            | true => none
            | false => match setD nt s.tm o.dst v with
              | some tm => match evOps E H frz nt ops dead pk (i + 1) l ⟨tm, ob.getD s.objs, s.dl⟩ with
                | some (es, s') => some (effOf (rd s.tm) s.objs o ob :: es, s')
                | none => none
              | none => none
        | _ => none
      | some false => match pk i with
        | true => none
        | false => match setD nt s.tm o.dst (.tup []) with
          | some tm => match evOps E H frz nt ops dead pk (i + 1) l ⟨tm, s.objs, s.dl⟩ with
            | some (es, s') => some (.a none :: es, s')
            | none => none
          | none => none
      | none => none

/-- The place of the operation that panics. -/
def panIx (E : PT Ty) (H : Hd) (frz : List Nat) (nt : Nat) (ops : Array Oper) : Nat → List Oper → S → Option Nat
  | _, [], _ => none
  | i, o :: l, s =>
    match guardA ops (rd s.tm) o with
    | some true => match evAny E H frz (rd s.tm) s.objs o with
      | some (v, ob, true) => match isPan v with
        | true => some i
        | false => match setD nt s.tm o.dst v with
          | some tm => panIx E H frz nt ops (i + 1) l ⟨tm, ob.getD s.objs, s.dl⟩
          | none => none
      | _ => none
    | some false => match setD nt s.tm o.dst (.tup []) with
      | some tm => panIx E H frz nt ops (i + 1) l ⟨tm, s.objs, s.dl⟩
      | none => none
    | none => none

/-! ### Regions whose order is drawn -/
def upTo : Nat → (Nat → Bool) → Bool
  | 0, _ => true
  | n + 1, p => p n && upTo n p

/-- The operations that come before, as bits. -/
def ancOf (anc : List Nat) : List Edge → Nat → Nat
  | [], m => m
  | e :: r, m => ancOf anc r (match Region.binds .any e with | true => m ||| (anc.getD e.on 0 ||| 1 <<< e.on) | false => m)
def ancs : List Oper → List Nat → List Nat
  | [], acc => acc
  | o :: r, acc => ancs r (acc ++ [ancOf acc o.after.toList 0])
def bitN (n i : Nat) : Bool := Nat.beq (n / 2 ^ i % 2) 1

def edgesOK (ops : Array Oper) : Bool :=
  upTo ops.size fun i => match ops[i]? with
    | some o => o.after.toList.all fun e => !Region.binds .any e || Nat.blt e.on i
    | none => false
def dstEq (a b : Option Tmp) : Bool := match a, b with | some x, some y => Nat.beq x y | _, _ => false
def dstsOK (ops : Array Oper) : Bool :=
  upTo ops.size fun i => (match ops[i]? with | some x => (match x.dst with | some d => Nat.blt d 65536 | none => true) | none => false) && upTo i fun j => match ops[i]?, ops[j]? with
    | some x, some y => !dstEq x.dst y.dst
    | _, _ => false
def readsOK (ops : Array Oper) (anc : List Nat) : Bool :=
  upTo ops.size fun i => upTo ops.size fun j => match ops[i]?, ops[j]? with
    | some x, some y => match y.dst with
      | some d => Nat.beq i j || bitN (anc.getD i 0) j || bitN (anc.getD j 0) i || !memN d (Oper.looksAt ops x)
      | none => true
    | _, _ => false
def sameL (f : DV → DV → Bool) : List DV → List DV → Bool
  | [], [] => true
  | a :: x, b :: y => f a b && sameL f x y
  | _, _ => false
/-- Surely the same. -/
def sameD : Nat → DV → DV → Bool
  | _, .bool a, .bool b => a == b
  | _, .int k a, .int k' b => kindB k k' && a == b
  | _, .str a, .str b => a == b
  | _, .nilptr, .nilptr => true
  | _, .nilsl, .nilsl => true
  | _, .nilmap, .nilmap => true
  | n + 1, .agg a, .agg b => sameL (sameD n) a b
  | n + 1, .sl z a, .sl z' b => Nat.beq z z' && sameL (sameD n) a b
  | _, _, _ => false
def sameA : AV → AV → Bool
  | .d a, .d b => sameD 8 a b
  | .tup [.d a, .d b], .tup [.d c, .d d] => sameD 8 a c && sameD 8 b d
  | .mp i, .mp j => Nat.beq i j
  | .vs i a b c, .vs j d e f => Nat.beq i j && Nat.beq a d && Nat.beq b e && Nat.beq c f
  | .bp i a, .bp j d => Nat.beq i j && Nat.beq a d
  | .sr i a x, .sr j d y => Nat.beq i j && Nat.beq a d && sameL (sameD 8) x y
  | _, _ => false
/-- The i-th operation answers alike before and after the j-th. -/
def ansOK (E : PT Ty) (H : Nat → Hd) (frz : List Nat) (nt : Nat) (ops : Array Oper) (dead pk : Nat → Bool) (s : S) (i j : Nat) : Bool :=
  match ops[i]?, evOps E H frz nt ops dead pk 0 (ops.toList.take i) s, evOps E H frz nt ops dead pk 0 (ops.toList.take j) s, evOps E H frz nt ops dead pk 0 (ops.toList.take (j + 1)) s with
  | some o, some (_, si), some (_, sj), some (_, sk) => quiet o.op && (match evOp E (rd si.tm) sj.objs o.op, evOp E (rd si.tm) sk.objs o.op with
    | some (v, _, true), some (u, _, true) => sameA v u
    | _, _ => false)
  | _, _, _, _ => false
/-- The loud operations before A come before the i-th, whatever the order. -/
def afterLoud (anc : List Nat) (es : List Eff) (A i : Nat) : Bool :=
  upTo A fun j => match es[j]? with
    | some (.b _) => bitN (anc.getD i 0) j
    | _ => true
def isAllocO (o : Oper) : Bool := match o.op, o.dst, o.guard with | .alloc _, some _, none => true | _, _, _ => false
def firstIx (p : Nat → Bool) : Nat → Nat → Nat
  | 0, i => i
  | n + 1, i => match p i with | true => i | false => firstIx p n (i + 1)
/-- The allocation that may come early. -/
def freeIx (ops : Array Oper) (anc : List Nat) (es : List Eff) : Nat :=
  firstIx (fun i => match ops[i]? with | some o => isAllocO o && !afterLoud anc es i i | none => false) ops.size 0
/-- An allocation whose block's type is not kept. -/
def notKept (E : PT Ty) : Op → Bool | .alloc t => !keptT E t | _ => true
def lateOK (E : PT Ty) (ops : Array Oper) (anc : List Nat) (es : List Eff) (A : Nat) : Bool :=
  match ops[A]? with
  | none => true
  | some o => (isAllocO o && notKept E o.op) && match es[A]?, o.dst with
    | some (.b (some n)), some d => upTo ops.size fun i => Nat.beq i A || afterLoud anc es A i || (match ops[i]?, es[i]? with
      | some x, some e => !memN d (Oper.looksAt ops x) && (match e with | .a (some p) => !Nat.beq p n | _ => true)
      | _, _ => false)
    | _, _ => false
def effsOK (ops : Array Oper) (anc : List Nat) (es : List Eff) (A : Nat) (ans : Nat → Nat → Bool) : Bool :=
  upTo ops.size fun i => upTo ops.size fun j => match es[i]?, es[j]? with
    | some (.b _), some (.b _) => !Nat.blt i j || bitN (anc.getD j 0) i || Nat.beq j A
    | some (.a (some p)), some (.b q) => bitN (anc.getD i 0) j || bitN (anc.getD j 0) i || (match q with | some q => !Nat.beq p q | none => false) || ans i j
    | some _, some _ => true
    | _, _ => false
def drawOK (E : PT Ty) (H : Nat → Hd) (frz : List Nat) (nt : Nat) (ops : Array Oper) (dead pk : Nat → Bool) (s : S) (es : List Eff) : Bool :=
  let anc := ancs ops.toList []
  let A := freeIx ops anc es
  edgesOK ops && dstsOK ops && readsOK ops anc && effsOK ops anc es A (ansOK E H frz nt ops dead pk s) && lateOK E ops anc es A
def never (_ : Nat) : Bool := false
/-- A region whose order is drawn, in which the p-th operation panics, whatever the order. -/
def evPan (E : PT Ty) (H : Hd) (frz : List Nat) (nt : Nat) (ops : Array Oper) (s : S) (p : Nat) : Option (Ex × S) :=
  let dead := fun j => bitN ((ancs ops.toList []).getD j 0) p
  let pk := fun j => Nat.beq j p
  match evOps E (fun _ => H) frz nt ops dead pk 0 ops.toList s with
  | some (es, _) => match drawOK E (fun _ => H) frz nt ops dead pk s es with
    | true => match ops[p]?, evOps E (fun _ => H) frz nt ops dead pk 0 (ops.toList.take p) s with
      | some o, some (_, sp) => match evAny E H frz (rd sp.tm) sp.objs o with
        | some (.pan x, ob, true) => some (.pan x, ⟨.nil, ob.getD sp.objs, s.dl⟩)
        | _ => none
      | _, _ => none
    | false => none
  | none => none
def evDraw (E : PT Ty) (H : Hd) (frz : List Nat) (nt : Nat) (ops : Array Oper) (s : S) : Option (Ex × S) :=
  match evOps E (fun _ => H) frz nt ops never never 0 ops.toList s with
  | some (es, s') => match drawOK E (fun _ => H) frz nt ops never never s es with
    | true => some (.normal, s')
    | false => none
  | none => match panIx E H frz nt ops 0 ops.toList s with
    | some p => evPan E H frz nt ops s p
    | none => none

def noRound : Option Nat → Bool | none => true | some _ => false
def setTms : PT AV → List (Tmp × AV) → PT AV
  | tm, [] => tm
  | tm, (t, v) :: r => setTms (tm.set t v) r

/-- Code. ro: the place of the loop's record, in a round. -/
def evCode (E : PT Ty) (H : Hd) (frz : List Nat) (nt : Nat) (ro : Option Nat) : Nat → Code → S → Option (Ex × S)
  | 0, _, _ => none
  | n + 1, c, s =>
    match c with
    | .skip => some (.normal, s)
    | .label _ => some (.normal, s)
    | .region _ ops draw => match draw with
      | false => evOpsX E H frz nt (noRound ro) ops ops.toList s
      | true => evDraw E H frz nt ops s
    | .seq a b => match evCode E H frz nt ro n a s with
      | some (.normal, s1) => evCode E H frz nt ro n b s1
      | r => r
    | .cond c a b => match rd s.tm c with
      | .d (.bool true) => evCode E H frz nt ro n a s
      | .d (.bool false) => evCode E H frz nt ro n b s
      | _ => none
    | .block id b => match evCode E H frz nt ro n b s with
      | some (.exit id', s1) => match Nat.beq id' id with
        | true => some (.normal, s1)
        | false => some (.exit id', s1)
      | r => r
    | .loop b => match evCode E H frz nt ro n b s with
      | some (.normal, s1) => evCode E H frz nt ro n (.loop b) s1
      | r => r
    | .exit id => some (.exit id, s)
    | .ret => some (.ret, s)
    | .scope b => match evCode E H frz nt ro n b s with
      | some (.goto _, _) => none
      | r => r
    | .rangeFunc f ps assign body =>
      match rd s.tm f with
      | .d (.fn (.func g) a b) => rangeA H frz nt ro g (a.map .d) (b.map .d) ps assign body s
      | .fn (.func g) a b => rangeA H frz nt ro g a b ps assign body s
      | _ => none
    | _ => none
where
  rangeA (H : Hd) (frz : List Nat) (nt : Nat) (ro : Option Nat) (g : FuncId) (a b : List AV) (ps : Array Tmp) (assign body : Code) (s : S) : Option (Ex × S) :=
    match ro with
    | none => rangeB H frz nt g a b ps assign body s.tm (s.objs ++ [.raw (.deferred (some []))]) (.mark s.objs.length :: s.dl)
    | some r => match s.objs[r]? with
      | some (.loop _ _ _ _ _ _ _ _) => rangeB H frz nt g a b ps assign body s.tm s.objs s.dl
      | _ => none
  rangeB (H : Hd) (frz : List Nat) (nt : Nat) (g : FuncId) (a b : List AV) (ps : Array Tmp) (assign body : Code) (tm : PT AV) (objs1 : List Ob) (dl1 : List Dl) : Option (Ex × S) :=
    match H.call g (a ++ [.yl objs1.length] ++ b) (objs1 ++ [.loop tm nt frz ps assign body .ready none]) with
    | some (r, some objs2) =>
      match isPan r with
      | true => none
      | false =>
        match objs2[objs1.length]? with
        | some (.loop tm' nt' frz' ps' as' bd' st pend) =>
          match st with
          | .busy => none
          | _ => jumpTo pend ⟨tm, objs2.set objs1.length (.loop tm' nt' frz' ps' as' bd' .exhausted pend), dl1⟩
        | _ => none
    | _ => none
  jumpTo (pend : Option Code) (s : S) : Option (Ex × S) :=
    match pend with
    | none => some (.normal, s)
    | some .ret => some (.ret, s)
    | some (.exit id) => some (.exit id, s)
    | _ => none

def jumpOf : Ex → Option Code
  | .normal => none
  | .exit id => some (.exit id)
  | .goto l => some (.goto l)
  | .ret => some .ret
  | .pan _ => none

/-- A round of a range over a function: yield is called. -/
def evYield (E : PT Ty) (H : Hd) (n : Nat) (i : Nat) (args : List AV) (objs : List Ob) : Option (AV × List Ob) :=
  match objs[i]? with
  | some (.loop tm nt frz ps assign body .ready _) =>
    match Nat.beq args.length ps.size && ps.toList.all (fun t => Nat.blt t nt) with
    | true =>
      match evCode E H frz nt (some i) n assign ⟨setTms tm (ps.toList.zip args), objs, []⟩ with
      | some (.normal, s1) =>
        match s1.objs[i]? with
        | some (.loop tm' nt' frz' ps' as' bd' .ready pend') =>
          match evCode E H frz nt (some i) n body ⟨s1.tm, s1.objs.set i (.loop tm' nt' frz' ps' as' bd' .busy pend'), s1.dl⟩ with
          | some (e, s2) =>
            match s2.objs[i]? with
            | some (.loop tm'' nt'' frz'' ps'' as'' bd'' _ _) =>
              match e with
              | .normal => some (.d (.bool true), s2.objs.set i (.loop tm'' nt'' frz'' ps'' as'' bd'' .ready none))
              | .pan _ => none
              | e => some (.d (.bool false), s2.objs.set i (.loop tm'' nt'' frz'' ps'' as'' bd'' .done (jumpOf e)))
            | _ => none
          | none => none
        | _ => none
      | _ => none
    | false => none
  | _ => none

def initTm : Nat → List AV → PT AV → PT AV
  | _, [], t => t
  | i, v :: r, t => initTm (i + 1) r (t.set i v)

def evRes (E : PT Ty) (s : S) : ResultVar → Option AV
  | .tmp t => some (rd s.tm (.tmp t))
  | .cell a t => (loadR E t (rd s.tm (.tmp a)) s.objs).map (·.1)
def evResL (E : PT Ty) (s : S) : List ResultVar → Option (List AV)
  | [] => some []
  | r :: l => match evRes E s r, evResL E s l with
    | some v, some vs => some (v :: vs)
    | _, _ => none
def evResults (E : PT Ty) (s : S) (rs : Array ResultVar) : Option AV :=
  match evResL E s rs.toList with
  | some [v] => some v
  | some l => some (.tup l)
  | none => none

def allM {α β : Type} (f : α → Option β) : List α → Option (List β)
  | [] => some []
  | a :: r => match f a, allM f r with
    | some x, some l => some (x :: l)
    | _, _ => none

/-- A value as data: rows as they are now. -/
def dvOf (objs : List Ob) : Nat → AV → Option DV
  | _, .d x => some x
  | _, .sr _ sz es => some (.sl sz es)
  | k + 1, .agg cs => (allM (dvOf objs k) cs).map .agg
  | k + 1, .vs i sz lo len =>
    match objs[i]? with
    | some (.vec _ ag szr n cs) =>
      if Nat.beq szr sz && Nat.ble (lo + len) n && Nat.ble 1 sz && (ag || Nat.beq sz 1) then
        (allM (dvOf objs k) ((cs.drop (lo * sz)).take (len * sz))).map fun ds => .sl sz (chunk ag sz len ds)
      else none
    | _ => none
  | _, _ => none

/-- A value without references. -/
def closeA (objs : List Ob) (k : Nat) : AV → Option AV
  | .tup vs => (allM (fun x => (dvOf objs k x).map .d) vs).map .tup
  | .pan x => some (.pan x)
  | x => (dvOf objs k x).map .d

/-- Data, and rows that may be appended to: as they are now. -/
def allClosed (args : List AV) : Bool := match allF args with | some _ => true | none => false

/-- The function's end: what waits for it is done; the panic under way, if there is one. -/
def evLeave (H : Hd) : List Dl → Option DV → List Ob → Option (Option DV × List Ob)
  | [], m, objs => some (m, objs)
  | .mark i :: r, m, objs => match objs[i]? with
    | some (.raw (.deferred (some []))) => evLeave H r m (objs.set i (.raw (.deferred none)))
    | _ => none
  | .call g args :: r, m, objs => match H.dfr g args m objs with
    | some (m', objs') => evLeave H r m' objs'
    | none => none

/-- A call, in the memory as it is. -/
def evCall (E : PT Ty) (F : FuncId → Option FnI) (H : Hd) (n : Nat) (f : FuncId) (args : List AV) (objs : List Ob) : Option (AV × List Ob) :=
  match F f with
  | some i =>
    match Nat.beq args.length i.np && Nat.ble i.np i.nt with
    | true =>
      match evCode E H i.frz i.nt none n i.body ⟨initTm 0 args .nil, objs, []⟩ with
      | some (e, s) =>
        match (match e with | .normal => some none | .ret => some none | .pan x => some (some x) | _ => none) with
        | some m => match evLeave H s.dl m s.objs with
          | some (none, objs') => match evResults E ⟨s.tm, objs', []⟩ i.results with
            | some r => some (r, objs')
            | none => none
          | some (some x, objs') => some (.pan x, objs')
          | none => none
        | none => none
      | none => none
    | false => none
  | none => none

/-! ### A function that is entered as a deferred call: it may recover -/
inductive Md where
  | ret | pan (x : DV) | caught (x : DV)
  deriving Inhabited
def mdOf : Option DV → Md
  | none => .ret
  | some x => .pan x
def isRecover : Op → Bool
  | .call { callee := .builtin .recover, .. } => true
  | _ => false
def hasRecover (ops : List Oper) : Bool := ops.any fun o => isRecover o.op
def evOpsS (E : PT Ty) (nt : Nat) (ops : Array Oper) : List Oper → S → Md → Option (S × Md)
  | [], s, m => some (s, m)
  | o :: l, s, m =>
    match guardA ops (rd s.tm) o with
    | some true => match isRecover o.op with
      | true => match m with
        | .pan x => match setD nt s.tm o.dst (.d x) with
          | some tm => evOpsS E nt ops l ⟨tm, s.objs, s.dl⟩ (.caught x)
          | none => none
        | m => match setD nt s.tm o.dst (.d .niliface) with
          | some tm => evOpsS E nt ops l ⟨tm, s.objs, s.dl⟩ m
          | none => none
      | false => match evOp E (rd s.tm) s.objs o.op with
        | some (v, objs', true) => match setD nt s.tm o.dst v with
          | some tm => evOpsS E nt ops l ⟨tm, objs', s.dl⟩ m
          | none => none
        | _ => none
    | _ => none
def evS (E : PT Ty) (H : Hd) (frz : List Nat) (nt : Nat) : Nat → Code → S → Md → Option (Ex × S × Md)
  | 0, _, _, _ => none
  | n + 1, c, s, m =>
    match c with
    | .seq a b => match evS E H frz nt n a s m with
      | some (.normal, s1, m1) => evS E H frz nt n b s1 m1
      | r => r
    | .cond c a b => match rd s.tm c with
      | .d (.bool true) => evS E H frz nt n a s m
      | .d (.bool false) => evS E H frz nt n b s m
      | _ => none
    | .region id ops draw => match draw, hasRecover ops.toList with
      | false, true => (evOpsS E nt ops ops.toList s m).map fun p => (.normal, p.1, p.2)
      | _, _ => (evCode E H frz nt none n (.region id ops draw) s).map fun p => (p.1, p.2, m)
    | c => (evCode E H frz nt none n c s).map fun p => (p.1, p.2, m)
/-- A deferred call; m: the panic under way. -/
def evDefer (E : PT Ty) (F : FuncId → Option FnI) (H : Hd) (n : Nat) (f : FuncId) (args : List AV) (m : Option DV) (objs : List Ob) : Option (Option DV × List Ob) :=
  match F f with
  | some i =>
    match Nat.beq args.length i.np && Nat.ble i.np i.nt with
    | true =>
      match evS E H i.frz i.nt n i.body ⟨initTm 0 args .nil, objs, []⟩ (mdOf m) with
      | some (e, s, m') =>
        match (match e with | .normal => true | .ret => true | _ => false), s.dl, evResults E s i.results with
        | true, [], some _ => match m' with
          | .ret => some (none, s.objs)
          | .pan x => some (some x, s.objs)
          | .caught _ => some (none, s.objs)
        | _, _, _ => none
      | none => none
    | false => none
  | none => none

/-- A call: where the arguments bear no references, in a memory of its own. -/
def evPure (E : PT Ty) (F : FuncId → Option FnI) (H : Hd) (n : Nat) (f : FuncId) (args : List AV) : Option AV :=
  match allF args with
  | some ds => match evCall E F H n f (ds.map .d) [] with
    | some (r, o) => closeA o 8 r
    | none => none
  | none => none

/-- Data without addresses. -/
def flatDV : Nat → DV → Bool
  | _, .int _ _ => true
  | _, .bool _ => true
  | _, .str _ => true
  | k + 1, .agg cs => cs.all (flatDV k)
  | _, _ => false
def flatAV : AV → Bool
  | .d x => flatDV 8 x
  | .tup vs => vs.all fun x => match x with | .d x => flatDV 8 x | _ => false
  | _ => false

/-- A call that is lent rows that may be written, and gives no address back. -/
def evLent (E : PT Ty) (F : FuncId → Option FnI) (H : Hd) (n : Nat) (f : FuncId) (args : List AV) (objs : List Ob) : Option AV :=
  match allM (dvOf objs 8) args with
  | some ds => match evCall E F H n f (ds.map .d) [] with
    | some (r, _) => match flatAV r with
      | true => some r
      | false => none
    | none => none
  | none => none

/-- A call, in a memory of its own if that can be; the hint 200000: never; 200001: rows may be lent. -/
def evBoth (E : PT Ty) (F : FuncId → Option FnI) (H : Hd) (n : Nat) (f : FuncId) (args : List AV) (objs : List Ob) : Option (AV × Option (List Ob)) :=
  match (match F f with | some i => memN 200000 i.frz | none => false) with
  | true => (evCall E F H n f args objs).map fun p => (p.1, some p.2)
  | false => match allClosed args with
    | true => match evPure E F H n f args with
      | some r => some (r, none)
      | none => (evCall E F H n f args objs).map fun p => (p.1, some p.2)
    | false => match (match F f with | some i => memN 200001 i.frz | none => false) with
      | true => (evLent E F H n f args objs).map fun r => (r, some objs)
      | false => (evCall E F H n f args objs).map fun p => (p.1, some p.2)

/-- A function of the runtime's: 0: its argument, as it is; t + 1: bytes, of the type t. -/
def xk : List Nat → Option Nat
  | [a, b] => match Nat.beq a 300000 with | true => some b | false => none
  | _ => none
def evExt (E : PT Ty) : Nat → List AV → List Ob → Option (AV × List Ob)
  | 0, [x], objs => some (x, objs)
  | t + 1, [x], objs => match makeNoZeroR E t x objs with
    | some (v, o, true) => some (v, o)
    | _ => none
  | _, _, _ => none
/-- A call whose result is handed over in the caller's memory. -/
def evOpn (E : PT Ty) (F : FuncId → Option FnI) (f : FuncId) (args : List AV) (objs : List Ob) (alt : Option (AV × List Ob)) : Option (AV × List Ob) :=
  match F f with
  | some i => match xk i.frz with
    | some k => evExt E k args objs
    | none => alt
  | none => none

/-- The functions of a program, to a depth. -/
def hdl (E : PT Ty) (F : FuncId → Option FnI) (k : Nat) : Nat → Hd
  | 0 => ⟨fun _ _ _ => none, fun _ _ _ => none, fun _ _ _ => none, fun _ _ _ _ => none⟩
  | n + 1 => ⟨fun f args objs => evBoth E F (hdl E F k n) k f args objs, fun i args objs => evYield E (hdl E F k n) k i args objs, fun f args objs => evOpn E F f args objs (evCall E F (hdl E F k n) k f args objs),
    fun f args m objs => evDefer E F (hdl E F k n) k f args m objs⟩

end Go.Av

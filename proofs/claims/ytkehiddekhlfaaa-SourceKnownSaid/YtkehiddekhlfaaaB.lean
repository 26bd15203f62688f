/-
  The abstract layer, part B: the evaluator of operations on abstract values. Definitions only.
-/
import Derived.Test.YtkehiddekhlfaaaA
noncomputable section
namespace Go.Av
open Go

structure Ty where
  desc : TypeDesc
  size : Nat
  bytes : Nat
  zero : List DV
  deriving Inhabited

def isAggT : TypeDesc → Bool
  | .struct _ | .array _ _ => true
  | _ => false

def allD : List AV → Option (List DV)
  | [] => some []
  | .d x :: r => (allD r).map (x :: ·)
  | _ :: _ => none
/-- Data; a row that may be appended to, as it is now. -/
def allF : List AV → Option (List DV)
  | [] => some []
  | .d x :: r => (allF r).map (x :: ·)
  | .sr _ sz es :: r => (allF r).map (.sl sz es :: ·)
  | _ :: _ => none
/-- The cells of an object that may be written. -/
def obCells : Ob → Option (List AV)
  | .box cs => some cs
  | .vec _ _ _ _ (c :: cs) => some (c :: cs)
  | .tb _ cs => some cs
  | _ => none
def obPut : Ob → List AV → Ob
  | .vec t ag sz n _, cs => .vec t ag sz n cs
  | .tb t _, cs => .tb t cs
  | _, cs => .box cs
def mkAgg (cs : List AV) : AV := match allD cs with | some ds => .d (.agg ds) | none => .agg cs

/-- A value of one cell: what it stands for takes one cell. -/
def oneD : DV → Bool
  | .any | .agg _ => false
  | _ => true
def oneA : AV → Bool
  | .d x => oneD x
  | .agg _ | .tup _ => false
  | _ => true
/-- Its cells are known to be single cells. -/
def knownA : AV → Bool
  | .d .any => false
  | .tup _ => false
  | _ => true
def knownD : DV → Bool
  | .any => false
  | _ => true

def ofVal : Value → Option DV
  | .bool b => some (.bool b)
  | .int k n => some (.int k n)
  | .string b => some (.str (b.data.toList.map UInt8.toNat))
  | .pointer none => some .nilptr
  | .map none => some .nilmap
  | .nilFunc => some .nilfunc
  | .nilIface => some .niliface
  | .slice none 0 0 => some .nilsl
  | _ => none

structure St where
  tm : PT AV
  objs : List Ob
  deriving Inhabited

def rd (tm : PT AV) : Operand → AV
  | .tmp t => (tm.get? t).getD (.d .any)
  | .const v => .d ((ofVal v).getD .any)
  | .func f => .d (.fn (.func f) [] [])
  | .global _ => .d .any

abbrev R := Option (AV × List Ob × Bool)
def pureR (v : AV) (objs : List Ob) : R := some (v, objs, true)

/-! ### Numbers, strings, bools -/
def natsLess : List Nat → List Nat → Bool
  | _, [] => false
  | [], _ :: _ => true
  | a :: x, b :: y => Nat.blt a b || (Nat.beq a b && natsLess x y)

def bitsI (op : BinOp) (k : IntKind) (x y : Int) : Option Int :=
  let a := BitVec.ofInt k.bits x
  let b := BitVec.ofInt k.bits y
  match op with
  | .and => some (k.wrap (a &&& b).toNat)
  | .or => some (k.wrap (a ||| b).toNat)
  | .xor => some (k.wrap (a ^^^ b).toNat)
  | .andNot => some (k.wrap (a &&& ~~~b).toNat)
  | _ => none

def kindB : IntKind → IntKind → Bool
  | .i8, .i8 | .i16, .i16 | .i32, .i32 | .i64, .i64 | .u8, .u8 | .u16, .u16 | .u32, .u32 | .u64, .u64 => true
  | _, _ => false

def shiftI (op : BinOp) (k : IntKind) (x y : Int) : Option (Int × Bool) :=
  match op with
  | .shl => some (k.wrap (x * 2 ^ (min y.toNat k.bits)), !decide (y < 0))
  | .shr => some (x.fdiv (2 ^ (min y.toNat k.bits)), !decide (y < 0))
  | _ => none

def intI (op : BinOp) (k : IntKind) (a b : Int) : Option (DV × Bool) :=
  match op with
  | .add => some (.int k (k.wrap (a + b)), true)
  | .sub => some (.int k (k.wrap (a - b)), true)
  | .mul => some (.int k (k.wrap (a * b)), true)
  | .quo => some (.int k (k.wrap (a.tdiv b)), !decide (b = 0))
  | .rem => some (.int k (a.tmod b), !decide (b = 0))
  | .eql => some (.bool (a == b), true)
  | .neq => some (.bool (a != b), true)
  | .lss => some (.bool (decide (a < b)), true)
  | .leq => some (.bool (decide (a ≤ b)), true)
  | .gtr => some (.bool (decide (a > b)), true)
  | .geq => some (.bool (decide (a ≥ b)), true)
  | op => (bitsI op k a b).map fun n => (.int k n, true)

def strI (op : BinOp) (x y : List Nat) : Option (DV × Bool) :=
  match op with
  | .add => some (.str (x ++ y), Nat.ble (x.length + y.length) 4611686018427387904)
  | .eql => some (.bool (x == y), true)
  | .neq => some (.bool (!(x == y)), true)
  | .lss => some (.bool (natsLess x y), true)
  | .leq => some (.bool (natsLess x y || x == y), true)
  | .gtr => some (.bool (!(natsLess x y || x == y)), true)
  | .geq => some (.bool (!natsLess x y), true)
  | _ => none

/-- Cell by cell: plain cells only. -/
def eqCell : DV → DV → Option Bool
  | .int k a, .int k' b => if kindB k k' then some (a == b) else none
  | .str a, .str b => some (a == b)
  | .bool a, .bool b => some (a == b)
  | _, _ => none
def eqCells : List DV → List DV → Option Bool
  | [], [] => some true
  | a :: x, b :: y => match eqCell a b, eqCells x y with
    | some p, some q => some (p && q)
    | _, _ => none
  | _, _ => none

/-- A type whose equality is that of its cells, one by one. -/
def plainT (E : PT Ty) : Nat → TypeId → Bool
  | 0, _ => false
  | n + 1, t => match E.get? t with
    | some y => match y.desc with
      | .int _ | .string | .bool => true
      | .array _ e => plainT E n e
      | .struct fs => fs.toList.all fun f => f.name != "_" && plainT E n f.type
      | _ => false
    | none => false

/-- A part of an aggregate's cells. -/
def partD (E : PT Ty) (t : TypeId) (cs : List DV) (off : Nat) : Option (List DV) :=
  match E.get? t with
  | some y => match isAggT y.desc with
    | true => if Nat.ble (off + y.size) cs.length then some ((cs.drop off).take y.size) else none
    | false => match cs[off]? with | some c => some [c] | none => none
  | none => none
def eqFs (E : PT Ty) (f : TypeId → List DV → List DV → Option Bool) (xs ys : List DV) : List Field → Option Bool
  | [] => some true
  | fd :: r => match partD E fd.type xs fd.offset, partD E fd.type ys fd.offset with
    | some p, some q => match f fd.type p q, eqFs E f xs ys r with
      | some a, some b => some (a && b)
      | _, _ => none
    | _, _ => none
def eqIs (E : PT Ty) (f : TypeId → List DV → List DV → Option Bool) (e : TypeId) (sz : Nat) (xs ys : List DV) : List Nat → Option Bool
  | [] => some true
  | i :: r => match partD E e xs (i * sz), partD E e ys (i * sz) with
    | some p, some q => match f e p q, eqIs E f e sz xs ys r with
      | some a, some b => some (a && b)
      | _, _ => none
    | _, _ => none
def oneT (desc : TypeDesc) (xs ys : List DV) : Option Bool :=
  match xs, ys with
  | [a], [b] => match desc, a with
    | .int _, .int _ _ => eqCell a b
    | .string, .str _ => eqCell a b
    | .bool, .bool _ => eqCell a b
    | _, _ => none
  | _, _ => none
/-- Equality by the type, part by part. -/
def eqT (E : PT Ty) : Nat → TypeId → List DV → List DV → Option Bool
  | 0, _, _, _ => none
  | n + 1, t, xs, ys =>
    match E.get? t with
    | some y => match y.desc with
      | .struct fs => eqFs E (eqT E n) xs ys fs.toList
      | .array len e => match E.get? e with
        | some z => eqIs E (eqT E n) e z.size xs ys (List.range len)
        | none => none
      | desc => oneT desc xs ys
    | none => none

def eqAgg (E : PT Ty) (t : TypeId) (xs ys : List DV) : Option Bool :=
  match E.get? t with
  | some y => match isAggT y.desc with
    | true => eqT E 8 t xs ys
    | false => none
  | none => none

def isNilD : DV → Option Bool
  | .nilptr | .nilfunc | .nilmap | .niliface | .nilsl => some true
  | .ep _ | .fn _ _ _ | .iface _ _ => some false
  | _ => none

def boolT (E : PT Ty) (t : TypeId) : Bool := match E.get? t with | some ⟨.bool, _, _, _⟩ => true | _ => false

/-- Is it nil? -/
def nilOf (desc : TypeDesc) (x : AV) : Option Bool :=
  match desc, x with
  | .pointer _, .d .nilptr => some true
  | .pointer _, .d (.ep _) => some false
  | .pointer _, .bp _ _ => some false
  | .slice _, .d .nilsl => some true
  | .slice _, .d (.sl _ (_ :: _)) => some false
  | .slice _, .sr _ _ (_ :: _) => some false
  | .slice _, .bs _ _ _ _ => some false
  | .slice _, .vs _ _ _ (_ + 1) => some false
  | .map _ _, .d .nilmap => some true
  | .map _ _, .mp _ => some false
  | .func _ _ _, .d .nilfunc => some true
  | .func _ _ _, .d (.fn _ _ _) => some false
  | .func _ _ _, .fn _ _ _ => some false
  | .func _ _ _, .yl _ => some false
  | .interface _, .d .niliface => some true
  | .interface _, .d (.iface _ _) => some false
  | _, _ => none
def isIface : TypeDesc → Bool | .interface _ => true | _ => false
def isC : Operand → Bool | .const _ => true | _ => false
/-- Held against nil. -/
def nilR (E : PT Ty) (op : BinOp) (t : TypeId) (lit : Bool) (x y : AV) (objs : List Ob) : R :=
  match E.get? t with
  | some d => match nilOf d.desc x, nilOf d.desc y with
    | some p, some q => match (p || q) && (lit || !(p && q) || !isIface d.desc) with
      | true => match op with
        | .eql => pureR (.d (.bool (p && q))) objs
        | .neq => pureR (.d (.bool (!(p && q)))) objs
        | _ => none
      | false => none
    | _, _ => none
  | none => none

/-- Two pointers to the same place. -/
def ptrR (E : PT Ty) (op : BinOp) (t : TypeId) (i a j b : Nat) (objs : List Ob) : R :=
  match E.get? t with
  | some ⟨.pointer e, _, _, _⟩ => match E.get? e with
    | some _ => match Nat.beq i j && Nat.beq a b with
      | true => match op with
        | .eql => pureR (.d (.bool true)) objs
        | .neq => pureR (.d (.bool false)) objs
        | _ => none
      | false => none
    | none => none
  | _ => none

def binR (E : PT Ty) (op : BinOp) (t : TypeId) (lit : Bool) (x y : AV) (objs : List Ob) : R :=
  match x, y with
  | .d (.int k a), .d (.int k' b) =>
    match op with
    | .shl | .shr => (shiftI op k a b).map fun p => (.d (.int k p.1), objs, p.2)
    | _ => if kindB k k' then (intI op k a b).map fun p => (.d p.1, objs, p.2) else none
  | .d (.str a), .d (.str b) => (strI op a b).map fun p => (.d p.1, objs, p.2)
  | .d (.bool a), .d (.bool b) =>
    match boolT E t, op with
    | true, .eql => pureR (.d (.bool (a == b))) objs
    | true, .neq => pureR (.d (.bool (!(a == b)))) objs
    | _, _ => none
  | .d (.agg a), .d (.agg b) =>
    match op with
    | .eql => (eqAgg E t a b).map fun r => (.d (.bool r), objs, true)
    | .neq => (eqAgg E t a b).map fun r => (.d (.bool (!r)), objs, true)
    | _ => none
  | .bp i a, .bp j b => ptrR E op t i a j b objs
  | x, y => nilR E op t lit x y objs

def unR (op : UnOp) (x : AV) (objs : List Ob) : R :=
  match op, x with
  | .not, .d (.bool b) => pureR (.d (.bool (!b))) objs
  | .neg, .d (.int k n) => pureR (.d (.int k (k.wrap (0 - n)))) objs
  | _, _ => none

def pickA (c : Bool) (a b : AV) : AV :=
  match a, b with
  | .d (.bool x), .d (.bool y) => .d (.bool (cond c x y))
  | _, _ => match c with | true => a | false => b
def pickR (c a b : AV) (objs : List Ob) : R :=
  match c with
  | .d (.bool c) => pureR (pickA c a b) objs
  | _ => none

/-! ### Memory -/
/-- A struct of a pointer and bytes; a struct of such a one alone: the type of its block is kept. -/
def isPtrT : TypeDesc → Bool | .pointer _ => true | _ => false
def isByteT (E : PT Ty) (e : TypeId) : Bool := match E.get? e with | some ⟨.int .u8, 1, _, _⟩ => true | _ => false
def bytesT (E : PT Ty) : TypeDesc → Bool | .slice e => isByteT E e | _ => false
def bldT (E : PT Ty) (t : TypeId) : Bool :=
  match E.get? t with
  | some ⟨.struct fs, 2, _, _⟩ => match fs.toList with
    | [a, b] => match E.get? a.type, E.get? b.type with
      | some x, some y => isPtrT x.desc && bytesT E y.desc
      | _, _ => false
    | _ => false
  | _ => false
def oneF (E : PT Ty) (t : TypeId) : Option Field :=
  match E.get? t with
  | some ⟨.struct fs, 2, _, _⟩ => match fs.toList with | [a] => some a | _ => none
  | _ => none
def keptT (E : PT Ty) (t : TypeId) : Bool := bldT E t || (match oneF E t with | some a => bldT E a.type | none => false)
def allocR (E : PT Ty) (t : TypeId) (objs : List Ob) : R :=
  match E.get? t with
  | some y => match keptT E t with
    | true => pureR (.bp objs.length 0) (objs ++ [.tb t (y.zero.map .d)])
    | false => pureR (.bp objs.length 0) (objs ++ [.box (y.zero.map .d)])
  | none => none
def boxR (x : AV) (objs : List Ob) : R :=
  if knownA x then pureR (.bp objs.length 0) (objs ++ [.box x.cells]) else none
def boxTR (E : PT Ty) (t : TypeId) (x : AV) (objs : List Ob) : R :=
  match keptT E t with
  | true => if knownA x then pureR (.bp objs.length 0) (objs ++ [.tb t x.cells]) else none
  | false => boxR x objs
/-- A box that will never be written: memory that never changes. -/
def boxER (x : AV) (objs : List Ob) : R :=
  if knownA x then match allF x.cells with | some ds => pureR (.d (.ep ds)) objs | none => none else none

def loadR (E : PT Ty) (t : TypeId) (x : AV) (objs : List Ob) : R :=
  match E.get? t with
  | none => none
  | some y =>
    match x with
    | .d (.ep cs) =>
      match isAggT y.desc with
      | true => if Nat.ble y.size cs.length then pureR (.d (.agg (cs.take y.size))) objs else none
      | false => match cs with | c :: _ => pureR (.d c) objs | [] => none
    | .bp i off =>
      match objs[i]? with
      | some ob =>
        match obCells ob with
        | some cs =>
          match isAggT y.desc with
          | true => if Nat.ble (off + y.size) cs.length then pureR (mkAgg ((cs.drop off).take y.size)) objs else none
          | false => match cs[off]? with | some c => pureR c objs | none => none
        | none => none
      | none => none
    | _ => none

def storeR (E : PT Ty) (t : TypeId) (x v : AV) (objs : List Ob) : R :=
  match E.get? t, x with
  | some y, .bp i off =>
    match objs[i]? with
    | some ob =>
      match obCells ob with
      | some cs =>
        if knownA v && Nat.beq v.cells.length y.size && Nat.ble (off + y.size) cs.length then
          pureR (.d .any) (objs.set i (obPut ob (cs.take off ++ v.cells ++ cs.drop (off + y.size))))
        else none
      | none => none
    | none => none
  | _, _ => none

def nilCheckR (x : AV) (objs : List Ob) : R :=
  match x with
  | .d (.ep _) | .bp _ _ | .fn (.func _) _ _ | .d (.fn (.func _) _ _) | .yl _ => pureR x objs
  | _ => none

def fieldAddrR (E : PT Ty) (t : TypeId) (x : AV) (f : Nat) (objs : List Ob) : R :=
  match E.get? t with
  | some ⟨.struct fs, _, _, _⟩ =>
    match fs[f]? with
    | some fd =>
      match E.get? fd.type with
      | some y =>
        if Nat.beq y.size 0 then none else
        match x with
        | .bp i off => pureR (.bp i (off + fd.offset)) objs
        | .d (.ep cs) => pureR (.d (.ep (cs.drop fd.offset))) objs
        | _ => none
      | none => none
    | none => none
  | _ => none

/-- A part of an aggregate, by value. -/
def partR (E : PT Ty) (t : TypeId) (cs : List AV) (off : Nat) (objs : List Ob) : R :=
  match E.get? t with
  | some y =>
    match isAggT y.desc with
    | true => if Nat.ble (off + y.size) cs.length then pureR (mkAgg ((cs.drop off).take y.size)) objs else none
    | false => match cs[off]? with | some c => pureR c objs | none => none
  | none => none

def aggCells : AV → Option (List AV)
  | .agg cs => some cs
  | .d (.agg cs) => some (cs.map .d)
  | _ => none

def fieldR (E : PT Ty) (t : TypeId) (x : AV) (f : Nat) (objs : List Ob) : R :=
  match E.get? t, aggCells x with
  | some ⟨.struct fs, _, _, _⟩, some cs =>
    match fs[f]? with
    | some fd => partR E fd.type cs fd.offset objs
    | none => none
  | _, _ => none

def inB (i : Int) (n : Nat) : Bool := decide (0 ≤ i) && decide (i < n)

def indexAddrR (E : PT Ty) (t : TypeId) (x ix : AV) (objs : List Ob) : R :=
  match E.get? t, ix with
  | some ⟨.slice e, _, _, _⟩, .d (.int _ i) =>
    match E.get? e with
    | none => none
    | some y =>
      match x with
      | .d (.sl sz es) => if Nat.beq y.size sz then some (.d (.ep (cellsD (es.getD i.toNat .any))), objs, inB i es.length) else none
      | .sr _ sz es => if Nat.beq y.size sz then some (.d (.ep (cellsD (es.getD i.toNat .any))), objs, inB i es.length) else none
      | .bs b off len _ => if Nat.beq y.size 0 then none else some (.bp b (off + i.toNat * y.size), objs, inB i len)
      | .vs b sz lo len => if Nat.beq y.size sz && Nat.ble 1 sz then some (.bp b ((lo + i.toNat) * y.size), objs, inB i len) else none
      | _ => none
  | some ⟨.array len e, _, _, _⟩, .d (.int _ i) =>
    match E.get? e with
    | none => none
    | some y =>
      if Nat.beq y.size 0 || Nat.ble len 1 then none else
      match x with
      | .bp b off => some (.bp b (off + i.toNat * y.size), objs, inB i len)
      | .d (.ep cs) => some (.d (.ep (cs.drop (i.toNat * y.size))), objs, inB i len && Nat.ble (i.toNat * y.size) cs.length)
      | _ => none
  | _, _ => none

def indexR (E : PT Ty) (t : TypeId) (x ix : AV) (objs : List Ob) : R :=
  match E.get? t, ix, x with
  | some ⟨.string, _, _, _⟩, .d (.int _ i), .d (.str s) => some (.d (.int .u8 (s.getD i.toNat 0)), objs, inB i s.length)
  | some ⟨.array len e, _, _, _⟩, .d (.int _ i), x =>
    match E.get? e, aggCells x with
    | some y, some cs => if inB i len then partR E e cs (i.toNat * y.size) objs else none
    | _, _ => none
  | _, _, _ => none

/-- A bound that is given, as a number. -/
def bnd : Option AV → Option (Option Int)
  | none => some none
  | some (.d (.int _ i)) => some (some i)
  | _ => none
def cutL {α : Type} (lo hi : Option Int) (l : List α) : List α :=
  match lo, hi with
  | none, none => l
  | some a, none => l.drop a.toNat
  | none, some b => l.take b.toNat
  | some a, some b => (l.take b.toNat).drop a.toNat
def cutC (lo hi : Option Int) (n : Nat) : Bool :=
  match lo, hi with
  | none, none => true
  | some a, none => decide (0 ≤ a) && decide (a ≤ n)
  | none, some b => decide (0 ≤ b) && decide (b ≤ n)
  | some a, some b => decide (0 ≤ a) && decide (a ≤ b) && decide (b ≤ n)

/-- The third bound, if there is one, lies between the second and the length. -/
def maxC (hi mx : Option Int) (n : Nat) : Bool :=
  match hi, mx with
  | _, none => true
  | some b, some m => decide (b ≤ m) && decide (m ≤ n)
  | none, some _ => false

def sliceR (E : PT Ty) (t : TypeId) (x : AV) (lo hi mx : Option AV) (objs : List Ob) : R :=
  match E.get? t, bnd lo, bnd hi, bnd mx with
  | some y, some lo, some hi, some mx =>
    match y.desc with
    | .string => match x, mx with
      | .d (.str s), none => some (.d (.str (cutL lo hi s)), objs, cutC lo hi s.length)
      | _, _ => none
    | .slice e =>
      match E.get? e, x with
      | some ye, .d (.sl sz es) => if Nat.beq ye.size sz then some (.d (.sl sz (cutL lo hi es)), objs, cutC lo hi es.length && maxC hi mx es.length) else none
      | some ye, .sr _ sz es => if Nat.beq ye.size sz then some (.d (.sl sz (cutL lo hi es)), objs, cutC lo hi es.length && maxC hi mx es.length) else none
      | some _, .d .nilsl => some (.d .nilsl, objs, cutC lo hi 0 && maxC hi mx 0)
      | some ye, .vs b sz l0 len => match mx with
        | none => if Nat.beq ye.size sz then some (.vs b sz (l0 + (lo.getD 0).toNat) ((hi.getD len).toNat - (lo.getD 0).toNat), objs, cutC lo hi len) else none
        | some _ => none
      | _, _ => none
    | .array n e =>
      match E.get? e, x, mx with
      | some ye, .bp b off, none =>
        if cutC lo hi n && !decide ((lo.getD 0).toNat = n) then pureR (.bs b (off + (lo.getD 0).toNat * ye.size) ((hi.getD n).toNat - (lo.getD 0).toNat) (n - (lo.getD 0).toNat)) objs else none
      | some ye, .d (.ep cs), none =>
        if Nat.beq ye.size 1 && Nat.ble n 65536 && Nat.beq n cs.length then some (.d (.sl 1 (cutL lo hi cs)), objs, cutC lo hi n) else none
      | _, _, _ => none
    | _ => none
  | _, _, _, _ => none

/-- s[l:h:h]: a row without spare room. -/
def slice3R (E : PT Ty) (t : TypeId) (x : AV) (lo hi mx : Option AV) (objs : List Ob) : R :=
  match E.get? t, bnd lo, bnd hi, bnd mx with
  | some ⟨.slice e, _, _, _⟩, some lo, some (some h), some (some m) =>
    match E.get? e with
    | some ye =>
      match (match x with
        | .d (.sl sz es) => if Nat.beq ye.size sz then some es else none
        | .sr _ sz es => if Nat.beq ye.size sz then some es else none
        | .d .nilsl => some []
        | _ => none) with
      | some es => some (.sr objs.length ye.size (cutL lo (some h) es), objs ++ [.room (cutL lo (some h) es).length ye.size], cutC lo (some h) es.length && decide (h = m))
      | none => none
    | none => none
  | _, _, _, _ => none

def lenR (x : AV) (objs : List Ob) (E : PT Ty) (t : TypeId) : R :=
  match E.get? t with
  | none => none
  | some y =>
    match y.desc with
    | .array n _ => pureR (.d (.int .i64 n)) objs
    | .string => match x with | .d (.str s) => pureR (.d (.int .i64 s.length)) objs | _ => none
    | .slice _ => match x with
      | .d (.sl _ es) => pureR (.d (.int .i64 es.length)) objs
      | .d .nilsl => pureR (.d (.int .i64 (0 : Nat))) objs
      | .sr _ _ es => pureR (.d (.int .i64 es.length)) objs
      | .bs _ _ len _ => pureR (.d (.int .i64 len)) objs
      | .vs _ _ _ len => pureR (.d (.int .i64 len)) objs
      | _ => none
    | .map _ _ => match x with
      | .d .nilmap => pureR (.d (.int .i64 (0 : Nat))) objs
      | .mp i => match objs[i]? with
        | some (.map kvs) => pureR (.d (.int .i64 kvs.length)) objs
        | _ => none
      | _ => none
    | _ => none

def capR (x : AV) (objs : List Ob) (E : PT Ty) (t : TypeId) : R :=
  match E.get? t with
  | some ⟨.slice _, _, _, _⟩ => match x with | .d .nilsl => pureR (.d (.int .i64 (0 : Nat))) objs | _ => none
  | _ => none

/-- Cells cut into elements. -/
def elemA (agg : Bool) (sz : Nat) (cs : List DV) : DV := match agg, cs with | false, c :: _ => c | _, _ => .agg (cs.take sz)
def chunk (agg : Bool) (sz : Nat) : Nat → List DV → List DV
  | 0, _ => []
  | n + 1, cs => elemA agg sz cs :: chunk agg sz n (cs.drop sz)

def fillA (place : Nat → Option (Nat × Nat)) (cells : List AV) : List (Nat × AV) → Option (List AV)
  | [] => some cells
  | (i, v) :: rest =>
    match place i with
    | none => none
    | some (off, size) =>
      if knownA v && Nat.beq v.cells.length size && Nat.ble (off + size) cells.length then
        fillA place (cells.take off ++ v.cells ++ cells.drop (off + size)) rest
      else none

def buildR (E : PT Ty) (t : TypeId) (parts : List (Nat × AV)) (objs : List Ob) : R :=
  match E.get? t with
  | none => none
  | some y =>
    match y.desc with
    | .struct fs =>
      match fillA (fun i => match fs[i]? with | some f => (E.get? f.type).map fun z => (f.offset, z.size) | none => none) (y.zero.map .d) parts with
      | some cs => pureR (mkAgg cs) objs
      | none => none
    | .array _ e =>
      match E.get? e with
      | some z => match fillA (fun i => some (i * z.size, z.size)) (y.zero.map .d) parts with
        | some cs => pureR (mkAgg cs) objs
        | none => none
      | none => none
    | _ => none

def repeatL {α : Type} : Nat → List α → List α
  | 0, _ => []
  | n + 1, l => l ++ repeatL n l

/-- room: the result may be appended to. -/
def buildSliceR (E : PT Ty) (room : Bool) (t : TypeId) (len : Nat) (parts : List (Nat × AV)) (objs : List Ob) : R :=
  match E.get? t with
  | some ⟨.slice e, _, _, _⟩ =>
    match E.get? e with
    | some z =>
      if Nat.ble (len * z.size) 16777216 && Nat.ble 1 z.size && (isAggT z.desc || Nat.beq z.size 1) then
        match fillA (fun i => some (i * z.size, z.size)) (repeatL len (z.zero.map .d)) parts with
        | some cs => match allF cs with
          | some ds => match room with
            | true => pureR (.sr objs.length z.size (chunk (isAggT z.desc) z.size len ds)) (objs ++ [.room len z.size])
            | false => pureR (.d (.sl z.size (chunk (isAggT z.desc) z.size len ds))) objs
          | none => none
        | none => none
      else none
    | none => none
  | _ => none

/-- A literal whose places may be written. -/
def buildVecR (E : PT Ty) (t : TypeId) (len : Nat) (parts : List (Nat × AV)) (objs : List Ob) : R :=
  match E.get? t with
  | some ⟨.slice e, _, _, _⟩ =>
    match E.get? e with
    | some z =>
      if Nat.ble (len * z.size) 16777216 && Nat.ble 1 z.size then
        match fillA (fun i => some (i * z.size, z.size)) (repeatL len (z.zero.map .d)) parts with
        | some cs => pureR (.vs objs.length z.size 0 len) (objs ++ [.vec e (isAggT z.desc) z.size len cs])
        | none => none
      else none
    | none => none
  | _ => none

def makeSliceR (E : PT Ty) (t : TypeId) (l c : AV) (objs : List Ob) : R :=
  match E.get? t, l, c with
  | some ⟨.slice e, _, _, _⟩, .d (.int .i64 n), .d (.int .i64 m) =>
    match E.get? e with
    | some z =>
      if Nat.ble 1 z.size then
        some (.vs objs.length z.size 0 n.toNat, objs ++ [.vec e (isAggT z.desc) z.size n.toNat (repeatL n.toNat (z.zero.map .d))], decide (0 ≤ n) && decide (n = m) && Nat.ble (n.toNat * z.bytes) 1099511627776 && Nat.ble n.toNat 1099511627776)
      else none
    | none => none
  | _, _, _ => none

def srcOf (E : PT Ty) (t : TypeId) (x : AV) (objs : List Ob) : Option (Nat × List DV) :=
  match x with
  | .d (.sl sz es) => some (sz, es)
  | .d .nilsl => some (0, [])
  | .sr _ sz es => some (sz, es)
  | .bs b off len _ =>
    match E.get? t with
    | some ⟨.slice e, _, _, _⟩ => match E.get? e, objs[b]? with
      | some z, some (.box cs) =>
        if Nat.ble (off + len * z.size) cs.length && Nat.ble 1 z.size && (isAggT z.desc || Nat.beq z.size 1) then
          (allF ((cs.drop off).take (len * z.size))).map fun ds => (z.size, chunk (isAggT z.desc) z.size len ds)
        else none
      | _, _ => none
    | _ => none
  | .vs b sz lo len =>
    match objs[b]? with
    | some (.vec _ ag szr n cs) =>
      if Nat.beq szr sz && Nat.ble (lo + len) n && Nat.ble 1 sz && (ag || Nat.beq sz 1) then
        (allF ((cs.drop (lo * sz)).take (len * sz))).map fun ds => (sz, chunk ag sz len ds)
      else none
    | _ => none
  | .d (.str s) => some (1, s.map fun (n : Nat) => .int .u8 n)
  | _ => none

def srcSz (sz dflt : Nat) : List DV → Nat
  | [] => dflt
  | _ => sz
def seqT (E : PT Ty) (t : TypeId) : Bool :=
  match E.get? t with
  | some y => match y.desc with | .slice _ | .string => true | _ => false
  | none => false

/-- A row's zero element. -/
def zeroE (z : Ty) : DV := match isAggT z.desc with | true => .agg z.zero | false => z.zero.headD .any
/-- What is appended; a number: so many zeros. -/
def appSrc (E : PT Ty) (z : Ty) (tx : TypeId) (x : AV) (objs : List Ob) : Option (Nat × List DV) :=
  match E.get? tx with
  | some ⟨.int _, _, _, _⟩ => match x with
    | .d (.int .i64 n) => match decide (0 ≤ n) && Nat.ble n.toNat 1048576 && Nat.ble (n.toNat * z.bytes) 1099511627776 && (isAggT z.desc || Nat.beq z.size 1) with
      | true => some (z.size, List.replicate n.toNat (zeroE z))
      | false => none
    | _ => none
  | _ => match seqT E tx with
    | true => srcOf E tx x objs
    | false => none
def appSrc0 (E : PT Ty) (e tx : TypeId) (x : AV) (objs : List Ob) : Option (Nat × List DV) :=
  match E.get? e with | some z => appSrc E z tx x objs | none => none

/-- append: to a row with room of one's own, or to nil. vec: a row that begins here may be written. -/
def appendR (E : PT Ty) (vec : Bool) (ts tx : TypeId) (s x : AV) (objs : List Ob) : R :=
  match E.get? ts with
  | some ⟨.slice e, _, _, _⟩ =>
    match E.get? e, appSrc0 E e tx x objs with
    | some z, some (szx, ys) =>
      if Nat.ble 1 z.size && Nat.ble 1 z.bytes && Nat.beq (srcSz szx z.size ys) z.size then
        match s with
        | .d .nilsl => match vec with
          | false => some (.sr objs.length z.size ys, objs ++ [.room ys.length z.size], Nat.ble (ys.length * z.bytes) 1099511627776)
          | true => some (.vs objs.length z.size 0 ys.length, objs ++ [.vec e (isAggT z.desc) z.size ys.length ((flatD ys).map .d)], Nat.ble (ys.length * z.bytes) 1099511627776)
        | .vs i sz lo len =>
          match objs[i]? with
          | some (.vec t ag szr n cs) =>
            if Nat.beq szr z.size && Nat.beq sz z.size && Nat.beq lo 0 && Nat.beq t e then
              some (.vs objs.length sz 0 (len + ys.length), objs.set i .gone ++ [.vec t ag sz (len + ys.length) (cs.take (len * sz) ++ (flatD ys).map .d)], Nat.ble len n && Nat.ble ((len + ys.length) * z.bytes) 1099511627776)
            else none
          | _ => none
        | .sr i sz es =>
          match objs[i]? with
          | some (.room n szr) =>
            if Nat.beq szr z.size && Nat.beq sz z.size then
              some (.sr i z.size (es ++ ys), objs.set i (.room (n + ys.length) z.size), Nat.beq n es.length && Nat.ble ((es.length + ys.length) * z.bytes) 1099511627776)
            else none
          | _ => none
        | _ => none
      else none
    | _, _ => none
  | _ => none

/-- copy into a row that may be written. -/
def copyR (E : PT Ty) (ts tx : TypeId) (d x : AV) (objs : List Ob) : R :=
  match E.get? ts with
  | some ⟨.slice e, _, _, _⟩ =>
    match E.get? e, srcOf E tx x objs with
    | some z, some (szx, ys) =>
      if Nat.ble 1 z.size && Nat.beq (srcSz szx z.size ys) z.size && seqT E tx then
        match d with
        | .bs i off len _ =>
          match objs[i]? with
          | some (.box cs) =>
            if Nat.ble (off + len * z.size) cs.length then
              pureR (.d (.int .i64 (min ys.length len : Nat))) (objs.set i (.box (cs.take off ++ (flatD (ys.take len)).map .d ++ cs.drop (off + min ys.length len * z.size))))
            else none
          | _ => none
        | .vs i sz lo len =>
          match objs[i]? with
          | some (.vec t ag szr n cs) =>
            if Nat.beq szr z.size && Nat.beq sz z.size && Nat.ble (lo + len) n then
              pureR (.d (.int .i64 (min ys.length len : Nat))) (objs.set i (.vec t ag szr n (cs.take (lo * sz) ++ (flatD (ys.take len)).map .d ++ cs.drop (lo * sz + min ys.length len * sz))))
            else none
          | _ => none
        | _ => none
      else none
    | _, _ => none
  | _ => none

def minL (k : IntKind) : Int → List AV → Option Int
  | a, [] => some a
  | a, .d (.int k' b) :: r => if kindB k k' then minL k (if b < a then b else a) r else none
  | _, _ => none
def maxL (k : IntKind) : Int → List AV → Option Int
  | a, [] => some a
  | a, .d (.int k' b) :: r => if kindB k k' then maxL k (if b > a then b else a) r else none
  | _, _ => none

def extractR (x : AV) (i : Nat) (objs : List Ob) : R :=
  match x with
  | .tup vs => match vs[i]? with | some v => pureR v objs | none => none
  | _ => none

def convR (E : PT Ty) (src dst : TypeId) (x : AV) (objs : List Ob) : R :=
  match E.get? src, E.get? dst with
  | some ys, some yd =>
    match ys.desc, yd.desc, x with
    | .int _, .int k, .d (.int _ n) => pureR (.d (.int k (k.wrap n))) objs
    | .string, .string, .d (.str s) => pureR (.d (.str s)) objs
    | .slice e, .string, x =>
      match E.get? e, srcOf E src x objs with
      | some ⟨.int .u8, 1, _, _⟩, some (_, es) =>
        (bytesD es).map fun s => (.d (.str s), objs, true)
      | _, _ => none
    | _, _, _ => none
  | _, _ => none
where
  bytesD : List DV → Option (List Nat)
  | [] => some []
  | .int .u8 n :: r => (bytesD r).map fun s => (n.toNat % 256) :: s
  | _ :: _ => none

def sliceT (E : PT Ty) (t : TypeId) : Bool := match E.get? t with | some ⟨.slice _, _, _, _⟩ => true | _ => false
/-- Bytes to a string; a string to bytes. -/
def bytesR (E : PT Ty) (src dst : TypeId) (x : AV) (objs : List Ob) : R :=
  match E.get? src, E.get? dst with
  | some ⟨.slice e, _, _, _⟩, some ⟨.string, _, _, _⟩ =>
    match E.get? e with
    | some ⟨.int .u8, _, _, _⟩ => match x with
      | .d .nilsl => pureR (.d (.str [])) objs
      | .d (.sl _ es) => (convR.bytesD es).map fun s => (.d (.str s), objs, true)
      | .sr _ _ es => (convR.bytesD es).map fun s => (.d (.str s), objs, true)
      | _ => none
    | _ => none
  | some ⟨.string, _, _, _⟩, some ⟨.slice e, _, _, _⟩ =>
    match E.get? e with
    | some ⟨.int .u8, _, _, _⟩ => match x with
      | .d (.str s) => some (.d (.sl 1 (s.map fun n => .int .u8 (n : Nat))), objs, Nat.ble s.length 1099511627776)
      | _ => none
    | _ => none
  | _, _ => none

/-! ### What strings.Builder does -/
def isUnsT : TypeDesc → Bool | .unsafePointer => true | _ => false
def unsT (E : PT Ty) (t : TypeId) : Bool := match E.get? t with | some y => isUnsT y.desc | none => false
/-- A variable of the type u lies at the place off of a block that is one t. -/
def liesE (E : PT Ty) (t u : TypeId) (off : Nat) : Bool :=
  bldT E u && Nat.beq off 0 && (Nat.beq t u || (match oneF E t with | some a => Nat.beq a.type u && Nat.beq a.offset 0 | none => false))
/-- To unsafe.Pointer and back. -/
def unsR (E : PT Ty) (src dst : TypeId) (x : AV) (objs : List Ob) : R :=
  match x with
  | .bp i off =>
    match objs[i]? with
    | some (.tb t cs) =>
      match E.get? src, E.get? dst with
      | some ys, some yd =>
        match ys.desc, yd.desc with
        | .pointer e, .unsafePointer => match E.get? e with
          | some y => if Nat.blt 0 y.size && Nat.blt off cs.length then pureR (.bp i off) objs else none
          | none => none
        | .unsafePointer, .pointer u => if liesE E t u off && Nat.beq cs.length 2 then pureR (.bp i off) objs else none
        | _, _ => none
      | _, _ => none
    | _ => none
  | _ => none
/-- Where a row's bytes lie. -/
def sliceDataR (x : AV) (objs : List Ob) : R :=
  match x with
  | .d .nilsl => pureR (.d .nilptr) objs
  | .vs i _ lo len => if Nat.beq lo 0 && Nat.blt 0 len then pureR (.bp i 0) objs else none
  | _ => none
def byteA : AV → Option Nat
  | .d (.int .u8 n) => if decide (0 ≤ n) && decide (n < 256) then some n.toNat else none
  | _ => none
def bytesA : List AV → Option (List Nat)
  | [] => some []
  | x :: r => match byteA x, bytesA r with
    | some n, some l => some (n :: l)
    | _, _ => none
/-- The bytes of a row, as a string; nobody writes them from here on. -/
def unsafeStrR (E : PT Ty) (pt : TypeId) (x n : AV) (objs : List Ob) : R :=
  match x, n with
  | .d .nilptr, .d (.int .i64 n) => if decide (n = 0) then pureR (.d (.str [])) objs else none
  | .bp i off, .d (.int .i64 n) =>
    match E.get? pt, objs[i]? with
    | some ⟨.pointer e, _, _, _⟩, some (.vec t _ sz m cs) =>
      if Nat.beq off 0 && Nat.beq sz 1 && Nat.beq t e && isByteT E e && decide (0 < n) && Nat.ble n.toNat m then
        (bytesA (cs.take n.toNat)).map fun l => (.d (.str l), objs.set i .gone, true)
      else none
    | _, _ => none
  | _, _ => none
/-- A new row of bytes that may be anything. -/
def makeNoZeroR (E : PT Ty) (t : TypeId) (x : AV) (objs : List Ob) : R :=
  match E.get? t, x with
  | some ⟨.slice e, _, _, _⟩, .d (.int .i64 n) =>
    if isByteT E e then
      some (.vs objs.length 1 0 n.toNat, objs ++ [.vec e false 1 n.toNat (List.replicate n.toNat (.d .any))], decide (0 ≤ n) && Nat.ble n.toNat 1099511627776)
    else none
  | _, _ => none

/-! ### Maps with plain keys -/
def plainKey : DV → Bool
  | .int _ _ | .str _ | .bool _ => true
  | _ => false
def eqKey (E : PT Ty) (t : TypeId) : DV → DV → Option Bool
  | .agg xs, .agg ys => match eqAgg E t xs ys, eqCells xs ys with
    | some true, some true => some true
    | some false, some false => some false
    | _, _ => none
  | .agg _, _ => none
  | a, b => eqCell a b
/-- none: the keys cannot be held against each other. -/
def findKV (f : DV → DV → Option Bool) (k : DV) : List (DV × DV) → Option (Option (Nat × DV))
  | [] => some none
  | (k', v) :: r => match f k k' with
    | some true => some (some (0, v))
    | some false => (findKV f k r).map fun o => o.map fun p => (p.1 + 1, p.2)
    | none => none
def keyT (E : PT Ty) (t : TypeId) (k : DV) : Bool :=
  match E.get? t, k with
  | some ⟨.struct _, _, _, _⟩, .agg xs => (match eqAgg E t xs xs with | some _ => true | none => false)
  | some ⟨.array _ _, _, _, _⟩, .agg xs => (match eqAgg E t xs xs with | some _ => true | none => false)
  | some ⟨.int k, _, _, _⟩, .int k' _ => kindB k k'
  | some ⟨.string, _, _, _⟩, .str _ => true
  | some ⟨.bool, _, _, _⟩, .bool _ => true
  | _, _ => false
def zeroD (y : Ty) : Option DV := match isAggT y.desc with | true => some (.agg y.zero) | false => y.zero.head?

def makeMapR (objs : List Ob) : R := pureR (.mp objs.length) (objs ++ [.map []])

def kvsOf (x : AV) (objs : List Ob) : Option (List (DV × DV)) :=
  match x with
  | .d .nilmap => some []
  | .mp i => match objs[i]? with | some (.map kvs) => some kvs | _ => none
  | _ => none

def lookupR (E : PT Ty) (t : TypeId) (x k : AV) (ok : Bool) (objs : List Ob) : R :=
  match E.get? t, k with
  | some ⟨.map kt et, _, _, _⟩, .d k =>
    match E.get? et, keyT E kt k with
    | some y, true =>
      match kvsOf x objs with
      | some kvs =>
        match findKV (eqKey E kt) k kvs with
        | some (some (_, v)) => pureR (match ok with | true => .tup [.d v, .d (.bool true)] | false => .d v) objs
        | some none => match zeroD y with
          | some z => pureR (match ok with | true => .tup [.d z, .d (.bool false)] | false => .d z) objs
          | none => none
        | none => none
      | none => none
    | _, _ => none
  | _, _ => none

def mapUpdateR (E : PT Ty) (t : TypeId) (x k v : AV) (objs : List Ob) : R :=
  match E.get? t, x, k, v with
  | some ⟨.map kt _, _, _, _⟩, .mp i, .d k, .d v =>
    match keyT E kt k, objs[i]? with
    | true, some (.map kvs) =>
      match findKV (eqKey E kt) k kvs with
      | some (some (j, _)) => pureR (.d .any) (objs.set i (.map (kvs.modify j fun p => (p.1, v))))
      | some none => pureR (.d .any) (objs.set i (.map (kvs ++ [(k, v)])))
      | none => none
    | _, _ => none
  | _, _, _, _ => none

/-- m[k] op= v, the first half: the entry is there; its value and its stamp. -/
def mapEntryR (E : PT Ty) (t : TypeId) (x k : AV) (objs : List Ob) : R :=
  match E.get? t, x, k with
  | some ⟨.map kt et, _, _, _⟩, .mp i, .d k =>
    match E.get? et, keyT E kt k, objs[i]? with
    | some y, true, some (.map kvs) =>
      match findKV (eqKey E kt) k kvs with
      | some (some (j, v)) => pureR (.tup [.d v, .d (.int .i64 (j : Nat))]) (objs.set i (.map kvs))
      | some none => match zeroD y with
        | some z => pureR (.tup [.d z, .d (.int .i64 (kvs.length : Nat))]) (objs.set i (.map (kvs ++ [(k, z)])))
        | none => none
      | none => none
    | _, _, _ => none
  | _, _, _ => none
def entryStoreR (x st v : AV) (objs : List Ob) : R :=
  match x, st, v with
  | .mp i, .d (.int _ n), .d v =>
    match objs[i]? with
    | some (.map kvs) => some (.d .any, objs.set i (.map (kvs.modify n.toNat fun p => (p.1, v))), inB n kvs.length)
    | _ => none
  | _, _, _ => none

/-! ### Ranging over a string -/
def validN (r : Nat) : Bool := Nat.blt r 55296 || (Nat.ble 57344 r && Nat.ble r 1114111)
def decL (s : List Nat) (i : Nat) : Nat × Nat :=
  let b0 := s.getD i 0
  let b1 := s.getD (i + 1) 0
  let b2 := s.getD (i + 2) 0
  let b3 := s.getD (i + 3) 0
  match Nat.blt b0 128 with
  | true => (b0, 1)
  | false =>
    match Nat.beq (b0 / 32) 6 && Nat.beq (b1 / 64) 2 with
    | true => match Nat.ble 128 ((b0 % 32) * 64 + b1 % 64) with | true => ((b0 % 32) * 64 + b1 % 64, 2) | false => (65533, 1)
    | false =>
      match Nat.beq (b0 / 16) 14 && Nat.beq (b1 / 64) 2 && Nat.beq (b2 / 64) 2 with
      | true =>
        match Nat.ble 2048 ((b0 % 16) * 4096 + (b1 % 64) * 64 + b2 % 64) && validN ((b0 % 16) * 4096 + (b1 % 64) * 64 + b2 % 64) with
        | true => ((b0 % 16) * 4096 + (b1 % 64) * 64 + b2 % 64, 3) | false => (65533, 1)
      | false =>
        match Nat.beq (b0 / 8) 30 && Nat.beq (b1 / 64) 2 && Nat.beq (b2 / 64) 2 && Nat.beq (b3 / 64) 2 with
        | true =>
          match Nat.ble 65536 ((b0 % 8) * 262144 + (b1 % 64) * 4096 + (b2 % 64) * 64 + b3 % 64) && validN ((b0 % 8) * 262144 + (b1 % 64) * 4096 + (b2 % 64) * 64 + b3 % 64) with
          | true => ((b0 % 8) * 262144 + (b1 % 64) * 4096 + (b2 % 64) * 64 + b3 % 64, 4) | false => (65533, 1)
        | false => (65533, 1)

def rangeR (E : PT Ty) (t : TypeId) (x : AV) (objs : List Ob) : R :=
  match E.get? t, x with
  | some ⟨.string, _, _, _⟩, .d (.str s) => pureR (.bp objs.length 0) (objs ++ [.sit s 0])
  | _, _ => none

def nextR (x : AV) (isString : Bool) (objs : List Ob) : R :=
  match x, isString with
  | .bp i 0, true =>
    match objs[i]? with
    | some (.sit s pos) =>
      match Nat.blt pos s.length with
      | true => pureR (.tup [.d (.bool true), .d (.int .i64 pos), .d (.int .i32 (decL s pos).1)]) (objs.set i (.sit s (pos + (decL s pos).2)))
      | false => pureR (.tup [.d (.bool false)]) objs
    | _ => none
  | _, _ => none

/-! ### Functions -/
def funcR (f : Fn) (first cap : List AV) (objs : List Ob) : R :=
  match allD first, allD cap with
  | some a, some b => pureR (.d (.fn f a b)) objs
  | _, _ => pureR (.fn f first cap) objs

/-! ### Interfaces -/
def mkIfaceR (E : PT Ty) (t : TypeId) (x : AV) (objs : List Ob) : R :=
  match E.get? t with
  | some y => match isIface y.desc, x with
    | false, .d x => pureR (.d (.iface t x)) objs
    | false, .sr _ sz es => pureR (.d (.iface t (.sl sz es))) objs
    | _, _ => none
  | none => none
/-- To a type that is no interface. -/
def assertR (E : PT Ty) (asserted : TypeId) (ok : Bool) (x : AV) (objs : List Ob) : R :=
  match E.get? asserted with
  | some y => match isIface y.desc with
    | true => none
    | false => match x with
      | .d (.iface t v) => match Nat.beq t asserted, ok with
        | true, true => pureR (.tup [.d v, .d (.bool true)]) objs
        | true, false => pureR (.d v) objs
        | false, true => match zeroD y with
          | some z => pureR (.tup [.d z, .d (.bool false)]) objs
          | none => none
        | false, false => none
      | .d .niliface => match ok, zeroD y with
        | true, some z => pureR (.tup [.d z, .d (.bool false)]) objs
        | _, _ => none
      | _ => none
  | none => none

def minR (args : List AV) (objs : List Ob) : R :=
  match args with
  | .d (.int k a) :: r => (minL k a r).map fun n => (.d (.int k n), objs, true)
  | _ => none
def maxR (args : List AV) (objs : List Ob) : R :=
  match args with
  | .d (.int k a) :: r => (maxL k a r).map fun n => (.d (.int k n), objs, true)
  | _ => none

end Go.Av

/-
  The abstract layer, part A: abstract values, abstract objects, what they stand for in the model's memory, and the one-step relation between memories. No program here.
-/
import Derived.WalkKit
import Derived.RangeFuncLeaves
noncomputable section
namespace Go.Av
open Go

/-- Pure data: numbers, strings (as lists of byte numbers), slices by their contents, pointers into memory that never changes, closures over such. -/
inductive DV where
  | any
  | bool (b : Bool)
  | int (k : IntKind) (n : Int)
  | str (s : List Nat)
  | nilptr | nilfunc | nilmap | niliface | nilsl
  | sl (sz : Nat) (es : List DV)
  | ep (cs : List DV)
  | fn (f : Fn) (first cap : List DV)
  | agg (cs : List DV)
  | iface (t : TypeId) (v : DV)
  deriving Inhabited

/-- Values that may refer to objects of the activation's own, by their place in the list of objects. -/
inductive AV where
  | d (x : DV)
  | bp (i off : Nat)
  | sr (i sz : Nat) (es : List DV)
  | bs (i off len cap : Nat)
  | mp (i : Nat)
  | fn (f : Fn) (first cap : List AV)
  | agg (cs : List AV)
  | tup (vs : List AV)
  | yl (i : Nat)
  | vs (i sz lo len : Nat)
  | pan (x : DV)
  deriving Inhabited

/-! ### A small map from numbers -/
inductive PT (α : Type) where
  | nil
  | node (l : PT α) (v : Option α) (r : PT α)
  deriving Inhabited

/-- Which way: 0: here; 1: left; 2: right. -/
def PT.get? {α : Type} (t : PT α) : Nat → Option α :=
  PT.rec (motive := fun _ => Nat → Option α) (fun _ => none)
    (fun _ v _ gl gr n => Bool.rec (motive := fun _ => Option α) (Bool.rec (motive := fun _ => Option α) (gr (n / 2 - 1)) (gl (n / 2)) (Nat.beq (n % 2) 1)) v (Nat.beq n 0)) t
def PT.single {α : Type} (v : α) (fuel : Nat) : Nat → PT α :=
  Nat.rec (motive := fun _ => Nat → PT α) (fun _ => .nil)
    (fun _ ih n => Bool.rec (motive := fun _ => PT α) (Bool.rec (motive := fun _ => PT α) (.node .nil none (ih (n / 2 - 1))) (.node (ih (n / 2)) none .nil) (Nat.beq (n % 2) 1)) (.node .nil (some v) .nil) (Nat.beq n 0)) fuel
def PT.set {α : Type} (t : PT α) : Nat → α → PT α :=
  PT.rec (motive := fun _ => Nat → α → PT α) (fun n v => PT.single v 64 n)
    (fun l u r sl sr n v => Bool.rec (motive := fun _ => PT α) (Bool.rec (motive := fun _ => PT α) (.node l u (sr (n / 2 - 1) v)) (.node (sl (n / 2) v) u r) (Nat.beq (n % 2) 1)) (.node l (some v) r) (Nat.beq n 0)) t

theorem PT.get?_nil {α : Type} (n : Nat) : (PT.nil : PT α).get? n = none := rfl
theorem PT.get?_node {α : Type} (l : PT α) (v : Option α) (r : PT α) (n : Nat) : (PT.node l v r).get? n =
    match Nat.beq n 0 with
    | true => v
    | false => match Nat.beq (n % 2) 1 with
      | true => l.get? (n / 2)
      | false => r.get? (n / 2 - 1) := by
  show Bool.rec (motive := fun _ => Option α) (Bool.rec (motive := fun _ => Option α) (r.get? (n / 2 - 1)) (l.get? (n / 2)) (Nat.beq (n % 2) 1)) v (Nat.beq n 0) = _
  cases Nat.beq n 0 <;> cases Nat.beq (n % 2) 1 <;> rfl
theorem PT.single_zero {α : Type} (v : α) (n : Nat) : PT.single v 0 n = .nil := rfl
theorem PT.single_succ {α : Type} (v : α) (fuel n : Nat) : PT.single v (fuel + 1) n =
    match Nat.beq n 0 with
    | true => .node .nil (some v) .nil
    | false => match Nat.beq (n % 2) 1 with
      | true => .node (PT.single v fuel (n / 2)) none .nil
      | false => .node .nil none (PT.single v fuel (n / 2 - 1)) := by
  show Bool.rec (motive := fun _ => PT α) (Bool.rec (motive := fun _ => PT α) (.node .nil none (PT.single v fuel (n / 2 - 1))) (.node (PT.single v fuel (n / 2)) none .nil) (Nat.beq (n % 2) 1)) (.node .nil (some v) .nil) (Nat.beq n 0) = _
  cases Nat.beq n 0 <;> cases Nat.beq (n % 2) 1 <;> rfl
theorem PT.set_nil {α : Type} (n : Nat) (v : α) : (PT.nil : PT α).set n v = PT.single v 64 n := rfl
theorem PT.set_node {α : Type} (l : PT α) (u : Option α) (r : PT α) (n : Nat) (v : α) : (PT.node l u r).set n v =
    match Nat.beq n 0 with
    | true => .node l (some v) r
    | false => match Nat.beq (n % 2) 1 with
      | true => .node (l.set (n / 2) v) u r
      | false => .node l u (r.set (n / 2 - 1) v) := by
  show Bool.rec (motive := fun _ => PT α) (Bool.rec (motive := fun _ => PT α) (.node l u (r.set (n / 2 - 1) v)) (.node (l.set (n / 2) v) u r) (Nat.beq (n % 2) 1)) (.node l (some v) r) (Nat.beq n 0) = _
  cases Nat.beq n 0 <;> cases Nat.beq (n % 2) 1 <;> rfl

theorem PT.get?_single {α : Type} (v : α) : ∀ (fuel n m : Nat) (u : α), (PT.single v fuel n).get? m = some u → m = n ∧ u = v
  | 0, n, m, u, h => by simp [PT.single_zero, PT.get?_nil] at h
  | fuel + 1, n, m, u, h => by
    rw [PT.single_succ] at h
    cases hn : Nat.beq n 0 with
    | true =>
      have e0 : n = 0 := Nat.eq_of_beq_eq_true hn
      simp only [hn, PT.get?_node] at h
      cases hm : Nat.beq m 0 with
      | true => have := Nat.eq_of_beq_eq_true hm; simp [hm] at h; exact ⟨by omega, h.symm⟩
      | false => simp [hm] at h; split at h <;> simp [PT.get?_nil] at h
    | false =>
      have n0 : n ≠ 0 := Nat.ne_of_beq_eq_false hn
      simp only [hn] at h
      cases hp : Nat.beq (n % 2) 1 with
      | true =>
        have p1 : n % 2 = 1 := Nat.eq_of_beq_eq_true hp
        simp only [hp, PT.get?_node] at h
        cases hm : Nat.beq m 0 with
        | true => simp [hm] at h
        | false =>
          have m0 : m ≠ 0 := Nat.ne_of_beq_eq_false hm
          cases hq : Nat.beq (m % 2) 1 with
          | true =>
            have q1 : m % 2 = 1 := Nat.eq_of_beq_eq_true hq
            simp only [hm, hq] at h
            obtain ⟨e, hu⟩ := PT.get?_single v fuel _ _ _ h
            exact ⟨by omega, hu⟩
          | false => simp [hm, hq, PT.get?_nil] at h
      | false =>
        have p1 : n % 2 ≠ 1 := Nat.ne_of_beq_eq_false hp
        simp only [hp, PT.get?_node] at h
        cases hm : Nat.beq m 0 with
        | true => simp [hm] at h
        | false =>
          have m0 : m ≠ 0 := Nat.ne_of_beq_eq_false hm
          cases hq : Nat.beq (m % 2) 1 with
          | true => simp [hm, hq, PT.get?_nil] at h
          | false =>
            have q1 : m % 2 ≠ 1 := Nat.ne_of_beq_eq_false hq
            simp only [hm, hq] at h
            obtain ⟨e, hu⟩ := PT.get?_single v fuel _ _ _ h
            exact ⟨by omega, hu⟩

theorem PT.get?_set {α : Type} : ∀ (t : PT α) (n m : Nat) (v u : α), (t.set n v).get? m = some u → (m = n ∧ u = v) ∨ (m ≠ n ∧ t.get? m = some u) ∨ (m = n ∧ u = v)
  | .nil, n, m, v, u, h => .inl (PT.get?_single v 64 n m u h)
  | .node l x r, n, m, v, u, h => by
    rw [PT.set_node] at h
    cases hn : Nat.beq n 0 with
    | true =>
      have e0 : n = 0 := Nat.eq_of_beq_eq_true hn
      simp only [hn, PT.get?_node] at h ⊢
      cases hm : Nat.beq m 0 with
      | true => have := Nat.eq_of_beq_eq_true hm; simp [hm] at h; exact .inl ⟨by omega, h.symm⟩
      | false => have := Nat.ne_of_beq_eq_false hm; simp only [hm] at h ⊢; exact .inr (.inl ⟨by omega, h⟩)
    | false =>
      have n0 : n ≠ 0 := Nat.ne_of_beq_eq_false hn
      simp only [hn] at h
      cases hp : Nat.beq (n % 2) 1 with
      | true =>
        have p1 : n % 2 = 1 := Nat.eq_of_beq_eq_true hp
        simp only [hp, PT.get?_node] at h ⊢
        cases hm : Nat.beq m 0 with
        | true => have := Nat.eq_of_beq_eq_true hm; simp only [hm] at h ⊢; exact .inr (.inl ⟨by omega, h⟩)
        | false =>
          have m0 : m ≠ 0 := Nat.ne_of_beq_eq_false hm
          cases hq : Nat.beq (m % 2) 1 with
          | true =>
            have q1 : m % 2 = 1 := Nat.eq_of_beq_eq_true hq
            simp only [hm, hq] at h ⊢
            rcases PT.get?_set l _ _ _ _ h with ⟨e, hu⟩ | ⟨e, hu⟩ | ⟨e, hu⟩
            · exact .inl ⟨by omega, hu⟩
            · exact .inr (.inl ⟨by omega, hu⟩)
            · exact .inl ⟨by omega, hu⟩
          | false =>
            have q1 : m % 2 ≠ 1 := Nat.ne_of_beq_eq_false hq
            simp only [hm, hq] at h ⊢; exact .inr (.inl ⟨by omega, h⟩)
      | false =>
        have p1 : n % 2 ≠ 1 := Nat.ne_of_beq_eq_false hp
        simp only [hp, PT.get?_node] at h ⊢
        cases hm : Nat.beq m 0 with
        | true => have := Nat.eq_of_beq_eq_true hm; simp only [hm] at h ⊢; exact .inr (.inl ⟨by omega, h⟩)
        | false =>
          have m0 : m ≠ 0 := Nat.ne_of_beq_eq_false hm
          cases hq : Nat.beq (m % 2) 1 with
          | true =>
            have q1 : m % 2 = 1 := Nat.eq_of_beq_eq_true hq
            simp only [hm, hq] at h ⊢; exact .inr (.inl ⟨by omega, h⟩)
          | false =>
            have q1 : m % 2 ≠ 1 := Nat.ne_of_beq_eq_false hq
            simp only [hm, hq] at h ⊢
            rcases PT.get?_set r _ _ _ _ h with ⟨e, hu⟩ | ⟨e, hu⟩ | ⟨e, hu⟩
            · exact .inl ⟨by omega, hu⟩
            · exact .inr (.inl ⟨by omega, hu⟩)
            · exact .inl ⟨by omega, hu⟩

def PT.ofList {α : Type} : List (Nat × α) → PT α
  | [] => .nil
  | (n, v) :: r => (PT.ofList r).set n v

/-- Objects of the activation's own. -/
inductive Ob where
  | box (cs : List AV)
  | room (n sz : Nat)
  | map (kvs : List (DV × DV))
  | raw (o : Obj)
  | sit (s : List Nat) (pos : Nat)
  | loop (tm : PT AV) (nt : Nat) (frz : List Nat) (ps : Array Tmp) (assign body : Code) (st : LoopState) (pend : Option Code)
  | gone
  | vec (t : TypeId) (agg : Bool) (sz n : Nat) (cs : List AV)
  | tb (t : TypeId) (cs : List AV)
  deriving Inhabited

def cellsD : DV → List DV
  | .agg cs => cs
  | x => [x]
def flatD (es : List DV) : List DV := es.flatMap cellsD
def AV.cells : AV → List AV
  | .agg cs => cs
  | .d (.agg cs) => cs.map .d
  | v => [v]

abbrev DMap := Addr → Option Value

/-- What a datum stands for, over memory that never changes. -/
inductive RepD (D : DMap) : DV → Value → Prop
  | any {v : Value} : RepD D .any v
  | bool {b : Bool} : RepD D (.bool b) (.bool b)
  | int {k : IntKind} {n : Int} : RepD D (.int k n) (.int k n)
  | str {s : List Nat} {b : ByteArray} (h : s = b.data.toList.map UInt8.toNat) : RepD D (.str s) (.string b)
  | nilptr : RepD D .nilptr (.pointer none)
  | nilfunc : RepD D .nilfunc .nilFunc
  | nilmap : RepD D .nilmap (.map none)
  | niliface : RepD D .niliface .nilIface
  | nilsl : RepD D .nilsl (.slice none 0 0)
  | sl {sz : Nat} {es : List DV} {a : Option Addr} {cap : Nat} (vs : List Value) (hc : es.length ≤ cap) (hm : cap ≤ maxLen)
      (hsz : ∀ e, e ∈ es → (cellsD e).length = sz) (hn : a = none → es = [] ∧ cap = 0) (hv : vs.length = (flatD es).length)
      (hD : ∀ ad, a = some ad → (cap = 0 ∨ ad.spot = none) ∧ ∀ (j : Nat) v, vs[j]? = some v → D ⟨ad.block, ad.off + j, none⟩ = some v)
      (hr : ∀ (j : Nat) c v, (flatD es)[j]? = some c → vs[j]? = some v → RepD D c v) : RepD D (.sl sz es) (.slice a es.length cap)
  | ep {cs : List DV} {ad : Addr} (vs : List Value) (hs : ad.spot = none) (hv : vs.length = cs.length)
      (hD : ∀ (j : Nat) v, vs[j]? = some v → D ⟨ad.block, ad.off + j, none⟩ = some v)
      (hr : ∀ (j : Nat) c v, cs[j]? = some c → vs[j]? = some v → RepD D c v) : RepD D (.ep cs) (.pointer (some ad))
  | fn {f : Fn} {first cap : List DV} {a b : Array Value} (h1 : a.size = first.length) (h2 : b.size = cap.length)
      (r1 : ∀ (j : Nat) c v, first[j]? = some c → a[j]? = some v → RepD D c v) (r2 : ∀ (j : Nat) c v, cap[j]? = some c → b[j]? = some v → RepD D c v) :
      RepD D (.fn f first cap) (.func f a b)
  | agg {cs : List DV} {vs : Array Value} (h : vs.size = cs.length) (h1 : ∀ (j : Nat) v, vs[j]? = some v → v.oneCell' = true) (hr : ∀ (j : Nat) c v, cs[j]? = some c → vs[j]? = some v → RepD D c v) :
      RepD D (.agg cs) (.agg vs)
  | iface {t : TypeId} {x : DV} {v : Value} (h : RepD D x v) : RepD D (.iface t x) (.iface t v)

/-- Where an object lies: its block; of a room, the address and capacity of the row at each length that it has had. -/
structure Bi where
  blk : Nat
  hist : Nat → Option (Option Addr × Nat)

inductive RepA (D : DMap) (β : List Bi) : AV → Value → Prop
  | d {x : DV} {v : Value} (h : RepD D x v) : RepA D β (.d x) v
  | bp {i off : Nat} {bi : Bi} (h : β[i]? = some bi) : RepA D β (.bp i off) (.pointer (some ⟨bi.blk, off, none⟩))
  | sr {i sz : Nat} {es : List DV} {bi : Bi} {a : Option Addr} {cap : Nat} (h : β[i]? = some bi) (hh : bi.hist es.length = some (a, cap))
      (hd : RepD D (.sl sz es) (.slice a es.length cap)) : RepA D β (.sr i sz es) (.slice a es.length cap)
  | bs {i off len cap : Nat} {bi : Bi} (h : β[i]? = some bi) : RepA D β (.bs i off len cap) (.slice (some ⟨bi.blk, off, none⟩) len cap)
  | mp {i : Nat} {bi : Bi} (h : β[i]? = some bi) : RepA D β (.mp i) (.map (some bi.blk))
  | fn {f : Fn} {first cap : List AV} {a b : Array Value} (h1 : a.size = first.length) (h2 : b.size = cap.length)
      (r1 : ∀ (j : Nat) c v, first[j]? = some c → a[j]? = some v → RepA D β c v) (r2 : ∀ (j : Nat) c v, cap[j]? = some c → b[j]? = some v → RepA D β c v) :
      RepA D β (.fn f first cap) (.func f a b)
  | agg {cs : List AV} {vs : Array Value} (h : vs.size = cs.length) (h1 : ∀ (j : Nat) v, vs[j]? = some v → v.oneCell' = true) (hr : ∀ (j : Nat) c v, cs[j]? = some c → vs[j]? = some v → RepA D β c v) :
      RepA D β (.agg cs) (.agg vs)
  | tup {cs : List AV} {vs : Array Value} (h : vs.size = cs.length) (hr : ∀ (j : Nat) c v, cs[j]? = some c → vs[j]? = some v → RepA D β c v) :
      RepA D β (.tup cs) (.tuple vs)
  | yl {i : Nat} {bi : Bi} (h : β[i]? = some bi) : RepA D β (.yl i) (.func (.yield bi.blk) #[] #[])
  | vs {i sz lo len cap c : Nat} {bi : Bi} {a ad : Option Addr} (h : β[i]? = some bi) (hh : bi.hist 0 = some (a, cap)) (hc : len ≤ c) (hm : c ≤ maxLen) (hn : (a = none → cap = 0) ∧ (ad = none → c = 0) ∧ ∀ x, ad = some x → x.spot = none)
      (hx : lo = 0 ∨ 0 < len → ad = (a.map fun _ => ⟨bi.blk, lo * sz, none⟩) ∧ lo + c = cap) : RepA D β (.vs i sz lo len) (.slice ad len c)

/-- The one block that an object owns. -/
def ownOf (bi : Bi) : Ob → Option Nat
  | .box _ => some bi.blk
  | .map _ => some bi.blk
  | .raw _ => some bi.blk
  | .sit _ _ => some bi.blk
  | .loop .. => some bi.blk
  | .room n _ => (bi.hist n).bind fun p => match Nat.ble p.2 n with | true => none | false => p.1.map (·.block)
  | .vec _ _ _ _ _ => (bi.hist 0).bind fun p => p.1.map (·.block)
  | .tb _ _ => some bi.blk
  | .gone => none

def pairD (D : DMap) (p : DV × DV) (e : MapEntry) : Prop := RepD D p.1 e.key ∧ RepD D p.2 e.val

def HoldsOb (D : DMap) (β : List Bi) (w : World) (bi : Bi) : Ob → Prop
  | .box cs => ∃ vs T, w.heap[bi.blk]? = some (.cells vs T (0, 0)) ∧ vs.size = cs.length ∧ (∀ (j : Nat) c v, cs[j]? = some c → vs[j]? = some v → RepA D β c v) ∧
      (∀ (j : Nat) v, vs[j]? = some v → v.oneCell' = true) ∧ ∀ ad, ad.block = bi.blk → D ad = none
  | .room n sz => ∃ a cap, bi.hist n = some (a, cap) ∧ (∀ m, n < m → bi.hist m = none) ∧ n ≤ cap ∧ cap ≤ maxLen ∧ (a = none → cap = 0) ∧
      ∀ ad, a = some ad → (cap = 0 ∨ ad.spot = none) ∧ (n < cap → ∃ vs T, w.heap[ad.block]? = some (.cells vs T (0, 0)) ∧ ad.off + cap * sz ≤ vs.size ∧ (∀ (j : Nat) v, vs[j]? = some v → v.oneCell' = true) ∧
        ∀ j, n * sz ≤ j → D ⟨ad.block, ad.off + j, none⟩ = none)
  | .vec t _ sz n cs => ∃ a cap, bi.hist 0 = some (a, cap) ∧ n ≤ cap ∧ cap ≤ maxLen ∧ cs.length = n * sz ∧ (a = none → cap = 0) ∧
      ∀ ad, a = some ad → ad = ⟨bi.blk, 0, none⟩ ∧ ∃ vs T, (w.heap[bi.blk]? = some (.cells vs T (0, 0)) ∧ T = t) ∧ cap * sz ≤ vs.size ∧ (∀ (j : Nat) c v, cs[j]? = some c → vs[j]? = some v → RepA D β c v) ∧
        (∀ (j : Nat) v, vs[j]? = some v → v.oneCell' = true) ∧ ∀ ad, ad.block = bi.blk → D ad = none
  | .tb t cs => ∃ vs T, (w.heap[bi.blk]? = some (.cells vs T (0, 0)) ∧ T = t) ∧ vs.size = cs.length ∧ (∀ (j : Nat) c v, cs[j]? = some c → vs[j]? = some v → RepA D β c v) ∧
      (∀ (j : Nat) v, vs[j]? = some v → v.oneCell' = true) ∧ ∀ ad, ad.block = bi.blk → D ad = none
  | .map kvs => ∃ es clock, w.heap[bi.blk]? = some (.map es clock) ∧ es.size = kvs.length ∧ (∀ (j : Nat) p e, kvs[j]? = some p → es[j]? = some e → pairD D p e) ∧ (∀ ad, ad.block = bi.blk → D ad = none) ∧
      clock = es.size ∧ ∀ (j : Nat) e, es[j]? = some e → e.born = j
  | .raw o => w.heap[bi.blk]? = some o ∧ (∀ c e f, o ≠ .cells c e f) ∧ (∀ ad, ad.block = bi.blk → D ad = none)
  | .sit s pos => ∃ b, w.heap[bi.blk]? = some (.stringIter b pos) ∧ s = b.data.toList.map UInt8.toNat ∧ ∀ ad, ad.block = bi.blk → D ad = none
  | .loop tm nt _ ps assign body st pend => ∃ lp : Loop, w.heap[bi.blk]? = some (.loop lp) ∧ lp.state = st ∧ lp.pending = pend ∧ lp.params = ps ∧ lp.assign = assign ∧ lp.body = body ∧ lp.tmps.size = nt ∧
      (∀ t : Nat, RepA D β ((tm.get? t).getD (.d .any)) (lp.tmps.getD t undef)) ∧ ∀ ad, ad.block = bi.blk → D ad = none
  | .gone => True

/-- Memory w holds the unchanging cells D and the objects. -/
structure Heap (D : DMap) (β : List Bi) (objs : List Ob) (w : World) : Prop where
  dh : ∀ ad v, D ad = some v → ad.spot = none ∧ v.oneCell' = true ∧ w.cell? ad = some v
  len : β.length = objs.length
  hold : ∀ (i : Nat) bi ob, β[i]? = some bi → objs[i]? = some ob → HoldsOb D β w bi ob
  disj : ∀ (i j : Nat) bi bj oi oj b, β[i]? = some bi → β[j]? = some bj → objs[i]? = some oi → objs[j]? = some oj → ownOf bi oi = some b → ownOf bj oj = some b → i = j

def Own (β : List Bi) (objs : List Ob) (b : Nat) : Prop := ∃ (i : Nat), ∃ bi ob, β[i]? = some bi ∧ objs[i]? = some ob ∧ ownOf bi ob = some b

def BiExt (x y : Bi) : Prop := y.blk = x.blk ∧ ∀ n p, x.hist n = some p → y.hist n = some p

/-- From one memory to a later one: the unchanging cells stay, the places stay, what is not owned stays. -/
structure Step (D : DMap) (β : List Bi) (objs : List Ob) (w : World) (D' : DMap) (β' : List Bi) (objs' : List Ob) (w' : World) : Prop where
  dsub : ∀ ad v, D ad = some v → D' ad = some v
  dnew : ∀ ad v, D' ad = some v → D ad = none → Own β objs ad.block ∨ w.heap.size ≤ ad.block
  bext : ∀ (i : Nat) x, β[i]? = some x → ∃ y, β'[i]? = some y ∧ BiExt x y
  heap : Heap D' β' objs' w'
  size : w.heap.size ≤ w'.heap.size
  keep : ∀ k, k < w.heap.size → ¬ Own β objs k → w'.heap[k]? = w.heap[k]?
  os : w'.os = w.os
  tape : w'.tape = w.tape
  output : w'.output = w.output
  ownn : ∀ b, Own β' objs' b → Own β objs b ∨ w.heap.size ≤ b

theorem BiExt.refl (x : Bi) : BiExt x x := ⟨rfl, fun _ _ h => h⟩
theorem BiExt.trans {x y z : Bi} (h : BiExt x y) (k : BiExt y z) : BiExt x z := ⟨k.1.trans h.1, fun n p hp => k.2 n p (h.2 n p hp)⟩

theorem Step.refl {D : DMap} {β : List Bi} {objs : List Ob} {w : World} (h : Heap D β objs w) : Step D β objs w D β objs w :=
  ⟨fun _ _ h => h, fun _ _ h1 h2 => (by rw [h2] at h1; cases h1), fun i x hx => ⟨x, hx, BiExt.refl x⟩, h, Nat.le_refl _, fun _ _ _ => rfl, rfl, rfl, rfl, fun _ h => .inl h⟩

theorem Step.trans {D D1 D2 : DMap} {β β1 β2 : List Bi} {o o1 o2 : List Ob} {w w1 w2 : World} (h : Step D β o w D1 β1 o1 w1) (k : Step D1 β1 o1 w1 D2 β2 o2 w2) :
    Step D β o w D2 β2 o2 w2 where
  dsub ad v hv := k.dsub ad v (h.dsub ad v hv)
  dnew ad v hv hn := by
    cases h1 : D1 ad with
    | some u => exact h.dnew ad u h1 hn
    | none =>
      rcases k.dnew ad v hv h1 with ho | hs
      · exact h.ownn _ ho
      · exact .inr (Nat.le_trans h.size hs)
  bext i x hx := by
    obtain ⟨y, hy, e1⟩ := h.bext i x hx
    obtain ⟨z, hz, e2⟩ := k.bext i y hy
    exact ⟨z, hz, e1.trans e2⟩
  heap := k.heap
  size := Nat.le_trans h.size k.size
  keep b hb hn := by
    have e1 := h.keep b hb hn
    have : ¬ Own β1 o1 b := fun ho => (h.ownn b ho).elim hn (fun hs => by omega)
    rw [k.keep b (Nat.lt_of_lt_of_le hb h.size) this, e1]
  os := k.os.trans h.os
  tape := k.tape.trans h.tape
  output := k.output.trans h.output
  ownn b hb := (k.ownn b hb).elim (fun ho => h.ownn b ho) (fun hs => .inr (Nat.le_trans h.size hs))

theorem RepD.mono {D D' : DMap} (hs : ∀ ad v, D ad = some v → D' ad = some v) {x : DV} {v : Value} (h : RepD D x v) : RepD D' x v := by
  induction h with
  | any => exact .any
  | bool => exact .bool
  | int => exact .int
  | str h => exact .str h
  | nilptr => exact .nilptr
  | nilfunc => exact .nilfunc
  | nilmap => exact .nilmap
  | niliface => exact .niliface
  | nilsl => exact .nilsl
  | sl vs hc hm hsz hn hv hD hr ih => exact .sl vs hc hm hsz hn hv (fun ad ha => ⟨(hD ad ha).1, fun j v hj => hs _ _ ((hD ad ha).2 j v hj)⟩) ih
  | ep vs hsp hv hD hr ih => exact .ep vs hsp hv (fun j v hj => hs _ _ (hD j v hj)) ih
  | fn h1 h2 _ _ i1 i2 => exact .fn h1 h2 i1 i2
  | agg h h1 _ ih => exact .agg h h1 ih
  | iface _ ih => exact .iface ih

theorem RepA.mono {D D' : DMap} {β β' : List Bi} (hs : ∀ ad v, D ad = some v → D' ad = some v) (hb : ∀ (i : Nat) x, β[i]? = some x → ∃ y, β'[i]? = some y ∧ BiExt x y)
    {x : AV} {v : Value} (h : RepA D β x v) : RepA D' β' x v := by
  induction h with
  | d h => exact .d (h.mono hs)
  | @bp i off bi h => obtain ⟨y, hy, e⟩ := hb i bi h; rw [← e.1]; exact .bp hy
  | @sr i sz es bi a cap h hh hd => obtain ⟨y, hy, e⟩ := hb i bi h; exact .sr hy (e.2 _ _ hh) (hd.mono hs)
  | @bs i off len cap bi h => obtain ⟨y, hy, e⟩ := hb i bi h; rw [← e.1]; exact .bs hy
  | @mp i bi h => obtain ⟨y, hy, e⟩ := hb i bi h; rw [← e.1]; exact .mp hy
  | fn h1 h2 _ _ i1 i2 => exact .fn h1 h2 i1 i2
  | agg h h1 _ ih => exact .agg h h1 ih
  | tup h _ ih => exact .tup h ih
  | @yl i bi h => obtain ⟨y, hy, e⟩ := hb i bi h; rw [← e.1]; exact .yl hy
  | @vs i sz lo len cap c bi a ad h hh hc hm hn hx => obtain ⟨y, hy, e⟩ := hb i bi h; exact .vs hy (e.2 _ _ hh) hc hm hn (by rw [e.1]; exact hx)

theorem Step.repA {D D' : DMap} {β β' : List Bi} {o o' : List Ob} {w w' : World} (h : Step D β o w D' β' o' w') {x : AV} {v : Value} (r : RepA D β x v) : RepA D' β' x v :=
  r.mono h.dsub h.bext
theorem Step.repD {D D' : DMap} {β β' : List Bi} {o o' : List Ob} {w w' : World} (h : Step D β o w D' β' o' w') {x : DV} {v : Value} (r : RepD D x v) : RepD D' x v :=
  r.mono h.dsub

end Go.Av

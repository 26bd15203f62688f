/-
  Parts of the way to the law, joined. Conditions stand at each.
-/
import Derived.WalkKit
import Derived.RangeFuncLeaves
import Derived.DeepKeys
import Derived.LaidEql
import Derived.Lib.Strings
set_option linter.all false
noncomputable section
namespace Go.Av
open Go
inductive DV where
  | any
  | bool (b : Bool)
  | int (k : IntKind) (n : Int)
  | str (s : List Nat)
  | nilptr | nilfunc | nilmap | niliface | nilsl
  | sl (sz : Nat) (es : List DV)
  | ep (cs : List DV)
  | fn (f : Fn) (first cap : List DV)
  | agg (cs : List DV)
  | iface (t : TypeId) (v : DV)
  deriving Inhabited
inductive AV where
  | d (x : DV)
  | bp (i off : Nat)
  | sr (i sz : Nat) (es : List DV)
  | bs (i off len cap : Nat)
  | mp (i : Nat)
  | fn (f : Fn) (first cap : List AV)
  | agg (cs : List AV)
  | tup (vs : List AV)
  | yl (i : Nat)
  | vs (i sz lo len : Nat)
  | pan (x : DV)
  deriving Inhabited
inductive PT (α : Type) where
  | nil
  | node (l : PT α) (v : Option α) (r : PT α)
  deriving Inhabited
def PT.get? {α : Type} (t : PT α) : Nat → Option α :=
  PT.rec (motive := fun _ => Nat → Option α) (fun _ => none)
    (fun _ v _ gl gr n => Bool.rec (motive := fun _ => Option α) (Bool.rec (motive := fun _ => Option α) (gr (n / 2 - 1)) (gl (n / 2)) (Nat.beq (n % 2) 1)) v (Nat.beq n 0)) t
def PT.single {α : Type} (v : α) (fuel : Nat) : Nat → PT α :=
  Nat.rec (motive := fun _ => Nat → PT α) (fun _ => .nil)
    (fun _ ih n => Bool.rec (motive := fun _ => PT α) (Bool.rec (motive := fun _ => PT α) (.node .nil none (ih (n / 2 - 1))) (.node (ih (n / 2)) none .nil) (Nat.beq (n % 2) 1)) (.node .nil (some v) .nil) (Nat.beq n 0)) fuel
def PT.set {α : Type} (t : PT α) : Nat → α → PT α :=
  PT.rec (motive := fun _ => Nat → α → PT α) (fun n v => PT.single v 64 n)
    (fun l u r sl sr n v => Bool.rec (motive := fun _ => PT α) (Bool.rec (motive := fun _ => PT α) (.node l u (sr (n / 2 - 1) v)) (.node (sl (n / 2) v) u r) (Nat.beq (n % 2) 1)) (.node l (some v) r) (Nat.beq n 0)) t
theorem PT.get?_nil {α : Type} (n : Nat) : (PT.nil : PT α).get? n = none := rfl
theorem PT.get?_node {α : Type} (l : PT α) (v : Option α) (r : PT α) (n : Nat) : (PT.node l v r).get? n =
    match Nat.beq n 0 with
    | true => v
    | false => match Nat.beq (n % 2) 1 with
      | true => l.get? (n / 2)
      | false => r.get? (n / 2 - 1) := by
  show Bool.rec (motive := fun _ => Option α) (Bool.rec (motive := fun _ => Option α) (r.get? (n / 2 - 1)) (l.get? (n / 2)) (Nat.beq (n % 2) 1)) v (Nat.beq n 0) = _
  cases Nat.beq n 0 <;> cases Nat.beq (n % 2) 1 <;> rfl
theorem PT.single_zero {α : Type} (v : α) (n : Nat) : PT.single v 0 n = .nil := rfl
theorem PT.single_succ {α : Type} (v : α) (fuel n : Nat) : PT.single v (fuel + 1) n =
    match Nat.beq n 0 with
    | true => .node .nil (some v) .nil
    | false => match Nat.beq (n % 2) 1 with
      | true => .node (PT.single v fuel (n / 2)) none .nil
      | false => .node .nil none (PT.single v fuel (n / 2 - 1)) := by
  show Bool.rec (motive := fun _ => PT α) (Bool.rec (motive := fun _ => PT α) (.node .nil none (PT.single v fuel (n / 2 - 1))) (.node (PT.single v fuel (n / 2)) none .nil) (Nat.beq (n % 2) 1)) (.node .nil (some v) .nil) (Nat.beq n 0) = _
  cases Nat.beq n 0 <;> cases Nat.beq (n % 2) 1 <;> rfl
theorem PT.set_node {α : Type} (l : PT α) (u : Option α) (r : PT α) (n : Nat) (v : α) : (PT.node l u r).set n v =
    match Nat.beq n 0 with
    | true => .node l (some v) r
    | false => match Nat.beq (n % 2) 1 with
      | true => .node (l.set (n / 2) v) u r
      | false => .node l u (r.set (n / 2 - 1) v) := by
  show Bool.rec (motive := fun _ => PT α) (Bool.rec (motive := fun _ => PT α) (.node l u (r.set (n / 2 - 1) v)) (.node (l.set (n / 2) v) u r) (Nat.beq (n % 2) 1)) (.node l (some v) r) (Nat.beq n 0) = _
  cases Nat.beq n 0 <;> cases Nat.beq (n % 2) 1 <;> rfl
theorem PT.get?_single {α : Type} (v : α) : ∀ (fuel n m : Nat) (u : α), (PT.single v fuel n).get? m = some u → m = n ∧ u = v
  | 0, n, m, u, h => by simp [PT.single_zero, PT.get?_nil] at h
  | fuel + 1, n, m, u, h => by
    rw [PT.single_succ] at h
    cases hn : Nat.beq n 0 with
    | true =>
      have e0 : n = 0 := Nat.eq_of_beq_eq_true hn
      simp only [hn, PT.get?_node] at h
      cases hm : Nat.beq m 0 with
      | true => have := Nat.eq_of_beq_eq_true hm; simp [hm] at h; exact ⟨by omega, h.symm⟩
      | false => simp [hm] at h; split at h <;> simp [PT.get?_nil] at h
    | false =>
      have n0 : n ≠ 0 := Nat.ne_of_beq_eq_false hn
      simp only [hn] at h
      cases hp : Nat.beq (n % 2) 1 with
      | true =>
        have p1 : n % 2 = 1 := Nat.eq_of_beq_eq_true hp
        simp only [hp, PT.get?_node] at h
        cases hm : Nat.beq m 0 with
        | true => simp [hm] at h
        | false =>
          have m0 : m ≠ 0 := Nat.ne_of_beq_eq_false hm
          cases hq : Nat.beq (m % 2) 1 with
          | true =>
            have q1 : m % 2 = 1 := Nat.eq_of_beq_eq_true hq
            simp only [hm, hq] at h
            obtain ⟨e, hu⟩ := PT.get?_single v fuel _ _ _ h
            exact ⟨by omega, hu⟩
          | false => simp [hm, hq, PT.get?_nil] at h
      | false =>
        have p1 : n % 2 ≠ 1 := Nat.ne_of_beq_eq_false hp
        simp only [hp, PT.get?_node] at h
        cases hm : Nat.beq m 0 with
        | true => simp [hm] at h
        | false =>
          have m0 : m ≠ 0 := Nat.ne_of_beq_eq_false hm
          cases hq : Nat.beq (m % 2) 1 with
          | true => simp [hm, hq, PT.get?_nil] at h
          | false =>
            have q1 : m % 2 ≠ 1 := Nat.ne_of_beq_eq_false hq
            simp only [hm, hq] at h
            obtain ⟨e, hu⟩ := PT.get?_single v fuel _ _ _ h
            exact ⟨by omega, hu⟩
theorem PT.get?_set {α : Type} : ∀ (t : PT α) (n m : Nat) (v u : α), (t.set n v).get? m = some u → (m = n ∧ u = v) ∨ (m ≠ n ∧ t.get? m = some u) ∨ (m = n ∧ u = v)
  | .nil, n, m, v, u, h => .inl (PT.get?_single v 64 n m u h)
  | .node l x r, n, m, v, u, h => by
    rw [PT.set_node] at h
    cases hn : Nat.beq n 0 with
    | true =>
      have e0 : n = 0 := Nat.eq_of_beq_eq_true hn
      simp only [hn, PT.get?_node] at h ⊢
      cases hm : Nat.beq m 0 with
      | true => have := Nat.eq_of_beq_eq_true hm; simp [hm] at h; exact .inl ⟨by omega, h.symm⟩
      | false => have := Nat.ne_of_beq_eq_false hm; simp only [hm] at h ⊢; exact .inr (.inl ⟨by omega, h⟩)
    | false =>
      have n0 : n ≠ 0 := Nat.ne_of_beq_eq_false hn
      simp only [hn] at h
      cases hp : Nat.beq (n % 2) 1 with
      | true =>
        have p1 : n % 2 = 1 := Nat.eq_of_beq_eq_true hp
        simp only [hp, PT.get?_node] at h ⊢
        cases hm : Nat.beq m 0 with
        | true => have := Nat.eq_of_beq_eq_true hm; simp only [hm] at h ⊢; exact .inr (.inl ⟨by omega, h⟩)
        | false =>
          have m0 : m ≠ 0 := Nat.ne_of_beq_eq_false hm
          cases hq : Nat.beq (m % 2) 1 with
          | true =>
            have q1 : m % 2 = 1 := Nat.eq_of_beq_eq_true hq
            simp only [hm, hq] at h ⊢
            rcases PT.get?_set l _ _ _ _ h with ⟨e, hu⟩ | ⟨e, hu⟩ | ⟨e, hu⟩
            · exact .inl ⟨by omega, hu⟩
            · exact .inr (.inl ⟨by omega, hu⟩)
            · exact .inl ⟨by omega, hu⟩
          | false =>
            have q1 : m % 2 ≠ 1 := Nat.ne_of_beq_eq_false hq
            simp only [hm, hq] at h ⊢; exact .inr (.inl ⟨by omega, h⟩)
      | false =>
        have p1 : n % 2 ≠ 1 := Nat.ne_of_beq_eq_false hp
        simp only [hp, PT.get?_node] at h ⊢
        cases hm : Nat.beq m 0 with
        | true => have := Nat.eq_of_beq_eq_true hm; simp only [hm] at h ⊢; exact .inr (.inl ⟨by omega, h⟩)
        | false =>
          have m0 : m ≠ 0 := Nat.ne_of_beq_eq_false hm
          cases hq : Nat.beq (m % 2) 1 with
          | true =>
            have q1 : m % 2 = 1 := Nat.eq_of_beq_eq_true hq
            simp only [hm, hq] at h ⊢; exact .inr (.inl ⟨by omega, h⟩)
          | false =>
            have q1 : m % 2 ≠ 1 := Nat.ne_of_beq_eq_false hq
            simp only [hm, hq] at h ⊢
            rcases PT.get?_set r _ _ _ _ h with ⟨e, hu⟩ | ⟨e, hu⟩ | ⟨e, hu⟩
            · exact .inl ⟨by omega, hu⟩
            · exact .inr (.inl ⟨by omega, hu⟩)
            · exact .inl ⟨by omega, hu⟩
def PT.ofList {α : Type} : List (Nat × α) → PT α
  | [] => .nil
  | (n, v) :: r => (PT.ofList r).set n v
inductive Ob where
  | box (cs : List AV)
  | room (n sz : Nat)
  | map (kvs : List (DV × DV))
  | raw (o : Obj)
  | sit (s : List Nat) (pos : Nat)
  | mit (i n : Nat) (seen : List Nat)
  | pm (kvs : List (DV × DV))
  | loop (tm : PT AV) (nt : Nat) (frz : List Nat) (ps : Array Tmp) (assign body : Code) (st : LoopState) (pend : Option Code)
  | gone
  | vec (t : TypeId) (agg : Bool) (sz n : Nat) (cs : List AV)
  | tb (t : TypeId) (cs : List AV)
  deriving Inhabited
def cellsD : DV → List DV
  | .agg cs => cs
  | x => [x]
def flatD (es : List DV) : List DV := es.flatMap cellsD
def AV.cells : AV → List AV
  | .agg cs => cs
  | .d (.agg cs) => cs.map .d
  | v => [v]
abbrev DMap := Addr → Option Value
inductive RepD (D : DMap) : DV → Value → Prop
  | any {v : Value} : RepD D .any v
  | bool {b : Bool} : RepD D (.bool b) (.bool b)
  | int {k : IntKind} {n : Int} : RepD D (.int k n) (.int k n)
  | str {s : List Nat} {b : ByteArray} (h : s = b.data.toList.map UInt8.toNat) : RepD D (.str s) (.string b)
  | nilptr : RepD D .nilptr (.pointer none)
  | nilfunc : RepD D .nilfunc .nilFunc
  | nilmap : RepD D .nilmap (.map none)
  | niliface : RepD D .niliface .nilIface
  | nilsl : RepD D .nilsl (.slice none 0 0)
  | sl {sz : Nat} {es : List DV} {a : Option Addr} {cap : Nat} (vs : List Value) (hc : es.length ≤ cap) (hm : cap ≤ maxLen)
      (hsz : ∀ e, e ∈ es → (cellsD e).length = sz) (hn : a = none → es = [] ∧ cap = 0) (hv : vs.length = (flatD es).length)
      (hD : ∀ ad, a = some ad → (cap = 0 ∨ ad.spot = none) ∧ ∀ (j : Nat) v, vs[j]? = some v → D ⟨ad.block, ad.off + j, none⟩ = some v)
      (hr : ∀ (j : Nat) c v, (flatD es)[j]? = some c → vs[j]? = some v → RepD D c v) : RepD D (.sl sz es) (.slice a es.length cap)
  | ep {cs : List DV} {ad : Addr} (vs : List Value) (hs : ad.spot = none) (hv : vs.length = cs.length)
      (hD : ∀ (j : Nat) v, vs[j]? = some v → D ⟨ad.block, ad.off + j, none⟩ = some v)
      (hr : ∀ (j : Nat) c v, cs[j]? = some c → vs[j]? = some v → RepD D c v) : RepD D (.ep cs) (.pointer (some ad))
  | fn {f : Fn} {first cap : List DV} {a b : Array Value} (h1 : a.size = first.length) (h2 : b.size = cap.length)
      (r1 : ∀ (j : Nat) c v, first[j]? = some c → a[j]? = some v → RepD D c v) (r2 : ∀ (j : Nat) c v, cap[j]? = some c → b[j]? = some v → RepD D c v) :
      RepD D (.fn f first cap) (.func f a b)
  | agg {cs : List DV} {vs : Array Value} (h : vs.size = cs.length) (h1 : ∀ (j : Nat) v, vs[j]? = some v → v.oneCell' = true) (hr : ∀ (j : Nat) c v, cs[j]? = some c → vs[j]? = some v → RepD D c v) :
      RepD D (.agg cs) (.agg vs)
  | iface {t : TypeId} {x : DV} {v : Value} (h : RepD D x v) : RepD D (.iface t x) (.iface t v)
structure Bi where
  blk : Nat
  hist : Nat → Option (Option Addr × Nat)
inductive RepA (D : DMap) (β : List Bi) : AV → Value → Prop
  | d {x : DV} {v : Value} (h : RepD D x v) : RepA D β (.d x) v
  | bp {i off : Nat} {bi : Bi} (h : β[i]? = some bi) : RepA D β (.bp i off) (.pointer (some ⟨bi.blk, off, none⟩))
  | sr {i sz : Nat} {es : List DV} {bi : Bi} {a : Option Addr} {cap : Nat} (h : β[i]? = some bi) (hh : bi.hist es.length = some (a, cap))
      (hd : RepD D (.sl sz es) (.slice a es.length cap)) : RepA D β (.sr i sz es) (.slice a es.length cap)
  | bs {i off len cap : Nat} {bi : Bi} (h : β[i]? = some bi) : RepA D β (.bs i off len cap) (.slice (some ⟨bi.blk, off, none⟩) len cap)
  | mp {i : Nat} {bi : Bi} (h : β[i]? = some bi) : RepA D β (.mp i) (.map (some bi.blk))
  | fn {f : Fn} {first cap : List AV} {a b : Array Value} (h1 : a.size = first.length) (h2 : b.size = cap.length)
      (r1 : ∀ (j : Nat) c v, first[j]? = some c → a[j]? = some v → RepA D β c v) (r2 : ∀ (j : Nat) c v, cap[j]? = some c → b[j]? = some v → RepA D β c v) :
      RepA D β (.fn f first cap) (.func f a b)
  | agg {cs : List AV} {vs : Array Value} (h : vs.size = cs.length) (h1 : ∀ (j : Nat) v, vs[j]? = some v → v.oneCell' = true) (hr : ∀ (j : Nat) c v, cs[j]? = some c → vs[j]? = some v → RepA D β c v) :
      RepA D β (.agg cs) (.agg vs)
  | tup {cs : List AV} {vs : Array Value} (h : vs.size = cs.length) (hr : ∀ (j : Nat) c v, cs[j]? = some c → vs[j]? = some v → RepA D β c v) :
      RepA D β (.tup cs) (.tuple vs)
  | yl {i : Nat} {bi : Bi} (h : β[i]? = some bi) : RepA D β (.yl i) (.func (.yield bi.blk) #[] #[])
  | vs {i sz lo len cap c : Nat} {bi : Bi} {a ad : Option Addr} (h : β[i]? = some bi) (hh : bi.hist 0 = some (a, cap)) (hc : len ≤ c) (hm : c ≤ maxLen) (hn : (a = none → cap = 0) ∧ (ad = none → c = 0) ∧ ∀ x, ad = some x → x.spot = none)
      (hx : lo = 0 ∨ 0 < len → ad = (a.map fun _ => ⟨bi.blk, lo * sz, none⟩) ∧ lo + c = cap) : RepA D β (.vs i sz lo len) (.slice ad len c)
def ownOf (bi : Bi) : Ob → Option Nat
  | .box _ => some bi.blk
  | .map _ => some bi.blk
  | .raw _ => some bi.blk
  | .sit _ _ => some bi.blk
  | .mit _ _ _ => some bi.blk
  | .pm _ => some bi.blk
  | .loop .. => some bi.blk
  | .room n _ => (bi.hist n).bind fun p => match Nat.ble p.2 n with | true => none | false => p.1.map (·.block)
  | .vec _ _ _ _ _ => (bi.hist 0).bind fun p => p.1.map (·.block)
  | .tb _ _ => some bi.blk
  | .gone => none
def pairD (D : DMap) (p : DV × DV) (e : MapEntry) : Prop := RepD D p.1 e.key ∧ RepD D p.2 e.val
def HoldsOb (D : DMap) (β : List Bi) (w : World) (bi : Bi) : Ob → Prop
  | .box cs => ∃ vs T, w.heap[bi.blk]? = some (.cells vs T (0, 0)) ∧ vs.size = cs.length ∧ (∀ (j : Nat) c v, cs[j]? = some c → vs[j]? = some v → RepA D β c v) ∧
      (∀ (j : Nat) v, vs[j]? = some v → v.oneCell' = true) ∧ ∀ ad, ad.block = bi.blk → D ad = none
  | .room n sz => ∃ a cap, bi.hist n = some (a, cap) ∧ (∀ m, n < m → bi.hist m = none) ∧ n ≤ cap ∧ cap ≤ maxLen ∧ (a = none → cap = 0) ∧
      ∀ ad, a = some ad → (cap = 0 ∨ ad.spot = none) ∧ (n < cap → ∃ vs T, w.heap[ad.block]? = some (.cells vs T (0, 0)) ∧ ad.off + cap * sz ≤ vs.size ∧ (∀ (j : Nat) v, vs[j]? = some v → v.oneCell' = true) ∧
        ∀ j, n * sz ≤ j → D ⟨ad.block, ad.off + j, none⟩ = none)
  | .vec t _ sz n cs => ∃ a cap, bi.hist 0 = some (a, cap) ∧ n ≤ cap ∧ cap ≤ maxLen ∧ cs.length = n * sz ∧ (a = none → cap = 0) ∧
      ∀ ad, a = some ad → ad = ⟨bi.blk, 0, none⟩ ∧ ∃ vs T, (w.heap[bi.blk]? = some (.cells vs T (0, 0)) ∧ T = t) ∧ cap * sz ≤ vs.size ∧ (∀ (j : Nat) c v, cs[j]? = some c → vs[j]? = some v → RepA D β c v) ∧
        (∀ (j : Nat) v, vs[j]? = some v → v.oneCell' = true) ∧ ∀ ad, ad.block = bi.blk → D ad = none
  | .tb t cs => ∃ vs T, (w.heap[bi.blk]? = some (.cells vs T (0, 0)) ∧ T = t) ∧ vs.size = cs.length ∧ (∀ (j : Nat) c v, cs[j]? = some c → vs[j]? = some v → RepA D β c v) ∧
      (∀ (j : Nat) v, vs[j]? = some v → v.oneCell' = true) ∧ ∀ ad, ad.block = bi.blk → D ad = none
  | .map kvs => ∃ es clock, w.heap[bi.blk]? = some (.map es clock) ∧ es.size = kvs.length ∧ (∀ (j : Nat) p e, kvs[j]? = some p → es[j]? = some e → pairD D p e) ∧ (∀ ad, ad.block = bi.blk → D ad = none) ∧
      clock = es.size ∧ ∀ (j : Nat) e, es[j]? = some e → e.born = j
  | .raw o => w.heap[bi.blk]? = some o ∧ (∀ c e f, o ≠ .cells c e f) ∧ (∀ ad, ad.block = bi.blk → D ad = none)
  | .sit s pos => ∃ b, w.heap[bi.blk]? = some (.stringIter b pos) ∧ s = b.data.toList.map UInt8.toNat ∧ ∀ ad, ad.block = bi.blk → D ad = none
  | .mit i n seen => ∃ bm, β[i]? = some bm ∧ w.heap[bi.blk]? = some (.mapIter (some bm.blk) n seen.toArray n) ∧ ∀ ad, ad.block = bi.blk → D ad = none
  | .pm kvs => ∃ l : List (DV × DV), l.Perm kvs ∧ ∃ es clock, w.heap[bi.blk]? = some (.map es clock) ∧ es.size = l.length ∧ (∀ (j : Nat) p e, l[j]? = some p → es[j]? = some e → pairD D p e) ∧ (∀ ad, ad.block = bi.blk → D ad = none) ∧
      clock = es.size ∧ ∀ (j : Nat) e, es[j]? = some e → e.born = j
  | .loop tm nt _ ps assign body st pend => ∃ lp : Loop, w.heap[bi.blk]? = some (.loop lp) ∧ lp.state = st ∧ lp.pending = pend ∧ lp.params = ps ∧ lp.assign = assign ∧ lp.body = body ∧ lp.tmps.size = nt ∧
      (∀ t : Nat, RepA D β ((tm.get? t).getD (.d .any)) (lp.tmps.getD t undef)) ∧ ∀ ad, ad.block = bi.blk → D ad = none
  | .gone => True
structure Heap (D : DMap) (β : List Bi) (objs : List Ob) (w : World) : Prop where
  dh : ∀ ad v, D ad = some v → ad.spot = none ∧ v.oneCell' = true ∧ w.cell? ad = some v
  len : β.length = objs.length
  hold : ∀ (i : Nat) bi ob, β[i]? = some bi → objs[i]? = some ob → HoldsOb D β w bi ob
  disj : ∀ (i j : Nat) bi bj oi oj b, β[i]? = some bi → β[j]? = some bj → objs[i]? = some oi → objs[j]? = some oj → ownOf bi oi = some b → ownOf bj oj = some b → i = j
def Own (β : List Bi) (objs : List Ob) (b : Nat) : Prop := ∃ (i : Nat), ∃ bi ob, β[i]? = some bi ∧ objs[i]? = some ob ∧ ownOf bi ob = some b
def BiExt (x y : Bi) : Prop := y.blk = x.blk ∧ ∀ n p, x.hist n = some p → y.hist n = some p
structure Step (D : DMap) (β : List Bi) (objs : List Ob) (w : World) (D' : DMap) (β' : List Bi) (objs' : List Ob) (w' : World) : Prop where
  dsub : ∀ ad v, D ad = some v → D' ad = some v
  dnew : ∀ ad v, D' ad = some v → D ad = none → Own β objs ad.block ∨ w.heap.size ≤ ad.block
  bext : ∀ (i : Nat) x, β[i]? = some x → ∃ y, β'[i]? = some y ∧ BiExt x y
  heap : Heap D' β' objs' w'
  size : w.heap.size ≤ w'.heap.size
  keep : ∀ k, k < w.heap.size → ¬ Own β objs k → w'.heap[k]? = w.heap[k]?
  os : w'.os = w.os
  tape : w'.tape = w.tape
  output : w'.output = w.output ∧ w.drawn ≤ w'.drawn
  ownn : ∀ b, Own β' objs' b → Own β objs b ∨ w.heap.size ≤ b
theorem BiExt.refl (x : Bi) : BiExt x x := ⟨rfl, fun _ _ h => h⟩
theorem BiExt.trans {x y z : Bi} (h : BiExt x y) (k : BiExt y z) : BiExt x z := ⟨k.1.trans h.1, fun n p hp => k.2 n p (h.2 n p hp)⟩
theorem Step.refl {D : DMap} {β : List Bi} {objs : List Ob} {w : World} (h : Heap D β objs w) : Step D β objs w D β objs w :=
  ⟨fun _ _ h => h, fun _ _ h1 h2 => (by rw [h2] at h1; cases h1), fun i x hx => ⟨x, hx, BiExt.refl x⟩, h, Nat.le_refl _, fun _ _ _ => rfl, rfl, rfl, ⟨rfl, Nat.le_refl _⟩, fun _ h => .inl h⟩
theorem Step.trans {D D1 D2 : DMap} {β β1 β2 : List Bi} {o o1 o2 : List Ob} {w w1 w2 : World} (h : Step D β o w D1 β1 o1 w1) (k : Step D1 β1 o1 w1 D2 β2 o2 w2) :
    Step D β o w D2 β2 o2 w2 where
  dsub ad v hv := k.dsub ad v (h.dsub ad v hv)
  dnew ad v hv hn := by
    cases h1 : D1 ad with
    | some u => exact h.dnew ad u h1 hn
    | none =>
      rcases k.dnew ad v hv h1 with ho | hs
      · exact h.ownn _ ho
      · exact .inr (Nat.le_trans h.size hs)
  bext i x hx := by
    obtain ⟨y, hy, e1⟩ := h.bext i x hx
    obtain ⟨z, hz, e2⟩ := k.bext i y hy
    exact ⟨z, hz, e1.trans e2⟩
  heap := k.heap
  size := Nat.le_trans h.size k.size
  keep b hb hn := by
    have e1 := h.keep b hb hn
    have : ¬ Own β1 o1 b := fun ho => (h.ownn b ho).elim hn (fun hs => by omega)
    rw [k.keep b (Nat.lt_of_lt_of_le hb h.size) this, e1]
  os := k.os.trans h.os
  tape := k.tape.trans h.tape
  output := ⟨k.output.1.trans h.output.1, Nat.le_trans h.output.2 k.output.2⟩
  ownn b hb := (k.ownn b hb).elim (fun ho => h.ownn b ho) (fun hs => .inr (Nat.le_trans h.size hs))
theorem RepD.mono {D D' : DMap} (hs : ∀ ad v, D ad = some v → D' ad = some v) {x : DV} {v : Value} (h : RepD D x v) : RepD D' x v := by
  induction h with
  | any => exact .any
  | bool => exact .bool
  | int => exact .int
  | str h => exact .str h
  | nilptr => exact .nilptr
  | nilfunc => exact .nilfunc
  | nilmap => exact .nilmap
  | niliface => exact .niliface
  | nilsl => exact .nilsl
  | sl vs hc hm hsz hn hv hD hr ih => exact .sl vs hc hm hsz hn hv (fun ad ha => ⟨(hD ad ha).1, fun j v hj => hs _ _ ((hD ad ha).2 j v hj)⟩) ih
  | ep vs hsp hv hD hr ih => exact .ep vs hsp hv (fun j v hj => hs _ _ (hD j v hj)) ih
  | fn h1 h2 _ _ i1 i2 => exact .fn h1 h2 i1 i2
  | agg h h1 _ ih => exact .agg h h1 ih
  | iface _ ih => exact .iface ih
theorem RepA.mono {D D' : DMap} {β β' : List Bi} (hs : ∀ ad v, D ad = some v → D' ad = some v) (hb : ∀ (i : Nat) x, β[i]? = some x → ∃ y, β'[i]? = some y ∧ BiExt x y)
    {x : AV} {v : Value} (h : RepA D β x v) : RepA D' β' x v := by
  induction h with
  | d h => exact .d (h.mono hs)
  | @bp i off bi h => obtain ⟨y, hy, e⟩ := hb i bi h; rw [← e.1]; exact .bp hy
  | @sr i sz es bi a cap h hh hd => obtain ⟨y, hy, e⟩ := hb i bi h; exact .sr hy (e.2 _ _ hh) (hd.mono hs)
  | @bs i off len cap bi h => obtain ⟨y, hy, e⟩ := hb i bi h; rw [← e.1]; exact .bs hy
  | @mp i bi h => obtain ⟨y, hy, e⟩ := hb i bi h; rw [← e.1]; exact .mp hy
  | fn h1 h2 _ _ i1 i2 => exact .fn h1 h2 i1 i2
  | agg h h1 _ ih => exact .agg h h1 ih
  | tup h _ ih => exact .tup h ih
  | @yl i bi h => obtain ⟨y, hy, e⟩ := hb i bi h; rw [← e.1]; exact .yl hy
  | @vs i sz lo len cap c bi a ad h hh hc hm hn hx => obtain ⟨y, hy, e⟩ := hb i bi h; exact .vs hy (e.2 _ _ hh) hc hm hn (by rw [e.1]; exact hx)
theorem Step.repA {D D' : DMap} {β β' : List Bi} {o o' : List Ob} {w w' : World} (h : Step D β o w D' β' o' w') {x : AV} {v : Value} (r : RepA D β x v) : RepA D' β' x v :=
  r.mono h.dsub h.bext
theorem Step.repD {D D' : DMap} {β β' : List Bi} {o o' : List Ob} {w w' : World} (h : Step D β o w D' β' o' w') {x : DV} {v : Value} (r : RepD D x v) : RepD D' x v :=
  r.mono h.dsub
structure Ty where
  desc : TypeDesc
  size : Nat
  bytes : Nat
  zero : List DV
  deriving Inhabited
def isAggT : TypeDesc → Bool
  | .struct _ | .array _ _ => true
  | _ => false
def allD : List AV → Option (List DV)
  | [] => some []
  | .d x :: r => (allD r).map (x :: ·)
  | _ :: _ => none
def allF : List AV → Option (List DV)
  | [] => some []
  | .d x :: r => (allF r).map (x :: ·)
  | .sr _ sz es :: r => (allF r).map (.sl sz es :: ·)
  | _ :: _ => none
def obCells : Ob → Option (List AV)
  | .box cs => some cs
  | .vec _ _ _ _ (c :: cs) => some (c :: cs)
  | .tb _ cs => some cs
  | _ => none
def obPut : Ob → List AV → Ob
  | .vec t ag sz n _, cs => .vec t ag sz n cs
  | .tb t _, cs => .tb t cs
  | _, cs => .box cs
def mkAgg (cs : List AV) : AV := match allD cs with | some ds => .d (.agg ds) | none => .agg cs
def knownA : AV → Bool
  | .d .any => false
  | .tup _ => false
  | _ => true
def ofVal : Value → Option DV
  | .bool b => some (.bool b)
  | .int k n => some (.int k n)
  | .string b => some (.str (b.data.toList.map UInt8.toNat))
  | .pointer none => some .nilptr
  | .map none => some .nilmap
  | .nilFunc => some .nilfunc
  | .nilIface => some .niliface
  | .slice none 0 0 => some .nilsl
  | _ => none
structure St where
  tm : PT AV
  objs : List Ob
  deriving Inhabited
def rd (tm : PT AV) : Operand → AV
  | .tmp t => (tm.get? t).getD (.d .any)
  | .const v => .d ((ofVal v).getD .any)
  | .func f => .d (.fn (.func f) [] [])
  | .global _ => .d .any
abbrev R := Option (AV × List Ob × Bool)
def pureR (v : AV) (objs : List Ob) : R := some (v, objs, true)
def natsLess : List Nat → List Nat → Bool
  | _, [] => false
  | [], _ :: _ => true
  | a :: x, b :: y => Nat.blt a b || (Nat.beq a b && natsLess x y)
def bitsI (op : BinOp) (k : IntKind) (x y : Int) : Option Int :=
  let a := BitVec.ofInt k.bits x
  let b := BitVec.ofInt k.bits y
  match op with
  | .and => some (k.wrap (a &&& b).toNat)
  | .or => some (k.wrap (a ||| b).toNat)
  | .xor => some (k.wrap (a ^^^ b).toNat)
  | .andNot => some (k.wrap (a &&& ~~~b).toNat)
  | _ => none
def kindB : IntKind → IntKind → Bool
  | .i8, .i8 | .i16, .i16 | .i32, .i32 | .i64, .i64 | .u8, .u8 | .u16, .u16 | .u32, .u32 | .u64, .u64 => true
  | _, _ => false
def shiftI (op : BinOp) (k : IntKind) (x y : Int) : Option (Int × Bool) :=
  match op with
  | .shl => some (k.wrap (x * 2 ^ (min y.toNat k.bits)), !decide (y < 0))
  | .shr => some (x.fdiv (2 ^ (min y.toNat k.bits)), !decide (y < 0))
  | _ => none
def intI (op : BinOp) (k : IntKind) (a b : Int) : Option (DV × Bool) :=
  match op with
  | .add => some (.int k (k.wrap (a + b)), true)
  | .sub => some (.int k (k.wrap (a - b)), true)
  | .mul => some (.int k (k.wrap (a * b)), true)
  | .quo => some (.int k (k.wrap (a.tdiv b)), !decide (b = 0))
  | .rem => some (.int k (a.tmod b), !decide (b = 0))
  | .eql => some (.bool (a == b), true)
  | .neq => some (.bool (a != b), true)
  | .lss => some (.bool (decide (a < b)), true)
  | .leq => some (.bool (decide (a ≤ b)), true)
  | .gtr => some (.bool (decide (a > b)), true)
  | .geq => some (.bool (decide (a ≥ b)), true)
  | op => (bitsI op k a b).map fun n => (.int k n, true)
def strI (op : BinOp) (x y : List Nat) : Option (DV × Bool) :=
  match op with
  | .add => some (.str (x ++ y), Nat.ble (x.length + y.length) 4611686018427387904)
  | .eql => some (.bool (x == y), true)
  | .neq => some (.bool (!(x == y)), true)
  | .lss => some (.bool (natsLess x y), true)
  | .leq => some (.bool (natsLess x y || x == y), true)
  | .gtr => some (.bool (!(natsLess x y || x == y)), true)
  | .geq => some (.bool (!natsLess x y), true)
  | _ => none
def eqCell : DV → DV → Option Bool
  | .int k a, .int k' b => if kindB k k' then some (a == b) else none
  | .str a, .str b => some (a == b)
  | .bool a, .bool b => some (a == b)
  | _, _ => none
def eqCells : List DV → List DV → Option Bool
  | [], [] => some true
  | a :: x, b :: y => match eqCell a b, eqCells x y with
    | some p, some q => some (p && q)
    | _, _ => none
  | _, _ => none
def partD (E : PT Ty) (t : TypeId) (cs : List DV) (off : Nat) : Option (List DV) :=
  match E.get? t with
  | some y => match isAggT y.desc with
    | true => if Nat.ble (off + y.size) cs.length then some ((cs.drop off).take y.size) else none
    | false => match cs[off]? with | some c => some [c] | none => none
  | none => none
def eqFs (E : PT Ty) (f : TypeId → List DV → List DV → Option Bool) (xs ys : List DV) : List Field → Option Bool
  | [] => some true
  | fd :: r => match partD E fd.type xs fd.offset, partD E fd.type ys fd.offset with
    | some p, some q => match f fd.type p q, eqFs E f xs ys r with
      | some a, some b => some (a && b)
      | _, _ => none
    | _, _ => none
def eqIs (E : PT Ty) (f : TypeId → List DV → List DV → Option Bool) (e : TypeId) (sz : Nat) (xs ys : List DV) : List Nat → Option Bool
  | [] => some true
  | i :: r => match partD E e xs (i * sz), partD E e ys (i * sz) with
    | some p, some q => match f e p q, eqIs E f e sz xs ys r with
      | some a, some b => some (a && b)
      | _, _ => none
    | _, _ => none
def oneT (desc : TypeDesc) (xs ys : List DV) : Option Bool :=
  match xs, ys with
  | [a], [b] => match desc, a with
    | .int _, .int _ _ => eqCell a b
    | .string, .str _ => eqCell a b
    | .bool, .bool _ => eqCell a b
    | _, _ => none
  | _, _ => none
def eqT (E : PT Ty) : Nat → TypeId → List DV → List DV → Option Bool
  | 0, _, _, _ => none
  | n + 1, t, xs, ys =>
    match E.get? t with
    | some y => match y.desc with
      | .struct fs => eqFs E (eqT E n) xs ys fs.toList
      | .array len e => match E.get? e with
        | some z => eqIs E (eqT E n) e z.size xs ys (List.range len)
        | none => none
      | desc => oneT desc xs ys
    | none => none
def eqAgg (E : PT Ty) (t : TypeId) (xs ys : List DV) : Option Bool :=
  match E.get? t with
  | some y => match isAggT y.desc with
    | true => eqT E 8 t xs ys
    | false => none
  | none => none
def boolT (E : PT Ty) (t : TypeId) : Bool := match E.get? t with | some ⟨.bool, _, _, _⟩ => true | _ => false
def nilOf (desc : TypeDesc) (x : AV) : Option Bool :=
  match desc, x with
  | .pointer _, .d .nilptr => some true
  | .pointer _, .d (.ep _) => some false
  | .pointer _, .bp _ _ => some false
  | .slice _, .d .nilsl => some true
  | .slice _, .d (.sl _ (_ :: _)) => some false
  | .slice _, .sr _ _ (_ :: _) => some false
  | .slice _, .bs _ _ _ _ => some false
  | .slice _, .vs _ _ _ (_ + 1) => some false
  | .map _ _, .d .nilmap => some true
  | .map _ _, .mp _ => some false
  | .func _ _ _, .d .nilfunc => some true
  | .func _ _ _, .d (.fn _ _ _) => some false
  | .func _ _ _, .fn _ _ _ => some false
  | .func _ _ _, .yl _ => some false
  | .interface _, .d .niliface => some true
  | .interface _, .d (.iface _ _) => some false
  | _, _ => none
def isIface : TypeDesc → Bool | .interface _ => true | _ => false
def isC : Operand → Bool | .const _ => true | _ => false
def nilR (E : PT Ty) (op : BinOp) (t : TypeId) (lit : Bool) (x y : AV) (objs : List Ob) : R :=
  match E.get? t with
  | some d => match nilOf d.desc x, nilOf d.desc y with
    | some p, some q => match (p || q) && (lit || !(p && q) || !isIface d.desc) with
      | true => match op with
        | .eql => pureR (.d (.bool (p && q))) objs
        | .neq => pureR (.d (.bool (!(p && q)))) objs
        | _ => none
      | false => none
    | _, _ => none
  | none => none
def ptrR (E : PT Ty) (op : BinOp) (t : TypeId) (i a j b : Nat) (objs : List Ob) : R :=
  match E.get? t with
  | some ⟨.pointer e, _, _, _⟩ => match E.get? e with
    | some _ => match Nat.beq i j && Nat.beq a b with
      | true => match op with
        | .eql => pureR (.d (.bool true)) objs
        | .neq => pureR (.d (.bool false)) objs
        | _ => none
      | false => none
    | none => none
  | _ => none
def binR (E : PT Ty) (op : BinOp) (t : TypeId) (lit : Bool) (x y : AV) (objs : List Ob) : R :=
  match x, y with
  | .d (.int k a), .d (.int k' b) =>
    match op with
    | .shl | .shr => (shiftI op k a b).map fun p => (.d (.int k p.1), objs, p.2)
    | _ => if kindB k k' then (intI op k a b).map fun p => (.d p.1, objs, p.2) else none
  | .d (.str a), .d (.str b) => (strI op a b).map fun p => (.d p.1, objs, p.2)
  | .d (.bool a), .d (.bool b) =>
    match boolT E t, op with
    | true, .eql => pureR (.d (.bool (a == b))) objs
    | true, .neq => pureR (.d (.bool (!(a == b)))) objs
    | _, _ => none
  | .d (.agg a), .d (.agg b) =>
    match op with
    | .eql => (eqAgg E t a b).map fun r => (.d (.bool r), objs, true)
    | .neq => (eqAgg E t a b).map fun r => (.d (.bool (!r)), objs, true)
    | _ => none
  | .bp i a, .bp j b => ptrR E op t i a j b objs
  | x, y => nilR E op t lit x y objs
def unR (op : UnOp) (x : AV) (objs : List Ob) : R :=
  match op, x with
  | .not, .d (.bool b) => pureR (.d (.bool (!b))) objs
  | .neg, .d (.int k n) => pureR (.d (.int k (k.wrap (0 - n)))) objs
  | _, _ => none
def pickA (c : Bool) (a b : AV) : AV :=
  match a, b with
  | .d (.bool x), .d (.bool y) => .d (.bool (cond c x y))
  | _, _ => match c with | true => a | false => b
def pickR (c a b : AV) (objs : List Ob) : R :=
  match c with
  | .d (.bool c) => pureR (pickA c a b) objs
  | _ => none
def isPtrT : TypeDesc → Bool | .pointer _ => true | _ => false
def isByteT (E : PT Ty) (e : TypeId) : Bool := match E.get? e with | some ⟨.int .u8, 1, _, _⟩ => true | _ => false
def bytesT (E : PT Ty) : TypeDesc → Bool | .slice e => isByteT E e | _ => false
def bldT (E : PT Ty) (t : TypeId) : Bool :=
  match E.get? t with
  | some ⟨.struct fs, 2, _, _⟩ => match fs.toList with
    | [a, b] => match E.get? a.type, E.get? b.type with
      | some x, some y => isPtrT x.desc && bytesT E y.desc
      | _, _ => false
    | _ => false
  | _ => false
def oneF (E : PT Ty) (t : TypeId) : Option Field :=
  match E.get? t with
  | some ⟨.struct fs, 2, _, _⟩ => match fs.toList with | [a] => some a | _ => none
  | _ => none
def keptT (E : PT Ty) (t : TypeId) : Bool := bldT E t || (match oneF E t with | some a => bldT E a.type | none => false)
def allocR (E : PT Ty) (t : TypeId) (objs : List Ob) : R :=
  match E.get? t with
  | some y => match keptT E t with
    | true => pureR (.bp objs.length 0) (objs ++ [.tb t (y.zero.map .d)])
    | false => pureR (.bp objs.length 0) (objs ++ [.box (y.zero.map .d)])
  | none => none
def boxR (x : AV) (objs : List Ob) : R :=
  if knownA x then pureR (.bp objs.length 0) (objs ++ [.box x.cells]) else none
def boxTR (E : PT Ty) (t : TypeId) (x : AV) (objs : List Ob) : R :=
  match keptT E t with
  | true => if knownA x then pureR (.bp objs.length 0) (objs ++ [.tb t x.cells]) else none
  | false => boxR x objs
def boxER (x : AV) (objs : List Ob) : R :=
  if knownA x then match allF x.cells with | some ds => pureR (.d (.ep ds)) objs | none => none else none
def loadR (E : PT Ty) (t : TypeId) (x : AV) (objs : List Ob) : R :=
  match E.get? t with
  | none => none
  | some y =>
    match x with
    | .d (.ep cs) =>
      match isAggT y.desc with
      | true => if Nat.ble y.size cs.length then pureR (.d (.agg (cs.take y.size))) objs else none
      | false => match cs with | c :: _ => pureR (.d c) objs | [] => none
    | .bp i off =>
      match objs[i]? with
      | some ob =>
        match obCells ob with
        | some cs =>
          match isAggT y.desc with
          | true => if Nat.ble (off + y.size) cs.length then pureR (mkAgg ((cs.drop off).take y.size)) objs else none
          | false => match cs[off]? with | some c => pureR c objs | none => none
        | none => none
      | none => none
    | _ => none
def storeR (E : PT Ty) (t : TypeId) (x v : AV) (objs : List Ob) : R :=
  match E.get? t, x with
  | some y, .bp i off =>
    match objs[i]? with
    | some ob =>
      match obCells ob with
      | some cs =>
        if knownA v && Nat.beq v.cells.length y.size && Nat.ble (off + y.size) cs.length then
          pureR (.d .any) (objs.set i (obPut ob (cs.take off ++ v.cells ++ cs.drop (off + y.size))))
        else none
      | none => none
    | none => none
  | _, _ => none
def nilCheckR (x : AV) (objs : List Ob) : R :=
  match x with
  | .d (.ep _) | .bp _ _ | .fn (.func _) _ _ | .d (.fn (.func _) _ _) | .yl _ => pureR x objs
  | _ => none
def fieldAddrR (E : PT Ty) (t : TypeId) (x : AV) (f : Nat) (objs : List Ob) : R :=
  match E.get? t with
  | some ⟨.struct fs, _, _, _⟩ =>
    match fs[f]? with
    | some fd =>
      match E.get? fd.type with
      | some y =>
        if Nat.beq y.size 0 then none else
        match x with
        | .bp i off => pureR (.bp i (off + fd.offset)) objs
        | .d (.ep cs) => pureR (.d (.ep (cs.drop fd.offset))) objs
        | _ => none
      | none => none
    | none => none
  | _ => none
def partR (E : PT Ty) (t : TypeId) (cs : List AV) (off : Nat) (objs : List Ob) : R :=
  match E.get? t with
  | some y =>
    match isAggT y.desc with
    | true => if Nat.ble (off + y.size) cs.length then pureR (mkAgg ((cs.drop off).take y.size)) objs else none
    | false => match cs[off]? with | some c => pureR c objs | none => none
  | none => none
def aggCells : AV → Option (List AV)
  | .agg cs => some cs
  | .d (.agg cs) => some (cs.map .d)
  | _ => none
def fieldR (E : PT Ty) (t : TypeId) (x : AV) (f : Nat) (objs : List Ob) : R :=
  match E.get? t, aggCells x with
  | some ⟨.struct fs, _, _, _⟩, some cs =>
    match fs[f]? with
    | some fd => partR E fd.type cs fd.offset objs
    | none => none
  | _, _ => none
def inB (i : Int) (n : Nat) : Bool := decide (0 ≤ i) && decide (i < n)
def indexAddrR (E : PT Ty) (t : TypeId) (x ix : AV) (objs : List Ob) : R :=
  match E.get? t, ix with
  | some ⟨.slice e, _, _, _⟩, .d (.int _ i) =>
    match E.get? e with
    | none => none
    | some y =>
      match x with
      | .d (.sl sz es) => if Nat.beq y.size sz then some (.d (.ep (cellsD (es.getD i.toNat .any))), objs, inB i es.length) else none
      | .sr _ sz es => if Nat.beq y.size sz then some (.d (.ep (cellsD (es.getD i.toNat .any))), objs, inB i es.length) else none
      | .bs b off len _ => if Nat.beq y.size 0 then none else some (.bp b (off + i.toNat * y.size), objs, inB i len)
      | .vs b sz lo len => if Nat.beq y.size sz && Nat.ble 1 sz then some (.bp b ((lo + i.toNat) * y.size), objs, inB i len) else none
      | _ => none
  | some ⟨.array len e, _, _, _⟩, .d (.int _ i) =>
    match E.get? e with
    | none => none
    | some y =>
      if Nat.beq y.size 0 || Nat.ble len 1 then none else
      match x with
      | .bp b off => some (.bp b (off + i.toNat * y.size), objs, inB i len)
      | .d (.ep cs) => some (.d (.ep (cs.drop (i.toNat * y.size))), objs, inB i len && Nat.ble (i.toNat * y.size) cs.length)
      | _ => none
  | _, _ => none
def indexR (E : PT Ty) (t : TypeId) (x ix : AV) (objs : List Ob) : R :=
  match E.get? t, ix, x with
  | some ⟨.string, _, _, _⟩, .d (.int _ i), .d (.str s) => some (.d (.int .u8 (s.getD i.toNat 0)), objs, inB i s.length)
  | some ⟨.array len e, _, _, _⟩, .d (.int _ i), x =>
    match E.get? e, aggCells x with
    | some y, some cs => if inB i len then partR E e cs (i.toNat * y.size) objs else none
    | _, _ => none
  | _, _, _ => none
def bnd : Option AV → Option (Option Int)
  | none => some none
  | some (.d (.int _ i)) => some (some i)
  | _ => none
def cutL {α : Type} (lo hi : Option Int) (l : List α) : List α :=
  match lo, hi with
  | none, none => l
  | some a, none => l.drop a.toNat
  | none, some b => l.take b.toNat
  | some a, some b => (l.take b.toNat).drop a.toNat
def cutC (lo hi : Option Int) (n : Nat) : Bool :=
  match lo, hi with
  | none, none => true
  | some a, none => decide (0 ≤ a) && decide (a ≤ n)
  | none, some b => decide (0 ≤ b) && decide (b ≤ n)
  | some a, some b => decide (0 ≤ a) && decide (a ≤ b) && decide (b ≤ n)
def maxC (hi mx : Option Int) (n : Nat) : Bool :=
  match hi, mx with
  | _, none => true
  | some b, some m => decide (b ≤ m) && decide (m ≤ n)
  | none, some _ => false
def sliceR (E : PT Ty) (t : TypeId) (x : AV) (lo hi mx : Option AV) (objs : List Ob) : R :=
  match E.get? t, bnd lo, bnd hi, bnd mx with
  | some y, some lo, some hi, some mx =>
    match y.desc with
    | .string => match x, mx with
      | .d (.str s), none => some (.d (.str (cutL lo hi s)), objs, cutC lo hi s.length)
      | _, _ => none
    | .slice e =>
      match E.get? e, x with
      | some ye, .d (.sl sz es) => if Nat.beq ye.size sz then some (.d (.sl sz (cutL lo hi es)), objs, cutC lo hi es.length && maxC hi mx es.length) else none
      | some ye, .sr _ sz es => if Nat.beq ye.size sz then some (.d (.sl sz (cutL lo hi es)), objs, cutC lo hi es.length && maxC hi mx es.length) else none
      | some _, .d .nilsl => some (.d .nilsl, objs, cutC lo hi 0 && maxC hi mx 0)
      | some ye, .vs b sz l0 len => match mx with
        | none => if Nat.beq ye.size sz then some (.vs b sz (l0 + (lo.getD 0).toNat) ((hi.getD len).toNat - (lo.getD 0).toNat), objs, cutC lo hi len) else none
        | some _ => none
      | _, _ => none
    | .array n e =>
      match E.get? e, x, mx with
      | some ye, .bp b off, none =>
        if cutC lo hi n && !decide ((lo.getD 0).toNat = n) then pureR (.bs b (off + (lo.getD 0).toNat * ye.size) ((hi.getD n).toNat - (lo.getD 0).toNat) (n - (lo.getD 0).toNat)) objs else none
      | some ye, .d (.ep cs), none =>
        if Nat.beq ye.size 1 && Nat.ble n 65536 && Nat.beq n cs.length then some (.d (.sl 1 (cutL lo hi cs)), objs, cutC lo hi n) else none
      | _, _, _ => none
    | _ => none
  | _, _, _, _ => none
def slice3R (E : PT Ty) (t : TypeId) (x : AV) (lo hi mx : Option AV) (objs : List Ob) : R :=
  match E.get? t, bnd lo, bnd hi, bnd mx with
  | some ⟨.slice e, _, _, _⟩, some lo, some (some h), some (some m) =>
    match E.get? e with
    | some ye =>
      match (match x with
        | .d (.sl sz es) => if Nat.beq ye.size sz then some es else none
        | .sr _ sz es => if Nat.beq ye.size sz then some es else none
        | .d .nilsl => some []
        | _ => none) with
      | some es => some (.sr objs.length ye.size (cutL lo (some h) es), objs ++ [.room (cutL lo (some h) es).length ye.size], cutC lo (some h) es.length && decide (h = m))
      | none => none
    | none => none
  | _, _, _, _ => none
def lenR (x : AV) (objs : List Ob) (E : PT Ty) (t : TypeId) : R :=
  match E.get? t with
  | none => none
  | some y =>
    match y.desc with
    | .array n _ => pureR (.d (.int .i64 n)) objs
    | .string => match x with | .d (.str s) => pureR (.d (.int .i64 s.length)) objs | _ => none
    | .slice _ => match x with
      | .d (.sl _ es) => pureR (.d (.int .i64 es.length)) objs
      | .d .nilsl => pureR (.d (.int .i64 (0 : Nat))) objs
      | .sr _ _ es => pureR (.d (.int .i64 es.length)) objs
      | .bs _ _ len _ => pureR (.d (.int .i64 len)) objs
      | .vs _ _ _ len => pureR (.d (.int .i64 len)) objs
      | _ => none
    | .map _ _ => match x with
      | .d .nilmap => pureR (.d (.int .i64 (0 : Nat))) objs
      | .mp i => match objs[i]? with
        | some (.map kvs) => pureR (.d (.int .i64 kvs.length)) objs
        | _ => none
      | _ => none
    | _ => none
def capR (x : AV) (objs : List Ob) (E : PT Ty) (t : TypeId) : R :=
  match E.get? t with
  | some ⟨.slice _, _, _, _⟩ => match x with | .d .nilsl => pureR (.d (.int .i64 (0 : Nat))) objs | _ => none
  | _ => none
def elemA (agg : Bool) (sz : Nat) (cs : List DV) : DV := match agg, cs with | false, c :: _ => c | _, _ => .agg (cs.take sz)
def chunk (agg : Bool) (sz : Nat) : Nat → List DV → List DV
  | 0, _ => []
  | n + 1, cs => elemA agg sz cs :: chunk agg sz n (cs.drop sz)
def fillA (place : Nat → Option (Nat × Nat)) (cells : List AV) : List (Nat × AV) → Option (List AV)
  | [] => some cells
  | (i, v) :: rest =>
    match place i with
    | none => none
    | some (off, size) =>
      if knownA v && Nat.beq v.cells.length size && Nat.ble (off + size) cells.length then
        fillA place (cells.take off ++ v.cells ++ cells.drop (off + size)) rest
      else none
def buildR (E : PT Ty) (t : TypeId) (parts : List (Nat × AV)) (objs : List Ob) : R :=
  match E.get? t with
  | none => none
  | some y =>
    match y.desc with
    | .struct fs =>
      match fillA (fun i => match fs[i]? with | some f => (E.get? f.type).map fun z => (f.offset, z.size) | none => none) (y.zero.map .d) parts with
      | some cs => pureR (mkAgg cs) objs
      | none => none
    | .array _ e =>
      match E.get? e with
      | some z => match fillA (fun i => some (i * z.size, z.size)) (y.zero.map .d) parts with
        | some cs => pureR (mkAgg cs) objs
        | none => none
      | none => none
    | _ => none
def repeatL {α : Type} : Nat → List α → List α
  | 0, _ => []
  | n + 1, l => l ++ repeatL n l
def buildSliceR (E : PT Ty) (room : Bool) (t : TypeId) (len : Nat) (parts : List (Nat × AV)) (objs : List Ob) : R :=
  match E.get? t with
  | some ⟨.slice e, _, _, _⟩ =>
    match E.get? e with
    | some z =>
      if Nat.ble (len * z.size) 16777216 && Nat.ble 1 z.size && (isAggT z.desc || Nat.beq z.size 1) then
        match fillA (fun i => some (i * z.size, z.size)) (repeatL len (z.zero.map .d)) parts with
        | some cs => match allF cs with
          | some ds => match room with
            | true => pureR (.sr objs.length z.size (chunk (isAggT z.desc) z.size len ds)) (objs ++ [.room len z.size])
            | false => pureR (.d (.sl z.size (chunk (isAggT z.desc) z.size len ds))) objs
          | none => none
        | none => none
      else none
    | none => none
  | _ => none
def buildVecR (E : PT Ty) (t : TypeId) (len : Nat) (parts : List (Nat × AV)) (objs : List Ob) : R :=
  match E.get? t with
  | some ⟨.slice e, _, _, _⟩ =>
    match E.get? e with
    | some z =>
      if Nat.ble (len * z.size) 16777216 && Nat.ble 1 z.size then
        match fillA (fun i => some (i * z.size, z.size)) (repeatL len (z.zero.map .d)) parts with
        | some cs => pureR (.vs objs.length z.size 0 len) (objs ++ [.vec e (isAggT z.desc) z.size len cs])
        | none => none
      else none
    | none => none
  | _ => none
def makeSliceR (E : PT Ty) (t : TypeId) (l c : AV) (objs : List Ob) : R :=
  match E.get? t, l, c with
  | some ⟨.slice e, _, _, _⟩, .d (.int .i64 n), .d (.int .i64 m) =>
    match E.get? e with
    | some z =>
      if Nat.ble 1 z.size then
        some (.vs objs.length z.size 0 n.toNat, objs ++ [.vec e (isAggT z.desc) z.size n.toNat (repeatL n.toNat (z.zero.map .d))], decide (0 ≤ n) && decide (n = m) && Nat.ble (n.toNat * z.bytes) 1099511627776 && Nat.ble n.toNat 1099511627776)
      else none
    | none => none
  | _, _, _ => none
def srcOf (E : PT Ty) (t : TypeId) (x : AV) (objs : List Ob) : Option (Nat × List DV) :=
  match x with
  | .d (.sl sz es) => some (sz, es)
  | .d .nilsl => some (0, [])
  | .sr _ sz es => some (sz, es)
  | .bs b off len _ =>
    match E.get? t with
    | some ⟨.slice e, _, _, _⟩ => match E.get? e, objs[b]? with
      | some z, some (.box cs) =>
        if Nat.ble (off + len * z.size) cs.length && Nat.ble 1 z.size && (isAggT z.desc || Nat.beq z.size 1) then
          (allF ((cs.drop off).take (len * z.size))).map fun ds => (z.size, chunk (isAggT z.desc) z.size len ds)
        else none
      | _, _ => none
    | _ => none
  | .vs b sz lo len =>
    match objs[b]? with
    | some (.vec _ ag szr n cs) =>
      if Nat.beq szr sz && Nat.ble (lo + len) n && Nat.ble 1 sz && (ag || Nat.beq sz 1) then
        (allF ((cs.drop (lo * sz)).take (len * sz))).map fun ds => (sz, chunk ag sz len ds)
      else none
    | _ => none
  | .d (.str s) => some (1, s.map fun (n : Nat) => .int .u8 n)
  | _ => none
def srcSz (sz dflt : Nat) : List DV → Nat
  | [] => dflt
  | _ => sz
def seqT (E : PT Ty) (t : TypeId) : Bool :=
  match E.get? t with
  | some y => match y.desc with | .slice _ | .string => true | _ => false
  | none => false
def zeroE (z : Ty) : DV := match isAggT z.desc with | true => .agg z.zero | false => z.zero.headD .any
def appSrc (E : PT Ty) (z : Ty) (tx : TypeId) (x : AV) (objs : List Ob) : Option (Nat × List DV) :=
  match E.get? tx with
  | some ⟨.int _, _, _, _⟩ => match x with
    | .d (.int .i64 n) => match decide (0 ≤ n) && Nat.ble n.toNat 1048576 && Nat.ble (n.toNat * z.bytes) 1099511627776 && (isAggT z.desc || Nat.beq z.size 1) with
      | true => some (z.size, List.replicate n.toNat (zeroE z))
      | false => none
    | _ => none
  | _ => match seqT E tx with
    | true => srcOf E tx x objs
    | false => none
def appSrc0 (E : PT Ty) (e tx : TypeId) (x : AV) (objs : List Ob) : Option (Nat × List DV) :=
  match E.get? e with | some z => appSrc E z tx x objs | none => none
def appendR (E : PT Ty) (vec : Bool) (ts tx : TypeId) (s x : AV) (objs : List Ob) : R :=
  match E.get? ts with
  | some ⟨.slice e, _, _, _⟩ =>
    match E.get? e, appSrc0 E e tx x objs with
    | some z, some (szx, ys) =>
      if Nat.ble 1 z.size && Nat.ble 1 z.bytes && Nat.beq (srcSz szx z.size ys) z.size then
        match s with
        | .d .nilsl => match vec with
          | false => some (.sr objs.length z.size ys, objs ++ [.room ys.length z.size], Nat.ble (ys.length * z.bytes) 1099511627776)
          | true => some (.vs objs.length z.size 0 ys.length, objs ++ [.vec e (isAggT z.desc) z.size ys.length ((flatD ys).map .d)], Nat.ble (ys.length * z.bytes) 1099511627776)
        | .vs i sz lo len =>
          match objs[i]? with
          | some (.vec t ag szr n cs) =>
            if Nat.beq szr z.size && Nat.beq sz z.size && Nat.beq lo 0 && Nat.beq t e then
              some (.vs objs.length sz 0 (len + ys.length), objs.set i .gone ++ [.vec t ag sz (len + ys.length) (cs.take (len * sz) ++ (flatD ys).map .d)], Nat.ble len n && Nat.ble ((len + ys.length) * z.bytes) 1099511627776)
            else none
          | _ => none
        | .sr i sz es =>
          match objs[i]? with
          | some (.room n szr) =>
            if Nat.beq szr z.size && Nat.beq sz z.size then
              some (.sr i z.size (es ++ ys), objs.set i (.room (n + ys.length) z.size), Nat.beq n es.length && Nat.ble ((es.length + ys.length) * z.bytes) 1099511627776)
            else none
          | _ => none
        | _ => none
      else none
    | _, _ => none
  | _ => none
def copyR (E : PT Ty) (ts tx : TypeId) (d x : AV) (objs : List Ob) : R :=
  match E.get? ts with
  | some ⟨.slice e, _, _, _⟩ =>
    match E.get? e, srcOf E tx x objs with
    | some z, some (szx, ys) =>
      if Nat.ble 1 z.size && Nat.beq (srcSz szx z.size ys) z.size && seqT E tx then
        match d with
        | .bs i off len _ =>
          match objs[i]? with
          | some (.box cs) =>
            if Nat.ble (off + len * z.size) cs.length then
              pureR (.d (.int .i64 (min ys.length len : Nat))) (objs.set i (.box (cs.take off ++ (flatD (ys.take len)).map .d ++ cs.drop (off + min ys.length len * z.size))))
            else none
          | _ => none
        | .vs i sz lo len =>
          match objs[i]? with
          | some (.vec t ag szr n cs) =>
            if Nat.beq szr z.size && Nat.beq sz z.size && Nat.ble (lo + len) n then
              pureR (.d (.int .i64 (min ys.length len : Nat))) (objs.set i (.vec t ag szr n (cs.take (lo * sz) ++ (flatD (ys.take len)).map .d ++ cs.drop (lo * sz + min ys.length len * sz))))
            else none
          | _ => none
        | _ => none
      else none
    | _, _ => none
  | _ => none
def minL (k : IntKind) : Int → List AV → Option Int
  | a, [] => some a
  | a, .d (.int k' b) :: r => if kindB k k' then minL k (if b < a then b else a) r else none
  | _, _ => none
def maxL (k : IntKind) : Int → List AV → Option Int
  | a, [] => some a
  | a, .d (.int k' b) :: r => if kindB k k' then maxL k (if b > a then b else a) r else none
  | _, _ => none
def extractR (x : AV) (i : Nat) (objs : List Ob) : R :=
  match x with
  | .tup vs => match vs[i]? with | some v => pureR v objs | none => none
  | _ => none
def convR (E : PT Ty) (src dst : TypeId) (x : AV) (objs : List Ob) : R :=
  match E.get? src, E.get? dst with
  | some ys, some yd =>
    match ys.desc, yd.desc, x with
    | .int _, .int k, .d (.int _ n) => pureR (.d (.int k (k.wrap n))) objs
    | .string, .string, .d (.str s) => pureR (.d (.str s)) objs
    | .slice e, .string, x =>
      match E.get? e, srcOf E src x objs with
      | some ⟨.int .u8, 1, _, _⟩, some (_, es) =>
        (bytesD es).map fun s => (.d (.str s), objs, true)
      | _, _ => none
    | _, _, _ => none
  | _, _ => none
where
  bytesD : List DV → Option (List Nat)
  | [] => some []
  | .int .u8 n :: r => (bytesD r).map fun s => (n.toNat % 256) :: s
  | _ :: _ => none
def sliceT (E : PT Ty) (t : TypeId) : Bool := match E.get? t with | some ⟨.slice _, _, _, _⟩ => true | _ => false
def bytesR (E : PT Ty) (src dst : TypeId) (x : AV) (objs : List Ob) : R :=
  match E.get? src, E.get? dst with
  | some ⟨.slice e, _, _, _⟩, some ⟨.string, _, _, _⟩ =>
    match E.get? e with
    | some ⟨.int .u8, _, _, _⟩ => match x with
      | .d .nilsl => pureR (.d (.str [])) objs
      | .d (.sl _ es) => (convR.bytesD es).map fun s => (.d (.str s), objs, true)
      | .sr _ _ es => (convR.bytesD es).map fun s => (.d (.str s), objs, true)
      | _ => none
    | _ => none
  | some ⟨.string, _, _, _⟩, some ⟨.slice e, _, _, _⟩ =>
    match E.get? e with
    | some ⟨.int .u8, _, _, _⟩ => match x with
      | .d (.str s) => some (.d (.sl 1 (s.map fun n => .int .u8 (n : Nat))), objs, Nat.ble s.length 1099511627776)
      | _ => none
    | _ => none
  | _, _ => none
def isUnsT : TypeDesc → Bool | .unsafePointer => true | _ => false
def unsT (E : PT Ty) (t : TypeId) : Bool := match E.get? t with | some y => isUnsT y.desc | none => false
def liesE (E : PT Ty) (t u : TypeId) (off : Nat) : Bool :=
  bldT E u && Nat.beq off 0 && (Nat.beq t u || (match oneF E t with | some a => Nat.beq a.type u && Nat.beq a.offset 0 | none => false))
def unsR (E : PT Ty) (src dst : TypeId) (x : AV) (objs : List Ob) : R :=
  match x with
  | .bp i off =>
    match objs[i]? with
    | some (.tb t cs) =>
      match E.get? src, E.get? dst with
      | some ys, some yd =>
        match ys.desc, yd.desc with
        | .pointer e, .unsafePointer => match E.get? e with
          | some y => if Nat.blt 0 y.size && Nat.blt off cs.length then pureR (.bp i off) objs else none
          | none => none
        | .unsafePointer, .pointer u => if liesE E t u off && Nat.beq cs.length 2 then pureR (.bp i off) objs else none
        | _, _ => none
      | _, _ => none
    | _ => none
  | _ => none
def sliceDataR (x : AV) (objs : List Ob) : R :=
  match x with
  | .d .nilsl => pureR (.d .nilptr) objs
  | .vs i _ lo len => if Nat.beq lo 0 && Nat.blt 0 len then pureR (.bp i 0) objs else none
  | _ => none
def byteA : AV → Option Nat
  | .d (.int .u8 n) => if decide (0 ≤ n) && decide (n < 256) then some n.toNat else none
  | _ => none
def bytesA : List AV → Option (List Nat)
  | [] => some []
  | x :: r => match byteA x, bytesA r with
    | some n, some l => some (n :: l)
    | _, _ => none
def unsafeStrR (E : PT Ty) (pt : TypeId) (x n : AV) (objs : List Ob) : R :=
  match x, n with
  | .d .nilptr, .d (.int .i64 n) => if decide (n = 0) then pureR (.d (.str [])) objs else none
  | .bp i off, .d (.int .i64 n) =>
    match E.get? pt, objs[i]? with
    | some ⟨.pointer e, _, _, _⟩, some (.vec t _ sz m cs) =>
      if Nat.beq off 0 && Nat.beq sz 1 && Nat.beq t e && isByteT E e && decide (0 < n) && Nat.ble n.toNat m then
        (bytesA (cs.take n.toNat)).map fun l => (.d (.str l), objs.set i .gone, true)
      else none
    | _, _ => none
  | _, _ => none
def makeNoZeroR (E : PT Ty) (t : TypeId) (x : AV) (objs : List Ob) : R :=
  match E.get? t, x with
  | some ⟨.slice e, _, _, _⟩, .d (.int .i64 n) =>
    if isByteT E e then
      some (.vs objs.length 1 0 n.toNat, objs ++ [.vec e false 1 n.toNat (List.replicate n.toNat (.d .any))], decide (0 ≤ n) && Nat.ble n.toNat 1099511627776)
    else none
  | _, _ => none
def eqKey (E : PT Ty) (t : TypeId) : DV → DV → Option Bool
  | .agg xs, .agg ys => match eqAgg E t xs ys, eqCells xs ys with
    | some true, some true => some true
    | some false, some false => some false
    | _, _ => none
  | .agg _, _ => none
  | a, b => eqCell a b
def findKV (f : DV → DV → Option Bool) (k : DV) : List (DV × DV) → Option (Option (Nat × DV))
  | [] => some none
  | (k', v) :: r => match f k k' with
    | some true => some (some (0, v))
    | some false => (findKV f k r).map fun o => o.map fun p => (p.1 + 1, p.2)
    | none => none
def keyT (E : PT Ty) (t : TypeId) (k : DV) : Bool :=
  match E.get? t, k with
  | some ⟨.struct _, _, _, _⟩, .agg xs => (match eqAgg E t xs xs with | some _ => true | none => false)
  | some ⟨.array _ _, _, _, _⟩, .agg xs => (match eqAgg E t xs xs with | some _ => true | none => false)
  | some ⟨.int k, _, _, _⟩, .int k' _ => kindB k k'
  | some ⟨.string, _, _, _⟩, .str _ => true
  | some ⟨.bool, _, _, _⟩, .bool _ => true
  | _, _ => false
def zeroD (y : Ty) : Option DV := match isAggT y.desc with | true => some (.agg y.zero) | false => y.zero.head?
def makeMapR (objs : List Ob) : R := pureR (.mp objs.length) (objs ++ [.map []])
def kvsOf (x : AV) (objs : List Ob) : Option (List (DV × DV)) :=
  match x with
  | .d .nilmap => some []
  | .mp i => match objs[i]? with | some (.map kvs) => some kvs | _ => none
  | _ => none
def pmOf (x : AV) (objs : List Ob) : Option (List (DV × DV)) :=
  match x with
  | .mp i => match objs[i]? with | some (.pm kvs) => some kvs | _ => none
  | _ => none
def trueD : DV → Bool | .bool true => true | _ => false
def pmFind (f : DV → DV → Option Bool) (k : DV) (kvs : List (DV × DV)) : Option (Option (Nat × DV)) :=
  match kvs.all fun p => (match f k p.1 with | some _ => true | none => false) && trueD p.2 with
  | true => findKV f k kvs
  | false => none
def kvsFind (f : DV → DV → Option Bool) (k : DV) (x : AV) (objs : List Ob) : Option (Option (Nat × DV)) :=
  match kvsOf x objs with
  | some kvs => findKV f k kvs
  | none => match pmOf x objs with
    | some kvs => pmFind f k kvs
    | none => none
def lookupR (E : PT Ty) (t : TypeId) (x k : AV) (ok : Bool) (objs : List Ob) : R :=
  match E.get? t, k with
  | some ⟨.map kt et, _, _, _⟩, .d k =>
    match E.get? et, keyT E kt k with
    | some y, true =>
      match (match kvsOf x objs with | some kvs => findKV (eqKey E kt) k kvs | none => match pmOf x objs with | some kvs => pmFind (eqKey E kt) k kvs | none => none) with
      | some (some (_, v)) => pureR (match ok with | true => .tup [.d v, .d (.bool true)] | false => .d v) objs
      | some none => match zeroD y with
        | some z => pureR (match ok with | true => .tup [.d z, .d (.bool false)] | false => .d z) objs
        | none => none
      | none => none
    | _, _ => none
  | _, _ => none
def lookupQ (E : PT Ty) (t : TypeId) (x k : AV) (ok : Bool) (objs : List Ob) : R :=
  match E.get? t, k with
  | some ⟨.map kt et, _, _, _⟩, .d k =>
    match E.get? et, keyT E kt k with
    | some y, true =>
      match kvsFind (eqKey E kt) k x objs with
      | some (some (_, v)) => pureR (match ok with | true => .tup [.d v, .d (.bool true)] | false => .d v) objs
      | some none => match zeroD y with
        | some z => pureR (match ok with | true => .tup [.d z, .d (.bool false)] | false => .d z) objs
        | none => none
      | none => none
    | _, _ => none
  | _, _ => none
def mapUpdateR (E : PT Ty) (t : TypeId) (x k v : AV) (objs : List Ob) : R :=
  match E.get? t, x, k, v with
  | some ⟨.map kt _, _, _, _⟩, .mp i, .d k, .d v =>
    match keyT E kt k, objs[i]? with
    | true, some (.map kvs) =>
      match findKV (eqKey E kt) k kvs with
      | some (some (j, _)) => pureR (.d .any) (objs.set i (.map (kvs.modify j fun p => (p.1, v))))
      | some none => pureR (.d .any) (objs.set i (.map (kvs ++ [(k, v)])))
      | none => none
    | _, _ => none
  | _, _, _, _ => none
def mapEntryR (E : PT Ty) (t : TypeId) (x k : AV) (objs : List Ob) : R :=
  match E.get? t, x, k with
  | some ⟨.map kt et, _, _, _⟩, .mp i, .d k =>
    match E.get? et, keyT E kt k, objs[i]? with
    | some y, true, some (.map kvs) =>
      match findKV (eqKey E kt) k kvs with
      | some (some (j, v)) => pureR (.tup [.d v, .d (.int .i64 (j : Nat))]) (objs.set i (.map kvs))
      | some none => match zeroD y with
        | some z => pureR (.tup [.d z, .d (.int .i64 (kvs.length : Nat))]) (objs.set i (.map (kvs ++ [(k, z)])))
        | none => none
      | none => none
    | _, _, _ => none
  | _, _, _ => none
def entryStoreR (x st v : AV) (objs : List Ob) : R :=
  match x, st, v with
  | .mp i, .d (.int _ n), .d v =>
    match objs[i]? with
    | some (.map kvs) => some (.d .any, objs.set i (.map (kvs.modify n.toNat fun p => (p.1, v))), inB n kvs.length)
    | _ => none
  | _, _, _ => none
def validN (r : Nat) : Bool := Nat.blt r 55296 || (Nat.ble 57344 r && Nat.ble r 1114111)
def decL (s : List Nat) (i : Nat) : Nat × Nat :=
  let b0 := s.getD i 0
  let b1 := s.getD (i + 1) 0
  let b2 := s.getD (i + 2) 0
  let b3 := s.getD (i + 3) 0
  match Nat.blt b0 128 with
  | true => (b0, 1)
  | false =>
    match Nat.beq (b0 / 32) 6 && Nat.beq (b1 / 64) 2 with
    | true => match Nat.ble 128 ((b0 % 32) * 64 + b1 % 64) with | true => ((b0 % 32) * 64 + b1 % 64, 2) | false => (65533, 1)
    | false =>
      match Nat.beq (b0 / 16) 14 && Nat.beq (b1 / 64) 2 && Nat.beq (b2 / 64) 2 with
      | true =>
        match Nat.ble 2048 ((b0 % 16) * 4096 + (b1 % 64) * 64 + b2 % 64) && validN ((b0 % 16) * 4096 + (b1 % 64) * 64 + b2 % 64) with
        | true => ((b0 % 16) * 4096 + (b1 % 64) * 64 + b2 % 64, 3) | false => (65533, 1)
      | false =>
        match Nat.beq (b0 / 8) 30 && Nat.beq (b1 / 64) 2 && Nat.beq (b2 / 64) 2 && Nat.beq (b3 / 64) 2 with
        | true =>
          match Nat.ble 65536 ((b0 % 8) * 262144 + (b1 % 64) * 4096 + (b2 % 64) * 64 + b3 % 64) && validN ((b0 % 8) * 262144 + (b1 % 64) * 4096 + (b2 % 64) * 64 + b3 % 64) with
          | true => ((b0 % 8) * 262144 + (b1 % 64) * 4096 + (b2 % 64) * 64 + b3 % 64, 4) | false => (65533, 1)
        | false => (65533, 1)
def rangeR (E : PT Ty) (t : TypeId) (x : AV) (objs : List Ob) : R :=
  match E.get? t, x with
  | some ⟨.string, _, _, _⟩, .d (.str s) => pureR (.bp objs.length 0) (objs ++ [.sit s 0])
  | _, _ => none
def nextR (x : AV) (isString : Bool) (objs : List Ob) : R :=
  match x, isString with
  | .bp i 0, true =>
    match objs[i]? with
    | some (.sit s pos) =>
      match Nat.blt pos s.length with
      | true => pureR (.tup [.d (.bool true), .d (.int .i64 pos), .d (.int .i32 (decL s pos).1)]) (objs.set i (.sit s (pos + (decL s pos).2)))
      | false => pureR (.tup [.d (.bool false)]) objs
    | _ => none
  | _, _ => none
def funcR (f : Fn) (first cap : List AV) (objs : List Ob) : R :=
  match allD first, allD cap with
  | some a, some b => pureR (.d (.fn f a b)) objs
  | _, _ => pureR (.fn f first cap) objs
def mkIfaceR (E : PT Ty) (t : TypeId) (x : AV) (objs : List Ob) : R :=
  match E.get? t with
  | some y => match isIface y.desc, x with
    | false, .d x => pureR (.d (.iface t x)) objs
    | false, .sr _ sz es => pureR (.d (.iface t (.sl sz es))) objs
    | _, _ => none
  | none => none
def assertR (E : PT Ty) (asserted : TypeId) (ok : Bool) (x : AV) (objs : List Ob) : R :=
  match E.get? asserted with
  | some y => match isIface y.desc with
    | true => none
    | false => match x with
      | .d (.iface t v) => match Nat.beq t asserted, ok with
        | true, true => pureR (.tup [.d v, .d (.bool true)]) objs
        | true, false => pureR (.d v) objs
        | false, true => match zeroD y with
          | some z => pureR (.tup [.d z, .d (.bool false)]) objs
          | none => none
        | false, false => none
      | .d .niliface => match ok, zeroD y with
        | true, some z => pureR (.tup [.d z, .d (.bool false)]) objs
        | _, _ => none
      | _ => none
  | none => none
def minR (args : List AV) (objs : List Ob) : R :=
  match args with
  | .d (.int k a) :: r => (minL k a r).map fun n => (.d (.int k n), objs, true)
  | _ => none
def maxR (args : List AV) (objs : List Ob) : R :=
  match args with
  | .d (.int k a) :: r => (maxL k a r).map fun n => (.d (.int k n), objs, true)
  | _ => none
theorem addr_add {a : Addr} (h : a.spot = none) (n : Nat) : a.add n = ⟨a.block, a.off + n, none⟩ := by
  obtain ⟨b, o, s⟩ := a
  cases h
  unfold Addr.add
  by_cases hn : n = 0
  · subst hn; rfl
  · rw [if_neg hn]
theorem blk_of_cell {w : World} {ad : Addr} {v : Value} (h : w.cell? ad = some v) : ∃ vs T f, w.heap[ad.block]? = some (.cells vs T f) ∧ vs[ad.off]? = some v ∧ ad.spot = none := by
  unfold World.cell? at h
  cases hb : w.heap[ad.block]? with
  | none => simp [hb] at h
  | some o =>
    cases o with
    | cells c T f =>
      simp only [hb] at h
      cases hs : ad.spot with
      | none => simp [hs] at h; exact ⟨c, T, f, rfl, h, rfl⟩
      | some s => simp [hs] at h
    | _ => simp [hb] at h
theorem cell_of_blk {w : World} {b off : Nat} {vs : Array Value} {T : TypeId} {f : Nat × Nat} (h : w.heap[b]? = some (.cells vs T f)) : w.cell? ⟨b, off, none⟩ = vs[off]? := by
  unfold World.cell?
  simp [h]
theorem run_loadCellsFrom (P : Program) (w : World) (a : Addr) : ∀ (vs : List Value) (i : Nat) (acc : Array Value)
    (_ : ∀ (j : Nat) v, vs[j]? = some v → w.cell? (a.add (i + j)) = some v), (loadCellsFrom a i vs.length acc).run P w = .ok (acc ++ vs.toArray) w
  | [], i, acc, _ => by simp [loadCellsFrom]
  | v :: vs, i, acc, h => by
    have h0 := h 0 v rfl
    have ih := run_loadCellsFrom P w a vs (i + 1) (acc.push v) (fun j u hj => by
      have := h (j + 1) u (by simpa using hj)
      rw [show i + 1 + j = i + (j + 1) from by omega]; exact this)
    simp only [Nat.add_zero] at h0
    simp only [List.length_cons, loadCellsFrom, Sem.run_bind, run_load, h0, Result.andThen_ok, ih]
    congr 1
    apply Array.ext'
    simp
theorem run_loadCells (P : Program) (w : World) (a : Addr) (vs : List Value) (h : ∀ (j : Nat) v, vs[j]? = some v → w.cell? (a.add j) = some v) :
    (loadCells a vs.length).run P w = .ok vs.toArray w := by
  unfold loadCells
  rw [run_loadCellsFrom P w a vs 0 #[] (fun j v hj => by rw [Nat.zero_add]; exact h j v hj)]
  simp
def putB (w : World) (b : Nat) (o : Obj) : World := { w with heap := w.heap.setIfInBounds b o }
theorem putB_heap (w : World) (b : Nat) (o : Obj) (k : Nat) : (putB w b o).heap[k]? = if b = k then (if k < w.heap.size then some o else none) else w.heap[k]? := by
  unfold putB
  simp only [Array.getElem?_setIfInBounds]
  by_cases h : b = k
  · subst h; simp
  · simp [h]
theorem putB_ne {w : World} {b : Nat} {o : Obj} {k : Nat} (h : b ≠ k) : (putB w b o).heap[k]? = w.heap[k]? := by rw [putB_heap, if_neg h]
theorem putB_eq {w : World} {b : Nat} {o : Obj} (h : b < w.heap.size) : (putB w b o).heap[b]? = some o := by rw [putB_heap, if_pos rfl, if_pos h]
theorem putB_size (w : World) (b : Nat) (o : Obj) : (putB w b o).heap.size = w.heap.size := by simp [putB]
theorem putB_putB (w : World) (b : Nat) (o o' : Obj) : putB (putB w b o) b o' = putB w b o' := by
  unfold putB
  congr 1
  apply Array.ext_getElem?
  intro i
  simp only [Array.getElem?_setIfInBounds]
  by_cases h : b = i
  · subst h; simp
  · simp [h]
theorem putB_same {w : World} {b : Nat} {o : Obj} (h : w.heap[b]? = some o) : putB w b o = w := by
  unfold putB
  have : w.heap.setIfInBounds b o = w.heap := by
    apply Array.ext_getElem?
    intro i
    simp only [Array.getElem?_setIfInBounds]
    by_cases e : b = i
    · subst e
      obtain ⟨hb, he⟩ := Array.getElem?_eq_some_iff.1 h
      simp [hb, he]
    · simp [e]
  rw [this]
theorem setCell_putB {w : World} {b off : Nat} {vs : Array Value} {T : TypeId} {f : Nat × Nat} (h : w.heap[b]? = some (.cells vs T f)) (v : Value) :
    w.setCell ⟨b, off, none⟩ v = putB w b (.cells (vs.setIfInBounds off v) T f) := by
  unfold World.setCell putB
  congr 1
  apply Array.ext_getElem?
  intro i
  simp only [Array.getElem?_modify, Array.getElem?_setIfInBounds]
  by_cases e : b = i
  · subst e
    obtain ⟨hb, he⟩ := Array.getElem?_eq_some_iff.1 h
    simp [hb, he]
  · simp [e]
theorem lt_of_getElem? {α : Type} {a : Array α} {i : Nat} {x : α} (h : a[i]? = some x) : i < a.size := by
  obtain ⟨h, _⟩ := Array.getElem?_eq_some_iff.1 h; exact h
def splice {α : Type} (l : List α) (off : Nat) (vs : List α) : List α := l.take off ++ vs ++ l.drop (off + vs.length)
theorem splice_nil {α : Type} (l : List α) (off : Nat) : splice l off [] = l := by simp [splice]
theorem getElem?_splice {α : Type} (l : List α) (off : Nat) (vs : List α) (h : off + vs.length ≤ l.length) (j : Nat) :
    (splice l off vs)[j]? = if j < off then l[j]? else if j < off + vs.length then vs[j - off]? else l[j]? := by
  unfold splice
  by_cases h1 : j < off
  · rw [if_pos h1, List.append_assoc, List.getElem?_append_left (by simp; omega), List.getElem?_take, if_pos h1]
  · rw [if_neg h1]
    by_cases h2 : j < off + vs.length
    · rw [if_pos h2, List.getElem?_append_left (by simp; omega), List.getElem?_append_right (by simp; omega)]
      simp [Nat.min_eq_left (show off ≤ l.length by omega)]
    · rw [if_neg h2, List.getElem?_append_right (by simp; omega), List.getElem?_drop]
      simp [Nat.min_eq_left (show off ≤ l.length by omega)]
      congr 1; omega
theorem splice_cons {α : Type} (l : List α) (off : Nat) (v : α) (vs : List α) (h : off + (v :: vs).length ≤ l.length) : splice (l.set off v) (off + 1) vs = splice l off (v :: vs) := by
  simp only [List.length_cons] at h
  apply List.ext_getElem?
  intro j
  rw [getElem?_splice _ _ _ (by simp; omega), getElem?_splice _ _ _ (by simpa using h)]
  simp only [List.length_cons]
  by_cases h1 : j < off
  · rw [if_pos h1, if_pos (by omega), List.getElem?_set_ne (by omega)]
  · by_cases h2 : j = off
    · subst h2
      rw [if_pos (by omega), if_neg (by omega), if_pos (by omega), List.getElem?_set_self (by omega)]; simp
    · rw [if_neg (by omega), if_neg h1]
      by_cases h3 : j < off + (vs.length + 1)
      · rw [if_pos (by omega), if_pos h3]
        obtain ⟨k, rfl⟩ : ∃ k, j = off + 1 + k := ⟨j - (off + 1), by omega⟩
        rw [show off + 1 + k - off = k + 1 from by omega, show off + 1 + k - (off + 1) = k from by omega]; simp
      · rw [if_neg (by omega), if_neg h3, List.getElem?_set_ne (by omega)]
theorem length_splice {α : Type} (l : List α) (off : Nat) (vs : List α) (h : off + vs.length ≤ l.length) : (splice l off vs).length = l.length := by
  simp [splice]; omega
theorem run_storeCells (P : Program) (b : Nat) (T : TypeId) (a : Addr) (hsp : a.spot = none) (hb : a.block = b) : ∀ (vs : List Value) (i : Nat) (w : World) (arr : Array Value)
    (_ : w.heap[b]? = some (.cells arr T (0, 0))) (_ : a.off + i + vs.length ≤ arr.size) (_ : ∀ (j : Nat) v, vs[j]? = some v → v.oneCell' = true),
    (storeCells a vs i).run P w = .ok () (putB w b (.cells (splice arr.toList (a.off + i) vs).toArray T (0, 0)))
  | [], i, w, arr, h, _, _ => by
    simp only [storeCells, Sem.run_pure, splice_nil]
    rw [show (arr.toList.toArray) = arr from by simp, putB_same h]
  | v :: vs, i, w, arr, h, hl, h1 => by
    simp only [List.length_cons] at hl
    have hlt : a.off + i < arr.size := by omega
    have hc : w.cell? (a.add i) = some arr[a.off + i] := by rw [addr_add hsp, hb, cell_of_blk h]; simp [hlt]
    have hf : w.frozen? (a.add i) = false := by rw [addr_add hsp, hb]; simp [World.frozen?, h]
    have hset : w.setCell (a.add i) v = putB w b (.cells (arr.setIfInBounds (a.off + i) v) T (0, 0)) := by rw [addr_add hsp, hb]; exact setCell_putB h v
    have hbw : b < w.heap.size := lt_of_getElem? h
    have hst : (store (a.add i) v).run P w = .ok () (w.setCell (a.add i) v) := by
      rw [run_store P w _ v _ (h1 0 v rfl), hc]; simp [hf]
    have ih := run_storeCells P b T a hsp hb vs (i + 1) (putB w b (.cells (arr.setIfInBounds (a.off + i) v) T (0, 0))) (arr.setIfInBounds (a.off + i) v)
      (putB_eq hbw) (by simp; omega) (fun j u hj => h1 (j + 1) u (by simpa using hj))
    simp only [storeCells, Sem.run_bind, hst, Result.andThen_ok]
    rw [hset, ih, putB_putB]
    congr 3
    rw [← Nat.add_assoc, Array.toList_setIfInBounds, splice_cons _ _ _ _ (by simp; omega)]
theorem HoldsOb.mono {D D' : DMap} {β β' : List Bi} {w w' : World} {bi : Bi} {ob : Ob} (hs : ∀ ad v, D ad = some v → D' ad = some v)
    (hb : ∀ (i : Nat) x, β[i]? = some x → ∃ y, β'[i]? = some y ∧ BiExt x y) (hn : ∀ ad v, D' ad = some v → D ad = none → ownOf bi ob ≠ some ad.block)
    (hw : ∀ b, ownOf bi ob = some b → w'.heap[b]? = w.heap[b]?) (h : HoldsOb D β w bi ob) : HoldsOb D' β' w' bi ob := by
  have hD : ∀ ad, ownOf bi ob = some ad.block → D ad = none → D' ad = none := fun ad ho h0 => by
    cases h' : D' ad with
    | none => rfl
    | some v => exact absurd ho (hn ad v h' h0)
  cases ob with
  | box cs =>
    obtain ⟨vs, T, h1, h2, h3, h4, h5⟩ := h
    exact ⟨vs, T, by rw [hw _ rfl]; exact h1, h2, fun j c v hc hv => (h3 j c v hc hv).mono hs hb, h4, fun ad ha => hD ad (by rw [ha]; rfl) (h5 ad ha)⟩
  | room n sz =>
    obtain ⟨a, cap, h1, h2, h3, h4, h5, h6⟩ := h
    refine ⟨a, cap, h1, h2, h3, h4, h5, fun ad ha => ?_⟩
    obtain ⟨h7, h8⟩ := h6 ad ha
    refine ⟨h7, fun hlt => ?_⟩
    obtain ⟨vs, T, h8, h9, h10, h11⟩ := h8 hlt
    have hbl : Nat.ble cap n = false := by
      cases hb : Nat.ble cap n with
      | false => rfl
      | true => have := Nat.le_of_ble_eq_true hb; omega
    have ho : ownOf bi (.room n sz) = some ad.block := by simp only [ownOf, h1, ha, Option.bind_some, hbl, Option.map_some]
    exact ⟨vs, T, by rw [hw _ ho]; exact h8, h9, h10, fun j hj => hD _ ho (h11 j hj)⟩
  | tb t cs =>
    obtain ⟨vs, T, h1, h2, h3, h4, h5⟩ := h
    exact ⟨vs, T, by rw [hw _ rfl]; exact h1, h2, fun j c v hc hv => (h3 j c v hc hv).mono hs hb, h4, fun ad ha => hD ad (by rw [ha]; rfl) (h5 ad ha)⟩
  | vec ty ag sz n cs =>
    obtain ⟨a, cap, h1, h2, h3, h4, h5, h6⟩ := h
    refine ⟨a, cap, h1, h2, h3, h4, h5, fun ad ha => ?_⟩
    obtain ⟨h7, vs, T, h8, h9, h10, h11, h12⟩ := h6 ad ha
    have ho : ownOf bi (.vec ty ag sz n cs) = some bi.blk := by simp [ownOf, h1, ha, h7]
    exact ⟨h7, vs, T, by rw [hw _ ho]; exact h8, h9, fun j c v hc hv => (h10 j c v hc hv).mono hs hb, h11, fun ad ha => hD ad (by rw [ha]; exact ho) (h12 ad ha)⟩
  | map kvs =>
    obtain ⟨es, c, h1, h2, h3, h4, h5⟩ := h
    exact ⟨es, c, by rw [hw _ rfl]; exact h1, h2, fun j p e hp he => ⟨(h3 j p e hp he).1.mono hs, (h3 j p e hp he).2.mono hs⟩, fun ad ha => hD ad (by rw [ha]; rfl) (h4 ad ha), h5⟩
  | raw o => exact ⟨by rw [hw _ rfl]; exact h.1, h.2.1, fun ad ha => hD ad (by rw [ha]; rfl) (h.2.2 ad ha)⟩
  | sit s pos => obtain ⟨b, h1, h2, h3⟩ := h; exact ⟨b, by rw [hw _ rfl]; exact h1, h2, fun ad ha => hD ad (by rw [ha]; rfl) (h3 ad ha)⟩
  | mit i n seen => obtain ⟨bm, h1, h2, h3⟩ := h; obtain ⟨bn, g1, g2⟩ := hb _ _ h1; exact ⟨bn, g1, by rw [hw _ rfl, g2.1]; exact h2, fun ad ha => hD ad (by rw [ha]; rfl) (h3 ad ha)⟩
  | pm kvs =>
    obtain ⟨l, hl, es, c, h1, h2, h3, h4, h5⟩ := h
    exact ⟨l, hl, es, c, by rw [hw _ rfl]; exact h1, h2, fun j p e hp he => ⟨(h3 j p e hp he).1.mono hs, (h3 j p e hp he).2.mono hs⟩, fun ad ha => hD ad (by rw [ha]; rfl) (h4 ad ha), h5⟩
  | loop tm nt frz ps assign body st pend =>
    obtain ⟨lp, h1, h2, h3, h4, h5, h6, h7, h8, h9⟩ := h
    exact ⟨lp, by rw [hw _ rfl]; exact h1, h2, h3, h4, h5, h6, h7, fun t => (h8 t).mono hs hb, fun ad ha => hD ad (by rw [ha]; rfl) (h9 ad ha)⟩
  | gone => trivial
theorem Heap.own_lt {D : DMap} {β : List Bi} {objs : List Ob} {w : World} (h : Heap D β objs w) {b : Nat} (ho : Own β objs b) : b < w.heap.size := by
  obtain ⟨i, bi, ob, h1, h2, h3⟩ := ho
  have hh := h.hold i bi ob h1 h2
  cases ob with
  | box cs => obtain ⟨vs, T, h4, _⟩ := hh; cases h3; exact lt_of_getElem? h4
  | room n sz =>
    obtain ⟨a, cap, h4, _, _, _, _, h5⟩ := hh
    simp only [ownOf, h4, Option.bind_some] at h3
    cases hb : Nat.ble cap n with
    | true => rw [hb] at h3; cases h3
    | false =>
      rw [hb] at h3
      cases a with
      | none => cases h3
      | some ad =>
        obtain ⟨_, h6⟩ := h5 ad rfl
        obtain ⟨vs, T, h6, _⟩ := h6 (by
          apply Nat.lt_of_not_le
          intro hle
          rw [Nat.ble_eq_true_of_le hle] at hb; cases hb)
        cases h3; exact lt_of_getElem? h6
  | tb t cs => obtain ⟨vs, T, h4, _⟩ := hh; cases h3; exact lt_of_getElem? h4.1
  | vec ty ag sz n cs =>
    obtain ⟨a, cap, h4, _, _, _, _, h5⟩ := hh
    simp only [ownOf, h4, Option.bind_some] at h3
    cases a with
    | none => cases h3
    | some ad => obtain ⟨e, vs, T, h6, _⟩ := h5 ad rfl; subst e; cases h3; exact lt_of_getElem? h6.1
  | map kvs => obtain ⟨es, c, h4, _⟩ := hh; cases h3; exact lt_of_getElem? h4
  | raw o => cases h3; exact lt_of_getElem? hh.1
  | sit s pos => obtain ⟨b, h4, _⟩ := hh; cases h3; exact lt_of_getElem? h4
  | mit i n seen => obtain ⟨bm, _, h4, _⟩ := hh; cases h3; exact lt_of_getElem? h4
  | pm kvs => obtain ⟨l, _, es, c, h4, _⟩ := hh; cases h3; exact lt_of_getElem? h4
  | loop tm nt frz ps assign body st pend => obtain ⟨lp, h4, _⟩ := hh; cases h3; exact lt_of_getElem? h4
  | gone => cases h3
theorem Heap.D_lt {D : DMap} {β : List Bi} {objs : List Ob} {w : World} (h : Heap D β objs w) {ad : Addr} {v : Value} (hd : D ad = some v) : ad.block < w.heap.size := by
  obtain ⟨vs, T, f, h1, _, _⟩ := blk_of_cell (h.dh ad v hd).2.2
  exact lt_of_getElem? h1
theorem Heap.cell {D : DMap} {β : List Bi} {objs : List Ob} {w : World} (h : Heap D β objs w) {ad : Addr} {v : Value} (hd : D ad = some v) : w.cell? ad = some v := (h.dh ad v hd).2.2
theorem cell_congr {w w' : World} {ad : Addr} (h : w'.heap[ad.block]? = w.heap[ad.block]?) : w'.cell? ad = w.cell? ad := by
  unfold World.cell?; rw [h]
theorem Heap.same {D : DMap} {β : List Bi} {objs : List Ob} {w w' : World} (h : Heap D β objs w) (he : w'.heap = w.heap) : Heap D β objs w' where
  dh ad v hd := by obtain ⟨a, b, c⟩ := h.dh ad v hd; exact ⟨a, b, (cell_congr (by rw [he])).trans c⟩
  len := h.len
  hold i bi ob hb ho := (h.hold i bi ob hb ho).mono (fun _ _ h => h) (fun i x hx => ⟨x, hx, BiExt.refl x⟩) (fun ad v h1 h2 => by rw [h1] at h2; cases h2) (fun b _ => by rw [he])
  disj := h.disj
theorem Step.drew {D : DMap} {β : List Bi} {objs : List Ob} {w : World} (h : Heap D β objs w) : Step D β objs w D β objs w.drew :=
  { Step.refl (h.same (w' := w.drew) rfl) with size := Nat.le_refl _, keep := fun _ _ _ => rfl, os := rfl, tape := rfl, output := ⟨rfl, Nat.le_succ _⟩ }
theorem Heap.put {D : DMap} {β : List Bi} {objs : List Ob} {w : World} (h : Heap D β objs w) {i b : Nat} {bi : Bi} {ob ob' : Ob} {o' : Obj} (hb : β[i]? = some bi) (ho : objs[i]? = some ob)
    (hown : ownOf bi ob = some b) (hown' : ∀ b', ownOf bi ob' = some b' → b' = b) (hD : ∀ ad, ad.block = b → D ad = none) (hnew : HoldsOb D β (putB w b o') bi ob') :
    Heap D β (objs.set i ob') (putB w b o') where
  dh ad v hd := by
    obtain ⟨p, q, c⟩ := h.dh ad v hd
    refine ⟨p, q, ?_⟩
    rw [cell_congr (w := w)]; exact c
    rw [putB_ne]; intro e; rw [hD ad e.symm] at hd; cases hd
  len := by simp [h.len]
  hold j bj oj hj hoj := by
    by_cases hij : i = j
    · subst hij
      rw [hb] at hj; cases hj
      rw [List.getElem?_set_self (by have := (List.getElem?_eq_some_iff.1 ho).1; exact this)] at hoj
      cases hoj; exact hnew
    · rw [List.getElem?_set_ne hij] at hoj
      refine (h.hold j bj oj hj hoj).mono (fun _ _ h => h) (fun i x hx => ⟨x, hx, BiExt.refl x⟩) (fun ad v h1 h2 => by rw [h1] at h2; cases h2) (fun c hc => ?_)
      rw [putB_ne]; intro e; subst e; exact hij (h.disj i j bi bj ob oj b hb hj ho hoj hown hc)
  disj j k bj bk oj ok c hj hk hoj hok hcj hck := by
    have key : ∀ (j : Nat) bj oj, β[j]? = some bj → (objs.set i ob')[j]? = some oj → ownOf bj oj = some c → ∃ oj', objs[j]? = some oj' ∧ ownOf bj oj' = some c := by
      intro j bj oj hj hoj hc
      by_cases hij : i = j
      · subst hij
        rw [hb] at hj; cases hj
        rw [List.getElem?_set_self (by have := (List.getElem?_eq_some_iff.1 ho).1; exact this)] at hoj
        cases hoj
        have := hown' c hc; subst this
        exact ⟨ob, ho, hown⟩
      · rw [List.getElem?_set_ne hij] at hoj; exact ⟨oj, hoj, hc⟩
    obtain ⟨oj', a1, a2⟩ := key j bj oj hj hoj hcj
    obtain ⟨ok', b1, b2⟩ := key k bk ok hk hok hck
    exact h.disj j k bj bk oj' ok' c hj hk a1 b1 a2 b2
theorem Own.set {β : List Bi} {objs : List Ob} {i b : Nat} {bi : Bi} {ob ob' : Ob} (hb : β[i]? = some bi) (ho : objs[i]? = some ob) (hown : ownOf bi ob = some b)
    (hown' : ∀ b', ownOf bi ob' = some b' → b' = b) {c : Nat} (h : Own β (objs.set i ob') c) : Own β objs c := by
  obtain ⟨j, bj, oj, h1, h2, h3⟩ := h
  by_cases hij : i = j
  · subst hij
    rw [hb] at h1; cases h1
    rw [List.getElem?_set_self (by have := (List.getElem?_eq_some_iff.1 ho).1; exact this)] at h2
    cases h2
    have := hown' c h3; subst this
    exact ⟨i, bi, ob, hb, ho, hown⟩
  · rw [List.getElem?_set_ne hij] at h2; exact ⟨j, bj, oj, h1, h2, h3⟩
theorem Step.put {D : DMap} {β : List Bi} {objs : List Ob} {w : World} (h : Heap D β objs w) {i b : Nat} {bi : Bi} {ob ob' : Ob} {o' : Obj} (hb : β[i]? = some bi) (ho : objs[i]? = some ob)
    (hown : ownOf bi ob = some b) (hown' : ∀ b', ownOf bi ob' = some b' → b' = b) (hD : ∀ ad, ad.block = b → D ad = none) (hnew : HoldsOb D β (putB w b o') bi ob') :
    Step D β objs w D β (objs.set i ob') (putB w b o') where
  dsub _ _ h := h
  dnew _ _ h1 h2 := by rw [h2] at h1; cases h1
  bext i x hx := ⟨x, hx, BiExt.refl x⟩
  heap := h.put hb ho hown hown' hD hnew
  size := by rw [putB_size]; exact Nat.le_refl _
  keep k _ hn := putB_ne (fun e => hn (e ▸ ⟨i, bi, ob, hb, ho, hown⟩))
  os := rfl
  tape := rfl
  output := ⟨rfl, Nat.le_refl _⟩
  ownn c hc := .inl (Own.set hb ho hown hown' hc)
theorem getElem?_snoc {α : Type} {l : List α} {x y : α} {i : Nat} (h : (l ++ [x])[i]? = some y) : (i < l.length ∧ l[i]? = some y) ∨ (i = l.length ∧ y = x) := by
  by_cases hi : i < l.length
  · rw [List.getElem?_append_left hi] at h; exact .inl ⟨hi, h⟩
  · rw [List.getElem?_append_right (by omega)] at h
    have : i - l.length = 0 := by
      cases hd : i - l.length with
      | zero => rfl
      | succ n => rw [hd] at h; simp at h
    rw [this] at h; simp at h; exact .inr ⟨by omega, h.symm⟩
theorem ext_snoc {β : List Bi} {x : Bi} : ∀ (i : Nat) z, β[i]? = some z → ∃ y, (β ++ [x])[i]? = some y ∧ BiExt z y := fun i z hz =>
  ⟨z, by rw [List.getElem?_append_left (List.getElem?_eq_some_iff.1 hz).1]; exact hz, BiExt.refl z⟩
theorem Step.push {D : DMap} {β : List Bi} {objs : List Ob} {w w' : World} (h : Heap D β objs w) {bi : Bi} {ob : Ob} (hkeep : ∀ k, k < w.heap.size → w'.heap[k]? = w.heap[k]?)
    (hsize : w.heap.size ≤ w'.heap.size) (hos : w'.os = w.os) (htape : w'.tape = w.tape) (hout : w'.output = w.output ∧ w.drawn ≤ w'.drawn) {D' : DMap} (hs : ∀ ad v, D ad = some v → D' ad = some v)
    (hdn : ∀ ad v, D' ad = some v → D ad = none → w.heap.size ≤ ad.block ∧ ad.spot = none ∧ v.oneCell' = true ∧ w'.cell? ad = some v)
    (hown : ∀ b, ownOf bi ob = some b → w.heap.size ≤ b) (hnew : HoldsOb D' (β ++ [bi]) w' bi ob) : Step D β objs w D' (β ++ [bi]) (objs ++ [ob]) w' where
  dsub := hs
  dnew ad v h1 h2 := .inr (hdn ad v h1 h2).1
  bext := ext_snoc
  size := hsize
  keep k hk _ := hkeep k hk
  os := hos
  tape := htape
  output := hout
  ownn b hb := by
    obtain ⟨i, bj, oj, h1, h2, h3⟩ := hb
    rcases getElem?_snoc h1 with ⟨l1, e1⟩ | ⟨l1, e1⟩
    · rcases getElem?_snoc h2 with ⟨l2, e2⟩ | ⟨l2, e2⟩
      · exact .inl ⟨i, bj, oj, e1, e2, h3⟩
      · have := h.len; omega
    · rcases getElem?_snoc h2 with ⟨l2, e2⟩ | ⟨l2, e2⟩
      · have := h.len; omega
      · subst e1 e2; exact .inr (hown b h3)
  heap := {
    dh := fun ad v hd => by
      cases h0 : D ad with
      | none => exact (hdn ad v hd h0).2
      | some u =>
        have := hs ad u h0
        rw [this] at hd; cases hd
        obtain ⟨p, q, c⟩ := h.dh ad _ h0
        exact ⟨p, q, by rw [cell_congr (w := w) (hkeep _ (h.D_lt h0))]; exact c⟩
    len := by simp [h.len]
    hold := fun i bj oj h1 h2 => by
      rcases getElem?_snoc h1 with ⟨l1, e1⟩ | ⟨l1, e1⟩
      · rcases getElem?_snoc h2 with ⟨l2, e2⟩ | ⟨l2, e2⟩
        · refine (h.hold i bj oj e1 e2).mono hs ext_snoc (fun ad v h3 h4 h5 => ?_) (fun b hb => ?_)
          · have := (hdn ad v h3 h4).1
            have := h.own_lt ⟨i, bj, oj, e1, e2, h5⟩
            omega
          · exact hkeep b (h.own_lt ⟨i, bj, oj, e1, e2, hb⟩)
        · have := h.len; omega
      · rcases getElem?_snoc h2 with ⟨l2, e2⟩ | ⟨l2, e2⟩
        · have := h.len; omega
        · subst e1 e2; exact hnew
    disj := fun i j bi' bj oi oj b h1 h2 h3 h4 h5 h6 => by
      have := h.len
      rcases getElem?_snoc h1 with ⟨l1, e1⟩ | ⟨l1, e1⟩ <;> rcases getElem?_snoc h3 with ⟨l3, e3⟩ | ⟨l3, e3⟩ <;> rcases getElem?_snoc h2 with ⟨l2, e2⟩ | ⟨l2, e2⟩ <;>
        rcases getElem?_snoc h4 with ⟨l4, e4⟩ | ⟨l4, e4⟩ <;> first | omega | skip
      · exact h.disj i j bi' bj oi oj b e1 e2 e3 e4 h5 h6
      · subst e2 e4; have := hown b h6; have := h.own_lt ⟨i, bi', oi, e1, e3, h5⟩; omega
      · subst e1 e3; have := hown b h5; have := h.own_lt ⟨j, bj, oj, e2, e4, h6⟩; omega }
theorem not_own_set {β : List Bi} {objs : List Ob} {D : DMap} {w : World} (h : Heap D β objs w) {i b : Nat} {bi : Bi} {ob : Ob} (hb : β[i]? = some bi) (ho : objs[i]? = some ob) (hown : ownOf bi ob = some b) :
    ¬ Own β (objs.set i .gone) b := by
  rintro ⟨j, bj, oj, h1, h2, h3⟩
  by_cases hij : i = j
  · subst hij
    rw [List.getElem?_set_self (by have := (List.getElem?_eq_some_iff.1 ho).1; exact this)] at h2
    cases h2; cases h3
  · rw [List.getElem?_set_ne hij] at h2
    exact hij (h.disj i j bi bj ob oj b hb h1 ho h2 hown h3)
theorem Heap.push' {D : DMap} {β : List Bi} {objs : List Ob} {w : World} (h : Heap D β objs w) {bi : Bi} {ob : Ob} (hown : ∀ b, ownOf bi ob = some b → ¬ Own β objs b) (hnew : HoldsOb D (β ++ [bi]) w bi ob) :
    Heap D (β ++ [bi]) (objs ++ [ob]) w where
  dh := h.dh
  len := by simp [h.len]
  hold := fun i bj oj h1 h2 => by
    rcases getElem?_snoc h1 with ⟨l1, e1⟩ | ⟨l1, e1⟩
    · rcases getElem?_snoc h2 with ⟨l2, e2⟩ | ⟨l2, e2⟩
      · exact (h.hold i bj oj e1 e2).mono (fun _ _ h => h) ext_snoc (fun ad v h3 h4 => by rw [h3] at h4; cases h4) (fun b _ => rfl)
      · have := h.len; omega
    · rcases getElem?_snoc h2 with ⟨l2, e2⟩ | ⟨l2, e2⟩
      · have := h.len; omega
      · subst e1 e2; exact hnew
  disj := fun i j bi' bj oi oj b h1 h2 h3 h4 h5 h6 => by
    have := h.len
    rcases getElem?_snoc h1 with ⟨l1, e1⟩ | ⟨l1, e1⟩ <;> rcases getElem?_snoc h3 with ⟨l3, e3⟩ | ⟨l3, e3⟩ <;> rcases getElem?_snoc h2 with ⟨l2, e2⟩ | ⟨l2, e2⟩ <;>
      rcases getElem?_snoc h4 with ⟨l4, e4⟩ | ⟨l4, e4⟩ <;> first | omega | skip
    · exact h.disj i j bi' bj oi oj b e1 e2 e3 e4 h5 h6
    · subst e2 e4; exact absurd ⟨i, bi', oi, e1, e3, h5⟩ (hown b h6)
    · subst e1 e3; exact absurd ⟨j, bj, oj, e2, e4, h6⟩ (hown b h5)
theorem Step.gone {D : DMap} {β : List Bi} {objs : List Ob} {w : World} (h : Heap D β objs w) (i : Nat) : Step D β objs w D β (objs.set i .gone) w := by
  have key : ∀ (j : Nat) bj oj b, β[j]? = some bj → (objs.set i .gone)[j]? = some oj → ownOf bj oj = some b → objs[j]? = some oj := by
    intro j bj oj b _ h2 h3
    by_cases hij : i = j
    · subst hij
      by_cases hl : i < objs.length
      · rw [List.getElem?_set_self hl] at h2; cases h2; cases h3
      · rw [List.getElem?_eq_none (by simp; omega)] at h2; cases h2
    · rwa [List.getElem?_set_ne hij] at h2
  refine ⟨fun _ _ h => h, fun _ _ h1 h2 => (by rw [h2] at h1; cases h1), fun i x hx => ⟨x, hx, BiExt.refl x⟩, ⟨h.dh, by simp [h.len], fun j bj oj h1 h2 => ?_, fun j k bj bk oj ok b h1 h2 h3 h4 h5 h6 => ?_⟩, Nat.le_refl _, fun _ _ _ => rfl, rfl, rfl, ⟨rfl, Nat.le_refl _⟩, ?_⟩
  · by_cases hij : i = j
    · subst hij
      by_cases hl : i < objs.length
      · rw [List.getElem?_set_self hl] at h2; cases h2; trivial
      · rw [List.getElem?_eq_none (by simp; omega)] at h2; cases h2
    · rw [List.getElem?_set_ne hij] at h2; exact h.hold j bj oj h1 h2
  · exact h.disj j k bj bk oj ok b h1 h2 (key j bj oj b h1 h3 h5) (key k bk ok b h2 h4 h6) h5 h6
  · rintro b ⟨j, bj, oj, h1, h2, h3⟩
    exact .inl ⟨j, bj, oj, h1, key j bj oj b h1 h2 h3, h3⟩
theorem Step.move {D : DMap} {β : List Bi} {objs : List Ob} {w : World} (h : Heap D β objs w) {i b : Nat} {bi bi' : Bi} {ob ob' : Ob} {o' : Obj} (hb : β[i]? = some bi) (ho : objs[i]? = some ob)
    (hown : ownOf bi ob = some b) (hown' : ∀ b', ownOf bi' ob' = some b' → b' = b) (hD : ∀ ad, ad.block = b → D ad = none) (hnew : HoldsOb D (β ++ [bi']) (putB w b o') bi' ob') :
    Step D β objs w D (β ++ [bi']) (objs.set i .gone ++ [ob']) (putB w b o') where
  dsub _ _ h := h
  dnew _ _ h1 h2 := by rw [h2] at h1; cases h1
  bext := ext_snoc
  heap := (h.put hb ho hown (ob' := .gone) (fun b' hb' => by cases hb') hD trivial).push' (fun b' hb' => by rw [hown' b' hb']; exact not_own_set h hb ho hown) hnew
  size := by rw [putB_size]; exact Nat.le_refl _
  keep k _ hn := putB_ne (fun e => hn (e ▸ ⟨i, bi, ob, hb, ho, hown⟩))
  os := rfl
  tape := rfl
  output := ⟨rfl, Nat.le_refl _⟩
  ownn c hc := by
    obtain ⟨j, bj, oj, h1, h2, h3⟩ := hc
    have hl := h.len
    rcases getElem?_snoc h2 with ⟨l2, e2⟩ | ⟨l2, e2⟩
    · rcases getElem?_snoc h1 with ⟨l1, e1⟩ | ⟨l1, e1⟩
      · by_cases hij : i = j
        · subst hij
          rw [List.getElem?_set_self (by simpa using l2)] at e2
          cases e2; cases h3
        · rw [List.getElem?_set_ne hij] at e2; exact .inl ⟨j, bj, oj, e1, e2, h3⟩
      · simp at l2; omega
    · rcases getElem?_snoc h1 with ⟨l1, e1⟩ | ⟨l1, e1⟩
      · simp at l2; omega
      · subst e1 e2; rw [hown' c h3]; exact .inl ⟨i, bi, ob, hb, ho, hown⟩
theorem Step.ext {D : DMap} {β : List Bi} {objs : List Ob} {w w' : World} (h : Heap D β objs w) (hkeep : ∀ k, k < w.heap.size → w'.heap[k]? = w.heap[k]?)
    (hsize : w.heap.size ≤ w'.heap.size) (hos : w'.os = w.os) (htape : w'.tape = w.tape) (hout : w'.output = w.output ∧ w.drawn ≤ w'.drawn) {D' : DMap} (hs : ∀ ad v, D ad = some v → D' ad = some v)
    (hdn : ∀ ad v, D' ad = some v → D ad = none → w.heap.size ≤ ad.block ∧ ad.spot = none ∧ v.oneCell' = true ∧ w'.cell? ad = some v) : Step D β objs w D' β objs w' where
  dsub := hs
  dnew ad v h1 h2 := .inr (hdn ad v h1 h2).1
  bext i x hx := ⟨x, hx, BiExt.refl x⟩
  size := hsize
  keep k hk _ := hkeep k hk
  os := hos
  tape := htape
  output := hout
  ownn b hb := .inl hb
  heap := {
    dh := fun ad v hd => by
      cases h0 : D ad with
      | none => exact (hdn ad v hd h0).2
      | some u =>
        have := hs ad u h0
        rw [this] at hd; cases hd
        obtain ⟨p, q, c⟩ := h.dh ad _ h0
        exact ⟨p, q, by rw [cell_congr (w := w) (hkeep _ (h.D_lt h0))]; exact c⟩
    len := h.len
    hold := fun i bj oj h1 h2 => (h.hold i bj oj h1 h2).mono hs (fun i x hx => ⟨x, hx, BiExt.refl x⟩)
      (fun ad v h3 h4 h5 => by have := (hdn ad v h3 h4).1; have := h.own_lt ⟨i, bj, oj, h1, h2, h5⟩; omega)
      (fun b hb => hkeep b (h.own_lt ⟨i, bj, oj, h1, h2, hb⟩))
    disj := h.disj }
def extD (D : DMap) (b : Nat) (vs : List Value) : DMap := fun ad => if ad.block = b ∧ ad.spot = none ∧ ad.off < vs.length then vs[ad.off]? else D ad
theorem extD_new {D : DMap} {b : Nat} {vs : List Value} {j : Nat} {v : Value} (h : vs[j]? = some v) : extD D b vs ⟨b, j, none⟩ = some v := by
  unfold extD
  rw [if_pos ⟨rfl, rfl, (List.getElem?_eq_some_iff.1 h).1⟩]; exact h
theorem extD_old {D : DMap} {b : Nat} {vs : List Value} {ad : Addr} {v : Value} (hb : ∀ ad v, D ad = some v → ad.block < b) (h : D ad = some v) : extD D b vs ad = some v := by
  unfold extD
  rw [if_neg (fun e => by have := hb ad v h; omega)]; exact h
theorem extD_inv {D : DMap} {b : Nat} {vs : List Value} {ad : Addr} {v : Value} (h : extD D b vs ad = some v) (h0 : D ad = none) : ad.block = b ∧ ad.spot = none ∧ vs[ad.off]? = some v := by
  unfold extD at h
  split at h
  · rename_i e; exact ⟨e.1, e.2.1, h⟩
  · rw [h0] at h; cases h
theorem alloc_keep (w : World) (o : Obj) (k : Nat) (h : k < w.heap.size) : (w.alloc o).heap[k]? = w.heap[k]? := by
  show (w.heap.push o)[k]? = _
  rw [Array.getElem?_push, if_neg (by omega)]
theorem alloc_new (w : World) (o : Obj) : (w.alloc o).heap[w.heap.size]? = some o := by
  show (w.heap.push o)[w.heap.size]? = _
  simp
theorem Step.extNew {D : DMap} {β : List Bi} {objs : List Ob} {w : World} (h : Heap D β objs w) (vs : Array Value) (n : Nat) (T : TypeId) (h1 : ∀ (j : Nat) v, vs[j]? = some v → v.oneCell' = true) :
    Step D β objs w (extD D w.heap.size (vs.toList.take n)) β objs (w.alloc (.cells vs T)) :=
  Step.ext h (fun k hk => alloc_keep w _ k hk) (by simp) rfl rfl ⟨rfl, by first | exact Nat.le_refl _ | exact Nat.le_succ _ | exact Nat.le_add_right _ 2⟩ (fun ad v hd => extD_old (fun ad v hd => h.D_lt hd) hd)
    (fun ad v hd h0 => by
      obtain ⟨e1, e2, e3⟩ := extD_inv hd h0
      have hv : vs[ad.off]? = some v := by
        rw [List.getElem?_take] at e3
        split at e3
        · simpa using e3
        · cases e3
      refine ⟨by omega, e2, h1 _ _ hv, ?_⟩
      obtain ⟨b, o, s⟩ := ad
      simp only at e1 e2 hv
      subst e1 e2
      rw [cell_of_blk (alloc_new w _)]; exact hv)
structure TyOK1 (P : Program) (t : TypeId) (y : Ty) : Prop where
  und : P.underlying t = some y.desc
  info : ∃ i z, P.info? t = some i ∧ i.size = y.size ∧ i.bytes = y.bytes ∧ i.zero = some z ∧ z.cells.size = y.size ∧ y.zero.length = y.size ∧
    (∀ (j : Nat) c v, y.zero[j]? = some c → z.cells[j]? = some v → RepD (fun _ => none) c v) ∧ ∀ (j : Nat) v, z.cells[j]? = some v → v.oneCell' = true
def TyOK (P : Program) (E : PT Ty) : Prop := ∀ t y, E.get? t = some y → TyOK1 P t y
section
variable {P : Program} {w : World}
theorem run_underlying {t : TypeId} {d : TypeDesc} (h : P.underlying t = some d) : (underlying t).run P w = .ok d w := by simp [underlying, h]
theorem run_typeInfo {t : TypeId} {i : TypeInfo} (h : P.info? t = some i) : (typeInfo t).run P w = .ok i w := by simp [typeInfo, h]
theorem run_sizeOf {t : TypeId} {y : Ty} (h : TyOK1 P t y) : (sizeOf t).run P w = .ok y.size w := by
  obtain ⟨i, z, h1, h2, _⟩ := h.info
  simp [sizeOf, run_typeInfo h1, h2]
theorem run_isAgg {t : TypeId} {y : Ty} (h : TyOK1 P t y) : (isAgg t).run P w = .ok (isAggT y.desc) w := by
  unfold isAgg
  simp only [Sem.run_bind, run_underlying h.und, Result.andThen_ok]
  cases y.desc <;> rfl
end
def ValOK (P : Program) (D : DMap) (β : List Bi) (objs : List Ob) (w : World) (s : Sem Value) (r : R) : Prop :=
  ∀ av objs' c, r = some (av, objs', c) → c = true → ∃ v w' D' β', s.run P w = .ok v w' ∧ Step D β objs w D' β' objs' w' ∧ RepA D' β' av v
def UnitOK (P : Program) (D : DMap) (β : List Bi) (objs : List Ob) (w : World) (s : Sem Unit) (r : R) : Prop :=
  ∀ av objs' c, r = some (av, objs', c) → c = true → ∃ w' D' β', s.run P w = .ok () w' ∧ Step D β objs w D' β' objs' w' ∧ RepA D' β' av undef
theorem ValOK.none {P : Program} {D : DMap} {β : List Bi} {objs : List Ob} {w : World} {s : Sem Value} : ValOK P D β objs w s none := by
  intro av o c h; cases h
theorem ValOK.pure {P : Program} {D : DMap} {β : List Bi} {objs : List Ob} {w : World} (hp : Heap D β objs w) {s : Sem Value} {av : AV} {c : Bool}
    (h : c = true → ∃ v, s.run P w = .ok v w ∧ RepA D β av v) : ValOK P D β objs w s (some (av, objs, c)) := by
  intro av' o c' he hc
  simp only [Option.some.injEq, Prod.mk.injEq] at he
  obtain ⟨rfl, rfl, rfl⟩ := he
  obtain ⟨v, h1, h2⟩ := h hc
  exact ⟨v, w, D, β, h1, Step.refl hp, h2⟩
theorem cells_rep {D : DMap} {β : List Bi} {x : AV} {v : Value} (h : RepA D β x v) (hk : knownA x = true) :
    v.cells.size = x.cells.length ∧ (∀ (j : Nat) c u, x.cells[j]? = some c → v.cells[j]? = some u → RepA D β c u) ∧ ∀ (j : Nat) u, v.cells[j]? = some u → u.oneCell' = true := by
  have single : ∀ {x : AV} {v : Value}, RepA D β x v → x.cells = [x] → v.cells = #[v] → v.oneCell' = true →
      v.cells.size = x.cells.length ∧ (∀ (j : Nat) c u, x.cells[j]? = some c → v.cells[j]? = some u → RepA D β c u) ∧ ∀ (j : Nat) u, v.cells[j]? = some u → u.oneCell' = true := by
    intro x v h hx hv h1
    rw [hx, hv]
    refine ⟨rfl, fun j c u hc hu => ?_, fun j u hu => ?_⟩
    · cases j with
      | zero => simp at hc hu; subst hc hu; exact h
      | succ j => simp at hc
    · cases j with
      | zero => simp at hu; subst hu; exact h1
      | succ j => simp at hu
  cases h with
  | @d y v hd =>
    cases hd with
    | any => simp [knownA] at hk
    | @agg cs vs hl h1 hr =>
      refine ⟨by simp [Value.cells, AV.cells, hl], fun j c u hc hu => ?_, h1⟩
      simp only [AV.cells, List.getElem?_map, Option.map_eq_some_iff] at hc
      obtain ⟨c', hc', rfl⟩ := hc
      exact .d (hr j c' u hc' hu)
    | bool => exact single (.d .bool) rfl rfl rfl
    | int => exact single (.d .int) rfl rfl rfl
    | str h => exact single (.d (.str h)) rfl rfl rfl
    | nilptr => exact single (.d .nilptr) rfl rfl rfl
    | nilfunc => exact single (.d .nilfunc) rfl rfl rfl
    | nilmap => exact single (.d .nilmap) rfl rfl rfl
    | niliface => exact single (.d .niliface) rfl rfl rfl
    | nilsl => exact single (.d .nilsl) rfl rfl rfl
    | sl vs a1 a2 a3 a4 a5 a6 a7 => exact single (.d (.sl vs a1 a2 a3 a4 a5 a6 a7)) rfl rfl rfl
    | ep vs a1 a2 a3 a4 => exact single (.d (.ep vs a1 a2 a3 a4)) rfl rfl rfl
    | fn a1 a2 a3 a4 => exact single (.d (.fn a1 a2 a3 a4)) rfl rfl rfl
    | iface a1 => exact single (.d (.iface a1)) rfl rfl rfl
  | bp h => exact single (.bp h) rfl rfl rfl
  | sr h hh hd => exact single (.sr h hh hd) rfl rfl rfl
  | bs h => exact single (.bs h) rfl rfl rfl
  | mp h => exact single (.mp h) rfl rfl rfl
  | fn a1 a2 a3 a4 => exact single (.fn a1 a2 a3 a4) rfl rfl rfl
  | agg hl h1 hr => exact ⟨by simp [Value.cells, AV.cells, hl], hr, h1⟩
  | tup _ _ => simp [knownA] at hk
  | yl h => exact single (.yl h) rfl rfl rfl
  | vs h hh hc hm hn hx => exact single (.vs h hh hc hm hn hx) rfl rfl rfl
theorem allD_some : ∀ {cs : List AV} {ds : List DV}, allD cs = some ds → cs = ds.map .d
  | [], ds, h => by simp [allD] at h; subst h; rfl
  | .d x :: r, ds, h => by
    simp only [allD, Option.map_eq_some_iff] at h
    obtain ⟨ds', h1, rfl⟩ := h
    rw [allD_some h1]; rfl
  | .bp _ _ :: _, _, h | .sr _ _ _ :: _, _, h | .bs _ _ _ _ :: _, _, h | .mp _ :: _, _, h | .fn _ _ _ :: _, _, h | .agg _ :: _, _, h | .tup _ :: _, _, h | .yl _ :: _, _, h | .vs _ _ _ _ :: _, _, h => by
    simp [allD] at h
theorem allF_rep {D : DMap} {β : List Bi} : ∀ {cs : List AV} {ds : List DV}, allF cs = some ds → ds.length = cs.length ∧
    ∀ (j : Nat) c d v, cs[j]? = some c → ds[j]? = some d → RepA D β c v → RepD D d v
  | [], ds, h => by simp [allF] at h; subst h; exact ⟨rfl, fun j c d v hc => by simp at hc⟩
  | .d x :: r, ds, h => by
    simp only [allF, Option.map_eq_some_iff] at h
    obtain ⟨ds', h1, rfl⟩ := h
    obtain ⟨h2, h3⟩ := allF_rep (D := D) (β := β) h1
    refine ⟨by simp [h2], fun j c d v hc hd hr => ?_⟩
    cases j with
    | zero => simp at hc hd; subst hc hd; cases hr with | d h => exact h
    | succ j => exact h3 j c d v (by simpa using hc) (by simpa using hd) hr
  | .sr i sz es :: r, ds, h => by
    simp only [allF, Option.map_eq_some_iff] at h
    obtain ⟨ds', h1, rfl⟩ := h
    obtain ⟨h2, h3⟩ := allF_rep (D := D) (β := β) h1
    refine ⟨by simp [h2], fun j c d v hc hd hr => ?_⟩
    cases j with
    | zero => simp at hc hd; subst hc hd; cases hr with | sr _ _ h => exact h
    | succ j => exact h3 j c d v (by simpa using hc) (by simpa using hd) hr
  | .bp _ _ :: _, _, h | .bs _ _ _ _ :: _, _, h | .mp _ :: _, _, h | .fn _ _ _ :: _, _, h | .agg _ :: _, _, h | .tup _ :: _, _, h | .yl _ :: _, _, h | .vs _ _ _ _ :: _, _, h => by
    simp [allF] at h
theorem allF_at {D : DMap} {β : List Bi} {cs : List AV} {ds : List DV} (h : allF cs = some ds) {j : Nat} {d : DV} {v : Value} (hd : ds[j]? = some d) (hr : ∀ c, cs[j]? = some c → RepA D β c v) : RepD D d v := by
  obtain ⟨h1, h2⟩ := allF_rep (D := D) (β := β) h
  have hj : j < cs.length := by rw [← h1]; exact (List.getElem?_eq_some_iff.1 hd).1
  exact h2 j cs[j] d v (by simp [hj]) hd (hr _ (by simp [hj]))
theorem mkAgg_rep {D : DMap} {β : List Bi} {cs : List AV} {vs : Array Value} (h : vs.size = cs.length) (h1 : ∀ (j : Nat) v, vs[j]? = some v → v.oneCell' = true)
    (hr : ∀ (j : Nat) c v, cs[j]? = some c → vs[j]? = some v → RepA D β c v) : RepA D β (mkAgg cs) (.agg vs) := by
  unfold mkAgg
  cases ha : allD cs with
  | none => exact .agg h h1 hr
  | some ds =>
    have := allD_some ha
    subst this
    refine .d (.agg (by simpa using h) h1 (fun j c v hc hv => ?_))
    have := hr j (.d c) v (by simp [hc]) hv
    cases this with
    | d h => exact h
theorem RepD.zero {D : DMap} {c : DV} {v : Value} (h : RepD (fun _ => none) c v) : RepD D c v := h.mono (fun _ _ h => by cases h)
section
variable {P : Program} {E : PT Ty} {D : DMap} {β : List Bi} {objs : List Ob} {w : World}
theorem push_box (hp : Heap D β objs w) {cs : List AV} {vs : Array Value} (T : TypeId) (hl : vs.size = cs.length) (h1 : ∀ (j : Nat) v, vs[j]? = some v → v.oneCell' = true)
    (hr : ∀ (j : Nat) c v, cs[j]? = some c → vs[j]? = some v → RepA D β c v) :
    Step D β objs w D (β ++ [⟨w.heap.size, fun _ => none⟩]) (objs ++ [.box cs]) (w.alloc (.cells vs T)) :=
  Step.push hp (fun k hk => alloc_keep w _ k hk) (by simp) rfl rfl ⟨rfl, by first | exact Nat.le_refl _ | exact Nat.le_succ _ | exact Nat.le_add_right _ 2⟩ (fun _ _ h => h) (fun ad v h0 h2 => by rw [h2] at h0; cases h0)
    (fun b hb => by simp [ownOf] at hb; omega)
    ⟨vs, T, alloc_new w _, hl, fun j c v hc hv => (hr j c v hc hv).mono (fun _ _ h => h) ext_snoc, h1, fun ad ha => by
      cases hd : D ad with
      | none => rfl
      | some v => have := hp.D_lt hd; simp only at ha; omega⟩
theorem push_tb (hp : Heap D β objs w) {cs : List AV} {vs : Array Value} (T : TypeId) (hl : vs.size = cs.length) (h1 : ∀ (j : Nat) v, vs[j]? = some v → v.oneCell' = true)
    (hr : ∀ (j : Nat) c v, cs[j]? = some c → vs[j]? = some v → RepA D β c v) :
    Step D β objs w D (β ++ [⟨w.heap.size, fun _ => none⟩]) (objs ++ [.tb T cs]) (w.alloc (.cells vs T)) :=
  Step.push hp (fun k hk => alloc_keep w _ k hk) (by simp) rfl rfl ⟨rfl, by first | exact Nat.le_refl _ | exact Nat.le_succ _ | exact Nat.le_add_right _ 2⟩ (fun _ _ h => h) (fun ad v h0 h2 => by rw [h2] at h0; cases h0)
    (fun b hb => by simp [ownOf] at hb; omega)
    ⟨vs, T, ⟨alloc_new w _, rfl⟩, hl, fun j c v hc hv => (hr j c v hc hv).mono (fun _ _ h => h) ext_snoc, h1, fun ad ha => by
      cases hd : D ad with
      | none => rfl
      | some v => have := hp.D_lt hd; simp only at ha; omega⟩
theorem newVar_run (t : TypeId) (v : Value) : (newVar t v).run P w = .ok ⟨w.heap.size, 0, none⟩ (w.alloc (.cells v.cells t)) := by
  simp [newVar, newRow]
theorem alloc_ok (hE : TyOK P E) (hp : Heap D β objs w) (t : TypeId) (old : Value) (ho : old = .tuple #[]) : ValOK P D β objs w (Instr.alloc t true old) (allocR E t objs) := by
  unfold allocR
  cases hy : E.get? t with
  | none => exact .none
  | some y =>
    obtain ⟨i, z, h1, h2, h3, h4, h5, h6, h7, h8⟩ := (hE t y hy).info
    intro av o c he _
    simp only at he
    split at he
    · simp only [pureR, Option.some.injEq, Prod.mk.injEq] at he
      obtain ⟨rfl, rfl, rfl⟩ := he
      refine ⟨_, _, D, _, ?_, push_tb hp (cs := y.zero.map .d) (vs := z.cells) t (by simp [h5, h6]) h8 (fun j c v hc hv => ?_), .bp (bi := ⟨w.heap.size, fun _ => none⟩) (by rw [← hp.len]; simp)⟩
      · subst ho; simp [Instr.alloc, zeroValue, run_typeInfo h1, h4, newVar_run]
      · simp only [List.getElem?_map, Option.map_eq_some_iff] at hc
        obtain ⟨c', hc', rfl⟩ := hc
        exact .d (h7 j c' v hc' hv).zero
    · simp only [pureR, Option.some.injEq, Prod.mk.injEq] at he
      obtain ⟨rfl, rfl, rfl⟩ := he
      refine ⟨_, _, D, _, ?_, push_box hp (cs := y.zero.map .d) (vs := z.cells) t (by simp [h5, h6]) h8 (fun j c v hc hv => ?_), .bp (bi := ⟨w.heap.size, fun _ => none⟩) (by rw [← hp.len]; simp)⟩
      · subst ho; simp [Instr.alloc, zeroValue, run_typeInfo h1, h4, newVar_run]
      · simp only [List.getElem?_map, Option.map_eq_some_iff] at hc
        obtain ⟨c', hc', rfl⟩ := hc
        exact .d (h7 j c' v hc' hv).zero
theorem box_ok (hp : Heap D β objs w) (t : TypeId) {x : AV} {v : Value} (hx : RepA D β x v) : ValOK P D β objs w (Instr.box t v) (boxR x objs) := by
  unfold boxR
  split
  · rename_i hk
    obtain ⟨h1, h2, h3⟩ := cells_rep hx hk
    intro av o c he _
    simp only [pureR, Option.some.injEq, Prod.mk.injEq] at he
    obtain ⟨rfl, rfl, rfl⟩ := he
    exact ⟨_, _, D, _, by simp [Instr.box, newVar_run], push_box hp t h1 h3 h2, .bp (bi := ⟨w.heap.size, fun _ => none⟩) (by rw [← hp.len]; simp)⟩
  · exact .none
theorem boxT_ok (hp : Heap D β objs w) (t : TypeId) {x : AV} {v : Value} (hx : RepA D β x v) : ValOK P D β objs w (Instr.box t v) (boxTR E t x objs) := by
  unfold boxTR
  split
  · split
    · rename_i hk
      obtain ⟨h1, h2, h3⟩ := cells_rep hx hk
      intro av o c he _
      simp only [pureR, Option.some.injEq, Prod.mk.injEq] at he
      obtain ⟨rfl, rfl, rfl⟩ := he
      exact ⟨_, _, D, _, by simp [Instr.box, newVar_run], push_tb hp t h1 h3 h2, .bp (bi := ⟨w.heap.size, fun _ => none⟩) (by rw [← hp.len]; simp)⟩
    · exact .none
  · exact box_ok hp t hx
theorem boxE_ok (hp : Heap D β objs w) (t : TypeId) {x : AV} {v : Value} (hx : RepA D β x v) : ValOK P D β objs w (Instr.box t v) (boxER x objs) := by
  unfold boxER
  split
  · rename_i hk
    obtain ⟨h1, h2, h3⟩ := cells_rep hx hk
    cases ha : allF x.cells with
    | none => exact .none
    | some ds =>
      intro av o c he _
      simp only [pureR, Option.some.injEq, Prod.mk.injEq] at he
      obtain ⟨rfl, rfl, rfl⟩ := he
      have hlen := (allF_rep (D := D) (β := β) ha).1
      have hst := Step.extNew hp v.cells v.cells.size t h3
      refine ⟨_, _, _, β, by simp only [Instr.box, newVar_run, Sem.run_bind, Result.andThen_ok, Sem.run_pure], hst, .d (.ep (ad := ⟨w.heap.size, 0, none⟩) v.cells.toList rfl (by simp [h1, hlen]) (fun j u hu => ?_) (fun j c u hc hu => ?_))⟩
      · simp only [Nat.zero_add]; exact extD_new (by rw [List.take_of_length_le (by simp)]; simpa using hu)
      · exact hst.repD (allF_at ha hc (fun c hc => h2 j c u hc (by simpa using hu)))
  · exact .none
theorem loadVar_agg {t : TypeId} {y : Ty} (hT : TyOK1 P t y) (ha : isAggT y.desc = true) (a : Addr) (vs : List Value) (hl : vs.length = y.size)
    (h : ∀ (j : Nat) v, vs[j]? = some v → w.cell? (a.add j) = some v) : (loadVar t a).run P w = .ok (.agg vs.toArray) w := by
  simp only [loadVar, Sem.run_bind, run_isAgg hT, Result.andThen_ok, ha, if_true, run_sizeOf hT, ← hl, run_loadCells P w a vs h, Sem.run_pure]
theorem loadVar_one {t : TypeId} {y : Ty} (hT : TyOK1 P t y) (ha : isAggT y.desc = false) (a : Addr) (v : Value) (h : w.cell? a = some v) : (loadVar t a).run P w = .ok v w := by
  simp [loadVar, run_isAgg hT, ha, h]
theorem box_cells (hp : Heap D β objs w) {i : Nat} {bi : Bi} {cs : List AV} (hb : β[i]? = some bi) (ho : objs[i]? = some (.box cs)) :
    ∃ vs T, w.heap[bi.blk]? = some (.cells vs T (0, 0)) ∧ vs.size = cs.length ∧ (∀ (j : Nat) c v, cs[j]? = some c → vs[j]? = some v → RepA D β c v) ∧
      (∀ (j : Nat) v, vs[j]? = some v → v.oneCell' = true) ∧ ∀ ad, ad.block = bi.blk → D ad = none := hp.hold i bi _ hb ho
theorem ob_cells (hp : Heap D β objs w) {i : Nat} {bi : Bi} {ob : Ob} {cs : List AV} (hb : β[i]? = some bi) (ho : objs[i]? = some ob) (hc : obCells ob = some cs) :
    ∃ vs T, w.heap[bi.blk]? = some (.cells vs T (0, 0)) ∧ cs.length ≤ vs.size ∧ (∀ (j : Nat) c v, cs[j]? = some c → vs[j]? = some v → RepA D β c v) ∧
      (∀ (j : Nat) v, vs[j]? = some v → v.oneCell' = true) ∧ (∀ ad, ad.block = bi.blk → D ad = none) ∧ ownOf bi ob = some bi.blk ∧
      ∀ cs' vs', cs'.length = cs.length → vs'.size = vs.size → (∀ (j : Nat) c v, cs'[j]? = some c → vs'[j]? = some v → RepA D β c v) → (∀ (j : Nat) v, vs'[j]? = some v → v.oneCell' = true) →
        ownOf bi (obPut ob cs') = some bi.blk ∧ HoldsOb D β (putB w bi.blk (.cells vs' T (0, 0))) bi (obPut ob cs') := by
  have hh := hp.hold i bi _ hb ho
  cases ob with
  | box l =>
    cases hc
    obtain ⟨vs, T, g1, g2, g3, g4, g5⟩ := hh
    exact ⟨vs, T, g1, Nat.le_of_eq g2.symm, g3, g4, g5, rfl, fun cs' vs' h1 h2 h3 h4 => ⟨rfl, vs', T, putB_eq (lt_of_getElem? g1), by rw [h2, g2, h1], h3, h4, g5⟩⟩
  | tb ty l =>
    cases hc
    obtain ⟨vs, T, ⟨g1, g1t⟩, g2, g3, g4, g5⟩ := hh
    exact ⟨vs, T, g1, Nat.le_of_eq g2.symm, g3, g4, g5, rfl, fun cs' vs' h1 h2 h3 h4 => ⟨rfl, vs', T, ⟨putB_eq (lt_of_getElem? g1), g1t⟩, by rw [h2, g2, h1], h3, h4, g5⟩⟩
  | vec ty ag sz n l =>
    cases l with
    | nil => cases hc
    | cons c0 l =>
      cases hc
      obtain ⟨a, cap, k1, k2, k3, k4, k5, k6⟩ := hh
      cases a with
      | none =>
        have := k5 rfl
        subst this
        have : n = 0 := by omega
        subst this
        simp at k4
      | some ad =>
        obtain ⟨rfl, vs, T, ⟨g1, g1t⟩, g2, g3, g4, g5⟩ := k6 ad rfl
        have hmul : n * sz ≤ cap * sz := Nat.mul_le_mul_right _ k2
        refine ⟨vs, T, g1, by omega, g3, g4, g5, by simp [ownOf, k1], fun cs' vs' h1 h2 h3 h4 => ⟨by simp [ownOf, obPut, k1], ?_⟩⟩
        refine ⟨_, cap, k1, k2, k3, by rw [h1, k4], by simp, fun ad e => ?_⟩
        cases e
        exact ⟨rfl, vs', T, ⟨putB_eq (lt_of_getElem? g1), g1t⟩, by omega, h3, h4, g5⟩
  | _ => cases hc
def ValP (P : Program) (D : DMap) (β : List Bi) (objs : List Ob) (w : World) (s : Sem Value) (r : R) : Prop :=
  ∀ av objs' c, r = some (av, objs', c) → objs' = objs ∧ (c = true → ∃ v, s.run P w = .ok v w ∧ RepA D β av v)
theorem ValP.none {s : Sem Value} : ValP P D β objs w s none := by
  intro av o c h; cases h
theorem ValP.pure (_ : Heap D β objs w) {s : Sem Value} {av : AV} {c : Bool} (h : c = true → ∃ v, s.run P w = .ok v w ∧ RepA D β av v) : ValP P D β objs w s (some (av, objs, c)) := by
  intro av' o c' he
  simp only [Option.some.injEq, Prod.mk.injEq] at he
  obtain ⟨rfl, rfl, rfl⟩ := he
  exact ⟨rfl, h⟩
theorem ValP.val (hp : Heap D β objs w) {s : Sem Value} {r : R} (h : ValP P D β objs w s r) : ValOK P D β objs w s r := by
  intro av o c he hc
  obtain ⟨rfl, h2⟩ := h av o c he
  obtain ⟨v, h3, h4⟩ := h2 hc
  exact ⟨v, w, D, β, h3, Step.refl hp, h4⟩
theorem load_val (hE : TyOK P E) (hp : Heap D β objs w) (t : TypeId) {x : AV} {v : Value} (hx : RepA D β x v) : ValP P D β objs w (Instr.loadAt t v) (loadR E t x objs) := by
  unfold loadR
  cases hy : E.get? t with
  | none => exact .none
  | some y =>
    have hT := hE t y hy
    cases hx with
    | @d z v hd =>
      cases hd with
      | @ep cs ad vs hs hv hD hr =>
        simp only
        cases ha : isAggT y.desc with
        | true =>
          simp only
          split
          · rename_i hle
            have hle' := Nat.le_of_ble_eq_true hle
            refine .pure hp (fun _ => ⟨_, ?_, .d (.agg (vs := (vs.take y.size).toArray) (by simp; omega) (fun j u hu => ?_) (fun j c u hc hu => ?_))⟩)
            · simp only [Instr.loadAt, Instr.sureAddr, Sem.run_bind, Sem.run_pure, Result.andThen_ok]
              refine loadVar_agg hT ha ad _ (by simp; omega) (fun j u hu => ?_)
              rw [List.getElem?_take] at hu
              split at hu
              · rw [addr_add hs]; exact hp.cell (hD j u hu)
              · cases hu
            · simp only [List.getElem?_toArray, List.getElem?_take] at hu
              split at hu
              · exact (hp.dh _ _ (hD j u hu)).2.1
              · cases hu
            · simp only [List.getElem?_toArray, List.getElem?_take] at hu hc
              split at hu
              · rename_i hj; rw [if_pos hj] at hc; exact hr j c u hc hu
              · cases hu
          · exact .none
        | false =>
          simp only
          cases cs with
          | nil => exact .none
          | cons c cs =>
            cases vs with
            | nil => simp at hv
            | cons u vs =>
              refine .pure hp (fun _ => ⟨u, ?_, .d (hr 0 c u rfl rfl)⟩)
              simp only [Instr.loadAt, Instr.sureAddr, Sem.run_bind, Sem.run_pure, Result.andThen_ok]
              refine loadVar_one hT ha ad u ?_
              have := hp.cell (hD 0 u rfl)
              obtain ⟨b, o, s⟩ := ad
              simp only at hs; subst hs
              simpa using this
      | _ => exact .none
    | @bp i off bi hb =>
      simp only
      cases ho : objs[i]? with
      | none => exact .none
      | some ob =>
        simp only
        cases hobc : obCells ob with
        | none => exact .none
        | some cs =>
          obtain ⟨vs, T, g1, g2, g3, g4, _⟩ := ob_cells hp hb ho hobc
          simp only
          cases ha : isAggT y.desc with
          | true =>
            simp only
            split
            · rename_i hle
              have hle' := Nat.le_of_ble_eq_true hle
              have hcell : ∀ (j : Nat) u, (((vs.toList.drop off).take y.size))[j]? = some u → vs[off + j]? = some u ∧ j < y.size := by
                intro j u hu
                rw [List.getElem?_take] at hu
                split at hu
                · rename_i hj; rw [List.getElem?_drop] at hu; exact ⟨by simpa using hu, hj⟩
                · cases hu
              refine .pure hp (fun _ => ⟨.agg ((vs.toList.drop off).take y.size).toArray, ?_, mkAgg_rep ?_ (fun j u hu => ?_) (fun j c u hc hu => ?_)⟩)
              · simp only [Instr.loadAt, Instr.sureAddr, Sem.run_bind, Sem.run_pure, Result.andThen_ok]
                refine loadVar_agg hT ha _ _ (by simp; omega) (fun j u hu => ?_)
                rw [addr_add rfl, cell_of_blk g1]; exact (hcell j u hu).1
              · simp; omega
              · exact g4 _ u (hcell j u (by simpa using hu)).1
              · have hu' := hcell j u (by simpa using hu)
                rw [List.getElem?_take, if_pos hu'.2, List.getElem?_drop] at hc
                exact g3 _ c u hc hu'.1
            · exact .none
          | false =>
            simp only
            cases hc : cs[off]? with
            | none => exact .none
            | some c =>
              have hlt : off < vs.size := by have := (List.getElem?_eq_some_iff.1 hc).1; omega
              refine .pure hp (fun _ => ⟨vs[off], ?_, g3 off c _ hc (by simp [hlt])⟩)
              simp only [Instr.loadAt, Instr.sureAddr, Sem.run_bind, Sem.run_pure, Result.andThen_ok]
              exact loadVar_one hT ha _ _ (by rw [cell_of_blk g1]; simp [hlt])
    | _ => exact .none
theorem load_ok (hE : TyOK P E) (hp : Heap D β objs w) (t : TypeId) {x : AV} {v : Value} (hx : RepA D β x v) : ValOK P D β objs w (Instr.loadAt t v) (loadR E t x objs) := (load_val hE hp t hx).val hp
theorem store_ok (hE : TyOK P E) (hp : Heap D β objs w) (t : TypeId) {x y : AV} {v u : Value} (hx : RepA D β x v) (hy : RepA D β y u) :
    UnitOK P D β objs w (Instr.storeAt t v u) (storeR E t x y objs) := by
  unfold storeR
  cases hty : E.get? t with
  | none => intro av o c he; cases he
  | some ty =>
    have hT := hE t ty hty
    cases hx with
    | @bp i off bi hb =>
      simp only
      cases ho : objs[i]? with
      | none => intro av o c he; cases he
      | some ob =>
        simp only
        cases hobc : obCells ob with
        | none => intro av o c he; cases he
        | some cs =>
          simp only
          split
          · rename_i hcond
            simp only [Bool.and_eq_true] at hcond
            obtain ⟨⟨hk, hlen⟩, hle⟩ := hcond
            have hlen' := Nat.eq_of_beq_eq_true hlen
            have hle' := Nat.le_of_ble_eq_true hle
            obtain ⟨k1, k2, k3⟩ := cells_rep hy hk
            obtain ⟨vs, T, g1, g2, g3, g4, g5, g6, g7⟩ := ob_cells hp hb ho hobc
            intro av o c he _
            simp only [pureR, Option.some.injEq, Prod.mk.injEq] at he
            obtain ⟨rfl, rfl, rfl⟩ := he
            have hsz : u.cells.toList.length = ty.size := by simp [k1, hlen']
            have hrun : (Instr.storeAt t (.pointer (some ⟨bi.blk, off, none⟩)) u).run P w = .ok () (putB w bi.blk (.cells (splice vs.toList off u.cells.toList).toArray T (0, 0))) := by
              simp only [Instr.storeAt, Instr.sureAddr, Sem.run_bind, Sem.run_pure, Result.andThen_ok, storeVar, run_sizeOf hT]
              rw [if_neg (by simp [k1, hlen'])]
              have := run_storeCells P bi.blk T ⟨bi.blk, off, none⟩ rfl rfl u.cells.toList 0 w vs g1 (by simp only [Nat.add_zero, hsz]; omega) (fun j x hj => k3 j x (by simpa using hj))
              simpa using this
            refine ⟨_, D, β, hrun, ?_, .d .any⟩
            have hput := g7 (cs.take off ++ y.cells ++ cs.drop (off + ty.size)) (splice vs.toList off u.cells.toList).toArray (by simp; omega) (by
              have := length_splice vs.toList off u.cells.toList (by simp only [hsz, Array.length_toList]; omega)
              simpa using this) (fun j c x hc hx' => ?_) (fun j x hx' => ?_)
            · exact Step.put hp hb ho g6 (fun b' hb' => by rw [hput.1] at hb'; exact (Option.some.inj hb').symm) g5 hput.2
            · have e : cs.take off ++ y.cells ++ cs.drop (off + ty.size) = splice cs off y.cells := by simp [splice, hlen']
              rw [e, getElem?_splice _ _ _ (by omega)] at hc
              simp only [List.getElem?_toArray] at hx'
              rw [getElem?_splice _ _ _ (by simp only [hsz, Array.length_toList]; omega), hsz] at hx'
              rw [hlen'] at hc
              split at hc
              · rename_i h1; rw [if_pos h1] at hx'; exact g3 j c x hc (by simpa using hx')
              · rename_i h1
                rw [if_neg h1] at hx'
                split at hc
                · rename_i h2; rw [if_pos h2] at hx'; exact k2 _ c x hc (by simpa using hx')
                · rename_i h2; rw [if_neg h2] at hx'; exact g3 j c x hc (by simpa using hx')
            · simp only [List.getElem?_toArray] at hx'
              rw [getElem?_splice _ _ _ (by simp only [hsz, Array.length_toList]; omega)] at hx'
              split at hx'
              · exact g4 j x (by simpa using hx')
              · split at hx'
                · exact k3 _ x (by simpa using hx')
                · exact g4 j x (by simpa using hx')
          · intro av o c he; cases he
    | _ => intro av o c he; cases he
theorem fieldAt_run {s : TypeId} {fs : Array Field} {f : Field} {k : Nat} {a : Addr} {y : Ty} (hu : P.underlying s = some (.struct fs)) (hf : fs[k]? = some f) (hT : TyOK1 P f.type y) (hz : y.size ≠ 0) :
    (Instr.fieldAt s (.pointer (some a)) k).run P w = .ok (.pointer (some (a.add f.offset))) w := by
  simp [Instr.fieldAt, run_underlying hu, hf, Instr.sureAddr, fieldPlace, run_sizeOf hT, hz]
theorem fieldAddr_ok (hE : TyOK P E) (hp : Heap D β objs w) (t : TypeId) (k : Nat) {x : AV} {v : Value} (hx : RepA D β x v) :
    ValOK P D β objs w (Instr.fieldAt t v k) (fieldAddrR E t x k objs) := by
  unfold fieldAddrR
  split
  · rename_i fs _ _ _ hty
    have hT := (hE t _ hty).und
    simp only at hT
    split
    · rename_i fd hfd
      split
      · rename_i yf hyf
        have hF := hE _ _ hyf
        split
        · exact .none
        · rename_i hz
          have hz' : yf.size ≠ 0 := fun e => hz (by rw [e]; rfl)
          cases hx with
          | @bp i off bi hb =>
            refine .pure hp (fun _ => ⟨_, fieldAt_run hT hfd hF hz', ?_⟩)
            rw [addr_add rfl]; exact .bp hb
          | @d z v hd =>
            cases hd with
            | @ep cs ad vs hs hv hD hr =>
              refine .pure hp (fun _ => ⟨_, fieldAt_run hT hfd hF hz', ?_⟩)
              rw [addr_add hs]
              refine .d (.ep (vs.drop fd.offset) rfl (by simp [hv]) (fun j u hu => ?_) (fun j c u hc hu => ?_))
              · rw [List.getElem?_drop] at hu
                have := hD _ u hu
                simpa [Nat.add_assoc] using this
              · rw [List.getElem?_drop] at hu hc; exact hr _ c u hc hu
            | _ => exact .none
          | _ => exact .none
      · exact .none
    · exact .none
  · exact .none
end
section
variable {P : Program} {E : PT Ty} {D : DMap} {β : List Bi} {objs : List Ob} {w : World}
theorem nilCheck_ok (hp : Heap D β objs w) {x : AV} {v : Value} (hx : RepA D β x v) (o : Oper) (y : Operand) (ho : o.op = .nilCheck y) (ρ : Operand → Value) (hρ : ρ y = v) :
    ∀ av objs' c, nilCheckR x objs = some (av, objs', c) → c = true → ∃ v' w' D' β', (execOp ρ o).run P w = .ok (.value v') w' ∧ Step D β objs w D' β' objs' w' ∧ RepA D' β' av v' := by
  intro av o' c he hc
  unfold nilCheckR at he
  split at he <;> first | (cases he; done) | skip
  all_goals
    simp only [pureR, Option.some.injEq, Prod.mk.injEq] at he
    obtain ⟨rfl, rfl, rfl⟩ := he
    refine ⟨v, w, D, β, ?_, Step.refl hp, hx⟩
  · cases hx with
    | d h => cases h; simp [execOp, ho, hρ]
  · cases hx; simp [execOp, ho, hρ]
  · cases hx; simp [execOp, ho, hρ]
  · cases hx with
    | d h => cases h; simp [execOp, ho, hρ]
  · cases hx; simp [execOp, ho, hρ]
theorem aggCells_rep {x : AV} {v : Value} (hx : RepA D β x v) {cs : List AV} (h : aggCells x = some cs) :
    ∃ vs : Array Value, v = .agg vs ∧ vs.size = cs.length ∧ (∀ (j : Nat) u, vs[j]? = some u → u.oneCell' = true) ∧ ∀ (j : Nat) c u, cs[j]? = some c → vs[j]? = some u → RepA D β c u := by
  unfold aggCells at h
  split at h
  · cases h
    cases hx with
    | agg a b c => exact ⟨_, rfl, a, b, c⟩
  · cases h
    cases hx with
    | d hd =>
      cases hd with
      | agg a b c =>
        refine ⟨_, rfl, by simpa using a, b, fun j c' u hc hu => ?_⟩
        simp only [List.getElem?_map, Option.map_eq_some_iff] at hc
        obtain ⟨d, hd, rfl⟩ := hc
        exact .d (c j d u hd hu)
  · cases h
theorem part_ok (hE : TyOK P E) (hp : Heap D β objs w) (t : TypeId) {cs : List AV} {vs : Array Value} (off : Nat) (hl : vs.size = cs.length)
    (h1 : ∀ (j : Nat) u, vs[j]? = some u → u.oneCell' = true) (hr : ∀ (j : Nat) c u, cs[j]? = some c → vs[j]? = some u → RepA D β c u) :
    ValOK P D β objs w (part t vs off) (partR E t cs off objs) := by
  unfold partR
  cases hy : E.get? t with
  | none => exact .none
  | some y =>
    have hT := hE t y hy
    simp only
    cases ha : isAggT y.desc with
    | true =>
      simp only
      split
      · rename_i hle
        have hle' := Nat.le_of_ble_eq_true hle
        have hx : ∀ (j : Nat) u, (vs.extract off (off + y.size))[j]? = some u → vs[off + j]? = some u ∧ j < y.size := by
          intro j u hu
          rw [Array.getElem?_extract] at hu
          split at hu
          · rename_i hj; exact ⟨hu, by omega⟩
          · cases hu
        refine .pure hp (fun _ => ⟨.agg (vs.extract off (off + y.size)), ?_, mkAgg_rep ?_ (fun j u hu => h1 _ u (hx j u hu).1) (fun j c u hc hu => ?_)⟩)
        · simp [part, run_isAgg hT, ha, run_sizeOf hT]
        · simp; omega
        · have := hx j u hu
          rw [List.getElem?_take, if_pos this.2, List.getElem?_drop] at hc
          exact hr _ c u hc this.1
      · exact .none
    | false =>
      simp only
      cases hc : cs[off]? with
      | none => exact .none
      | some c =>
        have hlt : off < vs.size := by rw [hl]; exact (List.getElem?_eq_some_iff.1 hc).1
        refine .pure hp (fun _ => ⟨vs[off], ?_, hr off c _ hc (by simp [hlt])⟩)
        simp [part, run_isAgg hT, ha, hlt]
theorem field_ok (hE : TyOK P E) (hp : Heap D β objs w) (t : TypeId) (k : Nat) {x : AV} {v : Value} (hx : RepA D β x v) :
    ValOK P D β objs w (Instr.field t v k) (fieldR E t x k objs) := by
  unfold fieldR
  split
  · rename_i fs _ _ _ cs hty hcs
    have hu := (hE t _ hty).und
    simp only at hu
    obtain ⟨vs, rfl, a, b, c⟩ := aggCells_rep hx hcs
    split
    · rename_i fd hfd
      have := part_ok hE hp fd.type fd.offset a b c
      intro av o c' he hc
      obtain ⟨v, w', D', β', h1, h2, h3⟩ := this av o c' he hc
      exact ⟨v, w', D', β', by simp [Instr.field, run_underlying hu, hfd, asAgg, h1], h2, h3⟩
    · exact .none
  · exact .none
theorem inB_iff {i : Int} {n : Nat} : inB i n = true ↔ 0 ≤ i ∧ i < n := by simp [inB]
theorem flat_elem {es : List DV} {sz : Nat} (hsz : ∀ e, e ∈ es → (cellsD e).length = sz) : ∀ {i : Nat} {e : DV}, es[i]? = some e → ∀ (j : Nat), j < sz → (flatD es)[i * sz + j]? = (cellsD e)[j]? := by
  induction es with
  | nil => intro i e h; simp at h
  | cons x r ih =>
    intro i e h j hj
    have hx := hsz x (by simp)
    cases i with
    | zero =>
      simp at h; subst h
      simp only [flatD, List.flatMap_cons, Nat.zero_mul, Nat.zero_add]
      rw [List.getElem?_append_left (by omega)]
    | succ i =>
      have := ih (fun e he => hsz e (by simp [he])) (i := i) (by simpa using h) j hj
      simp only [flatD, List.flatMap_cons]
      rw [List.getElem?_append_right (by rw [hx, Nat.succ_mul]; omega), hx, show (i + 1) * sz + j - sz = i * sz + j from by rw [Nat.succ_mul]; omega]
      exact this
theorem flat_length {es : List DV} {sz : Nat} (hsz : ∀ e, e ∈ es → (cellsD e).length = sz) : (flatD es).length = es.length * sz := by
  induction es with
  | nil => simp [flatD]
  | cons x r ih =>
    have hx := hsz x (by simp)
    have := ih (fun e he => hsz e (by simp [he]))
    simp only [flatD, List.flatMap_cons, List.length_append, List.length_cons] at this ⊢
    rw [this, hx, Nat.succ_mul]; omega
theorem ep_of_sl {sz i cap : Nat} {es : List DV} {a : Option Addr} (h : RepD D (.sl sz es) (.slice a es.length cap)) (hi : i < es.length) :
    ∃ ad, a = some ad ∧ RepD D (.ep (cellsD (es.getD i .any))) (.pointer (some (ad.add (i * sz)))) := by
  cases h with
  | sl vs hc hm hsz hn hv hD hr =>
    cases a with
    | none => have := (hn rfl).1; subst this; simp at hi
    | some ad =>
      obtain ⟨hs, hD⟩ := hD ad rfl
      have hs : ad.spot = none := hs.resolve_left (by omega)
      refine ⟨ad, rfl, ?_⟩
      rw [addr_add hs]
      have he : es[i]? = some (es.getD i .any) := by simp [hi]
      have hlen : (cellsD (es.getD i .any)).length = sz := hsz _ (by simp only [List.getD_eq_getElem?_getD]; rw [List.getElem?_eq_getElem hi]; simp)
      have hfl := flat_length hsz
      have hmul : i * sz + sz ≤ es.length * sz := by rw [← Nat.succ_mul]; exact Nat.mul_le_mul_right _ hi
      refine .ep ((vs.drop (i * sz)).take sz) rfl (by rw [List.length_take, List.length_drop, hv, hfl, hlen]; omega) (fun j u hu => ?_) (fun j c u hc' hu => ?_)
      · rw [List.getElem?_take] at hu
        split at hu
        · rw [List.getElem?_drop] at hu
          have := hD _ u hu
          simpa [Nat.add_assoc] using this
        · cases hu
      · rw [List.getElem?_take] at hu
        split at hu
        · rename_i hj
          rw [List.getElem?_drop] at hu
          exact hr _ c u (by rw [flat_elem hsz he j hj]; exact hc') hu
        · cases hu
theorem indexAt_run {t e : TypeId} {y : Ty} {k : IntKind} {i : Int} {len cap : Nat} {ad : Addr} (hu : P.underlying t = some (.slice e)) (hT : TyOK1 P e y) (h0 : 0 ≤ i) (hl : i < len) :
    (Instr.indexAt t (.slice (some ad) len cap) (.int k i)).run P w = .ok (.pointer (some (ad.add (i.toNat * y.size)))) w := by
  simp [Instr.indexAt, asIntOf, run_underlying hu, h0, hl, run_sizeOf hT]
theorem indexAt_arr_run {t e : TypeId} {y : Ty} {k : IntKind} {i : Int} {len : Nat} {ad : Addr} (hu : P.underlying t = some (.array len e)) (hT : TyOK1 P e y) (h0 : 0 ≤ i) (hl : i < len) :
    (Instr.indexAt t (.pointer (some ad)) (.int k i)).run P w = .ok (.pointer (some (ad.add (i.toNat * y.size)))) w := by
  simp [Instr.indexAt, asIntOf, run_underlying hu, h0, hl, run_sizeOf hT, Instr.sureAddr]
theorem indexAddr_ok (hE : TyOK P E) (hp : Heap D β objs w) (t : TypeId) {x ix : AV} {v u : Value} (hx : RepA D β x v) (hi : RepA D β ix u) :
    ValOK P D β objs w (Instr.indexAt t v u) (indexAddrR E t x ix objs) := by
  unfold indexAddrR
  split
  · rename_i e _ _ _ k i hty
    have hu := (hE t _ hty).und
    simp only at hu
    cases hi with
    | d hi =>
      cases hi
      cases hy : E.get? e with
      | none => exact .none
      | some y =>
        have hT := hE e y hy
        simp only
        split
        · rename_i sz es
          split
          · rename_i hsz
            have hsz := Nat.eq_of_beq_eq_true hsz
            cases hx with
            | d hd =>
              refine .pure hp (fun hc => ?_)
              obtain ⟨h0, hl⟩ := inB_iff.1 hc
              cases hd with
              | sl vs g1 g2 g3 g4 g5 g6 g7 =>
                obtain ⟨ad, rfl, hep⟩ := ep_of_sl (.sl vs g1 g2 g3 g4 g5 g6 g7) (i := i.toNat) (by omega)
                exact ⟨_, indexAt_run hu hT h0 hl, by rw [hsz]; exact .d hep⟩
          · exact .none
        · rename_i ri sz es
          split
          · rename_i hsz
            have hsz := Nat.eq_of_beq_eq_true hsz
            cases hx with
            | sr g1 g2 hd =>
              refine .pure hp (fun hc => ?_)
              obtain ⟨h0, hl⟩ := inB_iff.1 hc
              obtain ⟨ad, rfl, hep⟩ := ep_of_sl hd (i := i.toNat) (by omega)
              exact ⟨_, indexAt_run hu hT h0 hl, by rw [hsz]; exact .d hep⟩
          · exact .none
        · rename_i b off len cap
          split
          · exact .none
          · cases hx with
            | bs hb =>
              refine .pure hp (fun hc => ?_)
              obtain ⟨h0, hl⟩ := inB_iff.1 hc
              refine ⟨_, indexAt_run hu hT h0 hl, ?_⟩
              rw [addr_add rfl]; exact .bp hb
        · rename_i b sz lo len
          split
          · rename_i hcond
            simp only [Bool.and_eq_true] at hcond
            have hsz := Nat.eq_of_beq_eq_true hcond.1
            have h1 := Nat.le_of_ble_eq_true hcond.2
            cases hx with
            | @vs _ _ _ _ cap c bi a ad hb hh hle hm hn hx =>
              refine .pure hp (fun hc => ?_)
              obtain ⟨h0, hl⟩ := inB_iff.1 hc
              obtain ⟨rfl, hcap⟩ := hx (.inr (by omega))
              cases a with
              | none => have := hn.1 rfl; omega
              | some a0 =>
                refine ⟨_, indexAt_run hu hT h0 hl, ?_⟩
                rw [addr_add rfl, hsz]
                have e : lo * sz + i.toNat * sz = (lo + i.toNat) * sz := by rw [Nat.add_mul]
                simp only [e]; exact .bp hb
          · exact .none
        · exact .none
  · rename_i len e _ _ _ k i hty
    have hu := (hE t _ hty).und
    simp only at hu
    cases hi with
    | d hi =>
      cases hi
      cases hy : E.get? e with
      | none => exact .none
      | some y =>
        have hT := hE e y hy
        simp only
        split
        · exact .none
        · split
          · rename_i b off
            cases hx with
            | bp hb =>
              refine .pure hp (fun hc => ?_)
              obtain ⟨h0, hl⟩ := inB_iff.1 hc
              refine ⟨_, indexAt_arr_run hu hT h0 hl, ?_⟩
              rw [addr_add rfl]; exact .bp hb
          · rename_i cs
            cases hx with
            | d hd =>
              refine .pure hp (fun hc => ?_)
              simp only [Bool.and_eq_true] at hc
              obtain ⟨h0, hl⟩ := inB_iff.1 hc.1
              cases hd with
              | @ep _ ad vs hs hv hD hr =>
                refine ⟨_, indexAt_arr_run hu hT h0 hl, ?_⟩
                rw [addr_add hs]
                refine .d (.ep (vs.drop (i.toNat * y.size)) rfl (by simp [hv]) (fun j u hu => ?_) (fun j c u hc hu => ?_))
                · rw [List.getElem?_drop] at hu
                  have := hD _ u hu
                  simpa [Nat.add_assoc] using this
                · rw [List.getElem?_drop] at hu hc; exact hr _ c u hc hu
          · exact .none
  · exact .none
theorem index_ok (hE : TyOK P E) (hp : Heap D β objs w) (t : TypeId) {x ix : AV} {v u : Value} (hx : RepA D β x v) (hi : RepA D β ix u) :
    ValOK P D β objs w (Instr.index t v u) (indexR E t x ix objs) := by
  unfold indexR
  split
  · rename_i _ _ _ k i s hty
    have hu := (hE t _ hty).und
    simp only at hu
    cases hi with
    | d hi =>
      cases hi
      cases hx with
      | d hd =>
        cases hd with
        | @str s b hs =>
          refine .pure hp (fun hc => ?_)
          obtain ⟨h0, hl⟩ := inB_iff.1 hc
          have hsz : i.toNat < b.size := by
            have : s.length = b.size := by rw [hs, List.length_map]; rfl
            omega
          refine ⟨.int .u8 (b[i.toNat]'hsz).toNat, ?_, ?_⟩
          · simp [Instr.index, asIntOf, run_underlying hu, h0, hsz]
          · have : s.getD i.toNat 0 = (b[i.toNat]'hsz).toNat := by
              subst hs
              have h2 : i.toNat < b.data.toList.length := hsz
              simp only [List.getD_eq_getElem?_getD, List.getElem?_map]
              rw [List.getElem?_eq_getElem h2]
              rfl
            rw [this]; exact .d .int
  · rename_i len e _ _ _ k i hty
    have hu := (hE t _ hty).und
    simp only at hu
    cases hi with
    | d hi =>
      cases hi
      split
      · rename_i y cs hy hcs
        split
        · rename_i hb
          obtain ⟨h0, hl⟩ := inB_iff.1 hb
          obtain ⟨vs, rfl, a, b, c⟩ := aggCells_rep hx hcs
          have := part_ok hE hp e (i.toNat * y.size) a b c
          intro av o c' he hc
          obtain ⟨v, w', D', β', h1, h2, h3⟩ := this av o c' he hc
          exact ⟨v, w', D', β', by simp [Instr.index, asIntOf, run_underlying hu, h0, hl, run_sizeOf (hE e y hy), h1], h2, h3⟩
        · exact .none
      · exact .none
  · exact .none
theorem len_ok (hE : TyOK P E) (hp : Heap D β objs w) (t ty : TypeId) (ts : Array TypeId) (args : Array Value) {x : AV} {v : Value} (hx : RepA D β x v) (h0 : ts[0]? = some t) (h1 : args[0]? = some v) :
    ValOK P D β objs w (Builtin.len_ ts ty args) (lenR x objs E t) := by
  unfold lenR
  cases hy : E.get? t with
  | none => exact .none
  | some y =>
    have hu := (hE t y hy).und
    obtain ⟨desc, sz, by_, z⟩ := y
    simp only at hu ⊢
    cases desc with
    | array n e =>
      refine .pure hp (fun _ => ⟨.int .i64 n, ?_, .d .int⟩)
      cases v <;> simp [Builtin.len_, h0, h1, run_underlying hu, goInt]
    | string =>
      cases hx with
      | d hd =>
        cases hd with
        | @str s b hs =>
          refine .pure hp (fun _ => ⟨.int .i64 b.size, ?_, ?_⟩)
          · simp [Builtin.len_, h0, h1, run_underlying hu, goInt]
          · have : s.length = b.size := by rw [hs, List.length_map]; rfl
            rw [this]; exact .d .int
        | _ => exact .none
      | _ => exact .none
    | slice e =>
      cases hx with
      | d hd =>
        cases hd with
        | nilsl => exact .pure hp (fun _ => ⟨_, by simp [Builtin.len_, h0, h1, run_underlying hu, goInt], .d .int⟩)
        | sl vs g1 g2 g3 g4 g5 g6 g7 => exact .pure hp (fun _ => ⟨_, by simp [Builtin.len_, h0, h1, run_underlying hu, goInt], .d .int⟩)
        | _ => exact .none
      | sr g1 g2 hd => exact .pure hp (fun _ => ⟨_, by simp [Builtin.len_, h0, h1, run_underlying hu, goInt], .d .int⟩)
      | bs hb => exact .pure hp (fun _ => ⟨_, by simp [Builtin.len_, h0, h1, run_underlying hu, goInt], .d .int⟩)
      | vs g1 g2 g3 g4 g5 g6 => exact .pure hp (fun _ => ⟨_, by simp [Builtin.len_, h0, h1, run_underlying hu, goInt], .d .int⟩)
      | _ => exact .none
    | map k e =>
      cases hx with
      | d hd =>
        cases hd with
        | nilmap => exact .pure hp (fun _ => ⟨_, by simp [Builtin.len_, h0, h1, run_underlying hu, goInt], .d .int⟩)
        | _ => exact .none
      | @mp i bi hb =>
        simp only
        cases ho : objs[i]? with
        | none => exact .none
        | some ob =>
          cases ob with
          | map kvs =>
            obtain ⟨es, clock, g1, g2, _⟩ := hp.hold i bi _ hb ho
            refine .pure hp (fun _ => ⟨.int .i64 es.size, ?_, by rw [g2]; exact .d .int⟩)
            have hg : (getObj bi.blk).run P w = .ok (.map es clock) w := by simp [getObj, Sem.run, g1]
            simp [Builtin.len_, h0, h1, run_underlying hu, goInt, hg]
          | _ => exact .none
      | _ => exact .none
    | _ => exact .none
end
theorem kindB_eq {k k' : IntKind} (h : kindB k k' = true) : k = k' := by
  cases k <;> cases k' <;> first | rfl | (simp [kindB] at h)
theorem byte_inj : ∀ {a b : List UInt8}, a.map UInt8.toNat = b.map UInt8.toNat → a = b
  | [], [], _ => rfl
  | [], _ :: _, h => by simp at h
  | _ :: _, [], h => by simp at h
  | x :: a, y :: b, h => by
    simp only [List.map_cons, List.cons.injEq] at h
    rw [UInt8.toNat_inj.1 h.1, byte_inj h.2]
theorem beq_bytes (a b : List UInt8) : (a.map UInt8.toNat == b.map UInt8.toNat) = (a == b) := by
  rw [Bool.eq_iff_iff, beq_iff_eq, beq_iff_eq]
  exact ⟨byte_inj, fun h => by rw [h]⟩
def PlainOK (P : Program) (E : PT Ty) : Prop := ∀ t y, E.get? t = some y →
  (∀ fs, y.desc = .struct fs → P.stoodInHeld t = false ∧ ∀ f ∈ fs.toList, f.name ≠ "_") ∧ (isAggT y.desc = true → P.eqGuardType P.depth t = false)
section
variable {P : Program} {E : PT Ty} {D : DMap} {β : List Bi} {objs : List Ob} {w : World}
def ValAt (E : PT Ty) (D : DMap) (t : TypeId) (xs : List DV) (v : Value) : Prop := ∃ y, E.get? t = some y ∧
  match isAggT y.desc with
  | true => ∃ us : Array Value, v = .agg us ∧ us.size = xs.length ∧ (∀ (j : Nat) u, us[j]? = some u → u.oneCell' = true) ∧ ∀ (j : Nat) c u, xs[j]? = some c → us[j]? = some u → RepD D c u
  | false => ∃ c, xs = [c] ∧ RepD D c v
theorem part_at (hE : TyOK P E) {t : TypeId} {xs ps : List DV} {us : Array Value} {off : Nat} (hl : us.size = xs.length) (h1 : ∀ (j : Nat) u, us[j]? = some u → u.oneCell' = true) (hr : ∀ (j : Nat) c u, xs[j]? = some c → us[j]? = some u → RepD D c u)
    (h : partD E t xs off = some ps) : ∃ v, (part t us off).run P w = .ok v w ∧ ValAt E D t ps v := by
  unfold partD at h
  split at h
  · rename_i y hy
    have hT := hE t y hy
    split at h
    · rename_i ha
      split at h
      · rename_i hle
        have hle' := Nat.le_of_ble_eq_true hle
        simp only [Option.some.injEq] at h
        subst h
        have hx : ∀ (j : Nat) u, (us.extract off (off + y.size))[j]? = some u → us[off + j]? = some u ∧ j < y.size := by
          intro j u hu
          rw [Array.getElem?_extract] at hu
          split at hu
          · rename_i hj; exact ⟨hu, by omega⟩
          · cases hu
        refine ⟨.agg (us.extract off (off + y.size)), by simp [part, run_isAgg hT, ha, run_sizeOf hT], y, hy, ?_⟩
        rw [ha]
        refine ⟨_, rfl, by simp; omega, fun j u hu => h1 _ u (hx j u hu).1, fun j c u hc hu => ?_⟩
        have := hx j u hu
        rw [List.getElem?_take, if_pos this.2, List.getElem?_drop] at hc
        exact hr _ c u hc this.1
      · cases h
    · rename_i ha
      split at h
      · rename_i c hc
        simp only [Option.some.injEq] at h
        subst h
        have hlt : off < us.size := by rw [hl]; exact (List.getElem?_eq_some_iff.1 hc).1
        refine ⟨us[off], by simp [part, run_isAgg hT, ha, hlt], y, hy, ?_⟩
        rw [ha]
        exact ⟨c, rfl, hr off c _ hc (by simp [hlt])⟩
      · cases h
  · cases h
theorem oneT_ok {d : Nat} {t : TypeId} {a b : DV} {va vb : Value} {r : Bool} {kd : TypeDesc} (hu : P.underlying t = some kd) (h : oneT kd [a] [b] = some r) (ha : RepD D a va) (hb : RepD D b vb) :
    (Op.equalIn (d + 1) t va vb).run P w = .ok r w := by
  simp only [oneT] at h
  split at h
  · rename_i k x
    cases b <;> simp only [eqCell, reduceCtorEq] at h
    split at h
    · rename_i hkk
      have := kindB_eq hkk
      subst this
      simp only [Option.some.injEq] at h
      subst h
      cases ha; cases hb
      simp [Op.equalIn, run_underlying hu]
    · cases h
  · rename_i x
    cases b <;> simp only [eqCell, reduceCtorEq, Option.some.injEq] at h
    subst h
    cases ha with
    | @str _ ba e1 =>
      cases hb with
      | @str _ bb e2 => rw [run_equalIn_string w d t ba bb hu, e1, e2, beq_bytes, ByteArray.toList_eq, ByteArray.toList_eq]
  · rename_i x
    cases b <;> simp only [eqCell, reduceCtorEq, Option.some.injEq] at h
    subst h
    cases ha; cases hb
    exact run_equalIn_bool' w d t _ _ hu
  · cases h
theorem info_cells {e : TypeId} {y : Ty} (hT : TyOK1 P e y) : ∃ i, P.info? e = some i ∧ P.cellsOf e = y.size := by
  obtain ⟨i, z, h1, h2, _⟩ := hT.info
  exact ⟨i, h1, by simp [Program.cellsOf, h1, h2]⟩
theorem eqT_ok (hE : TyOK P E) (hS : PlainOK P E) (d : Nat) : ∀ (n : Nat) (t : TypeId) (xs ys : List DV) (r : Bool) (va vb : Value), eqT E n t xs ys = some r → ValAt E D t xs va → ValAt E D t ys vb →
    (Op.equalIn (d + n) t va vb).run P w = .ok r w
  | 0, t, xs, ys, r, va, vb, h, _, _ => by cases h
  | n + 1, t, xs, ys, r, va, vb, h, ha, hb => by
    obtain ⟨y, hy, ha⟩ := ha
    obtain ⟨y', hy', hb⟩ := hb
    rw [hy] at hy'; cases hy'
    have hu := (hE t y hy).und
    have ih := eqT_ok hE hS d n
    obtain ⟨hst, _⟩ := hS t y hy
    unfold eqT at h
    rw [hy] at h
    obtain ⟨desc, sz, by_, z⟩ := y
    simp only at h hu ha hb hst
    have cell : isAggT desc = false → oneT desc xs ys = some r → (Op.equalIn (d + (n + 1)) t va vb).run P w = .ok r w := by
      intro hag h
      rw [hag] at ha hb
      obtain ⟨a, rfl, ha⟩ := ha
      obtain ⟨b, rfl, hb⟩ := hb
      exact oneT_ok (d := d + n) hu h ha hb
    cases desc with
    | struct fs =>
      clear cell
      simp only [isAggT] at ha hb
      obtain ⟨us, rfl, a1, a2, a3⟩ := ha
      obtain ⟨vs, rfl, b1, b2, b3⟩ := hb
      obtain ⟨hp, hn⟩ := hst fs rfl
      have hf : P.fieldsOf t = fs := by simp [Program.fieldsOf, hu]
      rw [show d + (n + 1) = (d + n) + 1 from rfl, run_equalIn_struct w (d + n) t us vs (by rw [hf]; exact hu) hp, hf]
      simp only at h
      generalize fs.toList = l at h hn
      induction l generalizing r with
      | nil => simp only [eqFs, Option.some.injEq] at h; subst h; rfl
      | cons f l ihl =>
        simp only [eqFs] at h
        split at h
        · rename_i p q hp' hq'
          split at h
          · rename_i r1 r2 h1 h2
            simp only [Option.some.injEq] at h
            subst h
            obtain ⟨v1, g1, g2⟩ := part_at (w := w) hE a1 a2 a3 hp'
            obtain ⟨v2, g3, g4⟩ := part_at (w := w) hE b1 b2 b3 hq'
            have g5 := ih f.type p q r1 v1 v2 h1 g2 g4
            have g6 := ihl r2 h2 (fun g hg => hn g (by simp [hg]))
            simp only [Op.eqFields, hn f (by simp), ne_eq, not_false_eq_true, if_true, Sem.run_bind, g1, g3, g5, Result.andThen_ok]
            cases r1 with
            | false => simp
            | true => simpa using g6
          · cases h
        · cases h
    | array len e =>
      clear cell
      simp only [isAggT] at ha hb
      obtain ⟨us, rfl, a1, a2, a3⟩ := ha
      obtain ⟨vs, rfl, b1, b2, b3⟩ := hb
      simp only at h
      split at h
      · rename_i ye hye
        obtain ⟨i, hi, hc⟩ := info_cells (hE e ye hye)
        rw [show d + (n + 1) = (d + n) + 1 from rfl, run_equalIn_array w (d + n) us vs hu hi, hc]
        generalize List.range len = l at h
        induction l generalizing r with
        | nil => simp only [eqIs, Option.some.injEq] at h; subst h; rfl
        | cons j l ihl =>
          simp only [eqIs] at h
          split at h
          · rename_i p q hp' hq'
            split at h
            · rename_i r1 r2 h1 h2
              simp only [Option.some.injEq] at h
              subst h
              obtain ⟨v1, g1, g2⟩ := part_at (w := w) hE a1 a2 a3 hp'
              obtain ⟨v2, g3, g4⟩ := part_at (w := w) hE b1 b2 b3 hq'
              have g5 := ih e p q r1 v1 v2 h1 g2 g4
              have g6 := ihl r2 h2
              simp only [Op.eqItems, Sem.run_bind, g1, g3, g5, Result.andThen_ok]
              cases r1 with
              | false => simp
              | true => simpa using g6
            · cases h
          · cases h
      · cases h
    | _ => exact cell rfl h
end
section
variable {P : Program} {E : PT Ty} {D : DMap} {β : List Bi} {objs : List Ob} {w : World}
theorem less_bytes : ∀ (a b : List UInt8), natsLess (a.map UInt8.toNat) (b.map UInt8.toNat) = Op.bytesLess a b
  | [], [] => rfl
  | [], _ :: _ => rfl
  | _ :: _, [] => rfl
  | x :: a, y :: b => by
    have h1 : Nat.blt x.toNat y.toNat = decide (x < y) := by
      rw [Bool.eq_iff_iff]; simp [Nat.blt, UInt8.lt_iff_toNat_lt, Nat.succ_le_iff]
    have h2 : Nat.beq x.toNat y.toNat = (x == y) := by
      rw [Bool.eq_iff_iff]; simp [Nat.beq_eq, ← UInt8.toNat_inj]
    simp only [List.map_cons, natsLess, Op.bytesLess, h1, h2, less_bytes a b]
theorem int_ok {op : BinOp} {t : TypeId} {k : IntKind} {a b : Int} {d : DV} {c : Bool} (h : intI op k a b = some (d, c)) (hc : c = true) (hns : op ≠ .shl ∧ op ≠ .shr) :
    ∃ v, (binOp op t (.int k a) (.int k b)).run P w = .ok v w ∧ RepD D d v := by
  cases op <;> simp only [intI, Option.some.injEq, Prod.mk.injEq, bitsI, Option.map_some, Option.map_none, reduceCtorEq] at h
  all_goals first | (exact absurd rfl hns.1) | (exact absurd rfl hns.2) | skip
  all_goals obtain ⟨rfl, rfl⟩ := h
  case quo | rem =>
    have hb : b ≠ 0 := by simpa using hc
    exact ⟨_, by simp [binOp, Op.intDiv, hb], .int⟩
  case and | or | xor | andNot => exact ⟨_, by simp only [binOp, ne_eq, not_true_eq_false, if_false]; rfl, .int⟩
  all_goals first
    | exact ⟨_, by simp [binOp, Op.intArith], .int⟩
    | exact ⟨_, by simp [binOp, Op.intCmp], .bool⟩
theorem shift_ok {op : BinOp} {t : TypeId} {k k' : IntKind} {a b : Int} {n : Int} {c : Bool} (h : shiftI op k a b = some (n, c)) (hc : c = true) :
    ∃ v, (binOp op t (.int k a) (.int k' b)).run P w = .ok v w ∧ RepD D (.int k n) v := by
  cases op <;> simp only [shiftI, Option.some.injEq, Prod.mk.injEq, reduceCtorEq] at h
  all_goals
    obtain ⟨rfl, rfl⟩ := h
    have hb : ¬ b < 0 := by simpa using hc
    exact ⟨_, by simp [binOp, Op.shift, hb], .int⟩
theorem app_data (a b : ByteArray) : (a ++ b).data.toList = a.data.toList ++ b.data.toList := by
  obtain ⟨a⟩ := a
  obtain ⟨b⟩ := b
  rw [ByteArray.mk_append_mk]
theorem str_size {s : List Nat} {b : ByteArray} (h : s = b.data.toList.map UInt8.toNat) : s.length = b.size := by rw [h, List.length_map]; rfl
theorem str_ok {op : BinOp} {t : TypeId} {x y : List Nat} {a b : ByteArray} {d : DV} {c : Bool} (hx : x = a.data.toList.map UInt8.toNat) (hy : y = b.data.toList.map UInt8.toNat)
    (h : strI op x y = some (d, c)) (hc : c = true) : ∃ v, (binOp op t (.string a) (.string b)).run P w = .ok v w ∧ RepD D d v := by
  have e1 : (x == y) = (a.toList == b.toList) := by rw [hx, hy, beq_bytes, ByteArray.toList_eq, ByteArray.toList_eq]
  have e2 : natsLess x y = Op.bytesLess a.toList b.toList := by rw [hx, hy, less_bytes, ByteArray.toList_eq, ByteArray.toList_eq]
  have l1 := str_size hx
  have l2 := str_size hy
  cases op <;> simp only [strI, Option.some.injEq, Prod.mk.injEq, reduceCtorEq] at h
  all_goals obtain ⟨rfl, rfl⟩ := h
  case add =>
    have hl := Nat.le_of_ble_eq_true hc
    refine ⟨.string (a ++ b), ?_, .str ?_⟩
    · simp only [binOp]; exact run_string_add_sum w a b (by omega)
    · rw [hx, hy, app_data, List.map_append]
  all_goals exact ⟨_, by simp [binOp, Op.stringOp, e1, e2], .bool⟩
theorem nilOf_ok {t : TypeId} {kd : TypeDesc} {x y : AV} {v u : Value} {p q : Bool} (hu : P.underlying t = some kd) (hx : RepA D β x v) (hy : RepA D β y u) (h1 : nilOf kd x = some p) (h2 : nilOf kd y = some q) (hpq : (p || q) = true) (dd : Nat) :
    (Op.equalIn (dd + 1) t v u).run P w = .ok (p && q) w := by
  have key : ∀ (a : AV) (r : Bool) (va : Value), RepA D β a va → nilOf kd a = some r →
      (∃ e o, kd = .pointer e ∧ va = .pointer o ∧ r = o.isNone) ∨ (∃ e o n c, kd = .slice e ∧ va = .slice o n c ∧ r = o.isNone) ∨ (∃ k e o, kd = .map k e ∧ va = .map o ∧ r = o.isNone) ∨
      (∃ a b c, kd = .func a b c ∧ ((va = .nilFunc ∧ r = true) ∨ (∃ f x y, va = .func f x y ∧ r = false))) ∨ (∃ m, kd = .interface m ∧ ((va = .nilIface ∧ r = true) ∨ (∃ f x, va = .iface f x ∧ r = false))) := by
    intro a r va ha hn
    unfold nilOf at hn
    split at hn
    all_goals first | (cases hn; done) | skip
    all_goals simp only [Option.some.injEq] at hn; subst hn
    · cases ha with | d ha => cases ha; exact .inl ⟨_, _, rfl, rfl, rfl⟩
    · cases ha with | d ha => cases ha; exact .inl ⟨_, _, rfl, rfl, rfl⟩
    · cases ha; exact .inl ⟨_, _, rfl, rfl, rfl⟩
    · cases ha with | d ha => cases ha; exact .inr (.inl ⟨_, _, _, _, rfl, rfl, rfl⟩)
    · cases ha with
      | d ha =>
        cases ha with
        | @sl _ _ a cap vs hc hm hsz hn hv hD hr =>
          cases a with
          | none => exact absurd (hn rfl).1 (by simp)
          | some a => exact .inr (.inl ⟨_, _, _, _, rfl, rfl, rfl⟩)
    · cases ha with
      | @sr _ _ _ bi a cap hb hh hd =>
        cases hd with
        | sl vs hc hm hsz hn hv hD hr =>
          cases a with
          | none => exact absurd (hn rfl).1 (by simp)
          | some a => exact .inr (.inl ⟨_, _, _, _, rfl, rfl, rfl⟩)
    · cases ha; exact .inr (.inl ⟨_, _, _, _, rfl, rfl, rfl⟩)
    · cases ha with
      | @vs _ _ _ _ cap c bi a ad hb hh hc hm hn hx =>
        cases ad with
        | none => have := hn.2.1 rfl; omega
        | some a => exact .inr (.inl ⟨_, _, _, _, rfl, rfl, rfl⟩)
    · cases ha with | d ha => cases ha; exact .inr (.inr (.inl ⟨_, _, _, rfl, rfl, rfl⟩))
    · cases ha; exact .inr (.inr (.inl ⟨_, _, _, rfl, rfl, rfl⟩))
    · cases ha with | d ha => cases ha; exact .inr (.inr (.inr (.inl ⟨_, _, _, rfl, .inl ⟨rfl, rfl⟩⟩)))
    · cases ha with | d ha => cases ha; exact .inr (.inr (.inr (.inl ⟨_, _, _, rfl, .inr ⟨_, _, _, rfl, rfl⟩⟩)))
    · cases ha; exact .inr (.inr (.inr (.inl ⟨_, _, _, rfl, .inr ⟨_, _, _, rfl, rfl⟩⟩)))
    · cases ha; exact .inr (.inr (.inr (.inl ⟨_, _, _, rfl, .inr ⟨_, _, _, rfl, rfl⟩⟩)))
    · cases ha with | d ha => cases ha; exact .inr (.inr (.inr (.inr ⟨_, rfl, .inl ⟨rfl, rfl⟩⟩)))
    · cases ha with | d ha => cases ha; exact .inr (.inr (.inr (.inr ⟨_, rfl, .inr ⟨_, _, rfl, rfl⟩⟩)))
  rcases key x p v hx h1 with ⟨e, o, rfl, rfl, rfl⟩ | ⟨e, o, n, c, rfl, rfl, rfl⟩ | ⟨k, e, o, rfl, rfl, rfl⟩ | ⟨a, b, c, rfl, h⟩ | ⟨m, rfl, h⟩
  · rcases key y q u hy h2 with ⟨e', o', he, rfl, rfl⟩ | ⟨_, _, _, _, he, _⟩ | ⟨_, _, _, he, _⟩ | ⟨_, _, _, he, _⟩ | ⟨_, he, _⟩ <;> cases he
    cases o <;> cases o' <;> simp at hpq <;> simp [Op.equalIn, run_underlying hu]
  · rcases key y q u hy h2 with ⟨e', o', he, rfl, rfl⟩ | ⟨_, _, _, _, he, rfl, rfl⟩ | ⟨_, _, _, he, _⟩ | ⟨_, _, _, he, _⟩ | ⟨_, he, _⟩ <;> cases he
    rename_i o' _ _
    cases o <;> cases o' <;> simp at hpq <;> simp [Op.equalIn, run_underlying hu]
  · rcases key y q u hy h2 with ⟨e', o', he, rfl, rfl⟩ | ⟨_, _, _, _, he, _⟩ | ⟨_, _, o', he, rfl, rfl⟩ | ⟨_, _, _, he, _⟩ | ⟨_, he, _⟩ <;> cases he
    cases o <;> cases o' <;> simp at hpq <;> simp [Op.equalIn, run_underlying hu]
  · rcases key y q u hy h2 with ⟨e', o', he, rfl, rfl⟩ | ⟨_, _, _, _, he, _⟩ | ⟨_, _, o', he, _⟩ | ⟨_, _, _, he, h'⟩ | ⟨_, he, _⟩ <;> cases he
    rcases h with ⟨rfl, rfl⟩ | ⟨f, x, y, rfl, rfl⟩ <;> rcases h' with ⟨rfl, rfl⟩ | ⟨f, x, y, rfl, rfl⟩ <;> simp at hpq <;> simp [Op.equalIn, run_underlying hu]
  · rcases key y q u hy h2 with ⟨e', o', he, rfl, rfl⟩ | ⟨_, _, _, _, he, _⟩ | ⟨_, _, o', he, _⟩ | ⟨_, _, _, he, _⟩ | ⟨_, he, h'⟩ <;> cases he
    rcases h with ⟨rfl, rfl⟩ | ⟨f, x, rfl, rfl⟩ <;> rcases h' with ⟨rfl, rfl⟩ | ⟨f, x, rfl, rfl⟩ <;> simp at hpq <;> simp [Op.equalIn, run_underlying hu]
theorem nilOf_agg {kd : TypeDesc} {x : AV} {p : Bool} {us : Array Value} (hx : RepA D β x (.agg us)) (h1 : nilOf kd x = some p) : False := by
  unfold nilOf at h1
  split at h1
  all_goals first | (cases h1; done) | skip
  all_goals first | (cases hx; done) | (cases hx with | d hx => cases hx)
theorem nilOf_iface {kd : TypeDesc} {x : AV} {p : Bool} (hx : RepA D β x .nilIface) (h1 : nilOf kd x = some p) : p = true ∧ isIface kd = true := by
  unfold nilOf at h1
  split at h1
  all_goals first | (cases h1; done) | skip
  all_goals first | (cases hx; done) | (cases hx with | d hx => cases hx) | skip
  all_goals simp only [Option.some.injEq] at h1; subst h1; exact ⟨rfl, rfl⟩
theorem nil_ok (hE : TyOK P E) (hp : Heap D β objs w) (op : BinOp) (t : TypeId) (xo yo : Operand) {x y : AV} {v u : Value} (hx : RepA D β x v) (hy : RepA D β y u) :
    ValOK P D β objs w (do eqGuard op t xo yo v u; binOp op t v u) (nilR E op t (isC xo || isC yo) x y objs) := by
  unfold nilR
  split
  · rename_i d hd
    have hu := (hE t d hd).und
    split
    · rename_i p q h1 h2
      split
      · rename_i hb
        have hb := Bool.and_eq_true_iff.1 hb
        have he : (Op.equal t v u).run P w = .ok (p && q) w := nilOf_ok (w := w) (P := P) hu hx hy h1 h2 hb.1 9999
        have hg : (eqGuard op t xo yo v u).run P w = .ok () w := by
          have na : ∀ us, v ≠ .agg us := by rintro us rfl; exact nilOf_agg hx h1
          by_cases hn : v = .nilIface ∧ u = .nilIface
          · obtain ⟨rfl, rfl⟩ := hn
            obtain ⟨rfl, ai⟩ := nilOf_iface hx h1
            obtain ⟨rfl, _⟩ := nilOf_iface hy h2
            have hc := hb.2
            simp only [ai, Bool.and_self, Bool.not_true, Bool.or_false] at hc
            cases op <;> cases xo <;> cases yo <;> simp [isC] at hc <;> simp [eqGuard]
          · cases op
            all_goals first | (simp [eqGuard]; done) | skip
            all_goals (cases v <;> first | (exact absurd rfl (na _)) | (cases u <;> first | (exact absurd ⟨rfl, rfl⟩ hn) | simp [eqGuard]))
        have hbin : ∀ r, (Op.equal t v u).run P w = .ok r w → ((binOp .eql t v u).run P w = .ok (.bool r) w ∧ (binOp .neq t v u).run P w = .ok (.bool (!r)) w) := by
          intro r hr
          have n1 : ∀ k n, v ≠ .int k n := by intro k n e; subst e; unfold nilOf at h1; split at h1 <;> first | (cases h1; done) | (cases hx; done) | (cases hx with | d hx => cases hx)
          have n2 : ∀ n, v ≠ .string n := by intro n e; subst e; unfold nilOf at h1; split at h1 <;> first | (cases h1; done) | (cases hx; done) | (cases hx with | d hx => cases hx)
          have n3 : ∀ k n, v ≠ .float k n := by intro k n e; subst e; unfold nilOf at h1; split at h1 <;> first | (cases h1; done) | (cases hx; done) | (cases hx with | d hx => cases hx)
          have n4 : ∀ k n m, v ≠ .complex k n m := by intro k n m e; subst e; unfold nilOf at h1; split at h1 <;> first | (cases h1; done) | (cases hx; done) | (cases hx with | d hx => cases hx)
          constructor
          · unfold binOp
            split
            all_goals first | (exact absurd rfl (n1 _ _)) | (exact absurd rfl (n2 _)) | (exact absurd rfl (n3 _ _)) | (exact absurd rfl (n4 _ _ _)) | skip
            all_goals first | (simp [hr]; done) | simp_all
          · unfold binOp
            split
            all_goals first | (exact absurd rfl (n1 _ _)) | (exact absurd rfl (n2 _)) | (exact absurd rfl (n3 _ _)) | (exact absurd rfl (n4 _ _ _)) | skip
            all_goals first | (simp [hr]; done) | simp_all
        split
        · exact .pure hp (fun _ => ⟨_, by simp only [Sem.run_bind, hg, Result.andThen_ok, (hbin _ he).1], .d .bool⟩)
        · exact .pure hp (fun _ => ⟨_, by simp only [Sem.run_bind, hg, Result.andThen_ok, (hbin _ he).2], .d .bool⟩)
        · exact .none
      · exact .none
    · exact .none
  · exact .none
theorem TyOK1.info? {t : TypeId} {y : Ty} (h : TyOK1 P t y) : ∃ i, P.info? t = some i ∧ i.size = y.size := by
  obtain ⟨i, z, h1, h2, _⟩ := h.info
  exact ⟨i, h1, h2⟩
theorem ptr_ok (hE : TyOK P E) (hp : Heap D β objs w) (op : BinOp) (t : TypeId) (xo yo : Operand) {i a j b : Nat} {v u : Value} (hx : RepA D β (.bp i a) v) (hy : RepA D β (.bp j b) u) :
    ValOK P D β objs w (do eqGuard op t xo yo v u; binOp op t v u) (ptrR E op t i a j b objs) := by
  unfold ptrR
  split
  · rename_i e _ _ _ ht
    have hu := (hE t _ ht).und
    simp only at hu
    split
    · rename_i ye he
      obtain ⟨ie, hie, _⟩ := (hE e ye he).info?
      split
      · rename_i hc
        simp only [Bool.and_eq_true] at hc
        have e1 := Nat.eq_of_beq_eq_true hc.1
        have e2 := Nat.eq_of_beq_eq_true hc.2
        subst e1 e2
        cases hx with
        | @bp _ _ bi hb =>
          cases hy with
          | @bp _ _ bj hb2 =>
            rw [hb] at hb2; cases hb2
            have heq : ∀ d : Nat, (Op.equalIn (d + 1) t (.pointer (some ⟨bi.blk, a, none⟩)) (.pointer (some ⟨bi.blk, a, none⟩))).run P w = .ok true w := fun d => by
              simp [Op.equalIn, run_underlying hu, sizeOf, typeInfo, hie, run_sameAddr_same]
            split
            · exact .pure hp (fun _ => ⟨.bool true, by simp [eqGuard, binOp, Op.equal, Op.maxDepth, heq 9999], .d .bool⟩)
            · exact .pure hp (fun _ => ⟨.bool false, by simp [eqGuard, binOp, Op.equal, Op.maxDepth, heq 9999], .d .bool⟩)
            · exact .none
      · exact .none
    · exact .none
  · exact .none
theorem bin_ok (hE : TyOK P E) (hS : PlainOK P E) (hp : Heap D β objs w) (op : BinOp) (t : TypeId) (xo yo : Operand) {x y : AV} {v u : Value} (hx : RepA D β x v) (hy : RepA D β y u) :
    ValOK P D β objs w (do eqGuard op t xo yo v u; binOp op t v u) (binR E op t (isC xo || isC yo) x y objs) := by
  unfold binR
  split
  · rename_i k a k' b
    cases hx with
    | d hx =>
      cases hx
      cases hy with
      | d hy =>
        cases hy
        have hg : (eqGuard op t xo yo (.int k a) (.int k' b)).run P w = .ok () w := by cases op <;> simp [eqGuard]
        split
        · intro av o c he hc
          simp only [Option.map_eq_some_iff, Prod.mk.injEq] at he
          obtain ⟨⟨n, c'⟩, he, rfl, rfl, rfl⟩ := he
          obtain ⟨v, h1, h2⟩ := shift_ok (P := P) (w := w) (D := D) (t := t) (k' := k') he hc
          exact ⟨v, w, D, β, by simp only [Sem.run_bind, hg, Result.andThen_ok, h1], Step.refl hp, .d h2⟩
        · intro av o c he hc
          simp only [Option.map_eq_some_iff, Prod.mk.injEq] at he
          obtain ⟨⟨n, c'⟩, he, rfl, rfl, rfl⟩ := he
          obtain ⟨v, h1, h2⟩ := shift_ok (P := P) (w := w) (D := D) (t := t) (k' := k') he hc
          exact ⟨v, w, D, β, by simp only [Sem.run_bind, hg, Result.andThen_ok, h1], Step.refl hp, .d h2⟩
        · rename_i n1 n2
          split
          · rename_i hk
            have := kindB_eq hk
            subst this
            intro av o c he hc
            simp only [Option.map_eq_some_iff, Prod.mk.injEq] at he
            obtain ⟨⟨n, c'⟩, he, rfl, rfl, rfl⟩ := he
            obtain ⟨v, h1, h2⟩ := int_ok (P := P) (w := w) (D := D) (t := t) he hc ⟨fun e => n1 e, fun e => n2 e⟩
            exact ⟨v, w, D, β, by simp only [Sem.run_bind, hg, Result.andThen_ok, h1], Step.refl hp, .d h2⟩
          · exact .none
  · rename_i a b
    cases hx with
    | d hx =>
      cases hx with
      | @str _ ba ha =>
        cases hy with
        | d hy =>
          cases hy with
          | @str _ bb hb =>
            have hg : (eqGuard op t xo yo (.string ba) (.string bb)).run P w = .ok () w := by cases op <;> simp [eqGuard]
            intro av o c he hc
            simp only [Option.map_eq_some_iff, Prod.mk.injEq] at he
            obtain ⟨⟨n, c'⟩, he, rfl, rfl, rfl⟩ := he
            obtain ⟨v, h1, h2⟩ := str_ok (P := P) (w := w) (D := D) (t := t) ha hb he hc
            exact ⟨v, w, D, β, by simp only [Sem.run_bind, hg, Result.andThen_ok, h1], Step.refl hp, .d h2⟩
  · rename_i a b
    cases hx with
    | d hx =>
      cases hx
      cases hy with
      | d hy =>
        cases hy
        have hg : (eqGuard op t xo yo (.bool a) (.bool b)).run P w = .ok () w := by cases op <;> simp [eqGuard]
        have hT : boolT E t = true → P.underlying t = some .bool := by
          intro h
          unfold boolT at h
          split at h
          · rename_i hty; exact (hE t _ hty).und
          · cases h
        split
        · rename_i ht
          exact .pure hp (fun _ => ⟨_, by simp [hg, binOp, Op.equal, Op.maxDepth, run_equalIn_bool' w 9999 t a b (hT ht)], .d .bool⟩)
        · rename_i ht
          exact .pure hp (fun _ => ⟨_, by simp [hg, binOp, Op.equal, Op.maxDepth, run_equalIn_bool' w 9999 t a b (hT ht)], .d .bool⟩)
        · exact .none
  · rename_i xs ys
    cases hx with
    | d hx =>
      cases hx with
      | @agg _ us a1 a2 a3 =>
        cases hy with
        | d hy =>
          cases hy with
          | @agg _ vs b1 b2 b3 =>
            have run : ∀ r, eqAgg E t xs ys = some r → (Op.equal t (.agg us) (.agg vs)).run P w = .ok r w ∧ (eqGuard op t xo yo (.agg us) (.agg vs)).run P w = .ok () w := by
              intro r h
              unfold eqAgg at h
              split at h
              · rename_i y hy
                split at h
                · rename_i ha
                  refine ⟨eqT_ok hE hS 9992 8 t xs ys r _ _ h ⟨y, hy, by rw [ha]; exact ⟨us, rfl, a1, a2, a3⟩⟩ ⟨y, hy, by rw [ha]; exact ⟨vs, rfl, b1, b2, b3⟩⟩, ?_⟩
                  have hg := (hS t y hy).2 ha
                  cases op <;> simp [eqGuard, hg]
                · cases h
              · cases h
            split
            · intro av o c he hc
              simp only [Option.map_eq_some_iff, Prod.mk.injEq] at he
              obtain ⟨r, hr, rfl, rfl, rfl⟩ := he
              obtain ⟨h1, h2⟩ := run r hr
              exact ⟨.bool r, w, D, β, by simp only [Sem.run_bind, h2, Result.andThen_ok, binOp, h1, Sem.run_pure], Step.refl hp, .d .bool⟩
            · intro av o c he hc
              simp only [Option.map_eq_some_iff, Prod.mk.injEq] at he
              obtain ⟨r, hr, rfl, rfl, rfl⟩ := he
              obtain ⟨h1, h2⟩ := run r hr
              exact ⟨.bool (!r), w, D, β, by simp only [Sem.run_bind, h2, Result.andThen_ok, binOp, h1, Sem.run_pure], Step.refl hp, .d .bool⟩
            · exact .none
  · exact ptr_ok hE hp op t xo yo hx hy
  · exact nil_ok hE hp op t xo yo hx hy
theorem un_ok (hp : Heap D β objs w) (op : UnOp) {x : AV} {v : Value} (hx : RepA D β x v) : ValOK P D β objs w (Op.unary op v) (unR op x objs) := by
  unfold unR
  split
  · cases hx with
    | d h => cases h; exact .pure hp (fun _ => ⟨_, rfl, .d .bool⟩)
  · cases hx with
    | d h => cases h; exact .pure hp (fun _ => ⟨_, rfl, .d .int⟩)
  · exact .none
theorem pickA_rep {c : Bool} {a b : AV} {u v : Value} (ha : RepA D β a u) (hb : RepA D β b v) : RepA D β (pickA c a b) (if c then u else v) := by
  unfold pickA
  split
  · cases ha with
    | d ha =>
      cases ha
      cases hb with
      | d hb => cases hb; cases c <;> exact .d .bool
  · cases c
    · exact hb
    · exact ha
theorem extract_ok (hp : Heap D β objs w) (i : Nat) {x : AV} {v : Value} (hx : RepA D β x v) : ValOK P D β objs w (Instr.extract v i) (extractR x i objs) := by
  unfold extractR
  split
  · rename_i vs
    cases hx with
    | @tup _ us hl hr =>
      split
      · rename_i a ha
        have hlt : i < us.size := by rw [hl]; exact (List.getElem?_eq_some_iff.1 ha).1
        exact .pure hp (fun _ => ⟨us[i], by simp [Instr.extract, hlt], hr i a _ ha (by simp [hlt])⟩)
      · exact .none
  · exact .none
end
section
variable {P : Program} {E : PT Ty} {D : DMap} {β : List Bi} {objs : List Ob} {w : World}
theorem flatD_append (a b : List DV) : flatD (a ++ b) = flatD a ++ flatD b := by simp [flatD]
theorem flat_take {es : List DV} {sz : Nat} (hsz : ∀ e, e ∈ es → (cellsD e).length = sz) (n : Nat) : flatD (es.take n) = (flatD es).take (n * sz) := by
  induction es generalizing n with
  | nil => simp [flatD]
  | cons x r ih =>
    have hx := hsz x (by simp)
    cases n with
    | zero => simp [flatD]
    | succ n =>
      have := ih (fun e he => hsz e (by simp [he])) n
      simp only [flatD, List.take_succ_cons, List.flatMap_cons] at this ⊢
      rw [this, List.take_append, hx, Nat.succ_mul, List.take_of_length_le (l := cellsD x) (i := n * sz + sz) (by omega), Nat.add_sub_cancel]
theorem flat_drop {es : List DV} {sz : Nat} (hsz : ∀ e, e ∈ es → (cellsD e).length = sz) (n : Nat) : flatD (es.drop n) = (flatD es).drop (n * sz) := by
  induction es generalizing n with
  | nil => simp [flatD]
  | cons x r ih =>
    have hx := hsz x (by simp)
    cases n with
    | zero => simp [flatD]
    | succ n =>
      have := ih (fun e he => hsz e (by simp [he])) n
      simp only [flatD, List.drop_succ_cons, List.flatMap_cons] at this ⊢
      rw [this, List.drop_append, hx, Nat.succ_mul, List.drop_of_length_le (l := cellsD x) (i := n * sz + sz) (by omega), Nat.add_sub_cancel, List.nil_append]
theorem cellsD_one {c : DV} {v : Value} (h : RepD D c v) (h1 : v.oneCell' = true) : cellsD c = [c] := by
  cases c <;> first | rfl | skip
  cases h
  simp [Value.oneCell'] at h1
theorem bnd_some {v : Option AV} {u : Option Value} {i : Int} (h : bnd v = some (some i)) (hr : ∀ x, v = some x → ∃ y, u = some y ∧ RepA D β x y) : ∃ k, u = some (.int k i) := by
  unfold bnd at h
  split at h
  · cases h
  · rename_i k j
    cases h
    obtain ⟨y, rfl, hy⟩ := hr _ rfl
    cases hy with
    | d hy => cases hy; exact ⟨k, rfl⟩
  · cases h
theorem bnd_none {v : Option AV} {u : Option Value} (h : bnd v = some none) (hn : v = none → u = none) : u = none := by
  unfold bnd at h
  split at h
  · exact hn rfl
  · cases h
  · cases h
theorem sl_part {sz l h m len cap : Nat} {es : List DV} {a : Option Addr} (hr : RepD D (.sl sz es) (.slice a len cap)) (h1 : l ≤ h) (h2 : h ≤ m) (h3 : m ≤ cap) (h4 : h ≤ es.length) :
    RepD D (.sl sz ((es.take h).drop l)) (.slice (if m = l then a else a.map (·.add (l * sz))) (h - l) (m - l)) := by
  cases hr with
  | sl vs hc hm hsz hn hv hD hr' =>
    have hlen : ((es.take h).drop l).length = h - l := by simp; omega
    have hsz' : ∀ e, e ∈ (es.take h).drop l → (cellsD e).length = sz := fun e he => hsz e (List.mem_of_mem_take (List.mem_of_mem_drop he))
    have hfl := flat_length hsz
    have hfl' := flat_length hsz'
    have hflat : flatD ((es.take h).drop l) = ((flatD es).take (h * sz)).drop (l * sz) := by
      rw [flat_drop (fun e he => hsz e (List.mem_of_mem_take he)), flat_take hsz]
    have hmul : h * sz ≤ es.length * sz := Nat.mul_le_mul_right _ h4
    rw [← hlen]
    refine .sl ((vs.take (h * sz)).drop (l * sz)) (by omega) (by omega) hsz' ?_ ?_ ?_ ?_
    · intro ha
      by_cases e : m = l
      · refine ⟨?_, by omega⟩
        have : h - l = 0 := by omega
        rw [this] at hlen
        exact List.length_eq_zero_iff.1 hlen
      · rw [if_neg e] at ha
        have ha' : a = none := by cases a <;> simp at ha ⊢
        have := (hn ha').2
        omega
    · rw [hflat]; simp [hv]
    · intro ad ha
      by_cases e : m = l
      · rw [if_pos e] at ha
        obtain ⟨g1, g2⟩ := hD ad ha
        refine ⟨.inl (by omega), fun j v hj => ?_⟩
        rw [List.getElem?_drop, List.getElem?_take] at hj
        have : h = l := by omega
        subst this
        rw [if_neg (by omega)] at hj; cases hj
      · rw [if_neg e] at ha
        cases a with
        | none => simp at ha
        | some a0 =>
          obtain ⟨g1, g2⟩ := hD a0 rfl
          have g1 : a0.spot = none := g1.resolve_left (by omega)
          simp only [Option.map_some, Option.some.injEq] at ha
          rw [addr_add g1] at ha
          subst ha
          refine ⟨.inr rfl, fun j v hj => ?_⟩
          rw [List.getElem?_drop, List.getElem?_take] at hj
          split at hj
          · have := g2 _ v hj
            simpa [Nat.add_assoc] using this
          · cases hj
    · intro j c v hc' hj
      rw [hflat, List.getElem?_drop, List.getElem?_take] at hc'
      rw [List.getElem?_drop, List.getElem?_take] at hj
      split at hj
      · rename_i hlt; rw [if_pos hlt] at hc'; exact hr' _ c v hc' hj
      · cases hj
structure Bounds (lo hi mx : Option Value) (len cap l h m : Nat) : Prop where
  cm : (mx = none ∧ m = cap) ∨ (∃ k, mx = some (.int k m) ∧ m ≤ cap ∧ hi ≠ none)
  ch : (hi = none ∧ h = len) ∨ (∃ k, hi = some (.int k h))
  cl : (lo = none ∧ l = 0) ∨ (∃ k, lo = some (.int k l))
  lh : l ≤ h
  hm : h ≤ m
theorem sliceBounds_run {isS : Bool} {len cap l h m : Nat} {lo hi mx : Option Value} (b : Bounds lo hi mx len cap l h m) :
    (Instr.sliceBounds isS len cap lo hi mx).run P w = .ok (l, h, m) w := by
  obtain ⟨hm, hh, hl, lh, hm'⟩ := b
  have hb : ∀ (k : IntKind) (i y : Nat) (c : BoundsCode), i ≤ y → (Instr.sliceBound (.int k i) y c).run P w = .ok i w := by
    intro k i y c h
    simp [Instr.sliceBound, asIntOf, h]
  rcases hm with ⟨rfl, rfl⟩ | ⟨k, rfl, h1, h2⟩ <;> rcases hh with ⟨rfl, rfl⟩ | ⟨k', rfl⟩ <;> rcases hl with ⟨rfl, rfl⟩ | ⟨k'', rfl⟩ <;>
    simp_all [Instr.sliceBounds]
theorem bounds_of {lo hi mx : Option AV} {lo' hi' mx' : Option Int} {ul uh um : Option Value} {n cap len : Nat} (el : bnd lo = some lo') (eh : bnd hi = some hi') (em : bnd mx = some mx')
    (rl : ∀ x, lo = some x → ∃ y, ul = some y ∧ RepA D β x y) (rh : ∀ x, hi = some x → ∃ y, uh = some y ∧ RepA D β x y) (rm : ∀ x, mx = some x → ∃ y, um = some y ∧ RepA D β x y)
    (nl : lo = none → ul = none) (nh : hi = none → uh = none) (nm : mx = none → um = none) (hlen : n = len) (hcap : n ≤ cap)
    (hc : cutC lo' hi' n = true) (hmx : maxC hi' mx' n = true) :
    ∃ l h m, Bounds ul uh um len cap l h m ∧ m ≤ cap ∧ h ≤ n ∧ (l = (lo'.getD 0).toNat ∧ h = (hi'.getD n).toNat ∧ (mx' = none → m = cap)) ∧ ∀ {α : Type} (x : List α), x.length = n → cutL lo' hi' x = (x.take h).drop l := by
  subst hlen
  cases lo' with
  | none =>
    have e1 := bnd_none el nl
    cases hi' with
    | none =>
      have e2 := bnd_none eh nh
      cases mx' with
      | none =>
        have e3 := bnd_none em nm
        exact ⟨0, n, cap, ⟨.inl ⟨e3, rfl⟩, .inl ⟨e2, rfl⟩, .inl ⟨e1, rfl⟩, by omega, hcap⟩, Nat.le_refl _, Nat.le_refl _, ⟨by simp, by simp, by simp⟩, fun x hx => by simp [cutL, ← hx]⟩
      | some m => simp [maxC] at hmx
    | some b =>
      obtain ⟨k2, e2⟩ := bnd_some eh rh
      simp only [cutC, Bool.and_eq_true, decide_eq_true_eq] at hc
      obtain ⟨b, rfl⟩ := Int.eq_ofNat_of_zero_le hc.1
      cases mx' with
      | none =>
        have e3 := bnd_none em nm
        exact ⟨0, b, cap, ⟨.inl ⟨e3, rfl⟩, .inr ⟨k2, e2⟩, .inl ⟨e1, rfl⟩, by omega, by omega⟩, Nat.le_refl _, by omega, ⟨by simp, by simp, by simp⟩, fun x hx => by simp [cutL]⟩
      | some m =>
        obtain ⟨k3, e3⟩ := bnd_some em rm
        simp only [maxC, Bool.and_eq_true, decide_eq_true_eq] at hmx
        obtain ⟨m, rfl⟩ := Int.eq_ofNat_of_zero_le (a := m) (by omega)
        exact ⟨0, b, m, ⟨.inr ⟨k3, e3, by omega, by rw [e2]; simp⟩, .inr ⟨k2, e2⟩, .inl ⟨e1, rfl⟩, by omega, by omega⟩, by omega, by omega, ⟨by simp, by simp, by simp⟩, fun x hx => by simp [cutL]⟩
  | some a =>
    obtain ⟨k1, e1⟩ := bnd_some el rl
    cases hi' with
    | none =>
      have e2 := bnd_none eh nh
      simp only [cutC, Bool.and_eq_true, decide_eq_true_eq] at hc
      obtain ⟨a, rfl⟩ := Int.eq_ofNat_of_zero_le hc.1
      cases mx' with
      | none =>
        have e3 := bnd_none em nm
        exact ⟨a, n, cap, ⟨.inl ⟨e3, rfl⟩, .inl ⟨e2, rfl⟩, .inr ⟨k1, e1⟩, by omega, hcap⟩, Nat.le_refl _, Nat.le_refl _, ⟨by simp, by simp, by simp⟩, fun x hx => by simp [cutL, ← hx]⟩
      | some m => simp [maxC] at hmx
    | some b =>
      obtain ⟨k2, e2⟩ := bnd_some eh rh
      simp only [cutC, Bool.and_eq_true, decide_eq_true_eq] at hc
      obtain ⟨a, rfl⟩ := Int.eq_ofNat_of_zero_le hc.1.1
      obtain ⟨b, rfl⟩ := Int.eq_ofNat_of_zero_le (a := b) (by omega)
      cases mx' with
      | none =>
        have e3 := bnd_none em nm
        exact ⟨a, b, cap, ⟨.inl ⟨e3, rfl⟩, .inr ⟨k2, e2⟩, .inr ⟨k1, e1⟩, by omega, by omega⟩, Nat.le_refl _, by omega, ⟨by simp, by simp, by simp⟩, fun x hx => by simp [cutL]⟩
      | some m =>
        obtain ⟨k3, e3⟩ := bnd_some em rm
        simp only [maxC, Bool.and_eq_true, decide_eq_true_eq] at hmx
        obtain ⟨m, rfl⟩ := Int.eq_ofNat_of_zero_le (a := m) (by omega)
        exact ⟨a, b, m, ⟨.inr ⟨k3, e3, by omega, by rw [e2]; simp⟩, .inr ⟨k2, e2⟩, .inr ⟨k1, e1⟩, by omega, by omega⟩, by omega, by omega, ⟨by simp, by simp, by simp⟩, fun x hx => by simp [cutL]⟩
theorem sliceAt_slice_run {t e : TypeId} {y : Ty} {len cap l h m : Nat} {a : Option Addr} {lo hi mx : Option Value} (hu : P.underlying t = some (.slice e)) (hT : TyOK1 P e y) (b : Bounds lo hi mx len cap l h m) :
    (Instr.sliceAt t (.slice a len cap) lo hi mx).run P w = .ok (.slice (if m = l then a else a.map (·.add (l * y.size))) (h - l) (m - l)) w := by
  simp [Instr.sliceAt, Instr.slice, run_underlying hu, sliceBounds_run b, run_sizeOf hT]
theorem slice_ok (hE : TyOK P E) (hp : Heap D β objs w) (t : TypeId) {x : AV} {v : Value} {lo hi mx : Option AV} {ul uh um : Option Value} (hx : RepA D β x v)
    (rl : ∀ x, lo = some x → ∃ y, ul = some y ∧ RepA D β x y) (rh : ∀ x, hi = some x → ∃ y, uh = some y ∧ RepA D β x y) (rm : ∀ x, mx = some x → ∃ y, um = some y ∧ RepA D β x y)
    (nl : lo = none → ul = none) (nh : hi = none → uh = none) (nm : mx = none → um = none) :
    ValOK P D β objs w (Instr.sliceAt t v ul uh um) (sliceR E t x lo hi mx objs) := by
  unfold sliceR
  split
  · rename_i y lo' hi' mx' hty el eh em
    have hu := (hE t _ hty).und
    split
    · rename_i hd
      rw [hd] at hu
      split
      · rename_i s
        cases hx with
        | d hx =>
          cases hx with
          | @str _ b hs =>
            have hl := str_size hs
            refine .pure hp (fun hc => ?_)
            obtain ⟨l, h, m, hb, _, hle, _, hcut⟩ := bounds_of el eh em rl rh rm nl nh nm hl (Nat.le_of_eq hl) hc (by cases hi' <;> rfl)
            have emx := bnd_none em nm
            subst emx
            refine ⟨.string (b.extract l h), ?_, .d (.str ?_)⟩
            · simp [Instr.sliceAt, Instr.slice, run_underlying hu, sliceBounds_run (P := P) (w := w) (isS := false) hb]
            · rw [Lib.extract_data, hcut s rfl, hs, List.drop_take, List.map_take, List.map_drop]
      · exact .none
    · rename_i e hd
      rw [hd] at hu
      split
      · rename_i ye sz es hye
        split
        · rename_i hsz
          have hsz := Nat.eq_of_beq_eq_true hsz
          cases hx with
          | d hx =>
            cases hx with
            | @sl _ _ a cap vs g1 g2 g3 g4 g5 g6 g7 =>
              refine .pure hp (fun hc => ?_)
              simp only [Bool.and_eq_true] at hc
              obtain ⟨l, h, m, hb, hmc, hle, _, hcut⟩ := bounds_of el eh em rl rh rm nl nh nm rfl g1 hc.1 hc.2
              refine ⟨_, sliceAt_slice_run hu (hE e _ hye) hb, .d ?_⟩
              rw [hcut es rfl, hsz]
              exact sl_part (.sl vs g1 g2 g3 g4 g5 g6 g7) hb.lh hb.hm hmc hle
        · exact .none
      · rename_i ye ri sz es hye
        split
        · rename_i hsz
          have hsz := Nat.eq_of_beq_eq_true hsz
          cases hx with
          | @sr _ _ _ bi a cap hb1 hb2 hx =>
            have hle0 : es.length ≤ cap := by cases hx with | sl vs g1 => exact g1
            refine .pure hp (fun hc => ?_)
            simp only [Bool.and_eq_true] at hc
            obtain ⟨l, h, m, hb, hmc, hle, _, hcut⟩ := bounds_of el eh em rl rh rm nl nh nm rfl hle0 hc.1 hc.2
            refine ⟨_, sliceAt_slice_run hu (hE e _ hye) hb, .d ?_⟩
            rw [hcut es rfl, hsz]
            exact sl_part hx hb.lh hb.hm hmc hle
        · exact .none
      · rename_i ye hye
        cases hx with
        | d hx =>
          cases hx
          refine .pure hp (fun hc => ?_)
          simp only [Bool.and_eq_true] at hc
          obtain ⟨l, h, m, hb, hmc, hle, _, hcut⟩ := bounds_of (n := 0) el eh em rl rh rm nl nh nm rfl (Nat.le_refl 0) hc.1 hc.2
          have : m = l := by have := hb.lh; have := hb.hm; omega
          refine ⟨_, sliceAt_slice_run hu (hE e _ hye) hb, .d ?_⟩
          have h0 : h - l = 0 := by omega
          rw [if_pos this, h0, show m - l = 0 from by omega]
          exact .nilsl
      · rename_i ye ri sz l0 len hye
        split
        · split
          · rename_i hsz
            have hsz := Nat.eq_of_beq_eq_true hsz
            cases hx with
            | @vs _ _ _ _ cap c bi a ad hb1 hb2 hle0 hm0 hn hx0 =>
              refine .pure hp (fun hc => ?_)
              obtain ⟨l, h, m, hb, hmc, hle, ⟨el', eh', em'⟩, _⟩ := bounds_of (n := len) el eh em rl rh rm nl nh nm rfl hle0 hc (by cases hi' <;> rfl)
              have hm := em' rfl
              subst hm
              refine ⟨_, sliceAt_slice_run hu (hE e _ hye) hb, ?_⟩
              rw [← el', ← eh', hsz]
              have hlh := hb.lh
              refine .vs hb1 hb2 (by omega) (by omega) ⟨hn.1, fun h => ?_, fun x h => ?_⟩ (fun hor => ?_)
              · by_cases e : m = l
                · omega
                · rw [if_neg e] at h
                  cases ad with
                  | none => have := hn.2.1 rfl; omega
                  | some ad => cases h
              · by_cases e : m = l
                · rw [if_pos e] at h; exact hn.2.2 x h
                · rw [if_neg e] at h
                  cases ad with
                  | none => cases h
                  | some ad => simp only [Option.map_some, Option.some.injEq] at h; rw [← h, addr_add (hn.2.2 ad rfl)]
              obtain ⟨rfl, hcap⟩ := hx0 (by rcases hor with h | h <;> omega)
              refine ⟨?_, by omega⟩
              by_cases e : m = l
              · rw [if_pos e]
                have : l = 0 := by rcases hor with h | h <;> omega
                subst this; simp
              · rw [if_neg e]
                cases a with
                | none => rfl
                | some a0 => simp only [Option.map_some]; rw [addr_add rfl]; simp [Nat.add_mul]
          · exact .none
        · exact .none
      · exact .none
    · rename_i n e hd
      rw [hd] at hu
      split
      · rename_i ye b off hye
        split
        · rename_i hcond
          simp only [Bool.and_eq_true] at hcond
          cases hx with
          | @bp _ _ bi hb0 =>
            refine .pure hp (fun _ => ?_)
            obtain ⟨l, h, m, hb, hmc, hle, ⟨el', eh', em'⟩, _⟩ := bounds_of (n := n) el eh em rl rh rm nl nh nm rfl (Nat.le_refl n) hcond.1 (by cases hi' <;> rfl)
            have hm := em' rfl
            subst hm
            rw [← el', ← eh']
            have hne : ¬ m = l := by
              intro e
              have := hcond.2
              rw [← el', ← e] at this
              simp at this
            refine ⟨.slice (some ⟨bi.blk, off + l * ye.size, none⟩) (h - l) (m - l), ?_, .bs hb0⟩
            have := addr_add (a := ⟨bi.blk, off, none⟩) rfl (l * ye.size)
            simp [Instr.sliceAt, Instr.sureAddr, run_underlying hu, sliceBounds_run (P := P) (w := w) (isS := false) hb, run_sizeOf (hE e _ hye), hne, this]
        · exact .none
      · rename_i ye cs hye
        split
        · rename_i hcond
          simp only [Bool.and_eq_true] at hcond
          cases hx with
          | d hx =>
            cases hx with
            | @ep _ ad vs hs hv hD hr =>
              refine .pure hp (fun hc => ?_)
              have hsz := Nat.eq_of_beq_eq_true hcond.1.1
              have hna := Nat.le_of_ble_eq_true hcond.1.2
              have hn := Nat.eq_of_beq_eq_true hcond.2
              obtain ⟨l, h, m, hb, hmc, hle, ⟨el', eh', em'⟩, hcut⟩ := bounds_of (n := n) el eh em rl rh rm nl nh nm rfl (Nat.le_refl n) hc (by cases hi' <;> rfl)
              have hm := em' rfl
              subst hm
              refine ⟨_, by simp [Instr.sliceAt, Instr.sureAddr, run_underlying hu, sliceBounds_run (P := P) (w := w) (isS := false) hb, run_sizeOf (hE e _ hye)]; rfl, .d ?_⟩
              rw [hcut cs hn.symm, hsz]
              have hone : ∀ (j : Nat) c v, cs[j]? = some c → vs[j]? = some v → cellsD c = [c] := fun j c v hc hv' => cellsD_one (hr j c v hc hv') (hp.dh _ _ (hD j v hv')).2.1
              have hone' : ∀ e, e ∈ cs → (cellsD e).length = 1 := by
                intro e he
                obtain ⟨j, hj, rfl⟩ := List.getElem_of_mem he
                rw [hone j _ (vs[j]'(by omega)) (by simp [hj]) (by simp)]; rfl
              have hflat : flatD cs = cs := by
                apply List.ext_getElem?
                intro j
                by_cases hj : j < cs.length
                · have := flat_elem hone' (i := j) (e := cs[j]) (by simp [hj]) 0 (by omega)
                  rw [Nat.mul_one, Nat.add_zero] at this
                  rw [this, hone j cs[j] (vs[j]'(by omega)) (by simp [hj]) (by simp)]
                  simp [hj]
                · rw [List.getElem?_eq_none (by have := flat_length hone'; omega), List.getElem?_eq_none (by omega)]
              have hbase : RepD D (.sl 1 cs) (.slice (some ad) m m) := by
                rw [hn]
                refine .sl vs (Nat.le_refl _) (by simp only [maxLen]; omega) hone' (by simp) (by rw [hflat, hv]) (fun ad' e => ?_) (by rw [hflat]; exact hr)
                cases e; exact ⟨.inr hs, hD⟩
              have := sl_part hbase hb.lh hb.hm (Nat.le_refl _) (by omega)
              by_cases e : m = l
              · simpa [e] using this
              · simpa [e] using this
        · exact .none
      · exact .none
    · exact .none
  · exact .none
end
theorem Step.upd {D D' : DMap} {β : List Bi} {objs : List Ob} {w w' : World} (h : Heap D β objs w) {i : Nat} {bi bi' : Bi} {ob ob' : Ob} (hb : β[i]? = some bi) (ho : objs[i]? = some ob)
    (he : BiExt bi bi') (hs : ∀ ad v, D ad = some v → D' ad = some v) (hdn : ∀ ad v, D' ad = some v → D ad = none → (ownOf bi ob = some ad.block ∨ w.heap.size ≤ ad.block))
    (hdh : ∀ ad v, D' ad = some v → ad.spot = none ∧ v.oneCell' = true ∧ w'.cell? ad = some v)
    (hsize : w.heap.size ≤ w'.heap.size) (hkeep : ∀ k, k < w.heap.size → ownOf bi ob ≠ some k → w'.heap[k]? = w.heap[k]?) (hos : w'.os = w.os) (htape : w'.tape = w.tape) (hout : w'.output = w.output ∧ w.drawn ≤ w'.drawn)
    (hown : ∀ b, ownOf bi' ob' = some b → ownOf bi ob = some b ∨ w.heap.size ≤ b) (hnew : HoldsOb D' (β.set i bi') w' bi' ob') :
    Step D β objs w D' (β.set i bi') (objs.set i ob') w' := by
  have hil : i < β.length := (List.getElem?_eq_some_iff.1 hb).1
  have hio : i < objs.length := (List.getElem?_eq_some_iff.1 ho).1
  have hext : ∀ (j : Nat) x, β[j]? = some x → ∃ y, (β.set i bi')[j]? = some y ∧ BiExt x y := by
    intro j x hx
    by_cases e : i = j
    · subst e; rw [hb] at hx; cases hx; exact ⟨bi', by rw [List.getElem?_set_self hil], he⟩
    · exact ⟨x, by rw [List.getElem?_set_ne e]; exact hx, BiExt.refl x⟩
  have key : ∀ (j : Nat) bj oj c, (β.set i bi')[j]? = some bj → (objs.set i ob')[j]? = some oj → ownOf bj oj = some c → (∃ bj' oj', β[j]? = some bj' ∧ objs[j]? = some oj' ∧ ownOf bj' oj' = some c) ∨ (j = i ∧ w.heap.size ≤ c) := by
    intro j bj oj c h1 h2 h3
    by_cases e : i = j
    · subst e
      rw [List.getElem?_set_self hil] at h1; cases h1
      rw [List.getElem?_set_self hio] at h2; cases h2
      rcases hown c h3 with h4 | h4
      · exact .inl ⟨bi, ob, hb, ho, h4⟩
      · exact .inr ⟨rfl, h4⟩
    · rw [List.getElem?_set_ne e] at h1 h2; exact .inl ⟨bj, oj, h1, h2, h3⟩
  refine ⟨hs, fun ad v h1 h2 => ?_, hext, ⟨hdh, by simp [h.len], fun j bj oj h1 h2 => ?_, fun j k bj bk oj ok c h1 h2 h3 h4 h5 h6 => ?_⟩, hsize, fun k hk hn => ?_, hos, htape, hout, fun b hb' => ?_⟩
  · rcases hdn ad v h1 h2 with h3 | h3
    · exact .inl ⟨i, bi, ob, hb, ho, h3⟩
    · exact .inr h3
  · by_cases e : i = j
    · subst e
      rw [List.getElem?_set_self hil] at h1; cases h1
      rw [List.getElem?_set_self hio] at h2; cases h2
      exact hnew
    · rw [List.getElem?_set_ne e] at h1 h2
      refine (h.hold j bj oj h1 h2).mono hs hext (fun ad v h3 h4 h5 => ?_) (fun b h3 => ?_)
      · rcases hdn ad v h3 h4 with h6 | h6
        · exact e (h.disj i j bi bj ob oj _ hb h1 ho h2 h6 h5)
        · have := h.own_lt ⟨j, bj, oj, h1, h2, h5⟩; omega
      · exact hkeep b (h.own_lt ⟨j, bj, oj, h1, h2, h3⟩) (fun h6 => e (h.disj i j bi bj ob oj _ hb h1 ho h2 h6 h3))
  · rcases key j bj oj c h1 h3 h5 with ⟨bj', oj', a1, a2, a3⟩ | ⟨e1, a1⟩ <;> rcases key k bk ok c h2 h4 h6 with ⟨bk', ok', c1, c2, c3⟩ | ⟨e2, c1⟩
    · exact h.disj j k bj' bk' oj' ok' c a1 c1 a2 c2 a3 c3
    · have := h.own_lt ⟨j, bj', oj', a1, a2, a3⟩; omega
    · have := h.own_lt ⟨k, bk', ok', c1, c2, c3⟩; omega
    · omega
  · refine hkeep k hk (fun h3 => hn ⟨i, bi, ob, hb, ho, h3⟩)
  · obtain ⟨j, bj, oj, h1, h2, h3⟩ := hb'
    rcases key j bj oj b h1 h2 h3 with ⟨bj', oj', a1, a2, a3⟩ | ⟨_, a1⟩
    · exact .inl ⟨j, bj', oj', a1, a2, a3⟩
    · exact .inr a1
section
variable {P : Program} {E : PT Ty} {D : DMap} {β : List Bi} {objs : List Ob} {w : World}
theorem fill_fold (off : Nat) : ∀ (l : List Value) (k : Nat) (arr : Array Value), off + k + l.length ≤ arr.size →
    (l.zipIdx k).foldl (fun (cs : Array Value) (p : Value × Nat) => cs.setIfInBounds (off + p.2) p.1) arr = (splice arr.toList (off + k) l).toArray
  | [], k, arr, _ => by simp [splice_nil]
  | v :: l, k, arr, h => by
    simp only [List.length_cons] at h
    rw [List.zipIdx_cons, List.foldl_cons, fill_fold off l (k + 1) _ (by simp; omega)]
    rw [Array.toList_setIfInBounds, ← Nat.add_assoc, splice_cons _ _ _ _ (by simp; omega)]
def CellsOK (D : DMap) (β : List Bi) (cs : List AV) (vs : Array Value) : Prop :=
  vs.size = cs.length ∧ (∀ (j : Nat) v, vs[j]? = some v → v.oneCell' = true) ∧ ∀ (j : Nat) c v, cs[j]? = some c → vs[j]? = some v → RepA D β c v
theorem CellsOK.spl {cs ds : List AV} {vs us : Array Value} (h : CellsOK D β cs vs) (k : CellsOK D β ds us) {off : Nat} (hl : off + ds.length ≤ cs.length) :
    CellsOK D β (cs.take off ++ ds ++ cs.drop (off + ds.length)) (splice vs.toList off us.toList).toArray := by
  obtain ⟨h1, h2, h3⟩ := h
  obtain ⟨k1, k2, k3⟩ := k
  have hl' : off + us.toList.length ≤ vs.toList.length := by simp [h1, k1]; omega
  refine ⟨by simp [splice, h1, k1], fun j v hv => ?_, fun j c v hc hv => ?_⟩
  · simp only [List.getElem?_toArray] at hv
    rw [getElem?_splice _ _ _ hl'] at hv
    split at hv
    · exact h2 j v (by simpa using hv)
    · split at hv
      · exact k2 _ v (by simpa using hv)
      · exact h2 j v (by simpa using hv)
  · have hc' : (splice cs off ds)[j]? = some c := hc
    rw [getElem?_splice _ _ _ hl] at hc'
    simp only [List.getElem?_toArray] at hv
    rw [getElem?_splice _ _ _ hl'] at hv
    have e : us.toList.length = ds.length := by simp [k1]
    rw [e] at hv
    split at hc'
    · rename_i hj; rw [if_pos hj] at hv; exact h3 j c v hc' (by simpa using hv)
    · rename_i hj
      rw [if_neg hj] at hv
      split at hc'
      · rename_i hk; rw [if_pos hk] at hv; exact k3 _ c v hc' (by simpa using hv)
      · rename_i hk; rw [if_neg hk] at hv; exact h3 j c v hc' (by simpa using hv)
theorem fill_ok (place placeV : Nat → Option (Nat × Nat)) : ∀ (parts : List (Nat × AV)) (partsV : List (Nat × Value)) (cs : List AV) (vs : Array Value) (cs' : List AV)
    (_ : parts.length = partsV.length) (_ : ∀ (j : Nat) p q, parts[j]? = some p → partsV[j]? = some q → p.1 = q.1 ∧ RepA D β p.2 q.2) (_ : ∀ i p, place i = some p → placeV i = some p)
    (_ : CellsOK D β cs vs) (_ : fillA place cs parts = some cs'), ∃ vs', Instr.fill placeV vs partsV = some vs' ∧ CellsOK D β cs' vs'
  | [], [], cs, vs, cs', _, _, _, h, he => by simp [fillA] at he; subst he; exact ⟨vs, rfl, h⟩
  | [], _ :: _, _, _, _, hl, _, _, _, _ => by simp at hl
  | _ :: _, [], _, _, _, hl, _, _, _, _ => by simp at hl
  | (i, a) :: parts, (i', u) :: partsV, cs, vs, cs', hl, hr, hp, h, he => by
    obtain ⟨e1, hau⟩ := hr 0 (i, a) (i', u) rfl rfl
    simp only at e1 hau
    subst e1
    simp only [fillA] at he
    cases hpl : place i with
    | none => rw [hpl] at he; cases he
    | some os =>
      obtain ⟨off, size⟩ := os
      rw [hpl] at he
      simp only at he
      split at he
      · rename_i hcond
        simp only [Bool.and_eq_true] at hcond
        obtain ⟨⟨hk, hlen⟩, hle⟩ := hcond
        have hlen := Nat.eq_of_beq_eq_true hlen
        have hle := Nat.le_of_ble_eq_true hle
        obtain ⟨k1, k2, k3⟩ := cells_rep hau hk
        have hc : CellsOK D β (cs.take off ++ a.cells ++ cs.drop (off + a.cells.length)) (splice vs.toList off u.cells.toList).toArray :=
          h.spl ⟨k1, k3, k2⟩ (by omega)
        rw [hlen] at hc
        obtain ⟨vs', g1, g2⟩ := fill_ok place placeV parts partsV _ _ cs' (by simpa using hl) (fun j p q hp hq => hr (j + 1) p q (by simpa using hp) (by simpa using hq)) hp hc he
        refine ⟨vs', ?_, g2⟩
        simp only [Instr.fill, hp i _ hpl]
        have hu : u.cells.size = size := by rw [k1, hlen]
        rw [if_neg (by rw [hu, h.1]; simp; omega)]
        have hf : u.cells.zipIdx.foldl (fun (cs : Array Value) (p : Value × Nat) => cs.setIfInBounds (off + p.2) p.1) vs = (splice vs.toList off u.cells.toList).toArray := by
          rw [← Array.foldl_toList, Array.toList_zipIdx]
          exact fill_fold off u.cells.toList 0 vs (by simp [k1, hlen, h.1]; omega)
        rw [hf]
        exact g1
      · cases he
theorem zero_ok {t : TypeId} {y : Ty} (hT : TyOK1 P t y) : ∃ i z, P.info? t = some i ∧ (zeroValue t).run P w = .ok z w ∧ CellsOK D β (y.zero.map .d) z.cells ∧ y.zero.length = y.size ∧ i.bytes = y.bytes := by
  obtain ⟨i, z, h1, h2, h3, h4, h5, h6, h7, h8⟩ := hT.info
  refine ⟨i, z, h1, by simp [zeroValue, run_typeInfo h1, h4], ⟨by simp [h5, h6], h8, fun j c v hc hv => ?_⟩, h6, h3⟩
  simp only [List.getElem?_map, Option.map_eq_some_iff] at hc
  obtain ⟨c', hc', rfl⟩ := hc
  exact .d (h7 j c' v hc' hv).zero
theorem fields_run {F : Field → Sem (Nat × Nat)} (hF : ∀ f y, E.get? f.type = some y → (F f).run P w = .ok (f.offset, y.size) w) (fs : Array Field) (h : ∀ (i : Nat) f, fs[i]? = some f → ∃ y, E.get? f.type = some y) :
    ∃ ps : Array (Nat × Nat), (fs.mapM F).run P w = .ok ps w ∧ ∀ (i : Nat) f y, fs[i]? = some f → E.get? f.type = some y → ps[i]? = some (f.offset, y.size) := by
  obtain ⟨l⟩ := fs
  rw [Array.mapM_eq_mapM_toList]
  simp only at h ⊢
  have : ∃ ps : List (Nat × Nat), (l.mapM F).run P w = .ok ps w ∧ ∀ (i : Nat) f y, l[i]? = some f → E.get? f.type = some y → ps[i]? = some (f.offset, y.size) := by
    induction l with
    | nil => exact ⟨[], by simp, by simp⟩
    | cons f l ih =>
      obtain ⟨y, hy⟩ := h 0 f (by simp)
      obtain ⟨ps, g1, g2⟩ := ih (fun i f hf => h (i + 1) f (by simpa using hf))
      refine ⟨(f.offset, y.size) :: ps, ?_, fun i f' y' hf hy' => ?_⟩
      · rw [List.mapM_cons]
        simp only [Sem.run_bind, hF f y hy, g1, Result.andThen_ok, Sem.run_pure]
      · cases i with
        | zero => simp at hf; subst hf; rw [hy] at hy'; cases hy'; rfl
        | succ i => simpa using g2 i f' y' (by simpa using hf) hy'
  obtain ⟨ps, g1, g2⟩ := this
  refine ⟨ps.toArray, by simp only [Sem.run_map, g1, Result.andThen_ok], fun i f y hf hy => by simpa using g2 i f y (by simpa using hf) hy⟩
def PartsOK (D : DMap) (β : List Bi) (parts : List (Nat × AV)) (us : Array (Nat × Value)) : Prop :=
  parts.length = us.size ∧ ∀ (j : Nat) p q, parts[j]? = some p → us[j]? = some q → p.1 = q.1 ∧ RepA D β p.2 q.2
theorem build_ok (hE : TyOK P E) (hp : Heap D β objs w) (t : TypeId) {parts : List (Nat × AV)} {us : Array (Nat × Value)} (hr : PartsOK D β parts us)
    (hF : ∀ fs, P.underlying t = some (.struct fs) → ∀ (i : Nat) f, fs[i]? = some f → ∃ y, E.get? f.type = some y) :
    ValOK P D β objs w (Instr.build t us) (buildR E t parts objs) := by
  unfold buildR
  cases hy : E.get? t with
  | none => exact .none
  | some y =>
    have hT := hE t y hy
    obtain ⟨i, z, h1, h2, h3, h4, h5⟩ := zero_ok (D := D) (β := β) (w := w) hT
    have hu := hT.und
    simp only
    split
    · rename_i fs hd
      rw [hd] at hu
      obtain ⟨ps, g1, g2⟩ := fields_run (P := P) (w := w) (E := E) (F := fun f => do pure (f.offset, ← sizeOf f.type)) (fun f y hy => by simp [run_sizeOf (hE _ _ hy)]) fs (hF fs hu)
      split
      · rename_i cs hc
        obtain ⟨vs', k1, k2⟩ := fill_ok _ (ps[·]?) parts us.toList _ _ cs (by simpa using hr.1) (fun j p q hp hq => hr.2 j p q hp (by simpa using hq)) (fun i p hi => by
          split at hi
          · rename_i f hf
            cases hy' : E.get? f.type with
            | none => simp [hy'] at hi
            | some y' => simp [hy'] at hi; rw [← hi]; exact g2 i f y' hf hy'
          · cases hi) h3 hc
        refine .pure hp (fun _ => ⟨.agg vs', ?_, mkAgg_rep k2.1 k2.2.1 k2.2.2⟩)
        simp only [Instr.build, Sem.run_bind, h2, Result.andThen_ok, run_underlying hu, g1, k1, Sem.run_pure]
      · exact .none
    · rename_i n e hd
      rw [hd] at hu
      split
      · rename_i ze hze
        split
        · rename_i cs hc
          obtain ⟨vs', k1, k2⟩ := fill_ok _ (fun i => some (i * ze.size, ze.size)) parts us.toList _ _ cs (by simpa using hr.1) (fun j p q hp hq => hr.2 j p q hp (by simpa using hq)) (fun i p hi => hi) h3 hc
          refine .pure hp (fun _ => ⟨.agg vs', ?_, mkAgg_rep k2.1 k2.2.1 k2.2.2⟩)
          simp only [Instr.build, Sem.run_bind, h2, Result.andThen_ok, run_underlying hu, run_sizeOf (hE e _ hze), k1, Sem.run_pure]
        · exact .none
      · exact .none
    · exact .none
theorem getElem?_repeatL {α : Type} (l : List α) (hl : 0 < l.length) : ∀ (n j : Nat), (repeatL n l)[j]? = if j < n * l.length then l[j % l.length]? else none
  | 0, j => by simp [repeatL]
  | n + 1, j => by
    unfold repeatL
    by_cases h : j < l.length
    · rw [List.getElem?_append_left h, if_pos (by rw [Nat.succ_mul]; omega), Nat.mod_eq_of_lt h]
    · rw [List.getElem?_append_right (by omega), getElem?_repeatL l hl n]
      have e : (j - l.length) % l.length = j % l.length := (Nat.mod_eq_sub_mod (by omega)).symm
      rw [e]
      by_cases h2 : j < (n + 1) * l.length
      · rw [if_pos (by rw [Nat.succ_mul] at h2; omega), if_pos h2]
      · rw [if_neg (by rw [Nat.succ_mul] at h2; omega), if_neg h2]
theorem length_repeatL {α : Type} (l : List α) : ∀ (n : Nat), (repeatL n l).length = n * l.length
  | 0 => by simp [repeatL]
  | n + 1 => by simp only [repeatL, List.length_append, length_repeatL l n, Nat.succ_mul]; omega
theorem zeros_ok {zs : List AV} {z : Array Value} (h : CellsOK D β zs z) (hz : 0 < zs.length) (n : Nat) :
    CellsOK D β (repeatL n zs) ((Array.range (n * z.size)).map (z[· % z.size]!)) := by
  obtain ⟨h1, h2, h3⟩ := h
  have hz' : 0 < z.size := by omega
  have key : ∀ (j : Nat) v, ((Array.range (n * z.size)).map (z[· % z.size]!))[j]? = some v → j < n * z.size ∧ z[j % z.size]? = some v := by
    intro j v hv
    rw [Array.getElem?_map, Array.getElem?_range] at hv
    split at hv
    · rename_i hj
      simp only [Option.map_some, Option.some.injEq] at hv
      have hm : j % z.size < z.size := Nat.mod_lt _ hz'
      refine ⟨hj, ?_⟩
      rw [← hv, Array.getElem?_eq_getElem hm, getElem!_pos z _ hm]
    · cases hv
  refine ⟨by simp [length_repeatL, h1], fun j v hv => h2 _ v (key j v hv).2, fun j c v hc hv => ?_⟩
  obtain ⟨k1, k2⟩ := key j v hv
  rw [getElem?_repeatL zs hz, if_pos (by rw [← h1]; exact k1)] at hc
  rw [h1] at k2
  exact h3 _ c v hc k2
theorem chunk_length (agg : Bool) (sz : Nat) : ∀ (n : Nat) (cs : List DV), (chunk agg sz n cs).length = n
  | 0, _ => rfl
  | n + 1, cs => by simp [chunk, chunk_length agg sz n]
theorem chunk_flat {agg : Bool} {sz : Nat} (ha : agg = true ∨ sz = 1) : ∀ (n : Nat) (cs : List DV), n * sz ≤ cs.length → (∀ c, c ∈ cs → cellsD c = [c]) →
    flatD (chunk agg sz n cs) = cs.take (n * sz) ∧ ∀ e, e ∈ chunk agg sz n cs → (cellsD e).length = sz
  | 0, cs, _, _ => ⟨by simp [chunk, flatD], by simp [chunk]⟩
  | n + 1, cs, hl, h1 => by
    rw [Nat.succ_mul] at hl
    obtain ⟨i1, i2⟩ := chunk_flat ha n (cs.drop sz) (by simp; omega) (fun c hc => h1 c (List.mem_of_mem_drop hc))
    have hc : cellsD (elemA agg sz cs) = cs.take sz := by
      cases agg with
      | true => rfl
      | false =>
        rcases ha with ha | ha
        · cases ha
        · subst ha
          cases cs with
          | nil => simp at hl
          | cons c cs => simp [elemA, h1 c (by simp)]
    constructor
    · simp only [chunk, flatD, List.flatMap_cons] at i1 ⊢
      rw [hc, i1, Nat.succ_mul, Nat.add_comm, List.take_add]
    · intro e he
      simp only [chunk, List.mem_cons] at he
      rcases he with rfl | he
      · rw [hc]; simp; omega
      · exact i2 e he
end
section
variable {P : Program} {E : PT Ty} {D : DMap} {β : List Bi} {objs : List Ob} {w : World}
def DCells (D : DMap) (ds : List DV) (vs : List Value) : Prop :=
  vs.length = ds.length ∧ (∀ (j : Nat) v, vs[j]? = some v → v.oneCell' = true) ∧ ∀ (j : Nat) c v, ds[j]? = some c → vs[j]? = some v → RepD D c v
theorem DCells.of {ds : List DV} {vs : Array Value} (h : CellsOK D β (ds.map .d) vs) : DCells D ds vs.toList := by
  refine ⟨by simpa using h.1, fun j v hv => h.2.1 j v (by simpa using hv), fun j c v hc hv => ?_⟩
  have := h.2.2 j (.d c) v (by simp [hc]) (by simpa using hv)
  cases this with
  | d h => exact h
theorem DCells.ofF {cs : List AV} {ds : List DV} {vs : Array Value} (h : CellsOK D β cs vs) (hf : allF cs = some ds) : DCells D ds vs.toList := by
  have hl := (allF_rep (D := D) (β := β) hf).1
  exact ⟨by simpa [hl] using h.1, fun j v hv => h.2.1 j v (by simpa using hv), fun j c v hc hv => allF_at hf hc (fun c hc => h.2.2 j c v hc (by simpa using hv))⟩
theorem DCells.one {ds : List DV} {vs : List Value} (h : DCells D ds vs) : ∀ c, c ∈ ds → cellsD c = [c] := by
  intro c hc
  obtain ⟨j, hj, rfl⟩ := List.getElem_of_mem hc
  have hj' : j < vs.length := by rw [h.1]; exact hj
  exact cellsD_one (h.2.2 j _ vs[j] (by simp [hj]) (by simp [hj'])) (h.2.1 j _ (by simp [hj']))
theorem DCells.mono {D' : DMap} (hs : ∀ ad v, D ad = some v → D' ad = some v) {ds : List DV} {vs : List Value} (h : DCells D ds vs) : DCells D' ds vs :=
  ⟨h.1, h.2.1, fun j c v hc hv => (h.2.2 j c v hc hv).mono hs⟩
theorem DCells.append {ds ds' : List DV} {vs vs' : List Value} (h : DCells D ds vs) (k : DCells D ds' vs') : DCells D (ds ++ ds') (vs ++ vs') := by
  refine ⟨by simp [h.1, k.1], fun j v hv => ?_, fun j c v hc hv => ?_⟩
  · by_cases hj : j < vs.length
    · rw [List.getElem?_append_left hj] at hv; exact h.2.1 j v hv
    · rw [List.getElem?_append_right (by omega)] at hv; exact k.2.1 _ v hv
  · by_cases hj : j < vs.length
    · rw [List.getElem?_append_left hj] at hv; rw [List.getElem?_append_left (by rw [← h.1]; exact hj)] at hc; exact h.2.2 j c v hc hv
    · rw [List.getElem?_append_right (by omega)] at hv; rw [List.getElem?_append_right (by rw [← h.1]; omega), ← h.1] at hc; exact k.2.2 _ c v hc hv
theorem sl_of {es : List DV} {sz cap : Nat} {b off : Nat} {vs : List Value} (hsz : ∀ e, e ∈ es → (cellsD e).length = sz) (hc : es.length ≤ cap) (hm : cap ≤ maxLen) (h : DCells D (flatD es) vs)
    (hD : ∀ (j : Nat) v, vs[j]? = some v → D ⟨b, off + j, none⟩ = some v) : RepD D (.sl sz es) (.slice (some ⟨b, off, none⟩) es.length cap) :=
  .sl vs hc hm hsz (by simp) h.1 (fun ad e => by cases e; exact ⟨.inr rfl, hD⟩) h.2.2
theorem getElem?_take_of {α : Type} {l : List α} {n j : Nat} {x : α} (h : (l.take n)[j]? = some x) : l[j]? = some x ∧ j < n := by
  rw [List.getElem?_take] at h
  split at h
  · rename_i hj; exact ⟨h, hj⟩
  · cases h
theorem fillA_length (place : Nat → Option (Nat × Nat)) : ∀ (parts : List (Nat × AV)) (cs cs' : List AV), fillA place cs parts = some cs' → cs'.length = cs.length
  | [], cs, cs', h => by simp [fillA] at h; rw [h]
  | (i, a) :: parts, cs, cs', h => by
    simp only [fillA] at h
    split at h
    · cases h
    · split at h
      · rename_i hc
        simp only [Bool.and_eq_true] at hc
        have h1 := Nat.eq_of_beq_eq_true hc.1.2
        have h2 := Nat.le_of_ble_eq_true hc.2
        rw [fillA_length place parts _ _ h]
        simp; omega
      · cases h
theorem buildSlice_ok (hE : TyOK P E) (hp : Heap D β objs w) (room : Bool) (t : TypeId) (len : Nat) {parts : List (Nat × AV)} {us : Array (Nat × Value)} (hr : PartsOK D β parts us) :
    ValOK P D β objs w (Instr.buildSlice t len us) (buildSliceR E room t len parts objs) := by
  unfold buildSliceR
  split
  · rename_i e _ _ _ hty
    have hu := (hE t _ hty).und
    simp only at hu
    split
    · rename_i z hz
      have hT := hE e z hz
      obtain ⟨i, zv, h1, h2, h3, h4, h5⟩ := zero_ok (D := D) (β := β) (w := w) hT
      split
      · rename_i hcond
        simp only [Bool.and_eq_true, Bool.or_eq_true] at hcond
        obtain ⟨⟨hb1, hb2⟩, hb3⟩ := hcond
        have hb1 := Nat.le_of_ble_eq_true hb1
        have hb2 := Nat.le_of_ble_eq_true hb2
        have hzl : 0 < (z.zero.map AV.d).length := by simp [h4]; omega
        have hzs := zeros_ok h3 hzl len
        have hsz : zv.cells.size = z.size := by rw [h3.1]; simp [h4]
        split
        · rename_i cs hfill
          obtain ⟨vs', k1, k2⟩ := fill_ok _ (fun i => some (i * z.size, z.size)) parts us.toList _ _ cs (by simpa using hr.1) (fun j p q hp hq => hr.2 j p q hp (by simpa using hq)) (fun i p hi => hi) hzs hfill
          rw [hsz] at k1
          split
          · rename_i ds hds
            have hdc := DCells.ofF k2 hds
            have hlen : ds.length = len * z.size := by
              have := fillA_length _ _ _ _ hfill
              rw [length_repeatL] at this
              rw [(allF_rep (D := D) (β := β) hds).1, this]
              simp [h4]
            have ha : isAggT z.desc = true ∨ z.size = 1 := by
              rcases hb3 with h | h
              · exact .inl h
              · exact .inr (Nat.eq_of_beq_eq_true h)
            obtain ⟨f1, f2⟩ := chunk_flat ha len ds (by omega) hdc.one
            rw [List.take_of_length_le (by omega)] at f1
            have hcl : (chunk (isAggT z.desc) z.size len ds).length = len := chunk_length _ _ _ _
            have hrun : (Instr.buildSlice t len us).run P w = .ok (.slice (some ⟨w.heap.size, 0, none⟩) len len) (w.alloc (.cells vs' e)) := by
              simp only [Instr.buildSlice, Sem.run_bind, run_underlying hu, Result.andThen_ok, run_sizeOf hT]
              rw [if_neg (by omega)]
              by_cases h0 : len * z.size = 0
              · rw [if_pos h0]
                have e0 : (Array.range (len * z.size)).map (fun x => (#[] : Array Value)[x % (#[] : Array Value).size]!) = (Array.range (len * z.size)).map (fun x => zv.cells[x % z.size]!) := by rw [h0]; simp
                simp only [Sem.run_bind, Sem.run_pure, Result.andThen_ok, e0, k1]
                simp [newRow]
              · rw [if_neg h0]
                simp only [Sem.run_bind, h2, Result.andThen_ok, Sem.run_pure, hsz, k1]
                simp [newRow]
            have hm : len ≤ maxLen := by
              have : len ≤ len * z.size := Nat.le_mul_of_pos_right _ (by omega)
              simp only [maxLen]; omega
            have hone : ∀ (j : Nat) v, vs'[j]? = some v → v.oneCell' = true := k2.2.1
            have hvl : vs'.size = len * z.size := by have := hdc.1; simp at this; omega
            have hst := Step.extNew hp vs' vs'.size e hone
            have hsl : RepD (extD D w.heap.size (vs'.toList.take vs'.size)) (.sl z.size (chunk (isAggT z.desc) z.size len ds)) (.slice (some ⟨w.heap.size, 0, none⟩) len len) := by
              have := sl_of (D := extD D w.heap.size (vs'.toList.take vs'.size)) (b := w.heap.size) (off := 0) (cap := len) f2 (by rw [hcl]; exact Nat.le_refl _) hm (by rw [f1]; exact hdc.mono hst.dsub) (fun j v hv => by
                rw [Nat.zero_add]; exact extD_new (by rw [List.take_of_length_le (by simp)]; exact hv))
              rw [hcl] at this; exact this
            intro av o c he _
            split at he
            · simp only [pureR, Option.some.injEq, Prod.mk.injEq] at he
              obtain ⟨rfl, rfl, rfl⟩ := he
              refine ⟨_, _, extD D w.heap.size (vs'.toList.take vs'.size), β ++ [⟨0, fun n => if n = len then some (some ⟨w.heap.size, 0, none⟩, len) else none⟩], hrun, ?_, ?_⟩
              · refine Step.push hp (fun k hk => alloc_keep w _ k hk) (by simp) rfl rfl ⟨rfl, by first | exact Nat.le_refl _ | exact Nat.le_succ _ | exact Nat.le_add_right _ 2⟩ hst.dsub (fun ad v h1 h2 => ?_) (fun b hb => ?_) ?_
                · have := hst.heap.dh ad v h1
                  obtain ⟨e1, e2, e3⟩ := extD_inv h1 h2
                  exact ⟨by omega, this.1, this.2.1, this.2.2⟩
                · simp only [ownOf, if_pos, Option.bind_some] at hb
                  rw [show Nat.ble len len = true from Nat.ble_eq_true_of_le (Nat.le_refl _)] at hb
                  cases hb
                · refine ⟨some ⟨w.heap.size, 0, none⟩, len, by simp, fun m hm => by simp; omega, Nat.le_refl _, hm, by simp, fun ad e => ?_⟩
                  cases e
                  exact ⟨.inr rfl, fun h => absurd h (Nat.lt_irrefl _)⟩
              · have := RepA.sr (D := extD D w.heap.size (vs'.toList.take vs'.size)) (β := β ++ [⟨0, fun n => if n = len then some (some ⟨w.heap.size, 0, none⟩, len) else none⟩]) (i := objs.length) (sz := z.size)
                  (es := chunk (isAggT z.desc) z.size len ds) (a := some ⟨w.heap.size, 0, none⟩) (cap := len) (by rw [← hp.len]; simp; rfl) (by simp [hcl]) (by rw [hcl]; exact hsl)
                rw [hcl] at this; exact this
            · simp only [pureR, Option.some.injEq, Prod.mk.injEq] at he
              obtain ⟨rfl, rfl, rfl⟩ := he
              exact ⟨_, _, _, β, hrun, hst, .d hsl⟩
          · exact .none
        · exact .none
      · exact .none
    · exact .none
  · exact .none
theorem sl_src (hp : Heap D β objs w) {sz : Nat} {es : List DV} {a : Option Addr} {cap : Nat} (h : RepD D (.sl sz es) (.slice a es.length cap)) :
    ∃ vs : List Value, DCells D (flatD es) vs ∧ (∀ e, e ∈ es → (cellsD e).length = sz) ∧ (Builtin.lenOf (.slice a es.length cap)).run P w = .ok es.length w ∧
      (∀ size, (es = [] ∨ size = sz) → ∀ W : World, W.heap = w.heap → ∀ m, m ≤ es.length → (Builtin.firstCells size m (.slice a es.length cap)).run P W = .ok (vs.take (m * size)).toArray W) ∧
      ∀ ad, a = some ad → (cap = 0 ∨ ad.spot = none) ∧ ∀ (j : Nat) v, vs[j]? = some v → D ⟨ad.block, ad.off + j, none⟩ = some v := by
  cases h with
  | sl vs g1 g2 g3 g4 g5 g6 g7 =>
    refine ⟨vs, ⟨g5, fun j v hv => ?_, g7⟩, g3, rfl, fun size hsize W hW m hm => ?_, g6⟩
    · cases a with
      | none =>
        have := (g4 rfl).1; subst this
        simp [flatD] at g5; subst g5; simp at hv
      | some ad => exact (hp.dh _ _ ((g6 ad rfl).2 j v hv)).2.1
    · cases a with
      | none =>
        have := (g4 rfl).1; subst this
        simp [flatD] at g5; subst g5
        have : m = 0 := by simpa using hm
        subst this; simp [Builtin.firstCells]
      | some ad =>
        obtain ⟨k1, k2⟩ := g6 ad rfl
        have hlen : m * size ≤ vs.length := by
          rw [g5, flat_length g3]
          rcases hsize with rfl | rfl
          · have : m = 0 := by simpa using hm
            subst this; simp
          · exact Nat.mul_le_mul_right _ hm
        simp only [Builtin.firstCells]
        have := run_loadCells P W ad (vs.take (m * size)) (fun j v hv => by
          obtain ⟨hv, _⟩ := getElem?_take_of hv
          have k1 : ad.spot = none := k1.resolve_left (fun h0 => by
            have he : es = [] := List.length_eq_zero_iff.1 (by omega)
            subst he
            simp [flatD] at g5; subst g5; simp at hv)
          rw [addr_add k1, cell_congr (w := w) (by rw [hW])]; exact hp.cell (k2 j v hv))
        rw [List.length_take, Nat.min_eq_left hlen] at this
        exact this
theorem src_ok (hp : Heap D β objs w) {t : TypeId} {x : AV} {v : Value} (hx : RepA D β x v) {sz : Nat} {ys : List DV} (h : srcOf E t x objs = some (sz, ys)) :
    ∃ vs : List Value, DCells D (flatD ys) vs ∧ (∀ e, e ∈ ys → (cellsD e).length = sz) ∧ (Builtin.lenOf v).run P w = .ok ys.length w ∧
      ∀ size, (ys = [] ∨ size = sz) → ∀ W : World, W.heap = w.heap → ∀ m, m ≤ ys.length → (Builtin.firstCells size m v).run P W = .ok (vs.take (m * size)).toArray W := by
  have hsl : ∀ {sz : Nat} {es : List DV} {a : Option Addr} {cap : Nat}, RepD D (.sl sz es) (.slice a es.length cap) → ∃ vs : List Value, DCells D (flatD es) vs ∧ (∀ e, e ∈ es → (cellsD e).length = sz) ∧
      (Builtin.lenOf (.slice a es.length cap)).run P w = .ok es.length w ∧ ∀ size, (es = [] ∨ size = sz) → ∀ W : World, W.heap = w.heap → ∀ m, m ≤ es.length → (Builtin.firstCells size m (.slice a es.length cap)).run P W = .ok (vs.take (m * size)).toArray W := by
    intro sz es a cap h
    obtain ⟨vs, a1, a2, a3, a4, _⟩ := sl_src (P := P) hp h
    exact ⟨vs, a1, a2, a3, a4⟩
  unfold srcOf at h
  split at h
  · rename_i sz' es
    simp only [Option.some.injEq, Prod.mk.injEq] at h
    obtain ⟨rfl, rfl⟩ := h
    cases hx with
    | d hd =>
      cases hd with
      | sl vs g1 g2 g3 g4 g5 g6 g7 => exact hsl (.sl vs g1 g2 g3 g4 g5 g6 g7)
  · simp only [Option.some.injEq, Prod.mk.injEq] at h
    obtain ⟨rfl, rfl⟩ := h
    cases hx with
    | d hd =>
      cases hd
      exact ⟨[], ⟨rfl, by simp, by simp⟩, by simp, rfl, fun _ _ _ _ m hm => by
        have : m = 0 := by simpa using hm
        subst this; simp [Builtin.firstCells]⟩
  · rename_i i sz' es
    simp only [Option.some.injEq, Prod.mk.injEq] at h
    obtain ⟨rfl, rfl⟩ := h
    cases hx with
    | sr g1 g2 hd => exact hsl hd
  · rename_i b off len cap
    split at h
    · rename_i e _ _ _ hty
      split at h
      · rename_i z cs hz ho
        split at h
        · rename_i hcond
          simp only [Option.map_eq_some_iff, Prod.mk.injEq] at h
          obtain ⟨ds, hds, rfl, rfl⟩ := h
          simp only [Bool.and_eq_true, Bool.or_eq_true] at hcond
          obtain ⟨⟨h1, h2⟩, h3⟩ := hcond
          have h1 := Nat.le_of_ble_eq_true h1
          have ha : isAggT z.desc = true ∨ z.size = 1 := by
            rcases h3 with h | h
            · exact .inl h
            · exact .inr (Nat.eq_of_beq_eq_true h)
          cases hx with
          | @bs _ _ _ _ bi hb =>
            obtain ⟨vs, T, g1, g2, g3, g4, _⟩ := box_cells hp hb ho
            have hdl : ds.length = len * z.size := by
              rw [(allF_rep (D := D) (β := β) hds).1]
              simp; omega
            have hdc : DCells D ds ((vs.toList.drop off).take (len * z.size)) := by
              refine ⟨by simp; omega, fun j v hv => ?_, fun j c v hc hv => ?_⟩
              · obtain ⟨hv, _⟩ := getElem?_take_of hv
                rw [List.getElem?_drop] at hv
                exact g4 _ v (by simpa using hv)
              · obtain ⟨hv, hj⟩ := getElem?_take_of hv
                rw [List.getElem?_drop] at hv
                refine allF_at (β := β) hds hc (fun c' hc' => ?_)
                obtain ⟨hc', _⟩ := getElem?_take_of hc'
                rw [List.getElem?_drop] at hc'
                exact g3 _ _ v hc' (by simpa using hv)
            obtain ⟨f1, f2⟩ := chunk_flat ha len ds (by omega) hdc.one
            rw [List.take_of_length_le (by omega)] at f1
            have hcl : (chunk (isAggT z.desc) z.size len ds).length = len := chunk_length _ _ _ _
            refine ⟨_, by rw [f1]; exact hdc, f2, by rw [hcl]; rfl, fun size hsize W hW m hm => ?_⟩
            rw [hcl] at hm
            have hsize' : m * size ≤ len * z.size := by
              rcases hsize with h | h
              · have : len = 0 := by rw [← hcl, h]; rfl
                have : m = 0 := by omega
                subst this; simp
              · rw [h]; exact Nat.mul_le_mul_right _ hm
            simp only [Builtin.firstCells]
            have hl2 : (((vs.toList.drop off).take (len * z.size)).take (m * size)).length = m * size := by simp; omega
            have := run_loadCells P W ⟨bi.blk, off, none⟩ (((vs.toList.drop off).take (len * z.size)).take (m * size)) (fun j v hv => by
              obtain ⟨hv, _⟩ := getElem?_take_of hv
              obtain ⟨hv, _⟩ := getElem?_take_of hv
              rw [List.getElem?_drop] at hv
              rw [addr_add rfl, cell_congr (w := w) (by rw [hW]), cell_of_blk g1]; simpa using hv)
            rw [hl2] at this; exact this
        · cases h
      · cases h
    · cases h
  · rename_i b sz0 lo len
    split at h
    · rename_i ag szr n cs ho
      split at h
      · rename_i hcond
        simp only [Option.map_eq_some_iff, Prod.mk.injEq] at h
        obtain ⟨ds, hds, rfl, rfl⟩ := h
        simp only [Bool.and_eq_true, Bool.or_eq_true] at hcond
        obtain ⟨⟨⟨h1, h2⟩, h3⟩, h4⟩ := hcond
        have h1 := Nat.eq_of_beq_eq_true h1
        have h2 := Nat.le_of_ble_eq_true h2
        have h3 := Nat.le_of_ble_eq_true h3
        have ha : ag = true ∨ szr = 1 := h4.imp id (fun h => by rw [h1]; exact Nat.eq_of_beq_eq_true h)
        subst h1
        cases hx with
        | @vs _ _ _ _ cap c bi a ad hb hh hle hm hn hx0 =>
          obtain ⟨a', cap', k1, k2, k3, k4, k5, k6⟩ := hp.hold b bi _ hb ho
          rw [hh] at k1
          simp only [Option.some.injEq, Prod.mk.injEq] at k1
          obtain ⟨rfl, rfl⟩ := k1
          have hmul : lo * szr + len * szr ≤ n * szr := by rw [← Nat.add_mul]; exact Nat.mul_le_mul_right _ h2
          have hmul2 : n * szr ≤ cap * szr := Nat.mul_le_mul_right _ k2
          have hdl : ds.length = len * szr := by
            rw [(allF_rep (D := D) (β := β) hds).1]
            simp; omega
          have hcl : (chunk ag szr len ds).length = len := chunk_length _ _ _ _
          by_cases h0 : len = 0
          · subst h0
            have : ds = [] := List.length_eq_zero_iff.1 (by simpa using hdl)
            subst this
            refine ⟨[], ⟨rfl, by simp, by simp [chunk, flatD]⟩, by simp [chunk], rfl, fun size _ W _ m hm => ?_⟩
            have : m = 0 := by simpa [chunk] using hm
            subst this
            cases ad with
            | none => simp [Builtin.firstCells]
            | some ad => simp [Builtin.firstCells, loadCells, loadCellsFrom]
          · cases a with
            | none => have := k5 rfl; subst this; omega
            | some a0 =>
              obtain ⟨rfl, vs, T, ⟨g1, _⟩, g2, g3, g4, g5⟩ := k6 a0 rfl
              obtain ⟨rfl, _⟩ := hx0 (.inr (by omega))
              have hdc : DCells D ds ((vs.toList.drop (lo * szr)).take (len * szr)) := by
                refine ⟨by simp; omega, fun j v hv => ?_, fun j c v hc hv => ?_⟩
                · obtain ⟨hv, _⟩ := getElem?_take_of hv
                  rw [List.getElem?_drop] at hv
                  exact g4 _ v (by simpa using hv)
                · obtain ⟨hv, hj⟩ := getElem?_take_of hv
                  rw [List.getElem?_drop] at hv
                  refine allF_at (β := β) hds hc (fun c' hc' => ?_)
                  obtain ⟨hc', _⟩ := getElem?_take_of hc'
                  rw [List.getElem?_drop] at hc'
                  exact g3 _ _ v hc' (by simpa using hv)
              obtain ⟨f1, f2⟩ := chunk_flat ha len ds (by omega) hdc.one
              rw [List.take_of_length_le (by omega)] at f1
              refine ⟨_, by rw [f1]; exact hdc, f2, by rw [hcl]; rfl, fun size hsize W hW m hm => ?_⟩
              rw [hcl] at hm
              have hsize' : m * size ≤ len * szr := by
                rcases hsize with h | h
                · have : len = 0 := by rw [← hcl, h]; rfl
                  omega
                · rw [h]; exact Nat.mul_le_mul_right _ hm
              simp only [Builtin.firstCells, Option.map_some]
              have hl2 : (((vs.toList.drop (lo * szr)).take (len * szr)).take (m * size)).length = m * size := by simp; omega
              have := run_loadCells P W ⟨bi.blk, lo * szr, none⟩ (((vs.toList.drop (lo * szr)).take (len * szr)).take (m * size)) (fun j v hv => by
                obtain ⟨hv, _⟩ := getElem?_take_of hv
                obtain ⟨hv, _⟩ := getElem?_take_of hv
                rw [List.getElem?_drop] at hv
                rw [addr_add rfl, cell_congr (w := w) (by rw [hW]), cell_of_blk g1]; simpa using hv)
              rw [hl2] at this; exact this
      · cases h
    · cases h
  · rename_i s
    simp only [Option.some.injEq, Prod.mk.injEq] at h
    obtain ⟨rfl, rfl⟩ := h
    cases hx with
    | d hd =>
      cases hd with
      | @str _ b hs =>
        have hflat : flatD (s.map fun (n : Nat) => DV.int .u8 n) = s.map fun (n : Nat) => DV.int .u8 n := by
          generalize s = s'
          induction s' with
          | nil => rfl
          | cons a r ih => simp only [List.map_cons, flatD, List.flatMap_cons] at ih ⊢; rw [ih]; rfl
        refine ⟨b.data.toList.map fun x => Value.int .u8 x.toNat, ⟨?_, fun j v hv => ?_, fun j c v hc hv => ?_⟩, ?_, ?_, fun size hsize W _ m hm => ?_⟩
        · rw [hflat, hs]; simp
        · simp only [List.getElem?_map, Option.map_eq_some_iff] at hv
          obtain ⟨x, _, rfl⟩ := hv; rfl
        · rw [hflat, hs] at hc
          simp only [List.getElem?_map, Option.map_eq_some_iff] at hv hc
          obtain ⟨x, hx, rfl⟩ := hv
          obtain ⟨n, ⟨y, hy, rfl⟩, rfl⟩ := hc
          rw [hx] at hy; cases hy
          exact .int
        · intro e he
          simp only [List.mem_map] at he
          obtain ⟨n, _, rfl⟩ := he; rfl
        · have : (s.map fun (n : Nat) => DV.int .u8 n).length = b.size := by rw [List.length_map]; exact str_size hs
          rw [this]; rfl
        · have hl : (s.map fun (n : Nat) => DV.int .u8 n).length = b.data.size := by rw [List.length_map]; exact str_size hs
          rw [hl] at hm
          have hms : m * size = m := by
            rcases hsize with h | h
            · have h0 : b.data.size = 0 := by rw [← hl, h]; rfl
              have : m = 0 := by omega
              subst this; simp
            · rw [h]; simp
          rw [hms]
          simp only [Builtin.firstCells, Sem.run_pure]
          congr 1
          apply Array.ext'
          have : (b.extract 0 m).data.toList = b.data.toList.take m := by
            rw [ByteArray.data_extract]; simp
          simp [this, List.map_take]
  · cases h
end
end Go.Av
end

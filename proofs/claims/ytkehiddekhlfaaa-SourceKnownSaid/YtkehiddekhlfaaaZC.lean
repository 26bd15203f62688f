/-
  The abstract layer, part ZC: tables of types and of functions, held against the program.
-/
import Derived.Test.YtkehiddekhlfaaaZB
noncomputable section
namespace Go.Av
open Go

/-- p holds of what stands in the tree, with its number: at node n the left is 2n+1, the right 2n+2, counted from within. -/
def PT.AllAt {α : Type} (p : Nat → α → Prop) : PT α → Prop
  | .nil => True
  | .node l v r => (match v with | some x => p 0 x | none => True) ∧ PT.AllAt (fun n => p (2 * n + 1)) l ∧ PT.AllAt (fun n => p (2 * n + 2)) r

theorem PT.allAt {α : Type} : ∀ {t : PT α} {p : Nat → α → Prop}, PT.AllAt p t → ∀ {n : Nat} {x : α}, t.get? n = some x → p n x
  | .nil, _, _, n, x, h => by cases h
  | .node l v r, p, ha, n, x, h => by
    obtain ⟨h1, h2, h3⟩ := ha
    rw [PT.get?_node] at h
    cases hn : Nat.beq n 0 with
    | true =>
      have : n = 0 := Nat.eq_of_beq_eq_true hn
      subst this
      simp only at h
      subst h
      exact h1
    | false =>
      have n0 := Nat.ne_of_beq_eq_false hn
      simp only [hn] at h
      cases hp : Nat.beq (n % 2) 1 with
      | true =>
        have p1 := Nat.eq_of_beq_eq_true hp
        simp only [hp] at h
        have := PT.allAt h2 h
        rwa [show 2 * (n / 2) + 1 = n by omega] at this
      | false =>
        have p1 := Nat.ne_of_beq_eq_false hp
        simp only [hp] at h
        have := PT.allAt h3 h
        rwa [show 2 * (n / 2 - 1) + 2 = n by omega] at this

def zerosOf : List Value → Option (List DV)
  | [] => some []
  | v :: r => match ofVal v, zerosOf r with
    | some x, some l => some (x :: l)
    | _, _ => none

theorem zerosOf_ok : ∀ {l : List Value} {ds : List DV}, zerosOf l = some ds → ds.length = l.length ∧ ∀ (j : Nat) c v, ds[j]? = some c → l[j]? = some v → RepD (fun _ => none) c v
  | [], ds, h => by simp only [zerosOf, Option.some.injEq] at h; subst h; exact ⟨rfl, fun j c v hc => by simp at hc⟩
  | v :: r, ds, h => by
    simp only [zerosOf] at h
    split at h
    · rename_i x l h1 h2
      simp only [Option.some.injEq] at h
      subst h
      obtain ⟨h3, h4⟩ := zerosOf_ok h2
      refine ⟨by simp [h3], fun j c u hc hu => ?_⟩
      cases j with
      | zero => simp at hc hu; subst hc hu; exact ofVal_rep h1
      | succ j => exact h4 j c u (by simpa using hc) (by simpa using hu)
    · cases h

def allOne : List Value → Bool
  | [] => true
  | v :: r => v.oneCell' && allOne r
theorem allOne_ok : ∀ {l : List Value}, allOne l = true → ∀ (j : Nat) v, l[j]? = some v → v.oneCell' = true
  | [], _, j, v, h => by simp at h
  | u :: r, ha, j, v, h => by
    simp only [allOne, Bool.and_eq_true] at ha
    cases j with
    | zero => simp at h; subst h; exact ha.1
    | succ j => exact allOne_ok ha.2 j v (by simpa using h)

def zvOf (P : Program) (t : TypeId) : List Value := match P.info? t with
  | some i => match i.zero with | some z => z.cells.toList | none => []
  | none => []
/-- A type as the evaluator is told of it. -/
def mkTy (P : Program) (t : TypeId) : Ty :=
  ⟨(P.underlying t).getD .invalid, match P.info? t with | some i => i.size | none => 0, match P.info? t with | some i => i.bytes | none => 0, (zerosOf (zvOf P t)).getD []⟩
def isAggV : Value → Bool
  | .agg _ => true
  | _ => false
def okTy (P : Program) (t : TypeId) : Bool :=
  match P.underlying t, P.info? t with
  | some d, some i => match i.zero with
    | some z => match zerosOf z.cells.toList with
      | some ds => Nat.beq ds.length i.size && allOne z.cells.toList && (match isAggT d, isAggV z with | true, true => true | false, false => true | _, _ => false)
      | none => false
    | none => false
  | _, _ => false

theorem okTy_ok {P : Program} {t : TypeId} (h : okTy P t = true) : TyOK1 P t (mkTy P t) ∧
    ∀ zv i, P.info? t = some i → i.zero = some zv → (isAggT (mkTy P t).desc = true → ∃ cs, zv = .agg cs) ∧ (isAggT (mkTy P t).desc = false → zv.cells = #[zv]) := by
  unfold okTy at h
  split at h
  · rename_i d i hd hi
    split at h
    · rename_i z hz
      split at h
      · rename_i ds hds
        simp only [Bool.and_eq_true] at h
        obtain ⟨⟨h1, h2⟩, h3⟩ := h
        have h1 := Nat.eq_of_beq_eq_true h1
        obtain ⟨h4, h5⟩ := zerosOf_ok hds
        have e : zvOf P t = z.cells.toList := by simp [zvOf, hi, hz]
        refine ⟨⟨by simp [mkTy, hd], i, z, hi, by simp [mkTy, hi], by simp [mkTy, hi], hz, by rw [← Array.length_toList, ← h4, h1]; simp [mkTy, hi], by simp [mkTy, e, hds, hi, h1], ?_, fun j v hv => allOne_ok h2 j v (by simpa using hv)⟩, ?_⟩
        · intro j c v hc hv
          simp only [mkTy, e, hds, Option.getD_some] at hc
          exact h5 j c v hc (by simpa using hv)
        · intro zv i' hi' hzv
          rw [hi] at hi'; cases hi'
          rw [hz] at hzv; cases hzv
          simp only [mkTy, hd, Option.getD_some]
          cases ha : isAggT d <;> cases hb : isAggV z <;> simp [ha, hb] at h3
          · refine ⟨fun h => (by cases h), fun _ => ?_⟩
            cases z <;> first | rfl | cases hb
          · refine ⟨fun _ => ?_, fun h => by cases h⟩
            cases z <;> first | exact ⟨_, rfl⟩ | cases hb
      · cases h
    · cases h
  · cases h

/-- The types of a struct's fields stand in the table. -/
def fieldsIn (E : PT Ty) : List Field → Bool
  | [] => true
  | f :: r => (match E.get? f.type with | some _ => true | none => false) && fieldsIn E r
/-- A struct whose parts are compared one by one; no part is an interface with methods. -/
def plainIn (P : Program) (t : TypeId) : Bool :=
  match P.underlying t with
  | some (.struct fs) => !P.stoodInHeld t && (fs.toList.all (fun f => f.name != "_") && !P.eqGuardType P.depth t)
  | some (.array _ _) => !P.eqGuardType P.depth t
  | _ => true
def tyIn (P : Program) (E : PT Ty) (t : TypeId) : Bool := plainIn P t && (okTy P t && match P.underlying t with | some (.struct fs) => fieldsIn E fs.toList | _ => true)

theorem fieldsIn_ok {E : PT Ty} : ∀ {l : List Field}, fieldsIn E l = true → ∀ (i : Nat) f, l[i]? = some f → ∃ y, E.get? f.type = some y
  | [], _, i, f, h => by simp at h
  | g :: r, ha, i, f, h => by
    simp only [fieldsIn, Bool.and_eq_true] at ha
    cases i with
    | zero =>
      simp at h; subst h
      cases hg : E.get? g.type with
      | some y => exact ⟨y, rfl⟩
      | none => rw [hg] at ha; cases ha.1
    | succ i => exact fieldsIn_ok ha.2 i f (by simpa using h)

def TyAt (P : Program) (E : PT Ty) (t : Nat) (y : Ty) : Prop := y = mkTy P t ∧ tyIn P E t = true

theorem envOK_of {P : Program} {E : PT Ty} (h : PT.AllAt (TyAt P E) E) : EnvOK P E where
  ty t y hy := by
    obtain ⟨rfl, h2⟩ := PT.allAt h hy
    simp only [tyIn, Bool.and_eq_true] at h2
    exact (okTy_ok h2.2.1).1
  zero t y hy := by
    obtain ⟨rfl, h2⟩ := PT.allAt h hy
    simp only [tyIn, Bool.and_eq_true] at h2
    exact (okTy_ok h2.2.1).2
  plain t y hy := by
    obtain ⟨rfl, h2⟩ := PT.allAt h hy
    simp only [tyIn, Bool.and_eq_true] at h2
    obtain ⟨h2, h3, _⟩ := h2
    have hu := (okTy_ok h3).1.und
    unfold plainIn at h2
    rw [hu] at h2
    refine ⟨fun fs e => ?_, fun e => ?_⟩
    · rw [e] at h2
      simp only [Bool.and_eq_true, Bool.not_eq_true', List.all_eq_true, bne_iff_ne, ne_eq] at h2
      exact ⟨h2.1, h2.2.1⟩
    · cases hd : (mkTy P t).desc <;> rw [hd] at e h2 <;> first
        | (cases e; done)
        | (simp only [Bool.and_eq_true, Bool.not_eq_true'] at h2; exact h2.2.2)
        | (simp only [Bool.not_eq_true'] at h2; exact h2)
  fields t fs hu hy i f hf := by
    obtain ⟨y, hy⟩ := hy
    obtain ⟨_, h2⟩ := PT.allAt h hy
    simp only [tyIn, Bool.and_eq_true, hu] at h2
    exact fieldsIn_ok h2.2.2 i f (by simpa using hf)

/-- A function as the evaluator is told of it. -/
def mkFn (f : Func) (h : List Nat) : FnI := ⟨f.ntmps, f.params.size + f.nfree, f.body.getD .skip, f.results, h⟩
def FnAt (P : Program) (n : Nat) (i : FnI) : Prop := FnIs P n i
theorem fnAt {P : Program} {n : Nat} {f : Func} {h : List Nat} (h1 : P.funcs[n]? = some f) (h2 : f.body.isSome = true) (h3 : (f.name == "runtime.NumGoroutine") = false) (h4 : xk h = none := by rfl) : FnAt P n (mkFn f h) := by
  unfold FnAt FnIs
  rw [show (mkFn f h).frz = h from rfl, h4]
  exact ⟨f, h1, by cases hb : f.body with | none => rw [hb] at h2; cases h2 | some c => simp [mkFn, hb], rfl, rfl, h3⟩
/-- A function of the runtime's. -/
def extFn (k : Nat) : FnI := ⟨0, 1, .skip, #[], [300000, k]⟩
theorem extAt0 {P : Program} {n : Nat} {f : Func} (h1 : P.funcs[n]? = some f) (h2 : (f.name == "runtime.NumGoroutine") = false) (h3 : f.body.isNone = true) (h4 : Extern.findNext f = none) (h5 : Extern.find f = some Extern.AbiNoEscape.same) : FnAt P n (extFn 0) :=
  ⟨rfl, fun _ _ => by rw [run_callFunc_extern h1 h2 h3 h4 h5]; rfl⟩
theorem extAt1 {P : Program} {n t : Nat} {f : Func} {ps : Array TypeId} (h1 : P.funcs[n]? = some f) (h2 : (f.name == "runtime.NumGoroutine") = false) (h3 : f.body.isNone = true) (h4 : Extern.findNext f = none) (h5 : Extern.find f = some (Extern.BytealgMakeNoZero.makeNoZero ps #[t])) : FnAt P n (extFn (t + 1)) :=
  ⟨rfl, ps, fun x w => run_callFunc_extern h1 h2 h3 h4 h5 _ w⟩
theorem fnsOK_of {P : Program} {F : PT FnI} (h : PT.AllAt (FnAt P) F) : FnsOK P F.get? := fun _ _ hf => PT.allAt h hf

end Go.Av

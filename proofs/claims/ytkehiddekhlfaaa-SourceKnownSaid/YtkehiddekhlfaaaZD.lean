/-
  The abstract layer, part ZD: calls that were evaluated before, looked up.
-/
import Derived.Test.YtkehiddekhlfaaaZC
noncomputable section
namespace Go.Av
open Go

def intEq : Int → Int → Bool
  | .ofNat a, .ofNat b => Nat.beq a b
  | .negSucc a, .negSucc b => Nat.beq a b
  | _, _ => false
theorem intEq_ok {a b : Int} (h : intEq a b = true) : a = b := by
  cases a <;> cases b <;> simp only [intEq] at h <;> first | rw [Nat.eq_of_beq_eq_true h] | cases h
def natsEq : List Nat → List Nat → Bool
  | [], [] => true
  | a :: r, b :: s => Nat.beq a b && natsEq r s
  | _, _ => false
theorem natsEq_ok : ∀ {a b : List Nat}, natsEq a b = true → a = b
  | [], [], _ => rfl
  | a :: r, b :: s, h => by
    simp only [natsEq, Bool.and_eq_true] at h
    rw [Nat.eq_of_beq_eq_true h.1, natsEq_ok h.2]
  | [], _ :: _, h => by cases h
  | _ :: _, [], h => by cases h
def eqL {α β : Type} (f : α → β → Bool) : List α → List β → Bool
  | [], [] => true
  | a :: r, b :: s => f a b && eqL f r s
  | _, _ => false
theorem eqL_ok {α : Type} {f : α → α → Bool} (hf : ∀ a b, f a b = true → a = b) : ∀ {a b : List α}, eqL f a b = true → a = b
  | [], [], _ => rfl
  | a :: r, b :: s, h => by
    simp only [eqL, Bool.and_eq_true] at h
    rw [hf _ _ h.1, eqL_ok hf h.2]
  | [], _ :: _, h => by cases h
  | _ :: _, [], h => by cases h

/-- Equal data, as far as told. -/
def eqDV : Nat → DV → DV → Bool
  | 0 => fun _ _ => false
  | n + 1 => fun a b =>
    match a with
    | .int k x => (match b with | .int k' y => kindB k k' && intEq x y | _ => false)
    | .str x => (match b with | .str y => natsEq x y | _ => false)
    | .bool true => (match b with | .bool true => true | _ => false)
    | .bool false => (match b with | .bool false => true | _ => false)
    | .nilptr => (match b with | .nilptr => true | _ => false)
    | .nilfunc => (match b with | .nilfunc => true | _ => false)
    | .nilmap => (match b with | .nilmap => true | _ => false)
    | .niliface => (match b with | .niliface => true | _ => false)
    | .nilsl => (match b with | .nilsl => true | _ => false)
    | .sl s x => (match b with | .sl s' y => Nat.beq s s' && eqL (eqDV n) x y | _ => false)
    | .agg x => (match b with | .agg y => eqL (eqDV n) x y | _ => false)
    | .ep x => (match b with | .ep y => eqL (eqDV n) x y | _ => false)
    | .fn (.func f) x u => (match b with | .fn (.func g) y v => Nat.beq f g && (eqL (eqDV n) x y && eqL (eqDV n) u v) | _ => false)
    | .iface t x => (match b with | .iface t' y => Nat.beq t t' && eqDV n x y | _ => false)
    | _ => false
theorem eqDV_ok : ∀ (n : Nat) (a b : DV), eqDV n a b = true → a = b := by
  intro n
  induction n with
  | zero => intro a b h; cases h
  | succ n ih =>
    intro a b h
    have hl : ∀ x y, eqL (eqDV n) x y = true → x = y := fun x y => eqL_ok ih
    simp only [eqDV] at h
    split at h
    · split at h
      · simp only [Bool.and_eq_true] at h; rw [kindB_eq h.1, intEq_ok h.2]
      · cases h
    · split at h
      · rw [natsEq_ok h]
      · cases h
    · split at h
      · rfl
      · cases h
    · split at h
      · rfl
      · cases h
    · split at h
      · rfl
      · cases h
    · split at h
      · rfl
      · cases h
    · split at h
      · rfl
      · cases h
    · split at h
      · rfl
      · cases h
    · split at h
      · rfl
      · cases h
    · split at h
      · simp only [Bool.and_eq_true] at h; rw [Nat.eq_of_beq_eq_true h.1, hl _ _ h.2]
      · cases h
    · split at h
      · rw [hl _ _ h]
      · cases h
    · split at h
      · rw [hl _ _ h]
      · cases h
    · split at h
      · simp only [Bool.and_eq_true] at h; rw [Nat.eq_of_beq_eq_true h.1, hl _ _ h.2.1, hl _ _ h.2.2]
      · cases h
    · split at h
      · simp only [Bool.and_eq_true] at h; rw [Nat.eq_of_beq_eq_true h.1, ih _ _ h.2]
      · cases h
    · cases h

def eqAD : AV → DV → Bool
  | .d x, y => eqDV 12 x y
  | _, _ => false
theorem eqArgs_ok : ∀ {args : List AV} {ds : List DV}, eqL eqAD args ds = true → args = ds.map .d
  | [], [], _ => rfl
  | a :: r, b :: s, h => by
    simp only [eqL, Bool.and_eq_true] at h
    rw [eqArgs_ok h.2]
    obtain ⟨h, _⟩ := h
    unfold eqAD at h
    split at h
    · rw [eqDV_ok _ _ _ h]; rfl
    · cases h
  | [], _ :: _, h => by cases h
  | _ :: _, [], h => by cases h

abbrev Memo := PT (List (List DV × AV))
def lookL (args : List AV) : List (List DV × AV) → Option AV
  | [] => none
  | e :: r => match eqL eqAD args e.1 with
    | true => some e.2
    | false => lookL args r
def look (T : Memo) (f : FuncId) (args : List AV) : Option AV :=
  match T.get? f with
  | some l => match allF args with
    | some ds => lookL (ds.map .d) l
    | none => none
  | none => none

def AllL {α : Type} (p : α → Prop) : List α → Prop
  | [] => True
  | a :: r => p a ∧ AllL p r
def KnownCall (P : Program) (f : FuncId) (args : List DV) (r : AV) : Prop := ∀ o, ACall P f (args.map .d) o r o
def MemoOK (P : Program) (T : Memo) : Prop := PT.AllAt (fun f l => AllL (fun e => KnownCall P f e.1 e.2) l) T

def T0 : Memo := .nil
theorem T0_ok {P : Program} : MemoOK P T0 := trivial

theorem lookL_ok {P : Program} {f : FuncId} {args : List AV} {r : AV} : ∀ {l : List (List DV × AV)}, AllL (fun e => KnownCall P f e.1 e.2) l → lookL args l = some r → ∀ o, ACall P f args o r o
  | [], _, h => by cases h
  | e :: l, ha, h => by
    simp only [lookL] at h
    split at h
    · rename_i he
      simp only [Option.some.injEq] at h
      subst h
      rw [eqArgs_ok he]; exact ha.1
    · exact lookL_ok ha.2 h
theorem look_ok {P : Program} {T : Memo} (hT : MemoOK P T) {f : FuncId} {args : List AV} {r : AV} (h : look T f args = some r) : ∀ o, ACall P f args o r o := by
  unfold look at h
  split at h
  · rename_i l hl
    split at h
    · rename_i ds hds
      have := lookL_ok (PT.allAt hT hl) h
      intro o
      exact ⟨(this o).1, fun D β w vs hp hv => (this o).2 D β w vs hp (allF_reps hds hv)⟩
    · cases h
  · cases h

/-- As evBoth, known calls looked up. -/
def evLook (T : Memo) (E : PT Ty) (F : FuncId → Option FnI) (H : Hd) (n : Nat) (f : FuncId) (args : List AV) (objs : List Ob) : Option (AV × Option (List Ob)) :=
  match look T f args with
  | some r => some (r, none)
  | none => match (match allClosed args with | true => false | false => match F f with | some i => memN 200001 i.frz | none => false) with
    | true => match allM (dvOf objs 8) args with
      | some ds => match look T f (ds.map .d) with
        | some r => match flatAV r with
          | true => some (r, some objs)
          | false => none
        | none => evBoth E F H n f args objs
      | none => none
    | false => evBoth E F H n f args objs

/-- The functions of a program, to a depth; known calls looked up. -/
def hdlM (T : Memo) (E : PT Ty) (F : FuncId → Option FnI) (k : Nat) : Nat → Hd
  | 0 => ⟨fun _ _ _ => none, fun _ _ _ => none, fun _ _ _ => none, fun _ _ _ _ => none⟩
  | n + 1 => ⟨fun f args objs => evLook T E F (hdlM T E F k n) k f args objs, fun i args objs => evYield E (hdlM T E F k n) k i args objs, fun f args objs => evOpn E F f args objs (evCall E F (hdlM T E F k n) k f args objs), fun f args m objs => evDefer E F (hdlM T E F k n) k f args m objs⟩

section
variable {P : Program} {E : PT Ty} {H : Hd}

theorem evBoth_ok (hE : EnvOK P E) (hm : P.follows .mixedOrders = true) {F : FuncId → Option FnI} (hF : FnsOK P F) (ih : HOK P H) {k : Nat} {f : FuncId} {args : List AV} {objs : List Ob} {r : AV} {ob : Option (List Ob)}
    (h : evBoth E F H k f args objs = some (r, ob)) : (∀ objs', ob = some objs' → ACall P f args objs r objs') ∧ (ob = none → ∀ o, ACall P f args o r o) := by
  have call : ((evCall E F H k f args objs).map fun p => (p.1, some p.2)) = some (r, ob) → (∀ objs', ob = some objs' → ACall P f args objs r objs') ∧ (ob = none → ∀ o, ACall P f args o r o) := by
    intro hc
    simp only [Option.map_eq_some_iff, Prod.mk.injEq] at hc
    obtain ⟨⟨a, b⟩, hc, e1, e2⟩ := hc
    subst e1 e2
    exact ⟨fun o e => (by cases e; exact evCall_ok hE ih hm hF hc), fun e => (by cases e)⟩
  unfold evBoth at h
  split at h
  · exact call h
  · split at h
    · split at h
      · rename_i r' hr
        simp only [Option.some.injEq, Prod.mk.injEq] at h
        obtain ⟨rfl, rfl⟩ := h
        refine ⟨fun _ e => (by cases e), fun _ o => ?_⟩
        unfold evPure at hr
        split at hr
        · rename_i hc
          split at hr
          · rename_i r0 o0 he
            exact pure_call hc (evCall_ok hE ih hm hF he) hr o
          · cases hr
        · cases hr
      · exact call h
    · split at h
      · simp only [Option.map_eq_some_iff, Prod.mk.injEq] at h
        obtain ⟨r', h, rfl, rfl⟩ := h
        refine ⟨fun objs' e => ?_, fun e => by cases e⟩
        cases e
        unfold evLent at h
        split at h
        · rename_i ds hds
          split at h
          · rename_i r0 o0 he
            split at h
            · rename_i hfl
              simp only [Option.some.injEq] at h
              subst h
              exact lent_call hds (evCall_ok hE ih hm hF he) hfl
            · cases h
          · cases h
        · cases h
      · exact call h

theorem evLook_ok {T : Memo} (hT : MemoOK P T) (hE : EnvOK P E) (hm : P.follows .mixedOrders = true) {F : FuncId → Option FnI} (hF : FnsOK P F) (ih : HOK P H) {k : Nat} {f : FuncId} {args : List AV} {objs : List Ob} {r : AV} {ob : Option (List Ob)}
    (h : evLook T E F H k f args objs = some (r, ob)) : (∀ objs', ob = some objs' → ACall P f args objs r objs') ∧ (ob = none → ∀ o, ACall P f args o r o) := by
  unfold evLook at h
  split at h
  · rename_i r' hr
    simp only [Option.some.injEq, Prod.mk.injEq] at h
    obtain ⟨rfl, rfl⟩ := h
    exact ⟨fun _ e => (by cases e), fun _ => look_ok hT hr⟩
  · split at h
    · split at h
      · rename_i ds hds
        split at h
        · rename_i r' hr
          split at h
          · rename_i hfl
            simp only [Option.some.injEq, Prod.mk.injEq] at h
            obtain ⟨rfl, rfl⟩ := h
            refine ⟨fun objs' e => ?_, fun e => by cases e⟩
            cases e
            exact lent_call hds (look_ok hT hr []) hfl
          · cases h
        · exact evBoth_ok hE hm hF ih h
      · cases h
    · exact evBoth_ok hE hm hF ih h

theorem hdlM_ok {T : Memo} (hT : MemoOK P T) (hE : EnvOK P E) (hm : P.follows .mixedOrders = true) {F : FuncId → Option FnI} (hF : FnsOK P F) (k : Nat) : ∀ n, HOK P (hdlM T E F k n)
  | 0 => ⟨fun _ _ _ _ _ h => (by cases h), fun _ _ _ _ h => (by cases h), fun _ _ _ _ _ h => (by cases h), fun _ _ _ _ _ h => (by cases h), fun _ _ _ _ _ _ h => (by cases h)⟩
  | n + 1 => by
    have ih := hdlM_ok hT hE hm hF k n
    exact ⟨fun f args objs r objs' h => (evLook_ok hT hE hm hF ih h).1 objs' rfl, fun f args objs r h => (evLook_ok hT hE hm hF ih h).2 rfl,
      fun i args objs r objs' h => evYield_ok hE ih hm h, fun f args objs r objs' h => evOpn_ok hE.ty hF (fun h => evCall_ok hE ih hm hF h) h, fun f args m objs m' objs' h => evDefer_ok hE ih hm hF h⟩

/-- A call, evaluated, is known. -/
theorem known {T : Memo} (hT : MemoOK P T) (hE : EnvOK P E) (hm : P.follows .mixedOrders = true) {F : FuncId → Option FnI} (hF : FnsOK P F) {k n : Nat} {f : FuncId} {args : List DV} {r : AV}
    (h : evBoth E F (hdlM T E F k n) k f (args.map .d) [] = some (r, none)) : KnownCall P f args r :=
  (evBoth_ok hE hm hF (hdlM_ok hT hE hm hF k n) h).2 rfl

end
end Go.Av

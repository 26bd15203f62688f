/-
  The abstract layer, part T: regions whose order is drawn: preparations (congruence, ancestors, the trace).
-/
import Derived.Test.YtkehiddekhlfaaaR
noncomputable section
namespace Go.Av
open Go

/-! ### Only the operands count -/
theorem evOp_congr (E : PT Ty) {rd rd' : Operand → AV} (objs : List Ob) (op : Op) (h : ∀ x ∈ op.operands, rd x = rd' x) : evOp E rd objs op = evOp E rd' objs op := by
  have pairs : ∀ ps : Array (Nat × Operand), (∀ x ∈ ps.map (·.2), rd x = rd' x) → (ps.toList.map fun p => (p.1, rd p.2)) = (ps.toList.map fun p => (p.1, rd' p.2)) := fun ps hp =>
    List.map_congr_left fun p hm => by
      rw [hp p.2 (Array.mem_map.2 ⟨p, by simpa using hm, rfl⟩)]
  have lists : ∀ xs : Array Operand, (∀ x ∈ xs, rd x = rd' x) → xs.toList.map rd = xs.toList.map rd' := fun xs hx => List.map_congr_left fun x hm => hx x (by simpa using hm)
  cases op <;> simp only [Op.operands] at h <;> simp only [evOp]
  case build t ps => rw [pairs ps fun x hx => h x (by simpa using hx)]
  case buildSlice t n ps => rw [pairs ps fun x hx => h x (by simpa using hx)]
  case makeFunc fn first captured => rw [lists first fun x hx => h x (by simp [hx]), lists captured fun x hx => h x (by simp [hx])]
  case slice t x lo hi mx => cases lo <;> cases hi <;> cases mx <;> simp_all
  case makeMap t r => cases r <;> rfl
  case call c =>
    obtain ⟨callee, args, ts⟩ := c
    cases callee with
    | value f => rfl
    | invoke r m => rfl
    | builtin b =>
      obtain ⟨l⟩ := args
      obtain ⟨tl⟩ := ts
      have hl : ∀ x, x ∈ l → rd x = rd' x := fun x hx => h x (by simp [Call.operands, hx])
      have hm : l.map rd = l.map rd' := List.map_congr_left hl
      cases b with
      | len =>
        cases l with
        | nil => rfl
        | cons x l => cases l with
          | nil => cases tl with
            | nil => rfl
            | cons t tl => cases tl with
              | nil => simp [hl x (by simp)]
              | cons t2 tl => rfl
          | cons y l => rfl
      | cap =>
        cases l with
        | nil => rfl
        | cons x l => cases l with
          | nil => cases tl with
            | nil => rfl
            | cons t tl => cases tl with
              | nil => simp [hl x (by simp)]
              | cons t2 tl => rfl
          | cons y l => rfl
      | unsafeSliceData =>
        cases l with
        | nil => rfl
        | cons x l => cases l with
          | nil => cases tl with
            | nil => rfl
            | cons t tl => cases tl with
              | nil => simp [hl x (by simp)]
              | cons t2 tl => rfl
          | cons y l => rfl
      | unsafeString =>
        cases l with
        | nil => rfl
        | cons x l => cases l with
          | nil => rfl
          | cons y l => cases l with
            | cons z l => rfl
            | nil => cases tl with
              | nil => rfl
              | cons t tl => cases tl with
                | nil => rfl
                | cons t2 tl => cases tl with
                  | cons t3 tl => rfl
                  | nil => simp [hl x (by simp), hl y (by simp)]
      | copy =>
        cases l with
        | nil => rfl
        | cons x l => cases l with
          | nil => rfl
          | cons y l => cases l with
            | cons z l => rfl
            | nil => cases tl with
              | nil => rfl
              | cons t tl => cases tl with
                | nil => rfl
                | cons t2 tl => cases tl with
                  | cons t3 tl => rfl
                  | nil => simp [hl x (by simp), hl y (by simp)]
      | append =>
        cases l with
        | nil => rfl
        | cons x l => cases l with
          | nil => rfl
          | cons y l => cases l with
            | cons z l => rfl
            | nil => cases tl with
              | nil => rfl
              | cons t tl => cases tl with
                | nil => rfl
                | cons t2 tl => cases tl with
                  | cons t3 tl => rfl
                  | nil => simp [hl x (by simp), hl y (by simp)]
      | min => simp [hm]
      | max => simp [hm]
      | _ => rfl
  all_goals (first | rfl | (simp_all; done))

theorem evAny_congr (E : PT Ty) (H : Hd) (frz : List Nat) {rd rd' : Operand → AV} (objs : List Ob) (o : Oper) (h : ∀ x ∈ o.op.operands, rd x = rd' x) : evAny E H frz rd objs o = evAny E H frz rd' objs o := by
  have e := evOp_congr E objs o.op h
  obtain ⟨dst, op, ty, pos, after, guard⟩ := o
  simp only at h e
  cases op
  case call c =>
    obtain ⟨callee, args, ts⟩ := c
    cases callee with
    | value f =>
      have hf : rd f = rd' f := h f (by simp [Op.operands, Call.operands])
      have hl : args.toList.map rd = args.toList.map rd' := List.map_congr_left fun x hx => h x (by simp [Op.operands, Call.operands]; exact .inr (by simpa using hx))
      simp only [evAny, hf, hl]
    | invoke r m => simp only [evAny, e]
    | builtin b =>
      cases b with
      | append =>
        obtain ⟨l⟩ := args
        obtain ⟨tl⟩ := ts
        have hl : ∀ x, x ∈ l → rd x = rd' x := fun x hx => h x (by simp [Op.operands, Call.operands, hx])
        cases l with
        | nil => rfl
        | cons x l => cases l with
          | nil => rfl
          | cons y l => cases l with
            | cons z l => rfl
            | nil => cases tl with
              | nil => rfl
              | cons t tl => cases tl with
                | nil => rfl
                | cons t2 tl => cases tl with
                  | cons t3 tl => rfl
                  | nil => simp [evAny, hl x (by simp), hl y (by simp)]
      | _ => simp only [evAny, e]
  case panic x => simp only [evAny, h x (by simp [Op.operands])]
  case box t x => simp only [evAny, e, h x (by simp [Op.operands])]
  case buildSlice t n ps =>
    have : (ps.toList.map fun p => (p.1, rd p.2)) = (ps.toList.map fun p => (p.1, rd' p.2)) := List.map_congr_left fun p hm => by
      rw [h p.2 (by simp [Op.operands]; exact ⟨p.1, by simpa using hm⟩)]
    simp only [evAny, e, this]
  all_goals simp only [evAny, e]

theorem readsAt_congr {rd rd' : Operand → AV} (op : Op) (h : ∀ x ∈ op.operands, rd x = rd' x) : readsAt rd op = readsAt rd' op := by
  cases op <;> simp only [Op.operands] at h <;> simp only [readsAt]
  case load t x => rw [h x (by simp)]
  case convert s t x => rw [h x (by simp)]
  case lookup t x k ok => rw [h x (by simp)]
  case call c =>
    obtain ⟨callee, ⟨l⟩, ts⟩ := c
    cases callee with
    | value f => rfl
    | invoke r m => rfl
    | builtin b =>
      cases b <;> first
        | rfl
        | (cases l with
           | nil => rfl
           | cons x l => cases l with
             | nil => simp [h x (by simp [Call.operands])]
             | cons y l => rfl)

theorem guardA_congr {rd rd' : Operand → AV} (ops : Array Oper) (o : Oper) (h : ∀ t ∈ o.looksAt ops, rd (.tmp t) = rd' (.tmp t)) : guardA ops rd o = guardA ops rd' o := by
  unfold guardA
  cases hg : o.guard with
  | none => rfl
  | some g =>
    obtain ⟨j, want⟩ := g
    simp only
    cases hj : ops[j]? with
    | none => rfl
    | some oj =>
      simp only
      cases hd : oj.dst with
      | none => rfl
      | some d =>
        simp only
        rw [h d (by simp [Oper.looksAt, hg, hj, hd])]

/-- The operands, where the temporaries that the operation looks at agree. -/
theorem looks_operands {rd rd' : Operand → AV} (ops : Array Oper) (o : Oper) (h : ∀ t ∈ o.looksAt ops, rd (.tmp t) = rd' (.tmp t)) (hc : ∀ x : Operand, (∀ t, x ≠ .tmp t) → rd x = rd' x) :
    ∀ x ∈ o.op.operands, rd x = rd' x := by
  intro x hx
  cases x with
  | tmp t => exact h t (List.mem_append_left _ (List.mem_filterMap.2 ⟨.tmp t, by simpa using hx, rfl⟩))
  | const v => exact hc _ (by simp)
  | global g => exact hc _ (by simp)
  | func f => exact hc _ (by simp)

/-! ### What a loud operation changes -/
theorem append_other {objs : List Ob} {x : Ob} {p : Nat} (h : p ≠ objs.length) : (objs ++ [x])[p]? = objs[p]? := by
  by_cases hlt : p < objs.length
  · rw [List.getElem?_append_left hlt]
  · rw [List.getElem?_append_right (by omega), List.getElem?_eq_none (by omega : objs.length ≤ p)]
    simp; omega

theorem set_other {objs : List Ob} {x : Ob} {i p : Nat} (h : p ≠ i) : (objs.set i x)[p]? = objs[p]? := by
  rw [List.getElem?_set_ne (Ne.symm h)]

end Go.Av

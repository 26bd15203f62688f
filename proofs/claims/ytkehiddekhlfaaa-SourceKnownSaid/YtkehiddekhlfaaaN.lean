/-
  The abstract layer, part N: operations that leave the objects as they are.
-/
import Derived.Test.YtkehiddekhlfaaaM
noncomputable section
namespace Go.Av
open Go

/-- The answer does not hang on the objects, and they are left. -/
def QF (f : List Ob → R) : Prop := ∀ o, f o = (f []).map fun p => (p.1, o, p.2.2)

theorem QF.none : QF (fun _ => none) := fun _ => rfl
theorem QF.some {v : AV} {c : Bool} : QF (fun o => some (v, o, c)) := fun _ => rfl
theorem QF.pureR {v : AV} : QF (fun o => pureR v o) := fun _ => rfl
theorem QF.map {α : Type} {x : Option α} {f : α → AV} {g : α → Bool} : QF (fun o => x.map fun p => (f p, o, g p)) := fun o => by cases x <;> rfl

theorem q_pick (c a b : AV) : QF (pickR c a b) := by
  intro o; unfold pickR; split <;> rfl
theorem q_nil (x : AV) : QF (nilCheckR x) := by
  intro o; unfold nilCheckR; split <;> rfl
theorem q_ptr (E : PT Ty) (op : BinOp) (t : TypeId) (i a j b : Nat) : QF (ptrR E op t i a j b) := by
  intro o; unfold ptrR
  split
  · split
    · split
      · split <;> rfl
      · rfl
    · rfl
  · rfl
theorem q_bin (E : PT Ty) (op : BinOp) (t : TypeId) (l : Bool) (x y : AV) : QF (binR E op t l x y) := by
  intro o; unfold binR
  split
  · split
    · exact QF.map o
    · exact QF.map o
    · split
      · exact QF.map o
      · rfl
  · exact QF.map o
  · split <;> rfl
  · split
    · exact QF.map o
    · exact QF.map o
    · rfl
  · exact q_ptr E op t _ _ _ _ o
  · unfold nilR
    split
    · split
      · split
        · split <;> rfl
        · rfl
      · rfl
    · rfl
theorem q_un (op : UnOp) (x : AV) : QF (unR op x) := by
  intro o; unfold unR; split <;> rfl
theorem q_mkIface (E : PT Ty) (t : TypeId) (x : AV) : QF (mkIfaceR E t x) := by
  intro o; unfold mkIfaceR; split
  · split <;> rfl
  · rfl
theorem q_assert (E : PT Ty) (t : TypeId) (ok : Bool) (x : AV) : QF (assertR E t ok x) := by
  intro o; unfold assertR; split
  · split
    · rfl
    · split
      · split
        · rfl
        · rfl
        · split <;> rfl
        · rfl
      · split <;> rfl
      · rfl
  · rfl
theorem q_func (f : Fn) (a b : List AV) : QF (funcR f a b) := by
  intro o; unfold funcR; split <;> rfl
theorem q_extract (x : AV) (i : Nat) : QF (extractR x i) := by
  intro o; unfold extractR
  cases x with
  | tup vs => simp only []; cases vs[i]? <;> rfl
  | _ => rfl
theorem q_min (a : List AV) : QF (minR a) := by
  intro o; unfold minR
  split
  · exact QF.map o
  · rfl
theorem q_max (a : List AV) : QF (maxR a) := by
  intro o; unfold maxR
  split
  · exact QF.map o
  · rfl
theorem q_fieldAddr (E : PT Ty) (t : TypeId) (x : AV) (f : Nat) : QF (fieldAddrR E t x f) := by
  intro o; unfold fieldAddrR
  split
  · split
    · split
      · split
        · rfl
        · split <;> rfl
      · rfl
    · rfl
  · rfl
theorem q_part (E : PT Ty) (t : TypeId) (cs : List AV) (n : Nat) : QF (partR E t cs n) := by
  intro o; unfold partR
  split
  · split
    · split <;> rfl
    · split <;> rfl
  · rfl
theorem q_field (E : PT Ty) (t : TypeId) (x : AV) (f : Nat) : QF (fieldR E t x f) := by
  intro o; unfold fieldR
  split
  · split
    · exact q_part E _ _ _ o
    · rfl
  · rfl
theorem q_indexAddr (E : PT Ty) (t : TypeId) (x i : AV) : QF (indexAddrR E t x i) := by
  intro o; unfold indexAddrR
  split
  · split
    · rfl
    · split
      · split <;> rfl
      · split <;> rfl
      · split <;> rfl
      · split <;> rfl
      · rfl
  · split
    · rfl
    · split
      · rfl
      · split <;> rfl
  · rfl
theorem q_index (E : PT Ty) (t : TypeId) (x i : AV) : QF (indexR E t x i) := by
  intro o; unfold indexR
  split
  · rfl
  · split
    · split
      · exact q_part E _ _ _ o
      · rfl
    · rfl
  · rfl
theorem q_slice (E : PT Ty) (t : TypeId) (x : AV) (lo hi mx : Option AV) : QF (sliceR E t x lo hi mx) := by
  intro o; unfold sliceR
  split
  · split
    · split <;> rfl
    · split
      · split <;> rfl
      · split <;> rfl
      · rfl
      · split
        · split <;> rfl
        · rfl
      · rfl
    · split
      · split <;> rfl
      · split <;> rfl
      · rfl
    · rfl
  · rfl
theorem q_cap (E : PT Ty) (t : TypeId) (x : AV) : QF (fun o => capR x o E t) := by
  intro o; simp only; unfold capR
  split
  · split <;> rfl
  · rfl
theorem q_build (E : PT Ty) (t : TypeId) (ps : List (Nat × AV)) : QF (buildR E t ps) := by
  intro o; unfold buildR
  split
  · rfl
  · split
    · split <;> rfl
    · split
      · split <;> rfl
      · rfl
    · rfl
theorem q_boxE (x : AV) : QF (boxER x) := by
  intro o; unfold boxER
  split
  · split <;> rfl
  · rfl
theorem q_buildSlice (E : PT Ty) (t : TypeId) (n : Nat) (ps : List (Nat × AV)) : QF (buildSliceR E false t n ps) := by
  intro o; unfold buildSliceR
  split
  · split
    · split
      · split
        · split <;> rfl
        · rfl
      · rfl
    · rfl
  · rfl

/-- The answer hangs on one object at most; the objects are left. -/
def RF (p : Option Nat) (f : List Ob → R) : Prop :=
  ∀ o o2 : List Ob, (∀ q, p = some q → o2[q]? = o[q]?) → ∀ av o' c, f o = some (av, o', c) → o' = o ∧ f o2 = some (av, o2, c)

theorem QF.rf {f : List Ob → R} (h : QF f) (p : Option Nat) : RF p f := by
  intro o o2 _ av o' c he
  rw [h o] at he
  rw [h o2]
  cases hf : f [] with
  | none => rw [hf] at he; cases he
  | some r =>
    rw [hf] at he
    simp only [Option.map_some, Option.some.injEq, Prod.mk.injEq] at he
    obtain ⟨rfl, rfl, rfl⟩ := he
    exact ⟨rfl, rfl⟩

theorem rf_pure {v : AV} {o o2 o' : List Ob} {av : AV} {c : Bool} (h : pureR v o = some (av, o', c)) : o' = o ∧ pureR v o2 = some (av, o2, c) := by
  simp only [pureR, Option.some.injEq, Prod.mk.injEq] at h
  obtain ⟨rfl, rfl, rfl⟩ := h
  exact ⟨rfl, rfl⟩

theorem rf_load (E : PT Ty) (t : TypeId) (x : AV) : RF (posOf x) (loadR E t x) := by
  intro o o2 hq av o' c h
  unfold loadR at h ⊢
  cases hy : E.get? t with
  | none => rw [hy] at h; cases h
  | some y =>
    rw [hy] at h
    simp only [] at h ⊢
    have key : ∀ cs : List AV, ∀ off, (match isAggT y.desc with
        | true => if Nat.ble (off + y.size) cs.length then pureR (mkAgg ((cs.drop off).take y.size)) o else none
        | false => match cs[off]? with | some c => pureR c o | none => none) = some (av, o', c) →
        o' = o ∧ (match isAggT y.desc with
        | true => if Nat.ble (off + y.size) cs.length then pureR (mkAgg ((cs.drop off).take y.size)) o2 else none
        | false => match cs[off]? with | some c => pureR c o2 | none => none) = some (av, o2, c) := by
      intro cs off h
      cases ha : isAggT y.desc with
      | true =>
        rw [ha] at h
        simp only [] at h ⊢
        split at h
        · rename_i hb; rw [if_pos hb]; exact rf_pure h
        · cases h
      | false =>
        rw [ha] at h
        simp only [] at h ⊢
        split at h
        · exact rf_pure h
        · cases h
    cases x with
    | d x =>
      cases x with
      | ep cs =>
        simp only [] at h ⊢
        cases ha : isAggT y.desc with
        | true =>
          rw [ha] at h
          simp only [] at h ⊢
          split at h
          · rename_i hb; rw [if_pos hb]; exact rf_pure h
          · cases h
        | false =>
          rw [ha] at h
          simp only [] at h ⊢
          cases cs with
          | nil => cases h
          | cons c0 cs => exact rf_pure h
      | _ => cases h
    | bp i off =>
      simp only [] at h ⊢
      rw [hq i rfl]
      cases ho : o[i]? with
      | none => rw [ho] at h; cases h
      | some ob =>
        rw [ho] at h
        simp only [] at h ⊢
        cases hc : obCells ob with
        | none => rw [hc] at h; cases h
        | some cs => rw [hc] at h; exact key cs off h
    | _ => cases h

theorem rf_lookup (E : PT Ty) (t : TypeId) (x k : AV) (ok : Bool) : RF (posOf x) (lookupR E t x k ok) := by
  intro o o2 hq av o' c h
  have hm : kvsOf x o2 = kvsOf x o := by
    unfold kvsOf
    cases x with
    | mp i => simp only []; rw [hq i rfl]
    | d x => cases x <;> rfl
    | _ => rfl
  unfold lookupR at h ⊢
  rw [hm]
  cases k with
  | d k =>
    cases hy : E.get? t with
    | none => rw [hy] at h; cases h
    | some y =>
      rw [hy] at h
      obtain ⟨dsc, a1, a2, a3⟩ := y
      cases dsc with
      | map kt et =>
        simp only [] at h ⊢
        cases hz : E.get? et with
        | none => rw [hz] at h; cases h
        | some z =>
          cases hk : keyT E kt k with
          | false => rw [hz, hk] at h; cases h
          | true =>
            rw [hz, hk] at h
            simp only [] at h ⊢
            cases hv : kvsOf x o with
            | none => rw [hv] at h; cases h
            | some kvs =>
              rw [hv] at h
              simp only [] at h ⊢
              cases hf : findKV (eqKey E kt) k kvs with
              | none => rw [hf] at h; cases h
              | some r =>
                rw [hf] at h
                cases r with
                | some r => exact rf_pure h
                | none =>
                  simp only [] at h ⊢
                  cases hzz : zeroD z with
                  | none => rw [hzz] at h; cases h
                  | some zz => rw [hzz] at h; exact rf_pure h
      | _ => cases h
  | _ =>
    exfalso
    cases hy : E.get? t with
    | none => rw [hy] at h; cases h
    | some y => rw [hy] at h; obtain ⟨dsc, a1, a2, a3⟩ := y; cases dsc <;> cases h

theorem rf_len (E : PT Ty) (t : TypeId) (x : AV) : RF (posOf x) (fun o => lenR x o E t) := by
  intro o o2 hq av o' c h
  simp only at h ⊢
  unfold lenR at h ⊢
  cases hy : E.get? t with
  | none => rw [hy] at h; cases h
  | some y =>
    rw [hy] at h
    obtain ⟨dsc, a1, a2, a3⟩ := y
    cases dsc with
    | array n e => exact rf_pure h
    | string =>
      cases x with
      | d x => cases x <;> first | exact rf_pure h | cases h
      | _ => cases h
    | slice e =>
      cases x with
      | d x => cases x <;> first | exact rf_pure h | cases h
      | sr _ _ _ => exact rf_pure h
      | bs _ _ _ _ => exact rf_pure h
      | vs _ _ _ _ => exact rf_pure h
      | _ => cases h
    | map kt et =>
      cases x with
      | d x => cases x <;> first | exact rf_pure h | cases h
      | mp i =>
        simp only [] at h ⊢
        rw [hq i rfl]
        cases ho : o[i]? with
        | none => rw [ho] at h; cases h
        | some ob =>
          rw [ho] at h
          cases ob <;> first | exact rf_pure h | cases h
      | _ => cases h
    | _ => cases h

theorem q_conv (E : PT Ty) (s t : TypeId) (x : AV) (hns : ∀ ys e, E.get? s = some ys → ys.desc ≠ .slice e) : QF (convR E s t x) := by
  intro o; unfold convR
  split
  · rename_i ys yd hs hd
    split
    · rfl
    · rfl
    · rename_i e1 e2
      exact absurd e1 (hns ys _ hs)
    · rfl
  · rfl

theorem q_bytes (E : PT Ty) (s t : TypeId) (x : AV) : QF (bytesR E s t x) := by
  intro o; unfold bytesR
  split
  · split
    · split
      · rfl
      · exact QF.map o
      · exact QF.map o
      · rfl
    · rfl
  · split
    · split
      · rfl
      · rfl
    · rfl
  · rfl

theorem rf_uns (E : PT Ty) (s t : TypeId) (x : AV) : RF (posOf x) (unsR E s t x) := by
  intro o o2 hq av o' c h
  unfold unsR at h ⊢
  cases x with
  | bp i off =>
    simp only [] at h ⊢
    rw [hq i rfl]
    cases ho : o[i]? with
    | none => rw [ho] at h; cases h
    | some ob =>
      rw [ho] at h
      cases ob with
      | tb ty cs =>
        simp only [] at h ⊢
        cases h1 : E.get? s with
        | none => rw [h1] at h; cases h
        | some ys =>
          cases h2 : E.get? t with
          | none => rw [h1, h2] at h; cases h
          | some yd =>
            rw [h1, h2] at h
            simp only [] at h ⊢
            split at h
            · split at h
              · split at h
                · rename_i hc; rw [if_pos hc]; exact rf_pure h
                · cases h
              · cases h
            · split at h
              · rename_i hc; rw [if_pos hc]; exact rf_pure h
              · cases h
            · cases h
      | _ => cases h
  | _ => cases h
theorem q_sliceData (x : AV) : QF (sliceDataR x) := by
  intro o; unfold sliceDataR
  split
  · rfl
  · split <;> rfl
  · rfl

theorem evOp_quiet (E : PT Ty) (rd : Operand → AV) (op : Op) (h : quiet op = true) : RF (readsAt rd op) (fun o => evOp E rd o op) := by
  cases op with
  | move x => exact QF.rf (fun o => rfl) _
  | assign x => exact QF.rf (fun o => rfl) _
  | pick c a b => exact QF.rf (q_pick _ _ _) _
  | load t x => exact rf_load E t (rd x)
  | nilCheck x => exact QF.rf (q_nil _) _
  | binOp op t x y yt => exact QF.rf (q_bin E op t _ _ _) _
  | unOp op t x => exact QF.rf (q_un op _) _
  | convert s t x =>
    cases hu : (unsT E s || unsT E t) with
    | true =>
      have : (fun o => evOp E rd o (.convert s t x)) = unsR E s t (rd x) := by funext o; simp only [evOp, hu]
      rw [this]
      exact rf_uns E s t (rd x)
    | false =>
    cases hs : (sliceT E s || sliceT E t) with
    | true =>
      have : (fun o => evOp E rd o (.convert s t x)) = bytesR E s t (rd x) := by funext o; simp only [evOp, hu, hs]
      rw [this]
      exact QF.rf (q_bytes E s t _) _
    | false =>
      have : (fun o => evOp E rd o (.convert s t x)) = convR E s t (rd x) := by funext o; simp only [evOp, hu, hs]
      rw [this]
      simp only [Bool.or_eq_false_iff] at hs
      exact QF.rf (q_conv E s t _ (fun ys e hy hd => by
        obtain ⟨desc, a1, a2, a3⟩ := ys
        simp only at hd
        subst hd
        have := hs.1
        simp [sliceT, hy] at this)) _
  | makeFunc f a b => exact QF.rf (q_func _ _ _) _
  | slice t x lo hi mx =>
    cases mx with
    | none => exact QF.rf (q_slice E t _ _ _ _) _
    | some mx => simp [quiet] at h
  | fieldAddr t x f => exact QF.rf (q_fieldAddr E t _ _) _
  | field t x f => exact QF.rf (q_field E t _ _) _
  | indexAddr t x i => exact QF.rf (q_indexAddr E t _ _) _
  | index t x i => exact QF.rf (q_index E t _ _) _
  | lookup t x i ok => exact rf_lookup E t (rd x) (rd i) ok
  | extract t i => exact QF.rf (q_extract _ _) _
  | makeInterface t x => exact QF.rf (q_mkIface E t _) _
  | typeAssert x xt t ok => exact QF.rf (q_assert E t ok _) _
  | build t ps => exact QF.rf (q_build E t _) _
  | call cl =>
    obtain ⟨callee, args, argTypes⟩ := cl
    cases callee with
    | value f => simp [quiet] at h
    | invoke r m => simp [quiet] at h
    | builtin b =>
      cases b with
      | len =>
        intro o o2 hq av o' c he
        simp only [evOp] at he ⊢
        simp only [readsAt] at hq
        cases ha : args.toList with
        | nil => rw [ha] at he; cases he
        | cons x l =>
          cases l with
          | cons y l => rw [ha] at he; cases he
          | nil =>
            cases ht : argTypes.toList with
            | nil => rw [ha, ht] at he; cases he
            | cons t l =>
              cases l with
              | cons t2 l => rw [ha, ht] at he; cases he
              | nil =>
                rw [ha, ht] at he
                rw [ha] at hq
                exact rf_len E t (rd x) o o2 hq av o' c he
      | cap =>
        refine QF.rf (f := fun o => evOp E rd o _) (fun o => ?_) _
        simp only [evOp]
        cases ha : args.toList with
        | nil => rfl
        | cons x l =>
          cases l with
          | cons y l => cases argTypes.toList <;> rfl
          | nil =>
            cases ht : argTypes.toList with
            | nil => rfl
            | cons t l =>
              cases l with
              | cons t2 l => rfl
              | nil => exact q_cap E t _ o
      | unsafeSliceData =>
        refine QF.rf (f := fun o => evOp E rd o _) (fun o => ?_) _
        simp only [evOp]
        cases ha : args.toList with
        | nil => rfl
        | cons x l =>
          cases l with
          | cons y l => cases argTypes.toList <;> rfl
          | nil =>
            cases ht : argTypes.toList with
            | nil => rfl
            | cons t l =>
              cases l with
              | cons t2 l => rfl
              | nil => exact q_sliceData _ o
      | min =>
        refine QF.rf (f := fun o => evOp E rd o _) (fun o => ?_) _
        simp only [evOp]
        exact q_min _ o
      | max =>
        refine QF.rf (f := fun o => evOp E rd o _) (fun o => ?_) _
        simp only [evOp]
        exact q_max _ o
      | _ => simp [quiet] at h
  | _ => simp [quiet] at h

end Go.Av

/-
  The abstract layer, part F: soundness of the evaluator's operations, third part: numbers, strings, bools, equality, choice, results of calls.
-/
import Derived.Test.YtchoocpngfhkpaaE
noncomputable section
namespace Go.Av
open Go

section
variable {P : Program} {E : PT Ty} {D : DMap} {β : List Bi} {objs : List Ob} {w : World}

theorem kindB_eq {k k' : IntKind} (h : kindB k k' = true) : k = k' := by
  cases k <;> cases k' <;> first | rfl | (simp [kindB] at h)
theorem kindB_self (k : IntKind) : kindB k k = true := by cases k <;> rfl

/-! Strings as lists of numbers. -/
theorem byte_inj : ∀ {a b : List UInt8}, a.map UInt8.toNat = b.map UInt8.toNat → a = b
  | [], [], _ => rfl
  | [], _ :: _, h => by simp at h
  | _ :: _, [], h => by simp at h
  | x :: a, y :: b, h => by
    simp only [List.map_cons, List.cons.injEq] at h
    rw [UInt8.toNat_inj.1 h.1, byte_inj h.2]
theorem beq_bytes (a b : List UInt8) : (a.map UInt8.toNat == b.map UInt8.toNat) = (a == b) := by
  rw [Bool.eq_iff_iff]
  simp only [beq_iff_eq]
  exact ⟨byte_inj, fun h => by rw [h]⟩
theorem less_bytes : ∀ (a b : List UInt8), natsLess (a.map UInt8.toNat) (b.map UInt8.toNat) = Op.bytesLess a b
  | [], [] => rfl
  | [], _ :: _ => rfl
  | _ :: _, [] => rfl
  | x :: a, y :: b => by
    have h1 : Nat.blt x.toNat y.toNat = decide (x < y) := by
      rw [Bool.eq_iff_iff]; simp [Nat.blt, UInt8.lt_iff_toNat_lt, Nat.succ_le_iff]
    have h2 : Nat.beq x.toNat y.toNat = (x == y) := by
      rw [Bool.eq_iff_iff]; simp [Nat.beq_eq, ← UInt8.toNat_inj]
    simp only [List.map_cons, natsLess, Op.bytesLess, h1, h2, less_bytes a b]
theorem int_ok {op : BinOp} {t : TypeId} {k : IntKind} {a b : Int} {d : DV} {c : Bool} (h : intI op k a b = some (d, c)) (hc : c = true) (hns : op ≠ .shl ∧ op ≠ .shr) :
    ∃ v, (binOp op t (.int k a) (.int k b)).run P w = .ok v w ∧ RepD D d v := by
  cases op <;> simp only [intI, Option.some.injEq, Prod.mk.injEq, bitsI, Option.map_some, Option.map_none, reduceCtorEq] at h
  all_goals first | (exact absurd rfl hns.1) | (exact absurd rfl hns.2) | skip
  all_goals obtain ⟨rfl, rfl⟩ := h
  case quo | rem =>
    have hb : b ≠ 0 := by simpa using hc
    exact ⟨_, by simp [binOp, Op.intDiv, hb], .int⟩
  case and | or | xor | andNot => exact ⟨_, by simp only [binOp, ne_eq, not_true_eq_false, if_false]; rfl, .int⟩
  all_goals first
    | exact ⟨_, by simp [binOp, Op.intArith], .int⟩
    | exact ⟨_, by simp [binOp, Op.intCmp], .bool⟩

theorem shift_ok {op : BinOp} {t : TypeId} {k k' : IntKind} {a b : Int} {n : Int} {c : Bool} (h : shiftI op k a b = some (n, c)) (hc : c = true) :
    ∃ v, (binOp op t (.int k a) (.int k' b)).run P w = .ok v w ∧ RepD D (.int k n) v := by
  cases op <;> simp only [shiftI, Option.some.injEq, Prod.mk.injEq, reduceCtorEq] at h
  all_goals
    obtain ⟨rfl, rfl⟩ := h
    have hb : ¬ b < 0 := by simpa using hc
    exact ⟨_, by simp [binOp, Op.shift, hb], .int⟩

theorem app_data (a b : ByteArray) : (a ++ b).data.toList = a.data.toList ++ b.data.toList := by
  obtain ⟨a⟩ := a
  obtain ⟨b⟩ := b
  rw [ByteArray.mk_append_mk]

theorem str_size {s : List Nat} {b : ByteArray} (h : s = b.data.toList.map UInt8.toNat) : s.length = b.size := by rw [h, List.length_map]; rfl

theorem str_ok {op : BinOp} {t : TypeId} {x y : List Nat} {a b : ByteArray} {d : DV} {c : Bool} (hx : x = a.data.toList.map UInt8.toNat) (hy : y = b.data.toList.map UInt8.toNat)
    (h : strI op x y = some (d, c)) (hc : c = true) : ∃ v, (binOp op t (.string a) (.string b)).run P w = .ok v w ∧ RepD D d v := by
  have e1 : (x == y) = (a.toList == b.toList) := by rw [hx, hy, beq_bytes, ByteArray.toList_eq, ByteArray.toList_eq]
  have e2 : natsLess x y = Op.bytesLess a.toList b.toList := by rw [hx, hy, less_bytes, ByteArray.toList_eq, ByteArray.toList_eq]
  have l1 := str_size hx
  have l2 := str_size hy
  cases op <;> simp only [strI, Option.some.injEq, Prod.mk.injEq, reduceCtorEq] at h
  all_goals obtain ⟨rfl, rfl⟩ := h
  case add =>
    have hl := Nat.le_of_ble_eq_true hc
    refine ⟨.string (a ++ b), ?_, .str ?_⟩
    · simp only [binOp]; exact run_string_add_sum w a b (by omega)
    · rw [hx, hy, app_data, List.map_append]
  all_goals exact ⟨_, by simp [binOp, Op.stringOp, e1, e2], .bool⟩

theorem bin_ok (hE : TyOK P E) (hp : Heap D β objs w) (op : BinOp) (t : TypeId) (xo yo : Operand) {x y : AV} {v u : Value} (hx : RepA D β x v) (hy : RepA D β y u) :
    ValOK P D β objs w (do eqGuard op t xo yo v u; binOp op t v u) (binR E op t x y objs) := by
  unfold binR
  split
  · rename_i k a k' b
    cases hx with
    | d hx =>
      cases hx
      cases hy with
      | d hy =>
        cases hy
        have hg : (eqGuard op t xo yo (.int k a) (.int k' b)).run P w = .ok () w := by cases op <;> simp [eqGuard]
        split
        · intro av o c he hc
          simp only [Option.map_eq_some_iff, Prod.mk.injEq] at he
          obtain ⟨⟨n, c'⟩, he, rfl, rfl, rfl⟩ := he
          obtain ⟨v, h1, h2⟩ := shift_ok (P := P) (w := w) (D := D) (t := t) (k' := k') he hc
          exact ⟨v, w, D, β, by simp only [Sem.run_bind, hg, Result.andThen_ok, h1], Step.refl hp, .d h2⟩
        · intro av o c he hc
          simp only [Option.map_eq_some_iff, Prod.mk.injEq] at he
          obtain ⟨⟨n, c'⟩, he, rfl, rfl, rfl⟩ := he
          obtain ⟨v, h1, h2⟩ := shift_ok (P := P) (w := w) (D := D) (t := t) (k' := k') he hc
          exact ⟨v, w, D, β, by simp only [Sem.run_bind, hg, Result.andThen_ok, h1], Step.refl hp, .d h2⟩
        · rename_i n1 n2
          split
          · rename_i hk
            have := kindB_eq hk
            subst this
            intro av o c he hc
            simp only [Option.map_eq_some_iff, Prod.mk.injEq] at he
            obtain ⟨⟨n, c'⟩, he, rfl, rfl, rfl⟩ := he
            obtain ⟨v, h1, h2⟩ := int_ok (P := P) (w := w) (D := D) (t := t) he hc ⟨fun e => n1 e, fun e => n2 e⟩
            exact ⟨v, w, D, β, by simp only [Sem.run_bind, hg, Result.andThen_ok, h1], Step.refl hp, .d h2⟩
          · exact .none
  · rename_i a b
    cases hx with
    | d hx =>
      cases hx with
      | @str _ ba ha =>
        cases hy with
        | d hy =>
          cases hy with
          | @str _ bb hb =>
            have hg : (eqGuard op t xo yo (.string ba) (.string bb)).run P w = .ok () w := by cases op <;> simp [eqGuard]
            intro av o c he hc
            simp only [Option.map_eq_some_iff, Prod.mk.injEq] at he
            obtain ⟨⟨n, c'⟩, he, rfl, rfl, rfl⟩ := he
            obtain ⟨v, h1, h2⟩ := str_ok (P := P) (w := w) (D := D) (t := t) ha hb he hc
            exact ⟨v, w, D, β, by simp only [Sem.run_bind, hg, Result.andThen_ok, h1], Step.refl hp, .d h2⟩
  · rename_i a b
    cases hx with
    | d hx =>
      cases hx
      cases hy with
      | d hy =>
        cases hy
        have hg : (eqGuard op t xo yo (.bool a) (.bool b)).run P w = .ok () w := by cases op <;> simp [eqGuard]
        have hT : boolT E t = true → P.underlying t = some .bool := by
          intro h
          unfold boolT at h
          split at h
          · rename_i hty; exact (hE t _ hty).und
          · cases h
        split
        · rename_i ht
          exact .pure hp (fun _ => ⟨_, by simp [hg, binOp, Op.equal, Op.maxDepth, run_equalIn_bool' w 9999 t a b (hT ht)], .d .bool⟩)
        · rename_i ht
          exact .pure hp (fun _ => ⟨_, by simp [hg, binOp, Op.equal, Op.maxDepth, run_equalIn_bool' w 9999 t a b (hT ht)], .d .bool⟩)
        · exact .none
  · exact .none

theorem un_ok (hp : Heap D β objs w) (op : UnOp) {x : AV} {v : Value} (hx : RepA D β x v) : ValOK P D β objs w (Op.unary op v) (unR op x objs) := by
  unfold unR
  split
  · cases hx with
    | d h => cases h; exact .pure hp (fun _ => ⟨_, rfl, .d .bool⟩)
  · cases hx with
    | d h => cases h; exact .pure hp (fun _ => ⟨_, rfl, .d .int⟩)
  · exact .none

theorem pickA_rep {c : Bool} {a b : AV} {u v : Value} (ha : RepA D β a u) (hb : RepA D β b v) : RepA D β (pickA c a b) (if c then u else v) := by
  unfold pickA
  split
  · cases ha with
    | d ha =>
      cases ha
      cases hb with
      | d hb => cases hb; cases c <;> exact .d .bool
  · cases c
    · exact hb
    · exact ha

theorem extract_ok (hp : Heap D β objs w) (i : Nat) {x : AV} {v : Value} (hx : RepA D β x v) : ValOK P D β objs w (Instr.extract v i) (extractR x i objs) := by
  unfold extractR
  split
  · rename_i vs
    cases hx with
    | @tup _ us hl hr =>
      split
      · rename_i a ha
        have hlt : i < us.size := by rw [hl]; exact (List.getElem?_eq_some_iff.1 ha).1
        exact .pure hp (fun _ => ⟨us[i], by simp [Instr.extract, hlt], hr i a _ ha (by simp [hlt])⟩)
      · exact .none
  · exact .none

end
end Go.Av

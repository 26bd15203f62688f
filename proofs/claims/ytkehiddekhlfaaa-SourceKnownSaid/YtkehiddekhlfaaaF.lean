/-
  The abstract layer, part F: soundness of the evaluator's operations, third part: numbers, strings, bools, equality, choice, results of calls.
-/
import Derived.Test.YtkehiddekhlfaaaEB
import Derived.LaidEql
noncomputable section
namespace Go.Av
open Go

section
variable {P : Program} {E : PT Ty} {D : DMap} {β : List Bi} {objs : List Ob} {w : World}


/-! Strings as lists of numbers. -/
theorem less_bytes : ∀ (a b : List UInt8), natsLess (a.map UInt8.toNat) (b.map UInt8.toNat) = Op.bytesLess a b
  | [], [] => rfl
  | [], _ :: _ => rfl
  | _ :: _, [] => rfl
  | x :: a, y :: b => by
    have h1 : Nat.blt x.toNat y.toNat = decide (x < y) := by
      rw [Bool.eq_iff_iff]; simp [Nat.blt, UInt8.lt_iff_toNat_lt, Nat.succ_le_iff]
    have h2 : Nat.beq x.toNat y.toNat = (x == y) := by
      rw [Bool.eq_iff_iff]; simp [Nat.beq_eq, ← UInt8.toNat_inj]
    simp only [List.map_cons, natsLess, Op.bytesLess, h1, h2, less_bytes a b]
theorem int_ok {op : BinOp} {t : TypeId} {k : IntKind} {a b : Int} {d : DV} {c : Bool} (h : intI op k a b = some (d, c)) (hc : c = true) (hns : op ≠ .shl ∧ op ≠ .shr) :
    ∃ v, (binOp op t (.int k a) (.int k b)).run P w = .ok v w ∧ RepD D d v := by
  cases op <;> simp only [intI, Option.some.injEq, Prod.mk.injEq, bitsI, Option.map_some, Option.map_none, reduceCtorEq] at h
  all_goals first | (exact absurd rfl hns.1) | (exact absurd rfl hns.2) | skip
  all_goals obtain ⟨rfl, rfl⟩ := h
  case quo | rem =>
    have hb : b ≠ 0 := by simpa using hc
    exact ⟨_, by simp [binOp, Op.intDiv, hb], .int⟩
  case and | or | xor | andNot => exact ⟨_, by simp only [binOp, ne_eq, not_true_eq_false, if_false]; rfl, .int⟩
  all_goals first
    | exact ⟨_, by simp [binOp, Op.intArith], .int⟩
    | exact ⟨_, by simp [binOp, Op.intCmp], .bool⟩

theorem shift_ok {op : BinOp} {t : TypeId} {k k' : IntKind} {a b : Int} {n : Int} {c : Bool} (h : shiftI op k a b = some (n, c)) (hc : c = true) :
    ∃ v, (binOp op t (.int k a) (.int k' b)).run P w = .ok v w ∧ RepD D (.int k n) v := by
  cases op <;> simp only [shiftI, Option.some.injEq, Prod.mk.injEq, reduceCtorEq] at h
  all_goals
    obtain ⟨rfl, rfl⟩ := h
    have hb : ¬ b < 0 := by simpa using hc
    exact ⟨_, by simp [binOp, Op.shift, hb], .int⟩

theorem app_data (a b : ByteArray) : (a ++ b).data.toList = a.data.toList ++ b.data.toList := by
  obtain ⟨a⟩ := a
  obtain ⟨b⟩ := b
  rw [ByteArray.mk_append_mk]

theorem str_size {s : List Nat} {b : ByteArray} (h : s = b.data.toList.map UInt8.toNat) : s.length = b.size := by rw [h, List.length_map]; rfl

theorem str_ok {op : BinOp} {t : TypeId} {x y : List Nat} {a b : ByteArray} {d : DV} {c : Bool} (hx : x = a.data.toList.map UInt8.toNat) (hy : y = b.data.toList.map UInt8.toNat)
    (h : strI op x y = some (d, c)) (hc : c = true) : ∃ v, (binOp op t (.string a) (.string b)).run P w = .ok v w ∧ RepD D d v := by
  have e1 : (x == y) = (a.toList == b.toList) := by rw [hx, hy, beq_bytes, ByteArray.toList_eq, ByteArray.toList_eq]
  have e2 : natsLess x y = Op.bytesLess a.toList b.toList := by rw [hx, hy, less_bytes, ByteArray.toList_eq, ByteArray.toList_eq]
  have l1 := str_size hx
  have l2 := str_size hy
  cases op <;> simp only [strI, Option.some.injEq, Prod.mk.injEq, reduceCtorEq] at h
  all_goals obtain ⟨rfl, rfl⟩ := h
  case add =>
    have hl := Nat.le_of_ble_eq_true hc
    refine ⟨.string (a ++ b), ?_, .str ?_⟩
    · simp only [binOp]; exact run_string_add_sum w a b (by omega)
    · rw [hx, hy, app_data, List.map_append]
  all_goals exact ⟨_, by simp [binOp, Op.stringOp, e1, e2], .bool⟩

theorem nilOf_ok {t : TypeId} {kd : TypeDesc} {x y : AV} {v u : Value} {p q : Bool} (hu : P.underlying t = some kd) (hx : RepA D β x v) (hy : RepA D β y u) (h1 : nilOf kd x = some p) (h2 : nilOf kd y = some q) (hpq : (p || q) = true) (dd : Nat) :
    (Op.equalIn (dd + 1) t v u).run P w = .ok (p && q) w := by
  have key : ∀ (a : AV) (r : Bool) (va : Value), RepA D β a va → nilOf kd a = some r →
      (∃ e o, kd = .pointer e ∧ va = .pointer o ∧ r = o.isNone) ∨ (∃ e o n c, kd = .slice e ∧ va = .slice o n c ∧ r = o.isNone) ∨ (∃ k e o, kd = .map k e ∧ va = .map o ∧ r = o.isNone) ∨
      (∃ a b c, kd = .func a b c ∧ ((va = .nilFunc ∧ r = true) ∨ (∃ f x y, va = .func f x y ∧ r = false))) ∨ (∃ m, kd = .interface m ∧ ((va = .nilIface ∧ r = true) ∨ (∃ f x, va = .iface f x ∧ r = false))) := by
    intro a r va ha hn
    unfold nilOf at hn
    split at hn
    all_goals first | (cases hn; done) | skip
    all_goals simp only [Option.some.injEq] at hn; subst hn
    · cases ha with | d ha => cases ha; exact .inl ⟨_, _, rfl, rfl, rfl⟩
    · cases ha with | d ha => cases ha; exact .inl ⟨_, _, rfl, rfl, rfl⟩
    · cases ha; exact .inl ⟨_, _, rfl, rfl, rfl⟩
    · cases ha with | d ha => cases ha; exact .inr (.inl ⟨_, _, _, _, rfl, rfl, rfl⟩)
    · cases ha with
      | d ha =>
        cases ha with
        | @sl _ _ a cap vs hc hm hsz hn hv hD hr =>
          cases a with
          | none => exact absurd (hn rfl).1 (by simp)
          | some a => exact .inr (.inl ⟨_, _, _, _, rfl, rfl, rfl⟩)
    · cases ha with
      | @sr _ _ _ bi a cap hb hh hd =>
        cases hd with
        | sl vs hc hm hsz hn hv hD hr =>
          cases a with
          | none => exact absurd (hn rfl).1 (by simp)
          | some a => exact .inr (.inl ⟨_, _, _, _, rfl, rfl, rfl⟩)
    · cases ha; exact .inr (.inl ⟨_, _, _, _, rfl, rfl, rfl⟩)
    · cases ha with
      | @vs _ _ _ _ cap c bi a ad hb hh hc hm hn hx =>
        cases ad with
        | none => have := hn.2.1 rfl; omega
        | some a => exact .inr (.inl ⟨_, _, _, _, rfl, rfl, rfl⟩)
    · cases ha with | d ha => cases ha; exact .inr (.inr (.inl ⟨_, _, _, rfl, rfl, rfl⟩))
    · cases ha; exact .inr (.inr (.inl ⟨_, _, _, rfl, rfl, rfl⟩))
    · cases ha with | d ha => cases ha; exact .inr (.inr (.inr (.inl ⟨_, _, _, rfl, .inl ⟨rfl, rfl⟩⟩)))
    · cases ha with | d ha => cases ha; exact .inr (.inr (.inr (.inl ⟨_, _, _, rfl, .inr ⟨_, _, _, rfl, rfl⟩⟩)))
    · cases ha; exact .inr (.inr (.inr (.inl ⟨_, _, _, rfl, .inr ⟨_, _, _, rfl, rfl⟩⟩)))
    · cases ha; exact .inr (.inr (.inr (.inl ⟨_, _, _, rfl, .inr ⟨_, _, _, rfl, rfl⟩⟩)))
    · cases ha with | d ha => cases ha; exact .inr (.inr (.inr (.inr ⟨_, rfl, .inl ⟨rfl, rfl⟩⟩)))
    · cases ha with | d ha => cases ha; exact .inr (.inr (.inr (.inr ⟨_, rfl, .inr ⟨_, _, rfl, rfl⟩⟩)))
  rcases key x p v hx h1 with ⟨e, o, rfl, rfl, rfl⟩ | ⟨e, o, n, c, rfl, rfl, rfl⟩ | ⟨k, e, o, rfl, rfl, rfl⟩ | ⟨a, b, c, rfl, h⟩ | ⟨m, rfl, h⟩
  · rcases key y q u hy h2 with ⟨e', o', he, rfl, rfl⟩ | ⟨_, _, _, _, he, _⟩ | ⟨_, _, _, he, _⟩ | ⟨_, _, _, he, _⟩ | ⟨_, he, _⟩ <;> cases he
    cases o <;> cases o' <;> simp at hpq <;> simp [Op.equalIn, run_underlying hu]
  · rcases key y q u hy h2 with ⟨e', o', he, rfl, rfl⟩ | ⟨_, _, _, _, he, rfl, rfl⟩ | ⟨_, _, _, he, _⟩ | ⟨_, _, _, he, _⟩ | ⟨_, he, _⟩ <;> cases he
    rename_i o' _ _
    cases o <;> cases o' <;> simp at hpq <;> simp [Op.equalIn, run_underlying hu]
  · rcases key y q u hy h2 with ⟨e', o', he, rfl, rfl⟩ | ⟨_, _, _, _, he, _⟩ | ⟨_, _, o', he, rfl, rfl⟩ | ⟨_, _, _, he, _⟩ | ⟨_, he, _⟩ <;> cases he
    cases o <;> cases o' <;> simp at hpq <;> simp [Op.equalIn, run_underlying hu]
  · rcases key y q u hy h2 with ⟨e', o', he, rfl, rfl⟩ | ⟨_, _, _, _, he, _⟩ | ⟨_, _, o', he, _⟩ | ⟨_, _, _, he, h'⟩ | ⟨_, he, _⟩ <;> cases he
    rcases h with ⟨rfl, rfl⟩ | ⟨f, x, y, rfl, rfl⟩ <;> rcases h' with ⟨rfl, rfl⟩ | ⟨f, x, y, rfl, rfl⟩ <;> simp at hpq <;> simp [Op.equalIn, run_underlying hu]
  · rcases key y q u hy h2 with ⟨e', o', he, rfl, rfl⟩ | ⟨_, _, _, _, he, _⟩ | ⟨_, _, o', he, _⟩ | ⟨_, _, _, he, _⟩ | ⟨_, he, h'⟩ <;> cases he
    rcases h with ⟨rfl, rfl⟩ | ⟨f, x, rfl, rfl⟩ <;> rcases h' with ⟨rfl, rfl⟩ | ⟨f, x, rfl, rfl⟩ <;> simp at hpq <;> simp [Op.equalIn, run_underlying hu]

theorem nilOf_agg {kd : TypeDesc} {x : AV} {p : Bool} {us : Array Value} (hx : RepA D β x (.agg us)) (h1 : nilOf kd x = some p) : False := by
  unfold nilOf at h1
  split at h1
  all_goals first | (cases h1; done) | skip
  all_goals first | (cases hx; done) | (cases hx with | d hx => cases hx)
theorem nilOf_iface {kd : TypeDesc} {x : AV} {p : Bool} (hx : RepA D β x .nilIface) (h1 : nilOf kd x = some p) : p = true ∧ isIface kd = true := by
  unfold nilOf at h1
  split at h1
  all_goals first | (cases h1; done) | skip
  all_goals first | (cases hx; done) | (cases hx with | d hx => cases hx) | skip
  all_goals simp only [Option.some.injEq] at h1; subst h1; exact ⟨rfl, rfl⟩

theorem nil_ok (hE : TyOK P E) (hp : Heap D β objs w) (op : BinOp) (t : TypeId) (xo yo : Operand) {x y : AV} {v u : Value} (hx : RepA D β x v) (hy : RepA D β y u) :
    ValOK P D β objs w (do eqGuard op t xo yo v u; binOp op t v u) (nilR E op t (isC xo || isC yo) x y objs) := by
  unfold nilR
  split
  · rename_i d hd
    have hu := (hE t d hd).und
    split
    · rename_i p q h1 h2
      split
      · rename_i hb
        have hb := Bool.and_eq_true_iff.1 hb
        have he : (Op.equal t v u).run P w = .ok (p && q) w := nilOf_ok (w := w) (P := P) hu hx hy h1 h2 hb.1 9999
        have hg : (eqGuard op t xo yo v u).run P w = .ok () w := by
          have na : ∀ us, v ≠ .agg us := by rintro us rfl; exact nilOf_agg hx h1
          by_cases hn : v = .nilIface ∧ u = .nilIface
          · obtain ⟨rfl, rfl⟩ := hn
            obtain ⟨rfl, ai⟩ := nilOf_iface hx h1
            obtain ⟨rfl, _⟩ := nilOf_iface hy h2
            have hc := hb.2
            simp only [ai, Bool.and_self, Bool.not_true, Bool.or_false] at hc
            cases op <;> cases xo <;> cases yo <;> simp [isC] at hc <;> simp [eqGuard]
          · cases op
            all_goals first | (simp [eqGuard]; done) | skip
            all_goals (cases v <;> first | (exact absurd rfl (na _)) | (cases u <;> first | (exact absurd ⟨rfl, rfl⟩ hn) | simp [eqGuard]))
        have hbin : ∀ r, (Op.equal t v u).run P w = .ok r w → ((binOp .eql t v u).run P w = .ok (.bool r) w ∧ (binOp .neq t v u).run P w = .ok (.bool (!r)) w) := by
          intro r hr
          have n1 : ∀ k n, v ≠ .int k n := by intro k n e; subst e; unfold nilOf at h1; split at h1 <;> first | (cases h1; done) | (cases hx; done) | (cases hx with | d hx => cases hx)
          have n2 : ∀ n, v ≠ .string n := by intro n e; subst e; unfold nilOf at h1; split at h1 <;> first | (cases h1; done) | (cases hx; done) | (cases hx with | d hx => cases hx)
          have n3 : ∀ k n, v ≠ .float k n := by intro k n e; subst e; unfold nilOf at h1; split at h1 <;> first | (cases h1; done) | (cases hx; done) | (cases hx with | d hx => cases hx)
          have n4 : ∀ k n m, v ≠ .complex k n m := by intro k n m e; subst e; unfold nilOf at h1; split at h1 <;> first | (cases h1; done) | (cases hx; done) | (cases hx with | d hx => cases hx)
          constructor
          · unfold binOp
            split
            all_goals first | (exact absurd rfl (n1 _ _)) | (exact absurd rfl (n2 _)) | (exact absurd rfl (n3 _ _)) | (exact absurd rfl (n4 _ _ _)) | skip
            all_goals first | (simp [hr]; done) | simp_all
          · unfold binOp
            split
            all_goals first | (exact absurd rfl (n1 _ _)) | (exact absurd rfl (n2 _)) | (exact absurd rfl (n3 _ _)) | (exact absurd rfl (n4 _ _ _)) | skip
            all_goals first | (simp [hr]; done) | simp_all
        split
        · exact .pure hp (fun _ => ⟨_, by simp only [Sem.run_bind, hg, Result.andThen_ok, (hbin _ he).1], .d .bool⟩)
        · exact .pure hp (fun _ => ⟨_, by simp only [Sem.run_bind, hg, Result.andThen_ok, (hbin _ he).2], .d .bool⟩)
        · exact .none
      · exact .none
    · exact .none
  · exact .none

theorem TyOK1.info? {t : TypeId} {y : Ty} (h : TyOK1 P t y) : ∃ i, P.info? t = some i ∧ i.size = y.size := by
  obtain ⟨i, z, h1, h2, _⟩ := h.info
  exact ⟨i, h1, h2⟩

theorem ptr_ok (hE : TyOK P E) (hp : Heap D β objs w) (op : BinOp) (t : TypeId) (xo yo : Operand) {i a j b : Nat} {v u : Value} (hx : RepA D β (.bp i a) v) (hy : RepA D β (.bp j b) u) :
    ValOK P D β objs w (do eqGuard op t xo yo v u; binOp op t v u) (ptrR E op t i a j b objs) := by
  unfold ptrR
  split
  · rename_i e _ _ _ ht
    have hu := (hE t _ ht).und
    simp only at hu
    split
    · rename_i ye he
      obtain ⟨ie, hie, _⟩ := (hE e ye he).info?
      split
      · rename_i hc
        simp only [Bool.and_eq_true] at hc
        have e1 := Nat.eq_of_beq_eq_true hc.1
        have e2 := Nat.eq_of_beq_eq_true hc.2
        subst e1 e2
        cases hx with
        | @bp _ _ bi hb =>
          cases hy with
          | @bp _ _ bj hb2 =>
            rw [hb] at hb2; cases hb2
            have heq : ∀ d : Nat, (Op.equalIn (d + 1) t (.pointer (some ⟨bi.blk, a, none⟩)) (.pointer (some ⟨bi.blk, a, none⟩))).run P w = .ok true w := fun d => by
              simp [Op.equalIn, run_underlying hu, sizeOf, typeInfo, hie, run_sameAddr_same]
            split
            · exact .pure hp (fun _ => ⟨.bool true, by simp [eqGuard, binOp, Op.equal, Op.maxDepth, heq 9999], .d .bool⟩)
            · exact .pure hp (fun _ => ⟨.bool false, by simp [eqGuard, binOp, Op.equal, Op.maxDepth, heq 9999], .d .bool⟩)
            · exact .none
      · exact .none
    · exact .none
  · exact .none

theorem bin_ok (hE : TyOK P E) (hS : PlainOK P E) (hp : Heap D β objs w) (op : BinOp) (t : TypeId) (xo yo : Operand) {x y : AV} {v u : Value} (hx : RepA D β x v) (hy : RepA D β y u) :
    ValOK P D β objs w (do eqGuard op t xo yo v u; binOp op t v u) (binR E op t (isC xo || isC yo) x y objs) := by
  unfold binR
  split
  · rename_i k a k' b
    cases hx with
    | d hx =>
      cases hx
      cases hy with
      | d hy =>
        cases hy
        have hg : (eqGuard op t xo yo (.int k a) (.int k' b)).run P w = .ok () w := by cases op <;> simp [eqGuard]
        split
        · intro av o c he hc
          simp only [Option.map_eq_some_iff, Prod.mk.injEq] at he
          obtain ⟨⟨n, c'⟩, he, rfl, rfl, rfl⟩ := he
          obtain ⟨v, h1, h2⟩ := shift_ok (P := P) (w := w) (D := D) (t := t) (k' := k') he hc
          exact ⟨v, w, D, β, by simp only [Sem.run_bind, hg, Result.andThen_ok, h1], Step.refl hp, .d h2⟩
        · intro av o c he hc
          simp only [Option.map_eq_some_iff, Prod.mk.injEq] at he
          obtain ⟨⟨n, c'⟩, he, rfl, rfl, rfl⟩ := he
          obtain ⟨v, h1, h2⟩ := shift_ok (P := P) (w := w) (D := D) (t := t) (k' := k') he hc
          exact ⟨v, w, D, β, by simp only [Sem.run_bind, hg, Result.andThen_ok, h1], Step.refl hp, .d h2⟩
        · rename_i n1 n2
          split
          · rename_i hk
            have := kindB_eq hk
            subst this
            intro av o c he hc
            simp only [Option.map_eq_some_iff, Prod.mk.injEq] at he
            obtain ⟨⟨n, c'⟩, he, rfl, rfl, rfl⟩ := he
            obtain ⟨v, h1, h2⟩ := int_ok (P := P) (w := w) (D := D) (t := t) he hc ⟨fun e => n1 e, fun e => n2 e⟩
            exact ⟨v, w, D, β, by simp only [Sem.run_bind, hg, Result.andThen_ok, h1], Step.refl hp, .d h2⟩
          · exact .none
  · rename_i a b
    cases hx with
    | d hx =>
      cases hx with
      | @str _ ba ha =>
        cases hy with
        | d hy =>
          cases hy with
          | @str _ bb hb =>
            have hg : (eqGuard op t xo yo (.string ba) (.string bb)).run P w = .ok () w := by cases op <;> simp [eqGuard]
            intro av o c he hc
            simp only [Option.map_eq_some_iff, Prod.mk.injEq] at he
            obtain ⟨⟨n, c'⟩, he, rfl, rfl, rfl⟩ := he
            obtain ⟨v, h1, h2⟩ := str_ok (P := P) (w := w) (D := D) (t := t) ha hb he hc
            exact ⟨v, w, D, β, by simp only [Sem.run_bind, hg, Result.andThen_ok, h1], Step.refl hp, .d h2⟩
  · rename_i a b
    cases hx with
    | d hx =>
      cases hx
      cases hy with
      | d hy =>
        cases hy
        have hg : (eqGuard op t xo yo (.bool a) (.bool b)).run P w = .ok () w := by cases op <;> simp [eqGuard]
        have hT : boolT E t = true → P.underlying t = some .bool := by
          intro h
          unfold boolT at h
          split at h
          · rename_i hty; exact (hE t _ hty).und
          · cases h
        split
        · rename_i ht
          exact .pure hp (fun _ => ⟨_, by simp [hg, binOp, Op.equal, Op.maxDepth, run_equalIn_bool' w 9999 t a b (hT ht)], .d .bool⟩)
        · rename_i ht
          exact .pure hp (fun _ => ⟨_, by simp [hg, binOp, Op.equal, Op.maxDepth, run_equalIn_bool' w 9999 t a b (hT ht)], .d .bool⟩)
        · exact .none
  · rename_i xs ys
    cases hx with
    | d hx =>
      cases hx with
      | @agg _ us a1 a2 a3 =>
        cases hy with
        | d hy =>
          cases hy with
          | @agg _ vs b1 b2 b3 =>
            have run : ∀ r, eqAgg E t xs ys = some r → (Op.equal t (.agg us) (.agg vs)).run P w = .ok r w ∧ (eqGuard op t xo yo (.agg us) (.agg vs)).run P w = .ok () w := by
              intro r h
              unfold eqAgg at h
              split at h
              · rename_i y hy
                split at h
                · rename_i ha
                  refine ⟨eqT_ok hE hS 9992 8 t xs ys r _ _ h ⟨y, hy, by rw [ha]; exact ⟨us, rfl, a1, a2, a3⟩⟩ ⟨y, hy, by rw [ha]; exact ⟨vs, rfl, b1, b2, b3⟩⟩, ?_⟩
                  have hg := (hS t y hy).2 ha
                  cases op <;> simp [eqGuard, hg]
                · cases h
              · cases h
            split
            · intro av o c he hc
              simp only [Option.map_eq_some_iff, Prod.mk.injEq] at he
              obtain ⟨r, hr, rfl, rfl, rfl⟩ := he
              obtain ⟨h1, h2⟩ := run r hr
              exact ⟨.bool r, w, D, β, by simp only [Sem.run_bind, h2, Result.andThen_ok, binOp, h1, Sem.run_pure], Step.refl hp, .d .bool⟩
            · intro av o c he hc
              simp only [Option.map_eq_some_iff, Prod.mk.injEq] at he
              obtain ⟨r, hr, rfl, rfl, rfl⟩ := he
              obtain ⟨h1, h2⟩ := run r hr
              exact ⟨.bool (!r), w, D, β, by simp only [Sem.run_bind, h2, Result.andThen_ok, binOp, h1, Sem.run_pure], Step.refl hp, .d .bool⟩
            · exact .none
  · exact ptr_ok hE hp op t xo yo hx hy
  · exact nil_ok hE hp op t xo yo hx hy

theorem un_ok (hp : Heap D β objs w) (op : UnOp) {x : AV} {v : Value} (hx : RepA D β x v) : ValOK P D β objs w (Op.unary op v) (unR op x objs) := by
  unfold unR
  split
  · cases hx with
    | d h => cases h; exact .pure hp (fun _ => ⟨_, rfl, .d .bool⟩)
  · cases hx with
    | d h => cases h; exact .pure hp (fun _ => ⟨_, rfl, .d .int⟩)
  · exact .none

theorem pickA_rep {c : Bool} {a b : AV} {u v : Value} (ha : RepA D β a u) (hb : RepA D β b v) : RepA D β (pickA c a b) (if c then u else v) := by
  unfold pickA
  split
  · cases ha with
    | d ha =>
      cases ha
      cases hb with
      | d hb => cases hb; cases c <;> exact .d .bool
  · cases c
    · exact hb
    · exact ha

theorem extract_ok (hp : Heap D β objs w) (i : Nat) {x : AV} {v : Value} (hx : RepA D β x v) : ValOK P D β objs w (Instr.extract v i) (extractR x i objs) := by
  unfold extractR
  split
  · rename_i vs
    cases hx with
    | @tup _ us hl hr =>
      split
      · rename_i a ha
        have hlt : i < us.size := by rw [hl]; exact (List.getElem?_eq_some_iff.1 ha).1
        exact .pure hp (fun _ => ⟨us[i], by simp [Instr.extract, hlt], hr i a _ ha (by simp [hlt])⟩)
      · exact .none
  · exact .none

end
end Go.Av

/-
  The abstract layer, part EB: equality of structs and arrays whose parts are plain.
-/
import Derived.Test.YtkehiddekhlfaaaE
import Derived.DeepKeys
noncomputable section
namespace Go.Av
open Go

theorem kindB_eq {k k' : IntKind} (h : kindB k k' = true) : k = k' := by
  cases k <;> cases k' <;> first | rfl | (simp [kindB] at h)
theorem kindB_self (k : IntKind) : kindB k k = true := by cases k <;> rfl

theorem byte_inj : ∀ {a b : List UInt8}, a.map UInt8.toNat = b.map UInt8.toNat → a = b
  | [], [], _ => rfl
  | [], _ :: _, h => by simp at h
  | _ :: _, [], h => by simp at h
  | x :: a, y :: b, h => by
    simp only [List.map_cons, List.cons.injEq] at h
    rw [UInt8.toNat_inj.1 h.1, byte_inj h.2]
theorem beq_bytes (a b : List UInt8) : (a.map UInt8.toNat == b.map UInt8.toNat) = (a == b) := by
  rw [Bool.eq_iff_iff, beq_iff_eq, beq_iff_eq]
  exact ⟨byte_inj, fun h => by rw [h]⟩

/-- Structs that can be compared part by part. -/
def PlainOK (P : Program) (E : PT Ty) : Prop := ∀ t y, E.get? t = some y →
  (∀ fs, y.desc = .struct fs → P.stoodInHeld t = false ∧ ∀ f ∈ fs.toList, f.name ≠ "_") ∧ (isAggT y.desc = true → P.eqGuardType P.depth t = false)

section
variable {P : Program} {E : PT Ty} {D : DMap} {β : List Bi} {objs : List Ob} {w : World}

/-- The cells xs are those of a value of type t. -/
def ValAt (E : PT Ty) (D : DMap) (t : TypeId) (xs : List DV) (v : Value) : Prop := ∃ y, E.get? t = some y ∧
  match isAggT y.desc with
  | true => ∃ us : Array Value, v = .agg us ∧ us.size = xs.length ∧ (∀ (j : Nat) u, us[j]? = some u → u.oneCell' = true) ∧ ∀ (j : Nat) c u, xs[j]? = some c → us[j]? = some u → RepD D c u
  | false => ∃ c, xs = [c] ∧ RepD D c v

theorem part_at (hE : TyOK P E) {t : TypeId} {xs ps : List DV} {us : Array Value} {off : Nat} (hl : us.size = xs.length) (h1 : ∀ (j : Nat) u, us[j]? = some u → u.oneCell' = true) (hr : ∀ (j : Nat) c u, xs[j]? = some c → us[j]? = some u → RepD D c u)
    (h : partD E t xs off = some ps) : ∃ v, (part t us off).run P w = .ok v w ∧ ValAt E D t ps v := by
  unfold partD at h
  split at h
  · rename_i y hy
    have hT := hE t y hy
    split at h
    · rename_i ha
      split at h
      · rename_i hle
        have hle' := Nat.le_of_ble_eq_true hle
        simp only [Option.some.injEq] at h
        subst h
        have hx : ∀ (j : Nat) u, (us.extract off (off + y.size))[j]? = some u → us[off + j]? = some u ∧ j < y.size := by
          intro j u hu
          rw [Array.getElem?_extract] at hu
          split at hu
          · rename_i hj; exact ⟨hu, by omega⟩
          · cases hu
        refine ⟨.agg (us.extract off (off + y.size)), by simp [part, run_isAgg hT, ha, run_sizeOf hT], y, hy, ?_⟩
        rw [ha]
        refine ⟨_, rfl, by simp; omega, fun j u hu => h1 _ u (hx j u hu).1, fun j c u hc hu => ?_⟩
        have := hx j u hu
        rw [List.getElem?_take, if_pos this.2, List.getElem?_drop] at hc
        exact hr _ c u hc this.1
      · cases h
    · rename_i ha
      split at h
      · rename_i c hc
        simp only [Option.some.injEq] at h
        subst h
        have hlt : off < us.size := by rw [hl]; exact (List.getElem?_eq_some_iff.1 hc).1
        refine ⟨us[off], by simp [part, run_isAgg hT, ha, hlt], y, hy, ?_⟩
        rw [ha]
        exact ⟨c, rfl, hr off c _ hc (by simp [hlt])⟩
      · cases h
  · cases h

theorem oneT_ok {d : Nat} {t : TypeId} {a b : DV} {va vb : Value} {r : Bool} {kd : TypeDesc} (hu : P.underlying t = some kd) (h : oneT kd [a] [b] = some r) (ha : RepD D a va) (hb : RepD D b vb) :
    (Op.equalIn (d + 1) t va vb).run P w = .ok r w := by
  simp only [oneT] at h
  split at h
  · rename_i k x
    cases b <;> simp only [eqCell, reduceCtorEq] at h
    split at h
    · rename_i hkk
      have := kindB_eq hkk
      subst this
      simp only [Option.some.injEq] at h
      subst h
      cases ha; cases hb
      simp [Op.equalIn, run_underlying hu]
    · cases h
  · rename_i x
    cases b <;> simp only [eqCell, reduceCtorEq, Option.some.injEq] at h
    subst h
    cases ha with
    | @str _ ba e1 =>
      cases hb with
      | @str _ bb e2 => rw [run_equalIn_string w d t ba bb hu, e1, e2, beq_bytes, ByteArray.toList_eq, ByteArray.toList_eq]
  · rename_i x
    cases b <;> simp only [eqCell, reduceCtorEq, Option.some.injEq] at h
    subst h
    cases ha; cases hb
    exact run_equalIn_bool' w d t _ _ hu
  · cases h

theorem info_cells {e : TypeId} {y : Ty} (hT : TyOK1 P e y) : ∃ i, P.info? e = some i ∧ P.cellsOf e = y.size := by
  obtain ⟨i, z, h1, h2, _⟩ := hT.info
  exact ⟨i, h1, by simp [Program.cellsOf, h1, h2]⟩

theorem eqT_ok (hE : TyOK P E) (hS : PlainOK P E) (d : Nat) : ∀ (n : Nat) (t : TypeId) (xs ys : List DV) (r : Bool) (va vb : Value), eqT E n t xs ys = some r → ValAt E D t xs va → ValAt E D t ys vb →
    (Op.equalIn (d + n) t va vb).run P w = .ok r w
  | 0, t, xs, ys, r, va, vb, h, _, _ => by cases h
  | n + 1, t, xs, ys, r, va, vb, h, ha, hb => by
    obtain ⟨y, hy, ha⟩ := ha
    obtain ⟨y', hy', hb⟩ := hb
    rw [hy] at hy'; cases hy'
    have hu := (hE t y hy).und
    have ih := eqT_ok hE hS d n
    obtain ⟨hst, _⟩ := hS t y hy
    unfold eqT at h
    rw [hy] at h
    obtain ⟨desc, sz, by_, z⟩ := y
    simp only at h hu ha hb hst
    have cell : isAggT desc = false → oneT desc xs ys = some r → (Op.equalIn (d + (n + 1)) t va vb).run P w = .ok r w := by
      intro hag h
      rw [hag] at ha hb
      obtain ⟨a, rfl, ha⟩ := ha
      obtain ⟨b, rfl, hb⟩ := hb
      exact oneT_ok (d := d + n) hu h ha hb
    cases desc with
    | struct fs =>
      clear cell
      simp only [isAggT] at ha hb
      obtain ⟨us, rfl, a1, a2, a3⟩ := ha
      obtain ⟨vs, rfl, b1, b2, b3⟩ := hb
      obtain ⟨hp, hn⟩ := hst fs rfl
      have hf : P.fieldsOf t = fs := by simp [Program.fieldsOf, hu]
      rw [show d + (n + 1) = (d + n) + 1 from rfl, run_equalIn_struct w (d + n) t us vs (by rw [hf]; exact hu) hp, hf]
      simp only at h
      generalize fs.toList = l at h hn
      induction l generalizing r with
      | nil => simp only [eqFs, Option.some.injEq] at h; subst h; rfl
      | cons f l ihl =>
        simp only [eqFs] at h
        split at h
        · rename_i p q hp' hq'
          split at h
          · rename_i r1 r2 h1 h2
            simp only [Option.some.injEq] at h
            subst h
            obtain ⟨v1, g1, g2⟩ := part_at (w := w) hE a1 a2 a3 hp'
            obtain ⟨v2, g3, g4⟩ := part_at (w := w) hE b1 b2 b3 hq'
            have g5 := ih f.type p q r1 v1 v2 h1 g2 g4
            have g6 := ihl r2 h2 (fun g hg => hn g (by simp [hg]))
            simp only [Op.eqFields, hn f (by simp), ne_eq, not_false_eq_true, if_true, Sem.run_bind, g1, g3, g5, Result.andThen_ok]
            cases r1 with
            | false => simp
            | true => simpa using g6
          · cases h
        · cases h
    | array len e =>
      clear cell
      simp only [isAggT] at ha hb
      obtain ⟨us, rfl, a1, a2, a3⟩ := ha
      obtain ⟨vs, rfl, b1, b2, b3⟩ := hb
      simp only at h
      split at h
      · rename_i ye hye
        obtain ⟨i, hi, hc⟩ := info_cells (hE e ye hye)
        rw [show d + (n + 1) = (d + n) + 1 from rfl, run_equalIn_array w (d + n) us vs hu hi, hc]
        generalize List.range len = l at h
        induction l generalizing r with
        | nil => simp only [eqIs, Option.some.injEq] at h; subst h; rfl
        | cons j l ihl =>
          simp only [eqIs] at h
          split at h
          · rename_i p q hp' hq'
            split at h
            · rename_i r1 r2 h1 h2
              simp only [Option.some.injEq] at h
              subst h
              obtain ⟨v1, g1, g2⟩ := part_at (w := w) hE a1 a2 a3 hp'
              obtain ⟨v2, g3, g4⟩ := part_at (w := w) hE b1 b2 b3 hq'
              have g5 := ih e p q r1 v1 v2 h1 g2 g4
              have g6 := ihl r2 h2
              simp only [Op.eqItems, Sem.run_bind, g1, g3, g5, Result.andThen_ok]
              cases r1 with
              | false => simp
              | true => simpa using g6
            · cases h
          · cases h
      · cases h
    | _ => exact cell rfl h

end
end Go.Av

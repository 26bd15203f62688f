/-
  The abstract layer, part L: one operation, evaluated; sound.
-/
import Derived.Test.YtkehiddekhlfaaaKB
noncomputable section
namespace Go.Av
open Go

/-- Every operation but a call of a function. -/
def evOp (E : PT Ty) (rd : Operand → AV) (objs : List Ob) (o : Op) : R :=
  match o with
  | .move x | .assign x => pureR (rd x) objs
  | .pick c a b => pickR (rd c) (rd a) (rd b) objs
  | .alloc e => allocR E e objs
  | .box e x => boxTR E e (rd x) objs
  | .build t parts => buildR E t (parts.toList.map fun p => (p.1, rd p.2)) objs
  | .buildSlice t len parts => buildSliceR E true t len (parts.toList.map fun p => (p.1, rd p.2)) objs
  | .insert t m k v => mapUpdateR E t (rd m) (rd k) (rd v) objs
  | .load t a => loadR E t (rd a) objs
  | .store t a v => storeR E t (rd a) (rd v) objs
  | .nilCheck x => nilCheckR (rd x) objs
  | .binOp op t x y _ => binR E op t (isC x || isC y) (rd x) (rd y) objs
  | .unOp op _ x => unR op (rd x) objs
  | .convert s d x => match unsT E s || unsT E d with
    | true => unsR E s d (rd x) objs
    | false => match sliceT E s || sliceT E d with
      | true => bytesR E s d (rd x) objs
      | false => convR E s d (rd x) objs
  | .makeFunc f a b => funcR f (a.toList.map rd) (b.toList.map rd) objs
  | .makeMap _ none => makeMapR objs
  | .makeInterface t x => mkIfaceR E t (rd x) objs
  | .typeAssert x _ t ok => assertR E t ok (rd x) objs
  | .slice t x lo hi none => sliceR E t (rd x) (lo.map rd) (hi.map rd) none objs
  | .slice t x lo hi (some mx) => slice3R E t (rd x) (lo.map rd) (hi.map rd) (some (rd mx)) objs
  | .makeSlice t l c => makeSliceR E t (rd l) (rd c) objs
  | .fieldAddr t x f => fieldAddrR E t (rd x) f objs
  | .field t x f => fieldR E t (rd x) f objs
  | .indexAddr t x i => indexAddrR E t (rd x) (rd i) objs
  | .index t x i => indexR E t (rd x) (rd i) objs
  | .lookup t x i ok => lookupR E t (rd x) (rd i) ok objs
  | .mapUpdate t m k v => mapUpdateR E t (rd m) (rd k) (rd v) objs
  | .mapEntry t m k => mapEntryR E t (rd m) (rd k) objs
  | .entryStore _ m st v => entryStoreR (rd m) (rd st) (rd v) objs
  | .extract t i => extractR (rd t) i objs
  | .range t x => rangeR E t (rd x) objs
  | .next it s => nextR (rd it) s objs
  | .call { callee := .builtin b, args, argTypes } =>
    match b, args.toList, argTypes.toList with
    | .len, [x], [t] => lenR (rd x) objs E t
    | .append, [s, x], [ts, tx] => appendR E false ts tx (rd s) (rd x) objs
    | .cap, [x], [t] => capR (rd x) objs E t
    | .copy, [d, x], [ts, tx] => copyR E ts tx (rd d) (rd x) objs
    | .unsafeSliceData, [x], [_] => sliceDataR (rd x) objs
    | .unsafeString, [x, n], [pt, _] => unsafeStrR E pt (rd x) (rd n) objs
    | .min, xs, _ => minR (xs.map rd) objs
    | .max, xs, _ => maxR (xs.map rd) objs
    | _, _, _ => none
  | _ => none

structure EnvOK (P : Program) (E : PT Ty) : Prop where
  ty : TyOK P E
  zero : ZeroOK P E
  plain : PlainOK P E
  fields : ∀ t fs, P.underlying t = some (.struct fs) → (∃ y, E.get? t = some y) → ∀ (i : Nat) f, fs[i]? = some f → ∃ y, E.get? f.type = some y

section
variable {P : Program} {E : PT Ty} {D : DMap} {β : List Bi} {objs : List Ob} {w : World}

def OpRun (P : Program) (ρ : Operand → Value) (o : Oper) (w : World) (v : Value) (w' : World) : Prop :=
  (execOp ρ o).run P w = .ok (.value v) w' ∨ ((execOp ρ o).run P w = .ok .skip w' ∧ v = undef)

theorem of_val {ρ : Operand → Value} {o : Oper} {s : Sem Value} {r : R} (h : ValOK P D β objs w s r) (he : execOp ρ o = (do pure (.value (← s)))) {av : AV} {objs' : List Ob} {c : Bool} (hr : r = some (av, objs', c)) (hc : c = true) :
    ∃ v w' D' β', OpRun P ρ o w v w' ∧ Step D β objs w D' β' objs' w' ∧ RepA D' β' av v := by
  obtain ⟨v, w', D', β', h1, h2, h3⟩ := h av objs' c hr hc
  exact ⟨v, w', D', β', .inl (by rw [he]; simp [h1]), h2, h3⟩
theorem of_unit {ρ : Operand → Value} {o : Oper} {s : Sem Unit} {r : R} (h : UnitOK P D β objs w s r) (he : execOp ρ o = (do s; pure .skip)) {av : AV} {objs' : List Ob} {c : Bool} (hr : r = some (av, objs', c)) (hc : c = true) :
    ∃ v w' D' β', OpRun P ρ o w v w' ∧ Step D β objs w D' β' objs' w' ∧ RepA D' β' av v := by
  obtain ⟨w', D', β', h1, h2, h3⟩ := h av objs' c hr hc
  exact ⟨undef, w', D', β', .inr ⟨by rw [he]; simp [h1], rfl⟩, h2, h3⟩

theorem list2 {α : Type} {a : Array α} {x y : α} (h : a.toList = [x, y]) : a = #[x, y] := by
  obtain ⟨l⟩ := a; simp at h; rw [h]
theorem list1 {α : Type} {a : Array α} {x : α} (h : a.toList = [x]) : a = #[x] := by
  obtain ⟨l⟩ := a; simp at h; rw [h]

theorem op_ok (hE : EnvOK P E) (hp : Heap D β objs w) {rd : Operand → AV} {ρ : Operand → Value} (hρ : ∀ x, RepA D β (rd x) (ρ x)) (o : Oper) {av : AV} {objs' : List Ob} {c : Bool}
    (h : evOp E rd objs o.op = some (av, objs', c)) (hc : c = true) :
    ∃ v w' D' β', OpRun P ρ o w v w' ∧ Step D β objs w D' β' objs' w' ∧ RepA D' β' av v := by
  obtain ⟨dst, op, ty, pos, after, guard⟩ := o
  have parts : ∀ ps : Array (Nat × Operand), PartsOK D β (ps.toList.map fun p => (p.1, rd p.2)) (ps.map fun p => (p.1, ρ p.2)) := by
    intro ps
    refine ⟨by simp, fun j p q hp hq => ?_⟩
    simp only [List.getElem?_map, Option.map_eq_some_iff, Array.getElem?_map, Array.getElem?_toList] at hp hq
    obtain ⟨x, hx, rfl⟩ := hp
    obtain ⟨y, hy, rfl⟩ := hq
    rw [hx] at hy; cases hy
    exact ⟨rfl, hρ _⟩
  have pure1 : ∀ x, execOp ρ ⟨dst, op, ty, pos, after, guard⟩ = pure (.value (ρ x)) → pureR (rd x) objs = some (av, objs', c) →
      ∃ v w' D' β', OpRun P ρ ⟨dst, op, ty, pos, after, guard⟩ w v w' ∧ Step D β objs w D' β' objs' w' ∧ RepA D' β' av v := by
    intro x he hr
    simp only [pureR, Option.some.injEq, Prod.mk.injEq] at hr
    obtain ⟨rfl, rfl, rfl⟩ := hr
    exact ⟨ρ x, w, D, β, .inl (by rw [he]; rfl), Step.refl hp, hρ x⟩
  have optr : ∀ y : Option Operand, (∀ x, y.map rd = some x → ∃ u, y.map ρ = some u ∧ RepA D β x u) ∧ (y.map rd = none → y.map ρ = none) := by
    intro y
    cases y with
    | none => exact ⟨fun x h => by simp at h, fun _ => rfl⟩
    | some y => exact ⟨fun x h => by simp at h; subst h; exact ⟨ρ y, rfl, hρ y⟩, fun h => by simp at h⟩
  cases op with
  | move x => exact pure1 x rfl h
  | assign x => exact pure1 x rfl h
  | pick ci a b =>
    simp only [evOp] at h
    have hci := hρ ci
    unfold pickR at h
    split at h
    · rename_i bb hb
      rw [hb] at hci
      cases hci with
      | d hci =>
        generalize hci' : ρ ci = vc at hci
        cases hci
        simp only [pureR, Option.some.injEq, Prod.mk.injEq] at h
        obtain ⟨rfl, rfl, rfl⟩ := h
        refine ⟨if bb then ρ a else ρ b, w, D, β, .inl ?_, Step.refl hp, pickA_rep (hρ a) (hρ b)⟩
        simp [execOp, hci', asBool]
    · cases h
  | alloc e => exact of_val (alloc_ok hE.ty hp e _ rfl) rfl h hc
  | box e x => exact of_val (boxT_ok hp e (hρ x)) rfl h hc
  | build t ps =>
    simp only [evOp] at h
    by_cases hy : ∃ y, E.get? t = some y
    · exact of_val (build_ok hE.ty hp t (parts ps) (fun fs hu => hE.fields t fs hu hy)) rfl h hc
    · unfold buildR at h
      cases hg : E.get? t with
      | none => rw [hg] at h; cases h
      | some y => exact absurd ⟨y, hg⟩ hy
  | buildSlice t len ps => exact of_val (buildSlice_ok hE.ty hp true t len (parts ps)) rfl h hc
  | insert t m k v => exact of_unit (mapUpdate_ok hE.ty hE.plain hp t (hρ m) (hρ k) (hρ v)) rfl h hc
  | load t a => exact of_val (load_ok hE.ty hp t (hρ a)) rfl h hc
  | store t a v => exact of_unit (store_ok hE.ty hp t (hρ a) (hρ v)) rfl h hc
  | nilCheck x =>
    obtain ⟨v', w', D', β', h1, h2, h3⟩ := nilCheck_ok (P := P) hp (hρ x) ⟨dst, .nilCheck x, ty, pos, after, guard⟩ x rfl ρ rfl av objs' c h hc
    exact ⟨v', w', D', β', .inl h1, h2, h3⟩
  | binOp op t x y yt => exact of_val (bin_ok hE.ty hE.plain hp op t x y (hρ x) (hρ y)) rfl h hc
  | unOp op t x => exact of_val (un_ok hp op (hρ x)) rfl h hc
  | convert s d x =>
    simp only [evOp] at h
    split at h
    · exact of_val (uns_ok hE.ty hE.plain hp s d (hρ x)) rfl h hc
    split at h
    · exact of_val (bytes_ok hE.ty hp s d (hρ x)) rfl h hc
    · rename_i hns
      simp only [Bool.or_eq_false_iff] at hns
      exact of_val (conv_int_ok hE.ty hp s d (hρ x) (fun ys e hy hd => by
        obtain ⟨desc, a1, a2, a3⟩ := ys
        simp only at hd
        subst hd
        have := hns.1
        simp [sliceT, hy] at this)) rfl h hc
  | makeFunc f a b =>
    refine of_val (makeFunc_ok hp f (first := a.toList.map rd) (cap := b.toList.map rd) (by simp) (by simp) (fun j c v hc hv => ?_) (fun j c v hc hv => ?_)) rfl h hc
    all_goals
      simp only [List.getElem?_map, Option.map_eq_some_iff, Array.getElem?_map, Array.getElem?_toList] at hc hv
      obtain ⟨x, hx, rfl⟩ := hc
      obtain ⟨y, hy, rfl⟩ := hv
      rw [hx] at hy; cases hy
      exact hρ _
  | makeMap t r =>
    cases r with
    | none => exact of_val (makeMap_ok hp t) rfl h hc
    | some r => simp [evOp] at h
  | slice t x lo hi mx =>
    cases mx with
    | none => exact of_val (slice_ok hE.ty hp t (hρ x) (optr lo).1 (optr hi).1 (optr none).1 (optr lo).2 (optr hi).2 (optr none).2) rfl h hc
    | some mx => exact of_val (slice3_ok hE.ty hp t (hρ x) (optr lo).1 (optr hi).1 (optr (some mx)).1 (optr lo).2 (optr hi).2 (optr (some mx)).2) rfl h hc
  | makeSlice t l c => exact of_val (makeSlice_ok hE.ty hp t (hρ l) (hρ c)) rfl h hc
  | fieldAddr t x f => exact of_val (fieldAddr_ok hE.ty hp t f (hρ x)) rfl h hc
  | field t x f => exact of_val (field_ok hE.ty hp t f (hρ x)) rfl h hc
  | indexAddr t x i => exact of_val (indexAddr_ok hE.ty hp t (hρ x) (hρ i)) rfl h hc
  | index t x i => exact of_val (index_ok hE.ty hp t (hρ x) (hρ i)) rfl h hc
  | lookup t x i ok => exact of_val (lookup_ok hE.ty hE.plain hE.zero hp t ok (hρ x) (hρ i)) rfl h hc
  | makeInterface t x => exact of_val (mkIface_ok hE.ty hp t (hρ x)) rfl h hc
  | typeAssert x xt t ok => exact of_val (assert_ok hE.ty hE.zero hp xt t ok (hρ x)) rfl h hc
  | mapEntry t m k => exact of_val (mapEntry_ok hE.ty hE.zero hE.plain hp t (hρ m) (hρ k)) rfl h hc
  | entryStore t m st v => exact of_unit (entryStore_ok hp t (hρ m) (hρ st) (hρ v)) rfl h hc
  | mapUpdate t m k v => exact of_unit (mapUpdate_ok hE.ty hE.plain hp t (hρ m) (hρ k) (hρ v)) rfl h hc
  | extract t i => exact of_val (extract_ok hp i (hρ t)) rfl h hc
  | range t x => exact of_val (range_ok hE.ty hp t (hρ x)) rfl h hc
  | next it s => exact of_val (next_ok hp s ty (hρ it)) rfl h hc
  | call cl =>
    obtain ⟨callee, args, argTypes⟩ := cl
    cases callee with
    | value f => simp [evOp] at h
    | invoke r m => simp [evOp] at h
    | builtin b =>
      simp only [evOp] at h
      split at h
      · rename_i x t ha ht
        rw [list1 ha, list1 ht]
        refine of_val (len_ok hE.ty hp t ty #[t] #[ρ x] (hρ x) rfl rfl) ?_ h hc
        simp [execOp, resolve, invoke, builtin]
      · rename_i s x ts tx ha ht
        rw [list2 ha, list2 ht]
        refine of_val (append_ok hE.ty hp false ts tx ty (hρ s) (hρ x)) ?_ h hc
        simp [execOp, resolve, invoke, builtin]
      · rename_i x t ha ht
        rw [list1 ha, list1 ht]
        refine of_val (cap_ok hE.ty hp t ty #[t] #[ρ x] (hρ x) rfl rfl) ?_ h hc
        simp [execOp, resolve, invoke, builtin]
      · rename_i s x ts tx ha ht
        rw [list2 ha, list2 ht]
        refine of_val (copy_ok hE.ty hp ts tx ty (hρ s) (hρ x)) ?_ h hc
        simp [execOp, resolve, invoke, builtin]
      · rename_i x t ha ht
        rw [list1 ha, list1 ht]
        refine of_val (sliceData_ok hp #[t] ty (hρ x)) ?_ h hc
        simp [execOp, resolve, invoke, builtin]
      · rename_i x n pt nt' ha ht
        rw [list2 ha, list2 ht]
        refine of_val (unsafeStr_ok hE.ty hp pt nt' ty (hρ x) (hρ n)) ?_ h hc
        simp [execOp, resolve, invoke, builtin]
      · obtain ⟨l⟩ := args
        unfold minR at h
        split at h
        · rename_i k a r hm
          cases l with
          | nil => simp at hm
          | cons x l =>
            simp only [List.map_cons, List.cons.injEq] at hm
            obtain ⟨hx, rfl⟩ := hm
            simp only [Option.map_eq_some_iff, Prod.mk.injEq] at h
            obtain ⟨n, hn, rfl, rfl, rfl⟩ := h
            have h0 := hρ x
            rw [hx] at h0
            cases h0 with
            | d h0 =>
              generalize hv : ρ x = vx at h0
              cases h0
              have hf := min_fold (P := P) (w := w) (D := D) (β := β) (l.map rd) (l.map ρ) a n hn (by simp) (fun j c v hc hv => by
                simp only [List.getElem?_map, Option.map_eq_some_iff] at hc hv
                obtain ⟨y, hy, rfl⟩ := hc
                obtain ⟨z, hz, rfl⟩ := hv
                rw [hy] at hz; cases hz; exact hρ _)
              refine ⟨.int k n, w, D, β, .inl ?_, Step.refl hp, .d .int⟩
              simp [execOp, resolve, invoke, builtin, Builtin.min_, hv, hf]
        · cases h
      · obtain ⟨l⟩ := args
        unfold maxR at h
        split at h
        · rename_i k a r hm
          cases l with
          | nil => simp at hm
          | cons x l =>
            simp only [List.map_cons, List.cons.injEq] at hm
            obtain ⟨hx, rfl⟩ := hm
            simp only [Option.map_eq_some_iff, Prod.mk.injEq] at h
            obtain ⟨n, hn, rfl, rfl, rfl⟩ := h
            have h0 := hρ x
            rw [hx] at h0
            cases h0 with
            | d h0 =>
              generalize hv : ρ x = vx at h0
              cases h0
              have hf := max_fold (P := P) (w := w) (D := D) (β := β) (l.map rd) (l.map ρ) a n hn (by simp) (fun j c v hc hv => by
                simp only [List.getElem?_map, Option.map_eq_some_iff] at hc hv
                obtain ⟨y, hy, rfl⟩ := hc
                obtain ⟨z, hz, rfl⟩ := hv
                rw [hy] at hz; cases hz; exact hρ _)
              refine ⟨.int k n, w, D, β, .inl ?_, Step.refl hp, .d .int⟩
              simp [execOp, resolve, invoke, builtin, Builtin.max_, hv, hf]
        · cases h
      · cases h
  | _ => simp [evOp] at h

end
end Go.Av

/-
  The abstract layer, part K: soundness of the evaluator's operations, last part: conversions, function values, maps.
-/
import Derived.Test.YtchoocpngfhkpaaJB
noncomputable section
namespace Go.Av
open Go

section
variable {P : Program} {E : PT Ty} {D : DMap} {β : List Bi} {objs : List Ob} {w : World}

theorem makeFunc_ok (hp : Heap D β objs w) (f : Fn) {first cap : List AV} {a b : Array Value} (h1 : a.size = first.length) (h2 : b.size = cap.length)
    (r1 : ∀ (j : Nat) c v, first[j]? = some c → a[j]? = some v → RepA D β c v) (r2 : ∀ (j : Nat) c v, cap[j]? = some c → b[j]? = some v → RepA D β c v) :
    ValOK P D β objs w (Instr.makeFunc f a b) (funcR f first cap objs) := by
  unfold funcR
  split
  · rename_i x y hx hy
    have e1 := allD_some hx
    have e2 := allD_some hy
    subst e1 e2
    refine .pure hp (fun _ => ⟨_, rfl, .d (.fn (by simpa using h1) (by simpa using h2) (fun j c v hc hv => ?_) (fun j c v hc hv => ?_))⟩)
    · have := r1 j (.d c) v (by simp [hc]) hv
      cases this with | d h => exact h
    · have := r2 j (.d c) v (by simp [hc]) hv
      cases this with | d h => exact h
  · exact .pure hp (fun _ => ⟨_, rfl, .fn h1 h2 r1 r2⟩)

theorem conv_int_ok (hE : TyOK P E) (hp : Heap D β objs w) (src dst : TypeId) {x : AV} {v : Value} (hx : RepA D β x v) (hns : ∀ ys e, E.get? src = some ys → ys.desc ≠ .slice e) :
    ValOK P D β objs w (convert src dst v) (convR E src dst x objs) := by
  unfold convR
  split
  · rename_i ys yd hs hd
    have us := (hE src _ hs).und
    have ud := (hE dst _ hd).und
    split
    · rename_i k0 k k' n e1 e2
      rw [e1] at us
      rw [e2] at ud
      cases hx with
      | d hx =>
        cases hx
        exact .pure hp (fun _ => ⟨_, by simp [convert, run_underlying us, run_underlying ud, Conv.intToInt], .d .int⟩)
    · rename_i s e1 e2
      rw [e1] at us
      rw [e2] at ud
      cases hx with
      | d hx =>
        cases hx with
        | str h => exact .pure hp (fun _ => ⟨_, by simp [convert, run_underlying us, run_underlying ud], .d (.str h)⟩)
    · rename_i e1 e2
      exact absurd e1 (hns ys _ hs)
    · exact .none
  · exact .none

theorem min_fold {k : IntKind} : ∀ (args : List AV) (vs : List Value) (a n : Int), minL k a args = some n → args.length = vs.length → (∀ (j : Nat) c v, args[j]? = some c → vs[j]? = some v → RepA D β c v) →
    (vs.foldlM Builtin.min2 (.int k a)).run P w = .ok (.int k n) w
  | [], [], a, n, h, _, _ => by simp [minL] at h; subst h; rfl
  | [], _ :: _, _, _, _, hl, _ => by simp at hl
  | _ :: _, [], _, _, _, hl, _ => by simp at hl
  | c :: args, v :: vs, a, n, h, hl, hr => by
    have h0 := hr 0 c v rfl rfl
    cases c with
    | d x =>
      cases x with
      | int k' b =>
        simp only [minL] at h
        split at h
        · rename_i hk
          have := kindB_eq hk
          subst this
          cases h0 with
          | d h0 =>
            cases h0
            have ih := min_fold args vs _ n h (by simpa using hl) (fun j c v hc hv => hr (j + 1) c v (by simpa using hc) (by simpa using hv))
            simp only [List.foldlM_cons, Sem.run_bind, Builtin.min2, Sem.run_pure, Result.andThen_ok]
            exact ih
        · cases h
      | _ => simp [minL] at h
    | _ => simp [minL] at h
theorem max_fold {k : IntKind} : ∀ (args : List AV) (vs : List Value) (a n : Int), maxL k a args = some n → args.length = vs.length → (∀ (j : Nat) c v, args[j]? = some c → vs[j]? = some v → RepA D β c v) →
    (vs.foldlM Builtin.max2 (.int k a)).run P w = .ok (.int k n) w
  | [], [], a, n, h, _, _ => by simp [maxL] at h; subst h; rfl
  | [], _ :: _, _, _, _, hl, _ => by simp at hl
  | _ :: _, [], _, _, _, hl, _ => by simp at hl
  | c :: args, v :: vs, a, n, h, hl, hr => by
    have h0 := hr 0 c v rfl rfl
    cases c with
    | d x =>
      cases x with
      | int k' b =>
        simp only [maxL] at h
        split at h
        · rename_i hk
          have := kindB_eq hk
          subst this
          cases h0 with
          | d h0 =>
            cases h0
            have ih := max_fold args vs _ n h (by simpa using hl) (fun j c v hc hv => hr (j + 1) c v (by simpa using hc) (by simpa using hv))
            simp only [List.foldlM_cons, Sem.run_bind, Builtin.max2, Sem.run_pure, Result.andThen_ok]
            exact ih
        · cases h
      | _ => simp [maxL] at h
    | _ => simp [maxL] at h

/-! ### Maps -/
theorem makeMap_ok (hp : Heap D β objs w) (t : TypeId) : ValOK P D β objs w (Instr.makeMap t none) (makeMapR objs) := by
  intro av o c he _
  simp only [makeMapR, pureR, Option.some.injEq, Prod.mk.injEq] at he
  obtain ⟨rfl, rfl, rfl⟩ := he
  refine ⟨_, w.alloc (.map #[] 0), D, β ++ [⟨w.heap.size, fun _ => none⟩], by simp [Instr.makeMap], ?_, .mp (bi := ⟨w.heap.size, fun _ => none⟩) (by rw [← hp.len]; simp)⟩
  refine Step.push hp (fun k hk => alloc_keep w _ k hk) (by simp) rfl rfl rfl (fun _ _ h => h) (fun ad v h0 h2 => by rw [h2] at h0; cases h0) (fun b hb => by simp [ownOf] at hb; omega) ?_
  refine ⟨#[], 0, alloc_new w _, rfl, by simp, fun ad ha => ?_⟩
  cases hd : D ad with
  | none => rfl
  | some v => have := hp.D_lt hd; simp only at ha; omega

/-- Two plain keys: what the evaluator says of them, the model says. -/
theorem sameNow_ok {kt : TypeDesc} {a b : DV} {u v : Value} {r : Bool} (ha : RepD D a u) (hb : RepD D b v) (he : eqCell a b = some r)
    (hk : (∃ k k' n, kt = .int k ∧ a = .int k' n) ∨ (kt = .string ∧ ∃ s, a = .str s) ∨ (kt = .bool ∧ ∃ x, a = .bool x)) : Instr.sameNow kt u v = some r := by
  rcases hk with ⟨k, k', n, rfl, rfl⟩ | ⟨rfl, s, rfl⟩ | ⟨rfl, x, rfl⟩
  · cases b <;> simp only [eqCell, reduceCtorEq] at he
    split at he
    · rename_i hkk
      have := kindB_eq hkk
      subst this
      cases ha; cases hb
      simp only [Option.some.injEq] at he
      simp [Instr.sameNow, he]
    · cases he
  · cases b <;> simp only [eqCell, reduceCtorEq, Option.some.injEq] at he
    cases ha with
    | str h1 =>
      cases hb with
      | @str _ bb h2 =>
        subst he
        rw [h1, h2, beq_bytes]
        simp only [Instr.sameNow]
        rw [beq_toListBytes, ByteArray.toList_eq, ByteArray.toList_eq]
  · cases b <;> simp only [eqCell, reduceCtorEq, Option.some.injEq] at he
    cases ha; cases hb
    subst he
    rfl

theorem findNow_ok {kt : TypeDesc} {k : DV} {u : Value} (hk : RepD D k u) (hkt : (∃ i i' n, kt = .int i ∧ k = .int i' n) ∨ (kt = .string ∧ ∃ s, k = .str s) ∨ (kt = .bool ∧ ∃ x, k = .bool x)) :
    ∀ (kvs : List (DV × DV)) (es : List MapEntry) (i : Nat) (r : Option (Nat × DV)), findKV k kvs = some r → kvs.length = es.length → (∀ (j : Nat) p e, kvs[j]? = some p → es[j]? = some e → pairD D p e) →
      ∃ r', Instr.findNow kt u es i = some r' ∧ match r with
        | none => r' = none
        | some (j, d) => ∃ v, r' = some (i + j, v) ∧ RepD D d v ∧ (∃ p, kvs[j]? = some p ∧ eqCell k p.1 = some true)
  | [], [], i, r, h, _, _ => by simp [findKV] at h; subst h; exact ⟨none, rfl, rfl⟩
  | [], _ :: _, _, _, _, hl, _ => by simp at hl
  | _ :: _, [], _, _, _, hl, _ => by simp at hl
  | (k', d) :: kvs, e :: es, i, r, h, hl, hr => by
    obtain ⟨p1, p2⟩ := hr 0 (k', d) e rfl rfl
    simp only [findKV] at h
    cases he : eqCell k k' with
    | none => rw [he] at h; cases h
    | some b =>
      have hs := sameNow_ok hk p1 he hkt
      rw [he] at h
      cases b with
      | true =>
        simp only [Option.some.injEq] at h
        subst h
        exact ⟨some (i, e.val), by simp only [Instr.findNow, hs], e.val, by simp, p2, _, rfl, he⟩
      | false =>
        simp only [Option.map_eq_some_iff] at h
        obtain ⟨r0, h1, rfl⟩ := h
        obtain ⟨r', g1, g2⟩ := findNow_ok hk hkt kvs es (i + 1) r0 h1 (by simpa using hl) (fun j p e hp he => hr (j + 1) p e (by simpa using hp) (by simpa using he))
        refine ⟨r', by simp only [Instr.findNow, hs]; exact g1, ?_⟩
        cases r0 with
        | none => exact g2
        | some q =>
          obtain ⟨v, e1, e2, p, e3, e4⟩ := g2
          exact ⟨v, by rw [e1]; simp; omega, e2, p, by simpa using e3, e4⟩

theorem keyT_cases {kt : TypeId} {k : DV} (hE : TyOK P E) (h : keyT E kt k = true) : ∃ d, P.underlying kt = some d ∧
    ((∃ i i' n, d = .int i ∧ k = .int i' n) ∨ (d = .string ∧ ∃ s, k = .str s) ∨ (d = .bool ∧ ∃ x, k = .bool x)) := by
  unfold keyT at h
  split at h
  · rename_i hy; exact ⟨_, (hE kt _ hy).und, .inl ⟨_, _, _, rfl, rfl⟩⟩
  · rename_i hy; exact ⟨_, (hE kt _ hy).und, .inr (.inl ⟨rfl, _, rfl⟩)⟩
  · rename_i hy; exact ⟨_, (hE kt _ hy).und, .inr (.inr ⟨rfl, _, rfl⟩)⟩
  · cases h

theorem checkKey_ok {kt : TypeId} {k : DV} {u : Value} {b : Bool} (hk : RepD D k u) {d : TypeDesc} (hu : P.underlying kt = some d)
    (hkt : (∃ i i' n, d = .int i ∧ k = .int i' n) ∨ (d = .string ∧ ∃ s, k = .str s) ∨ (d = .bool ∧ ∃ x, k = .bool x)) : (Instr.checkKey b 10000 kt u).run P w = .ok () w := by
  have key : ∀ n : Nat, (Instr.checkKey b (n + 1) kt u).run P w = .ok () w := by
    intro n
    rcases hkt with ⟨i, i', m, rfl, rfl⟩ | ⟨rfl, s, rfl⟩ | ⟨rfl, x, rfl⟩ <;> cases hk <;> simp only [Instr.checkKey, Sem.run_bind, run_underlying hu, Result.andThen_ok] <;> rfl
  exact key 9999

theorem zeroD_ok {et : TypeId} {y : Ty} (hT : TyOK1 P et y) {z : DV} (h : zeroD y = some z) (hagg : ∀ zv i, P.info? et = some i → i.zero = some zv → (isAggT y.desc = true → ∃ cs, zv = .agg cs) ∧ (isAggT y.desc = false → zv.cells = #[zv])) :
    ∃ zv, (zeroValue et).run P w = .ok zv w ∧ RepD D z zv := by
  obtain ⟨i, zv, h1, h2, h3, h4, h5, h6, h7, h8⟩ := hT.info
  refine ⟨zv, by simp [zeroValue, run_typeInfo h1, h4], ?_⟩
  obtain ⟨g1, g2⟩ := hagg zv i h1 h4
  unfold zeroD at h
  split at h
  · rename_i ha
    obtain ⟨cs, rfl⟩ := g1 ha
    simp only [Option.some.injEq] at h
    subst h
    exact .agg (by rw [h6]; exact h5) h8 (fun j c v hc hv => (h7 j c v hc hv).zero)
  · rename_i ha
    have := g2 ha
    cases hz : y.zero with
    | nil => rw [hz] at h; cases h
    | cons c r =>
      rw [hz] at h
      simp only [List.head?_cons, Option.some.injEq] at h
      subst h
      exact (h7 0 c zv (by rw [hz]; rfl) (by rw [this]; rfl)).zero

/-- A type's zero value is an aggregate just where the type is one. -/
def ZeroOK (P : Program) (E : PT Ty) : Prop := ∀ et y, E.get? et = some y → ∀ zv i, P.info? et = some i → i.zero = some zv → (isAggT y.desc = true → ∃ cs, zv = .agg cs) ∧ (isAggT y.desc = false → zv.cells = #[zv])

def lookPick (et : TypeId) (r : Option (Nat × Value)) : Sem (Value × Bool) :=
  match r with
  | some (_, v) => pure (v, true)
  | none => do pure (← zeroValue et, false)
def lookupCore (kt et : TypeId) (u : Value) (ok : Bool) (es : List MapEntry) : Sem Value := do
  Instr.checkKey es.isEmpty 10000 kt u
  let p ← lookPick et (← Instr.findKey kt u es)
  pure (if ok then .tuple #[p.1, .bool p.2] else p.1)

theorem lookup_ok (hE : TyOK P E) (hZ : ZeroOK P E) (hp : Heap D β objs w) (t : TypeId) (ok : Bool) {x k : AV} {v u : Value} (hx : RepA D β x v) (hk : RepA D β k u) :
    ValOK P D β objs w (Instr.lookup t v u ok) (lookupR E t x k ok objs) := by
  unfold lookupR
  split
  · rename_i kt et _ _ _ kd hty
    have hu := (hE t _ hty).und
    simp only at hu
    cases hk with
    | d hk =>
      split
      · rename_i y hy hkey
        obtain ⟨d, hd, hcase⟩ := keyT_cases hE hkey
        split
        · rename_i kvs hkvs
          obtain ⟨es, hcore, hlen, hpair⟩ : ∃ es : List MapEntry, (Instr.lookup t v u ok).run P w = (lookupCore kt et u ok es).run P w ∧ kvs.length = es.length ∧
              ∀ (j : Nat) p e, kvs[j]? = some p → es[j]? = some e → pairD D p e := by
            unfold kvsOf at hkvs
            split at hkvs
            · cases hkvs
              cases hx with
              | d hx =>
                cases hx
                refine ⟨[], ?_, rfl, by simp⟩
                simp only [Instr.lookup, lookupCore, Sem.run_bind, run_underlying hu, Result.andThen_ok, Sem.run_pure]
                have e0 : (#[] : Array MapEntry).isEmpty = ([] : List MapEntry).isEmpty := rfl
                rw [e0]
                congr 1; funext _ w1; congr 1; funext a w2; cases a <;> simp [lookPick] <;> (generalize Sem.run P (zeroValue et) w2 = r; cases r <;> rfl)
            · rename_i i
              split at hkvs
              · rename_i kvs' ho
                cases hkvs
                cases hx with
                | @mp _ bi hb =>
                  obtain ⟨es, clock, g1, g2, g3, _⟩ := hp.hold i _ _ hb ho
                  have hg : (getObj bi.blk).run P w = .ok (.map es clock) w := by simp only [getObj, Sem.run]; rw [g1]
                  refine ⟨es.toList, ?_, by simpa using g2.symm, fun j p e hp he => g3 j p e hp (by simpa using he)⟩
                  simp only [Instr.lookup, lookupCore, Sem.run_bind, run_underlying hu, Result.andThen_ok, Sem.run_pure, hg]
                  have e0 : es.isEmpty = es.toList.isEmpty := by simp
                  rw [e0]
                  congr 1; funext _ w1; congr 1; funext a w2; cases a <;> simp [lookPick] <;> (generalize Sem.run P (zeroValue et) w2 = r; cases r <;> rfl)
              · cases hkvs
            · cases hkvs
          have hrun0 : ∀ (r : Option (Nat × Value)), Instr.findNow d u es 0 = some r → (Instr.lookup t v u ok).run P w = ((lookPick et r).run P w).andThen fun p w' => .ok (if ok then .tuple #[p.1, .bool p.2] else p.1) w' := by
            intro r hr
            rw [hcore]
            have hck := checkKey_ok (P := P) (w := w) (b := es.isEmpty) hk hd hcase
            have hfk : (Instr.findKey kt u es).run P w = .ok r w := by simp [Instr.findKey, run_underlying hd, hr]
            simp only [lookupCore, Sem.run_bind, hck, Result.andThen_ok, hfk, Sem.run_pure]
          split
          · rename_i j dv hf
            obtain ⟨r', g1, v', e1, e2, _⟩ := findNow_ok hk hcase kvs es 0 _ hf hlen hpair
            subst e1
            refine .pure hp (fun _ => ⟨_, hrun0 _ g1, ?_⟩)
            cases ok with
            | true => exact .tup rfl (fun j c v hc hv => by
                match j with
                | 0 => simp at hc hv; subst hc hv; exact .d e2
                | 1 => simp at hc hv; subst hc hv; exact .d .bool
                | j + 2 => simp at hc)
            | false => exact .d e2
          · rename_i hf
            obtain ⟨r', g1, g2⟩ := findNow_ok hk hcase kvs es 0 _ hf hlen hpair
            subst g2
            split
            · rename_i z hz
              obtain ⟨zv, z1, z2⟩ := zeroD_ok (w := w) (D := D) (hE et y hy) hz (hZ et y hy)
              refine .pure hp (fun _ => ⟨if ok then .tuple #[zv, .bool false] else zv, ?_, ?_⟩)
              · rw [hrun0 _ g1]; simp [lookPick, z1]
              cases ok with
              | true => exact .tup rfl (fun j c v hc hv => by
                  match j with
                  | 0 => simp at hc hv; subst hc hv; exact .d z2
                  | 1 => simp at hc hv; subst hc hv; exact .d .bool
                  | j + 2 => simp at hc)
              | false => exact .d z2
            · exact .none
          · exact .none
        · exact .none
      · exact .none
  · exact .none

theorem findKV_none {k : DV} : ∀ {kvs : List (DV × DV)}, findKV k kvs = some none → True := fun _ => trivial

theorem setObj_run {r : Nat} {o o' : Obj} (h : w.heap[r]? = some o) (hn : ∀ c e f, o ≠ .cells c e f) : (setObj r o').run P w = .ok () (putB w r o') := by
  simp only [setObj, Sem.run, h]
  cases o with
  | cells c e f => exact absurd rfl (hn c e f)
  | _ => rfl

theorem mapUpdate_ok (hE : TyOK P E) (hp : Heap D β objs w) (t : TypeId) {x k v : AV} {ux uk uv : Value} (hx : RepA D β x ux) (hk : RepA D β k uk) (hv : RepA D β v uv) :
    UnitOK P D β objs w (Instr.mapUpdate t ux uk uv) (mapUpdateR E t x k v objs) := by
  unfold mapUpdateR
  split
  · rename_i kt et _ _ _ i kd vd hty
    have hu := (hE t _ hty).und
    simp only at hu
    cases hk with
    | d hk =>
      cases hv with
      | d hv =>
        cases hx with
        | @mp _ bi hb =>
          split
          · rename_i kvs hkey ho
            obtain ⟨d, hd, hcase⟩ := keyT_cases hE hkey
            obtain ⟨es, clock, g1, g2, g3, g4⟩ := hp.hold i bi _ hb ho
            have hg : (getObj bi.blk).run P w = .ok (.map es clock) w := by simp only [getObj, Sem.run]; rw [g1]
            have hck := checkKey_ok (P := P) (w := w) (b := false) hk hd hcase
            have hbw := lt_of_getElem? g1
            have hset : ∀ o', (setObj bi.blk o').run P w = .ok () (putB w bi.blk o') := fun o' => setObj_run g1 (by intros; simp)
            have hpair : ∀ (j : Nat) p e, kvs[j]? = some p → es.toList[j]? = some e → pairD D p e := fun j p e hp he => g3 j p e hp (by simpa using he)
            split
            · rename_i j dv hf
              obtain ⟨r', f1, v', e1, e2, p0, e3, e4⟩ := findNow_ok hk hcase kvs es.toList 0 _ hf (by simpa using g2.symm) hpair
              subst e1
              have hfk : (Instr.findKey kt uk es.toList).run P w = .ok (some (j, v')) w := by simp [Instr.findKey, run_underlying hd, f1]
              have hjl : j < es.size := by rw [g2]; exact (List.getElem?_eq_some_iff.1 e3).1
              have hsb : Instr.sameBits 10000 es[j].key uk = true := by
                have hp1 := (hpair j p0 es[j] e3 (by simp [hjl])).1
                rcases hcase with ⟨a, b, n, rfl, rfl⟩ | ⟨rfl, s, rfl⟩ | ⟨rfl, x, rfl⟩
                · cases hq : p0.1 <;> simp only [hq, eqCell, reduceCtorEq] at e4
                  split at e4
                  · rename_i hkk
                    have := kindB_eq hkk
                    subst this
                    rw [hq] at hp1
                    cases hk
                    generalize es[j].key = kk at *
                    cases hp1
                    simp at e4
                    simp [Instr.sameBits, e4]
                  · cases e4
                · cases hq : p0.1 <;> simp only [hq, eqCell, reduceCtorEq, Option.some.injEq] at e4
                  rw [hq] at hp1
                  generalize es[j].key = kk at *
                  cases hk with
                  | @str _ b1 h1 =>
                    cases hp1 with
                    | @str _ b2 h2 =>
                      simp only [beq_iff_eq] at e4
                      rw [h1, h2] at e4
                      have := byte_inj e4
                      have hb12 : b2 = b1 := by
                        obtain ⟨⟨l1⟩⟩ := b1
                        obtain ⟨⟨l2⟩⟩ := b2
                        simp only at this
                        rw [this]
                      subst hb12
                      simp only [Instr.sameBits]
                      rw [beq_toListBytes]; simp
                · cases hq : p0.1 <;> simp only [hq, eqCell, reduceCtorEq, Option.some.injEq] at e4
                  rw [hq] at hp1
                  generalize es[j].key = kk at *
                  cases hk
                  cases hp1
                  simp only [beq_iff_eq] at e4
                  simp [Instr.sameBits, e4]
              intro av o c he _
              simp only [pureR, Option.some.injEq, Prod.mk.injEq] at he
              obtain ⟨rfl, rfl, rfl⟩ := he
              refine ⟨putB w bi.blk (.map (es.modify j fun e => { e with key := uk, val := uv }) clock), D, β, ?_, ?_, .d .any⟩
              · simp only [Instr.mapUpdate, Sem.run_bind, run_underlying hu, Result.andThen_ok, hg, hck, hfk]
                have hkk : (Instr.keyThatStays (((es[j]?).map (·.key)).getD uk) uk).run P w = .ok uk w := by
                  simp [Instr.keyThatStays, hjl, hsb]
                simp only [hkk, Result.andThen_ok, hset]
              · refine Step.put hp hb ho rfl (fun b' hb' => by simp [ownOf] at hb'; exact hb'.symm) g4 ?_
                refine ⟨_, clock, putB_eq hbw, by simp [g2], fun j' p e hp' he' => ?_, g4⟩
                rw [List.getElem?_modify] at hp'
                rw [Array.getElem?_modify] at he'
                by_cases ej : j = j'
                · subst ej
                  rw [e3] at hp'
                  rw [Array.getElem?_eq_getElem hjl] at he'
                  simp at hp' he'
                  subst hp' he'
                  refine ⟨?_, hv⟩
                  -- the key that stays is equal
                  have : p0.1 = kd := by
                    rcases hcase with ⟨a, b, n, rfl, rfl⟩ | ⟨rfl, s, rfl⟩ | ⟨rfl, x, rfl⟩
                    · cases hq : p0.1 <;> simp only [hq, eqCell, reduceCtorEq] at e4
                      split at e4
                      · rename_i hkk; rw [kindB_eq hkk]; simp at e4; rw [e4]
                      · cases e4
                    · cases hq : p0.1 <;> simp only [hq, eqCell, reduceCtorEq, Option.some.injEq, beq_iff_eq] at e4
                      rw [e4]
                    · cases hq : p0.1 <;> simp only [hq, eqCell, reduceCtorEq, Option.some.injEq, beq_iff_eq] at e4
                      rw [e4]
                  simp only [this]; exact hk
                · simp [ej] at hp' he'
                  exact g3 j' p e hp' he'
            · rename_i hf
              obtain ⟨r', f1, e1⟩ := findNow_ok hk hcase kvs es.toList 0 _ hf (by simpa using g2.symm) hpair
              subst e1
              have hfk : (Instr.findKey kt uk es.toList).run P w = .ok none w := by simp [Instr.findKey, run_underlying hd, f1]
              intro av o c he _
              simp only [pureR, Option.some.injEq, Prod.mk.injEq] at he
              obtain ⟨rfl, rfl, rfl⟩ := he
              refine ⟨putB w bi.blk (.map (es.push { key := uk, val := uv, born := clock }) (clock + 1)), D, β, ?_, ?_, .d .any⟩
              · simp only [Instr.mapUpdate, Sem.run_bind, run_underlying hu, Result.andThen_ok, hg, hck, hfk, hset]
              · refine Step.put hp hb ho rfl (fun b' hb' => by simp [ownOf] at hb'; exact hb'.symm) g4 ?_
                refine ⟨_, clock + 1, putB_eq hbw, by simp [g2], fun j' p e hp' he' => ?_, g4⟩
                rcases getElem?_snoc hp' with ⟨l1, h1⟩ | ⟨l1, h1⟩
                · rw [Array.getElem?_push, if_neg (by omega)] at he'
                  exact g3 j' p e h1 he'
                · rw [Array.getElem?_push, if_pos (by omega)] at he'
                  cases he'; subst h1
                  exact ⟨hk, hv⟩
            · intro av o c he; cases he
          · intro av o c he; cases he
  · intro av o c he; cases he

/-! ### Ranging over a string -/
theorem run_getO {r : Nat} {o : Obj} (h : w.heap[r]? = some o) (hc : ∀ c e f, o ≠ .cells c e f) : (getObj r).run P w = .ok o w := by
  cases o <;> first | exact absurd rfl (hc _ _ _) | simp [getObj, Sem.run, h]
theorem run_setO {r : Nat} {o : Obj} (o' : Obj) (h : w.heap[r]? = some o) (hc : ∀ c e f, o ≠ .cells c e f) : (setObj r o').run P w = .ok () (putB w r o') := by
  cases o <;> first | exact absurd rfl (hc _ _ _) | simp [setObj, Sem.run, h, putB]
theorem beqN (a b : Nat) : (a == b) = Nat.beq a b := by
  rw [Bool.eq_iff_iff, beq_iff_eq]; exact ⟨fun h => by rw [h]; exact Nat.beq_refl b, Nat.eq_of_beq_eq_true⟩
theorem get!_nat (b : ByteArray) (j : Nat) : (b.get! j).toNat = (b.data.toList.map UInt8.toNat).getD j 0 := by
  obtain ⟨⟨l⟩⟩ := b
  simp only [ByteArray.get!, List.getD_eq_getElem?_getD, List.getElem?_map]
  cases h : l[j]? with
  | none => simp [getElem!_def, h]; rfl
  | some x => simp [getElem!_def, h]

theorem cont_nat (b : ByteArray) (j : Nat) : (decide (j < b.size) && ((b.get! j).toNat / 64 == 2)) = Nat.beq ((b.data.toList.map UInt8.toNat).getD j 0 / 64) 2 := by
  rw [get!_nat]
  by_cases h : j < b.size
  · simp only [h, decide_true, Bool.true_and]; exact beqN _ _
  · simp only [h, decide_false, Bool.false_and]
    have : (b.data.toList.map UInt8.toNat)[j]? = none := by simp; exact Nat.le_of_not_lt h
    simp [List.getD_eq_getElem?_getD, this, Nat.beq]

theorem validN_eq (c : Nat) : Utf8.valid (c : Int) = validN c := by
  simp only [Utf8.valid, validN]
  rw [Bool.eq_iff_iff]
  simp [Nat.blt_eq, Nat.ble_eq]
  omega

theorem bleN (a b : Nat) : (decide (b ≥ a)) = Nat.ble a b := by
  rw [Bool.eq_iff_iff]; simp [Nat.ble_eq]

theorem decL_eq (b : ByteArray) (i : Nat) : Utf8.decode b i = decL (b.data.toList.map UInt8.toNat) i := by
  have c1 := cont_nat b (i + 1)
  have c2 := cont_nat b (i + 2)
  have c3 := cont_nat b (i + 3)
  unfold Utf8.decode decL
  simp only [c1, c2, c3]
  simp only [get!_nat, Nat.add_zero]
  generalize (b.data.toList.map UInt8.toNat).getD i 0 = b0
  generalize (b.data.toList.map UInt8.toNat).getD (i + 1) 0 = b1
  generalize (b.data.toList.map UInt8.toNat).getD (i + 2) 0 = b2
  generalize (b.data.toList.map UInt8.toNat).getD (i + 3) 0 = b3
  have e0 : (b0 < 128) = (Nat.blt b0 128 = true) := by rw [Nat.blt_eq]
  simp only [validN_eq, beqN, e0, Utf8.runeError]
  cases Nat.blt b0 128 with
  | true => rfl
  | false =>
    simp only [Bool.false_eq_true, if_false]
    cases (Nat.beq (b0 / 32) 6 && Nat.beq (b1 / 64) 2) with
    | true =>
      simp only [if_true]
      by_cases h : 128 ≤ b0 % 32 * 64 + b1 % 64
      · rw [if_pos h, Nat.ble_eq_true_of_le h]
      · rw [if_neg h]; cases hh : Nat.ble 128 (b0 % 32 * 64 + b1 % 64) with | true => exact absurd (Nat.le_of_ble_eq_true hh) h | false => rfl
    | false =>
      simp only [Bool.false_eq_true, if_false]
      cases (Nat.beq (b0 / 16) 14 && Nat.beq (b1 / 64) 2 && Nat.beq (b2 / 64) 2) with
      | true =>
        simp only [if_true, ← bleN]
        generalize b0 % 16 * 4096 + b1 % 64 * 64 + b2 % 64 = x
        by_cases h : x ≥ 2048 <;> cases validN x <;> simp [h]
      | false =>
        simp only [Bool.false_eq_true, if_false]
        cases (Nat.beq (b0 / 8) 30 && Nat.beq (b1 / 64) 2 && Nat.beq (b2 / 64) 2 && Nat.beq (b3 / 64) 2) with
        | true =>
          simp only [if_true, ← bleN]
          generalize b0 % 8 * 262144 + b1 % 64 * 4096 + b2 % 64 * 64 + b3 % 64 = x
          by_cases h : x ≥ 65536 <;> cases validN x <;> simp [h]
        | false => simp

theorem range_ok (hE : TyOK P E) (hp : Heap D β objs w) (t : TypeId) {x : AV} {v : Value} (hx : RepA D β x v) : ValOK P D β objs w (Instr.range t v) (rangeR E t x objs) := by
  intro av o c he _
  unfold rangeR at he
  split at he
  · rename_i a1 a2 a3 s ht
    have us := (hE t _ ht).und
    simp only [pureR, Option.some.injEq, Prod.mk.injEq] at he
    obtain ⟨rfl, rfl, rfl⟩ := he
    cases hx with
    | d hx =>
      cases hx with
      | @str s b hs =>
        refine ⟨_, w.alloc (.stringIter b 0), D, β ++ [⟨w.heap.size, fun _ => none⟩], by simp [Instr.range, run_underlying us], ?_, .bp (bi := ⟨w.heap.size, fun _ => none⟩) (by rw [← hp.len]; simp)⟩
        refine Step.push hp (fun k hk => alloc_keep w _ k hk) (by simp) rfl rfl rfl (fun _ _ h => h) (fun ad v h0 h2 => by rw [h2] at h0; cases h0) (fun b hb => by simp [ownOf] at hb; omega) ?_
        refine ⟨b, alloc_new w _, hs, fun ad ha => ?_⟩
        cases hd : D ad with
        | none => rfl
        | some v => have := hp.D_lt hd; simp only at ha; omega
  · cases he

theorem next_ok (hp : Heap D β objs w) (isS : Bool) (t : TypeId) {x : AV} {v : Value} (hx : RepA D β x v) : ValOK P D β objs w (Instr.next v isS t) (nextR x isS objs) := by
  intro av o c he _
  unfold nextR at he
  split at he
  · rename_i i
    split at he
    · rename_i s pos ho
      cases hx with
      | @bp _ _ bi hb =>
        obtain ⟨b, h1, h2, h3⟩ := hp.hold i bi _ hb ho
        have hl : s.length = b.size := by rw [h2]; simp
        split at he
        · rename_i hlt
          have hlt : pos < s.length := by simpa [Nat.blt_eq] using hlt
          simp only [pureR, Option.some.injEq, Prod.mk.injEq] at he
          obtain ⟨rfl, rfl, rfl⟩ := he
          have hbs : bi.blk < w.heap.size := lt_of_getElem? h1
          refine ⟨.tuple #[.bool true, goInt pos, .int .i32 (Utf8.decode b pos).1], putB w bi.blk (.stringIter b (pos + (Utf8.decode b pos).2)), D, β, ?_, ?_, ?_⟩
          · have hlt' : pos < b.size := by omega
            simp [Instr.next, hlt', run_getO h1 (by simp), run_setO _ h1 (by simp)]
          · rw [decL_eq]
            rw [← h2]
            exact Step.put hp hb ho rfl (fun b' hb' => by simp [ownOf] at hb'; exact hb'.symm) h3 ⟨b, putB_eq hbs, h2, h3⟩
          · rw [decL_eq, ← h2]
            refine .tup rfl (fun j c v hc hv => ?_)
            match j, hc, hv with
            | 0, hc, hv => simp at hc hv; subst hc hv; exact .d .bool
            | 1, hc, hv => simp at hc hv; subst hc hv; exact .d .int
            | 2, hc, hv => simp at hc hv; subst hc hv; exact .d .int
            | j + 3, hc, hv => simp at hc
        · rename_i hlt
          have hlt : ¬ pos < s.length := fun h => by rw [show Nat.blt pos s.length = true by rw [Nat.blt_eq]; exact h] at hlt; cases hlt
          simp only [pureR, Option.some.injEq, Prod.mk.injEq] at he
          obtain ⟨rfl, rfl, rfl⟩ := he
          refine ⟨.tuple #[.bool false], w, D, β, ?_, Step.refl hp, ?_⟩
          · have hlt' : ¬ pos < b.size := by omega
            simp [Instr.next, hlt', run_getO h1 (by simp)]
          · refine .tup rfl (fun j c v hc hv => ?_)
            match j, hc, hv with
            | 0, hc, hv => simp at hc hv; subst hc hv; exact .d .bool
            | j + 1, hc, hv => simp at hc
    · cases he
  · cases he


end
end Go.Av

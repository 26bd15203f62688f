/-
  The abstract layer, part X: a region whose order is drawn: the walk.
-/
import Derived.Test.YtkehiddekhlfaaaW
noncomputable section
namespace Go.Av
open Go

section
variable {E : PT Ty} {H : Nat → Hd} {frz : List Nat} {nt : Nat} {ops : Array Oper} {dead pk : Nat → Bool} {A : Nat} {s s' : S} {es : List Eff} {st : Nat → S} {vs : Nat → AV}

/-- Some listed operation has written t. -/
def Wrote (ops : Array Oper) (listed : Array Bool) (t i : Nat) : Prop := listed.getD i false = true ∧ ∃ o, ops[i]? = some o ∧ o.dst = some t

open Classical in
noncomputable def valAt (ops : Array Oper) (s : S) (vs : Nat → AV) (listed : Array Bool) (t : Nat) : AV :=
  if h : ∃ i, Wrote ops listed t i then vs (Classical.choose h) else (s.tm.get? t).getD (.d .any)

noncomputable def rdAt (ops : Array Oper) (s : S) (vs : Nat → AV) (listed : Array Bool) : Operand → AV
  | .tmp t => valAt ops s vs listed t
  | x => rd s.tm x

theorem valAt_none {listed : Array Bool} {t : Nat} (h : ∀ i, ¬ Wrote ops listed t i) : valAt ops s vs listed t = (s.tm.get? t).getD (.d .any) := by
  unfold valAt
  rw [dif_neg (fun ⟨i, hi⟩ => h i hi)]

theorem DrawC.valAt_some (C : DrawC E H frz nt ops dead pk A s es s' st vs) {listed : Array Bool} {t i : Nat} (h : Wrote ops listed t i) : valAt ops s vs listed t = vs i := by
  have hx : ∃ i, Wrote ops listed t i := ⟨i, h⟩
  unfold valAt
  rw [dif_pos hx]
  obtain ⟨_, o, h1, h2⟩ := Classical.choose_spec hx
  obtain ⟨_, o', h3, h4⟩ := h
  rw [C.dsts _ _ _ _ _ h1 h3 h2 h4]

structure Inv (ops : Array Oper) (s : S) (es : List Eff) (st : Nat → S) (vs : Nat → AV) (nt : Nat) (D0 : DMap) (β0 : List Bi) (o0 : List Ob) (w0 : World) (listed : Array Bool) (a : Act) (w : World) : Prop where
  size : listed.size = ops.size
  closed : ∀ (i : Nat) o, ops[i]? = some o → listed.getD i false = true → ∀ e ∈ o.after.toList, Region.binds .any e = true → listed.getD e.on false = true
  mem : ∃ k, k ≤ ops.size ∧ (∀ (i : Nat) q, es[i]? = some (.b q) → (listed.getD i false = true ↔ i < k)) ∧
    ∃ D β, Step D0 β0 o0 w0 D β (st k).objs w ∧ a.tmps.size = nt ∧ (∀ t : Nat, RepA D β (valAt ops s vs listed t) (a.tmps.getD t undef)) ∧ DlOK D β s.dl a.defers

/-- What an operation looks at is, at its turn, what it is in the text's order. -/
theorem DrawC.looks (C : DrawC E H frz nt ops dead pk A s es s' st vs) {listed : Array Bool} (hcl : ∀ (i : Nat) o, ops[i]? = some o → listed.getD i false = true → ∀ e ∈ o.after.toList, Region.binds .any e = true → listed.getD e.on false = true)
    {i : Nat} {o : Oper} (ho : ops[i]? = some o) (hun : listed.getD i false = false) (hr : ∀ e ∈ o.after.toList, Region.binds .any e = true → listed.getD e.on false = true) {t : Nat} (ht : t ∈ Oper.looksAt ops o) :
    valAt ops s vs listed t = ((st i).tm.get? t).getD (.d .any) := by
  have hi := lt_size ho
  have hti := C.text i (by omega) t
  by_cases hw : ∃ (j : Nat) (y : Oper), ops[j]? = some y ∧ y.dst = some t
  · obtain ⟨j, y, hy, hd⟩ := hw
    have uniq : ∀ j' y', ops[j']? = some y' → y'.dst = some t → j' = j := fun j' y' h1 h2 => C.dsts _ _ _ _ _ h1 hy h2 hd
    have notl : listed.getD j false = false → valAt ops s vs listed t = (s.tm.get? t).getD (.d .any) := fun hn =>
      valAt_none fun j' hj' => by
        obtain ⟨h1, y', h2, h3⟩ := hj'
        rw [uniq j' y' h2 h3, hn] at h1; cases h1
    rcases C.reads i j o y t ho hy hd ht with rfl | ha | ha
    · rw [notl hun]
      rcases hti with ⟨j', y', hlt, h1, h2, _⟩ | ⟨_, h⟩
      · have := uniq j' y' h1 h2; omega
      · rw [h]
    · have hl : listed.getD j false = true := ha.listed hcl (fun o' ho' => by rw [ho] at ho'; cases ho'; exact hr)
      have hlt : j < i := ha.lt C.edges
      rw [C.valAt_some ⟨hl, y, hy, hd⟩]
      rcases hti with ⟨j', y', _, h1, h2, h3⟩ | ⟨h, _⟩
      · rw [uniq j' y' h1 h2] at h3; rw [h3]; rfl
      · exact absurd hd (h j y hlt hy)
    · have hlt : i < j := ha.lt C.edges
      have hn : listed.getD j false = false := by
        cases hx : listed.getD j false with
        | false => rfl
        | true =>
          have := ha.listed hcl (fun o' ho' => by rw [hy] at ho'; cases ho'; exact hcl j y hy hx)
          rw [hun] at this; cases this
      rw [notl hn]
      rcases hti with ⟨j', y', hlt', h1, h2, _⟩ | ⟨_, h⟩
      · have := uniq j' y' h1 h2; omega
      · rw [h]
  · rw [valAt_none fun j hj => hw ⟨j, hj.2⟩]
    rcases hti with ⟨j', y', _, h1, h2, _⟩ | ⟨_, h⟩
    · exact absurd ⟨j', y', h1, h2⟩ hw
    · rw [h]

variable {P : Program} {D0 : DMap} {β0 : List Bi} {o0 : List Ob} {w0 : World}

theorem rdAt_rep {D : DMap} {β : List Bi} {listed : Array Bool} {a : Act} (h : ∀ t : Nat, RepA D β (valAt ops s vs listed t) (a.tmps.getD t undef)) (x : Operand) : RepA D β (rdAt ops s vs listed x) (a.eval x) := by
  cases x with
  | tmp t => exact h t
  | const v =>
    simp only [rdAt, Av.rd, Act.eval]
    cases ho : ofVal v with
    | none => exact .d .any
    | some y => exact .d (ofVal_rep ho)
  | global g => exact .d .any
  | func f => exact .d (.fn rfl rfl (fun j c v hc _ => by simp at hc) (fun j c v hc _ => by simp at hc))

theorem valAt_set (C : DrawC E H frz nt ops dead pk A s es s' st vs) {listed : Array Bool} (hs : listed.size = ops.size) {i : Nat} {o : Oper} (ho : ops[i]? = some o) (hun : listed.getD i false = false) (t : Nat) :
    valAt ops s vs (listed.setIfInBounds i true) t = if o.dst = some t then vs i else valAt ops s vs listed t := by
  have hi := lt_size ho
  by_cases hd : o.dst = some t
  · rw [if_pos hd]
    exact C.valAt_some ⟨by rw [getD_set (by omega)]; simp, o, ho, hd⟩
  · rw [if_neg hd]
    by_cases hw : ∃ j, Wrote ops listed t j
    · obtain ⟨j, hj⟩ := hw
      rw [C.valAt_some hj]
      obtain ⟨h1, y, h2, h3⟩ := hj
      refine C.valAt_some ⟨?_, y, h2, h3⟩
      rw [getD_set (by omega)]
      split
      · rfl
      · exact h1
    · rw [valAt_none fun j hj => hw ⟨j, hj⟩]
      refine valAt_none fun j hj => ?_
      obtain ⟨h1, y, h2, h3⟩ := hj
      rw [getD_set (by omega)] at h1
      split at h1
      · rename_i e; subst e; rw [ho] at h2; cases h2; exact hd h3
      · exact hw ⟨j, h1, y, h2, h3⟩

theorem Inv.next (C : DrawC E H frz nt ops dead pk A s es s' st vs) {listed : Array Bool} {a : Act} {w w' : World} (hI : Inv ops s es st vs nt D0 β0 o0 w0 listed a w) {i : Nat} {o : Oper} (ho : ops[i]? = some o)
    (hun : listed.getD i false = false) (hr : ∀ e ∈ o.after.toList, Region.binds .any e = true → listed.getD e.on false = true) {k : Nat} (hk : k ≤ ops.size)
    (hkb : ∀ (j : Nat) q, es[j]? = some (.b q) → ((listed.setIfInBounds i true).getD j false = true ↔ j < k)) {D D' : DMap} {β β' : List Bi} {objs : List Ob} (h1 : Step D0 β0 o0 w0 D β objs w)
    (hsz : a.tmps.size = nt) (h2 : ∀ t : Nat, RepA D β (valAt ops s vs listed t) (a.tmps.getD t undef)) (h3 : DlOK D β s.dl a.defers)
    (hst : Step D β objs w D' β' (st k).objs w') {v : Value} (hv : RepA D' β' (vs i) v) : Inv ops s es st vs nt D0 β0 o0 w0 (listed.setIfInBounds i true) (a.put o.dst v) w' := by
  have hi := lt_size ho
  obtain ⟨e, he, hset, _⟩ := C.eff ho
  refine ⟨by simp [hI.size], fun j y hy hj e he hb => ?_, k, hk, hkb, D', β', h1.trans hst, ?_, fun t => ?_, ?_⟩
  · have hs := hI.size
    rw [getD_set (by omega)] at hj ⊢
    split
    · rfl
    · split at hj
      · rename_i e'; subst e'; rw [ho] at hy; cases hy; exact hr e he hb
      · exact hI.closed j y hy hj e he hb
  · cases o.dst <;> simp [Act.put, hsz]
  · rw [valAt_set C hI.size ho hun t]
    have old : RepA D' β' (valAt ops s vs listed t) (a.tmps.getD t undef) := hst.repA (h2 t)
    cases hd : o.dst with
    | none => simpa [Act.put] using old
    | some d =>
      rw [hd] at hset
      simp only [setD] at hset
      split at hset
      · rename_i hlt
        have hlt : d < nt := by rw [Nat.blt_eq] at hlt; exact hlt
        by_cases e : d = t
        · subst e
          simp only [if_true, Act.put]
          have hds : d < a.tmps.size := by rw [hsz]; exact hlt
          simpa [hds] using hv
        · rw [if_neg (fun h => e (Option.some.inj h))]
          simp only [Act.put, Array.getD_eq_getD_getElem?]
          rw [Array.getElem?_setIfInBounds_ne e, ← Array.getD_eq_getD_getElem?]
          exact old
      · cases hset
  · have := h3.mono hst.dsub hst.bext
    cases o.dst <;> exact this

theorem getD_false {listed : Array Bool} {i n : Nat} (hs : listed.size = n) (hi : i < n) (d d' : Bool) : listed.getD i d = listed.getD i d' := by
  simp [Array.getD, show i < listed.size by omega]

theorem quiet_of_reads {H : Hd} {rd : Operand → AV} {objs : List Ob} {o : Oper} {p : Nat} {v : AV} (hp : readsAt rd o.op = some p) (hv : evAny E H frz rd objs o = some (v, none, true)) :
    quiet o.op = true ∧ ∃ u, evOp E rd objs o.op = some (v, u, true) := by
  cases way_of hv with
  | fnD ho => rw [ho] at hp; cases hp
  | fnA ho => rw [ho] at hp; cases hp
  | boxE ho => rw [ho] at hp; cases hp
  | rowE ho => rw [ho] at hp; cases hp
  | pan ho => rw [ho] at hp; cases hp
  | quiet hq h => exact ⟨hq, _, h⟩

/-- A quiet operation at its turn, the loud ones that are done being those before the k-th (but for the early allocation, which it does not look at). -/
theorem DrawC.quiet (hE : EnvOK P E) (hH : ∀ i, HOK P (H i)) (C : DrawC E H frz nt ops dead pk A s es s' st vs) {listed : Array Bool}
    (hcl : ∀ (i : Nat) o, ops[i]? = some o → listed.getD i false = true → ∀ e ∈ o.after.toList, Region.binds .any e = true → listed.getD e.on false = true)
    {i k : Nat} {o : Oper} (ho : ops[i]? = some o) (hun : listed.getD i false = false) (hr : ∀ e ∈ o.after.toList, Region.binds .any e = true → listed.getD e.on false = true) (hk : k ≤ ops.size)
    (hkb : ∀ (j : Nat) q, es[j]? = some (.b q) → (listed.getD j false = true ↔ j < k) ∨ ∃ r, q = some r ∧ ∀ p, es[i]? = some (.a (some p)) → p ≠ r)
    {rd' : Operand → AV} (opnds : ∀ x ∈ o.op.operands, rd' x = rd (st i).tm x) (he : es[i]? = some (effOf (rd (st i).tm) (st i).objs o none)) (hv : evAny E (H i) frz (rd (st i).tm) (st i).objs o = some (vs i, none, true)) :
    OpDoes P o rd' (st k).objs (vs i) (st k).objs := by
  have hi := lt_size ho
  have hv' : evAny E (H i) frz rd' (st i).objs o = some (vs i, none, true) := by rw [evAny_congr E (H i) frz _ o opnds]; exact hv
  cases hp : readsAt (rd (st i).tm) o.op with
  | none => exact way_a hE (hH i) (way_of hv') (fun p h => by rw [readsAt_congr o.op opnds, hp] at h; cases h)
  | some p =>
    have hea : es[i]? = some (.a (some p)) := by rw [he]; simp [effOf, hp]
    obtain ⟨hqq, _, hv0⟩ := quiet_of_reads hp hv
    -- what it answers
    have G : ∀ j, (∀ q, es[j]? = some (.b q) → (listed.getD j false = true ∧ i ≤ j ∨ listed.getD j false = false ∧ j < i) ∨ ∃ r, q = some r ∧ p ≠ r) → j < ops.size →
        ((∃ u, evOp E (rd (st i).tm) (st j).objs o.op = some (vs i, u, true)) ↔ ∃ u, evOp E (rd (st i).tm) (st (j + 1)).objs o.op = some (vs i, u, true)) := by
      intro j hc hj
      have hjl : j < es.length := by rw [C.tr.len]; simpa using hj
      have hje : es[j]? = some es[j] := by simp [hjl]
      have at_of : (st (j + 1)).objs[p]? = (st j).objs[p]? → ((∃ u, evOp E (rd (st i).tm) (st j).objs o.op = some (vs i, u, true)) ↔ ∃ u, evOp E (rd (st i).tm) (st (j + 1)).objs o.op = some (vs i, u, true)) := by
        intro hsame
        constructor
        · rintro ⟨u, hu⟩
          exact ⟨_, (evOp_quiet E _ o.op hqq _ _ (fun p' hp' => by rw [hp] at hp'; cases hp'; exact hsame) _ _ true hu).2⟩
        · rintro ⟨u, hu⟩
          exact ⟨_, (evOp_quiet E _ o.op hqq _ _ (fun p' hp' => by rw [hp] at hp'; cases hp'; exact hsame.symm) _ _ true hu).2⟩
      cases hx : es[j] with
      | a q => rw [hx] at hje; exact at_of (by rw [C.objsA hje])
      | b q =>
        rw [hx] at hje
        rcases hc q hje with hc | ⟨r, rfl, hne⟩
        · rcases C.ab i j p q hea hje with h | h | h | h
          · have hl := h.listed hcl (fun o' ho' => by rw [ho] at ho'; cases ho'; exact hr)
            have := h.lt C.edges
            rcases hc with ⟨_, h⟩ | ⟨h, _⟩
            · omega
            · rw [hl] at h; cases h
          · have := h.lt C.edges
            rcases hc with ⟨hl, _⟩ | ⟨_, h⟩
            · have := h.listed hcl (fun o' ho' => hcl j o' ho' hl)
              rw [hun] at this; cases this
            · omega
          · obtain ⟨r, rfl, hne⟩ := h
            exact at_of (C.objsB hje hne)
          · obtain ⟨o', v, u1, u2, ho', g1, g2⟩ := h
            rw [ho] at ho'; cases ho'
            constructor
            · rintro ⟨u, hu⟩; rw [g1] at hu; cases hu; exact ⟨_, g2⟩
            · rintro ⟨u, hu⟩; rw [g2] at hu; cases hu; exact ⟨_, g1⟩
        · exact at_of (C.objsB hje hne)
    have hk' : ∃ u, evOp E (rd (st i).tm) (st k).objs o.op = some (vs i, u, true) := by
      rcases Nat.le_total i k with hle | hle
      · obtain ⟨d, rfl⟩ := Nat.exists_eq_add_of_le hle
        refine (DrawC.rangeP (ops := ops) _ d i hk (fun j h1 h2 => G j (fun q hj => ?_) (by omega))).1 ⟨_, hv0⟩
        rcases hkb j q hj with h | ⟨r, h3, h4⟩
        · exact .inl (.inl ⟨h.2 h2, h1⟩)
        · exact .inr ⟨r, h3, h4 p hea⟩
      · obtain ⟨d, rfl⟩ := Nat.exists_eq_add_of_le hle
        refine (DrawC.rangeP (ops := ops) _ d k (by omega) (fun j h1 h2 => G j (fun q hj => ?_) (by omega))).2 ⟨_, hv0⟩
        rcases hkb j q hj with h | ⟨r, h3, h4⟩
        · refine .inl (.inr ⟨?_, h2⟩)
          cases hx : listed.getD j false with
          | false => rfl
          | true => have := h.1 hx; omega
        · exact .inr ⟨r, h3, h4 p hea⟩
    obtain ⟨u, hu⟩ := hk'
    rw [← evOp_congr E _ o.op opnds] at hu
    exact does_op hE (quiet_noDefer hqq) (evOp_quiet E _ o.op hqq _ _ (fun _ _ => rfl) _ _ true hu).2

/-- A new variable that has come early: it is not among the objects yet. -/
structure Hid (D : DMap) (β : List Bi) (objs : List Ob) (w0 w : World) (cs : List DV) (b : Nat) : Prop where
  cells : ∃ arr T, w.heap[b]? = some (.cells arr T (0, 0)) ∧ arr.size = cs.length ∧ (∀ (j : Nat) c v, cs[j]? = some c → arr[j]? = some v → RepD (fun _ => none) c v) ∧ (∀ (j : Nat) v, arr[j]? = some v → v.oneCell' = true)
  own : ¬ Own β objs b
  dn : ∀ ad, ad.block = b → D ad = none
  ge : w0.heap.size ≤ b

theorem Hid.step {D D' : DMap} {β β' : List Bi} {objs objs' : List Ob} {w w' : World} {cs : List DV} {b : Nat} (h : Hid D β objs w0 w cs b) (hs : Step D β objs w D' β' objs' w') : Hid D' β' objs' w0 w' cs b := by
  obtain ⟨⟨arr, T, h1, h2⟩, h3, h4, h5⟩ := h
  have hb := lt_of_getElem? h1
  refine ⟨⟨arr, T, by rw [hs.keep b hb h3]; exact h1, h2⟩, fun ho => ?_, fun ad ha => ?_, h5⟩
  · rcases hs.ownn b ho with h | h
    · exact h3 h
    · omega
  · cases hd : D' ad with
    | none => rfl
    | some v =>
      rcases hs.dnew ad v hd (h4 ad ha) with h | h
      · rw [ha] at h; exact absurd h h3
      · omega

theorem Hid.adopt {D : DMap} {β : List Bi} {objs : List Ob} {w : World} {cs : List DV} {b : Nat} (h : Hid D β objs w0 w cs b) (h1 : Step D0 β0 o0 w0 D β objs w) :
    Step D0 β0 o0 w0 D (β ++ [⟨b, fun _ => none⟩]) (objs ++ [.box (cs.map .d)]) w := by
  obtain ⟨⟨arr, T, g1, g2, g3, g4⟩, h3, h4, h5⟩ := h
  refine { h1 with bext := fun i x hx => ?_, heap := ?_, ownn := fun c hc => ?_ }
  · obtain ⟨y, hy, he⟩ := h1.bext i x hx
    obtain ⟨z, hz, he'⟩ := ext_snoc (x := ⟨b, fun _ => none⟩) i y hy
    exact ⟨z, hz, he.trans he'⟩
  · refine h1.heap.push' (fun c hc => ?_) ⟨arr, T, g1, by simpa using g2, fun j c v hc hv => ?_, g4, h4⟩
    · simp only [ownOf, Option.some.injEq] at hc
      subst hc
      exact h3
    · simp only [List.getElem?_map, Option.map_eq_some_iff] at hc
      obtain ⟨c', hc', rfl⟩ := hc
      exact .d (g3 j c' v hc' hv).zero
  · obtain ⟨i, bj, oj, k1, k2, k3⟩ := hc
    rcases getElem?_snoc k1 with ⟨l1, e1⟩ | ⟨l1, e1⟩
    · rcases getElem?_snoc k2 with ⟨l2, e2⟩ | ⟨l2, e2⟩
      · exact h1.ownn c ⟨i, bj, oj, e1, e2, k3⟩
      · have := h1.heap.len; omega
    · rcases getElem?_snoc k2 with ⟨l2, e2⟩ | ⟨l2, e2⟩
      · have := h1.heap.len; omega
      · subst e1 e2
        simp only [ownOf, Option.some.injEq] at k3
        subst k3
        exact .inr h5

/-- The early allocation is done; a loud operation before it, not. -/
structure InvH (E : PT Ty) (ops : Array Oper) (A : Nat) (s : S) (es : List Eff) (st : Nat → S) (vs : Nat → AV) (nt : Nat) (D0 : DMap) (β0 : List Bi) (o0 : List Ob) (w0 : World) (listed : Array Bool) (a : Act) (w : World) : Prop where
  size : listed.size = ops.size
  closed : ∀ (i : Nat) o, ops[i]? = some o → listed.getD i false = true → ∀ e ∈ o.after.toList, Region.binds .any e = true → listed.getD e.on false = true
  done : listed.getD A false = true
  mem : ∃ k, k ≤ A ∧ (∀ (i : Nat) q, es[i]? = some (.b q) → i ≠ A → (listed.getD i false = true ↔ i < k)) ∧ (∃ j q, es[j]? = some (.b q) ∧ k ≤ j ∧ j < A) ∧
    ∃ o d y D β b, ops[A]? = some o ∧ o.dst = some d ∧ (st (A + 1)).objs = (st A).objs ++ [.box (y.map .d)] ∧ vs A = .bp (st A).objs.length 0 ∧ Step D0 β0 o0 w0 D β (st k).objs w ∧ a.tmps.size = nt ∧
      (∀ t : Nat, t ≠ d → RepA D β (valAt ops s vs listed t) (a.tmps.getD t undef)) ∧ DlOK D β s.dl a.defers ∧ Hid D β (st k).objs w0 w y b ∧ a.tmps.getD d undef = .pointer (some ⟨b, 0, none⟩)

theorem draw_walk (hE : EnvOK P E) (hH : ∀ i, HOK P (H i)) (C : DrawC E H frz nt ops dead pk A s es s' st vs) {ro : Option Nat} {Q : Exit → Act → World → Prop} (hdead : ∀ i, dead i = true → ∃ p, pk p = true ∧ Aft ops.toList i p)
    (hQ : (∀ p, p < ops.size → pk p = false) → ∀ a w, Sim D0 β0 o0 w0 nt s' a w → Q .normal a w)
    (hP : ∀ (i : Nat) o x ob, ops[i]? = some o → pk i = true → evAny E (H i) frz (rd (st i).tm) (st i).objs o = some (.pan x, ob, true) → ∀ (a : Act) w D β v, Step D0 β0 o0 w0 D β (ob.getD (st i).objs) w → a.tmps.size = nt →
      DlOK D β s.dl a.defers → RepD D x v → Q (.panic [{ v := v, recovered := false }]) a w) :
    ∀ (fuel : Nat),
      (∀ (listed : Array Bool) (a : Act) (w : World), left ops.size listed ≤ fuel → Inv ops s es st vs nt D0 β0 o0 w0 listed a w → (∀ p, pk p = true → listed.getD p false = false) → wpAnyIn (FW ro) 0 P .any ops Q fuel listed a w) ∧
      (∀ (listed : Array Bool) (a : Act) (w : World), left ops.size listed ≤ fuel → InvH E ops A s es st vs nt D0 β0 o0 w0 listed a w → (∀ p, pk p = true → listed.getD p false = false) → wpAnyIn (FW ro) 0 P .any ops Q fuel listed a w) := by
  -- nothing is ready: all are listed
  have all : ∀ listed : Array Bool, listed.size = ops.size → Region.ready .any ops listed = [] → ∀ i, i < ops.size → listed.getD i false = true := by
    intro listed hs hr i
    induction i using Nat.strongRecOn with
    | _ i ih =>
      intro hi
      cases hx : listed.getD i false with
      | true => rfl
      | false =>
        have ho : ops[i]? = some ops[i] := by simp [hi]
        have : i ∈ Region.ready .any ops listed := mem_ready.2 ⟨by rw [getD_false hs hi true false]; exact hx, _, ho, fun e he hb => by
          have := C.edges i _ ho e (by simpa using he) hb
          exact ih e.on this (by omega)⟩
        rw [hr] at this; cases this
  have esl : ∀ {j : Nat} {e : Eff}, es[j]? = some e → j < ops.size := fun {j e} h => by
    have := (List.getElem?_eq_some_iff.1 h).1; rw [C.tr.len] at this; simpa using this
  have done : ∀ listed a w, Inv ops s es st vs nt D0 β0 o0 w0 listed a w → (∀ p, pk p = true → listed.getD p false = false) → Region.ready .any ops listed = [] → Q .normal a w := by
    intro listed a w hI hN hr
    have hall := all listed hI.size hr
    have hnone : ∀ p, p < ops.size → pk p = false := fun p hp => by
      cases hx : pk p with
      | false => rfl
      | true => have := hN p hx; rw [hall p hp] at this; cases this
    obtain ⟨k, hk, hkb, D, β, h1, hsz, h2, h3⟩ := hI.mem
    have hlast : st ops.size = s' := by have := C.tr.last; simpa using this
    have hobj : (st k).objs = s'.objs := by
      rw [← hlast]
      refine C.same (Nat.le_refl _) hk (fun j h1 h2 => by omega) (fun j h1 h2 q hq => ?_)
      have := (hkb j q hq).1 (hall j h2)
      omega
    have hdl : ∀ i, i ≤ ops.size → (st i).dl = s.dl := by
      intro i
      induction i with
      | zero => intro _; rw [C.tr.first]
      | succ i ih =>
        intro hi
        obtain ⟨e, _, _, hdl, _⟩ := C.eff (i := i) (o := ops[i]) (by simp [show i < ops.size by omega])
        rw [hdl]; exact ih (by omega)
    refine hQ hnone a w ⟨D, β, by rw [← hobj]; exact h1, ⟨hsz, fun t => ?_⟩, by rw [← hlast, hdl _ (Nat.le_refl _)]; exact h3⟩
    have ht := C.text ops.size (Nat.le_refl _) t
    rw [hlast] at ht
    rcases ht with ⟨j, o, hj, ho, hd, hv⟩ | ⟨hn, hv⟩
    · rw [hv]
      have := h2 t
      rw [C.valAt_some ⟨hall j hj, o, ho, hd⟩] at this
      exact this
    · rw [hv]
      have := h2 t
      rw [valAt_none fun j hj => by obtain ⟨_, o, ho, hd⟩ := hj; exact hn j o (lt_size ho) ho hd] at this
      exact this
  have notH : ∀ listed a w, InvH E ops A s es st vs nt D0 β0 o0 w0 listed a w → Region.ready .any ops listed = [] → False := by
    intro listed a w hI hr
    have hall := all listed hI.size hr
    obtain ⟨k, hk, hkb, ⟨j, q, hj, h1, h2⟩, _⟩ := hI.mem
    have := (hkb j q hj (by omega)).1 (hall j (esl hj))
    omega
  have noneReady : ∀ listed : Array Bool, left ops.size listed ≤ 0 → Region.ready .any ops listed = [] := by
    intro listed hl
    cases hr : Region.ready .any ops listed with
    | nil => rfl
    | cons i r =>
      have hm : i ∈ Region.ready .any ops listed := by rw [hr]; simp
      obtain ⟨h1, o, ho, _⟩ := mem_ready.1 hm
      have hi := lt_size ho
      have : i ∈ (List.range ops.size).filter fun i => !listed.getD i true := List.mem_filter.2 ⟨by simpa using hi, by rw [h1]; rfl⟩
      have : 0 < left ops.size listed := List.length_pos_of_mem this
      omega
  intro fuel
  induction fuel with
  | zero =>
    refine ⟨fun listed a w hl hI hN => ?_, fun listed a w hl hI hN => (notH listed a w hI (noneReady listed hl)).elim⟩
    exact ⟨noneReady listed hl, done listed a w hI hN (noneReady listed hl)⟩
  | succ fuel ih =>
    obtain ⟨ihN, ihH⟩ := ih
    refine ⟨fun listed a w hl hI hN => ⟨done listed a w hI hN, fun i hm => ?_⟩, fun listed a w hl hI hN => ⟨fun hr => (notH listed a w hI hr).elim, fun i hm => ?_⟩⟩
    · obtain ⟨hun0, o, ho, hr0⟩ := mem_ready.1 hm
      have hi := lt_size ho
      have hun : listed.getD i false = false := by rw [getD_false hI.size hi false true]; exact hun0
      have hr : ∀ e ∈ o.after.toList, Region.binds .any e = true → listed.getD e.on false = true := fun e he hb => hr0 e (by simpa using he) hb
      have hlt : left ops.size (listed.setIfInBounds i true) ≤ fuel := by have := left_set hI.size hi hun0; omega
      obtain ⟨k, hk, hkb, D, β, h1, hsz, h2, h3⟩ := hI.mem
      obtain ⟨e, he, hset, _, hnp, hx⟩ := C.eff ho
      have looks : ∀ t ∈ Oper.looksAt ops o, rdAt ops s vs listed (.tmp t) = rd (st i).tm (.tmp t) := fun t ht => C.looks hI.closed ho hun hr ht
      have opnds : ∀ x ∈ o.op.operands, rdAt ops s vs listed x = rd (st i).tm x := looks_operands ops o looks (fun x hx => by
        cases x with
        | tmp t => exact absurd rfl (hx t)
        | _ => rfl)
      have hgc : ∀ b, guardA ops (rd (st i).tm) o = some b → Region.wanted o (yielded ops a.tmps) = b := fun b hb =>
        guard_ok (rd := rdAt ops s vs listed) (rdAt_rep h2) (by rw [guardA_congr ops o looks]; exact hb)
      have keepk : ∀ p, e = .a p → ∀ (j : Nat) q, es[j]? = some (.b q) → ((listed.setIfInBounds i true).getD j false = true ↔ j < k) := by
        intro p hp j q hj
        have hs := hI.size
        rw [getD_set (by omega)]
        split
        · rename_i e'; subst e'; rw [he, hp] at hj; cases hj
        · exact hkb j q hj
      have keepN : pk i = false → ∀ p, pk p = true → (listed.setIfInBounds i true).getD p false = false := fun hpi p hp => by
        have hs := hI.size
        rw [getD_set (by omega)]
        split
        · rename_i e'; subst e'; rw [hpi] at hp; cases hp
        · exact hN p hp
      -- an allocation that comes early
      by_cases hearly : i = A ∧ ∃ j q, es[j]? = some (.b q) ∧ k ≤ j ∧ j < A
      · obtain ⟨rfl, hex⟩ := hearly
        obtain ⟨t, d, n, ⟨e1, e1k⟩, e2, e3, e4, _⟩ := C.late o ho
        rw [he] at e4
        simp only [Option.some.injEq] at e4
        subst e4
        unfold wpOpIn
        simp only [ho]
        rcases hx with ⟨hpi, hg, ob, hv, hobj, heff⟩ | ⟨_, _, _, _, heff⟩ | ⟨_, _, heff⟩ | ⟨_, _, _, _, _, _, heff⟩
        · rw [hgc true hg]
          simp only [if_true]
          have hev : ∃ y, E.get? t = some y ∧ vs i = .bp (st i).objs.length 0 ∧ (st (i + 1)).objs = (st i).objs ++ [.box (y.zero.map .d)] := by
            have hw := way_of hv
            have hal : evOp E (rd (st i).tm) (st i).objs o.op = some (vs i, (st (i + 1)).objs, true) := by
              cases hw with
              | fnD h0 => rw [e1] at h0; cases h0
              | fnO h0 => rw [e1] at h0; cases h0
              | fnA h0 => rw [e1] at h0; cases h0
              | yl h0 => rw [e1] at h0; cases h0
              | boxE h0 => rw [e1] at h0; cases h0
              | rowE h0 => rw [e1] at h0; cases h0
              | rowV h0 => rw [e1] at h0; cases h0
              | app h0 => rw [e1] at h0; cases h0
              | pan h0 => rw [e1] at h0; cases h0
              | quiet hq _ => rw [e1] at hq; cases hq
              | loud h => rw [h, hobj]; rfl
            rw [e1] at hal
            simp only [evOp, allocR] at hal
            cases hy : E.get? t with
            | none => rw [hy] at hal; cases hal
            | some y =>
              rw [hy] at hal
              simp only [e1k, pureR, Option.some.injEq, Prod.mk.injEq] at hal
              exact ⟨y, rfl, hal.1.symm, hal.2.1.symm⟩
          obtain ⟨y, hy, hva, hob⟩ := hev
          obtain ⟨ti, z, g1, g2, g3, g4, g5, g6, g7, g8⟩ := (hE.ty t y hy).info
          have hrun : (execOp a.eval o).run P w = .ok (.value (.pointer (some ⟨w.heap.size, 0, none⟩))) (w.alloc (.cells z.cells t)) := by
            obtain ⟨dst, op, ty, pos, after, guard⟩ := o
            simp only at e1
            subst e1
            simp [execOp, Instr.alloc, zeroValue, run_typeInfo g1, g4, newVar_run]
          refine ⟨fun _ _ => trivial, ?_⟩
          rw [Oper.semAt_eq _ _ _ (fun c => by rw [e1]; simp), hrun]
          have hst : Step D β (st k).objs w D β (st k).objs (w.alloc (.cells z.cells t)) := Step.ext h1.heap (fun j hj => alloc_keep w _ j hj) (by simp) rfl rfl rfl (fun _ _ h => h) (fun ad v h0 h2 => by rw [h2] at h0; cases h0)
          have hs := hI.size
          have hdn : d < nt := by
            rw [e2] at hset
            simp only [setD] at hset
            split at hset
            · rename_i hlt'; rw [Nat.blt_eq] at hlt'; exact hlt'
            · cases hset
          refine ihH _ _ _ hlt ⟨by simp [hs], fun j y' hy' hj e' he' hb => ?_, by rw [getD_set (by omega)]; simp, k, ?_, fun j q hj hjA => ?_, hex, o, d, y.zero, D, β, w.heap.size, ho, e2, hob, hva, h1.trans hst, ?_, fun t' ht' => ?_, ?_, ?_, ?_⟩ (keepN hpi)
          · rw [getD_set (by omega)] at hj ⊢
            split
            · rfl
            · split at hj
              · rename_i e'; subst e'; rw [ho] at hy'; cases hy'; exact hr e' he' hb
              · exact hI.closed j y' hy' hj e' he' hb
          · obtain ⟨j, q, _, h4, h5⟩ := hex; omega
          · rw [getD_set (by omega), if_neg hjA]; exact hkb j q hj
          · simp [Act.put, e2, hsz]
          · rw [valAt_set C hI.size ho hun t', e2, if_neg (fun h => ht' (Option.some.inj h).symm)]
            simp only [Act.put, e2, Array.getD_eq_getD_getElem?]
            rw [Array.getElem?_setIfInBounds_ne (fun h => ht' h.symm), ← Array.getD_eq_getD_getElem?]
            exact h2 t'
          · simpa [Act.put, e2] using h3
          · refine ⟨⟨z.cells, t, alloc_new w _, by rw [g5, g6], g7, g8⟩, fun ho => ?_, fun ad ha => ?_, h1.size⟩
            · have := h1.heap.own_lt ho; omega
            · cases hd : D ad with
              | none => rfl
              | some v => have := h1.heap.D_lt hd; omega
          · have : d < a.tmps.size := by rw [hsz]; exact hdn
            simp [Act.put, e2, this]
        · cases heff
        · cases heff
        · cases heff
      -- the loud ones: what is listed of them stays a beginning
      have bk : ∀ q, e = .b q → (∀ j, i ≤ j → j < k → ∀ r, es[j]? ≠ some (.b r)) ∧ (∀ j, k ≤ j → j < i → ∀ r, es[j]? ≠ some (.b r)) := by
        intro q hq
        rw [hq] at he
        refine ⟨fun j h1 h2 r hj => ?_, fun j h1 h2 r hj => ?_⟩
        · have := (hkb i q he).2 (by omega)
          rw [hun] at this; cases this
        · by_cases hiA : i = A
          · exact hearly ⟨hiA, j, r, hj, h1, by omega⟩
          · have hlj := (C.bb j i r q hj he h2 hiA).listed hI.closed (fun o' ho' => by rw [ho] at ho'; cases ho'; exact hr)
            have := (hkb j r hj).1 hlj
            omega
      unfold wpOpIn
      simp only [ho]
      rcases hx with ⟨hpi, hg, ob, hv, hobj, heff⟩ | ⟨hpi, hg, hva, hobj, heff⟩ | ⟨hdd, hobj, heff⟩ | ⟨hpi, hg, x, ob, hv, hobj, heff⟩
      · rw [hgc true hg]
        simp only [if_true]
        have hv' : evAny E (H i) frz (rdAt ops s vs listed) (st i).objs o = some (vs i, ob, true) := by rw [evAny_congr E (H i) frz _ o opnds]; exact hv
        cases ob with
        | none =>
          -- quiet
          have does := C.quiet hE hH hI.closed ho hun hr hk (fun j q hj => .inl (hkb j q hj)) opnds (by rw [he, heff]) hv
          refine does ro D β a w _ Q h1.heap (rdAt_rep h2) (fun v w' D' β' hst hrep => ?_) (fun x v w' D' β' hx _ _ => by rw [hx] at hnp; cases hnp)
          exact ihN _ _ _ hlt (hI.next C ho hun hr hk (keepk _ heff) h1 hsz h2 h3 hst hrep) (keepN hpi)
        | some objs' =>
          have hbk := bk _ heff
          have heq : (st k).objs = (st i).objs := C.same (by omega) hk hbk.1 hbk.2
          refine way_does hE (hH i) (way_of hv') ro D β a w _ Q (by rw [← heq]; exact h1.heap) (rdAt_rep h2) (fun v w' D' β' hst hrep => ?_) (fun x v w' D' β' hx _ _ => by rw [hx] at hnp; cases hnp)
          refine ihN _ _ _ hlt (hI.next C ho hun hr (k := i + 1) (by omega) (fun j q hj => ?_) h1 hsz h2 h3 (by rw [hobj, heq]; exact hst) hrep) (keepN hpi)
          have hs := hI.size
          rw [getD_set (by omega)]
          split
          · rename_i e'; subst e'; simp
          · rename_i e'
            rw [hkb j q hj]
            constructor
            · intro h
              rcases Nat.lt_or_ge j i with h' | h'
              · omega
              · exact absurd hj (hbk.1 j h' h q)
            · intro h
              rcases Nat.lt_or_ge j k with h' | h'
              · exact h'
              · exact absurd hj (hbk.2 j h' (by omega) q)
      · rw [hgc false hg]
        simp only [Bool.false_eq_true, if_false]
        refine ⟨fun _ _ => trivial, ?_⟩
        exact ihN _ _ _ hlt (hI.next C ho hun hr hk (keepk _ heff) h1 hsz h2 h3 (Step.refl h1.heap) (by rw [hva]; exact .tup rfl (fun j c v hc _ => by simp at hc))) (keepN hpi)
      · -- it is never reached
        obtain ⟨p, hp, ha⟩ := hdead i hdd
        have := ha.listed hI.closed (fun o' ho' => by rw [ho] at ho'; cases ho'; exact hr)
        rw [hN p hp] at this; cases this
      · -- it panics
        rw [hgc true hg]
        simp only [if_true]
        have hv' : evAny E (H i) frz (rdAt ops s vs listed) (st i).objs o = some (.pan x, ob, true) := by rw [evAny_congr E (H i) frz _ o opnds]; exact hv
        have hbk := bk _ heff
        have heq : (st k).objs = (st i).objs := C.same (by omega) hk hbk.1 hbk.2
        refine way_does hE (hH i) (way_of hv') ro D β a w _ Q (by rw [← heq]; exact h1.heap) (rdAt_rep h2) (fun v w' D' β' hst hrep => by cases hrep) (fun y v w' D' β' hy hst hrep => ?_)
        cases hy
        exact hP i o x ob ho hpi hv a w' D' β' v (h1.trans (by rw [heq]; exact hst)) hsz (h3.mono hst.dsub hst.bext) hrep
    · -- the early allocation is done
      obtain ⟨hun0, o, ho, hr0⟩ := mem_ready.1 hm
      have hi := lt_size ho
      have hs := hI.size
      have hun : listed.getD i false = false := by rw [getD_false hI.size hi false true]; exact hun0
      have hr : ∀ e ∈ o.after.toList, Region.binds .any e = true → listed.getD e.on false = true := fun e he hb => hr0 e (by simpa using he) hb
      have hlt : left ops.size (listed.setIfInBounds i true) ≤ fuel := by have := left_set hI.size hi hun0; omega
      obtain ⟨k, hk, hkb, ⟨jx, qx, hjx, hkx, hxA⟩, oA, d, y, D, β, b, hoA, hdA, hob, hvA, h1, hsz, h2, h3, hH', hpt⟩ := hI.mem
      obtain ⟨e, he, hset, _, hnp, hx⟩ := C.eff ho
      have hiA : i ≠ A := fun h => by subst h; have := hI.done; rw [hun] at this; cases this
      have hxun : listed.getD jx false = false := by
        cases h : listed.getD jx false with
        | false => rfl
        | true => have := (hkb jx qx hjx (by omega)).1 h; omega
      obtain ⟨t0, d', n0, e1, e2, e3, e4, e5⟩ := C.late oA hoA
      rw [hdA] at e2
      simp only [Option.some.injEq] at e2
      subst e2
      have hAsz := lt_size hoA
      have hfree : d ∉ Oper.looksAt ops o ∧ ∀ p, es[i]? = some (.a (some p)) → p ≠ n0 := by
        rcases e5 i o ho hiA with h | h
        · have := (h jx qx hxA hjx).listed hI.closed (fun o' ho' => by rw [ho] at ho'; cases ho'; exact hr)
          rw [hxun] at this; cases this
        · exact h
      have hdi : o.dst ≠ some d := fun h => hiA (C.dsts _ _ _ _ _ ho hoA h hdA)
      -- what is looked at
      let rd' : Operand → AV := fun x => match x with | .tmp t => if t = d then .d .any else valAt ops s vs listed t | x => rd s.tm x
      have hrd' : ∀ x, RepA D β (rd' x) (a.eval x) := fun x => by
        cases x with
        | tmp t =>
          simp only [rd']
          split
          · exact .d .any
          · rename_i h; exact h2 t h
        | const v =>
          simp only [rd', Av.rd, Act.eval]
          cases ho : ofVal v with
          | none => exact .d .any
          | some y => exact .d (ofVal_rep ho)
        | global g => exact .d .any
        | func f => exact .d (.fn rfl rfl (fun j c v hc _ => by simp at hc) (fun j c v hc _ => by simp at hc))
      have looks : ∀ t ∈ Oper.looksAt ops o, rd' (.tmp t) = rd (st i).tm (.tmp t) := fun t ht => by
        have htd : t ≠ d := fun h => by subst h; exact hfree.1 ht
        simp only [rd', if_neg htd]
        exact C.looks hI.closed ho hun hr ht
      have opnds : ∀ x ∈ o.op.operands, rd' x = rd (st i).tm x := looks_operands ops o looks (fun x hx => by
        cases x with
        | tmp t => exact absurd rfl (hx t)
        | _ => rfl)
      have hgc : ∀ b, guardA ops (rd (st i).tm) o = some b → Region.wanted o (yielded ops a.tmps) = b := fun b hb =>
        guard_ok (rd := rd') hrd' (by rw [guardA_congr ops o looks]; exact hb)
      have keepN : pk i = false → ∀ p, pk p = true → (listed.setIfInBounds i true).getD p false = false := fun hpi p hp => by
        rw [getD_set (by omega)]
        split
        · rename_i e'; subst e'; rw [hpi] at hp; cases hp
        · exact hN p hp
      have closed' : ∀ (j : Nat) y, ops[j]? = some y → (listed.setIfInBounds i true).getD j false = true → ∀ e ∈ y.after.toList, Region.binds .any e = true → (listed.setIfInBounds i true).getD e.on false = true := by
        intro j y hy hj e' he' hb
        rw [getD_set (by omega)] at hj ⊢
        split
        · rfl
        · split at hj
          · rename_i e'; subst e'; rw [ho] at hy; cases hy; exact hr e' he' hb
          · exact hI.closed j y hy hj e' he' hb
      -- the temporaries after it
      have tmps' : ∀ {D' : DMap} {β' : List Bi} {objs' : List Ob} {w' : World} {v : Value}, Step D β (st k).objs w D' β' objs' w' → RepA D' β' (vs i) v →
          (a.put o.dst v).tmps.size = nt ∧ (∀ t : Nat, t ≠ d → RepA D' β' (valAt ops s vs (listed.setIfInBounds i true) t) ((a.put o.dst v).tmps.getD t undef)) ∧ DlOK D' β' s.dl (a.put o.dst v).defers ∧ (a.put o.dst v).tmps.getD d undef = .pointer (some ⟨b, 0, none⟩) := by
        intro D' β' objs' w' v hst hv
        refine ⟨by cases o.dst <;> simp [Act.put, hsz], fun t ht => ?_, ?_, ?_⟩
        · rw [valAt_set C hI.size ho hun t]
          have old : RepA D' β' (valAt ops s vs listed t) (a.tmps.getD t undef) := hst.repA (h2 t ht)
          cases hd : o.dst with
          | none => simpa [Act.put] using old
          | some dd =>
            rw [hd] at hset
            simp only [setD] at hset
            split at hset
            · rename_i hlt
              have hlt : dd < nt := by rw [Nat.blt_eq] at hlt; exact hlt
              by_cases e : dd = t
              · subst e
                simp only [if_true, Act.put]
                have hds : dd < a.tmps.size := by rw [hsz]; exact hlt
                simpa [hds] using hv
              · rw [if_neg (fun h => e (Option.some.inj h))]
                simp only [Act.put, Array.getD_eq_getD_getElem?]
                rw [Array.getElem?_setIfInBounds_ne e, ← Array.getD_eq_getD_getElem?]
                exact old
            · cases hset
        · have := h3.mono hst.dsub hst.bext
          cases o.dst <;> exact this
        · rw [← hpt]
          cases hd : o.dst with
          | none => rfl
          | some dd =>
            have : dd ≠ d := fun h => hdi (by rw [hd, h])
            simp only [Act.put, Array.getD_eq_getD_getElem?]
            rw [Array.getElem?_setIfInBounds_ne this]
      -- quiet: nothing turns
      have goOn : pk i = false → (∀ q, e ≠ .b q) → ∀ {D' : DMap} {β' : List Bi} {w' : World} {v : Value}, Step D β (st k).objs w D' β' (st k).objs w' → RepA D' β' (vs i) v →
          wpAnyIn (FW ro) 0 P .any ops Q fuel (listed.setIfInBounds i true) (a.put o.dst v) w' := by
        intro hpi hq D' β' w' v hst hv
        obtain ⟨t1, t2, t3, t4⟩ := tmps' hst hv
        refine ihH _ _ _ hlt ⟨by simp [hs], closed', by rw [getD_set (by omega)]; split <;> first | rfl | exact hI.done, k, hk, fun j q hj hjA => ?_, ⟨jx, qx, hjx, hkx, hxA⟩, oA, d, y, D', β', b, hoA, hdA, hob, hvA, h1.trans hst, t1, t2, t3, hH'.step hst, t4⟩ (keepN hpi)
        rw [getD_set (by omega)]
        split
        · rename_i e'; subst e'; rw [he] at hj; cases hj; exact absurd rfl (hq q)
        · exact hkb j q hj hjA
      -- loud: it stands before the allocation
      have bk : ∀ q, e = .b q → i < A ∧ (∀ j, i ≤ j → j < k → ∀ r, es[j]? ≠ some (.b r)) ∧ (∀ j, k ≤ j → j < i → ∀ r, es[j]? ≠ some (.b r)) := by
        intro q hq
        rw [hq] at he
        have hlt' : i < A := by
          rcases Nat.lt_or_ge i A with h | h
          · exact h
          · have := (C.bb jx i qx q hjx he (by omega) hiA).listed hI.closed (fun o' ho' => by rw [ho] at ho'; cases ho'; exact hr)
            rw [hxun] at this; cases this
        refine ⟨hlt', fun j h1 h2 r hj => ?_, fun j h1 h2 r hj => ?_⟩
        · have := (hkb i q he hiA).2 (by omega)
          rw [hun] at this; cases this
        · have hlj := (C.bb j i r q hj he h2 hiA).listed hI.closed (fun o' ho' => by rw [ho] at ho'; cases ho'; exact hr)
          have := (hkb j r hj (by omega)).1 hlj
          omega
      unfold wpOpIn
      simp only [ho]
      rcases hx with ⟨hpi, hg, ob, hv, hobj, heff⟩ | ⟨hpi, hg, hva, hobj, heff⟩ | ⟨hdd, hobj, heff⟩ | ⟨hpi, hg, x, ob, hv, hobj, heff⟩
      · rw [hgc true hg]
        simp only [if_true]
        have hv' : evAny E (H i) frz rd' (st i).objs o = some (vs i, ob, true) := by rw [evAny_congr E (H i) frz _ o opnds]; exact hv
        cases ob with
        | none =>
          have does := C.quiet hE hH hI.closed ho hun hr (k := k) (by omega) (fun j q hj => by
            by_cases hjA : j = A
            · subst hjA
              rw [e4] at hj
              simp only [Option.some.injEq, Eff.b.injEq] at hj
              exact .inr ⟨n0, hj.symm, hfree.2⟩
            · exact .inl (hkb j q hj hjA)) opnds (by rw [he, heff]) hv
          refine does ro D β a w _ Q h1.heap hrd' (fun v w' D' β' hst hrep => ?_) (fun x v w' D' β' hx _ _ => by rw [hx] at hnp; cases hnp)
          exact goOn hpi (fun q h => by rw [heff] at h; cases h) hst hrep
        | some objs' =>
          obtain ⟨hltA, hbk⟩ := bk _ heff
          have heq : (st k).objs = (st i).objs := C.same (by omega) (by omega) hbk.1 hbk.2
          refine way_does hE (hH i) (way_of hv') ro D β a w _ Q (by rw [← heq]; exact h1.heap) hrd' (fun v w' D' β' hst hrep => ?_) (fun x v w' D' β' hx _ _ => by rw [hx] at hnp; cases hnp)
          have hst : Step D β (st k).objs w D' β' (st (i + 1)).objs w' := by rw [hobj, heq]; exact hst
          obtain ⟨t1, t2, t3, t4⟩ := tmps' hst hrep
          have hkb' : ∀ (j : Nat) q, es[j]? = some (.b q) → j ≠ A → ((listed.setIfInBounds i true).getD j false = true ↔ j < i + 1) := by
            intro j q hj hjA
            rw [getD_set (by omega)]
            split
            · rename_i e'; subst e'; simp
            · rename_i e'
              rw [hkb j q hj hjA]
              constructor
              · intro h
                rcases Nat.lt_or_ge j i with h' | h'
                · omega
                · exact absurd hj (hbk.1 j h' h q)
              · intro h
                rcases Nat.lt_or_ge j k with h' | h'
                · exact h'
                · exact absurd hj (hbk.2 j h' (by omega) q)
          have hdone : (listed.setIfInBounds i true).getD A false = true := by rw [getD_set (by omega)]; split <;> first | rfl | exact hI.done
          by_cases hex : ∃ j q, es[j]? = some (.b q) ∧ i + 1 ≤ j ∧ j < A
          · exact ihH _ _ _ hlt ⟨by simp [hs], closed', hdone, i + 1, by omega, hkb', hex, oA, d, y, D', β', b, hoA, hdA, hob, hvA, h1.trans hst, t1, t2, t3, hH'.step hst, t4⟩ (keepN hpi)
          · -- now it is taken up
            have heqA : (st A).objs = (st (i + 1)).objs := C.same (by omega) (by omega) (fun j g1 g2 q hj => hex ⟨j, q, hj, g1, g2⟩) (fun j g1 g2 => by omega)
            have hst2 := (hH'.step hst).adopt (h1.trans hst)
            rw [← heqA, ← hob] at hst2
            have hlen : β'.length = (st A).objs.length := by rw [heqA]; exact hst.heap.len
            have hnew : (β' ++ [(⟨b, fun _ => none⟩ : Bi)])[(st A).objs.length]? = some ⟨b, fun _ => none⟩ := by rw [← hlen]; simp
            refine ihN _ _ _ hlt ⟨by simp [hs], closed', A + 1, by omega, fun j q hj => ?_, D', β' ++ [⟨b, fun _ => none⟩], hst2, t1, fun t => ?_, t3.mono (fun _ _ h => h) ext_snoc⟩ (keepN hpi)
            · by_cases hjA : j = A
              · subst hjA; rw [hdone]; simp
              · rw [hkb' j q hj hjA]
                constructor
                · intro h; omega
                · intro h
                  rcases Nat.lt_or_ge j (i + 1) with h' | h'
                  · exact h'
                  · exact absurd ⟨j, q, hj, h', by omega⟩ hex
            · by_cases htd : t = d
              · subst htd
                rw [C.valAt_some ⟨hdone, oA, hoA, hdA⟩, hvA, t4]
                exact .bp hnew
              · exact (t2 t htd).mono (fun _ _ h => h) ext_snoc
      · rw [hgc false hg]
        simp only [Bool.false_eq_true, if_false]
        refine ⟨fun _ _ => trivial, ?_⟩
        exact goOn hpi (fun q h => by rw [heff] at h; cases h) (Step.refl h1.heap) (by rw [hva]; exact .tup rfl (fun j c v hc _ => by simp at hc))
      · obtain ⟨p, hp, ha⟩ := hdead i hdd
        have := ha.listed hI.closed (fun o' ho' => by rw [ho] at ho'; cases ho'; exact hr)
        rw [hN p hp] at this; cases this
      · rw [hgc true hg]
        simp only [if_true]
        have hv' : evAny E (H i) frz rd' (st i).objs o = some (.pan x, ob, true) := by rw [evAny_congr E (H i) frz _ o opnds]; exact hv
        obtain ⟨hltA, hbk⟩ := bk _ heff
        have heq : (st k).objs = (st i).objs := C.same (by omega) (by omega) hbk.1 hbk.2
        refine way_does hE (hH i) (way_of hv') ro D β a w _ Q (by rw [← heq]; exact h1.heap) hrd' (fun v w' D' β' hst hrep => by cases hrep) (fun y v w' D' β' hy hst hrep => ?_)
        cases hy
        exact hP i o x ob ho hpi hv a w' D' β' v (h1.trans (by rw [heq]; exact hst)) hsz (h3.mono hst.dsub hst.bext) hrep

theorem draw_ok (hE : EnvOK P E) {H : Hd} (hH : HOK P H) (hm : P.follows .mixedOrders = true) {ro : Option Nat} {e : Ex} {Q : Exit → Act → World → Prop} (hQ : Post D0 β0 o0 w0 nt e s' Q)
    {id : Nat} (h : evDraw E H frz nt ops s = some (e, s')) {a : Act} {w : World} (hs : Sim D0 β0 o0 w0 nt s a w) : (Code.region id ops true).wpIn (FW ro) 0 P Q a w := by
  have start : ∀ (st : Nat → S) (vs : Nat → AV) (es : List Eff), st 0 = s → Inv ops s es st vs nt D0 β0 o0 w0 (Array.replicate ops.size false) a (w.drew) := by
    intro st vs es h0
    obtain ⟨D, β, h1, h2, h3⟩ := hs
    have rep0 : ∀ i, (Array.replicate ops.size false).getD i false = false := fun i => by
      simp only [Array.getD_eq_getD_getElem?, Array.getElem?_replicate]; split <;> rfl
    refine ⟨by simp, fun i o ho h => (by rw [rep0] at h; cases h), 0, Nat.zero_le _, fun i q hi => ⟨fun h => (by rw [rep0] at h; cases h), fun h => (by omega)⟩, D, β, ?_, h2.1, fun t => ?_, h3⟩
    · rw [h0]; exact h1.trans (Step.drew h1.heap)
    · rw [valAt_none fun i hi => by rw [Wrote, rep0] at hi; exact absurd hi.1 (by simp)]
      exact h2.2 t
  have rep0 : ∀ i, (Array.replicate ops.size false).getD i false = false := fun i => by
    simp only [Array.getD_eq_getD_getElem?, Array.getElem?_replicate]; split <;> rfl
  have hleft : left ops.size (Array.replicate ops.size false) ≤ ops.size := by
    unfold left
    exact Nat.le_trans (List.length_filter_le _ _) (by simp)
  unfold evDraw at h
  split at h
  · rename_i es s1 hev
    split at h
    · rename_i hd
      simp only [Option.some.injEq, Prod.mk.injEq] at h
      obtain ⟨rfl, rfl⟩ := h
      obtain ⟨A, st, vs, C⟩ := drawC hev hd
      exact wpIn_region_any hm ((draw_walk hE (fun _ => hH) C (fun i h => by cases h) (fun _ a w hs => hQ.1 a w rfl hs) (fun i o x ob _ h => by cases h) ops.size).1 _ a _ hleft (start st vs es C.tr.first) (fun p h => by cases h))
    · cases h
  · split at h
    · rename_i p _
      unfold evPan at h
      simp only at h
      split at h
      · rename_i es s1 hev
        split at h
        · rename_i hd
          obtain ⟨A, st, vs, C⟩ := drawC hev hd
          split at h
          · rename_i o _ sp ho hsp
            split at h
            · rename_i x ob hv
              simp only [Option.some.injEq, Prod.mk.injEq] at h
              obtain ⟨rfl, rfl⟩ := h
              have hp : p < ops.size := lt_size ho
              obtain ⟨_, hpre⟩ := C.tr.pre p (by simpa using Nat.le_of_lt hp)
              rw [hsp] at hpre
              simp only [Option.some.injEq, Prod.mk.injEq] at hpre
              have hst := hpre.2
              refine wpIn_region_any hm ((draw_walk hE (fun _ => hH) C (fun i h => ⟨p, by simp, anc_aft h⟩) (fun hn => ?_) (fun i o' y ob' ho' hpi hv' a w D β v q1 q2 q3 q4 => ?_) ops.size).1 _ a _ hleft (start st vs es C.tr.first) (fun p _ => rep0 p))
              · have := hn p hp; simp at this
              · have := Nat.eq_of_beq_eq_true hpi
                subst this
                rw [ho] at ho'; cases ho'
                rw [← hst, hv] at hv'
                simp only [Option.some.injEq, Prod.mk.injEq, AV.pan.injEq] at hv'
                obtain ⟨rfl, rfl, _⟩ := hv'
                exact hQ.2 x rfl a w v D β (by rw [hst]; exact q1) ⟨q2, fun t => .d .any⟩ q3 q4
            · cases h
          · cases h
        · cases h
      · cases h
    · cases h

theorem draw_sym (hE : EnvOK P E) (hH : ∀ i, HOK P (H i)) (hm : P.follows .mixedOrders = true) {ro : Option Nat} {Q : Exit → Act → World → Prop} (hQ : Post D0 β0 o0 w0 nt .normal s' Q)
    {id : Nat} (h : evOps E H frz nt ops never never 0 ops.toList s = some (es, s')) (hd : drawOK E H frz nt ops never never s es = true) {a : Act} {w : World} (hs : Sim D0 β0 o0 w0 nt s a w) : (Code.region id ops true).wpIn (FW ro) 0 P Q a w := by
  have rep0 : ∀ i, (Array.replicate ops.size false).getD i false = false := fun i => by
    simp only [Array.getD_eq_getD_getElem?, Array.getElem?_replicate]; split <;> rfl
  have hleft : left ops.size (Array.replicate ops.size false) ≤ ops.size := by
    unfold left
    exact Nat.le_trans (List.length_filter_le _ _) (by simp)
  obtain ⟨A, st, vs, C⟩ := drawC h hd
  refine wpIn_region_any hm ((draw_walk hE hH C (fun i h => by cases h) (fun _ a w hs => hQ.1 a w rfl hs) (fun i o x ob _ h => by cases h) ops.size).1 _ a _ hleft ?_ (fun p h => by cases h))
  obtain ⟨D, β, h1, h2, h3⟩ := hs
  refine ⟨by simp, fun i o ho h => (by rw [rep0] at h; cases h), 0, Nat.zero_le _, fun i q hi => ⟨fun h => (by rw [rep0] at h; cases h), fun h => (by omega)⟩, D, β, ?_, h2.1, fun t => ?_, h3⟩
  · rw [C.tr.first]; exact h1.trans (Step.drew h1.heap)
  · rw [valAt_none fun i hi => by rw [Wrote, rep0] at hi; exact absurd hi.1 (by simp)]
    exact h2.2 t
end

end Go.Av

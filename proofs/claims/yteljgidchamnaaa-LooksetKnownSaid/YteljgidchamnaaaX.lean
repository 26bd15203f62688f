/-
  The abstract layer, part X: a region whose order is drawn: the walk.
-/
import Derived.Test.YteljgidchamnaaaW
noncomputable section
namespace Go.Av
open Go

section
variable {E : PT Ty} {H : Hd} {frz : List Nat} {nt : Nat} {ops : Array Oper} {s s' : S} {es : List Eff} {st : Nat → S} {vs : Nat → AV}

/-- Some listed operation has written t. -/
def Wrote (ops : Array Oper) (listed : Array Bool) (t i : Nat) : Prop := listed.getD i false = true ∧ ∃ o, ops[i]? = some o ∧ o.dst = some t

open Classical in
noncomputable def valAt (ops : Array Oper) (s : S) (vs : Nat → AV) (listed : Array Bool) (t : Nat) : AV :=
  if h : ∃ i, Wrote ops listed t i then vs (Classical.choose h) else (s.tm.get? t).getD (.d .any)

noncomputable def rdAt (ops : Array Oper) (s : S) (vs : Nat → AV) (listed : Array Bool) : Operand → AV
  | .tmp t => valAt ops s vs listed t
  | x => rd s.tm x

theorem valAt_none {listed : Array Bool} {t : Nat} (h : ∀ i, ¬ Wrote ops listed t i) : valAt ops s vs listed t = (s.tm.get? t).getD (.d .any) := by
  unfold valAt
  rw [dif_neg (fun ⟨i, hi⟩ => h i hi)]

theorem DrawC.valAt_some (C : DrawC E H frz nt ops s es s' st vs) {listed : Array Bool} {t i : Nat} (h : Wrote ops listed t i) : valAt ops s vs listed t = vs i := by
  have hx : ∃ i, Wrote ops listed t i := ⟨i, h⟩
  unfold valAt
  rw [dif_pos hx]
  obtain ⟨_, o, h1, h2⟩ := Classical.choose_spec hx
  obtain ⟨_, o', h3, h4⟩ := h
  rw [C.dsts _ _ _ _ _ h1 h3 h2 h4]

structure Inv (ops : Array Oper) (s : S) (es : List Eff) (st : Nat → S) (vs : Nat → AV) (nt : Nat) (D0 : DMap) (β0 : List Bi) (o0 : List Ob) (w0 : World) (listed : Array Bool) (a : Act) (w : World) : Prop where
  size : listed.size = ops.size
  closed : ∀ (i : Nat) o, ops[i]? = some o → listed.getD i false = true → ∀ e ∈ o.after.toList, Region.binds .any e = true → listed.getD e.on false = true
  mem : ∃ k, k ≤ ops.size ∧ (∀ (i : Nat) q, es[i]? = some (.b q) → (listed.getD i false = true ↔ i < k)) ∧
    ∃ D β, Step D0 β0 o0 w0 D β (st k).objs w ∧ a.tmps.size = nt ∧ (∀ t : Nat, RepA D β (valAt ops s vs listed t) (a.tmps.getD t undef)) ∧ DlOK β s.dl a.defers

/-- What an operation looks at is, at its turn, what it is in the text's order. -/
theorem DrawC.looks (C : DrawC E H frz nt ops s es s' st vs) {listed : Array Bool} (hcl : ∀ (i : Nat) o, ops[i]? = some o → listed.getD i false = true → ∀ e ∈ o.after.toList, Region.binds .any e = true → listed.getD e.on false = true)
    {i : Nat} {o : Oper} (ho : ops[i]? = some o) (hun : listed.getD i false = false) (hr : ∀ e ∈ o.after.toList, Region.binds .any e = true → listed.getD e.on false = true) {t : Nat} (ht : t ∈ Oper.looksAt ops o) :
    valAt ops s vs listed t = ((st i).tm.get? t).getD (.d .any) := by
  have hi := lt_size ho
  have hti := C.text i (by omega) t
  by_cases hw : ∃ (j : Nat) (y : Oper), ops[j]? = some y ∧ y.dst = some t
  · obtain ⟨j, y, hy, hd⟩ := hw
    have uniq : ∀ j' y', ops[j']? = some y' → y'.dst = some t → j' = j := fun j' y' h1 h2 => C.dsts _ _ _ _ _ h1 hy h2 hd
    have notl : listed.getD j false = false → valAt ops s vs listed t = (s.tm.get? t).getD (.d .any) := fun hn =>
      valAt_none fun j' hj' => by
        obtain ⟨h1, y', h2, h3⟩ := hj'
        rw [uniq j' y' h2 h3, hn] at h1; cases h1
    rcases C.reads i j o y t ho hy hd ht with rfl | ha | ha
    · rw [notl hun]
      rcases hti with ⟨j', y', hlt, h1, h2, _⟩ | ⟨_, h⟩
      · have := uniq j' y' h1 h2; omega
      · rw [h]
    · have hl : listed.getD j false = true := ha.listed hcl (fun o' ho' => by rw [ho] at ho'; cases ho'; exact hr)
      have hlt : j < i := ha.lt C.edges
      rw [C.valAt_some ⟨hl, y, hy, hd⟩]
      rcases hti with ⟨j', y', _, h1, h2, h3⟩ | ⟨h, _⟩
      · rw [uniq j' y' h1 h2] at h3; rw [h3]; rfl
      · exact absurd hd (h j y hlt hy)
    · have hlt : i < j := ha.lt C.edges
      have hn : listed.getD j false = false := by
        cases hx : listed.getD j false with
        | false => rfl
        | true =>
          have := ha.listed hcl (fun o' ho' => by rw [hy] at ho'; cases ho'; exact hcl j y hy hx)
          rw [hun] at this; cases this
      rw [notl hn]
      rcases hti with ⟨j', y', hlt', h1, h2, _⟩ | ⟨_, h⟩
      · have := uniq j' y' h1 h2; omega
      · rw [h]
  · rw [valAt_none fun j hj => hw ⟨j, hj.2⟩]
    rcases hti with ⟨j', y', _, h1, h2, _⟩ | ⟨_, h⟩
    · exact absurd ⟨j', y', h1, h2⟩ hw
    · rw [h]

variable {P : Program} {D0 : DMap} {β0 : List Bi} {o0 : List Ob} {w0 : World}

theorem rdAt_rep {D : DMap} {β : List Bi} {listed : Array Bool} {a : Act} (h : ∀ t : Nat, RepA D β (valAt ops s vs listed t) (a.tmps.getD t undef)) (x : Operand) : RepA D β (rdAt ops s vs listed x) (a.eval x) := by
  cases x with
  | tmp t => exact h t
  | const v =>
    simp only [rdAt, Av.rd, Act.eval]
    cases ho : ofVal v with
    | none => exact .d .any
    | some y => exact .d (ofVal_rep ho)
  | global g => exact .d .any
  | func f => exact .d (.fn rfl rfl (fun j c v hc _ => by simp at hc) (fun j c v hc _ => by simp at hc))

theorem valAt_set (C : DrawC E H frz nt ops s es s' st vs) {listed : Array Bool} (hs : listed.size = ops.size) {i : Nat} {o : Oper} (ho : ops[i]? = some o) (hun : listed.getD i false = false) (t : Nat) :
    valAt ops s vs (listed.setIfInBounds i true) t = if o.dst = some t then vs i else valAt ops s vs listed t := by
  have hi := lt_size ho
  by_cases hd : o.dst = some t
  · rw [if_pos hd]
    exact C.valAt_some ⟨by rw [getD_set (by omega)]; simp, o, ho, hd⟩
  · rw [if_neg hd]
    by_cases hw : ∃ j, Wrote ops listed t j
    · obtain ⟨j, hj⟩ := hw
      rw [C.valAt_some hj]
      obtain ⟨h1, y, h2, h3⟩ := hj
      refine C.valAt_some ⟨?_, y, h2, h3⟩
      rw [getD_set (by omega)]
      split
      · rfl
      · exact h1
    · rw [valAt_none fun j hj => hw ⟨j, hj⟩]
      refine valAt_none fun j hj => ?_
      obtain ⟨h1, y, h2, h3⟩ := hj
      rw [getD_set (by omega)] at h1
      split at h1
      · rename_i e; subst e; rw [ho] at h2; cases h2; exact hd h3
      · exact hw ⟨j, h1, y, h2, h3⟩

theorem Inv.next (C : DrawC E H frz nt ops s es s' st vs) {listed : Array Bool} {a : Act} {w w' : World} (hI : Inv ops s es st vs nt D0 β0 o0 w0 listed a w) {i : Nat} {o : Oper} (ho : ops[i]? = some o)
    (hun : listed.getD i false = false) (hr : ∀ e ∈ o.after.toList, Region.binds .any e = true → listed.getD e.on false = true) {k : Nat} (hk : k ≤ ops.size)
    (hkb : ∀ (j : Nat) q, es[j]? = some (.b q) → ((listed.setIfInBounds i true).getD j false = true ↔ j < k)) {D D' : DMap} {β β' : List Bi} {objs : List Ob} (h1 : Step D0 β0 o0 w0 D β objs w)
    (hsz : a.tmps.size = nt) (h2 : ∀ t : Nat, RepA D β (valAt ops s vs listed t) (a.tmps.getD t undef)) (h3 : DlOK β s.dl a.defers)
    (hst : Step D β objs w D' β' (st k).objs w') {v : Value} (hv : RepA D' β' (vs i) v) : Inv ops s es st vs nt D0 β0 o0 w0 (listed.setIfInBounds i true) (a.put o.dst v) w' := by
  have hi := lt_size ho
  obtain ⟨e, he, hset, _⟩ := C.eff ho
  refine ⟨by simp [hI.size], fun j y hy hj e he hb => ?_, k, hk, hkb, D', β', h1.trans hst, ?_, fun t => ?_, ?_⟩
  · have hs := hI.size
    rw [getD_set (by omega)] at hj ⊢
    split
    · rfl
    · split at hj
      · rename_i e'; subst e'; rw [ho] at hy; cases hy; exact hr e he hb
      · exact hI.closed j y hy hj e he hb
  · cases o.dst <;> simp [Act.put, hsz]
  · rw [valAt_set C hI.size ho hun t]
    have old : RepA D' β' (valAt ops s vs listed t) (a.tmps.getD t undef) := hst.repA (h2 t)
    cases hd : o.dst with
    | none => simpa [Act.put] using old
    | some d =>
      rw [hd] at hset
      simp only [setD] at hset
      split at hset
      · rename_i hlt
        have hlt : d < nt := by rw [Nat.blt_eq] at hlt; exact hlt
        by_cases e : d = t
        · subst e
          simp only [if_true, Act.put]
          have hds : d < a.tmps.size := by rw [hsz]; exact hlt
          simpa [hds] using hv
        · rw [if_neg (fun h => e (Option.some.inj h))]
          simp only [Act.put, Array.getD_eq_getD_getElem?]
          rw [Array.getElem?_setIfInBounds_ne e, ← Array.getD_eq_getD_getElem?]
          exact old
      · cases hset
  · have := h3.mono hst.bext
    cases o.dst <;> exact this

theorem getD_false {listed : Array Bool} {i n : Nat} (hs : listed.size = n) (hi : i < n) (d d' : Bool) : listed.getD i d = listed.getD i d' := by
  simp [Array.getD, show i < listed.size by omega]

theorem quiet_of_reads {rd : Operand → AV} {objs : List Ob} {o : Oper} {p : Nat} {v : AV} (hp : readsAt rd o.op = some p) (hv : evAny E H frz rd objs o = some (v, none, true)) :
    quiet o.op = true ∧ ∃ u, evOp E rd objs o.op = some (v, u, true) := by
  cases way_of hv with
  | fnD ho => rw [ho] at hp; cases hp
  | fnA ho => rw [ho] at hp; cases hp
  | boxE ho => rw [ho] at hp; cases hp
  | rowE ho => rw [ho] at hp; cases hp
  | quiet hq h => exact ⟨hq, _, h⟩

theorem draw_walk (hE : EnvOK P E) (hH : HOK P H) (C : DrawC E H frz nt ops s es s' st vs) {ro : Option Nat} {Q : Exit → Act → World → Prop} (hQ : ∀ a w, Sim D0 β0 o0 w0 nt s' a w → Q .normal a w) :
    ∀ (fuel : Nat) (listed : Array Bool) (a : Act) (w : World), left ops.size listed ≤ fuel → Inv ops s es st vs nt D0 β0 o0 w0 listed a w → wpAnyIn (FW ro) 0 P .any ops Q fuel listed a w := by
  -- nothing is ready: all are listed
  have all : ∀ listed : Array Bool, listed.size = ops.size → Region.ready .any ops listed = [] → ∀ i, i < ops.size → listed.getD i false = true := by
    intro listed hs hr i
    induction i using Nat.strongRecOn with
    | _ i ih =>
      intro hi
      cases hx : listed.getD i false with
      | true => rfl
      | false =>
        have ho : ops[i]? = some ops[i] := by simp [hi]
        have : i ∈ Region.ready .any ops listed := mem_ready.2 ⟨by rw [getD_false hs hi true false]; exact hx, _, ho, fun e he hb => by
          have := C.edges i _ ho e (by simpa using he) hb
          exact ih e.on this (by omega)⟩
        rw [hr] at this; cases this
  have done : ∀ listed a w, Inv ops s es st vs nt D0 β0 o0 w0 listed a w → Region.ready .any ops listed = [] → Q .normal a w := by
    intro listed a w hI hr
    have hall := all listed hI.size hr
    obtain ⟨k, hk, hkb, D, β, h1, hsz, h2, h3⟩ := hI.mem
    have hlast : st ops.size = s' := by have := C.tr.last; simpa using this
    have hobj : (st k).objs = s'.objs := by
      rw [← hlast]
      refine C.same (Nat.le_refl _) hk (fun j h1 h2 => by omega) (fun j h1 h2 q hq => ?_)
      have := (hkb j q hq).1 (hall j h2)
      omega
    have hdl : ∀ i, i ≤ ops.size → (st i).dl = s.dl := by
      intro i
      induction i with
      | zero => intro _; rw [C.tr.first]
      | succ i ih =>
        intro hi
        obtain ⟨e, _, _, hdl, _⟩ := C.eff (i := i) (o := ops[i]) (by simp [show i < ops.size by omega])
        rw [hdl]; exact ih (by omega)
    refine hQ a w ⟨D, β, by rw [← hobj]; exact h1, ⟨hsz, fun t => ?_⟩, by rw [← hlast, hdl _ (Nat.le_refl _)]; exact h3⟩
    have ht := C.text ops.size (Nat.le_refl _) t
    rw [hlast] at ht
    rcases ht with ⟨j, o, hj, ho, hd, hv⟩ | ⟨hn, hv⟩
    · rw [hv]
      have := h2 t
      rw [C.valAt_some ⟨hall j hj, o, ho, hd⟩] at this
      exact this
    · rw [hv]
      have := h2 t
      rw [valAt_none fun j hj => by obtain ⟨_, o, ho, hd⟩ := hj; exact hn j o (lt_size ho) ho hd] at this
      exact this
  intro fuel
  induction fuel with
  | zero =>
    intro listed a w hl hI
    have hr : Region.ready .any ops listed = [] := by
      cases hr : Region.ready .any ops listed with
      | nil => rfl
      | cons i r =>
        have hm : i ∈ Region.ready .any ops listed := by rw [hr]; simp
        obtain ⟨h1, o, ho, _⟩ := mem_ready.1 hm
        have hi := lt_size ho
        have : i ∈ (List.range ops.size).filter fun i => !listed.getD i true := List.mem_filter.2 ⟨by simpa using hi, by rw [h1]; rfl⟩
        have : 0 < left ops.size listed := List.length_pos_of_mem this
        omega
    exact ⟨hr, done listed a w hI hr⟩
  | succ fuel ih =>
    intro listed a w hl hI
    refine ⟨done listed a w hI, fun i hm => ?_⟩
    obtain ⟨hun0, o, ho, hr0⟩ := mem_ready.1 hm
    have hi := lt_size ho
    have hun : listed.getD i false = false := by rw [getD_false hI.size hi false true]; exact hun0
    have hr : ∀ e ∈ o.after.toList, Region.binds .any e = true → listed.getD e.on false = true := fun e he hb => hr0 e (by simpa using he) hb
    have hlt : left ops.size (listed.setIfInBounds i true) ≤ fuel := by have := left_set hI.size hi hun0; omega
    obtain ⟨k, hk, hkb, D, β, h1, hsz, h2, h3⟩ := hI.mem
    obtain ⟨e, he, hset, _, hx⟩ := C.eff ho
    have looks : ∀ t ∈ Oper.looksAt ops o, rdAt ops s vs listed (.tmp t) = rd (st i).tm (.tmp t) := fun t ht => C.looks hI.closed ho hun hr ht
    have opnds : ∀ x ∈ o.op.operands, rdAt ops s vs listed x = rd (st i).tm x := looks_operands ops o looks (fun x hx => by
      cases x with
      | tmp t => exact absurd rfl (hx t)
      | _ => rfl)
    have hgc : ∀ b, guardA ops (rd (st i).tm) o = some b → Region.wanted o (yielded ops a.tmps) = b := fun b hb =>
      guard_ok (rd := rdAt ops s vs listed) (rdAt_rep h2) (by rw [guardA_congr ops o looks]; exact hb)
    -- the loud ones: what is listed of them stays a beginning
    have bk : ∀ q, e = .b q → (∀ j, i ≤ j → j < k → ∀ r, es[j]? ≠ some (.b r)) ∧ (∀ j, k ≤ j → j < i → ∀ r, es[j]? ≠ some (.b r)) := by
      intro q hq
      rw [hq] at he
      refine ⟨fun j h1 h2 r hj => ?_, fun j h1 h2 r hj => ?_⟩
      · have hlj := (hkb j r hj).2 h2
        rcases Nat.lt_or_eq_of_le h1 with hlt | rfl
        · have := (C.bb i j q r he hj hlt).listed hI.closed (fun o' ho' => hI.closed j o' ho' hlj)
          rw [hun] at this; cases this
        · rw [hun] at hlj; cases hlj
      · have hlj := (C.bb j i r q hj he h2).listed hI.closed (fun o' ho' => by rw [ho] at ho'; cases ho'; exact hr)
        have := (hkb j r hj).1 hlj
        omega
    have keepk : ∀ p, e = .a p → ∀ (j : Nat) q, es[j]? = some (.b q) → ((listed.setIfInBounds i true).getD j false = true ↔ j < k) := by
      intro p hp j q hj
      have hs := hI.size
      rw [getD_set (by omega)]
      split
      · rename_i e'; subst e'; rw [he, hp] at hj; cases hj
      · exact hkb j q hj
    unfold wpOpIn
    simp only [ho]
    rcases hx with ⟨hg, ob, hv, hobj, heff⟩ | ⟨hg, hva, hobj, heff⟩
    · rw [hgc true hg]
      simp only [if_true]
      have hv' : evAny E H frz (rdAt ops s vs listed) (st i).objs o = some (vs i, ob, true) := by rw [evAny_congr E H frz _ o opnds]; exact hv
      cases ob with
      | none =>
        -- quiet
        have does : OpDoes P o (rdAt ops s vs listed) (st k).objs (vs i) (st k).objs := by
          cases hp : readsAt (rd (st i).tm) o.op with
          | none => exact way_a hE hH (way_of hv') (fun p h => by rw [readsAt_congr o.op opnds, hp] at h; cases h)
          | some p =>
            have hea : es[i]? = some (.a (some p)) := by rw [he, heff]; simp [effOf, hp]
            obtain ⟨hqq, _, hv0⟩ := quiet_of_reads hp hv
            -- what it answers
            have G : ∀ j, (∀ q, es[j]? = some (.b q) → (listed.getD j false = true ∧ i ≤ j ∨ listed.getD j false = false ∧ j < i)) → j < ops.size →
                ((∃ u, evOp E (rd (st i).tm) (st j).objs o.op = some (vs i, u, true)) ↔ ∃ u, evOp E (rd (st i).tm) (st (j + 1)).objs o.op = some (vs i, u, true)) := by
              intro j hc hj
              have hjl : j < es.length := by rw [C.tr.len]; simpa using hj
              have hje : es[j]? = some es[j] := by simp [hjl]
              have at_of : (st (j + 1)).objs[p]? = (st j).objs[p]? → ((∃ u, evOp E (rd (st i).tm) (st j).objs o.op = some (vs i, u, true)) ↔ ∃ u, evOp E (rd (st i).tm) (st (j + 1)).objs o.op = some (vs i, u, true)) := by
                intro hsame
                constructor
                · rintro ⟨u, hu⟩
                  exact ⟨_, (evOp_quiet E _ o.op hqq _ _ (fun p' hp' => by rw [hp] at hp'; cases hp'; exact hsame) _ _ true hu).2⟩
                · rintro ⟨u, hu⟩
                  exact ⟨_, (evOp_quiet E _ o.op hqq _ _ (fun p' hp' => by rw [hp] at hp'; cases hp'; exact hsame.symm) _ _ true hu).2⟩
              cases hx : es[j] with
              | a q => rw [hx] at hje; exact at_of (by rw [C.objsA hje])
              | b q =>
                rw [hx] at hje
                rcases C.ab i j p q hea hje with h | h | h | h
                · have hl := h.listed hI.closed (fun o' ho' => by rw [ho] at ho'; cases ho'; exact hr)
                  have := h.lt C.edges
                  rcases hc q hje with ⟨_, h⟩ | ⟨h, _⟩
                  · omega
                  · rw [hl] at h; cases h
                · have := h.lt C.edges
                  rcases hc q hje with ⟨hl, _⟩ | ⟨_, h⟩
                  · have := h.listed hI.closed (fun o' ho' => hI.closed j o' ho' hl)
                    rw [hun] at this; cases this
                  · omega
                · obtain ⟨r, rfl, hne⟩ := h
                  exact at_of (C.objsB hje hne)
                · obtain ⟨o', v, u1, u2, ho', g1, g2⟩ := h
                  rw [ho] at ho'; cases ho'
                  constructor
                  · rintro ⟨u, hu⟩; rw [g1] at hu; cases hu; exact ⟨_, g2⟩
                  · rintro ⟨u, hu⟩; rw [g2] at hu; cases hu; exact ⟨_, g1⟩
            have hk' : ∃ u, evOp E (rd (st i).tm) (st k).objs o.op = some (vs i, u, true) := by
              rcases Nat.le_total i k with hle | hle
              · obtain ⟨d, rfl⟩ := Nat.exists_eq_add_of_le hle
                exact (DrawC.rangeP (ops := ops) _ d i hk (fun j h1 h2 => G j (fun q hj => .inl ⟨(hkb j q hj).2 h2, h1⟩) (by omega))).1 ⟨_, hv0⟩
              · obtain ⟨d, rfl⟩ := Nat.exists_eq_add_of_le hle
                exact (DrawC.rangeP (ops := ops) _ d k (by omega) (fun j h1 h2 => G j (fun q hj => .inr ⟨by
                  cases hx : listed.getD j false with
                  | false => rfl
                  | true => have := (hkb j q hj).1 hx; omega, h2⟩) (by omega))).2 ⟨_, hv0⟩
            obtain ⟨u, hu⟩ := hk'
            rw [← evOp_congr E _ o.op opnds] at hu
            exact does_op hE (quiet_noDefer hqq) (evOp_quiet E _ o.op hqq _ _ (fun _ _ => rfl) _ _ true hu).2
        refine does ro D β a w _ Q h1.heap (rdAt_rep h2) (fun v w' D' β' hst hrep => ?_)
        exact ih _ _ _ hlt (hI.next C ho hun hr hk (keepk _ heff) h1 hsz h2 h3 hst hrep)
      | some objs' =>
        have hbk := bk _ heff
        have heq : (st k).objs = (st i).objs := C.same (by omega) hk hbk.1 hbk.2
        refine way_does hE hH (way_of hv') ro D β a w _ Q (by rw [← heq]; exact h1.heap) (rdAt_rep h2) (fun v w' D' β' hst hrep => ?_)
        refine ih _ _ _ hlt (hI.next C ho hun hr (k := i + 1) (by omega) (fun j q hj => ?_) h1 hsz h2 h3 (by rw [hobj, heq]; exact hst) hrep)
        have hs := hI.size
        rw [getD_set (by omega)]
        split
        · rename_i e'; subst e'; simp
        · rename_i e'
          rw [hkb j q hj]
          constructor
          · intro h
            rcases Nat.lt_or_ge j i with h' | h'
            · omega
            · exact absurd hj (hbk.1 j h' h q)
          · intro h
            rcases Nat.lt_or_ge j k with h' | h'
            · exact h'
            · exact absurd hj (hbk.2 j h' (by omega) q)
    · rw [hgc false hg]
      simp only [Bool.false_eq_true, if_false]
      refine ⟨fun _ _ => trivial, ?_⟩
      exact ih _ _ _ hlt (hI.next C ho hun hr hk (keepk _ heff) h1 hsz h2 h3 (Step.refl h1.heap) (by rw [hva]; exact .tup rfl (fun j c v hc _ => by simp at hc)))

theorem draw_ok (hE : EnvOK P E) (hH : HOK P H) (hm : P.follows .mixedOrders = true) {ro : Option Nat} {Q : Exit → Act → World → Prop} (hQ : ∀ a w, Sim D0 β0 o0 w0 nt s' a w → Q .normal a w)
    {id : Nat} (h : evOps E H frz nt ops ops.toList s = some (es, s')) (hd : drawOK E H frz nt ops s es = true) {a : Act} {w : World} (hs : Sim D0 β0 o0 w0 nt s a w) : (Code.region id ops true).wpIn (FW ro) 0 P Q a w := by
  obtain ⟨st, vs, C⟩ := drawC h hd
  refine wpIn_region_any hm (draw_walk hE hH C hQ ops.size _ a _ ?_ ?_)
  · unfold left
    exact Nat.le_trans (List.length_filter_le _ _) (by simp)
  · obtain ⟨D, β, h1, h2, h3⟩ := hs
    have rep0 : ∀ i, (Array.replicate ops.size false).getD i false = false := fun i => by
      simp only [Array.getD_eq_getD_getElem?, Array.getElem?_replicate]; split <;> rfl
    refine ⟨by simp, fun i o ho h => (by rw [rep0] at h; cases h), 0, Nat.zero_le _, fun i q hi => ⟨fun h => (by rw [rep0] at h; cases h), fun h => (by omega)⟩, D, β, ?_, h2.1, fun t => ?_, h3⟩
    · rw [C.tr.first]; exact h1.trans (Step.drew h1.heap)
    · rw [valAt_none fun i hi => by rw [Wrote, rep0] at hi; exact absurd hi.1 (by simp)]
      exact h2.2 t
end

end Go.Av

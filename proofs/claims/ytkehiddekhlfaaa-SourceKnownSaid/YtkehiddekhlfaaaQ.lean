/-
  The abstract layer, part Q: the frame; the operations of a region in the text's order.
-/
import Derived.Test.YtkehiddekhlfaaaP
noncomputable section
namespace Go.Av
open Go

def TmOK (D : DMap) (β : List Bi) (nt : Nat) (tm : PT AV) (tmps : Array Value) : Prop :=
  tmps.size = nt ∧ ∀ t : Nat, RepA D β ((tm.get? t).getD (.d .any)) (tmps.getD t undef)

def DlOK (D : DMap) (β : List Bi) : List Dl → List Deferred → Prop
  | [], [] => True
  | .mark i :: l, d :: ds => (∃ bi, β[i]? = some bi ∧ d.target = .collected bi.blk) ∧ DlOK D β l ds
  | .call g args :: l, d :: ds => (∃ cap, d.target = .fn (.func g) cap ∧ Reps D β args (d.args ++ cap)) ∧ DlOK D β l ds
  | _, _ => False

def Sim (D0 : DMap) (β0 : List Bi) (o0 : List Ob) (w0 : World) (nt : Nat) (s : S) (a : Act) (w : World) : Prop :=
  ∃ D β, Step D0 β0 o0 w0 D β s.objs w ∧ TmOK D β nt s.tm a.tmps ∧ DlOK D β s.dl a.defers

theorem ofVal_rep {D : DMap} {v : Value} {x : DV} (h : ofVal v = some x) : RepD D x v := by
  unfold ofVal at h
  split at h <;> first
    | (cases h; done)
    | (simp only [Option.some.injEq] at h; subst h; first | exact .bool | exact .int | exact .str rfl | exact .nilptr | exact .nilmap | exact .nilfunc | exact .niliface | exact .nilsl)

theorem TmOK.rd {D : DMap} {β : List Bi} {nt : Nat} {tm : PT AV} {a : Act} (h : TmOK D β nt tm a.tmps) (x : Operand) : RepA D β (rd tm x) (a.eval x) := by
  cases x with
  | tmp t => exact h.2 t
  | const v =>
    simp only [Av.rd, Act.eval]
    cases ho : ofVal v with
    | none => exact .d .any
    | some y => exact .d (ofVal_rep ho)
  | global g => exact .d .any
  | func f => exact .d (.fn rfl rfl (fun j c v hc _ => by simp at hc) (fun j c v hc _ => by simp at hc))

theorem PT.get?_single_self {α : Type} (v : α) : ∀ (fuel n : Nat), n < 2 ^ fuel - 1 → (PT.single v fuel n).get? n = some v
  | 0, n, h => by simp at h
  | fuel + 1, n, h => by
    rw [PT.single_succ]
    cases hn : Nat.beq n 0 with
    | true => simp [PT.get?_node, hn]
    | false =>
      have n0 : n ≠ 0 := Nat.ne_of_beq_eq_false hn
      cases hp : Nat.beq (n % 2) 1 with
      | true =>
        have : n % 2 = 1 := Nat.eq_of_beq_eq_true hp
        simp only [PT.get?_node, hn, hp]
        exact PT.get?_single_self v fuel _ (by rw [Nat.pow_succ] at h; omega)
      | false =>
        have : n % 2 ≠ 1 := Nat.ne_of_beq_eq_false hp
        simp only [PT.get?_node, hn, hp]
        exact PT.get?_single_self v fuel _ (by rw [Nat.pow_succ] at h; omega)

theorem Reps.mono {D D' : DMap} {β β' : List Bi} (hs : ∀ ad v, D ad = some v → D' ad = some v) (hb : ∀ (i : Nat) x, β[i]? = some x → ∃ y, β'[i]? = some y ∧ BiExt x y) {args : List AV} {vs : Array Value} (h : Reps D β args vs) :
    Reps D' β' args vs := ⟨h.1, fun j c v hc hv => (h.2 j c v hc hv).mono hs hb⟩

theorem DlOK.mono {D D' : DMap} {β β' : List Bi} (hs : ∀ ad v, D ad = some v → D' ad = some v) (hb : ∀ (i : Nat) x, β[i]? = some x → ∃ y, β'[i]? = some y ∧ BiExt x y) :
    ∀ {l : List Dl} {ds : List Deferred}, DlOK D β l ds → DlOK D' β' l ds
  | [], [], _ => trivial
  | .mark i :: l, d :: ds, h => by
    obtain ⟨⟨bi, h1, h2⟩, h3⟩ := h
    obtain ⟨y, hy, he⟩ := hb i bi h1
    exact ⟨⟨y, hy, by rw [h2, he.1]⟩, DlOK.mono hs hb h3⟩
  | .call g args :: l, d :: ds, h => by
    obtain ⟨⟨cap, h1, h2⟩, h3⟩ := h
    exact ⟨⟨cap, h1, h2.mono hs hb⟩, DlOK.mono hs hb h3⟩

theorem TmOK.mono {D D' : DMap} {β β' : List Bi} {nt : Nat} {tm : PT AV} {tmps : Array Value} (hs : ∀ ad v, D ad = some v → D' ad = some v)
    (hb : ∀ (i : Nat) x, β[i]? = some x → ∃ y, β'[i]? = some y ∧ BiExt x y) (h : TmOK D β nt tm tmps) : TmOK D' β' nt tm tmps :=
  ⟨h.1, fun t => (h.2 t).mono hs hb⟩

theorem TmOK.put {D : DMap} {β : List Bi} {nt : Nat} {tm tm' : PT AV} {a : Act} {dst : Option Tmp} {av : AV} {v : Value} (h : TmOK D β nt tm a.tmps) (hv : RepA D β av v) (hs : setD nt tm dst av = some tm') :
    TmOK D β nt tm' (a.put dst v).tmps := by
  cases dst with
  | none => simp only [setD, Option.some.injEq] at hs; subst hs; exact h
  | some d =>
    simp only [setD] at hs
    split at hs
    · rename_i hlt
      have hlt : d < nt := by rw [Nat.blt_eq] at hlt; exact hlt
      simp only [Option.some.injEq] at hs; subst hs
      refine ⟨by simp [Act.put, h.1], fun t => ?_⟩
      simp only [Act.put, Array.getD_eq_getD_getElem?]
      cases hg : (tm.set d av).get? t with
      | none =>
        simp only [Option.getD_none]; exact .d .any
      | some u =>
        simp only [Option.getD_some]
        have hds : d < a.tmps.size := by rw [h.1]; exact hlt
        have same : ∀ e : t = d, u = av → RepA D β u ((a.tmps.setIfInBounds d v)[t]?.getD undef) := fun e e2 => by
          subst e e2; simp [hds, hv]
        rcases PT.get?_set tm d t av u hg with ⟨e, e2⟩ | ⟨e, e2⟩ | ⟨e, e2⟩
        · exact same e e2
        · rw [Array.getElem?_setIfInBounds_ne (Ne.symm e)]
          have := h.2 t
          rw [e2] at this
          simpa [Array.getD_eq_getD_getElem?] using this
        · exact same e e2
    · cases hs

theorem guard_ok {D : DMap} {β : List Bi} {ops : Array Oper} {rd : Operand → AV} {a : Act} {o : Oper} {b : Bool} (hr : ∀ x, RepA D β (rd x) (a.eval x)) (h : guardA ops rd o = some b) :
    Region.wanted o (yielded ops a.tmps) = b := by
  unfold guardA at h
  unfold Region.wanted
  split at h
  · rename_i hg; rw [hg]; simp only [Option.some.injEq] at h; exact h
  · rename_i j want hg
    rw [hg]
    simp only
    split at h
    · rename_i oj hj
      split at h
      · rename_i d hd
        split at h
        · rename_i x hx
          have h0 := hr (.tmp d)
          rw [hx] at h0
          cases h0 with
          | d h0 =>
            generalize hv : a.eval (.tmp d) = v at h0
            cases h0
            have hy : yielded ops a.tmps j = some x := by
              unfold yielded
              simp only [hj, hd, Option.bind_some]
              simp only [Act.eval, Array.getD_eq_getD_getElem?] at hv
              cases ht : a.tmps[d]? with
              | none => rw [ht] at hv; simp [undef] at hv
              | some u => rw [ht] at hv; simp at hv; subst hv; rfl
            rw [hy]
            simp only [Option.some.injEq] at h
            cases want <;> cases x <;> simp_all
        · rename_i hx
          have h0 := hr (.tmp d)
          rw [hx] at h0
          generalize hv : a.eval (.tmp d) = v at h0
          cases h0 with
          | @tup _ us h1 _ =>
            have hy : yielded ops a.tmps j = none := by
              unfold yielded
              simp only [hj, hd, Option.bind_some]
              simp only [Act.eval, Array.getD_eq_getD_getElem?] at hv
              cases ht : a.tmps[d]? with
              | none => rfl
              | some u => rw [ht] at hv; simp at hv; subst hv; rfl
            rw [hy]
            simp only [Option.some.injEq] at h
            subst h
            rfl
        · cases h
      · cases h
    · cases h

section
variable {P : Program} {E : PT Ty} {H : Hd} {frz : List Nat} {nt : Nat} {D0 : DMap} {β0 : List Bi} {o0 : List Ob} {w0 : World}

theorem Sim.put {s : S} {a : Act} {w w' : World} {D D' : DMap} {β β' : List Bi} {objs' : List Ob} {tm' : PT AV} {dst : Option Tmp} {av : AV} {v : Value}
    (h1 : Step D0 β0 o0 w0 D β s.objs w) (h2 : TmOK D β nt s.tm a.tmps) (h3 : DlOK D β s.dl a.defers) (hs : Step D β s.objs w D' β' objs' w') (hv : RepA D' β' av v)
    (ht : setD nt s.tm dst av = some tm') : Sim D0 β0 o0 w0 nt ⟨tm', objs', s.dl⟩ (a.put dst v) w' :=
  ⟨D', β', h1.trans hs, (h2.mono hs.dsub hs.bext).put hv ht, by
    have := h3.mono hs.dsub hs.bext
    cases dst <;> exact this⟩

def exOf : Ex → Exit
  | .normal => .normal
  | .exit id => .exit id
  | .goto l => .goto l
  | .ret => .ret
  | .pan _ => .outgrown
def isPanE : Ex → Bool | .pan _ => true | _ => false

/-- What holds where the code ends: by its end, a panic's value besides. -/
def Post (D0 : DMap) (β0 : List Bi) (o0 : List Ob) (w0 : World) (nt : Nat) (e : Ex) (s' : S) (Q : Exit → Act → World → Prop) : Prop :=
  (∀ a w, isPanE e = false → Sim D0 β0 o0 w0 nt s' a w → Q (exOf e) a w) ∧
  ∀ x, e = .pan x → ∀ a w v D β, Step D0 β0 o0 w0 D β s'.objs w → TmOK D β nt s'.tm a.tmps → DlOK D β s'.dl a.defers → RepD D x v → Q (.panic [{ v := v, recovered := false }]) a w

theorem defer_ok {o : Oper} {rd : Operand → AV} {g : FuncId} {args : List AV} (h : deferOf rd o.op = some (g, args)) (hd : o.dst = none) {D : DMap} {β : List Bi} {a : Act} {w : World} (hr : ∀ x, RepA D β (rd x) (a.eval x))
    {next : Act → World → Prop} {Q : Exit → Act → World → Prop} (hn : ∀ d : Deferred, (∃ cap, d.target = .fn (.func g) cap ∧ Reps D β args (d.args ++ cap)) → next { a with defers := d :: a.defers } w) : o.wpIn (FW none) 0 P a w next Q := by
  have run : ∀ (f : Operand) (as : Array Operand) (ts : Array TypeId) (x y : List AV) (u1 u2 : Array Value), o.op = .defer ⟨.value f, as, ts⟩ → a.eval f = .func (.func g) u1 u2 → Reps D β x u1 → Reps D β y u2 →
      args = x ++ as.toList.map rd ++ y → o.wpIn (FW none) 0 P a w next Q := by
    intro f as ts x y u1 u2 ho hv h1 h2 he
    refine ⟨fun _ _ => trivial, ?_⟩
    have hrun : (Oper.semAt none a.eval o).run P w = .ok (.defer { target := .fn (.func g) u2, args := u1 ++ as.map a.eval }) w := by
      show (execOp a.eval o).run P w = _
      simp [execOp, ho, resolve, hv, Deferred.ofValue]
    rw [hrun]
    have := hn { target := .fn (.func g) u2, args := u1 ++ as.map a.eval } ⟨u2, rfl, by rw [he]; exact reps_append (reps_append h1 (reps_map hr as)) h2⟩
    simpa [Oper.uponIn, hd, Act.put] using this
  unfold deferOf at h
  split at h
  · rename_i f as ts ho
    have hf := hr f
    split at h
    · rename_i g' x y hx
      simp only [Option.some.injEq, Prod.mk.injEq] at h
      obtain ⟨rfl, rfl⟩ := h
      rw [hx] at hf
      obtain ⟨u1, u2, hv, h1, h2⟩ := fn_rep hf
      exact run f as ts _ _ u1 u2 ho hv h1 h2 rfl
    · rename_i g' x y hx
      simp only [Option.some.injEq, Prod.mk.injEq] at h
      obtain ⟨rfl, rfl⟩ := h
      rw [hx] at hf
      obtain ⟨u1, u2, hv, h1, h2⟩ := fnA_rep hf
      exact run f as ts _ _ u1 u2 ho hv h1 h2 rfl
    · cases h
  · cases h

theorem evOpsX_ok (hE : EnvOK P E) (hH : HOK P H) {ops : Array Oper} {df : Bool} {ro : Option Nat} (hro : df = true → ro = none) {Q : Exit → Act → World → Prop} {e : Ex} {s' : S} (hQ : Post D0 β0 o0 w0 nt e s' Q) :
    ∀ (l : List Oper) (i : Nat) (s : S) (a : Act) (w : World), (∀ k : Nat, k < l.length → ops[i + k]? = l[k]?) → evOpsX E H frz nt df ops l s = some (e, s') → Sim D0 β0 o0 w0 nt s a w →
      wpOpsIn (FW ro) 0 P ops Q (List.range' i l.length) a w
  | [], i, s, a, w, _, h, hs => by
    simp only [evOpsX, Option.some.injEq, Prod.mk.injEq] at h
    obtain ⟨rfl, rfl⟩ := h
    exact hQ.1 a w rfl hs
  | o :: l, i, s, a, w, hl, h, hs => by
    have hi : ops[i]? = some o := by have := hl 0 (by simp); simpa using this
    have hl' : ∀ k : Nat, k < l.length → ops[i + 1 + k]? = l[k]? := fun k hk => by
      have := hl (k + 1) (by simp; omega)
      rw [show i + 1 + k = i + (k + 1) by omega]; simpa using this
    obtain ⟨D, β, h1, h2, h3⟩ := hs
    simp only [List.length_cons, List.range'_succ, wpOpsIn, hi]
    unfold evOpsX at h
    cases hg : guardA ops (rd s.tm) o with
    | none => rw [hg] at h; cases h
    | some b =>
      rw [hg] at h
      rw [guard_ok (fun x => h2.rd x) hg]
      cases b with
      | true =>
        simp only [if_true] at h ⊢
        split at h
        · cases df with
          | false => cases h
          | true =>
            cases hdf : deferOf (rd s.tm) o.op with
            | none => rw [hdf] at h; cases h
            | some p =>
              obtain ⟨g, args⟩ := p
              rw [hdf] at h
              cases hd : o.dst with
              | some t => rw [hd] at h; cases h
              | none =>
                rw [hd] at h
                have := hro rfl
                subst this
                refine defer_ok hdf hd (fun x => h2.rd x) (fun d hd => ?_)
                exact evOpsX_ok hE hH hro hQ l (i + 1) _ _ _ hl' h ⟨D, β, h1, h2, hd, h3⟩
        · split at h
          · rename_i v ob hv
            split at h
            · rename_i x
              simp only [Option.some.injEq, Prod.mk.injEq] at h
              obtain ⟨rfl, rfl⟩ := h
              refine way_does hE hH (way_of hv) ro D β a w _ Q h1.heap (fun x => h2.rd x) (fun u w' D' β' hst hrep => by cases hrep) (fun y u w' D' β' hy hst hrep => ?_)
              cases hy
              exact hQ.2 x rfl a w' u D' β' (h1.trans hst) (h2.mono hst.dsub hst.bext) (h3.mono hst.dsub hst.bext) hrep
            · rename_i hnp
              split at h
              · rename_i tm htm
                refine way_does hE hH (way_of hv) ro D β a w _ Q h1.heap (fun x => h2.rd x) (fun u w' D' β' hst hrep => ?_) (fun y u w' D' β' hy hst hrep => absurd hy (hnp y))
                exact evOpsX_ok hE hH hro hQ l (i + 1) _ _ _ hl' h (Sim.put h1 h2 h3 hst hrep htm)
              · cases h
          · cases h
      | false =>
        simp only [Bool.false_eq_true, if_false] at h ⊢
        refine ⟨fun _ _ => trivial, ?_⟩
        split at h
        · rename_i tm htm
          exact evOpsX_ok hE hH hro hQ l (i + 1) _ _ _ hl' h (Sim.put h1 h2 h3 (Step.refl h1.heap) (.tup rfl (fun j c v hc _ => by simp at hc)) htm)
        · cases h

end
end Go.Av

/-
  The abstract layer, part ZA: calls of a program's functions.
-/
import Derived.Test.YtkehiddekhlfaaaZ
noncomputable section
namespace Go.Av
open Go

/-- A function of the runtime's: what its call answers. -/
def ExtIs (P : Program) (f : FuncId) : Nat → Prop
  | 0 => ∀ x w, (callFunc f #[x]).run P w = .ok (.value x) w
  | t + 1 => ∃ ps, ∀ x w, (callFunc f #[x]).run P w = ((Extern.BytealgMakeNoZero.makeNoZero ps #[t] #[x]).run P w).andThen fun v w' => .ok (.value v) w'
def FnIs (P : Program) (f : FuncId) (i : FnI) : Prop :=
  match xk i.frz with
  | some k => Nat.ble i.np i.nt = false ∧ ExtIs P f k
  | none => ∃ fn, P.funcs[f]? = some fn ∧ fn.body = some i.body ∧ fn.ntmps = i.nt ∧ fn.results = i.results ∧ (fn.name == "runtime.NumGoroutine") = false
/-- What is told of functions is so. -/
def FnsOK (P : Program) (F : FuncId → Option FnI) : Prop :=
  ∀ f i, F f = some i → FnIs P f i

theorem fnIs_of {P : Program} {f : FuncId} {i : FnI} (h : FnIs P f i) (hb : Nat.ble i.np i.nt = true) :
    ∃ fn, P.funcs[f]? = some fn ∧ fn.body = some i.body ∧ fn.ntmps = i.nt ∧ fn.results = i.results ∧ (fn.name == "runtime.NumGoroutine") = false := by
  unfold FnIs at h
  split at h
  · rw [hb] at h; cases h.1
  · exact h
theorem reps1 {D : DMap} {β : List Bi} {x : AV} {vs : Array Value} (h : Reps D β [x] vs) : ∃ v, vs = #[v] ∧ RepA D β x v := by
  obtain ⟨l⟩ := vs
  obtain ⟨h1, h2⟩ := h
  match l, h1 with
  | [v], _ => exact ⟨v, rfl, h2 0 x v rfl rfl⟩
theorem evExt_ok {P : Program} {E : PT Ty} (hE : TyOK P E) {f : FuncId} {k : Nat} (h : ExtIs P f k) {args : List AV} {objs objs' : List Ob} {r : AV} (he : evExt E k args objs = some (r, objs')) : AExt P f args objs r objs' := by
  intro D β w vs hp hr
  unfold evExt at he
  split at he
  · simp only [Option.some.injEq, Prod.mk.injEq] at he
    obtain ⟨rfl, rfl⟩ := he
    obtain ⟨v, rfl, hv⟩ := reps1 hr
    exact ⟨v, w, D, β, h v w, Step.refl hp, hv⟩
  · split at he
    · rename_i hm
      simp only [Option.some.injEq, Prod.mk.injEq] at he
      obtain ⟨rfl, rfl⟩ := he
      obtain ⟨v, rfl, hv⟩ := reps1 hr
      obtain ⟨ps, hps⟩ := h
      obtain ⟨u, w', D', β', e1, e2, e3⟩ := makeNoZero_ok hE hp ps _ hv _ _ _ hm rfl
      exact ⟨u, w', D', β', by rw [hps, e1]; rfl, e2, e3⟩
    · cases he
  · cases he
theorem evOpn_ok {P : Program} {E : PT Ty} (hE : TyOK P E) {F : FuncId → Option FnI} (hF : FnsOK P F) {f : FuncId} {args : List AV} {objs objs' : List Ob} {r : AV} {alt : Option (AV × List Ob)}
    (ha : alt = some (r, objs') → ACall P f args objs r objs') (h : evOpn E F f args objs alt = some (r, objs')) : ACall P f args objs r objs' ∨ AExt P f args objs r objs' := by
  unfold evOpn at h
  split at h
  · rename_i i hi
    split at h
    · rename_i k hk
      have := hF f i hi
      unfold FnIs at this
      rw [hk] at this
      exact .inr (evExt_ok hE this.2 h)
    · exact .inl (ha h)
  · cases h

section
variable {P : Program} {E : PT Ty} {H : Hd} {D0 : DMap} {β0 : List Bi} {o0 : List Ob} {w0 : World}

/-- One result, read. -/
def resOf (tmps : Array Value) : ResultVar → Sem Value
  | .tmp t => pure (tmps.getD t undef)
  | .cell a t => do loadVar t (← asAddr (tmps.getD a undef))

theorem evRes_ok (hE : EnvOK P E) {D : DMap} {β : List Bi} {nt : Nat} {s : S} {tmps : Array Value} {w : World} (hp : Heap D β s.objs w) (ht : TmOK D β nt s.tm tmps) {r : ResultVar} {av : AV} (h : evRes E s r = some av) :
    ∃ v, (resOf tmps r).run P w = .ok v w ∧ RepA D β av v := by
  cases r with
  | tmp t =>
    simp only [evRes, Option.some.injEq] at h
    subst h
    exact ⟨_, rfl, ht.2 t⟩
  | cell a t =>
    simp only [evRes, Option.map_eq_some_iff] at h
    obtain ⟨⟨av', o', c⟩, h, rfl⟩ := h
    have hrep : RepA D β (rd s.tm (.tmp a)) (tmps.getD a undef) := ht.2 a
    have hsame := (rf_load E t (rd s.tm (.tmp a))) s.objs s.objs (fun _ _ => rfl) _ _ _ h
    obtain ⟨rfl, _⟩ := hsame
    cases hy : E.get? t with
    | none => unfold loadR at h; rw [hy] at h; cases h
    | some y =>
      have hc : c = true := by
        unfold loadR at h
        rw [hy] at h
        revert h
        cases rd s.tm (.tmp a) with
        | d x =>
          cases x with
          | ep cs =>
            simp only []
            cases isAggT y.desc with
            | true => simp only []; split <;> intro h <;> simp [pureR] at h; exact h.2
            | false => cases cs <;> intro h <;> simp [pureR] at h; exact h.2
          | _ => intro h; cases h
        | bp i off =>
          simp only []
          cases s.objs[i]? with
          | none => intro h; cases h
          | some ob =>
            simp only []
            cases obCells ob with
            | none => intro h; cases h
            | some cs =>
              simp only []
              cases isAggT y.desc with
              | true => simp only []; split <;> intro h <;> simp [pureR] at h; exact h.2
              | false => simp only []; cases cs[off]? <;> intro h <;> simp [pureR] at h; exact h.2
        | _ => intro h; cases h
      obtain ⟨v, h1, h3⟩ := (load_val (P := P) hE.ty hp t hrep av' s.objs c h).2 hc
      generalize hu : tmps.getD a undef = u at h1 hrep
      cases u with
      | pointer p =>
        cases p with
        | none => simp [Instr.loadAt, Instr.sureAddr, stuck, Sem.run_bind, Sem.run, Result.andThen] at h1
        | some ad =>
          exact ⟨v, by simpa [Instr.loadAt, Instr.sureAddr, resOf, asAddr, hu] using h1, h3⟩
      | _ => simp [Instr.loadAt, Instr.sureAddr, stuck, Sem.run_bind, Sem.run, Result.andThen] at h1

theorem evResL_ok (hE : EnvOK P E) {D : DMap} {β : List Bi} {nt : Nat} {s : S} {tmps : Array Value} {w : World} (hp : Heap D β s.objs w) (ht : TmOK D β nt s.tm tmps) : ∀ (rs : List ResultVar) (avs : List AV), evResL E s rs = some avs →
    ∃ vs : List Value, (rs.mapM (resOf tmps)).run P w = .ok vs w ∧ vs.length = avs.length ∧ ∀ (j : Nat) c v, avs[j]? = some c → vs[j]? = some v → RepA D β c v
  | [], avs, h => by
    simp only [evResL, Option.some.injEq] at h
    subst h
    exact ⟨[], by simp, rfl, fun j c v hc => by simp at hc⟩
  | r :: rs, avs, h => by
    simp only [evResL] at h
    split at h
    · rename_i v vs h1 h2
      simp only [Option.some.injEq] at h
      subst h
      obtain ⟨u, hu, hr⟩ := evRes_ok hE hp ht h1
      obtain ⟨us, hus, hl, hrs⟩ := evResL_ok hE hp ht rs vs h2
      refine ⟨u :: us, ?_, by simp [hl], fun j c x hc hx => ?_⟩
      · simp only [List.mapM_cons, Sem.run_bind, hu, Result.andThen_ok, hus, Sem.run_pure]
      · cases j with
        | zero => simp at hc hx; subst hc hx; exact hr
        | succ j => exact hrs j c x (by simpa using hc) (by simpa using hx)
    · cases h

theorem results_ok (hE : EnvOK P E) {D : DMap} {β : List Bi} {nt : Nat} {s : S} {fn : Func} {tmps : Array Value} {w : World} (hp : Heap D β s.objs w) (ht : TmOK D β nt s.tm tmps) {av : AV} (h : evResults E s fn.results = some av) :
    ∃ v, (results fn tmps).run P w = .ok v w ∧ RepA D β av v := by
  have hres : results fn tmps = (do let vs ← fn.results.mapM (resOf tmps); pure (if h : vs.size = 1 then vs[0] else .tuple vs)) := by
    unfold results
    have : (fun r : ResultVar => match r with | .tmp t => (pure (tmps.getD t undef) : Sem Value) | .cell a t => do loadVar t (← asAddr (tmps.getD a undef))) = resOf tmps := by
      funext r; cases r <;> rfl
    rw [← this]
    rfl
  unfold evResults at h
  split at h
  · rename_i v h1
    simp only [Option.some.injEq] at h
    subst h
    obtain ⟨us, hus, hl, hrs⟩ := evResL_ok hE hp ht _ _ h1
    match us, hl with
    | [u], _ =>
      refine ⟨u, ?_, hrs 0 _ u rfl rfl⟩
      rw [hres, Array.mapM_eq_mapM_toList]
      simp [hus]
  · rename_i l hne h1
    simp only [Option.some.injEq] at h
    subst h
    obtain ⟨us, hus, hl, hrs⟩ := evResL_ok hE hp ht _ _ h1
    have hn : us.length ≠ 1 := fun e => by
      match l, hl.symm.trans e, hne with
      | [x], _, hne => exact hne x rfl
    refine ⟨.tuple us.toArray, ?_, .tup (by simpa using hl) (fun j c v hc hv => hrs j c v hc (by simpa using hv))⟩
    rw [hres, Array.mapM_eq_mapM_toList]
    simp [hus, hn]
  · cases h

/-! ### A function that is entered as a deferred call -/
/-- The mode of the frame below. -/
def MdOK (D : DMap) : Md → FrameMode → Prop
  | .ret, u => u = .returning
  | .pan x, u => ∃ v, u = .panicking [{ v := v, recovered := false }] ∧ RepD D x v
  | .caught x, u => ∃ v, u = .panicking [{ v := v, recovered := true }] ∧ RepD D x v
theorem MdOK.mono {D D' : DMap} (hs : ∀ ad v, D ad = some v → D' ad = some v) {m : Md} {u : FrameMode} (h : MdOK D m u) : MdOK D' m u := by
  cases m with
  | ret => exact h
  | pan x => obtain ⟨v, h1, h2⟩ := h; exact ⟨v, h1, h2.mono hs⟩
  | caught x => obtain ⟨v, h1, h2⟩ := h; exact ⟨v, h1, h2.mono hs⟩

def SimS (D0 : DMap) (β0 : List Bi) (o0 : List Ob) (w0 : World) (nt : Nat) (s : S) (m : Md) (a : Act) (u : FrameMode) (w : World) : Prop :=
  ∃ D β, Step D0 β0 o0 w0 D β s.objs w ∧ TmOK D β nt s.tm a.tmps ∧ DlOK D β s.dl a.defers ∧ MdOK D m u

theorem SimS.sim {nt : Nat} {s : S} {m : Md} {a : Act} {u : FrameMode} {w : World} (h : SimS D0 β0 o0 w0 nt s m a u w) : Sim D0 β0 o0 w0 nt s a w := by
  obtain ⟨D, β, h1, h2, h3, _⟩ := h; exact ⟨D, β, h1, h2, h3⟩

theorem SimS.put {nt : Nat} {s : S} {m' : Md} {u' : FrameMode} {a : Act} {w w' : World} {D D' : DMap} {β β' : List Bi} {objs' : List Ob} {tm' : PT AV} {dst : Option Tmp} {av : AV} {v : Value}
    (h1 : Step D0 β0 o0 w0 D β s.objs w) (h2 : TmOK D β nt s.tm a.tmps) (h3 : DlOK D β s.dl a.defers) (hs : Step D β s.objs w D' β' objs' w') (hv : RepA D' β' av v)
    (ht : setD nt s.tm dst av = some tm') (hm : MdOK D' m' u') : SimS D0 β0 o0 w0 nt ⟨tm', objs', s.dl⟩ m' (a.put dst v) u' w' :=
  ⟨D', β', h1.trans hs, (h2.mono hs.dsub hs.bext).put hv ht, by
    have := h3.mono hs.dsub hs.bext
    cases dst <;> exact this, hm⟩

theorem opS {o : Oper} {ρ : Operand → Value} {w : World} {X : Result Next → Prop} {v : Value} {w' : World} (h : OpRun P ρ o w v w') (h1 : X (.ok (.value v) w')) (h2 : v = undef → X (.ok .skip w')) : X ((execOp ρ o).run P w) := by
  rcases h with h | ⟨h, rfl⟩
  · rw [h]; exact h1
  · rw [h]; exact h2 rfl

theorem evOpsS_ok (hE : EnvOK P E) {nt : Nat} {ops : Array Oper} {Q : Exit → Act → List Frame → World → Prop} {s' : S} {m' : Md} {c₀ : Frame} {cs : List Frame}
    (hQ : ∀ a u w, SimS D0 β0 o0 w0 nt s' m' a u w → Q .normal a ({ c₀ with mode := u } :: cs) w) :
    ∀ (l : List Oper) (i : Nat) (s : S) (m : Md) (a : Act) (u : FrameMode) (w : World), (∀ k : Nat, k < l.length → ops[i + k]? = l[k]?) → evOpsS E nt ops l s m = some (s', m') → SimS D0 β0 o0 w0 nt s m a u w →
      wpOpsSIn (FW none) 0 P ops Q (List.range' i l.length) a ({ c₀ with mode := u } :: cs) w
  | [], i, s, m, a, u, w, _, h, hs => by
    simp only [evOpsS, Option.some.injEq, Prod.mk.injEq] at h
    obtain ⟨rfl, rfl⟩ := h
    exact hQ a u w hs
  | o :: l, i, s, m, a, u, w, hl, h, hs => by
    have hi : ops[i]? = some o := by have := hl 0 (by simp); simpa using this
    have hl' : ∀ k : Nat, k < l.length → ops[i + 1 + k]? = l[k]? := fun k hk => by
      have := hl (k + 1) (by simp; omega)
      rw [show i + 1 + k = i + (k + 1) by omega]; simpa using this
    obtain ⟨D, β, h1, h2, h3, h4⟩ := hs
    simp only [List.length_cons, List.range'_succ, wpOpsSIn, hi]
    refine ⟨fun _ _ => trivial, ?_⟩
    unfold evOpsS at h
    cases hg : guardA ops (rd s.tm) o with
    | none => rw [hg] at h; cases h
    | some b =>
      rw [hg] at h
      rw [guard_ok (fun x => h2.rd x) hg]
      cases b with
      | false => cases h
      | true =>
        simp only [if_true] at h ⊢
        split at h
        · rename_i hrec
          have hrun : (execOp a.eval o).run P w = .ok .recover w := by
            unfold isRecover at hrec
            split at hrec
            · rename_i as ts ho
              simp [execOp, ho, resolve, Deferred.ofValue, invoke, builtin]
            · cases hrec
          rw [hrun]
          simp only
          split at h
          · rename_i x
            split at h
            · rename_i tm htm
              obtain ⟨v, rfl, hv⟩ := h4
              have hr : recoverD ({ c₀ with mode := .panicking [{ v := v, recovered := false }] } :: cs) = some (v, { c₀ with mode := .panicking [{ v := v, recovered := true }] } :: cs) := rfl
              rw [hr]
              simp only
              exact evOpsS_ok hE hQ l (i + 1) _ _ _ (.panicking [{ v := v, recovered := true }]) w hl' h (SimS.put h1 h2 h3 (Step.refl h1.heap) (.d hv) htm ⟨v, rfl, hv⟩)
            · cases h
          · rename_i hm
            split at h
            · rename_i tm htm
              have hr : recoverD ({ c₀ with mode := u } :: cs) = none := by
                cases m with
                | ret => simp only [MdOK] at h4; subst h4; rfl
                | pan x => exact absurd rfl (hm x)
                | caught x => obtain ⟨v, rfl, _⟩ := h4; rfl
              rw [hr]
              simp only
              exact evOpsS_ok hE hQ l (i + 1) _ _ _ u w hl' h (SimS.put h1 h2 h3 (Step.refl h1.heap) (.d .niliface) htm h4)
            · cases h
        · split at h
          · rename_i v objs' hop
            split at h
            · rename_i tm htm
              obtain ⟨u1, w', D', β', hrun, hst, hrep⟩ := op_ok hE h1.heap (fun x => h2.rd x) o hop rfl
              have next : wpOpsSIn (FW none) 0 P ops Q (List.range' (i + 1) l.length) (a.put o.dst u1) ({ c₀ with mode := u } :: cs) w' :=
                evOpsS_ok hE hQ l (i + 1) _ _ _ u w' hl' h (SimS.put h1 h2 h3 hst hrep htm (h4.mono hst.dsub))
              exact opS (X := fun r => match r with
                | .ok .recover w' =>
                  match recoverD ({ c₀ with mode := u } :: cs) with
                  | some (v, cs') => wpOpsSIn (FW none) 0 P ops Q (List.range' (i + 1) l.length) (a.put o.dst v) cs' w'
                  | none => wpOpsSIn (FW none) 0 P ops Q (List.range' (i + 1) l.length) (a.put o.dst .nilIface) ({ c₀ with mode := u } :: cs) w'
                | .ok (.value v) w' => wpOpsSIn (FW none) 0 P ops Q (List.range' (i + 1) l.length) (a.put o.dst v) ({ c₀ with mode := u } :: cs) w'
                | .ok .skip w' => wpOpsSIn (FW none) 0 P ops Q (List.range' (i + 1) l.length) (a.put o.dst undef) ({ c₀ with mode := u } :: cs) w'
                | .halt (.panic v) w' => Q (.panic [{ v, recovered := false }]) a ({ c₀ with mode := u } :: cs) w'
                | _ => False) hrun next (fun e => by subst e; exact next)
            · cases h
          · cases h

theorem evS_ok (hE : EnvOK P E) (hH : HOK P H) (hm : P.follows .mixedOrders = true) {frz : List Nat} {nt : Nat} {c₀ : Frame} {cs : List Frame} : ∀ (n : Nat) (c : Code) (s : S) (m : Md) (e : Ex) (s' : S) (m' : Md), evS E H frz nt n c s m = some (e, s', m') →
    isPanE e = false → ∀ (Q : Exit → Act → List Frame → World → Prop) (a : Act) (u : FrameMode) (w : World), (∀ a u w, SimS D0 β0 o0 w0 nt s' m' a u w → Q (exOf e) a ({ c₀ with mode := u } :: cs) w) → SimS D0 β0 o0 w0 nt s m a u w →
      c.wpSIn (FW none) 0 P Q a ({ c₀ with mode := u } :: cs) w := by
  have plain : ∀ (n : Nat) (c : Code) (s : S) (m : Md) (e : Ex) (s' : S), evCode E H frz nt none n c s = some (e, s') → isPanE e = false → ∀ (Q : Exit → Act → List Frame → World → Prop) (a : Act) (u : FrameMode) (w : World),
      (∀ a u w, SimS D0 β0 o0 w0 nt s' m a u w → Q (exOf e) a ({ c₀ with mode := u } :: cs) w) → SimS D0 β0 o0 w0 nt s m a u w → c.wpSIn (FW none) 0 P Q a ({ c₀ with mode := u } :: cs) w := by
    intro n c s m e s' h hp Q a u w hQ hs
    obtain ⟨D, β, h1, h2, h3, h4⟩ := hs
    refine wpSIn_of_wpIn rfl (evCode_ok hE hH hm (β0 := β) (D0 := D) (o0 := s.objs) (w0 := w) (ro' := none) (ro := none) rfl n c s e s' h _ a w ⟨fun a' w' _ hs' => ?_, fun x hx => by rw [hx] at hp; cases hp⟩ ⟨D, β, Step.refl h1.heap, h2, h3⟩)
    obtain ⟨D', β', k1, k2, k3⟩ := hs'
    exact hQ a' u w' ⟨D', β', h1.trans k1, k2, k3, h4.mono k1.dsub⟩
  intro n
  induction n with
  | zero => intro c s m e s' m' h; cases h
  | succ n ih =>
    intro c s m e s' m' h hp Q a u w hQ hs
    have deft : (evCode E H frz nt none n c s).map (fun p => (p.1, p.2, m)) = some (e, s', m') → c.wpSIn (FW none) 0 P Q a ({ c₀ with mode := u } :: cs) w := by
      intro hd
      simp only [Option.map_eq_some_iff, Prod.mk.injEq] at hd
      obtain ⟨⟨e1, s1⟩, hd, rfl, rfl, rfl⟩ := hd
      exact plain n c s m e1 s1 hd hp Q a u w hQ hs
    cases c with
    | seq x y =>
      refine wpSIn_seq ?_
      simp only [evS] at h
      split at h
      · rename_i s1 m1 h1
        exact ih x s m _ s1 m1 h1 rfl _ a u w (fun a u w hs => ih y s1 m1 e s' m' h hp Q a u w hQ hs) hs
      · rename_i hne
        refine ih x s m e s' m' h hp _ a u w (fun a u w hs => ?_) hs
        cases e with
        | normal => exact absurd h (hne s' m')
        | _ => exact hQ a u w hs
    | cond c x y =>
      simp only [evS] at h
      split at h
      · rename_i hc
        exact wpSIn_cond (t := true) (hs.sim.cond hc) (ih x s m e s' m' h hp Q a u w hQ hs)
      · rename_i hc
        exact wpSIn_cond (t := false) (hs.sim.cond hc) (ih y s m e s' m' h hp Q a u w hQ hs)
      · cases h
    | region id ops draw =>
      simp only [evS] at h
      split at h
      · simp only [Option.map_eq_some_iff, Prod.mk.injEq] at h
        obtain ⟨⟨s1, m1⟩, h, rfl, rfl, rfl⟩ := h
        refine wpSIn_region ?_
        have := evOpsS_ok hE (c₀ := c₀) (cs := cs) (Q := Q) hQ ops.toList 0 s m a u w (fun k _ => by simp) h hs
        rw [List.range_eq_range']
        simpa using this
      · exact deft h
    | skip => exact deft h
    | label l => exact deft h
    | exit id => exact deft h
    | ret => exact deft h
    | block id b => exact deft h
    | loop b => exact deft h
    | scope b => exact deft h
    | rangeFunc f ps as b => exact deft h
    | goto l => exact deft h
    | refuse w => exact deft h

theorem initTm_ok {D : DMap} {β : List Bi} {nt : Nat} : ∀ (args : List AV) (vs : List Value) (i : Nat) (tm : PT AV) (tmps : Array Value), args.length = vs.length → (∀ (j : Nat) c v, args[j]? = some c → vs[j]? = some v → RepA D β c v) →
    i + args.length ≤ nt → (∀ (j : Nat) v, vs[j]? = some v → tmps[i + j]? = some v) → TmOK D β nt tm tmps → TmOK D β nt (initTm i args tm) tmps
  | [], _, i, tm, tmps, _, _, _, _, h => h
  | c :: args, [], i, tm, tmps, hl, _, _, _, _ => by simp at hl
  | c :: args, v :: vs, i, tm, tmps, hl, hr, hn, hv, h => by
    have h0 := hv 0 v rfl
    have h5 : setD nt tm (some i) c = some (tm.set i c) := by
      simp [setD, show Nat.blt i nt = true by rw [Nat.blt_eq]; simp at hn; omega]
    have h6 := TmOK.put (a := { tmps := tmps, defers := [] }) h (hr 0 c v rfl rfl) h5
    have hsame : tmps.setIfInBounds i v = tmps := by
      apply Array.ext_getElem?
      intro k
      by_cases e : i = k
      · subst e
        simp only [Nat.add_zero] at h0
        have : i < tmps.size := (Array.getElem?_eq_some_iff.1 h0).1
        simp [this, h0]
        exact (Array.getElem?_eq_some_iff.1 h0).2.symm
      · rw [Array.getElem?_setIfInBounds_ne e]
    simp only [Act.put, hsame] at h6
    exact initTm_ok args vs (i + 1) _ tmps (by simpa using hl) (fun j c v hc hv => hr (j + 1) c v (by simpa using hc) (by simpa using hv)) (by simp at hn; omega)
      (fun j u hu => by have := hv (j + 1) u (by simpa using hu); rw [show i + 1 + j = i + (j + 1) by omega]; exact this) h6

theorem evDefer_ok (hE : EnvOK P E) (hH : HOK P H) (hm : P.follows .mixedOrders = true) {F : FuncId → Option FnI} (hF : FnsOK P F) {n : Nat} {f : FuncId} {args : List AV} {m : Option DV} {objs : List Ob} {m' : Option DV} {objs' : List Ob}
    (h : evDefer E F H n f args m objs = some (m', objs')) : ADefer P f args m objs m' objs' := by
  unfold evDefer at h
  split at h
  · rename_i i hi
    obtain ⟨fn, h1, h2, h3, h4, h5⟩ := fnIs_of (hF f i hi) (by
      cases hb : Nat.ble i.np i.nt with
      | true => rfl
      | false => rw [hb, Bool.and_false] at h; cases h)
    refine ⟨enters_of h1 h5 h2, fun D β w vs u hp hr hu => ?_⟩
    split at h
    · rename_i hc
      simp only [Bool.and_eq_true] at hc
      have hlen := Nat.eq_of_beq_eq_true hc.1
      have hle := Nat.le_of_ble_eq_true hc.2
      split at h
      · rename_i e s m1 hev
        split at h
        · rename_i r hfin hdl hres
          refine callsDIn_of_wpSIn (F := FW none) h1 h2 trivial (fun c₀ cs hc0 => ?_)
          have hsz : (vs ++ Array.replicate (fn.ntmps - vs.size) undef).size = i.nt := by simp [h3, hr.1]; omega
          have hmd : MdOK D (mdOf m) u := by cases m <;> exact hu
          have sim0 : SimS D β objs w i.nt ⟨initTm 0 args .nil, objs, []⟩ (mdOf m) { tmps := vs ++ Array.replicate (fn.ntmps - vs.size) undef, defers := [] } u w := by
            refine ⟨D, β, Step.refl hp, initTm_ok args vs.toList 0 .nil _ (by simp [hr.1]) (fun j c v hc hv => hr.2 j c v hc (by simpa using hv)) (by omega) (fun j v hv => ?_) ⟨hsz, fun t => .d .any⟩, trivial, hmd⟩
            have hv : vs[j]? = some v := by simpa using hv
            rw [Nat.zero_add, Array.getElem?_append_left (Array.getElem?_eq_some_iff.1 hv).1]; exact hv
          have hc1 : c₀ = { c₀ with mode := u } := by rw [← hc0]
          have hpe : isPanE e = false := by cases e <;> first | rfl | cases hfin
          have key : ∀ (a : Act) (u' : FrameMode) (w' : World), SimS D β objs w i.nt s m1 a u' w' → a.defers = [] ∧ ∃ u'', ({ c₀ with mode := u' } : Frame) :: cs = { c₀ with mode := u'' } :: cs ∧ ∃ v, (results fn a.tmps).run P w' = .ok v w' ∧
              ∃ v1 D' β', Ending.returned v = .returned v1 ∧ Step D β objs w D' β' objs' w' ∧ MdIs D' m' (settle u'') := by
            intro a u' w' hs
            obtain ⟨D', β', q1, q2, q3, q4⟩ := hs
            obtain ⟨v, hv, _⟩ := results_ok hE (s := s) (fn := fn) q1.heap q2 (by rw [h4]; exact hres)
            refine ⟨?_, u', rfl, v, hv, v, D', β', rfl, ?_⟩
            · rw [hdl] at q3
              cases hds : a.defers with
              | nil => rfl
              | cons d ds => rw [hds] at q3; exact q3.elim
            · cases m1 with
              | ret =>
                simp only [Option.some.injEq, Prod.mk.injEq] at h
                obtain ⟨rfl, rfl⟩ := h
                simp only [MdOK] at q4; subst q4
                exact ⟨q1, rfl⟩
              | pan x =>
                simp only [Option.some.injEq, Prod.mk.injEq] at h
                obtain ⟨rfl, rfl⟩ := h
                obtain ⟨v, rfl, hv⟩ := q4
                exact ⟨q1, v, rfl, hv⟩
              | caught x =>
                simp only [Option.some.injEq, Prod.mk.injEq] at h
                obtain ⟨rfl, rfl⟩ := h
                obtain ⟨v, rfl, hv⟩ := q4
                exact ⟨q1, rfl⟩
          rw [hc1]
          refine evS_ok hE hH hm n i.body _ _ e s m1 hev hpe _ _ u w (fun a u' w' hs => ?_) sim0
          rw [← hc1]
          cases e with
          | normal => exact key a u' w' hs
          | ret => exact key a u' w' hs
          | _ => cases hfin
        · cases h
      · cases h
    · cases h
  · cases h

/-- The function's end. -/
theorem leave_ok (hH : HOK P H) {fn : Func} {tmps : Array Value} {R : Ending → World → Prop} {nt : Nat} {tm : PT AV} {m' : Option DV} {objs' : List Ob}
    (hR : m' = none → ∀ D β w, Step D0 β0 o0 w0 D β objs' w → TmOK D β nt tm tmps → ∃ v, (results fn tmps).run P w = .ok v w ∧ R (.returned v) w)
    (hP : ∀ x, m' = some x → ∀ D β w v, Step D0 β0 o0 w0 D β objs' w → RepD D x v → R (.panicked [{ v := v, recovered := false }]) w) :
    ∀ (dl : List Dl) (ds : List Deferred) (m : Option DV) (u : FrameMode) (objs : List Ob) (w : World) (D : DMap) (β : List Bi), evLeave H dl m objs = some (m', objs') → DlOK D β dl ds → MdIs D m u → Step D0 β0 o0 w0 D β objs w → TmOK D β nt tm tmps →
      LeavesInM (FW none) 0 P fn tmps R ds u w
  | [], [], m, u, objs, w, D, β, hsh, _, hu, hs, ht => by
    simp only [evLeave, Option.some.injEq, Prod.mk.injEq] at hsh
    obtain ⟨rfl, rfl⟩ := hsh
    cases m with
    | none => simp only [MdIs] at hu; subst hu; exact hR rfl D β w hs ht
    | some x => obtain ⟨v, rfl, hv⟩ := hu; exact hP x rfl D β w v hs hv
  | .mark i :: dl, d :: ds, m, u, objs, w, D, β, hsh, hdl, hu, hs, ht => by
    obtain ⟨⟨bi, hb, htar⟩, hdl⟩ := hdl
    simp only [evLeave] at hsh
    split at hsh
    · rename_i ho
      obtain ⟨h1, h2, h3⟩ := hs.heap.hold i bi _ hb ho
      have hbs : bi.blk < w.heap.size := lt_of_getElem? h1
      have hst : Step D β objs w D β (objs.set i (.raw (.deferred none))) (w.putObj bi.blk (.deferred none)) :=
        Step.put (o' := .deferred none) hs.heap hb ho rfl (fun b' hb' => by simp [ownOf] at hb'; exact hb'.symm) h3 ⟨putB_eq hbs, by simp, h3⟩
      refine ⟨?_, .inl ⟨bi.blk, _, htar, run_takeDeferred h1, leave_ok hH hR hP dl ds m u _ _ D β hsh hdl hu (hs.trans hst) ht⟩⟩
      cases m with
      | none => simp only [MdIs] at hu; subst hu; simp
      | some x => obtain ⟨v, rfl, hv⟩ := hu; simp
    · cases hsh
  | .call g args :: dl, d :: ds, m, u, objs, w, D, β, hsh, hdl, hu, hs, ht => by
    obtain ⟨⟨cap, htar, hreps⟩, hdl⟩ := hdl
    simp only [evLeave] at hsh
    split at hsh
    · rename_i m1 objs1 hdf
      have hA := hH.dfr _ _ _ _ _ _ hdf
      have hne : u ≠ .run := by
        cases m with
        | none => simp only [MdIs] at hu; subst hu; simp
        | some x => obtain ⟨v, rfl, hv⟩ := hu; simp
      refine ⟨hne, .inr ⟨fun h => by simp at h, _, cap, g, d.args ++ cap, htar, ?_, fun _ _ => trivial, ?_⟩⟩
      · rw [htar]; exact hA.1 _ _
      · refine CallsDIn.mono (F := FW none) (n := 0) (hA.2 D β w _ u hs.heap hreps hu) (fun e u' w' he => ?_)
        obtain ⟨v, D', β', rfl, hst, hmd⟩ := he
        exact leave_ok hH hR hP dl ds m1 _ objs1 w' D' β' hsh (hdl.mono hst.dsub hst.bext) hmd (hs.trans hst) (ht.mono hst.dsub hst.bext)
    · cases hsh
  | [], _ :: _, _, _, _, _, _, _, _, h, _, _, _ => h.elim
  | .mark _ :: _, [], _, _, _, _, _, _, _, h, _, _, _ => h.elim
  | .call _ _ :: _, [], _, _, _, _, _, _, _, h, _, _, _ => h.elim

theorem evCall_ok (hE : EnvOK P E) (hH : HOK P H) (hm : P.follows .mixedOrders = true) {F : FuncId → Option FnI} (hF : FnsOK P F) {n : Nat} {f : FuncId} {args : List AV} {objs objs' : List Ob} {r : AV}
    (h : evCall E F H n f args objs = some (r, objs')) : ACall P f args objs r objs' := by
  unfold evCall at h
  split at h
  · rename_i i hi
    obtain ⟨fn, h1, h2, h3, h4, h5⟩ := fnIs_of (hF f i hi) (by
      cases hb : Nat.ble i.np i.nt with
      | true => rfl
      | false => rw [hb, Bool.and_false] at h; cases h)
    refine ⟨enters_of h1 h5 h2, fun D β w vs hp hr => ?_⟩
    split at h
    · rename_i hc
      simp only [Bool.and_eq_true] at hc
      have hlen := Nat.eq_of_beq_eq_true hc.1
      have hle := Nat.le_of_ble_eq_true hc.2
      split at h
      · rename_i e s hev
        split at h
        · rename_i m hfin
          refine callsIn_of_wp_marks (F := FW none) h1 h2 trivial ?_
          have hsz : (vs ++ Array.replicate (fn.ntmps - vs.size) undef).size = i.nt := by simp [h3, hr.1]; omega
          have sim0 : Sim D β objs w i.nt ⟨initTm 0 args .nil, objs, []⟩ { tmps := vs ++ Array.replicate (fn.ntmps - vs.size) undef, defers := [] } w := by
            refine ⟨D, β, Step.refl hp, initTm_ok args vs.toList 0 .nil _ (by simp [hr.1]) (fun j c v hc hv => hr.2 j c v hc (by simpa using hv)) (by omega) (fun j v hv => ?_) ⟨hsz, fun t => .d .any⟩, trivial⟩
            have hv : vs[j]? = some v := by simpa using hv
            rw [Nat.zero_add, Array.getElem?_append_left (Array.getElem?_eq_some_iff.1 hv).1]; exact hv
          have fin : ∀ (a : Act) w' D1 β1 u, Step D β objs w D1 β1 s.objs w' → TmOK D1 β1 i.nt s.tm a.tmps → DlOK D1 β1 s.dl a.defers → MdIs D1 m u → LeavesInM (FW none) 0 P fn a.tmps (EndOK D β objs w r objs') a.defers u w' := by
            intro a w' D1 β1 u q1 q2 q3 q4
            split at h
            · rename_i objs2 hlv
              split at h
              · rename_i r' hres
                simp only [Option.some.injEq, Prod.mk.injEq] at h
                obtain ⟨rfl, rfl⟩ := h
                refine leave_ok hH (D0 := D) (β0 := β) (o0 := objs) (w0 := w) (fun _ D2 β2 w2 st2 tm2 => ?_) (fun x hx => by cases hx) s.dl a.defers m u s.objs w' D1 β1 hlv q3 q4 q1 q2
                obtain ⟨v, hv, hrep⟩ := results_ok hE (s := ⟨s.tm, objs2, []⟩) (fn := fn) st2.heap tm2 (by rw [h4]; exact hres)
                exact ⟨v, hv, .inl ⟨v, D2, β2, rfl, st2, hrep⟩⟩
              · cases h
            · rename_i x objs2 hlv
              simp only [Option.some.injEq, Prod.mk.injEq] at h
              obtain ⟨rfl, rfl⟩ := h
              refine leave_ok hH (D0 := D) (β0 := β) (o0 := objs) (w0 := w) (fun hx => by cases hx) (fun y hy D2 β2 w2 v st2 hv => ?_) s.dl a.defers m u s.objs w' D1 β1 hlv q3 q4 q1 q2
              cases hy
              exact .inr ⟨x, v, D2, β2, rfl, rfl, st2, hv⟩
            · cases h
          refine evCode_ok hE hH hm (β0 := β) (ro' := none) (ro := none) rfl n i.body _ e s hev _ _ _ ⟨fun a w' hp hs => ?_, fun x hx a w' v D1 β1 k1 k2 k3 k4 => ?_⟩ sim0
          · obtain ⟨D1, β1, q1, q2, q3⟩ := hs
            cases e with
            | normal => simp only [Option.some.injEq] at hfin; subst hfin; exact fin a w' D1 β1 .returning q1 q2 q3 rfl
            | ret => simp only [Option.some.injEq] at hfin; subst hfin; exact fin a w' D1 β1 .returning q1 q2 q3 rfl
            | exit id => cases hfin
            | goto l => cases hfin
            | pan x => cases hp
          · subst hx
            simp only [Option.some.injEq] at hfin
            subst hfin
            exact fin a w' D1 β1 _ k1 k2 k3 ⟨v, rfl, k4⟩
        · cases h
      · cases h
    · cases h
  · cases h

end
end Go.Av

/-
  The abstract layer, part O: one operation of a walk, calls too, under the rules on code.
-/
import Derived.Test.YtkehiddekhlfaaaN
import Derived.RangeFuncRecord
import Derived.RecoverIn
import Derived.OrdersIn
noncomputable section
namespace Go.Av
open Go

/-- A call of f enters it: it has a body. -/
def Enters (P : Program) (f : FuncId) : Prop := ∀ (args : Array Value) (w : World), (callFunc f args).run P w = .ok (.enter f args) w
theorem enters_of {P : Program} {f : FuncId} {fn : Func} {c : Code} (hf : P.funcs[f]? = some fn) (hname : (fn.name == "runtime.NumGoroutine") = false) (hb : fn.body = some c) : Enters P f := by
  intro args w
  have h1 : fn.name ≠ "runtime.NumGoroutine" := by simpa using hname
  simp [callFunc, hf, h1, hb]

/-- Values stand for a row of abstract ones. -/
def Reps (D : DMap) (β : List Bi) (args : List AV) (vs : Array Value) : Prop :=
  vs.size = args.length ∧ ∀ (j : Nat) c v, args[j]? = some c → vs[j]? = some v → RepA D β c v

/-- Every function, any depth; in a round or not. -/
abbrev FW (ro : Option Nat) : Fence := { fn := fun _ => True, depth := none, alive := false, round := ro }

def EndOK (D : DMap) (β : List Bi) (objs : List Ob) (w : World) (r : AV) (objs' : List Ob) (e : Ending) (w' : World) : Prop :=
  (∃ v D' β', e = .returned v ∧ Step D β objs w D' β' objs' w' ∧ RepA D' β' r v) ∨
  ∃ x v D' β', r = .pan x ∧ e = .panicked [{ v := v, recovered := false }] ∧ Step D β objs w D' β' objs' w' ∧ RepD D' x v

theorem EndOK.ret {D : DMap} {β : List Bi} {objs : List Ob} {w : World} {r : AV} {objs' : List Ob} {e : Ending} {w' : World} (h : EndOK D β objs w r objs' e w') (hr : isPan r = false) :
    ∃ v D' β', e = .returned v ∧ Step D β objs w D' β' objs' w' ∧ RepA D' β' r v := by
  rcases h with h | ⟨x, v, D', β', rfl, _⟩
  · exact h
  · cases hr
theorem RepA.noPan {D : DMap} {β : List Bi} {r : AV} {v : Value} (h : RepA D β r v) : isPan r = false := by cases h <;> rfl

/-- The mode of a frame on its way out: none: it returns. -/
def MdIs (D : DMap) : Option DV → FrameMode → Prop
  | none, u => u = .returning
  | some x, u => ∃ v, u = .panicking [{ v := v, recovered := false }] ∧ RepD D x v

/-- A deferred call. -/
def ADefer (P : Program) (f : FuncId) (args : List AV) (m : Option DV) (objs : List Ob) (m' : Option DV) (objs' : List Ob) : Prop :=
  Enters P f ∧ ∀ D β w vs u, Heap D β objs w → Reps D β args vs → MdIs D m u → CallsDIn (FW none) 0 P f vs u w fun e u' w' => ∃ v D' β', e = .returned v ∧ Step D β objs w D' β' objs' w' ∧ MdIs D' m' (settle u')

def ACall (P : Program) (f : FuncId) (args : List AV) (objs : List Ob) (r : AV) (objs' : List Ob) : Prop :=
  Enters P f ∧ ∀ D β w vs, Heap D β objs w → Reps D β args vs → CallsIn (FW none) 0 P f vs w (EndOK D β objs w r objs')

def AYield (P : Program) (i : Nat) (args : List AV) (objs : List Ob) (r : AV) (objs' : List Ob) : Prop :=
  ∀ D β w vs bi, Heap D β objs w → β[i]? = some bi → Reps D β args vs →
    ∃ f tmps assign body, (Instr.yield bi.blk vs).run P w = .ok (.round bi.blk f tmps assign body) w ∧ RoundIn (FW none) 0 P bi.blk f tmps assign body w (EndOK D β objs w r objs')

/-- A call of a function without a body, which answers at once. -/
def AExt (P : Program) (f : FuncId) (args : List AV) (objs : List Ob) (r : AV) (objs' : List Ob) : Prop :=
  ∀ D β w vs, Heap D β objs w → Reps D β args vs → ∃ v w' D' β', (callFunc f vs).run P w = .ok (.value v) w' ∧ Step D β objs w D' β' objs' w' ∧ RepA D' β' r v

structure HOK (P : Program) (H : Hd) : Prop where
  call : ∀ f args objs r objs', H.call f args objs = some (r, some objs') → ACall P f args objs r objs'
  pure : ∀ f args objs r, H.call f args objs = some (r, none) → ∀ o, ACall P f args o r o
  yld : ∀ i args objs r objs', H.yld i args objs = some (r, objs') → AYield P i args objs r objs'
  opn : ∀ f args objs r objs', H.opn f args objs = some (r, objs') → ACall P f args objs r objs' ∨ AExt P f args objs r objs'
  dfr : ∀ f args m objs m' objs', H.dfr f args m objs = some (m', objs') → ADefer P f args m objs m' objs'

/-- The operation, on these operands and objects, gives that. -/
def OpDoes (P : Program) (o : Oper) (rd : Operand → AV) (objs : List Ob) (av : AV) (objs' : List Ob) : Prop :=
  ∀ ro D β (a : Act) w (next : Act → World → Prop) (Q : Exit → Act → World → Prop), Heap D β objs w → (∀ x, RepA D β (rd x) (a.eval x)) →
    (∀ v w' D' β', Step D β objs w D' β' objs' w' → RepA D' β' av v → next (a.put o.dst v) w') →
    (∀ x v w' D' β', av = .pan x → Step D β objs w D' β' objs' w' → RepD D' x v → Q (.panic [{ v := v, recovered := false }]) a w') → o.wpIn (FW ro) 0 P a w next Q

section
variable {P : Program} {E : PT Ty} {H : Hd}

theorem does_of_run {o : Oper} {rd : Operand → AV} {objs objs' : List Ob} {av : AV} (hd : ∀ c, o.op ≠ .defer c)
    (h : ∀ D β (ρ : Operand → Value) w, Heap D β objs w → (∀ x, RepA D β (rd x) (ρ x)) → ∃ v w' D' β', OpRun P ρ o w v w' ∧ Step D β objs w D' β' objs' w' ∧ RepA D' β' av v) :
    OpDoes P o rd objs av objs' := by
  intro ro D β a w next Q hp hr hk _
  obtain ⟨v, w', D', β', h1, h2, h3⟩ := h D β a.eval w hp hr
  refine ⟨fun _ _ => trivial, ?_⟩
  rw [Oper.semAt_eq _ _ _ hd]
  rcases h1 with h1 | ⟨h1, rfl⟩
  · rw [h1]; exact hk v w' D' β' h2 h3
  · rw [h1]; exact hk undef w' D' β' h2 h3

theorem does_op (hE : EnvOK P E) {o : Oper} {rd : Operand → AV} {objs objs' : List Ob} {av : AV} (hd : ∀ c, o.op ≠ .defer c) (h : evOp E rd objs o.op = some (av, objs', true)) :
    OpDoes P o rd objs av objs' :=
  does_of_run hd fun _ _ _ _ hp hr => op_ok hE hp hr o h rfl

theorem does_val {o : Oper} {rd : Operand → AV} {objs objs' : List Ob} {av : AV} {r : R} {s : (Operand → Value) → Sem Value} (hd : ∀ c, o.op ≠ .defer c)
    (he : ∀ ρ, execOp ρ o = (do pure (.value (← s ρ)))) (h : ∀ D β (ρ : Operand → Value) w, Heap D β objs w → (∀ x, RepA D β (rd x) (ρ x)) → ValOK P D β objs w (s ρ) r)
    (hr : r = some (av, objs', true)) : OpDoes P o rd objs av objs' :=
  does_of_run hd fun _ _ _ _ hp hrr => of_val (h _ _ _ _ hp hrr) (he _) hr rfl

theorem reps_append {D : DMap} {β : List Bi} {x y : List AV} {u v : Array Value} (hx : Reps D β x u) (hy : Reps D β y v) : Reps D β (x ++ y) (u ++ v) := by
  refine ⟨by simp [hx.1, hy.1], fun j c z hc hz => ?_⟩
  by_cases h : j < x.length
  · rw [List.getElem?_append_left h] at hc
    rw [Array.getElem?_append_left (by rw [hx.1]; exact h)] at hz
    exact hx.2 j c z hc hz
  · rw [List.getElem?_append_right (by omega)] at hc
    rw [Array.getElem?_append_right (by rw [hx.1]; omega), hx.1] at hz
    exact hy.2 _ c z hc hz

theorem reps_map {D : DMap} {β : List Bi} {rd : Operand → AV} {ρ : Operand → Value} (h : ∀ x, RepA D β (rd x) (ρ x)) (args : Array Operand) : Reps D β (args.toList.map rd) (args.map ρ) := by
  refine ⟨by simp, fun j c z hc hz => ?_⟩
  simp only [List.getElem?_map, Option.map_eq_some_iff, Array.getElem?_map, Array.getElem?_toList] at hc hz
  obtain ⟨y, hy, rfl⟩ := hc
  obtain ⟨y', hy', rfl⟩ := hz
  rw [hy] at hy'; cases hy'
  exact h y

theorem reps_d {D : DMap} {β : List Bi} {l : List DV} {u : Array Value} (h1 : u.size = l.length) (h : ∀ (j : Nat) c v, l[j]? = some c → u[j]? = some v → RepD D c v) : Reps D β (l.map .d) u := by
  refine ⟨by simpa using h1, fun j c z hc hz => ?_⟩
  simp only [List.getElem?_map, Option.map_eq_some_iff] at hc
  obtain ⟨y, hy, rfl⟩ := hc
  exact .d (h j y z hy hz)

theorem does_call {o : Oper} {rd : Operand → AV} {objs objs' : List Ob} {r : AV} {f : Operand} {args : Array Operand} {ts : Array TypeId} {g : FuncId} (ho : o.op = .call ⟨.value f, args, ts⟩)
    {x y : List AV} (hf : ∀ D β v, RepA D β (rd f) v → ∃ a b, v = .func (.func g) a b ∧ Reps D β x a ∧ Reps D β y b)
    (h : ACall P g (x ++ args.toList.map rd ++ y) objs r objs') : OpDoes P o rd objs r objs' := by
  intro ro D β a w next Q hp hr hk hk2
  obtain ⟨u1, u2, hv, h1, h2⟩ := hf D β _ (hr f)
  refine ⟨fun _ _ => trivial, ?_⟩
  rw [Oper.semAt_eq _ _ _ (fun c => by rw [ho]; simp)]
  have he : (execOp a.eval o).run P w = .ok (.enter g (u1 ++ args.map a.eval ++ u2)) w := by
    have := h.1 (u1 ++ args.map a.eval ++ u2) w
    simp only [execOp, ho, resolve, hv, Deferred.ofValue, Sem.run_bind, Sem.run_pure, Result.andThen, invoke]
    exact this
  rw [he]
  refine ⟨fun h => by simp at h, ?_⟩
  have hc := h.2 D β w (u1 ++ args.map a.eval ++ u2) hp (reps_append (reps_append h1 (reps_map hr args)) h2)
  refine CallsIn.mono (F := FW ro) (n := 0) hc (fun e w' he => ?_)
  rcases he with ⟨v, D', β', rfl, hs, hv⟩ | ⟨x, v, D', β', hx, rfl, hs, hv⟩
  · exact hk v w' D' β' hs hv
  · exact hk2 x v w' D' β' hx hs hv

theorem does_ext {o : Oper} {rd : Operand → AV} {objs objs' : List Ob} {r : AV} {f : Operand} {args : Array Operand} {ts : Array TypeId} {g : FuncId} (ho : o.op = .call ⟨.value f, args, ts⟩)
    {x y : List AV} (hf : ∀ D β v, RepA D β (rd f) v → ∃ a b, v = .func (.func g) a b ∧ Reps D β x a ∧ Reps D β y b)
    (h : AExt P g (x ++ args.toList.map rd ++ y) objs r objs') : OpDoes P o rd objs r objs' := by
  refine does_of_run (fun c => by rw [ho]; simp) fun D β ρ w hp hr => ?_
  obtain ⟨u1, u2, hv, h1, h2⟩ := hf D β _ (hr f)
  obtain ⟨v, w', D', β', e1, e2, e3⟩ := h D β w (u1 ++ args.map ρ ++ u2) hp (reps_append (reps_append h1 (reps_map hr args)) h2)
  refine ⟨v, w', D', β', .inl ?_, e2, e3⟩
  simp only [execOp, ho, resolve, hv, Deferred.ofValue, Sem.run_bind, Sem.run_pure, Result.andThen, invoke]
  exact e1

theorem does_yield {o : Oper} {rd : Operand → AV} {objs objs' : List Ob} {r : AV} {f : Operand} {args : Array Operand} {ts : Array TypeId} {i : Nat} (ho : o.op = .call ⟨.value f, args, ts⟩)
    (hf : rd f = .yl i) (h : AYield P i (args.toList.map rd) objs r objs') : OpDoes P o rd objs r objs' := by
  intro ro D β a w next Q hp hr hk hk2
  have h0 := hr f
  rw [hf] at h0
  generalize hv : a.eval f = u at h0
  cases h0 with
  | @yl _ bi hb =>
    obtain ⟨fn, tmps, assign, body, hy, hround⟩ := h D β w (args.map a.eval) bi hp hb (reps_map hr args)
    refine ⟨fun _ _ => trivial, ?_⟩
    rw [Oper.semAt_eq _ _ _ (fun c => by rw [ho]; simp)]
    have he : (execOp a.eval o).run P w = .ok (.round bi.blk fn tmps assign body) w := by
      simp only [execOp, ho, resolve, hv, Deferred.ofValue, Sem.run_bind, Sem.run_pure, Result.andThen, invoke, Array.empty_append]
      exact hy
    rw [he]
    refine ⟨fun h => by simp at h, ?_⟩
    refine RoundIn.mono (F := FW ro) (n := 0) hround (fun e w' he => ?_)
    rcases he with ⟨v, D', β', rfl, hs, hv⟩ | ⟨x, v, D', β', hx, rfl, hs, hv⟩
    · exact hk v w' D' β' hs hv
    · exact hk2 x v w' D' β' hx hs hv

theorem does_panic {o : Oper} {rd : Operand → AV} {objs : List Ob} {x : Operand} {t : TypeId} {dv : DV} (ho : o.op = .panic x) (hx : rd x = .d (.iface t dv)) : OpDoes P o rd objs (.pan (.iface t dv)) objs := by
  intro ro D β a w next Q hp hr hk hk2
  have h0 := hr x
  rw [hx] at h0
  generalize hv : a.eval x = u at h0
  cases h0 with
  | d h0 =>
    cases h0 with
    | @iface _ _ v h0 =>
      refine ⟨fun _ _ => trivial, ?_⟩
      rw [Oper.semAt_eq _ _ _ (fun c => by rw [ho]; simp)]
      have he : (execOp a.eval o).run P w = .halt (.panic (.iface t v)) w := by
        simp [execOp, ho, hv, Instr.panic]
      rw [he]
      exact hk2 (.iface t dv) (.iface t v) w D β rfl (Step.refl hp) (.iface h0)

end
end Go.Av

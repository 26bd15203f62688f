/-
  The abstract layer, part ZA: calls of a program's functions.
-/
import Derived.Test.YteljgidchamnaaaZ
noncomputable section
namespace Go.Av
open Go

/-- What is told of functions is so. -/
def FnsOK (P : Program) (F : FuncId → Option FnI) : Prop :=
  ∀ f i, F f = some i → ∃ fn, P.funcs[f]? = some fn ∧ fn.body = some i.body ∧ fn.ntmps = i.nt ∧ fn.results = i.results ∧ (fn.name == "runtime.NumGoroutine") = false

section
variable {P : Program} {E : PT Ty} {H : Hd} {D0 : DMap} {β0 : List Bi} {o0 : List Ob} {w0 : World}

/-- One result, read. -/
def resOf (tmps : Array Value) : ResultVar → Sem Value
  | .tmp t => pure (tmps.getD t undef)
  | .cell a t => do loadVar t (← asAddr (tmps.getD a undef))

theorem evRes_ok (hE : EnvOK P E) {D : DMap} {β : List Bi} {nt : Nat} {s : S} {tmps : Array Value} {w : World} (hp : Heap D β s.objs w) (ht : TmOK D β nt s.tm tmps) {r : ResultVar} {av : AV} (h : evRes E s r = some av) :
    ∃ v, (resOf tmps r).run P w = .ok v w ∧ RepA D β av v := by
  cases r with
  | tmp t =>
    simp only [evRes, Option.some.injEq] at h
    subst h
    exact ⟨_, rfl, ht.2 t⟩
  | cell a t =>
    simp only [evRes, Option.map_eq_some_iff] at h
    obtain ⟨⟨av', o', c⟩, h, rfl⟩ := h
    have hrep : RepA D β (rd s.tm (.tmp a)) (tmps.getD a undef) := ht.2 a
    have hsame := (rf_load E t (rd s.tm (.tmp a))) s.objs s.objs (fun _ _ => rfl) _ _ _ h
    obtain ⟨rfl, _⟩ := hsame
    cases hy : E.get? t with
    | none => unfold loadR at h; rw [hy] at h; cases h
    | some y =>
      have hc : c = true := by
        unfold loadR at h
        rw [hy] at h
        revert h
        cases rd s.tm (.tmp a) with
        | d x =>
          cases x with
          | ep cs =>
            simp only []
            cases isAggT y.desc with
            | true => simp only []; split <;> intro h <;> simp [pureR] at h; exact h.2
            | false => cases cs <;> intro h <;> simp [pureR] at h; exact h.2
          | _ => intro h; cases h
        | bp i off =>
          simp only []
          cases s.objs[i]? with
          | none => intro h; cases h
          | some ob =>
            simp only []
            cases obCells ob with
            | none => intro h; cases h
            | some cs =>
              simp only []
              cases isAggT y.desc with
              | true => simp only []; split <;> intro h <;> simp [pureR] at h; exact h.2
              | false => simp only []; cases cs[off]? <;> intro h <;> simp [pureR] at h; exact h.2
        | _ => intro h; cases h
      obtain ⟨v, h1, h3⟩ := (load_val (P := P) hE.ty hp t hrep av' s.objs c h).2 hc
      generalize hu : tmps.getD a undef = u at h1 hrep
      cases u with
      | pointer p =>
        cases p with
        | none => simp [Instr.loadAt, Instr.sureAddr, stuck, Sem.run_bind, Sem.run, Result.andThen] at h1
        | some ad =>
          exact ⟨v, by simpa [Instr.loadAt, Instr.sureAddr, resOf, asAddr, hu] using h1, h3⟩
      | _ => simp [Instr.loadAt, Instr.sureAddr, stuck, Sem.run_bind, Sem.run, Result.andThen] at h1

theorem evResL_ok (hE : EnvOK P E) {D : DMap} {β : List Bi} {nt : Nat} {s : S} {tmps : Array Value} {w : World} (hp : Heap D β s.objs w) (ht : TmOK D β nt s.tm tmps) : ∀ (rs : List ResultVar) (avs : List AV), evResL E s rs = some avs →
    ∃ vs : List Value, (rs.mapM (resOf tmps)).run P w = .ok vs w ∧ vs.length = avs.length ∧ ∀ (j : Nat) c v, avs[j]? = some c → vs[j]? = some v → RepA D β c v
  | [], avs, h => by
    simp only [evResL, Option.some.injEq] at h
    subst h
    exact ⟨[], by simp, rfl, fun j c v hc => by simp at hc⟩
  | r :: rs, avs, h => by
    simp only [evResL] at h
    split at h
    · rename_i v vs h1 h2
      simp only [Option.some.injEq] at h
      subst h
      obtain ⟨u, hu, hr⟩ := evRes_ok hE hp ht h1
      obtain ⟨us, hus, hl, hrs⟩ := evResL_ok hE hp ht rs vs h2
      refine ⟨u :: us, ?_, by simp [hl], fun j c x hc hx => ?_⟩
      · simp only [List.mapM_cons, Sem.run_bind, hu, Result.andThen_ok, hus, Sem.run_pure]
      · cases j with
        | zero => simp at hc hx; subst hc hx; exact hr
        | succ j => exact hrs j c x (by simpa using hc) (by simpa using hx)
    · cases h

theorem results_ok (hE : EnvOK P E) {D : DMap} {β : List Bi} {nt : Nat} {s : S} {fn : Func} {tmps : Array Value} {w : World} (hp : Heap D β s.objs w) (ht : TmOK D β nt s.tm tmps) {av : AV} (h : evResults E s fn.results = some av) :
    ∃ v, (results fn tmps).run P w = .ok v w ∧ RepA D β av v := by
  have hres : results fn tmps = (do let vs ← fn.results.mapM (resOf tmps); pure (if h : vs.size = 1 then vs[0] else .tuple vs)) := by
    unfold results
    have : (fun r : ResultVar => match r with | .tmp t => (pure (tmps.getD t undef) : Sem Value) | .cell a t => do loadVar t (← asAddr (tmps.getD a undef))) = resOf tmps := by
      funext r; cases r <;> rfl
    rw [← this]
    rfl
  unfold evResults at h
  split at h
  · rename_i v h1
    simp only [Option.some.injEq] at h
    subst h
    obtain ⟨us, hus, hl, hrs⟩ := evResL_ok hE hp ht _ _ h1
    match us, hl with
    | [u], _ =>
      refine ⟨u, ?_, hrs 0 _ u rfl rfl⟩
      rw [hres, Array.mapM_eq_mapM_toList]
      simp [hus]
  · rename_i l hne h1
    simp only [Option.some.injEq] at h
    subst h
    obtain ⟨us, hus, hl, hrs⟩ := evResL_ok hE hp ht _ _ h1
    have hn : us.length ≠ 1 := fun e => by
      match l, hl.symm.trans e, hne with
      | [x], _, hne => exact hne x rfl
    refine ⟨.tuple us.toArray, ?_, .tup (by simpa using hl) (fun j c v hc hv => hrs j c v hc (by simpa using hv))⟩
    rw [hres, Array.mapM_eq_mapM_toList]
    simp [hus, hn]
  · cases h

/-- The blocks for deferred calls are shut; then the results are read. -/
theorem leaves_ok {fn : Func} {tmps : Array Value} {R : Ending → World → Prop} {nt : Nat} {tm : PT AV} {objs' : List Ob}
    (hR : ∀ D β w, Step D0 β0 o0 w0 D β objs' w → TmOK D β nt tm tmps → ∃ v, (results fn tmps).run P w = .ok v w ∧ R (.returned v) w) :
    ∀ (dl : List Nat) (ds : List Deferred) (objs : List Ob) (w : World) (D : DMap) (β : List Bi), shut dl objs = some objs' → DlOK β dl ds → Step D0 β0 o0 w0 D β objs w → TmOK D β nt tm tmps →
      LeavesInM (FW none) 0 P fn tmps R ds .returning w
  | [], [], objs, w, D, β, hsh, _, hs, ht => by
    simp only [shut, Option.some.injEq] at hsh
    subst hsh
    exact hR D β w hs ht
  | i :: dl, d :: ds, objs, w, D, β, hsh, hdl, hs, ht => by
    obtain ⟨⟨bi, hb, htar⟩, hdl⟩ := hdl
    simp only [shut] at hsh
    split at hsh
    · rename_i ho
      obtain ⟨h1, h2, h3⟩ := hs.heap.hold i bi _ hb ho
      have hbs : bi.blk < w.heap.size := lt_of_getElem? h1
      have hst : Step D β objs w D β (objs.set i (.raw (.deferred none))) (w.putObj bi.blk (.deferred none)) :=
        Step.put (o' := .deferred none) hs.heap hb ho rfl (fun b' hb' => by simp [ownOf] at hb'; exact hb'.symm) h3 ⟨putB_eq hbs, by simp, h3⟩
      exact ⟨by simp, .inl ⟨bi.blk, _, htar, run_takeDeferred h1, leaves_ok hR dl ds _ _ D β hsh hdl (hs.trans hst) ht⟩⟩
    · cases hsh
  | [], _ :: _, _, _, _, _, _, h, _, _ => h.elim
  | _ :: _, [], _, _, _, _, _, h, _, _ => h.elim

theorem initTm_ok {D : DMap} {β : List Bi} {nt : Nat} : ∀ (args : List AV) (vs : List Value) (i : Nat) (tm : PT AV) (tmps : Array Value), args.length = vs.length → (∀ (j : Nat) c v, args[j]? = some c → vs[j]? = some v → RepA D β c v) →
    i + args.length ≤ nt → (∀ (j : Nat) v, vs[j]? = some v → tmps[i + j]? = some v) → TmOK D β nt tm tmps → TmOK D β nt (initTm i args tm) tmps
  | [], _, i, tm, tmps, _, _, _, _, h => h
  | c :: args, [], i, tm, tmps, hl, _, _, _, _ => by simp at hl
  | c :: args, v :: vs, i, tm, tmps, hl, hr, hn, hv, h => by
    have h0 := hv 0 v rfl
    have h5 : setD nt tm (some i) c = some (tm.set i c) := by
      simp [setD, show Nat.blt i nt = true by rw [Nat.blt_eq]; simp at hn; omega]
    have h6 := TmOK.put (a := { tmps := tmps, defers := [] }) h (hr 0 c v rfl rfl) h5
    have hsame : tmps.setIfInBounds i v = tmps := by
      apply Array.ext_getElem?
      intro k
      by_cases e : i = k
      · subst e
        simp only [Nat.add_zero] at h0
        have : i < tmps.size := (Array.getElem?_eq_some_iff.1 h0).1
        simp [this, h0]
        exact (Array.getElem?_eq_some_iff.1 h0).2.symm
      · rw [Array.getElem?_setIfInBounds_ne e]
    simp only [Act.put, hsame] at h6
    exact initTm_ok args vs (i + 1) _ tmps (by simpa using hl) (fun j c v hc hv => hr (j + 1) c v (by simpa using hc) (by simpa using hv)) (by simp at hn; omega)
      (fun j u hu => by have := hv (j + 1) u (by simpa using hu); rw [show i + 1 + j = i + (j + 1) by omega]; exact this) h6

theorem evCall_ok (hE : EnvOK P E) (hH : HOK P H) (hm : P.follows .mixedOrders = true) {F : FuncId → Option FnI} (hF : FnsOK P F) {n : Nat} {f : FuncId} {args : List AV} {objs objs' : List Ob} {r : AV}
    (h : evCall E F H n f args objs = some (r, objs')) : ACall P f args objs r objs' := by
  unfold evCall at h
  split at h
  · rename_i i hi
    obtain ⟨fn, h1, h2, h3, h4, h5⟩ := hF f i hi
    refine ⟨enters_of h1 h5 h2, fun D β w vs hp hr => ?_⟩
    split at h
    · rename_i hc
      simp only [Bool.and_eq_true] at hc
      have hlen := Nat.eq_of_beq_eq_true hc.1
      have hle := Nat.le_of_ble_eq_true hc.2
      split at h
      · rename_i e s hev
        split at h
        · rename_i hfin
          split at h
          · rename_i objs2 hsh
            split at h
            · rename_i r' hres
              simp only [Option.some.injEq, Prod.mk.injEq] at h
              obtain ⟨rfl, rfl⟩ := h
              refine callsIn_of_wp_marks (F := FW none) h1 h2 trivial ?_
              have hsz : (vs ++ Array.replicate (fn.ntmps - vs.size) undef).size = i.nt := by simp [h3, hr.1]; omega
              have sim0 : Sim D β objs w i.nt ⟨initTm 0 args .nil, objs, []⟩ { tmps := vs ++ Array.replicate (fn.ntmps - vs.size) undef, defers := [] } w := by
                refine ⟨D, β, Step.refl hp, initTm_ok args vs.toList 0 .nil _ (by simp [hr.1]) (fun j c v hc hv => hr.2 j c v hc (by simpa using hv)) (by omega) (fun j v hv => ?_) ⟨hsz, fun t => .d .any⟩, trivial⟩
                have hv : vs[j]? = some v := by simpa using hv
                rw [Nat.zero_add, Array.getElem?_append_left (Array.getElem?_eq_some_iff.1 hv).1]; exact hv
              have fin : ∀ a w', Sim D β objs w i.nt s a w' → LeavesInM (FW none) 0 P fn a.tmps (EndOK D β objs w r' objs2) a.defers .returning w' := by
                intro a w' hs
                obtain ⟨D1, β1, q1, q2, q3⟩ := hs
                refine leaves_ok (D0 := D) (β0 := β) (o0 := objs) (w0 := w) (fun D2 β2 w2 st2 tm2 => ?_) s.dl a.defers s.objs w' D1 β1 hsh q3 q1 q2
                obtain ⟨v, hv, hrep⟩ := results_ok hE (s := ⟨s.tm, objs2, []⟩) (fn := fn) st2.heap tm2 (by rw [h4]; exact hres)
                exact ⟨v, hv, v, D2, β2, rfl, st2, hrep⟩
              refine evCode_ok hE hH hm (β0 := β) (ro' := none) (ro := none) rfl n i.body _ e s hev _ _ _ (fun a w' hs => ?_) sim0
              cases e with
              | normal => exact fin a w' hs
              | ret => exact fin a w' hs
              | exit id => cases hfin
              | goto l => cases hfin
            · cases h
          · cases h
        · cases h
      · cases h
    · cases h
  · cases h

end
end Go.Av

/-
  The abstract layer, part Y: code: what the evaluator says of it, holds.
-/
import Derived.Test.YtkehiddekhlfaaaX
noncomputable section
namespace Go.Av
open Go

def RoOK (β : List Bi) : Option Nat → Option Nat → Prop
  | none, ro => ro = none
  | some i, ro => ∃ bi, β[i]? = some bi ∧ ro = some bi.blk

section
variable {P : Program} {E : PT Ty} {H : Hd} {frz : List Nat} {nt : Nat} {D0 : DMap} {β0 : List Bi} {o0 : List Ob} {w0 : World}

theorem run_enterIn {l₀ : Nat} {r₀ : Loop} {w : World} (h : w.heap[l₀]? = some (.loop r₀)) (fn : FuncId) (tmps : Array Value) (ps : Array Tmp) (assign body : Code) :
    (Instr.enterLoop fn tmps ps assign body (some l₀)).run P w =
      .ok (w.heap.size, []) (w.alloc (.loop { state := .ready, pending := none, fn, tmps, params := ps, assign, body, defers := r₀.defers })) := by
  unfold Instr.enterLoop
  simp only [Sem.run_bind, run_getLoop h, run_newObj_alloc, Result.andThen, Sem.run_pure]

/-- The record of a loop turns. -/
theorem loop_set {D : DMap} {β : List Bi} {objs : List Ob} {w : World} (hp : Heap D β objs w) {i : Nat} {bi : Bi} {tm : PT AV} {nt : Nat} {fz : List Nat} {ps : Array Tmp} {as bd : Code} {st : LoopState} {pend : Option Code}
    (hb : β[i]? = some bi) (ho : objs[i]? = some (.loop tm nt fz ps as bd st pend)) :
    ∃ lp : Loop, w.heap[bi.blk]? = some (.loop lp) ∧ lp.state = st ∧ lp.pending = pend ∧ lp.params = ps ∧ lp.assign = as ∧ lp.body = bd ∧ TmOK D β nt tm lp.tmps ∧
      ∀ st' pend', Step D β objs w D β (objs.set i (.loop tm nt fz ps as bd st' pend')) (w.putObj bi.blk (.loop { lp with state := st', pending := pend' })) := by
  obtain ⟨lp, h1, h2, h3, h4, h5, h6, h7, h8, h9⟩ := hp.hold i bi _ hb ho
  refine ⟨lp, h1, h2, h3, h4, h5, h6, ⟨h7, h8⟩, fun st' pend' => ?_⟩
  have hbs : bi.blk < w.heap.size := lt_of_getElem? h1
  exact Step.put (o' := .loop { lp with state := st', pending := pend' }) hp hb ho rfl (fun b' hb' => by simp [ownOf] at hb'; exact hb'.symm) h9
    ⟨_, putB_eq hbs, rfl, rfl, h4, h5, h6, h7, h8, h9⟩

/-- The record of a loop is laid. -/
theorem loop_push {D : DMap} {β : List Bi} {objs : List Ob} {w : World} (hp : Heap D β objs w) {tm : PT AV} {nt : Nat} (fz : List Nat) (fn : FuncId) {tmps : Array Value} (ps : Array Tmp) (as bd : Code) (df : Nat) (ht : TmOK D β nt tm tmps) :
    Step D β objs w D (β ++ [⟨w.heap.size, fun _ => none⟩]) (objs ++ [.loop tm nt fz ps as bd .ready none])
      (w.alloc (.loop { state := .ready, pending := none, fn, tmps, params := ps, assign := as, body := bd, defers := df })) := by
  refine Step.push hp (fun k hk => alloc_keep w _ k hk) (by simp) rfl rfl rfl (fun _ _ h => h) (fun ad v h0 h2 => by rw [h2] at h0; cases h0) (fun b hb => by simp [ownOf] at hb; omega) ?_
  refine ⟨_, alloc_new w _, rfl, rfl, rfl, rfl, rfl, ht.1, fun t => (ht.2 t).mono (fun _ _ h => h) ext_snoc, fun ad ha => ?_⟩
  cases hd : D ad with
  | none => rfl
  | some v => have := hp.D_lt hd; simp only at ha; omega

theorem raw_push {D : DMap} {β : List Bi} {objs : List Ob} {w : World} (hp : Heap D β objs w) (o : Obj) (ho : ∀ c e f, o ≠ .cells c e f) :
    Step D β objs w D (β ++ [⟨w.heap.size, fun _ => none⟩]) (objs ++ [.raw o]) (w.alloc o) := by
  refine Step.push hp (fun k hk => alloc_keep w _ k hk) (by simp) rfl rfl rfl (fun _ _ h => h) (fun ad v h0 h2 => by rw [h2] at h0; cases h0) (fun b hb => by simp [ownOf] at hb; omega) ?_
  refine ⟨alloc_new w _, ho, fun ad ha => ?_⟩
  cases hd : D ad with
  | none => rfl
  | some v => have := hp.D_lt hd; simp only at ha; omega

/-- The rest of a range over a function, the record being laid at the end of the objects. -/
theorem range_rest (hH : HOK P H) {ro : Option Nat} {n : Nat} {f : Operand} {g : FuncId} {x y : List AV} {ps : Array Tmp} {assign body : Code} {tm : PT AV} {objs1 : List Ob} {dl1 : List Dl} {e : Ex} {s' : S}
    (h : evCode.rangeB H frz nt g x y ps assign body tm objs1 dl1 = some (e, s')) {Q : Exit → Act → World → Prop} (hQ : Post D0 β0 o0 w0 nt e s' Q)
    {a : Act} {w1 : World} {D : DMap} {β : List Bi} {df : Nat} {ds : List Deferred} {fn : FuncId} {u1 u2 : Array Value} (hf : a.eval f = .func (.func g) u1 u2)
    (hx : Reps D β x u1) (hy : Reps D β y u2) (h1 : Step D0 β0 o0 w0 D β objs1 w1) (h2 : TmOK D β nt tm a.tmps) (h3 : DlOK D β dl1 ds) {w2 : World}
    (hw2 : w2 = w1.alloc (.loop { state := .ready, pending := none, fn := fn, tmps := a.tmps, params := ps, assign, body, defers := df })) :
    ∃ (d : Deferred) (w₁' : World) (f' : FuncId) (args : Array Value) (w₂ : World),
      (resolve a.eval (rangeCall f w1.heap.size) 0).run P w2 = .ok d w₁' ∧ (invoke d.target d.args).run P w₁' = .ok (.enter f' args) w₂ ∧
      CallsIn (FW ro) 0 P f' args w₂ (rangePost (FW ro) n P w1.heap.size Q { a with defers := ds }) := by
  have hp1 := loop_push h1.heap frz fn ps assign body df h2
  rw [← hw2] at hp1
  unfold evCode.rangeB at h
  split at h
  · rename_i r objs2 hc
    have hlen : β.length = objs1.length := h1.heap.len
    have hbl : (β ++ [⟨w1.heap.size, fun _ => none⟩])[objs1.length]? = some (⟨w1.heap.size, fun _ => none⟩ : Bi) := by rw [← hlen]; simp
    have hA := hH.call _ _ _ _ _ hc
    have hargs : Reps D (β ++ [⟨w1.heap.size, fun _ => none⟩]) (x ++ [.yl objs1.length] ++ y) (u1 ++ #[.func (.yield w1.heap.size) #[] #[]] ++ u2) := by
      refine reps_append (reps_append ⟨hx.1, fun j c v hc hv => (hx.2 j c v hc hv).mono (fun _ _ h => h) ext_snoc⟩ ⟨rfl, fun j c v hc hv => ?_⟩) ⟨hy.1, fun j c v hc hv => (hy.2 j c v hc hv).mono (fun _ _ h => h) ext_snoc⟩
      match j with
      | 0 => simp at hc hv; subst hc hv; exact .yl (bi := ⟨w1.heap.size, fun _ => none⟩) hbl
      | j + 1 => simp at hc
    refine ⟨{ target := .fn (.func g) u2, args := u1 ++ #[.func (.yield w1.heap.size) #[] #[]] }, w2, g, u1 ++ #[.func (.yield w1.heap.size) #[] #[]] ++ u2, w2, ?_, ?_, ?_⟩
    · have e1 : (#[Operand.const (.func (.yield w1.heap.size) #[] #[])] : Array Operand).map a.eval = #[.func (.yield w1.heap.size) #[] #[]] := by simp [Act.eval]
      show (Deferred.ofValue (a.eval f) ((#[Operand.const (.func (.yield w1.heap.size) #[] #[])] : Array Operand).map a.eval)).run P w2 = _
      rw [e1, hf]
      rfl
    · exact hA.1 _ _
    · refine CallsIn.mono (F := FW ro) (n := 0) (hA.2 D _ w2 _ hp1.heap hargs) (fun en w3 he => ?_)
      split at h
      · cases h
      rename_i hnp
      obtain ⟨v, D', β', rfl, hs, hv⟩ := he.ret hnp
      split at h
      · rename_i tm' nt' frz' ps' as' bd' st pend ho
        obtain ⟨y', hy', he'⟩ := hs.bext _ _ hbl
        obtain ⟨lp, g1, g2, g3, _, _, _, _, g8⟩ := loop_set hs.heap hy' ho
        rw [show y'.blk = w1.heap.size from he'.1] at g1 g8
        have fin : ∀ hb : st ≠ .busy, evCode.jumpTo pend ⟨tm, objs2.set objs1.length (.loop tm' nt' frz' ps' as' bd' .exhausted pend), dl1⟩ = some (e, s') →
            rangePost (FW ro) n P w1.heap.size Q { a with defers := ds } (.returned v) w3 := by
          intro hb h
          have hend := run_endLoop (P := P) g1 (by rw [g2]; exact hb)
          rw [g3] at hend
          refine ⟨pend, _, hend, ?_⟩
          have all := ((h1.trans hp1).trans hs).trans (g8 .exhausted pend)
          have hsim : Sim D0 β0 o0 w0 nt ⟨tm, objs2.set objs1.length (.loop tm' nt' frz' ps' as' bd' .exhausted pend), dl1⟩ { a with defers := ds } (w3.putObj w1.heap.size (.loop { lp with state := .exhausted, pending := pend })) := by
            refine ⟨D', β', all, ?_, ?_⟩
            · exact (h2.mono (fun _ _ h => h) ext_snoc).mono hs.dsub hs.bext
            · exact (h3.mono (fun _ _ h => h) ext_snoc).mono hs.dsub hs.bext
          unfold evCode.jumpTo at h
          split at h
          · simp only [Option.some.injEq, Prod.mk.injEq] at h
            obtain ⟨rfl, rfl⟩ := h
            exact hQ.1 _ _ rfl hsim
          · simp only [Option.some.injEq, Prod.mk.injEq] at h
            obtain ⟨rfl, rfl⟩ := h
            exact wpIn_ret (hQ.1 _ _ rfl hsim)
          · simp only [Option.some.injEq, Prod.mk.injEq] at h
            obtain ⟨rfl, rfl⟩ := h
            exact wpIn_exit (hQ.1 _ _ rfl hsim)
          · cases h
        split at h
        · cases h
        · rename_i hb
          exact fin (fun e => hb e) h
      · cases h
  · cases h

theorem Sim.cond {s : S} {a : Act} {w : World} {c : Operand} {b : Bool} (h : Sim D0 β0 o0 w0 nt s a w) (hc : rd s.tm c = .d (.bool b)) : a.eval c = .bool b := by
  obtain ⟨D, β, _, h2, _⟩ := h
  have := h2.rd c
  rw [hc] at this
  cases this with
  | d h => generalize a.eval c = v at h; cases h; rfl

theorem rangeA_ok (hH : HOK P H) {ro' ro : Option Nat} (hro : RoOK β0 ro' ro) {f : Operand} {g : FuncId} {x y : List AV} {ps : Array Tmp} {assign body : Code} {s : S} {e : Ex} {s' : S}
    (h : evCode.rangeA H frz nt ro' g x y ps assign body s = some (e, s')) (hrep : ∀ D β v, RepA D β (rd s.tm f) v → ∃ u1 u2, v = .func (.func g) u1 u2 ∧ Reps D β x u1 ∧ Reps D β y u2)
    {Q : Exit → Act → World → Prop} (hQ : Post D0 β0 o0 w0 nt e s' Q) {a : Act} {w : World} (hs : Sim D0 β0 o0 w0 nt s a w) :
    (Code.rangeFunc f ps assign body).wpIn (FW ro) 0 P Q a w := by
  obtain ⟨D, β, h1, h2, h3⟩ := hs
  obtain ⟨u1, u2, hf, hx, hy⟩ := hrep D β _ (h2.rd f)
  refine wpIn_rangeFunc fun fn _ => ?_
  unfold evCode.rangeA at h
  cases ro' with
  | none =>
    simp only [RoOK] at hro
    subst hro
    simp only at h
    have hp1 := raw_push h1.heap (.deferred (some [])) (by simp)
    have hb1 : (β ++ [⟨w.heap.size, fun _ => none⟩])[s.objs.length]? = some (⟨w.heap.size, fun _ => none⟩ : Bi) := by rw [← h1.heap.len]; simp
    have hdl : DlOK D (β ++ [⟨w.heap.size, fun _ => none⟩]) (.mark s.objs.length :: s.dl) ({ target := .collected w.heap.size, args := #[] } :: a.defers) := ⟨⟨_, hb1, rfl⟩, h3.mono (fun _ _ h => h) ext_snoc⟩
    obtain ⟨d, w1', f', args, w2', r1, r2, r3⟩ := range_rest hH (ro := none) (n := 0) h hQ (a := a) (w1 := w.alloc (.deferred (some []))) (df := w.heap.size) (ds := { target := .collected w.heap.size, args := #[] } :: a.defers) (fn := fn) hf
      (⟨hx.1, fun j c v hc hv => (hx.2 j c v hc hv).mono (fun _ _ h => h) ext_snoc⟩) (⟨hy.1, fun j c v hc hv => (hy.2 j c v hc hv).mono (fun _ _ h => h) ext_snoc⟩) (h1.trans hp1) (h2.mono (fun _ _ h => h) ext_snoc)
      hdl rfl
    have hsz : (w.alloc (.deferred (some []))).heap.size = w.heap.size + 1 := by simp
    rw [hsz] at r1 r3
    exact ⟨w.heap.size + 1, _, _, d, w1', f', args, w2', run_enterLoop_outer fn a.tmps ps assign body, r1, fun _ _ => trivial, r2, fun h => by simp at h, r3⟩
  | some r =>
    obtain ⟨bi, hb, rfl⟩ := hro
    simp only at h
    split at h
    · rename_i ho
      obtain ⟨y', hy', he'⟩ := h1.bext _ _ hb
      obtain ⟨lp, g1, _⟩ := loop_set h1.heap hy' ho
      rw [he'.1] at g1
      obtain ⟨d, w1', f', args, w2', r1, r2, r3⟩ := range_rest hH (ro := some bi.blk) (n := 0) h hQ (a := a) (w1 := w) (df := lp.defers) (ds := a.defers) (fn := fn) hf hx hy h1 h2 h3 rfl
      exact ⟨w.heap.size, [], _, d, w1', f', args, w2', run_enterIn g1 fn a.tmps ps assign body, r1, fun _ _ => trivial, r2, fun h => by simp at h, r3⟩
    · cases h

theorem Post.to {Q Q' : Exit → Act → World → Prop} {e e' : Ex} {s' s'' : S} (h : Post D0 β0 o0 w0 nt e s' Q)
    (h1 : isPanE e' = false → ∀ a w, Sim D0 β0 o0 w0 nt s'' a w → Q' (exOf e') a w) (h2 : isPanE e' = true → e = e' ∧ s' = s'') (h3 : ∀ c a w, Q (.panic c) a w → Q' (.panic c) a w) : Post D0 β0 o0 w0 nt e' s'' Q' := by
  refine ⟨fun a w hp hs => h1 hp a w hs, fun x hx a w v D β k1 k2 k3 k4 => ?_⟩
  obtain ⟨rfl, rfl⟩ := h2 (by rw [hx]; rfl)
  exact h3 _ a w (h.2 x hx a w v D β k1 k2 k3 k4)

theorem evCode_ok (hE : EnvOK P E) (hH : HOK P H) (hm : P.follows .mixedOrders = true) {ro' ro : Option Nat} (hro : RoOK β0 ro' ro) : ∀ (n : Nat) (c : Code) (s : S) (e : Ex) (s' : S), evCode E H frz nt ro' n c s = some (e, s') →
    ∀ (Q : Exit → Act → World → Prop) (a : Act) (w : World), Post D0 β0 o0 w0 nt e s' Q → Sim D0 β0 o0 w0 nt s a w → c.wpIn (FW ro) 0 P Q a w := by
  intro n
  induction n using Nat.strongRecOn with
  | _ n ih =>
    cases n with
    | zero => intro c s e s' h; cases h
    | succ n =>
      intro c s e s' h Q a w hQ hs
      cases c with
      | skip =>
        simp only [evCode, Option.some.injEq, Prod.mk.injEq] at h
        obtain ⟨rfl, rfl⟩ := h
        exact wpIn_skip (hQ.1 a w rfl hs)
      | label l =>
        simp only [evCode, Option.some.injEq, Prod.mk.injEq] at h
        obtain ⟨rfl, rfl⟩ := h
        exact wpIn_label (hQ.1 a w rfl hs)
      | exit id =>
        simp only [evCode, Option.some.injEq, Prod.mk.injEq] at h
        obtain ⟨rfl, rfl⟩ := h
        exact wpIn_exit (hQ.1 a w rfl hs)
      | ret =>
        simp only [evCode, Option.some.injEq, Prod.mk.injEq] at h
        obtain ⟨rfl, rfl⟩ := h
        exact wpIn_ret (hQ.1 a w rfl hs)
      | region id ops draw =>
        simp only [evCode] at h
        cases draw with
        | false =>
          simp only at h
          refine wpIn_region ?_
          have hdf : noRound ro' = true → ro = none := by
            cases ro' with
            | none => intro _; exact hro
            | some i => intro h; cases h
          have := evOpsX_ok hE hH (ro := ro) hdf hQ ops.toList 0 s a w (fun k _ => by simp) h hs
          rw [List.range_eq_range']
          simpa using this
        | true =>
          simp only at h
          exact draw_ok hE hH hm hQ h hs
      | seq x y =>
        refine wpIn_seq ?_
        simp only [evCode] at h
        split at h
        · rename_i s1 h1
          exact ih n (by omega) x s _ s1 h1 _ a w (hQ.to (e' := .normal) (fun _ a w hs => ih n (by omega) y s1 e s' h Q a w hQ hs) (fun h => by cases h) (fun _ _ _ h => h)) hs
        · rename_i hne
          refine ih n (by omega) x s e s' h _ a w (hQ.to (fun hp a w hs => ?_) (fun _ => ⟨rfl, rfl⟩) (fun _ _ _ h => h)) hs
          cases e with
          | normal => exact absurd h (hne s')
          | _ => exact hQ.1 a w hp hs
      | cond c x y =>
        simp only [evCode] at h
        split at h
        · rename_i hc
          exact wpIn_cond_true (hs.cond hc) (ih n (by omega) x s e s' h Q a w hQ hs)
        · rename_i hc
          exact wpIn_cond_false (hs.cond hc) (ih n (by omega) y s e s' h Q a w hQ hs)
        · cases h
      | block id b =>
        refine wpIn_block ?_
        simp only [evCode] at h
        split at h
        · rename_i id' s1 h1
          refine ih n (by omega) b s _ s1 h1 _ a w ⟨fun a w _ hs => ?_, fun x hx => by cases hx⟩ hs
          simp only [exOf, Exit.inBlock]
          split at h
          · rename_i hb
            simp only [Option.some.injEq, Prod.mk.injEq] at h
            obtain ⟨rfl, rfl⟩ := h
            rw [if_pos (Nat.eq_of_beq_eq_true hb)]
            exact hQ.1 a w rfl hs
          · rename_i hb
            simp only [Option.some.injEq, Prod.mk.injEq] at h
            obtain ⟨rfl, rfl⟩ := h
            rw [if_neg (Nat.ne_of_beq_eq_false hb)]
            exact hQ.1 a w rfl hs
        · rename_i hne
          refine ih n (by omega) b s e s' h _ a w (hQ.to (fun hp a w hs => ?_) (fun _ => ⟨rfl, rfl⟩) (fun _ _ _ h => h)) hs
          cases e with
          | exit id' => exact absurd h (hne id' s')
          | _ => exact hQ.1 a w hp hs
      | loop b =>
        refine wpIn_loop_n (fun k a w => k ≤ n + 1 ∧ ∃ s, evCode E H frz nt ro' k (.loop b) s = some (e, s') ∧ Sim D0 β0 o0 w0 nt s a w) (k := n + 1) ⟨Nat.le_refl _, s, h, hs⟩ (fun k a w hJ => ?_)
        obtain ⟨hk, s, h, hs⟩ := hJ
        cases k with
        | zero => cases h
        | succ k =>
          simp only [evCode] at h
          split at h
          · rename_i s1 h1
            exact ih k (by omega) b s _ s1 h1 _ a w (hQ.to (e' := .normal) (fun _ a w hs => ⟨k, by omega, by omega, s1, h, hs⟩) (fun h => by cases h) (fun _ _ _ h => h)) hs
          · rename_i hne
            refine ih k (by omega) b s e s' h _ a w (hQ.to (fun hp a w hs => ?_) (fun _ => ⟨rfl, rfl⟩) (fun _ _ _ h => h)) hs
            cases e with
            | normal => exact absurd h (hne s')
            | _ => exact hQ.1 a w hp hs
      | scope b =>
        refine wpIn_scope ?_
        simp only [evCode] at h
        split at h
        · cases h
        · rename_i hne
          refine ih n (by omega) b s e s' h _ a w (hQ.to (fun hp a w hs => ?_) (fun _ => ⟨rfl, rfl⟩) (fun _ _ _ h => h)) hs
          cases e with
          | goto l => exact absurd h (hne l s')
          | _ => exact hQ.1 a w hp hs
      | rangeFunc f ps assign body =>
        simp only [evCode] at h
        split at h
        · rename_i g x y hf
          exact rangeA_ok hH hro h (fun D β v hv => fn_rep (by rw [hf] at hv; exact hv)) hQ hs
        · rename_i g x y hf
          exact rangeA_ok hH hro h (fun D β v hv => fnA_rep (by rw [hf] at hv; exact hv)) hQ hs
        · cases h
      | goto l => cases h
      | refuse why => cases h

end
end Go.Av

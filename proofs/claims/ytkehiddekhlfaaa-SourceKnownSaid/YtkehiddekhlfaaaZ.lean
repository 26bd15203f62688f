/-
  The abstract layer, part Z: rounds, calls, and the handler of a program's functions.
-/
import Derived.Test.YtkehiddekhlfaaaY
noncomputable section
namespace Go.Av
open Go

section
variable {P : Program} {E : PT Ty} {H : Hd} {D0 : DMap} {β0 : List Bi} {o0 : List Ob} {w0 : World}

theorem setTms_ok {D : DMap} {β : List Bi} {nt : Nat} : ∀ (ps : List Tmp) (args : List AV) (vs : List Value) (tm : PT AV) (tmps : Array Value), ps.length = args.length → args.length = vs.length → (∀ t ∈ ps, t < nt) →
    (∀ (j : Nat) c v, args[j]? = some c → vs[j]? = some v → RepA D β c v) → TmOK D β nt tm tmps → TmOK D β nt (setTms tm (ps.zip args)) ((ps.zip vs).foldl (fun tmps (t, a) => tmps.setIfInBounds t a) tmps)
  | [], [], [], tm, tmps, _, _, _, _, h => h
  | t :: ps, x :: args, v :: vs, tm, tmps, h1, h2, h3, h4, h => by
    have h5 : setD nt tm (some t) x = some (tm.set t x) := by
      simp [setD, show Nat.blt t nt = true by rw [Nat.blt_eq]; exact h3 t (by simp)]
    have h6 := TmOK.put (a := { tmps := tmps, defers := [] }) h (h4 0 x v rfl rfl) h5
    exact setTms_ok ps args vs _ _ (by simpa using h1) (by simpa using h2) (fun t ht => h3 t (by simp [ht])) (fun j c u hc hu => h4 (j + 1) c u (by simpa using hc) (by simpa using hu)) h6
  | [], _ :: _, _, _, _, h, _, _, _, _ => by simp at h
  | _ :: _, [], _, _, _, h, _, _, _, _ => by simp at h
  | _ , [], _ :: _, _, _, _, h, _, _, _ => by simp at h
  | _, _ :: _, [], _, _, _, h, _, _, _ => by simp at h

theorem evYield_ok (hE : EnvOK P E) (hH : HOK P H) (hm : P.follows .mixedOrders = true) {n i : Nat} {args : List AV} {objs objs' : List Ob} {r : AV} (h : evYield E H n i args objs = some (r, objs')) : AYield P i args objs r objs' := by
  intro D β w vs bi hp hb hr
  unfold evYield at h
  split at h
  · rename_i tm nt frz ps assign body pend ho
    split at h
    · rename_i hc
      simp only [Bool.and_eq_true, List.all_eq_true] at hc
      have hlen := Nat.eq_of_beq_eq_true hc.1
      have hlt : ∀ t ∈ ps.toList, t < nt := fun t ht => by have := hc.2 t ht; rw [Nat.blt_eq] at this; exact this
      obtain ⟨lp, g1, g2, g3, g4, g5, g6, g7, g8⟩ := loop_set hp hb ho
      split at h
      · rename_i s1 he1
        split at h
        · rename_i tm' nt' frz' ps' as' bd' pend' ho1
          split at h
          · rename_i e s2 he2
            split at h
            · rename_i tm'' nt'' frz'' ps'' as'' bd'' st'' pend'' ho2
              refine ⟨lp.fn, _, lp.assign, lp.body, run_yield g1 (by rw [g4, hr.1]; exact hlen), roundIn_of_wpIn (F := FW none) trivial ?_⟩
              rw [g4, g5, g6]
              have hro : RoOK β (some i) (some bi.blk) := ⟨bi, hb, rfl⟩
              have sim0 : Sim D β objs w nt ⟨setTms tm (ps.toList.zip args), objs, []⟩ { tmps := (ps.zip vs).foldl (fun tmps (t, a) => tmps.setIfInBounds t a) lp.tmps, defers := [] } w := by
                refine ⟨D, β, Step.refl hp, ?_, trivial⟩
                have := setTms_ok ps.toList args vs.toList tm lp.tmps (by simp [hlen]) (by simp [hr.1]) hlt (fun j c v hc hv => hr.2 j c v hc (by simpa using hv)) g7
                have e : (ps.zip vs).foldl (fun tmps (t, a) => tmps.setIfInBounds t a) lp.tmps = (ps.toList.zip vs.toList).foldl (fun tmps (t, a) => tmps.setIfInBounds t a) lp.tmps := by
                  rw [← Array.foldl_toList, Array.toList_zip]
                simp only [e]
                exact this
              refine evCode_ok hE hH hm hro n assign _ .normal s1 he1 _ _ _ ⟨fun a1 w1 _ hs1 => ?_, fun x hx => by cases hx⟩ sim0
              obtain ⟨D1, β1, q1, q2, q3⟩ := hs1
              obtain ⟨y1, hy1, hx1⟩ := q1.bext _ _ hb
              obtain ⟨lp1, k1, k2, k3, k4, k5, k6, k7, k8⟩ := loop_set q1.heap hy1 ho1
              rw [hx1.1] at k1 k8
              have hbeg := run_beginRound (P := P) k1 k2
              refine ⟨_, hbeg, ?_⟩
              have st1 := k8 .busy pend'
              have hlp1 : ({ lp1 with state := .busy, pending := pend' } : Loop) = { lp1 with state := .busy } := by rw [← k3]
              rw [hlp1] at st1
              refine evCode_ok hE hH hm hro n body _ e s2 he2 _ _ _ ⟨fun a2 w2 _ hs2 => ?_, fun x hx => by subst hx; cases h⟩ ⟨D1, β1, q1.trans st1, q2, q3⟩
              obtain ⟨D2, β2, t1, t2, t3⟩ := hs2
              obtain ⟨y2, hy2, hx2⟩ := t1.bext _ _ hb
              obtain ⟨lp2, m1, m2, m3, m4, m5, m6, m7, m8⟩ := loop_set t1.heap hy2 ho2
              rw [hx2.1] at m1 m8
              cases e with
              | normal =>
                simp only [Option.some.injEq, Prod.mk.injEq] at h
                obtain ⟨rfl, rfl⟩ := h
                exact ⟨_, _, run_endRound none m1, .inl ⟨_, D2, β2, rfl, t1.trans (m8 .ready none), .d .bool⟩⟩
              | exit id =>
                simp only [Option.some.injEq, Prod.mk.injEq] at h
                obtain ⟨rfl, rfl⟩ := h
                exact ⟨_, _, run_endRound (some (.exit id)) m1, .inl ⟨_, D2, β2, rfl, t1.trans (m8 .done (some (.exit id))), .d .bool⟩⟩
              | goto l =>
                simp only [Option.some.injEq, Prod.mk.injEq] at h
                obtain ⟨rfl, rfl⟩ := h
                exact ⟨_, _, run_endRound (some (.goto l)) m1, .inl ⟨_, D2, β2, rfl, t1.trans (m8 .done (some (.goto l))), .d .bool⟩⟩
              | pan x => cases h
              | ret =>
                simp only [Option.some.injEq, Prod.mk.injEq] at h
                obtain ⟨rfl, rfl⟩ := h
                exact ⟨_, _, run_endRound (some .ret) m1, .inl ⟨_, D2, β2, rfl, t1.trans (m8 .done (some .ret)), .d .bool⟩⟩
            · cases h
          · cases h
        · cases h
      · cases h
    · cases h
  · cases h

end
end Go.Av

/-
  The abstract layer, part ZB: calls without references; the handler of a program's functions.
-/
import Derived.Test.YtkehiddekhlfaaaZA
noncomputable section
namespace Go.Av
open Go

section
variable {P : Program} {E : PT Ty} {H : Hd}

theorem Heap.bare {D : DMap} {β : List Bi} {objs : List Ob} {w : World} (h : Heap D β objs w) : Heap D [] [] w :=
  ⟨h.dh, rfl, fun i bi ob hb => by simp at hb, fun i j bi bj oi oj b hb => by simp at hb⟩

theorem not_own_nil {b : Nat} : ¬ Own [] [] b := by
  rintro ⟨i, bi, ob, h, _⟩
  simp at h

/-- What goes on in a memory of its own leaves the rest. -/
theorem Step.bare {D D' : DMap} {β β' : List Bi} {objs objs' : List Ob} {w w' : World} (hp : Heap D β objs w) (h : Step D [] [] w D' β' objs' w') : Step D β objs w D' β objs w' where
  dsub := h.dsub
  dnew ad v h1 h2 := (h.dnew ad v h1 h2).imp (fun h => absurd h not_own_nil) id
  bext i x hx := ⟨x, hx, BiExt.refl x⟩
  heap := {
    dh := h.heap.dh
    len := hp.len
    hold := fun i bi ob hb ho => (hp.hold i bi ob hb ho).mono h.dsub (fun i x hx => ⟨x, hx, BiExt.refl x⟩)
      (fun ad v h1 h2 e => by
        have hlt := hp.own_lt ⟨i, bi, ob, hb, ho, e⟩
        rcases h.dnew ad v h1 h2 with h | h
        · exact not_own_nil h
        · omega)
      (fun b hb' => h.keep b (hp.own_lt ⟨i, bi, ob, hb, ho, hb'⟩) not_own_nil)
    disj := hp.disj }
  size := h.size
  keep k hk _ := h.keep k hk not_own_nil
  os := h.os
  tape := h.tape
  output := h.output
  ownn b hb := .inl hb

theorem allM_ok {α β : Type} {f : α → Option β} : ∀ {l : List α} {r : List β}, allM f l = some r → r.length = l.length ∧ ∀ (j : Nat) y, r[j]? = some y → ∃ x, l[j]? = some x ∧ f x = some y
  | [], r, h => by simp only [allM, Option.some.injEq] at h; subst h; exact ⟨rfl, fun j y hy => by simp at hy⟩
  | a :: l, r, h => by
    simp only [allM] at h
    split at h
    · rename_i x r' h1 h2
      simp only [Option.some.injEq] at h
      subst h
      obtain ⟨h3, h4⟩ := allM_ok h2
      refine ⟨by simp [h3], fun j y hy => ?_⟩
      cases j with
      | zero => simp at hy; subst hy; exact ⟨a, rfl, h1⟩
      | succ j => exact h4 j y (by simpa using hy)
    · cases h

def goneVec : Ob → Ob
  | .vec _ _ _ _ _ => .gone
  | o => o

/-- The cells of rows that may be written, as memory that never changes. -/
def VecAt (β : List Bi) (objs : List Ob) (ad : Addr) : Prop :=
  ad.spot = none ∧ ∃ (i : Nat), ∃ bi ty ag sz n cs a cap, β[i]? = some bi ∧ objs[i]? = some (.vec ty ag sz n cs) ∧ bi.hist 0 = some (some a, cap) ∧ bi.blk = ad.block ∧ ad.off < cs.length

open Classical in
noncomputable def frzD (D : DMap) (β : List Bi) (objs : List Ob) (w : World) : DMap := fun ad => if VecAt β objs ad then w.cell? ad else D ad

theorem frz_step {D : DMap} {β : List Bi} {objs : List Ob} {w : World} (h : Heap D β objs w) : Step D β objs w (frzD D β objs w) β (objs.map goneVec) w := by
  have vec : ∀ ad, VecAt β objs ad → Own β objs ad.block ∧ D ad = none ∧ ∃ v, w.cell? ad = some v ∧ v.oneCell' = true := by
    rintro ⟨b, o, sp⟩ ⟨hsp, i, bi, ty, ag, sz, n, cs, a, cap, h1, h2, h3, h4, h5⟩
    simp only at hsp h4 h5
    subst hsp
    obtain ⟨a', cap', k1, k2, k3, k4, k5, k6⟩ := h.hold i bi _ h1 h2
    rw [h3] at k1
    simp only [Option.some.injEq, Prod.mk.injEq] at k1
    obtain ⟨rfl, rfl⟩ := k1
    obtain ⟨rfl, vs, T, ⟨g1, _⟩, g2, g3, g4, g5⟩ := k6 _ rfl
    have hmul : n * sz ≤ cap * sz := Nat.mul_le_mul_right _ k2
    have hlt : o < vs.size := by omega
    subst h4
    refine ⟨⟨i, bi, _, h1, h2, by simp [ownOf, h3]⟩, g5 _ rfl, vs[o], ?_, g4 o _ (by simp [hlt])⟩
    rw [cell_of_blk g1]; simp [hlt]
  have sub : ∀ ad v, D ad = some v → frzD D β objs w ad = some v := fun ad v hd => by
    unfold frzD
    rw [if_neg (fun hv => by rw [(vec ad hv).2.1] at hd; cases hd)]; exact hd
  have new : ∀ ad v, frzD D β objs w ad = some v → D ad = none → VecAt β objs ad ∧ w.cell? ad = some v := fun ad v h1 h2 => by
    unfold frzD at h1
    split at h1
    · rename_i hv; exact ⟨hv, h1⟩
    · rw [h2] at h1; cases h1
  have get : ∀ (i : Nat) o, (objs.map goneVec)[i]? = some o → ∃ o', objs[i]? = some o' ∧ o = goneVec o' := fun i o ho => by
    simp only [List.getElem?_map, Option.map_eq_some_iff] at ho
    obtain ⟨o', h1, h2⟩ := ho
    exact ⟨o', h1, h2.symm⟩
  have own : ∀ (bi : Bi) o b, ownOf bi (goneVec o) = some b → goneVec o = o ∧ ownOf bi o = some b := fun bi o b hb => by
    cases o <;> first | exact ⟨rfl, hb⟩ | cases hb
  refine ⟨sub, fun ad v h1 h2 => .inl (vec ad (new ad v h1 h2).1).1, fun i x hx => ⟨x, hx, BiExt.refl x⟩, ⟨fun ad v hv => ?_, by simp [h.len], fun i bi o h1 h2 => ?_, fun i j bi bj oi oj b h1 h2 h3 h4 h5 h6 => ?_⟩,
    Nat.le_refl _, fun _ _ _ => rfl, rfl, rfl, rfl, ?_⟩
  · cases h0 : D ad with
    | some u =>
      have := sub ad u h0
      rw [this] at hv; cases hv
      exact h.dh ad _ h0
    | none =>
      obtain ⟨hv1, hv2⟩ := new ad v hv h0
      obtain ⟨_, _, u, e1, e2⟩ := vec ad hv1
      rw [e1] at hv2; cases hv2
      exact ⟨hv1.1, e2, e1⟩
  · obtain ⟨o', e1, rfl⟩ := get i o h2
    by_cases hg : goneVec o' = o'
    · rw [hg]
      refine (h.hold i bi o' h1 e1).mono sub (fun i x hx => ⟨x, hx, BiExt.refl x⟩) (fun ad v h3 h4 h5 => ?_) (fun b _ => rfl)
      obtain ⟨⟨hsp, j, bj, ty, ag, sz, n, cs, a, cap, q1, q2, q3, q4, q5⟩, _⟩ := new ad v h3 h4
      have : i = j := h.disj i j bi bj o' _ ad.block h1 q1 e1 q2 h5 (by
        obtain ⟨a', cap', k1, k2, k3, k4, k5, k6⟩ := h.hold j bj _ q1 q2
        rw [q3] at k1
        simp only [Option.some.injEq, Prod.mk.injEq] at k1
        obtain ⟨rfl, rfl⟩ := k1
        obtain ⟨rfl, _⟩ := k6 _ rfl
        simp [ownOf, q3, q4])
      subst this
      rw [e1] at q2; cases q2
      cases hg
    · cases o' <;> first | trivial | exact absurd rfl hg
  · obtain ⟨oi', e1, rfl⟩ := get i oi h3
    obtain ⟨oj', e2, rfl⟩ := get j oj h4
    exact h.disj i j bi bj oi' oj' b h1 h2 e1 e2 (own _ _ _ h5).2 (own _ _ _ h6).2
  · rintro b ⟨i, bi, o, h1, h2, h3⟩
    obtain ⟨o', e1, rfl⟩ := get i o h2
    exact .inl ⟨i, bi, o', h1, e1, (own _ _ _ h3).2⟩

theorem dvOf_ok {D : DMap} {β : List Bi} {objs : List Ob} {w : World} (h : Heap D β objs w) : ∀ (k : Nat) (x : AV) (y : DV) (v : Value), dvOf objs k x = some y → RepA D β x v → RepD (frzD D β objs w) y v := by
  have st := frz_step h
  intro k
  induction k with
  | zero =>
    intro x y v hx hr
    cases x <;> simp only [dvOf, Option.some.injEq, reduceCtorEq] at hx
    · subst hx; cases hr with | d h => exact st.repD h
    · subst hx; cases hr with | sr _ _ h => exact st.repD h
  | succ k ih =>
    intro x y v hx hr
    cases x with
    | d x => simp only [dvOf, Option.some.injEq] at hx; subst hx; cases hr with | d h => exact st.repD h
    | sr i sz es => simp only [dvOf, Option.some.injEq] at hx; subst hx; cases hr with | sr _ _ h => exact st.repD h
    | agg cs =>
      simp only [dvOf, Option.map_eq_some_iff] at hx
      obtain ⟨ds, hds, rfl⟩ := hx
      obtain ⟨h1, h2⟩ := allM_ok hds
      cases hr with
      | agg h3 h4 h5 =>
        refine .agg (by rw [h3, h1]) h4 (fun j c v hc hv => ?_)
        obtain ⟨x, hx, hf⟩ := h2 j c hc
        exact ih x c v hf (h5 j x v hx hv)
    | vs i sz lo len =>
      simp only [dvOf] at hx
      split at hx
      · rename_i ty ag szr n cs ho
        split at hx
        · rename_i hcond
          simp only [Option.map_eq_some_iff] at hx
          obtain ⟨ds, hds, rfl⟩ := hx
          simp only [Bool.and_eq_true, Bool.or_eq_true] at hcond
          obtain ⟨⟨⟨h1, h2⟩, h3⟩, h4⟩ := hcond
          have h1 := Nat.eq_of_beq_eq_true h1
          have h2 := Nat.le_of_ble_eq_true h2
          have h3 := Nat.le_of_ble_eq_true h3
          have ha : ag = true ∨ sz = 1 := h4.imp id (fun h => Nat.eq_of_beq_eq_true h)
          subst h1
          obtain ⟨l1, l2⟩ := allM_ok hds
          cases hr with
          | @vs _ _ _ _ cap c bi a ad hb hh hle hm hn hx0 =>
            obtain ⟨a', cap', k1, k2, k3, k4, k5, k6⟩ := h.hold i bi _ hb ho
            rw [hh] at k1
            simp only [Option.some.injEq, Prod.mk.injEq] at k1
            obtain ⟨rfl, rfl⟩ := k1
            have hmul : lo * szr + len * szr ≤ n * szr := by rw [← Nat.add_mul]; exact Nat.mul_le_mul_right _ h2
            have hmul2 : n * szr ≤ cap * szr := Nat.mul_le_mul_right _ k2
            have hdl : ds.length = len * szr := by rw [l1]; simp; omega
            have hcl : (chunk ag szr len ds).length = len := chunk_length _ _ _ _
            by_cases h0 : len = 0
            · subst h0
              refine .sl (es := chunk ag szr 0 ds) [] (by simp [chunk]) hm (by simp [chunk]) (fun e => ⟨rfl, hn.2.1 e⟩) (by simp [chunk, flatD]) (fun ad e => ⟨.inr (hn.2.2 ad e), by simp⟩) (by simp)
            · obtain ⟨rfl, hcap⟩ := hx0 (.inr (by omega))
              cases a with
              | none => have := hn.1 rfl; omega
              | some a0 =>
                obtain ⟨rfl, vs, T, ⟨g1, _⟩, g2, g3, g4, g5⟩ := k6 a0 rfl
                have hdc : DCells (frzD D β objs w) ds ((vs.toList.drop (lo * szr)).take (len * szr)) := by
                  refine ⟨by simp; omega, fun j v hv => ?_, fun j c v hc hv => ?_⟩
                  · obtain ⟨hv, _⟩ := getElem?_take_of hv
                    rw [List.getElem?_drop] at hv
                    exact g4 _ v (by simpa using hv)
                  · obtain ⟨hv, hj⟩ := getElem?_take_of hv
                    rw [List.getElem?_drop] at hv
                    obtain ⟨x, hx, hf⟩ := l2 j c hc
                    obtain ⟨hx, _⟩ := getElem?_take_of hx
                    rw [List.getElem?_drop] at hx
                    exact ih x c v hf (g3 _ _ v hx (by simpa using hv))
                obtain ⟨f1, f2⟩ := chunk_flat ha len ds (by omega) hdc.one
                rw [List.take_of_length_le (by omega)] at f1
                have := sl_of (D := frzD D β objs w) (b := bi.blk) (off := lo * szr) (cap := c) f2 (by rw [hcl]; exact hle) hm (by rw [f1]; exact hdc) (fun j v hv => by
                  obtain ⟨hv, hj⟩ := getElem?_take_of hv
                  rw [List.getElem?_drop] at hv
                  unfold frzD
                  rw [if_pos ⟨rfl, i, bi, ty, ag, szr, n, cs, _, cap, hb, ho, hh, rfl, by simp only; omega⟩, cell_of_blk g1]
                  simpa using hv)
                rw [hcl] at this
                simpa using this
        · cases hx
      · cases hx
    | _ => cases hx

theorem closeA_ok {D : DMap} {β : List Bi} {objs : List Ob} {w : World} (hp : Heap D β objs w) {k : Nat} {x y : AV} {v : Value} (h : closeA objs k x = some y) (hr : RepA D β x v) (β' : List Bi) : RepA (frzD D β objs w) β' y v := by
  unfold closeA at h
  split at h
  · rename_i vs
    simp only [Option.map_eq_some_iff] at h
    obtain ⟨l, h, rfl⟩ := h
    obtain ⟨h1, h2⟩ := allM_ok h
    cases hr with
    | @tup _ us h3 h4 =>
      refine .tup (by rw [h3, h1]) (fun j c v hc hv => ?_)
      obtain ⟨x, hx, hf⟩ := h2 j c hc
      simp only [Option.map_eq_some_iff] at hf
      obtain ⟨d, hd, rfl⟩ := hf
      exact .d (dvOf_ok hp k x d v hd (h4 j x v hx hv))
  · cases hr
  · simp only [Option.map_eq_some_iff] at h
    obtain ⟨d, hd, rfl⟩ := h
    exact .d (dvOf_ok hp k _ d v hd hr)

theorem allF_reps {D : DMap} {β β' : List Bi} {args : List AV} {ds : List DV} (h : allF args = some ds) {vs : Array Value} (hr : Reps D β args vs) : Reps D β' (ds.map .d) vs := by
  obtain ⟨h1, h2⟩ := allF_rep (D := D) (β := β) h
  refine ⟨by rw [hr.1]; simp [h1], fun j c v hc hv => ?_⟩
  simp only [List.getElem?_map, Option.map_eq_some_iff] at hc
  obtain ⟨d, hd, rfl⟩ := hc
  exact .d (allF_at h hd (fun c hc => hr.2 j c v hc hv))

theorem pure_call {f : FuncId} {args : List AV} {ds : List DV} {r r' : AV} {objs' : List Ob} (hc : allF args = some ds) (h : ACall P f (ds.map .d) [] r objs') {k : Nat} (hr : closeA objs' k r = some r') (o : List Ob) : ACall P f args o r' o := by
  refine ⟨h.1, fun D β w vs hp hv => (h.2 D [] w vs hp.bare (allF_reps hc hv)).mono fun e w' he => ?_⟩
  rcases he with ⟨v, D', β', rfl, hs, hrep⟩ | ⟨x, v, D', β', rfl, rfl, hs, hrep⟩
  · exact .inl ⟨v, _, β, rfl, (hs.trans (frz_step hs.heap)).bare hp, closeA_ok hs.heap hr hrep β⟩
  · simp only [closeA, Option.some.injEq] at hr
    subst hr
    exact .inr ⟨x, v, _, β, rfl, rfl, (hs.trans (frz_step hs.heap)).bare hp, (frz_step hs.heap).repD hrep⟩

/-- What goes on in a memory of its own, over memory that does not change meanwhile. -/
theorem Step.aside {D D0 D' : DMap} {β β' : List Bi} {objs objs' : List Ob} {w w' : World} (hp : Heap D β objs w) (h : Step D0 [] [] w D' β' objs' w') : Step D β objs w D β objs w' where
  dsub _ _ h := h
  dnew _ _ h1 h2 := by rw [h2] at h1; cases h1
  bext i x hx := ⟨x, hx, BiExt.refl x⟩
  heap := {
    dh := fun ad v hd => by
      obtain ⟨a, b, c⟩ := hp.dh ad v hd
      exact ⟨a, b, by rw [cell_congr (w := w) (h.keep _ (hp.D_lt hd) not_own_nil)]; exact c⟩
    len := hp.len
    hold := fun i bi ob hb ho => (hp.hold i bi ob hb ho).mono (fun _ _ h => h) (fun i x hx => ⟨x, hx, BiExt.refl x⟩) (fun ad v h1 h2 => by rw [h2] at h1; cases h1)
      (fun b hb' => h.keep b (hp.own_lt ⟨i, bi, ob, hb, ho, hb'⟩) not_own_nil)
    disj := hp.disj }
  size := h.size
  keep k hk _ := h.keep k hk not_own_nil
  os := h.os
  tape := h.tape
  output := h.output
  ownn b hb := .inl hb

theorem flatDV_ok {D D' : DMap} : ∀ (k : Nat) (x : DV) (v : Value), flatDV k x = true → RepD D x v → RepD D' x v := by
  intro k
  induction k with
  | zero => intro x v h hr; cases hr <;> first | exact .bool | exact .int | exact .str (by assumption) | simp [flatDV] at h
  | succ k ih =>
    intro x v h hr
    cases hr with
    | bool => exact .bool
    | int => exact .int
    | str hs => exact .str hs
    | agg h1 h2 h3 =>
      simp only [flatDV, List.all_eq_true] at h
      exact .agg h1 h2 (fun j c v hc hv => ih c v (h c (List.mem_of_getElem? hc)) (h3 j c v hc hv))
    | _ => simp [flatDV] at h
theorem flatAV_ok {D D' : DMap} {β β' : List Bi} {x : AV} {v : Value} (h : flatAV x = true) (hr : RepA D β x v) : RepA D' β' x v := by
  unfold flatAV at h
  split at h
  · cases hr with | d hr => exact .d (flatDV_ok 8 _ _ h hr)
  · simp only [List.all_eq_true] at h
    cases hr with
    | tup h1 h2 =>
      refine .tup h1 (fun j c v hc hv => ?_)
      have := h c (List.mem_of_getElem? hc)
      split at this
      · have hr := h2 j _ v hc hv
        cases hr with | d hr => exact .d (flatDV_ok 8 _ _ this hr)
      · cases this
  · cases h

theorem lent_call {f : FuncId} {args : List AV} {objs : List Ob} {ds : List DV} {r : AV} {objs' : List Ob} (hd : allM (dvOf objs 8) args = some ds) (h : ACall P f (ds.map .d) [] r objs') (hf : flatAV r = true) : ACall P f args objs r objs := by
  refine ⟨h.1, fun D β w vs hp hv => ?_⟩
  have st := frz_step hp
  obtain ⟨l1, l2⟩ := allM_ok hd
  refine (h.2 (frzD D β objs w) [] w vs st.heap.bare ⟨by rw [hv.1]; simp [l1], fun j c v hc hv' => ?_⟩).mono fun e w' he => ?_
  · simp only [List.getElem?_map, Option.map_eq_some_iff] at hc
    obtain ⟨d, hd', rfl⟩ := hc
    obtain ⟨x, hx, hfx⟩ := l2 j d hd'
    exact .d (dvOf_ok hp 8 x d v hfx (hv.2 j x v hx hv'))
  · obtain ⟨v, D', β', rfl, hs, hrep⟩ := he.ret (by cases r <;> first | rfl | cases hf)
    exact .inl ⟨v, D, β, rfl, hs.aside hp, flatAV_ok hf hrep⟩

theorem hdl_ok (hE : EnvOK P E) (hm : P.follows .mixedOrders = true) {F : FuncId → Option FnI} (hF : FnsOK P F) (k : Nat) : ∀ n, HOK P (hdl E F k n)
  | 0 => ⟨fun _ _ _ _ _ h => (by cases h), fun _ _ _ _ h => (by cases h), fun _ _ _ _ _ h => (by cases h), fun _ _ _ _ _ h => (by cases h), fun _ _ _ _ _ _ h => (by cases h)⟩
  | n + 1 => by
    have ih := hdl_ok hE hm hF k n
    have call : ∀ {f : FuncId} {args : List AV} {objs : List Ob} {r : AV} {ob : Option (List Ob)}, ((evCall E F (hdl E F k n) k f args objs).map fun p => (p.1, some p.2)) = some (r, ob) → ∃ o, ob = some o ∧ ACall P f args objs r o := by
      intro f args objs r ob h
      simp only [Option.map_eq_some_iff, Prod.mk.injEq] at h
      obtain ⟨⟨a, b⟩, h, rfl, rfl⟩ := h
      exact ⟨_, rfl, evCall_ok hE ih hm hF h⟩
    refine ⟨fun f args objs r objs' h => ?_, fun f args objs r h o => ?_, fun i args objs r objs' h => evYield_ok hE ih hm h, fun f args objs r objs' h => evOpn_ok hE.ty hF (fun h => evCall_ok hE ih hm hF h) h, fun f args m objs m' objs' h => evDefer_ok hE ih hm hF h⟩
    · simp only [hdl, evBoth] at h
      split at h
      · obtain ⟨o, e, h⟩ := call h; cases e; exact h
      · split at h
        · split at h
          · simp at h
          · obtain ⟨o, e, h⟩ := call h; cases e; exact h
        · split at h
          · simp only [Option.map_eq_some_iff, Prod.mk.injEq, Option.some.injEq] at h
            obtain ⟨r', h, rfl, rfl⟩ := h
            unfold evLent at h
            split at h
            · rename_i ds hds
              split at h
              · rename_i r0 o0 he
                split at h
                · rename_i hfl
                  simp only [Option.some.injEq] at h
                  subst h
                  exact lent_call hds (evCall_ok hE ih hm hF he) hfl
                · cases h
              · cases h
            · cases h
          · obtain ⟨o, e, h⟩ := call h; cases e; exact h
    · simp only [hdl, evBoth] at h
      split at h
      · obtain ⟨o, e, h⟩ := call h; cases e
      split at h
      rotate_left
      · split at h
        · simp only [Option.map_eq_some_iff, Prod.mk.injEq] at h
          obtain ⟨_, _, _, h⟩ := h
          cases h
        · obtain ⟨o, e, h⟩ := call h; cases e
      · split at h
        · rename_i r' hr
          simp only [Option.some.injEq, Prod.mk.injEq, and_true] at h
          subst h
          unfold evPure at hr
          split at hr
          · rename_i hc
            split at hr
            · rename_i r0 o0 he
              exact pure_call hc (evCall_ok hE ih hm hF he) hr o
            · cases hr
          · cases hr
        · obtain ⟨o, e, h⟩ := call h; cases e

end
end Go.Av

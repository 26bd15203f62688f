/-
  The abstract layer, part D: the evaluator's operations on memory are sound (first part: variables, loads, stores, addresses).
-/
import Derived.Test.YtkehiddekhlfaaaC
noncomputable section
namespace Go.Av
open Go

structure TyOK1 (P : Program) (t : TypeId) (y : Ty) : Prop where
  und : P.underlying t = some y.desc
  info : ∃ i z, P.info? t = some i ∧ i.size = y.size ∧ i.bytes = y.bytes ∧ i.zero = some z ∧ z.cells.size = y.size ∧ y.zero.length = y.size ∧
    (∀ (j : Nat) c v, y.zero[j]? = some c → z.cells[j]? = some v → RepD (fun _ => none) c v) ∧ ∀ (j : Nat) v, z.cells[j]? = some v → v.oneCell' = true

def TyOK (P : Program) (E : PT Ty) : Prop := ∀ t y, E.get? t = some y → TyOK1 P t y

section
variable {P : Program} {w : World}
theorem run_underlying {t : TypeId} {d : TypeDesc} (h : P.underlying t = some d) : (underlying t).run P w = .ok d w := by simp [underlying, h]
theorem run_typeInfo {t : TypeId} {i : TypeInfo} (h : P.info? t = some i) : (typeInfo t).run P w = .ok i w := by simp [typeInfo, h]
theorem run_sizeOf {t : TypeId} {y : Ty} (h : TyOK1 P t y) : (sizeOf t).run P w = .ok y.size w := by
  obtain ⟨i, z, h1, h2, _⟩ := h.info
  simp [sizeOf, run_typeInfo h1, h2]
theorem run_isAgg {t : TypeId} {y : Ty} (h : TyOK1 P t y) : (isAgg t).run P w = .ok (isAggT y.desc) w := by
  unfold isAgg
  simp only [Sem.run_bind, run_underlying h.und, Result.andThen_ok]
  cases y.desc <;> rfl
end

def ValOK (P : Program) (D : DMap) (β : List Bi) (objs : List Ob) (w : World) (s : Sem Value) (r : R) : Prop :=
  ∀ av objs' c, r = some (av, objs', c) → c = true → ∃ v w' D' β', s.run P w = .ok v w' ∧ Step D β objs w D' β' objs' w' ∧ RepA D' β' av v
def UnitOK (P : Program) (D : DMap) (β : List Bi) (objs : List Ob) (w : World) (s : Sem Unit) (r : R) : Prop :=
  ∀ av objs' c, r = some (av, objs', c) → c = true → ∃ w' D' β', s.run P w = .ok () w' ∧ Step D β objs w D' β' objs' w' ∧ RepA D' β' av undef

theorem ValOK.none {P : Program} {D : DMap} {β : List Bi} {objs : List Ob} {w : World} {s : Sem Value} : ValOK P D β objs w s none := by
  intro av o c h; cases h

theorem ValOK.pure {P : Program} {D : DMap} {β : List Bi} {objs : List Ob} {w : World} (hp : Heap D β objs w) {s : Sem Value} {av : AV} {c : Bool}
    (h : c = true → ∃ v, s.run P w = .ok v w ∧ RepA D β av v) : ValOK P D β objs w s (some (av, objs, c)) := by
  intro av' o c' he hc
  simp only [Option.some.injEq, Prod.mk.injEq] at he
  obtain ⟨rfl, rfl, rfl⟩ := he
  obtain ⟨v, h1, h2⟩ := h hc
  exact ⟨v, w, D, β, h1, Step.refl hp, h2⟩

/-! ### Cells -/
theorem oneD_rep {D : DMap} {x : DV} {v : Value} (h : RepD D x v) (h1 : oneD x = true) : v.oneCell' = true := by
  cases h <;> first | rfl | simp [oneD] at h1
theorem oneA_rep {D : DMap} {β : List Bi} {x : AV} {v : Value} (h : RepA D β x v) (h1 : oneA x = true) : v.oneCell' = true := by
  cases h with
  | d h => exact oneD_rep h h1
  | _ => first | rfl | simp [oneA] at h1

/-- The cells of a known value. -/
theorem cells_rep {D : DMap} {β : List Bi} {x : AV} {v : Value} (h : RepA D β x v) (hk : knownA x = true) :
    v.cells.size = x.cells.length ∧ (∀ (j : Nat) c u, x.cells[j]? = some c → v.cells[j]? = some u → RepA D β c u) ∧ ∀ (j : Nat) u, v.cells[j]? = some u → u.oneCell' = true := by
  have single : ∀ {x : AV} {v : Value}, RepA D β x v → x.cells = [x] → v.cells = #[v] → v.oneCell' = true →
      v.cells.size = x.cells.length ∧ (∀ (j : Nat) c u, x.cells[j]? = some c → v.cells[j]? = some u → RepA D β c u) ∧ ∀ (j : Nat) u, v.cells[j]? = some u → u.oneCell' = true := by
    intro x v h hx hv h1
    rw [hx, hv]
    refine ⟨rfl, fun j c u hc hu => ?_, fun j u hu => ?_⟩
    · cases j with
      | zero => simp at hc hu; subst hc hu; exact h
      | succ j => simp at hc
    · cases j with
      | zero => simp at hu; subst hu; exact h1
      | succ j => simp at hu
  cases h with
  | @d y v hd =>
    cases hd with
    | any => simp [knownA] at hk
    | @agg cs vs hl h1 hr =>
      refine ⟨by simp [Value.cells, AV.cells, hl], fun j c u hc hu => ?_, h1⟩
      simp only [AV.cells, List.getElem?_map, Option.map_eq_some_iff] at hc
      obtain ⟨c', hc', rfl⟩ := hc
      exact .d (hr j c' u hc' hu)
    | bool => exact single (.d .bool) rfl rfl rfl
    | int => exact single (.d .int) rfl rfl rfl
    | str h => exact single (.d (.str h)) rfl rfl rfl
    | nilptr => exact single (.d .nilptr) rfl rfl rfl
    | nilfunc => exact single (.d .nilfunc) rfl rfl rfl
    | nilmap => exact single (.d .nilmap) rfl rfl rfl
    | niliface => exact single (.d .niliface) rfl rfl rfl
    | nilsl => exact single (.d .nilsl) rfl rfl rfl
    | sl vs a1 a2 a3 a4 a5 a6 a7 => exact single (.d (.sl vs a1 a2 a3 a4 a5 a6 a7)) rfl rfl rfl
    | ep vs a1 a2 a3 a4 => exact single (.d (.ep vs a1 a2 a3 a4)) rfl rfl rfl
    | fn a1 a2 a3 a4 => exact single (.d (.fn a1 a2 a3 a4)) rfl rfl rfl
    | iface a1 => exact single (.d (.iface a1)) rfl rfl rfl
  | bp h => exact single (.bp h) rfl rfl rfl
  | sr h hh hd => exact single (.sr h hh hd) rfl rfl rfl
  | bs h => exact single (.bs h) rfl rfl rfl
  | mp h => exact single (.mp h) rfl rfl rfl
  | fn a1 a2 a3 a4 => exact single (.fn a1 a2 a3 a4) rfl rfl rfl
  | agg hl h1 hr => exact ⟨by simp [Value.cells, AV.cells, hl], hr, h1⟩
  | tup _ _ => simp [knownA] at hk
  | yl h => exact single (.yl h) rfl rfl rfl
  | vs h hh hc hm hn hx => exact single (.vs h hh hc hm hn hx) rfl rfl rfl

theorem allD_some : ∀ {cs : List AV} {ds : List DV}, allD cs = some ds → cs = ds.map .d
  | [], ds, h => by simp [allD] at h; subst h; rfl
  | .d x :: r, ds, h => by
    simp only [allD, Option.map_eq_some_iff] at h
    obtain ⟨ds', h1, rfl⟩ := h
    rw [allD_some h1]; rfl
  | .bp _ _ :: _, _, h | .sr _ _ _ :: _, _, h | .bs _ _ _ _ :: _, _, h | .mp _ :: _, _, h | .fn _ _ _ :: _, _, h | .agg _ :: _, _, h | .tup _ :: _, _, h | .yl _ :: _, _, h | .vs _ _ _ _ :: _, _, h => by
    simp [allD] at h

/-- Data, and rows as they are now. -/
theorem allF_rep {D : DMap} {β : List Bi} : ∀ {cs : List AV} {ds : List DV}, allF cs = some ds → ds.length = cs.length ∧
    ∀ (j : Nat) c d v, cs[j]? = some c → ds[j]? = some d → RepA D β c v → RepD D d v
  | [], ds, h => by simp [allF] at h; subst h; exact ⟨rfl, fun j c d v hc => by simp at hc⟩
  | .d x :: r, ds, h => by
    simp only [allF, Option.map_eq_some_iff] at h
    obtain ⟨ds', h1, rfl⟩ := h
    obtain ⟨h2, h3⟩ := allF_rep (D := D) (β := β) h1
    refine ⟨by simp [h2], fun j c d v hc hd hr => ?_⟩
    cases j with
    | zero => simp at hc hd; subst hc hd; cases hr with | d h => exact h
    | succ j => exact h3 j c d v (by simpa using hc) (by simpa using hd) hr
  | .sr i sz es :: r, ds, h => by
    simp only [allF, Option.map_eq_some_iff] at h
    obtain ⟨ds', h1, rfl⟩ := h
    obtain ⟨h2, h3⟩ := allF_rep (D := D) (β := β) h1
    refine ⟨by simp [h2], fun j c d v hc hd hr => ?_⟩
    cases j with
    | zero => simp at hc hd; subst hc hd; cases hr with | sr _ _ h => exact h
    | succ j => exact h3 j c d v (by simpa using hc) (by simpa using hd) hr
  | .bp _ _ :: _, _, h | .bs _ _ _ _ :: _, _, h | .mp _ :: _, _, h | .fn _ _ _ :: _, _, h | .agg _ :: _, _, h | .tup _ :: _, _, h | .yl _ :: _, _, h | .vs _ _ _ _ :: _, _, h => by
    simp [allF] at h
theorem allF_at {D : DMap} {β : List Bi} {cs : List AV} {ds : List DV} (h : allF cs = some ds) {j : Nat} {d : DV} {v : Value} (hd : ds[j]? = some d) (hr : ∀ c, cs[j]? = some c → RepA D β c v) : RepD D d v := by
  obtain ⟨h1, h2⟩ := allF_rep (D := D) (β := β) h
  have hj : j < cs.length := by rw [← h1]; exact (List.getElem?_eq_some_iff.1 hd).1
  exact h2 j cs[j] d v (by simp [hj]) hd (hr _ (by simp [hj]))

/-- An aggregate out of cells. -/
theorem mkAgg_rep {D : DMap} {β : List Bi} {cs : List AV} {vs : Array Value} (h : vs.size = cs.length) (h1 : ∀ (j : Nat) v, vs[j]? = some v → v.oneCell' = true)
    (hr : ∀ (j : Nat) c v, cs[j]? = some c → vs[j]? = some v → RepA D β c v) : RepA D β (mkAgg cs) (.agg vs) := by
  unfold mkAgg
  cases ha : allD cs with
  | none => exact .agg h h1 hr
  | some ds =>
    have := allD_some ha
    subst this
    refine .d (.agg (by simpa using h) h1 (fun j c v hc hv => ?_))
    have := hr j (.d c) v (by simp [hc]) hv
    cases this with
    | d h => exact h

theorem RepD.zero {D : DMap} {c : DV} {v : Value} (h : RepD (fun _ => none) c v) : RepD D c v := h.mono (fun _ _ h => by cases h)

/-! ### Variables -/
section
variable {P : Program} {E : PT Ty} {D : DMap} {β : List Bi} {objs : List Ob} {w : World}

theorem push_box (hp : Heap D β objs w) {cs : List AV} {vs : Array Value} (T : TypeId) (hl : vs.size = cs.length) (h1 : ∀ (j : Nat) v, vs[j]? = some v → v.oneCell' = true)
    (hr : ∀ (j : Nat) c v, cs[j]? = some c → vs[j]? = some v → RepA D β c v) :
    Step D β objs w D (β ++ [⟨w.heap.size, fun _ => none⟩]) (objs ++ [.box cs]) (w.alloc (.cells vs T)) :=
  Step.push hp (fun k hk => alloc_keep w _ k hk) (by simp) rfl rfl rfl (fun _ _ h => h) (fun ad v h0 h2 => by rw [h2] at h0; cases h0)
    (fun b hb => by simp [ownOf] at hb; omega)
    ⟨vs, T, alloc_new w _, hl, fun j c v hc hv => (hr j c v hc hv).mono (fun _ _ h => h) ext_snoc, h1, fun ad ha => by
      cases hd : D ad with
      | none => rfl
      | some v => have := hp.D_lt hd; simp only at ha; omega⟩

theorem push_tb (hp : Heap D β objs w) {cs : List AV} {vs : Array Value} (T : TypeId) (hl : vs.size = cs.length) (h1 : ∀ (j : Nat) v, vs[j]? = some v → v.oneCell' = true)
    (hr : ∀ (j : Nat) c v, cs[j]? = some c → vs[j]? = some v → RepA D β c v) :
    Step D β objs w D (β ++ [⟨w.heap.size, fun _ => none⟩]) (objs ++ [.tb T cs]) (w.alloc (.cells vs T)) :=
  Step.push hp (fun k hk => alloc_keep w _ k hk) (by simp) rfl rfl rfl (fun _ _ h => h) (fun ad v h0 h2 => by rw [h2] at h0; cases h0)
    (fun b hb => by simp [ownOf] at hb; omega)
    ⟨vs, T, ⟨alloc_new w _, rfl⟩, hl, fun j c v hc hv => (hr j c v hc hv).mono (fun _ _ h => h) ext_snoc, h1, fun ad ha => by
      cases hd : D ad with
      | none => rfl
      | some v => have := hp.D_lt hd; simp only at ha; omega⟩

theorem newVar_run (t : TypeId) (v : Value) : (newVar t v).run P w = .ok ⟨w.heap.size, 0, none⟩ (w.alloc (.cells v.cells t)) := by
  simp [newVar, newRow]

theorem alloc_ok (hE : TyOK P E) (hp : Heap D β objs w) (t : TypeId) (old : Value) (ho : old = .tuple #[]) : ValOK P D β objs w (Instr.alloc t true old) (allocR E t objs) := by
  unfold allocR
  cases hy : E.get? t with
  | none => exact .none
  | some y =>
    obtain ⟨i, z, h1, h2, h3, h4, h5, h6, h7, h8⟩ := (hE t y hy).info
    intro av o c he _
    simp only at he
    split at he
    · simp only [pureR, Option.some.injEq, Prod.mk.injEq] at he
      obtain ⟨rfl, rfl, rfl⟩ := he
      refine ⟨_, _, D, _, ?_, push_tb hp (cs := y.zero.map .d) (vs := z.cells) t (by simp [h5, h6]) h8 (fun j c v hc hv => ?_), .bp (bi := ⟨w.heap.size, fun _ => none⟩) (by rw [← hp.len]; simp)⟩
      · subst ho; simp [Instr.alloc, zeroValue, run_typeInfo h1, h4, newVar_run]
      · simp only [List.getElem?_map, Option.map_eq_some_iff] at hc
        obtain ⟨c', hc', rfl⟩ := hc
        exact .d (h7 j c' v hc' hv).zero
    · simp only [pureR, Option.some.injEq, Prod.mk.injEq] at he
      obtain ⟨rfl, rfl, rfl⟩ := he
      refine ⟨_, _, D, _, ?_, push_box hp (cs := y.zero.map .d) (vs := z.cells) t (by simp [h5, h6]) h8 (fun j c v hc hv => ?_), .bp (bi := ⟨w.heap.size, fun _ => none⟩) (by rw [← hp.len]; simp)⟩
      · subst ho; simp [Instr.alloc, zeroValue, run_typeInfo h1, h4, newVar_run]
      · simp only [List.getElem?_map, Option.map_eq_some_iff] at hc
        obtain ⟨c', hc', rfl⟩ := hc
        exact .d (h7 j c' v hc' hv).zero

theorem box_ok (hp : Heap D β objs w) (t : TypeId) {x : AV} {v : Value} (hx : RepA D β x v) : ValOK P D β objs w (Instr.box t v) (boxR x objs) := by
  unfold boxR
  split
  · rename_i hk
    obtain ⟨h1, h2, h3⟩ := cells_rep hx hk
    intro av o c he _
    simp only [pureR, Option.some.injEq, Prod.mk.injEq] at he
    obtain ⟨rfl, rfl, rfl⟩ := he
    exact ⟨_, _, D, _, by simp [Instr.box, newVar_run], push_box hp t h1 h3 h2, .bp (bi := ⟨w.heap.size, fun _ => none⟩) (by rw [← hp.len]; simp)⟩
  · exact .none

theorem boxT_ok (hp : Heap D β objs w) (t : TypeId) {x : AV} {v : Value} (hx : RepA D β x v) : ValOK P D β objs w (Instr.box t v) (boxTR E t x objs) := by
  unfold boxTR
  split
  · split
    · rename_i hk
      obtain ⟨h1, h2, h3⟩ := cells_rep hx hk
      intro av o c he _
      simp only [pureR, Option.some.injEq, Prod.mk.injEq] at he
      obtain ⟨rfl, rfl, rfl⟩ := he
      exact ⟨_, _, D, _, by simp [Instr.box, newVar_run], push_tb hp t h1 h3 h2, .bp (bi := ⟨w.heap.size, fun _ => none⟩) (by rw [← hp.len]; simp)⟩
    · exact .none
  · exact box_ok hp t hx

theorem boxE_ok (hp : Heap D β objs w) (t : TypeId) {x : AV} {v : Value} (hx : RepA D β x v) : ValOK P D β objs w (Instr.box t v) (boxER x objs) := by
  unfold boxER
  split
  · rename_i hk
    obtain ⟨h1, h2, h3⟩ := cells_rep hx hk
    cases ha : allF x.cells with
    | none => exact .none
    | some ds =>
      intro av o c he _
      simp only [pureR, Option.some.injEq, Prod.mk.injEq] at he
      obtain ⟨rfl, rfl, rfl⟩ := he
      have hlen := (allF_rep (D := D) (β := β) ha).1
      have hst := Step.extNew hp v.cells v.cells.size t h3
      refine ⟨_, _, _, β, by simp only [Instr.box, newVar_run, Sem.run_bind, Result.andThen_ok, Sem.run_pure], hst, .d (.ep (ad := ⟨w.heap.size, 0, none⟩) v.cells.toList rfl (by simp [h1, hlen]) (fun j u hu => ?_) (fun j c u hc hu => ?_))⟩
      · simp only [Nat.zero_add]; exact extD_new (by rw [List.take_of_length_le (by simp)]; simpa using hu)
      · exact hst.repD (allF_at ha hc (fun c hc => h2 j c u hc (by simpa using hu)))
  · exact .none

theorem loadVar_agg {t : TypeId} {y : Ty} (hT : TyOK1 P t y) (ha : isAggT y.desc = true) (a : Addr) (vs : List Value) (hl : vs.length = y.size)
    (h : ∀ (j : Nat) v, vs[j]? = some v → w.cell? (a.add j) = some v) : (loadVar t a).run P w = .ok (.agg vs.toArray) w := by
  simp only [loadVar, Sem.run_bind, run_isAgg hT, Result.andThen_ok, ha, if_true, run_sizeOf hT, ← hl, run_loadCells P w a vs h, Sem.run_pure]
theorem loadVar_one {t : TypeId} {y : Ty} (hT : TyOK1 P t y) (ha : isAggT y.desc = false) (a : Addr) (v : Value) (h : w.cell? a = some v) : (loadVar t a).run P w = .ok v w := by
  simp [loadVar, run_isAgg hT, ha, h]

theorem box_cells (hp : Heap D β objs w) {i : Nat} {bi : Bi} {cs : List AV} (hb : β[i]? = some bi) (ho : objs[i]? = some (.box cs)) :
    ∃ vs T, w.heap[bi.blk]? = some (.cells vs T (0, 0)) ∧ vs.size = cs.length ∧ (∀ (j : Nat) c v, cs[j]? = some c → vs[j]? = some v → RepA D β c v) ∧
      (∀ (j : Nat) v, vs[j]? = some v → v.oneCell' = true) ∧ ∀ ad, ad.block = bi.blk → D ad = none := hp.hold i bi _ hb ho

/-- An object whose cells may be written: its block. -/
theorem ob_cells (hp : Heap D β objs w) {i : Nat} {bi : Bi} {ob : Ob} {cs : List AV} (hb : β[i]? = some bi) (ho : objs[i]? = some ob) (hc : obCells ob = some cs) :
    ∃ vs T, w.heap[bi.blk]? = some (.cells vs T (0, 0)) ∧ cs.length ≤ vs.size ∧ (∀ (j : Nat) c v, cs[j]? = some c → vs[j]? = some v → RepA D β c v) ∧
      (∀ (j : Nat) v, vs[j]? = some v → v.oneCell' = true) ∧ (∀ ad, ad.block = bi.blk → D ad = none) ∧ ownOf bi ob = some bi.blk ∧
      ∀ cs' vs', cs'.length = cs.length → vs'.size = vs.size → (∀ (j : Nat) c v, cs'[j]? = some c → vs'[j]? = some v → RepA D β c v) → (∀ (j : Nat) v, vs'[j]? = some v → v.oneCell' = true) →
        ownOf bi (obPut ob cs') = some bi.blk ∧ HoldsOb D β (putB w bi.blk (.cells vs' T (0, 0))) bi (obPut ob cs') := by
  have hh := hp.hold i bi _ hb ho
  cases ob with
  | box l =>
    cases hc
    obtain ⟨vs, T, g1, g2, g3, g4, g5⟩ := hh
    exact ⟨vs, T, g1, Nat.le_of_eq g2.symm, g3, g4, g5, rfl, fun cs' vs' h1 h2 h3 h4 => ⟨rfl, vs', T, putB_eq (lt_of_getElem? g1), by rw [h2, g2, h1], h3, h4, g5⟩⟩
  | tb ty l =>
    cases hc
    obtain ⟨vs, T, ⟨g1, g1t⟩, g2, g3, g4, g5⟩ := hh
    exact ⟨vs, T, g1, Nat.le_of_eq g2.symm, g3, g4, g5, rfl, fun cs' vs' h1 h2 h3 h4 => ⟨rfl, vs', T, ⟨putB_eq (lt_of_getElem? g1), g1t⟩, by rw [h2, g2, h1], h3, h4, g5⟩⟩
  | vec ty ag sz n l =>
    cases l with
    | nil => cases hc
    | cons c0 l =>
      cases hc
      obtain ⟨a, cap, k1, k2, k3, k4, k5, k6⟩ := hh
      cases a with
      | none =>
        have := k5 rfl
        subst this
        have : n = 0 := by omega
        subst this
        simp at k4
      | some ad =>
        obtain ⟨rfl, vs, T, ⟨g1, g1t⟩, g2, g3, g4, g5⟩ := k6 ad rfl
        have hmul : n * sz ≤ cap * sz := Nat.mul_le_mul_right _ k2
        refine ⟨vs, T, g1, by omega, g3, g4, g5, by simp [ownOf, k1], fun cs' vs' h1 h2 h3 h4 => ⟨by simp [ownOf, obPut, k1], ?_⟩⟩
        refine ⟨_, cap, k1, k2, k3, by rw [h1, k4], by simp, fun ad e => ?_⟩
        cases e
        exact ⟨rfl, vs', T, ⟨putB_eq (lt_of_getElem? g1), g1t⟩, by omega, h3, h4, g5⟩
  | _ => cases hc

/-- A value read off; nothing turns. -/
def ValP (P : Program) (D : DMap) (β : List Bi) (objs : List Ob) (w : World) (s : Sem Value) (r : R) : Prop :=
  ∀ av objs' c, r = some (av, objs', c) → objs' = objs ∧ (c = true → ∃ v, s.run P w = .ok v w ∧ RepA D β av v)
theorem ValP.none {s : Sem Value} : ValP P D β objs w s none := by
  intro av o c h; cases h
theorem ValP.pure (_ : Heap D β objs w) {s : Sem Value} {av : AV} {c : Bool} (h : c = true → ∃ v, s.run P w = .ok v w ∧ RepA D β av v) : ValP P D β objs w s (some (av, objs, c)) := by
  intro av' o c' he
  simp only [Option.some.injEq, Prod.mk.injEq] at he
  obtain ⟨rfl, rfl, rfl⟩ := he
  exact ⟨rfl, h⟩
theorem ValP.val (hp : Heap D β objs w) {s : Sem Value} {r : R} (h : ValP P D β objs w s r) : ValOK P D β objs w s r := by
  intro av o c he hc
  obtain ⟨rfl, h2⟩ := h av o c he
  obtain ⟨v, h3, h4⟩ := h2 hc
  exact ⟨v, w, D, β, h3, Step.refl hp, h4⟩

theorem load_val (hE : TyOK P E) (hp : Heap D β objs w) (t : TypeId) {x : AV} {v : Value} (hx : RepA D β x v) : ValP P D β objs w (Instr.loadAt t v) (loadR E t x objs) := by
  unfold loadR
  cases hy : E.get? t with
  | none => exact .none
  | some y =>
    have hT := hE t y hy
    cases hx with
    | @d z v hd =>
      cases hd with
      | @ep cs ad vs hs hv hD hr =>
        simp only
        cases ha : isAggT y.desc with
        | true =>
          simp only
          split
          · rename_i hle
            have hle' := Nat.le_of_ble_eq_true hle
            refine .pure hp (fun _ => ⟨_, ?_, .d (.agg (vs := (vs.take y.size).toArray) (by simp; omega) (fun j u hu => ?_) (fun j c u hc hu => ?_))⟩)
            · simp only [Instr.loadAt, Instr.sureAddr, Sem.run_bind, Sem.run_pure, Result.andThen_ok]
              refine loadVar_agg hT ha ad _ (by simp; omega) (fun j u hu => ?_)
              rw [List.getElem?_take] at hu
              split at hu
              · rw [addr_add hs]; exact hp.cell (hD j u hu)
              · cases hu
            · simp only [List.getElem?_toArray, List.getElem?_take] at hu
              split at hu
              · exact (hp.dh _ _ (hD j u hu)).2.1
              · cases hu
            · simp only [List.getElem?_toArray, List.getElem?_take] at hu hc
              split at hu
              · rename_i hj; rw [if_pos hj] at hc; exact hr j c u hc hu
              · cases hu
          · exact .none
        | false =>
          simp only
          cases cs with
          | nil => exact .none
          | cons c cs =>
            cases vs with
            | nil => simp at hv
            | cons u vs =>
              refine .pure hp (fun _ => ⟨u, ?_, .d (hr 0 c u rfl rfl)⟩)
              simp only [Instr.loadAt, Instr.sureAddr, Sem.run_bind, Sem.run_pure, Result.andThen_ok]
              refine loadVar_one hT ha ad u ?_
              have := hp.cell (hD 0 u rfl)
              obtain ⟨b, o, s⟩ := ad
              simp only at hs; subst hs
              simpa using this
      | _ => exact .none
    | @bp i off bi hb =>
      simp only
      cases ho : objs[i]? with
      | none => exact .none
      | some ob =>
        simp only
        cases hobc : obCells ob with
        | none => exact .none
        | some cs =>
          obtain ⟨vs, T, g1, g2, g3, g4, _⟩ := ob_cells hp hb ho hobc
          simp only
          cases ha : isAggT y.desc with
          | true =>
            simp only
            split
            · rename_i hle
              have hle' := Nat.le_of_ble_eq_true hle
              have hcell : ∀ (j : Nat) u, (((vs.toList.drop off).take y.size))[j]? = some u → vs[off + j]? = some u ∧ j < y.size := by
                intro j u hu
                rw [List.getElem?_take] at hu
                split at hu
                · rename_i hj; rw [List.getElem?_drop] at hu; exact ⟨by simpa using hu, hj⟩
                · cases hu
              refine .pure hp (fun _ => ⟨.agg ((vs.toList.drop off).take y.size).toArray, ?_, mkAgg_rep ?_ (fun j u hu => ?_) (fun j c u hc hu => ?_)⟩)
              · simp only [Instr.loadAt, Instr.sureAddr, Sem.run_bind, Sem.run_pure, Result.andThen_ok]
                refine loadVar_agg hT ha _ _ (by simp; omega) (fun j u hu => ?_)
                rw [addr_add rfl, cell_of_blk g1]; exact (hcell j u hu).1
              · simp; omega
              · exact g4 _ u (hcell j u (by simpa using hu)).1
              · have hu' := hcell j u (by simpa using hu)
                rw [List.getElem?_take, if_pos hu'.2, List.getElem?_drop] at hc
                exact g3 _ c u hc hu'.1
            · exact .none
          | false =>
            simp only
            cases hc : cs[off]? with
            | none => exact .none
            | some c =>
              have hlt : off < vs.size := by have := (List.getElem?_eq_some_iff.1 hc).1; omega
              refine .pure hp (fun _ => ⟨vs[off], ?_, g3 off c _ hc (by simp [hlt])⟩)
              simp only [Instr.loadAt, Instr.sureAddr, Sem.run_bind, Sem.run_pure, Result.andThen_ok]
              exact loadVar_one hT ha _ _ (by rw [cell_of_blk g1]; simp [hlt])
    | _ => exact .none

theorem load_ok (hE : TyOK P E) (hp : Heap D β objs w) (t : TypeId) {x : AV} {v : Value} (hx : RepA D β x v) : ValOK P D β objs w (Instr.loadAt t v) (loadR E t x objs) := (load_val hE hp t hx).val hp

theorem store_ok (hE : TyOK P E) (hp : Heap D β objs w) (t : TypeId) {x y : AV} {v u : Value} (hx : RepA D β x v) (hy : RepA D β y u) :
    UnitOK P D β objs w (Instr.storeAt t v u) (storeR E t x y objs) := by
  unfold storeR
  cases hty : E.get? t with
  | none => intro av o c he; cases he
  | some ty =>
    have hT := hE t ty hty
    cases hx with
    | @bp i off bi hb =>
      simp only
      cases ho : objs[i]? with
      | none => intro av o c he; cases he
      | some ob =>
        simp only
        cases hobc : obCells ob with
        | none => intro av o c he; cases he
        | some cs =>
          simp only
          split
          · rename_i hcond
            simp only [Bool.and_eq_true] at hcond
            obtain ⟨⟨hk, hlen⟩, hle⟩ := hcond
            have hlen' := Nat.eq_of_beq_eq_true hlen
            have hle' := Nat.le_of_ble_eq_true hle
            obtain ⟨k1, k2, k3⟩ := cells_rep hy hk
            obtain ⟨vs, T, g1, g2, g3, g4, g5, g6, g7⟩ := ob_cells hp hb ho hobc
            intro av o c he _
            simp only [pureR, Option.some.injEq, Prod.mk.injEq] at he
            obtain ⟨rfl, rfl, rfl⟩ := he
            have hsz : u.cells.toList.length = ty.size := by simp [k1, hlen']
            have hrun : (Instr.storeAt t (.pointer (some ⟨bi.blk, off, none⟩)) u).run P w = .ok () (putB w bi.blk (.cells (splice vs.toList off u.cells.toList).toArray T (0, 0))) := by
              simp only [Instr.storeAt, Instr.sureAddr, Sem.run_bind, Sem.run_pure, Result.andThen_ok, storeVar, run_sizeOf hT]
              rw [if_neg (by simp [k1, hlen'])]
              have := run_storeCells P bi.blk T ⟨bi.blk, off, none⟩ rfl rfl u.cells.toList 0 w vs g1 (by simp only [Nat.add_zero, hsz]; omega) (fun j x hj => k3 j x (by simpa using hj))
              simpa using this
            refine ⟨_, D, β, hrun, ?_, .d .any⟩
            have hput := g7 (cs.take off ++ y.cells ++ cs.drop (off + ty.size)) (splice vs.toList off u.cells.toList).toArray (by simp; omega) (by
              have := length_splice vs.toList off u.cells.toList (by simp only [hsz, Array.length_toList]; omega)
              simpa using this) (fun j c x hc hx' => ?_) (fun j x hx' => ?_)
            · exact Step.put hp hb ho g6 (fun b' hb' => by rw [hput.1] at hb'; exact (Option.some.inj hb').symm) g5 hput.2
            · have e : cs.take off ++ y.cells ++ cs.drop (off + ty.size) = splice cs off y.cells := by simp [splice, hlen']
              rw [e, getElem?_splice _ _ _ (by omega)] at hc
              simp only [List.getElem?_toArray] at hx'
              rw [getElem?_splice _ _ _ (by simp only [hsz, Array.length_toList]; omega), hsz] at hx'
              rw [hlen'] at hc
              split at hc
              · rename_i h1; rw [if_pos h1] at hx'; exact g3 j c x hc (by simpa using hx')
              · rename_i h1
                rw [if_neg h1] at hx'
                split at hc
                · rename_i h2; rw [if_pos h2] at hx'; exact k2 _ c x hc (by simpa using hx')
                · rename_i h2; rw [if_neg h2] at hx'; exact g3 j c x hc (by simpa using hx')
            · simp only [List.getElem?_toArray] at hx'
              rw [getElem?_splice _ _ _ (by simp only [hsz, Array.length_toList]; omega)] at hx'
              split at hx'
              · exact g4 j x (by simpa using hx')
              · split at hx'
                · exact k3 _ x (by simpa using hx')
                · exact g4 j x (by simpa using hx')
          · intro av o c he; cases he
    | _ => intro av o c he; cases he

theorem fieldAt_run {s : TypeId} {fs : Array Field} {f : Field} {k : Nat} {a : Addr} {y : Ty} (hu : P.underlying s = some (.struct fs)) (hf : fs[k]? = some f) (hT : TyOK1 P f.type y) (hz : y.size ≠ 0) :
    (Instr.fieldAt s (.pointer (some a)) k).run P w = .ok (.pointer (some (a.add f.offset))) w := by
  simp [Instr.fieldAt, run_underlying hu, hf, Instr.sureAddr, fieldPlace, run_sizeOf hT, hz]

theorem fieldAddr_ok (hE : TyOK P E) (hp : Heap D β objs w) (t : TypeId) (k : Nat) {x : AV} {v : Value} (hx : RepA D β x v) :
    ValOK P D β objs w (Instr.fieldAt t v k) (fieldAddrR E t x k objs) := by
  unfold fieldAddrR
  split
  · rename_i fs _ _ _ hty
    have hT := (hE t _ hty).und
    simp only at hT
    split
    · rename_i fd hfd
      split
      · rename_i yf hyf
        have hF := hE _ _ hyf
        split
        · exact .none
        · rename_i hz
          have hz' : yf.size ≠ 0 := fun e => hz (by rw [e]; rfl)
          cases hx with
          | @bp i off bi hb =>
            refine .pure hp (fun _ => ⟨_, fieldAt_run hT hfd hF hz', ?_⟩)
            rw [addr_add rfl]; exact .bp hb
          | @d z v hd =>
            cases hd with
            | @ep cs ad vs hs hv hD hr =>
              refine .pure hp (fun _ => ⟨_, fieldAt_run hT hfd hF hz', ?_⟩)
              rw [addr_add hs]
              refine .d (.ep (vs.drop fd.offset) rfl (by simp [hv]) (fun j u hu => ?_) (fun j c u hc hu => ?_))
              · rw [List.getElem?_drop] at hu
                have := hD _ u hu
                simpa [Nat.add_assoc] using this
              · rw [List.getElem?_drop] at hu hc; exact hr _ c u hc hu
            | _ => exact .none
          | _ => exact .none
      · exact .none
    · exact .none
  · exact .none
end

end Go.Av

/-
  The abstract layer, part I: soundness of the evaluator's operations, sixth part: slices that are built, append, conversions.
-/
import Derived.Test.YtkehiddekhlfaaaH
noncomputable section
namespace Go.Av
open Go

section
variable {P : Program} {E : PT Ty} {D : DMap} {β : List Bi} {objs : List Ob} {w : World}

/-- The cells of data, as values. -/
def DCells (D : DMap) (ds : List DV) (vs : List Value) : Prop :=
  vs.length = ds.length ∧ (∀ (j : Nat) v, vs[j]? = some v → v.oneCell' = true) ∧ ∀ (j : Nat) c v, ds[j]? = some c → vs[j]? = some v → RepD D c v

theorem DCells.of {ds : List DV} {vs : Array Value} (h : CellsOK D β (ds.map .d) vs) : DCells D ds vs.toList := by
  refine ⟨by simpa using h.1, fun j v hv => h.2.1 j v (by simpa using hv), fun j c v hc hv => ?_⟩
  have := h.2.2 j (.d c) v (by simp [hc]) (by simpa using hv)
  cases this with
  | d h => exact h
theorem DCells.ofF {cs : List AV} {ds : List DV} {vs : Array Value} (h : CellsOK D β cs vs) (hf : allF cs = some ds) : DCells D ds vs.toList := by
  have hl := (allF_rep (D := D) (β := β) hf).1
  exact ⟨by simpa [hl] using h.1, fun j v hv => h.2.1 j v (by simpa using hv), fun j c v hc hv => allF_at hf hc (fun c hc => h.2.2 j c v hc (by simpa using hv))⟩
theorem DCells.one {ds : List DV} {vs : List Value} (h : DCells D ds vs) : ∀ c, c ∈ ds → cellsD c = [c] := by
  intro c hc
  obtain ⟨j, hj, rfl⟩ := List.getElem_of_mem hc
  have hj' : j < vs.length := by rw [h.1]; exact hj
  exact cellsD_one (h.2.2 j _ vs[j] (by simp [hj]) (by simp [hj'])) (h.2.1 j _ (by simp [hj']))
theorem DCells.mono {D' : DMap} (hs : ∀ ad v, D ad = some v → D' ad = some v) {ds : List DV} {vs : List Value} (h : DCells D ds vs) : DCells D' ds vs :=
  ⟨h.1, h.2.1, fun j c v hc hv => (h.2.2 j c v hc hv).mono hs⟩
theorem DCells.append {ds ds' : List DV} {vs vs' : List Value} (h : DCells D ds vs) (k : DCells D ds' vs') : DCells D (ds ++ ds') (vs ++ vs') := by
  refine ⟨by simp [h.1, k.1], fun j v hv => ?_, fun j c v hc hv => ?_⟩
  · by_cases hj : j < vs.length
    · rw [List.getElem?_append_left hj] at hv; exact h.2.1 j v hv
    · rw [List.getElem?_append_right (by omega)] at hv; exact k.2.1 _ v hv
  · by_cases hj : j < vs.length
    · rw [List.getElem?_append_left hj] at hv; rw [List.getElem?_append_left (by rw [← h.1]; exact hj)] at hc; exact h.2.2 j c v hc hv
    · rw [List.getElem?_append_right (by omega)] at hv; rw [List.getElem?_append_right (by rw [← h.1]; omega), ← h.1] at hc; exact k.2.2 _ c v hc hv

/-- A slice over cells of D. -/
theorem sl_of {es : List DV} {sz cap : Nat} {b off : Nat} {vs : List Value} (hsz : ∀ e, e ∈ es → (cellsD e).length = sz) (hc : es.length ≤ cap) (hm : cap ≤ maxLen) (h : DCells D (flatD es) vs)
    (hD : ∀ (j : Nat) v, vs[j]? = some v → D ⟨b, off + j, none⟩ = some v) : RepD D (.sl sz es) (.slice (some ⟨b, off, none⟩) es.length cap) :=
  .sl vs hc hm hsz (by simp) h.1 (fun ad e => by cases e; exact ⟨.inr rfl, hD⟩) h.2.2

theorem getElem?_take_of {α : Type} {l : List α} {n j : Nat} {x : α} (h : (l.take n)[j]? = some x) : l[j]? = some x ∧ j < n := by
  rw [List.getElem?_take] at h
  split at h
  · rename_i hj; exact ⟨h, hj⟩
  · cases h

theorem fillA_length (place : Nat → Option (Nat × Nat)) : ∀ (parts : List (Nat × AV)) (cs cs' : List AV), fillA place cs parts = some cs' → cs'.length = cs.length
  | [], cs, cs', h => by simp [fillA] at h; rw [h]
  | (i, a) :: parts, cs, cs', h => by
    simp only [fillA] at h
    split at h
    · cases h
    · split at h
      · rename_i hc
        simp only [Bool.and_eq_true] at hc
        have h1 := Nat.eq_of_beq_eq_true hc.1.2
        have h2 := Nat.le_of_ble_eq_true hc.2
        rw [fillA_length place parts _ _ h]
        simp; omega
      · cases h

theorem buildSlice_ok (hE : TyOK P E) (hp : Heap D β objs w) (room : Bool) (t : TypeId) (len : Nat) {parts : List (Nat × AV)} {us : Array (Nat × Value)} (hr : PartsOK D β parts us) :
    ValOK P D β objs w (Instr.buildSlice t len us) (buildSliceR E room t len parts objs) := by
  unfold buildSliceR
  split
  · rename_i e _ _ _ hty
    have hu := (hE t _ hty).und
    simp only at hu
    split
    · rename_i z hz
      have hT := hE e z hz
      obtain ⟨i, zv, h1, h2, h3, h4, h5⟩ := zero_ok (D := D) (β := β) (w := w) hT
      split
      · rename_i hcond
        simp only [Bool.and_eq_true, Bool.or_eq_true] at hcond
        obtain ⟨⟨hb1, hb2⟩, hb3⟩ := hcond
        have hb1 := Nat.le_of_ble_eq_true hb1
        have hb2 := Nat.le_of_ble_eq_true hb2
        have hzl : 0 < (z.zero.map AV.d).length := by simp [h4]; omega
        have hzs := zeros_ok h3 hzl len
        have hsz : zv.cells.size = z.size := by rw [h3.1]; simp [h4]
        split
        · rename_i cs hfill
          obtain ⟨vs', k1, k2⟩ := fill_ok _ (fun i => some (i * z.size, z.size)) parts us.toList _ _ cs (by simpa using hr.1) (fun j p q hp hq => hr.2 j p q hp (by simpa using hq)) (fun i p hi => hi) hzs hfill
          rw [hsz] at k1
          split
          · rename_i ds hds
            have hdc := DCells.ofF k2 hds
            have hlen : ds.length = len * z.size := by
              have := fillA_length _ _ _ _ hfill
              rw [length_repeatL] at this
              rw [(allF_rep (D := D) (β := β) hds).1, this]
              simp [h4]
            have ha : isAggT z.desc = true ∨ z.size = 1 := by
              rcases hb3 with h | h
              · exact .inl h
              · exact .inr (Nat.eq_of_beq_eq_true h)
            obtain ⟨f1, f2⟩ := chunk_flat ha len ds (by omega) hdc.one
            rw [List.take_of_length_le (by omega)] at f1
            have hcl : (chunk (isAggT z.desc) z.size len ds).length = len := chunk_length _ _ _ _
            have hrun : (Instr.buildSlice t len us).run P w = .ok (.slice (some ⟨w.heap.size, 0, none⟩) len len) (w.alloc (.cells vs' e)) := by
              simp only [Instr.buildSlice, Sem.run_bind, run_underlying hu, Result.andThen_ok, run_sizeOf hT]
              rw [if_neg (by omega)]
              by_cases h0 : len * z.size = 0
              · rw [if_pos h0]
                have e0 : (Array.range (len * z.size)).map (fun x => (#[] : Array Value)[x % (#[] : Array Value).size]!) = (Array.range (len * z.size)).map (fun x => zv.cells[x % z.size]!) := by rw [h0]; simp
                simp only [Sem.run_bind, Sem.run_pure, Result.andThen_ok, e0, k1]
                simp [newRow]
              · rw [if_neg h0]
                simp only [Sem.run_bind, h2, Result.andThen_ok, Sem.run_pure, hsz, k1]
                simp [newRow]
            have hm : len ≤ maxLen := by
              have : len ≤ len * z.size := Nat.le_mul_of_pos_right _ (by omega)
              simp only [maxLen]; omega
            have hone : ∀ (j : Nat) v, vs'[j]? = some v → v.oneCell' = true := k2.2.1
            have hvl : vs'.size = len * z.size := by have := hdc.1; simp at this; omega
            have hst := Step.extNew hp vs' vs'.size e hone
            have hsl : RepD (extD D w.heap.size (vs'.toList.take vs'.size)) (.sl z.size (chunk (isAggT z.desc) z.size len ds)) (.slice (some ⟨w.heap.size, 0, none⟩) len len) := by
              have := sl_of (D := extD D w.heap.size (vs'.toList.take vs'.size)) (b := w.heap.size) (off := 0) (cap := len) f2 (by rw [hcl]; exact Nat.le_refl _) hm (by rw [f1]; exact hdc.mono hst.dsub) (fun j v hv => by
                rw [Nat.zero_add]; exact extD_new (by rw [List.take_of_length_le (by simp)]; exact hv))
              rw [hcl] at this; exact this
            intro av o c he _
            split at he
            · simp only [pureR, Option.some.injEq, Prod.mk.injEq] at he
              obtain ⟨rfl, rfl, rfl⟩ := he
              refine ⟨_, _, extD D w.heap.size (vs'.toList.take vs'.size), β ++ [⟨0, fun n => if n = len then some (some ⟨w.heap.size, 0, none⟩, len) else none⟩], hrun, ?_, ?_⟩
              · refine Step.push hp (fun k hk => alloc_keep w _ k hk) (by simp) rfl rfl rfl hst.dsub (fun ad v h1 h2 => ?_) (fun b hb => ?_) ?_
                · have := hst.heap.dh ad v h1
                  obtain ⟨e1, e2, e3⟩ := extD_inv h1 h2
                  exact ⟨by omega, this.1, this.2.1, this.2.2⟩
                · simp only [ownOf, if_pos, Option.bind_some] at hb
                  rw [show Nat.ble len len = true from Nat.ble_eq_true_of_le (Nat.le_refl _)] at hb
                  cases hb
                · refine ⟨some ⟨w.heap.size, 0, none⟩, len, by simp, fun m hm => by simp; omega, Nat.le_refl _, hm, by simp, fun ad e => ?_⟩
                  cases e
                  exact ⟨.inr rfl, fun h => absurd h (Nat.lt_irrefl _)⟩
              · have := RepA.sr (D := extD D w.heap.size (vs'.toList.take vs'.size)) (β := β ++ [⟨0, fun n => if n = len then some (some ⟨w.heap.size, 0, none⟩, len) else none⟩]) (i := objs.length) (sz := z.size)
                  (es := chunk (isAggT z.desc) z.size len ds) (a := some ⟨w.heap.size, 0, none⟩) (cap := len) (by rw [← hp.len]; simp; rfl) (by simp [hcl]) (by rw [hcl]; exact hsl)
                rw [hcl] at this; exact this
            · simp only [pureR, Option.some.injEq, Prod.mk.injEq] at he
              obtain ⟨rfl, rfl, rfl⟩ := he
              exact ⟨_, _, _, β, hrun, hst, .d hsl⟩
          · exact .none
        · exact .none
      · exact .none
    · exact .none
  · exact .none

theorem sl_src (hp : Heap D β objs w) {sz : Nat} {es : List DV} {a : Option Addr} {cap : Nat} (h : RepD D (.sl sz es) (.slice a es.length cap)) :
    ∃ vs : List Value, DCells D (flatD es) vs ∧ (∀ e, e ∈ es → (cellsD e).length = sz) ∧ (Builtin.lenOf (.slice a es.length cap)).run P w = .ok es.length w ∧
      (∀ size, (es = [] ∨ size = sz) → ∀ W : World, W.heap = w.heap → ∀ m, m ≤ es.length → (Builtin.firstCells size m (.slice a es.length cap)).run P W = .ok (vs.take (m * size)).toArray W) ∧
      ∀ ad, a = some ad → (cap = 0 ∨ ad.spot = none) ∧ ∀ (j : Nat) v, vs[j]? = some v → D ⟨ad.block, ad.off + j, none⟩ = some v := by
  cases h with
  | sl vs g1 g2 g3 g4 g5 g6 g7 =>
    refine ⟨vs, ⟨g5, fun j v hv => ?_, g7⟩, g3, rfl, fun size hsize W hW m hm => ?_, g6⟩
    · cases a with
      | none =>
        have := (g4 rfl).1; subst this
        simp [flatD] at g5; subst g5; simp at hv
      | some ad => exact (hp.dh _ _ ((g6 ad rfl).2 j v hv)).2.1
    · cases a with
      | none =>
        have := (g4 rfl).1; subst this
        simp [flatD] at g5; subst g5
        have : m = 0 := by simpa using hm
        subst this; simp [Builtin.firstCells]
      | some ad =>
        obtain ⟨k1, k2⟩ := g6 ad rfl
        have hlen : m * size ≤ vs.length := by
          rw [g5, flat_length g3]
          rcases hsize with rfl | rfl
          · have : m = 0 := by simpa using hm
            subst this; simp
          · exact Nat.mul_le_mul_right _ hm
        simp only [Builtin.firstCells]
        have := run_loadCells P W ad (vs.take (m * size)) (fun j v hv => by
          obtain ⟨hv, _⟩ := getElem?_take_of hv
          have k1 : ad.spot = none := k1.resolve_left (fun h0 => by
            have he : es = [] := List.length_eq_zero_iff.1 (by omega)
            subst he
            simp [flatD] at g5; subst g5; simp at hv)
          rw [addr_add k1, cell_congr (w := w) (by rw [hW])]; exact hp.cell (k2 j v hv))
        rw [List.length_take, Nat.min_eq_left hlen] at this
        exact this

/-- What append is given: its length, its cells. -/
theorem src_ok (hp : Heap D β objs w) {t : TypeId} {x : AV} {v : Value} (hx : RepA D β x v) {sz : Nat} {ys : List DV} (h : srcOf E t x objs = some (sz, ys)) :
    ∃ vs : List Value, DCells D (flatD ys) vs ∧ (∀ e, e ∈ ys → (cellsD e).length = sz) ∧ (Builtin.lenOf v).run P w = .ok ys.length w ∧
      ∀ size, (ys = [] ∨ size = sz) → ∀ W : World, W.heap = w.heap → ∀ m, m ≤ ys.length → (Builtin.firstCells size m v).run P W = .ok (vs.take (m * size)).toArray W := by
  have hsl : ∀ {sz : Nat} {es : List DV} {a : Option Addr} {cap : Nat}, RepD D (.sl sz es) (.slice a es.length cap) → ∃ vs : List Value, DCells D (flatD es) vs ∧ (∀ e, e ∈ es → (cellsD e).length = sz) ∧
      (Builtin.lenOf (.slice a es.length cap)).run P w = .ok es.length w ∧ ∀ size, (es = [] ∨ size = sz) → ∀ W : World, W.heap = w.heap → ∀ m, m ≤ es.length → (Builtin.firstCells size m (.slice a es.length cap)).run P W = .ok (vs.take (m * size)).toArray W := by
    intro sz es a cap h
    obtain ⟨vs, a1, a2, a3, a4, _⟩ := sl_src (P := P) hp h
    exact ⟨vs, a1, a2, a3, a4⟩
  unfold srcOf at h
  split at h
  · rename_i sz' es
    simp only [Option.some.injEq, Prod.mk.injEq] at h
    obtain ⟨rfl, rfl⟩ := h
    cases hx with
    | d hd =>
      cases hd with
      | sl vs g1 g2 g3 g4 g5 g6 g7 => exact hsl (.sl vs g1 g2 g3 g4 g5 g6 g7)
  · simp only [Option.some.injEq, Prod.mk.injEq] at h
    obtain ⟨rfl, rfl⟩ := h
    cases hx with
    | d hd =>
      cases hd
      exact ⟨[], ⟨rfl, by simp, by simp⟩, by simp, rfl, fun _ _ _ _ m hm => by
        have : m = 0 := by simpa using hm
        subst this; simp [Builtin.firstCells]⟩
  · rename_i i sz' es
    simp only [Option.some.injEq, Prod.mk.injEq] at h
    obtain ⟨rfl, rfl⟩ := h
    cases hx with
    | sr g1 g2 hd => exact hsl hd
  · rename_i b off len cap
    split at h
    · rename_i e _ _ _ hty
      split at h
      · rename_i z cs hz ho
        split at h
        · rename_i hcond
          simp only [Option.map_eq_some_iff, Prod.mk.injEq] at h
          obtain ⟨ds, hds, rfl, rfl⟩ := h
          simp only [Bool.and_eq_true, Bool.or_eq_true] at hcond
          obtain ⟨⟨h1, h2⟩, h3⟩ := hcond
          have h1 := Nat.le_of_ble_eq_true h1
          have ha : isAggT z.desc = true ∨ z.size = 1 := by
            rcases h3 with h | h
            · exact .inl h
            · exact .inr (Nat.eq_of_beq_eq_true h)
          cases hx with
          | @bs _ _ _ _ bi hb =>
            obtain ⟨vs, T, g1, g2, g3, g4, _⟩ := box_cells hp hb ho
            have hdl : ds.length = len * z.size := by
              rw [(allF_rep (D := D) (β := β) hds).1]
              simp; omega
            have hdc : DCells D ds ((vs.toList.drop off).take (len * z.size)) := by
              refine ⟨by simp; omega, fun j v hv => ?_, fun j c v hc hv => ?_⟩
              · obtain ⟨hv, _⟩ := getElem?_take_of hv
                rw [List.getElem?_drop] at hv
                exact g4 _ v (by simpa using hv)
              · obtain ⟨hv, hj⟩ := getElem?_take_of hv
                rw [List.getElem?_drop] at hv
                refine allF_at (β := β) hds hc (fun c' hc' => ?_)
                obtain ⟨hc', _⟩ := getElem?_take_of hc'
                rw [List.getElem?_drop] at hc'
                exact g3 _ _ v hc' (by simpa using hv)
            obtain ⟨f1, f2⟩ := chunk_flat ha len ds (by omega) hdc.one
            rw [List.take_of_length_le (by omega)] at f1
            have hcl : (chunk (isAggT z.desc) z.size len ds).length = len := chunk_length _ _ _ _
            refine ⟨_, by rw [f1]; exact hdc, f2, by rw [hcl]; rfl, fun size hsize W hW m hm => ?_⟩
            rw [hcl] at hm
            have hsize' : m * size ≤ len * z.size := by
              rcases hsize with h | h
              · have : len = 0 := by rw [← hcl, h]; rfl
                have : m = 0 := by omega
                subst this; simp
              · rw [h]; exact Nat.mul_le_mul_right _ hm
            simp only [Builtin.firstCells]
            have hl2 : (((vs.toList.drop off).take (len * z.size)).take (m * size)).length = m * size := by simp; omega
            have := run_loadCells P W ⟨bi.blk, off, none⟩ (((vs.toList.drop off).take (len * z.size)).take (m * size)) (fun j v hv => by
              obtain ⟨hv, _⟩ := getElem?_take_of hv
              obtain ⟨hv, _⟩ := getElem?_take_of hv
              rw [List.getElem?_drop] at hv
              rw [addr_add rfl, cell_congr (w := w) (by rw [hW]), cell_of_blk g1]; simpa using hv)
            rw [hl2] at this; exact this
        · cases h
      · cases h
    · cases h
  · rename_i b sz0 lo len
    split at h
    · rename_i ag szr n cs ho
      split at h
      · rename_i hcond
        simp only [Option.map_eq_some_iff, Prod.mk.injEq] at h
        obtain ⟨ds, hds, rfl, rfl⟩ := h
        simp only [Bool.and_eq_true, Bool.or_eq_true] at hcond
        obtain ⟨⟨⟨h1, h2⟩, h3⟩, h4⟩ := hcond
        have h1 := Nat.eq_of_beq_eq_true h1
        have h2 := Nat.le_of_ble_eq_true h2
        have h3 := Nat.le_of_ble_eq_true h3
        have ha : ag = true ∨ szr = 1 := h4.imp id (fun h => by rw [h1]; exact Nat.eq_of_beq_eq_true h)
        subst h1
        cases hx with
        | @vs _ _ _ _ cap c bi a ad hb hh hle hm hn hx0 =>
          obtain ⟨a', cap', k1, k2, k3, k4, k5, k6⟩ := hp.hold b bi _ hb ho
          rw [hh] at k1
          simp only [Option.some.injEq, Prod.mk.injEq] at k1
          obtain ⟨rfl, rfl⟩ := k1
          have hmul : lo * szr + len * szr ≤ n * szr := by rw [← Nat.add_mul]; exact Nat.mul_le_mul_right _ h2
          have hmul2 : n * szr ≤ cap * szr := Nat.mul_le_mul_right _ k2
          have hdl : ds.length = len * szr := by
            rw [(allF_rep (D := D) (β := β) hds).1]
            simp; omega
          have hcl : (chunk ag szr len ds).length = len := chunk_length _ _ _ _
          by_cases h0 : len = 0
          · subst h0
            have : ds = [] := List.length_eq_zero_iff.1 (by simpa using hdl)
            subst this
            refine ⟨[], ⟨rfl, by simp, by simp [chunk, flatD]⟩, by simp [chunk], rfl, fun size _ W _ m hm => ?_⟩
            have : m = 0 := by simpa [chunk] using hm
            subst this
            cases ad with
            | none => simp [Builtin.firstCells]
            | some ad => simp [Builtin.firstCells, loadCells, loadCellsFrom]
          · cases a with
            | none => have := k5 rfl; subst this; omega
            | some a0 =>
              obtain ⟨rfl, vs, T, ⟨g1, _⟩, g2, g3, g4, g5⟩ := k6 a0 rfl
              obtain ⟨rfl, _⟩ := hx0 (.inr (by omega))
              have hdc : DCells D ds ((vs.toList.drop (lo * szr)).take (len * szr)) := by
                refine ⟨by simp; omega, fun j v hv => ?_, fun j c v hc hv => ?_⟩
                · obtain ⟨hv, _⟩ := getElem?_take_of hv
                  rw [List.getElem?_drop] at hv
                  exact g4 _ v (by simpa using hv)
                · obtain ⟨hv, hj⟩ := getElem?_take_of hv
                  rw [List.getElem?_drop] at hv
                  refine allF_at (β := β) hds hc (fun c' hc' => ?_)
                  obtain ⟨hc', _⟩ := getElem?_take_of hc'
                  rw [List.getElem?_drop] at hc'
                  exact g3 _ _ v hc' (by simpa using hv)
              obtain ⟨f1, f2⟩ := chunk_flat ha len ds (by omega) hdc.one
              rw [List.take_of_length_le (by omega)] at f1
              refine ⟨_, by rw [f1]; exact hdc, f2, by rw [hcl]; rfl, fun size hsize W hW m hm => ?_⟩
              rw [hcl] at hm
              have hsize' : m * size ≤ len * szr := by
                rcases hsize with h | h
                · have : len = 0 := by rw [← hcl, h]; rfl
                  omega
                · rw [h]; exact Nat.mul_le_mul_right _ hm
              simp only [Builtin.firstCells, Option.map_some]
              have hl2 : (((vs.toList.drop (lo * szr)).take (len * szr)).take (m * size)).length = m * size := by simp; omega
              have := run_loadCells P W ⟨bi.blk, lo * szr, none⟩ (((vs.toList.drop (lo * szr)).take (len * szr)).take (m * size)) (fun j v hv => by
                obtain ⟨hv, _⟩ := getElem?_take_of hv
                obtain ⟨hv, _⟩ := getElem?_take_of hv
                rw [List.getElem?_drop] at hv
                rw [addr_add rfl, cell_congr (w := w) (by rw [hW]), cell_of_blk g1]; simpa using hv)
              rw [hl2] at this; exact this
      · cases h
    · cases h
  · rename_i s
    simp only [Option.some.injEq, Prod.mk.injEq] at h
    obtain ⟨rfl, rfl⟩ := h
    cases hx with
    | d hd =>
      cases hd with
      | @str _ b hs =>
        have hflat : flatD (s.map fun (n : Nat) => DV.int .u8 n) = s.map fun (n : Nat) => DV.int .u8 n := by
          generalize s = s'
          induction s' with
          | nil => rfl
          | cons a r ih => simp only [List.map_cons, flatD, List.flatMap_cons] at ih ⊢; rw [ih]; rfl
        refine ⟨b.data.toList.map fun x => Value.int .u8 x.toNat, ⟨?_, fun j v hv => ?_, fun j c v hc hv => ?_⟩, ?_, ?_, fun size hsize W _ m hm => ?_⟩
        · rw [hflat, hs]; simp
        · simp only [List.getElem?_map, Option.map_eq_some_iff] at hv
          obtain ⟨x, _, rfl⟩ := hv; rfl
        · rw [hflat, hs] at hc
          simp only [List.getElem?_map, Option.map_eq_some_iff] at hv hc
          obtain ⟨x, hx, rfl⟩ := hv
          obtain ⟨n, ⟨y, hy, rfl⟩, rfl⟩ := hc
          rw [hx] at hy; cases hy
          exact .int
        · intro e he
          simp only [List.mem_map] at he
          obtain ⟨n, _, rfl⟩ := he; rfl
        · have : (s.map fun (n : Nat) => DV.int .u8 n).length = b.size := by rw [List.length_map]; exact str_size hs
          rw [this]; rfl
        · have hl : (s.map fun (n : Nat) => DV.int .u8 n).length = b.data.size := by rw [List.length_map]; exact str_size hs
          rw [hl] at hm
          have hms : m * size = m := by
            rcases hsize with h | h
            · have h0 : b.data.size = 0 := by rw [← hl, h]; rfl
              have : m = 0 := by omega
              subst this; simp
            · rw [h]; simp
          rw [hms]
          simp only [Builtin.firstCells, Sem.run_pure]
          congr 1
          apply Array.ext'
          have : (b.extract 0 m).data.toList = b.data.toList.take m := by
            rw [ByteArray.data_extract]; simp
          simp [this, List.map_take]
  · cases h

end
end Go.Av

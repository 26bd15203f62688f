/-
  The abstract layer, part H: soundness of the evaluator's operations, fifth part: aggregates and slices that are built; append.
-/
import Derived.Test.YtkehiddekhlfaaaG
noncomputable section
namespace Go.Av
open Go

/-- An object turns, with whatever memory it owns; D may grow in that memory and in new blocks. -/
theorem Step.upd {D D' : DMap} {β : List Bi} {objs : List Ob} {w w' : World} (h : Heap D β objs w) {i : Nat} {bi bi' : Bi} {ob ob' : Ob} (hb : β[i]? = some bi) (ho : objs[i]? = some ob)
    (he : BiExt bi bi') (hs : ∀ ad v, D ad = some v → D' ad = some v) (hdn : ∀ ad v, D' ad = some v → D ad = none → (ownOf bi ob = some ad.block ∨ w.heap.size ≤ ad.block))
    (hdh : ∀ ad v, D' ad = some v → ad.spot = none ∧ v.oneCell' = true ∧ w'.cell? ad = some v)
    (hsize : w.heap.size ≤ w'.heap.size) (hkeep : ∀ k, k < w.heap.size → ownOf bi ob ≠ some k → w'.heap[k]? = w.heap[k]?) (hos : w'.os = w.os) (htape : w'.tape = w.tape) (hout : w'.output = w.output)
    (hown : ∀ b, ownOf bi' ob' = some b → ownOf bi ob = some b ∨ w.heap.size ≤ b) (hnew : HoldsOb D' (β.set i bi') w' bi' ob') :
    Step D β objs w D' (β.set i bi') (objs.set i ob') w' := by
  have hil : i < β.length := (List.getElem?_eq_some_iff.1 hb).1
  have hio : i < objs.length := (List.getElem?_eq_some_iff.1 ho).1
  have hext : ∀ (j : Nat) x, β[j]? = some x → ∃ y, (β.set i bi')[j]? = some y ∧ BiExt x y := by
    intro j x hx
    by_cases e : i = j
    · subst e; rw [hb] at hx; cases hx; exact ⟨bi', by rw [List.getElem?_set_self hil], he⟩
    · exact ⟨x, by rw [List.getElem?_set_ne e]; exact hx, BiExt.refl x⟩
  have key : ∀ (j : Nat) bj oj c, (β.set i bi')[j]? = some bj → (objs.set i ob')[j]? = some oj → ownOf bj oj = some c → (∃ bj' oj', β[j]? = some bj' ∧ objs[j]? = some oj' ∧ ownOf bj' oj' = some c) ∨ (j = i ∧ w.heap.size ≤ c) := by
    intro j bj oj c h1 h2 h3
    by_cases e : i = j
    · subst e
      rw [List.getElem?_set_self hil] at h1; cases h1
      rw [List.getElem?_set_self hio] at h2; cases h2
      rcases hown c h3 with h4 | h4
      · exact .inl ⟨bi, ob, hb, ho, h4⟩
      · exact .inr ⟨rfl, h4⟩
    · rw [List.getElem?_set_ne e] at h1 h2; exact .inl ⟨bj, oj, h1, h2, h3⟩
  refine ⟨hs, fun ad v h1 h2 => ?_, hext, ⟨hdh, by simp [h.len], fun j bj oj h1 h2 => ?_, fun j k bj bk oj ok c h1 h2 h3 h4 h5 h6 => ?_⟩, hsize, fun k hk hn => ?_, hos, htape, hout, fun b hb' => ?_⟩
  · rcases hdn ad v h1 h2 with h3 | h3
    · exact .inl ⟨i, bi, ob, hb, ho, h3⟩
    · exact .inr h3
  · by_cases e : i = j
    · subst e
      rw [List.getElem?_set_self hil] at h1; cases h1
      rw [List.getElem?_set_self hio] at h2; cases h2
      exact hnew
    · rw [List.getElem?_set_ne e] at h1 h2
      refine (h.hold j bj oj h1 h2).mono hs hext (fun ad v h3 h4 h5 => ?_) (fun b h3 => ?_)
      · rcases hdn ad v h3 h4 with h6 | h6
        · exact e (h.disj i j bi bj ob oj _ hb h1 ho h2 h6 h5)
        · have := h.own_lt ⟨j, bj, oj, h1, h2, h5⟩; omega
      · exact hkeep b (h.own_lt ⟨j, bj, oj, h1, h2, h3⟩) (fun h6 => e (h.disj i j bi bj ob oj _ hb h1 ho h2 h6 h3))
  · rcases key j bj oj c h1 h3 h5 with ⟨bj', oj', a1, a2, a3⟩ | ⟨e1, a1⟩ <;> rcases key k bk ok c h2 h4 h6 with ⟨bk', ok', c1, c2, c3⟩ | ⟨e2, c1⟩
    · exact h.disj j k bj' bk' oj' ok' c a1 c1 a2 c2 a3 c3
    · have := h.own_lt ⟨j, bj', oj', a1, a2, a3⟩; omega
    · have := h.own_lt ⟨k, bk', ok', c1, c2, c3⟩; omega
    · omega
  · refine hkeep k hk (fun h3 => hn ⟨i, bi, ob, hb, ho, h3⟩)
  · obtain ⟨j, bj, oj, h1, h2, h3⟩ := hb'
    rcases key j bj oj b h1 h2 h3 with ⟨bj', oj', a1, a2, a3⟩ | ⟨_, a1⟩
    · exact .inl ⟨j, bj', oj', a1, a2, a3⟩
    · exact .inr a1

section
variable {P : Program} {E : PT Ty} {D : DMap} {β : List Bi} {objs : List Ob} {w : World}

theorem fill_fold (off : Nat) : ∀ (l : List Value) (k : Nat) (arr : Array Value), off + k + l.length ≤ arr.size →
    (l.zipIdx k).foldl (fun (cs : Array Value) (p : Value × Nat) => cs.setIfInBounds (off + p.2) p.1) arr = (splice arr.toList (off + k) l).toArray
  | [], k, arr, _ => by simp [splice_nil]
  | v :: l, k, arr, h => by
    simp only [List.length_cons] at h
    rw [List.zipIdx_cons, List.foldl_cons, fill_fold off l (k + 1) _ (by simp; omega)]
    rw [Array.toList_setIfInBounds, ← Nat.add_assoc, splice_cons _ _ _ _ (by simp; omega)]

/-- Cells that stand for cells. -/
def CellsOK (D : DMap) (β : List Bi) (cs : List AV) (vs : Array Value) : Prop :=
  vs.size = cs.length ∧ (∀ (j : Nat) v, vs[j]? = some v → v.oneCell' = true) ∧ ∀ (j : Nat) c v, cs[j]? = some c → vs[j]? = some v → RepA D β c v

theorem CellsOK.spl {cs ds : List AV} {vs us : Array Value} (h : CellsOK D β cs vs) (k : CellsOK D β ds us) {off : Nat} (hl : off + ds.length ≤ cs.length) :
    CellsOK D β (cs.take off ++ ds ++ cs.drop (off + ds.length)) (splice vs.toList off us.toList).toArray := by
  obtain ⟨h1, h2, h3⟩ := h
  obtain ⟨k1, k2, k3⟩ := k
  have hl' : off + us.toList.length ≤ vs.toList.length := by simp [h1, k1]; omega
  refine ⟨by simp [splice, h1, k1], fun j v hv => ?_, fun j c v hc hv => ?_⟩
  · simp only [List.getElem?_toArray] at hv
    rw [getElem?_splice _ _ _ hl'] at hv
    split at hv
    · exact h2 j v (by simpa using hv)
    · split at hv
      · exact k2 _ v (by simpa using hv)
      · exact h2 j v (by simpa using hv)
  · have hc' : (splice cs off ds)[j]? = some c := hc
    rw [getElem?_splice _ _ _ hl] at hc'
    simp only [List.getElem?_toArray] at hv
    rw [getElem?_splice _ _ _ hl'] at hv
    have e : us.toList.length = ds.length := by simp [k1]
    rw [e] at hv
    split at hc'
    · rename_i hj; rw [if_pos hj] at hv; exact h3 j c v hc' (by simpa using hv)
    · rename_i hj
      rw [if_neg hj] at hv
      split at hc'
      · rename_i hk; rw [if_pos hk] at hv; exact k3 _ c v hc' (by simpa using hv)
      · rename_i hk; rw [if_neg hk] at hv; exact h3 j c v hc' (by simpa using hv)

theorem fill_ok (place placeV : Nat → Option (Nat × Nat)) : ∀ (parts : List (Nat × AV)) (partsV : List (Nat × Value)) (cs : List AV) (vs : Array Value) (cs' : List AV)
    (_ : parts.length = partsV.length) (_ : ∀ (j : Nat) p q, parts[j]? = some p → partsV[j]? = some q → p.1 = q.1 ∧ RepA D β p.2 q.2) (_ : ∀ i p, place i = some p → placeV i = some p)
    (_ : CellsOK D β cs vs) (_ : fillA place cs parts = some cs'), ∃ vs', Instr.fill placeV vs partsV = some vs' ∧ CellsOK D β cs' vs'
  | [], [], cs, vs, cs', _, _, _, h, he => by simp [fillA] at he; subst he; exact ⟨vs, rfl, h⟩
  | [], _ :: _, _, _, _, hl, _, _, _, _ => by simp at hl
  | _ :: _, [], _, _, _, hl, _, _, _, _ => by simp at hl
  | (i, a) :: parts, (i', u) :: partsV, cs, vs, cs', hl, hr, hp, h, he => by
    obtain ⟨e1, hau⟩ := hr 0 (i, a) (i', u) rfl rfl
    simp only at e1 hau
    subst e1
    simp only [fillA] at he
    cases hpl : place i with
    | none => rw [hpl] at he; cases he
    | some os =>
      obtain ⟨off, size⟩ := os
      rw [hpl] at he
      simp only at he
      split at he
      · rename_i hcond
        simp only [Bool.and_eq_true] at hcond
        obtain ⟨⟨hk, hlen⟩, hle⟩ := hcond
        have hlen := Nat.eq_of_beq_eq_true hlen
        have hle := Nat.le_of_ble_eq_true hle
        obtain ⟨k1, k2, k3⟩ := cells_rep hau hk
        have hc : CellsOK D β (cs.take off ++ a.cells ++ cs.drop (off + a.cells.length)) (splice vs.toList off u.cells.toList).toArray :=
          h.spl ⟨k1, k3, k2⟩ (by omega)
        rw [hlen] at hc
        obtain ⟨vs', g1, g2⟩ := fill_ok place placeV parts partsV _ _ cs' (by simpa using hl) (fun j p q hp hq => hr (j + 1) p q (by simpa using hp) (by simpa using hq)) hp hc he
        refine ⟨vs', ?_, g2⟩
        simp only [Instr.fill, hp i _ hpl]
        have hu : u.cells.size = size := by rw [k1, hlen]
        rw [if_neg (by rw [hu, h.1]; simp; omega)]
        have hf : u.cells.zipIdx.foldl (fun (cs : Array Value) (p : Value × Nat) => cs.setIfInBounds (off + p.2) p.1) vs = (splice vs.toList off u.cells.toList).toArray := by
          rw [← Array.foldl_toList, Array.toList_zipIdx]
          exact fill_fold off u.cells.toList 0 vs (by simp [k1, hlen, h.1]; omega)
        rw [hf]
        exact g1
      · cases he

theorem zero_ok {t : TypeId} {y : Ty} (hT : TyOK1 P t y) : ∃ i z, P.info? t = some i ∧ (zeroValue t).run P w = .ok z w ∧ CellsOK D β (y.zero.map .d) z.cells ∧ y.zero.length = y.size ∧ i.bytes = y.bytes := by
  obtain ⟨i, z, h1, h2, h3, h4, h5, h6, h7, h8⟩ := hT.info
  refine ⟨i, z, h1, by simp [zeroValue, run_typeInfo h1, h4], ⟨by simp [h5, h6], h8, fun j c v hc hv => ?_⟩, h6, h3⟩
  simp only [List.getElem?_map, Option.map_eq_some_iff] at hc
  obtain ⟨c', hc', rfl⟩ := hc
  exact .d (h7 j c' v hc' hv).zero

theorem fields_run {F : Field → Sem (Nat × Nat)} (hF : ∀ f y, E.get? f.type = some y → (F f).run P w = .ok (f.offset, y.size) w) (fs : Array Field) (h : ∀ (i : Nat) f, fs[i]? = some f → ∃ y, E.get? f.type = some y) :
    ∃ ps : Array (Nat × Nat), (fs.mapM F).run P w = .ok ps w ∧ ∀ (i : Nat) f y, fs[i]? = some f → E.get? f.type = some y → ps[i]? = some (f.offset, y.size) := by
  obtain ⟨l⟩ := fs
  rw [Array.mapM_eq_mapM_toList]
  simp only at h ⊢
  have : ∃ ps : List (Nat × Nat), (l.mapM F).run P w = .ok ps w ∧ ∀ (i : Nat) f y, l[i]? = some f → E.get? f.type = some y → ps[i]? = some (f.offset, y.size) := by
    induction l with
    | nil => exact ⟨[], by simp, by simp⟩
    | cons f l ih =>
      obtain ⟨y, hy⟩ := h 0 f (by simp)
      obtain ⟨ps, g1, g2⟩ := ih (fun i f hf => h (i + 1) f (by simpa using hf))
      refine ⟨(f.offset, y.size) :: ps, ?_, fun i f' y' hf hy' => ?_⟩
      · rw [List.mapM_cons]
        simp only [Sem.run_bind, hF f y hy, g1, Result.andThen_ok, Sem.run_pure]
      · cases i with
        | zero => simp at hf; subst hf; rw [hy] at hy'; cases hy'; rfl
        | succ i => simpa using g2 i f' y' (by simpa using hf) hy'
  obtain ⟨ps, g1, g2⟩ := this
  refine ⟨ps.toArray, by simp only [Sem.run_map, g1, Result.andThen_ok], fun i f y hf hy => by simpa using g2 i f y (by simpa using hf) hy⟩

def PartsOK (D : DMap) (β : List Bi) (parts : List (Nat × AV)) (us : Array (Nat × Value)) : Prop :=
  parts.length = us.size ∧ ∀ (j : Nat) p q, parts[j]? = some p → us[j]? = some q → p.1 = q.1 ∧ RepA D β p.2 q.2

theorem build_ok (hE : TyOK P E) (hp : Heap D β objs w) (t : TypeId) {parts : List (Nat × AV)} {us : Array (Nat × Value)} (hr : PartsOK D β parts us)
    (hF : ∀ fs, P.underlying t = some (.struct fs) → ∀ (i : Nat) f, fs[i]? = some f → ∃ y, E.get? f.type = some y) :
    ValOK P D β objs w (Instr.build t us) (buildR E t parts objs) := by
  unfold buildR
  cases hy : E.get? t with
  | none => exact .none
  | some y =>
    have hT := hE t y hy
    obtain ⟨i, z, h1, h2, h3, h4, h5⟩ := zero_ok (D := D) (β := β) (w := w) hT
    have hu := hT.und
    simp only
    split
    · rename_i fs hd
      rw [hd] at hu
      obtain ⟨ps, g1, g2⟩ := fields_run (P := P) (w := w) (E := E) (F := fun f => do pure (f.offset, ← sizeOf f.type)) (fun f y hy => by simp [run_sizeOf (hE _ _ hy)]) fs (hF fs hu)
      split
      · rename_i cs hc
        obtain ⟨vs', k1, k2⟩ := fill_ok _ (ps[·]?) parts us.toList _ _ cs (by simpa using hr.1) (fun j p q hp hq => hr.2 j p q hp (by simpa using hq)) (fun i p hi => by
          split at hi
          · rename_i f hf
            cases hy' : E.get? f.type with
            | none => simp [hy'] at hi
            | some y' => simp [hy'] at hi; rw [← hi]; exact g2 i f y' hf hy'
          · cases hi) h3 hc
        refine .pure hp (fun _ => ⟨.agg vs', ?_, mkAgg_rep k2.1 k2.2.1 k2.2.2⟩)
        simp only [Instr.build, Sem.run_bind, h2, Result.andThen_ok, run_underlying hu, g1, k1, Sem.run_pure]
      · exact .none
    · rename_i n e hd
      rw [hd] at hu
      split
      · rename_i ze hze
        split
        · rename_i cs hc
          obtain ⟨vs', k1, k2⟩ := fill_ok _ (fun i => some (i * ze.size, ze.size)) parts us.toList _ _ cs (by simpa using hr.1) (fun j p q hp hq => hr.2 j p q hp (by simpa using hq)) (fun i p hi => hi) h3 hc
          refine .pure hp (fun _ => ⟨.agg vs', ?_, mkAgg_rep k2.1 k2.2.1 k2.2.2⟩)
          simp only [Instr.build, Sem.run_bind, h2, Result.andThen_ok, run_underlying hu, run_sizeOf (hE e _ hze), k1, Sem.run_pure]
        · exact .none
      · exact .none
    · exact .none

theorem getElem?_repeatL {α : Type} (l : List α) (hl : 0 < l.length) : ∀ (n j : Nat), (repeatL n l)[j]? = if j < n * l.length then l[j % l.length]? else none
  | 0, j => by simp [repeatL]
  | n + 1, j => by
    unfold repeatL
    by_cases h : j < l.length
    · rw [List.getElem?_append_left h, if_pos (by rw [Nat.succ_mul]; omega), Nat.mod_eq_of_lt h]
    · rw [List.getElem?_append_right (by omega), getElem?_repeatL l hl n]
      have e : (j - l.length) % l.length = j % l.length := (Nat.mod_eq_sub_mod (by omega)).symm
      rw [e]
      by_cases h2 : j < (n + 1) * l.length
      · rw [if_pos (by rw [Nat.succ_mul] at h2; omega), if_pos h2]
      · rw [if_neg (by rw [Nat.succ_mul] at h2; omega), if_neg h2]
theorem length_repeatL {α : Type} (l : List α) : ∀ (n : Nat), (repeatL n l).length = n * l.length
  | 0 => by simp [repeatL]
  | n + 1 => by simp only [repeatL, List.length_append, length_repeatL l n, Nat.succ_mul]; omega

/-- Zero cells, n elements of them. -/
theorem zeros_ok {zs : List AV} {z : Array Value} (h : CellsOK D β zs z) (hz : 0 < zs.length) (n : Nat) :
    CellsOK D β (repeatL n zs) ((Array.range (n * z.size)).map (z[· % z.size]!)) := by
  obtain ⟨h1, h2, h3⟩ := h
  have hz' : 0 < z.size := by omega
  have key : ∀ (j : Nat) v, ((Array.range (n * z.size)).map (z[· % z.size]!))[j]? = some v → j < n * z.size ∧ z[j % z.size]? = some v := by
    intro j v hv
    rw [Array.getElem?_map, Array.getElem?_range] at hv
    split at hv
    · rename_i hj
      simp only [Option.map_some, Option.some.injEq] at hv
      have hm : j % z.size < z.size := Nat.mod_lt _ hz'
      refine ⟨hj, ?_⟩
      rw [← hv, Array.getElem?_eq_getElem hm, getElem!_pos z _ hm]
    · cases hv
  refine ⟨by simp [length_repeatL, h1], fun j v hv => h2 _ v (key j v hv).2, fun j c v hc hv => ?_⟩
  obtain ⟨k1, k2⟩ := key j v hv
  rw [getElem?_repeatL zs hz, if_pos (by rw [← h1]; exact k1)] at hc
  rw [h1] at k2
  exact h3 _ c v hc k2

theorem chunk_length (agg : Bool) (sz : Nat) : ∀ (n : Nat) (cs : List DV), (chunk agg sz n cs).length = n
  | 0, _ => rfl
  | n + 1, cs => by simp [chunk, chunk_length agg sz n]

/-- Cells cut into elements: flat again, the cells. -/
theorem chunk_flat {agg : Bool} {sz : Nat} (ha : agg = true ∨ sz = 1) : ∀ (n : Nat) (cs : List DV), n * sz ≤ cs.length → (∀ c, c ∈ cs → cellsD c = [c]) →
    flatD (chunk agg sz n cs) = cs.take (n * sz) ∧ ∀ e, e ∈ chunk agg sz n cs → (cellsD e).length = sz
  | 0, cs, _, _ => ⟨by simp [chunk, flatD], by simp [chunk]⟩
  | n + 1, cs, hl, h1 => by
    rw [Nat.succ_mul] at hl
    obtain ⟨i1, i2⟩ := chunk_flat ha n (cs.drop sz) (by simp; omega) (fun c hc => h1 c (List.mem_of_mem_drop hc))
    have hc : cellsD (elemA agg sz cs) = cs.take sz := by
      cases agg with
      | true => rfl
      | false =>
        rcases ha with ha | ha
        · cases ha
        · subst ha
          cases cs with
          | nil => simp at hl
          | cons c cs => simp [elemA, h1 c (by simp)]
    constructor
    · simp only [chunk, flatD, List.flatMap_cons] at i1 ⊢
      rw [hc, i1, Nat.succ_mul, Nat.add_comm, List.take_add]
    · intro e he
      simp only [chunk, List.mem_cons] at he
      rcases he with rfl | he
      · rw [hc]; simp; omega
      · exact i2 e he

end
end Go.Av

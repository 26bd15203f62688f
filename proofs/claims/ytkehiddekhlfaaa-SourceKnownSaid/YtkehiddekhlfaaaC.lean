/-
  The abstract layer, part C: laws of memory: what a store, a new block, a draw do to 'Heap' and 'Step'.
-/
import Derived.Test.YtkehiddekhlfaaaB
noncomputable section
namespace Go.Av
open Go

theorem addr_add {a : Addr} (h : a.spot = none) (n : Nat) : a.add n = ⟨a.block, a.off + n, none⟩ := by
  obtain ⟨b, o, s⟩ := a
  cases h
  unfold Addr.add
  by_cases hn : n = 0
  · subst hn; rfl
  · rw [if_neg hn]

theorem blk_of_cell {w : World} {ad : Addr} {v : Value} (h : w.cell? ad = some v) : ∃ vs T f, w.heap[ad.block]? = some (.cells vs T f) ∧ vs[ad.off]? = some v ∧ ad.spot = none := by
  unfold World.cell? at h
  cases hb : w.heap[ad.block]? with
  | none => simp [hb] at h
  | some o =>
    cases o with
    | cells c T f =>
      simp only [hb] at h
      cases hs : ad.spot with
      | none => simp [hs] at h; exact ⟨c, T, f, rfl, h, rfl⟩
      | some s => simp [hs] at h
    | _ => simp [hb] at h

theorem cell_of_blk {w : World} {b off : Nat} {vs : Array Value} {T : TypeId} {f : Nat × Nat} (h : w.heap[b]? = some (.cells vs T f)) : w.cell? ⟨b, off, none⟩ = vs[off]? := by
  unfold World.cell?
  simp [h]

theorem run_loadCellsFrom (P : Program) (w : World) (a : Addr) : ∀ (vs : List Value) (i : Nat) (acc : Array Value)
    (_ : ∀ (j : Nat) v, vs[j]? = some v → w.cell? (a.add (i + j)) = some v), (loadCellsFrom a i vs.length acc).run P w = .ok (acc ++ vs.toArray) w
  | [], i, acc, _ => by simp [loadCellsFrom]
  | v :: vs, i, acc, h => by
    have h0 := h 0 v rfl
    have ih := run_loadCellsFrom P w a vs (i + 1) (acc.push v) (fun j u hj => by
      have := h (j + 1) u (by simpa using hj)
      rw [show i + 1 + j = i + (j + 1) from by omega]; exact this)
    simp only [Nat.add_zero] at h0
    simp only [List.length_cons, loadCellsFrom, Sem.run_bind, run_load, h0, Result.andThen_ok, ih]
    congr 1
    apply Array.ext'
    simp

theorem run_loadCells (P : Program) (w : World) (a : Addr) (vs : List Value) (h : ∀ (j : Nat) v, vs[j]? = some v → w.cell? (a.add j) = some v) :
    (loadCells a vs.length).run P w = .ok vs.toArray w := by
  unfold loadCells
  rw [run_loadCellsFrom P w a vs 0 #[] (fun j v hj => by rw [Nat.zero_add]; exact h j v hj)]
  simp

/-- A block put in the place of another. -/
def putB (w : World) (b : Nat) (o : Obj) : World := { w with heap := w.heap.setIfInBounds b o }

theorem putB_heap (w : World) (b : Nat) (o : Obj) (k : Nat) : (putB w b o).heap[k]? = if b = k then (if k < w.heap.size then some o else none) else w.heap[k]? := by
  unfold putB
  simp only [Array.getElem?_setIfInBounds]
  by_cases h : b = k
  · subst h; simp
  · simp [h]
theorem putB_ne {w : World} {b : Nat} {o : Obj} {k : Nat} (h : b ≠ k) : (putB w b o).heap[k]? = w.heap[k]? := by rw [putB_heap, if_neg h]
theorem putB_eq {w : World} {b : Nat} {o : Obj} (h : b < w.heap.size) : (putB w b o).heap[b]? = some o := by rw [putB_heap, if_pos rfl, if_pos h]
theorem putB_size (w : World) (b : Nat) (o : Obj) : (putB w b o).heap.size = w.heap.size := by simp [putB]
theorem putB_putB (w : World) (b : Nat) (o o' : Obj) : putB (putB w b o) b o' = putB w b o' := by
  unfold putB
  congr 1
  apply Array.ext_getElem?
  intro i
  simp only [Array.getElem?_setIfInBounds]
  by_cases h : b = i
  · subst h; simp
  · simp [h]
theorem putB_same {w : World} {b : Nat} {o : Obj} (h : w.heap[b]? = some o) : putB w b o = w := by
  unfold putB
  have : w.heap.setIfInBounds b o = w.heap := by
    apply Array.ext_getElem?
    intro i
    simp only [Array.getElem?_setIfInBounds]
    by_cases e : b = i
    · subst e
      obtain ⟨hb, he⟩ := Array.getElem?_eq_some_iff.1 h
      simp [hb, he]
    · simp [e]
  rw [this]

theorem setCell_putB {w : World} {b off : Nat} {vs : Array Value} {T : TypeId} {f : Nat × Nat} (h : w.heap[b]? = some (.cells vs T f)) (v : Value) :
    w.setCell ⟨b, off, none⟩ v = putB w b (.cells (vs.setIfInBounds off v) T f) := by
  unfold World.setCell putB
  congr 1
  apply Array.ext_getElem?
  intro i
  simp only [Array.getElem?_modify, Array.getElem?_setIfInBounds]
  by_cases e : b = i
  · subst e
    obtain ⟨hb, he⟩ := Array.getElem?_eq_some_iff.1 h
    simp [hb, he]
  · simp [e]

theorem lt_of_getElem? {α : Type} {a : Array α} {i : Nat} {x : α} (h : a[i]? = some x) : i < a.size := by
  obtain ⟨h, _⟩ := Array.getElem?_eq_some_iff.1 h; exact h

/-- Cells in the place of others, from a place on. -/
def splice {α : Type} (l : List α) (off : Nat) (vs : List α) : List α := l.take off ++ vs ++ l.drop (off + vs.length)

theorem splice_nil {α : Type} (l : List α) (off : Nat) : splice l off [] = l := by simp [splice]
theorem getElem?_splice {α : Type} (l : List α) (off : Nat) (vs : List α) (h : off + vs.length ≤ l.length) (j : Nat) :
    (splice l off vs)[j]? = if j < off then l[j]? else if j < off + vs.length then vs[j - off]? else l[j]? := by
  unfold splice
  by_cases h1 : j < off
  · rw [if_pos h1, List.append_assoc, List.getElem?_append_left (by simp; omega), List.getElem?_take, if_pos h1]
  · rw [if_neg h1]
    by_cases h2 : j < off + vs.length
    · rw [if_pos h2, List.getElem?_append_left (by simp; omega), List.getElem?_append_right (by simp; omega)]
      simp [Nat.min_eq_left (show off ≤ l.length by omega)]
    · rw [if_neg h2, List.getElem?_append_right (by simp; omega), List.getElem?_drop]
      simp [Nat.min_eq_left (show off ≤ l.length by omega)]
      congr 1; omega
theorem splice_cons {α : Type} (l : List α) (off : Nat) (v : α) (vs : List α) (h : off + (v :: vs).length ≤ l.length) : splice (l.set off v) (off + 1) vs = splice l off (v :: vs) := by
  simp only [List.length_cons] at h
  apply List.ext_getElem?
  intro j
  rw [getElem?_splice _ _ _ (by simp; omega), getElem?_splice _ _ _ (by simpa using h)]
  simp only [List.length_cons]
  by_cases h1 : j < off
  · rw [if_pos h1, if_pos (by omega), List.getElem?_set_ne (by omega)]
  · by_cases h2 : j = off
    · subst h2
      rw [if_pos (by omega), if_neg (by omega), if_pos (by omega), List.getElem?_set_self (by omega)]; simp
    · rw [if_neg (by omega), if_neg h1]
      by_cases h3 : j < off + (vs.length + 1)
      · rw [if_pos (by omega), if_pos h3]
        obtain ⟨k, rfl⟩ : ∃ k, j = off + 1 + k := ⟨j - (off + 1), by omega⟩
        rw [show off + 1 + k - off = k + 1 from by omega, show off + 1 + k - (off + 1) = k from by omega]; simp
      · rw [if_neg (by omega), if_neg h3, List.getElem?_set_ne (by omega)]
theorem length_splice {α : Type} (l : List α) (off : Nat) (vs : List α) (h : off + vs.length ≤ l.length) : (splice l off vs).length = l.length := by
  simp [splice]; omega
theorem run_storeCells (P : Program) (b : Nat) (T : TypeId) (a : Addr) (hsp : a.spot = none) (hb : a.block = b) : ∀ (vs : List Value) (i : Nat) (w : World) (arr : Array Value)
    (_ : w.heap[b]? = some (.cells arr T (0, 0))) (_ : a.off + i + vs.length ≤ arr.size) (_ : ∀ (j : Nat) v, vs[j]? = some v → v.oneCell' = true),
    (storeCells a vs i).run P w = .ok () (putB w b (.cells (splice arr.toList (a.off + i) vs).toArray T (0, 0)))
  | [], i, w, arr, h, _, _ => by
    simp only [storeCells, Sem.run_pure, splice_nil]
    rw [show (arr.toList.toArray) = arr from by simp, putB_same h]
  | v :: vs, i, w, arr, h, hl, h1 => by
    simp only [List.length_cons] at hl
    have hlt : a.off + i < arr.size := by omega
    have hc : w.cell? (a.add i) = some arr[a.off + i] := by rw [addr_add hsp, hb, cell_of_blk h]; simp [hlt]
    have hf : w.frozen? (a.add i) = false := by rw [addr_add hsp, hb]; simp [World.frozen?, h]
    have hset : w.setCell (a.add i) v = putB w b (.cells (arr.setIfInBounds (a.off + i) v) T (0, 0)) := by rw [addr_add hsp, hb]; exact setCell_putB h v
    have hbw : b < w.heap.size := lt_of_getElem? h
    have hst : (store (a.add i) v).run P w = .ok () (w.setCell (a.add i) v) := by
      rw [run_store P w _ v _ (h1 0 v rfl), hc]; simp [hf]
    have ih := run_storeCells P b T a hsp hb vs (i + 1) (putB w b (.cells (arr.setIfInBounds (a.off + i) v) T (0, 0))) (arr.setIfInBounds (a.off + i) v)
      (putB_eq hbw) (by simp; omega) (fun j u hj => h1 (j + 1) u (by simpa using hj))
    simp only [storeCells, Sem.run_bind, hst, Result.andThen_ok]
    rw [hset, ih, putB_putB]
    congr 3
    rw [← Nat.add_assoc, Array.toList_setIfInBounds, splice_cons _ _ _ _ (by simp; omega)]

/-! ### What a change of memory leaves -/
theorem HoldsOb.mono {D D' : DMap} {β β' : List Bi} {w w' : World} {bi : Bi} {ob : Ob} (hs : ∀ ad v, D ad = some v → D' ad = some v)
    (hb : ∀ (i : Nat) x, β[i]? = some x → ∃ y, β'[i]? = some y ∧ BiExt x y) (hn : ∀ ad v, D' ad = some v → D ad = none → ownOf bi ob ≠ some ad.block)
    (hw : ∀ b, ownOf bi ob = some b → w'.heap[b]? = w.heap[b]?) (h : HoldsOb D β w bi ob) : HoldsOb D' β' w' bi ob := by
  have hD : ∀ ad, ownOf bi ob = some ad.block → D ad = none → D' ad = none := fun ad ho h0 => by
    cases h' : D' ad with
    | none => rfl
    | some v => exact absurd ho (hn ad v h' h0)
  cases ob with
  | box cs =>
    obtain ⟨vs, T, h1, h2, h3, h4, h5⟩ := h
    exact ⟨vs, T, by rw [hw _ rfl]; exact h1, h2, fun j c v hc hv => (h3 j c v hc hv).mono hs hb, h4, fun ad ha => hD ad (by rw [ha]; rfl) (h5 ad ha)⟩
  | room n sz =>
    obtain ⟨a, cap, h1, h2, h3, h4, h5, h6⟩ := h
    refine ⟨a, cap, h1, h2, h3, h4, h5, fun ad ha => ?_⟩
    obtain ⟨h7, h8⟩ := h6 ad ha
    refine ⟨h7, fun hlt => ?_⟩
    obtain ⟨vs, T, h8, h9, h10, h11⟩ := h8 hlt
    have hbl : Nat.ble cap n = false := by
      cases hb : Nat.ble cap n with
      | false => rfl
      | true => have := Nat.le_of_ble_eq_true hb; omega
    have ho : ownOf bi (.room n sz) = some ad.block := by simp only [ownOf, h1, ha, Option.bind_some, hbl, Option.map_some]
    exact ⟨vs, T, by rw [hw _ ho]; exact h8, h9, h10, fun j hj => hD _ ho (h11 j hj)⟩
  | tb t cs =>
    obtain ⟨vs, T, h1, h2, h3, h4, h5⟩ := h
    exact ⟨vs, T, by rw [hw _ rfl]; exact h1, h2, fun j c v hc hv => (h3 j c v hc hv).mono hs hb, h4, fun ad ha => hD ad (by rw [ha]; rfl) (h5 ad ha)⟩
  | vec ty ag sz n cs =>
    obtain ⟨a, cap, h1, h2, h3, h4, h5, h6⟩ := h
    refine ⟨a, cap, h1, h2, h3, h4, h5, fun ad ha => ?_⟩
    obtain ⟨h7, vs, T, h8, h9, h10, h11, h12⟩ := h6 ad ha
    have ho : ownOf bi (.vec ty ag sz n cs) = some bi.blk := by simp [ownOf, h1, ha, h7]
    exact ⟨h7, vs, T, by rw [hw _ ho]; exact h8, h9, fun j c v hc hv => (h10 j c v hc hv).mono hs hb, h11, fun ad ha => hD ad (by rw [ha]; exact ho) (h12 ad ha)⟩
  | map kvs =>
    obtain ⟨es, c, h1, h2, h3, h4, h5⟩ := h
    exact ⟨es, c, by rw [hw _ rfl]; exact h1, h2, fun j p e hp he => ⟨(h3 j p e hp he).1.mono hs, (h3 j p e hp he).2.mono hs⟩, fun ad ha => hD ad (by rw [ha]; rfl) (h4 ad ha), h5⟩
  | raw o => exact ⟨by rw [hw _ rfl]; exact h.1, h.2.1, fun ad ha => hD ad (by rw [ha]; rfl) (h.2.2 ad ha)⟩
  | sit s pos => obtain ⟨b, h1, h2, h3⟩ := h; exact ⟨b, by rw [hw _ rfl]; exact h1, h2, fun ad ha => hD ad (by rw [ha]; rfl) (h3 ad ha)⟩
  | loop tm nt frz ps assign body st pend =>
    obtain ⟨lp, h1, h2, h3, h4, h5, h6, h7, h8, h9⟩ := h
    exact ⟨lp, by rw [hw _ rfl]; exact h1, h2, h3, h4, h5, h6, h7, fun t => (h8 t).mono hs hb, fun ad ha => hD ad (by rw [ha]; rfl) (h9 ad ha)⟩
  | gone => trivial

theorem Heap.own_lt {D : DMap} {β : List Bi} {objs : List Ob} {w : World} (h : Heap D β objs w) {b : Nat} (ho : Own β objs b) : b < w.heap.size := by
  obtain ⟨i, bi, ob, h1, h2, h3⟩ := ho
  have hh := h.hold i bi ob h1 h2
  cases ob with
  | box cs => obtain ⟨vs, T, h4, _⟩ := hh; cases h3; exact lt_of_getElem? h4
  | room n sz =>
    obtain ⟨a, cap, h4, _, _, _, _, h5⟩ := hh
    simp only [ownOf, h4, Option.bind_some] at h3
    cases hb : Nat.ble cap n with
    | true => rw [hb] at h3; cases h3
    | false =>
      rw [hb] at h3
      cases a with
      | none => cases h3
      | some ad =>
        obtain ⟨_, h6⟩ := h5 ad rfl
        obtain ⟨vs, T, h6, _⟩ := h6 (by
          apply Nat.lt_of_not_le
          intro hle
          rw [Nat.ble_eq_true_of_le hle] at hb; cases hb)
        cases h3; exact lt_of_getElem? h6
  | tb t cs => obtain ⟨vs, T, h4, _⟩ := hh; cases h3; exact lt_of_getElem? h4.1
  | vec ty ag sz n cs =>
    obtain ⟨a, cap, h4, _, _, _, _, h5⟩ := hh
    simp only [ownOf, h4, Option.bind_some] at h3
    cases a with
    | none => cases h3
    | some ad => obtain ⟨e, vs, T, h6, _⟩ := h5 ad rfl; subst e; cases h3; exact lt_of_getElem? h6.1
  | map kvs => obtain ⟨es, c, h4, _⟩ := hh; cases h3; exact lt_of_getElem? h4
  | raw o => cases h3; exact lt_of_getElem? hh.1
  | sit s pos => obtain ⟨b, h4, _⟩ := hh; cases h3; exact lt_of_getElem? h4
  | loop tm nt frz ps assign body st pend => obtain ⟨lp, h4, _⟩ := hh; cases h3; exact lt_of_getElem? h4
  | gone => cases h3

theorem Heap.D_lt {D : DMap} {β : List Bi} {objs : List Ob} {w : World} (h : Heap D β objs w) {ad : Addr} {v : Value} (hd : D ad = some v) : ad.block < w.heap.size := by
  obtain ⟨vs, T, f, h1, _, _⟩ := blk_of_cell (h.dh ad v hd).2.2
  exact lt_of_getElem? h1

theorem Heap.cell {D : DMap} {β : List Bi} {objs : List Ob} {w : World} (h : Heap D β objs w) {ad : Addr} {v : Value} (hd : D ad = some v) : w.cell? ad = some v := (h.dh ad v hd).2.2

theorem cell_congr {w w' : World} {ad : Addr} (h : w'.heap[ad.block]? = w.heap[ad.block]?) : w'.cell? ad = w.cell? ad := by
  unfold World.cell?; rw [h]

/-- A draw, or any change beside the heap. -/
theorem Heap.same {D : DMap} {β : List Bi} {objs : List Ob} {w w' : World} (h : Heap D β objs w) (he : w'.heap = w.heap) : Heap D β objs w' where
  dh ad v hd := by obtain ⟨a, b, c⟩ := h.dh ad v hd; exact ⟨a, b, (cell_congr (by rw [he])).trans c⟩
  len := h.len
  hold i bi ob hb ho := (h.hold i bi ob hb ho).mono (fun _ _ h => h) (fun i x hx => ⟨x, hx, BiExt.refl x⟩) (fun ad v h1 h2 => by rw [h1] at h2; cases h2) (fun b _ => by rw [he])
  disj := h.disj

theorem Step.drew {D : DMap} {β : List Bi} {objs : List Ob} {w : World} (h : Heap D β objs w) : Step D β objs w D β objs w.drew :=
  { Step.refl (h.same (w' := w.drew) rfl) with size := Nat.le_refl _, keep := fun _ _ _ => rfl, os := rfl, tape := rfl, output := rfl }

/-- An object turns, and its block with it. -/
theorem Heap.put {D : DMap} {β : List Bi} {objs : List Ob} {w : World} (h : Heap D β objs w) {i b : Nat} {bi : Bi} {ob ob' : Ob} {o' : Obj} (hb : β[i]? = some bi) (ho : objs[i]? = some ob)
    (hown : ownOf bi ob = some b) (hown' : ∀ b', ownOf bi ob' = some b' → b' = b) (hD : ∀ ad, ad.block = b → D ad = none) (hnew : HoldsOb D β (putB w b o') bi ob') :
    Heap D β (objs.set i ob') (putB w b o') where
  dh ad v hd := by
    obtain ⟨p, q, c⟩ := h.dh ad v hd
    refine ⟨p, q, ?_⟩
    rw [cell_congr (w := w)]; exact c
    rw [putB_ne]; intro e; rw [hD ad e.symm] at hd; cases hd
  len := by simp [h.len]
  hold j bj oj hj hoj := by
    by_cases hij : i = j
    · subst hij
      rw [hb] at hj; cases hj
      rw [List.getElem?_set_self (by have := (List.getElem?_eq_some_iff.1 ho).1; exact this)] at hoj
      cases hoj; exact hnew
    · rw [List.getElem?_set_ne hij] at hoj
      refine (h.hold j bj oj hj hoj).mono (fun _ _ h => h) (fun i x hx => ⟨x, hx, BiExt.refl x⟩) (fun ad v h1 h2 => by rw [h1] at h2; cases h2) (fun c hc => ?_)
      rw [putB_ne]; intro e; subst e; exact hij (h.disj i j bi bj ob oj b hb hj ho hoj hown hc)
  disj j k bj bk oj ok c hj hk hoj hok hcj hck := by
    have key : ∀ (j : Nat) bj oj, β[j]? = some bj → (objs.set i ob')[j]? = some oj → ownOf bj oj = some c → ∃ oj', objs[j]? = some oj' ∧ ownOf bj oj' = some c := by
      intro j bj oj hj hoj hc
      by_cases hij : i = j
      · subst hij
        rw [hb] at hj; cases hj
        rw [List.getElem?_set_self (by have := (List.getElem?_eq_some_iff.1 ho).1; exact this)] at hoj
        cases hoj
        have := hown' c hc; subst this
        exact ⟨ob, ho, hown⟩
      · rw [List.getElem?_set_ne hij] at hoj; exact ⟨oj, hoj, hc⟩
    obtain ⟨oj', a1, a2⟩ := key j bj oj hj hoj hcj
    obtain ⟨ok', b1, b2⟩ := key k bk ok hk hok hck
    exact h.disj j k bj bk oj' ok' c hj hk a1 b1 a2 b2

theorem Own.set {β : List Bi} {objs : List Ob} {i b : Nat} {bi : Bi} {ob ob' : Ob} (hb : β[i]? = some bi) (ho : objs[i]? = some ob) (hown : ownOf bi ob = some b)
    (hown' : ∀ b', ownOf bi ob' = some b' → b' = b) {c : Nat} (h : Own β (objs.set i ob') c) : Own β objs c := by
  obtain ⟨j, bj, oj, h1, h2, h3⟩ := h
  by_cases hij : i = j
  · subst hij
    rw [hb] at h1; cases h1
    rw [List.getElem?_set_self (by have := (List.getElem?_eq_some_iff.1 ho).1; exact this)] at h2
    cases h2
    have := hown' c h3; subst this
    exact ⟨i, bi, ob, hb, ho, hown⟩
  · rw [List.getElem?_set_ne hij] at h2; exact ⟨j, bj, oj, h1, h2, h3⟩

theorem Step.put {D : DMap} {β : List Bi} {objs : List Ob} {w : World} (h : Heap D β objs w) {i b : Nat} {bi : Bi} {ob ob' : Ob} {o' : Obj} (hb : β[i]? = some bi) (ho : objs[i]? = some ob)
    (hown : ownOf bi ob = some b) (hown' : ∀ b', ownOf bi ob' = some b' → b' = b) (hD : ∀ ad, ad.block = b → D ad = none) (hnew : HoldsOb D β (putB w b o') bi ob') :
    Step D β objs w D β (objs.set i ob') (putB w b o') where
  dsub _ _ h := h
  dnew _ _ h1 h2 := by rw [h2] at h1; cases h1
  bext i x hx := ⟨x, hx, BiExt.refl x⟩
  heap := h.put hb ho hown hown' hD hnew
  size := by rw [putB_size]; exact Nat.le_refl _
  keep k _ hn := putB_ne (fun e => hn (e ▸ ⟨i, bi, ob, hb, ho, hown⟩))
  os := rfl
  tape := rfl
  output := rfl
  ownn c hc := .inl (Own.set hb ho hown hown' hc)

theorem getElem?_snoc {α : Type} {l : List α} {x y : α} {i : Nat} (h : (l ++ [x])[i]? = some y) : (i < l.length ∧ l[i]? = some y) ∨ (i = l.length ∧ y = x) := by
  by_cases hi : i < l.length
  · rw [List.getElem?_append_left hi] at h; exact .inl ⟨hi, h⟩
  · rw [List.getElem?_append_right (by omega)] at h
    have : i - l.length = 0 := by
      cases hd : i - l.length with
      | zero => rfl
      | succ n => rw [hd] at h; simp at h
    rw [this] at h; simp at h; exact .inr ⟨by omega, h.symm⟩

theorem ext_snoc {β : List Bi} {x : Bi} : ∀ (i : Nat) z, β[i]? = some z → ∃ y, (β ++ [x])[i]? = some y ∧ BiExt z y := fun i z hz =>
  ⟨z, by rw [List.getElem?_append_left (List.getElem?_eq_some_iff.1 hz).1]; exact hz, BiExt.refl z⟩

/-- A new object in a new block (or in none). -/
theorem Step.push {D : DMap} {β : List Bi} {objs : List Ob} {w w' : World} (h : Heap D β objs w) {bi : Bi} {ob : Ob} (hkeep : ∀ k, k < w.heap.size → w'.heap[k]? = w.heap[k]?)
    (hsize : w.heap.size ≤ w'.heap.size) (hos : w'.os = w.os) (htape : w'.tape = w.tape) (hout : w'.output = w.output) {D' : DMap} (hs : ∀ ad v, D ad = some v → D' ad = some v)
    (hdn : ∀ ad v, D' ad = some v → D ad = none → w.heap.size ≤ ad.block ∧ ad.spot = none ∧ v.oneCell' = true ∧ w'.cell? ad = some v)
    (hown : ∀ b, ownOf bi ob = some b → w.heap.size ≤ b) (hnew : HoldsOb D' (β ++ [bi]) w' bi ob) : Step D β objs w D' (β ++ [bi]) (objs ++ [ob]) w' where
  dsub := hs
  dnew ad v h1 h2 := .inr (hdn ad v h1 h2).1
  bext := ext_snoc
  size := hsize
  keep k hk _ := hkeep k hk
  os := hos
  tape := htape
  output := hout
  ownn b hb := by
    obtain ⟨i, bj, oj, h1, h2, h3⟩ := hb
    rcases getElem?_snoc h1 with ⟨l1, e1⟩ | ⟨l1, e1⟩
    · rcases getElem?_snoc h2 with ⟨l2, e2⟩ | ⟨l2, e2⟩
      · exact .inl ⟨i, bj, oj, e1, e2, h3⟩
      · have := h.len; omega
    · rcases getElem?_snoc h2 with ⟨l2, e2⟩ | ⟨l2, e2⟩
      · have := h.len; omega
      · subst e1 e2; exact .inr (hown b h3)
  heap := {
    dh := fun ad v hd => by
      cases h0 : D ad with
      | none => exact (hdn ad v hd h0).2
      | some u =>
        have := hs ad u h0
        rw [this] at hd; cases hd
        obtain ⟨p, q, c⟩ := h.dh ad _ h0
        exact ⟨p, q, by rw [cell_congr (w := w) (hkeep _ (h.D_lt h0))]; exact c⟩
    len := by simp [h.len]
    hold := fun i bj oj h1 h2 => by
      rcases getElem?_snoc h1 with ⟨l1, e1⟩ | ⟨l1, e1⟩
      · rcases getElem?_snoc h2 with ⟨l2, e2⟩ | ⟨l2, e2⟩
        · refine (h.hold i bj oj e1 e2).mono hs ext_snoc (fun ad v h3 h4 h5 => ?_) (fun b hb => ?_)
          · have := (hdn ad v h3 h4).1
            have := h.own_lt ⟨i, bj, oj, e1, e2, h5⟩
            omega
          · exact hkeep b (h.own_lt ⟨i, bj, oj, e1, e2, hb⟩)
        · have := h.len; omega
      · rcases getElem?_snoc h2 with ⟨l2, e2⟩ | ⟨l2, e2⟩
        · have := h.len; omega
        · subst e1 e2; exact hnew
    disj := fun i j bi' bj oi oj b h1 h2 h3 h4 h5 h6 => by
      have := h.len
      rcases getElem?_snoc h1 with ⟨l1, e1⟩ | ⟨l1, e1⟩ <;> rcases getElem?_snoc h3 with ⟨l3, e3⟩ | ⟨l3, e3⟩ <;> rcases getElem?_snoc h2 with ⟨l2, e2⟩ | ⟨l2, e2⟩ <;>
        rcases getElem?_snoc h4 with ⟨l4, e4⟩ | ⟨l4, e4⟩ <;> first | omega | skip
      · exact h.disj i j bi' bj oi oj b e1 e2 e3 e4 h5 h6
      · subst e2 e4; have := hown b h6; have := h.own_lt ⟨i, bi', oi, e1, e3, h5⟩; omega
      · subst e1 e3; have := hown b h5; have := h.own_lt ⟨j, bj, oj, e2, e4, h6⟩; omega }

theorem not_own_set {β : List Bi} {objs : List Ob} {D : DMap} {w : World} (h : Heap D β objs w) {i b : Nat} {bi : Bi} {ob : Ob} (hb : β[i]? = some bi) (ho : objs[i]? = some ob) (hown : ownOf bi ob = some b) :
    ¬ Own β (objs.set i .gone) b := by
  rintro ⟨j, bj, oj, h1, h2, h3⟩
  by_cases hij : i = j
  · subst hij
    rw [List.getElem?_set_self (by have := (List.getElem?_eq_some_iff.1 ho).1; exact this)] at h2
    cases h2; cases h3
  · rw [List.getElem?_set_ne hij] at h2
    exact hij (h.disj i j bi bj ob oj b hb h1 ho h2 hown h3)

theorem Heap.push' {D : DMap} {β : List Bi} {objs : List Ob} {w : World} (h : Heap D β objs w) {bi : Bi} {ob : Ob} (hown : ∀ b, ownOf bi ob = some b → ¬ Own β objs b) (hnew : HoldsOb D (β ++ [bi]) w bi ob) :
    Heap D (β ++ [bi]) (objs ++ [ob]) w where
  dh := h.dh
  len := by simp [h.len]
  hold := fun i bj oj h1 h2 => by
    rcases getElem?_snoc h1 with ⟨l1, e1⟩ | ⟨l1, e1⟩
    · rcases getElem?_snoc h2 with ⟨l2, e2⟩ | ⟨l2, e2⟩
      · exact (h.hold i bj oj e1 e2).mono (fun _ _ h => h) ext_snoc (fun ad v h3 h4 => by rw [h3] at h4; cases h4) (fun b _ => rfl)
      · have := h.len; omega
    · rcases getElem?_snoc h2 with ⟨l2, e2⟩ | ⟨l2, e2⟩
      · have := h.len; omega
      · subst e1 e2; exact hnew
  disj := fun i j bi' bj oi oj b h1 h2 h3 h4 h5 h6 => by
    have := h.len
    rcases getElem?_snoc h1 with ⟨l1, e1⟩ | ⟨l1, e1⟩ <;> rcases getElem?_snoc h3 with ⟨l3, e3⟩ | ⟨l3, e3⟩ <;> rcases getElem?_snoc h2 with ⟨l2, e2⟩ | ⟨l2, e2⟩ <;>
      rcases getElem?_snoc h4 with ⟨l4, e4⟩ | ⟨l4, e4⟩ <;> first | omega | skip
    · exact h.disj i j bi' bj oi oj b e1 e2 e3 e4 h5 h6
    · subst e2 e4; exact absurd ⟨i, bi', oi, e1, e3, h5⟩ (hown b h6)
    · subst e1 e3; exact absurd ⟨j, bj, oj, e2, e4, h6⟩ (hown b h5)

/-- An object is given up. -/
theorem Step.gone {D : DMap} {β : List Bi} {objs : List Ob} {w : World} (h : Heap D β objs w) (i : Nat) : Step D β objs w D β (objs.set i .gone) w := by
  have key : ∀ (j : Nat) bj oj b, β[j]? = some bj → (objs.set i .gone)[j]? = some oj → ownOf bj oj = some b → objs[j]? = some oj := by
    intro j bj oj b _ h2 h3
    by_cases hij : i = j
    · subst hij
      by_cases hl : i < objs.length
      · rw [List.getElem?_set_self hl] at h2; cases h2; cases h3
      · rw [List.getElem?_eq_none (by simp; omega)] at h2; cases h2
    · rwa [List.getElem?_set_ne hij] at h2
  refine ⟨fun _ _ h => h, fun _ _ h1 h2 => (by rw [h2] at h1; cases h1), fun i x hx => ⟨x, hx, BiExt.refl x⟩, ⟨h.dh, by simp [h.len], fun j bj oj h1 h2 => ?_, fun j k bj bk oj ok b h1 h2 h3 h4 h5 h6 => ?_⟩, Nat.le_refl _, fun _ _ _ => rfl, rfl, rfl, rfl, ?_⟩
  · by_cases hij : i = j
    · subst hij
      by_cases hl : i < objs.length
      · rw [List.getElem?_set_self hl] at h2; cases h2; trivial
      · rw [List.getElem?_eq_none (by simp; omega)] at h2; cases h2
    · rw [List.getElem?_set_ne hij] at h2; exact h.hold j bj oj h1 h2
  · exact h.disj j k bj bk oj ok b h1 h2 (key j bj oj b h1 h3 h5) (key k bk ok b h2 h4 h6) h5 h6
  · rintro b ⟨j, bj, oj, h1, h2, h3⟩
    exact .inl ⟨j, bj, oj, h1, key j bj oj b h1 h2 h3, h3⟩

/-- An object's block goes over to a new object, changed. -/
theorem Step.move {D : DMap} {β : List Bi} {objs : List Ob} {w : World} (h : Heap D β objs w) {i b : Nat} {bi bi' : Bi} {ob ob' : Ob} {o' : Obj} (hb : β[i]? = some bi) (ho : objs[i]? = some ob)
    (hown : ownOf bi ob = some b) (hown' : ∀ b', ownOf bi' ob' = some b' → b' = b) (hD : ∀ ad, ad.block = b → D ad = none) (hnew : HoldsOb D (β ++ [bi']) (putB w b o') bi' ob') :
    Step D β objs w D (β ++ [bi']) (objs.set i .gone ++ [ob']) (putB w b o') where
  dsub _ _ h := h
  dnew _ _ h1 h2 := by rw [h2] at h1; cases h1
  bext := ext_snoc
  heap := (h.put hb ho hown (ob' := .gone) (fun b' hb' => by cases hb') hD trivial).push' (fun b' hb' => by rw [hown' b' hb']; exact not_own_set h hb ho hown) hnew
  size := by rw [putB_size]; exact Nat.le_refl _
  keep k _ hn := putB_ne (fun e => hn (e ▸ ⟨i, bi, ob, hb, ho, hown⟩))
  os := rfl
  tape := rfl
  output := rfl
  ownn c hc := by
    obtain ⟨j, bj, oj, h1, h2, h3⟩ := hc
    have hl := h.len
    rcases getElem?_snoc h2 with ⟨l2, e2⟩ | ⟨l2, e2⟩
    · rcases getElem?_snoc h1 with ⟨l1, e1⟩ | ⟨l1, e1⟩
      · by_cases hij : i = j
        · subst hij
          rw [List.getElem?_set_self (by simpa using l2)] at e2
          cases e2; cases h3
        · rw [List.getElem?_set_ne hij] at e2; exact .inl ⟨j, bj, oj, e1, e2, h3⟩
      · simp at l2; omega
    · rcases getElem?_snoc h1 with ⟨l1, e1⟩ | ⟨l1, e1⟩
      · simp at l2; omega
      · subst e1 e2; rw [hown' c h3]; exact .inl ⟨i, bi, ob, hb, ho, hown⟩

/-- New unchanging memory: cells of a block that is new. -/
theorem Step.ext {D : DMap} {β : List Bi} {objs : List Ob} {w w' : World} (h : Heap D β objs w) (hkeep : ∀ k, k < w.heap.size → w'.heap[k]? = w.heap[k]?)
    (hsize : w.heap.size ≤ w'.heap.size) (hos : w'.os = w.os) (htape : w'.tape = w.tape) (hout : w'.output = w.output) {D' : DMap} (hs : ∀ ad v, D ad = some v → D' ad = some v)
    (hdn : ∀ ad v, D' ad = some v → D ad = none → w.heap.size ≤ ad.block ∧ ad.spot = none ∧ v.oneCell' = true ∧ w'.cell? ad = some v) : Step D β objs w D' β objs w' where
  dsub := hs
  dnew ad v h1 h2 := .inr (hdn ad v h1 h2).1
  bext i x hx := ⟨x, hx, BiExt.refl x⟩
  size := hsize
  keep k hk _ := hkeep k hk
  os := hos
  tape := htape
  output := hout
  ownn b hb := .inl hb
  heap := {
    dh := fun ad v hd => by
      cases h0 : D ad with
      | none => exact (hdn ad v hd h0).2
      | some u =>
        have := hs ad u h0
        rw [this] at hd; cases hd
        obtain ⟨p, q, c⟩ := h.dh ad _ h0
        exact ⟨p, q, by rw [cell_congr (w := w) (hkeep _ (h.D_lt h0))]; exact c⟩
    len := h.len
    hold := fun i bj oj h1 h2 => (h.hold i bj oj h1 h2).mono hs (fun i x hx => ⟨x, hx, BiExt.refl x⟩)
      (fun ad v h3 h4 h5 => by have := (hdn ad v h3 h4).1; have := h.own_lt ⟨i, bj, oj, h1, h2, h5⟩; omega)
      (fun b hb => hkeep b (h.own_lt ⟨i, bj, oj, h1, h2, hb⟩))
    disj := h.disj }

/-- D and the first cells of block b. -/
def extD (D : DMap) (b : Nat) (vs : List Value) : DMap := fun ad => if ad.block = b ∧ ad.spot = none ∧ ad.off < vs.length then vs[ad.off]? else D ad

theorem extD_new {D : DMap} {b : Nat} {vs : List Value} {j : Nat} {v : Value} (h : vs[j]? = some v) : extD D b vs ⟨b, j, none⟩ = some v := by
  unfold extD
  rw [if_pos ⟨rfl, rfl, (List.getElem?_eq_some_iff.1 h).1⟩]; exact h
theorem extD_old {D : DMap} {b : Nat} {vs : List Value} {ad : Addr} {v : Value} (hb : ∀ ad v, D ad = some v → ad.block < b) (h : D ad = some v) : extD D b vs ad = some v := by
  unfold extD
  rw [if_neg (fun e => by have := hb ad v h; omega)]; exact h
theorem extD_inv {D : DMap} {b : Nat} {vs : List Value} {ad : Addr} {v : Value} (h : extD D b vs ad = some v) (h0 : D ad = none) : ad.block = b ∧ ad.spot = none ∧ vs[ad.off]? = some v := by
  unfold extD at h
  split at h
  · rename_i e; exact ⟨e.1, e.2.1, h⟩
  · rw [h0] at h; cases h

theorem alloc_keep (w : World) (o : Obj) (k : Nat) (h : k < w.heap.size) : (w.alloc o).heap[k]? = w.heap[k]? := by
  show (w.heap.push o)[k]? = _
  rw [Array.getElem?_push, if_neg (by omega)]
theorem alloc_new (w : World) (o : Obj) : (w.alloc o).heap[w.heap.size]? = some o := by
  show (w.heap.push o)[w.heap.size]? = _
  simp

theorem Step.extNew {D : DMap} {β : List Bi} {objs : List Ob} {w : World} (h : Heap D β objs w) (vs : Array Value) (n : Nat) (T : TypeId) (h1 : ∀ (j : Nat) v, vs[j]? = some v → v.oneCell' = true) :
    Step D β objs w (extD D w.heap.size (vs.toList.take n)) β objs (w.alloc (.cells vs T)) :=
  Step.ext h (fun k hk => alloc_keep w _ k hk) (by simp) rfl rfl rfl (fun ad v hd => extD_old (fun ad v hd => h.D_lt hd) hd)
    (fun ad v hd h0 => by
      obtain ⟨e1, e2, e3⟩ := extD_inv hd h0
      have hv : vs[ad.off]? = some v := by
        rw [List.getElem?_take] at e3
        split at e3
        · simpa using e3
        · cases e3
      refine ⟨by omega, e2, h1 _ _ hv, ?_⟩
      obtain ⟨b, o, s⟩ := ad
      simp only at e1 e2 hv
      subst e1 e2
      rw [cell_of_blk (alloc_new w _)]; exact hv)

end Go.Av

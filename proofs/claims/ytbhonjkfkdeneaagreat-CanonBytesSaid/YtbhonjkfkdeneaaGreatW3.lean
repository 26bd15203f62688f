/-
  Parts of the way to the law, joined: rules for code over data, and what the functions return. Conditions stand at each.
-/
import Derived.Test.YtbhonjkfkdeneaaGreatW2
import Derived.Carry
import Derived.OpenShut
noncomputable section
namespace Go.Av
open Go
def heapD (w : World) : DMap := fun ad => match w.cell? ad with
  | some v => if v.oneCell' = true ∧ ad.spot = none then some v else none
  | none => none
theorem heapD_some {w : World} {ad : Addr} {v : Value} : heapD w ad = some v ↔ w.cell? ad = some v ∧ v.oneCell' = true ∧ ad.spot = none := by
  unfold heapD
  cases w.cell? ad with
  | none => simp
  | some u =>
    by_cases h : u.oneCell' = true ∧ ad.spot = none
    · simp only [if_pos h, Option.some.injEq]
      refine ⟨fun e => by subst e; exact ⟨rfl, h⟩, fun e => e.1⟩
    · simp only [if_neg h, Option.some.injEq]
      constructor
      · intro e; cases e
      · rintro ⟨rfl, h2⟩; exact absurd h2 h
theorem heapD_heap (w : World) : Heap (heapD w) [] [] w :=
  ⟨fun ad v h => by obtain ⟨h1, h2, h3⟩ := heapD_some.1 h; exact ⟨h3, h2, h1⟩, rfl, fun i bi ob hb => by simp at hb, fun i j bi bj oi oj b hb => by simp at hb⟩
theorem below_of_step {D D' : DMap} {β' : List Bi} {objs' : List Ob} {w w' : World} (h : Step D [] [] w D' β' objs' w') : RowKit.Below w.heap.size w w' :=
  ⟨h.os, h.tape, h.output, h.size, fun k hk => h.keep k hk not_own_nil⟩
theorem calls_with {P : Program} {f : FuncId} {ds : List DV} (h : KnownCall P f ds (.d (.bool true))) (w : World) (args : Array Value) (hn : args.size = ds.length)
    (hr : ∀ (j : Nat) c v, ds[j]? = some c → args[j]? = some v → RepD (heapD w) c v) :
    Calls P f args w fun e w' => e = .returned (.bool true) ∧ (∀ may, w.keptBut w' may) ∧ RowKit.Below w.heap.size w w' := by
  have h1 := (h []).2 (heapD w) [] w args (heapD_heap w) ⟨by simpa using hn, fun j c v hc hv => by
    simp only [List.getElem?_map, Option.map_eq_some_iff] at hc
    obtain ⟨c', hc', rfl⟩ := hc
    exact .d (hr j c' v hc' hv)⟩
  refine (CallsIn.calls h1 ?_).mono fun e w' he => ?_
  · exact fun _ d hd => (by cases hd)
  · obtain ⟨v, D', β', rfl, hs, hv⟩ := he.ret rfl
    cases hv with
    | d hv => cases hv; exact ⟨rfl, fun may => kept_of_step hs may, below_of_step hs⟩
structure CellsRep (D : DMap) (x : DV) (cs : List Value) : Prop where
  len : (cellsD x).length = cs.length
  one : ∀ v ∈ cs, v.oneCell' = true
  rep : ∀ (j : Nat) c v, (cellsD x)[j]? = some c → cs[j]? = some v → RepD D c v
section
variable {H : Type} {enc : TypeId × Value → H} {P : Program} {w : World} {spare : Nat → Bool} {held : Bool} {fuel : Nat} {t : TypeId} {cs : List Value} {x : DataW H × List MemPlace}
theorem CellsRep.leaf {D : DMap} {x : DV} {v : Value} (hx : cellsD x = [x]) (hv : v.oneCell' = true) (h : RepD D x v) : CellsRep D x [v] :=
  ⟨by rw [hx]; rfl, fun u hu => by simp only [List.mem_singleton] at hu; subst hu; exact hv, fun j c u hc hu => by
    rw [hx] at hc
    cases j with
    | zero => simp at hc hu; subst hc hu; exact h
    | succ j => simp at hc⟩
theorem cr_int {k : IntKind} (ht : P.underlying t = some (.int k)) (h : DataW.trod enc P w 0 spare held fuel t cs = some x) : ∃ n, CellsRep (heapD w) (.int k n) cs ∧ (Lit.int k n).wf = true := by
  obtain ⟨n, rfl, _, hw⟩ := DataW.trod_int ht h
  exact ⟨n, .leaf rfl rfl .int, hw⟩
theorem cr_str (ht : P.underlying t = some .string) (h : DataW.trod enc P w 0 spare held fuel t cs = some x) : ∃ s : List Nat, CellsRep (heapD w) (.str s) cs ∧ s.length ≤ maxLen ∧ ∀ c ∈ s, c < 256 := by
  obtain ⟨s, rfl, _, hl⟩ := DataW.trod_string ht h
  refine ⟨s.data.toList.map UInt8.toNat, .leaf rfl rfl (.str rfl), by simpa using hl, fun c hc => ?_⟩
  obtain ⟨b, _, rfl⟩ := List.mem_map.1 hc
  exact b.toNat_lt
theorem cells_get {a : Addr} {n : Nat} {r : List Value} (h : w.cells? 0 a n = some r) : r.length = n ∧ ∀ j, j < n → w.cell? (a.add j) = r[j]? := by
  unfold World.cells? at h
  rw [if_pos (Nat.zero_le _)] at h
  exact ⟨by simpa using mapM_some_length h, fun j hj => mapM_some_get h j j (by simp [hj])⟩
theorem spot_of_cell {a : Addr} {v : Value} (h : w.cell? a = some v) : a.spot = none := (blk_of_cell h).elim fun _ h => h.elim fun _ h => h.elim fun _ h => h.2.2
theorem cr_slice {α : Type} (f : α → DV) {e : TypeId} {sz : Nat} (Q : α → Prop) (ht : P.underlying t = some (.slice e)) (hsz : P.cellsOf e = sz) (h1 : 1 ≤ sz) (hsp : ∀ b, spare b = true)
    (elem : ∀ (n : Nat) (cs' : List Value) (y : DataW H × List MemPlace), cs'.length = sz → DataW.trod enc P w 0 spare held n e cs' = some y → ∃ d, CellsRep (heapD w) (f d) cs' ∧ Q d)
    (h : DataW.trod enc P w 0 spare held fuel t cs = some x) : ∃ l : List α, CellsRep (heapD w) (.sl sz (l.map f)) cs ∧ l.length ≤ maxLen ∧ ∀ d ∈ l, Q d := by
  rcases DataW.trod_slice ht h with ⟨rfl, _⟩ | ⟨a, len, cap, elems, rest, n, rfl, rfl, _, _, hlc, hcm, hel, hget, hrest, _⟩
  · refine ⟨[], .leaf rfl rfl ?_, Nat.zero_le _, by simp⟩
    exact .sl (es := []) [] (Nat.le_refl _) (Nat.zero_le _) (by simp) (fun _ => ⟨rfl, rfl⟩) rfl (fun ad e => by cases e) (by simp)
  · subst hsz
    have hspot : cap = 0 ∨ a.spot = none := by
      rcases Nat.eq_zero_or_pos cap with h0 | h0
      · exact .inl h0
      · right
        have hex : ∃ r, w.cells? 0 (a.add 0) (P.cellsOf e) = some r := by
          rcases Nat.eq_zero_or_pos len with hl | hl
          · obtain ⟨hr1, hr2⟩ := hrest (hsp _)
            have h2 := hr2 0 (by omega)
            rw [List.getElem?_eq_getElem (by omega), show (len + 0) * P.cellsOf e = 0 from by simp [hl]] at h2
            simp only [Option.bind_eq_some_iff] at h2
            obtain ⟨r, hr, _⟩ := h2
            exact ⟨r, hr⟩
          · have h2 := hget 0 hl
            rw [List.getElem?_eq_getElem (by omega)] at h2
            simp only [Option.bind_eq_some_iff, Nat.zero_mul] at h2
            obtain ⟨r, hr, _⟩ := h2
            exact ⟨r, hr⟩
        obtain ⟨r, hr⟩ := hex
        obtain ⟨g1, g2⟩ := cells_get hr
        have g3 := g2 0 (by omega)
        rw [List.getElem?_eq_getElem (by omega)] at g3
        have := spot_of_cell g3
        simpa [Addr.add] using this
    have hone : ∀ i, i < len → ∃ d r, CellsRep (heapD w) (f d) r ∧ Q d ∧ r.length = P.cellsOf e ∧ ∀ j, j < P.cellsOf e → w.cell? ((a.add (i * P.cellsOf e)).add j) = r[j]? := by
      intro i hi
      have h2 := hget i hi
      rw [List.getElem?_eq_getElem (by omega)] at h2
      simp only [Option.bind_eq_some_iff] at h2
      obtain ⟨r, hr, hy⟩ := h2
      obtain ⟨g1, g2⟩ := cells_get hr
      obtain ⟨d, hd, hq⟩ := elem n r _ g1 hy
      exact ⟨d, r, hd, hq, g1, g2⟩
    have hlist : ∀ m, m ≤ len → ∃ (l : List α) (vs : List Value), l.length = m ∧ (∀ d ∈ l, Q d) ∧ (∀ d ∈ l, (cellsD (f d)).length = P.cellsOf e) ∧ vs.length = m * P.cellsOf e ∧ (flatD (l.map f)).length = vs.length ∧
        (∀ v ∈ vs, v.oneCell' = true) ∧ (∀ (j : Nat) v, vs[j]? = some v → w.cell? ⟨a.block, a.off + j, none⟩ = some v) ∧ (∀ (j : Nat) c v, (flatD (l.map f))[j]? = some c → vs[j]? = some v → RepD (heapD w) c v) := by
      intro m
      induction m with
      | zero => exact fun _ => ⟨[], [], rfl, by simp, by simp, by simp, rfl, by simp, by simp, by simp⟩
      | succ m ih =>
        intro hm
        obtain ⟨l, vs, i1, i2, i3, i4, i5, i6, i7, i8⟩ := ih (by omega)
        obtain ⟨d, r, k1, k2, k3, k4⟩ := hone m (by omega)
        have hsp0 : a.spot = none := hspot.resolve_left (by omega)
        have hfl : flatD ((l ++ [d]).map f) = flatD (l.map f) ++ cellsD (f d) := by simp [flatD]
        refine ⟨l ++ [d], vs ++ r, by simp [i1], ?_, ?_, by rw [List.length_append, i4, k3, Nat.succ_mul], by rw [hfl, List.length_append, List.length_append, i5, k1.len], ?_, ?_, ?_⟩
        · intro q hq
          rcases List.mem_append.1 hq with hq | hq
          · exact i2 q hq
          · simp only [List.mem_singleton] at hq; subst hq; exact k2
        · intro q hq
          rcases List.mem_append.1 hq with hq | hq
          · exact i3 q hq
          · simp only [List.mem_singleton] at hq; subst hq; rw [k1.len, k3]
        · intro v hv
          rcases List.mem_append.1 hv with hv | hv
          · exact i6 v hv
          · exact k1.one v hv
        · intro j v hv
          rcases Nat.lt_or_ge j vs.length with hj | hj
          · rw [List.getElem?_append_left hj] at hv; exact i7 j v hv
          · rw [List.getElem?_append_right hj] at hv
            have hjr : j - vs.length < r.length := (List.getElem?_eq_some_iff.1 hv).1
            have := k4 (j - vs.length) (by omega)
            rw [addr_add hsp0, addr_add rfl, hv] at this
            simp only at this
            rw [← this]
            have : a.off + m * P.cellsOf e + (j - vs.length) = a.off + j := by omega
            rw [this]
        · intro j c v hc hv
          rw [hfl] at hc
          rcases Nat.lt_or_ge j vs.length with hj | hj
          · rw [List.getElem?_append_left hj] at hv
            rw [List.getElem?_append_left (by omega)] at hc
            exact i8 j c v hc hv
          · rw [List.getElem?_append_right hj] at hv
            rw [List.getElem?_append_right (by omega), i5] at hc
            exact k1.rep _ c v hc hv
    obtain ⟨l, vs, i1, i2, i3, i4, i5, i6, i7, i8⟩ := hlist len (Nat.le_refl _)
    refine ⟨l, .leaf rfl rfl ?_, by omega, i2⟩
    subst i1
    rw [← List.length_map (as := l) f]
    refine .sl vs (by simpa using hlc) hcm (fun y hy => ?_) (fun e => by cases e) i5.symm (fun ad e => ?_) i8
    · obtain ⟨d, hd, rfl⟩ := List.mem_map.1 hy
      exact i3 d hd
    · cases e
      refine ⟨hspot, fun j v hj => heapD_some.2 ⟨i7 j v hj, i6 v (List.mem_of_getElem? hj), rfl⟩⟩
theorem cr_agg {D : DMap} {cs : List Value} (xs : List DV) (hl : xs.length = cs.length) (h : ∀ (j : Nat) x v, xs[j]? = some x → cs[j]? = some v → cellsD x = [x] ∧ CellsRep D x [v]) : CellsRep D (.agg xs) cs := by
  refine ⟨hl, fun v hv => ?_, fun j c v hc hv => ?_⟩
  · obtain ⟨j, hj, e⟩ := List.getElem_of_mem hv
    obtain ⟨x, hx⟩ : ∃ x, xs[j]? = some x := ⟨xs[j]'(by omega), by simp⟩
    exact (h j x v hx (by rw [List.getElem?_eq_getElem hj, e])).2.one v (by simp)
  · obtain ⟨h1, h2⟩ := h j c v hc hv
    exact h2.rep 0 c v (by rw [h1]; rfl) rfl
def AllRep (D : DMap) : List DV → List Value → Prop
  | [], [] => True
  | x :: xs, v :: vs => (cellsD x = [x] ∧ CellsRep D x [v]) ∧ AllRep D xs vs
  | _, _ => False
theorem allRep_len {D : DMap} : ∀ {xs : List DV} {cs : List Value}, AllRep D xs cs → xs.length = cs.length
  | [], [], _ => rfl
  | _ :: _, _ :: _, h => by simp [allRep_len h.2]
theorem allRep_get {D : DMap} : ∀ {xs : List DV} {cs : List Value}, AllRep D xs cs → ∀ (j : Nat) x v, xs[j]? = some x → cs[j]? = some v → cellsD x = [x] ∧ CellsRep D x [v]
  | [], [], _, j, x, v, hx, _ => by simp at hx
  | x :: xs, v :: vs, h, 0, y, u, hx, hv => by simp at hx hv; subst hx hv; exact h.1
  | x :: xs, v :: vs, h, j + 1, y, u, hx, hv => allRep_get h.2 j y u (by simpa using hx) (by simpa using hv)
theorem cr_all {D : DMap} {xs : List DV} {cs : List Value} (h : AllRep D xs cs) : CellsRep D (.agg xs) cs := cr_agg xs (allRep_len h) (allRep_get h)
theorem trod_field {fs : Array Field} (ht : P.underlying t = some (.struct fs)) (h : DataW.trod enc P w 0 spare held fuel t cs = some x) (i : Nat) {f : Field} {v : Value} (hf : fs[i]? = some f) (h1 : P.cellsOf f.type = 1)
    (hv : cs[f.offset]? = some v) : ∃ n y, DataW.trod enc P w 0 spare held n f.type [v] = some y := by
  obtain ⟨xs, n, _, _, hl, hxl, hff⟩ := DataW.trod_struct ht h
  have h2 := hff i f hf
  have hi : i < xs.length := by rw [hxl]; exact (Array.getElem?_eq_some_iff.1 hf).1
  rw [h1, List.getElem?_eq_getElem hi] at h2
  refine ⟨n, xs[i], ?_⟩
  rw [← h2]
  congr 1
  obtain ⟨ho, e⟩ := List.getElem?_eq_some_iff.1 hv
  rw [List.drop_eq_getElem_cons ho, e]
  rfl
theorem rep_agg {D : DMap} {xs : List DV} {vs : Array Value} (h : CellsRep D (.agg xs) vs.toList) : RepD D (.agg xs) (.agg vs) :=
  .agg (by have := h.len; simp only [cellsD] at this; simpa using this.symm) (fun j v hv => h.one v (by
    obtain ⟨hj, e⟩ := Array.getElem?_eq_some_iff.1 hv
    rw [← e]; exact Array.mem_toList_iff.2 (Array.getElem_mem hj))) (fun j c v hc hv => h.rep j c v hc (by simpa using hv))
theorem rep_leaf {D : DMap} {x : DV} {v : Value} (hx : cellsD x = [x]) (h : CellsRep D x [v]) : RepD D x v := h.rep 0 x v (by rw [hx]; rfl) rfl
theorem leaf_cells {desc : TypeDesc} {r : Reach} {b0 : Nat} {v : Value} (ht : P.underlying t = some desc) (hd : desc = .string ∨ ∃ e, desc = .slice e) (hval : Value.okWide P w r b0 t v) : v.cells.toList = [v] := by
  cases v with
  | agg cs => rcases hd with rfl | ⟨e, rfl⟩ <;> simp [Value.okWide, ht, Cell.okWide, Cell.ok] at hval
  | _ => rfl
theorem arg_str {r : Reach} {b0 : Nat} {v : Value} {d : DataW H} {ps : List MemPlace} (ht : P.underlying t = some .string) (hval : Value.okWide P w r b0 t v) (h : DataW.Trod enc P w 0 spare held t v d ps) :
    ∃ s : List Nat, RepD (heapD w) (.str s) v ∧ s.length ≤ maxLen ∧ ∀ c ∈ s, c < 256 := by
  obtain ⟨n, h⟩ := h
  rw [leaf_cells ht (.inl rfl) hval] at h
  obtain ⟨s, hs, h1⟩ := cr_str ht h
  exact ⟨s, rep_leaf rfl hs, h1⟩
theorem arg_agg {α : Type} {r : Reach} {b0 : Nat} {v : Value} {d : DataW H} {ps : List MemPlace} {fs : Array Field} {Q : α → Prop} {f : α → List DV} (ht : P.underlying t = some (.struct fs)) (hval : Value.okWide P w r b0 t v) (h : DataW.Trod enc P w 0 spare held t v d ps)
    (hc : ∀ n (cs : List Value) x, cs.length = P.cellsOf t → DataW.trod enc P w 0 spare held n t cs = some x → ∃ a, CellsRep (heapD w) (.agg (f a)) cs ∧ Q a) : ∃ a, RepD (heapD w) (.agg (f a)) v ∧ Q a := by
  obtain ⟨n, h⟩ := h
  obtain ⟨vs, rfl, hs⟩ := WideShapes.okWide_struct ht hval
  obtain ⟨a, ha, hq⟩ := hc n vs.toList _ (by simpa using hs) h
  exact ⟨a, rep_agg ha, hq⟩
theorem trodAll_below {W W' : World} (hl : laidOutB P = true) (hb : RowKit.Below W.heap.size W W') : ∀ {ts : List TypeId} {vs : List Value} {ds : List (DataW H)} {ps : List MemPlace}, (ts.all fun t => P.readableRec t && decide (t < P.types.size)) = true →
    DataW.TrodAll enc P W 0 (fun _ => true) true ts vs ds ps → (∀ p ∈ ps, p.block < W.heap.size) → DataW.TrodAll enc P W' 0 (fun b => decide (b < W.heap.size)) true ts vs ds ps
  | [], [], [], _, _, h, _ => h
  | t :: ts, v :: vs, d :: ds, _, ht, ⟨p, q, h1, h2, e⟩, hlt => by
    simp only [List.all_cons, Bool.and_eq_true, decide_eq_true_eq] at ht
    exact ⟨p, q, RowKit.Below.trod hl ht.1.1 ht.1.2 h1 hb (fun y hy => hlt y (by rw [e]; exact List.mem_append_left _ hy)), trodAll_below hl hb ht.2 h2 (fun y hy => hlt y (by rw [e]; exact List.mem_append_right _ hy)), e⟩
end
end Go.Av
end

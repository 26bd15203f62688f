/-
  The abstract layer, part JB: rows without spare room; rows that may be written: literals, make, copy.
-/
import Derived.Test.YtkehiddekhlfaaaJ
noncomputable section
namespace Go.Av
open Go

section
variable {P : Program} {E : PT Ty} {D : DMap} {β : List Bi} {objs : List Ob} {w : World}

/-- A row without spare room, as one that may be appended to. -/
theorem room_full (hp : Heap D β objs w) {sz : Nat} {es : List DV} {A : Option Addr} (h : RepD D (.sl sz es) (.slice A es.length es.length)) :
    ∃ β', Step D β objs w D β' (objs ++ [.room es.length sz]) w ∧ RepA D β' (.sr objs.length sz es) (.slice A es.length es.length) := by
  refine ⟨β ++ [⟨0, fun n => if n = es.length then some (A, es.length) else none⟩], Step.push hp (fun _ _ => rfl) (Nat.le_refl _) rfl rfl rfl (fun _ _ h => h) (fun ad v h1 h2 => by rw [h2] at h1; cases h1) (fun b hb => ?_) ?_, ?_⟩
  · simp only [ownOf, if_pos, Option.bind_some] at hb
    rw [show Nat.ble es.length es.length = true from Nat.ble_eq_true_of_le (Nat.le_refl _)] at hb
    cases hb
  · cases h with
    | sl vs g1 g2 g3 g4 g5 g6 g7 =>
      refine ⟨A, es.length, by simp, fun m hm => by simp; omega, Nat.le_refl _, g2, fun e => (g4 e).2, fun ad e => ⟨(g6 ad e).1, fun h => absurd h (Nat.lt_irrefl _)⟩⟩
  · exact .sr (bi := ⟨0, fun n => if n = es.length then some (A, es.length) else none⟩) (by rw [← hp.len]; simp) (by simp) h

theorem slice3_ok (hE : TyOK P E) (hp : Heap D β objs w) (t : TypeId) {x : AV} {v : Value} {lo hi mx : Option AV} {ul uh um : Option Value} (hx : RepA D β x v)
    (rl : ∀ x, lo = some x → ∃ y, ul = some y ∧ RepA D β x y) (rh : ∀ x, hi = some x → ∃ y, uh = some y ∧ RepA D β x y) (rm : ∀ x, mx = some x → ∃ y, um = some y ∧ RepA D β x y)
    (nl : lo = none → ul = none) (nh : hi = none → uh = none) (nm : mx = none → um = none) :
    ValOK P D β objs w (Instr.sliceAt t v ul uh um) (slice3R E t x lo hi mx objs) := by
  unfold slice3R
  split
  · rename_i e _ _ _ lo' hi' mx' hty el eh em
    have hu := (hE t _ hty).und
    simp only at hu
    split
    · rename_i ye hye
      split
      · rename_i es hes
        have key : ∃ a cap, v = .slice a es.length cap ∧ RepD D (.sl ye.size es) (.slice a es.length cap) ∧ es.length ≤ cap := by
          split at hes
          · rename_i sz es0
            split at hes
            · rename_i hsz
              have hsz := Nat.eq_of_beq_eq_true hsz
              cases hes
              cases hx with
              | d hx =>
                cases hx with
                | @sl _ _ a cap vs g1 g2 g3 g4 g5 g6 g7 => exact ⟨a, cap, rfl, by rw [hsz]; exact .sl vs g1 g2 g3 g4 g5 g6 g7, g1⟩
            · cases hes
          · rename_i sz es0
            split at hes
            · rename_i hsz
              have hsz := Nat.eq_of_beq_eq_true hsz
              cases hes
              cases hx with
              | @sr _ _ _ bi a cap hb1 hb2 hx => exact ⟨a, cap, rfl, by rw [hsz]; exact hx, by cases hx with | sl vs g1 => exact g1⟩
            · cases hes
          · cases hes
            cases hx with
            | d hx => cases hx; exact ⟨none, 0, rfl, .sl (es := []) [] (by simp) (by simp) (by simp) (by simp) (by simp [flatD]) (by simp) (by simp), by simp⟩
          · cases hes
        obtain ⟨a, cap, rfl, hsl, hcap⟩ := key
        intro av o c he hc
        simp only [Option.some.injEq, Prod.mk.injEq] at he
        obtain ⟨rfl, rfl, rfl⟩ := he
        simp only [Bool.and_eq_true, decide_eq_true_eq] at hc
        obtain ⟨hc1, rfl⟩ := hc
        have hmx : maxC (some hi') (some hi') es.length = true := by
          have : 0 ≤ hi' ∧ hi' ≤ es.length := by
            cases lo' with
            | none => simp only [cutC, Bool.and_eq_true, decide_eq_true_eq] at hc1; exact hc1
            | some l => simp only [cutC, Bool.and_eq_true, decide_eq_true_eq] at hc1; omega
          simp [maxC]; omega
        obtain ⟨l, h, m, hb, hmc, hle, ⟨hl', hh', _⟩, hcut⟩ := bounds_of el eh em rl rh rm nl nh nm rfl hcap hc1 hmx
        have hmh : m = h := by
          rcases hb.cm with ⟨e1, _⟩ | ⟨k, e1, _, _⟩
          · obtain ⟨k, e2⟩ := bnd_some em rm; rw [e1] at e2; cases e2
          · rcases hb.ch with ⟨e2, _⟩ | ⟨k2, e2⟩
            · obtain ⟨k3, e3⟩ := bnd_some eh rh; rw [e2] at e3; cases e3
            · obtain ⟨k3, e3⟩ := bnd_some eh rh
              obtain ⟨k4, e4⟩ := bnd_some em rm
              rw [e2] at e3; rw [e1] at e4
              simp only [Option.some.injEq, Value.int.injEq] at e3 e4
              omega
        subst hmh
        have hpart := sl_part hsl hb.lh hb.hm hmc hle
        have hcl : ((es.take m).drop l).length = m - l := by simp; omega
        rw [hcut es rfl]
        have hfull : RepD D (.sl ye.size ((es.take m).drop l)) (.slice (if m = l then a else a.map (·.add (l * ye.size))) ((es.take m).drop l).length ((es.take m).drop l).length) := by rw [hcl]; exact hpart
        obtain ⟨β', s1, s2⟩ := room_full hp hfull
        refine ⟨_, w, D, β', sliceAt_slice_run hu (hE e _ hye) hb, s1, ?_⟩
        rw [hcl] at s2; exact s2
      · exact .none
    · exact .none
  · exact .none

/-- A row that may be written, in a new block. -/
theorem vec_fresh (hp : Heap D β objs w) {ag : Bool} {sz n : Nat} {cs : List AV} {vs : Array Value} (T : TypeId) (hm : n ≤ maxLen) (hl : cs.length = n * sz) (h : CellsOK D β cs vs) :
    ∃ β', Step D β objs w D β' (objs ++ [.vec T ag sz n cs]) (w.alloc (.cells vs T)) ∧ RepA D β' (.vs objs.length sz 0 n) (.slice (some ⟨w.heap.size, 0, none⟩) n n) := by
  refine ⟨β ++ [⟨w.heap.size, fun m => if m = 0 then some (some ⟨w.heap.size, 0, none⟩, n) else none⟩], Step.push hp (fun k hk => alloc_keep w _ k hk) (by simp) rfl rfl rfl (fun _ _ h => h) (fun ad v h1 h2 => by rw [h2] at h1; cases h1)
    (fun b hb => by simp [ownOf] at hb; omega) ?_, ?_⟩
  · refine ⟨_, n, by simp; rfl, Nat.le_refl _, hm, hl, by simp, fun ad e => ?_⟩
    cases e
    refine ⟨rfl, vs, T, ⟨alloc_new w _, rfl⟩, by rw [h.1]; omega, fun j c v hc hv => (h.2.2 j c v hc hv).mono (fun _ _ h => h) ext_snoc, h.2.1, fun ad ha => ?_⟩
    cases hd : D ad with
    | none => rfl
    | some v => have := hp.D_lt hd; simp only at ha; omega
  · exact .vs (bi := ⟨w.heap.size, fun m => if m = 0 then some (some ⟨w.heap.size, 0, none⟩, n) else none⟩) (a := some ⟨w.heap.size, 0, none⟩) (cap := n) (by rw [← hp.len]; simp) (by simp) (Nat.le_refl _) hm (by simp) (by simp)

theorem buildVec_ok (hE : TyOK P E) (hp : Heap D β objs w) (t : TypeId) (len : Nat) {parts : List (Nat × AV)} {us : Array (Nat × Value)} (hr : PartsOK D β parts us) :
    ValOK P D β objs w (Instr.buildSlice t len us) (buildVecR E t len parts objs) := by
  unfold buildVecR
  split
  · rename_i e _ _ _ hty
    have hu := (hE t _ hty).und
    simp only at hu
    split
    · rename_i z hz
      have hT := hE e z hz
      obtain ⟨i, zv, h1, h2, h3, h4, h5⟩ := zero_ok (D := D) (β := β) (w := w) hT
      split
      · rename_i hcond
        simp only [Bool.and_eq_true] at hcond
        obtain ⟨hb1, hb2⟩ := hcond
        have hb1 := Nat.le_of_ble_eq_true hb1
        have hb2 := Nat.le_of_ble_eq_true hb2
        have hzl : 0 < (z.zero.map AV.d).length := by simp [h4]; omega
        have hzs := zeros_ok h3 hzl len
        have hsz : zv.cells.size = z.size := by rw [h3.1]; simp [h4]
        split
        · rename_i cs hfill
          obtain ⟨vs', k1, k2⟩ := fill_ok _ (fun i => some (i * z.size, z.size)) parts us.toList _ _ cs (by simpa using hr.1) (fun j p q hp hq => hr.2 j p q hp (by simpa using hq)) (fun i p hi => hi) hzs hfill
          rw [hsz] at k1
          have hlen : cs.length = len * z.size := by
            have := fillA_length _ _ _ _ hfill
            rw [length_repeatL] at this
            rw [this]; simp [h4]
          have hrun : (Instr.buildSlice t len us).run P w = .ok (.slice (some ⟨w.heap.size, 0, none⟩) len len) (w.alloc (.cells vs' e)) := by
            simp only [Instr.buildSlice, Sem.run_bind, run_underlying hu, Result.andThen_ok, run_sizeOf hT]
            rw [if_neg (by omega)]
            by_cases h0 : len * z.size = 0
            · rw [if_pos h0]
              have e0 : (Array.range (len * z.size)).map (fun x => (#[] : Array Value)[x % (#[] : Array Value).size]!) = (Array.range (len * z.size)).map (fun x => zv.cells[x % z.size]!) := by rw [h0]; simp
              simp only [Sem.run_bind, Sem.run_pure, Result.andThen_ok, e0, k1]
              simp [newRow]
            · rw [if_neg h0]
              simp only [Sem.run_bind, h2, Result.andThen_ok, Sem.run_pure, hsz, k1]
              simp [newRow]
          have hm : len ≤ maxLen := by
            have : len ≤ len * z.size := Nat.le_mul_of_pos_right _ (by omega)
            simp only [maxLen]; omega
          intro av o c he _
          simp only [pureR, Option.some.injEq, Prod.mk.injEq] at he
          obtain ⟨rfl, rfl, rfl⟩ := he
          obtain ⟨β', s1, s2⟩ := vec_fresh hp (ag := isAggT z.desc) e hm hlen k2
          exact ⟨_, _, D, β', hrun, s1, s2⟩
        · exact .none
      · exact .none
    · exact .none
  · exact .none

theorem wrap_small {n : Int} (h0 : 0 ≤ n) (h1 : n ≤ 1099511627776) : IntKind.i64.wrap n = n := by
  unfold IntKind.wrap
  simp [IntKind.bits, IntKind.signed]
  omega

theorem makeSlice_ok (hE : TyOK P E) (hp : Heap D β objs w) (t : TypeId) {l c : AV} {u v : Value} (hl : RepA D β l u) (hc : RepA D β c v) :
    ValOK P D β objs w (Instr.makeSlice t u v) (makeSliceR E t l c objs) := by
  unfold makeSliceR
  split
  · rename_i e _ _ _ n m hty
    have hu := (hE t _ hty).und
    simp only at hu
    cases hl with
    | d hl =>
      cases hl
      cases hc with
      | d hc =>
        cases hc
        split
        · rename_i z hz
          have hT := hE e z hz
          obtain ⟨i, zv, h1, h2, h3, h4, h5⟩ := zero_ok (D := D) (β := β) (w := w) hT
          split
          · rename_i hsz1
            have hsz1 := Nat.le_of_ble_eq_true hsz1
            intro av o c he hc
            simp only [Option.some.injEq, Prod.mk.injEq] at he
            obtain ⟨rfl, rfl, rfl⟩ := he
            simp only [Bool.and_eq_true, decide_eq_true_eq] at hc
            obtain ⟨⟨⟨g1, rfl⟩, g3⟩, g4⟩ := hc
            have g3 := Nat.le_of_ble_eq_true g3
            have g4 := Nat.le_of_ble_eq_true g4
            obtain ⟨k, rfl⟩ := Int.eq_ofNat_of_zero_le g1
            simp only [Int.toNat_natCast] at g3 g4 ⊢
            have hw : IntKind.i64.wrap (k : Int) = k := wrap_small g1 (by omega)
            have hzl : 0 < (z.zero.map AV.d).length := by simp [h4]; omega
            have hzs := zeros_ok h3 hzl k
            have hsz : zv.cells.size = z.size := by rw [h3.1]; simp [h4]
            have hbn : ¬ (((z.bytes : Int) * (k : Int)) > 2 ^ 48) := by
              have e : ((z.bytes : Int) * (k : Int)) = ((z.bytes * k : Nat) : Int) := by simp
              rw [e, Nat.mul_comm]
              omega
            have hrun : (Instr.makeSlice t (.int .i64 (k : Int)) (.int .i64 (k : Int))).run P w = .ok (.slice (some ⟨w.heap.size, 0, none⟩) k k) (w.alloc (.cells ((Array.range (k * zv.cells.size)).map fun x => zv.cells[x % zv.cells.size]!) e)) := by
              have hti : (typeInfo e).run P w = .ok i w := run_typeInfo h1
              have hai : (asInt (.int .i64 (k : Int))).run P w = .ok (k : Int) w := by simp [asInt, asIntOf]
              simp only [Instr.makeSlice, Sem.run_bind, run_underlying hu, hai, Result.andThen_ok, hti, h5, hw]
              rw [if_neg (by simp only [Bool.or_eq_true, decide_eq_true_eq]; rintro ((h | h) | h) <;> omega)]
              simp only [Sem.run_bind, run_askRoom, Result.andThen_ok, run_sizeOf hT, Int.toNat_natCast]
              by_cases h0 : k * z.size = 0
              · have hk0 : k = 0 := by
                  rcases Nat.mul_eq_zero.1 h0 with h | h
                  · exact h
                  · omega
                subst hk0
                have e0 : Array.range 0 = #[] := rfl
                simp [newRow, e0]
              · rw [if_neg h0]
                simp [h2, hsz, newRow]
            obtain ⟨β', s1, s2⟩ := vec_fresh hp (ag := isAggT z.desc) (sz := z.size) (n := k) e (by simp only [maxLen]; omega) (by rw [length_repeatL]; simp [h4]) hzs
            exact ⟨_, _, D, β', hrun, s1, s2⟩
          · exact .none
        · exact .none
  · exact .none

theorem splice_rep {cs ds : List AV} {vs us : List Value} {off : Nat} (h : ∀ (j : Nat) c v, cs[j]? = some c → vs[j]? = some v → RepA D β c v) (k : ds.length = us.length)
    (k2 : ∀ (j : Nat) c v, ds[j]? = some c → us[j]? = some v → RepA D β c v) (hl : off + ds.length ≤ cs.length) (hv : cs.length ≤ vs.length) :
    ∀ (j : Nat) c v, (splice cs off ds)[j]? = some c → (splice vs off us)[j]? = some v → RepA D β c v := by
  intro j c v hc hv'
  rw [getElem?_splice _ _ _ hl] at hc
  rw [getElem?_splice _ _ _ (by omega)] at hv'
  split at hc
  · rename_i h1; rw [if_pos h1] at hv'; exact h j c v hc hv'
  · rename_i h1
    rw [if_neg h1] at hv'
    split at hc
    · rename_i h2; rw [if_pos (by omega)] at hv'; exact k2 _ c v hc hv'
    · rename_i h2; rw [if_neg (by omega)] at hv'; exact h j c v hc hv'

/-- Cells written over others of one object. -/
theorem write_cells (hp : Heap D β objs w) {i : Nat} {bi : Bi} {ob : Ob} {cs : List AV} (hb : β[i]? = some bi) (ho : objs[i]? = some ob) (hc : obCells ob = some cs) {off : Nat} {ds : List DV} {us : List Value} (hd : DCells D ds us) (hl : off + ds.length ≤ cs.length) :
    ∃ w', (storeCells ⟨bi.blk, off, none⟩ us).run P w = .ok () w' ∧ Step D β objs w D β (objs.set i (obPut ob (cs.take off ++ ds.map .d ++ cs.drop (off + ds.length)))) w' := by
  obtain ⟨vs, T, g1, g2, g3, g4, g5, g6, g7⟩ := ob_cells hp hb ho hc
  have hst := run_storeCells P bi.blk T ⟨bi.blk, off, none⟩ rfl rfl us 0 w vs g1 (by simp only; have := hd.1; omega) hd.2.1
  simp only [Nat.add_zero] at hst
  have e : cs.take off ++ ds.map AV.d ++ cs.drop (off + ds.length) = splice cs off (ds.map .d) := by simp [splice]
  have hdl := hd.1
  have hput := g7 (splice cs off (ds.map .d)) (splice vs.toList off us).toArray (length_splice _ _ _ (by simpa using hl)) (by
    have := length_splice vs.toList off us (by simp; omega)
    simpa using this) (fun j c v hc hv => splice_rep (cs := cs) (ds := ds.map .d) (vs := vs.toList) (us := us) (off := off) (fun j c v hc hv => g3 j c v hc (by simpa using hv)) (by simp [hdl]) (fun j c v hc hv => by
      simp only [List.getElem?_map, Option.map_eq_some_iff] at hc
      obtain ⟨d, hd', rfl⟩ := hc
      exact .d (hd.2.2 j d v hd' hv)) (by simpa using hl) (by rw [Array.length_toList]; exact g2) j c v hc (by simpa using hv)) (fun j v hv => by
      simp only [List.getElem?_toArray] at hv
      rw [getElem?_splice _ _ _ (by simp; omega)] at hv
      split at hv
      · exact g4 j v (by simpa using hv)
      · split at hv
        · exact hd.2.1 _ v hv
        · exact g4 j v (by simpa using hv))
  rw [e]
  exact ⟨_, hst, Step.put hp hb ho g6 (fun b' hb' => by rw [hput.1] at hb'; exact (Option.some.inj hb').symm) g5 hput.2⟩

theorem copy_ok (hE : TyOK P E) (hp : Heap D β objs w) (ts tx ty : TypeId) {d x : AV} {u v : Value} (hd : RepA D β d u) (hx : RepA D β x v) :
    ValOK P D β objs w (Builtin.copy_ #[ts, tx] ty #[u, v]) (copyR E ts tx d x objs) := by
  unfold copyR
  split
  · rename_i e _ _ _ hts
    have hu := (hE ts _ hts).und
    simp only at hu
    split
    · rename_i z szx ys hz hsrc
      have hT := hE e z hz
      split
      · rename_i hcond
        simp only [Bool.and_eq_true] at hcond
        obtain ⟨⟨hc1, hc3⟩, _⟩ := hcond
        have hc1 := Nat.le_of_ble_eq_true hc1
        have hc3 := Nat.eq_of_beq_eq_true hc3
        have hszx : ys = [] ∨ z.size = szx := by
          cases ys with
          | nil => exact .inl rfl
          | cons a r => exact .inr (by simpa [srcSz] using hc3.symm)
        obtain ⟨vs, d1, d2, d3, d4⟩ := src_ok (P := P) hp hx hsrc
        have d2' : ∀ e, e ∈ ys → (cellsD e).length = z.size := by
          intro e he
          rcases hszx with h | h
          · subst h; simp at he
          · rw [h]; exact d2 e he
        have hvl : vs.length = ys.length * z.size := by rw [d1.1, flat_length d2']
        -- what is copied
        have hpart : ∀ len : Nat, DCells D (flatD (ys.take len)) (vs.take (min ys.length len * z.size)) ∧ (flatD (ys.take len)).length = min ys.length len * z.size := by
          intro len
          have e1 : flatD (ys.take len) = (flatD ys).take (min ys.length len * z.size) := by
            rw [flat_take d2']
            by_cases h : len ≤ ys.length
            · rw [Nat.min_eq_right h]
            · rw [Nat.min_eq_left (by omega), List.take_of_length_le (by rw [flat_length d2']; exact Nat.mul_le_mul_right _ (by omega)), List.take_of_length_le (by rw [flat_length d2']; exact Nat.le_refl _)]
          have hm : min ys.length len * z.size ≤ ys.length * z.size := Nat.mul_le_mul_right _ (Nat.min_le_left _ _)
          refine ⟨⟨by rw [e1]; simp [hvl, flat_length d2'], fun j v hv => d1.2.1 j v (getElem?_take_of hv).1, fun j c v hc hv => ?_⟩, by rw [e1]; simp [flat_length d2']⟩
          rw [e1] at hc
          exact d1.2.2 j c v (getElem?_take_of hc).1 (getElem?_take_of hv).1
        have hfc := fun len : Nat => d4 z.size hszx w rfl (min ys.length len) (Nat.min_le_left _ _)
        have hmin : ∀ a b : Nat, Nat.min a b = min a b := fun _ _ => rfl
        split
        · rename_i i off len cap
          split
          · rename_i cs ho
            split
            · rename_i hle
              have hle := Nat.le_of_ble_eq_true hle
              cases hd with
              | @bs _ _ _ _ bi hb =>
                obtain ⟨p1, p2⟩ := hpart len
                have hmm : min ys.length len * z.size ≤ len * z.size := Nat.mul_le_mul_right _ (Nat.min_le_right _ _)
                obtain ⟨w', q1, q2⟩ := write_cells (P := P) hp hb ho (cs := cs) rfl (off := off) p1 (by omega)
                intro av o c he hc
                simp only [pureR, Option.some.injEq, Prod.mk.injEq] at he
                obtain ⟨rfl, rfl, rfl⟩ := he
                rw [p2] at q2
                refine ⟨_, w', D, β, ?_, q2, .d .int⟩
                simp [Builtin.copy_, run_underlying hu, d3, hfc, run_sizeOf hT, hmin, q1, goInt]
            · exact .none
          · exact .none
        · rename_i i sz lo len
          split
          · rename_i ty0 ag szr n cs ho
            split
            · rename_i hcond
              simp only [Bool.and_eq_true] at hcond
              obtain ⟨⟨h1, h2⟩, h3⟩ := hcond
              have h1 := Nat.eq_of_beq_eq_true h1
              have h2 := Nat.eq_of_beq_eq_true h2
              have h3 := Nat.le_of_ble_eq_true h3
              subst h1 h2
              cases hd with
              | @vs _ _ _ _ cap c bi a ad hb hh hle hm hn hx0 =>
                obtain ⟨a', cap', k1, k2, k3, k4, k5, k6⟩ := hp.hold i bi _ hb ho
                rw [hh] at k1
                simp only [Option.some.injEq, Prod.mk.injEq] at k1
                obtain ⟨rfl, rfl⟩ := k1
                obtain ⟨p1, p2⟩ := hpart len
                intro av o c' he hc
                simp only [pureR, Option.some.injEq, Prod.mk.injEq] at he
                obtain ⟨rfl, rfl, rfl⟩ := he
                by_cases h0 : len = 0
                · subst h0
                  have hset : objs.set i (.vec ty0 ag z.size n (cs.take (lo * z.size) ++ (flatD (ys.take 0)).map .d ++ cs.drop (lo * z.size + min ys.length 0 * z.size))) = objs := by
                    apply List.ext_getElem?
                    intro j
                    by_cases hj : i = j
                    · subst hj; rw [List.getElem?_set_self (List.getElem?_eq_some_iff.1 ho).1, ho]; simp [flatD]
                    · rw [List.getElem?_set_ne hj]
                  rw [hset]
                  refine ⟨_, w, D, β, ?_, Step.refl hp, .d .int⟩
                  have h00 := hfc 0
                  simp only [Nat.min_zero, Nat.zero_mul, List.take_zero] at h00
                  cases ad <;> simp [Builtin.copy_, run_underlying hu, d3, h00, run_sizeOf hT, hmin, goInt, storeCells]
                · obtain ⟨had, hcap⟩ := hx0 (.inr (by omega))
                  cases a with
                  | none => have := hn.1 rfl; omega
                  | some a0 =>
                    subst had
                    have hmul : lo * z.size + len * z.size ≤ n * z.size := by rw [← Nat.add_mul]; exact Nat.mul_le_mul_right _ h3
                    have hmm : min ys.length len * z.size ≤ len * z.size := Nat.mul_le_mul_right _ (Nat.min_le_right _ _)
                    have hpos : 0 < cs.length := by
                      rw [k4]
                      exact Nat.mul_pos (by omega) (by omega)
                    have hoc : obCells (.vec ty0 ag z.size n cs) = some cs := by
                      cases cs with
                      | nil => simp at hpos
                      | cons c r => rfl
                    obtain ⟨w', q1, q2⟩ := write_cells (P := P) hp hb ho hoc (off := lo * z.size) p1 (by omega)
                    rw [p2] at q2
                    refine ⟨_, w', D, β, ?_, q2, .d .int⟩
                    simp [Builtin.copy_, run_underlying hu, d3, hfc, run_sizeOf hT, hmin, q1, goInt]
            · exact .none
          · exact .none
        · exact .none
      · exact .none
    · exact .none
  · exact .none

theorem cap_ok (hE : TyOK P E) (hp : Heap D β objs w) (t ty : TypeId) (ts : Array TypeId) (args : Array Value) {x : AV} {v : Value} (hx : RepA D β x v) (h0 : ts[0]? = some t) (h1 : args[0]? = some v) :
    ValOK P D β objs w (Builtin.cap_ ts ty args) (capR x objs E t) := by
  unfold capR
  split
  · rename_i e _ _ _ hty
    have hu := (hE t _ hty).und
    simp only at hu
    split
    · cases hx with
      | d hx => cases hx; exact .pure hp (fun _ => ⟨_, by simp [Builtin.cap_, h0, h1, run_underlying hu, goInt], .d .int⟩)
    · exact .none
  · exact .none

end
end Go.Av

/-
  The abstract layer, part J: append is sound, whatever capacity the tape draws.
-/
import Derived.Test.YtkehiddekhlfaaaI
noncomputable section
namespace Go.Av
open Go

section
variable {P : Program} {E : PT Ty} {D : DMap} {β : List Bi} {objs : List Ob} {w : World}

theorem own_room {bi : Bi} {n sz b : Nat} {ad : Addr} {cap : Nat} (h : bi.hist n = some (some ad, cap)) (ho : ownOf bi (.room n sz) = some b) : b = ad.block := by
  simp only [ownOf, h, Option.bind_some] at ho
  split at ho
  · cases ho
  · cases ho; rfl

/-- What is appended: the first cells of a row or of a string; n zeros. -/
def AppArg (P : Program) (e : TypeId) (z : Ty) (tx : TypeId) (v : Value) (n : Nat) (vs : List Value) (w : World) : Prop :=
  ((∃ dx, P.underlying tx = some dx ∧ ((∃ e', dx = .slice e') ∨ dx = .string)) ∧ (Builtin.lenOf v).run P w = .ok n w ∧ ∀ W : World, W.heap = w.heap → (Builtin.firstCells z.size n v).run P W = .ok vs.toArray W) ∨
  ((∃ k, P.underlying tx = some (.int k)) ∧ v = .int .i64 n ∧ n ≤ 1099511627776 ∧ n * z.bytes ≤ 1099511627776 ∧ ∃ zv, (∀ W : World, (zeroValue e).run P W = .ok zv W) ∧ vs.toArray = if n * z.size = 0 then #[] else Builtin.zeroCells zv.cells n)

theorem wrap_nat {n : Nat} (h : n ≤ 1099511627776) : IntKind.i64.wrap (n : Int) = n := by
  unfold IntKind.wrap
  simp [IntKind.bits, IntKind.signed]
  omega

theorem mul_small {n b : Nat} (h : n * b ≤ 1099511627776) : ¬ (281474976710656 : Int) < (n : Int) * (b : Int) := by
  have : ((n * b : Nat) : Int) ≤ ((1099511627776 : Nat) : Int) := Int.ofNat_le.2 h
  rw [Int.natCast_mul] at this
  omega
theorem asInt_run {k : IntKind} {n : Int} (P : Program) (w : World) : (asInt (.int k n)).run P w = .ok n w := rfl

/-- append where there is room: the new cells are written behind the old ones. -/
theorem append_fits_run {ts tx ty e : TypeId} {z : Ty} {base : Option Addr} {len cap n : Nat} {v : Value} {vs : List Value} (hts : P.underlying ts = some (.slice e)) (hT : TyOK1 P e z)
    (hA : AppArg P e z tx v n vs w) (hroom : len + n ≤ cap) :
    (Builtin.append_ #[ts, tx] ty #[.slice base len cap, v]).run P w = match base with
      | none => .ok (.slice none (len + n) cap) w
      | some a => ((storeCells (a.add (len * z.size)) vs).run P w).andThen fun _ w' => .ok (.slice (some a) (len + n) cap) w' := by
  rcases hA with ⟨⟨dx, htx, hdx⟩, hl, hf⟩ | ⟨⟨k, htx⟩, rfl, h1, h2, zv, hzv, hvs⟩
  · have hf := hf w rfl
    rcases hdx with ⟨e', rfl⟩ | rfl <;> cases base <;>
      simp [Builtin.append_, run_underlying hts, run_underlying htx, run_sizeOf hT, hl, hroom, hf]
  · obtain ⟨i, zz, g1, g2, g3, g4, g5, g6, g7, g8⟩ := hT.info
    have hti : ∀ W : World, (typeInfo e).run P W = .ok i W := fun W => run_typeInfo g1
    have hb := mul_small h2
    have hn : ¬ (n : Int) < 0 := by omega
    have hvs' : vs = (if n * z.size = 0 then (#[] : Array Value) else Builtin.zeroCells zv.cells n).toList := by rw [← hvs]
    by_cases h0 : n * z.size = 0
    · rw [if_pos h0] at hvs'
      subst hvs'
      cases base <;> simp [Builtin.append_, run_underlying hts, run_underlying htx, run_sizeOf hT, hroom, asInt_run, wrap_nat h1, hti, g3, hb, hn, h0]
    · rw [if_neg h0] at hvs'
      subst hvs'
      cases base <;> simp [Builtin.append_, run_underlying hts, run_underlying htx, run_sizeOf hT, hroom, asInt_run, wrap_nat h1, hti, g3, hb, hn, h0, hzv]

/-- append where there is no room: a new row, whose capacity the tape draws. -/
theorem append_grows_run {ts tx ty e : TypeId} {z : Ty} {base : Option Addr} {len cap n : Nat} {v : Value} {vs olds : List Value} {zv : Value} (hts : P.underlying ts = some (.slice e)) (hT : TyOK1 P e z)
    (hA : AppArg P e z tx v n vs w)
    (ho : (Builtin.firstCells z.size len (.slice base len cap)).run P w.drew = .ok olds.toArray w.drew) (hzv : (zeroValue e).run P w.drew = .ok zv w.drew) (hroom : cap < len + n) (hb : (len + n) * z.bytes ≤ 1099511627776) (hn : len + n ≤ 1099511627776) :
    ∃ newCap, len + n ≤ newCap ∧ newCap ≤ maxLen ∧ (Builtin.append_ #[ts, tx] ty #[.slice base len cap, v]).run P w =
      .ok (.slice (some ⟨w.heap.size, 0, none⟩) (len + n) newCap) (w.drew.alloc (.cells ((olds ++ vs).toArray ++ Builtin.zeroCells zv.cells (newCap - (len + n))) e)) := by
  obtain ⟨i, zz, h1, h2, h3, h4, h5, h6, h7, h8⟩ := hT.info
  have hng : ¬ len + n ≤ cap := by omega
  have hnc := nextslicecap_le hroom
  have hnb : ¬ Builtin.nextslicecap (len + n) cap * z.bytes > 2 ^ 48 := by
    have : Builtin.nextslicecap (len + n) cap * z.bytes ≤ 2 * (len + n) * z.bytes := Nat.mul_le_mul_right _ hnc
    have e : 2 * (len + n) * z.bytes = 2 * ((len + n) * z.bytes) := Nat.mul_assoc _ _ _
    omega
  have hfo : Question.forced (.appendCap (len + n) cap e) = false := rfl
  refine ⟨(Question.appendCap (len + n) cap e).cut (w.tape w.drawn (.appendCap (len + n) cap e)), ?_, ?_, ?_⟩
  · simp [Question.cut]
  · simp only [Question.cut, maxLen]
    have : w.tape w.drawn (.appendCap (len + n) cap e) % (2 ^ 63 - (len + n)) < 2 ^ 63 - (len + n) := Nat.mod_lt _ (by omega)
    omega
  · have hti : ∀ W : World, (typeInfo e).run P W = .ok i W := fun W => run_typeInfo h1
    have hch : (choose (.appendCap (len + n) cap e)).run P w = .ok ((Question.appendCap (len + n) cap e).cut (w.tape w.drawn (.appendCap (len + n) cap e))) w.drew := by
      rw [run_choose_drew]; simp [hfo]
    rcases hA with ⟨⟨dx, htx, hdx⟩, hl, hf⟩ | ⟨⟨k, htx⟩, rfl, q1, q2, zv', hzv', hvs⟩
    · have hf := hf w.drew rfl
      rcases hdx with ⟨e', rfl⟩ | rfl
      all_goals
        simp [Builtin.append_, run_underlying hts, run_underlying htx, run_sizeOf hT, hl, hng, hti, h3, hnb, hf, ho, hzv, newRow]
        rw [if_neg (by omega), if_neg (by simp [hfo])]
        congr 3
        apply Array.ext'
        simp
    · have hb' := mul_small q2
      have hn' : ¬ (n : Int) < 0 := by omega
      have hz' : zv' = zv := by have := hzv' w.drew; rw [hzv] at this; cases this; rfl
      subst hz'
      have hvs' : vs = (if n * z.size = 0 then (#[] : Array Value) else Builtin.zeroCells zv'.cells n).toList := by rw [← hvs]
      by_cases h0 : n * z.size = 0
      · rw [if_pos h0] at hvs'
        subst hvs'
        simp [Builtin.append_, run_underlying hts, run_underlying htx, run_sizeOf hT, hng, hti, h3, hnb, ho, hzv', newRow, asInt_run, wrap_nat q1, hb', hn', h0]
        try rw [if_neg (by omega)]
        try rw [if_neg (by simp [hfo])]
        try congr 3
        try (apply Array.ext'; simp)
      · rw [if_neg h0] at hvs'
        subst hvs'
        simp [Builtin.append_, run_underlying hts, run_underlying htx, run_sizeOf hT, hng, hti, h3, hnb, ho, hzv', newRow, asInt_run, wrap_nat q1, hb', hn', h0]
        try rw [if_neg (by omega)]
        try rw [if_neg (by simp [hfo])]
        try congr 3
        try (apply Array.ext'; simp)

theorem zeroCells_ok {zv : Value} {n : Nat} (h : ∀ (j : Nat) v, zv.cells[j]? = some v → v.oneCell' = true) (hz : 0 < zv.cells.size) :
    (Builtin.zeroCells zv.cells n).size = n * zv.cells.size ∧ ∀ (j : Nat) v, (Builtin.zeroCells zv.cells n)[j]? = some v → v.oneCell' = true := by
  refine ⟨by simp [Builtin.zeroCells], fun j v hv => ?_⟩
  simp only [Builtin.zeroCells] at hv
  rw [Array.getElem?_map, Array.getElem?_range] at hv
  split at hv
  · simp only [Option.map_some, Option.some.injEq] at hv
    have hm : j % zv.cells.size < zv.cells.size := Nat.mod_lt _ hz
    rw [getElem!_pos zv.cells _ hm] at hv
    exact h (j % zv.cells.size) v (by rw [← hv]; simp [hm])
  · cases hv

/-- A row in a new block: what it holds, and what lies behind it. -/
theorem newRow_facts (hp : Heap D β objs w) {es : List DV} {sz cap : Nat} {cells : List Value} {rest : Array Value} {T : TypeId} (hsz : ∀ e, e ∈ es → (cellsD e).length = sz) (hc : es.length ≤ cap) (hm : cap ≤ maxLen)
    (hd : DCells D (flatD es) cells) (hr : rest.size = (cap - es.length) * sz) (hr1 : ∀ (j : Nat) v, rest[j]? = some v → v.oneCell' = true) :
    let W := w.drew.alloc (.cells (cells.toArray ++ rest) T)
    let D' := extD D w.heap.size cells
    (∀ ad v, D ad = some v → D' ad = some v) ∧ (∀ ad v, D' ad = some v → D ad = none → w.heap.size ≤ ad.block ∧ ad.spot = none ∧ v.oneCell' = true ∧ W.cell? ad = some v) ∧
    RepD D' (.sl sz es) (.slice (some ⟨w.heap.size, 0, none⟩) es.length cap) ∧
    (∀ β' bi, bi.hist es.length = some (some ⟨w.heap.size, 0, none⟩, cap) → (∀ m, es.length < m → bi.hist m = none) → HoldsOb D' β' W bi (.room es.length sz)) := by
  intro W D'
  have hl : cells.length = es.length * sz := by rw [hd.1, flat_length hsz]
  have hlow : ∀ ad v, D ad = some v → ad.block < w.heap.size := fun ad v h => hp.D_lt h
  have hsub : ∀ ad v, D ad = some v → D' ad = some v := fun ad v h => extD_old hlow h
  have hnew : W.heap[w.heap.size]? = some (.cells (cells.toArray ++ rest) T) := alloc_new w.drew _
  refine ⟨hsub, fun ad v h1 h2 => ?_, sl_of hsz hc hm (hd.mono hsub) (fun j v hv => by rw [Nat.zero_add]; exact extD_new hv), fun β' bi h1 h2 => ?_⟩
  · obtain ⟨e1, e2, e3⟩ := extD_inv h1 h2
    refine ⟨by omega, e2, hd.2.1 _ v e3, ?_⟩
    obtain ⟨b, o, sp⟩ := ad
    simp only at e1 e2 e3
    subst e1 e2
    rw [cell_of_blk hnew, Array.getElem?_append_left (by have := (List.getElem?_eq_some_iff.1 e3).1; simpa using this)]
    simpa using e3
  · refine ⟨_, cap, h1, h2, hc, hm, by simp, fun ad e => ?_⟩
    cases e
    refine ⟨.inr rfl, fun _ => ⟨_, T, hnew, ?_, fun j v hv => ?_, fun j hj => ?_⟩⟩
    · have : cap * sz = es.length * sz + (cap - es.length) * sz := by rw [← Nat.add_mul]; congr 1; omega
      simp [hl, hr]; omega
    · by_cases hj : j < cells.length
      · rw [Array.getElem?_append_left (by simpa using hj)] at hv; exact hd.2.1 j v (by simpa using hv)
      · rw [Array.getElem?_append_right (by simpa using Nat.le_of_not_lt hj)] at hv; exact hr1 _ v hv
    · show extD D w.heap.size cells ⟨w.heap.size, 0 + j, none⟩ = none
      unfold extD
      rw [if_neg (by simp; omega)]
      cases hd' : D ⟨w.heap.size, 0 + j, none⟩ with
      | none => rfl
      | some v => have := hlow _ _ hd'; simp at this

theorem le_of_bytes {n b : Nat} (hb : n * b ≤ 1099511627776) (h : 1 ≤ b) : n ≤ 1099511627776 := Nat.le_trans (Nat.le_mul_of_pos_right _ h) hb

/-- The cells of a row that may be written, in a block of its own. -/
theorem vec_new {D : DMap} {β : List Bi} {w : World} {bi : Bi} {ag : Bool} {sz n cap : Nat} {cs : List AV} {olds vs : List Value} {ds : List DV} {rest : Array Value} {T : TypeId} (hh : bi.hist 0 = some (some ⟨bi.blk, 0, none⟩, cap))
    (hn : n ≤ cap) (hm : cap ≤ maxLen) (hl : cs.length + ds.length = n * sz) (ho : olds.length = cs.length) (h1 : ∀ (j : Nat) v, olds[j]? = some v → v.oneCell' = true)
    (hr : ∀ (j : Nat) c v, cs[j]? = some c → olds[j]? = some v → RepA D β c v) (hd : DCells D ds vs) (hw : w.heap[bi.blk]? = some (.cells ((olds ++ vs).toArray ++ rest) T (0, 0))) (hrs : cap * sz ≤ n * sz + rest.size)
    (hr1 : ∀ (j : Nat) v, rest[j]? = some v → v.oneCell' = true) (hD : ∀ ad, ad.block = bi.blk → D ad = none) : HoldsOb D β w bi (.vec T ag sz n (cs ++ ds.map .d)) := by
  have hvl := hd.1
  refine ⟨_, cap, hh, hn, hm, by simpa using hl, by simp, fun ad e => ?_⟩
  cases e
  refine ⟨rfl, _, T, ⟨hw, rfl⟩, by simp; omega, fun j c v hc hv => ?_, fun j v hv => ?_, hD⟩
  · have hj : j < cs.length + ds.length := by have := (List.getElem?_eq_some_iff.1 hc).1; simpa using this
    rw [Array.getElem?_append_left (by simp; omega)] at hv
    simp only [List.getElem?_toArray] at hv
    by_cases h : j < cs.length
    · rw [List.getElem?_append_left h] at hc
      rw [List.getElem?_append_left (by omega)] at hv
      exact hr j c v hc hv
    · rw [List.getElem?_append_right (by omega)] at hc
      rw [List.getElem?_append_right (by omega), ho] at hv
      simp only [List.getElem?_map, Option.map_eq_some_iff] at hc
      obtain ⟨d, hd', rfl⟩ := hc
      exact .d (hd.2.2 _ d v hd' hv)
  · by_cases hj : j < (olds ++ vs).length
    · rw [Array.getElem?_append_left (by simpa using hj)] at hv
      simp only [List.getElem?_toArray] at hv
      by_cases h : j < olds.length
      · rw [List.getElem?_append_left h] at hv; exact h1 j v hv
      · rw [List.getElem?_append_right (by omega)] at hv; exact hd.2.1 _ v hv
    · rw [Array.getElem?_append_right (by simpa using Nat.le_of_not_lt hj)] at hv; exact hr1 _ v hv

/-- append to a row that may be written: the row goes over to a new object. -/
theorem append_vec (hp : Heap D β objs w) {ts tx ty e : TypeId} {z : Ty} {ys : List DV} {vs : List Value} {u v zv : Value} (hts : P.underlying ts = some (.slice e)) (hT : TyOK1 P e z)
    (d1 : DCells D (flatD ys) vs) (d2 : ∀ e, e ∈ ys → (cellsD e).length = z.size) (hA : AppArg P e z tx v ys.length vs w) (hzv : (zeroValue e).run P w.drew = .ok zv w.drew) (hzs : zv.cells.size = z.size)
    (hz1 : ∀ (j : Nat) v, zv.cells[j]? = some v → v.oneCell' = true) (h1 : 1 ≤ z.size) (h2 : 1 ≤ z.bytes) {i len n : Nat} {ag : Bool} {cs : List AV} (hs : RepA D β (.vs i z.size 0 len) u)
    (ho : objs[i]? = some (.vec e ag z.size n cs)) (hle : len ≤ n) (hbytes : (len + ys.length) * z.bytes ≤ 1099511627776) :
    ∃ v' w' D' β', (Builtin.append_ #[ts, tx] ty #[u, v]).run P w = .ok v' w' ∧
      Step D β objs w D' β' (objs.set i .gone ++ [.vec e ag z.size (len + ys.length) (cs.take (len * z.size) ++ (flatD ys).map .d)]) w' ∧ RepA D' β' (.vs objs.length z.size 0 (len + ys.length)) v' := by
  cases hs with
  | @vs _ _ _ _ cap c bi a ad hb hh hlc hmc hnn hx =>
    obtain ⟨rfl, hcap⟩ := hx (.inl rfl)
    have hcap : c = cap := by omega
    subst hcap
    obtain ⟨a', cap', k1, k2, k3, k4, k5, k6⟩ := hp.hold i bi _ hb ho
    rw [hh] at k1
    simp only [Option.some.injEq, Prod.mk.injEq] at k1
    obtain ⟨rfl, rfl⟩ := k1
    have hvl : vs.length = ys.length * z.size := by rw [d1.1, flat_length d2]
    have hfl : (flatD ys).length = ys.length * z.size := flat_length d2
    have hmul : len * z.size ≤ n * z.size := Nat.mul_le_mul_right _ hle
    have hmul2 : n * z.size ≤ c * z.size := Nat.mul_le_mul_right _ k2
    have hlen := hp.len
    have hct : (cs.take (len * z.size)).length = len * z.size := by simp; omega
    have hZ := fun n => zeroCells_ok (n := n) hz1 (by omega)
    by_cases hroom : len + ys.length ≤ c
    · cases a with
      | none =>
        have h0 := k5 rfl
        subst h0
        have e1 : len = 0 := by omega
        have e2 : ys = [] := List.length_eq_zero_iff.1 (by omega)
        subst e1 e2
        have hrun := append_fits_run (ty := ty) (base := none) (len := 0) (cap := 0) hts hT hA (by simp)
        refine ⟨_, w, D, β ++ [⟨0, fun m => if m = 0 then some (none, 0) else none⟩], by simpa using hrun, (Step.gone hp i).trans (Step.push (Step.gone hp i).heap (fun _ _ => rfl) (Nat.le_refl _) rfl rfl rfl (fun _ _ h => h)
          (fun ad v h1 h2 => by rw [h2] at h1; cases h1) (fun b hb => by simp [ownOf] at hb) ?_), ?_⟩
        · exact ⟨none, 0, by simp, by simp, by simp, by simp [flatD], by simp, by simp⟩
        · exact .vs (bi := ⟨0, fun m => if m = 0 then some (none, 0) else none⟩) (a := none) (cap := 0) (by rw [← hlen]; simp) (by simp) (by simp) (by simp) (by simp) (by simp)
      | some ad0 =>
        obtain ⟨rfl, arr, T, ⟨g1, rfl⟩, g2, g3, g4, g5⟩ := k6 ad0 rfl
        have hrun := append_fits_run (ty := ty) (base := some ⟨bi.blk, 0, none⟩) (len := len) (cap := c) hts hT hA hroom
        have hmul3 : len * z.size + ys.length * z.size ≤ c * z.size := by rw [← Nat.add_mul]; exact Nat.mul_le_mul_right _ hroom
        have hst := run_storeCells P bi.blk T ⟨bi.blk, len * z.size, none⟩ rfl rfl vs 0 w arr g1 (by simp only; omega) d1.2.1
        simp only at hrun
        rw [addr_add rfl] at hrun
        simp only [Nat.zero_add, Nat.add_zero] at hst hrun
        simp only [hst, Result.andThen_ok] at hrun
        have hbw : bi.blk < w.heap.size := lt_of_getElem? g1
        refine ⟨_, _, D, β ++ [⟨bi.blk, fun m => if m = 0 then some (some ⟨bi.blk, 0, none⟩, c) else none⟩], by simpa using hrun, Step.move hp hb ho (b := bi.blk) (by simp [ownOf, hh]) (fun b' hb' => by simp [ownOf] at hb'; exact hb'.symm) g5 ?_, ?_⟩
        · have hsp : (splice arr.toList (len * z.size) vs).toArray = ((arr.toList.take (len * z.size) ++ vs).toArray ++ (arr.toList.drop (len * z.size + vs.length)).toArray) := by simp [splice]
          refine vec_new (olds := arr.toList.take (len * z.size)) (rest := (arr.toList.drop (len * z.size + vs.length)).toArray) (T := T) (by simp) hroom k3 (by rw [hct, hfl, Nat.add_mul]) (by rw [hct]; simp; omega) (fun j v hv => ?_) (fun j c v hc hv => ?_) d1
            (by rw [putB_eq hbw, hsp]) (by simp [hvl]; rw [Nat.add_mul]; omega) (fun j v hv => ?_) g5
          · obtain ⟨hv, _⟩ := getElem?_take_of hv; exact g4 j v (by simpa using hv)
          · obtain ⟨hv, _⟩ := getElem?_take_of hv
            obtain ⟨hc, _⟩ := getElem?_take_of hc
            exact (g3 j c v hc (by simpa using hv)).mono (fun _ _ h => h) ext_snoc
          · simp only [List.getElem?_toArray, List.getElem?_drop] at hv; exact g4 _ v (by simpa using hv)
        · exact .vs (bi := ⟨bi.blk, fun m => if m = 0 then some (some ⟨bi.blk, 0, none⟩, c) else none⟩) (a := some ⟨bi.blk, 0, none⟩) (cap := c) (by rw [← hlen]; simp) (by simp) hroom hmc (by simp) (by simp)
    · have hol : ∃ olds : List Value, olds.length = len * z.size ∧ (∀ (j : Nat) v, olds[j]? = some v → v.oneCell' = true) ∧ (∀ (j : Nat) c v, (cs.take (len * z.size))[j]? = some c → olds[j]? = some v → RepA D β c v) ∧
          (Builtin.firstCells z.size len (.slice (a.map fun _ => ⟨bi.blk, 0 * z.size, none⟩) len c)).run P w.drew = .ok olds.toArray w.drew := by
        cases a with
        | none =>
          have h0 := k5 rfl
          have e1 : len = 0 := by omega
          subst e1
          exact ⟨[], by simp, by simp, by simp, rfl⟩
        | some ad0 =>
          obtain ⟨rfl, arr, T, ⟨g1, rfl⟩, g2, g3, g4, g5⟩ := k6 ad0 rfl
          refine ⟨arr.toList.take (len * z.size), by simp; omega, fun j v hv => ?_, fun j c v hc hv => ?_, ?_⟩
          · obtain ⟨hv, _⟩ := getElem?_take_of hv; exact g4 j v (by simpa using hv)
          · obtain ⟨hv, _⟩ := getElem?_take_of hv
            obtain ⟨hc, _⟩ := getElem?_take_of hc
            exact g3 j c v hc (by simpa using hv)
          · simp only [Builtin.firstCells, Option.map_some]
            have hl2 : (arr.toList.take (len * z.size)).length = len * z.size := by simp; omega
            have := run_loadCells P w.drew ⟨bi.blk, 0 * z.size, none⟩ (arr.toList.take (len * z.size)) (fun j v hv => by
              obtain ⟨hv, _⟩ := getElem?_take_of hv
              rw [addr_add rfl]
              show w.cell? ⟨bi.blk, 0 * z.size + j, none⟩ = _
              rw [cell_of_blk g1, Nat.zero_mul, Nat.zero_add]; simpa using hv)
            rw [hl2] at this; exact this
      obtain ⟨olds, o1, o2, o3, o4⟩ := hol
      obtain ⟨newCap, n1, n2, n3⟩ := append_grows_run (ty := ty) (w := w) (len := len) (cap := c) (olds := olds) hts hT hA o4 hzv (by omega) hbytes (le_of_bytes hbytes h2)
      have hDn : ∀ ad : Addr, ad.block = w.heap.size → D ad = none := fun ad ha => by
        cases hd : D ad with
        | none => rfl
        | some v => have := hp.D_lt hd; omega
      have hZ1 : (zv.cells).size = z.size := hzs
      refine ⟨_, _, D, β ++ [⟨w.heap.size, fun m => if m = 0 then some (some ⟨w.heap.size, 0, none⟩, newCap) else none⟩], n3, (Step.gone hp i).trans (Step.push (Step.gone hp i).heap (fun k hk => alloc_keep w.drew _ k hk) (by simp) rfl rfl rfl (fun _ _ h => h)
          (fun ad v h1 h2 => by rw [h2] at h1; cases h1) (fun b hb => by simp [ownOf] at hb; omega) ?_), ?_⟩
      · refine vec_new (olds := olds) (rest := Builtin.zeroCells zv.cells (newCap - (len + ys.length))) (T := e) (by simp) n1 n2 (by rw [hct, hfl, Nat.add_mul]) (by rw [hct, o1]) o2
          (fun j c v hc hv => (o3 j c v hc hv).mono (fun _ _ h => h) ext_snoc) d1 (alloc_new w.drew _) (by rw [(hZ _).1, hzs, ← Nat.add_mul]; apply Nat.mul_le_mul_right; omega) (hZ _).2 hDn
      · exact .vs (bi := ⟨w.heap.size, fun m => if m = 0 then some (some ⟨w.heap.size, 0, none⟩, newCap) else none⟩) (a := some ⟨w.heap.size, 0, none⟩) (cap := newCap) (by rw [← hlen]; simp) (by simp) n1 n2 (by simp) (by simp)

theorem get_flat_rep {α : Type} (l : List α) : ∀ (m j : Nat), j < m * l.length → ((List.replicate m l).flatten)[j]? = l[j % l.length]?
  | 0, j, hj => by omega
  | m + 1, j, hj => by
    rw [List.replicate_succ, List.flatten_cons]
    by_cases h : j < l.length
    · rw [List.getElem?_append_left h, Nat.mod_eq_of_lt h]
    · rw [List.getElem?_append_right (by omega), get_flat_rep l m (j - l.length) (by rw [Nat.succ_mul] at hj; omega)]
      congr 1
      rw [Nat.mod_eq_sub_mod (a := j) (by omega)]

theorem flat_zeros {z : Ty} (hz : isAggT z.desc = true ∨ z.size = 1) (hl : z.zero.length = z.size) : cellsD (zeroE z) = z.zero ∨ isAggT z.desc = false ∧ ∃ c, z.zero = [c] ∧ zeroE z = c := by
  unfold zeroE
  cases ha : isAggT z.desc with
  | true => exact .inl rfl
  | false =>
    rcases hz with h | h
    · rw [ha] at h; cases h
    · rw [h] at hl
      obtain ⟨c, hc⟩ := List.length_eq_one_iff.1 hl
      exact .inr ⟨rfl, c, hc, by simp [hc]⟩

theorem app_arg (hE : TyOK P E) {e tx : TypeId} {z : Ty} (hT : TyOK1 P e z) (hp : Heap D β objs w) {x : AV} {v : Value} (hx : RepA D β x v) {szx : Nat} {ys : List DV} (h : appSrc E z tx x objs = some (szx, ys)) (h1 : 1 ≤ z.size)
    (hc3 : srcSz szx z.size ys = z.size) : ∃ vs : List Value, DCells D (flatD ys) vs ∧ (∀ e, e ∈ ys → (cellsD e).length = z.size) ∧ AppArg P e z tx v ys.length vs w := by
  unfold appSrc at h
  split at h
  · rename_i k _ _ _ hty
    have htx := (hE tx _ hty).und
    simp only at htx
    split at h
    · rename_i n
      split at h
      · rename_i hc
        simp only [Option.some.injEq, Prod.mk.injEq] at h
        obtain ⟨rfl, rfl⟩ := h
        simp only [Bool.and_eq_true, Bool.or_eq_true, decide_eq_true_eq] at hc
        obtain ⟨⟨⟨g0, g1⟩, g2⟩, g3⟩ := hc
        have g1 := Nat.le_of_ble_eq_true g1
        have g2 := Nat.le_of_ble_eq_true g2
        have g3 : isAggT z.desc = true ∨ z.size = 1 := g3.imp id Nat.eq_of_beq_eq_true
        obtain ⟨m, rfl⟩ : ∃ m : Nat, n = m := ⟨n.toNat, by omega⟩
        simp only [Int.toNat_natCast] at g1 g2 ⊢
        cases hx with
        | d hx =>
          cases hx
          obtain ⟨i, zv, j1, j2, j3, j4, j5, j6, j7, j8⟩ := hT.info
          have hzv : ∀ W : World, (zeroValue e).run P W = .ok zv W := fun W => by simp [zeroValue, run_typeInfo j1, j4]
          have hcells : ∀ e', e' ∈ List.replicate m (zeroE z) → (cellsD e').length = z.size := by
            intro e' he
            have := (List.mem_replicate.1 he).2
            subst this
            rcases flat_zeros g3 j6 with h | ⟨ha, c, hc1, hc2⟩
            · rw [h, j6]
            · rw [hc2]
              rw [hc1] at j6
              have hu0 : zv.cells[0]? = some (zv.cells.getD 0 undef) := by
                have : 0 < zv.cells.size := by rw [j5, ← j6]; simp
                simp [Array.getD_eq_getD_getElem?, this]
              have := j7 0 c (zv.cells.getD 0 undef) (by simp [hc1]) hu0
              have hone := j8 0 _ hu0
              generalize zv.cells.getD 0 undef = u at this hone
              cases c with
              | agg cs => cases this; cases hone
              | _ => simp [cellsD] at j6 ⊢; omega
          have hfl : flatD (List.replicate m (zeroE z)) = (List.replicate m z.zero).flatten := by
            have hcz : cellsD (zeroE z) = z.zero := by
              rcases flat_zeros g3 j6 with h | ⟨ha, c, hc1, hc2⟩
              · exact h
              · rw [hc2, hc1]
                have hu0 : zv.cells[0]? = some (zv.cells.getD 0 undef) := by
                  have : 0 < zv.cells.size := by rw [j5, ← j6, hc1]; simp
                  simp [Array.getD_eq_getD_getElem?, this]
                have := j7 0 c (zv.cells.getD 0 undef) (by simp [hc1]) hu0
                have hone := j8 0 _ hu0
                generalize zv.cells.getD 0 undef = u at this hone
                cases c with
                | agg cs => cases this; cases hone
                | _ => rfl
            unfold flatD
            rw [List.flatMap_def, List.map_replicate, hcz]
          have hlen : ((List.replicate m z.zero).flatten).length = m * z.size := by simp [j6]
          have hget : ∀ (j : Nat), j < m * z.size → ((List.replicate m z.zero).flatten)[j]? = z.zero[j % z.size]? := by
            intro j hj
            rw [← j6] at hj ⊢
            exact get_flat_rep z.zero m j hj
          refine ⟨(Builtin.zeroCells zv.cells m).toList, ⟨by rw [hfl, hlen]; simp [Builtin.zeroCells, j5], fun j v hv => ?_, fun j c v hc hv => ?_⟩, hcells, .inr ⟨⟨k, htx⟩, by simp, by simp; omega, by simpa using g2, zv, hzv, ?_⟩⟩
          · exact (zeroCells_ok (n := m) j8 (by omega)).2 j v (by simpa using hv)
          · rw [hfl] at hc
            have hj : j < m * z.size := by rw [← hlen]; exact (List.getElem?_eq_some_iff.1 hc).1
            rw [hget j hj] at hc
            have hm : j % zv.cells.size < zv.cells.size := Nat.mod_lt _ (by omega)
            simp only [Builtin.zeroCells, Array.getElem?_toList, Array.getElem?_map] at hv
            rw [Array.getElem?_range, if_pos (by rw [j5]; exact hj)] at hv
            simp only [Option.map_some, Option.some.injEq] at hv
            rw [getElem!_pos zv.cells _ hm] at hv
            refine (j7 (j % z.size) c v hc ?_).zero
            rw [← hv, ← j5]; simp [hm]
          · split
            · rename_i h0
              simp only [List.length_replicate] at h0
              have : m = 0 := by
                rcases Nat.mul_eq_zero.1 h0 with h | h
                · exact h
                · omega
              subst this
              simp [Builtin.zeroCells]
            · simp
      · cases h
    · cases h
  · split at h
    · rename_i hc4
      have hszx : ys = [] ∨ z.size = szx := by
        cases ys with
        | nil => exact .inl rfl
        | cons a r => exact .inr (by simpa [srcSz] using hc3.symm)
      obtain ⟨vs, d1, d2, d3, d4⟩ := src_ok (P := P) hp hx h
      have d2' : ∀ e, e ∈ ys → (cellsD e).length = z.size := by
        intro e he
        rcases hszx with h | h
        · subst h; simp at he
        · rw [h]; exact d2 e he
      refine ⟨vs, d1, d2', .inl ⟨?_, d3, fun W hW => ?_⟩⟩
      · unfold seqT at hc4
        split at hc4
        · rename_i y hy
          refine ⟨y.desc, (hE tx y hy).und, ?_⟩
          split at hc4
          · rename_i e' h; exact .inl ⟨e', h⟩
          · rename_i h; exact .inr h
          · cases hc4
        · cases hc4
      · have := d4 z.size hszx W hW ys.length (Nat.le_refl _)
        rwa [List.take_of_length_le (by rw [d1.1, flat_length d2']; exact Nat.le_refl _)] at this
    · cases h

theorem append_ok (hE : TyOK P E) (hp : Heap D β objs w) (vec : Bool) (ts tx ty : TypeId) {s x : AV} {u v : Value} (hs : RepA D β s u) (hx : RepA D β x v) :
    ValOK P D β objs w (Builtin.append_ #[ts, tx] ty #[u, v]) (appendR E vec ts tx s x objs) := by
  unfold appendR
  split
  · rename_i e _ _ _ hts
    have hu := (hE ts _ hts).und
    simp only at hu
    split
    · rename_i z szx ys hz hsrc
      have hsrc : appSrc E z tx x objs = some (szx, ys) := by
        unfold appSrc0 at hsrc; rw [hz] at hsrc; exact hsrc
      have hT := hE e z hz
      split
      · rename_i hcond
        simp only [Bool.and_eq_true] at hcond
        obtain ⟨⟨hc1, hc2⟩, hc3⟩ := hcond
        have hc1 := Nat.le_of_ble_eq_true hc1
        have hc2 := Nat.le_of_ble_eq_true hc2
        have hc3 := Nat.eq_of_beq_eq_true hc3
        obtain ⟨vs, d1, d2', hA⟩ := app_arg hE hT hp hx hsrc hc1 hc3
        obtain ⟨i0, zv, _, hzv, hzc, hzl, _⟩ := zero_ok (D := D) (β := β) (w := w.drew) hT
        have hzsz : zv.cells.size = z.size := by rw [hzc.1]; simp [hzl]
        have hzc2 := fun n => zeroCells_ok (n := n) hzc.2.1 (by omega)
        split
        · cases vec with
          | true =>
           cases hs with
           | d hs =>
            cases hs
            intro av o c he hc
            simp only [Option.some.injEq, Prod.mk.injEq] at he
            obtain ⟨rfl, rfl, rfl⟩ := he
            have hb := Nat.le_of_ble_eq_true hc
            have hfl : (flatD ys).length = ys.length * z.size := flat_length d2'
            have hDn : ∀ ad : Addr, ad.block = w.heap.size → D ad = none := fun ad ha => by
              cases hd : D ad with
              | none => rfl
              | some v => have := hp.D_lt hd; omega
            by_cases h0 : ys = []
            · subst h0
              refine ⟨.slice none 0 0, w, D, β ++ [⟨0, fun n => if n = 0 then some (none, 0) else none⟩], ?_, ?_, ?_⟩
              · have := append_fits_run (ty := ty) (base := none) (len := 0) (cap := 0) hu hT hA (by simp)
                simpa using this
              · refine Step.push hp (fun _ _ => rfl) (Nat.le_refl _) rfl rfl rfl (fun _ _ h => h) (fun ad v h1 h2 => by rw [h2] at h1; cases h1) (fun b hb => by simp [ownOf] at hb) ?_
                exact ⟨none, 0, by simp, by simp, by simp, by simp [flatD], by simp, by simp⟩
              · exact .vs (bi := ⟨0, fun m => if m = 0 then some (none, 0) else none⟩) (a := none) (cap := 0) (by rw [← hp.len]; simp) (by simp) (by simp) (by simp) (by simp) (by simp)
            · have hpos : 0 < ys.length := by cases ys with | nil => exact absurd rfl h0 | cons a r => simp
              obtain ⟨newCap, n1, n2, n3⟩ := append_grows_run (ty := ty) (w := w) (base := none) (len := 0) (cap := 0) (olds := []) hu hT hA rfl hzv (by omega) (by simpa using hb) (by have := le_of_bytes hb hc2; omega)
              simp only [Nat.zero_add] at n1 n3
              refine ⟨_, _, D, β ++ [⟨w.heap.size, fun m => if m = 0 then some (some ⟨w.heap.size, 0, none⟩, newCap) else none⟩], n3, Step.push hp (fun k hk => alloc_keep w.drew _ k hk) (by simp) rfl rfl rfl (fun _ _ h => h)
                (fun ad v h1 h2 => by rw [h2] at h1; cases h1) (fun b hb => by simp [ownOf] at hb; omega) ?_, ?_⟩
              · have := vec_new (β := β ++ [⟨w.heap.size, fun m => if m = 0 then some (some ⟨w.heap.size, 0, none⟩, newCap) else none⟩]) (bi := ⟨w.heap.size, fun m => if m = 0 then some (some ⟨w.heap.size, 0, none⟩, newCap) else none⟩) (ag := isAggT z.desc) (sz := z.size) (cs := []) (olds := [])
                  (rest := Builtin.zeroCells zv.cells (newCap - ys.length)) (T := e) (by simp) n1 n2 (by simpa using hfl) rfl (by simp) (by simp) d1 (alloc_new w.drew _) (by rw [(hzc2 _).1, hzsz, ← Nat.add_mul]; apply Nat.mul_le_mul_right; omega) (hzc2 _).2 hDn
                simpa using this
              · exact .vs (bi := ⟨w.heap.size, fun m => if m = 0 then some (some ⟨w.heap.size, 0, none⟩, newCap) else none⟩) (a := some ⟨w.heap.size, 0, none⟩) (cap := newCap) (by rw [← hp.len]; simp) (by simp) n1 n2 (by simp) (by simp)
          | false =>
           cases hs with
           | d hs =>
            cases hs
            intro av o c he hc
            simp only [Option.some.injEq, Prod.mk.injEq] at he
            obtain ⟨rfl, rfl, rfl⟩ := he
            have hb := Nat.le_of_ble_eq_true hc
            by_cases h0 : ys = []
            · subst h0
              refine ⟨.slice none 0 0, w, D, β ++ [⟨0, fun n => if n = 0 then some (none, 0) else none⟩], ?_, ?_, ?_⟩
              · have := append_fits_run (ty := ty) (base := none) (len := 0) (cap := 0) hu hT hA (by simp)
                simpa using this
              · refine Step.push hp (fun _ _ => rfl) (Nat.le_refl _) rfl rfl rfl (fun _ _ h => h) (fun ad v h1 h2 => by rw [h2] at h1; cases h1) (fun b hb => by simp [ownOf] at hb) ?_
                exact ⟨none, 0, by simp, fun m hm => by simp at hm ⊢; omega, by simp, by simp, by simp, by simp⟩
              · exact RepA.sr (es := []) (a := none) (cap := 0) (bi := ⟨0, fun n => if n = 0 then some (none, 0) else none⟩) (by rw [← hp.len]; simp) (by simp) (.sl (es := []) [] (by simp) (by simp) (by simp) (by simp) (by simp [flatD]) (by simp) (by simp))
            · have hpos : 0 < ys.length := by cases ys with | nil => exact absurd rfl h0 | cons a r => simp
              obtain ⟨newCap, n1, n2, n3⟩ := append_grows_run (ty := ty) (w := w) (base := none) (len := 0) (cap := 0) (olds := []) hu hT hA rfl hzv (by omega) (by simpa using hb) (by have := le_of_bytes hb hc2; omega)
              simp only [Nat.zero_add, List.nil_append] at n1 n3
              obtain ⟨f1, f2, f3, f4⟩ := newRow_facts (T := e) hp d2' n1 n2 d1 (rest := Builtin.zeroCells zv.cells (newCap - ys.length)) (by rw [(hzc2 _).1, hzsz]) (hzc2 _).2
              refine ⟨_, _, extD D w.heap.size vs, β ++ [⟨0, fun n => if n = ys.length then some (some ⟨w.heap.size, 0, none⟩, newCap) else none⟩], n3, ?_, ?_⟩
              · refine Step.push hp (fun k hk => alloc_keep w.drew _ k hk) (by simp) rfl rfl rfl f1 f2 (fun b hb => by rw [own_room (ad := ⟨w.heap.size, 0, none⟩) (cap := newCap) (by simp) hb]; exact Nat.le_refl _) (f4 _ _ (by simp) (fun m hm => by simp; omega))
              · exact RepA.sr (bi := ⟨0, fun n => if n = ys.length then some (some ⟨w.heap.size, 0, none⟩, newCap) else none⟩) (by rw [← hp.len]; simp) (by simp) f3
        · rename_i ri sz lo len
          split
          · rename_i ty0 ag szr n cs hob
            split
            · rename_i hcond2
              simp only [Bool.and_eq_true] at hcond2
              have q1 := Nat.eq_of_beq_eq_true hcond2.1.1.1
              have q2 := Nat.eq_of_beq_eq_true hcond2.1.1.2
              have q3 := Nat.eq_of_beq_eq_true hcond2.1.2
              have q4 := Nat.eq_of_beq_eq_true hcond2.2
              subst q1 q2 q3 q4
              intro av o c he hc
              simp only [Option.some.injEq, Prod.mk.injEq] at he
              obtain ⟨rfl, rfl, rfl⟩ := he
              simp only [Bool.and_eq_true] at hc
              exact append_vec hp hu hT d1 d2' hA hzv hzsz hzc.2.1 hc1 hc2 hs hob (Nat.le_of_ble_eq_true hc.1) (Nat.le_of_ble_eq_true hc.2)
            · exact .none
          · exact .none
        · rename_i ri sz es
          split
          · rename_i n szr hob
            split
            · rename_i hcond2
              simp only [Bool.and_eq_true] at hcond2
              have q1 := Nat.eq_of_beq_eq_true hcond2.1
              have q2 := Nat.eq_of_beq_eq_true hcond2.2
              subst q1 q2
              cases hs with
              | @sr _ _ _ bi a cap hb hh hsl =>
                intro av o c he hc
                simp only [Option.some.injEq, Prod.mk.injEq] at he
                obtain ⟨rfl, rfl, rfl⟩ := he
                simp only [Bool.and_eq_true] at hc
                have hn := Nat.eq_of_beq_eq_true hc.1
                have hbytes := Nat.le_of_ble_eq_true hc.2
                subst hn
                obtain ⟨ws, o1, o2, o3, o4, o5⟩ := sl_src (P := P) hp hsl
                have o4 : ∀ W : World, W.heap = w.heap → (Builtin.firstCells z.size es.length (.slice a es.length cap)).run P W = .ok ws.toArray W := fun W hW => by
                  have := o4 z.size (.inr rfl) W hW es.length (Nat.le_refl _)
                  rwa [List.take_of_length_le (by rw [o1.1, flat_length o2]; exact Nat.le_refl _)] at this
                obtain ⟨a', cap', r1, r2, r3, r4, r5, r6⟩ := hp.hold ri bi _ hb hob
                rw [hh] at r1
                simp only [Option.some.injEq, Prod.mk.injEq] at r1
                obtain ⟨rfl, rfl⟩ := r1
                have hsz' : ∀ x, x ∈ es ++ ys → (cellsD x).length = z.size := by
                  intro x hx
                  rcases List.mem_append.1 hx with h | h
                  · exact o2 x h
                  · exact d2' x h
                have hdc : DCells D (flatD (es ++ ys)) (ws ++ vs) := by rw [flatD_append]; exact o1.append d1
                have hlen : (es ++ ys).length = es.length + ys.length := List.length_append
                by_cases hy0 : ys = []
                · subst hy0
                  have hle : es.length ≤ cap := r3
                  have hset : objs.set ri (.room (es.length + ([] : List DV).length) z.size) = objs := by
                    apply List.ext_getElem?
                    intro j
                    by_cases hj : ri = j
                    · subst hj; rw [List.getElem?_set_self (List.getElem?_eq_some_iff.1 hob).1, hob]; rfl
                    · rw [List.getElem?_set_ne hj]
                  have hv0 : vs = [] := by
                    have := d1.1
                    exact List.length_eq_zero_iff.1 (by simpa [flatD] using this)
                  subst hv0
                  have hrun := append_fits_run (ty := ty) (base := a) (len := es.length) (cap := cap) hu hT hA (by simpa using hle)
                  rw [hset]
                  refine ⟨.slice a es.length cap, w, D, β, ?_, Step.refl hp, ?_⟩
                  · cases a with
                    | none => simpa using hrun
                    | some ad => simpa [storeCells] using hrun
                  · have := RepA.sr hb hh hsl
                    simpa using this
                by_cases hroom : es.length + ys.length ≤ cap
                · have hypos : 0 < ys.length := by cases ys with | nil => exact absurd rfl hy0 | cons a r => simp
                  cases a with
                  | none =>
                    have hcap := r5 rfl
                    have h1 : es = [] := List.length_eq_zero_iff.1 (by omega)
                    have h2 : ys = [] := List.length_eq_zero_iff.1 (by omega)
                    subst h1 h2 hcap
                    have hrun := append_fits_run (ty := ty) (base := none) (len := 0) (cap := 0) hu hT hA (by simp)
                    have hset : objs.set ri (.room (([] : List DV).length + ([] : List DV).length) z.size) = objs := by
                      apply List.ext_getElem?
                      intro j
                      by_cases hj : ri = j
                      · subst hj; rw [List.getElem?_set_self (List.getElem?_eq_some_iff.1 hob).1, hob]; rfl
                      · rw [List.getElem?_set_ne hj]
                    rw [hset]
                    exact ⟨_, w, D, β, by simpa using hrun, Step.refl hp, .sr hb hh hsl⟩
                  | some ad =>
                    obtain ⟨s1, s2⟩ := r6 ad rfl
                    have s1 : ad.spot = none := s1.resolve_left (by omega)
                    obtain ⟨arr, T, s2, s3, s4, s5⟩ := s2 (by omega)
                    have hmul : es.length * z.size + ys.length * z.size ≤ cap * z.size := by rw [← Nat.add_mul]; exact Nat.mul_le_mul_right _ hroom
                    have hvl : vs.length = ys.length * z.size := by rw [d1.1, flat_length d2']
                    have hwl : ws.length = es.length * z.size := by rw [o1.1, flat_length o2]
                    have hrun := append_fits_run (ty := ty) (base := some ad) (len := es.length) (cap := cap) hu hT hA hroom
                    have hst := run_storeCells P ad.block T (ad.add (es.length * z.size)) (by rw [addr_add s1]) (by rw [addr_add s1]) vs 0 w arr s2 (by rw [addr_add s1]; simp only; omega) d1.2.1
                    simp only at hrun
                    rw [addr_add s1] at hst hrun
                    simp only [Nat.add_zero] at hst
                    simp only [hst, Result.andThen_ok] at hrun
                    have hbw : ad.block < w.heap.size := lt_of_getElem? s2
                    have hown : ownOf bi (.room es.length z.size) = some ad.block := by
                      have : Nat.ble cap es.length = false := by
                        cases hb : Nat.ble cap es.length with
                        | false => rfl
                        | true => have := Nat.le_of_ble_eq_true hb; omega
                      simp [ownOf, hh, this]
                    let D' : DMap := fun x => if x.block = ad.block ∧ x.spot = none ∧ ad.off + es.length * z.size ≤ x.off ∧ x.off < ad.off + es.length * z.size + vs.length then vs[x.off - (ad.off + es.length * z.size)]? else D x
                    have hDnone : ∀ x, x.block = ad.block → x.spot = none → ad.off + es.length * z.size ≤ x.off → D x = none := by
                      intro x e1 e2 e3
                      obtain ⟨b, of, sp⟩ := x
                      simp only at e1 e2 e3
                      subst e1 e2
                      have := s5 (of - ad.off) (by omega)
                      rwa [show ad.off + (of - ad.off) = of from by omega] at this
                    have hsub : ∀ x v, D x = some v → D' x = some v := by
                      intro x v h
                      show (if _ then _ else _) = _
                      rw [if_neg]; exact h
                      rintro ⟨e1, e2, e3, _⟩
                      rw [hDnone x e1 e2 e3] at h; cases h
                    have hnewD : ∀ (j : Nat) v, vs[j]? = some v → D' ⟨ad.block, ad.off + es.length * z.size + j, none⟩ = some v := by
                      intro j v hj
                      have hjl := (List.getElem?_eq_some_iff.1 hj).1
                      show (if _ then _ else _) = _
                      rw [if_pos ⟨rfl, rfl, by simp, by simp; omega⟩]
                      simp only
                      rw [show ad.off + es.length * z.size + j - (ad.off + es.length * z.size) = j from by omega]; exact hj
                    have hinv : ∀ x v, D' x = some v → D x = none → x.block = ad.block ∧ x.spot = none ∧ ∃ j, x.off = ad.off + es.length * z.size + j ∧ vs[j]? = some v := by
                      intro x v h h0
                      have h : (if x.block = ad.block ∧ x.spot = none ∧ ad.off + es.length * z.size ≤ x.off ∧ x.off < ad.off + es.length * z.size + vs.length then vs[x.off - (ad.off + es.length * z.size)]? else D x) = some v := h
                      split at h
                      · rename_i hc'; exact ⟨hc'.1, hc'.2.1, x.off - (ad.off + es.length * z.size), by omega, h⟩
                      · rw [h0] at h; cases h
                    have hsplen : (splice arr.toList (ad.off + es.length * z.size) vs).length = arr.size := by rw [length_splice _ _ _ (by simp; omega)]; simp
                    have hcell : ∀ of, (putB w ad.block (.cells (splice arr.toList (ad.off + es.length * z.size) vs).toArray T (0, 0))).cell? ⟨ad.block, of, none⟩ = (splice arr.toList (ad.off + es.length * z.size) vs)[of]? := by
                      intro of
                      rw [cell_of_blk (putB_eq hbw)]; simp
                    refine ⟨_, _, D', β.set ri ⟨bi.blk, fun m => if m = es.length + ys.length then some (some ad, cap) else bi.hist m⟩, hrun, ?_, ?_⟩
                    · refine Step.upd hp hb hob ⟨rfl, fun m p hp' => ?_⟩ hsub (fun x v h1 h2 => ?_) (fun x v h1 => ?_) (by rw [putB_size]; exact Nat.le_refl _) (fun k _ hk => putB_ne (fun e => hk (e ▸ hown))) rfl rfl rfl (fun b hb' => ?_) ?_
                      · simp only
                        split
                        · rename_i em
                          subst em
                          by_cases hy : ys.length = 0
                          · rw [hy, Nat.add_zero, hh] at hp'; rw [← hp']
                          · rw [r2 _ (by omega)] at hp'; cases hp'
                        · exact hp'
                      · obtain ⟨e1, _⟩ := hinv x v h1 h2
                        exact .inl (by rw [e1]; exact hown)
                      · cases h0 : D x with
                        | some v0 =>
                          have := hsub x v0 h0
                          rw [this] at h1; cases h1
                          obtain ⟨t1, t2, t3⟩ := hp.dh x _ h0
                          refine ⟨t1, t2, ?_⟩
                          by_cases hbl : x.block = ad.block
                          · obtain ⟨b, of, sp⟩ := x
                            simp only at hbl t1
                            subst hbl t1
                            rw [hcell, getElem?_splice _ _ _ (by simp; omega)]
                            rw [cell_of_blk s2] at t3
                            have hlt : of < ad.off + es.length * z.size := by
                              apply Nat.lt_of_not_le
                              intro hle
                              have := hDnone ⟨ad.block, of, none⟩ rfl rfl hle
                              rw [this] at h0; cases h0
                            rw [if_pos hlt]; simpa using t3
                          · rw [cell_congr (w := w) (putB_ne (fun e => hbl e.symm))]; exact t3
                        | none =>
                          obtain ⟨e1, e2, j, e3, e4⟩ := hinv x v h1 h0
                          refine ⟨e2, d1.2.1 j v e4, ?_⟩
                          obtain ⟨b, of, sp⟩ := x
                          simp only at e1 e2 e3
                          subst e1 e2 e3
                          have hjl := (List.getElem?_eq_some_iff.1 e4).1
                          rw [hcell, getElem?_splice _ _ _ (by simp; omega), if_neg (by omega), if_pos (by omega)]
                          rw [show ad.off + es.length * z.size + j - (ad.off + es.length * z.size) = j from by omega]; exact e4
                      · simp only [ownOf, if_pos, Option.bind_some] at hb'
                        split at hb'
                        · cases hb'
                        · cases hb'; exact .inl hown
                      · refine ⟨some ad, cap, by simp, fun m hm => ?_, hroom, r4, by simp, fun ad' e => ?_⟩
                        · simp only
                          rw [if_neg (by omega)]; exact r2 m (by omega)
                        · cases e
                          refine ⟨.inr s1, fun _ => ⟨_, T, putB_eq hbw, by simp [hsplen]; omega, fun j v hv => ?_, fun j hj => ?_⟩⟩
                          · simp only [List.getElem?_toArray] at hv
                            rw [getElem?_splice _ _ _ (by simp; omega)] at hv
                            split at hv
                            · exact s4 j v (by simpa using hv)
                            · split at hv
                              · exact d1.2.1 _ v hv
                              · exact s4 j v (by simpa using hv)
                          · show (if _ then _ else _) = _
                            rw [Nat.add_mul] at hj
                            rw [if_neg (by simp only; omega)]
                            exact s5 j (by omega)
                    · rw [← hlen]
                      refine .sr (bi := ⟨bi.blk, fun m => if m = (es ++ ys).length then some (some ad, cap) else bi.hist m⟩) (by rw [List.getElem?_set_self (List.getElem?_eq_some_iff.1 hb).1]) (by simp) ?_
                      obtain ⟨b, of, sp⟩ := ad
                      simp only at s1
                      subst s1
                      refine sl_of hsz' (by rw [hlen]; exact hroom) r4 (hdc.mono hsub) (fun j v hv => ?_)
                      by_cases hj : j < ws.length
                      · rw [List.getElem?_append_left hj] at hv
                        exact hsub _ _ ((o5 _ rfl).2 j v hv)
                      · rw [List.getElem?_append_right (by omega)] at hv
                        have := hnewD _ v hv
                        simp only at this
                        rwa [show of + es.length * z.size + (j - ws.length) = of + j from by omega] at this
                · obtain ⟨newCap, n1, n2, n3⟩ := append_grows_run (ty := ty) (w := w) (base := a) (len := es.length) (cap := cap) (olds := ws) hu hT hA (o4 w.drew rfl) hzv (by omega) hbytes (by have := le_of_bytes hbytes hc2; omega)
                  obtain ⟨f1, f2, f3, f4⟩ := newRow_facts (T := e) hp hsz' (by rw [hlen]; exact n1) n2 hdc (rest := Builtin.zeroCells zv.cells (newCap - (es.length + ys.length))) (by rw [(hzc2 _).1, hzsz, hlen]) (hzc2 _).2
                  have hys : 0 < ys.length := by omega
                  refine ⟨_, _, extD D w.heap.size (ws ++ vs), β.set ri ⟨bi.blk, fun m => if m = es.length + ys.length then some (some ⟨w.heap.size, 0, none⟩, newCap) else bi.hist m⟩, n3, ?_, ?_⟩
                  · refine Step.upd hp hb hob ⟨rfl, fun m p hp' => ?_⟩ f1 (fun x v h1 h2 => .inr (f2 x v h1 h2).1) (fun x v h1 => ?_) (by simp) (fun k hk _ => alloc_keep w.drew _ k hk) rfl rfl rfl (fun b hb' => ?_) ?_
                    · simp only
                      split
                      · rename_i em; subst em; rw [r2 _ (by omega)] at hp'; cases hp'
                      · exact hp'
                    · cases h0 : D x with
                      | some v0 =>
                        have := f1 x v0 h0
                        rw [this] at h1; cases h1
                        obtain ⟨t1, t2, t3⟩ := hp.dh x _ h0
                        exact ⟨t1, t2, by rw [cell_congr (w := w) (alloc_keep w.drew _ _ (hp.D_lt h0))]; exact t3⟩
                      | none => exact (f2 x v h1 h0).2
                    · rw [own_room (ad := ⟨w.heap.size, 0, none⟩) (cap := newCap) (by simp) hb']; exact .inr (Nat.le_refl _)
                    · have := f4 (β.set ri ⟨bi.blk, fun m => if m = es.length + ys.length then some (some ⟨w.heap.size, 0, none⟩, newCap) else bi.hist m⟩) ⟨bi.blk, fun m => if m = es.length + ys.length then some (some ⟨w.heap.size, 0, none⟩, newCap) else bi.hist m⟩ (by simp [hlen]) (fun m hm => by
                        simp only
                        rw [hlen] at hm
                        rw [if_neg (by omega)]; exact r2 m (by omega))
                      rw [hlen] at this; exact this
                  · rw [hlen] at f3
                    have := RepA.sr (D := extD D w.heap.size (ws ++ vs)) (es := es ++ ys) (sz := z.size) (bi := ⟨bi.blk, fun m => if m = es.length + ys.length then some (some ⟨w.heap.size, 0, none⟩, newCap) else bi.hist m⟩)
                      (β := β.set ri ⟨bi.blk, fun m => if m = es.length + ys.length then some (some ⟨w.heap.size, 0, none⟩, newCap) else bi.hist m⟩) (i := ri) (a := some ⟨w.heap.size, 0, none⟩) (cap := newCap)
                      (by rw [List.getElem?_set_self (List.getElem?_eq_some_iff.1 hb).1]) (by simp [hlen]) (by rw [hlen]; exact f3)
                    rw [hlen] at this; exact this
            · exact .none
          · exact .none
        · exact .none
      · exact .none
    · exact .none
  · exact .none

end
end Go.Av

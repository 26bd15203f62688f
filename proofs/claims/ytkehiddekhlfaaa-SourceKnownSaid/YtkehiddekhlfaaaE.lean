/-
  The abstract layer, part E: soundness of the evaluator's operations, second part: parts of aggregates, indexes, slices, lengths, numbers, strings.
-/
import Derived.Test.YtkehiddekhlfaaaD
noncomputable section
namespace Go.Av
open Go

section
variable {P : Program} {E : PT Ty} {D : DMap} {β : List Bi} {objs : List Ob} {w : World}

theorem nilCheck_ok (hp : Heap D β objs w) {x : AV} {v : Value} (hx : RepA D β x v) (o : Oper) (y : Operand) (ho : o.op = .nilCheck y) (ρ : Operand → Value) (hρ : ρ y = v) :
    ∀ av objs' c, nilCheckR x objs = some (av, objs', c) → c = true → ∃ v' w' D' β', (execOp ρ o).run P w = .ok (.value v') w' ∧ Step D β objs w D' β' objs' w' ∧ RepA D' β' av v' := by
  intro av o' c he hc
  unfold nilCheckR at he
  split at he <;> first | (cases he; done) | skip
  all_goals
    simp only [pureR, Option.some.injEq, Prod.mk.injEq] at he
    obtain ⟨rfl, rfl, rfl⟩ := he
    refine ⟨v, w, D, β, ?_, Step.refl hp, hx⟩
  · cases hx with
    | d h => cases h; simp [execOp, ho, hρ]
  · cases hx; simp [execOp, ho, hρ]
  · cases hx; simp [execOp, ho, hρ]
  · cases hx with
    | d h => cases h; simp [execOp, ho, hρ]
  · cases hx; simp [execOp, ho, hρ]

theorem aggCells_rep {x : AV} {v : Value} (hx : RepA D β x v) {cs : List AV} (h : aggCells x = some cs) :
    ∃ vs : Array Value, v = .agg vs ∧ vs.size = cs.length ∧ (∀ (j : Nat) u, vs[j]? = some u → u.oneCell' = true) ∧ ∀ (j : Nat) c u, cs[j]? = some c → vs[j]? = some u → RepA D β c u := by
  unfold aggCells at h
  split at h
  · cases h
    cases hx with
    | agg a b c => exact ⟨_, rfl, a, b, c⟩
  · cases h
    cases hx with
    | d hd =>
      cases hd with
      | agg a b c =>
        refine ⟨_, rfl, by simpa using a, b, fun j c' u hc hu => ?_⟩
        simp only [List.getElem?_map, Option.map_eq_some_iff] at hc
        obtain ⟨d, hd, rfl⟩ := hc
        exact .d (c j d u hd hu)
  · cases h

theorem part_ok (hE : TyOK P E) (hp : Heap D β objs w) (t : TypeId) {cs : List AV} {vs : Array Value} (off : Nat) (hl : vs.size = cs.length)
    (h1 : ∀ (j : Nat) u, vs[j]? = some u → u.oneCell' = true) (hr : ∀ (j : Nat) c u, cs[j]? = some c → vs[j]? = some u → RepA D β c u) :
    ValOK P D β objs w (part t vs off) (partR E t cs off objs) := by
  unfold partR
  cases hy : E.get? t with
  | none => exact .none
  | some y =>
    have hT := hE t y hy
    simp only
    cases ha : isAggT y.desc with
    | true =>
      simp only
      split
      · rename_i hle
        have hle' := Nat.le_of_ble_eq_true hle
        have hx : ∀ (j : Nat) u, (vs.extract off (off + y.size))[j]? = some u → vs[off + j]? = some u ∧ j < y.size := by
          intro j u hu
          rw [Array.getElem?_extract] at hu
          split at hu
          · rename_i hj; exact ⟨hu, by omega⟩
          · cases hu
        refine .pure hp (fun _ => ⟨.agg (vs.extract off (off + y.size)), ?_, mkAgg_rep ?_ (fun j u hu => h1 _ u (hx j u hu).1) (fun j c u hc hu => ?_)⟩)
        · simp [part, run_isAgg hT, ha, run_sizeOf hT]
        · simp; omega
        · have := hx j u hu
          rw [List.getElem?_take, if_pos this.2, List.getElem?_drop] at hc
          exact hr _ c u hc this.1
      · exact .none
    | false =>
      simp only
      cases hc : cs[off]? with
      | none => exact .none
      | some c =>
        have hlt : off < vs.size := by rw [hl]; exact (List.getElem?_eq_some_iff.1 hc).1
        refine .pure hp (fun _ => ⟨vs[off], ?_, hr off c _ hc (by simp [hlt])⟩)
        simp [part, run_isAgg hT, ha, hlt]

theorem field_ok (hE : TyOK P E) (hp : Heap D β objs w) (t : TypeId) (k : Nat) {x : AV} {v : Value} (hx : RepA D β x v) :
    ValOK P D β objs w (Instr.field t v k) (fieldR E t x k objs) := by
  unfold fieldR
  split
  · rename_i fs _ _ _ cs hty hcs
    have hu := (hE t _ hty).und
    simp only at hu
    obtain ⟨vs, rfl, a, b, c⟩ := aggCells_rep hx hcs
    split
    · rename_i fd hfd
      have := part_ok hE hp fd.type fd.offset a b c
      intro av o c' he hc
      obtain ⟨v, w', D', β', h1, h2, h3⟩ := this av o c' he hc
      exact ⟨v, w', D', β', by simp [Instr.field, run_underlying hu, hfd, asAgg, h1], h2, h3⟩
    · exact .none
  · exact .none

theorem inB_iff {i : Int} {n : Nat} : inB i n = true ↔ 0 ≤ i ∧ i < n := by simp [inB]

/-- What a slice's datum gives. -/
theorem flat_elem {es : List DV} {sz : Nat} (hsz : ∀ e, e ∈ es → (cellsD e).length = sz) : ∀ {i : Nat} {e : DV}, es[i]? = some e → ∀ (j : Nat), j < sz → (flatD es)[i * sz + j]? = (cellsD e)[j]? := by
  induction es with
  | nil => intro i e h; simp at h
  | cons x r ih =>
    intro i e h j hj
    have hx := hsz x (by simp)
    cases i with
    | zero =>
      simp at h; subst h
      simp only [flatD, List.flatMap_cons, Nat.zero_mul, Nat.zero_add]
      rw [List.getElem?_append_left (by omega)]
    | succ i =>
      have := ih (fun e he => hsz e (by simp [he])) (i := i) (by simpa using h) j hj
      simp only [flatD, List.flatMap_cons]
      rw [List.getElem?_append_right (by rw [hx, Nat.succ_mul]; omega), hx, show (i + 1) * sz + j - sz = i * sz + j from by rw [Nat.succ_mul]; omega]
      exact this
theorem flat_length {es : List DV} {sz : Nat} (hsz : ∀ e, e ∈ es → (cellsD e).length = sz) : (flatD es).length = es.length * sz := by
  induction es with
  | nil => simp [flatD]
  | cons x r ih =>
    have hx := hsz x (by simp)
    have := ih (fun e he => hsz e (by simp [he]))
    simp only [flatD, List.flatMap_cons, List.length_append, List.length_cons] at this ⊢
    rw [this, hx, Nat.succ_mul]; omega

theorem ep_of_sl {sz i cap : Nat} {es : List DV} {a : Option Addr} (h : RepD D (.sl sz es) (.slice a es.length cap)) (hi : i < es.length) :
    ∃ ad, a = some ad ∧ RepD D (.ep (cellsD (es.getD i .any))) (.pointer (some (ad.add (i * sz)))) := by
  cases h with
  | sl vs hc hm hsz hn hv hD hr =>
    cases a with
    | none => have := (hn rfl).1; subst this; simp at hi
    | some ad =>
      obtain ⟨hs, hD⟩ := hD ad rfl
      have hs : ad.spot = none := hs.resolve_left (by omega)
      refine ⟨ad, rfl, ?_⟩
      rw [addr_add hs]
      have he : es[i]? = some (es.getD i .any) := by simp [hi]
      have hlen : (cellsD (es.getD i .any)).length = sz := hsz _ (by simp only [List.getD_eq_getElem?_getD]; rw [List.getElem?_eq_getElem hi]; simp)
      have hfl := flat_length hsz
      have hmul : i * sz + sz ≤ es.length * sz := by rw [← Nat.succ_mul]; exact Nat.mul_le_mul_right _ hi
      refine .ep ((vs.drop (i * sz)).take sz) rfl (by rw [List.length_take, List.length_drop, hv, hfl, hlen]; omega) (fun j u hu => ?_) (fun j c u hc' hu => ?_)
      · rw [List.getElem?_take] at hu
        split at hu
        · rw [List.getElem?_drop] at hu
          have := hD _ u hu
          simpa [Nat.add_assoc] using this
        · cases hu
      · rw [List.getElem?_take] at hu
        split at hu
        · rename_i hj
          rw [List.getElem?_drop] at hu
          exact hr _ c u (by rw [flat_elem hsz he j hj]; exact hc') hu
        · cases hu

theorem indexAt_run {t e : TypeId} {y : Ty} {k : IntKind} {i : Int} {len cap : Nat} {ad : Addr} (hu : P.underlying t = some (.slice e)) (hT : TyOK1 P e y) (h0 : 0 ≤ i) (hl : i < len) :
    (Instr.indexAt t (.slice (some ad) len cap) (.int k i)).run P w = .ok (.pointer (some (ad.add (i.toNat * y.size)))) w := by
  simp [Instr.indexAt, asIntOf, run_underlying hu, h0, hl, run_sizeOf hT]
theorem indexAt_arr_run {t e : TypeId} {y : Ty} {k : IntKind} {i : Int} {len : Nat} {ad : Addr} (hu : P.underlying t = some (.array len e)) (hT : TyOK1 P e y) (h0 : 0 ≤ i) (hl : i < len) :
    (Instr.indexAt t (.pointer (some ad)) (.int k i)).run P w = .ok (.pointer (some (ad.add (i.toNat * y.size)))) w := by
  simp [Instr.indexAt, asIntOf, run_underlying hu, h0, hl, run_sizeOf hT, Instr.sureAddr]

theorem indexAddr_ok (hE : TyOK P E) (hp : Heap D β objs w) (t : TypeId) {x ix : AV} {v u : Value} (hx : RepA D β x v) (hi : RepA D β ix u) :
    ValOK P D β objs w (Instr.indexAt t v u) (indexAddrR E t x ix objs) := by
  unfold indexAddrR
  split
  · rename_i e _ _ _ k i hty
    have hu := (hE t _ hty).und
    simp only at hu
    cases hi with
    | d hi =>
      cases hi
      cases hy : E.get? e with
      | none => exact .none
      | some y =>
        have hT := hE e y hy
        simp only
        split
        · rename_i sz es
          split
          · rename_i hsz
            have hsz := Nat.eq_of_beq_eq_true hsz
            cases hx with
            | d hd =>
              refine .pure hp (fun hc => ?_)
              obtain ⟨h0, hl⟩ := inB_iff.1 hc
              cases hd with
              | sl vs g1 g2 g3 g4 g5 g6 g7 =>
                obtain ⟨ad, rfl, hep⟩ := ep_of_sl (.sl vs g1 g2 g3 g4 g5 g6 g7) (i := i.toNat) (by omega)
                exact ⟨_, indexAt_run hu hT h0 hl, by rw [hsz]; exact .d hep⟩
          · exact .none
        · rename_i ri sz es
          split
          · rename_i hsz
            have hsz := Nat.eq_of_beq_eq_true hsz
            cases hx with
            | sr g1 g2 hd =>
              refine .pure hp (fun hc => ?_)
              obtain ⟨h0, hl⟩ := inB_iff.1 hc
              obtain ⟨ad, rfl, hep⟩ := ep_of_sl hd (i := i.toNat) (by omega)
              exact ⟨_, indexAt_run hu hT h0 hl, by rw [hsz]; exact .d hep⟩
          · exact .none
        · rename_i b off len cap
          split
          · exact .none
          · cases hx with
            | bs hb =>
              refine .pure hp (fun hc => ?_)
              obtain ⟨h0, hl⟩ := inB_iff.1 hc
              refine ⟨_, indexAt_run hu hT h0 hl, ?_⟩
              rw [addr_add rfl]; exact .bp hb
        · rename_i b sz lo len
          split
          · rename_i hcond
            simp only [Bool.and_eq_true] at hcond
            have hsz := Nat.eq_of_beq_eq_true hcond.1
            have h1 := Nat.le_of_ble_eq_true hcond.2
            cases hx with
            | @vs _ _ _ _ cap c bi a ad hb hh hle hm hn hx =>
              refine .pure hp (fun hc => ?_)
              obtain ⟨h0, hl⟩ := inB_iff.1 hc
              obtain ⟨rfl, hcap⟩ := hx (.inr (by omega))
              cases a with
              | none => have := hn.1 rfl; omega
              | some a0 =>
                refine ⟨_, indexAt_run hu hT h0 hl, ?_⟩
                rw [addr_add rfl, hsz]
                have e : lo * sz + i.toNat * sz = (lo + i.toNat) * sz := by rw [Nat.add_mul]
                simp only [e]; exact .bp hb
          · exact .none
        · exact .none
  · rename_i len e _ _ _ k i hty
    have hu := (hE t _ hty).und
    simp only at hu
    cases hi with
    | d hi =>
      cases hi
      cases hy : E.get? e with
      | none => exact .none
      | some y =>
        have hT := hE e y hy
        simp only
        split
        · exact .none
        · split
          · rename_i b off
            cases hx with
            | bp hb =>
              refine .pure hp (fun hc => ?_)
              obtain ⟨h0, hl⟩ := inB_iff.1 hc
              refine ⟨_, indexAt_arr_run hu hT h0 hl, ?_⟩
              rw [addr_add rfl]; exact .bp hb
          · rename_i cs
            cases hx with
            | d hd =>
              refine .pure hp (fun hc => ?_)
              simp only [Bool.and_eq_true] at hc
              obtain ⟨h0, hl⟩ := inB_iff.1 hc.1
              cases hd with
              | @ep _ ad vs hs hv hD hr =>
                refine ⟨_, indexAt_arr_run hu hT h0 hl, ?_⟩
                rw [addr_add hs]
                refine .d (.ep (vs.drop (i.toNat * y.size)) rfl (by simp [hv]) (fun j u hu => ?_) (fun j c u hc hu => ?_))
                · rw [List.getElem?_drop] at hu
                  have := hD _ u hu
                  simpa [Nat.add_assoc] using this
                · rw [List.getElem?_drop] at hu hc; exact hr _ c u hc hu
          · exact .none
  · exact .none

theorem index_ok (hE : TyOK P E) (hp : Heap D β objs w) (t : TypeId) {x ix : AV} {v u : Value} (hx : RepA D β x v) (hi : RepA D β ix u) :
    ValOK P D β objs w (Instr.index t v u) (indexR E t x ix objs) := by
  unfold indexR
  split
  · rename_i _ _ _ k i s hty
    have hu := (hE t _ hty).und
    simp only at hu
    cases hi with
    | d hi =>
      cases hi
      cases hx with
      | d hd =>
        cases hd with
        | @str s b hs =>
          refine .pure hp (fun hc => ?_)
          obtain ⟨h0, hl⟩ := inB_iff.1 hc
          have hsz : i.toNat < b.size := by
            have : s.length = b.size := by rw [hs, List.length_map]; rfl
            omega
          refine ⟨.int .u8 (b[i.toNat]'hsz).toNat, ?_, ?_⟩
          · simp [Instr.index, asIntOf, run_underlying hu, h0, hsz]
          · have : s.getD i.toNat 0 = (b[i.toNat]'hsz).toNat := by
              subst hs
              have h2 : i.toNat < b.data.toList.length := hsz
              simp only [List.getD_eq_getElem?_getD, List.getElem?_map]
              rw [List.getElem?_eq_getElem h2]
              rfl
            rw [this]; exact .d .int
  · rename_i len e _ _ _ k i hty
    have hu := (hE t _ hty).und
    simp only at hu
    cases hi with
    | d hi =>
      cases hi
      split
      · rename_i y cs hy hcs
        split
        · rename_i hb
          obtain ⟨h0, hl⟩ := inB_iff.1 hb
          obtain ⟨vs, rfl, a, b, c⟩ := aggCells_rep hx hcs
          have := part_ok hE hp e (i.toNat * y.size) a b c
          intro av o c' he hc
          obtain ⟨v, w', D', β', h1, h2, h3⟩ := this av o c' he hc
          exact ⟨v, w', D', β', by simp [Instr.index, asIntOf, run_underlying hu, h0, hl, run_sizeOf (hE e y hy), h1], h2, h3⟩
        · exact .none
      · exact .none
  · exact .none

theorem len_ok (hE : TyOK P E) (hp : Heap D β objs w) (t ty : TypeId) (ts : Array TypeId) (args : Array Value) {x : AV} {v : Value} (hx : RepA D β x v) (h0 : ts[0]? = some t) (h1 : args[0]? = some v) :
    ValOK P D β objs w (Builtin.len_ ts ty args) (lenR x objs E t) := by
  unfold lenR
  cases hy : E.get? t with
  | none => exact .none
  | some y =>
    have hu := (hE t y hy).und
    obtain ⟨desc, sz, by_, z⟩ := y
    simp only at hu ⊢
    cases desc with
    | array n e =>
      refine .pure hp (fun _ => ⟨.int .i64 n, ?_, .d .int⟩)
      cases v <;> simp [Builtin.len_, h0, h1, run_underlying hu, goInt]
    | string =>
      cases hx with
      | d hd =>
        cases hd with
        | @str s b hs =>
          refine .pure hp (fun _ => ⟨.int .i64 b.size, ?_, ?_⟩)
          · simp [Builtin.len_, h0, h1, run_underlying hu, goInt]
          · have : s.length = b.size := by rw [hs, List.length_map]; rfl
            rw [this]; exact .d .int
        | _ => exact .none
      | _ => exact .none
    | slice e =>
      cases hx with
      | d hd =>
        cases hd with
        | nilsl => exact .pure hp (fun _ => ⟨_, by simp [Builtin.len_, h0, h1, run_underlying hu, goInt], .d .int⟩)
        | sl vs g1 g2 g3 g4 g5 g6 g7 => exact .pure hp (fun _ => ⟨_, by simp [Builtin.len_, h0, h1, run_underlying hu, goInt], .d .int⟩)
        | _ => exact .none
      | sr g1 g2 hd => exact .pure hp (fun _ => ⟨_, by simp [Builtin.len_, h0, h1, run_underlying hu, goInt], .d .int⟩)
      | bs hb => exact .pure hp (fun _ => ⟨_, by simp [Builtin.len_, h0, h1, run_underlying hu, goInt], .d .int⟩)
      | vs g1 g2 g3 g4 g5 g6 => exact .pure hp (fun _ => ⟨_, by simp [Builtin.len_, h0, h1, run_underlying hu, goInt], .d .int⟩)
      | _ => exact .none
    | map k e =>
      cases hx with
      | d hd =>
        cases hd with
        | nilmap => exact .pure hp (fun _ => ⟨_, by simp [Builtin.len_, h0, h1, run_underlying hu, goInt], .d .int⟩)
        | _ => exact .none
      | @mp i bi hb =>
        simp only
        cases ho : objs[i]? with
        | none => exact .none
        | some ob =>
          cases ob with
          | map kvs =>
            obtain ⟨es, clock, g1, g2, _⟩ := hp.hold i bi _ hb ho
            refine .pure hp (fun _ => ⟨.int .i64 es.size, ?_, by rw [g2]; exact .d .int⟩)
            have hg : (getObj bi.blk).run P w = .ok (.map es clock) w := by simp [getObj, Sem.run, g1]
            simp [Builtin.len_, h0, h1, run_underlying hu, goInt, hg]
          | _ => exact .none
      | _ => exact .none
    | _ => exact .none

end
end Go.Av

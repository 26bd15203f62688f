/-
  Parts of the way to the law, joined: rules for code over data, and what the functions return. Conditions stand at each.
-/
import Derived.Test.YtbhonjkfkdeneaaGreatQ2
noncomputable section
namespace Go.Av
open Go
def plOf (pos : List Nat) (k : Nat) : Nat := match pos[k]? with | some p => p | none => 0
def allRe (ρ : Nat → Nat) (n : Nat) (tm : PT AV) : List (Nat × AV) → Prop
  | [] => True
  | (t, v) :: r => (okA n 8 v = true ∧ tm.get? t = some (reA ρ 8 v)) ∧ allRe ρ n tm r
theorem allRe_mem {ρ : Nat → Nat} {n : Nat} {tm : PT AV} : ∀ {l : List (Nat × AV)}, allRe ρ n tm l → ∀ {t : Nat} {v : AV}, (t, v) ∈ l → okA n 8 v = true ∧ tm.get? t = some (reA ρ 8 v)
  | [], _, t, v, h => by cases h
  | (n, u) :: r, ha, t, v, h => by
    rcases List.mem_cons.1 h with e | h
    · cases e; exact ha.1
    · exact allRe_mem ha.2 h
def Relab (m : Nat) (s s' : S) : Prop := ∃ (l : List (Nat × AV)) (pos : List Nat) (objs' : List Ob), s.dl = [] ∧ s' = ⟨PT.ofList l, objs', []⟩ ∧ pos.length = objs'.length ∧ pos.Nodup ∧ (∀ k, k < m → pos[k]? = some k) ∧
  (∀ (k : Nat) ob, objs'[k]? = some ob → okO objs'.length ob = true ∧ ∃ p, pos[k]? = some p ∧ s.objs[p]? = some (reO (plOf pos) ob)) ∧ allRe (plOf pos) objs'.length s.tm l
theorem Sim.relab {nt : Nat} {D0 : DMap} {β0 : List Bi} {o0 : List Ob} {w0 : World} {s s' : S} {a : Act} {w : World} {m : Nat} (hn : β0.length ≤ m) (hl : Relab m s s') (h : Sim D0 β0 o0 w0 nt s a w) : Sim D0 β0 o0 w0 nt s' a w := by
  obtain ⟨l, pos, objs', hdl, rfl, hpl, hnd, hm, hob, htm⟩ := hl
  obtain ⟨D, β, h1, h2, h3⟩ := h
  let z : Bi := ⟨0, fun _ => none⟩
  have hh := h1.heap
  have hβl := hh.len
  let β' : List Bi := pos.map fun p => β.getD p z
  have hβ' : β'.length = objs'.length := by simp [β', hpl]
  have posAt : ∀ k, k < objs'.length → ∃ p, pos[k]? = some p ∧ plOf pos k = p ∧ p < β.length := fun k hk => by
    obtain ⟨_, p, e1, e2⟩ := hob k objs'[k] (by simp [hk])
    exact ⟨p, e1, by simp [plOf, e1], by rw [hβl]; exact (List.getElem?_eq_some_iff.1 e2).1⟩
  have βat : ∀ i, i < objs'.length → β'[i]? = β[plOf pos i]? := fun i hi => by
    obtain ⟨p, a1, a2, a3⟩ := posAt i hi
    simp only [β', List.getElem?_map, a1, a2, Option.map_some, List.getD_eq_getElem?_getD]
    simp [a3]
  have heap : Heap D β' objs' w := by
    refine ⟨hh.dh, hβ', fun i bi ob e1 e2 => ?_, fun i j bi bj oi oj b e1 e2 e3 e4 e5 e6 => ?_⟩
    · have hi : i < objs'.length := (List.getElem?_eq_some_iff.1 e2).1
      rw [βat i hi] at e1
      obtain ⟨ho, p, f1, f2⟩ := hob i ob e2
      have hp : plOf pos i = p := by simp [plOf, f1]
      rw [hp] at e1
      exact reO_back βat ho (hh.hold p bi _ e1 f2)
    · have hi : i < objs'.length := (List.getElem?_eq_some_iff.1 e3).1
      have hj : j < objs'.length := (List.getElem?_eq_some_iff.1 e4).1
      rw [βat i hi] at e1
      rw [βat j hj] at e2
      obtain ⟨ho, p, f1, f2⟩ := hob i oi e3
      obtain ⟨ho', q, g1, g2⟩ := hob j oj e4
      have hp : plOf pos i = p := by simp [plOf, f1]
      have hq : plOf pos j = q := by simp [plOf, g1]
      rw [hp] at e1
      rw [hq] at e2
      have hpq := hh.disj p q bi bj _ _ b e1 e2 f2 g2 (reO_own' ho e5) (reO_own' ho' e6)
      subst hpq
      exact (List.getElem?_inj (by omega) hnd).1 (by rw [f1, g1])
  refine ⟨D, β', ⟨h1.dsub, h1.dnew, fun i x hx => ?_, heap, h1.size, h1.keep, h1.os, h1.tape, h1.output, ?_⟩, ⟨h2.1, fun t => ?_⟩, ?_⟩
  · obtain ⟨y, hy, hxy⟩ := h1.bext i x hx
    have hi : i < β0.length := (List.getElem?_eq_some_iff.1 hx).1
    have hpi := hm i (by omega)
    have hil : i < objs'.length := by rw [← hpl]; exact (List.getElem?_eq_some_iff.1 hpi).1
    refine ⟨y, ?_, hxy⟩
    rw [βat i hil, show plOf pos i = i by simp [plOf, hpi]]
    exact hy
  · rintro b ⟨i, bi, ob, e1, e2, e3⟩
    have hi : i < objs'.length := (List.getElem?_eq_some_iff.1 e2).1
    rw [βat i hi] at e1
    obtain ⟨ho, p, f1, f2⟩ := hob i ob e2
    have hp : plOf pos i = p := by simp [plOf, f1]
    rw [hp] at e1
    exact h1.ownn b ⟨p, bi, _, e1, f2, reO_own' ho e3⟩
  · show RepA D β' (((PT.ofList l).get? t).getD (.d .any)) _
    cases ht : (PT.ofList l).get? t with
    | none => exact .d .any
    | some v =>
      obtain ⟨k1, k2⟩ := allRe_mem htm (ofList_get ht)
      have := h2.2 t
      rw [k2] at this
      exact reA_back βat 8 k1 this
  · rw [hdl] at h3
    cases hd : a.defers with
    | nil => exact trivial
    | cons x r => rw [hd] at h3; exact h3.elim
section
variable {P : Program} {frz : List Nat} {nt m : Nat} {ro' : Option Nat} {K : Ex → S → Prop} {s : S} {ops : Array Oper} {l : List Oper}
theorem Run.relab {c : Code} {s' : S} (ht : Relab m s s') (h : Run P nt m ro' c s' K) : Run P nt m ro' c s K :=
  fun D0 β0 o0 w0 hb0 ro Q a w hro hK hs => h D0 β0 o0 w0 hb0 ro Q a w hro hK (hs.relab hb0 ht)
theorem RunOps.relab {s' : S} (ht : Relab m s s') (h : RunOps P nt m ro' ops l s' K) : RunOps P nt m ro' ops l s K :=
  fun D0 β0 o0 w0 hb0 ro Q a w i hro hops hK hs => h D0 β0 o0 w0 hb0 ro Q a w i hro hops hK (hs.relab hb0 ht)
theorem Run.loopR {α : Type} (St : α → S) (I : α → Prop) (mu : α → Nat) {b : Code} (x0 : α) (h0 : I x0) (hs0 : Relab m s (St x0))
    (h : ∀ x, I x → Run P nt m ro' b (St x) (fun e s1 => match e with | .normal => ∃ x', I x' ∧ mu x' < mu x ∧ Relab m s1 (St x') | e => K e s1)) : Run P nt m ro' (.loop b) s K := by
  intro D0 β0 o0 w0 hb0 ro Q a w hro hK hs
  refine wpIn_loop_n (fun k a w => ∃ x, I x ∧ mu x = k ∧ Sim D0 β0 o0 w0 nt (St x) a w) (k := mu x0) ⟨x0, h0, rfl, hs.relab hb0 hs0⟩ (fun k a w hJ => ?_)
  obtain ⟨x, hx, hm, hs⟩ := hJ
  refine h x hx D0 β0 o0 w0 hb0 ro _ a w hro (fun e s1 hk => ?_) hs
  cases e with
  | normal =>
    obtain ⟨x', h1, h2, h3⟩ := hk
    exact ⟨fun a w _ hs => ⟨mu x', by omega, x', h1, rfl, hs.relab hb0 h3⟩, fun x hx => by cases hx⟩
  | _ => exact post_of (hK _ _ hk) (fun x a w hx h => by cases x <;> first | exact absurd rfl hx | exact h) (by simp)
theorem EvD.callO {E : PT Ty} {o : Oper} {s0 : S} {i : Nat} {acc : List Eff} {G : S → Prop} {g : FuncId} {args : List AV} {r : AV} {objs' : List Ob} {tm : PT AV} (hg : guardA ops (rd s.tm) o = some true) (hc : callOf (rd s.tm) o.op = some (g, args)) (hh : hintO o.dst frz = false)
    (hA : ACall P g args s.objs r objs') (hp : isPan r = false) (ht : setD nt s.tm o.dst r = some tm) (k : EvD P E frz nt ops s0 (i + 1) (acc ++ [effOf (rd s.tm) s.objs o (some objs')]) l ⟨tm, objs', s.dl⟩ G) : EvD P E frz nt ops s0 i acc (o :: l) s G :=
  EvD.any (oneH_ok (objs := s.objs) (ob := some objs') (fun _ h => by cases h; exact hA) (fun h => by cases h)) hg (evAny_one hc hh) hp ht k
end
end Go.Av
end
noncomputable section
namespace Go.Av
open Go
theorem Step.retell {D : DMap} {β : List Bi} {objs : List Ob} {w : World} (h : Heap D β objs w) {i : Nat} {bi : Bi} {ob ob' : Ob} (hb : β[i]? = some bi) (ho : objs[i]? = some ob)
    (hown : ∀ b, ownOf bi ob' = some b → ownOf bi ob = some b) (hnew : HoldsOb D β w bi ob') : Step D β objs w D β (objs.set i ob') w := by
  have key : ∀ (j : Nat) bj oj b, β[j]? = some bj → (objs.set i ob')[j]? = some oj → ownOf bj oj = some b → ∃ oj', objs[j]? = some oj' ∧ ownOf bj oj' = some b := by
    intro j bj oj b hj h2 h3
    by_cases hij : i = j
    · subst hij
      rw [hb] at hj; cases hj
      rw [List.getElem?_set_self (List.getElem?_eq_some_iff.1 ho).1] at h2
      cases h2
      exact ⟨ob, ho, hown b h3⟩
    · rw [List.getElem?_set_ne hij] at h2
      exact ⟨oj, h2, h3⟩
  refine ⟨fun _ _ h => h, fun _ _ h1 h2 => (by rw [h2] at h1; cases h1), fun i x hx => ⟨x, hx, BiExt.refl x⟩, ⟨h.dh, by simp [h.len], fun j bj oj h1 h2 => ?_, fun j k bj bk oj ok b h1 h2 h3 h4 h5 h6 => ?_⟩, Nat.le_refl _, fun _ _ _ => rfl, rfl, rfl, rfl, ?_⟩
  · by_cases hij : i = j
    · subst hij
      rw [hb] at h1; cases h1
      rw [List.getElem?_set_self (List.getElem?_eq_some_iff.1 ho).1] at h2
      cases h2
      exact hnew
    · rw [List.getElem?_set_ne hij] at h2; exact h.hold j bj oj h1 h2
  · obtain ⟨oj', a1, a2⟩ := key j bj oj b h1 h3 h5
    obtain ⟨ok', b1, b2⟩ := key k bk ok b h2 h4 h6
    exact h.disj j k bj bk oj' ok' b h1 h2 a1 b1 a2 b2
  · rintro b ⟨j, bj, oj, h1, h2, h3⟩
    obtain ⟨oj', a1, a2⟩ := key j bj oj b h1 h2 h3
    exact .inl ⟨j, bj, oj', h1, a1, a2⟩
theorem cell_room {D : DMap} {β : List Bi} {objs : List Ob} {w : World} (h : Heap D β objs w) {i j : Nat} {cs : List AV} (sz : Nat) (hi : objs[i]? = some (.box cs)) (hj : cs[j]? = some (.d .nilsl)) :
    ∃ β', Step D β objs w D β' (objs.set i (.box (cs.set j (.sr objs.length sz []))) ++ [.room 0 sz]) w := by
  obtain ⟨β2, st, hr2⟩ := room_full h (sz := sz) (es := []) (A := none) (.sl (es := []) [] (Nat.le_refl _) (Nat.zero_le _) (by simp) (fun _ => ⟨rfl, rfl⟩) rfl (fun ad e => by cases e) (by simp))
  simp only [List.length_nil] at st hr2
  have hil := (List.getElem?_eq_some_iff.1 hi).1
  have hi2 : (objs ++ [Ob.room 0 sz])[i]? = some (.box cs) := by rw [List.getElem?_append_left hil]; exact hi
  have hbl : i < β2.length := by rw [st.heap.len]; simp; omega
  have hb2 : β2[i]? = some β2[i] := List.getElem?_eq_getElem hbl
  obtain ⟨vs, T, g1, g2, g3, g4, g5⟩ := st.heap.hold i _ _ hb2 hi2
  have st2 := Step.retell st.heap (ob' := .box (cs.set j (.sr objs.length sz []))) hb2 hi2 (fun b hb => hb) ⟨vs, T, g1, by simp [g2], fun k c v hc hv => by
    by_cases hk : j = k
    · subst hk
      rw [List.getElem?_set_self (List.getElem?_eq_some_iff.1 hj).1] at hc
      cases hc
      have := g3 j _ v hj hv
      cases this with
      | d this => cases this; exact hr2
    · rw [List.getElem?_set_ne hk] at hc
      exact g3 k c v hc hv, g4, g5⟩
  have e : (objs ++ [Ob.room 0 sz]).set i (.box (cs.set j (.sr objs.length sz []))) = objs.set i (.box (cs.set j (.sr objs.length sz []))) ++ [.room 0 sz] := List.set_append_left _ _ hil
  rw [e] at st2
  exact ⟨β2, st.trans st2⟩
theorem Run.cellRoom {P : Program} {nt m : Nat} {ro' : Option Nat} {K : Ex → S → Prop} {c : Code} {tm : PT AV} {objs objs' : List Ob} {dl : List Dl} (i j sz : Nat) {cs : List AV}
    (h : Run P nt m ro' c ⟨tm, objs', dl⟩ K) (hi : objs[i]? = some (.box cs) := by rfl) (hj : cs[j]? = some (.d .nilsl) := by rfl) (he : objs.set i (.box (cs.set j (.sr objs.length sz []))) ++ [.room 0 sz] = objs' := by rfl) :
    Run P nt m ro' c ⟨tm, objs, dl⟩ K := by
  subst he
  intro D0 β0 o0 w0 hb0 ro Q a w hro hK hs
  obtain ⟨D, β, h1, h2, h3⟩ := hs
  obtain ⟨β2, st⟩ := cell_room h1.heap sz hi hj
  exact h D0 β0 o0 w0 hb0 ro Q a w hro hK ⟨D, β2, h1.trans st, h2.mono st.dsub st.bext, h3.mono st.dsub st.bext⟩
theorem RunOps.cellRoom {P : Program} {nt m : Nat} {ro' : Option Nat} {K : Ex → S → Prop} {ops : Array Oper} {lo : List Oper} {tm : PT AV} {objs objs' : List Ob} {dl : List Dl} (i j sz : Nat) {cs : List AV}
    (h : RunOps P nt m ro' ops lo ⟨tm, objs', dl⟩ K) (hi : objs[i]? = some (.box cs) := by rfl) (hj : cs[j]? = some (.d .nilsl) := by rfl) (he : objs.set i (.box (cs.set j (.sr objs.length sz []))) ++ [.room 0 sz] = objs' := by rfl) :
    RunOps P nt m ro' ops lo ⟨tm, objs, dl⟩ K := by
  subst he
  intro D0 β0 o0 w0 hb0 ro Q a w n hro hlo hK hs
  obtain ⟨D, β, h1, h2, h3⟩ := hs
  obtain ⟨β2, st⟩ := cell_room h1.heap sz hi hj
  exact h D0 β0 o0 w0 hb0 ro Q a w n hro hlo hK ⟨D, β2, h1.trans st, h2.mono st.dsub st.bext, h3.mono st.dsub st.bext⟩
end Go.Av
end
noncomputable section
namespace Go.Av
open Go
abbrev OpK := PT Ty → Hd → List Nat → (Operand → AV) → List Ob → Option Tmp → R2
def qm (r : R) : R2 := r.map fun p => (p.1, none, p.2.2)
def lm (r : R) : R2 := r.map fun p => (p.1, some p.2.1, p.2.2)
def pm (v : AV) : R2 := some (v, none, true)
def getF (t : PT AV) : Nat → Option AV :=
  PT.rec (motive := fun _ => Nat → Option AV) (fun _ => none)
    (fun _ v _ gl gr n => Bool.rec (motive := fun _ => Option AV) (Bool.rec (motive := fun _ => Option AV) (gr (Nat.pred (Nat.div n 2))) (gl (Nat.div n 2)) (Nat.beq (Nat.mod n 2) 1)) v (Nat.beq n 0)) t
def setPF (t : PT AV) : Nat → AV → PT AV :=
  PT.rec (motive := fun _ => Nat → AV → PT AV) (fun n v => PT.single v 64 n)
    (fun l u r sl sr n v => Bool.rec (motive := fun _ => PT AV) (Bool.rec (motive := fun _ => PT AV) (.node l u (sr (Nat.pred (Nat.div n 2)) v)) (.node (sl (Nat.div n 2) v) u r) (Nat.beq (Nat.mod n 2) 1)) (.node l (some v) r) (Nat.beq n 0)) t
def orAny (o : Option AV) : AV := Option.rec (motive := fun _ => AV) (.d .any) (fun v => v) o
def rdF (tm : PT AV) (x : Operand) : AV :=
  Operand.rec (motive := fun _ => PT AV → AV) (fun t tm => orAny (getF tm t)) (fun v _ => .d ((ofVal v).getD .any)) (fun _ _ => .d .any) (fun f _ => .d (.fn (.func f) [] [])) x tm
theorem rdF_eq : rdF = rd := by
  funext tm x
  cases x with
  | tmp t =>
    show orAny (tm.get? t) = (tm.get? t).getD (.d .any)
    cases tm.get? t <;> rfl
  | _ => rfl
def dOf : AV → Option DV := AV.rec (motive_1 := fun _ => Option DV) (motive_2 := fun _ => Option DV) (fun x => some x) (fun _ _ => none) (fun _ _ _ => none) (fun _ _ _ _ => none) (fun _ => none) (fun _ _ _ _ _ => none) (fun _ _ => none) (fun _ _ => none) (fun _ => none)
  (fun _ _ _ _ => none) (fun _ => none) none (fun _ _ _ _ => none)
theorem dOf_ok {x : AV} {y : DV} (h : dOf x = some y) : x = .d y := by
  cases x <;> first | (cases h; done) | (cases h; rfl)
def iOf : DV → Option (IntKind × Int) := fun x => DV.casesOn (motive_1 := fun _ => Option (IntKind × Int)) x none (fun _ => none) (fun k n => some (k, n)) (fun _ => none) none none none none none (fun _ _ => none) (fun _ => none) (fun _ _ _ => none) (fun _ => none) (fun _ _ => none)
theorem iOf_ok {x : DV} {p : IntKind × Int} (h : iOf x = some p) : x = .int p.1 p.2 := by
  cases x <;> first | (cases h; done) | (cases h; rfl)
def diOf (x : AV) : Option (IntKind × Int) := Option.rec (motive := fun _ => Option (IntKind × Int)) none iOf (dOf x)
theorem diOf_ok {x : AV} {p : IntKind × Int} (h : diOf x = some p) : x = .d (.int p.1 p.2) := by
  unfold diOf at h
  cases hd : dOf x with
  | none => rw [hd] at h; cases h
  | some y => rw [hd] at h; rw [dOf_ok hd, iOf_ok h]
def kB : IntKind → IntKind → Bool :=
  IntKind.rec (motive := fun _ => IntKind → Bool)
    (IntKind.rec (motive := fun _ => Bool) true false false false false false false false) (IntKind.rec (motive := fun _ => Bool) false true false false false false false false)
    (IntKind.rec (motive := fun _ => Bool) false false true false false false false false) (IntKind.rec (motive := fun _ => Bool) false false false true false false false false)
    (IntKind.rec (motive := fun _ => Bool) false false false false true false false false) (IntKind.rec (motive := fun _ => Bool) false false false false false true false false)
    (IntKind.rec (motive := fun _ => Bool) false false false false false false true false) (IntKind.rec (motive := fun _ => Bool) false false false false false false false true)
theorem kB_eq (k k' : IntKind) : kB k k' = kindB k k' := by cases k <;> cases k' <;> rfl
def wrapF (k : IntKind) (n : Int) : Int :=
  Int.rec (motive := fun _ => IntKind → Int) (fun m k => Bool.rec (motive := fun _ => Int) (k.wrap (.ofNat m)) (.ofNat m) (Nat.ble m 127)) (fun m k => k.wrap (.negSucc m)) n k
theorem wrapF_eq (k : IntKind) (n : Int) : wrapF k n = k.wrap n := by
  cases n with
  | negSucc m => rfl
  | ofNat m =>
    show Bool.rec (motive := fun _ => Int) (k.wrap (.ofNat m)) (.ofNat m) (Nat.ble m 127) = _
    cases h : Nat.ble m 127 with
    | false => rfl
    | true =>
      have := Nat.le_of_ble_eq_true h
      show Int.ofNat m = k.wrap (Int.ofNat m)
      have e : (Int.ofNat m) = (m : Int) := rfl
      rw [e]
      cases k <;> simp [IntKind.wrap, IntKind.bits, IntKind.signed] <;> omega
def ltI (a b : Int) : Bool :=
  Int.rec (motive := fun _ => Int → Bool) (fun a => Int.rec (motive := fun _ => Bool) (fun b => Nat.ble (a + 1) b) (fun _ => false)) (fun a => Int.rec (motive := fun _ => Bool) (fun _ => true) (fun b => Nat.ble (b + 1) a)) a b
theorem ltI_eq (a b : Int) : ltI a b = decide (a < b) := by
  cases a with
  | ofNat a => cases b with
    | ofNat b =>
      show Nat.ble (a + 1) b = _
      cases h : Nat.ble (a + 1) b with
      | true => have := Nat.le_of_ble_eq_true h; simp; omega
      | false => have : ¬ a + 1 ≤ b := fun h' => by rw [Nat.ble_eq_true_of_le h'] at h; cases h
                 simp; omega
    | negSucc b => show false = _; simp; omega
  | negSucc a => cases b with
    | ofNat b => show true = _; simp; omega
    | negSucc b =>
      show Nat.ble (b + 1) a = _
      cases h : Nat.ble (b + 1) a with
      | true => have := Nat.le_of_ble_eq_true h; simp; omega
      | false => have : ¬ b + 1 ≤ a := fun h' => by rw [Nat.ble_eq_true_of_le h'] at h; cases h
                 simp; omega
def eqI (a b : Int) : Bool :=
  Int.rec (motive := fun _ => Int → Bool) (fun a => Int.rec (motive := fun _ => Bool) (fun b => Nat.beq a b) (fun _ => false)) (fun a => Int.rec (motive := fun _ => Bool) (fun _ => false) (fun b => Nat.beq a b)) a b
theorem beq_dec (a b : Nat) : Nat.beq a b = decide (a = b) := by
  cases h : Nat.beq a b with
  | true => rw [Nat.eq_of_beq_eq_true h]; simp
  | false => simp [Nat.ne_of_beq_eq_false h]
theorem eqI_eq (a b : Int) : eqI a b = (a == b) := by
  rw [Bool.eq_iff_iff]
  rw [beq_iff_eq]
  cases a with
  | ofNat a => cases b with
    | ofNat b => show Nat.beq a b = true ↔ _; rw [beq_dec]; simp; omega
    | negSucc b => show false = true ↔ _; simp
  | negSucc a => cases b with
    | ofNat b => show false = true ↔ _; simp
    | negSucc b => show Nat.beq a b = true ↔ _; rw [beq_dec]; simp
abbrev IK := IntKind → IntKind → Int → Int → List Ob → R2
def slowI (op : BinOp) (k k' : IntKind) (a b : Int) (objs : List Ob) : R2 :=
  qm (match op with
    | .shl | .shr => (shiftI op k a b).map fun p => (.d (.int k p.1), objs, p.2)
    | _ => if kindB k k' then (intI op k a b).map fun p => (.d p.1, objs, p.2) else none)
def opI (v : DV) (g : Bool) : R2 := Bool.rec (motive := fun _ => R2) none (pm (.d v)) g
def intF : BinOp → IK :=
  BinOp.rec (motive := fun _ => IK)
    (fun k k' a b _ => opI (.int k (wrapF k (Int.add a b))) (kB k k')) (fun k k' a b _ => opI (.int k (wrapF k (Int.sub a b))) (kB k k')) (fun k k' a b _ => opI (.int k (wrapF k (Int.mul a b))) (kB k k'))
    (slowI .quo) (slowI .rem) (slowI .and) (slowI .or) (slowI .xor) (slowI .shl) (slowI .shr) (slowI .andNot)
    (fun k k' a b _ => opI (.bool (eqI a b)) (kB k k')) (fun k k' a b _ => opI (.bool (!(eqI a b))) (kB k k')) (fun k k' a b _ => opI (.bool (ltI a b)) (kB k k')) (fun k k' a b _ => opI (.bool (!(ltI b a))) (kB k k'))
    (fun k k' a b _ => opI (.bool (ltI b a)) (kB k k')) (fun k k' a b _ => opI (.bool (!(ltI a b))) (kB k k'))
theorem intF_eq (op : BinOp) (k k' : IntKind) (a b : Int) (objs : List Ob) : intF op k k' a b objs = slowI op k k' a b objs := by
  have go : ∀ (v : DV) (x : Option (DV × Bool)), x = some (v, true) → opI v (kB k k') = qm (if kindB k k' then x.map fun p => (.d p.1, objs, p.2) else none) := by
    intro v x hx
    subst hx
    rw [kB_eq]
    cases kindB k k' <;> rfl
  have e1 : (decide (a ≤ b)) = !(ltI b a) := by rw [ltI_eq]; by_cases h : a ≤ b <;> simp [h] <;> omega
  have e2 : (decide (a ≥ b)) = !(ltI a b) := by rw [ltI_eq]; by_cases h : a ≥ b <;> simp [h] <;> omega
  cases op <;> first
    | rfl
    | (refine go _ _ ?_; simp only [intI, wrapF_eq, eqI_eq, ltI_eq, e1, e2, bne]; done)
    | (refine go _ _ ?_; simp only [intI, wrapF_eq]; rfl)
    | (refine go _ _ ?_; simp only [intI, wrapF_eq, eqI_eq, e1, e2, bne]; simp [ltI_eq])
def binF (E : PT Ty) (op : BinOp) (t : TypeId) (lit : Bool) (x y : AV) (objs : List Ob) : R2 :=
  Option.rec (motive := fun _ => PT Ty → BinOp → TypeId → Bool → AV → AV → List Ob → R2) (fun E op t lit x y objs => qm (binR E op t lit x y objs))
    (fun p E op t lit x y objs => Option.rec (motive := fun _ => (IntKind × Int) → PT Ty → BinOp → TypeId → Bool → AV → AV → List Ob → R2) (fun _ E op t lit x y objs => qm (binR E op t lit x y objs))
      (fun q p _ op _ _ _ _ objs => intF op p.1 q.1 p.2 q.2 objs) (diOf y) p E op t lit x y objs) (diOf x) E op t lit x y objs
theorem binF_eq (E : PT Ty) (op : BinOp) (t : TypeId) (lit : Bool) (x y : AV) (objs : List Ob) : binF E op t lit x y objs = qm (binR E op t lit x y objs) := by
  unfold binF
  cases hx : diOf x with
  | none => rfl
  | some p =>
    dsimp only
    cases hy : diOf y with
    | none => rfl
    | some q =>
      dsimp only
      rw [diOf_ok hx, diOf_ok hy]
      show intF op p.1 q.1 p.2 q.2 objs = _
      rw [intF_eq]
      rfl
def valueF (f : Operand) (args : Array Operand) (H : Hd) (frz : List Nat) (rd : Operand → AV) (objs : List Ob) (dst : Option Tmp) : R2 :=
  match rd f with
  | .d (.fn (.func g) a b) => match hintO dst frz with
    | true => (H.opn g (a.map .d ++ args.toList.map rd ++ b.map .d) objs).map fun p => (p.1, some p.2, true)
    | false => (H.call g (a.map .d ++ args.toList.map rd ++ b.map .d) objs).map fun p => (p.1, p.2, true)
  | .fn (.func g) a b => (H.call g (a ++ args.toList.map rd ++ b) objs).map fun p => (p.1, p.2, true)
  | .yl i => (H.yld i (args.toList.map rd) objs).map fun p => (p.1, some p.2, true)
  | _ => none
def appendF (args : Array Operand) (ts : Array TypeId) (E : PT Ty) (frz : List Nat) (rd : Operand → AV) (objs : List Ob) (dst : Option Tmp) : R2 :=
  match args.toList, ts.toList with
  | [s, x], [ts, tx] => (appendR E (hintV dst frz) ts tx (rd s) (rd x) objs).map fun p => (p.1, some p.2.1, p.2.2)
  | _, _ => none
abbrev BK := Array Operand → Array TypeId → OpK
def quietB (b : Builtin) : BK := fun args ts E _ _ rd objs _ => qm (evOp E rd objs (.call ⟨.builtin b, args, ts⟩))
def loudB (b : Builtin) : BK := fun args ts E _ _ rd objs _ => lm (evOp E rd objs (.call ⟨.builtin b, args, ts⟩))
def callF (c : Callee) : BK :=
  Callee.rec (motive := fun _ => BK) (fun f args _ _ H frz rd objs dst => valueF f args H frz rd objs dst) (fun r m args ts E _ _ rd objs _ => lm (evOp E rd objs (.call ⟨.invoke r m, args, ts⟩)))
    (fun b => match b with
      | .append => fun args ts E _ frz rd objs dst => appendF args ts E frz rd objs dst
      | .unsafeSliceData => quietB .unsafeSliceData | .len => quietB .len | .cap => quietB .cap | .min => quietB .min | .max => quietB .max
      | b => loudB b) c
def boxF (e : TypeId) (x : Operand) : OpK := fun E _ frz rd objs dst =>
  match (match dst with | some d => memN d frz | none => false) && (match allF (rd x).cells with | some _ => true | none => false) with
  | true => (boxER (rd x) objs).map fun p => (p.1, none, p.2.2)
  | false => (evOp E rd objs (.box e x)).map fun p => (p.1, some p.2.1, p.2.2)
def rowF (t : TypeId) (len : Nat) (parts : Array (Nat × Operand)) : OpK := fun E _ frz rd objs dst =>
  match (match dst with | some d => memN d frz | none => false) with
  | true => (buildSliceR E false t len (parts.toList.map fun p => (p.1, rd p.2)) objs).map fun p => (p.1, none, p.2.2)
  | false => match hintV dst frz with
    | true => (buildVecR E t len (parts.toList.map fun p => (p.1, rd p.2)) objs).map fun p => (p.1, some p.2.1, p.2.2)
    | false => (evOp E rd objs (.buildSlice t len parts)).map fun p => (p.1, some p.2.1, p.2.2)
def panicF (x : Operand) : OpK := fun _ _ _ rd _ _ => match rd x with
  | .d (.iface t v) => some (.pan (.iface t v), none, true)
  | _ => none
def loudO (o : Op) : OpK := fun E _ _ rd objs _ => lm (evOp E rd objs o)
def quietO (o : Op) : OpK := fun E _ _ rd objs _ => qm (evOp E rd objs o)
def sliceF (t : TypeId) (x : Operand) (lo hi : Option Operand) (mx : Option Operand) : OpK :=
  Option.rec (motive := fun _ => TypeId → Operand → Option Operand → Option Operand → OpK) (fun t x lo hi E _ _ rd objs _ => qm (sliceR E t (rd x) (lo.map rd) (hi.map rd) none objs))
    (fun mx t x lo hi => loudO (.slice t x lo hi (some mx))) mx t x lo hi
def opF : Op → OpK :=
  Op.rec (motive := fun _ => OpK)
    (fun x _ _ _ rd _ _ => pm (rd x))
    (fun x _ _ _ rd _ _ => pm (rd x))
    (fun c a b _ _ _ rd objs _ => qm (pickR (rd c) (rd a) (rd b) objs))
    (fun t E _ _ _ objs _ => lm (allocR E t objs))
    boxF
    (fun t parts E _ _ rd objs _ => qm (buildR E t (parts.toList.map fun p => (p.1, rd p.2)) objs))
    rowF
    (fun t m k v => loudO (.insert t m k v))
    (fun t a E _ _ rd objs _ => qm (loadR E t (rd a) objs))
    (fun t a v E _ _ rd objs _ => lm (storeR E t (rd a) (rd v) objs))
    (fun g => loudO (.ready g))
    (fun g => loudO (.waits g))
    (fun x _ _ _ rd objs _ => qm (nilCheckR (rd x) objs))
    (fun op t x y _ E _ _ rd objs _ => binF E op t (isC x || isC y) (rd x) (rd y) objs)
    (fun op _ x _ _ _ rd objs _ => qm (unR op (rd x) objs))
    (fun s d x => quietO (.convert s d x))
    (fun d x => loudO (.sliceToArrayPointer d x))
    (fun t x E _ _ rd objs _ => qm (mkIfaceR E t (rd x) objs))
    (fun f a b _ _ _ rd objs _ => qm (funcR f (a.toList.map rd) (b.toList.map rd) objs))
    (fun t r => loudO (.makeMap t r))
    (fun t s => loudO (.makeChan t s))
    (fun t l c => loudO (.makeSlice t l c))
    sliceF
    (fun t x f E _ _ rd objs _ => qm (fieldAddrR E t (rd x) f objs))
    (fun t x f E _ _ rd objs _ => qm (fieldR E t (rd x) f objs))
    (fun t x i E _ _ rd objs _ => qm (indexAddrR E t (rd x) (rd i) objs))
    (fun t x i E _ _ rd objs _ => qm (indexR E t (rd x) (rd i) objs))
    (fun t x i ok E _ _ rd objs _ => qm (lookupR E t (rd x) (rd i) ok objs))
    (fun t m k v => loudO (.mapUpdate t m k v))
    (fun t m k => loudO (.mapEntry t m k))
    (fun t m s v => loudO (.entryStore t m s v))
    (fun t x => loudO (.range t x))
    (fun i s => loudO (.next i s))
    (fun i => loudO (.entry i))
    (fun x t a ok E _ _ rd objs _ => qm (assertR E a ok (rd x) objs))
    (fun t i _ _ _ rd objs _ => qm (extractR (rd t) i objs))
    (fun c => callF c.callee c.args c.argTypes)
    (fun c => loudO (.go c))
    (fun c => loudO (.defer c))
    panicF
    (fun c x => loudO (.send c x))
    (fun t c ok => loudO (.recv t c ok))
    (fun cs b => loudO (.select cs b))
theorem opF_eq (E : PT Ty) (H : Hd) (frz : List Nat) (rd : Operand → AV) (objs : List Ob) (o : Oper) : opF o.op E H frz rd objs o.dst = evAny E H frz rd objs o := by
  obtain ⟨dst, op, ty, pos, after, guard⟩ := o
  cases op with
  | binOp op t x y yt => exact binF_eq E op t _ _ _ objs
  | slice t x lo hi mx => cases mx <;> rfl
  | call c =>
    obtain ⟨callee, args, ts⟩ := c
    cases callee with
    | value f => rfl
    | invoke r m => rfl
    | builtin b => cases b <;> rfl
  | _ => rfl
def guardF (ops : Array Oper) (rd : Operand → AV) (o : Oper) : Option Bool :=
  Option.rec (motive := fun _ => Array Oper → (Operand → AV) → Oper → Option Bool) (fun _ _ _ => some true) (fun _ ops rd o => guardA ops rd o) o.guard ops rd o
theorem guardF_eq (ops : Array Oper) (rd : Operand → AV) (o : Oper) : guardF ops rd o = guardA ops rd o := by
  obtain ⟨dst, op, ty, pos, after, guard⟩ := o
  cases guard <;> rfl
def setF (nt : Nat) (tm : PT AV) (dst : Option Tmp) (v : AV) : Option (PT AV) :=
  Option.rec (motive := fun _ => Nat → PT AV → AV → Option (PT AV)) (fun _ tm _ => some tm) (fun d nt tm v => Bool.rec (motive := fun _ => Option (PT AV)) none (some (setPF tm d v)) (Nat.ble (Nat.succ d) nt)) dst nt tm v
theorem setF_eq (nt : Nat) (tm : PT AV) (dst : Option Tmp) (v : AV) : setF nt tm dst v = setD nt tm dst v := by
  cases dst with
  | none => rfl
  | some d =>
    show Bool.rec (motive := fun _ => Option (PT AV)) none (some (tm.set d v)) (Nat.ble (d + 1) nt) = (match Nat.blt d nt with | true => some (tm.set d v) | false => none)
    show _ = (match Nat.ble (d + 1) nt with | true => some (tm.set d v) | false => none)
    cases Nat.ble (d + 1) nt <;> rfl
def panOf : AV → Option DV := AV.rec (motive_1 := fun _ => Option DV) (motive_2 := fun _ => Option DV) (fun _ => none) (fun _ _ => none) (fun _ _ _ => none) (fun _ _ _ _ => none) (fun _ => none) (fun _ _ _ _ _ => none) (fun _ _ => none) (fun _ _ => none) (fun _ => none)
  (fun _ _ _ _ => none) (fun x => some x) none (fun _ _ _ _ => none)
abbrev XR := Option (Ex × S)
def goX (nt : Nat) (dst : Option Tmp) (ih : S → XR) (tm : PT AV) (objs : List Ob) (dl : List Dl) (v : AV) : XR :=
  Option.rec (motive := fun _ => (S → XR) → List Ob → List Dl → XR) (fun _ _ _ => none) (fun tm ih objs dl => ih ⟨tm, objs, dl⟩) (setF nt tm dst v) ih objs dl
def ansX (nt : Nat) (o : Oper) (ih : S → XR) (s : S) (v : AV) (ob : Option (List Ob)) : XR :=
  Option.rec (motive := fun _ => Nat → Oper → (S → XR) → S → AV → Option (List Ob) → XR) (fun nt o ih s v ob => goX nt o.dst ih s.tm (ob.getD s.objs) s.dl v) (fun x _ _ _ s _ ob => some (.pan x, ⟨s.tm, ob.getD s.objs, s.dl⟩)) (panOf v) nt o ih s v ob
def slowX (E : PT Ty) (H : Hd) (nt : Nat) (df : Bool) (o : Oper) (ih : S → XR) (s : S) : XR :=
  match isDefer o.op with
  | true => match df, deferOf (rd s.tm) o.op, o.dst with
    | true, some (g, args), none => ih ⟨s.tm, s.objs, .call g args :: s.dl⟩
    | _, _, _ => none
  | false => none
def doX (E : PT Ty) (H : Hd) (frz : List Nat) (nt : Nat) (df : Bool) (o : Oper) (ih : S → XR) (s : S) : XR :=
  Option.rec (motive := fun _ => PT Ty → Hd → Nat → Bool → Oper → (S → XR) → S → XR) slowX
    (fun p _ _ nt _ o ih s => Prod.rec (motive := fun _ => Nat → Oper → (S → XR) → S → XR)
      (fun v q nt o ih s => Prod.rec (motive := fun _ => AV → Nat → Oper → (S → XR) → S → XR) (fun ob fl v nt o ih s => Bool.rec (motive := fun _ => XR) none (ansX nt o ih s v ob) fl) q v nt o ih s) p nt o ih s)
    (opF o.op E H frz (rdF s.tm) s.objs o.dst) E H nt df o ih s
def skipX (nt : Nat) (o : Oper) (ih : S → XR) (s : S) : XR := goX nt o.dst ih s.tm s.objs s.dl (.tup [])
def stepX (E : PT Ty) (H : Hd) (frz : List Nat) (nt : Nat) (df : Bool) (ops : Array Oper) (o : Oper) (_ : List Oper) (ih : S → XR) (s : S) : XR :=
  Option.rec (motive := fun _ => PT Ty → Hd → List Nat → Nat → Bool → Oper → (S → XR) → S → XR) (fun _ _ _ _ _ _ _ _ => none)
    (fun b => Bool.rec (motive := fun _ => PT Ty → Hd → List Nat → Nat → Bool → Oper → (S → XR) → S → XR) (fun _ _ _ nt _ o ih s => skipX nt o ih s) doX b) (guardF ops (rdF s.tm) o) E H frz nt df o ih s
def nilX (s : S) : XR := some (.normal, s)
def evOpsXF (E : PT Ty) (H : Hd) (frz : List Nat) (nt : Nat) (df : Bool) (ops : Array Oper) (l : List Oper) (s : S) : XR :=
  List.rec (motive := fun _ => S → XR) nilX (stepX E H frz nt df ops) l s
theorem goX_eq (nt : Nat) (dst : Option Tmp) (ih : S → XR) (tm : PT AV) (objs : List Ob) (dl : List Dl) (v : AV) : goX nt dst ih tm objs dl v = match setD nt tm dst v with | some tm => ih ⟨tm, objs, dl⟩ | none => none := by
  unfold goX
  rw [setF_eq]
  cases setD nt tm dst v <;> rfl
theorem ansX_eq (nt : Nat) (o : Oper) (ih : S → XR) (s : S) (v : AV) (ob : Option (List Ob)) : ansX nt o ih s v ob = match v with
    | .pan x => some (.pan x, ⟨s.tm, ob.getD s.objs, s.dl⟩)
    | v => match setD nt s.tm o.dst v with | some tm => ih ⟨tm, ob.getD s.objs, s.dl⟩ | none => none := by
  unfold ansX
  cases v <;> first | rfl | exact goX_eq _ _ _ _ _ _ _
theorem evAny_defer {E : PT Ty} {H : Hd} {frz : List Nat} {rd : Operand → AV} {objs : List Ob} {o : Oper} (h : isDefer o.op = true) : evAny E H frz rd objs o = none := by
  obtain ⟨dst, op, ty, pos, after, guard⟩ := o
  cases op <;> first | (cases h; done) | rfl
theorem doX_eq (E : PT Ty) (H : Hd) (frz : List Nat) (nt : Nat) (df : Bool) (o : Oper) (ih : S → XR) (s : S) : doX E H frz nt df o ih s =
    match isDefer o.op with
      | true => match df, deferOf (rd s.tm) o.op, o.dst with
        | true, some (g, args), none => ih ⟨s.tm, s.objs, .call g args :: s.dl⟩
        | _, _, _ => none
      | false => match evAny E H frz (rd s.tm) s.objs o with
        | some (v, ob, true) => match v with
          | .pan x => some (.pan x, ⟨s.tm, ob.getD s.objs, s.dl⟩)
          | v => match setD nt s.tm o.dst v with
            | some tm => ih ⟨tm, ob.getD s.objs, s.dl⟩
            | none => none
        | _ => none := by
  unfold doX
  rw [rdF_eq, opF_eq]
  cases hd : isDefer o.op with
  | true =>
    rw [evAny_defer hd]
    show slowX E H nt df o ih s = _
    unfold slowX
    rw [hd]
  | false =>
    cases hv : evAny E H frz (rd s.tm) s.objs o with
    | none =>
      show slowX E H nt df o ih s = _
      unfold slowX
      rw [hd]
    | some p =>
      obtain ⟨v, ob, fl⟩ := p
      cases fl with
      | false => rfl
      | true => exact ansX_eq nt o ih s v ob
theorem evOpsXF_eq (E : PT Ty) (H : Hd) (frz : List Nat) (nt : Nat) (df : Bool) (ops : Array Oper) : ∀ (l : List Oper) (s : S), evOpsXF E H frz nt df ops l s = evOpsX E H frz nt df ops l s
  | [], s => rfl
  | o :: l, s => by
    show stepX E H frz nt df ops o l (evOpsXF E H frz nt df ops l) s = _
    have hl : evOpsXF E H frz nt df ops l = evOpsX E H frz nt df ops l := funext fun s => evOpsXF_eq E H frz nt df ops l s
    rw [hl]
    unfold stepX evOpsX
    rw [rdF_eq, guardF_eq]
    cases hg : guardA ops (rd s.tm) o with
    | none => rfl
    | some b =>
      cases b with
      | true => exact doX_eq E H frz nt df o _ s
      | false => exact goX_eq _ _ _ _ _ _ _
abbrev CK := PT Ty → Hd → List Nat → Nat → Option Nat → (Code → S → XR) → S → XR
def seqK (ih : Code → S → XR) (b : Code) (r : XR) : XR :=
  Option.rec (motive := fun _ => (Code → S → XR) → Code → XR) (fun _ _ => none)
    (fun p => Prod.rec (motive := fun _ => (Code → S → XR) → Code → XR) (fun e s1 => Ex.rec (motive := fun _ => S → (Code → S → XR) → Code → XR) (fun s ih b => ih b s) (fun i s _ _ => some (.exit i, s)) (fun l s _ _ => some (.goto l, s)) (fun s _ _ => some (.ret, s)) (fun x s _ _ => some (.pan x, s)) e s1) p) r ih b
def blockK (id : Nat) (r : XR) : XR :=
  Option.rec (motive := fun _ => Nat → XR) (fun _ => none)
    (fun p => Prod.rec (motive := fun _ => Nat → XR) (fun e s1 => Ex.rec (motive := fun _ => S → Nat → XR) (fun s _ => some (.normal, s)) (fun i s id => Bool.rec (motive := fun _ => XR) (some (.exit i, s)) (some (.normal, s)) (Nat.beq i id)) (fun l s _ => some (.goto l, s)) (fun s _ => some (.ret, s)) (fun x s _ => some (.pan x, s)) e s1) p) r id
def scopeK (r : XR) : XR := match r with
  | some (.goto _, _) => none
  | r => r
def bOf : DV → Option Bool := fun x => DV.casesOn (motive_1 := fun _ => Option Bool) x none (fun b => some b) (fun _ _ => none) (fun _ => none) none none none none none (fun _ _ => none) (fun _ => none) (fun _ _ _ => none) (fun _ => none) (fun _ _ => none)
def boolOf (x : AV) : Option Bool := Option.rec (motive := fun _ => Option Bool) none bOf (dOf x)
def condK (c : Option Bool) (a b : Code) (ih : Code → S → XR) (s : S) : XR :=
  Option.rec (motive := fun _ => Code → Code → (Code → S → XR) → S → XR) (fun _ _ _ _ => none) (fun t => Bool.rec (motive := fun _ => Code → Code → (Code → S → XR) → S → XR) (fun _ b ih s => ih b s) (fun a _ ih s => ih a s) t) c a b ih s
theorem condK_eq (v : AV) (a b : Code) (ih : Code → S → XR) (s : S) : condK (boolOf v) a b ih s = match v with
    | .d (.bool true) => ih a s
    | .d (.bool false) => ih b s
    | _ => none := by
  cases v with
  | d x => cases x with
    | bool t => cases t <;> rfl
    | _ => rfl
  | _ => rfl
def rangeK (f : Operand) (ps : Array Tmp) (assign body : Code) (H : Hd) (frz : List Nat) (nt : Nat) (ro : Option Nat) (s : S) : XR :=
  match rd s.tm f with
  | .d (.fn (.func g) a b) => evCode.rangeA H frz nt ro g (a.map .d) (b.map .d) ps assign body s
  | .fn (.func g) a b => evCode.rangeA H frz nt ro g a b ps assign body s
  | _ => none
def codeF : Code → CK :=
  Code.rec (motive := fun _ => CK)
    (fun _ _ _ _ _ _ s => some (.normal, s))
    (fun _ ops draw E H frz nt ro _ s => Bool.rec (motive := fun _ => PT Ty → Hd → List Nat → Nat → Option Nat → Array Oper → S → XR) (fun E H frz nt ro ops s => evOpsXF E H frz nt (noRound ro) ops ops.toList s) (fun E H frz nt _ ops s => evDraw E H frz nt ops s) draw E H frz nt ro ops s)
    (fun a b _ _ _ _ _ _ _ ih s => seqK ih b (ih a s))
    (fun c a b _ _ _ _ _ _ _ ih s => condK (boolOf (rdF s.tm c)) a b ih s)
    (fun id b _ _ _ _ _ _ ih s => blockK id (ih b s))
    (fun b _ _ _ _ _ _ ih s => seqK ih (.loop b) (ih b s))
    (fun f ps assign body _ _ _ H frz nt ro _ s => rangeK f ps assign body H frz nt ro s)
    (fun id _ _ _ _ _ _ s => some (.exit id, s))
    (fun b _ _ _ _ _ _ ih s => scopeK (ih b s))
    (fun _ _ _ _ _ _ _ s => some (.normal, s))
    (fun _ _ _ _ _ _ _ _ => none)
    (fun _ _ _ _ _ _ s => some (.ret, s))
    (fun _ _ _ _ _ _ _ _ => none)
def evCodeF (E : PT Ty) (H : Hd) (frz : List Nat) (nt : Nat) (ro : Option Nat) (n : Nat) : Code → S → XR :=
  Nat.rec (motive := fun _ => Code → S → XR) (fun _ _ => none) (fun _ ih c s => codeF c E H frz nt ro ih s) n
theorem seqK_eq (ih : Code → S → XR) (b : Code) (r : XR) : seqK ih b r = match r with | some (.normal, s1) => ih b s1 | r => r := by
  cases r with
  | none => rfl
  | some p => obtain ⟨e, s⟩ := p; cases e <;> rfl
theorem blockK_eq (id : Nat) (r : XR) : blockK id r = match r with
    | some (.exit id', s1) => match Nat.beq id' id with
      | true => some (.normal, s1)
      | false => some (.exit id', s1)
    | r => r := by
  cases r with
  | none => rfl
  | some p =>
    obtain ⟨e, s⟩ := p
    cases e with
    | exit i =>
      show Bool.rec (motive := fun _ => XR) (some (.exit i, s)) (some (.normal, s)) (Nat.beq i id) = match Nat.beq i id with
        | true => some (.normal, s)
        | false => some (.exit i, s)
      cases Nat.beq i id <;> rfl
    | _ => rfl
theorem evCodeF_eq (E : PT Ty) (H : Hd) (frz : List Nat) (nt : Nat) (ro : Option Nat) : ∀ (n : Nat), evCodeF E H frz nt ro n = evCode E H frz nt ro n
  | 0 => by funext c s; rfl
  | n + 1 => by
    funext c s
    show codeF c E H frz nt ro (evCodeF E H frz nt ro n) s = _
    rw [evCodeF_eq E H frz nt ro n]
    unfold codeF
    rw [rdF_eq]
    cases c with
    | region id ops draw =>
      cases draw with
      | true => rfl
      | false => exact evOpsXF_eq E H frz nt (noRound ro) ops ops.toList s
    | seq a b => exact seqK_eq _ b _
    | loop b => exact seqK_eq _ (.loop b) _
    | block id b => exact blockK_eq id _
    | cond c a b => exact condK_eq _ a b _ s
    | _ => rfl
def evCallF (E : PT Ty) (F : FuncId → Option FnI) (H : Hd) (n : Nat) (f : FuncId) (args : List AV) (objs : List Ob) : Option (AV × List Ob) :=
  match F f with
  | some i =>
    match Nat.beq args.length i.np && Nat.ble i.np i.nt with
    | true =>
      match evCodeF E H i.frz i.nt none n i.body ⟨initTm 0 args .nil, objs, []⟩ with
      | some (e, s) =>
        match (match e with | .normal => some none | .ret => some none | .pan x => some (some x) | _ => none) with
        | some m => match evLeave H s.dl m s.objs with
          | some (none, objs') => match evResults E ⟨s.tm, objs', []⟩ i.results with
            | some r => some (r, objs')
            | none => none
          | some (some x, objs') => some (.pan x, objs')
          | none => none
        | none => none
      | none => none
    | false => none
  | none => none
theorem evCallF_eq : @evCallF = @evCall := by
  funext E F H n f args objs
  unfold evCallF evCall
  simp only [evCodeF_eq]
  rfl
def evYieldF (E : PT Ty) (H : Hd) (n : Nat) (i : Nat) (args : List AV) (objs : List Ob) : Option (AV × List Ob) :=
  match objs[i]? with
  | some (.loop tm nt frz ps assign body .ready _) =>
    match Nat.beq args.length ps.size && ps.toList.all (fun t => Nat.blt t nt) with
    | true =>
      match evCodeF E H frz nt (some i) n assign ⟨setTms tm (ps.toList.zip args), objs, []⟩ with
      | some (.normal, s1) =>
        match s1.objs[i]? with
        | some (.loop tm' nt' frz' ps' as' bd' .ready pend') =>
          match evCodeF E H frz nt (some i) n body ⟨s1.tm, s1.objs.set i (.loop tm' nt' frz' ps' as' bd' .busy pend'), s1.dl⟩ with
          | some (e, s2) =>
            match s2.objs[i]? with
            | some (.loop tm'' nt'' frz'' ps'' as'' bd'' _ _) =>
              match e with
              | .normal => some (.d (.bool true), s2.objs.set i (.loop tm'' nt'' frz'' ps'' as'' bd'' .ready none))
              | .pan _ => none
              | e => some (.d (.bool false), s2.objs.set i (.loop tm'' nt'' frz'' ps'' as'' bd'' .done (jumpOf e)))
            | _ => none
          | none => none
        | _ => none
      | _ => none
    | false => none
  | _ => none
theorem evYieldF_eq : @evYieldF = @evYield := by
  funext E H n i args objs
  unfold evYieldF evYield
  simp only [evCodeF_eq]
  rfl
def evPureF (E : PT Ty) (F : FuncId → Option FnI) (H : Hd) (n : Nat) (f : FuncId) (args : List AV) : Option AV :=
  match allF args with
  | some ds => match evCallF E F H n f (ds.map .d) [] with
    | some (r, o) => closeA o 8 r
    | none => none
  | none => none
def evLentF (E : PT Ty) (F : FuncId → Option FnI) (H : Hd) (n : Nat) (f : FuncId) (args : List AV) (objs : List Ob) : Option AV :=
  match allM (dvOf objs 8) args with
  | some ds => match evCallF E F H n f (ds.map .d) [] with
    | some (r, _) => match flatAV r with
      | true => some r
      | false => none
    | none => none
  | none => none
def evBothF (E : PT Ty) (F : FuncId → Option FnI) (H : Hd) (n : Nat) (f : FuncId) (args : List AV) (objs : List Ob) : Option (AV × Option (List Ob)) :=
  match (match F f with | some i => memN 200000 i.frz | none => false) with
  | true => (evCallF E F H n f args objs).map fun p => (p.1, some p.2)
  | false => match allClosed args with
    | true => match evPureF E F H n f args with
      | some r => some (r, none)
      | none => (evCallF E F H n f args objs).map fun p => (p.1, some p.2)
    | false => match (match F f with | some i => memN 200001 i.frz | none => false) with
      | true => (evLentF E F H n f args objs).map fun r => (r, some objs)
      | false => (evCallF E F H n f args objs).map fun p => (p.1, some p.2)
theorem evBothF_eq : @evBothF = @evBoth := by
  funext E F H n f args objs
  unfold evBothF evBoth evPureF evPure evLentF evLent
  simp only [evCallF_eq]
  rfl
def evLookF (T : Memo) (E : PT Ty) (F : FuncId → Option FnI) (H : Hd) (n : Nat) (f : FuncId) (args : List AV) (objs : List Ob) : Option (AV × Option (List Ob)) :=
  match look T f args with
  | some r => some (r, none)
  | none => match (match allClosed args with | true => false | false => match F f with | some i => memN 200001 i.frz | none => false) with
    | true => match allM (dvOf objs 8) args with
      | some ds => match look T f (ds.map .d) with
        | some r => match flatAV r with
          | true => some (r, some objs)
          | false => none
        | none => evBothF E F H n f args objs
      | none => none
    | false => evBothF E F H n f args objs
theorem evLookF_eq : @evLookF = @evLook := by
  funext T E F H n f args objs
  unfold evLookF evLook
  simp only [evBothF_eq]
  rfl
def hdlF (T : Memo) (E : PT Ty) (F : FuncId → Option FnI) (k n : Nat) : Hd :=
  Nat.rec (motive := fun _ => Hd) ⟨fun _ _ _ => none, fun _ _ _ => none, fun _ _ _ => none, fun _ _ _ _ => none⟩ (fun _ h => ⟨evLookF T E F h k, evYieldF E h k, fun f args objs => evOpn E F f args objs (evCallF E F h k f args objs), evDefer E F h k⟩) n
theorem hdlF_eq (T : Memo) (E : PT Ty) (F : FuncId → Option FnI) (k : Nat) : ∀ n, hdlF T E F k n = hdlM T E F k n
  | 0 => rfl
  | n + 1 => by
    show (⟨evLookF T E F (hdlF T E F k n) k, evYieldF E (hdlF T E F k n) k, fun f args objs => evOpn E F f args objs (evCallF E F (hdlF T E F k n) k f args objs), evDefer E F (hdlF T E F k n) k⟩ : Hd) = _
    rw [hdlF_eq T E F k n, evLookF_eq, evYieldF_eq, evCallF_eq]
    rfl
theorem knownF {P : Program} {E : PT Ty} {T : Memo} (hT : MemoOK P T) (hE : EnvOK P E) (hm : P.follows .mixedOrders = true) {F : FuncId → Option FnI} (hF : FnsOK P F) {k n : Nat} {f : FuncId} {args : List DV} {r : AV}
    (h : evBothF E F (hdlF T E F k n) k f (args.map .d) [] = some (r, none)) : KnownCall P f args r := by
  rw [evBothF_eq, hdlF_eq] at h
  exact known hT hE hm hF h
end Go.Av
end

/-
  The abstract layer, part P: what the evaluator says of one operation, holds; and it looks at nothing but the operands and one object.
-/
import Derived.Test.YtkehiddekhlfaaaO
noncomputable section
namespace Go.Av
open Go

section
variable {P : Program} {E : PT Ty} {H : Hd} {frz : List Nat}

/-- What the two ends of an evaluation by 'evOp' make of the objects. -/
theorem map_none {r : R} {av : AV} {c : Bool} {ob : Option (List Ob)} (h : (r.map fun p => (p.1, (none : Option (List Ob)), p.2.2)) = some (av, ob, c)) : ob = none ∧ ∃ o', r = some (av, o', c) := by
  cases r with
  | none => cases h
  | some p =>
    simp only [Option.map_some, Option.some.injEq, Prod.mk.injEq] at h
    obtain ⟨rfl, rfl, rfl⟩ := h
    exact ⟨rfl, p.2.1, rfl⟩
theorem map_some' {r : R} {av : AV} {c : Bool} {ob : Option (List Ob)} (h : (r.map fun p => (p.1, some p.2.1, p.2.2)) = some (av, ob, c)) : ∃ o', ob = some o' ∧ r = some (av, o', c) := by
  cases r with
  | none => cases h
  | some p =>
    simp only [Option.map_some, Option.some.injEq, Prod.mk.injEq] at h
    obtain ⟨rfl, rfl, rfl⟩ := h
    exact ⟨_, rfl, rfl⟩

/-- The operation's own way through 'evAny'. -/
inductive Way (E : PT Ty) (H : Hd) (rd : Operand → AV) (objs : List Ob) (o : Oper) (av : AV) : Option (List Ob) → Bool → Prop
  | fnD {c : Bool} {f : Operand} {args : Array Operand} {ts : Array TypeId} {g : FuncId} {a b : List DV} {ob : Option (List Ob)} (ho : o.op = .call ⟨.value f, args, ts⟩) (hf : rd f = .d (.fn (.func g) a b))
      (h : H.call g (a.map .d ++ args.toList.map rd ++ b.map .d) objs = some (av, ob)) : Way E H rd objs o av ob c
  | fnO {c : Bool} {f : Operand} {args : Array Operand} {ts : Array TypeId} {g : FuncId} {a b : List DV} {objs' : List Ob} (ho : o.op = .call ⟨.value f, args, ts⟩) (hf : rd f = .d (.fn (.func g) a b))
      (h : H.opn g (a.map .d ++ args.toList.map rd ++ b.map .d) objs = some (av, objs')) : Way E H rd objs o av (some objs') c
  | fnA {c : Bool} {f : Operand} {args : Array Operand} {ts : Array TypeId} {g : FuncId} {a b : List AV} {ob : Option (List Ob)} (ho : o.op = .call ⟨.value f, args, ts⟩) (hf : rd f = .fn (.func g) a b)
      (h : H.call g (a ++ args.toList.map rd ++ b) objs = some (av, ob)) : Way E H rd objs o av ob c
  | yl {c : Bool} {f : Operand} {args : Array Operand} {ts : Array TypeId} {i : Nat} {objs' : List Ob} (ho : o.op = .call ⟨.value f, args, ts⟩) (hf : rd f = .yl i)
      (h : H.yld i (args.toList.map rd) objs = some (av, objs')) : Way E H rd objs o av (some objs') c
  | boxE {c : Bool} {t : TypeId} {x : Operand} {o' : List Ob} (ho : o.op = .box t x) (h : boxER (rd x) objs = some (av, o', c)) : Way E H rd objs o av none c
  | rowE {c : Bool} {t : TypeId} {n : Nat} {ps : Array (Nat × Operand)} {o' : List Ob} (ho : o.op = .buildSlice t n ps) (h : buildSliceR E false t n (ps.toList.map fun p => (p.1, rd p.2)) objs = some (av, o', c)) : Way E H rd objs o av none c
  | rowV {c : Bool} {t : TypeId} {n : Nat} {ps : Array (Nat × Operand)} {o' : List Ob} (ho : o.op = .buildSlice t n ps) (h : buildVecR E t n (ps.toList.map fun p => (p.1, rd p.2)) objs = some (av, o', c)) : Way E H rd objs o av (some o') c
  | app {c v : Bool} {args : Array Operand} {ts : Array TypeId} {s x : Operand} {ta tb : TypeId} {o' : List Ob} (ho : o.op = .call ⟨.builtin .append, args, ts⟩) (ha : args.toList = [s, x]) (ht : ts.toList = [ta, tb])
      (h : appendR E v ta tb (rd s) (rd x) objs = some (av, o', c)) : Way E H rd objs o av (some o') c
  | pan {c : Bool} {x : Operand} {t : TypeId} {dv : DV} (ho : o.op = .panic x) (hx : rd x = .d (.iface t dv)) (hav : av = .pan (.iface t dv)) : Way E H rd objs o av none c
  | quiet {c : Bool} {o' : List Ob} (hq : quiet o.op = true) (h : evOp E rd objs o.op = some (av, o', c)) : Way E H rd objs o av none c
  | loud {c : Bool} {o' : List Ob} (h : evOp E rd objs o.op = some (av, o', c)) : Way E H rd objs o av (some o') c

theorem way_of {rd : Operand → AV} {objs : List Ob} {o : Oper} {av : AV} {ob : Option (List Ob)} {c : Bool} (h : evAny E H frz rd objs o = some (av, ob, c)) : Way E H rd objs o av ob c := by
  unfold evAny at h
  split at h
  · rename_i f args ts ho
    split at h
    · rename_i g a b hf
      split at h
      · cases hc : H.opn g (a.map .d ++ args.toList.map rd ++ b.map .d) objs with
        | none => rw [hc] at h; cases h
        | some p => rw [hc] at h; simp only [Option.map_some, Option.some.injEq, Prod.mk.injEq] at h; obtain ⟨rfl, rfl, _⟩ := h; exact .fnO ho hf hc
      · cases hc : H.call g (a.map .d ++ args.toList.map rd ++ b.map .d) objs with
        | none => rw [hc] at h; cases h
        | some p => rw [hc] at h; simp only [Option.map_some, Option.some.injEq, Prod.mk.injEq] at h; obtain ⟨rfl, rfl, _⟩ := h; exact .fnD ho hf hc
    · rename_i g a b hf
      cases hc : H.call g (a ++ args.toList.map rd ++ b) objs with
      | none => rw [hc] at h; cases h
      | some p => rw [hc] at h; simp only [Option.map_some, Option.some.injEq, Prod.mk.injEq] at h; obtain ⟨rfl, rfl, _⟩ := h; exact .fnA ho hf hc
    · rename_i i hf
      cases hc : H.yld i (args.toList.map rd) objs with
      | none => rw [hc] at h; cases h
      | some p => rw [hc] at h; simp only [Option.map_some, Option.some.injEq, Prod.mk.injEq] at h; obtain ⟨rfl, rfl, _⟩ := h; exact .yl ho hf hc
    · cases h
  · rename_i e x ho
    split at h
    · obtain ⟨rfl, o', h2⟩ := map_none h; exact .boxE ho h2
    · obtain ⟨o', rfl, h2⟩ := map_some' h; exact .loud (by rw [ho]; exact h2)
  · rename_i t n ps ho
    split at h
    · obtain ⟨rfl, o', h2⟩ := map_none h; exact .rowE ho h2
    · split at h
      · obtain ⟨o', rfl, h2⟩ := map_some' h; exact .rowV ho h2
      · obtain ⟨o', rfl, h2⟩ := map_some' h; exact .loud (by rw [ho]; exact h2)
  · rename_i args ts ho
    split at h
    · rename_i s x ta tb ha ht
      obtain ⟨o', rfl, h2⟩ := map_some' h; exact .app ho ha ht h2
    · cases h
  · rename_i x ho
    split at h
    · rename_i t dv hx
      simp only [Option.some.injEq, Prod.mk.injEq] at h
      obtain ⟨rfl, rfl, rfl⟩ := h
      exact .pan ho hx rfl
    · cases h
  · split at h
    · rename_i hq; obtain ⟨rfl, o', h2⟩ := map_none h; exact .quiet hq h2
    · obtain ⟨o', rfl, h2⟩ := map_some' h; exact .loud h2

theorem quiet_noDefer {o : Oper} (h : quiet o.op = true) : ∀ c, o.op ≠ .defer c := by
  intro c hc; rw [hc] at h; simp [quiet] at h
theorem evOp_noDefer {rd : Operand → AV} {objs : List Ob} {o : Oper} {r : AV × List Ob × Bool} (h : evOp E rd objs o.op = some r) : ∀ c, o.op ≠ .defer c := by
  intro c hc; rw [hc] at h; simp [evOp] at h

theorem fn_rep {D : DMap} {β : List Bi} {g : FuncId} {a b : List DV} {v : Value} (h : RepA D β (.d (.fn (.func g) a b)) v) :
    ∃ x y, v = .func (.func g) x y ∧ Reps D β (a.map .d) x ∧ Reps D β (b.map .d) y := by
  cases h with
  | d h => cases h with
    | fn h1 h2 r1 r2 => exact ⟨_, _, rfl, reps_d h1 r1, reps_d h2 r2⟩
theorem fnA_rep {D : DMap} {β : List Bi} {g : FuncId} {a b : List AV} {v : Value} (h : RepA D β (.fn (.func g) a b) v) :
    ∃ x y, v = .func (.func g) x y ∧ Reps D β a x ∧ Reps D β b y := by
  cases h with
  | fn h1 h2 r1 r2 => exact ⟨_, _, rfl, ⟨h1, r1⟩, ⟨h2, r2⟩⟩

theorem qf_any {f : List Ob → R} (hf : QF f) {objs o' : List Ob} {av : AV} {c : Bool} (h : f objs = some (av, o', c)) (objs2 : List Ob) : f objs2 = some (av, objs2, c) :=
  (hf.rf none objs objs2 (fun _ h => by cases h) av o' c h).2

/-- Of an operation that changes no object: in any objects that agree where it looks. -/
theorem way_a (hE : EnvOK P E) (hH : HOK P H) {rd : Operand → AV} {objs : List Ob} {o : Oper} {av : AV} (h : Way E H rd objs o av none true) {objs2 : List Ob}
    (hq : ∀ p, readsAt rd o.op = some p → objs2[p]? = objs[p]?) : OpDoes P o rd objs2 av objs2 := by
  cases h with
  | fnD ho hf h => exact does_call ho (fun D β v hv => fn_rep (by rw [hf] at hv; exact hv)) (hH.pure _ _ _ _ h objs2)
  | fnA ho hf h => exact does_call ho (fun D β v hv => fnA_rep (by rw [hf] at hv; exact hv)) (hH.pure _ _ _ _ h objs2)
  | boxE ho h =>
    obtain ⟨dst, op, ty, pos, after, guard⟩ := o
    simp only at ho; subst ho
    rename_i t x o'
    have h2 : boxER (rd x) objs2 = some (av, objs2, true) := qf_any (f := boxER (rd x)) (q_boxE (rd x)) h objs2
    refine does_of_run (fun c => by simp) fun D β ρ w hp hr => ?_
    obtain ⟨v, w', D', β', h3, h4, h5⟩ := boxE_ok (P := P) hp t (hr x) av objs2 true h2 rfl
    exact ⟨v, w', D', β', .inl (by simp [execOp, h3]), h4, h5⟩
  | rowE ho h =>
    obtain ⟨dst, op, ty, pos, after, guard⟩ := o
    simp only at ho; subst ho
    rename_i t n ps o'
    have h2 := qf_any (f := buildSliceR E false t n (ps.toList.map fun p => (p.1, rd p.2))) (q_buildSlice E t n _) h objs2
    refine does_of_run (fun c => by simp) fun D β ρ w hp hr => ?_
    have hps : PartsOK D β (ps.toList.map fun p => (p.1, rd p.2)) (ps.map fun p => (p.1, ρ p.2)) := by
      refine ⟨by simp, fun j p q hp hq => ?_⟩
      simp only [List.getElem?_map, Option.map_eq_some_iff, Array.getElem?_map, Array.getElem?_toList] at hp hq
      obtain ⟨x, hx, rfl⟩ := hp
      obtain ⟨y, hy, rfl⟩ := hq
      rw [hx] at hy; cases hy
      exact ⟨rfl, hr _⟩
    obtain ⟨v, w', D', β', h3, h4, h5⟩ := buildSlice_ok (P := P) hE.ty hp false t n hps av objs2 true h2 rfl
    exact ⟨v, w', D', β', .inl (by simp [execOp, h3]), h4, h5⟩
  | pan ho hx hav => subst hav; exact does_panic ho hx
  | quiet hqq h => exact does_op hE (quiet_noDefer hqq) (evOp_quiet E rd o.op hqq objs objs2 hq av _ true h).2

theorem way_does (hE : EnvOK P E) (hH : HOK P H) {rd : Operand → AV} {objs : List Ob} {o : Oper} {av : AV} {ob : Option (List Ob)} (h : Way E H rd objs o av ob true) :
    OpDoes P o rd objs av (ob.getD objs) := by
  cases ob with
  | none => exact way_a hE hH h (fun _ _ => rfl)
  | some objs' =>
    cases h with
    | fnD ho hf h => exact does_call ho (fun D β v hv => fn_rep (by rw [hf] at hv; exact hv)) (hH.call _ _ _ _ _ h)
    | fnA ho hf h => exact does_call ho (fun D β v hv => fnA_rep (by rw [hf] at hv; exact hv)) (hH.call _ _ _ _ _ h)
    | fnO ho hf h =>
      rcases hH.opn _ _ _ _ _ h with h | h
      · exact does_call ho (fun D β v hv => fn_rep (by rw [hf] at hv; exact hv)) h
      · exact does_ext ho (fun D β v hv => fn_rep (by rw [hf] at hv; exact hv)) h
    | yl ho hf h => exact does_yield ho hf (hH.yld _ _ _ _ _ h)
    | rowV ho h =>
      obtain ⟨dst, op, ty, pos, after, guard⟩ := o
      simp only at ho; subst ho
      rename_i t n ps
      refine does_of_run (fun c => by simp) fun D β ρ w hp hr => ?_
      have hps : PartsOK D β (ps.toList.map fun p => (p.1, rd p.2)) (ps.map fun p => (p.1, ρ p.2)) := by
        refine ⟨by simp, fun j p q hp hq => ?_⟩
        simp only [List.getElem?_map, Option.map_eq_some_iff, Array.getElem?_map, Array.getElem?_toList] at hp hq
        obtain ⟨x, hx, rfl⟩ := hp
        obtain ⟨y, hy, rfl⟩ := hq
        rw [hx] at hy; cases hy
        exact ⟨rfl, hr _⟩
      obtain ⟨v, w', D', β', h3, h4, h5⟩ := buildVec_ok (P := P) hE.ty hp t n hps av objs' true h rfl
      exact ⟨v, w', D', β', .inl (by simp [execOp, h3]), h4, h5⟩
    | app ho ha ht h =>
      obtain ⟨dst, op, ty, pos, after, guard⟩ := o
      simp only at ho; subst ho
      rename_i v args ts s x ta tb
      refine does_of_run (fun c => by simp) fun D β ρ w hp hr => ?_
      obtain ⟨u, w', D', β', h3, h4, h5⟩ := append_ok (P := P) hE.ty hp v ta tb ty (hr s) (hr x) av objs' true h rfl
      refine ⟨u, w', D', β', .inl ?_, h4, h5⟩
      rw [list2 ha, list2 ht]
      simp [execOp, resolve, invoke, builtin, h3]
    | loud h => exact does_op hE (evOp_noDefer h) h

end
end Go.Av

/-
  Parts of the way to the law, joined. Conditions stand at each.
-/
import Derived.Test.YtbbdpddeabojgaaTc2
import Derived.KernelRfl
import Derived.Carry
import Derived.OpenShut
import Derived.SizedLaws
set_option linter.all false
noncomputable section
namespace Go.Av
open Go
section
variable {P : Program} {E : PT Ty} {frz : List Nat} {nt m : Nat} {ro' : Option Nat} {K : Ex → S → Prop} {ops : Array Oper} {l : List Oper} {o : Oper} {tm tm' tm1 tm0 : PT AV} {objs objs' : List Ob} {dl : List Dl} {b : Bool} {ob : Option (List Ob)} {fl : Bool} {s s0 : S} {i : Nat} {acc : List Eff} {G : S → Prop} {g : FuncId} {ds : List DV} {r : AV}
theorem eX {v v' : AV} (k : EvD P E frz nt ops s0 (i + 1) (acc ++ [effOf (rd tm) objs o ob]) l ⟨tm', objs', dl⟩ G) (hg : guardA ops (rd tm) o = some true := by rfl) (hv : evAny E H0 frz (rd tm) objs o = some (v', ob, fl) := by rfl) (hf : fl = true := by rfl)
    (he : v' = v := by first | (conv => lhs; dsimp only) | rfl) (ho : ob.getD objs = objs' := by first | (conv => lhs; dsimp only [Option.getD]) | rfl) (hp : isPan v = false := by rfl) (ht : setD nt tm o.dst v = some tm' := by rfl) :
    EvD P E frz nt ops s0 i acc (o :: l) ⟨tm, objs, dl⟩ G := EvD.x hg hv hf he ho hp ht k
theorem eB (k1 : b = true → EvD P E frz nt ops s0 (i + 1) (acc ++ [effOf (rd tm) objs o ob]) l ⟨tm1, objs', dl⟩ G) (k0 : b = false → EvD P E frz nt ops s0 (i + 1) (acc ++ [effOf (rd tm) objs o ob]) l ⟨tm0, objs', dl⟩ G) (hb : boolOp o.op = true := by rfl) (hg : guardA ops (rd tm) o = some true := by rfl)
    (hv : evAny E H0 frz (rd tm) objs o = some (.d (.bool b), ob, fl) := by rfl) (hf : fl = true := by rfl) (ho : ob.getD objs = objs' := by first | (conv => lhs; dsimp only [Option.getD]) | rfl) (ht1 : setD nt tm o.dst (.d (.bool true)) = some tm1 := by rfl) (ht0 : setD nt tm o.dst (.d (.bool false)) = some tm0 := by rfl) :
    EvD P E frz nt ops s0 i acc (o :: l) ⟨tm, objs, dl⟩ G := EvD.xb hb hg hv hf ho ht1 ht0 k1 k0
theorem oS (k : RunOps P nt m ro' ops l ⟨tm', objs, dl⟩ K) (hg : guardA ops (rd tm) o = some false := by rfl) (ht : setD nt tm o.dst (.tup []) = some tm' := by rfl) : RunOps P nt m ro' ops (o :: l) ⟨tm, objs, dl⟩ K := RunOps.sx hg ht k
theorem eS (k : EvD P E frz nt ops s0 (i + 1) (acc ++ [.a none]) l ⟨tm', objs, dl⟩ G) (hg : guardA ops (rd tm) o = some false := by rfl) (ht : setD nt tm o.dst (.tup []) = some tm' := by rfl) : EvD P E frz nt ops s0 i acc (o :: l) ⟨tm, objs, dl⟩ G := EvD.sx hg ht k
theorem eN (k : G s) (hd : ∀ H', drawOK E H' frz nt ops never never s0 acc = true := by intro _; kernel_rfl) : EvD P E frz nt ops s0 i acc [] s G := EvD.nil hd k
theorem cT {c : Operand} {x y : Code} (k : Run P nt m ro' x s K) (hc : rd s.tm c = .d (.bool true) := by rfl) : Run P nt m ro' (.cond c x y) s K := Run.condT hc k
theorem cF {c : Operand} {x y : Code} (k : Run P nt m ro' y s K) (hc : rd s.tm c = .d (.bool false) := by rfl) : Run P nt m ro' (.cond c x y) s K := Run.condF hc k
theorem oC (hK : KnownCall P g ds r) (k : RunOps P nt m ro' ops l ⟨tm', objs, dl⟩ K) (hg : guardA ops (rd tm) o = some true := by rfl) (hc : callOf (rd tm) o.op = some (g, ds.map .d) := by rfl)
    (hp : isPan r = false := by rfl) (ht : setD nt tm o.dst r = some tm' := by rfl) : RunOps P nt m ro' ops (o :: l) ⟨tm, objs, dl⟩ K := RunOps.kc hK hg hc hp ht k
theorem eC (hK : KnownCall P g ds r) (k : EvD P E frz nt ops s0 (i + 1) (acc ++ [effOf (rd tm) objs o none]) l ⟨tm', objs, dl⟩ G) (hg : guardA ops (rd tm) o = some true := by rfl) (hc : callOf (rd tm) o.op = some (g, ds.map .d) := by rfl) (hh : hintO o.dst frz = false := by rfl)
    (hp : isPan r = false := by rfl) (ht : setD nt tm o.dst r = some tm' := by rfl) : EvD P E frz nt ops s0 i acc (o :: l) ⟨tm, objs, dl⟩ G := EvD.kc hK hg hc hh hp ht k
theorem oK (hK : KnownCall P g ds (.d (.bool b))) (k1 : b = true → RunOps P nt m ro' ops l ⟨tm1, objs, dl⟩ K) (k0 : b = false → RunOps P nt m ro' ops l ⟨tm0, objs, dl⟩ K) (hg : guardA ops (rd tm) o = some true := by rfl) (hc : callOf (rd tm) o.op = some (g, ds.map .d) := by rfl)
    (ht1 : setD nt tm o.dst (.d (.bool true)) = some tm1 := by rfl) (ht0 : setD nt tm o.dst (.d (.bool false)) = some tm0 := by rfl) : RunOps P nt m ro' ops (o :: l) ⟨tm, objs, dl⟩ K := RunOps.kb hK hg hc ht1 ht0 k1 k0
theorem eK (hK : KnownCall P g ds (.d (.bool b))) (k1 : b = true → EvD P E frz nt ops s0 (i + 1) (acc ++ [effOf (rd tm) objs o none]) l ⟨tm1, objs, dl⟩ G) (k0 : b = false → EvD P E frz nt ops s0 (i + 1) (acc ++ [effOf (rd tm) objs o none]) l ⟨tm0, objs, dl⟩ G) (hg : guardA ops (rd tm) o = some true := by rfl)
    (hc : callOf (rd tm) o.op = some (g, ds.map .d) := by rfl) (hh : hintO o.dst frz = false := by rfl) (ht1 : setD nt tm o.dst (.d (.bool true)) = some tm1 := by rfl) (ht0 : setD nt tm o.dst (.d (.bool false)) = some tm0 := by rfl) :
    EvD P E frz nt ops s0 i acc (o :: l) ⟨tm, objs, dl⟩ G := EvD.kb hK hg hc hh ht1 ht0 k1 k0
abbrev EndK (E : PT Ty) (rv : Array ResultVar) (r : AV) : Ex → S → Prop := fun e s => (match e with | .normal => True | .ret => True | _ => False) ∧ ∃ objs' r0, evLeave H0 s.dl none s.objs = some (none, objs') ∧ evResults E ⟨s.tm, objs', []⟩ rv = some r0 ∧ closeA objs' 8 r0 = some r
variable {rv : Array ResultVar} {r0 : AV}
theorem rD (r' : AV) (k : r' = r) (h1 : evLeave H0 s.dl none s.objs = some (none, objs') := by rfl) (h2 : evResults E ⟨s.tm, objs', []⟩ rv = some r0 := by rfl) (h3 : closeA objs' 8 r0 = some r' := by rfl) : EndK E rv r .ret s :=
  ⟨trivial, _, _, h1, h2, by rw [h3, k]⟩
theorem rB {x : Bool} (k : AV.d (.bool x) = r) (h1 : evLeave H0 s.dl none s.objs = some (none, objs') := by rfl) (h2 : evResults E ⟨s.tm, objs', []⟩ rv = some r0 := by rfl) (h3 : closeA objs' 8 r0 = some (.d (.bool x)) := by rfl) : EndK E rv r .ret s := rD _ k h1 h2 h3
theorem rI {x : IntKind} {y : Int} (k : AV.d (.int x y) = r) (h1 : evLeave H0 s.dl none s.objs = some (none, objs') := by rfl) (h2 : evResults E ⟨s.tm, objs', []⟩ rv = some r0 := by rfl) (h3 : closeA objs' 8 r0 = some (.d (.int x y)) := by rfl) : EndK E rv r .ret s := rD _ k h1 h2 h3
theorem rA {x : List DV} (k : AV.d (.agg x) = r) (h1 : evLeave H0 s.dl none s.objs = some (none, objs') := by rfl) (h2 : evResults E ⟨s.tm, objs', []⟩ rv = some r0 := by rfl) (h3 : closeA objs' 8 r0 = some (.d (.agg x)) := by rfl) : EndK E rv r .ret s := rD _ k h1 h2 h3
theorem rII {x x' : IntKind} {y y' : Int} (k : AV.tup [.d (.int x y), .d (.int x' y')] = r) (h1 : evLeave H0 s.dl none s.objs = some (none, objs') := by rfl) (h2 : evResults E ⟨s.tm, objs', []⟩ rv = some r0 := by rfl) (h3 : closeA objs' 8 r0 = some (.tup [.d (.int x y), .d (.int x' y')]) := by rfl) : EndK E rv r .ret s := rD _ k h1 h2 h3
theorem rSI {x' : IntKind} {y : List Nat} {y' : Int} (k : AV.tup [.d (.str y), .d (.int x' y')] = r) (h1 : evLeave H0 s.dl none s.objs = some (none, objs') := by rfl) (h2 : evResults E ⟨s.tm, objs', []⟩ rv = some r0 := by rfl) (h3 : closeA objs' 8 r0 = some (.tup [.d (.str y), .d (.int x' y')]) := by rfl) : EndK E rv r .ret s := rD _ k h1 h2 h3
theorem rT {x : List AV} (k : AV.tup x = r) (h1 : evLeave H0 s.dl none s.objs = some (none, objs') := by rfl) (h2 : evResults E ⟨s.tm, objs', []⟩ rv = some r0 := by rfl) (h3 : closeA objs' 8 r0 = some (.tup x) := by rfl) : EndK E rv r .ret s := rD _ k h1 h2 h3
theorem rS {x : DV} (k : AV.d x = r) (h1 : evLeave H0 s.dl none s.objs = some (none, objs') := by rfl) (h2 : evResults E ⟨s.tm, objs', []⟩ rv = some r0 := by rfl) (h3 : closeA objs' 8 r0 = some (.d x) := by rfl) : EndK E rv r .ret s := rD _ k h1 h2 h3
abbrev EndK2 (E : PT Ty) (rv : Array ResultVar) (r : AV) : Ex → S → Prop := fun e s => (match e with | .normal => True | .ret => True | _ => False) ∧ ∃ objs' r0 r1, evLeave H0 s.dl none s.objs = some (none, objs') ∧ evResults E ⟨s.tm, objs', []⟩ rv = some r0 ∧ closeA objs' 8 r0 = some r1 ∧ AvTo r1 r
theorem r2 {r1 : AV} (k : AvTo r1 r) (h1 : evLeave H0 s.dl none s.objs = some (none, objs') := by rfl) (h2 : evResults E ⟨s.tm, objs', []⟩ rv = some r0 := by rfl) (h3 : closeA objs' 8 r0 = some r1 := by rfl) : EndK2 E rv r .ret s :=
  ⟨trivial, _, _, _, h1, h2, h3, k⟩
theorem knownE (hE : EnvOK P E) {f : FuncId} {i : FnI} (hF : FnAt P f i) {ds : List DV} {r : AV} (h : Run P i.nt 0 none i.body ⟨initTm 0 (ds.map .d) .nil, [], []⟩ (EndK E i.results r)) (hlen : (ds.map AV.d).length = i.np := by rfl) (hle : Nat.ble i.np i.nt = true := by rfl) :
    KnownCall P f ds r := known_of_run hE hF hlen hle h
theorem knownE2 (hE : EnvOK P E) {f : FuncId} {i : FnI} (hF : FnAt P f i) {ds : List DV} {r : AV} (h : Run P i.nt 0 none i.body ⟨initTm 0 (ds.map .d) .nil, [], []⟩ (EndK2 E i.results r)) (hlen : (ds.map AV.d).length = i.np := by rfl) (hle : Nat.ble i.np i.nt = true := by rfl) :
    KnownCall P f ds r := known_of_run2 hE hF hlen hle h
theorem inc_get {t : Nat} {k : Nat} (h : tm.get? t = some (.d (.int .i64 (IntKind.i64.wrap ((k + 1 : Nat) : Int))))) (hk : k + 1 ≤ 1099511627776) : tm.get? t = some (.d (.int .i64 ((k + 1 : Nat) : Int))) :=
  h.trans (congrArg (fun n => some (AV.d (.int .i64 n))) (wrap_nat hk))
end
section
variable {E : PT Ty} {H : Hd} {frz : List Nat} {rd : Operand → AV} {objs : List Ob} {o : Oper} {args : Array Operand} {tys : Array TypeId} {a b : Operand} {ts tx e : TypeId} {yts z : Ty} {i n sz szr szx k : Nat} {es ys : List DV}
theorem app1 (hop : o.op = .call ⟨.builtin .append, args, tys⟩ := by rfl) (ha : args.toList = [a, b] := by rfl) (ht : tys.toList = [ts, tx] := by rfl)
    (hv : hintV o.dst frz = false := by rfl) (h1 : E.get? ts = some yts := by rfl) (h2 : yts.desc = .slice e := by rfl) (h3 : E.get? e = some z := by rfl) (h4 : appSrc E z tx (rd b) objs = some (szx, ys) := by rfl) (h5 : (Nat.ble 1 z.size && Nat.ble 1 z.bytes) = true := by rfl) (hk : z.size = k := by rfl)
    (h6 : szx = k ∨ ys = [] := by first | rfl | (exact Or.inl rfl) | (exact Or.inr rfl))
    (h7 : rd a = .sr i sz es := by rfl) (h8 : objs[i]? = some (.room n szr) := by rfl) (h9 : szr = k := by rfl) (h10 : sz = k := by rfl) (h11 : Nat.ble z.bytes 65536 = true := by rfl) (hn : n = es.length := by first | rfl | (simp [chunk, cutL] <;> fail) | (simp [chunk, cutL]; omega)) (hlen : es.length + ys.length ≤ 16777216 := by first | (simp [chunk, cutL] <;> fail) | (simp [chunk, cutL]; omega)) :
    evAny E H frz rd objs o = some (.sr i k (es ++ ys), some (objs.set i (.room (n + ys.length) k)), true) := evAny_app hop ha ht hv h1 h2 h3 h4 h5 hk h6 h7 h8 h9 h10 h11 hn hlen
theorem app0 (hop : o.op = .call ⟨.builtin .append, args, tys⟩ := by rfl) (ha : args.toList = [a, b] := by rfl) (ht : tys.toList = [ts, tx] := by rfl)
    (hv : hintV o.dst frz = false := by rfl) (h1 : E.get? ts = some yts := by rfl) (h2 : yts.desc = .slice e := by rfl) (h3 : E.get? e = some z := by rfl) (h4 : appSrc E z tx (rd b) objs = some (szx, ys) := by rfl) (h5 : (Nat.ble 1 z.size && Nat.ble 1 z.bytes) = true := by rfl) (hk : z.size = k := by rfl)
    (h6 : szx = k ∨ ys = [] := by first | rfl | (exact Or.inl rfl) | (exact Or.inr rfl))
    (h7 : rd a = .d .nilsl := by rfl) (h11 : Nat.ble z.bytes 65536 = true := by rfl) (hlen : ys.length ≤ 16777216 := by first | (simp [chunk, cutL] <;> fail) | (simp [chunk, cutL]; omega)) :
    evAny E H frz rd objs o = some (.sr objs.length k ys, some (objs ++ [.room ys.length k]), true) := evAny_app0 hop ha ht hv h1 h2 h3 h4 h5 hk h6 h7 h11 hlen
end
section
variable {P : Program} {E : PT Ty} {frz : List Nat} {nt m : Nat} {ro' : Option Nat} {K : Ex → S → Prop} {ops : Array Oper} {l : List Oper} {o : Oper} {tm tm' tm1 tm0 : PT AV} {objs : List Ob} {dl : List Dl} {b : Bool} {s0 : S} {i : Nat} {acc : List Eff} {G : S → Prop} {g : FuncId} {ds : List DV} {args : List AV} {r : AV}
end
section
variable {P : Program} {E : PT Ty} {nt m : Nat} {ro' : Option Nat} {K : Ex → S → Prop} {ops : Array Oper} {l : List Oper} {o : Oper} {tm tm1 tm0 : PT AV} {objs : List Ob} {dl : List Dl}
end
theorem Run.mkRoom {P : Program} {nt m : Nat} {ro' : Option Nat} {K : Ex → S → Prop} {c : Code} {tm : PT AV} {objs : List Ob} {dl : List Dl} (t sz : Nat) (l : List (Nat × AV)) (ht : tm.get? t = some (.d .nilsl)) (hl : ∀ t' v, (PT.ofList l).get? t' = some v → (t' = t ∧ v = .sr objs.length sz []) ∨ tm.get? t' = some v)
    (h : Run P nt m ro' c ⟨PT.ofList l, objs ++ [.room 0 sz], dl⟩ K) : Run P nt m ro' c ⟨tm, objs, dl⟩ K := by
  intro D0 β0 o0 w0 hb0 ro Q a w hro hK hs
  obtain ⟨D, β, h1, h2, h3⟩ := hs
  obtain ⟨β2, st, hr2⟩ := room_full h1.heap (sz := sz) (es := []) (A := none) (.sl (es := []) [] (Nat.le_refl _) (Nat.zero_le _) (by simp) (fun _ => ⟨rfl, rfl⟩) rfl (fun ad e => by cases e) (by simp))
  refine h D0 β0 o0 w0 hb0 ro Q a w hro hK ⟨D, β2, h1.trans st, ?_, h3.mono st.dsub st.bext⟩
  have h2m := h2.mono st.dsub st.bext
  refine ⟨h2.1, fun t' => ?_⟩
  cases hv : (PT.ofList l).get? t' with
  | none => exact .d .any
  | some v =>
    rcases hl t' v hv with ⟨rfl, rfl⟩ | ho
    · have := h2.2 t'
      simp only at this
      rw [ht] at this
      cases this with
      | d this =>
        generalize a.tmps.getD t' undef = x at this ⊢
        cases this
        exact hr2
    · have := h2m.2 t'
      simp only at this
      rw [ho] at this
      exact this
section
variable {P : Program} {E : PT Ty} {frz : List Nat} {nt m : Nat} {ro' : Option Nat} {K : Ex → S → Prop} {ops : Array Oper} {l : List Oper} {o : Oper} {tm tm' : PT AV} {objs objs' : List Ob} {dl : List Dl} {s0 : S} {i : Nat} {acc : List Eff} {G : S → Prop} {g : FuncId} {args : List AV} {r : AV}
theorem oA (hA : ACall P g args objs r objs') (k : RunOps P nt m ro' ops l ⟨tm', objs', dl⟩ K) (hg : guardA ops (rd tm) o = some true := by rfl) (hc : callOf (rd tm) o.op = some (g, args) := by rfl)
    (hp : isPan r = false := by rfl) (ht : setD nt tm o.dst r = some tm' := by rfl) : RunOps P nt m ro' ops (o :: l) ⟨tm, objs, dl⟩ K := RunOps.call hg hc hA hp ht k
theorem eA (hA : ACall P g args objs r objs') (k : EvD P E frz nt ops s0 (i + 1) (acc ++ [effOf (rd tm) objs o (some objs')]) l ⟨tm', objs', dl⟩ G) (hg : guardA ops (rd tm) o = some true := by rfl) (hc : callOf (rd tm) o.op = some (g, args) := by rfl)
    (hh : hintO o.dst frz = false := by rfl) (hp : isPan r = false := by rfl) (ht : setD nt tm o.dst r = some tm' := by rfl) : EvD P E frz nt ops s0 i acc (o :: l) ⟨tm, objs, dl⟩ G :=
  EvD.any (oneH_ok (objs := objs) (ob := some objs') (fun o' h => by cases h; exact hA) (fun h => by cases h)) hg (evAny_one hc hh) hp ht k
end
section
variable {P : Program} {E : PT Ty} {frz : List Nat} {nt m : Nat} {ro' : Option Nat} {K : Ex → S → Prop} {ops : Array Oper} {l : List Oper} {o : Oper} {tm tm' : PT AV} {objs : List Ob} {dl : List Dl} {s0 : S} {i : Nat} {acc : List Eff} {G : S → Prop} {g : FuncId} {ds : List DV} {args : List AV} {r : AV}
end
theorem ofList_cases {l : List (Nat × AV)} {Q : Nat → AV → Prop} (h : ∀ p ∈ l, Q p.1 p.2) : ∀ t v, (PT.ofList l).get? t = some v → Q t v := fun t v hv => h (t, v) (ofList_get hv)
def heapD (w : World) : DMap := fun ad => match w.cell? ad with
  | some v => if v.oneCell' = true ∧ ad.spot = none then some v else none
  | none => none
theorem heapD_some {w : World} {ad : Addr} {v : Value} : heapD w ad = some v ↔ w.cell? ad = some v ∧ v.oneCell' = true ∧ ad.spot = none := by
  unfold heapD
  cases w.cell? ad with
  | none => simp
  | some u =>
    by_cases h : u.oneCell' = true ∧ ad.spot = none
    · simp only [if_pos h, Option.some.injEq]
      refine ⟨fun e => by subst e; exact ⟨rfl, h⟩, fun e => e.1⟩
    · simp only [if_neg h, Option.some.injEq]
      constructor
      · intro e; cases e
      · rintro ⟨rfl, h2⟩; exact absurd h2 h
theorem heapD_heap (w : World) : Heap (heapD w) [] [] w :=
  ⟨fun ad v h => by obtain ⟨h1, h2, h3⟩ := heapD_some.1 h; exact ⟨h3, h2, h1⟩, rfl, fun i bi ob hb => by simp at hb, fun i j bi bj oi oj b hb => by simp at hb⟩
theorem below_of_step {D D' : DMap} {β' : List Bi} {objs' : List Ob} {w w' : World} (h : Step D [] [] w D' β' objs' w') : RowKit.Below w.heap.size w w' :=
  ⟨h.os, h.tape, h.output.1, h.size, fun k hk => h.keep k hk not_own_nil⟩
theorem calls_with {P : Program} {f : FuncId} {ds : List DV} (h : KnownCall P f ds (.d (.bool true))) (w : World) (args : Array Value) (hn : args.size = ds.length)
    (hr : ∀ (j : Nat) c v, ds[j]? = some c → args[j]? = some v → RepD (heapD w) c v) :
    Calls P f args w fun e w' => e = .returned (.bool true) ∧ (∀ may, w.keptBut w' may) ∧ RowKit.Below w.heap.size w w' := by
  have h1 := (h []).2 (heapD w) [] w args (heapD_heap w) ⟨by simpa using hn, fun j c v hc hv => by
    simp only [List.getElem?_map, Option.map_eq_some_iff] at hc
    obtain ⟨c', hc', rfl⟩ := hc
    exact .d (hr j c' v hc' hv)⟩
  refine (CallsIn.calls h1 ?_).mono fun e w' he => ?_
  · exact fun _ d hd => (by cases hd)
  · obtain ⟨v, D', β', rfl, hs, hv⟩ := he.ret rfl
    cases hv with
    | d hv => cases hv; exact ⟨rfl, fun may => kept_of_step hs may, below_of_step hs⟩
structure CellsRep (D : DMap) (x : DV) (cs : List Value) : Prop where
  len : (cellsD x).length = cs.length
  one : ∀ v ∈ cs, v.oneCell' = true
  rep : ∀ (j : Nat) c v, (cellsD x)[j]? = some c → cs[j]? = some v → RepD D c v
section
variable {H : Type} {enc : TypeId × Value → H} {P : Program} {w : World} {spare : Nat → Bool} {held : Bool} {fuel : Nat} {t : TypeId} {cs : List Value} {x : DataW H × List MemPlace}
theorem CellsRep.leaf {D : DMap} {x : DV} {v : Value} (hx : cellsD x = [x]) (hv : v.oneCell' = true) (h : RepD D x v) : CellsRep D x [v] :=
  ⟨by rw [hx]; rfl, fun u hu => by simp only [List.mem_singleton] at hu; subst hu; exact hv, fun j c u hc hu => by
    rw [hx] at hc
    cases j with
    | zero => simp at hc hu; subst hc hu; exact h
    | succ j => simp at hc⟩
theorem cr_int {k : IntKind} (ht : P.underlying t = some (.int k)) (h : DataW.trod enc P w 0 spare held fuel t cs = some x) : ∃ n, CellsRep (heapD w) (.int k n) cs ∧ (Lit.int k n).wf = true := by
  obtain ⟨n, rfl, _, hw⟩ := DataW.trod_int ht h
  exact ⟨n, .leaf rfl rfl .int, hw⟩
theorem cr_bool (ht : P.underlying t = some .bool) (h : DataW.trod enc P w 0 spare held fuel t cs = some x) : ∃ b, CellsRep (heapD w) (.bool b) cs := by
  obtain ⟨b, rfl, _⟩ := DataW.trod_bool ht h
  exact ⟨b, .leaf rfl rfl .bool⟩
theorem cells_get {a : Addr} {n : Nat} {r : List Value} (h : w.cells? 0 a n = some r) : r.length = n ∧ ∀ j, j < n → w.cell? (a.add j) = r[j]? := by
  unfold World.cells? at h
  rw [if_pos (Nat.zero_le _)] at h
  exact ⟨by simpa using mapM_some_length h, fun j hj => mapM_some_get h j j (by simp [hj])⟩
theorem spot_of_cell {a : Addr} {v : Value} (h : w.cell? a = some v) : a.spot = none := (blk_of_cell h).elim fun _ h => h.elim fun _ h => h.elim fun _ h => h.2.2
theorem cr_slice {α : Type} (f : α → DV) {e : TypeId} {sz : Nat} (Q : α → Prop) (ht : P.underlying t = some (.slice e)) (hsz : P.cellsOf e = sz) (h1 : 1 ≤ sz) (hsp : ∀ b, spare b = true)
    (elem : ∀ (n : Nat) (cs' : List Value) (y : DataW H × List MemPlace), cs'.length = sz → DataW.trod enc P w 0 spare held n e cs' = some y → ∃ d, CellsRep (heapD w) (f d) cs' ∧ Q d)
    (h : DataW.trod enc P w 0 spare held fuel t cs = some x) : ∃ l : List α, CellsRep (heapD w) (.sl sz (l.map f)) cs ∧ l.length ≤ maxLen ∧ ∀ d ∈ l, Q d := by
  rcases DataW.trod_slice ht h with ⟨rfl, _⟩ | ⟨a, len, cap, elems, rest, n, rfl, rfl, _, _, hlc, hcm, hel, hget, hrest, _⟩
  · refine ⟨[], .leaf rfl rfl ?_, Nat.zero_le _, by simp⟩
    exact .sl (es := []) [] (Nat.le_refl _) (Nat.zero_le _) (by simp) (fun _ => ⟨rfl, rfl⟩) rfl (fun ad e => by cases e) (by simp)
  · subst hsz
    have hspot : cap = 0 ∨ a.spot = none := by
      rcases Nat.eq_zero_or_pos cap with h0 | h0
      · exact .inl h0
      · right
        have hex : ∃ r, w.cells? 0 (a.add 0) (P.cellsOf e) = some r := by
          rcases Nat.eq_zero_or_pos len with hl | hl
          · obtain ⟨hr1, hr2⟩ := hrest (hsp _)
            have h2 := hr2 0 (by omega)
            rw [List.getElem?_eq_getElem (by omega), show (len + 0) * P.cellsOf e = 0 from by simp [hl]] at h2
            simp only [Option.bind_eq_some_iff] at h2
            obtain ⟨r, hr, _⟩ := h2
            exact ⟨r, hr⟩
          · have h2 := hget 0 hl
            rw [List.getElem?_eq_getElem (by omega)] at h2
            simp only [Option.bind_eq_some_iff, Nat.zero_mul] at h2
            obtain ⟨r, hr, _⟩ := h2
            exact ⟨r, hr⟩
        obtain ⟨r, hr⟩ := hex
        obtain ⟨g1, g2⟩ := cells_get hr
        have g3 := g2 0 (by omega)
        rw [List.getElem?_eq_getElem (by omega)] at g3
        have := spot_of_cell g3
        simpa [Addr.add] using this
    have hone : ∀ i, i < len → ∃ d r, CellsRep (heapD w) (f d) r ∧ Q d ∧ r.length = P.cellsOf e ∧ ∀ j, j < P.cellsOf e → w.cell? ((a.add (i * P.cellsOf e)).add j) = r[j]? := by
      intro i hi
      have h2 := hget i hi
      rw [List.getElem?_eq_getElem (by omega)] at h2
      simp only [Option.bind_eq_some_iff] at h2
      obtain ⟨r, hr, hy⟩ := h2
      obtain ⟨g1, g2⟩ := cells_get hr
      obtain ⟨d, hd, hq⟩ := elem n r _ g1 hy
      exact ⟨d, r, hd, hq, g1, g2⟩
    have hlist : ∀ m, m ≤ len → ∃ (l : List α) (vs : List Value), l.length = m ∧ (∀ d ∈ l, Q d) ∧ (∀ d ∈ l, (cellsD (f d)).length = P.cellsOf e) ∧ vs.length = m * P.cellsOf e ∧ (flatD (l.map f)).length = vs.length ∧
        (∀ v ∈ vs, v.oneCell' = true) ∧ (∀ (j : Nat) v, vs[j]? = some v → w.cell? ⟨a.block, a.off + j, none⟩ = some v) ∧ (∀ (j : Nat) c v, (flatD (l.map f))[j]? = some c → vs[j]? = some v → RepD (heapD w) c v) := by
      intro m
      induction m with
      | zero => exact fun _ => ⟨[], [], rfl, by simp, by simp, by simp, rfl, by simp, by simp, by simp⟩
      | succ m ih =>
        intro hm
        obtain ⟨l, vs, i1, i2, i3, i4, i5, i6, i7, i8⟩ := ih (by omega)
        obtain ⟨d, r, k1, k2, k3, k4⟩ := hone m (by omega)
        have hsp0 : a.spot = none := hspot.resolve_left (by omega)
        have hfl : flatD ((l ++ [d]).map f) = flatD (l.map f) ++ cellsD (f d) := by simp [flatD]
        refine ⟨l ++ [d], vs ++ r, by simp [i1], ?_, ?_, by rw [List.length_append, i4, k3, Nat.succ_mul], by rw [hfl, List.length_append, List.length_append, i5, k1.len], ?_, ?_, ?_⟩
        · intro q hq
          rcases List.mem_append.1 hq with hq | hq
          · exact i2 q hq
          · simp only [List.mem_singleton] at hq; subst hq; exact k2
        · intro q hq
          rcases List.mem_append.1 hq with hq | hq
          · exact i3 q hq
          · simp only [List.mem_singleton] at hq; subst hq; rw [k1.len, k3]
        · intro v hv
          rcases List.mem_append.1 hv with hv | hv
          · exact i6 v hv
          · exact k1.one v hv
        · intro j v hv
          rcases Nat.lt_or_ge j vs.length with hj | hj
          · rw [List.getElem?_append_left hj] at hv; exact i7 j v hv
          · rw [List.getElem?_append_right hj] at hv
            have hjr : j - vs.length < r.length := (List.getElem?_eq_some_iff.1 hv).1
            have := k4 (j - vs.length) (by omega)
            rw [addr_add hsp0, addr_add rfl, hv] at this
            simp only at this
            rw [← this]
            have : a.off + m * P.cellsOf e + (j - vs.length) = a.off + j := by omega
            rw [this]
        · intro j c v hc hv
          rw [hfl] at hc
          rcases Nat.lt_or_ge j vs.length with hj | hj
          · rw [List.getElem?_append_left hj] at hv
            rw [List.getElem?_append_left (by omega)] at hc
            exact i8 j c v hc hv
          · rw [List.getElem?_append_right hj] at hv
            rw [List.getElem?_append_right (by omega), i5] at hc
            exact k1.rep _ c v hc hv
    obtain ⟨l, vs, i1, i2, i3, i4, i5, i6, i7, i8⟩ := hlist len (Nat.le_refl _)
    refine ⟨l, .leaf rfl rfl ?_, by omega, i2⟩
    subst i1
    rw [← List.length_map (as := l) f]
    refine .sl vs (by simpa using hlc) hcm (fun y hy => ?_) (fun e => by cases e) i5.symm (fun ad e => ?_) i8
    · obtain ⟨d, hd, rfl⟩ := List.mem_map.1 hy
      exact i3 d hd
    · cases e
      refine ⟨hspot, fun j v hj => heapD_some.2 ⟨i7 j v hj, i6 v (List.mem_of_getElem? hj), rfl⟩⟩
theorem cr_agg {D : DMap} {cs : List Value} (xs : List DV) (hl : xs.length = cs.length) (h : ∀ (j : Nat) x v, xs[j]? = some x → cs[j]? = some v → cellsD x = [x] ∧ CellsRep D x [v]) : CellsRep D (.agg xs) cs := by
  refine ⟨hl, fun v hv => ?_, fun j c v hc hv => ?_⟩
  · obtain ⟨j, hj, e⟩ := List.getElem_of_mem hv
    obtain ⟨x, hx⟩ : ∃ x, xs[j]? = some x := ⟨xs[j]'(by omega), by simp⟩
    exact (h j x v hx (by rw [List.getElem?_eq_getElem hj, e])).2.one v (by simp)
  · obtain ⟨h1, h2⟩ := h j c v hc hv
    exact h2.rep 0 c v (by rw [h1]; rfl) rfl
def AllRep (D : DMap) : List DV → List Value → Prop
  | [], [] => True
  | x :: xs, v :: vs => (cellsD x = [x] ∧ CellsRep D x [v]) ∧ AllRep D xs vs
  | _, _ => False
theorem allRep_len {D : DMap} : ∀ {xs : List DV} {cs : List Value}, AllRep D xs cs → xs.length = cs.length
  | [], [], _ => rfl
  | _ :: _, _ :: _, h => by simp [allRep_len h.2]
theorem allRep_get {D : DMap} : ∀ {xs : List DV} {cs : List Value}, AllRep D xs cs → ∀ (j : Nat) x v, xs[j]? = some x → cs[j]? = some v → cellsD x = [x] ∧ CellsRep D x [v]
  | [], [], _, j, x, v, hx, _ => by simp at hx
  | x :: xs, v :: vs, h, 0, y, u, hx, hv => by simp at hx hv; subst hx hv; exact h.1
  | x :: xs, v :: vs, h, j + 1, y, u, hx, hv => allRep_get h.2 j y u (by simpa using hx) (by simpa using hv)
theorem cr_all {D : DMap} {xs : List DV} {cs : List Value} (h : AllRep D xs cs) : CellsRep D (.agg xs) cs := cr_agg xs (allRep_len h) (allRep_get h)
theorem trod_field {fs : Array Field} (ht : P.underlying t = some (.struct fs)) (h : DataW.trod enc P w 0 spare held fuel t cs = some x) (i : Nat) {f : Field} {v : Value} (hf : fs[i]? = some f) (h1 : P.cellsOf f.type = 1)
    (hv : cs[f.offset]? = some v) : ∃ n y, DataW.trod enc P w 0 spare held n f.type [v] = some y := by
  obtain ⟨xs, n, _, _, hl, hxl, hff⟩ := DataW.trod_struct ht h
  have h2 := hff i f hf
  have hi : i < xs.length := by rw [hxl]; exact (Array.getElem?_eq_some_iff.1 hf).1
  rw [h1, List.getElem?_eq_getElem hi] at h2
  refine ⟨n, xs[i], ?_⟩
  rw [← h2]
  congr 1
  obtain ⟨ho, e⟩ := List.getElem?_eq_some_iff.1 hv
  rw [List.drop_eq_getElem_cons ho, e]
  rfl
theorem rep_agg {D : DMap} {xs : List DV} {vs : Array Value} (h : CellsRep D (.agg xs) vs.toList) : RepD D (.agg xs) (.agg vs) :=
  .agg (by have := h.len; simp only [cellsD] at this; simpa using this.symm) (fun j v hv => h.one v (by
    obtain ⟨hj, e⟩ := Array.getElem?_eq_some_iff.1 hv
    rw [← e]; exact Array.mem_toList_iff.2 (Array.getElem_mem hj))) (fun j c v hc hv => h.rep j c v hc (by simpa using hv))
theorem arg_agg {α : Type} {r : Reach} {b0 : Nat} {v : Value} {d : DataW H} {ps : List MemPlace} {fs : Array Field} {Q : α → Prop} {f : α → List DV} (ht : P.underlying t = some (.struct fs)) (hval : Value.okWide P w r b0 t v) (h : DataW.Trod enc P w 0 spare held t v d ps)
    (hc : ∀ n (cs : List Value) x, cs.length = P.cellsOf t → DataW.trod enc P w 0 spare held n t cs = some x → ∃ a, CellsRep (heapD w) (.agg (f a)) cs ∧ Q a) : ∃ a, RepD (heapD w) (.agg (f a)) v ∧ Q a := by
  obtain ⟨n, h⟩ := h
  obtain ⟨vs, rfl, hs⟩ := WideShapes.okWide_struct ht hval
  obtain ⟨a, ha, hq⟩ := hc n vs.toList _ (by simpa using hs) h
  exact ⟨a, rep_agg ha, hq⟩
theorem trodAll_below {W W' : World} (hl : laidOutB P = true) (hb : RowKit.Below W.heap.size W W') : ∀ {ts : List TypeId} {vs : List Value} {ds : List (DataW H)} {ps : List MemPlace}, (ts.all fun t => P.readableRec t && decide (t < P.types.size)) = true →
    DataW.TrodAll enc P W 0 (fun _ => true) true ts vs ds ps → (∀ p ∈ ps, p.block < W.heap.size) → DataW.TrodAll enc P W' 0 (fun b => decide (b < W.heap.size)) true ts vs ds ps
  | [], [], [], _, _, h, _ => h
  | t :: ts, v :: vs, d :: ds, _, ht, ⟨p, q, h1, h2, e⟩, hlt => by
    simp only [List.all_cons, Bool.and_eq_true, decide_eq_true_eq] at ht
    exact ⟨p, q, RowKit.Below.trod hl ht.1.1 ht.1.2 h1 hb (fun y hy => hlt y (by rw [e]; exact List.mem_append_left _ hy)), trodAll_below hl hb ht.2 h2 (fun y hy => hlt y (by rw [e]; exact List.mem_append_right _ hy)), e⟩
end
section
variable {H : Type} {enc : TypeId × Value → H} {P : Program} {w : World} {spare : Nat → Bool} {held : Bool} {fuel : Nat} {t : TypeId} {cs : List Value} {x : DataW H × List MemPlace} {B : Nat}
end
def reA (ρ : Nat → Nat) : Nat → AV → AV
  | 0, _ => .d .any
  | _ + 1, .d x => .d x
  | _ + 1, .bp i off => .bp (ρ i) off
  | _ + 1, .sr i sz es => .sr (ρ i) sz es
  | _ + 1, .bs i off len cap => .bs (ρ i) off len cap
  | _ + 1, .mp i => .mp (ρ i)
  | k + 1, .agg cs => .agg (cs.map (reA ρ k))
  | k + 1, .tup cs => .tup (cs.map (reA ρ k))
  | _ + 1, .vs i sz lo len => .vs (ρ i) sz lo len
  | _ + 1, _ => .d .any
def reO (ρ : Nat → Nat) : Ob → Ob
  | .box cs => .box (cs.map (reA ρ 8))
  | .room m sz => .room m sz
  | .map kvs => .map kvs
  | .raw o => .raw o
  | .sit s p => .sit s p
  | .vec t ag sz m cs => .vec t ag sz m (cs.map (reA ρ 8))
  | .tb t cs => .tb t (cs.map (reA ρ 8))
  | _ => .gone
def okA (n : Nat) : Nat → AV → Bool
  | 0, _ => false
  | _ + 1, .d _ => true
  | _ + 1, .bp i _ => Nat.blt i n
  | _ + 1, .sr i _ _ => Nat.blt i n
  | _ + 1, .bs i _ _ _ => Nat.blt i n
  | _ + 1, .mp i => Nat.blt i n
  | _ + 1, .vs i _ _ _ => Nat.blt i n
  | k + 1, .agg cs => cs.all (okA n k)
  | _ + 1, _ => false
def okO (n : Nat) : Ob → Bool
  | .box cs => cs.all (okA n 8)
  | .tb _ cs => cs.all (okA n 8)
  | .vec _ _ _ _ cs => cs.all (okA n 8)
  | .loop .. => false
  | _ => true
theorem reA_ok {D : DMap} {β β2 : List Bi} {ρ : Nat → Nat} (look : ∀ i x, β[i]? = some x → β2[ρ i]? = some x) : ∀ (k : Nat) {x : AV} {v : Value}, RepA D β x v → RepA D β2 (reA ρ k x) v := by
  intro k
  induction k with
  | zero => exact fun _ => .d .any
  | succ k ih =>
    intro x v h
    cases h with
    | d h => exact .d h
    | bp h => exact .bp (look _ _ h)
    | sr h hh hd => exact .sr (look _ _ h) hh hd
    | bs h => exact .bs (look _ _ h)
    | mp h => exact .mp (look _ _ h)
    | fn => exact .d .any
    | agg h h1 hr =>
      refine .agg (by simp [h]) h1 fun j c v hc hv => ?_
      simp only [List.getElem?_map, Option.map_eq_some_iff] at hc
      obtain ⟨y, hy, rfl⟩ := hc
      exact ih (hr j y v hy hv)
    | tup h hr =>
      refine .tup (by simp [h]) fun j c v hc hv => ?_
      simp only [List.getElem?_map, Option.map_eq_some_iff] at hc
      obtain ⟨y, hy, rfl⟩ := hc
      exact ih (hr j y v hy hv)
    | yl h => exact .d .any
    | vs h hh hc hm hn hx => exact .vs (look _ _ h) hh hc hm hn hx
theorem reA_back {D : DMap} {β β2 : List Bi} {ρ : Nat → Nat} {n : Nat} (look : ∀ i, i < n → β[i]? = β2[ρ i]?) : ∀ (k : Nat) {x : AV} {v : Value}, okA n k x = true → RepA D β2 (reA ρ k x) v → RepA D β x v := by
  have lk : ∀ {i : Nat} {bi : Bi}, Nat.blt i n = true → β2[ρ i]? = some bi → β[i]? = some bi := fun h1 h2 => by
    rw [Nat.blt_eq] at h1; rw [look _ h1]; exact h2
  intro k
  induction k with
  | zero => intro x v h; cases h
  | succ k ih =>
    intro x v ho h
    cases x with
    | d x => cases h with | d h => exact .d h
    | bp i off => cases h with | bp h => exact .bp (lk ho h)
    | sr i sz es => cases h with | sr h hh hd => exact .sr (lk ho h) hh hd
    | bs i off len cap => cases h with | bs h => exact .bs (lk ho h)
    | mp i => cases h with | mp h => exact .mp (lk ho h)
    | vs i sz lo len => cases h with | vs h hh hc hm hn hx => exact .vs (lk ho h) hh hc hm hn hx
    | agg cs =>
      simp only [okA, List.all_eq_true] at ho
      cases h with
      | agg h h1 hr =>
        refine .agg (by simpa using h) h1 fun j c v hc hv => ?_
        exact ih (ho c (List.mem_of_getElem? hc)) (hr j _ v (by simp [hc]) hv)
    | _ => cases ho
theorem reO_own {ρ : Nat → Nat} {bi : Bi} {ob : Ob} {b : Nat} (h : ownOf bi (reO ρ ob) = some b) : ownOf bi ob = some b := by
  cases ob <;> first | exact h | (simp only [reO, ownOf] at h ⊢; exact h) | (simp only [reO, ownOf] at h; cases h)
theorem reO_own' {ρ : Nat → Nat} {n : Nat} {bi : Bi} {ob : Ob} {b : Nat} (ho : okO n ob = true) (h : ownOf bi ob = some b) : ownOf bi (reO ρ ob) = some b := by
  cases ob <;> first | exact h | (simp only [reO, ownOf] at h ⊢; exact h) | cases ho
theorem reO_ok {D : DMap} {β β2 : List Bi} {ρ : Nat → Nat} {w : World} {bi : Bi} {ob : Ob} (look : ∀ i x, β[i]? = some x → β2[ρ i]? = some x) (h : HoldsOb D β w bi ob) : HoldsOb D β2 w bi (reO ρ ob) := by
  have cell : ∀ {cs : List AV} {vs : Array Value}, (∀ (j : Nat) c v, cs[j]? = some c → vs[j]? = some v → RepA D β c v) → ∀ (j : Nat) c v, (cs.map (reA ρ 8))[j]? = some c → vs[j]? = some v → RepA D β2 c v := by
    intro cs vs h j c v hc hv
    simp only [List.getElem?_map, Option.map_eq_some_iff] at hc
    obtain ⟨y, hy, rfl⟩ := hc
    exact reA_ok look 8 (h j y v hy hv)
  cases ob with
  | box cs => obtain ⟨vs, T, g1, g2, g3, g4, g5⟩ := h; exact ⟨vs, T, g1, by simp [g2], cell g3, g4, g5⟩
  | tb ty cs => obtain ⟨vs, T, g1, g2, g3, g4, g5⟩ := h; exact ⟨vs, T, g1, by simp [g2], cell g3, g4, g5⟩
  | vec ty ag sz m cs =>
    obtain ⟨a, cap, g1, g2, g3, g4, g5, g6⟩ := h
    refine ⟨a, cap, g1, g2, g3, by simp [g4], g5, fun ad e => ?_⟩
    obtain ⟨k1, vs, T, k2, k3, k4, k5, k6⟩ := g6 ad e
    exact ⟨k1, vs, T, k2, k3, cell k4, k5, k6⟩
  | loop => trivial
  | gone => trivial
  | _ => exact h
theorem reO_back {D : DMap} {β β2 : List Bi} {ρ : Nat → Nat} {n : Nat} {w : World} {bi : Bi} {ob : Ob} (look : ∀ i, i < n → β[i]? = β2[ρ i]?) (ho : okO n ob = true) (h : HoldsOb D β2 w bi (reO ρ ob)) : HoldsOb D β w bi ob := by
  have cell : ∀ {cs : List AV} {vs : Array Value}, cs.all (okA n 8) = true → (∀ (j : Nat) c v, (cs.map (reA ρ 8))[j]? = some c → vs[j]? = some v → RepA D β2 c v) → ∀ (j : Nat) c v, cs[j]? = some c → vs[j]? = some v → RepA D β c v := by
    intro cs vs ho h j c v hc hv
    simp only [List.all_eq_true] at ho
    exact reA_back look 8 (ho c (List.mem_of_getElem? hc)) (h j _ v (by simp [hc]) hv)
  cases ob with
  | box cs => obtain ⟨vs, T, g1, g2, g3, g4, g5⟩ := h; exact ⟨vs, T, g1, by simpa using g2, cell ho g3, g4, g5⟩
  | tb ty cs => obtain ⟨vs, T, g1, g2, g3, g4, g5⟩ := h; exact ⟨vs, T, g1, by simpa using g2, cell ho g3, g4, g5⟩
  | vec ty ag sz m cs =>
    obtain ⟨a, cap, g1, g2, g3, g4, g5, g6⟩ := h
    refine ⟨a, cap, g1, g2, g3, by simpa using g4, g5, fun ad e => ?_⟩
    obtain ⟨k1, vs, T, k2, k3, k4, k5, k6⟩ := g6 ad e
    exact ⟨k1, vs, T, k2, k3, cell ho k4, k5, k6⟩
  | loop => cases ho
  | gone => trivial
  | _ => exact h
theorem find_range {n k : Nat} {p : Nat → Bool} (hk : k < n) (h1 : p k = true) (h2 : ∀ i, i < n → p i = true → i = k) : (List.range n).find? p = some k := by
  cases hf : (List.range n).find? p with
  | none => rw [List.find?_eq_none] at hf; exact absurd h1 (hf k (List.mem_range.2 hk))
  | some j =>
    have h3 := List.find?_some hf
    have h4 := List.mem_of_find?_eq_some hf
    rw [h2 j (List.mem_range.1 h4) h3]
def atOf (pos : List Nat) (m : Nat) (k : Nat) : Nat := match pos[k]? with | some p => p | none => m + (k - pos.length)
def reR (ρ : Nat → Nat) : AV → AV
  | .pan x => .pan x
  | r => reA ρ 8 r
theorem reR_of {ρ : Nat → Nat} {r : AV} (h : isPan r = false) : reR ρ r = reA ρ 8 r := by cases r <;> first | rfl | cases h
theorem ACall.embedR {P : Program} {f : FuncId} {args : List AV} {A A' : List Ob} {r : AV} (h : ACall P f args A r A') {Big Big' : List Ob} {pos : List Nat} (hl : pos.length = A.length) (hnd : pos.Nodup)
    (hB : ∀ (k : Nat) ob, A[k]? = some ob → ∃ p, pos[k]? = some p ∧ Big[p]? = some (reO (atOf pos Big.length) ob)) (hok : A.all (okO A.length) = true) (hargs : args.all (okA A.length 8) = true)
    (h1 : Big'.length + A.length = Big.length + A'.length) (h2 : ∀ p, p < Big.length → p ∉ pos → Big'[p]? = Big[p]?)
    (h3 : ∀ (k : Nat) ob, A'[k]? = some ob → Big'[atOf pos Big.length k]? = some (reO (atOf pos Big.length) ob)) :
    ACall P f (args.map (reA (atOf pos Big.length) 8)) Big (reR (atOf pos Big.length) r) Big' := by
  generalize hρ : atOf pos Big.length = ρ at *
  refine ⟨h.1, fun D β w vs hh hv => ?_⟩
  let z : Bi := ⟨0, fun _ => none⟩
  have hpos : ∀ (k p : Nat), pos[k]? = some p → p < Big.length := fun k p hk => by
    have hkl : k < A.length := by rw [← hl]; exact (List.getElem?_eq_some_iff.1 hk).1
    obtain ⟨p', e1, e2⟩ := hB k A[k] (by simp [hkl])
    rw [hk] at e1; cases e1
    exact (List.getElem?_eq_some_iff.1 e2).1
  have ρlow : ∀ (k p : Nat), pos[k]? = some p → ρ k = p := fun k p hk => by subst hρ; simp [atOf, hk]
  have ρhigh : ∀ k : Nat, A.length ≤ k → ρ k = Big.length + (k - A.length) := fun k hk => by
    subst hρ
    simp only [atOf]
    rw [List.getElem?_eq_none (by omega), hl]
  have posAt : ∀ k : Nat, k < A.length → ∃ p, pos[k]? = some p ∧ ρ k = p ∧ p < Big.length := fun k hk => by
    have hk' : k < pos.length := by omega
    refine ⟨pos[k], by simp [hk'], ρlow _ _ (by simp [hk']), hpos k _ (by simp [hk'])⟩
  have ρinj : ∀ i j : Nat, ρ i = ρ j → i = j := fun i j e => by
    rcases Nat.lt_or_ge i A.length with hi | hi <;> rcases Nat.lt_or_ge j A.length with hj | hj
    · obtain ⟨p, a1, a2, a3⟩ := posAt i hi
      obtain ⟨q, b1, b2, b3⟩ := posAt j hj
      have e' : p = q := by omega
      subst e'
      exact (List.getElem?_inj (by omega) hnd).1 (by rw [a1, b1])
    · obtain ⟨p, a1, a2, a3⟩ := posAt i hi
      have := ρhigh j hj; omega
    · obtain ⟨p, a1, a2, a3⟩ := posAt j hj
      have := ρhigh i hi; omega
    · have := ρhigh i hi
      have := ρhigh j hj; omega
  have hβl := hh.len
  let βs : List Bi := pos.map fun p => β.getD p z
  have βsAt : ∀ i, i < A.length → βs[i]? = β[ρ i]? := fun i hi => by
    obtain ⟨p, a1, a2, a3⟩ := posAt i hi
    have hpβ : p < β.length := by omega
    simp only [βs, List.getElem?_map, a1, a2, Option.map_some, List.getD_eq_getElem?_getD]
    simp [hpβ]
  have hβs : βs.length = A.length := by simp [βs, hl]
  have okAt : ∀ (k : Nat) ob, A[k]? = some ob → okO A.length ob = true := fun k ob hk => by
    simp only [List.all_eq_true] at hok
    exact hok ob (List.mem_of_getElem? hk)
  have small : Heap D βs A w := by
    refine ⟨hh.dh, hβs, fun i bi ob a b => ?_, fun i j bi bj oi oj b a1 a2 b1 b2 c1 c2 => ?_⟩
    · have hi : i < A.length := (List.getElem?_eq_some_iff.1 b).1
      rw [βsAt i hi] at a
      obtain ⟨p, e1, e2⟩ := hB i ob b
      rw [ρlow _ _ e1] at a
      exact reO_back βsAt (okAt i ob b) (hh.hold p bi _ a e2)
    · have hi : i < A.length := (List.getElem?_eq_some_iff.1 b1).1
      have hj : j < A.length := (List.getElem?_eq_some_iff.1 b2).1
      rw [βsAt i hi] at a1
      rw [βsAt j hj] at a2
      obtain ⟨p, e1, e2⟩ := hB i oi b1
      obtain ⟨q, f1, f2⟩ := hB j oj b2
      rw [ρlow _ _ e1] at a1
      rw [ρlow _ _ f1] at a2
      have := hh.disj p q bi bj _ _ b a1 a2 e2 f2 (reO_own' (okAt i oi b1) c1) (reO_own' (okAt j oj b2) c2)
      exact ρinj i j (by rw [ρlow _ _ e1, ρlow _ _ f1, this])
  have ownUp : ∀ b, Own βs A b → ∃ (i p : Nat), ∃ bi ob, i < A.length ∧ ρ i = p ∧ β[p]? = some bi ∧ A[i]? = some ob ∧ Big[p]? = some (reO ρ ob) ∧ ownOf bi (reO ρ ob) = some b := by
    rintro b ⟨i, bi, ob, a, b', c⟩
    have hi : i < A.length := (List.getElem?_eq_some_iff.1 b').1
    rw [βsAt i hi] at a
    obtain ⟨p, e1, e2⟩ := hB i ob b'
    rw [ρlow _ _ e1] at a
    exact ⟨i, p, bi, ob, hi, ρlow _ _ e1, a, b', e2, reO_own' (okAt i ob b') c⟩
  refine (h.2 D βs w vs small ⟨by simpa using hv.1, fun j c v hc hw => ?_⟩).mono fun e w' he => ?_
  · have := hv.2 j (reA ρ 8 c) v (by simp [hc]) hw
    simp only [List.all_eq_true] at hargs
    exact reA_back βsAt 8 (hargs c (List.mem_of_getElem? hc)) this
  obtain ⟨D', β', hs, fin⟩ : ∃ D' β', Step D βs A w D' β' A' w' ∧ ∀ β2 : List Bi, (∀ i x, β'[i]? = some x → β2[ρ i]? = some x) → Step D β Big w D' β2 Big' w' → EndOK D β Big w (reR ρ r) Big' e w' := by
    rcases he with ⟨v, D', β', rfl, hs, hrv⟩ | ⟨x, v, D', β', rfl, rfl, hs, hrv⟩
    · exact ⟨D', β', hs, fun β2 look st => .inl ⟨v, D', β2, rfl, st, by rw [reR_of hrv.noPan]; exact reA_ok look 8 hrv⟩⟩
    · exact ⟨D', β', hs, fun β2 look st => .inr ⟨x, v, D', β2, rfl, rfl, st, hrv⟩⟩
  have hl' := hs.heap.len
  have hge : A.length ≤ A'.length := by
    rcases Nat.lt_or_ge A'.length A.length with hlt | hge
    · obtain ⟨y, hy, _⟩ := hs.bext A'.length (βs[A'.length]'(by omega)) (by simp)
      have := (List.getElem?_eq_some_iff.1 hy).1; omega
    · exact hge
  let β2 : List Bi := (List.range Big'.length).map fun p => match (List.range A'.length).find? (fun k => ρ k == p) with | some k => β'.getD k z | none => β.getD p z
  have β2len : β2.length = Big'.length := by simp [β2]
  have ρltB : ∀ k, k < A'.length → ρ k < Big'.length := fun k hk => by
    rcases Nat.lt_or_ge k A.length with h' | h'
    · obtain ⟨p, a1, a2, a3⟩ := posAt k h'; omega
    · have := ρhigh k h'; omega
  have β2at : ∀ k, k < A'.length → β2[ρ k]? = β'[k]? := fun k hk => by
    have hk' : k < β'.length := by omega
    have hf : (List.range A'.length).find? (fun k' => ρ k' == ρ k) = some k := find_range hk (by simp) fun i _ e' => ρinj _ _ (by simpa using e')
    simp only [β2, List.getElem?_map, List.getElem?_range (ρltB k hk), Option.map_some, hf, List.getD_eq_getElem?_getD]
    simp [hk']
  have β2old : ∀ p, p < Big.length → p ∉ pos → β2[p]? = β[p]? := fun p hp' hn => by
    have hpl : p < Big'.length := by omega
    have hf : (List.range A'.length).find? (fun k => ρ k == p) = none := by
      rw [List.find?_eq_none]
      intro k hk
      simp only [List.mem_range] at hk
      simp only [beq_iff_eq]
      intro e'
      rcases Nat.lt_or_ge k A.length with h' | h'
      · obtain ⟨q, a1, a2, a3⟩ := posAt k h'
        exact hn (by rw [show p = q by omega]; exact List.mem_of_getElem? a1)
      · have := ρhigh k h'; omega
    simp only [β2, List.getElem?_map, List.getElem?_range hpl, Option.map_some, hf, List.getD_eq_getElem?_getD]
    have : p < β.length := by omega
    simp [this]
  have look2 : ∀ i x, β'[i]? = some x → β2[ρ i]? = some x := fun i x hx => by
    rw [β2at i (by have := (List.getElem?_eq_some_iff.1 hx).1; omega)]; exact hx
  have cut : ∀ (p : Nat) bi ob, β2[p]? = some bi → Big'[p]? = some ob → (p < Big.length ∧ p ∉ pos ∧ β[p]? = some bi ∧ Big[p]? = some ob) ∨ (∃ k o, ρ k = p ∧ β'[k]? = some bi ∧ A'[k]? = some o ∧ ob = reO ρ o) := by
    intro p bi ob a b
    have hpl : p < Big'.length := (List.getElem?_eq_some_iff.1 b).1
    have few : ∀ k, k < A'.length → ρ k = p → ∃ k o, ρ k = p ∧ β'[k]? = some bi ∧ A'[k]? = some o ∧ ob = reO ρ o := fun k hk e' => by
      refine ⟨k, A'[k], e', by rw [← β2at k hk, e']; exact a, by simp [hk], ?_⟩
      have := h3 k A'[k] (by simp [hk])
      rw [e', b] at this
      exact Option.some.inj this
    rcases Nat.lt_or_ge p Big.length with hp' | hp'
    · by_cases hm : p ∈ pos
      · obtain ⟨k, hk, e'⟩ := List.getElem_of_mem hm
        exact .inr (few k (by omega) (ρlow k p (by rw [List.getElem?_eq_getElem hk, e'])))
      · exact .inl ⟨hp', hm, by rw [← β2old p hp' hm]; exact a, by rw [← h2 p hp' hm]; exact b⟩
    · exact .inr (few (A.length + (p - Big.length)) (by omega) (by rw [ρhigh _ (by omega)]; omega))
  have other : ∀ (p : Nat) bi ob b, p < Big.length → p ∉ pos → β[p]? = some bi → Big[p]? = some ob → ownOf bi ob = some b → ¬ Own βs A b := by
    intro p bi ob b h1 hn a1 a2 a3 ho
    obtain ⟨i, q, bj, oj, c0, c1, c2, _, c3, c4⟩ := ownUp b ho
    have := hh.disj p q bi bj _ _ b a1 c2 a2 c3 a3 c4
    obtain ⟨q', d1, d2, _⟩ := posAt i c0
    exact hn (by rw [show p = q' by omega]; exact List.mem_of_getElem? d1)
  have upOwn : ∀ b, Own βs A b → Own β Big b := fun b ho => by
    obtain ⟨i, q, bj, oj, c0, c1, c2, _, c3, c4⟩ := ownUp b ho
    exact ⟨q, bj, _, c2, c3, c4⟩
  have few2 : ∀ (k : Nat) bi o b, β'[k]? = some bi → A'[k]? = some o → ownOf bi o = some b → Own βs A b ∨ w.heap.size ≤ b := fun k bi o b a1 a2 a3 => hs.ownn b ⟨k, bi, o, a1, a2, a3⟩
  have st : Step D β Big w D' β2 Big' w' := by
    refine ⟨hs.dsub, fun ad v a b => (hs.dnew ad v a b).imp (upOwn _) id, fun p x hx => ?_, ⟨hs.heap.dh, by rw [β2len], fun p bi ob a b => ?_, fun p q bi bj oi oj b a1 a2 b1 b2 c1 c2 => ?_⟩, hs.size, fun k hk hn => hs.keep k hk (fun ho => hn (upOwn k ho)),
      hs.os, hs.tape, hs.output, ?_⟩
    · have hpb : p < Big.length := by have := (List.getElem?_eq_some_iff.1 hx).1; omega
      by_cases hm : p ∈ pos
      · obtain ⟨k, hk, e'⟩ := List.getElem_of_mem hm
        have hkp : ρ k = p := ρlow k p (by rw [List.getElem?_eq_getElem hk, e'])
        obtain ⟨y, hy, hxy⟩ := hs.bext k x (by rw [βsAt k (by omega), hkp]; exact hx)
        exact ⟨y, by rw [← hkp]; exact look2 k y hy, hxy⟩
      · exact ⟨x, by rw [β2old p hpb hm]; exact hx, BiExt.refl x⟩
    · rcases cut p bi ob a b with ⟨p1, p2, p3, p4⟩ | ⟨k, o, e', k1, k2, rfl⟩
      · refine (hh.hold p bi ob p3 p4).mono hs.dsub (fun q x hx => ?_) (fun ad v h5 h6 h7 => ?_) (fun b' hb' => ?_)
        · have hpb : q < Big.length := by have := (List.getElem?_eq_some_iff.1 hx).1; omega
          by_cases hm : q ∈ pos
          · obtain ⟨k, hk, e'⟩ := List.getElem_of_mem hm
            have hkp : ρ k = q := ρlow k q (by rw [List.getElem?_eq_getElem hk, e'])
            obtain ⟨y, hy, hxy⟩ := hs.bext k x (by rw [βsAt k (by omega), hkp]; exact hx)
            exact ⟨y, by rw [← hkp]; exact look2 k y hy, hxy⟩
          · exact ⟨x, by rw [β2old q hpb hm]; exact hx, BiExt.refl x⟩
        · rcases hs.dnew ad v h5 h6 with h8 | h8
          · exact other p bi ob _ p1 p2 p3 p4 h7 h8
          · have := hh.own_lt ⟨p, bi, ob, p3, p4, h7⟩; omega
        · exact hs.keep b' (hh.own_lt ⟨p, bi, ob, p3, p4, hb'⟩) (other p bi ob b' p1 p2 p3 p4 hb')
      · exact reO_ok look2 (hs.heap.hold k bi o k1 k2)
    · rcases cut p bi oi a1 b1 with ⟨p1, p2, p3, p4⟩ | ⟨k, o, e', k1, k2, rfl⟩ <;> rcases cut q bj oj a2 b2 with ⟨q1, q2, q3, q4⟩ | ⟨k', o', e'', k1', k2', rfl⟩
      · exact hh.disj p q bi bj oi oj b p3 q3 p4 q4 c1 c2
      · exfalso
        rcases few2 k' bj o' b k1' k2' (reO_own c2) with h8 | h8
        · exact other p bi oi b p1 p2 p3 p4 c1 h8
        · have := hh.own_lt ⟨p, bi, oi, p3, p4, c1⟩; omega
      · exfalso
        rcases few2 k bi o b k1 k2 (reO_own c1) with h8 | h8
        · exact other q bj oj b q1 q2 q3 q4 c2 h8
        · have := hh.own_lt ⟨q, bj, oj, q3, q4, c2⟩; omega
      · have := hs.heap.disj k k' bi bj o o' b k1 k1' k2 k2' (reO_own c1) (reO_own c2)
        rw [← e', ← e'', this]
    · rintro b ⟨p, bi, ob, a1, a2, a3⟩
      rcases cut p bi ob a1 a2 with ⟨p1, p2, p3, p4⟩ | ⟨k, o, e', k1, k2, rfl⟩
      · exact .inl ⟨p, bi, ob, p3, p4, a3⟩
      · exact (few2 k bi o b k1 k2 (reO_own a3)).imp (upOwn b) id
  exact fin β2 look2 st
section
variable {P : Program} {frz : List Nat} {nt m : Nat} {ro' : Option Nat} {K : Ex → S → Prop} {s : S} {ops : Array Oper} {l : List Oper}
end
inductive DvN : DV → DV → Prop
  | refl {x : DV} : DvN x x
  | nil {sz : Nat} : DvN .nilsl (.sl sz [])
  | agg {xs ys : List DV} (hl : xs.length = ys.length) (h : ∀ (j : Nat) x y, xs[j]? = some x → ys[j]? = some y → DvN x y) : DvN (.agg xs) (.agg ys)
  | sl {sz : Nat} {xs ys : List DV} (hn : xs.length = ys.length) (hl : (flatD xs).length = (flatD ys).length) (hs : ∀ e ∈ ys, (cellsD e).length = sz)
      (h : ∀ (j : Nat) x y, (flatD xs)[j]? = some x → (flatD ys)[j]? = some y → DvN x y) : DvN (.sl sz xs) (.sl sz ys)
theorem DvN.rep {D : DMap} {x y : DV} (h : DvN x y) : ∀ {v : Value}, RepD D x v → RepD D y v := by
  induction h with
  | refl => exact fun h => h
  | nil => exact fun h => DvTo.nil.rep h
  | agg hl _ ih =>
    intro v h
    cases h with
    | agg h h1 hr =>
      refine .agg (by rw [h, hl]) h1 fun j c v hc hv => ?_
      have hj := (List.getElem?_eq_some_iff.1 hc).1
      rw [← hl] at hj
      exact ih j _ c (List.getElem?_eq_getElem hj) hc (hr j _ v (List.getElem?_eq_getElem hj) hv)
  | sl hn hl hs _ ih =>
    intro v h
    cases h with
    | sl vs hc hm hsz hno hv hD hr =>
      rw [hn]
      refine .sl vs (by omega) hm hs (fun e => ⟨List.length_eq_zero_iff.1 (by rw [← hn, (hno e).1]; rfl), (hno e).2⟩) (by rw [hv, hl]) hD fun j c v hc hv' => ?_
      have hj := (List.getElem?_eq_some_iff.1 hc).1
      rw [← hl] at hj
      exact ih j _ c (List.getElem?_eq_getElem hj) hc (hr j _ v (List.getElem?_eq_getElem hj) hv')
theorem DvN.map {α : Type} {f g : α → DV} {n : Nat} (hf : ∀ a, (cellsD (f a)).length = n) (hg : ∀ a, (cellsD (g a)).length = n) (l : List α) (h : ∀ a ∈ l, ∀ (i : Nat) x y, (cellsD (f a))[i]? = some x → (cellsD (g a))[i]? = some y → DvN x y) : DvN (.sl n (l.map f)) (.sl n (l.map g)) := by
  have hlen : ∀ (k : α → DV), (∀ a, (cellsD (k a)).length = n) → ∀ l : List α, (flatD (l.map k)).length = l.length * n := fun k hk l => by
    induction l with
    | nil => simp [flatD]
    | cons a l ih =>
      simp only [List.map_cons, flatD, List.flatMap_cons, List.length_append, List.length_cons] at ih ⊢
      rw [hk, ih, Nat.succ_mul]; omega
  have hget : ∀ (l : List α) (j : Nat) x y, (∀ a ∈ l, ∀ (i : Nat) x y, (cellsD (f a))[i]? = some x → (cellsD (g a))[i]? = some y → DvN x y) → (flatD (l.map f))[j]? = some x → (flatD (l.map g))[j]? = some y → DvN x y := by
    intro l
    induction l with
    | nil => intro j x y _ hx; simp [flatD] at hx
    | cons a l ih =>
      intro j x y h hx hy
      simp only [List.map_cons, flatD, List.flatMap_cons] at hx hy ih
      rcases Nat.lt_or_ge j n with hj | hj
      · rw [List.getElem?_append_left (by rw [hf]; exact hj)] at hx
        rw [List.getElem?_append_left (by rw [hg]; exact hj)] at hy
        exact h a (List.mem_cons_self ..) j x y hx hy
      · rw [List.getElem?_append_right (by rw [hf]; exact hj), hf] at hx
        rw [List.getElem?_append_right (by rw [hg]; exact hj), hg] at hy
        exact ih _ x y (fun b hb => h b (List.mem_cons_of_mem _ hb)) hx hy
  exact .sl (by simp) (by rw [hlen f hf, hlen g hg]) (fun e he => by obtain ⟨a, _, rfl⟩ := List.mem_map.1 he; exact hg a) fun j x y hx hy => hget l j x y h hx hy
inductive AvD : AV → DV → Prop
  | any {x : AV} : AvD x .any
  | d {x y : DV} (h : DvN x y) : AvD (.d x) y
  | sr {i sz : Nat} {es : List DV} {y : DV} (h : DvN (.sl sz es) y) : AvD (.sr i sz es) y
  | agg {xs : List AV} {ys : List DV} (hl : xs.length = ys.length) (h : ∀ (j : Nat) x y, xs[j]? = some x → ys[j]? = some y → AvD x y) : AvD (.agg xs) (.agg ys)
  | dagg {xs ys : List DV} (hl : xs.length = ys.length) (h : ∀ (j : Nat) x y, xs[j]? = some x → ys[j]? = some y → AvD (.d x) y) : AvD (.d (.agg xs)) (.agg ys)
theorem AvD.rep {D : DMap} {β : List Bi} {x : AV} {y : DV} (h : AvD x y) : ∀ {v : Value}, RepA D β x v → RepD D y v := by
  induction h with
  | any => exact fun _ => .any
  | d h =>
    intro v hr
    cases hr with
    | d hr => exact h.rep hr
  | sr h =>
    intro v hr
    have hr := sr_data hr
    cases hr with
    | d hr => exact h.rep hr
  | agg hl _ ih =>
    intro v hr
    cases hr with
    | agg g1 g2 g3 =>
      refine .agg (by rw [g1, hl]) g2 fun j c v hc hv => ?_
      have hj := (List.getElem?_eq_some_iff.1 hc).1
      rw [← hl] at hj
      exact ih j _ c (List.getElem?_eq_getElem hj) hc (g3 j _ v (List.getElem?_eq_getElem hj) hv)
  | dagg hl _ ih =>
    intro v hr
    cases hr with
    | d hr =>
      cases hr with
      | agg g1 g2 g3 =>
        refine .agg (by rw [g1, hl]) g2 fun j c v hc hv => ?_
        have hj := (List.getElem?_eq_some_iff.1 hc).1
        rw [← hl] at hj
        exact ih j _ c (List.getElem?_eq_getElem hj) hc (.d (g3 j _ v (List.getElem?_eq_getElem hj) hv))
def AvDs : List AV → List DV → Prop
  | [], [] => True
  | x :: xs, y :: ys => AvD x y ∧ AvDs xs ys
  | _, _ => False
theorem AvDs.len : ∀ {xs : List AV} {ys : List DV}, AvDs xs ys → xs.length = ys.length
  | [], [], _ => rfl
  | _ :: _, _ :: _, h => by simp [AvDs.len h.2]
theorem AvDs.get : ∀ {xs : List AV} {ys : List DV}, AvDs xs ys → ∀ (j : Nat) x y, xs[j]? = some x → ys[j]? = some y → AvD x y
  | [], [], _, j, x, y, hx, _ => by simp at hx
  | _ :: _, _ :: _, h, 0, x, y, hx, hy => by simp at hx hy; subst hx hy; exact h.1
  | _ :: _, _ :: _, h, j + 1, x, y, hx, hy => AvDs.get h.2 j x y (by simpa using hx) (by simpa using hy)
section
variable {P : Program} {E : PT Ty} {frz : List Nat} {nt m : Nat} {ro' : Option Nat} {K : Ex → S → Prop} {ops : Array Oper} {l : List Oper} {o : Oper} {tm tm' : PT AV} {objs : List Ob} {dl : List Dl} {s0 : S} {i : Nat} {acc : List Eff} {G : S → Prop} {g : FuncId} {ds : List DV} {args : List AV} {r : AV}
end
theorem Step.retell {D : DMap} {β : List Bi} {objs : List Ob} {w : World} (h : Heap D β objs w) {i : Nat} {bi : Bi} {ob ob' : Ob} (hb : β[i]? = some bi) (ho : objs[i]? = some ob)
    (hown : ∀ b, ownOf bi ob' = some b → ownOf bi ob = some b) (hnew : HoldsOb D β w bi ob') : Step D β objs w D β (objs.set i ob') w := by
  have key : ∀ (j : Nat) bj oj b, β[j]? = some bj → (objs.set i ob')[j]? = some oj → ownOf bj oj = some b → ∃ oj', objs[j]? = some oj' ∧ ownOf bj oj' = some b := by
    intro j bj oj b hj h2 h3
    by_cases hij : i = j
    · subst hij
      rw [hb] at hj; cases hj
      rw [List.getElem?_set_self (List.getElem?_eq_some_iff.1 ho).1] at h2
      cases h2
      exact ⟨ob, ho, hown b h3⟩
    · rw [List.getElem?_set_ne hij] at h2
      exact ⟨oj, h2, h3⟩
  refine ⟨fun _ _ h => h, fun _ _ h1 h2 => (by rw [h2] at h1; cases h1), fun i x hx => ⟨x, hx, BiExt.refl x⟩, ⟨h.dh, by simp [h.len], fun j bj oj h1 h2 => ?_, fun j k bj bk oj ok b h1 h2 h3 h4 h5 h6 => ?_⟩, Nat.le_refl _, fun _ _ _ => rfl, rfl, rfl, ⟨rfl, Nat.le_refl _⟩, ?_⟩
  · by_cases hij : i = j
    · subst hij
      rw [hb] at h1; cases h1
      rw [List.getElem?_set_self (List.getElem?_eq_some_iff.1 ho).1] at h2
      cases h2
      exact hnew
    · rw [List.getElem?_set_ne hij] at h2; exact h.hold j bj oj h1 h2
  · obtain ⟨oj', a1, a2⟩ := key j bj oj b h1 h3 h5
    obtain ⟨ok', b1, b2⟩ := key k bk ok b h2 h4 h6
    exact h.disj j k bj bk oj' ok' b h1 h2 a1 b1 a2 b2
  · rintro b ⟨j, bj, oj, h1, h2, h3⟩
    obtain ⟨oj', a1, a2⟩ := key j bj oj b h1 h2 h3
    exact .inl ⟨j, bj, oj', h1, a1, a2⟩
theorem cell_room {D : DMap} {β : List Bi} {objs : List Ob} {w : World} (h : Heap D β objs w) {i j : Nat} {cs : List AV} (sz : Nat) (hi : objs[i]? = some (.box cs)) (hj : cs[j]? = some (.d .nilsl)) :
    ∃ β', Step D β objs w D β' (objs.set i (.box (cs.set j (.sr objs.length sz []))) ++ [.room 0 sz]) w := by
  obtain ⟨β2, st, hr2⟩ := room_full h (sz := sz) (es := []) (A := none) (.sl (es := []) [] (Nat.le_refl _) (Nat.zero_le _) (by simp) (fun _ => ⟨rfl, rfl⟩) rfl (fun ad e => by cases e) (by simp))
  simp only [List.length_nil] at st hr2
  have hil := (List.getElem?_eq_some_iff.1 hi).1
  have hi2 : (objs ++ [Ob.room 0 sz])[i]? = some (.box cs) := by rw [List.getElem?_append_left hil]; exact hi
  have hbl : i < β2.length := by rw [st.heap.len]; simp; omega
  have hb2 : β2[i]? = some β2[i] := List.getElem?_eq_getElem hbl
  obtain ⟨vs, T, g1, g2, g3, g4, g5⟩ := st.heap.hold i _ _ hb2 hi2
  have st2 := Step.retell st.heap (ob' := .box (cs.set j (.sr objs.length sz []))) hb2 hi2 (fun b hb => hb) ⟨vs, T, g1, by simp [g2], fun k c v hc hv => by
    by_cases hk : j = k
    · subst hk
      rw [List.getElem?_set_self (List.getElem?_eq_some_iff.1 hj).1] at hc
      cases hc
      have := g3 j _ v hj hv
      cases this with
      | d this => cases this; exact hr2
    · rw [List.getElem?_set_ne hk] at hc
      exact g3 k c v hc hv, g4, g5⟩
  have e : (objs ++ [Ob.room 0 sz]).set i (.box (cs.set j (.sr objs.length sz []))) = objs.set i (.box (cs.set j (.sr objs.length sz []))) ++ [.room 0 sz] := List.set_append_left _ _ hil
  rw [e] at st2
  exact ⟨β2, st.trans st2⟩
theorem Run.cellRoom {P : Program} {nt m : Nat} {ro' : Option Nat} {K : Ex → S → Prop} {c : Code} {tm : PT AV} {objs objs' : List Ob} {dl : List Dl} (i j sz : Nat) {cs : List AV}
    (h : Run P nt m ro' c ⟨tm, objs', dl⟩ K) (hi : objs[i]? = some (.box cs) := by rfl) (hj : cs[j]? = some (.d .nilsl) := by rfl) (he : objs.set i (.box (cs.set j (.sr objs.length sz []))) ++ [.room 0 sz] = objs' := by rfl) :
    Run P nt m ro' c ⟨tm, objs, dl⟩ K := by
  subst he
  intro D0 β0 o0 w0 hb0 ro Q a w hro hK hs
  obtain ⟨D, β, h1, h2, h3⟩ := hs
  obtain ⟨β2, st⟩ := cell_room h1.heap sz hi hj
  exact h D0 β0 o0 w0 hb0 ro Q a w hro hK ⟨D, β2, h1.trans st, h2.mono st.dsub st.bext, h3.mono st.dsub st.bext⟩
theorem RunOps.cellRoom {P : Program} {nt m : Nat} {ro' : Option Nat} {K : Ex → S → Prop} {ops : Array Oper} {lo : List Oper} {tm : PT AV} {objs objs' : List Ob} {dl : List Dl} (i j sz : Nat) {cs : List AV}
    (h : RunOps P nt m ro' ops lo ⟨tm, objs', dl⟩ K) (hi : objs[i]? = some (.box cs) := by rfl) (hj : cs[j]? = some (.d .nilsl) := by rfl) (he : objs.set i (.box (cs.set j (.sr objs.length sz []))) ++ [.room 0 sz] = objs' := by rfl) :
    RunOps P nt m ro' ops lo ⟨tm, objs, dl⟩ K := by
  subst he
  intro D0 β0 o0 w0 hb0 ro Q a w n hro hlo hK hs
  obtain ⟨D, β, h1, h2, h3⟩ := hs
  obtain ⟨β2, st⟩ := cell_room h1.heap sz hi hj
  exact h D0 β0 o0 w0 hb0 ro Q a w n hro hlo hK ⟨D, β2, h1.trans st, h2.mono st.dsub st.bext, h3.mono st.dsub st.bext⟩
def shA (n : Nat) : Nat → AV → AV
  | 0, _ => .d .any
  | _ + 1, .d x => .d x
  | _ + 1, .bp i off => .bp (n + i) off
  | _ + 1, .sr i sz es => .sr (n + i) sz es
  | _ + 1, .bs i off len cap => .bs (n + i) off len cap
  | _ + 1, .mp i => .mp (n + i)
  | k + 1, .agg cs => .agg (cs.map (shA n k))
  | k + 1, .tup cs => .tup (cs.map (shA n k))
  | _ + 1, .vs i sz lo len => .vs (n + i) sz lo len
  | _ + 1, _ => .d .any
def shO (n : Nat) : Ob → Ob
  | .box cs => .box (cs.map (shA n 8))
  | .room m sz => .room m sz
  | .map kvs => .map kvs
  | .raw o => .raw o
  | .sit s p => .sit s p
  | .vec t ag sz m cs => .vec t ag sz m (cs.map (shA n 8))
  | .tb t cs => .tb t (cs.map (shA n 8))
  | _ => .gone
theorem shA_ok {D : DMap} {β0 β : List Bi} : ∀ (k : Nat) {x : AV} {v : Value}, RepA D β x v → RepA D (β0 ++ β) (shA β0.length k x) v := by
  have look : ∀ {i : Nat} {bi : Bi}, β[i]? = some bi → (β0 ++ β)[β0.length + i]? = some bi := fun h => by
    rw [List.getElem?_append_right (by omega), Nat.add_sub_cancel_left]; exact h
  intro k
  induction k with
  | zero => exact fun _ => .d .any
  | succ k ih =>
    intro x v h
    cases h with
    | d h => exact .d h
    | bp h => exact .bp (look h)
    | sr h hh hd => exact .sr (look h) hh hd
    | bs h => exact .bs (look h)
    | mp h => exact .mp (look h)
    | fn => exact .d .any
    | agg h h1 hr =>
      refine .agg (by simp [h]) h1 fun j c v hc hv => ?_
      simp only [List.getElem?_map, Option.map_eq_some_iff] at hc
      obtain ⟨y, hy, rfl⟩ := hc
      exact ih (hr j y v hy hv)
    | tup h hr =>
      refine .tup (by simp [h]) fun j c v hc hv => ?_
      simp only [List.getElem?_map, Option.map_eq_some_iff] at hc
      obtain ⟨y, hy, rfl⟩ := hc
      exact ih (hr j y v hy hv)
    | yl h => exact .d .any
    | vs h hh hc hm hn hx => exact .vs (look h) hh hc hm hn hx
theorem shO_own {n : Nat} {bi : Bi} {ob : Ob} {b : Nat} (h : ownOf bi (shO n ob) = some b) : ownOf bi ob = some b := by
  cases ob <;> first | exact h | (simp only [shO, ownOf] at h ⊢; exact h) | (simp only [shO, ownOf] at h; cases h)
theorem shO_ok {D : DMap} {β0 β : List Bi} {w : World} {bi : Bi} {ob : Ob} (h : HoldsOb D β w bi ob) : HoldsOb D (β0 ++ β) w bi (shO β0.length ob) := by
  cases ob with
  | box cs =>
    obtain ⟨vs, T, g1, g2, g3, g4, g5⟩ := h
    refine ⟨vs, T, g1, by simp [g2], fun j c v hc hv => ?_, g4, g5⟩
    simp only [List.getElem?_map, Option.map_eq_some_iff] at hc
    obtain ⟨y, hy, rfl⟩ := hc
    exact shA_ok 8 (g3 j y v hy hv)
  | tb ty cs =>
    obtain ⟨vs, T, g1, g2, g3, g4, g5⟩ := h
    refine ⟨vs, T, g1, by simp [g2], fun j c v hc hv => ?_, g4, g5⟩
    simp only [List.getElem?_map, Option.map_eq_some_iff] at hc
    obtain ⟨y, hy, rfl⟩ := hc
    exact shA_ok 8 (g3 j y v hy hv)
  | vec ty ag sz m cs =>
    obtain ⟨a, cap, g1, g2, g3, g4, g5, g6⟩ := h
    refine ⟨a, cap, g1, g2, g3, by simp [g4], g5, fun ad e => ?_⟩
    obtain ⟨k1, vs, T, k2, k3, k4, k5, k6⟩ := g6 ad e
    refine ⟨k1, vs, T, k2, k3, fun j c v hc hv => ?_, k5, k6⟩
    simp only [List.getElem?_map, Option.map_eq_some_iff] at hc
    obtain ⟨y, hy, rfl⟩ := hc
    exact shA_ok 8 (k4 j y v hy hv)
  | loop => trivial
  | gone => trivial
  | _ => exact h
theorem Step.lift {D D' : DMap} {β β' : List Bi} {objs objs' : List Ob} {w w' : World} (hp : Heap D β objs w) (h : Step D [] [] w D' β' objs' w') : Step D β objs w D' (β ++ β') (objs ++ objs'.map (shO objs.length)) w' := by
  have hb := h.bare hp
  have hl := hp.len
  have hl' := h.heap.len
  have cut : ∀ (i : Nat) bi ob, (β ++ β')[i]? = some bi → (objs ++ objs'.map (shO objs.length))[i]? = some ob → (β[i]? = some bi ∧ objs[i]? = some ob) ∨ (objs.length ≤ i ∧ β'[i - objs.length]? = some bi ∧ ∃ ob', objs'[i - objs.length]? = some ob' ∧ ob = shO objs.length ob') := by
    intro i bi ob h1 h2
    rcases Nat.lt_or_ge i objs.length with hi | hi
    · rw [List.getElem?_append_left (by omega)] at h1
      rw [List.getElem?_append_left hi] at h2
      exact .inl ⟨h1, h2⟩
    · rw [List.getElem?_append_right (by omega), hl] at h1
      rw [List.getElem?_append_right hi, List.getElem?_map, Option.map_eq_some_iff] at h2
      obtain ⟨o, h2, e⟩ := h2
      exact .inr ⟨hi, h1, o, h2, e.symm⟩
  have new : ∀ (i : Nat) bi ob b, β'[i]? = some bi → objs'[i]? = some ob → ownOf bi ob = some b → w.heap.size ≤ b := fun i bi ob b h1 h2 h3 => (h.ownn b ⟨i, bi, ob, h1, h2, h3⟩).elim (fun h => absurd h not_own_nil) id
  refine ⟨h.dsub, hb.dnew, fun i x hx => ⟨x, ?_, BiExt.refl x⟩, ⟨h.heap.dh, by simp [hl, hl'], fun i bi ob h1 h2 => ?_, fun i j bi bj oi oj b h1 h2 h3 h4 h5 h6 => ?_⟩, h.size, hb.keep, h.os, h.tape, h.output, ?_⟩
  · rw [List.getElem?_append_left (List.getElem?_eq_some_iff.1 hx).1]; exact hx
  · rcases cut i bi ob h1 h2 with ⟨a, b⟩ | ⟨a, b, o, c, rfl⟩
    · refine (hb.heap.hold i bi ob a b).mono (fun _ _ h => h) (fun k x hx => ⟨x, ?_, BiExt.refl x⟩) (fun ad v h3 h4 => by rw [h3] at h4; cases h4) (fun _ _ => rfl)
      rw [List.getElem?_append_left (List.getElem?_eq_some_iff.1 hx).1]; exact hx
    · have := shO_ok (β0 := β) (h.heap.hold _ bi o b c)
      rwa [hl] at this
  · rcases cut i bi oi h1 h3 with ⟨a1, b1⟩ | ⟨a1, b1, o1, c1, rfl⟩ <;> rcases cut j bj oj h2 h4 with ⟨a2, b2⟩ | ⟨a2, b2, o2, c2, rfl⟩
    · exact hp.disj i j bi bj oi oj b a1 a2 b1 b2 h5 h6
    · have := hp.own_lt ⟨i, bi, oi, a1, b1, h5⟩
      have := new _ _ _ _ b2 c2 (shO_own h6)
      omega
    · have := hp.own_lt ⟨j, bj, oj, a2, b2, h6⟩
      have := new _ _ _ _ b1 c1 (shO_own h5)
      omega
    · have := h.heap.disj _ _ bi bj o1 o2 b b1 b2 c1 c2 (shO_own h5) (shO_own h6)
      omega
  · rintro b ⟨i, bi, ob, h1, h2, h3⟩
    rcases cut i bi ob h1 h2 with ⟨a1, b1⟩ | ⟨a1, b1, o1, c1, rfl⟩
    · exact .inl ⟨i, bi, ob, a1, b1, h3⟩
    · exact .inr (new _ _ _ _ b1 c1 (shO_own h3))
theorem ACall.lift {P : Program} {f : FuncId} {ds : List DV} {r : AV} {objs' : List Ob} (h : ACall P f (ds.map .d) [] r objs') (hp : isPan r = false) (objs : List Ob) : ACall P f (ds.map .d) objs (shA objs.length 8 r) (objs ++ objs'.map (shO objs.length)) := by
  refine ⟨h.1, fun D β w vs hh hv => (h.2 D [] w vs hh.bare ⟨hv.1, fun j c v hc hw => ?_⟩).mono fun e w' he => ?_⟩
  · have := hv.2 j c v hc hw
    simp only [List.getElem?_map, Option.map_eq_some_iff] at hc
    obtain ⟨d, _, rfl⟩ := hc
    cases this with
    | d this => exact .d this
  · rcases he with ⟨v, D', β', rfl, hs, hv⟩ | ⟨x, v, D', β', hx, _⟩
    · have := shA_ok (β0 := β) 8 hv
      rw [hh.len] at this
      exact .inl ⟨v, D', β ++ β', rfl, hs.lift hh, this⟩
    · rw [hx] at hp; cases hp
open Classical in
noncomputable def boxD (D : DMap) (b n : Nat) (w : World) : DMap := fun ad => if ad.block = b ∧ ad.spot = none ∧ ad.off < n then w.cell? ad else D ad
theorem box_freeze {D : DMap} {β : List Bi} {objs : List Ob} {w : World} (h : Heap D β objs w) {i : Nat} {bi : Bi} {ds : List DV} (hb : β[i]? = some bi) (ho : objs[i]? = some (.box (ds.map .d))) :
    Step D β objs w (boxD D bi.blk ds.length w) β (objs.set i .gone) w ∧ ∀ off, off ≤ ds.length → RepD (boxD D bi.blk ds.length w) (.ep (ds.drop off)) (.pointer (some ⟨bi.blk, off, none⟩)) := by
  obtain ⟨vs, T, g1, g2, g3, g4, g5⟩ := h.hold i bi _ hb ho
  rw [List.length_map] at g2
  have cell : ∀ ad : Addr, ad.block = bi.blk → ad.spot = none → ad.off < ds.length → ∃ v, w.cell? ad = some v ∧ vs[ad.off]? = some v ∧ v.oneCell' = true := by
    rintro ⟨b, o, sp⟩ h1 h2 h3
    simp only at h1 h2 h3
    subst h1 h2
    have hlt : o < vs.size := by omega
    refine ⟨vs[o], ?_, by simp [hlt], g4 o _ (by simp [hlt])⟩
    rw [cell_of_blk g1]; simp [hlt]
  have sub : ∀ ad v, D ad = some v → boxD D bi.blk ds.length w ad = some v := fun ad v hd => by
    unfold boxD
    rw [if_neg (fun hv => by rw [g5 ad hv.1] at hd; cases hd)]; exact hd
  have new : ∀ ad v, boxD D bi.blk ds.length w ad = some v → D ad = none → (ad.block = bi.blk ∧ ad.spot = none ∧ ad.off < ds.length) ∧ w.cell? ad = some v := fun ad v h1 h2 => by
    unfold boxD at h1
    split at h1
    · rename_i hv; exact ⟨hv, h1⟩
    · rw [h2] at h1; cases h1
  have get : ∀ (j : Nat) o, (objs.set i .gone)[j]? = some o → (j = i ∧ o = .gone) ∨ (j ≠ i ∧ objs[j]? = some o) := fun j o hj => by
    by_cases hij : i = j
    · subst hij
      rw [List.getElem?_set_self (List.getElem?_eq_some_iff.1 ho).1] at hj
      cases hj; exact .inl ⟨rfl, rfl⟩
    · rw [List.getElem?_set_ne hij] at hj; exact .inr ⟨fun e => hij e.symm, hj⟩
  refine ⟨⟨sub, fun ad v h1 h2 => .inl ⟨i, bi, _, hb, ho, by rw [(new ad v h1 h2).1.1]; rfl⟩, fun i x hx => ⟨x, hx, BiExt.refl x⟩, ⟨fun ad v hv => ?_, by simp [h.len], fun j bj o h1 h2 => ?_, fun j k bj bk oj ok b h1 h2 h3 h4 h5 h6 => ?_⟩,
    Nat.le_refl _, fun _ _ _ => rfl, rfl, rfl, ⟨rfl, Nat.le_refl _⟩, ?_⟩, fun off hoff => ?_⟩
  · cases h0 : D ad with
    | some u =>
      have := sub ad u h0
      rw [this] at hv; cases hv
      exact h.dh ad _ h0
    | none =>
      obtain ⟨⟨e1, e2, e3⟩, hv2⟩ := new ad v hv h0
      obtain ⟨u, k1, _, k3⟩ := cell ad e1 e2 e3
      rw [k1] at hv2; cases hv2
      exact ⟨e2, k3, k1⟩
  · rcases get j o h2 with ⟨rfl, rfl⟩ | ⟨hne, h2⟩
    · trivial
    · refine (h.hold j bj o h1 h2).mono sub (fun i x hx => ⟨x, hx, BiExt.refl x⟩) (fun ad v h3 h4 h5 => ?_) (fun b _ => rfl)
      exact hne (h.disj j i bj bi o _ ad.block h1 hb h2 ho h5 (by rw [(new ad v h3 h4).1.1]; rfl))
  · rcases get j oj h3 with ⟨rfl, rfl⟩ | ⟨_, h3⟩
    · cases h5
    · rcases get k ok h4 with ⟨rfl, rfl⟩ | ⟨_, h4⟩
      · cases h6
      · exact h.disj j k bj bk oj ok b h1 h2 h3 h4 h5 h6
  · rintro b ⟨j, bj, oj, h1, h2, h3⟩
    rcases get j oj h2 with ⟨rfl, rfl⟩ | ⟨_, h2⟩
    · cases h3
    · exact .inl ⟨j, bj, oj, h1, h2, h3⟩
  · refine .ep (vs.toList.drop off) rfl (by simp; omega) (fun j v hj => ?_) (fun j c v hc hv => ?_)
    · rw [List.getElem?_drop] at hj
      have hj : vs[off + j]? = some v := by simpa using hj
      have hlt : off + j < ds.length := by have := (Array.getElem?_eq_some_iff.1 hj).1; omega
      obtain ⟨u, k1, k2, _⟩ := cell ⟨bi.blk, off + j, none⟩ rfl rfl hlt
      simp only at k2
      rw [hj] at k2; cases k2
      unfold boxD
      rw [if_pos ⟨rfl, rfl, hlt⟩]; exact k1
    · rw [List.getElem?_drop] at hc hv
      have := g3 (off + j) (.d c) v (by simp [hc]) (by simpa using hv)
      cases this with
      | d this => exact this.mono sub
section
variable {P : Program} {nt m : Nat} {ro' : Option Nat} {K : Ex → S → Prop} {c : Code} {tm tm' : PT AV} {objs objs' : List Ob} {dl : List Dl}
theorem Run.freeze (i : Nat) {ds : List DV} (h : Run P nt m ro' c ⟨tm', objs', []⟩ K) (hi : objs[i]? = some (.box (ds.map .d))) (he : objs.set i .gone = objs')
    (ht : ∀ t v, tm'.get? t = some v → tm.get? t = some v ∨ ∃ off, off ≤ ds.length ∧ tm.get? t = some (.bp i off) ∧ v = .d (.ep (ds.drop off))) : Run P nt m ro' c ⟨tm, objs, []⟩ K := by
  subst he
  intro D0 β0 o0 w0 hb0 ro Q a w hro hK hs
  obtain ⟨D, β, h1, h2, h3⟩ := hs
  have hil := (List.getElem?_eq_some_iff.1 hi).1
  obtain ⟨bi, hb⟩ : ∃ bi, β[i]? = some bi := ⟨β[i]'(by rw [h1.heap.len]; exact hil), by simp [h1.heap.len, hil]⟩
  obtain ⟨st, hr⟩ := box_freeze h1.heap hb hi
  refine h D0 β0 o0 w0 hb0 ro Q a w hro hK ⟨_, β, h1.trans st, ⟨h2.1, fun t => ?_⟩, h3.mono st.dsub st.bext⟩
  cases hv : tm'.get? t with
  | none => exact .d .any
  | some v =>
    rcases ht t v hv with e | ⟨off, h4, h5, rfl⟩
    · have := h2.2 t
      rw [e] at this
      exact st.repA this
    · have := h2.2 t
      rw [h5] at this
      simp only [Option.getD_some] at this ⊢
      generalize a.tmps.getD t undef = u at this ⊢
      cases this with
      | bp hb' => rw [hb] at hb'; cases hb'; exact .d (hr off h4)
end
theorem reA_id {ρ : Nat → Nat} {n : Nat} (h : ∀ i, i < n → ρ i = i) : ∀ (k : Nat) {x : AV}, okA n k x = true → reA ρ k x = x := by
  intro k
  induction k with
  | zero => intro x h; cases h
  | succ k ih =>
    intro x hx
    cases x <;> simp only [okA, Nat.blt_eq, List.all_eq_true, Bool.false_eq_true] at hx <;> simp only [reA]
    · rw [h _ hx]
    · rw [h _ hx]
    · rw [h _ hx]
    · rw [h _ hx]
    · congr 1
      rename_i cs
      conv => rhs; rw [← List.map_id cs]
      exact List.map_congr_left fun y hy => ih (hx y hy)
    · rw [h _ hx]
theorem reO_id {ρ : Nat → Nat} {n : Nat} (h : ∀ i, i < n → ρ i = i) {ob : Ob} (ho : okO n ob = true) : reO ρ ob = ob := by
  have cells : ∀ cs : List AV, cs.all (okA n 8) = true → cs.map (reA ρ 8) = cs := fun cs hc => by
    simp only [List.all_eq_true] at hc
    conv => rhs; rw [← List.map_id cs]
    exact List.map_congr_left fun y hy => reA_id h 8 (hc y hy)
  cases ob <;> simp only [okO, Bool.false_eq_true] at ho <;> simp only [reO]
  · rw [cells _ ho]
  · rw [cells _ ho]
  · rw [cells _ ho]
def okR (n : Nat) : AV → Bool
  | .pan _ => true
  | .tup cs => cs.all (okA n 7)
  | r => okA n 8 r
theorem reR_id {ρ : Nat → Nat} {n : Nat} (h : ∀ i, i < n → ρ i = i) {r : AV} (hr : okR n r = true) : reR ρ r = r := by
  cases r with
  | pan => rfl
  | tup cs =>
    simp only [okR, List.all_eq_true] at hr
    simp only [reR, reA]
    congr 1
    conv => rhs; rw [← List.map_id cs]
    exact List.map_congr_left fun y hy => reA_id h 7 (hr y hy)
  | _ => exact reA_id h 8 hr
theorem ACall.frame {P : Program} {f : FuncId} {args : List AV} {A A' : List Ob} {r : AV} (h : ACall P f args A r A') (X : List Ob) (hl : A'.length = A.length) (hok : A.all (okO A.length) = true) (hok' : A'.all (okO A.length) = true)
    (hargs : args.all (okA A.length 8) = true) (hr : okR A.length r = true) : ACall P f args (A ++ X) r (A' ++ X) := by
  have hlow : ∀ k, k < A.length → atOf (List.range A.length) (A ++ X).length k = k := fun k hk => by simp [atOf, hk]
  have hob : ∀ ob, okO A.length ob = true → reO (atOf (List.range A.length) (A ++ X).length) ob = ob := fun ob ho => reO_id hlow ho
  simp only [List.all_eq_true] at hok hok' hargs
  have := h.embedR (Big := A ++ X) (Big' := A' ++ X) (pos := List.range A.length) (by simp) List.nodup_range (fun k ob hk => ?_) (by simpa using hok) (by simpa using hargs) (by simp [hl]) (fun p hp hn => ?_) (fun k ob hk => ?_)
  · rw [reR_id hlow hr] at this
    have e : args.map (reA (atOf (List.range A.length) (A ++ X).length) 8) = args := by
      conv => rhs; rw [← List.map_id args]
      exact List.map_congr_left fun y hy => reA_id hlow 8 (hargs y hy)
    rw [e] at this
    exact this
  · have hkl := (List.getElem?_eq_some_iff.1 hk).1
    refine ⟨k, by simp [hkl], ?_⟩
    rw [List.getElem?_append_left hkl, hk, hob _ (hok ob (List.mem_of_getElem? hk))]
  · have : A.length ≤ p := by simpa using hn
    rw [List.getElem?_append_right (by omega), List.getElem?_append_right this, hl]
  · have hkl := (List.getElem?_eq_some_iff.1 hk).1
    rw [hlow k (by omega), List.getElem?_append_left hkl, hk, hob _ (hok' ob (List.mem_of_getElem? hk))]
def WkCs : List AV → List AV → Prop
  | [], [] => True
  | c :: cs, d :: ds => (d = .d .any ∨ d = c) ∧ WkCs cs ds
  | _, _ => False
inductive WkOb : Ob → Ob → Prop
  | gone {a : Ob} : WkOb a .gone
  | box {cs ds : List AV} (h : WkCs cs ds) : WkOb (.box cs) (.box ds)
  | refl {a : Ob} : WkOb a a
def WkObs : List Ob → List Ob → Prop
  | _, [] => True
  | a :: l, b :: m => WkOb a b ∧ WkObs l m
  | [], _ :: _ => False
theorem WkCs.get : ∀ {cs ds : List AV}, WkCs cs ds → cs.length = ds.length ∧ ∀ (j : Nat) c d, cs[j]? = some c → ds[j]? = some d → d = .d .any ∨ d = c
  | [], [], _ => ⟨rfl, fun j c d h => by simp at h⟩
  | c :: cs, d :: ds, ⟨h1, h2⟩ => ⟨by simp [h2.get.1], fun j c' d' hc hd => match j with
    | 0 => by simp at hc hd; subst hc hd; exact h1
    | j + 1 => h2.get.2 j c' d' (by simpa using hc) (by simpa using hd)⟩
  | [], _ :: _, h => h.elim
  | _ :: _, [], h => h.elim
theorem WkObs.get : ∀ {l m : List Ob}, WkObs l m → ∀ (j : Nat) b, m[j]? = some b → ∃ a, l[j]? = some a ∧ WkOb a b
  | _, [], _, j, b, h => by simp at h
  | a :: l, b :: m, ⟨h1, h2⟩, j, b', h => match j, h with
    | 0, h => by simp at h; subst h; exact ⟨a, rfl, h1⟩
    | j + 1, h => by
      obtain ⟨a', h3, h4⟩ := h2.get j b' (by simpa using h)
      exact ⟨a', by simpa using h3, h4⟩
  | [], _ :: _, h, _, _, _ => h.elim
theorem WkOb.own {bi : Bi} {a b : Ob} (h : WkOb a b) {n : Nat} (ho : ownOf bi b = some n) : ownOf bi a = some n := by
  cases h with
  | gone => cases ho
  | box _ => exact ho
  | refl => exact ho
theorem WkOb.holds {D : DMap} {β : List Bi} {w : World} {bi : Bi} {a b : Ob} (h : WkOb a b) (hh : HoldsOb D β w bi a) : HoldsOb D β w bi b := by
  cases h with
  | gone => trivial
  | refl => exact hh
  | box hc =>
    obtain ⟨vs, T, h1, h2, h3, h4, h5⟩ := hh
    obtain ⟨g1, g2⟩ := hc.get
    refine ⟨vs, T, h1, by omega, fun j d v hd hv => ?_, h4, h5⟩
    rename_i cs ds
    have hj : j < cs.length := by have := (List.getElem?_eq_some_iff.1 hd).1; omega
    rcases g2 j cs[j] d (by simp [hj]) hd with rfl | rfl
    · exact .d .any
    · exact h3 j _ v (by simp [hj]) hv
theorem Step.weak {D0 D : DMap} {β0 β : List Bi} {o0 objs objs' : List Ob} {w0 w : World} (h : Step D0 β0 o0 w0 D β objs w) (hw : WkObs objs objs') (hn : β0.length ≤ objs'.length) (hr : objs'.all (refOb objs'.length) = true) : Step D0 β0 o0 w0 D (β.take objs'.length) objs' w := by
  have get : ∀ {α : Type} {l : List α} {i n : Nat} {x : α}, (l.take n)[i]? = some x → l[i]? = some x ∧ i < n := fun h => getElem?_take_of h
  have hle : objs'.length ≤ objs.length := by
    rcases Nat.lt_or_ge objs.length objs'.length with hlt | hge
    · obtain ⟨a, ha, _⟩ := hw.get objs.length objs'[objs.length] (by simp [hlt])
      have := (List.getElem?_eq_some_iff.1 ha).1; omega
    · exact hge
  simp only [List.all_eq_true] at hr
  refine { h with bext := fun i x hx => ?_, heap := ⟨h.heap.dh, by simp [h.heap.len, hle], fun i bi ob h1 h2 => ?_, fun i j bi bj oi oj b h1 h2 h3 h4 h5 h6 => ?_⟩, ownn := fun b hb => ?_ }
  · obtain ⟨y, hy, he⟩ := h.bext i x hx
    have := (List.getElem?_eq_some_iff.1 hx).1
    exact ⟨y, take_get hy (by rw [Nat.blt_eq]; omega), he⟩
  · obtain ⟨a, ha, hab⟩ := hw.get i ob h2
    exact holdsOb_take (hab.holds (h.heap.hold i bi a (get h1).1 ha)) (hr ob (List.mem_of_getElem? h2))
  · obtain ⟨a, ha, hab⟩ := hw.get i oi h3
    obtain ⟨c, hc, hcd⟩ := hw.get j oj h4
    exact h.heap.disj i j bi bj a c b (get h1).1 (get h2).1 ha hc (hab.own h5) (hcd.own h6)
  · obtain ⟨i, bi, ob, h1, h2, h3⟩ := hb
    obtain ⟨a, ha, hab⟩ := hw.get i ob h2
    exact h.ownn b ⟨i, bi, a, (get h1).1, ha, hab.own h3⟩
inductive AvR : AV → AV → Prop
  | refl {x : AV} : AvR x x
  | sr {i sz : Nat} {es : List DV} : AvR (.sr i sz es) (.d (.sl sz es))
  | d {x y : DV} (h : DvN x y) : AvR (.d x) (.d y)
theorem acallW_of_run {P : Program} {E : PT Ty} (hE : EnvOK P E) {f : FuncId} {i : FnI} (hF : FnAt P f i) {args : List AV} {objs objs' : List Ob} {r : AV} (hlen : args.length = i.np) (hle : Nat.ble i.np i.nt = true) (hol : objs'.length = objs.length) (hor : objs'.all (refOb objs'.length) = true) (hrr : refA 8 objs'.length r = true)
    (h : Run P i.nt objs.length none i.body ⟨initTm 0 args .nil, objs, []⟩ (fun e s => (match e with | .normal => True | .ret => True | _ => False) ∧ ∃ objs2 r0, evLeave H0 s.dl none s.objs = some (none, objs2) ∧ evResults E ⟨s.tm, objs2, []⟩ i.results = some r0 ∧ AvR r0 r ∧ WkObs objs2 objs')) :
    ACall P f args objs r objs' := by
  obtain ⟨g1, g2⟩ := calls_of_run (G := fun o x => AvR x r ∧ WkObs o objs') hE hF hlen hle (h.mono fun e s hk => by
    obtain ⟨k1, o2, r0, k2, k3, k4, k5⟩ := hk
    exact ⟨k1, o2, r0, k2, k3, k4, k5⟩)
  refine ⟨g1, fun D β w vs hp hr => (g2 D β w vs hp hr).mono fun e w' he => ?_⟩
  obtain ⟨o, x, ⟨hx, hw⟩, he⟩ := he
  have hn : β.length ≤ objs'.length := by rw [hp.len, hol]; exact Nat.le_refl _
  rcases he with ⟨v, D', β', rfl, hs, hrep⟩ | ⟨y, v, D', β', rfl, rfl, hs, hrep⟩
  · refine .inl ⟨v, D', β'.take objs'.length, rfl, hs.weak hw hn hor, ?_⟩
    cases hx with
    | refl => exact repA_take 8 hrr hrep
    | sr => exact repA_take 8 rfl (sr_data hrep)
    | @d x1 y1 hd => cases hrep with
      | d k => exact .d (hd.rep k)
  · cases hx with
    | refl => exact .inr ⟨y, v, D', β'.take objs'.length, rfl, rfl, hs.weak hw hn hor, hrep⟩
section
variable {P : Program} {E : PT Ty} {frz : List Nat} {nt m : Nat} {ro' : Option Nat} {K : Ex → S → Prop} {ops : Array Oper} {l : List Oper} {o : Oper} {tm tm' : PT AV} {objs objs' : List Ob} {dl : List Dl} {s0 : S} {i : Nat} {acc : List Eff} {G : S → Prop} {g : FuncId} {args : List AV} {r : AV} {A A' X : List Ob} {x : DV}
end
def EvC (P : Program) (E : PT Ty) (frz : List Nat) (nt : Nat) (ops : Array Oper) (dead pk : Nat → Bool) (PN : DV → List Ob → Prop) (i : Nat) (acc : List Eff) (sts : List S) (l : List Oper) (s : S) (G : List Eff → List S → S → Prop) : Prop :=
  ∃ (H : Nat → Hd) (es : List Eff) (ss : List S) (s' : S), (∀ j, HOK P (H j)) ∧ evOps E H frz nt ops dead pk i l s = some (es, s') ∧ ss.length = l.length ∧
    (∀ k, k < l.length → ∃ es' sk, ss[k]? = some sk ∧ evOps E H frz nt ops dead pk i (l.take k) s = some (es', sk)) ∧
    (∀ k o sk x ob, l[k]? = some o → ss[k]? = some sk → pk (i + k) = true → evAny E (H (i + k)) frz (rd sk.tm) sk.objs o = some (.pan x, ob, true) → PN x (ob.getD sk.objs)) ∧ G (acc ++ es) (sts ++ ss) s'
section
variable {P : Program} {E : PT Ty} {frz : List Nat} {nt : Nat} {ops : Array Oper} {dead pk : Nat → Bool} {PN : DV → List Ob → Prop} {i : Nat} {acc : List Eff} {sts : List S} {l : List Oper} {o : Oper} {s : S} {G : List Eff → List S → S → Prop}
theorem evOps_congrC {H H' : Nat → Hd} : ∀ {l : List Oper} {i : Nat} {s : S}, (∀ j, i ≤ j → H j = H' j) → evOps E H frz nt ops dead pk i l s = evOps E H' frz nt ops dead pk i l s
  | [], _, _, _ => rfl
  | o :: l, i, s, h => by
    have ih : ∀ s, evOps E H frz nt ops dead pk (i + 1) l s = evOps E H' frz nt ops dead pk (i + 1) l s := fun s => evOps_congrC fun j hj => h j (by omega)
    unfold evOps
    simp only [ih, h i (Nat.le_refl _)]
theorem EvC.nil (k : G acc sts s) : EvC P E frz nt ops dead pk PN i acc sts [] s G :=
  ⟨fun _ => H0, [], [], s, fun _ => H0_ok, rfl, rfl, fun k hk => absurd hk (Nat.not_lt_zero _), fun k o sk x ob h => by simp at h, by simpa using k⟩
theorem EvC.step {H1 : Hd} (h1 : HOK P H1) {e : Eff} {s1 : S} (hstep : ∀ H : Nat → Hd, H i = H1 → ∀ l', evOps E H frz nt ops dead pk i (o :: l') s = (evOps E H frz nt ops dead pk (i + 1) l' s1).map fun p => (e :: p.1, p.2))
    (hpn : ∀ x ob, pk i = true → evAny E H1 frz (rd s.tm) s.objs o = some (.pan x, ob, true) → PN x (ob.getD s.objs)) (k : EvC P E frz nt ops dead pk PN (i + 1) (acc ++ [e]) (sts ++ [s]) l s1 G) : EvC P E frz nt ops dead pk PN i acc sts (o :: l) s G := by
  obtain ⟨H, es, ss, s', k1, k2, k3, k4, k5, k6⟩ := k
  obtain ⟨H', hH'⟩ : ∃ H' : Nat → Hd, H' = fun j => if j = i then H1 else H j := ⟨_, rfl⟩
  have hi : H' i = H1 := by rw [hH']; simp
  have hj : ∀ j, j ≠ i → H' j = H j := fun j hj => by rw [hH']; simp [hj]
  have hc : ∀ l s, evOps E H' frz nt ops dead pk (i + 1) l s = evOps E H frz nt ops dead pk (i + 1) l s := fun l s => evOps_congrC fun j h => hj j (by omega)
  refine ⟨H', e :: es, s :: ss, s', fun j => ?_, ?_, by simp [k3], fun k hk => ?_, fun k o' sk x ob ho hs hp hv => ?_, ?_⟩
  · by_cases h : j = i
    · subst h; rw [hi]; exact h1
    · rw [hj j h]; exact k1 j
  · rw [hstep H' hi, hc, k2]; rfl
  · cases k with
    | zero => exact ⟨[], s, rfl, rfl⟩
    | succ k =>
      obtain ⟨es', sk, g1, g2⟩ := k4 k (by simpa using hk)
      exact ⟨e :: es', sk, by simpa using g1, by rw [List.take_succ_cons, hstep H' hi, hc, g2]; rfl⟩
  · cases k with
    | zero =>
      simp at ho hs
      subst ho hs
      rw [Nat.add_zero, hi] at hv
      exact hpn x ob (by simpa using hp) hv
    | succ k =>
      rw [show i + (k + 1) = i + 1 + k by omega] at hp hv
      rw [hj _ (by omega)] at hv
      exact k5 k o' sk x ob (by simpa using ho) (by simpa using hs) hp hv
  · simpa [List.append_assoc] using k6
theorem EvC.any {H1 : Hd} (h1 : HOK P H1) {v : AV} {ob : Option (List Ob)} {tm : PT AV} (hd : dead i = false) (hpk : pk i = false) (hg : guardA ops (rd s.tm) o = some true) (hv : evAny E H1 frz (rd s.tm) s.objs o = some (v, ob, true))
    (hp : isPan v = false) (ht : setD nt s.tm o.dst v = some tm) (k : EvC P E frz nt ops dead pk PN (i + 1) (acc ++ [effOf (rd s.tm) s.objs o ob]) (sts ++ [s]) l ⟨tm, ob.getD s.objs, s.dl⟩ G) : EvC P E frz nt ops dead pk PN i acc sts (o :: l) s G := by
  refine EvC.step h1 (fun H hi l' => ?_) (fun x ob' hp' => by rw [hpk] at hp'; cases hp') k
  rw [evOps]
  simp only [hd, hpk, hg, hi, hv, hp, ht]
  cases evOps E H frz nt ops dead pk (i + 1) l' ⟨tm, ob.getD s.objs, s.dl⟩ <;> rfl
theorem EvC.pan {H1 : Hd} (h1 : HOK P H1) {x : DV} {ob : Option (List Ob)} {tm : PT AV} (hd : dead i = false) (hpk : pk i = true) (hg : guardA ops (rd s.tm) o = some true) (hv : evAny E H1 frz (rd s.tm) s.objs o = some (.pan x, ob, true)) (hpn : PN x (ob.getD s.objs))
    (ht : setD nt s.tm o.dst (.d .any) = some tm) (k : EvC P E frz nt ops dead pk PN (i + 1) (acc ++ [.b none]) (sts ++ [s]) l ⟨tm, ob.getD s.objs, s.dl⟩ G) : EvC P E frz nt ops dead pk PN i acc sts (o :: l) s G := by
  refine EvC.step h1 (fun H hi l' => ?_) (fun x' ob' _ hv' => ?_) k
  · rw [evOps]
    simp only [hd, hpk, hg, hi, hv, ht]
    cases evOps E H frz nt ops dead pk (i + 1) l' ⟨tm, ob.getD s.objs, s.dl⟩ <;> rfl
  · rw [hv] at hv'
    simp only [Option.some.injEq, Prod.mk.injEq, AV.pan.injEq] at hv'
    obtain ⟨rfl, rfl, _⟩ := hv'
    exact hpn
def AnsAt (E : PT Ty) (ops : Array Oper) (ss : List S) (p : Nat × Nat) : Prop :=
  ∃ o si sj sk v u1 u2, ops[p.1]? = some o ∧ ss[p.1]? = some si ∧ ss[p.2]? = some sj ∧ ss[p.2 + 1]? = some sk ∧ evOp E (rd si.tm) sj.objs o.op = some (v, u1, true) ∧ evOp E (rd si.tm) sk.objs o.op = some (v, u2, true)
def AnsAll (E : PT Ty) (ops : Array Oper) (ss : List S) : List (Nat × Nat) → Prop
  | [] => True
  | p :: l => AnsAt E ops ss p ∧ AnsAll E ops ss l
def excB : List (Nat × Nat) → Nat → Nat → Bool
  | [], _, _ => false
  | p :: l, i, j => (Nat.beq p.1 i && Nat.beq p.2 j) || excB l i j
theorem ansAll_get {ss : List S} : ∀ {l : List (Nat × Nat)}, AnsAll E ops ss l → ∀ {i j : Nat}, excB l i j = true → AnsAt E ops ss (i, j)
  | [], _, _, _, h => by cases h
  | p :: l, ⟨h1, h2⟩, i, j, h => by
    simp only [excB, Bool.or_eq_true, Bool.and_eq_true] at h
    rcases h with ⟨a, b⟩ | h
    · have e1 := Nat.eq_of_beq_eq_true a
      have e2 := Nat.eq_of_beq_eq_true b
      obtain ⟨p1, p2⟩ := p
      simp only at e1 e2
      subst e1 e2
      exact h1
    · exact ansAll_get h2 h
theorem draw_start {D0 : DMap} {β0 : List Bi} {o0 : List Ob} {w0 : World} {A : Nat} {es : List Eff} {s' : S} {H : Nat → Hd} {st : Nat → S} {vs : Nat → AV} (C : DrawC E H frz nt ops dead pk A s es s' st vs) {a : Act} {w : World} (hs : Sim D0 β0 o0 w0 nt s a w) :
    Inv ops s es st vs nt D0 β0 o0 w0 (Array.replicate ops.size false) a w.drew := by
  have rep0 : ∀ i, (Array.replicate ops.size false).getD i false = false := fun i => by
    simp only [Array.getD_eq_getD_getElem?, Array.getElem?_replicate]; split <;> rfl
  obtain ⟨D, β, h1, h2, h3⟩ := hs
  refine ⟨by simp, fun i o ho h => (by rw [rep0] at h; cases h), 0, Nat.zero_le _, fun i q hi => ⟨fun h => (by rw [rep0] at h; cases h), fun h => (by omega)⟩, D, β, ?_, h2.1, fun t => ?_, h3⟩
  · rw [C.tr.first]; exact h1.trans (Step.drew h1.heap)
  · rw [valAt_none fun i hi => by rw [Wrote, rep0] at hi; exact absurd hi.1 (by simp)]
    exact h2.2 t
theorem drawC_of {H : Nat → Hd} {es : List Eff} {ss : List S} {s' : S} {exc : List (Nat × Nat)} (k2 : evOps E H frz nt ops dead pk 0 ops.toList s = some (es, s')) (k3 : ss.length = ops.toList.length)
    (k4 : ∀ k, k < ops.toList.length → ∃ es' sk, ss[k]? = some sk ∧ evOps E H frz nt ops dead pk 0 (ops.toList.take k) s = some (es', sk)) (hd : drawB E ops es (excB exc) = true) (hx : AnsAll E ops ss exc) :
    ∃ A st vs, DrawC E H frz nt ops dead pk A s es s' st vs := by
  refine drawC_gen k2 hd (fun i j h st pre li lj => ?_)
  obtain ⟨o, si, sj, sk, v, u1, u2, e0, e1, e2, e3, e4, e5⟩ := ansAll_get hx h
  have at' : ∀ k x, ss[k]? = some x → st k = x := fun k x hk => by
    have hkl : k < ops.toList.length := by rw [← k3]; exact (List.getElem?_eq_some_iff.1 hk).1
    obtain ⟨es', y, g1, g2⟩ := k4 k hkl
    obtain ⟨es2, g3⟩ := pre k (by simp at hkl; omega)
    rw [g2] at g3
    simp only [Option.some.injEq, Prod.mk.injEq] at g3
    rw [hk] at g1; cases g1
    exact g3.2.symm
  simp only at e0 e1 e2 e3
  rw [at' _ _ e1, at' _ _ e2, at' _ _ e3]
  exact ⟨o, v, u1, u2, e0, e4, e5⟩
variable {m : Nat} {ro' : Option Nat} {K : Ex → S → Prop}
theorem Run.drawC (hE : EnvOK P E) (hm : P.follows .mixedOrders = true) {id : Nat} (exc : List (Nat × Nat)) (h : EvC P E frz nt ops never never (fun _ _ => True) 0 [] [] ops.toList s (fun es ss s' => drawB E ops es (excB exc) = true ∧ AnsAll E ops ss exc ∧ K .normal s')) :
    Run P nt m ro' (.region id ops true) s K := fun D0 β0 o0 w0 _ ro Q a w _ hK hs => by
  obtain ⟨H, es, ss, s', k1, k2, k3, k4, _, k6, k7, k8⟩ := h
  simp only [List.nil_append] at k6 k7
  obtain ⟨A, st, vs, C⟩ := drawC_of k2 k3 k4 k6 k7
  have rep0 : ∀ i, (Array.replicate ops.size false).getD i false = false := fun i => by
    simp only [Array.getD_eq_getD_getElem?, Array.getElem?_replicate]; split <;> rfl
  have hleft : left ops.size (Array.replicate ops.size false) ≤ ops.size := by
    unfold left
    exact Nat.le_trans (List.length_filter_le _ _) (by simp)
  exact wpIn_region_any hm ((draw_walk hE k1 C (fun i h => by cases h) (fun _ a w hs => (hK _ _ k8).1 a w rfl hs) (fun i o x ob _ h => by cases h) ops.size).1 _ a _ hleft (draw_start C hs) (fun p h => by cases h))
end
section
variable {P : Program} {E : PT Ty} {frz : List Nat} {nt : Nat} {ops : Array Oper} {dead pk : Nat → Bool} {PN : DV → List Ob → Prop} {i : Nat} {acc : List Eff} {sts : List S} {l : List Oper} {o : Oper} {G : List Eff → List S → S → Prop} {tm tm' : PT AV} {objs objs' A A' X : List Ob} {dl : List Dl} {g : FuncId} {args : List AV} {r : AV} {x : DV}
end
section
variable {P : Program} {nt m : Nat} {ro' : Option Nat} {x y : Code} {s : S} {K : Ex → S → Prop}
end
section
variable {P : Program} {nt m : Nat} {ro' : Option Nat} {c : Code} {K : Ex → S → Prop} {tm : PT AV} {objs objs' : List Ob} {dl : List Dl}
end
def putL : List Ob → List Nat → List Ob → List Ob
  | B, p :: ps, o :: os => putL (B.set p o) ps os
  | B, _, _ => B
theorem putL_len : ∀ {B : List Ob} {ps : List Nat} {os : List Ob}, (putL B ps os).length = B.length
  | B, [], os => by cases os <;> rfl
  | B, _ :: _, [] => rfl
  | B, p :: ps, o :: os => by rw [putL, putL_len, List.length_set]
theorem putL_old : ∀ {B : List Ob} {ps : List Nat} {os : List Ob} {q : Nat}, q ∉ ps → (putL B ps os)[q]? = B[q]?
  | B, [], os, _, _ => by cases os <;> rfl
  | B, _ :: _, [], _, _ => rfl
  | B, p :: ps, o :: os, q, h => by
    rw [putL, putL_old (fun hq => h (List.mem_cons_of_mem _ hq)), List.getElem?_set_ne (fun e => h (by rw [e]; exact List.mem_cons_self))]
theorem putL_at : ∀ {B : List Ob} {ps : List Nat} {os : List Ob} {k p : Nat} {o : Ob}, ps.Nodup → (∀ p ∈ ps, p < B.length) → ps[k]? = some p → os[k]? = some o → (putL B ps os)[p]? = some o
  | B, [], _, _, _, _, _, _, h, _ => by simp at h
  | B, _ :: _, [], _, _, _, _, _, _, h => by simp at h
  | B, q :: ps, o' :: os, 0, p, o, hn, hl, h1, h2 => by
    simp at h1 h2
    subst h1 h2
    rw [putL, putL_old (List.nodup_cons.1 hn).1, List.getElem?_set_self (hl _ List.mem_cons_self)]
  | B, q :: ps, o' :: os, k + 1, p, o, hn, hl, h1, h2 => by
    rw [putL]
    exact putL_at (List.nodup_cons.1 hn).2 (fun p hp => by rw [List.length_set]; exact hl p (List.mem_cons_of_mem _ hp)) (by simpa using h1) (by simpa using h2)
def obsAt (ρ : Nat → Nat) (B : List Ob) : List Nat → List Ob → Prop
  | [], [] => True
  | p :: ps, o :: os => B[p]? = some (reO ρ o) ∧ obsAt ρ B ps os
  | _, _ => False
theorem obsAt_get {ρ : Nat → Nat} {B : List Ob} : ∀ {ps : List Nat} {os : List Ob}, obsAt ρ B ps os → ∀ (k : Nat) o, os[k]? = some o → ∃ p, ps[k]? = some p ∧ B[p]? = some (reO ρ o)
  | [], [], _, k, o, h => by simp at h
  | p :: ps, o' :: os, h, 0, o, ho => by simp at ho; subst ho; exact ⟨p, rfl, h.1⟩
  | p :: ps, o' :: os, h, k + 1, o, ho => obsAt_get h.2 k o (by simpa using ho)
  | [], _ :: _, h, _, _, _ => h.elim
  | _ :: _, [], h, _, _, _ => h.elim
theorem ACall.at' {P : Program} {f : FuncId} {args : List AV} {A A' : List Ob} {r : AV} (h : ACall P f args A r A') (pos : List Nat) {Big : List Ob} (hl : pos.length = A.length) (hl' : A'.length = A.length) (hnd : pos.Nodup)
    (hB : obsAt (atOf pos Big.length) Big pos A) (hok : A.all (okO A.length) = true) (hargs : args.all (okA A.length 8) = true) :
    ACall P f (args.map (reA (atOf pos Big.length) 8)) Big (reR (atOf pos Big.length) r) (putL Big pos (A'.map (reO (atOf pos Big.length)))) := by
  have hlt : ∀ p ∈ pos, p < Big.length := fun p hp => by
    obtain ⟨k, hk, e⟩ := List.getElem_of_mem hp
    have hkA : k < A.length := by omega
    obtain ⟨q, e1, e2⟩ := obsAt_get hB k A[k] (List.getElem?_eq_getElem hkA)
    rw [List.getElem?_eq_getElem hk, e] at e1
    cases e1
    exact (List.getElem?_eq_some_iff.1 e2).1
  refine h.embedR hl hnd (obsAt_get hB) hok hargs (by rw [putL_len, hl']) (fun p _ hn => putL_old hn) (fun k ob hk => ?_)
  have hkl : k < pos.length := by rw [hl, ← hl']; exact (List.getElem?_eq_some_iff.1 hk).1
  have e : atOf pos Big.length k = pos[k] := by simp [atOf, hkl]
  exact putL_at (k := k) hnd hlt (by rw [e]; exact List.getElem?_eq_getElem hkl) (by rw [List.getElem?_map, hk]; rfl)
section
variable {P : Program} {E : PT Ty} {frz : List Nat} {nt m : Nat} {ro' : Option Nat} {K : Ex → S → Prop} {ops : Array Oper} {l : List Oper} {o : Oper} {tm tm' : PT AV} {objs objs' : List Ob} {dl : List Dl} {g : FuncId} {args args' : List AV} {r r' : AV} {A A' : List Ob} {x : DV}
end
set_option maxRecDepth 10000
theorem acallG_of_run {P : Program} {E : PT Ty} (hE : EnvOK P E) {f : FuncId} {i : FnI} (hF : FnAt P f i) {args : List AV} {objs objs' : List Ob} {r : AV} (hlen : args.length = i.np) (hle : Nat.ble i.np i.nt = true) (hol : objs.length ≤ objs'.length) (hor : objs'.all (refOb objs'.length) = true) (hrr : refA 8 objs'.length r = true)
    (h : Run P i.nt objs.length none i.body ⟨initTm 0 args .nil, objs, []⟩ (fun e s => (match e with | .normal => True | .ret => True | _ => False) ∧ ∃ objs2 r0, evLeave H0 s.dl none s.objs = some (none, objs2) ∧ evResults E ⟨s.tm, objs2, []⟩ i.results = some r0 ∧ AvR r0 r ∧ WkObs objs2 objs')) :
    ACall P f args objs r objs' := by
  obtain ⟨g1, g2⟩ := calls_of_run (G := fun o x => AvR x r ∧ WkObs o objs') hE hF hlen hle (h.mono fun e s hk => by
    obtain ⟨k1, o2, r0, k2, k3, k4, k5⟩ := hk
    exact ⟨k1, o2, r0, k2, k3, k4, k5⟩)
  refine ⟨g1, fun D β w vs hp hr => (g2 D β w vs hp hr).mono fun e w' he => ?_⟩
  obtain ⟨o, x, ⟨hx, hw⟩, he⟩ := he
  have hn : β.length ≤ objs'.length := by rw [hp.len]; exact hol
  rcases he with ⟨v, D', β', rfl, hs, hrep⟩ | ⟨y, v, D', β', rfl, rfl, hs, hrep⟩
  · refine .inl ⟨v, D', β'.take objs'.length, rfl, hs.weak hw hn hor, ?_⟩
    cases hx with
    | refl => exact repA_take 8 hrr hrep
    | sr => exact repA_take 8 rfl (sr_data hrep)
    | @d x1 y1 hd => cases hrep with
      | d k => exact .d (hd.rep k)
  · cases hx with
    | refl => exact .inr ⟨y, v, D', β'.take objs'.length, rfl, rfl, hs.weak hw hn hor, hrep⟩
theorem Run.midI {P : Program} {nt m : Nat} {ro' : Option Nat} {K : Ex → S → Prop} {x y : Code} {s : S} {α : Type} (St : α → S) (I : α → Prop) (h1 : Run P nt m ro' x s (fun e s1 => match e with | .normal => ∃ a, I a ∧ Weak s1 (St a) | e => K e s1)) (h2 : ∀ a, I a → Run P nt m ro' y (St a) K) :
    Run P nt m ro' x s (fun e s1 => match e with | .normal => Run P nt m ro' y s1 K | e => K e s1) :=
  h1.mono fun e s1 h => by
    cases e with
    | normal => obtain ⟨a, ha, hw⟩ := h; exact Run.weak hw (h2 a ha)
    | _ => exact h
def growL (Big : List Ob) (pos : List Nat) (n : Nat) (A' : List Ob) : List Ob := putL Big pos (A'.map (reO (atOf pos Big.length))) ++ (A'.drop n).map (reO (atOf pos Big.length))
theorem growL_len {Big : List Ob} {pos : List Nat} {n : Nat} {A' : List Ob} : (growL Big pos n A').length = Big.length + (A'.length - n) := by
  simp [growL, putL_len]
theorem growL_at {Big : List Ob} {pos : List Nat} {A' : List Ob} (hnd : pos.Nodup) (hlt : ∀ p ∈ pos, p < Big.length) {k : Nat} {ob : Ob} (hk : A'[k]? = some ob) : (growL Big pos pos.length A')[atOf pos Big.length k]? = some (reO (atOf pos Big.length) ob) := by
  unfold growL
  rcases Nat.lt_or_ge k pos.length with h | h
  · have e : atOf pos Big.length k = pos[k] := by simp [atOf, h]
    have hp := hlt pos[k] (List.getElem_mem h)
    rw [e, List.getElem?_append_left (by rw [putL_len]; exact hp), putL_at (k := k) hnd hlt (List.getElem?_eq_getElem h) (by rw [List.getElem?_map, hk]; rfl)]
  · have e : atOf pos Big.length k = Big.length + (k - pos.length) := by simp only [atOf]; rw [List.getElem?_eq_none h]
    rw [e, List.getElem?_append_right (by rw [putL_len]; omega), putL_len, List.getElem?_map, List.getElem?_drop, show pos.length + (Big.length + (k - pos.length) - Big.length) = k by omega, hk]; rfl
theorem growL_old {Big : List Ob} {pos : List Nat} {n : Nat} {A' : List Ob} {p : Nat} (hp : p < Big.length) (hn : p ∉ pos) : (growL Big pos n A')[p]? = Big[p]? := by
  unfold growL
  rw [List.getElem?_append_left (by rw [putL_len]; exact hp), putL_old hn]
theorem ACall.grow {P : Program} {f : FuncId} {args : List AV} {A A' : List Ob} {r : AV} (h : ACall P f args A r A') (pos : List Nat) {Big : List Ob} (hl : pos.length = A.length) (hge : A.length ≤ A'.length) (hnd : pos.Nodup)
    (hB : obsAt (atOf pos Big.length) Big pos A) (hok : A.all (okO A.length) = true) (hargs : args.all (okA A.length 8) = true) :
    ACall P f (args.map (reA (atOf pos Big.length) 8)) Big (reR (atOf pos Big.length) r) (growL Big pos pos.length A') := by
  have hlt : ∀ p ∈ pos, p < Big.length := fun p hp => by
    obtain ⟨k, hk, e⟩ := List.getElem_of_mem hp
    have hkA : k < A.length := by omega
    obtain ⟨q, e1, e2⟩ := obsAt_get hB k A[k] (List.getElem?_eq_getElem hkA)
    rw [List.getElem?_eq_getElem hk, e] at e1
    cases e1
    exact (List.getElem?_eq_some_iff.1 e2).1
  exact h.embedR hl hnd (obsAt_get hB) hok hargs (by rw [growL_len, hl]; omega) (fun p hp hn => growL_old hp hn) (fun k ob hk => growL_at hnd hlt hk)
theorem Run.dropLast {P : Program} {nt m : Nat} {ro' : Option Nat} {K : Ex → S → Prop} {c : Code} {tm : PT AV} {O : List Ob} {ds : List DV} (l : List (Nat × AV)) (h : Run P nt m ro' c ⟨PT.ofList l, O, []⟩ K) (hm : m ≤ O.length) (hO : O.all (refOb O.length) = true)
    (ht : ∀ t v, (PT.ofList l).get? t = some v → tm.get? t = some v ∨ ∃ off, off ≤ ds.length ∧ tm.get? t = some (.bp O.length off) ∧ v = .d (.ep (ds.drop off))) (hr : allQ (refA 8 O.length) l) : Run P nt m ro' c ⟨tm, O ++ [.box (ds.map .d)], []⟩ K := by
  refine Run.freeze O.length (tm' := PT.ofList l) (objs' := O ++ [.gone]) (ds := ds) ?_ (by simp) (by rw [List.set_append_right _ _ (Nat.le_refl _)]; simp) ht
  refine Run.trunc O.length (by simpa using hm) ?_ ?_
  · simp only [refS, ptAll_ofList hr, List.take_left, hO, List.all_nil, Bool.and_self]
  · simpa [S.trunc] using h
theorem Run.imp {P : Program} {nt m : Nat} {ro' : Option Nat} {K K' : Ex → S → Prop} {c : Code} {s : S} (h : Run P nt m ro' c s K) (f : ∀ e s', K e s' → K' e s') : Run P nt m ro' c s K' :=
  fun D0 β0 o0 w0 hb0 ro Q a w hro hK hs => h D0 β0 o0 w0 hb0 ro Q a w hro (fun e s1 hk => hK e s1 (f e s1 hk)) hs
section
variable {E : PT Ty} {H : Hd} {frz : List Nat} {rd : Operand → AV} {O : List Ob} {o : Oper} {t : TypeId} {x xv : Operand} {y : Ty} {cs : List AV} {v : AV} {i : Nat}
theorem evAny_store_last (hop : o.op = .store t x xv := by rfl) (hy : E.get? t = some y := by rfl) (hx : rd x = .bp i 0 := by rfl) (hi : i = O.length := by rfl) (hv : rd xv = v := by rfl) (hk : knownA v = true := by rfl) (hl : Nat.beq v.cells.length y.size = true := by rfl) (hc : Nat.beq cs.length y.size = true := by rfl) :
    evAny E H frz rd (O ++ [.box cs]) o = some (.d .any, some (O ++ [.box v.cells]), true) := by
  subst hi
  obtain ⟨dst, op, ty, pos, after, guard⟩ := o
  simp only at hop
  subst hop
  have h1 : evAny E H frz rd (O ++ [.box cs]) ⟨dst, .store t x xv, ty, pos, after, guard⟩ = Option.map (fun (p : AV × List Ob × Bool) => (p.1, some p.2.1, p.2.2)) (storeR E t (.bp O.length 0) v (O ++ [.box cs])) := by
    simp only [evAny, quiet, evOp, hx, hv]
  rw [h1, store_last hy O cs hk hl hc]
  rfl
end
theorem set_last {O : List Ob} {a b : Ob} : (O ++ [a]).set O.length b = O ++ [b] := by simp
theorem get_last {O : List Ob} {a : Ob} : (O ++ [a])[O.length]? = some a := by simp
theorem endOK_frame {D : DMap} {β : List Bi} {objs objs' X : List Ob} {w w' : World} {r : AV} {e : Ending} (hh : Heap D β (objs ++ X) w) (hl : objs'.length = objs.length) (he : EndOK D (β.take objs.length) objs w r objs' e w') : EndOK D β (objs ++ X) w r (objs' ++ X) e w' := by
  have hβl := hh.len
  rw [List.length_append] at hβl
  have key : ∀ (D' : DMap) (β' : List Bi), Step D (β.take objs.length) objs w D' β' objs' w' → Step D β (objs ++ X) w D' (β' ++ β.drop objs.length) (objs' ++ X) w' ∧ ∀ (i : Nat) x, β'[i]? = some x → (β' ++ β.drop objs.length)[i]? = some x := by
    intro D' β' st
    have hl' := st.heap.len
    have lookS : ∀ (i : Nat) x, β'[i]? = some x → (β' ++ β.drop objs.length)[i]? = some x := fun i x hx => by
      rw [List.getElem?_append_left (List.getElem?_eq_some_iff.1 hx).1]; exact hx
    have take_at : ∀ i, i < objs.length → (β.take objs.length)[i]? = β[i]? := fun i hi => by rw [List.getElem?_take, if_pos hi]
    have hi_at : ∀ i, objs.length ≤ i → (β' ++ β.drop objs.length)[i]? = β[i]? := fun i hi => by
      rw [List.getElem?_append_right (by omega), List.getElem?_drop, show objs.length + (i - β'.length) = i by omega]
    have upOwn : ∀ b, Own (β.take objs.length) objs b → Own β (objs ++ X) b := by
      rintro b ⟨i, bi, ob, h1, h2, h3⟩
      have hi := (List.getElem?_eq_some_iff.1 h2).1
      exact ⟨i, bi, ob, by rw [← take_at i hi]; exact h1, by rw [List.getElem?_append_left hi]; exact h2, h3⟩
    have bext : ∀ (i : Nat) x, β[i]? = some x → ∃ y, (β' ++ β.drop objs.length)[i]? = some y ∧ BiExt x y := by
      intro i x hx
      rcases Nat.lt_or_ge i objs.length with hi | hi
      · obtain ⟨y, hy, hxy⟩ := st.bext i x (by rw [take_at i hi]; exact hx)
        exact ⟨y, lookS i y hy, hxy⟩
      · exact ⟨x, by rw [hi_at i hi]; exact hx, BiExt.refl x⟩
    have other : ∀ (p : Nat) bi ob b, objs.length ≤ p → β[p]? = some bi → (objs ++ X)[p]? = some ob → ownOf bi ob = some b → ¬ Own (β.take objs.length) objs b := by
      rintro p bi ob b hp a1 a2 a3 ⟨i, bj, oj, c1, c2, c3⟩
      have hi := (List.getElem?_eq_some_iff.1 c2).1
      have := hh.disj p i bi bj ob oj b a1 (by rw [← take_at i hi]; exact c1) a2 (by rw [List.getElem?_append_left hi]; exact c2) a3 c3
      omega
    have few2 : ∀ (k : Nat) bi o b, β'[k]? = some bi → objs'[k]? = some o → ownOf bi o = some b → Own (β.take objs.length) objs b ∨ w.heap.size ≤ b := fun k bi o b a1 a2 a3 => st.ownn b ⟨k, bi, o, a1, a2, a3⟩
    have cut : ∀ (p : Nat) bi ob, (β' ++ β.drop objs.length)[p]? = some bi → (objs' ++ X)[p]? = some ob → (objs.length ≤ p ∧ β[p]? = some bi ∧ (objs ++ X)[p]? = some ob) ∨ (β'[p]? = some bi ∧ objs'[p]? = some ob) := by
      intro p bi ob a b
      rcases Nat.lt_or_ge p objs.length with hp | hp
      · right
        rw [List.getElem?_append_left (by omega)] at a b
        exact ⟨a, b⟩
      · left
        rw [hi_at p hp] at a
        refine ⟨hp, a, ?_⟩
        rw [List.getElem?_append_right (by omega)] at b ⊢
        rw [hl] at b; exact b
    refine ⟨⟨st.dsub, fun ad v a b => (st.dnew ad v a b).imp (upOwn _) id, bext, ⟨st.heap.dh, by simp only [List.length_append, List.length_drop]; omega, fun p bi ob a b => ?_, fun p q bi bj oi oj b a1 a2 b1 b2 c1 c2 => ?_⟩, st.size, fun k hk hn => st.keep k hk (fun ho => hn (upOwn k ho)), st.os, st.tape, st.output, ?_⟩, lookS⟩
    · rcases cut p bi ob a b with ⟨p1, p3, p4⟩ | ⟨k1, k2⟩
      · refine (hh.hold p bi ob p3 p4).mono st.dsub bext (fun ad v h5 h6 h7 => ?_) (fun b' hb' => ?_)
        · rcases st.dnew ad v h5 h6 with h8 | h8
          · exact other p bi ob _ p1 p3 p4 h7 h8
          · have := hh.own_lt ⟨p, bi, ob, p3, p4, h7⟩; omega
        · exact st.keep b' (hh.own_lt ⟨p, bi, ob, p3, p4, hb'⟩) (other p bi ob b' p1 p3 p4 hb')
      · exact (st.heap.hold p bi ob k1 k2).mono (fun _ _ h => h) (fun i x hx => ⟨x, lookS i x hx, BiExt.refl x⟩) (fun ad v h1 h2 => by rw [h1] at h2; cases h2) (fun _ _ => rfl)
    · rcases cut p bi oi a1 b1 with ⟨p1, p3, p4⟩ | ⟨k1, k2⟩ <;> rcases cut q bj oj a2 b2 with ⟨q1, q3, q4⟩ | ⟨k1', k2'⟩
      · exact hh.disj p q bi bj oi oj b p3 q3 p4 q4 c1 c2
      · exfalso
        rcases few2 q bj oj b k1' k2' c2 with h8 | h8
        · exact other p bi oi b p1 p3 p4 c1 h8
        · have := hh.own_lt ⟨p, bi, oi, p3, p4, c1⟩; omega
      · exfalso
        rcases few2 p bi oi b k1 k2 c1 with h8 | h8
        · exact other q bj oj b q1 q3 q4 c2 h8
        · have := hh.own_lt ⟨q, bj, oj, q3, q4, c2⟩; omega
      · exact st.heap.disj p q bi bj oi oj b k1 k1' k2 k2' c1 c2
    · rintro b ⟨p, bi, ob, a1, a2, a3⟩
      rcases cut p bi ob a1 a2 with ⟨p1, p3, p4⟩ | ⟨k1, k2⟩
      · exact .inl ⟨p, bi, ob, p3, p4, a3⟩
      · exact (few2 p bi ob b k1 k2 a3).imp (upOwn b) id
  rcases he with ⟨v, D', β', rfl, hs, hv⟩ | ⟨x, v, D', β', rfl, rfl, hs, hv⟩
  · obtain ⟨k1, k2⟩ := key D' β' hs
    exact .inl ⟨v, D', _, rfl, k1, hv.mono (fun _ _ h => h) (fun i x hx => ⟨x, k2 i x hx, BiExt.refl x⟩)⟩
  · exact .inr ⟨x, v, D', _, rfl, rfl, (key D' β' hs).1, hv⟩
theorem heap_take {D : DMap} {β : List Bi} {objs X : List Ob} {w : World} (hh : Heap D β (objs ++ X) w) (hr : objs.all (refOb objs.length) = true) : Heap D (β.take objs.length) objs w := by
  have hβl := hh.len
  rw [List.length_append] at hβl
  rw [List.all_eq_true] at hr
  have tk : ∀ {i : Nat} {x : Bi}, (β.take objs.length)[i]? = some x → β[i]? = some x := fun h => (getElem?_take_of h).1
  refine ⟨hh.dh, by simp only [List.length_take]; omega, fun i bi ob a b => ?_, fun i j bi bj oi oj b a1 a2 b1 b2 c1 c2 => ?_⟩
  · have hi := (List.getElem?_eq_some_iff.1 b).1
    exact holdsOb_take (hh.hold i bi ob (tk a) (by rw [List.getElem?_append_left hi]; exact b)) (hr ob (List.mem_of_getElem? b))
  · have hi := (List.getElem?_eq_some_iff.1 b1).1
    have hj := (List.getElem?_eq_some_iff.1 b2).1
    exact hh.disj i j bi bj oi oj b (tk a1) (tk a2) (by rw [List.getElem?_append_left hi]; exact b1) (by rw [List.getElem?_append_left hj]; exact b2) c1 c2
theorem AYield.frame {P : Program} {i : Nat} {ds : List DV} {objs objs' X : List Ob} {r : AV} (h : AYield P i (ds.map .d) objs r objs') (hi : i < objs.length) (hl : objs'.length = objs.length) (hr : objs.all (refOb objs.length) = true) :
    AYield P i (ds.map .d) (objs ++ X) r (objs' ++ X) := by
  intro D β w vs bi hh hb hv
  obtain ⟨f, tmps, cas, bd, h1, h2⟩ := h D (β.take objs.length) w vs bi (heap_take hh hr) (by rw [List.getElem?_take, if_pos hi]; exact hb) ⟨hv.1, fun j c v hc hw => by
    have := hv.2 j c v hc hw
    obtain ⟨d, _, rfl⟩ := Option.map_eq_some_iff.1 (by rw [List.getElem?_map] at hc; exact hc)
    cases this with
    | d h => exact .d h⟩
  exact ⟨f, tmps, cas, bd, h1, RoundIn.mono (F := FW none) (n := 0) h2 (fun e w' he => endOK_frame hh hl he)⟩
section
variable {P : Program} {E : PT Ty} {frz : List Nat} {nt m : Nat} {ro' : Option Nat} {K : Ex → S → Prop} {ops : Array Oper} {l : List Oper} {o : Oper} {tm tm' : PT AV} {objs objs' : List Ob} {dl : List Dl} {s0 : S} {i : Nat} {acc : List Eff} {G : S → Prop} {yi : Nat} {args : List AV} {r : AV}
open Classical in
def oneY (i : Nat) (args : List AV) (objs : List Ob) (r : AV) (ob : List Ob) : Hd :=
  ⟨fun _ _ _ => none, fun i' a' o' => if i' = i ∧ a' = args ∧ o' = objs then some (r, ob) else none, fun _ _ _ => none, fun _ _ _ _ => none⟩
theorem oneY_ok (h : AYield P yi args objs r objs') : HOK P (oneY yi args objs r objs') := by
  refine ⟨fun _ _ _ _ _ h => (by cases h), fun _ _ _ _ h => (by cases h), fun i' a' o' r' ob' h' => ?_, fun _ _ _ _ _ h => (by cases h), fun _ _ _ _ _ _ h => (by cases h)⟩
  simp only [oneY] at h'
  split at h'
  · rename_i hc
    obtain ⟨rfl, rfl, rfl⟩ := hc
    simp only [Option.some.injEq, Prod.mk.injEq] at h'
    obtain ⟨rfl, rfl⟩ := h'
    exact h
  · cases h'
theorem evAny_oneY {rd : Operand → AV} (hc : yieldOf rd o.op = some (yi, args)) : evAny E (oneY yi args objs r objs') frz rd objs o = some (r, some objs', true) := by
  obtain ⟨dst, op, ty, pos, after, guard⟩ := o
  unfold yieldOf at hc
  simp only at hc
  split at hc
  · rename_i f cas ts
    split at hc
    · rename_i j hf
      simp only [Option.some.injEq, Prod.mk.injEq] at hc
      obtain ⟨rfl, rfl⟩ := hc
      simp only [evAny, hf, oneY]
      simp
    · cases hc
  · cases hc
theorem eY (hA : AYield P yi args objs r objs') (k : EvD P E frz nt ops s0 (i + 1) (acc ++ [effOf (rd tm) objs o (some objs')]) l ⟨tm', objs', dl⟩ G) (hg : guardA ops (rd tm) o = some true := by rfl) (hc : yieldOf (rd tm) o.op = some (yi, args) := by rfl)
    (hp : isPan r = false := by rfl) (ht : setD nt tm o.dst r = some tm' := by rfl) : EvD P E frz nt ops s0 i acc (o :: l) ⟨tm, objs, dl⟩ G :=
  EvD.any (oneY_ok hA) hg (evAny_oneY hc) hp ht k
theorem oY (hA : AYield P yi args objs r objs') (k : RunOps P nt m ro' ops l ⟨tm', objs', dl⟩ K) (hg : guardA ops (rd tm) o = some true := by rfl) (hc : yieldOf (rd tm) o.op = some (yi, args) := by rfl)
    (hp : isPan r = false := by rfl) (ht : setD nt tm o.dst r = some tm' := by rfl) : RunOps P nt m ro' ops (o :: l) ⟨tm, objs, dl⟩ K := RunOps.yield hg hc hA hp ht k
end
def goSt : Bool → LoopState
  | true => .ready
  | false => .done
def goPd : Bool → Option Code
  | true => none
  | false => some .ret
def goEx : Bool → Ex
  | true => .normal
  | false => .ret
theorem ayield_box2 {P : Program} {L : Nat} {B B' : List Ob} {args : List AV} {tm : PT AV} {nt : Nat} {frz : List Nat} {qs : Array Tmp} {assign body : Code} (go : Bool) (ds : List DV) (l : List (Nat × AV))
    (hlen : args.length = qs.size) (hlt : qs.toList.all (fun t => Nat.blt t nt) = true) (hB : B.length = L) (hB' : B'.length = L)
    (hBr : B.all (refOb (L + 2)) = true) (hT : ptAll (refA 8 (L + 2)) tm = true) (hl : allQ (refA 8 (L + 2)) l)
    (has : Run P nt (L + 2) (some (L + 1)) assign ⟨setTms tm (qs.toList.zip args), rangeObs B tm nt frz qs assign body .ready none, []⟩ (fun e s1 => e = .normal ∧ ∃ tmA, s1 = ⟨tmA, rangeObs B tm nt frz qs assign body .ready none ++ [.box (ds.map .d)], []⟩ ∧
      (∀ t v, (PT.ofList l).get? t = some v → tmA.get? t = some v ∨ ∃ off, off ≤ ds.length ∧ tmA.get? t = some (.bp (rangeObs B tm nt frz qs assign body .ready none).length off) ∧ v = .d (.ep (ds.drop off)))))
    (hbody : ∀ a b, refOb (L + 2) a = true → refOb (L + 2) b = true → Run P nt (L + 2) (some (L + 1)) body ⟨PT.ofList l, B ++ [a, b], []⟩ (fun e s2 => e = goEx go ∧ s2.objs = B' ++ [a, b])) :
    AYield P (L + 1) args (rangeObs B tm nt frz qs assign body .ready none) (.d (.bool go)) (rangeObs B' tm nt frz qs assign body (goSt go) (goPd go)) := by
  have hO : ∀ (C : List Ob) st pend, C.length = L → (rangeObs C tm nt frz qs assign body st pend).length = L + 2 := fun C st pend h => by simp [rangeObs, h]
  have hget : ∀ (C : List Ob) st pend, C.length = L → (rangeObs C tm nt frz qs assign body st pend)[L + 1]? = some (.loop tm nt frz qs assign body st pend) := fun C st pend hC => by
    subst hC; simp [rangeObs]
  have hset : ∀ (C : List Ob) st pend st' pend', C.length = L → (rangeObs C tm nt frz qs assign body st pend).set (L + 1) (.loop tm nt frz qs assign body st' pend') = rangeObs C tm nt frz qs assign body st' pend' := fun C st pend st' pend' hC => by
    subst hC
    unfold rangeObs
    rw [List.set_append_right _ _ (by simp)]
    simp
  refine ayield_of_run (i := L + 1) (hget B _ _ hB) hlen hlt ?_
  refine Run.imp (by rw [hO B _ _ hB]; exact has) ?_
  rintro e s1 ⟨rfl, tmA, rfl, htA⟩
  refine ⟨rfl, tm, nt, frz, qs, assign, body, none, ?_, ?_⟩
  · show (rangeObs B tm nt frz qs assign body .ready none ++ [Ob.box (ds.map .d)])[L + 1]? = _
    rw [List.getElem?_append_left (by rw [hO B _ _ hB]; omega)]; exact hget B _ _ hB
  · show Run P nt _ _ body ⟨tmA, (rangeObs B tm nt frz qs assign body .ready none ++ [Ob.box (ds.map .d)]).set (L + 1) (.loop tm nt frz qs assign body .busy none), []⟩ _
    rw [List.set_append_left _ _ (by rw [hO B _ _ hB]; omega), hset B _ _ _ _ hB]
    have hloop : refOb (L + 2) (.loop tm nt frz qs assign body .busy none) = true := by simp only [refOb, hT]
    rw [hO B _ _ hB]
    refine Run.dropLast (ds := ds) l ?_ (by rw [hO B _ _ hB]; exact Nat.le_refl _) ?_ (fun t v hv => ?_) (by rw [hO B _ _ hB]; exact hl)
    · rw [show rangeObs B tm nt frz qs assign body .busy none = B ++ [Ob.raw (.deferred (some [])), Ob.loop tm nt frz qs assign body .busy none] from by simp [rangeObs]]
      refine (hbody _ _ rfl hloop).imp ?_
      rintro e ⟨tm2, o2, d2⟩ ⟨h1, he⟩
      simp only at he
      subst he
      have e1 : B' ++ [Ob.raw (.deferred (some [])), Ob.loop tm nt frz qs assign body .busy none] = rangeObs B' tm nt frz qs assign body .busy none := by simp [rangeObs]
      refine ⟨tm, nt, frz, qs, assign, body, .busy, none, ?_, ?_⟩
      · show (B' ++ _)[L + 1]? = _
        rw [e1]; exact hget B' _ _ hB'
      · cases go with
        | true =>
          subst h1
          refine ⟨rfl, ?_⟩
          show _ = (B' ++ _).set (L + 1) _
          rw [e1, hset B' _ _ _ _ hB']; rfl
        | false =>
          subst h1
          refine ⟨rfl, ?_⟩
          show _ = (B' ++ _).set (L + 1) _
          rw [e1, hset B' _ _ _ _ hB']; rfl
    · rw [hO B _ _ hB]
      unfold rangeObs
      simp only [List.all_append, hBr, List.all_cons, List.all_nil, Bool.true_and, Bool.and_true, hloop]
      rfl
    · rcases htA t v hv with h1 | h1
      · exact .inl h1
      · rw [hO B _ _ hB] at h1 ⊢; exact .inr h1
theorem refA_mono {n m : Nat} (h : n ≤ m) : ∀ (k : Nat) {x : AV}, refA k n x = true → refA k m x = true := by
  intro k
  induction k with
  | zero => intro x hx; cases hx
  | succ k ih =>
    intro x hx
    cases x <;> simp only [refA, Nat.blt_eq, List.all_eq_true, Bool.and_eq_true] at hx ⊢ <;> first | omega | exact fun y hy => ih (hx y hy) | exact ⟨fun y hy => ih (hx.1 y hy), fun y hy => ih (hx.2 y hy)⟩
theorem ptAll_mono {p q : AV → Bool} (h : ∀ x, p x = true → q x = true) : ∀ {t : PT AV}, ptAll p t = true → ptAll q t = true
  | .nil, _ => rfl
  | .node l v r, ha => by
    simp only [ptAll, Bool.and_eq_true] at ha ⊢
    refine ⟨⟨ptAll_mono h ha.1.1, ?_⟩, ptAll_mono h ha.2⟩
    cases v with
    | none => rfl
    | some v => exact h v ha.1.2
theorem refOb_mono {n m : Nat} (h : n ≤ m) {o : Ob} (ho : refOb n o = true) : refOb m o = true := by
  cases o <;> simp only [refOb, List.all_eq_true] at ho ⊢
  · exact fun x hx => refA_mono h 8 (ho x hx)
  · exact ptAll_mono (fun x hx => refA_mono h 8 hx) ho
  · exact fun x hx => refA_mono h 8 (ho x hx)
  · exact fun x hx => refA_mono h 8 (ho x hx)
theorem refs_mono {n m : Nat} (h : n ≤ m) {l : List Ob} (ho : l.all (refOb n) = true) : l.all (refOb m) = true := by
  rw [List.all_eq_true] at ho ⊢
  exact fun x hx => refOb_mono h (ho x hx)
theorem leave_marks : ∀ (ms : List Nat) (O : List Ob), ms.Nodup → (∀ i ∈ ms, O[i]? = some (.raw (.deferred (some [])))) → ∃ O', evLeave H0 (ms.map Dl.mark) none O = some (none, O') ∧ O'.length = O.length ∧ ∀ j, j ∉ ms → O'[j]? = O[j]?
  | [], O, _, _ => ⟨O, rfl, rfl, fun _ _ => rfl⟩
  | i :: ms, O, hn, h => by
    obtain ⟨hi, hn'⟩ := List.nodup_cons.1 hn
    obtain ⟨O', h1, h2, h3⟩ := leave_marks ms (O.set i (.raw (.deferred none))) hn' (fun j hj => by
      have : i ≠ j := fun e => hi (e ▸ hj)
      rw [List.getElem?_set_ne this]; exact h j (List.mem_cons_of_mem _ hj))
    refine ⟨O', ?_, by rw [h2, List.length_set], fun j hj => ?_⟩
    · simp only [List.map_cons, evLeave, h i List.mem_cons_self]
      exact h1
    · simp only [List.mem_cons, not_or] at hj
      rw [h3 j hj.2, List.getElem?_set_ne (Ne.symm hj.1)]
theorem wk_prefix : ∀ {l m : List Ob}, (∀ (j : Nat) b, m[j]? = some b → l[j]? = some b) → WkObs l m
  | l, [], _ => by cases l <;> trivial
  | [], b :: m, h => by have := h 0 b rfl; simp at this
  | a :: l, b :: m, h => by
    have h0 := h 0 b rfl
    simp at h0; subst h0
    exact ⟨.refl, wk_prefix fun j c hc => by have := h (j + 1) c (by simpa using hc); simpa using this⟩
theorem Run.wk {P : Program} {nt m : Nat} {ro' : Option Nat} {K : Ex → S → Prop} {c : Code} {tm : PT AV} {objs objs' : List Ob} {dl : List Dl} (h : Run P nt m ro' c ⟨tm, objs', dl⟩ K) (hw : WkObs objs objs') (hl : objs'.length = objs.length) (hm : m ≤ objs.length) (hr : objs'.all (refOb objs'.length) = true) :
    Run P nt m ro' c ⟨tm, objs, dl⟩ K := by
  intro D0 β0 o0 w0 hb0 ro Q a w hro hK hs
  obtain ⟨D, β, h1, h2, h3⟩ := hs
  have hlen : β.length = objs.length := h1.heap.len
  have e : β.take objs'.length = β := List.take_of_length_le (by omega)
  have st := h1.weak hw (by omega) hr
  rw [e] at st
  exact h D0 β0 o0 w0 hb0 ro Q a w hro hK ⟨D, β, st, h2, h3⟩
section
variable {E : PT Ty} {H : Hd} {frz : List Nat} {rd : Operand → AV} {objs O : List Ob} {o : Oper} {t : TypeId} {x xv : Operand} {y : Ty} {i off : Nat} {cs : List AV} {c : AV}
theorem evAny_loadB (hop : o.op = .load t x) (h1 : E.get? t = some y) (ha : isAggT y.desc = false) (hx : rd x = .bp i off) (hi : objs[i]? = some (.box cs)) (hc : cs[off]? = some c) : evAny E H frz rd objs o = some (c, none, true) := by
  obtain ⟨dst, op, ty, pos, after, guard⟩ := o
  simp only at hop
  subst hop
  simp only [evAny, quiet, evOp, loadR, h1, hx, hi, obCells, ha, hc, pureR, if_true, Option.map_some]
theorem evAny_storeB (hop : o.op = .store t x xv) (h1 : E.get? t = some y) (hs : y.size = 1) (hx : rd x = .bp i off) (hv : rd xv = c) (hk : knownA c = true) (hl : c.cells = [c]) (hi : objs[i]? = some (.box cs)) (hc : off < cs.length) :
    evAny E H frz rd objs o = some (.d .any, some (objs.set i (.box (cs.set off c))), true) := by
  obtain ⟨dst, op, ty, pos, after, guard⟩ := o
  simp only at hop
  subst hop
  have hb : Nat.ble (off + 1) cs.length = true := Nat.ble_eq_true_of_le hc
  simp only [evAny, quiet, evOp, storeR, h1, hx, hv, hi, obCells, hk, hl, hs, hb, List.length_cons, List.length_nil, pureR, Bool.and_self, if_true, Option.map_some, obPut]
  have hcut : cs.take off ++ [c] ++ cs.drop (off + 1) = cs.set off c := by rw [List.set_eq_take_append_cons_drop, if_pos hc]; simp
  simp only [Nat.zero_add, hb, Nat.beq_refl, Bool.and_self, if_true, hcut, Option.map_some]
end
abbrev OpK := PT Ty → Hd → List Nat → (Operand → AV) → List Ob → Option Tmp → R2
def qm (r : R) : R2 := r.map fun p => (p.1, none, p.2.2)
def lm (r : R) : R2 := r.map fun p => (p.1, some p.2.1, p.2.2)
def pm (v : AV) : R2 := some (v, none, true)
def getF (t : PT AV) : Nat → Option AV :=
  PT.rec (motive := fun _ => Nat → Option AV) (fun _ => none)
    (fun _ v _ gl gr n => Bool.rec (motive := fun _ => Option AV) (Bool.rec (motive := fun _ => Option AV) (gr (Nat.pred (Nat.div n 2))) (gl (Nat.div n 2)) (Nat.beq (Nat.mod n 2) 1)) v (Nat.beq n 0)) t
def setPF (t : PT AV) : Nat → AV → PT AV :=
  PT.rec (motive := fun _ => Nat → AV → PT AV) (fun n v => PT.single v 64 n)
    (fun l u r sl sr n v => Bool.rec (motive := fun _ => PT AV) (Bool.rec (motive := fun _ => PT AV) (.node l u (sr (Nat.pred (Nat.div n 2)) v)) (.node (sl (Nat.div n 2) v) u r) (Nat.beq (Nat.mod n 2) 1)) (.node l (some v) r) (Nat.beq n 0)) t
def orAny (o : Option AV) : AV := Option.rec (motive := fun _ => AV) (.d .any) (fun v => v) o
def rdF (tm : PT AV) (x : Operand) : AV :=
  Operand.rec (motive := fun _ => PT AV → AV) (fun t tm => orAny (getF tm t)) (fun v _ => .d ((ofVal v).getD .any)) (fun _ _ => .d .any) (fun f _ => .d (.fn (.func f) [] [])) x tm
theorem rdF_eq : rdF = rd := by
  funext tm x
  cases x with
  | tmp t =>
    show orAny (tm.get? t) = (tm.get? t).getD (.d .any)
    cases tm.get? t <;> rfl
  | _ => rfl
def dOf : AV → Option DV := AV.rec (motive_1 := fun _ => Option DV) (motive_2 := fun _ => Option DV) (fun x => some x) (fun _ _ => none) (fun _ _ _ => none) (fun _ _ _ _ => none) (fun _ => none) (fun _ _ _ _ _ => none) (fun _ _ => none) (fun _ _ => none) (fun _ => none)
  (fun _ _ _ _ => none) (fun _ => none) none (fun _ _ _ _ => none)
theorem dOf_ok {x : AV} {y : DV} (h : dOf x = some y) : x = .d y := by
  cases x <;> first | (cases h; done) | (cases h; rfl)
def iOf : DV → Option (IntKind × Int) := fun x => DV.casesOn (motive_1 := fun _ => Option (IntKind × Int)) x none (fun _ => none) (fun k n => some (k, n)) (fun _ => none) none none none none none (fun _ _ => none) (fun _ => none) (fun _ _ _ => none) (fun _ => none) (fun _ _ => none)
theorem iOf_ok {x : DV} {p : IntKind × Int} (h : iOf x = some p) : x = .int p.1 p.2 := by
  cases x <;> first | (cases h; done) | (cases h; rfl)
def diOf (x : AV) : Option (IntKind × Int) := Option.rec (motive := fun _ => Option (IntKind × Int)) none iOf (dOf x)
theorem diOf_ok {x : AV} {p : IntKind × Int} (h : diOf x = some p) : x = .d (.int p.1 p.2) := by
  unfold diOf at h
  cases hd : dOf x with
  | none => rw [hd] at h; cases h
  | some y => rw [hd] at h; rw [dOf_ok hd, iOf_ok h]
def kB : IntKind → IntKind → Bool :=
  IntKind.rec (motive := fun _ => IntKind → Bool)
    (IntKind.rec (motive := fun _ => Bool) true false false false false false false false) (IntKind.rec (motive := fun _ => Bool) false true false false false false false false)
    (IntKind.rec (motive := fun _ => Bool) false false true false false false false false) (IntKind.rec (motive := fun _ => Bool) false false false true false false false false)
    (IntKind.rec (motive := fun _ => Bool) false false false false true false false false) (IntKind.rec (motive := fun _ => Bool) false false false false false true false false)
    (IntKind.rec (motive := fun _ => Bool) false false false false false false true false) (IntKind.rec (motive := fun _ => Bool) false false false false false false false true)
theorem kB_eq (k k' : IntKind) : kB k k' = kindB k k' := by cases k <;> cases k' <;> rfl
def wrapF (k : IntKind) (n : Int) : Int :=
  Int.rec (motive := fun _ => IntKind → Int) (fun m k => Bool.rec (motive := fun _ => Int) (k.wrap (.ofNat m)) (.ofNat m) (Nat.ble m 127)) (fun m k => k.wrap (.negSucc m)) n k
theorem wrapF_eq (k : IntKind) (n : Int) : wrapF k n = k.wrap n := by
  cases n with
  | negSucc m => rfl
  | ofNat m =>
    show Bool.rec (motive := fun _ => Int) (k.wrap (.ofNat m)) (.ofNat m) (Nat.ble m 127) = _
    cases h : Nat.ble m 127 with
    | false => rfl
    | true =>
      have := Nat.le_of_ble_eq_true h
      show Int.ofNat m = k.wrap (Int.ofNat m)
      have e : (Int.ofNat m) = (m : Int) := rfl
      rw [e]
      cases k <;> simp [IntKind.wrap, IntKind.bits, IntKind.signed] <;> omega
def ltI (a b : Int) : Bool :=
  Int.rec (motive := fun _ => Int → Bool) (fun a => Int.rec (motive := fun _ => Bool) (fun b => Nat.ble (a + 1) b) (fun _ => false)) (fun a => Int.rec (motive := fun _ => Bool) (fun _ => true) (fun b => Nat.ble (b + 1) a)) a b
theorem ltI_eq (a b : Int) : ltI a b = decide (a < b) := by
  cases a with
  | ofNat a => cases b with
    | ofNat b =>
      show Nat.ble (a + 1) b = _
      cases h : Nat.ble (a + 1) b with
      | true => have := Nat.le_of_ble_eq_true h; simp; omega
      | false => have : ¬ a + 1 ≤ b := fun h' => by rw [Nat.ble_eq_true_of_le h'] at h; cases h
                 simp; omega
    | negSucc b => show false = _; simp; omega
  | negSucc a => cases b with
    | ofNat b => show true = _; simp; omega
    | negSucc b =>
      show Nat.ble (b + 1) a = _
      cases h : Nat.ble (b + 1) a with
      | true => have := Nat.le_of_ble_eq_true h; simp; omega
      | false => have : ¬ b + 1 ≤ a := fun h' => by rw [Nat.ble_eq_true_of_le h'] at h; cases h
                 simp; omega
def eqI (a b : Int) : Bool :=
  Int.rec (motive := fun _ => Int → Bool) (fun a => Int.rec (motive := fun _ => Bool) (fun b => Nat.beq a b) (fun _ => false)) (fun a => Int.rec (motive := fun _ => Bool) (fun _ => false) (fun b => Nat.beq a b)) a b
theorem beq_dec (a b : Nat) : Nat.beq a b = decide (a = b) := by
  cases h : Nat.beq a b with
  | true => rw [Nat.eq_of_beq_eq_true h]; simp
  | false => simp [Nat.ne_of_beq_eq_false h]
theorem eqI_eq (a b : Int) : eqI a b = (a == b) := by
  rw [Bool.eq_iff_iff]
  rw [beq_iff_eq]
  cases a with
  | ofNat a => cases b with
    | ofNat b => show Nat.beq a b = true ↔ _; rw [beq_dec]; simp; omega
    | negSucc b => show false = true ↔ _; simp
  | negSucc a => cases b with
    | ofNat b => show false = true ↔ _; simp
    | negSucc b => show Nat.beq a b = true ↔ _; rw [beq_dec]; simp
abbrev IK := IntKind → IntKind → Int → Int → List Ob → R2
def slowI (op : BinOp) (k k' : IntKind) (a b : Int) (objs : List Ob) : R2 :=
  qm (match op with
    | .shl | .shr => (shiftI op k a b).map fun p => (.d (.int k p.1), objs, p.2)
    | _ => if kindB k k' then (intI op k a b).map fun p => (.d p.1, objs, p.2) else none)
def opI (v : DV) (g : Bool) : R2 := Bool.rec (motive := fun _ => R2) none (pm (.d v)) g
def intF : BinOp → IK :=
  BinOp.rec (motive := fun _ => IK)
    (fun k k' a b _ => opI (.int k (wrapF k (Int.add a b))) (kB k k')) (fun k k' a b _ => opI (.int k (wrapF k (Int.sub a b))) (kB k k')) (fun k k' a b _ => opI (.int k (wrapF k (Int.mul a b))) (kB k k'))
    (slowI .quo) (slowI .rem) (slowI .and) (slowI .or) (slowI .xor) (slowI .shl) (slowI .shr) (slowI .andNot)
    (fun k k' a b _ => opI (.bool (eqI a b)) (kB k k')) (fun k k' a b _ => opI (.bool (!(eqI a b))) (kB k k')) (fun k k' a b _ => opI (.bool (ltI a b)) (kB k k')) (fun k k' a b _ => opI (.bool (!(ltI b a))) (kB k k'))
    (fun k k' a b _ => opI (.bool (ltI b a)) (kB k k')) (fun k k' a b _ => opI (.bool (!(ltI a b))) (kB k k'))
theorem intF_eq (op : BinOp) (k k' : IntKind) (a b : Int) (objs : List Ob) : intF op k k' a b objs = slowI op k k' a b objs := by
  have go : ∀ (v : DV) (x : Option (DV × Bool)), x = some (v, true) → opI v (kB k k') = qm (if kindB k k' then x.map fun p => (.d p.1, objs, p.2) else none) := by
    intro v x hx
    subst hx
    rw [kB_eq]
    cases kindB k k' <;> rfl
  have e1 : (decide (a ≤ b)) = !(ltI b a) := by rw [ltI_eq]; by_cases h : a ≤ b <;> simp [h] <;> omega
  have e2 : (decide (a ≥ b)) = !(ltI a b) := by rw [ltI_eq]; by_cases h : a ≥ b <;> simp [h] <;> omega
  cases op <;> first
    | rfl
    | (refine go _ _ ?_; simp only [intI, wrapF_eq, eqI_eq, ltI_eq, e1, e2, bne]; done)
    | (refine go _ _ ?_; simp only [intI, wrapF_eq]; rfl)
    | (refine go _ _ ?_; simp only [intI, wrapF_eq, eqI_eq, e1, e2, bne]; simp [ltI_eq])
def binF (E : PT Ty) (op : BinOp) (t : TypeId) (lit : Bool) (x y : AV) (objs : List Ob) : R2 :=
  Option.rec (motive := fun _ => PT Ty → BinOp → TypeId → Bool → AV → AV → List Ob → R2) (fun E op t lit x y objs => qm (binR E op t lit x y objs))
    (fun p E op t lit x y objs => Option.rec (motive := fun _ => (IntKind × Int) → PT Ty → BinOp → TypeId → Bool → AV → AV → List Ob → R2) (fun _ E op t lit x y objs => qm (binR E op t lit x y objs))
      (fun q p _ op _ _ _ _ objs => intF op p.1 q.1 p.2 q.2 objs) (diOf y) p E op t lit x y objs) (diOf x) E op t lit x y objs
theorem binF_eq (E : PT Ty) (op : BinOp) (t : TypeId) (lit : Bool) (x y : AV) (objs : List Ob) : binF E op t lit x y objs = qm (binR E op t lit x y objs) := by
  unfold binF
  cases hx : diOf x with
  | none => rfl
  | some p =>
    dsimp only
    cases hy : diOf y with
    | none => rfl
    | some q =>
      dsimp only
      rw [diOf_ok hx, diOf_ok hy]
      show intF op p.1 q.1 p.2 q.2 objs = _
      rw [intF_eq]
      rfl
def valueF (f : Operand) (args : Array Operand) (H : Hd) (frz : List Nat) (rd : Operand → AV) (objs : List Ob) (dst : Option Tmp) : R2 :=
  match rd f with
  | .d (.fn (.func g) a b) => match hintO dst frz with
    | true => (H.opn g (a.map .d ++ args.toList.map rd ++ b.map .d) objs).map fun p => (p.1, some p.2, true)
    | false => (H.call g (a.map .d ++ args.toList.map rd ++ b.map .d) objs).map fun p => (p.1, p.2, true)
  | .fn (.func g) a b => (H.call g (a ++ args.toList.map rd ++ b) objs).map fun p => (p.1, p.2, true)
  | .yl i => (H.yld i (args.toList.map rd) objs).map fun p => (p.1, some p.2, true)
  | _ => none
def appendF (args : Array Operand) (ts : Array TypeId) (E : PT Ty) (frz : List Nat) (rd : Operand → AV) (objs : List Ob) (dst : Option Tmp) : R2 :=
  match args.toList, ts.toList with
  | [s, x], [ts, tx] => (appendR E (hintV dst frz) ts tx (rd s) (rd x) objs).map fun p => (p.1, some p.2.1, p.2.2)
  | _, _ => none
abbrev BK := Array Operand → Array TypeId → OpK
def quietB (b : Builtin) : BK := fun args ts E _ _ rd objs _ => qm (evOp E rd objs (.call ⟨.builtin b, args, ts⟩))
def loudB (b : Builtin) : BK := fun args ts E _ _ rd objs _ => lm (evOp E rd objs (.call ⟨.builtin b, args, ts⟩))
def callF (c : Callee) : BK :=
  Callee.rec (motive := fun _ => BK) (fun f args _ _ H frz rd objs dst => valueF f args H frz rd objs dst) (fun r m args ts E _ _ rd objs _ => lm (evOp E rd objs (.call ⟨.invoke r m, args, ts⟩)))
    (fun b => match b with
      | .append => fun args ts E _ frz rd objs dst => appendF args ts E frz rd objs dst
      | .unsafeSliceData => quietB .unsafeSliceData | .len => quietB .len | .cap => quietB .cap | .min => quietB .min | .max => quietB .max
      | b => loudB b) c
def boxF (e : TypeId) (x : Operand) : OpK := fun E _ frz rd objs dst =>
  match (match dst with | some d => memN d frz | none => false) && (match allF (rd x).cells with | some _ => true | none => false) with
  | true => (boxER (rd x) objs).map fun p => (p.1, none, p.2.2)
  | false => (evOp E rd objs (.box e x)).map fun p => (p.1, some p.2.1, p.2.2)
def rowF (t : TypeId) (len : Nat) (parts : Array (Nat × Operand)) : OpK := fun E _ frz rd objs dst =>
  match (match dst with | some d => memN d frz | none => false) with
  | true => (buildSliceR E false t len (parts.toList.map fun p => (p.1, rd p.2)) objs).map fun p => (p.1, none, p.2.2)
  | false => match hintV dst frz with
    | true => (buildVecR E t len (parts.toList.map fun p => (p.1, rd p.2)) objs).map fun p => (p.1, some p.2.1, p.2.2)
    | false => (evOp E rd objs (.buildSlice t len parts)).map fun p => (p.1, some p.2.1, p.2.2)
def panicF (x : Operand) : OpK := fun _ _ _ rd _ _ => match rd x with
  | .d (.iface t v) => some (.pan (.iface t v), none, true)
  | _ => none
def loudO (o : Op) : OpK := fun E _ _ rd objs _ => lm (evOp E rd objs o)
def quietO (o : Op) : OpK := fun E _ _ rd objs _ => qm (evOp E rd objs o)
def sliceF (t : TypeId) (x : Operand) (lo hi : Option Operand) (mx : Option Operand) : OpK :=
  Option.rec (motive := fun _ => TypeId → Operand → Option Operand → Option Operand → OpK) (fun t x lo hi E _ _ rd objs _ => qm (sliceR E t (rd x) (lo.map rd) (hi.map rd) none objs))
    (fun mx t x lo hi => loudO (.slice t x lo hi (some mx))) mx t x lo hi
def opF : Op → OpK :=
  Op.rec (motive := fun _ => OpK)
    (fun x _ _ _ rd _ _ => pm (rd x))
    (fun x _ _ _ rd _ _ => pm (rd x))
    (fun c a b _ _ _ rd objs _ => qm (pickR (rd c) (rd a) (rd b) objs))
    (fun t E _ _ _ objs _ => lm (allocR E t objs))
    boxF
    (fun t parts E _ _ rd objs _ => qm (buildR E t (parts.toList.map fun p => (p.1, rd p.2)) objs))
    rowF
    (fun t m k v => loudO (.insert t m k v))
    (fun t a E _ _ rd objs _ => qm (loadR E t (rd a) objs))
    (fun t a v E _ _ rd objs _ => lm (storeR E t (rd a) (rd v) objs))
    (fun g => loudO (.ready g))
    (fun g => loudO (.waits g))
    (fun x _ _ _ rd objs _ => qm (nilCheckR (rd x) objs))
    (fun op t x y _ E _ _ rd objs _ => binF E op t (isC x || isC y) (rd x) (rd y) objs)
    (fun op _ x _ _ _ rd objs _ => qm (unR op (rd x) objs))
    (fun s d x => quietO (.convert s d x))
    (fun d x => loudO (.sliceToArrayPointer d x))
    (fun t x E _ _ rd objs _ => qm (mkIfaceR E t (rd x) objs))
    (fun f a b _ _ _ rd objs _ => qm (funcR f (a.toList.map rd) (b.toList.map rd) objs))
    (fun t r => loudO (.makeMap t r))
    (fun t s => loudO (.makeChan t s))
    (fun t l c => loudO (.makeSlice t l c))
    sliceF
    (fun t x f E _ _ rd objs _ => qm (fieldAddrR E t (rd x) f objs))
    (fun t x f E _ _ rd objs _ => qm (fieldR E t (rd x) f objs))
    (fun t x i E _ _ rd objs _ => qm (indexAddrR E t (rd x) (rd i) objs))
    (fun t x i E _ _ rd objs _ => qm (indexR E t (rd x) (rd i) objs))
    (fun t x i ok E _ _ rd objs _ => qm (lookupR E t (rd x) (rd i) ok objs))
    (fun t m k v => loudO (.mapUpdate t m k v))
    (fun t m k => loudO (.mapEntry t m k))
    (fun t m s v => loudO (.entryStore t m s v))
    (fun t x => loudO (.range t x))
    (fun i s => loudO (.next i s))
    (fun i => loudO (.entry i))
    (fun x t a ok E _ _ rd objs _ => qm (assertR E a ok (rd x) objs))
    (fun t i _ _ _ rd objs _ => qm (extractR (rd t) i objs))
    (fun c => callF c.callee c.args c.argTypes)
    (fun c => loudO (.go c))
    (fun c => loudO (.defer c))
    panicF
    (fun c x => loudO (.send c x))
    (fun t c ok => loudO (.recv t c ok))
    (fun cs b => loudO (.select cs b))
theorem opF_eq (E : PT Ty) (H : Hd) (frz : List Nat) (rd : Operand → AV) (objs : List Ob) (o : Oper) : opF o.op E H frz rd objs o.dst = evAny E H frz rd objs o := by
  obtain ⟨dst, op, ty, pos, after, guard⟩ := o
  cases op with
  | binOp op t x y yt => exact binF_eq E op t _ _ _ objs
  | slice t x lo hi mx => cases mx <;> rfl
  | call c =>
    obtain ⟨callee, args, ts⟩ := c
    cases callee with
    | value f => rfl
    | invoke r m => rfl
    | builtin b => cases b <;> rfl
  | _ => rfl
def guardF (ops : Array Oper) (rd : Operand → AV) (o : Oper) : Option Bool :=
  Option.rec (motive := fun _ => Array Oper → (Operand → AV) → Oper → Option Bool) (fun _ _ _ => some true) (fun _ ops rd o => guardA ops rd o) o.guard ops rd o
theorem guardF_eq (ops : Array Oper) (rd : Operand → AV) (o : Oper) : guardF ops rd o = guardA ops rd o := by
  obtain ⟨dst, op, ty, pos, after, guard⟩ := o
  cases guard <;> rfl
def setF (nt : Nat) (tm : PT AV) (dst : Option Tmp) (v : AV) : Option (PT AV) :=
  Option.rec (motive := fun _ => Nat → PT AV → AV → Option (PT AV)) (fun _ tm _ => some tm) (fun d nt tm v => Bool.rec (motive := fun _ => Option (PT AV)) none (some (setPF tm d v)) (Nat.ble (Nat.succ d) nt)) dst nt tm v
theorem setF_eq (nt : Nat) (tm : PT AV) (dst : Option Tmp) (v : AV) : setF nt tm dst v = setD nt tm dst v := by
  cases dst with
  | none => rfl
  | some d =>
    show Bool.rec (motive := fun _ => Option (PT AV)) none (some (tm.set d v)) (Nat.ble (d + 1) nt) = (match Nat.blt d nt with | true => some (tm.set d v) | false => none)
    show _ = (match Nat.ble (d + 1) nt with | true => some (tm.set d v) | false => none)
    cases Nat.ble (d + 1) nt <;> rfl
def panOf : AV → Option DV := AV.rec (motive_1 := fun _ => Option DV) (motive_2 := fun _ => Option DV) (fun _ => none) (fun _ _ => none) (fun _ _ _ => none) (fun _ _ _ _ => none) (fun _ => none) (fun _ _ _ _ _ => none) (fun _ _ => none) (fun _ _ => none) (fun _ => none)
  (fun _ _ _ _ => none) (fun x => some x) none (fun _ _ _ _ => none)
abbrev XR := Option (Ex × S)
def goX (nt : Nat) (dst : Option Tmp) (ih : S → XR) (tm : PT AV) (objs : List Ob) (dl : List Dl) (v : AV) : XR :=
  Option.rec (motive := fun _ => (S → XR) → List Ob → List Dl → XR) (fun _ _ _ => none) (fun tm ih objs dl => ih ⟨tm, objs, dl⟩) (setF nt tm dst v) ih objs dl
def ansX (nt : Nat) (o : Oper) (ih : S → XR) (s : S) (v : AV) (ob : Option (List Ob)) : XR :=
  Option.rec (motive := fun _ => Nat → Oper → (S → XR) → S → AV → Option (List Ob) → XR) (fun nt o ih s v ob => goX nt o.dst ih s.tm (ob.getD s.objs) s.dl v) (fun x _ _ _ s _ ob => some (.pan x, ⟨s.tm, ob.getD s.objs, s.dl⟩)) (panOf v) nt o ih s v ob
def slowX (E : PT Ty) (H : Hd) (nt : Nat) (df : Bool) (o : Oper) (ih : S → XR) (s : S) : XR :=
  match isDefer o.op with
  | true => match df, deferOf (rd s.tm) o.op, o.dst with
    | true, some (g, args), none => ih ⟨s.tm, s.objs, .call g args :: s.dl⟩
    | _, _, _ => none
  | false => none
def doX (E : PT Ty) (H : Hd) (frz : List Nat) (nt : Nat) (df : Bool) (o : Oper) (ih : S → XR) (s : S) : XR :=
  Option.rec (motive := fun _ => PT Ty → Hd → Nat → Bool → Oper → (S → XR) → S → XR) slowX
    (fun p _ _ nt _ o ih s => Prod.rec (motive := fun _ => Nat → Oper → (S → XR) → S → XR)
      (fun v q nt o ih s => Prod.rec (motive := fun _ => AV → Nat → Oper → (S → XR) → S → XR) (fun ob fl v nt o ih s => Bool.rec (motive := fun _ => XR) none (ansX nt o ih s v ob) fl) q v nt o ih s) p nt o ih s)
    (opF o.op E H frz (rdF s.tm) s.objs o.dst) E H nt df o ih s
def skipX (nt : Nat) (o : Oper) (ih : S → XR) (s : S) : XR := goX nt o.dst ih s.tm s.objs s.dl (.tup [])
def stepX (E : PT Ty) (H : Hd) (frz : List Nat) (nt : Nat) (df : Bool) (ops : Array Oper) (o : Oper) (_ : List Oper) (ih : S → XR) (s : S) : XR :=
  Option.rec (motive := fun _ => PT Ty → Hd → List Nat → Nat → Bool → Oper → (S → XR) → S → XR) (fun _ _ _ _ _ _ _ _ => none)
    (fun b => Bool.rec (motive := fun _ => PT Ty → Hd → List Nat → Nat → Bool → Oper → (S → XR) → S → XR) (fun _ _ _ nt _ o ih s => skipX nt o ih s) doX b) (guardF ops (rdF s.tm) o) E H frz nt df o ih s
def nilX (s : S) : XR := some (.normal, s)
def evOpsXF (E : PT Ty) (H : Hd) (frz : List Nat) (nt : Nat) (df : Bool) (ops : Array Oper) (l : List Oper) (s : S) : XR :=
  List.rec (motive := fun _ => S → XR) nilX (stepX E H frz nt df ops) l s
theorem goX_eq (nt : Nat) (dst : Option Tmp) (ih : S → XR) (tm : PT AV) (objs : List Ob) (dl : List Dl) (v : AV) : goX nt dst ih tm objs dl v = match setD nt tm dst v with | some tm => ih ⟨tm, objs, dl⟩ | none => none := by
  unfold goX
  rw [setF_eq]
  cases setD nt tm dst v <;> rfl
theorem ansX_eq (nt : Nat) (o : Oper) (ih : S → XR) (s : S) (v : AV) (ob : Option (List Ob)) : ansX nt o ih s v ob = match v with
    | .pan x => some (.pan x, ⟨s.tm, ob.getD s.objs, s.dl⟩)
    | v => match setD nt s.tm o.dst v with | some tm => ih ⟨tm, ob.getD s.objs, s.dl⟩ | none => none := by
  unfold ansX
  cases v <;> first | rfl | exact goX_eq _ _ _ _ _ _ _
theorem evAny_defer {E : PT Ty} {H : Hd} {frz : List Nat} {rd : Operand → AV} {objs : List Ob} {o : Oper} (h : isDefer o.op = true) : evAny E H frz rd objs o = none := by
  obtain ⟨dst, op, ty, pos, after, guard⟩ := o
  cases op <;> first | (cases h; done) | rfl
theorem doX_eq (E : PT Ty) (H : Hd) (frz : List Nat) (nt : Nat) (df : Bool) (o : Oper) (ih : S → XR) (s : S) : doX E H frz nt df o ih s =
    match isDefer o.op with
      | true => match df, deferOf (rd s.tm) o.op, o.dst with
        | true, some (g, args), none => ih ⟨s.tm, s.objs, .call g args :: s.dl⟩
        | _, _, _ => none
      | false => match evAny E H frz (rd s.tm) s.objs o with
        | some (v, ob, true) => match v with
          | .pan x => some (.pan x, ⟨s.tm, ob.getD s.objs, s.dl⟩)
          | v => match setD nt s.tm o.dst v with
            | some tm => ih ⟨tm, ob.getD s.objs, s.dl⟩
            | none => none
        | _ => none := by
  unfold doX
  rw [rdF_eq, opF_eq]
  cases hd : isDefer o.op with
  | true =>
    rw [evAny_defer hd]
    show slowX E H nt df o ih s = _
    unfold slowX
    rw [hd]
  | false =>
    cases hv : evAny E H frz (rd s.tm) s.objs o with
    | none =>
      show slowX E H nt df o ih s = _
      unfold slowX
      rw [hd]
    | some p =>
      obtain ⟨v, ob, fl⟩ := p
      cases fl with
      | false => rfl
      | true => exact ansX_eq nt o ih s v ob
theorem evOpsXF_eq (E : PT Ty) (H : Hd) (frz : List Nat) (nt : Nat) (df : Bool) (ops : Array Oper) : ∀ (l : List Oper) (s : S), evOpsXF E H frz nt df ops l s = evOpsX E H frz nt df ops l s
  | [], s => rfl
  | o :: l, s => by
    show stepX E H frz nt df ops o l (evOpsXF E H frz nt df ops l) s = _
    have hl : evOpsXF E H frz nt df ops l = evOpsX E H frz nt df ops l := funext fun s => evOpsXF_eq E H frz nt df ops l s
    rw [hl]
    unfold stepX evOpsX
    rw [rdF_eq, guardF_eq]
    cases hg : guardA ops (rd s.tm) o with
    | none => rfl
    | some b =>
      cases b with
      | true => exact doX_eq E H frz nt df o _ s
      | false => exact goX_eq _ _ _ _ _ _ _
abbrev CK := PT Ty → Hd → List Nat → Nat → Option Nat → (Code → S → XR) → S → XR
def seqK (ih : Code → S → XR) (b : Code) (r : XR) : XR :=
  Option.rec (motive := fun _ => (Code → S → XR) → Code → XR) (fun _ _ => none)
    (fun p => Prod.rec (motive := fun _ => (Code → S → XR) → Code → XR) (fun e s1 => Ex.rec (motive := fun _ => S → (Code → S → XR) → Code → XR) (fun s ih b => ih b s) (fun i s _ _ => some (.exit i, s)) (fun l s _ _ => some (.goto l, s)) (fun s _ _ => some (.ret, s)) (fun x s _ _ => some (.pan x, s)) e s1) p) r ih b
def blockK (id : Nat) (r : XR) : XR :=
  Option.rec (motive := fun _ => Nat → XR) (fun _ => none)
    (fun p => Prod.rec (motive := fun _ => Nat → XR) (fun e s1 => Ex.rec (motive := fun _ => S → Nat → XR) (fun s _ => some (.normal, s)) (fun i s id => Bool.rec (motive := fun _ => XR) (some (.exit i, s)) (some (.normal, s)) (Nat.beq i id)) (fun l s _ => some (.goto l, s)) (fun s _ => some (.ret, s)) (fun x s _ => some (.pan x, s)) e s1) p) r id
def scopeK (r : XR) : XR := match r with
  | some (.goto _, _) => none
  | r => r
def bOf : DV → Option Bool := fun x => DV.casesOn (motive_1 := fun _ => Option Bool) x none (fun b => some b) (fun _ _ => none) (fun _ => none) none none none none none (fun _ _ => none) (fun _ => none) (fun _ _ _ => none) (fun _ => none) (fun _ _ => none)
def boolOf (x : AV) : Option Bool := Option.rec (motive := fun _ => Option Bool) none bOf (dOf x)
def condK (c : Option Bool) (a b : Code) (ih : Code → S → XR) (s : S) : XR :=
  Option.rec (motive := fun _ => Code → Code → (Code → S → XR) → S → XR) (fun _ _ _ _ => none) (fun t => Bool.rec (motive := fun _ => Code → Code → (Code → S → XR) → S → XR) (fun _ b ih s => ih b s) (fun a _ ih s => ih a s) t) c a b ih s
theorem condK_eq (v : AV) (a b : Code) (ih : Code → S → XR) (s : S) : condK (boolOf v) a b ih s = match v with
    | .d (.bool true) => ih a s
    | .d (.bool false) => ih b s
    | _ => none := by
  cases v with
  | d x => cases x with
    | bool t => cases t <;> rfl
    | _ => rfl
  | _ => rfl
def rangeK (f : Operand) (ps : Array Tmp) (assign body : Code) (H : Hd) (frz : List Nat) (nt : Nat) (ro : Option Nat) (s : S) : XR :=
  match rd s.tm f with
  | .d (.fn (.func g) a b) => evCode.rangeA H frz nt ro g (a.map .d) (b.map .d) ps assign body s
  | .fn (.func g) a b => evCode.rangeA H frz nt ro g a b ps assign body s
  | _ => none
def codeF : Code → CK :=
  Code.rec (motive := fun _ => CK)
    (fun _ _ _ _ _ _ s => some (.normal, s))
    (fun _ ops draw E H frz nt ro _ s => Bool.rec (motive := fun _ => PT Ty → Hd → List Nat → Nat → Option Nat → Array Oper → S → XR) (fun E H frz nt ro ops s => evOpsXF E H frz nt (noRound ro) ops ops.toList s) (fun E H frz nt _ ops s => evDraw E H frz nt ops s) draw E H frz nt ro ops s)
    (fun a b _ _ _ _ _ _ _ ih s => seqK ih b (ih a s))
    (fun c a b _ _ _ _ _ _ _ ih s => condK (boolOf (rdF s.tm c)) a b ih s)
    (fun id b _ _ _ _ _ _ ih s => blockK id (ih b s))
    (fun b _ _ _ _ _ _ ih s => seqK ih (.loop b) (ih b s))
    (fun f ps assign body _ _ _ H frz nt ro _ s => rangeK f ps assign body H frz nt ro s)
    (fun id _ _ _ _ _ _ s => some (.exit id, s))
    (fun b _ _ _ _ _ _ ih s => scopeK (ih b s))
    (fun _ _ _ _ _ _ _ s => some (.normal, s))
    (fun _ _ _ _ _ _ _ _ => none)
    (fun _ _ _ _ _ _ s => some (.ret, s))
    (fun _ _ _ _ _ _ _ _ => none)
def evCodeF (E : PT Ty) (H : Hd) (frz : List Nat) (nt : Nat) (ro : Option Nat) (n : Nat) : Code → S → XR :=
  Nat.rec (motive := fun _ => Code → S → XR) (fun _ _ => none) (fun _ ih c s => codeF c E H frz nt ro ih s) n
theorem seqK_eq (ih : Code → S → XR) (b : Code) (r : XR) : seqK ih b r = match r with | some (.normal, s1) => ih b s1 | r => r := by
  cases r with
  | none => rfl
  | some p => obtain ⟨e, s⟩ := p; cases e <;> rfl
theorem blockK_eq (id : Nat) (r : XR) : blockK id r = match r with
    | some (.exit id', s1) => match Nat.beq id' id with
      | true => some (.normal, s1)
      | false => some (.exit id', s1)
    | r => r := by
  cases r with
  | none => rfl
  | some p =>
    obtain ⟨e, s⟩ := p
    cases e with
    | exit i =>
      show Bool.rec (motive := fun _ => XR) (some (.exit i, s)) (some (.normal, s)) (Nat.beq i id) = match Nat.beq i id with
        | true => some (.normal, s)
        | false => some (.exit i, s)
      cases Nat.beq i id <;> rfl
    | _ => rfl
theorem evCodeF_eq (E : PT Ty) (H : Hd) (frz : List Nat) (nt : Nat) (ro : Option Nat) : ∀ (n : Nat), evCodeF E H frz nt ro n = evCode E H frz nt ro n
  | 0 => by funext c s; rfl
  | n + 1 => by
    funext c s
    show codeF c E H frz nt ro (evCodeF E H frz nt ro n) s = _
    rw [evCodeF_eq E H frz nt ro n]
    unfold codeF
    rw [rdF_eq]
    cases c with
    | region id ops draw =>
      cases draw with
      | true => rfl
      | false => exact evOpsXF_eq E H frz nt (noRound ro) ops ops.toList s
    | seq a b => exact seqK_eq _ b _
    | loop b => exact seqK_eq _ (.loop b) _
    | block id b => exact blockK_eq id _
    | cond c a b => exact condK_eq _ a b _ s
    | _ => rfl
def evCallF (E : PT Ty) (F : FuncId → Option FnI) (H : Hd) (n : Nat) (f : FuncId) (args : List AV) (objs : List Ob) : Option (AV × List Ob) :=
  match F f with
  | some i =>
    match Nat.beq args.length i.np && Nat.ble i.np i.nt with
    | true =>
      match evCodeF E H i.frz i.nt none n i.body ⟨initTm 0 args .nil, objs, []⟩ with
      | some (e, s) =>
        match (match e with | .normal => some none | .ret => some none | .pan x => some (some x) | _ => none) with
        | some m => match evLeave H s.dl m s.objs with
          | some (none, objs') => match evResults E ⟨s.tm, objs', []⟩ i.results with
            | some r => some (r, objs')
            | none => none
          | some (some x, objs') => some (.pan x, objs')
          | none => none
        | none => none
      | none => none
    | false => none
  | none => none
theorem evCallF_eq : @evCallF = @evCall := by
  funext E F H n f args objs
  unfold evCallF evCall
  simp only [evCodeF_eq]
  rfl
def evYieldF (E : PT Ty) (H : Hd) (n : Nat) (i : Nat) (args : List AV) (objs : List Ob) : Option (AV × List Ob) :=
  match objs[i]? with
  | some (.loop tm nt frz ps assign body .ready _) =>
    match Nat.beq args.length ps.size && ps.toList.all (fun t => Nat.blt t nt) with
    | true =>
      match evCodeF E H frz nt (some i) n assign ⟨setTms tm (ps.toList.zip args), objs, []⟩ with
      | some (.normal, s1) =>
        match s1.objs[i]? with
        | some (.loop tm' nt' frz' ps' as' bd' .ready pend') =>
          match evCodeF E H frz nt (some i) n body ⟨s1.tm, s1.objs.set i (.loop tm' nt' frz' ps' as' bd' .busy pend'), s1.dl⟩ with
          | some (e, s2) =>
            match s2.objs[i]? with
            | some (.loop tm'' nt'' frz'' ps'' as'' bd'' _ _) =>
              match e with
              | .normal => some (.d (.bool true), s2.objs.set i (.loop tm'' nt'' frz'' ps'' as'' bd'' .ready none))
              | .pan _ => none
              | e => some (.d (.bool false), s2.objs.set i (.loop tm'' nt'' frz'' ps'' as'' bd'' .done (jumpOf e)))
            | _ => none
          | none => none
        | _ => none
      | _ => none
    | false => none
  | _ => none
theorem evYieldF_eq : @evYieldF = @evYield := by
  funext E H n i args objs
  unfold evYieldF evYield
  simp only [evCodeF_eq]
  rfl
def evPureF (E : PT Ty) (F : FuncId → Option FnI) (H : Hd) (n : Nat) (f : FuncId) (args : List AV) : Option AV :=
  match allF args with
  | some ds => match evCallF E F H n f (ds.map .d) [] with
    | some (r, o) => closeA o 8 r
    | none => none
  | none => none
def evLentF (E : PT Ty) (F : FuncId → Option FnI) (H : Hd) (n : Nat) (f : FuncId) (args : List AV) (objs : List Ob) : Option AV :=
  match allM (dvOf objs 8) args with
  | some ds => match evCallF E F H n f (ds.map .d) [] with
    | some (r, _) => match flatAV r with
      | true => some r
      | false => none
    | none => none
  | none => none
def evBothF (E : PT Ty) (F : FuncId → Option FnI) (H : Hd) (n : Nat) (f : FuncId) (args : List AV) (objs : List Ob) : Option (AV × Option (List Ob)) :=
  match (match F f with | some i => memN 200000 i.frz | none => false) with
  | true => (evCallF E F H n f args objs).map fun p => (p.1, some p.2)
  | false => match allClosed args with
    | true => match evPureF E F H n f args with
      | some r => some (r, none)
      | none => (evCallF E F H n f args objs).map fun p => (p.1, some p.2)
    | false => match (match F f with | some i => memN 200001 i.frz | none => false) with
      | true => (evLentF E F H n f args objs).map fun r => (r, some objs)
      | false => (evCallF E F H n f args objs).map fun p => (p.1, some p.2)
theorem evBothF_eq : @evBothF = @evBoth := by
  funext E F H n f args objs
  unfold evBothF evBoth evPureF evPure evLentF evLent
  simp only [evCallF_eq]
  rfl
def evLookF (T : Memo) (E : PT Ty) (F : FuncId → Option FnI) (H : Hd) (n : Nat) (f : FuncId) (args : List AV) (objs : List Ob) : Option (AV × Option (List Ob)) :=
  match look T f args with
  | some r => some (r, none)
  | none => match (match allClosed args with | true => false | false => match F f with | some i => memN 200001 i.frz | none => false) with
    | true => match allM (dvOf objs 8) args with
      | some ds => match look T f (ds.map .d) with
        | some r => match flatAV r with
          | true => some (r, some objs)
          | false => none
        | none => evBothF E F H n f args objs
      | none => none
    | false => evBothF E F H n f args objs
theorem evLookF_eq : @evLookF = @evLook := by
  funext T E F H n f args objs
  unfold evLookF evLook
  simp only [evBothF_eq] <;> rfl
def hdlF (T : Memo) (E : PT Ty) (F : FuncId → Option FnI) (k n : Nat) : Hd :=
  Nat.rec (motive := fun _ => Hd) ⟨fun _ _ _ => none, fun _ _ _ => none, fun _ _ _ => none, fun _ _ _ _ => none⟩ (fun _ h => ⟨evLookF T E F h k, evYieldF E h k, fun f args objs => evOpn E F f args objs (evCallF E F h k f args objs), evDefer E F h k⟩) n
theorem hdlF_eq (T : Memo) (E : PT Ty) (F : FuncId → Option FnI) (k : Nat) : ∀ n, hdlF T E F k n = hdlM T E F k n
  | 0 => rfl
  | n + 1 => by
    show (⟨evLookF T E F (hdlF T E F k n) k, evYieldF E (hdlF T E F k n) k, fun f args objs => evOpn E F f args objs (evCallF E F (hdlF T E F k n) k f args objs), evDefer E F (hdlF T E F k n) k⟩ : Hd) = _
    rw [hdlF_eq T E F k n, evLookF_eq, evYieldF_eq, evCallF_eq]
    rfl
theorem knownF {P : Program} {E : PT Ty} {T : Memo} (hT : MemoOK P T) (hE : EnvOK P E) (hm : P.follows .mixedOrders = true) {F : FuncId → Option FnI} (hF : FnsOK P F) {k n : Nat} {f : FuncId} {args : List DV} {r : AV}
    (h : evBothF E F (hdlF T E F k n) k f (args.map .d) [] = some (r, none)) : KnownCall P f args r := by
  rw [evBothF_eq, hdlF_eq] at h
  exact known hT hE hm hF h
end Go.Av
end

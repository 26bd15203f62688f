/-
  Parts of the way to the law, joined. Conditions stand at each.
-/
import Derived.Test.YtpcomlcjkdmggaaGreatMFA2
import Derived.KernelRfl
import Derived.Carry
import Derived.OpenShut
import Derived.SizedLaws
import Derived.Maps.RangeRun
set_option linter.all false
noncomputable section
namespace Go.Av
open Go
def yieldOf (rd : Operand → AV) : Op → Option (Nat × List AV)
  | .call { callee := .value f, args, .. } => match rd f with
    | .yl i => some (i, args.toList.map rd)
    | _ => none
  | _ => none
section
variable {P : Program} {E : PT Ty} {frz : List Nat} {nt m : Nat} {ro' : Option Nat} {K : Ex → S → Prop} {s : S} {ops : Array Oper} {l : List Oper} {o : Oper}
theorem yield_does {rd : Operand → AV} {i : Nat} {args : List AV} {objs objs' : List Ob} {r : AV} (h : yieldOf rd o.op = some (i, args)) (hA : AYield P i args objs r objs') : OpDoes P o rd objs r objs' := by
  unfold yieldOf at h
  split at h
  · rename_i f as ts ho
    split at h
    · rename_i j hf
      simp only [Option.some.injEq, Prod.mk.injEq] at h
      obtain ⟨rfl, rfl⟩ := h
      exact does_yield ho hf hA
    · cases h
  · cases h
theorem RunOps.yield {i : Nat} {args : List AV} {r : AV} {objs' : List Ob} {tm : PT AV} (hg : guardA ops (rd s.tm) o = some true) (hc : yieldOf (rd s.tm) o.op = some (i, args)) (hA : AYield P i args s.objs r objs')
    (hp : isPan r = false) (ht : setD nt s.tm o.dst r = some tm) (k : RunOps P nt m ro' ops l ⟨tm, objs', s.dl⟩ K) : RunOps P nt m ro' ops (o :: l) s K :=
  RunOps.does hg (yield_does hc hA) hp ht k
theorem store_last {E : PT Ty} {t : TypeId} {y : Ty} (hy : E.get? t = some y) (o1 : List Ob) (cs : List AV) {v : AV} (hk : knownA v = true) (hl : Nat.beq v.cells.length y.size = true) (hc : Nat.beq cs.length y.size = true) :
    storeR E t (.bp o1.length 0) v (o1 ++ [.box cs]) = some (.d .any, o1 ++ [.box v.cells], true) := by
  have e1 := Nat.eq_of_beq_eq_true hl
  have e2 := Nat.eq_of_beq_eq_true hc
  have hget : (o1 ++ [Ob.box cs])[o1.length]? = some (.box cs) := by simp
  have hset : (o1 ++ [Ob.box cs]).set o1.length (.box (cs.take 0 ++ v.cells ++ cs.drop (0 + y.size))) = o1 ++ [.box v.cells] := by
    rw [List.set_append_right _ _ (Nat.le_refl _)]
    simp [← e2]
  simp only [storeR, hy, hget, obCells, obPut, hk, hl, Nat.zero_add, e2, Nat.ble_eq_true_of_le (Nat.le_refl _), Bool.and_self, if_true, pureR]
  rw [Nat.zero_add] at hset
  rw [hset]
theorem load_last {E : PT Ty} {t : TypeId} {y : Ty} (hy : E.get? t = some y) (ha : isAggT y.desc = true) (o1 : List Ob) (cs : List AV) (hc : Nat.beq cs.length y.size = true) :
    loadR E t (.bp o1.length 0) (o1 ++ [.box cs]) = some (mkAgg cs, o1 ++ [.box cs], true) := by
  have e2 := Nat.eq_of_beq_eq_true hc
  have hget : (o1 ++ [Ob.box cs])[o1.length]? = some (.box cs) := by simp
  simp only [loadR, hy, hget, obCells, ha, Nat.zero_add, e2, Nat.ble_eq_true_of_le (Nat.le_refl _), if_true, pureR, List.drop_zero]
  rw [List.take_of_length_le (by omega)]
theorem ayield_of_run {i : Nat} {args : List AV} {objs objs' : List Ob} {r : AV} {tm : PT AV} {nt : Nat} {frz : List Nat} {ps : Array Tmp} {assign body : Code} {pend : Option Code}
    (ho : objs[i]? = some (.loop tm nt frz ps assign body .ready pend)) (hlen : args.length = ps.size) (hlt : ps.toList.all (fun t => Nat.blt t nt) = true)
    (h : Run P nt objs.length (some i) assign ⟨setTms tm (ps.toList.zip args), objs, []⟩ (fun e s1 => e = .normal ∧ ∃ tm' nt' frz' ps' as' bd' pend', s1.objs[i]? = some (.loop tm' nt' frz' ps' as' bd' .ready pend') ∧
      Run P nt objs.length (some i) body ⟨s1.tm, s1.objs.set i (.loop tm' nt' frz' ps' as' bd' .busy pend'), s1.dl⟩ (fun e s2 => ∃ tm'' nt'' frz'' ps'' as'' bd'' st'' pend'', s2.objs[i]? = some (.loop tm'' nt'' frz'' ps'' as'' bd'' st'' pend'') ∧
        match e with
        | .normal => r = .d (.bool true) ∧ objs' = s2.objs.set i (.loop tm'' nt'' frz'' ps'' as'' bd'' .ready none)
        | .pan _ => False
        | e => r = .d (.bool false) ∧ objs' = s2.objs.set i (.loop tm'' nt'' frz'' ps'' as'' bd'' .done (jumpOf e))))) : AYield P i args objs r objs' := by
  intro D β w vs bi hp hb hr
  simp only [List.all_eq_true] at hlt
  have hlt : ∀ t ∈ ps.toList, t < nt := fun t ht => by have := hlt t ht; rw [Nat.blt_eq] at this; exact this
  obtain ⟨lp, g1, g2, g3, g4, g5, g6, g7, g8⟩ := loop_set hp hb ho
  refine ⟨lp.fn, _, lp.assign, lp.body, run_yield g1 (by rw [g4, hr.1]; exact hlen), roundIn_of_wpIn (F := FW none) trivial ?_⟩
  rw [g4, g5, g6]
  have hro : RoOK β (some i) (some bi.blk) := ⟨bi, hb, rfl⟩
  have hm : β.length ≤ objs.length := by rw [hp.len]; exact Nat.le_refl _
  have sim0 : Sim D β objs w nt ⟨setTms tm (ps.toList.zip args), objs, []⟩ { tmps := (ps.zip vs).foldl (fun tmps (t, a) => tmps.setIfInBounds t a) lp.tmps, defers := [] } w := by
    refine ⟨D, β, Step.refl hp, ?_, trivial⟩
    have := setTms_ok ps.toList args vs.toList tm lp.tmps (by simp [hlen]) (by simp [hr.1]) hlt (fun j c v hc hv => hr.2 j c v hc (by simpa using hv)) g7
    have e : (ps.zip vs).foldl (fun tmps (t, a) => tmps.setIfInBounds t a) lp.tmps = (ps.toList.zip vs.toList).foldl (fun tmps (t, a) => tmps.setIfInBounds t a) lp.tmps := by
      rw [← Array.foldl_toList, Array.toList_zip]
    simp only [e]
    exact this
  refine h D β objs w hm (some bi.blk) _ _ _ hro (fun e s1 hk => ?_) sim0
  obtain ⟨rfl, tm', nt', frz', ps', as', bd', pend', ho1, hbody⟩ := hk
  refine ⟨fun a1 w1 _ hs1 => ?_, fun x hx => by cases hx⟩
  obtain ⟨D1, β1, q1, q2, q3⟩ := hs1
  obtain ⟨y1, hy1, hx1⟩ := q1.bext _ _ hb
  obtain ⟨lp1, k1, k2, k3, k4, k5, k6, k7, k8⟩ := loop_set q1.heap hy1 ho1
  rw [hx1.1] at k1 k8
  have hbeg := run_beginRound (P := P) k1 k2
  refine ⟨_, hbeg, ?_⟩
  have st1 := k8 .busy pend'
  have hlp1 : ({ lp1 with state := .busy, pending := pend' } : Loop) = { lp1 with state := .busy } := by rw [← k3]
  rw [hlp1] at st1
  refine hbody D β objs w hm (some bi.blk) _ _ _ hro (fun e s2 hk2 => ?_) ⟨D1, β1, q1.trans st1, q2, q3⟩
  obtain ⟨tm'', nt'', frz'', ps'', as'', bd'', st'', pend'', ho2, hfin⟩ := hk2
  refine ⟨fun a2 w2 _ hs2 => ?_, fun x hx => by subst hx; exact hfin.elim⟩
  obtain ⟨D2, β2, t1, t2, t3⟩ := hs2
  obtain ⟨y2, hy2, hx2⟩ := t1.bext _ _ hb
  obtain ⟨lp2, m1, m2, m3, m4, m5, m6, m7, m8⟩ := loop_set t1.heap hy2 ho2
  rw [hx2.1] at m1 m8
  cases e with
  | normal =>
    obtain ⟨rfl, rfl⟩ := hfin
    exact ⟨_, _, run_endRound none m1, .inl ⟨_, D2, β2, rfl, t1.trans (m8 .ready none), .d .bool⟩⟩
  | exit id =>
    obtain ⟨rfl, rfl⟩ := hfin
    exact ⟨_, _, run_endRound (some (.exit id)) m1, .inl ⟨_, D2, β2, rfl, t1.trans (m8 .done (some (.exit id))), .d .bool⟩⟩
  | goto l =>
    obtain ⟨rfl, rfl⟩ := hfin
    exact ⟨_, _, run_endRound (some (.goto l)) m1, .inl ⟨_, D2, β2, rfl, t1.trans (m8 .done (some (.goto l))), .d .bool⟩⟩
  | pan x => exact hfin.elim
  | ret =>
    obtain ⟨rfl, rfl⟩ := hfin
    exact ⟨_, _, run_endRound (some .ret) m1, .inl ⟨_, D2, β2, rfl, t1.trans (m8 .done (some .ret)), .d .bool⟩⟩
abbrev rangeObs (objs : List Ob) (tm : PT AV) (nt : Nat) (frz : List Nat) (ps : Array Tmp) (assign body : Code) (st : LoopState) (pend : Option Code) : List Ob :=
  objs ++ [.raw (.deferred (some []))] ++ [.loop tm nt frz ps assign body st pend]
theorem Run.range (hE : EnvOK P E) (hm : P.follows .mixedOrders = true) {f : Operand} {g : FuncId} {a b : List DV} {ps : Array Tmp} {assign body : Code} {r : AV} {objs2 : List Ob} {tm' : PT AV} {nt' : Nat} {frz' : List Nat} {ps' : Array Tmp} {as' bd' : Code}
    {st : LoopState} {pend : Option Code} (hf : rd s.tm f = .d (.fn (.func g) a b))
    (hA : ACall P g (a.map .d ++ [.yl (s.objs.length + 1)] ++ b.map .d) (rangeObs s.objs s.tm nt frz ps assign body .ready none) r objs2) (hp : isPan r = false)
    (h2 : objs2[s.objs.length + 1]? = some (.loop tm' nt' frz' ps' as' bd' st pend)) (hst : st ≠ .busy)
    (k : match pend with
      | none => K .normal ⟨s.tm, objs2.set (s.objs.length + 1) (.loop tm' nt' frz' ps' as' bd' .exhausted pend), .mark s.objs.length :: s.dl⟩
      | some .ret => K .ret ⟨s.tm, objs2.set (s.objs.length + 1) (.loop tm' nt' frz' ps' as' bd' .exhausted pend), .mark s.objs.length :: s.dl⟩
      | some (.exit id) => K (.exit id) ⟨s.tm, objs2.set (s.objs.length + 1) (.loop tm' nt' frz' ps' as' bd' .exhausted pend), .mark s.objs.length :: s.dl⟩
      | _ => False) : Run P nt m none (.rangeFunc f ps assign body) s K := by
  have hH : HOK P (oneH g (a.map .d ++ [.yl (s.objs.length + 1)] ++ b.map .d) (rangeObs s.objs s.tm nt frz ps assign body .ready none) r (some objs2)) :=
    oneH_ok (fun o' e => by cases e; exact hA) (fun e => by cases e)
  have hcall : (oneH g (a.map .d ++ [.yl (s.objs.length + 1)] ++ b.map .d) (rangeObs s.objs s.tm nt frz ps assign body .ready none) r (some objs2)).call g (a.map .d ++ [.yl (s.objs ++ [Ob.raw (.deferred (some []))]).length] ++ b.map .d)
      (s.objs ++ [.raw (.deferred (some []))] ++ [.loop s.tm nt frz ps assign body .ready none]) = some (r, some objs2) := by
    have e : (s.objs ++ [Ob.raw (.deferred (some []))]).length = s.objs.length + 1 := by simp
    rw [e]
    exact oneH_call
  have e1 : (s.objs ++ [Ob.raw (.deferred (some []))]).length = s.objs.length + 1 := by simp
  have hev : ∀ x, evCode.jumpTo pend ⟨s.tm, objs2.set (s.objs.length + 1) (.loop tm' nt' frz' ps' as' bd' .exhausted pend), .mark s.objs.length :: s.dl⟩ = some x →
      evCode E (oneH g (a.map .d ++ [.yl (s.objs.length + 1)] ++ b.map .d) (rangeObs s.objs s.tm nt frz ps assign body .ready none) r (some objs2)) frz nt none 1 (.rangeFunc f ps assign body) s = some x := by
    intro x hx
    simp only [evCode, hf, evCode.rangeA, evCode.rangeB]
    rw [hcall]
    simp only [hp, e1, h2]
    cases st with
    | busy => exact absurd rfl hst
    | _ => exact hx
  cases pend with
  | none => exact Run.ev hE hm hH (hev _ rfl) k
  | some c => cases c with
    | ret => exact Run.ev hE hm hH (hev _ rfl) k
    | exit id => exact Run.ev hE hm hH (hev _ rfl) k
    | _ => exact k.elim
end
def boolOp : Op → Bool
  | .binOp k _ _ _ _ => match k with
    | .eql | .neq | .lss | .leq | .gtr | .geq => true
    | _ => false
  | .unOp .not _ _ => true
  | .lookup _ _ _ false => true
  | .indexAddr _ _ _ => false
  | _ => false
section
variable {P : Program} {E : PT Ty} {frz : List Nat} {nt m : Nat} {ro' : Option Nat} {K : Ex → S → Prop} {s : S} {ops : Array Oper} {l : List Oper} {o : Oper}
theorem Run.condT {c : Operand} {x y : Code} (hc : rd s.tm c = .d (.bool true)) (h1 : Run P nt m ro' x s K) : Run P nt m ro' (.cond c x y) s K := Run.cond hc (fun _ => h1) (fun h => by cases h)
theorem Run.condF {c : Operand} {x y : Code} (hc : rd s.tm c = .d (.bool false)) (h1 : Run P nt m ro' y s K) : Run P nt m ro' (.cond c x y) s K := Run.cond hc (fun h => by cases h) (fun _ => h1)
theorem RunOps.xb (hE : EnvOK P E) {tm tm1 tm0 : PT AV} {objs objs' : List Ob} {dl : List Dl} {b : Bool} {ob : Option (List Ob)} {fl : Bool} (hb : boolOp o.op = true) (hg : guardA ops (rd tm) o = some true)
    (hv : evAny E H0 frz (rd tm) objs o = some (.d (.bool b), ob, fl)) (hf : fl = true) (ho : ob.getD objs = objs') (ht1 : setD nt tm o.dst (.d (.bool true)) = some tm1) (ht0 : setD nt tm o.dst (.d (.bool false)) = some tm0)
    (k1 : b = true → RunOps P nt m ro' ops l ⟨tm1, objs', dl⟩ K) (k0 : b = false → RunOps P nt m ro' ops l ⟨tm0, objs', dl⟩ K) : RunOps P nt m ro' ops (o :: l) ⟨tm, objs, dl⟩ K := by
  cases b with
  | true => exact RunOps.x hE hg hv hf rfl ho rfl ht1 (k1 rfl)
  | false => exact RunOps.x hE hg hv hf rfl ho rfl ht0 (k0 rfl)
theorem EvD.xb {tm tm1 tm0 : PT AV} {objs objs' : List Ob} {dl : List Dl} {s0 : S} {i : Nat} {acc : List Eff} {G : S → Prop} {b : Bool} {ob : Option (List Ob)} {fl : Bool} (hb : boolOp o.op = true) (hg : guardA ops (rd tm) o = some true)
    (hv : evAny E H0 frz (rd tm) objs o = some (.d (.bool b), ob, fl)) (hf : fl = true) (ho : ob.getD objs = objs') (ht1 : setD nt tm o.dst (.d (.bool true)) = some tm1) (ht0 : setD nt tm o.dst (.d (.bool false)) = some tm0)
    (k1 : b = true → EvD P E frz nt ops s0 (i + 1) (acc ++ [effOf (rd tm) objs o ob]) l ⟨tm1, objs', dl⟩ G) (k0 : b = false → EvD P E frz nt ops s0 (i + 1) (acc ++ [effOf (rd tm) objs o ob]) l ⟨tm0, objs', dl⟩ G) : EvD P E frz nt ops s0 i acc (o :: l) ⟨tm, objs, dl⟩ G := by
  cases b with
  | true => exact EvD.x hg hv hf rfl ho rfl ht1 (k1 rfl)
  | false => exact EvD.x hg hv hf rfl ho rfl ht0 (k0 rfl)
theorem RunOps.kc {tm tm' : PT AV} {objs : List Ob} {dl : List Dl} {g : FuncId} {ds : List DV} {r : AV} (hK : KnownCall P g ds r) (hg : guardA ops (rd tm) o = some true) (hc : callOf (rd tm) o.op = some (g, ds.map .d))
    (hp : isPan r = false) (ht : setD nt tm o.dst r = some tm') (k : RunOps P nt m ro' ops l ⟨tm', objs, dl⟩ K) : RunOps P nt m ro' ops (o :: l) ⟨tm, objs, dl⟩ K :=
  RunOps.call hg hc (hK objs) hp ht k
theorem RunOps.kb {tm tm1 tm0 : PT AV} {objs : List Ob} {dl : List Dl} {g : FuncId} {ds : List DV} {b : Bool} (hK : KnownCall P g ds (.d (.bool b))) (hg : guardA ops (rd tm) o = some true) (hc : callOf (rd tm) o.op = some (g, ds.map .d))
    (ht1 : setD nt tm o.dst (.d (.bool true)) = some tm1) (ht0 : setD nt tm o.dst (.d (.bool false)) = some tm0)
    (k1 : b = true → RunOps P nt m ro' ops l ⟨tm1, objs, dl⟩ K) (k0 : b = false → RunOps P nt m ro' ops l ⟨tm0, objs, dl⟩ K) : RunOps P nt m ro' ops (o :: l) ⟨tm, objs, dl⟩ K := by
  cases b with
  | true => exact RunOps.kc hK hg hc rfl ht1 (k1 rfl)
  | false => exact RunOps.kc hK hg hc rfl ht0 (k0 rfl)
theorem EvD.kc {tm tm' : PT AV} {objs : List Ob} {dl : List Dl} {s0 : S} {i : Nat} {acc : List Eff} {G : S → Prop} {g : FuncId} {ds : List DV} {r : AV} (hK : KnownCall P g ds r) (hg : guardA ops (rd tm) o = some true) (hc : callOf (rd tm) o.op = some (g, ds.map .d)) (hh : hintO o.dst frz = false)
    (hp : isPan r = false) (ht : setD nt tm o.dst r = some tm') (k : EvD P E frz nt ops s0 (i + 1) (acc ++ [effOf (rd tm) objs o none]) l ⟨tm', objs, dl⟩ G) : EvD P E frz nt ops s0 i acc (o :: l) ⟨tm, objs, dl⟩ G :=
  EvD.call hg hc hh (fun o' => hK o') hp ht k
theorem EvD.kb {tm tm1 tm0 : PT AV} {objs : List Ob} {dl : List Dl} {s0 : S} {i : Nat} {acc : List Eff} {G : S → Prop} {g : FuncId} {ds : List DV} {b : Bool} (hK : KnownCall P g ds (.d (.bool b))) (hg : guardA ops (rd tm) o = some true) (hc : callOf (rd tm) o.op = some (g, ds.map .d)) (hh : hintO o.dst frz = false)
    (ht1 : setD nt tm o.dst (.d (.bool true)) = some tm1) (ht0 : setD nt tm o.dst (.d (.bool false)) = some tm0)
    (k1 : b = true → EvD P E frz nt ops s0 (i + 1) (acc ++ [effOf (rd tm) objs o none]) l ⟨tm1, objs, dl⟩ G) (k0 : b = false → EvD P E frz nt ops s0 (i + 1) (acc ++ [effOf (rd tm) objs o none]) l ⟨tm0, objs, dl⟩ G) : EvD P E frz nt ops s0 i acc (o :: l) ⟨tm, objs, dl⟩ G := by
  cases b with
  | true => exact EvD.kc hK hg hc hh rfl ht1 (k1 rfl)
  | false => exact EvD.kc hK hg hc hh rfl ht0 (k0 rfl)
theorem RunOps.next (hE : EnvOK P E) {tm tm' : PT AV} {objs objs' : List Ob} {dl : List Dl} {x : Operand} {i pos r n : Nat} {str : List Nat} (hop : o.op = .next x true) (hx : rd tm x = .bp i 0) (hi : objs[i]? = some (.sit str pos)) (hlt : pos < str.length) (hd : decL str pos = (r, n))
    (hg : guardA ops (rd tm) o = some true) (ho : objs.set i (.sit str (pos + n)) = objs') (ht : setD nt tm o.dst (.tup [.d (.bool true), .d (.int .i64 pos), .d (.int .i32 r)]) = some tm') (k : RunOps P nt m ro' ops l ⟨tm', objs', dl⟩ K) : RunOps P nt m ro' ops (o :: l) ⟨tm, objs, dl⟩ K := by
  subst ho
  have hb : Nat.blt pos str.length = true := by rw [Nat.blt_eq]; exact hlt
  refine RunOps.op (frz := []) hE (v := .tup [.d (.bool true), .d (.int .i64 pos), .d (.int .i32 r)]) (ob := some (objs.set i (.sit str (pos + n)))) (fl := true) hg ?_ rfl rfl ht k
  obtain ⟨dst, op, ty, pos, after, guard⟩ := o
  simp only at hop
  subst hop
  simp only [evAny, quiet, evOp, nextR, hx, hi, hb, hd, pureR]
  rfl
theorem RunOps.nextEnd (hE : EnvOK P E) {tm tm' : PT AV} {objs : List Ob} {dl : List Dl} {x : Operand} {i pos : Nat} {str : List Nat} (hop : o.op = .next x true) (hx : rd tm x = .bp i 0) (hi : objs[i]? = some (.sit str pos)) (hge : str.length ≤ pos)
    (hg : guardA ops (rd tm) o = some true) (ht : setD nt tm o.dst (.tup [.d (.bool false)]) = some tm') (k : RunOps P nt m ro' ops l ⟨tm', objs, dl⟩ K) : RunOps P nt m ro' ops (o :: l) ⟨tm, objs, dl⟩ K := by
  have hb : Nat.blt pos str.length = false := by
    cases h : Nat.blt pos str.length with
    | false => rfl
    | true => rw [Nat.blt_eq] at h; omega
  refine RunOps.op (frz := []) hE (v := .tup [.d (.bool false)]) (ob := some objs) (fl := true) hg ?_ rfl rfl ht k
  obtain ⟨dst, op, ty, pos, after, guard⟩ := o
  simp only at hop
  subst hop
  simp only [evAny, quiet, evOp, nextR, hx, hi, hb, pureR]
  rfl
theorem decL_ascii {s : List Nat} {i c : Nat} (h : s[i]? = some c) (hc : c < 128) : decL s i = (c, 1) := by
  have e : s.getD i 0 = c := by simp [List.getD_eq_getElem?_getD, h]
  have hb : Nat.blt c 128 = true := by rw [Nat.blt_eq]; exact hc
  simp only [decL, e, hb]
theorem decL_high {s : List Nat} {i c : Nat} (h : s[i]? = some c) (hc : 128 ≤ c) : 128 ≤ (decL s i).1 := by
  have e : s.getD i 0 = c := by simp [List.getD_eq_getElem?_getD, h]
  have hb : Nat.blt c 128 = false := by
    cases h : Nat.blt c 128 with
    | false => rfl
    | true => rw [Nat.blt_eq] at h; omega
  simp only [decL, e, hb]
  repeat' split
  all_goals simp_all
  all_goals omega
end
section
variable {E : PT Ty} {H : Hd} {frz : List Nat} {rd : Operand → AV} {objs : List Ob} {o : Oper}
theorem evAny_app {args : Array Operand} {tys : Array TypeId} {a b : Operand} {ts tx e : TypeId} {yts z : Ty} {i n sz szr szx k : Nat} {es ys : List DV} (hop : o.op = .call ⟨.builtin .append, args, tys⟩) (ha : args.toList = [a, b]) (ht : tys.toList = [ts, tx])
    (hv : hintV o.dst frz = false) (h1 : E.get? ts = some yts) (h2 : yts.desc = .slice e) (h3 : E.get? e = some z) (h4 : appSrc E z tx (rd b) objs = some (szx, ys)) (h5 : (Nat.ble 1 z.size && Nat.ble 1 z.bytes) = true) (hk : z.size = k) (h6 : szx = k ∨ ys = [])
    (h7 : rd a = .sr i sz es) (h8 : objs[i]? = some (.room n szr)) (h9 : szr = k) (h10 : sz = k) (h11 : Nat.ble z.bytes 65536 = true) (hn : n = es.length) (hlen : es.length + ys.length ≤ 16777216) :
    evAny E H frz rd objs o = some (.sr i k (es ++ ys), some (objs.set i (.room (n + ys.length) k)), true) := by
  obtain ⟨dst, op, ty, pos, after, guard⟩ := o
  obtain ⟨desc, size, bytes, zero⟩ := yts
  simp only at hop h2 hv
  subst hop h2 h9 h10 hk
  have hb : ∀ q : Nat, Nat.beq q q = true := fun q => Nat.beq_refl q
  have hs : srcSz szx z.size ys = z.size := by
    rcases h6 with rfl | rfl
    · cases ys <;> rfl
    · rfl
  have hm : Nat.ble ((es.length + ys.length) * z.bytes) 1099511627776 = true := Nat.ble_eq_true_of_le (Nat.le_trans (Nat.mul_le_mul hlen (Nat.le_of_ble_eq_true h11)) (by decide))
  subst hn
  simp only [evAny, ha, ht, hv, appendR, h1, appSrc0, h3, h4, h5, hs, hb, h7, h8, hm, Bool.and_self, if_true, Option.map_some]
theorem evAny_app0 {args : Array Operand} {tys : Array TypeId} {a b : Operand} {ts tx e : TypeId} {yts z : Ty} {szx k : Nat} {ys : List DV} (hop : o.op = .call ⟨.builtin .append, args, tys⟩) (ha : args.toList = [a, b]) (ht : tys.toList = [ts, tx])
    (hv : hintV o.dst frz = false) (h1 : E.get? ts = some yts) (h2 : yts.desc = .slice e) (h3 : E.get? e = some z) (h4 : appSrc E z tx (rd b) objs = some (szx, ys)) (h5 : (Nat.ble 1 z.size && Nat.ble 1 z.bytes) = true) (hk : z.size = k) (h6 : szx = k ∨ ys = [])
    (h7 : rd a = .d .nilsl) (h11 : Nat.ble z.bytes 65536 = true) (hlen : ys.length ≤ 16777216) :
    evAny E H frz rd objs o = some (.sr objs.length k ys, some (objs ++ [.room ys.length k]), true) := by
  obtain ⟨dst, op, ty, pos, after, guard⟩ := o
  obtain ⟨desc, size, bytes, zero⟩ := yts
  simp only at hop h2 hv
  subst hop h2 hk
  have hb : ∀ q : Nat, Nat.beq q q = true := fun q => Nat.beq_refl q
  have hs : srcSz szx z.size ys = z.size := by
    rcases h6 with rfl | rfl
    · cases ys <;> rfl
    · rfl
  have hm : Nat.ble (ys.length * z.bytes) 1099511627776 = true := Nat.ble_eq_true_of_le (Nat.le_trans (Nat.mul_le_mul hlen (Nat.le_of_ble_eq_true h11)) (by decide))
  simp only [evAny, ha, ht, hv, appendR, h1, appSrc0, h3, h4, h5, hs, hb, h7, hm, Bool.and_self, if_true, Option.map_some]
theorem findKV_str {E : PT Ty} {t : TypeId} (s : List Nat) : ∀ (l : List (List Nat × DV)), findKV (eqKey E t) (.str s) (l.map fun p => (.str p.1, p.2)) = some ((l.findIdx? (fun p => p.1 == s)).bind fun i => (l[i]?).map fun p => (i, p.2))
  | [] => rfl
  | (k, v) :: l => by
    simp only [List.map_cons, findKV, eqKey, eqCell]
    have ih := findKV_str (E := E) (t := t) s l
    by_cases h : k = s
    · subst h
      simp [List.findIdx?_cons]
    · have h1 : (s == k) = false := by simp; exact fun e => h e.symm
      have h2 : (k == s) = false := by simp; exact h
      simp only [h1, ih, Option.map_some, List.findIdx?_cons, h2]
      cases l.findIdx? (fun p => p.1 == s) with
      | none => rfl
      | some i => simp only [Option.bind_some, Option.map_some]; simp; cases l[i]? <;> simp
theorem evAny_lookup {t kt et : TypeId} {y yk : Ty} {yt : Ty} {m k : Operand} {ok : Bool} {i : Nat} {s : List Nat} {kvs : List (DV × DV)} {r : Option (Nat × DV)} (hop : o.op = .lookup t m k ok) (h1 : E.get? t = some yt) (h2 : yt.desc = .map kt et) (h3 : E.get? et = some y) (h4 : E.get? kt = some yk) (h5 : yk.desc = .string)
    (hm : rd m = .mp i) (hi : objs[i]? = some (.map kvs)) (hk : rd k = .d (.str s)) (hf : findKV (eqKey E kt) (.str s) kvs = some r) {z : DV} (hz : zeroD y = some z) :
    evAny E H frz rd objs o = some (.d (match r with | some p => p.2 | none => z) |> fun v => (match ok with | true => .tup [v, .d (.bool r.isSome)] | false => v), none, true) := by
  obtain ⟨dst, op, ty, pos, after, guard⟩ := o
  obtain ⟨desc, size, bytes, zero⟩ := yt
  obtain ⟨desck, sizek, bytesk, zerok⟩ := yk
  simp only at hop h2 h5
  subst hop h2 h5
  have hkt : keyT E kt (.str s) = true := by simp only [keyT, h4]
  simp only [evAny, quiet, evOp, lookupR, h1, hk, h3, hkt, kvsOf, hm, hi, hf]
  cases r with
  | none => simp only [hz, pureR, Option.map_some, Option.isSome]; cases ok <;> rfl
  | some p => obtain ⟨j, v⟩ := p; simp only [pureR, Option.map_some, Option.isSome]; cases ok <;> rfl
theorem evAny_mapUpdate {t kt et : TypeId} {yk : Ty} {yt : Ty} {m k v : Operand} {i : Nat} {s : List Nat} {d : DV} {kvs : List (DV × DV)} (hop : o.op = .mapUpdate t m k v) (h1 : E.get? t = some yt) (h2 : yt.desc = .map kt et) (h4 : E.get? kt = some yk) (h5 : yk.desc = .string)
    (hm : rd m = .mp i) (hi : objs[i]? = some (.map kvs)) (hk : rd k = .d (.str s)) (hd : rd v = .d d) (hf : findKV (eqKey E kt) (.str s) kvs = some none) :
    evAny E H frz rd objs o = some (.d .any, some (objs.set i (.map (kvs ++ [(.str s, d)]))), true) := by
  obtain ⟨dst, op, ty, pos, after, guard⟩ := o
  obtain ⟨desc, size, bytes, zero⟩ := yt
  obtain ⟨desck, sizek, bytesk, zerok⟩ := yk
  simp only at hop h2 h5
  subst hop h2 h5
  have hkt : keyT E kt (.str s) = true := by simp only [keyT, h4]
  simp only [evAny, quiet, evOp, mapUpdateR, h1, hm, hk, hd, hkt, hi, hf, pureR, Option.map_some]
end
def asData : AV → AV
  | .sr _ sz es => .d (.sl sz es)
  | .agg vs => match allD (vs.map fun v => match v with | .sr _ sz es => .d (.sl sz es) | v => v) with
    | some ds => .d (.agg ds)
    | none => .agg vs
  | v => v
def allTidy (tm : PT AV) : List (Nat × AV) → Prop
  | [] => True
  | (t, v) :: r => (tm.get? t = some v ∨ (tm.get? t).map asData = some v) ∧ allTidy tm r
theorem allTidy_mem {tm : PT AV} : ∀ {l : List (Nat × AV)}, allTidy tm l → ∀ {t : Nat} {v : AV}, (t, v) ∈ l → tm.get? t = some v ∨ (tm.get? t).map asData = some v
  | [], _, t, v, h => by cases h
  | (n, u) :: r, ha, t, v, h => by
    rcases List.mem_cons.1 h with e | h
    · cases e; exact ha.1
    · exact allTidy_mem ha.2 h
theorem sr_data {D : DMap} {β : List Bi} {i sz : Nat} {es : List DV} {x : Value} (h : RepA D β (.sr i sz es) x) : RepA D β (.d (.sl sz es)) x := by
  cases h with
  | sr h hh hd => exact .d hd
theorem asData_ok {D : DMap} {β : List Bi} {v : AV} {x : Value} (h : RepA D β v x) : RepA D β (asData v) x := by
  unfold asData
  split
  · exact sr_data h
  · rename_i vs
    split
    · rename_i ds hds
      cases h with
      | agg h h1 hr =>
        have hm := allD_some hds
        have hl : vs.length = ds.length := by have := congrArg List.length hm; simpa using this
        refine .d (.agg (by rw [h, hl]) h1 fun j c v hc hv => ?_)
        have hjv : (vs.map fun v => match v with | .sr _ sz es => AV.d (.sl sz es) | v => v)[j]? = some (.d c) := by rw [hm]; simp [hc]
        rw [List.getElem?_map] at hjv
        cases hj : vs[j]? with
        | none => rw [hj] at hjv; cases hjv
        | some y =>
          rw [hj] at hjv
          have hy := hr j y v hj hv
          simp only [Option.map_some, Option.some.injEq] at hjv
          have : RepA D β (.d c) v := by
            rw [← hjv]
            split
            · exact sr_data hy
            · exact hy
          cases this with
          | d h => exact h
    · exact h
  · exact h
theorem Sim.tidy {nt : Nat} {D0 : DMap} {β0 : List Bi} {o0 : List Ob} {w0 : World} {s s' : S} {a : Act} {w : World} (ho : s'.objs = s.objs) (hd : s'.dl = s.dl) (hw : ∀ t v, s'.tm.get? t = some v → s.tm.get? t = some v ∨ (s.tm.get? t).map asData = some v)
    (h : Sim D0 β0 o0 w0 nt s a w) : Sim D0 β0 o0 w0 nt s' a w := by
  obtain ⟨D, β, h1, h2, h3⟩ := h
  refine ⟨D, β, by rw [ho]; exact h1, ⟨h2.1, fun t => ?_⟩, by rw [hd]; exact h3⟩
  cases ht : s'.tm.get? t with
  | none => exact .d .any
  | some v =>
    have := h2.2 t
    rcases hw t v ht with e | e
    · rw [e] at this; exact this
    · cases hs : s.tm.get? t with
      | none => rw [hs] at e; cases e
      | some u =>
        rw [hs] at e this
        simp only [Option.map_some, Option.some.injEq] at e
        subst e
        exact asData_ok this
def Tidy (m : Nat) (s s' : S) : Prop := ∃ (l : List (Nat × AV)) (n : Nat), m ≤ n ∧ refS n ⟨PT.ofList l, s.objs, s.dl⟩ = true ∧ allTidy s.tm l ∧ s' = ⟨PT.ofList l, s.objs.take n, s.dl⟩
theorem Sim.tidyL {nt : Nat} {D0 : DMap} {β0 : List Bi} {o0 : List Ob} {w0 : World} {s s' : S} {a : Act} {w : World} {m : Nat} (hn : β0.length ≤ m) (hl : Tidy m s s') (h : Sim D0 β0 o0 w0 nt s a w) : Sim D0 β0 o0 w0 nt s' a w := by
  obtain ⟨l, n, h1, h2, h3, rfl⟩ := hl
  exact (Sim.tidy (s := s) (s' := ⟨PT.ofList l, s.objs, s.dl⟩) rfl rfl (fun t v ht => allTidy_mem h3 (ofList_get ht)) h).trunc (Nat.le_trans hn h1) h2
section
variable {P : Program} {frz : List Nat} {nt m : Nat} {ro' : Option Nat} {K : Ex → S → Prop} {s : S} {ops : Array Oper} {l : List Oper}
theorem Run.tidy {c : Code} {s' : S} (ht : Tidy m s s') (h : Run P nt m ro' c s' K) : Run P nt m ro' c s K :=
  fun D0 β0 o0 w0 hb0 ro Q a w hro hK hs => h D0 β0 o0 w0 hb0 ro Q a w hro hK (hs.tidyL hb0 ht)
theorem RunOps.tidy {s' : S} (ht : Tidy m s s') (h : RunOps P nt m ro' ops l s' K) : RunOps P nt m ro' ops l s K :=
  fun D0 β0 o0 w0 hb0 ro Q a w i hro hops hK hs => h D0 β0 o0 w0 hb0 ro Q a w i hro hops hK (hs.tidyL hb0 ht)
theorem Run.loopT {α : Type} (St : α → S) (I : α → Prop) (mu : α → Nat) {b : Code} (x0 : α) (h0 : I x0) (hs0 : Tidy m s (St x0))
    (h : ∀ x, I x → Run P nt m ro' b (St x) (fun e s1 => match e with | .normal => ∃ x', I x' ∧ mu x' < mu x ∧ Tidy m s1 (St x') | e => K e s1)) : Run P nt m ro' (.loop b) s K := by
  intro D0 β0 o0 w0 hb0 ro Q a w hro hK hs
  refine wpIn_loop_n (fun k a w => ∃ x, I x ∧ mu x = k ∧ Sim D0 β0 o0 w0 nt (St x) a w) (k := mu x0) ⟨x0, h0, rfl, hs.tidyL hb0 hs0⟩ (fun k a w hJ => ?_)
  obtain ⟨x, hx, hm, hs⟩ := hJ
  refine h x hx D0 β0 o0 w0 hb0 ro _ a w hro (fun e s1 hk => ?_) hs
  cases e with
  | normal =>
    obtain ⟨x', h1, h2, h3⟩ := hk
    exact ⟨fun a w _ hs => ⟨mu x', by omega, x', h1, rfl, hs.tidyL hb0 h3⟩, fun x hx => by cases hx⟩
  | _ => exact post_of (hK _ _ hk) (fun x a w hx h => by cases x <;> first | exact absurd rfl hx | exact h) (by simp)
theorem tidy_of {tm : PT AV} {objs objs' : List Ob} {dl : List Dl} {k : Nat} (l : List (Nat × AV)) (n : Nat) (ho : objs.take n = objs') (hn : Nat.ble k n = true) (h : allTidy tm l) (hl : allQ (refA 8 n) l) (hr : objs'.all (refOb n) = true) (hd : dl.all (refDl n) = true) :
    Tidy k ⟨tm, objs, dl⟩ ⟨PT.ofList l, objs', dl⟩ := by
  subst ho
  exact ⟨l, n, Nat.le_of_ble_eq_true hn, by simp only [refS, ptAll_ofList hl, hr, hd, Bool.and_self], h, rfl⟩
end
inductive DvTo : DV → DV → Prop
  | refl {x : DV} : DvTo x x
  | nil {sz : Nat} : DvTo .nilsl (.sl sz [])
  | agg {xs ys : List DV} (hl : xs.length = ys.length) (h : ∀ (j : Nat) x y, xs[j]? = some x → ys[j]? = some y → DvTo x y) : DvTo (.agg xs) (.agg ys)
theorem DvTo.rep {D : DMap} {x y : DV} (h : DvTo x y) : ∀ {v : Value}, RepD D x v → RepD D y v := by
  induction h with
  | refl => exact fun h => h
  | nil =>
    intro v h
    cases h
    exact .sl (sz := _) (es := []) (a := none) (cap := 0) [] (by simp) (by decide) (fun e he => by cases he) (fun _ => ⟨rfl, rfl⟩) rfl (fun ad h => by cases h) (fun j c v hc => by simp [flatD] at hc)
  | agg hl _ ih =>
    intro v h
    cases h with
    | agg h h1 hr =>
      refine .agg (by rw [h, hl]) h1 fun j c v hc hv => ?_
      have hj := (List.getElem?_eq_some_iff.1 hc).1
      rw [← hl] at hj
      exact ih j _ c (List.getElem?_eq_getElem hj) hc (hr j _ v (List.getElem?_eq_getElem hj) hv)
inductive AvTo : AV → AV → Prop
  | d {x y : DV} (h : DvTo x y) : AvTo (.d x) (.d y)
  | tup2 {a b c d : DV} (h : DvTo a c) (h' : DvTo b d) : AvTo (.tup [.d a, .d b]) (.tup [.d c, .d d])
  | refl {x : AV} : AvTo x x
theorem AvTo.rep {D : DMap} {β : List Bi} {x y : AV} (h : AvTo x y) {v : Value} (hr : RepA D β x v) : RepA D β y v := by
  cases h with
  | d h => cases hr with
    | d k => exact .d (h.rep k)
  | refl => exact hr
  | tup2 h h' =>
    cases hr with
    | tup hs hr =>
      refine .tup (by simpa using hs) fun j c v hc hv => ?_
      rcases j with _ | _ | j
      · simp at hc; subst hc
        have := hr 0 (.d _) v rfl hv
        cases this with
        | d k => exact .d (h.rep k)
      · simp at hc; subst hc
        have := hr 1 (.d _) v rfl hv
        cases this with
        | d k => exact .d (h'.rep k)
      · simp at hc
theorem AvTo.pan {x : DV} {y : AV} (h : AvTo (.pan x) y) : y = .pan x := by cases h; rfl
theorem known_of_run2 {P : Program} {E : PT Ty} (hE : EnvOK P E) {f : FuncId} {i : FnI} (hF : FnAt P f i) {ds : List DV} {r : AV} (hlen : (ds.map AV.d).length = i.np) (hle : Nat.ble i.np i.nt = true)
    (h : Run P i.nt 0 none i.body ⟨initTm 0 (ds.map .d) .nil, [], []⟩ (fun e s => (match e with | .normal => True | .ret => True | _ => False) ∧ ∃ objs' r0 r1, evLeave H0 s.dl none s.objs = some (none, objs') ∧ evResults E ⟨s.tm, objs', []⟩ i.results = some r0 ∧ closeA objs' 8 r0 = some r1 ∧ AvTo r1 r)) :
    KnownCall P f ds r := by
  obtain ⟨g1, g2⟩ := calls_of_run (objs := []) (G := fun o x => ∃ r1, closeA o 8 x = some r1 ∧ AvTo r1 r) hE hF hlen hle (h.mono fun e s hk => by
    obtain ⟨k1, o1, r0, r1, k2, k3, k4, k5⟩ := hk
    exact ⟨k1, o1, r0, k2, k3, r1, k4, k5⟩)
  intro o
  refine ⟨g1, fun D β w vs hp hv => (g2 D [] w vs hp.bare ⟨hv.1, fun j c v hc hw => ?_⟩).mono fun e w' he => ?_⟩
  · have := hv.2 j c v hc hw
    simp only [List.getElem?_map, Option.map_eq_some_iff] at hc
    obtain ⟨y, _, rfl⟩ := hc
    cases this with
    | d h => exact .d h
  · obtain ⟨objs', r0, ⟨r1, hr, hto⟩, ⟨v, D', β', rfl, hs, hrep⟩ | ⟨x, v, D', β', rfl, rfl, hs, hrep⟩⟩ := he
    · exact .inl ⟨v, _, β, rfl, (hs.trans (frz_step hs.heap)).bare hp, hto.rep (closeA_ok hs.heap hr hrep β)⟩
    · simp only [closeA, Option.some.injEq] at hr
      subst hr
      exact .inr ⟨x, v, _, β, hto.pan, rfl, (hs.trans (frz_step hs.heap)).bare hp, (frz_step hs.heap).repD hrep⟩
section
variable {P : Program} {E : PT Ty} {frz : List Nat} {nt m : Nat} {ro' : Option Nat} {K : Ex → S → Prop} {ops : Array Oper} {l : List Oper} {o : Oper} {tm tm' tm1 tm0 : PT AV} {objs objs' : List Ob} {dl : List Dl} {b : Bool} {ob : Option (List Ob)} {fl : Bool} {s s0 : S} {i : Nat} {acc : List Eff} {G : S → Prop} {g : FuncId} {ds : List DV} {r : AV}
theorem eX {v v' : AV} (k : EvD P E frz nt ops s0 (i + 1) (acc ++ [effOf (rd tm) objs o ob]) l ⟨tm', objs', dl⟩ G) (hg : guardA ops (rd tm) o = some true := by rfl) (hv : evAny E H0 frz (rd tm) objs o = some (v', ob, fl) := by rfl) (hf : fl = true := by rfl)
    (he : v' = v := by first | (conv => lhs; dsimp only) | rfl) (ho : ob.getD objs = objs' := by first | (conv => lhs; dsimp only [Option.getD]) | rfl) (hp : isPan v = false := by rfl) (ht : setD nt tm o.dst v = some tm' := by rfl) :
    EvD P E frz nt ops s0 i acc (o :: l) ⟨tm, objs, dl⟩ G := EvD.x hg hv hf he ho hp ht k
theorem eB (k1 : b = true → EvD P E frz nt ops s0 (i + 1) (acc ++ [effOf (rd tm) objs o ob]) l ⟨tm1, objs', dl⟩ G) (k0 : b = false → EvD P E frz nt ops s0 (i + 1) (acc ++ [effOf (rd tm) objs o ob]) l ⟨tm0, objs', dl⟩ G) (hb : boolOp o.op = true := by rfl) (hg : guardA ops (rd tm) o = some true := by rfl)
    (hv : evAny E H0 frz (rd tm) objs o = some (.d (.bool b), ob, fl) := by rfl) (hf : fl = true := by rfl) (ho : ob.getD objs = objs' := by first | (conv => lhs; dsimp only [Option.getD]) | rfl) (ht1 : setD nt tm o.dst (.d (.bool true)) = some tm1 := by rfl) (ht0 : setD nt tm o.dst (.d (.bool false)) = some tm0 := by rfl) :
    EvD P E frz nt ops s0 i acc (o :: l) ⟨tm, objs, dl⟩ G := EvD.xb hb hg hv hf ho ht1 ht0 k1 k0
theorem oS (k : RunOps P nt m ro' ops l ⟨tm', objs, dl⟩ K) (hg : guardA ops (rd tm) o = some false := by rfl) (ht : setD nt tm o.dst (.tup []) = some tm' := by rfl) : RunOps P nt m ro' ops (o :: l) ⟨tm, objs, dl⟩ K := RunOps.sx hg ht k
theorem eS (k : EvD P E frz nt ops s0 (i + 1) (acc ++ [.a none]) l ⟨tm', objs, dl⟩ G) (hg : guardA ops (rd tm) o = some false := by rfl) (ht : setD nt tm o.dst (.tup []) = some tm' := by rfl) : EvD P E frz nt ops s0 i acc (o :: l) ⟨tm, objs, dl⟩ G := EvD.sx hg ht k
theorem eN (k : G s) (hd : ∀ H', drawOK E H' frz nt ops never never s0 acc = true := by intro _; kernel_rfl) : EvD P E frz nt ops s0 i acc [] s G := EvD.nil hd k
theorem cT {c : Operand} {x y : Code} (k : Run P nt m ro' x s K) (hc : rd s.tm c = .d (.bool true) := by rfl) : Run P nt m ro' (.cond c x y) s K := Run.condT hc k
theorem cF {c : Operand} {x y : Code} (k : Run P nt m ro' y s K) (hc : rd s.tm c = .d (.bool false) := by rfl) : Run P nt m ro' (.cond c x y) s K := Run.condF hc k
theorem oC (hK : KnownCall P g ds r) (k : RunOps P nt m ro' ops l ⟨tm', objs, dl⟩ K) (hg : guardA ops (rd tm) o = some true := by rfl) (hc : callOf (rd tm) o.op = some (g, ds.map .d) := by rfl)
    (hp : isPan r = false := by rfl) (ht : setD nt tm o.dst r = some tm' := by rfl) : RunOps P nt m ro' ops (o :: l) ⟨tm, objs, dl⟩ K := RunOps.kc hK hg hc hp ht k
theorem eC (hK : KnownCall P g ds r) (k : EvD P E frz nt ops s0 (i + 1) (acc ++ [effOf (rd tm) objs o none]) l ⟨tm', objs, dl⟩ G) (hg : guardA ops (rd tm) o = some true := by rfl) (hc : callOf (rd tm) o.op = some (g, ds.map .d) := by rfl) (hh : hintO o.dst frz = false := by rfl)
    (hp : isPan r = false := by rfl) (ht : setD nt tm o.dst r = some tm' := by rfl) : EvD P E frz nt ops s0 i acc (o :: l) ⟨tm, objs, dl⟩ G := EvD.kc hK hg hc hh hp ht k
theorem oK (hK : KnownCall P g ds (.d (.bool b))) (k1 : b = true → RunOps P nt m ro' ops l ⟨tm1, objs, dl⟩ K) (k0 : b = false → RunOps P nt m ro' ops l ⟨tm0, objs, dl⟩ K) (hg : guardA ops (rd tm) o = some true := by rfl) (hc : callOf (rd tm) o.op = some (g, ds.map .d) := by rfl)
    (ht1 : setD nt tm o.dst (.d (.bool true)) = some tm1 := by rfl) (ht0 : setD nt tm o.dst (.d (.bool false)) = some tm0 := by rfl) : RunOps P nt m ro' ops (o :: l) ⟨tm, objs, dl⟩ K := RunOps.kb hK hg hc ht1 ht0 k1 k0
theorem eK (hK : KnownCall P g ds (.d (.bool b))) (k1 : b = true → EvD P E frz nt ops s0 (i + 1) (acc ++ [effOf (rd tm) objs o none]) l ⟨tm1, objs, dl⟩ G) (k0 : b = false → EvD P E frz nt ops s0 (i + 1) (acc ++ [effOf (rd tm) objs o none]) l ⟨tm0, objs, dl⟩ G) (hg : guardA ops (rd tm) o = some true := by rfl)
    (hc : callOf (rd tm) o.op = some (g, ds.map .d) := by rfl) (hh : hintO o.dst frz = false := by rfl) (ht1 : setD nt tm o.dst (.d (.bool true)) = some tm1 := by rfl) (ht0 : setD nt tm o.dst (.d (.bool false)) = some tm0 := by rfl) :
    EvD P E frz nt ops s0 i acc (o :: l) ⟨tm, objs, dl⟩ G := EvD.kb hK hg hc hh ht1 ht0 k1 k0
abbrev EndK (E : PT Ty) (rv : Array ResultVar) (r : AV) : Ex → S → Prop := fun e s => (match e with | .normal => True | .ret => True | _ => False) ∧ ∃ objs' r0, evLeave H0 s.dl none s.objs = some (none, objs') ∧ evResults E ⟨s.tm, objs', []⟩ rv = some r0 ∧ closeA objs' 8 r0 = some r
variable {rv : Array ResultVar} {r0 : AV}
theorem rD (r' : AV) (k : r' = r) (h1 : evLeave H0 s.dl none s.objs = some (none, objs') := by rfl) (h2 : evResults E ⟨s.tm, objs', []⟩ rv = some r0 := by rfl) (h3 : closeA objs' 8 r0 = some r' := by rfl) : EndK E rv r .ret s :=
  ⟨trivial, _, _, h1, h2, by rw [h3, k]⟩
theorem rB {x : Bool} (k : AV.d (.bool x) = r) (h1 : evLeave H0 s.dl none s.objs = some (none, objs') := by rfl) (h2 : evResults E ⟨s.tm, objs', []⟩ rv = some r0 := by rfl) (h3 : closeA objs' 8 r0 = some (.d (.bool x)) := by rfl) : EndK E rv r .ret s := rD _ k h1 h2 h3
theorem rI {x : IntKind} {y : Int} (k : AV.d (.int x y) = r) (h1 : evLeave H0 s.dl none s.objs = some (none, objs') := by rfl) (h2 : evResults E ⟨s.tm, objs', []⟩ rv = some r0 := by rfl) (h3 : closeA objs' 8 r0 = some (.d (.int x y)) := by rfl) : EndK E rv r .ret s := rD _ k h1 h2 h3
theorem rA {x : List DV} (k : AV.d (.agg x) = r) (h1 : evLeave H0 s.dl none s.objs = some (none, objs') := by rfl) (h2 : evResults E ⟨s.tm, objs', []⟩ rv = some r0 := by rfl) (h3 : closeA objs' 8 r0 = some (.d (.agg x)) := by rfl) : EndK E rv r .ret s := rD _ k h1 h2 h3
theorem rII {x x' : IntKind} {y y' : Int} (k : AV.tup [.d (.int x y), .d (.int x' y')] = r) (h1 : evLeave H0 s.dl none s.objs = some (none, objs') := by rfl) (h2 : evResults E ⟨s.tm, objs', []⟩ rv = some r0 := by rfl) (h3 : closeA objs' 8 r0 = some (.tup [.d (.int x y), .d (.int x' y')]) := by rfl) : EndK E rv r .ret s := rD _ k h1 h2 h3
theorem rSI {x' : IntKind} {y : List Nat} {y' : Int} (k : AV.tup [.d (.str y), .d (.int x' y')] = r) (h1 : evLeave H0 s.dl none s.objs = some (none, objs') := by rfl) (h2 : evResults E ⟨s.tm, objs', []⟩ rv = some r0 := by rfl) (h3 : closeA objs' 8 r0 = some (.tup [.d (.str y), .d (.int x' y')]) := by rfl) : EndK E rv r .ret s := rD _ k h1 h2 h3
theorem rT {x : List AV} (k : AV.tup x = r) (h1 : evLeave H0 s.dl none s.objs = some (none, objs') := by rfl) (h2 : evResults E ⟨s.tm, objs', []⟩ rv = some r0 := by rfl) (h3 : closeA objs' 8 r0 = some (.tup x) := by rfl) : EndK E rv r .ret s := rD _ k h1 h2 h3
theorem rS {x : DV} (k : AV.d x = r) (h1 : evLeave H0 s.dl none s.objs = some (none, objs') := by rfl) (h2 : evResults E ⟨s.tm, objs', []⟩ rv = some r0 := by rfl) (h3 : closeA objs' 8 r0 = some (.d x) := by rfl) : EndK E rv r .ret s := rD _ k h1 h2 h3
abbrev EndK2 (E : PT Ty) (rv : Array ResultVar) (r : AV) : Ex → S → Prop := fun e s => (match e with | .normal => True | .ret => True | _ => False) ∧ ∃ objs' r0 r1, evLeave H0 s.dl none s.objs = some (none, objs') ∧ evResults E ⟨s.tm, objs', []⟩ rv = some r0 ∧ closeA objs' 8 r0 = some r1 ∧ AvTo r1 r
theorem r2 {r1 : AV} (k : AvTo r1 r) (h1 : evLeave H0 s.dl none s.objs = some (none, objs') := by rfl) (h2 : evResults E ⟨s.tm, objs', []⟩ rv = some r0 := by rfl) (h3 : closeA objs' 8 r0 = some r1 := by rfl) : EndK2 E rv r .ret s :=
  ⟨trivial, _, _, _, h1, h2, h3, k⟩
theorem knownE (hE : EnvOK P E) {f : FuncId} {i : FnI} (hF : FnAt P f i) {ds : List DV} {r : AV} (h : Run P i.nt 0 none i.body ⟨initTm 0 (ds.map .d) .nil, [], []⟩ (EndK E i.results r)) (hlen : (ds.map AV.d).length = i.np := by rfl) (hle : Nat.ble i.np i.nt = true := by rfl) :
    KnownCall P f ds r := known_of_run hE hF hlen hle h
theorem knownE2 (hE : EnvOK P E) {f : FuncId} {i : FnI} (hF : FnAt P f i) {ds : List DV} {r : AV} (h : Run P i.nt 0 none i.body ⟨initTm 0 (ds.map .d) .nil, [], []⟩ (EndK2 E i.results r)) (hlen : (ds.map AV.d).length = i.np := by rfl) (hle : Nat.ble i.np i.nt = true := by rfl) :
    KnownCall P f ds r := known_of_run2 hE hF hlen hle h
theorem inc_get {t : Nat} {k : Nat} (h : tm.get? t = some (.d (.int .i64 (IntKind.i64.wrap ((k + 1 : Nat) : Int))))) (hk : k + 1 ≤ 1099511627776) : tm.get? t = some (.d (.int .i64 ((k + 1 : Nat) : Int))) :=
  h.trans (congrArg (fun n => some (AV.d (.int .i64 n))) (wrap_nat hk))
end
section
variable {E : PT Ty} {H : Hd} {frz : List Nat} {rd : Operand → AV} {objs : List Ob} {o : Oper} {args : Array Operand} {tys : Array TypeId} {a b : Operand} {ts tx e : TypeId} {yts z : Ty} {i n sz szr szx k : Nat} {es ys : List DV}
theorem app1 (hop : o.op = .call ⟨.builtin .append, args, tys⟩ := by rfl) (ha : args.toList = [a, b] := by rfl) (ht : tys.toList = [ts, tx] := by rfl)
    (hv : hintV o.dst frz = false := by rfl) (h1 : E.get? ts = some yts := by rfl) (h2 : yts.desc = .slice e := by rfl) (h3 : E.get? e = some z := by rfl) (h4 : appSrc E z tx (rd b) objs = some (szx, ys) := by rfl) (h5 : (Nat.ble 1 z.size && Nat.ble 1 z.bytes) = true := by rfl) (hk : z.size = k := by rfl)
    (h6 : szx = k ∨ ys = [] := by first | rfl | (exact Or.inl rfl) | (exact Or.inr rfl))
    (h7 : rd a = .sr i sz es := by rfl) (h8 : objs[i]? = some (.room n szr) := by rfl) (h9 : szr = k := by rfl) (h10 : sz = k := by rfl) (h11 : Nat.ble z.bytes 65536 = true := by rfl) (hn : n = es.length := by first | rfl | (simp [chunk, cutL] <;> fail) | (simp [chunk, cutL]; omega)) (hlen : es.length + ys.length ≤ 16777216 := by first | (simp [chunk, cutL] <;> fail) | (simp [chunk, cutL]; omega)) :
    evAny E H frz rd objs o = some (.sr i k (es ++ ys), some (objs.set i (.room (n + ys.length) k)), true) := evAny_app hop ha ht hv h1 h2 h3 h4 h5 hk h6 h7 h8 h9 h10 h11 hn hlen
theorem app0 (hop : o.op = .call ⟨.builtin .append, args, tys⟩ := by rfl) (ha : args.toList = [a, b] := by rfl) (ht : tys.toList = [ts, tx] := by rfl)
    (hv : hintV o.dst frz = false := by rfl) (h1 : E.get? ts = some yts := by rfl) (h2 : yts.desc = .slice e := by rfl) (h3 : E.get? e = some z := by rfl) (h4 : appSrc E z tx (rd b) objs = some (szx, ys) := by rfl) (h5 : (Nat.ble 1 z.size && Nat.ble 1 z.bytes) = true := by rfl) (hk : z.size = k := by rfl)
    (h6 : szx = k ∨ ys = [] := by first | rfl | (exact Or.inl rfl) | (exact Or.inr rfl))
    (h7 : rd a = .d .nilsl := by rfl) (h11 : Nat.ble z.bytes 65536 = true := by rfl) (hlen : ys.length ≤ 16777216 := by first | (simp [chunk, cutL] <;> fail) | (simp [chunk, cutL]; omega)) :
    evAny E H frz rd objs o = some (.sr objs.length k ys, some (objs ++ [.room ys.length k]), true) := evAny_app0 hop ha ht hv h1 h2 h3 h4 h5 hk h6 h7 h11 hlen
end
section
variable {P : Program} {E : PT Ty} {frz : List Nat} {nt m : Nat} {ro' : Option Nat} {K : Ex → S → Prop} {ops : Array Oper} {l : List Oper} {o : Oper} {tm tm' tm1 tm0 : PT AV} {objs : List Ob} {dl : List Dl} {b : Bool} {s0 : S} {i : Nat} {acc : List Eff} {G : S → Prop} {g : FuncId} {ds : List DV} {args : List AV} {r : AV}
theorem oL (hK : KnownCall P g ds r) (k : RunOps P nt m ro' ops l ⟨tm', objs, dl⟩ K) (hg : guardA ops (rd tm) o = some true := by rfl) (hc : callOf (rd tm) o.op = some (g, args) := by rfl) (hd : allM (dvOf objs 8) args = some ds := by rfl) (hf : flatAV r = true := by rfl)
    (hp : isPan r = false := by rfl) (ht : setD nt tm o.dst r = some tm' := by rfl) : RunOps P nt m ro' ops (o :: l) ⟨tm, objs, dl⟩ K := RunOps.call hg hc (lent_call hd (hK []) hf) hp ht k
theorem eL (hK : KnownCall P g ds r) (k : EvD P E frz nt ops s0 (i + 1) (acc ++ [effOf (rd tm) objs o (some objs)]) l ⟨tm', objs, dl⟩ G) (hg : guardA ops (rd tm) o = some true := by rfl) (hc : callOf (rd tm) o.op = some (g, args) := by rfl)
    (hd : allM (dvOf objs 8) args = some ds := by rfl) (hf : flatAV r = true := by rfl) (hh : hintO o.dst frz = false := by rfl) (hp : isPan r = false := by rfl) (ht : setD nt tm o.dst r = some tm' := by rfl) : EvD P E frz nt ops s0 i acc (o :: l) ⟨tm, objs, dl⟩ G :=
  EvD.any (oneH_ok (objs := objs) (ob := some objs) (fun o' h => by cases h; exact lent_call hd (hK []) hf) (fun h => by cases h)) hg (evAny_one hc hh) hp ht k
end
section
variable {P : Program} {E : PT Ty} {nt m : Nat} {ro' : Option Nat} {K : Ex → S → Prop} {ops : Array Oper} {l : List Oper} {o : Oper} {tm tm1 tm0 : PT AV} {objs : List Ob} {dl : List Dl}
end
theorem Run.mkRoom {P : Program} {nt m : Nat} {ro' : Option Nat} {K : Ex → S → Prop} {c : Code} {tm : PT AV} {objs : List Ob} {dl : List Dl} (t sz : Nat) (l : List (Nat × AV)) (ht : tm.get? t = some (.d .nilsl)) (hl : ∀ t' v, (PT.ofList l).get? t' = some v → (t' = t ∧ v = .sr objs.length sz []) ∨ tm.get? t' = some v)
    (h : Run P nt m ro' c ⟨PT.ofList l, objs ++ [.room 0 sz], dl⟩ K) : Run P nt m ro' c ⟨tm, objs, dl⟩ K := by
  intro D0 β0 o0 w0 hb0 ro Q a w hro hK hs
  obtain ⟨D, β, h1, h2, h3⟩ := hs
  obtain ⟨β2, st, hr2⟩ := room_full h1.heap (sz := sz) (es := []) (A := none) (.sl (es := []) [] (Nat.le_refl _) (Nat.zero_le _) (by simp) (fun _ => ⟨rfl, rfl⟩) rfl (fun ad e => by cases e) (by simp))
  refine h D0 β0 o0 w0 hb0 ro Q a w hro hK ⟨D, β2, h1.trans st, ?_, h3.mono st.dsub st.bext⟩
  have h2m := h2.mono st.dsub st.bext
  refine ⟨h2.1, fun t' => ?_⟩
  cases hv : (PT.ofList l).get? t' with
  | none => exact .d .any
  | some v =>
    rcases hl t' v hv with ⟨rfl, rfl⟩ | ho
    · have := h2.2 t'
      simp only at this
      rw [ht] at this
      cases this with
      | d this =>
        generalize a.tmps.getD t' undef = x at this ⊢
        cases this
        exact hr2
    · have := h2m.2 t'
      simp only at this
      rw [ho] at this
      exact this
section
variable {P : Program} {E : PT Ty} {frz : List Nat} {nt m : Nat} {ro' : Option Nat} {K : Ex → S → Prop} {ops : Array Oper} {l : List Oper} {o : Oper} {tm tm' : PT AV} {objs objs' : List Ob} {dl : List Dl} {s0 : S} {i : Nat} {acc : List Eff} {G : S → Prop} {g : FuncId} {args : List AV} {r : AV}
theorem oA (hA : ACall P g args objs r objs') (k : RunOps P nt m ro' ops l ⟨tm', objs', dl⟩ K) (hg : guardA ops (rd tm) o = some true := by rfl) (hc : callOf (rd tm) o.op = some (g, args) := by rfl)
    (hp : isPan r = false := by rfl) (ht : setD nt tm o.dst r = some tm' := by rfl) : RunOps P nt m ro' ops (o :: l) ⟨tm, objs, dl⟩ K := RunOps.call hg hc hA hp ht k
theorem eA (hA : ACall P g args objs r objs') (k : EvD P E frz nt ops s0 (i + 1) (acc ++ [effOf (rd tm) objs o (some objs')]) l ⟨tm', objs', dl⟩ G) (hg : guardA ops (rd tm) o = some true := by rfl) (hc : callOf (rd tm) o.op = some (g, args) := by rfl)
    (hh : hintO o.dst frz = false := by rfl) (hp : isPan r = false := by rfl) (ht : setD nt tm o.dst r = some tm' := by rfl) : EvD P E frz nt ops s0 i acc (o :: l) ⟨tm, objs, dl⟩ G :=
  EvD.any (oneH_ok (objs := objs) (ob := some objs') (fun o' h => by cases h; exact hA) (fun h => by cases h)) hg (evAny_one hc hh) hp ht k
end
def dvS : AV → Option DV
  | .d x => some x
  | .sr _ sz es => some (.sl sz es)
  | _ => none
theorem lent_data {P : Program} {f : FuncId} {args : List AV} {objs : List Ob} {ds : List DV} {r : AV} (hd : allM dvS args = some ds) (h : KnownCall P f ds r) : ACall P f args objs r objs := by
  refine ⟨(h objs).1, fun D β w vs hp hv => (h objs).2 D β w vs hp ?_⟩
  obtain ⟨l1, l2⟩ := allM_ok hd
  refine ⟨by rw [hv.1]; simp [l1], fun j c v hc hv' => ?_⟩
  simp only [List.getElem?_map, Option.map_eq_some_iff] at hc
  obtain ⟨d, hd', rfl⟩ := hc
  obtain ⟨x, hx, hfx⟩ := l2 j d hd'
  have hr := hv.2 j x v hx hv'
  cases x <;> simp only [dvS, Option.some.injEq, reduceCtorEq] at hfx
  · subst hfx; exact hr
  · subst hfx; exact sr_data hr
section
variable {P : Program} {E : PT Ty} {frz : List Nat} {nt m : Nat} {ro' : Option Nat} {K : Ex → S → Prop} {ops : Array Oper} {l : List Oper} {o : Oper} {tm tm' : PT AV} {objs : List Ob} {dl : List Dl} {s0 : S} {i : Nat} {acc : List Eff} {G : S → Prop} {g : FuncId} {ds : List DV} {args : List AV} {r : AV}
theorem oM (hK : KnownCall P g ds r) (k : RunOps P nt m ro' ops l ⟨tm', objs, dl⟩ K) (hg : guardA ops (rd tm) o = some true := by rfl) (hc : callOf (rd tm) o.op = some (g, args) := by rfl) (hd : allM dvS args = some ds := by rfl)
    (hp : isPan r = false := by rfl) (ht : setD nt tm o.dst r = some tm' := by rfl) : RunOps P nt m ro' ops (o :: l) ⟨tm, objs, dl⟩ K := RunOps.call hg hc (lent_data hd hK) hp ht k
theorem eM (hK : KnownCall P g ds r) (k : EvD P E frz nt ops s0 (i + 1) (acc ++ [effOf (rd tm) objs o (some objs)]) l ⟨tm', objs, dl⟩ G) (hg : guardA ops (rd tm) o = some true := by rfl) (hc : callOf (rd tm) o.op = some (g, args) := by rfl)
    (hd : allM dvS args = some ds := by rfl) (hh : hintO o.dst frz = false := by rfl) (hp : isPan r = false := by rfl) (ht : setD nt tm o.dst r = some tm' := by rfl) : EvD P E frz nt ops s0 i acc (o :: l) ⟨tm, objs, dl⟩ G :=
  EvD.any (oneH_ok (objs := objs) (ob := some objs) (fun o' h => by cases h; exact lent_data hd hK) (fun h => by cases h)) hg (evAny_one hc hh) hp ht k
end
theorem Run.nilRow {P : Program} {nt m : Nat} {ro' : Option Nat} {K : Ex → S → Prop} {c : Code} {tm : PT AV} {objs : List Ob} {dl : List Dl} (t sz : Nat) (l : List (Nat × AV)) (ht : tm.get? t = some (.d .nilsl)) (hl : ∀ t' v, (PT.ofList l).get? t' = some v → (t' = t ∧ v = .d (.sl sz [])) ∨ tm.get? t' = some v)
    (h : Run P nt m ro' c ⟨PT.ofList l, objs, dl⟩ K) : Run P nt m ro' c ⟨tm, objs, dl⟩ K := by
  intro D0 β0 o0 w0 hb0 ro Q a w hro hK hs
  obtain ⟨D, β, h1, h2, h3⟩ := hs
  refine h D0 β0 o0 w0 hb0 ro Q a w hro hK ⟨D, β, h1, ⟨h2.1, fun t' => ?_⟩, h3⟩
  cases hv : (PT.ofList l).get? t' with
  | none => exact .d .any
  | some v =>
    have h2t := h2.2 t'
    simp only at h2t
    rcases hl t' v hv with ⟨rfl, rfl⟩ | ho
    · rw [ht] at h2t
      cases h2t with
      | d h2t => exact .d (DvTo.nil.rep h2t)
    · rw [ho] at h2t
      exact h2t
theorem RunOps.nilRow {P : Program} {nt m : Nat} {ro' : Option Nat} {K : Ex → S → Prop} {ops : Array Oper} {lo : List Oper} {tm : PT AV} {objs : List Ob} {dl : List Dl} (t sz : Nat) (l : List (Nat × AV)) (ht : tm.get? t = some (.d .nilsl)) (hl : ∀ t' v, (PT.ofList l).get? t' = some v → (t' = t ∧ v = .d (.sl sz [])) ∨ tm.get? t' = some v)
    (h : RunOps P nt m ro' ops lo ⟨PT.ofList l, objs, dl⟩ K) : RunOps P nt m ro' ops lo ⟨tm, objs, dl⟩ K := by
  intro D0 β0 o0 w0 hb0 ro Q a w i hro hlo hK hs
  obtain ⟨D, β, h1, h2, h3⟩ := hs
  refine h D0 β0 o0 w0 hb0 ro Q a w i hro hlo hK ⟨D, β, h1, ⟨h2.1, fun t' => ?_⟩, h3⟩
  cases hv : (PT.ofList l).get? t' with
  | none => exact .d .any
  | some v =>
    have h2t := h2.2 t'
    simp only at h2t
    rcases hl t' v hv with ⟨rfl, rfl⟩ | ho
    · rw [ht] at h2t
      cases h2t with
      | d h2t => exact .d (DvTo.nil.rep h2t)
    · rw [ho] at h2t
      exact h2t
theorem ofList_cases {l : List (Nat × AV)} {Q : Nat → AV → Prop} (h : ∀ p ∈ l, Q p.1 p.2) : ∀ t v, (PT.ofList l).get? t = some v → Q t v := fun t v hv => h (t, v) (ofList_get hv)
def heapD (w : World) : DMap := fun ad => match w.cell? ad with
  | some v => if v.oneCell' = true ∧ ad.spot = none then some v else none
  | none => none
theorem heapD_some {w : World} {ad : Addr} {v : Value} : heapD w ad = some v ↔ w.cell? ad = some v ∧ v.oneCell' = true ∧ ad.spot = none := by
  unfold heapD
  cases w.cell? ad with
  | none => simp
  | some u =>
    by_cases h : u.oneCell' = true ∧ ad.spot = none
    · simp only [if_pos h, Option.some.injEq]
      refine ⟨fun e => by subst e; exact ⟨rfl, h⟩, fun e => e.1⟩
    · simp only [if_neg h, Option.some.injEq]
      constructor
      · intro e; cases e
      · rintro ⟨rfl, h2⟩; exact absurd h2 h
theorem heapD_heap (w : World) : Heap (heapD w) [] [] w :=
  ⟨fun ad v h => by obtain ⟨h1, h2, h3⟩ := heapD_some.1 h; exact ⟨h3, h2, h1⟩, rfl, fun i bi ob hb => by simp at hb, fun i j bi bj oi oj b hb => by simp at hb⟩
theorem below_of_step {D D' : DMap} {β' : List Bi} {objs' : List Ob} {w w' : World} (h : Step D [] [] w D' β' objs' w') : RowKit.Below w.heap.size w w' :=
  ⟨h.os, h.tape, h.output.1, h.size, fun k hk => h.keep k hk not_own_nil⟩
theorem calls_with {P : Program} {f : FuncId} {ds : List DV} (h : KnownCall P f ds (.d (.bool true))) (w : World) (args : Array Value) (hn : args.size = ds.length)
    (hr : ∀ (j : Nat) c v, ds[j]? = some c → args[j]? = some v → RepD (heapD w) c v) :
    Calls P f args w fun e w' => e = .returned (.bool true) ∧ (∀ may, w.keptBut w' may) ∧ RowKit.Below w.heap.size w w' := by
  have h1 := (h []).2 (heapD w) [] w args (heapD_heap w) ⟨by simpa using hn, fun j c v hc hv => by
    simp only [List.getElem?_map, Option.map_eq_some_iff] at hc
    obtain ⟨c', hc', rfl⟩ := hc
    exact .d (hr j c' v hc' hv)⟩
  refine (CallsIn.calls h1 ?_).mono fun e w' he => ?_
  · exact fun _ d hd => (by cases hd)
  · obtain ⟨v, D', β', rfl, hs, hv⟩ := he.ret rfl
    cases hv with
    | d hv => cases hv; exact ⟨rfl, fun may => kept_of_step hs may, below_of_step hs⟩
structure CellsRep (D : DMap) (x : DV) (cs : List Value) : Prop where
  len : (cellsD x).length = cs.length
  one : ∀ v ∈ cs, v.oneCell' = true
  rep : ∀ (j : Nat) c v, (cellsD x)[j]? = some c → cs[j]? = some v → RepD D c v
section
variable {H : Type} {enc : TypeId × Value → H} {P : Program} {w : World} {spare : Nat → Bool} {held : Bool} {fuel : Nat} {t : TypeId} {cs : List Value} {x : DataW H × List MemPlace}
theorem CellsRep.leaf {D : DMap} {x : DV} {v : Value} (hx : cellsD x = [x]) (hv : v.oneCell' = true) (h : RepD D x v) : CellsRep D x [v] :=
  ⟨by rw [hx]; rfl, fun u hu => by simp only [List.mem_singleton] at hu; subst hu; exact hv, fun j c u hc hu => by
    rw [hx] at hc
    cases j with
    | zero => simp at hc hu; subst hc hu; exact h
    | succ j => simp at hc⟩
theorem cr_int {k : IntKind} (ht : P.underlying t = some (.int k)) (h : DataW.trod enc P w 0 spare held fuel t cs = some x) : ∃ n, CellsRep (heapD w) (.int k n) cs ∧ (Lit.int k n).wf = true := by
  obtain ⟨n, rfl, _, hw⟩ := DataW.trod_int ht h
  exact ⟨n, .leaf rfl rfl .int, hw⟩
theorem cr_str (ht : P.underlying t = some .string) (h : DataW.trod enc P w 0 spare held fuel t cs = some x) : ∃ s : List Nat, CellsRep (heapD w) (.str s) cs ∧ s.length ≤ maxLen ∧ ∀ c ∈ s, c < 256 := by
  obtain ⟨s, rfl, _, hl⟩ := DataW.trod_string ht h
  refine ⟨s.data.toList.map UInt8.toNat, .leaf rfl rfl (.str rfl), by simpa using hl, fun c hc => ?_⟩
  obtain ⟨b, _, rfl⟩ := List.mem_map.1 hc
  exact b.toNat_lt
theorem cells_get {a : Addr} {n : Nat} {r : List Value} (h : w.cells? 0 a n = some r) : r.length = n ∧ ∀ j, j < n → w.cell? (a.add j) = r[j]? := by
  unfold World.cells? at h
  rw [if_pos (Nat.zero_le _)] at h
  exact ⟨by simpa using mapM_some_length h, fun j hj => mapM_some_get h j j (by simp [hj])⟩
theorem spot_of_cell {a : Addr} {v : Value} (h : w.cell? a = some v) : a.spot = none := (blk_of_cell h).elim fun _ h => h.elim fun _ h => h.elim fun _ h => h.2.2
theorem cr_slice {α : Type} (f : α → DV) {e : TypeId} {sz : Nat} (Q : α → Prop) (ht : P.underlying t = some (.slice e)) (hsz : P.cellsOf e = sz) (h1 : 1 ≤ sz) (hsp : ∀ b, spare b = true)
    (elem : ∀ (n : Nat) (cs' : List Value) (y : DataW H × List MemPlace), cs'.length = sz → DataW.trod enc P w 0 spare held n e cs' = some y → ∃ d, CellsRep (heapD w) (f d) cs' ∧ Q d)
    (h : DataW.trod enc P w 0 spare held fuel t cs = some x) : ∃ l : List α, CellsRep (heapD w) (.sl sz (l.map f)) cs ∧ l.length ≤ maxLen ∧ ∀ d ∈ l, Q d := by
  rcases DataW.trod_slice ht h with ⟨rfl, _⟩ | ⟨a, len, cap, elems, rest, n, rfl, rfl, _, _, hlc, hcm, hel, hget, hrest, _⟩
  · refine ⟨[], .leaf rfl rfl ?_, Nat.zero_le _, by simp⟩
    exact .sl (es := []) [] (Nat.le_refl _) (Nat.zero_le _) (by simp) (fun _ => ⟨rfl, rfl⟩) rfl (fun ad e => by cases e) (by simp)
  · subst hsz
    have hspot : cap = 0 ∨ a.spot = none := by
      rcases Nat.eq_zero_or_pos cap with h0 | h0
      · exact .inl h0
      · right
        have hex : ∃ r, w.cells? 0 (a.add 0) (P.cellsOf e) = some r := by
          rcases Nat.eq_zero_or_pos len with hl | hl
          · obtain ⟨hr1, hr2⟩ := hrest (hsp _)
            have h2 := hr2 0 (by omega)
            rw [List.getElem?_eq_getElem (by omega), show (len + 0) * P.cellsOf e = 0 from by simp [hl]] at h2
            simp only [Option.bind_eq_some_iff] at h2
            obtain ⟨r, hr, _⟩ := h2
            exact ⟨r, hr⟩
          · have h2 := hget 0 hl
            rw [List.getElem?_eq_getElem (by omega)] at h2
            simp only [Option.bind_eq_some_iff, Nat.zero_mul] at h2
            obtain ⟨r, hr, _⟩ := h2
            exact ⟨r, hr⟩
        obtain ⟨r, hr⟩ := hex
        obtain ⟨g1, g2⟩ := cells_get hr
        have g3 := g2 0 (by omega)
        rw [List.getElem?_eq_getElem (by omega)] at g3
        have := spot_of_cell g3
        simpa [Addr.add] using this
    have hone : ∀ i, i < len → ∃ d r, CellsRep (heapD w) (f d) r ∧ Q d ∧ r.length = P.cellsOf e ∧ ∀ j, j < P.cellsOf e → w.cell? ((a.add (i * P.cellsOf e)).add j) = r[j]? := by
      intro i hi
      have h2 := hget i hi
      rw [List.getElem?_eq_getElem (by omega)] at h2
      simp only [Option.bind_eq_some_iff] at h2
      obtain ⟨r, hr, hy⟩ := h2
      obtain ⟨g1, g2⟩ := cells_get hr
      obtain ⟨d, hd, hq⟩ := elem n r _ g1 hy
      exact ⟨d, r, hd, hq, g1, g2⟩
    have hlist : ∀ m, m ≤ len → ∃ (l : List α) (vs : List Value), l.length = m ∧ (∀ d ∈ l, Q d) ∧ (∀ d ∈ l, (cellsD (f d)).length = P.cellsOf e) ∧ vs.length = m * P.cellsOf e ∧ (flatD (l.map f)).length = vs.length ∧
        (∀ v ∈ vs, v.oneCell' = true) ∧ (∀ (j : Nat) v, vs[j]? = some v → w.cell? ⟨a.block, a.off + j, none⟩ = some v) ∧ (∀ (j : Nat) c v, (flatD (l.map f))[j]? = some c → vs[j]? = some v → RepD (heapD w) c v) := by
      intro m
      induction m with
      | zero => exact fun _ => ⟨[], [], rfl, by simp, by simp, by simp, rfl, by simp, by simp, by simp⟩
      | succ m ih =>
        intro hm
        obtain ⟨l, vs, i1, i2, i3, i4, i5, i6, i7, i8⟩ := ih (by omega)
        obtain ⟨d, r, k1, k2, k3, k4⟩ := hone m (by omega)
        have hsp0 : a.spot = none := hspot.resolve_left (by omega)
        have hfl : flatD ((l ++ [d]).map f) = flatD (l.map f) ++ cellsD (f d) := by simp [flatD]
        refine ⟨l ++ [d], vs ++ r, by simp [i1], ?_, ?_, by rw [List.length_append, i4, k3, Nat.succ_mul], by rw [hfl, List.length_append, List.length_append, i5, k1.len], ?_, ?_, ?_⟩
        · intro q hq
          rcases List.mem_append.1 hq with hq | hq
          · exact i2 q hq
          · simp only [List.mem_singleton] at hq; subst hq; exact k2
        · intro q hq
          rcases List.mem_append.1 hq with hq | hq
          · exact i3 q hq
          · simp only [List.mem_singleton] at hq; subst hq; rw [k1.len, k3]
        · intro v hv
          rcases List.mem_append.1 hv with hv | hv
          · exact i6 v hv
          · exact k1.one v hv
        · intro j v hv
          rcases Nat.lt_or_ge j vs.length with hj | hj
          · rw [List.getElem?_append_left hj] at hv; exact i7 j v hv
          · rw [List.getElem?_append_right hj] at hv
            have hjr : j - vs.length < r.length := (List.getElem?_eq_some_iff.1 hv).1
            have := k4 (j - vs.length) (by omega)
            rw [addr_add hsp0, addr_add rfl, hv] at this
            simp only at this
            rw [← this]
            have : a.off + m * P.cellsOf e + (j - vs.length) = a.off + j := by omega
            rw [this]
        · intro j c v hc hv
          rw [hfl] at hc
          rcases Nat.lt_or_ge j vs.length with hj | hj
          · rw [List.getElem?_append_left hj] at hv
            rw [List.getElem?_append_left (by omega)] at hc
            exact i8 j c v hc hv
          · rw [List.getElem?_append_right hj] at hv
            rw [List.getElem?_append_right (by omega), i5] at hc
            exact k1.rep _ c v hc hv
    obtain ⟨l, vs, i1, i2, i3, i4, i5, i6, i7, i8⟩ := hlist len (Nat.le_refl _)
    refine ⟨l, .leaf rfl rfl ?_, by omega, i2⟩
    subst i1
    rw [← List.length_map (as := l) f]
    refine .sl vs (by simpa using hlc) hcm (fun y hy => ?_) (fun e => by cases e) i5.symm (fun ad e => ?_) i8
    · obtain ⟨d, hd, rfl⟩ := List.mem_map.1 hy
      exact i3 d hd
    · cases e
      refine ⟨hspot, fun j v hj => heapD_some.2 ⟨i7 j v hj, i6 v (List.mem_of_getElem? hj), rfl⟩⟩
theorem cr_agg {D : DMap} {cs : List Value} (xs : List DV) (hl : xs.length = cs.length) (h : ∀ (j : Nat) x v, xs[j]? = some x → cs[j]? = some v → cellsD x = [x] ∧ CellsRep D x [v]) : CellsRep D (.agg xs) cs := by
  refine ⟨hl, fun v hv => ?_, fun j c v hc hv => ?_⟩
  · obtain ⟨j, hj, e⟩ := List.getElem_of_mem hv
    obtain ⟨x, hx⟩ : ∃ x, xs[j]? = some x := ⟨xs[j]'(by omega), by simp⟩
    exact (h j x v hx (by rw [List.getElem?_eq_getElem hj, e])).2.one v (by simp)
  · obtain ⟨h1, h2⟩ := h j c v hc hv
    exact h2.rep 0 c v (by rw [h1]; rfl) rfl
def AllRep (D : DMap) : List DV → List Value → Prop
  | [], [] => True
  | x :: xs, v :: vs => (cellsD x = [x] ∧ CellsRep D x [v]) ∧ AllRep D xs vs
  | _, _ => False
theorem allRep_len {D : DMap} : ∀ {xs : List DV} {cs : List Value}, AllRep D xs cs → xs.length = cs.length
  | [], [], _ => rfl
  | _ :: _, _ :: _, h => by simp [allRep_len h.2]
theorem allRep_get {D : DMap} : ∀ {xs : List DV} {cs : List Value}, AllRep D xs cs → ∀ (j : Nat) x v, xs[j]? = some x → cs[j]? = some v → cellsD x = [x] ∧ CellsRep D x [v]
  | [], [], _, j, x, v, hx, _ => by simp at hx
  | x :: xs, v :: vs, h, 0, y, u, hx, hv => by simp at hx hv; subst hx hv; exact h.1
  | x :: xs, v :: vs, h, j + 1, y, u, hx, hv => allRep_get h.2 j y u (by simpa using hx) (by simpa using hv)
theorem cr_all {D : DMap} {xs : List DV} {cs : List Value} (h : AllRep D xs cs) : CellsRep D (.agg xs) cs := cr_agg xs (allRep_len h) (allRep_get h)
theorem trod_field {fs : Array Field} (ht : P.underlying t = some (.struct fs)) (h : DataW.trod enc P w 0 spare held fuel t cs = some x) (i : Nat) {f : Field} {v : Value} (hf : fs[i]? = some f) (h1 : P.cellsOf f.type = 1)
    (hv : cs[f.offset]? = some v) : ∃ n y, DataW.trod enc P w 0 spare held n f.type [v] = some y := by
  obtain ⟨xs, n, _, _, hl, hxl, hff⟩ := DataW.trod_struct ht h
  have h2 := hff i f hf
  have hi : i < xs.length := by rw [hxl]; exact (Array.getElem?_eq_some_iff.1 hf).1
  rw [h1, List.getElem?_eq_getElem hi] at h2
  refine ⟨n, xs[i], ?_⟩
  rw [← h2]
  congr 1
  obtain ⟨ho, e⟩ := List.getElem?_eq_some_iff.1 hv
  rw [List.drop_eq_getElem_cons ho, e]
  rfl
theorem rep_agg {D : DMap} {xs : List DV} {vs : Array Value} (h : CellsRep D (.agg xs) vs.toList) : RepD D (.agg xs) (.agg vs) :=
  .agg (by have := h.len; simp only [cellsD] at this; simpa using this.symm) (fun j v hv => h.one v (by
    obtain ⟨hj, e⟩ := Array.getElem?_eq_some_iff.1 hv
    rw [← e]; exact Array.mem_toList_iff.2 (Array.getElem_mem hj))) (fun j c v hc hv => h.rep j c v hc (by simpa using hv))
theorem rep_leaf {D : DMap} {x : DV} {v : Value} (hx : cellsD x = [x]) (h : CellsRep D x [v]) : RepD D x v := h.rep 0 x v (by rw [hx]; rfl) rfl
theorem leaf_cells {desc : TypeDesc} {r : Reach} {b0 : Nat} {v : Value} (ht : P.underlying t = some desc) (hd : desc = .string ∨ ∃ e, desc = .slice e) (hval : Value.okWide P w r b0 t v) : v.cells.toList = [v] := by
  cases v with
  | agg cs => rcases hd with rfl | ⟨e, rfl⟩ <;> simp [Value.okWide, ht, Cell.okWide, Cell.ok] at hval
  | _ => rfl
theorem arg_slice {r : Reach} {b0 : Nat} {v : Value} {d : DataW H} {ps : List MemPlace} {e : TypeId} {R : List DV → Prop} {sz : Nat} (ht : P.underlying t = some (.slice e)) (hval : Value.okWide P w r b0 t v) (h : DataW.Trod enc P w 0 spare held t v d ps)
    (hc : ∀ n x, DataW.trod enc P w 0 spare held n t [v] = some x → ∃ es, CellsRep (heapD w) (.sl sz es) [v] ∧ R es) : ∃ es, RepD (heapD w) (.sl sz es) v ∧ R es := by
  obtain ⟨n, h⟩ := h
  rw [leaf_cells ht (.inr ⟨e, rfl⟩) hval] at h
  obtain ⟨es, hs, h1⟩ := hc n _ h
  exact ⟨es, rep_leaf rfl hs, h1⟩
theorem arg_agg {α : Type} {r : Reach} {b0 : Nat} {v : Value} {d : DataW H} {ps : List MemPlace} {fs : Array Field} {Q : α → Prop} {f : α → List DV} (ht : P.underlying t = some (.struct fs)) (hval : Value.okWide P w r b0 t v) (h : DataW.Trod enc P w 0 spare held t v d ps)
    (hc : ∀ n (cs : List Value) x, cs.length = P.cellsOf t → DataW.trod enc P w 0 spare held n t cs = some x → ∃ a, CellsRep (heapD w) (.agg (f a)) cs ∧ Q a) : ∃ a, RepD (heapD w) (.agg (f a)) v ∧ Q a := by
  obtain ⟨n, h⟩ := h
  obtain ⟨vs, rfl, hs⟩ := WideShapes.okWide_struct ht hval
  obtain ⟨a, ha, hq⟩ := hc n vs.toList _ (by simpa using hs) h
  exact ⟨a, rep_agg ha, hq⟩
theorem trodAll_below {W W' : World} (hl : laidOutB P = true) (hb : RowKit.Below W.heap.size W W') : ∀ {ts : List TypeId} {vs : List Value} {ds : List (DataW H)} {ps : List MemPlace}, (ts.all fun t => P.readableRec t && decide (t < P.types.size)) = true →
    DataW.TrodAll enc P W 0 (fun _ => true) true ts vs ds ps → (∀ p ∈ ps, p.block < W.heap.size) → DataW.TrodAll enc P W' 0 (fun b => decide (b < W.heap.size)) true ts vs ds ps
  | [], [], [], _, _, h, _ => h
  | t :: ts, v :: vs, d :: ds, _, ht, ⟨p, q, h1, h2, e⟩, hlt => by
    simp only [List.all_cons, Bool.and_eq_true, decide_eq_true_eq] at ht
    exact ⟨p, q, RowKit.Below.trod hl ht.1.1 ht.1.2 h1 hb (fun y hy => hlt y (by rw [e]; exact List.mem_append_left _ hy)), trodAll_below hl hb ht.2 h2 (fun y hy => hlt y (by rw [e]; exact List.mem_append_right _ hy)), e⟩
end
section
variable {H : Type} {enc : TypeId × Value → H} {P : Program} {w : World} {spare : Nat → Bool} {held : Bool} {fuel : Nat} {t : TypeId} {cs : List Value} {x : DataW H × List MemPlace} {B : Nat}
end
def reA (ρ : Nat → Nat) : Nat → AV → AV
  | 0, _ => .d .any
  | _ + 1, .d x => .d x
  | _ + 1, .bp i off => .bp (ρ i) off
  | _ + 1, .sr i sz es => .sr (ρ i) sz es
  | _ + 1, .bs i off len cap => .bs (ρ i) off len cap
  | _ + 1, .mp i => .mp (ρ i)
  | k + 1, .agg cs => .agg (cs.map (reA ρ k))
  | k + 1, .tup cs => .tup (cs.map (reA ρ k))
  | _ + 1, .vs i sz lo len => .vs (ρ i) sz lo len
  | _ + 1, _ => .d .any
def reO (ρ : Nat → Nat) : Ob → Ob
  | .box cs => .box (cs.map (reA ρ 8))
  | .room m sz => .room m sz
  | .map kvs => .map kvs
  | .pm kvs => .pm kvs
  | .raw o => .raw o
  | .sit s p => .sit s p
  | .vec t ag sz m cs => .vec t ag sz m (cs.map (reA ρ 8))
  | .tb t cs => .tb t (cs.map (reA ρ 8))
  | _ => .gone
def okA (n : Nat) : Nat → AV → Bool
  | 0, _ => false
  | _ + 1, .d _ => true
  | _ + 1, .bp i _ => Nat.blt i n
  | _ + 1, .sr i _ _ => Nat.blt i n
  | _ + 1, .bs i _ _ _ => Nat.blt i n
  | _ + 1, .mp i => Nat.blt i n
  | _ + 1, .vs i _ _ _ => Nat.blt i n
  | k + 1, .agg cs => cs.all (okA n k)
  | _ + 1, _ => false
def okO (n : Nat) : Ob → Bool
  | .box cs => cs.all (okA n 8)
  | .tb _ cs => cs.all (okA n 8)
  | .vec _ _ _ _ cs => cs.all (okA n 8)
  | .loop .. => false
  | .mit .. => false
  | _ => true
theorem reA_ok {D : DMap} {β β2 : List Bi} {ρ : Nat → Nat} (look : ∀ i x, β[i]? = some x → β2[ρ i]? = some x) : ∀ (k : Nat) {x : AV} {v : Value}, RepA D β x v → RepA D β2 (reA ρ k x) v := by
  intro k
  induction k with
  | zero => exact fun _ => .d .any
  | succ k ih =>
    intro x v h
    cases h with
    | d h => exact .d h
    | bp h => exact .bp (look _ _ h)
    | sr h hh hd => exact .sr (look _ _ h) hh hd
    | bs h => exact .bs (look _ _ h)
    | mp h => exact .mp (look _ _ h)
    | fn => exact .d .any
    | agg h h1 hr =>
      refine .agg (by simp [h]) h1 fun j c v hc hv => ?_
      simp only [List.getElem?_map, Option.map_eq_some_iff] at hc
      obtain ⟨y, hy, rfl⟩ := hc
      exact ih (hr j y v hy hv)
    | tup h hr =>
      refine .tup (by simp [h]) fun j c v hc hv => ?_
      simp only [List.getElem?_map, Option.map_eq_some_iff] at hc
      obtain ⟨y, hy, rfl⟩ := hc
      exact ih (hr j y v hy hv)
    | yl h => exact .d .any
    | vs h hh hc hm hn hx => exact .vs (look _ _ h) hh hc hm hn hx
theorem reA_back {D : DMap} {β β2 : List Bi} {ρ : Nat → Nat} {n : Nat} (look : ∀ i, i < n → β[i]? = β2[ρ i]?) : ∀ (k : Nat) {x : AV} {v : Value}, okA n k x = true → RepA D β2 (reA ρ k x) v → RepA D β x v := by
  have lk : ∀ {i : Nat} {bi : Bi}, Nat.blt i n = true → β2[ρ i]? = some bi → β[i]? = some bi := fun h1 h2 => by
    rw [Nat.blt_eq] at h1; rw [look _ h1]; exact h2
  intro k
  induction k with
  | zero => intro x v h; cases h
  | succ k ih =>
    intro x v ho h
    cases x with
    | d x => cases h with | d h => exact .d h
    | bp i off => cases h with | bp h => exact .bp (lk ho h)
    | sr i sz es => cases h with | sr h hh hd => exact .sr (lk ho h) hh hd
    | bs i off len cap => cases h with | bs h => exact .bs (lk ho h)
    | mp i => cases h with | mp h => exact .mp (lk ho h)
    | vs i sz lo len => cases h with | vs h hh hc hm hn hx => exact .vs (lk ho h) hh hc hm hn hx
    | agg cs =>
      simp only [okA, List.all_eq_true] at ho
      cases h with
      | agg h h1 hr =>
        refine .agg (by simpa using h) h1 fun j c v hc hv => ?_
        exact ih (ho c (List.mem_of_getElem? hc)) (hr j _ v (by simp [hc]) hv)
    | _ => cases ho
theorem reO_own {ρ : Nat → Nat} {bi : Bi} {ob : Ob} {b : Nat} (h : ownOf bi (reO ρ ob) = some b) : ownOf bi ob = some b := by
  cases ob <;> first | exact h | (simp only [reO, ownOf] at h ⊢; exact h) | (simp only [reO, ownOf] at h; cases h)
theorem reO_own' {ρ : Nat → Nat} {n : Nat} {bi : Bi} {ob : Ob} {b : Nat} (ho : okO n ob = true) (h : ownOf bi ob = some b) : ownOf bi (reO ρ ob) = some b := by
  cases ob <;> first | exact h | (simp only [reO, ownOf] at h ⊢; exact h) | cases ho
theorem reO_ok {D : DMap} {β β2 : List Bi} {ρ : Nat → Nat} {w : World} {bi : Bi} {ob : Ob} (look : ∀ i x, β[i]? = some x → β2[ρ i]? = some x) (h : HoldsOb D β w bi ob) : HoldsOb D β2 w bi (reO ρ ob) := by
  have cell : ∀ {cs : List AV} {vs : Array Value}, (∀ (j : Nat) c v, cs[j]? = some c → vs[j]? = some v → RepA D β c v) → ∀ (j : Nat) c v, (cs.map (reA ρ 8))[j]? = some c → vs[j]? = some v → RepA D β2 c v := by
    intro cs vs h j c v hc hv
    simp only [List.getElem?_map, Option.map_eq_some_iff] at hc
    obtain ⟨y, hy, rfl⟩ := hc
    exact reA_ok look 8 (h j y v hy hv)
  cases ob with
  | box cs => obtain ⟨vs, T, g1, g2, g3, g4, g5⟩ := h; exact ⟨vs, T, g1, by simp [g2], cell g3, g4, g5⟩
  | tb ty cs => obtain ⟨vs, T, g1, g2, g3, g4, g5⟩ := h; exact ⟨vs, T, g1, by simp [g2], cell g3, g4, g5⟩
  | vec ty ag sz m cs =>
    obtain ⟨a, cap, g1, g2, g3, g4, g5, g6⟩ := h
    refine ⟨a, cap, g1, g2, g3, by simp [g4], g5, fun ad e => ?_⟩
    obtain ⟨k1, vs, T, k2, k3, k4, k5, k6⟩ := g6 ad e
    exact ⟨k1, vs, T, k2, k3, cell k4, k5, k6⟩
  | loop => trivial
  | gone => trivial
  | mit => trivial
  | _ => exact h
theorem reO_back {D : DMap} {β β2 : List Bi} {ρ : Nat → Nat} {n : Nat} {w : World} {bi : Bi} {ob : Ob} (look : ∀ i, i < n → β[i]? = β2[ρ i]?) (ho : okO n ob = true) (h : HoldsOb D β2 w bi (reO ρ ob)) : HoldsOb D β w bi ob := by
  have cell : ∀ {cs : List AV} {vs : Array Value}, cs.all (okA n 8) = true → (∀ (j : Nat) c v, (cs.map (reA ρ 8))[j]? = some c → vs[j]? = some v → RepA D β2 c v) → ∀ (j : Nat) c v, cs[j]? = some c → vs[j]? = some v → RepA D β c v := by
    intro cs vs ho h j c v hc hv
    simp only [List.all_eq_true] at ho
    exact reA_back look 8 (ho c (List.mem_of_getElem? hc)) (h j _ v (by simp [hc]) hv)
  cases ob with
  | box cs => obtain ⟨vs, T, g1, g2, g3, g4, g5⟩ := h; exact ⟨vs, T, g1, by simpa using g2, cell ho g3, g4, g5⟩
  | tb ty cs => obtain ⟨vs, T, g1, g2, g3, g4, g5⟩ := h; exact ⟨vs, T, g1, by simpa using g2, cell ho g3, g4, g5⟩
  | vec ty ag sz m cs =>
    obtain ⟨a, cap, g1, g2, g3, g4, g5, g6⟩ := h
    refine ⟨a, cap, g1, g2, g3, by simpa using g4, g5, fun ad e => ?_⟩
    obtain ⟨k1, vs, T, k2, k3, k4, k5, k6⟩ := g6 ad e
    exact ⟨k1, vs, T, k2, k3, cell ho k4, k5, k6⟩
  | loop => cases ho
  | gone => trivial
  | mit => cases ho
  | _ => exact h
theorem find_range {n k : Nat} {p : Nat → Bool} (hk : k < n) (h1 : p k = true) (h2 : ∀ i, i < n → p i = true → i = k) : (List.range n).find? p = some k := by
  cases hf : (List.range n).find? p with
  | none => rw [List.find?_eq_none] at hf; exact absurd h1 (hf k (List.mem_range.2 hk))
  | some j =>
    have h3 := List.find?_some hf
    have h4 := List.mem_of_find?_eq_some hf
    rw [h2 j (List.mem_range.1 h4) h3]
def atOf (pos : List Nat) (m : Nat) (k : Nat) : Nat := match pos[k]? with | some p => p | none => m + (k - pos.length)
def reR (ρ : Nat → Nat) : AV → AV
  | .pan x => .pan x
  | r => reA ρ 8 r
theorem reR_of {ρ : Nat → Nat} {r : AV} (h : isPan r = false) : reR ρ r = reA ρ 8 r := by cases r <;> first | rfl | cases h
theorem ACall.embedR {P : Program} {f : FuncId} {args : List AV} {A A' : List Ob} {r : AV} (h : ACall P f args A r A') {Big Big' : List Ob} {pos : List Nat} (hl : pos.length = A.length) (hnd : pos.Nodup)
    (hB : ∀ (k : Nat) ob, A[k]? = some ob → ∃ p, pos[k]? = some p ∧ Big[p]? = some (reO (atOf pos Big.length) ob)) (hok : A.all (okO A.length) = true) (hargs : args.all (okA A.length 8) = true)
    (h1 : Big'.length + A.length = Big.length + A'.length) (h2 : ∀ p, p < Big.length → p ∉ pos → Big'[p]? = Big[p]?)
    (h3 : ∀ (k : Nat) ob, A'[k]? = some ob → Big'[atOf pos Big.length k]? = some (reO (atOf pos Big.length) ob)) :
    ACall P f (args.map (reA (atOf pos Big.length) 8)) Big (reR (atOf pos Big.length) r) Big' := by
  generalize hρ : atOf pos Big.length = ρ at *
  refine ⟨h.1, fun D β w vs hh hv => ?_⟩
  let z : Bi := ⟨0, fun _ => none⟩
  have hpos : ∀ (k p : Nat), pos[k]? = some p → p < Big.length := fun k p hk => by
    have hkl : k < A.length := by rw [← hl]; exact (List.getElem?_eq_some_iff.1 hk).1
    obtain ⟨p', e1, e2⟩ := hB k A[k] (by simp [hkl])
    rw [hk] at e1; cases e1
    exact (List.getElem?_eq_some_iff.1 e2).1
  have ρlow : ∀ (k p : Nat), pos[k]? = some p → ρ k = p := fun k p hk => by subst hρ; simp [atOf, hk]
  have ρhigh : ∀ k : Nat, A.length ≤ k → ρ k = Big.length + (k - A.length) := fun k hk => by
    subst hρ
    simp only [atOf]
    rw [List.getElem?_eq_none (by omega), hl]
  have posAt : ∀ k : Nat, k < A.length → ∃ p, pos[k]? = some p ∧ ρ k = p ∧ p < Big.length := fun k hk => by
    have hk' : k < pos.length := by omega
    refine ⟨pos[k], by simp [hk'], ρlow _ _ (by simp [hk']), hpos k _ (by simp [hk'])⟩
  have ρinj : ∀ i j : Nat, ρ i = ρ j → i = j := fun i j e => by
    rcases Nat.lt_or_ge i A.length with hi | hi <;> rcases Nat.lt_or_ge j A.length with hj | hj
    · obtain ⟨p, a1, a2, a3⟩ := posAt i hi
      obtain ⟨q, b1, b2, b3⟩ := posAt j hj
      have e' : p = q := by omega
      subst e'
      exact (List.getElem?_inj (by omega) hnd).1 (by rw [a1, b1])
    · obtain ⟨p, a1, a2, a3⟩ := posAt i hi
      have := ρhigh j hj; omega
    · obtain ⟨p, a1, a2, a3⟩ := posAt j hj
      have := ρhigh i hi; omega
    · have := ρhigh i hi
      have := ρhigh j hj; omega
  have hβl := hh.len
  let βs : List Bi := pos.map fun p => β.getD p z
  have βsAt : ∀ i, i < A.length → βs[i]? = β[ρ i]? := fun i hi => by
    obtain ⟨p, a1, a2, a3⟩ := posAt i hi
    have hpβ : p < β.length := by omega
    simp only [βs, List.getElem?_map, a1, a2, Option.map_some, List.getD_eq_getElem?_getD]
    simp [hpβ]
  have hβs : βs.length = A.length := by simp [βs, hl]
  have okAt : ∀ (k : Nat) ob, A[k]? = some ob → okO A.length ob = true := fun k ob hk => by
    simp only [List.all_eq_true] at hok
    exact hok ob (List.mem_of_getElem? hk)
  have small : Heap D βs A w := by
    refine ⟨hh.dh, hβs, fun i bi ob a b => ?_, fun i j bi bj oi oj b a1 a2 b1 b2 c1 c2 => ?_⟩
    · have hi : i < A.length := (List.getElem?_eq_some_iff.1 b).1
      rw [βsAt i hi] at a
      obtain ⟨p, e1, e2⟩ := hB i ob b
      rw [ρlow _ _ e1] at a
      exact reO_back βsAt (okAt i ob b) (hh.hold p bi _ a e2)
    · have hi : i < A.length := (List.getElem?_eq_some_iff.1 b1).1
      have hj : j < A.length := (List.getElem?_eq_some_iff.1 b2).1
      rw [βsAt i hi] at a1
      rw [βsAt j hj] at a2
      obtain ⟨p, e1, e2⟩ := hB i oi b1
      obtain ⟨q, f1, f2⟩ := hB j oj b2
      rw [ρlow _ _ e1] at a1
      rw [ρlow _ _ f1] at a2
      have := hh.disj p q bi bj _ _ b a1 a2 e2 f2 (reO_own' (okAt i oi b1) c1) (reO_own' (okAt j oj b2) c2)
      exact ρinj i j (by rw [ρlow _ _ e1, ρlow _ _ f1, this])
  have ownUp : ∀ b, Own βs A b → ∃ (i p : Nat), ∃ bi ob, i < A.length ∧ ρ i = p ∧ β[p]? = some bi ∧ A[i]? = some ob ∧ Big[p]? = some (reO ρ ob) ∧ ownOf bi (reO ρ ob) = some b := by
    rintro b ⟨i, bi, ob, a, b', c⟩
    have hi : i < A.length := (List.getElem?_eq_some_iff.1 b').1
    rw [βsAt i hi] at a
    obtain ⟨p, e1, e2⟩ := hB i ob b'
    rw [ρlow _ _ e1] at a
    exact ⟨i, p, bi, ob, hi, ρlow _ _ e1, a, b', e2, reO_own' (okAt i ob b') c⟩
  refine (h.2 D βs w vs small ⟨by simpa using hv.1, fun j c v hc hw => ?_⟩).mono fun e w' he => ?_
  · have := hv.2 j (reA ρ 8 c) v (by simp [hc]) hw
    simp only [List.all_eq_true] at hargs
    exact reA_back βsAt 8 (hargs c (List.mem_of_getElem? hc)) this
  obtain ⟨D', β', hs, fin⟩ : ∃ D' β', Step D βs A w D' β' A' w' ∧ ∀ β2 : List Bi, (∀ i x, β'[i]? = some x → β2[ρ i]? = some x) → Step D β Big w D' β2 Big' w' → EndOK D β Big w (reR ρ r) Big' e w' := by
    rcases he with ⟨v, D', β', rfl, hs, hrv⟩ | ⟨x, v, D', β', rfl, rfl, hs, hrv⟩
    · exact ⟨D', β', hs, fun β2 look st => .inl ⟨v, D', β2, rfl, st, by rw [reR_of hrv.noPan]; exact reA_ok look 8 hrv⟩⟩
    · exact ⟨D', β', hs, fun β2 look st => .inr ⟨x, v, D', β2, rfl, rfl, st, hrv⟩⟩
  have hl' := hs.heap.len
  have hge : A.length ≤ A'.length := by
    rcases Nat.lt_or_ge A'.length A.length with hlt | hge
    · obtain ⟨y, hy, _⟩ := hs.bext A'.length (βs[A'.length]'(by omega)) (by simp)
      have := (List.getElem?_eq_some_iff.1 hy).1; omega
    · exact hge
  let β2 : List Bi := (List.range Big'.length).map fun p => match (List.range A'.length).find? (fun k => ρ k == p) with | some k => β'.getD k z | none => β.getD p z
  have β2len : β2.length = Big'.length := by simp [β2]
  have ρltB : ∀ k, k < A'.length → ρ k < Big'.length := fun k hk => by
    rcases Nat.lt_or_ge k A.length with h' | h'
    · obtain ⟨p, a1, a2, a3⟩ := posAt k h'; omega
    · have := ρhigh k h'; omega
  have β2at : ∀ k, k < A'.length → β2[ρ k]? = β'[k]? := fun k hk => by
    have hk' : k < β'.length := by omega
    have hf : (List.range A'.length).find? (fun k' => ρ k' == ρ k) = some k := find_range hk (by simp) fun i _ e' => ρinj _ _ (by simpa using e')
    simp only [β2, List.getElem?_map, List.getElem?_range (ρltB k hk), Option.map_some, hf, List.getD_eq_getElem?_getD]
    simp [hk']
  have β2old : ∀ p, p < Big.length → p ∉ pos → β2[p]? = β[p]? := fun p hp' hn => by
    have hpl : p < Big'.length := by omega
    have hf : (List.range A'.length).find? (fun k => ρ k == p) = none := by
      rw [List.find?_eq_none]
      intro k hk
      simp only [List.mem_range] at hk
      simp only [beq_iff_eq]
      intro e'
      rcases Nat.lt_or_ge k A.length with h' | h'
      · obtain ⟨q, a1, a2, a3⟩ := posAt k h'
        exact hn (by rw [show p = q by omega]; exact List.mem_of_getElem? a1)
      · have := ρhigh k h'; omega
    simp only [β2, List.getElem?_map, List.getElem?_range hpl, Option.map_some, hf, List.getD_eq_getElem?_getD]
    have : p < β.length := by omega
    simp [this]
  have look2 : ∀ i x, β'[i]? = some x → β2[ρ i]? = some x := fun i x hx => by
    rw [β2at i (by have := (List.getElem?_eq_some_iff.1 hx).1; omega)]; exact hx
  have cut : ∀ (p : Nat) bi ob, β2[p]? = some bi → Big'[p]? = some ob → (p < Big.length ∧ p ∉ pos ∧ β[p]? = some bi ∧ Big[p]? = some ob) ∨ (∃ k o, ρ k = p ∧ β'[k]? = some bi ∧ A'[k]? = some o ∧ ob = reO ρ o) := by
    intro p bi ob a b
    have hpl : p < Big'.length := (List.getElem?_eq_some_iff.1 b).1
    have few : ∀ k, k < A'.length → ρ k = p → ∃ k o, ρ k = p ∧ β'[k]? = some bi ∧ A'[k]? = some o ∧ ob = reO ρ o := fun k hk e' => by
      refine ⟨k, A'[k], e', by rw [← β2at k hk, e']; exact a, by simp [hk], ?_⟩
      have := h3 k A'[k] (by simp [hk])
      rw [e', b] at this
      exact Option.some.inj this
    rcases Nat.lt_or_ge p Big.length with hp' | hp'
    · by_cases hm : p ∈ pos
      · obtain ⟨k, hk, e'⟩ := List.getElem_of_mem hm
        exact .inr (few k (by omega) (ρlow k p (by rw [List.getElem?_eq_getElem hk, e'])))
      · exact .inl ⟨hp', hm, by rw [← β2old p hp' hm]; exact a, by rw [← h2 p hp' hm]; exact b⟩
    · exact .inr (few (A.length + (p - Big.length)) (by omega) (by rw [ρhigh _ (by omega)]; omega))
  have other : ∀ (p : Nat) bi ob b, p < Big.length → p ∉ pos → β[p]? = some bi → Big[p]? = some ob → ownOf bi ob = some b → ¬ Own βs A b := by
    intro p bi ob b h1 hn a1 a2 a3 ho
    obtain ⟨i, q, bj, oj, c0, c1, c2, _, c3, c4⟩ := ownUp b ho
    have := hh.disj p q bi bj _ _ b a1 c2 a2 c3 a3 c4
    obtain ⟨q', d1, d2, _⟩ := posAt i c0
    exact hn (by rw [show p = q' by omega]; exact List.mem_of_getElem? d1)
  have upOwn : ∀ b, Own βs A b → Own β Big b := fun b ho => by
    obtain ⟨i, q, bj, oj, c0, c1, c2, _, c3, c4⟩ := ownUp b ho
    exact ⟨q, bj, _, c2, c3, c4⟩
  have few2 : ∀ (k : Nat) bi o b, β'[k]? = some bi → A'[k]? = some o → ownOf bi o = some b → Own βs A b ∨ w.heap.size ≤ b := fun k bi o b a1 a2 a3 => hs.ownn b ⟨k, bi, o, a1, a2, a3⟩
  have st : Step D β Big w D' β2 Big' w' := by
    refine ⟨hs.dsub, fun ad v a b => (hs.dnew ad v a b).imp (upOwn _) id, fun p x hx => ?_, ⟨hs.heap.dh, by rw [β2len], fun p bi ob a b => ?_, fun p q bi bj oi oj b a1 a2 b1 b2 c1 c2 => ?_⟩, hs.size, fun k hk hn => hs.keep k hk (fun ho => hn (upOwn k ho)),
      hs.os, hs.tape, hs.output, ?_⟩
    · have hpb : p < Big.length := by have := (List.getElem?_eq_some_iff.1 hx).1; omega
      by_cases hm : p ∈ pos
      · obtain ⟨k, hk, e'⟩ := List.getElem_of_mem hm
        have hkp : ρ k = p := ρlow k p (by rw [List.getElem?_eq_getElem hk, e'])
        obtain ⟨y, hy, hxy⟩ := hs.bext k x (by rw [βsAt k (by omega), hkp]; exact hx)
        exact ⟨y, by rw [← hkp]; exact look2 k y hy, hxy⟩
      · exact ⟨x, by rw [β2old p hpb hm]; exact hx, BiExt.refl x⟩
    · rcases cut p bi ob a b with ⟨p1, p2, p3, p4⟩ | ⟨k, o, e', k1, k2, rfl⟩
      · refine (hh.hold p bi ob p3 p4).mono hs.dsub (fun q x hx => ?_) (fun ad v h5 h6 h7 => ?_) (fun b' hb' => ?_)
        · have hpb : q < Big.length := by have := (List.getElem?_eq_some_iff.1 hx).1; omega
          by_cases hm : q ∈ pos
          · obtain ⟨k, hk, e'⟩ := List.getElem_of_mem hm
            have hkp : ρ k = q := ρlow k q (by rw [List.getElem?_eq_getElem hk, e'])
            obtain ⟨y, hy, hxy⟩ := hs.bext k x (by rw [βsAt k (by omega), hkp]; exact hx)
            exact ⟨y, by rw [← hkp]; exact look2 k y hy, hxy⟩
          · exact ⟨x, by rw [β2old q hpb hm]; exact hx, BiExt.refl x⟩
        · rcases hs.dnew ad v h5 h6 with h8 | h8
          · exact other p bi ob _ p1 p2 p3 p4 h7 h8
          · have := hh.own_lt ⟨p, bi, ob, p3, p4, h7⟩; omega
        · exact hs.keep b' (hh.own_lt ⟨p, bi, ob, p3, p4, hb'⟩) (other p bi ob b' p1 p2 p3 p4 hb')
      · exact reO_ok look2 (hs.heap.hold k bi o k1 k2)
    · rcases cut p bi oi a1 b1 with ⟨p1, p2, p3, p4⟩ | ⟨k, o, e', k1, k2, rfl⟩ <;> rcases cut q bj oj a2 b2 with ⟨q1, q2, q3, q4⟩ | ⟨k', o', e'', k1', k2', rfl⟩
      · exact hh.disj p q bi bj oi oj b p3 q3 p4 q4 c1 c2
      · exfalso
        rcases few2 k' bj o' b k1' k2' (reO_own c2) with h8 | h8
        · exact other p bi oi b p1 p2 p3 p4 c1 h8
        · have := hh.own_lt ⟨p, bi, oi, p3, p4, c1⟩; omega
      · exfalso
        rcases few2 k bi o b k1 k2 (reO_own c1) with h8 | h8
        · exact other q bj oj b q1 q2 q3 q4 c2 h8
        · have := hh.own_lt ⟨q, bj, oj, q3, q4, c2⟩; omega
      · have := hs.heap.disj k k' bi bj o o' b k1 k1' k2 k2' (reO_own c1) (reO_own c2)
        rw [← e', ← e'', this]
    · rintro b ⟨p, bi, ob, a1, a2, a3⟩
      rcases cut p bi ob a1 a2 with ⟨p1, p2, p3, p4⟩ | ⟨k, o, e', k1, k2, rfl⟩
      · exact .inl ⟨p, bi, ob, p3, p4, a3⟩
      · exact (few2 k bi o b k1 k2 (reO_own a3)).imp (upOwn b) id
  exact fin β2 look2 st
section
variable {P : Program} {frz : List Nat} {nt m : Nat} {ro' : Option Nat} {K : Ex → S → Prop} {s : S} {ops : Array Oper} {l : List Oper}
end
inductive DvN : DV → DV → Prop
  | refl {x : DV} : DvN x x
  | nil {sz : Nat} : DvN .nilsl (.sl sz [])
  | agg {xs ys : List DV} (hl : xs.length = ys.length) (h : ∀ (j : Nat) x y, xs[j]? = some x → ys[j]? = some y → DvN x y) : DvN (.agg xs) (.agg ys)
  | sl {sz : Nat} {xs ys : List DV} (hn : xs.length = ys.length) (hl : (flatD xs).length = (flatD ys).length) (hs : ∀ e ∈ ys, (cellsD e).length = sz)
      (h : ∀ (j : Nat) x y, (flatD xs)[j]? = some x → (flatD ys)[j]? = some y → DvN x y) : DvN (.sl sz xs) (.sl sz ys)
theorem DvN.rep {D : DMap} {x y : DV} (h : DvN x y) : ∀ {v : Value}, RepD D x v → RepD D y v := by
  induction h with
  | refl => exact fun h => h
  | nil => exact fun h => DvTo.nil.rep h
  | agg hl _ ih =>
    intro v h
    cases h with
    | agg h h1 hr =>
      refine .agg (by rw [h, hl]) h1 fun j c v hc hv => ?_
      have hj := (List.getElem?_eq_some_iff.1 hc).1
      rw [← hl] at hj
      exact ih j _ c (List.getElem?_eq_getElem hj) hc (hr j _ v (List.getElem?_eq_getElem hj) hv)
  | sl hn hl hs _ ih =>
    intro v h
    cases h with
    | sl vs hc hm hsz hno hv hD hr =>
      rw [hn]
      refine .sl vs (by omega) hm hs (fun e => ⟨List.length_eq_zero_iff.1 (by rw [← hn, (hno e).1]; rfl), (hno e).2⟩) (by rw [hv, hl]) hD fun j c v hc hv' => ?_
      have hj := (List.getElem?_eq_some_iff.1 hc).1
      rw [← hl] at hj
      exact ih j _ c (List.getElem?_eq_getElem hj) hc (hr j _ v (List.getElem?_eq_getElem hj) hv')
theorem known_toN {P : Program} {f : FuncId} {ds : List DV} {x y : DV} (h : KnownCall P f ds (.d x)) (hr : DvN x y) : KnownCall P f ds (.d y) := by
  intro o
  refine ⟨(h o).1, fun D β w vs hp hv => ((h o).2 D β w vs hp hv).mono fun e w' he => ?_⟩
  rcases he with ⟨v, D', β', rfl, hs, hv⟩ | ⟨z, v, D', β', hz, rfl, hs, hrep⟩
  · refine .inl ⟨v, D', β', rfl, hs, ?_⟩
    cases hv with
    | d k => exact .d (hr.rep k)
  · cases hz
theorem DvN.map {α : Type} {f g : α → DV} {n : Nat} (hf : ∀ a, (cellsD (f a)).length = n) (hg : ∀ a, (cellsD (g a)).length = n) (l : List α) (h : ∀ a ∈ l, ∀ (i : Nat) x y, (cellsD (f a))[i]? = some x → (cellsD (g a))[i]? = some y → DvN x y) : DvN (.sl n (l.map f)) (.sl n (l.map g)) := by
  have hlen : ∀ (k : α → DV), (∀ a, (cellsD (k a)).length = n) → ∀ l : List α, (flatD (l.map k)).length = l.length * n := fun k hk l => by
    induction l with
    | nil => simp [flatD]
    | cons a l ih =>
      simp only [List.map_cons, flatD, List.flatMap_cons, List.length_append, List.length_cons] at ih ⊢
      rw [hk, ih, Nat.succ_mul]; omega
  have hget : ∀ (l : List α) (j : Nat) x y, (∀ a ∈ l, ∀ (i : Nat) x y, (cellsD (f a))[i]? = some x → (cellsD (g a))[i]? = some y → DvN x y) → (flatD (l.map f))[j]? = some x → (flatD (l.map g))[j]? = some y → DvN x y := by
    intro l
    induction l with
    | nil => intro j x y _ hx; simp [flatD] at hx
    | cons a l ih =>
      intro j x y h hx hy
      simp only [List.map_cons, flatD, List.flatMap_cons] at hx hy ih
      rcases Nat.lt_or_ge j n with hj | hj
      · rw [List.getElem?_append_left (by rw [hf]; exact hj)] at hx
        rw [List.getElem?_append_left (by rw [hg]; exact hj)] at hy
        exact h a (List.mem_cons_self ..) j x y hx hy
      · rw [List.getElem?_append_right (by rw [hf]; exact hj), hf] at hx
        rw [List.getElem?_append_right (by rw [hg]; exact hj), hg] at hy
        exact ih _ x y (fun b hb => h b (List.mem_cons_of_mem _ hb)) hx hy
  exact .sl (by simp) (by rw [hlen f hf, hlen g hg]) (fun e he => by obtain ⟨a, _, rfl⟩ := List.mem_map.1 he; exact hg a) fun j x y hx hy => hget l j x y h hx hy
inductive AvD : AV → DV → Prop
  | any {x : AV} : AvD x .any
  | d {x y : DV} (h : DvN x y) : AvD (.d x) y
  | sr {i sz : Nat} {es : List DV} {y : DV} (h : DvN (.sl sz es) y) : AvD (.sr i sz es) y
  | agg {xs : List AV} {ys : List DV} (hl : xs.length = ys.length) (h : ∀ (j : Nat) x y, xs[j]? = some x → ys[j]? = some y → AvD x y) : AvD (.agg xs) (.agg ys)
  | dagg {xs ys : List DV} (hl : xs.length = ys.length) (h : ∀ (j : Nat) x y, xs[j]? = some x → ys[j]? = some y → AvD (.d x) y) : AvD (.d (.agg xs)) (.agg ys)
theorem AvD.rep {D : DMap} {β : List Bi} {x : AV} {y : DV} (h : AvD x y) : ∀ {v : Value}, RepA D β x v → RepD D y v := by
  induction h with
  | any => exact fun _ => .any
  | d h =>
    intro v hr
    cases hr with
    | d hr => exact h.rep hr
  | sr h =>
    intro v hr
    have hr := sr_data hr
    cases hr with
    | d hr => exact h.rep hr
  | agg hl _ ih =>
    intro v hr
    cases hr with
    | agg g1 g2 g3 =>
      refine .agg (by rw [g1, hl]) g2 fun j c v hc hv => ?_
      have hj := (List.getElem?_eq_some_iff.1 hc).1
      rw [← hl] at hj
      exact ih j _ c (List.getElem?_eq_getElem hj) hc (g3 j _ v (List.getElem?_eq_getElem hj) hv)
  | dagg hl _ ih =>
    intro v hr
    cases hr with
    | d hr =>
      cases hr with
      | agg g1 g2 g3 =>
        refine .agg (by rw [g1, hl]) g2 fun j c v hc hv => ?_
        have hj := (List.getElem?_eq_some_iff.1 hc).1
        rw [← hl] at hj
        exact ih j _ c (List.getElem?_eq_getElem hj) hc (.d (g3 j _ v (List.getElem?_eq_getElem hj) hv))
def AvDs : List AV → List DV → Prop
  | [], [] => True
  | x :: xs, y :: ys => AvD x y ∧ AvDs xs ys
  | _, _ => False
theorem AvDs.len : ∀ {xs : List AV} {ys : List DV}, AvDs xs ys → xs.length = ys.length
  | [], [], _ => rfl
  | _ :: _, _ :: _, h => by simp [AvDs.len h.2]
theorem AvDs.get : ∀ {xs : List AV} {ys : List DV}, AvDs xs ys → ∀ (j : Nat) x y, xs[j]? = some x → ys[j]? = some y → AvD x y
  | [], [], _, j, x, y, hx, _ => by simp at hx
  | _ :: _, _ :: _, h, 0, x, y, hx, hy => by simp at hx hy; subst hx hy; exact h.1
  | _ :: _, _ :: _, h, j + 1, x, y, hx, hy => AvDs.get h.2 j x y (by simpa using hx) (by simpa using hy)
section
variable {P : Program} {E : PT Ty} {frz : List Nat} {nt m : Nat} {ro' : Option Nat} {K : Ex → S → Prop} {ops : Array Oper} {l : List Oper} {o : Oper} {tm tm' : PT AV} {objs : List Ob} {dl : List Dl} {s0 : S} {i : Nat} {acc : List Eff} {G : S → Prop} {g : FuncId} {ds : List DV} {args : List AV} {r : AV}
end
theorem Step.retell {D : DMap} {β : List Bi} {objs : List Ob} {w : World} (h : Heap D β objs w) {i : Nat} {bi : Bi} {ob ob' : Ob} (hb : β[i]? = some bi) (ho : objs[i]? = some ob)
    (hown : ∀ b, ownOf bi ob' = some b → ownOf bi ob = some b) (hnew : HoldsOb D β w bi ob') : Step D β objs w D β (objs.set i ob') w := by
  have key : ∀ (j : Nat) bj oj b, β[j]? = some bj → (objs.set i ob')[j]? = some oj → ownOf bj oj = some b → ∃ oj', objs[j]? = some oj' ∧ ownOf bj oj' = some b := by
    intro j bj oj b hj h2 h3
    by_cases hij : i = j
    · subst hij
      rw [hb] at hj; cases hj
      rw [List.getElem?_set_self (List.getElem?_eq_some_iff.1 ho).1] at h2
      cases h2
      exact ⟨ob, ho, hown b h3⟩
    · rw [List.getElem?_set_ne hij] at h2
      exact ⟨oj, h2, h3⟩
  refine ⟨fun _ _ h => h, fun _ _ h1 h2 => (by rw [h2] at h1; cases h1), fun i x hx => ⟨x, hx, BiExt.refl x⟩, ⟨h.dh, by simp [h.len], fun j bj oj h1 h2 => ?_, fun j k bj bk oj ok b h1 h2 h3 h4 h5 h6 => ?_⟩, Nat.le_refl _, fun _ _ _ => rfl, rfl, rfl, ⟨rfl, Nat.le_refl _⟩, ?_⟩
  · by_cases hij : i = j
    · subst hij
      rw [hb] at h1; cases h1
      rw [List.getElem?_set_self (List.getElem?_eq_some_iff.1 ho).1] at h2
      cases h2
      exact hnew
    · rw [List.getElem?_set_ne hij] at h2; exact h.hold j bj oj h1 h2
  · obtain ⟨oj', a1, a2⟩ := key j bj oj b h1 h3 h5
    obtain ⟨ok', b1, b2⟩ := key k bk ok b h2 h4 h6
    exact h.disj j k bj bk oj' ok' b h1 h2 a1 b1 a2 b2
  · rintro b ⟨j, bj, oj, h1, h2, h3⟩
    obtain ⟨oj', a1, a2⟩ := key j bj oj b h1 h2 h3
    exact .inl ⟨j, bj, oj', h1, a1, a2⟩
def shA (n : Nat) : Nat → AV → AV
  | 0, _ => .d .any
  | _ + 1, .d x => .d x
  | _ + 1, .bp i off => .bp (n + i) off
  | _ + 1, .sr i sz es => .sr (n + i) sz es
  | _ + 1, .bs i off len cap => .bs (n + i) off len cap
  | _ + 1, .mp i => .mp (n + i)
  | k + 1, .agg cs => .agg (cs.map (shA n k))
  | k + 1, .tup cs => .tup (cs.map (shA n k))
  | _ + 1, .vs i sz lo len => .vs (n + i) sz lo len
  | _ + 1, _ => .d .any
def shO (n : Nat) : Ob → Ob
  | .box cs => .box (cs.map (shA n 8))
  | .room m sz => .room m sz
  | .map kvs => .map kvs
  | .pm kvs => .pm kvs
  | .raw o => .raw o
  | .sit s p => .sit s p
  | .vec t ag sz m cs => .vec t ag sz m (cs.map (shA n 8))
  | .tb t cs => .tb t (cs.map (shA n 8))
  | _ => .gone
theorem shA_ok {D : DMap} {β0 β : List Bi} : ∀ (k : Nat) {x : AV} {v : Value}, RepA D β x v → RepA D (β0 ++ β) (shA β0.length k x) v := by
  have look : ∀ {i : Nat} {bi : Bi}, β[i]? = some bi → (β0 ++ β)[β0.length + i]? = some bi := fun h => by
    rw [List.getElem?_append_right (by omega), Nat.add_sub_cancel_left]; exact h
  intro k
  induction k with
  | zero => exact fun _ => .d .any
  | succ k ih =>
    intro x v h
    cases h with
    | d h => exact .d h
    | bp h => exact .bp (look h)
    | sr h hh hd => exact .sr (look h) hh hd
    | bs h => exact .bs (look h)
    | mp h => exact .mp (look h)
    | fn => exact .d .any
    | agg h h1 hr =>
      refine .agg (by simp [h]) h1 fun j c v hc hv => ?_
      simp only [List.getElem?_map, Option.map_eq_some_iff] at hc
      obtain ⟨y, hy, rfl⟩ := hc
      exact ih (hr j y v hy hv)
    | tup h hr =>
      refine .tup (by simp [h]) fun j c v hc hv => ?_
      simp only [List.getElem?_map, Option.map_eq_some_iff] at hc
      obtain ⟨y, hy, rfl⟩ := hc
      exact ih (hr j y v hy hv)
    | yl h => exact .d .any
    | vs h hh hc hm hn hx => exact .vs (look h) hh hc hm hn hx
theorem shO_own {n : Nat} {bi : Bi} {ob : Ob} {b : Nat} (h : ownOf bi (shO n ob) = some b) : ownOf bi ob = some b := by
  cases ob <;> first | exact h | (simp only [shO, ownOf] at h ⊢; exact h) | (simp only [shO, ownOf] at h; cases h)
theorem shO_ok {D : DMap} {β0 β : List Bi} {w : World} {bi : Bi} {ob : Ob} (h : HoldsOb D β w bi ob) : HoldsOb D (β0 ++ β) w bi (shO β0.length ob) := by
  cases ob with
  | box cs =>
    obtain ⟨vs, T, g1, g2, g3, g4, g5⟩ := h
    refine ⟨vs, T, g1, by simp [g2], fun j c v hc hv => ?_, g4, g5⟩
    simp only [List.getElem?_map, Option.map_eq_some_iff] at hc
    obtain ⟨y, hy, rfl⟩ := hc
    exact shA_ok 8 (g3 j y v hy hv)
  | tb ty cs =>
    obtain ⟨vs, T, g1, g2, g3, g4, g5⟩ := h
    refine ⟨vs, T, g1, by simp [g2], fun j c v hc hv => ?_, g4, g5⟩
    simp only [List.getElem?_map, Option.map_eq_some_iff] at hc
    obtain ⟨y, hy, rfl⟩ := hc
    exact shA_ok 8 (g3 j y v hy hv)
  | vec ty ag sz m cs =>
    obtain ⟨a, cap, g1, g2, g3, g4, g5, g6⟩ := h
    refine ⟨a, cap, g1, g2, g3, by simp [g4], g5, fun ad e => ?_⟩
    obtain ⟨k1, vs, T, k2, k3, k4, k5, k6⟩ := g6 ad e
    refine ⟨k1, vs, T, k2, k3, fun j c v hc hv => ?_, k5, k6⟩
    simp only [List.getElem?_map, Option.map_eq_some_iff] at hc
    obtain ⟨y, hy, rfl⟩ := hc
    exact shA_ok 8 (k4 j y v hy hv)
  | loop => trivial
  | gone => trivial
  | mit => trivial
  | _ => exact h
theorem Step.lift {D D' : DMap} {β β' : List Bi} {objs objs' : List Ob} {w w' : World} (hp : Heap D β objs w) (h : Step D [] [] w D' β' objs' w') : Step D β objs w D' (β ++ β') (objs ++ objs'.map (shO objs.length)) w' := by
  have hb := h.bare hp
  have hl := hp.len
  have hl' := h.heap.len
  have cut : ∀ (i : Nat) bi ob, (β ++ β')[i]? = some bi → (objs ++ objs'.map (shO objs.length))[i]? = some ob → (β[i]? = some bi ∧ objs[i]? = some ob) ∨ (objs.length ≤ i ∧ β'[i - objs.length]? = some bi ∧ ∃ ob', objs'[i - objs.length]? = some ob' ∧ ob = shO objs.length ob') := by
    intro i bi ob h1 h2
    rcases Nat.lt_or_ge i objs.length with hi | hi
    · rw [List.getElem?_append_left (by omega)] at h1
      rw [List.getElem?_append_left hi] at h2
      exact .inl ⟨h1, h2⟩
    · rw [List.getElem?_append_right (by omega), hl] at h1
      rw [List.getElem?_append_right hi, List.getElem?_map, Option.map_eq_some_iff] at h2
      obtain ⟨o, h2, e⟩ := h2
      exact .inr ⟨hi, h1, o, h2, e.symm⟩
  have new : ∀ (i : Nat) bi ob b, β'[i]? = some bi → objs'[i]? = some ob → ownOf bi ob = some b → w.heap.size ≤ b := fun i bi ob b h1 h2 h3 => (h.ownn b ⟨i, bi, ob, h1, h2, h3⟩).elim (fun h => absurd h not_own_nil) id
  refine ⟨h.dsub, hb.dnew, fun i x hx => ⟨x, ?_, BiExt.refl x⟩, ⟨h.heap.dh, by simp [hl, hl'], fun i bi ob h1 h2 => ?_, fun i j bi bj oi oj b h1 h2 h3 h4 h5 h6 => ?_⟩, h.size, hb.keep, h.os, h.tape, h.output, ?_⟩
  · rw [List.getElem?_append_left (List.getElem?_eq_some_iff.1 hx).1]; exact hx
  · rcases cut i bi ob h1 h2 with ⟨a, b⟩ | ⟨a, b, o, c, rfl⟩
    · refine (hb.heap.hold i bi ob a b).mono (fun _ _ h => h) (fun k x hx => ⟨x, ?_, BiExt.refl x⟩) (fun ad v h3 h4 => by rw [h3] at h4; cases h4) (fun _ _ => rfl)
      rw [List.getElem?_append_left (List.getElem?_eq_some_iff.1 hx).1]; exact hx
    · have := shO_ok (β0 := β) (h.heap.hold _ bi o b c)
      rwa [hl] at this
  · rcases cut i bi oi h1 h3 with ⟨a1, b1⟩ | ⟨a1, b1, o1, c1, rfl⟩ <;> rcases cut j bj oj h2 h4 with ⟨a2, b2⟩ | ⟨a2, b2, o2, c2, rfl⟩
    · exact hp.disj i j bi bj oi oj b a1 a2 b1 b2 h5 h6
    · have := hp.own_lt ⟨i, bi, oi, a1, b1, h5⟩
      have := new _ _ _ _ b2 c2 (shO_own h6)
      omega
    · have := hp.own_lt ⟨j, bj, oj, a2, b2, h6⟩
      have := new _ _ _ _ b1 c1 (shO_own h5)
      omega
    · have := h.heap.disj _ _ bi bj o1 o2 b b1 b2 c1 c2 (shO_own h5) (shO_own h6)
      omega
  · rintro b ⟨i, bi, ob, h1, h2, h3⟩
    rcases cut i bi ob h1 h2 with ⟨a1, b1⟩ | ⟨a1, b1, o1, c1, rfl⟩
    · exact .inl ⟨i, bi, ob, a1, b1, h3⟩
    · exact .inr (new _ _ _ _ b1 c1 (shO_own h3))
theorem ACall.lift {P : Program} {f : FuncId} {ds : List DV} {r : AV} {objs' : List Ob} (h : ACall P f (ds.map .d) [] r objs') (hp : isPan r = false) (objs : List Ob) : ACall P f (ds.map .d) objs (shA objs.length 8 r) (objs ++ objs'.map (shO objs.length)) := by
  refine ⟨h.1, fun D β w vs hh hv => (h.2 D [] w vs hh.bare ⟨hv.1, fun j c v hc hw => ?_⟩).mono fun e w' he => ?_⟩
  · have := hv.2 j c v hc hw
    simp only [List.getElem?_map, Option.map_eq_some_iff] at hc
    obtain ⟨d, _, rfl⟩ := hc
    cases this with
    | d this => exact .d this
  · rcases he with ⟨v, D', β', rfl, hs, hv⟩ | ⟨x, v, D', β', hx, _⟩
    · have := shA_ok (β0 := β) 8 hv
      rw [hh.len] at this
      exact .inl ⟨v, D', β ++ β', rfl, hs.lift hh, this⟩
    · rw [hx] at hp; cases hp
open Classical in
noncomputable def boxD (D : DMap) (b n : Nat) (w : World) : DMap := fun ad => if ad.block = b ∧ ad.spot = none ∧ ad.off < n then w.cell? ad else D ad
theorem box_freeze {D : DMap} {β : List Bi} {objs : List Ob} {w : World} (h : Heap D β objs w) {i : Nat} {bi : Bi} {ds : List DV} (hb : β[i]? = some bi) (ho : objs[i]? = some (.box (ds.map .d))) :
    Step D β objs w (boxD D bi.blk ds.length w) β (objs.set i .gone) w ∧ ∀ off, off ≤ ds.length → RepD (boxD D bi.blk ds.length w) (.ep (ds.drop off)) (.pointer (some ⟨bi.blk, off, none⟩)) := by
  obtain ⟨vs, T, g1, g2, g3, g4, g5⟩ := h.hold i bi _ hb ho
  rw [List.length_map] at g2
  have cell : ∀ ad : Addr, ad.block = bi.blk → ad.spot = none → ad.off < ds.length → ∃ v, w.cell? ad = some v ∧ vs[ad.off]? = some v ∧ v.oneCell' = true := by
    rintro ⟨b, o, sp⟩ h1 h2 h3
    simp only at h1 h2 h3
    subst h1 h2
    have hlt : o < vs.size := by omega
    refine ⟨vs[o], ?_, by simp [hlt], g4 o _ (by simp [hlt])⟩
    rw [cell_of_blk g1]; simp [hlt]
  have sub : ∀ ad v, D ad = some v → boxD D bi.blk ds.length w ad = some v := fun ad v hd => by
    unfold boxD
    rw [if_neg (fun hv => by rw [g5 ad hv.1] at hd; cases hd)]; exact hd
  have new : ∀ ad v, boxD D bi.blk ds.length w ad = some v → D ad = none → (ad.block = bi.blk ∧ ad.spot = none ∧ ad.off < ds.length) ∧ w.cell? ad = some v := fun ad v h1 h2 => by
    unfold boxD at h1
    split at h1
    · rename_i hv; exact ⟨hv, h1⟩
    · rw [h2] at h1; cases h1
  have get : ∀ (j : Nat) o, (objs.set i .gone)[j]? = some o → (j = i ∧ o = .gone) ∨ (j ≠ i ∧ objs[j]? = some o) := fun j o hj => by
    by_cases hij : i = j
    · subst hij
      rw [List.getElem?_set_self (List.getElem?_eq_some_iff.1 ho).1] at hj
      cases hj; exact .inl ⟨rfl, rfl⟩
    · rw [List.getElem?_set_ne hij] at hj; exact .inr ⟨fun e => hij e.symm, hj⟩
  refine ⟨⟨sub, fun ad v h1 h2 => .inl ⟨i, bi, _, hb, ho, by rw [(new ad v h1 h2).1.1]; rfl⟩, fun i x hx => ⟨x, hx, BiExt.refl x⟩, ⟨fun ad v hv => ?_, by simp [h.len], fun j bj o h1 h2 => ?_, fun j k bj bk oj ok b h1 h2 h3 h4 h5 h6 => ?_⟩,
    Nat.le_refl _, fun _ _ _ => rfl, rfl, rfl, ⟨rfl, Nat.le_refl _⟩, ?_⟩, fun off hoff => ?_⟩
  · cases h0 : D ad with
    | some u =>
      have := sub ad u h0
      rw [this] at hv; cases hv
      exact h.dh ad _ h0
    | none =>
      obtain ⟨⟨e1, e2, e3⟩, hv2⟩ := new ad v hv h0
      obtain ⟨u, k1, _, k3⟩ := cell ad e1 e2 e3
      rw [k1] at hv2; cases hv2
      exact ⟨e2, k3, k1⟩
  · rcases get j o h2 with ⟨rfl, rfl⟩ | ⟨hne, h2⟩
    · trivial
    · refine (h.hold j bj o h1 h2).mono sub (fun i x hx => ⟨x, hx, BiExt.refl x⟩) (fun ad v h3 h4 h5 => ?_) (fun b _ => rfl)
      exact hne (h.disj j i bj bi o _ ad.block h1 hb h2 ho h5 (by rw [(new ad v h3 h4).1.1]; rfl))
  · rcases get j oj h3 with ⟨rfl, rfl⟩ | ⟨_, h3⟩
    · cases h5
    · rcases get k ok h4 with ⟨rfl, rfl⟩ | ⟨_, h4⟩
      · cases h6
      · exact h.disj j k bj bk oj ok b h1 h2 h3 h4 h5 h6
  · rintro b ⟨j, bj, oj, h1, h2, h3⟩
    rcases get j oj h2 with ⟨rfl, rfl⟩ | ⟨_, h2⟩
    · cases h3
    · exact .inl ⟨j, bj, oj, h1, h2, h3⟩
  · refine .ep (vs.toList.drop off) rfl (by simp; omega) (fun j v hj => ?_) (fun j c v hc hv => ?_)
    · rw [List.getElem?_drop] at hj
      have hj : vs[off + j]? = some v := by simpa using hj
      have hlt : off + j < ds.length := by have := (Array.getElem?_eq_some_iff.1 hj).1; omega
      obtain ⟨u, k1, k2, _⟩ := cell ⟨bi.blk, off + j, none⟩ rfl rfl hlt
      simp only at k2
      rw [hj] at k2; cases k2
      unfold boxD
      rw [if_pos ⟨rfl, rfl, hlt⟩]; exact k1
    · rw [List.getElem?_drop] at hc hv
      have := g3 (off + j) (.d c) v (by simp [hc]) (by simpa using hv)
      cases this with
      | d this => exact this.mono sub
section
variable {P : Program} {nt m : Nat} {ro' : Option Nat} {K : Ex → S → Prop} {c : Code} {tm tm' : PT AV} {objs objs' : List Ob} {dl : List Dl}
theorem Run.freeze (i : Nat) {ds : List DV} (h : Run P nt m ro' c ⟨tm', objs', []⟩ K) (hi : objs[i]? = some (.box (ds.map .d))) (he : objs.set i .gone = objs')
    (ht : ∀ t v, tm'.get? t = some v → tm.get? t = some v ∨ ∃ off, off ≤ ds.length ∧ tm.get? t = some (.bp i off) ∧ v = .d (.ep (ds.drop off))) : Run P nt m ro' c ⟨tm, objs, []⟩ K := by
  subst he
  intro D0 β0 o0 w0 hb0 ro Q a w hro hK hs
  obtain ⟨D, β, h1, h2, h3⟩ := hs
  have hil := (List.getElem?_eq_some_iff.1 hi).1
  obtain ⟨bi, hb⟩ : ∃ bi, β[i]? = some bi := ⟨β[i]'(by rw [h1.heap.len]; exact hil), by simp [h1.heap.len, hil]⟩
  obtain ⟨st, hr⟩ := box_freeze h1.heap hb hi
  refine h D0 β0 o0 w0 hb0 ro Q a w hro hK ⟨_, β, h1.trans st, ⟨h2.1, fun t => ?_⟩, h3.mono st.dsub st.bext⟩
  cases hv : tm'.get? t with
  | none => exact .d .any
  | some v =>
    rcases ht t v hv with e | ⟨off, h4, h5, rfl⟩
    · have := h2.2 t
      rw [e] at this
      exact st.repA this
    · have := h2.2 t
      rw [h5] at this
      simp only [Option.getD_some] at this ⊢
      generalize a.tmps.getD t undef = u at this ⊢
      cases this with
      | bp hb' => rw [hb] at hb'; cases hb'; exact .d (hr off h4)
theorem cell_vec {D : DMap} {β : List Bi} {objs : List Ob} {w : World} (h : Heap D β objs w) {i j : Nat} {cs : List AV} (T : TypeId) (ag : Bool) (sz : Nat) (hi : objs[i]? = some (.box cs)) (hj : cs[j]? = some (.d .nilsl)) :
    ∃ β', Step D β objs w D β' (objs.set i (.box (cs.set j (.vs objs.length sz 0 0))) ++ [.vec T ag sz 0 []]) w := by
  obtain ⟨nb, hnb⟩ : ∃ nb : Bi, nb = ⟨0, fun n => if n = 0 then some (none, 0) else none⟩ := ⟨_, rfl⟩
  have hh : nb.hist 0 = some (none, 0) := by rw [hnb]; rfl
  have st : Step D β objs w D (β ++ [nb]) (objs ++ [.vec T ag sz 0 []]) w := by
    have get : ∀ (k : Nat) (x : Bi) o, (β ++ [nb])[k]? = some x → (objs ++ [Ob.vec T ag sz 0 []])[k]? = some o → (β[k]? = some x ∧ objs[k]? = some o) ∨ (k = objs.length ∧ x = nb ∧ o = .vec T ag sz 0 []) := fun k x o h1 h2 => by
      rcases Nat.lt_or_ge k objs.length with hk | hk
      · rw [List.getElem?_append_left (by rw [h.len]; exact hk)] at h1
        rw [List.getElem?_append_left hk] at h2
        exact .inl ⟨h1, h2⟩
      · rw [List.getElem?_append_right hk] at h2
        rw [List.getElem?_append_right (by rw [h.len]; exact hk), h.len] at h1
        match hd : k - objs.length with
        | 0 => rw [hd] at h1 h2; cases h1; cases h2; exact .inr ⟨by omega, rfl, rfl⟩
        | d + 1 => rw [hd] at h1; cases h1
    have own0 : ∀ b, ownOf nb (.vec T ag sz 0 []) = some b → False := fun b hb => by simp [ownOf, hh] at hb
    have ext : ∀ (k : Nat) x, β[k]? = some x → ∃ y, (β ++ [nb])[k]? = some y ∧ BiExt x y := fun k x hx => ⟨x, by rw [List.getElem?_append_left (List.getElem?_eq_some_iff.1 hx).1]; exact hx, BiExt.refl x⟩
    refine ⟨fun _ _ h => h, fun _ _ h1 h2 => (by rw [h2] at h1; cases h1), ext, ⟨h.dh, by simp [h.len], fun k x o h1 h2 => ?_, fun k l bk bl ok ol b h1 h2 h3 h4 h5 h6 => ?_⟩, Nat.le_refl _, fun _ _ _ => rfl, rfl, rfl, ⟨rfl, Nat.le_refl _⟩, ?_⟩
    · rcases get k x o h1 h2 with ⟨h1, h2⟩ | ⟨rfl, rfl, rfl⟩
      · exact (h.hold k x o h1 h2).mono (fun _ _ h => h) ext (fun ad v h3 h4 _ => by rw [h4] at h3; cases h3) (fun b _ => rfl)
      · exact ⟨none, 0, hh, Nat.le_refl _, Nat.zero_le _, by simp, fun _ => rfl, fun ad e => by cases e⟩
    · rcases get k bk ok h1 h3 with ⟨h1, h3⟩ | ⟨rfl, rfl, rfl⟩
      · rcases get l bl ol h2 h4 with ⟨h2, h4⟩ | ⟨rfl, rfl, rfl⟩
        · exact h.disj k l bk bl ok ol b h1 h2 h3 h4 h5 h6
        · exact (own0 b h6).elim
      · exact (own0 b h5).elim
    · rintro b ⟨k, bk, ok, h1, h2, h3⟩
      rcases get k bk ok h1 h2 with ⟨h1, h2⟩ | ⟨rfl, rfl, rfl⟩
      · exact .inl ⟨k, bk, ok, h1, h2, h3⟩
      · exact (own0 b h3).elim
  have hil := (List.getElem?_eq_some_iff.1 hi).1
  have hi2 : (objs ++ [Ob.vec T ag sz 0 []])[i]? = some (.box cs) := by rw [List.getElem?_append_left hil]; exact hi
  obtain ⟨bi, hb⟩ : ∃ bi, (β ++ [nb])[i]? = some bi := ⟨(β ++ [nb])[i]'(by simp [h.len]; omega), by simp⟩
  obtain ⟨vs, U, g1, g2, g3, g4, g5⟩ := st.heap.hold i _ _ hb hi2
  have hrep : RepA D (β ++ [nb]) (.vs objs.length sz 0 0) (.slice none 0 0) :=
    .vs (bi := nb) (a := none) (cap := 0) (by rw [List.getElem?_append_right (by rw [h.len]; exact Nat.le_refl _), h.len]; simp) hh (Nat.le_refl _) (Nat.zero_le _) ⟨fun _ => rfl, fun _ => rfl, fun x e => by cases e⟩ (fun _ => ⟨rfl, rfl⟩)
  have st2 := Step.retell st.heap (ob' := .box (cs.set j (.vs objs.length sz 0 0))) hb hi2 (fun b hb => hb) ⟨vs, U, g1, by simp [g2], fun k c v hc hv => by
    by_cases hk : j = k
    · subst hk
      rw [List.getElem?_set_self (List.getElem?_eq_some_iff.1 hj).1] at hc
      cases hc
      have := g3 j _ v hj hv
      cases this with
      | d this => cases this; exact hrep
    · rw [List.getElem?_set_ne hk] at hc
      exact g3 k c v hc hv, g4, g5⟩
  have e : (objs ++ [Ob.vec T ag sz 0 []]).set i (.box (cs.set j (.vs objs.length sz 0 0))) = objs.set i (.box (cs.set j (.vs objs.length sz 0 0))) ++ [.vec T ag sz 0 []] := List.set_append_left _ _ hil
  rw [e] at st2
  exact ⟨_, st.trans st2⟩
theorem Run.cellVec (i j : Nat) (T : TypeId) (ag : Bool) (sz : Nat) {cs : List AV} (h : Run P nt m ro' c ⟨tm, objs', dl⟩ K) (hi : objs[i]? = some (.box cs) := by rfl) (hj : cs[j]? = some (.d .nilsl) := by rfl)
    (he : objs.set i (.box (cs.set j (.vs objs.length sz 0 0))) ++ [.vec T ag sz 0 []] = objs' := by rfl) : Run P nt m ro' c ⟨tm, objs, dl⟩ K := by
  subst he
  intro D0 β0 o0 w0 hb0 ro Q a w hro hK hs
  obtain ⟨D, β, h1, h2, h3⟩ := hs
  obtain ⟨β2, st⟩ := cell_vec h1.heap T ag sz hi hj
  exact h D0 β0 o0 w0 hb0 ro Q a w hro hK ⟨D, β2, h1.trans st, h2.mono st.dsub st.bext, h3.mono st.dsub st.bext⟩
end
def WkCs : List AV → List AV → Prop
  | [], [] => True
  | c :: cs, d :: ds => (d = .d .any ∨ d = c) ∧ WkCs cs ds
  | _, _ => False
inductive WkOb : Ob → Ob → Prop
  | gone {a : Ob} : WkOb a .gone
  | box {cs ds : List AV} (h : WkCs cs ds) : WkOb (.box cs) (.box ds)
  | refl {a : Ob} : WkOb a a
def WkObs : List Ob → List Ob → Prop
  | _, [] => True
  | a :: l, b :: m => WkOb a b ∧ WkObs l m
  | [], _ :: _ => False
theorem WkCs.get : ∀ {cs ds : List AV}, WkCs cs ds → cs.length = ds.length ∧ ∀ (j : Nat) c d, cs[j]? = some c → ds[j]? = some d → d = .d .any ∨ d = c
  | [], [], _ => ⟨rfl, fun j c d h => by simp at h⟩
  | c :: cs, d :: ds, ⟨h1, h2⟩ => ⟨by simp [h2.get.1], fun j c' d' hc hd => match j with
    | 0 => by simp at hc hd; subst hc hd; exact h1
    | j + 1 => h2.get.2 j c' d' (by simpa using hc) (by simpa using hd)⟩
  | [], _ :: _, h => h.elim
  | _ :: _, [], h => h.elim
theorem WkObs.get : ∀ {l m : List Ob}, WkObs l m → ∀ (j : Nat) b, m[j]? = some b → ∃ a, l[j]? = some a ∧ WkOb a b
  | _, [], _, j, b, h => by simp at h
  | a :: l, b :: m, ⟨h1, h2⟩, j, b', h => match j, h with
    | 0, h => by simp at h; subst h; exact ⟨a, rfl, h1⟩
    | j + 1, h => by
      obtain ⟨a', h3, h4⟩ := h2.get j b' (by simpa using h)
      exact ⟨a', by simpa using h3, h4⟩
  | [], _ :: _, h, _, _, _ => h.elim
theorem WkOb.own {bi : Bi} {a b : Ob} (h : WkOb a b) {n : Nat} (ho : ownOf bi b = some n) : ownOf bi a = some n := by
  cases h with
  | gone => cases ho
  | box _ => exact ho
  | refl => exact ho
theorem WkOb.holds {D : DMap} {β : List Bi} {w : World} {bi : Bi} {a b : Ob} (h : WkOb a b) (hh : HoldsOb D β w bi a) : HoldsOb D β w bi b := by
  cases h with
  | gone => trivial
  | refl => exact hh
  | box hc =>
    obtain ⟨vs, T, h1, h2, h3, h4, h5⟩ := hh
    obtain ⟨g1, g2⟩ := hc.get
    refine ⟨vs, T, h1, by omega, fun j d v hd hv => ?_, h4, h5⟩
    rename_i cs ds
    have hj : j < cs.length := by have := (List.getElem?_eq_some_iff.1 hd).1; omega
    rcases g2 j cs[j] d (by simp [hj]) hd with rfl | rfl
    · exact .d .any
    · exact h3 j _ v (by simp [hj]) hv
theorem Step.weak {D0 D : DMap} {β0 β : List Bi} {o0 objs objs' : List Ob} {w0 w : World} (h : Step D0 β0 o0 w0 D β objs w) (hw : WkObs objs objs') (hn : β0.length ≤ objs'.length) (hr : objs'.all (refOb objs'.length) = true) : Step D0 β0 o0 w0 D (β.take objs'.length) objs' w := by
  have get : ∀ {α : Type} {l : List α} {i n : Nat} {x : α}, (l.take n)[i]? = some x → l[i]? = some x ∧ i < n := fun h => getElem?_take_of h
  have hle : objs'.length ≤ objs.length := by
    rcases Nat.lt_or_ge objs.length objs'.length with hlt | hge
    · obtain ⟨a, ha, _⟩ := hw.get objs.length objs'[objs.length] (by simp [hlt])
      have := (List.getElem?_eq_some_iff.1 ha).1; omega
    · exact hge
  simp only [List.all_eq_true] at hr
  refine { h with bext := fun i x hx => ?_, heap := ⟨h.heap.dh, by simp [h.heap.len, hle], fun i bi ob h1 h2 => ?_, fun i j bi bj oi oj b h1 h2 h3 h4 h5 h6 => ?_⟩, ownn := fun b hb => ?_ }
  · obtain ⟨y, hy, he⟩ := h.bext i x hx
    have := (List.getElem?_eq_some_iff.1 hx).1
    exact ⟨y, take_get hy (by rw [Nat.blt_eq]; omega), he⟩
  · obtain ⟨a, ha, hab⟩ := hw.get i ob h2
    exact holdsOb_take (hab.holds (h.heap.hold i bi a (get h1).1 ha)) (hr ob (List.mem_of_getElem? h2))
  · obtain ⟨a, ha, hab⟩ := hw.get i oi h3
    obtain ⟨c, hc, hcd⟩ := hw.get j oj h4
    exact h.heap.disj i j bi bj a c b (get h1).1 (get h2).1 ha hc (hab.own h5) (hcd.own h6)
  · obtain ⟨i, bi, ob, h1, h2, h3⟩ := hb
    obtain ⟨a, ha, hab⟩ := hw.get i ob h2
    exact h.ownn b ⟨i, bi, a, (get h1).1, ha, hab.own h3⟩
inductive AvR : AV → AV → Prop
  | refl {x : AV} : AvR x x
  | sr {i sz : Nat} {es : List DV} : AvR (.sr i sz es) (.d (.sl sz es))
  | d {x y : DV} (h : DvN x y) : AvR (.d x) (.d y)
section
variable {P : Program} {E : PT Ty} {frz : List Nat} {nt m : Nat} {ro' : Option Nat} {K : Ex → S → Prop} {ops : Array Oper} {l : List Oper} {o : Oper} {tm tm' : PT AV} {objs objs' : List Ob} {dl : List Dl} {s0 : S} {i : Nat} {acc : List Eff} {G : S → Prop} {g : FuncId} {args : List AV} {r : AV} {A A' X : List Ob} {x : DV}
end
def EvC (P : Program) (E : PT Ty) (frz : List Nat) (nt : Nat) (ops : Array Oper) (dead pk : Nat → Bool) (PN : DV → List Ob → Prop) (i : Nat) (acc : List Eff) (sts : List S) (l : List Oper) (s : S) (G : List Eff → List S → S → Prop) : Prop :=
  ∃ (H : Nat → Hd) (es : List Eff) (ss : List S) (s' : S), (∀ j, HOK P (H j)) ∧ evOps E H frz nt ops dead pk i l s = some (es, s') ∧ ss.length = l.length ∧
    (∀ k, k < l.length → ∃ es' sk, ss[k]? = some sk ∧ evOps E H frz nt ops dead pk i (l.take k) s = some (es', sk)) ∧
    (∀ k o sk x ob, l[k]? = some o → ss[k]? = some sk → pk (i + k) = true → evAny E (H (i + k)) frz (rd sk.tm) sk.objs o = some (.pan x, ob, true) → PN x (ob.getD sk.objs)) ∧ G (acc ++ es) (sts ++ ss) s'
section
variable {P : Program} {E : PT Ty} {frz : List Nat} {nt : Nat} {ops : Array Oper} {dead pk : Nat → Bool} {PN : DV → List Ob → Prop} {i : Nat} {acc : List Eff} {sts : List S} {l : List Oper} {o : Oper} {s : S} {G : List Eff → List S → S → Prop}
theorem evOps_congrC {H H' : Nat → Hd} : ∀ {l : List Oper} {i : Nat} {s : S}, (∀ j, i ≤ j → H j = H' j) → evOps E H frz nt ops dead pk i l s = evOps E H' frz nt ops dead pk i l s
  | [], _, _, _ => rfl
  | o :: l, i, s, h => by
    have ih : ∀ s, evOps E H frz nt ops dead pk (i + 1) l s = evOps E H' frz nt ops dead pk (i + 1) l s := fun s => evOps_congrC fun j hj => h j (by omega)
    unfold evOps
    simp only [ih, h i (Nat.le_refl _)]
theorem EvC.nil (k : G acc sts s) : EvC P E frz nt ops dead pk PN i acc sts [] s G :=
  ⟨fun _ => H0, [], [], s, fun _ => H0_ok, rfl, rfl, fun k hk => absurd hk (Nat.not_lt_zero _), fun k o sk x ob h => by simp at h, by simpa using k⟩
theorem EvC.step {H1 : Hd} (h1 : HOK P H1) {e : Eff} {s1 : S} (hstep : ∀ H : Nat → Hd, H i = H1 → ∀ l', evOps E H frz nt ops dead pk i (o :: l') s = (evOps E H frz nt ops dead pk (i + 1) l' s1).map fun p => (e :: p.1, p.2))
    (hpn : ∀ x ob, pk i = true → evAny E H1 frz (rd s.tm) s.objs o = some (.pan x, ob, true) → PN x (ob.getD s.objs)) (k : EvC P E frz nt ops dead pk PN (i + 1) (acc ++ [e]) (sts ++ [s]) l s1 G) : EvC P E frz nt ops dead pk PN i acc sts (o :: l) s G := by
  obtain ⟨H, es, ss, s', k1, k2, k3, k4, k5, k6⟩ := k
  obtain ⟨H', hH'⟩ : ∃ H' : Nat → Hd, H' = fun j => if j = i then H1 else H j := ⟨_, rfl⟩
  have hi : H' i = H1 := by rw [hH']; simp
  have hj : ∀ j, j ≠ i → H' j = H j := fun j hj => by rw [hH']; simp [hj]
  have hc : ∀ l s, evOps E H' frz nt ops dead pk (i + 1) l s = evOps E H frz nt ops dead pk (i + 1) l s := fun l s => evOps_congrC fun j h => hj j (by omega)
  refine ⟨H', e :: es, s :: ss, s', fun j => ?_, ?_, by simp [k3], fun k hk => ?_, fun k o' sk x ob ho hs hp hv => ?_, ?_⟩
  · by_cases h : j = i
    · subst h; rw [hi]; exact h1
    · rw [hj j h]; exact k1 j
  · rw [hstep H' hi, hc, k2]; rfl
  · cases k with
    | zero => exact ⟨[], s, rfl, rfl⟩
    | succ k =>
      obtain ⟨es', sk, g1, g2⟩ := k4 k (by simpa using hk)
      exact ⟨e :: es', sk, by simpa using g1, by rw [List.take_succ_cons, hstep H' hi, hc, g2]; rfl⟩
  · cases k with
    | zero =>
      simp at ho hs
      subst ho hs
      rw [Nat.add_zero, hi] at hv
      exact hpn x ob (by simpa using hp) hv
    | succ k =>
      rw [show i + (k + 1) = i + 1 + k by omega] at hp hv
      rw [hj _ (by omega)] at hv
      exact k5 k o' sk x ob (by simpa using ho) (by simpa using hs) hp hv
  · simpa [List.append_assoc] using k6
theorem EvC.any {H1 : Hd} (h1 : HOK P H1) {v : AV} {ob : Option (List Ob)} {tm : PT AV} (hd : dead i = false) (hpk : pk i = false) (hg : guardA ops (rd s.tm) o = some true) (hv : evAny E H1 frz (rd s.tm) s.objs o = some (v, ob, true))
    (hp : isPan v = false) (ht : setD nt s.tm o.dst v = some tm) (k : EvC P E frz nt ops dead pk PN (i + 1) (acc ++ [effOf (rd s.tm) s.objs o ob]) (sts ++ [s]) l ⟨tm, ob.getD s.objs, s.dl⟩ G) : EvC P E frz nt ops dead pk PN i acc sts (o :: l) s G := by
  refine EvC.step h1 (fun H hi l' => ?_) (fun x ob' hp' => by rw [hpk] at hp'; cases hp') k
  rw [evOps]
  simp only [hd, hpk, hg, hi, hv, hp, ht]
  cases evOps E H frz nt ops dead pk (i + 1) l' ⟨tm, ob.getD s.objs, s.dl⟩ <;> rfl
theorem EvC.pan {H1 : Hd} (h1 : HOK P H1) {x : DV} {ob : Option (List Ob)} {tm : PT AV} (hd : dead i = false) (hpk : pk i = true) (hg : guardA ops (rd s.tm) o = some true) (hv : evAny E H1 frz (rd s.tm) s.objs o = some (.pan x, ob, true)) (hpn : PN x (ob.getD s.objs))
    (ht : setD nt s.tm o.dst (.d .any) = some tm) (k : EvC P E frz nt ops dead pk PN (i + 1) (acc ++ [.b none]) (sts ++ [s]) l ⟨tm, ob.getD s.objs, s.dl⟩ G) : EvC P E frz nt ops dead pk PN i acc sts (o :: l) s G := by
  refine EvC.step h1 (fun H hi l' => ?_) (fun x' ob' _ hv' => ?_) k
  · rw [evOps]
    simp only [hd, hpk, hg, hi, hv, ht]
    cases evOps E H frz nt ops dead pk (i + 1) l' ⟨tm, ob.getD s.objs, s.dl⟩ <;> rfl
  · rw [hv] at hv'
    simp only [Option.some.injEq, Prod.mk.injEq, AV.pan.injEq] at hv'
    obtain ⟨rfl, rfl, _⟩ := hv'
    exact hpn
def AnsAt (E : PT Ty) (ops : Array Oper) (ss : List S) (p : Nat × Nat) : Prop :=
  ∃ o si sj sk v u1 u2, ops[p.1]? = some o ∧ ss[p.1]? = some si ∧ ss[p.2]? = some sj ∧ ss[p.2 + 1]? = some sk ∧ evOp E (rd si.tm) sj.objs o.op = some (v, u1, true) ∧ evOp E (rd si.tm) sk.objs o.op = some (v, u2, true)
def AnsAll (E : PT Ty) (ops : Array Oper) (ss : List S) : List (Nat × Nat) → Prop
  | [] => True
  | p :: l => AnsAt E ops ss p ∧ AnsAll E ops ss l
def excB : List (Nat × Nat) → Nat → Nat → Bool
  | [], _, _ => false
  | p :: l, i, j => (Nat.beq p.1 i && Nat.beq p.2 j) || excB l i j
theorem ansAll_get {ss : List S} : ∀ {l : List (Nat × Nat)}, AnsAll E ops ss l → ∀ {i j : Nat}, excB l i j = true → AnsAt E ops ss (i, j)
  | [], _, _, _, h => by cases h
  | p :: l, ⟨h1, h2⟩, i, j, h => by
    simp only [excB, Bool.or_eq_true, Bool.and_eq_true] at h
    rcases h with ⟨a, b⟩ | h
    · have e1 := Nat.eq_of_beq_eq_true a
      have e2 := Nat.eq_of_beq_eq_true b
      obtain ⟨p1, p2⟩ := p
      simp only at e1 e2
      subst e1 e2
      exact h1
    · exact ansAll_get h2 h
theorem draw_start {D0 : DMap} {β0 : List Bi} {o0 : List Ob} {w0 : World} {A : Nat} {es : List Eff} {s' : S} {H : Nat → Hd} {st : Nat → S} {vs : Nat → AV} (C : DrawC E H frz nt ops dead pk A s es s' st vs) {a : Act} {w : World} (hs : Sim D0 β0 o0 w0 nt s a w) :
    Inv ops s es st vs nt D0 β0 o0 w0 (Array.replicate ops.size false) a w.drew := by
  have rep0 : ∀ i, (Array.replicate ops.size false).getD i false = false := fun i => by
    simp only [Array.getD_eq_getD_getElem?, Array.getElem?_replicate]; split <;> rfl
  obtain ⟨D, β, h1, h2, h3⟩ := hs
  refine ⟨by simp, fun i o ho h => (by rw [rep0] at h; cases h), 0, Nat.zero_le _, fun i q hi => ⟨fun h => (by rw [rep0] at h; cases h), fun h => (by omega)⟩, D, β, ?_, h2.1, fun t => ?_, h3⟩
  · rw [C.tr.first]; exact h1.trans (Step.drew h1.heap)
  · rw [valAt_none fun i hi => by rw [Wrote, rep0] at hi; exact absurd hi.1 (by simp)]
    exact h2.2 t
theorem drawC_of {H : Nat → Hd} {es : List Eff} {ss : List S} {s' : S} {exc : List (Nat × Nat)} (k2 : evOps E H frz nt ops dead pk 0 ops.toList s = some (es, s')) (k3 : ss.length = ops.toList.length)
    (k4 : ∀ k, k < ops.toList.length → ∃ es' sk, ss[k]? = some sk ∧ evOps E H frz nt ops dead pk 0 (ops.toList.take k) s = some (es', sk)) (hd : drawB E ops es (excB exc) = true) (hx : AnsAll E ops ss exc) :
    ∃ A st vs, DrawC E H frz nt ops dead pk A s es s' st vs := by
  refine drawC_gen k2 hd (fun i j h st pre li lj => ?_)
  obtain ⟨o, si, sj, sk, v, u1, u2, e0, e1, e2, e3, e4, e5⟩ := ansAll_get hx h
  have at' : ∀ k x, ss[k]? = some x → st k = x := fun k x hk => by
    have hkl : k < ops.toList.length := by rw [← k3]; exact (List.getElem?_eq_some_iff.1 hk).1
    obtain ⟨es', y, g1, g2⟩ := k4 k hkl
    obtain ⟨es2, g3⟩ := pre k (by simp at hkl; omega)
    rw [g2] at g3
    simp only [Option.some.injEq, Prod.mk.injEq] at g3
    rw [hk] at g1; cases g1
    exact g3.2.symm
  simp only at e0 e1 e2 e3
  rw [at' _ _ e1, at' _ _ e2, at' _ _ e3]
  exact ⟨o, v, u1, u2, e0, e4, e5⟩
variable {m : Nat} {ro' : Option Nat} {K : Ex → S → Prop}
theorem Run.drawC (hE : EnvOK P E) (hm : P.follows .mixedOrders = true) {id : Nat} (exc : List (Nat × Nat)) (h : EvC P E frz nt ops never never (fun _ _ => True) 0 [] [] ops.toList s (fun es ss s' => drawB E ops es (excB exc) = true ∧ AnsAll E ops ss exc ∧ K .normal s')) :
    Run P nt m ro' (.region id ops true) s K := fun D0 β0 o0 w0 _ ro Q a w _ hK hs => by
  obtain ⟨H, es, ss, s', k1, k2, k3, k4, _, k6, k7, k8⟩ := h
  simp only [List.nil_append] at k6 k7
  obtain ⟨A, st, vs, C⟩ := drawC_of k2 k3 k4 k6 k7
  have rep0 : ∀ i, (Array.replicate ops.size false).getD i false = false := fun i => by
    simp only [Array.getD_eq_getD_getElem?, Array.getElem?_replicate]; split <;> rfl
  have hleft : left ops.size (Array.replicate ops.size false) ≤ ops.size := by
    unfold left
    exact Nat.le_trans (List.length_filter_le _ _) (by simp)
  exact wpIn_region_any hm ((draw_walk hE k1 C (fun i h => by cases h) (fun _ a w hs => (hK _ _ k8).1 a w rfl hs) (fun i o x ob _ h => by cases h) ops.size).1 _ a _ hleft (draw_start C hs) (fun p h => by cases h))
end
section
variable {P : Program} {E : PT Ty} {frz : List Nat} {nt : Nat} {ops : Array Oper} {dead pk : Nat → Bool} {PN : DV → List Ob → Prop} {i : Nat} {acc : List Eff} {sts : List S} {l : List Oper} {o : Oper} {G : List Eff → List S → S → Prop} {tm tm' : PT AV} {objs objs' A A' X : List Ob} {dl : List Dl} {g : FuncId} {args : List AV} {r : AV} {x : DV}
theorem cX {v v' : AV} {ob : Option (List Ob)} {fl : Bool} (k : EvC P E frz nt ops dead pk PN (i + 1) (acc ++ [effOf (rd tm) objs o ob]) (sts ++ [⟨tm, objs, dl⟩]) l ⟨tm', objs', dl⟩ G) (hd : dead i = false := by rfl) (hpk : pk i = false := by rfl) (hg : guardA ops (rd tm) o = some true := by rfl)
    (hv : evAny E H0 frz (rd tm) objs o = some (v', ob, fl) := by rfl) (hf : fl = true := by rfl) (he : v' = v := by first | (conv => lhs; dsimp only) | rfl) (ho : ob.getD objs = objs' := by first | (conv => lhs; dsimp only [Option.getD]) | rfl) (hp : isPan v = false := by rfl) (ht : setD nt tm o.dst v = some tm' := by rfl) :
    EvC P E frz nt ops dead pk PN i acc sts (o :: l) ⟨tm, objs, dl⟩ G := by
  subst he ho hf
  exact EvC.any H0_ok hd hpk hg hv hp ht k
end
section
variable {P : Program} {nt m : Nat} {ro' : Option Nat} {x y : Code} {s : S} {K : Ex → S → Prop}
end
section
variable {P : Program} {nt m : Nat} {ro' : Option Nat} {c : Code} {K : Ex → S → Prop} {tm : PT AV} {objs objs' : List Ob} {dl : List Dl}
end
def putL : List Ob → List Nat → List Ob → List Ob
  | B, p :: ps, o :: os => putL (B.set p o) ps os
  | B, _, _ => B
theorem putL_len : ∀ {B : List Ob} {ps : List Nat} {os : List Ob}, (putL B ps os).length = B.length
  | B, [], os => by cases os <;> rfl
  | B, _ :: _, [] => rfl
  | B, p :: ps, o :: os => by rw [putL, putL_len, List.length_set]
theorem putL_old : ∀ {B : List Ob} {ps : List Nat} {os : List Ob} {q : Nat}, q ∉ ps → (putL B ps os)[q]? = B[q]?
  | B, [], os, _, _ => by cases os <;> rfl
  | B, _ :: _, [], _, _ => rfl
  | B, p :: ps, o :: os, q, h => by
    rw [putL, putL_old (fun hq => h (List.mem_cons_of_mem _ hq)), List.getElem?_set_ne (fun e => h (by rw [e]; exact List.mem_cons_self))]
theorem putL_at : ∀ {B : List Ob} {ps : List Nat} {os : List Ob} {k p : Nat} {o : Ob}, ps.Nodup → (∀ p ∈ ps, p < B.length) → ps[k]? = some p → os[k]? = some o → (putL B ps os)[p]? = some o
  | B, [], _, _, _, _, _, _, h, _ => by simp at h
  | B, _ :: _, [], _, _, _, _, _, _, h => by simp at h
  | B, q :: ps, o' :: os, 0, p, o, hn, hl, h1, h2 => by
    simp at h1 h2
    subst h1 h2
    rw [putL, putL_old (List.nodup_cons.1 hn).1, List.getElem?_set_self (hl _ List.mem_cons_self)]
  | B, q :: ps, o' :: os, k + 1, p, o, hn, hl, h1, h2 => by
    rw [putL]
    exact putL_at (List.nodup_cons.1 hn).2 (fun p hp => by rw [List.length_set]; exact hl p (List.mem_cons_of_mem _ hp)) (by simpa using h1) (by simpa using h2)
def obsAt (ρ : Nat → Nat) (B : List Ob) : List Nat → List Ob → Prop
  | [], [] => True
  | p :: ps, o :: os => B[p]? = some (reO ρ o) ∧ obsAt ρ B ps os
  | _, _ => False
theorem obsAt_get {ρ : Nat → Nat} {B : List Ob} : ∀ {ps : List Nat} {os : List Ob}, obsAt ρ B ps os → ∀ (k : Nat) o, os[k]? = some o → ∃ p, ps[k]? = some p ∧ B[p]? = some (reO ρ o)
  | [], [], _, k, o, h => by simp at h
  | p :: ps, o' :: os, h, 0, o, ho => by simp at ho; subst ho; exact ⟨p, rfl, h.1⟩
  | p :: ps, o' :: os, h, k + 1, o, ho => obsAt_get h.2 k o (by simpa using ho)
  | [], _ :: _, h, _, _, _ => h.elim
  | _ :: _, [], h, _, _, _ => h.elim
theorem ACall.at' {P : Program} {f : FuncId} {args : List AV} {A A' : List Ob} {r : AV} (h : ACall P f args A r A') (pos : List Nat) {Big : List Ob} (hl : pos.length = A.length) (hl' : A'.length = A.length) (hnd : pos.Nodup)
    (hB : obsAt (atOf pos Big.length) Big pos A) (hok : A.all (okO A.length) = true) (hargs : args.all (okA A.length 8) = true) :
    ACall P f (args.map (reA (atOf pos Big.length) 8)) Big (reR (atOf pos Big.length) r) (putL Big pos (A'.map (reO (atOf pos Big.length)))) := by
  have hlt : ∀ p ∈ pos, p < Big.length := fun p hp => by
    obtain ⟨k, hk, e⟩ := List.getElem_of_mem hp
    have hkA : k < A.length := by omega
    obtain ⟨q, e1, e2⟩ := obsAt_get hB k A[k] (List.getElem?_eq_getElem hkA)
    rw [List.getElem?_eq_getElem hk, e] at e1
    cases e1
    exact (List.getElem?_eq_some_iff.1 e2).1
  refine h.embedR hl hnd (obsAt_get hB) hok hargs (by rw [putL_len, hl']) (fun p _ hn => putL_old hn) (fun k ob hk => ?_)
  have hkl : k < pos.length := by rw [hl, ← hl']; exact (List.getElem?_eq_some_iff.1 hk).1
  have e : atOf pos Big.length k = pos[k] := by simp [atOf, hkl]
  exact putL_at (k := k) hnd hlt (by rw [e]; exact List.getElem?_eq_getElem hkl) (by rw [List.getElem?_map, hk]; rfl)
section
variable {P : Program} {E : PT Ty} {frz : List Nat} {nt m : Nat} {ro' : Option Nat} {K : Ex → S → Prop} {ops : Array Oper} {l : List Oper} {o : Oper} {tm tm' : PT AV} {objs objs' : List Ob} {dl : List Dl} {g : FuncId} {args args' : List AV} {r r' : AV} {A A' : List Ob} {x : DV}
end
set_option maxRecDepth 10000
theorem Run.dropLast {P : Program} {nt m : Nat} {ro' : Option Nat} {K : Ex → S → Prop} {c : Code} {tm : PT AV} {O : List Ob} {ds : List DV} (l : List (Nat × AV)) (h : Run P nt m ro' c ⟨PT.ofList l, O, []⟩ K) (hm : m ≤ O.length) (hO : O.all (refOb O.length) = true)
    (ht : ∀ t v, (PT.ofList l).get? t = some v → tm.get? t = some v ∨ ∃ off, off ≤ ds.length ∧ tm.get? t = some (.bp O.length off) ∧ v = .d (.ep (ds.drop off))) (hr : allQ (refA 8 O.length) l) : Run P nt m ro' c ⟨tm, O ++ [.box (ds.map .d)], []⟩ K := by
  refine Run.freeze O.length (tm' := PT.ofList l) (objs' := O ++ [.gone]) (ds := ds) ?_ (by simp) (by rw [List.set_append_right _ _ (Nat.le_refl _)]; simp) ht
  refine Run.trunc O.length (by simpa using hm) ?_ ?_
  · simp only [refS, ptAll_ofList hr, List.take_left, hO, List.all_nil, Bool.and_self]
  · simpa [S.trunc] using h
theorem Run.imp {P : Program} {nt m : Nat} {ro' : Option Nat} {K K' : Ex → S → Prop} {c : Code} {s : S} (h : Run P nt m ro' c s K) (f : ∀ e s', K e s' → K' e s') : Run P nt m ro' c s K' :=
  fun D0 β0 o0 w0 hb0 ro Q a w hro hK hs => h D0 β0 o0 w0 hb0 ro Q a w hro (fun e s1 hk => hK e s1 (f e s1 hk)) hs
theorem ayield_box {P : Program} {L : Nat} {B B' X X' : List Ob} {args : List AV} {tm : PT AV} {nt : Nat} {frz : List Nat} {qs : Array Tmp} {assign body : Code} (ds : List DV) (l : List (Nat × AV))
    (hlen : args.length = qs.size) (hlt : qs.toList.all (fun t => Nat.blt t nt) = true) (hB : B.length = L) (hB' : B'.length = L)
    (hBr : B.all (refOb (L + 2 + X.length)) = true) (hXr : X.all (refOb (L + 2 + X.length)) = true) (hT : ptAll (refA 8 (L + 2 + X.length)) tm = true) (hl : allQ (refA 8 (L + 2 + X.length)) l)
    (has : Run P nt (L + 2 + X.length) (some (L + 1)) assign ⟨setTms tm (qs.toList.zip args), rangeObs B tm nt frz qs assign body .ready none ++ X, []⟩ (fun e s1 => e = .normal ∧ ∃ tmA, s1 = ⟨tmA, (rangeObs B tm nt frz qs assign body .ready none ++ X) ++ [.box (ds.map .d)], []⟩ ∧
      (∀ t v, (PT.ofList l).get? t = some v → tmA.get? t = some v ∨ ∃ off, off ≤ ds.length ∧ tmA.get? t = some (.bp (rangeObs B tm nt frz qs assign body .ready none ++ X).length off) ∧ v = .d (.ep (ds.drop off)))))
    (hbody : ∀ a b, refOb (L + 2 + X.length) a = true → refOb (L + 2 + X.length) b = true → Run P nt (L + 2 + X.length) (some (L + 1)) body ⟨PT.ofList l, B ++ [a, b] ++ X, []⟩ (fun e s2 => e = .normal ∧ s2.objs = B' ++ [a, b] ++ X')) :
    AYield P (L + 1) args (rangeObs B tm nt frz qs assign body .ready none ++ X) (.d (.bool true)) (rangeObs B' tm nt frz qs assign body .ready none ++ X') := by
  have hO : ∀ st, (rangeObs B tm nt frz qs assign body st none ++ X).length = L + 2 + X.length := fun st => by simp [rangeObs, hB]; omega
  have hget : ∀ (C : List Ob) st (Z : List Ob), C.length = L → (rangeObs C tm nt frz qs assign body st none ++ Z)[L + 1]? = some (.loop tm nt frz qs assign body st none) := fun C st Z hC => by
    subst hC; simp [rangeObs]
  have hset : ∀ (C : List Ob) st st' (Z : List Ob), C.length = L → (rangeObs C tm nt frz qs assign body st none ++ Z).set (L + 1) (.loop tm nt frz qs assign body st' none) = rangeObs C tm nt frz qs assign body st' none ++ Z := fun C st st' Z hC => by
    subst hC
    rw [List.set_append_left _ _ (by simp [rangeObs])]
    congr 1
    unfold rangeObs
    rw [List.set_append_right _ _ (by simp)]
    simp
  refine ayield_of_run (i := L + 1) (hget B _ X hB) hlen hlt ?_
  rw [hO]
  refine has.imp ?_
  rintro e s1 ⟨rfl, tmA, rfl, htA⟩
  refine ⟨rfl, tm, nt, frz, qs, assign, body, none, ?_, ?_⟩
  · show (rangeObs B tm nt frz qs assign body .ready none ++ X ++ [Ob.box (ds.map .d)])[L + 1]? = _
    rw [List.append_assoc]; exact hget B _ _ hB
  · show Run P nt _ _ body ⟨tmA, (rangeObs B tm nt frz qs assign body .ready none ++ X ++ [Ob.box (ds.map .d)]).set (L + 1) (.loop tm nt frz qs assign body .busy none), []⟩ _
    rw [List.append_assoc, hset B _ _ _ hB, ← List.append_assoc]
    have hloop : refOb (L + 2 + X.length) (.loop tm nt frz qs assign body .busy none) = true := by simp only [refOb, hT, Bool.and_self]
    refine Run.dropLast (ds := ds) l ?_ (by rw [hO]; exact Nat.le_refl _) ?_ (fun t v hv => ?_) (by rw [hO]; exact hl)
    · rw [show rangeObs B tm nt frz qs assign body .busy none ++ X = B ++ [Ob.raw (.deferred (some [])), Ob.loop tm nt frz qs assign body .busy none] ++ X from by simp [rangeObs]]
      refine (hbody _ _ rfl hloop).imp ?_
      rintro e ⟨tm2, o2, d2⟩ ⟨rfl, he⟩
      simp only at he
      subst he
      have e1 : ∀ st, B' ++ [Ob.raw (.deferred (some [])), Ob.loop tm nt frz qs assign body st none] ++ X' = rangeObs B' tm nt frz qs assign body st none ++ X' := fun st => by simp [rangeObs]
      refine ⟨tm, nt, frz, qs, assign, body, .busy, none, ?_, rfl, ?_⟩
      · show (B' ++ _ ++ X')[L + 1]? = _
        rw [e1]; exact hget B' _ _ hB'
      · show _ = (B' ++ _ ++ X').set (L + 1) _
        rw [e1, hset B' _ _ _ hB']
    · rw [hO]
      unfold rangeObs
      simp only [List.all_append, hBr, hXr, List.all_cons, List.all_nil, Bool.true_and, Bool.and_true, hloop]
      rfl
    · rcases htA t v hv with h1 | h1
      · exact .inl h1
      · rw [hO] at h1 ⊢; exact .inr h1
section
variable {E : PT Ty} {H : Hd} {frz : List Nat} {rd : Operand → AV} {O : List Ob} {o : Oper} {t : TypeId} {x xv : Operand} {y : Ty} {cs : List AV} {v : AV} {i : Nat}
theorem evAny_store_last (hop : o.op = .store t x xv := by rfl) (hy : E.get? t = some y := by rfl) (hx : rd x = .bp i 0 := by rfl) (hi : i = O.length := by rfl) (hv : rd xv = v := by rfl) (hk : knownA v = true := by rfl) (hl : Nat.beq v.cells.length y.size = true := by rfl) (hc : Nat.beq cs.length y.size = true := by rfl) :
    evAny E H frz rd (O ++ [.box cs]) o = some (.d .any, some (O ++ [.box v.cells]), true) := by
  subst hi
  obtain ⟨dst, op, ty, pos, after, guard⟩ := o
  simp only at hop
  subst hop
  have h1 : evAny E H frz rd (O ++ [.box cs]) ⟨dst, .store t x xv, ty, pos, after, guard⟩ = Option.map (fun (p : AV × List Ob × Bool) => (p.1, some p.2.1, p.2.2)) (storeR E t (.bp O.length 0) v (O ++ [.box cs])) := by
    simp only [evAny, quiet, evOp, hx, hv]
  rw [h1, store_last hy O cs hk hl hc]
  rfl
end
theorem acallG_of_run {P : Program} {E : PT Ty} (hE : EnvOK P E) {f : FuncId} {i : FnI} (hF : FnAt P f i) {args : List AV} {objs objs' : List Ob} {r : AV} (hlen : args.length = i.np) (hle : Nat.ble i.np i.nt = true) (hol : objs.length ≤ objs'.length) (hor : objs'.all (refOb objs'.length) = true) (hrr : refA 8 objs'.length r = true)
    (h : Run P i.nt objs.length none i.body ⟨initTm 0 args .nil, objs, []⟩ (fun e s => (match e with | .normal => True | .ret => True | _ => False) ∧ ∃ objs2 r0, evLeave H0 s.dl none s.objs = some (none, objs2) ∧ evResults E ⟨s.tm, objs2, []⟩ i.results = some r0 ∧ AvR r0 r ∧ WkObs objs2 objs')) :
    ACall P f args objs r objs' := by
  obtain ⟨g1, g2⟩ := calls_of_run (G := fun o x => AvR x r ∧ WkObs o objs') hE hF hlen hle (h.mono fun e s hk => by
    obtain ⟨k1, o2, r0, k2, k3, k4, k5⟩ := hk
    exact ⟨k1, o2, r0, k2, k3, k4, k5⟩)
  refine ⟨g1, fun D β w vs hp hr => (g2 D β w vs hp hr).mono fun e w' he => ?_⟩
  obtain ⟨o, x, ⟨hx, hw⟩, he⟩ := he
  have hn : β.length ≤ objs'.length := by rw [hp.len]; exact hol
  rcases he with ⟨v, D', β', rfl, hs, hrep⟩ | ⟨y, v, D', β', rfl, rfl, hs, hrep⟩
  · refine .inl ⟨v, D', β'.take objs'.length, rfl, hs.weak hw hn hor, ?_⟩
    cases hx with
    | refl => exact repA_take 8 hrr hrep
    | sr => exact repA_take 8 rfl (sr_data hrep)
    | @d x1 y1 hd => cases hrep with
      | d k => exact .d (hd.rep k)
  · cases hx with
    | refl => exact .inr ⟨y, v, D', β'.take objs'.length, rfl, rfl, hs.weak hw hn hor, hrep⟩
def growL (Big : List Ob) (pos : List Nat) (n : Nat) (A' : List Ob) : List Ob := putL Big pos (A'.map (reO (atOf pos Big.length))) ++ (A'.drop n).map (reO (atOf pos Big.length))
theorem growL_len {Big : List Ob} {pos : List Nat} {n : Nat} {A' : List Ob} : (growL Big pos n A').length = Big.length + (A'.length - n) := by
  simp [growL, putL_len]
theorem growL_at {Big : List Ob} {pos : List Nat} {A' : List Ob} (hnd : pos.Nodup) (hlt : ∀ p ∈ pos, p < Big.length) {k : Nat} {ob : Ob} (hk : A'[k]? = some ob) : (growL Big pos pos.length A')[atOf pos Big.length k]? = some (reO (atOf pos Big.length) ob) := by
  unfold growL
  rcases Nat.lt_or_ge k pos.length with h | h
  · have e : atOf pos Big.length k = pos[k] := by simp [atOf, h]
    have hp := hlt pos[k] (List.getElem_mem h)
    rw [e, List.getElem?_append_left (by rw [putL_len]; exact hp), putL_at (k := k) hnd hlt (List.getElem?_eq_getElem h) (by rw [List.getElem?_map, hk]; rfl)]
  · have e : atOf pos Big.length k = Big.length + (k - pos.length) := by simp only [atOf]; rw [List.getElem?_eq_none h]
    rw [e, List.getElem?_append_right (by rw [putL_len]; omega), putL_len, List.getElem?_map, List.getElem?_drop, show pos.length + (Big.length + (k - pos.length) - Big.length) = k by omega, hk]; rfl
theorem growL_old {Big : List Ob} {pos : List Nat} {n : Nat} {A' : List Ob} {p : Nat} (hp : p < Big.length) (hn : p ∉ pos) : (growL Big pos n A')[p]? = Big[p]? := by
  unfold growL
  rw [List.getElem?_append_left (by rw [putL_len]; exact hp), putL_old hn]
theorem ACall.grow {P : Program} {f : FuncId} {args : List AV} {A A' : List Ob} {r : AV} (h : ACall P f args A r A') (pos : List Nat) {Big : List Ob} (hl : pos.length = A.length) (hge : A.length ≤ A'.length) (hnd : pos.Nodup)
    (hB : obsAt (atOf pos Big.length) Big pos A) (hok : A.all (okO A.length) = true) (hargs : args.all (okA A.length 8) = true) :
    ACall P f (args.map (reA (atOf pos Big.length) 8)) Big (reR (atOf pos Big.length) r) (growL Big pos pos.length A') := by
  have hlt : ∀ p ∈ pos, p < Big.length := fun p hp => by
    obtain ⟨k, hk, e⟩ := List.getElem_of_mem hp
    have hkA : k < A.length := by omega
    obtain ⟨q, e1, e2⟩ := obsAt_get hB k A[k] (List.getElem?_eq_getElem hkA)
    rw [List.getElem?_eq_getElem hk, e] at e1
    cases e1
    exact (List.getElem?_eq_some_iff.1 e2).1
  exact h.embedR hl hnd (obsAt_get hB) hok hargs (by rw [growL_len, hl]; omega) (fun p hp hn => growL_old hp hn) (fun k ob hk => growL_at hnd hlt hk)
section
variable {P : Program} {E : PT Ty} {frz : List Nat} {nt m : Nat} {ro' : Option Nat} {K : Ex → S → Prop} {ops : Array Oper} {l : List Oper} {o : Oper} {tm tm' : PT AV} {objs objs' : List Ob} {dl : List Dl} {s0 : S} {i : Nat} {acc : List Eff} {G : S → Prop} {yi : Nat} {args : List AV} {r : AV}
theorem oY (hA : AYield P yi args objs r objs') (k : RunOps P nt m ro' ops l ⟨tm', objs', dl⟩ K) (hg : guardA ops (rd tm) o = some true := by rfl) (hc : yieldOf (rd tm) o.op = some (yi, args) := by rfl)
    (hp : isPan r = false := by rfl) (ht : setD nt tm o.dst r = some tm' := by rfl) : RunOps P nt m ro' ops (o :: l) ⟨tm, objs, dl⟩ K := RunOps.yield hg hc hA hp ht k
end
theorem refA_mono {n m : Nat} (h : n ≤ m) : ∀ (k : Nat) {x : AV}, refA k n x = true → refA k m x = true := by
  intro k
  induction k with
  | zero => intro x hx; cases hx
  | succ k ih =>
    intro x hx
    cases x <;> simp only [refA, Nat.blt_eq, List.all_eq_true, Bool.and_eq_true] at hx ⊢ <;> first | omega | exact fun y hy => ih (hx y hy) | exact ⟨fun y hy => ih (hx.1 y hy), fun y hy => ih (hx.2 y hy)⟩
theorem ptAll_mono {p q : AV → Bool} (h : ∀ x, p x = true → q x = true) : ∀ {t : PT AV}, ptAll p t = true → ptAll q t = true
  | .nil, _ => rfl
  | .node l v r, ha => by
    simp only [ptAll, Bool.and_eq_true] at ha ⊢
    refine ⟨⟨ptAll_mono h ha.1.1, ?_⟩, ptAll_mono h ha.2⟩
    cases v with
    | none => rfl
    | some v => exact h v ha.1.2
theorem refOb_mono {n m : Nat} (h : n ≤ m) {o : Ob} (ho : refOb n o = true) : refOb m o = true := by
  cases o <;> simp only [refOb, List.all_eq_true, Nat.blt_eq] at ho ⊢ <;> first | omega | exact fun x hx => refA_mono h 8 (ho x hx) | exact ptAll_mono (fun x hx => refA_mono h 8 hx) ho
theorem refs_mono {n m : Nat} (h : n ≤ m) {l : List Ob} (ho : l.all (refOb n) = true) : l.all (refOb m) = true := by
  rw [List.all_eq_true] at ho ⊢
  exact fun x hx => refOb_mono h (ho x hx)
theorem Run.wk {P : Program} {nt m : Nat} {ro' : Option Nat} {K : Ex → S → Prop} {c : Code} {tm : PT AV} {objs objs' : List Ob} {dl : List Dl} (h : Run P nt m ro' c ⟨tm, objs', dl⟩ K) (hw : WkObs objs objs') (hl : objs'.length = objs.length) (hm : m ≤ objs.length) (hr : objs'.all (refOb objs'.length) = true) :
    Run P nt m ro' c ⟨tm, objs, dl⟩ K := by
  intro D0 β0 o0 w0 hb0 ro Q a w hro hK hs
  obtain ⟨D, β, h1, h2, h3⟩ := hs
  have hlen : β.length = objs.length := h1.heap.len
  have e : β.take objs'.length = β := List.take_of_length_le (by omega)
  have st := h1.weak hw (by omega) hr
  rw [e] at st
  exact h D0 β0 o0 w0 hb0 ro Q a w hro hK ⟨D, β, st, h2, h3⟩
section
variable {E : PT Ty} {H : Hd} {frz : List Nat} {rd : Operand → AV} {objs O : List Ob} {o : Oper} {t : TypeId} {x xv : Operand} {y : Ty} {i off : Nat} {cs : List AV} {c : AV}
theorem evAny_loadB (hop : o.op = .load t x) (h1 : E.get? t = some y) (ha : isAggT y.desc = false) (hx : rd x = .bp i off) (hi : objs[i]? = some (.box cs)) (hc : cs[off]? = some c) : evAny E H frz rd objs o = some (c, none, true) := by
  obtain ⟨dst, op, ty, pos, after, guard⟩ := o
  simp only at hop
  subst hop
  simp only [evAny, quiet, evOp, loadR, h1, hx, hi, obCells, ha, hc, pureR, if_true, Option.map_some]
theorem evAny_storeB (hop : o.op = .store t x xv) (h1 : E.get? t = some y) (hs : y.size = 1) (hx : rd x = .bp i off) (hv : rd xv = c) (hk : knownA c = true) (hl : c.cells = [c]) (hi : objs[i]? = some (.box cs)) (hc : off < cs.length) :
    evAny E H frz rd objs o = some (.d .any, some (objs.set i (.box (cs.set off c))), true) := by
  obtain ⟨dst, op, ty, pos, after, guard⟩ := o
  simp only at hop
  subst hop
  have hb : Nat.ble (off + 1) cs.length = true := Nat.ble_eq_true_of_le hc
  simp only [evAny, quiet, evOp, storeR, h1, hx, hv, hi, obCells, hk, hl, hs, hb, List.length_cons, List.length_nil, pureR, Bool.and_self, if_true, Option.map_some, obPut]
  have hcut : cs.take off ++ [c] ++ cs.drop (off + 1) = cs.set off c := by rw [List.set_eq_take_append_cons_drop, if_pos hc]; simp
  simp only [Nat.zero_add, hb, Nat.beq_refl, Bool.and_self, if_true, hcut, Option.map_some]
end
end Go.Av
end
noncomputable section
namespace Go.Av
open Go
end Go.Av
end
noncomputable section
namespace Go.Av
open Go
section
variable {P : Program} {E : PT Ty} {frz : List Nat} {nt m : Nat} {ro' : Option Nat} {ops : Array Oper} {s : S} {K : Ex → S → Prop}
end
section
variable {P : Program} {E : PT Ty} {frz : List Nat} {nt : Nat} {ops : Array Oper} {dead pk : Nat → Bool} {PN : DV → List Ob → Prop} {i : Nat} {acc : List Eff} {sts : List S} {l : List Oper} {o : Oper} {G : List Eff → List S → S → Prop} {tm tm' : PT AV} {objs objs' A A' : List Ob} {dl : List Dl} {g : FuncId} {args args' : List AV} {r r' : AV} {x : DV}
end
set_option maxRecDepth 10000
section
variable {P : Program} {E : PT Ty} {nt m : Nat} {ro' : Option Nat} {K : Ex → S → Prop} {c : Code} {ops : Array Oper} {lo : List Oper} {o : Oper} {tm tm' : PT AV} {objs objs' : List Ob} {dl : List Dl}
theorem obj_bi {D : DMap} {β : List Bi} {w : World} (h : Heap D β objs w) {i : Nat} {ob : Ob} (hi : objs[i]? = some ob) : ∃ bi, β[i]? = some bi :=
  ⟨β[i]'(by have := h.len; have := (List.getElem?_eq_some_iff.1 hi).1; omega), by simp⟩
theorem step_open {D : DMap} {β : List Bi} {w : World} (h : Heap D β objs w) {i : Nat} {kvs : List (DV × DV)} (hi : objs[i]? = some (.pm kvs)) : ∃ l, l.Perm kvs ∧ Step D β objs w D β (objs.set i (.map l)) w := by
  obtain ⟨bi, hb⟩ := obj_bi h hi
  obtain ⟨l, hl, es, cl, g1, g2, g3, g4, g5⟩ := h.hold i bi _ hb hi
  exact ⟨l, hl, Step.retell h hb hi (fun b hb => hb) ⟨es, cl, g1, g2, g3, g4, g5⟩⟩
theorem step_close {D : DMap} {β : List Bi} {w : World} (h : Heap D β objs w) {i : Nat} {l kvs : List (DV × DV)} (hi : objs[i]? = some (.map l)) (hl : l.Perm kvs) : Step D β objs w D β (objs.set i (.pm kvs)) w := by
  obtain ⟨bi, hb⟩ := obj_bi h hi
  obtain ⟨es, cl, g1, g2, g3, g4, g5⟩ := h.hold i bi _ hb hi
  exact Step.retell h hb hi (fun b hb => hb) ⟨l, hl, es, cl, g1, g2, g3, g4, g5⟩
theorem Run.openPm (i : Nat) {kvs : List (DV × DV)} (hi : objs[i]? = some (.pm kvs)) (h : ∀ l : List (DV × DV), l.Perm kvs → Run P nt m ro' c ⟨tm, objs.set i (.map l), dl⟩ K) : Run P nt m ro' c ⟨tm, objs, dl⟩ K := by
  intro D0 β0 o0 w0 hb0 ro Q a w hro hK hs
  obtain ⟨D, β, h1, h2, h3⟩ := hs
  obtain ⟨l, hl, st⟩ := step_open h1.heap hi
  exact h l hl D0 β0 o0 w0 hb0 ro Q a w hro hK ⟨D, β, h1.trans st, h2.mono st.dsub st.bext, h3.mono st.dsub st.bext⟩
theorem Run.closePm (i : Nat) {l kvs : List (DV × DV)} (hi : objs[i]? = some (.map l)) (hl : l.Perm kvs) (h : Run P nt m ro' c ⟨tm, objs.set i (.pm kvs), dl⟩ K) : Run P nt m ro' c ⟨tm, objs, dl⟩ K := by
  intro D0 β0 o0 w0 hb0 ro Q a w hro hK hs
  obtain ⟨D, β, h1, h2, h3⟩ := hs
  have st := step_close h1.heap hi hl
  exact h D0 β0 o0 w0 hb0 ro Q a w hro hK ⟨D, β, h1.trans st, h2.mono st.dsub st.bext, h3.mono st.dsub st.bext⟩
theorem RunOps.openPm (i : Nat) {kvs : List (DV × DV)} (hi : objs[i]? = some (.pm kvs)) (h : ∀ l : List (DV × DV), l.Perm kvs → RunOps P nt m ro' ops lo ⟨tm, objs.set i (.map l), dl⟩ K) : RunOps P nt m ro' ops lo ⟨tm, objs, dl⟩ K := by
  intro D0 β0 o0 w0 hb0 ro Q a w j hro hlo hK hs
  obtain ⟨D, β, h1, h2, h3⟩ := hs
  obtain ⟨l, hl, st⟩ := step_open h1.heap hi
  exact h l hl D0 β0 o0 w0 hb0 ro Q a w j hro hlo hK ⟨D, β, h1.trans st, h2.mono st.dsub st.bext, h3.mono st.dsub st.bext⟩
theorem RunOps.closePm (i : Nat) {l kvs : List (DV × DV)} (hi : objs[i]? = some (.map l)) (hl : l.Perm kvs) (h : RunOps P nt m ro' ops lo ⟨tm, objs.set i (.pm kvs), dl⟩ K) : RunOps P nt m ro' ops lo ⟨tm, objs, dl⟩ K := by
  intro D0 β0 o0 w0 hb0 ro Q a w j hro hlo hK hs
  obtain ⟨D, β, h1, h2, h3⟩ := hs
  have st := step_close h1.heap hi hl
  exact h D0 β0 o0 w0 hb0 ro Q a w j hro hlo hK ⟨D, β, h1.trans st, h2.mono st.dsub st.bext, h3.mono st.dsub st.bext⟩
theorem oRange (hE : EnvOK P E) {t kt et : TypeId} {x : Operand} {i : Nat} {kvs : List (DV × DV)} {d : Ty} (k : RunOps P nt m ro' ops lo ⟨tm', objs ++ [.mit i kvs.length []], dl⟩ K) (hi : objs[i]? = some (.map kvs) := by rfl)
    (hop : o.op = .range t x := by rfl) (hg : guardA ops (rd tm) o = some true := by rfl) (hx : rd tm x = .mp i := by rfl) (hd : E.get? t = some d := by rfl) (hds : d.desc = .map kt et := by rfl)
    (ht : setD nt tm o.dst (.bp objs.length 0) = some tm' := by rfl) : RunOps P nt m ro' ops (o :: lo) ⟨tm, objs, dl⟩ K := by
  have hu := (hE.ty t d hd).und
  rw [hds] at hu
  refine RunOps.does hg (v := .bp objs.length 0) (objs' := objs ++ [.mit i kvs.length []]) ?_ rfl ht k
  obtain ⟨dst, op, ty, pos, after, guard⟩ := o
  simp only at hop
  subst hop
  refine does_of_run (fun c => by simp) fun D β ρ w hp hρ => ?_
  have hv := hρ x
  rw [hx] at hv
  generalize hvv : ρ x = v at hv
  cases hv with
  | @mp _ bi hb =>
    obtain ⟨es, cl, g1, g2, g3, g4, g5, g6⟩ := hp.hold i bi _ hb hi
    refine ⟨_, w.alloc (.mapIter (some bi.blk) cl #[] cl), D, β ++ [⟨w.heap.size, fun _ => none⟩], .inl ?_, ?_, .bp (bi := ⟨w.heap.size, fun _ => none⟩) (by rw [← hp.len]; simp)⟩
    · show ((do pure (Next.value (← Instr.range t (ρ x)))) : Sem Next).run P w = _
      rw [hvv, Sem.run_bind, run_range_map w t kt et bi.blk es cl hu g1]; rfl
    · refine Step.push hp (fun k hk => alloc_keep w _ k hk) (by simp) rfl rfl ⟨rfl, Nat.le_refl _⟩ (fun _ _ h => h) (fun ad v h0 h2 => by rw [h2] at h0; cases h0) (fun b hb => by simp [ownOf] at hb; omega) ?_
      refine ⟨bi, by rw [List.getElem?_append_left (List.getElem?_eq_some_iff.1 hb).1]; exact hb, ?_, fun ad ha => ?_⟩
      · rw [alloc_new w _, g5, g2]
      · cases hd : D ad with
        | none => rfl
        | some v => have := hp.D_lt hd; simp only at ha; omega
theorem size_mem {es : Array MapEntry} {seen : List Nat} (hb : ∀ (j : Nat) e, es[j]? = some e → e.born = j) (h : (leftOf es seen.toArray).size = 0) : ∀ q, q < es.size → q ∈ seen := by
  intro q hq
  have h0 : leftOf es seen.toArray = #[] := Array.eq_empty_of_size_eq_zero h
  unfold leftOf at h0
  rw [Array.filter_eq_empty_iff] at h0
  have := h0 es[q] (Array.getElem_mem hq)
  rw [hb q es[q] (by simp [hq])] at this
  simpa using this
theorem oNext {x : Operand} {i j : Nat} {kvs : List (DV × DV)} {seen : List Nat} {tm1 : Nat → DV × DV → PT AV} {tm0 : PT AV}
    (k1 : ∀ (q : Nat) p, kvs[q]? = some p → q ∉ seen → RunOps P nt m ro' ops lo ⟨tm1 q p, objs.set j (.mit i kvs.length (seen ++ [q])), dl⟩ K) (k0 : (∀ q, q < kvs.length → q ∈ seen) → RunOps P nt m ro' ops lo ⟨tm0, objs, dl⟩ K)
    (hj : objs[j]? = some (.mit i kvs.length seen) := by rfl) (hi : objs[i]? = some (.map kvs) := by rfl) (hop : o.op = .next x false := by rfl) (hg : guardA ops (rd tm) o = some true := by rfl) (hx : rd tm x = .bp j 0 := by rfl)
    (ht1 : ∀ q p, setD nt tm o.dst (.tup [.d (.bool true), .d p.1, .d p.2]) = some (tm1 q p) := by intro q p; rfl) (ht0 : setD nt tm o.dst (.tup [.d (.bool false)]) = some tm0 := by rfl) : RunOps P nt m ro' ops (o :: lo) ⟨tm, objs, dl⟩ K := by
  intro D0 β0 o0 w0 hb0 ro Q a w n hro hl hK hs
  have hi' : ops[n]? = some o := by have := hl 0 (by simp); simpa using this
  have hl' : ∀ k : Nat, k < lo.length → ops[n + 1 + k]? = lo[k]? := fun k hk => by
    have := hl (k + 1) (by simp; omega)
    rw [show n + 1 + k = n + (k + 1) by omega]; simpa using this
  obtain ⟨D, β, h1, h2, h3⟩ := hs
  simp only [List.length_cons, List.range'_succ, wpOpsIn, hi']
  rw [guard_ok (fun x => h2.rd x) hg]
  simp only [if_true]
  have hx' := h2.rd x
  simp only at hx'
  rw [hx] at hx'
  refine ⟨fun _ _ => trivial, ?_⟩
  rw [Oper.semAt_eq _ _ _ (fun c => by rw [hop]; simp)]
  have hp := h1.heap
  generalize hvv : a.eval x = v at hx'
  cases hx' with
  | @bp _ _ bj hbj =>
    obtain ⟨bm, g0, gr, gD⟩ := hp.hold j bj _ hbj hj
    obtain ⟨es, cl, g1, g2, g3, g4, g5, g6⟩ := hp.hold i bm _ g0 hi
    have hex : ∀ r w', (Instr.next (.pointer (some ⟨bj.blk, 0, none⟩)) false o.type).run P w = .ok r w' → (execOp a.eval o).run P w = .ok (.value r) w' := fun r w' h => by
      obtain ⟨dst, op, ty, pos, after, guard⟩ := o
      simp only at hop
      subst hop
      show ((do pure (Next.value (← Instr.next (a.eval x) false ty))) : Sem Next).run P w = _
      rw [hvv, Sem.run_bind, h]; rfl
    rcases run_next_at (P := P) w o.type bj.blk bm.blk kvs.length kvs.length seen.toArray es cl gr g1 (fun y hy => by
      obtain ⟨q, hq, e⟩ := List.getElem_of_mem hy
      have hq' : q < es.size := by simpa using hq
      have := g6 q y (by rw [← e]; simp [hq'])
      omega) (Nat.le_refl _) with ⟨e0, e1⟩ | ⟨e, he, w1, hw1, e1⟩
    · rw [hex _ _ e1]
      exact k0 (fun q hq => size_mem g6 e0 q (by omega)) D0 β0 o0 w0 hb0 ro Q _ _ (n + 1) hro hl' hK (Sim.put h1 h2 h3 (Step.refl hp) (.tup rfl (fun j c v hc hv => by
        match j, hc, hv with
        | 0, hc, hv => simp at hc hv; subst hc hv; exact .d .bool
        | j + 1, hc, hv => simp at hc)) ht0)
    · rw [hex _ _ e1]
      have hem : e ∈ es ∧ e.born ∉ seen := by
        have := he
        unfold leftOf at this
        simp at this
        exact this
      obtain ⟨q, hq, eq⟩ := Array.getElem_of_mem hem.1
      have hbq := g6 q e (by rw [← eq]; simp [hq])
      have hql : q < kvs.length := by omega
      have hst : Step D β objs w D β objs w1 := by
        rcases hw1 with rfl | rfl
        · exact Step.refl hp
        · exact Step.drew hp
      have gr1 : w1.heap = w.heap := by rcases hw1 with rfl | rfl <;> rfl
      have hbs : bj.blk < w1.heap.size := by rw [gr1]; exact lt_of_getElem? gr
      have hst2 : Step D β objs w1 D β (objs.set j (.mit i kvs.length (seen ++ [q]))) (putB w1 bj.blk (.mapIter (some bm.blk) kvs.length (seen ++ [q]).toArray kvs.length)) :=
        Step.put hst.heap hbj hj rfl (fun b' hb' => by simp [ownOf] at hb'; exact hb'.symm) gD ⟨bm, g0, putB_eq hbs, gD⟩
      have hput : ChangeMaps.setBlock w1 bj.blk (.mapIter (some bm.blk) kvs.length (seen.toArray.push e.born) cl) = putB w1 bj.blk (.mapIter (some bm.blk) kvs.length (seen ++ [q]).toArray kvs.length) := by
        rw [hbq, g5, g2]; simp [ChangeMaps.setBlock, putB]
      rw [hput]
      have hpq : kvs[q]? = some kvs[q] := List.getElem?_eq_getElem hql
      have hpair := g3 q kvs[q] e hpq (by rw [← eq]; simp [hq])
      exact k1 q kvs[q] hpq (by rw [← hbq]; exact hem.2) D0 β0 o0 w0 hb0 ro Q _ _ (n + 1) hro hl' hK (Sim.put h1 h2 h3 (hst.trans hst2) (.tup rfl (fun j c v hc hv => by
        match j, hc, hv with
        | 0, hc, hv => simp at hc hv; subst hc hv; exact .d .bool
        | 1, hc, hv => simp at hc hv; subst hc hv; exact .d hpair.1
        | 2, hc, hv => simp at hc hv; subst hc hv; exact .d hpair.2
        | j + 3, hc, hv => simp at hc)) (ht1 q kvs[q]))
theorem oEntry {x : Operand} {i j q : Nat} {kvs : List (DV × DV)} {seen : List Nat} {p : DV × DV} (k : RunOps P nt m ro' ops lo ⟨tm', objs, dl⟩ K) (hp' : kvs[q]? = some p)
    (hj : objs[j]? = some (.mit i kvs.length (seen ++ [q])) := by rfl) (hi : objs[i]? = some (.map kvs) := by rfl) (hop : o.op = .entry x := by rfl) (hg : guardA ops (rd tm) o = some true := by rfl) (hx : rd tm x = .bp j 0 := by rfl)
    (ht : setD nt tm o.dst (.tup [.d p.1, .d p.2]) = some tm' := by rfl) : RunOps P nt m ro' ops (o :: lo) ⟨tm, objs, dl⟩ K := by
  refine RunOps.does hg (v := .tup [.d p.1, .d p.2]) (objs' := objs) ?_ rfl ht k
  obtain ⟨dst, op, ty, pos, after, guard⟩ := o
  simp only at hop
  subst hop
  refine does_of_run (fun c => by simp) fun D β ρ w hp hρ => ?_
  have hv := hρ x
  rw [hx] at hv
  generalize hvv : ρ x = v at hv
  cases hv with
  | @bp _ _ bj hbj =>
    obtain ⟨bm, g0, gr, gD⟩ := hp.hold j bj _ hbj hj
    obtain ⟨es, cl, g1, g2, g3, g4, g5, g6⟩ := hp.hold i bm _ g0 hi
    have hql := (List.getElem?_eq_some_iff.1 hp').1
    have hqs : q < es.size := by omega
    have hbq := g6 q es[q] (by simp [hqs])
    have hpair := g3 q p es[q] hp' (by simp [hqs])
    refine ⟨.tuple #[es[q].key, es[q].val], w, D, β, .inl ?_, Step.refl hp, .tup rfl (fun j c v hc hv => ?_)⟩
    · have hr := run_entry_at (P := P) w bj.blk bm.blk kvs.length seen.toArray es cl es[q] (by rw [gr, hbq, g5, g2]; simp) g1 (by simp) (by
        refine List.pairwise_iff_getElem.2 fun a b ha hb hab => ?_
        simp only [List.length_map, Array.length_toList] at ha hb
        simp only [List.getElem_map, Array.getElem_toList]
        rw [g6 a es[a] (by simp [ha]), g6 b es[b] (by simp [hb])]
        omega)
      show ((do pure (Next.value (← Instr.entry (ρ x)))) : Sem Next).run P w = _
      rw [hvv, Sem.run_bind, hr]; rfl
    · match j, hc, hv with
      | 0, hc, hv => simp at hc hv; subst hc hv; exact .d hpair.1
      | 1, hc, hv => simp at hc hv; subst hc hv; exact .d hpair.2
      | j + 2, hc, hv => simp at hc
end
section
variable {P : Program} {E : PT Ty} {D : DMap} {β : List Bi} {objs : List Ob} {w : World}
theorem vec_newA {bi : Bi} {ag : Bool} {n cap : Nat} {cs : List AV} {vs : List Value} {rest : Array Value} {T : TypeId} (hh : bi.hist 0 = some (some ⟨bi.blk, 0, none⟩, cap))
    (hn : n ≤ cap) (hm : cap ≤ maxLen) (hl : cs.length = n) (hvl : vs.length = n) (h1 : ∀ (j : Nat) v, vs[j]? = some v → v.oneCell' = true)
    (hr : ∀ (j : Nat) c v, cs[j]? = some c → vs[j]? = some v → RepA D β c v) (hw : w.heap[bi.blk]? = some (.cells (vs.toArray ++ rest) T (0, 0))) (hrs : cap ≤ n + rest.size)
    (hr1 : ∀ (j : Nat) v, rest[j]? = some v → v.oneCell' = true) (hD : ∀ ad, ad.block = bi.blk → D ad = none) : HoldsOb D β w bi (.vec T ag 1 n cs) := by
  refine ⟨_, cap, hh, hn, hm, by simpa using hl, by simp, fun ad e => ?_⟩
  cases e
  refine ⟨rfl, _, T, ⟨hw, rfl⟩, by simp; omega, fun j c v hc hv => ?_, fun j v hv => ?_, hD⟩
  · have hj : j < cs.length := (List.getElem?_eq_some_iff.1 hc).1
    rw [Array.getElem?_append_left (by simp; omega)] at hv
    exact hr j c v hc (by simpa using hv)
  · by_cases hj : j < vs.length
    · rw [Array.getElem?_append_left (by simpa using hj)] at hv
      exact h1 j v (by simpa using hv)
    · rw [Array.getElem?_append_right (by simpa using Nat.le_of_not_lt hj)] at hv; exact hr1 _ v hv
theorem snoc_one {D : DMap} {β : List Bi} {cs : List AV} {olds : List Value} {c : AV} {v0 : Value} (hl : olds.length = cs.length) (hr : ∀ (j : Nat) c v, cs[j]? = some c → olds[j]? = some v → RepA D β c v) (hc : RepA D β c v0) :
    ∀ (j : Nat) c' v, (cs ++ [c])[j]? = some c' → (olds ++ [v0])[j]? = some v → RepA D β c' v := fun j c' v h1 h2 => by
  by_cases h : j < cs.length
  · rw [List.getElem?_append_left h] at h1
    rw [List.getElem?_append_left (by omega)] at h2
    exact hr j c' v h1 h2
  · have hj : j = cs.length := by have := (List.getElem?_eq_some_iff.1 h1).1; simp at this; omega
    subst hj
    rw [List.getElem?_append_right (by omega)] at h1 h2
    rw [hl] at h2
    simp at h1 h2
    subst h1 h2
    exact hc
theorem snoc_ok {olds : List Value} {v0 : Value} (h1 : ∀ (j : Nat) v, olds[j]? = some v → v.oneCell' = true) (h0 : v0.oneCell' = true) : ∀ (j : Nat) v, (olds ++ [v0])[j]? = some v → v.oneCell' = true := fun j v h => by
  rcases List.mem_append.1 (List.mem_of_getElem? h) with h | h
  · obtain ⟨k, hk, e⟩ := List.getElem_of_mem h
    exact h1 k v (by rw [List.getElem?_eq_getElem hk, e])
  · simp at h; subst h; exact h0
theorem append_vecA (hp : Heap D β objs w) {ts tx ty e : TypeId} {z : Ty} {c : AV} {u v v0 zv : Value} (hts : P.underlying ts = some (.slice e)) (hT : TyOK1 P e z)
    (hv0 : v0.oneCell' = true) (hc : RepA D β c v0) (hA : AppArg P e z tx v 1 [v0] w) (hzv : (zeroValue e).run P w.drew = .ok zv w.drew) (hzs : zv.cells.size = 1)
    (hz1 : ∀ (j : Nat) v, zv.cells[j]? = some v → v.oneCell' = true) (h1 : z.size = 1) (h2 : 1 ≤ z.bytes) {i len n : Nat} {ag : Bool} {cs : List AV} (hs : RepA D β (.vs i 1 0 len) u)
    (ho : objs[i]? = some (.vec e ag 1 n cs)) (hle : len ≤ n) (hbytes : (len + 1) * z.bytes ≤ 1099511627776) :
    ∃ v' w' D' β', (Builtin.append_ #[ts, tx] ty #[u, v]).run P w = .ok v' w' ∧
      Step D β objs w D' β' (objs.set i .gone ++ [.vec e ag 1 (len + 1) (cs.take len ++ [c])]) w' ∧ RepA D' β' (.vs objs.length 1 0 (len + 1)) v' := by
  cases hs with
  | @vs _ _ _ _ cap c' bi a ad hb hh hlc hmc hnn hx =>
    obtain ⟨rfl, hcap⟩ := hx (.inl rfl)
    have hcap : c' = cap := by omega
    subst hcap
    obtain ⟨a', cap', k1, k2, k3, k4, k5, k6⟩ := hp.hold i bi _ hb ho
    rw [hh] at k1
    simp only [Option.some.injEq, Prod.mk.injEq] at k1
    obtain ⟨rfl, rfl⟩ := k1
    have hlen := hp.len
    have hct : (cs.take len).length = len := by simp; omega
    have hZ := fun n => zeroCells_ok (n := n) hz1 (by omega)
    by_cases hroom : len + 1 ≤ c'
    · cases a with
      | none => have h0 := k5 rfl; omega
      | some ad0 =>
        obtain ⟨rfl, arr, T, ⟨g1, rfl⟩, g2, g3, g4, g5⟩ := k6 ad0 rfl
        have hrun := append_fits_run (ty := ty) (base := some ⟨bi.blk, 0, none⟩) (len := len) (cap := c') hts hT hA hroom
        have hst := run_storeCells P bi.blk T ⟨bi.blk, len, none⟩ rfl rfl [v0] 0 w arr g1 (by simp; omega) (fun j v hv => by
          match j, hv with
          | 0, hv => simp at hv; subst hv; exact hv0
          | j + 1, hv => simp at hv)
        simp only at hrun
        rw [addr_add rfl, h1, Nat.mul_one] at hrun
        simp only [Nat.zero_add, Nat.add_zero] at hst hrun
        simp only [hst, Result.andThen_ok] at hrun
        have hbw : bi.blk < w.heap.size := lt_of_getElem? g1
        have hsz : arr.size ≥ c' := by simpa using g2
        refine ⟨_, _, D, β ++ [⟨bi.blk, fun m => if m = 0 then some (some ⟨bi.blk, 0, none⟩, c') else none⟩], by simpa using hrun, Step.move hp hb ho (b := bi.blk) (by simp [ownOf, hh]) (fun b' hb' => by simp [ownOf] at hb'; exact hb'.symm) g5 ?_, ?_⟩
        · have hsp : (splice arr.toList len [v0]).toArray = ((arr.toList.take len ++ [v0]).toArray ++ (arr.toList.drop (len + 1)).toArray) := by simp [splice]
          refine vec_newA (vs := arr.toList.take len ++ [v0]) (rest := (arr.toList.drop (len + 1)).toArray) (T := T) (by simp) hroom k3 (by simp; omega) (by simp; omega) (snoc_ok (fun j v hv => ?_) hv0) (snoc_one (by simp; omega) (fun j c v hc hv => ?_) (hc.mono (fun _ _ h => h) ext_snoc))
            (by rw [putB_eq hbw, hsp]) (by simp; omega) (fun j v hv => ?_) g5
          · obtain ⟨hv, _⟩ := getElem?_take_of hv; exact g4 j v (by simpa using hv)
          · obtain ⟨hv, _⟩ := getElem?_take_of hv
            obtain ⟨hc, _⟩ := getElem?_take_of hc
            exact (g3 j c v hc (by simpa using hv)).mono (fun _ _ h => h) ext_snoc
          · simp only [List.getElem?_toArray, List.getElem?_drop] at hv; exact g4 _ v (by simpa using hv)
        · exact .vs (bi := ⟨bi.blk, fun m => if m = 0 then some (some ⟨bi.blk, 0, none⟩, c') else none⟩) (a := some ⟨bi.blk, 0, none⟩) (cap := c') (by rw [← hlen]; simp) (by simp) hroom hmc (by simp) (by simp)
    · have hol : ∃ olds : List Value, olds.length = len ∧ (∀ (j : Nat) v, olds[j]? = some v → v.oneCell' = true) ∧ (∀ (j : Nat) c v, (cs.take len)[j]? = some c → olds[j]? = some v → RepA D β c v) ∧
          (Builtin.firstCells z.size len (.slice (a.map fun _ => ⟨bi.blk, 0 * 1, none⟩) len c')).run P w.drew = .ok olds.toArray w.drew := by
        cases a with
        | none =>
          have h0 := k5 rfl
          have e1 : len = 0 := by omega
          subst e1
          exact ⟨[], by simp, by simp, by simp, rfl⟩
        | some ad0 =>
          obtain ⟨rfl, arr, T, ⟨g1, rfl⟩, g2, g3, g4, g5⟩ := k6 ad0 rfl
          refine ⟨arr.toList.take len, by simp; omega, fun j v hv => ?_, fun j c v hc hv => ?_, ?_⟩
          · obtain ⟨hv, _⟩ := getElem?_take_of hv; exact g4 j v (by simpa using hv)
          · obtain ⟨hv, _⟩ := getElem?_take_of hv
            obtain ⟨hc, _⟩ := getElem?_take_of hc
            exact g3 j c v hc (by simpa using hv)
          · simp only [Builtin.firstCells, Option.map_some]
            have hl2 : (arr.toList.take len).length = len := by simp; omega
            have := run_loadCells P w.drew ⟨bi.blk, 0 * 1, none⟩ (arr.toList.take len) (fun j v hv => by
              obtain ⟨hv, _⟩ := getElem?_take_of hv
              rw [addr_add rfl]
              show w.cell? ⟨bi.blk, 0 * 1 + j, none⟩ = _
              rw [cell_of_blk g1, Nat.zero_mul, Nat.zero_add]; simpa using hv)
            rw [hl2] at this; simpa [h1] using this
      obtain ⟨olds, o1, o2, o3, o4⟩ := hol
      obtain ⟨newCap, n1, n2, n3⟩ := append_grows_run (ty := ty) (w := w) (len := len) (cap := c') (olds := olds) hts hT hA o4 hzv (by omega) hbytes (le_of_bytes hbytes h2)
      have hDn : ∀ ad : Addr, ad.block = w.heap.size → D ad = none := fun ad ha => by
        cases hd : D ad with
        | none => rfl
        | some v => have := hp.D_lt hd; omega
      refine ⟨_, _, D, β ++ [⟨w.heap.size, fun m => if m = 0 then some (some ⟨w.heap.size, 0, none⟩, newCap) else none⟩], n3, (Step.gone hp i).trans (Step.push (Step.gone hp i).heap (fun k hk => alloc_keep w.drew _ k hk) (by simp) rfl rfl ⟨rfl, by first | exact Nat.le_refl _ | exact Nat.le_succ _ | exact Nat.le_add_right _ 2⟩ (fun _ _ h => h)
          (fun ad v h1 h2 => by rw [h2] at h1; cases h1) (fun b hb => by simp [ownOf] at hb; omega) ?_), ?_⟩
      · refine vec_newA (vs := olds ++ [v0]) (rest := Builtin.zeroCells zv.cells (newCap - (len + 1))) (T := e) (by simp) n1 n2 (by simp; omega) (by simp; omega) (snoc_ok o2 hv0) (snoc_one (by rw [o1, hct]) (fun j c v hc hv => (o3 j c v hc hv).mono (fun _ _ h => h) ext_snoc) (hc.mono (fun _ _ h => h) ext_snoc))
          (alloc_new w.drew _) (by rw [(hZ _).1, hzs]; omega) (hZ _).2 hDn
      · exact .vs (bi := ⟨w.heap.size, fun m => if m = 0 then some (some ⟨w.heap.size, 0, none⟩, newCap) else none⟩) (a := some ⟨w.heap.size, 0, none⟩) (cap := newCap) (by rw [← hlen]; simp) (by simp) n1 n2 (by simp) (by simp)
end
section
variable {P : Program} {E : PT Ty} {nt m : Nat} {ro' : Option Nat} {K : Ex → S → Prop} {ops : Array Oper} {lo : List Oper} {o : Oper} {tm tm' : PT AV} {objs : List Ob} {dl : List Dl}
theorem oAppV (hE : EnvOK P E) {ts tx e : TypeId} {sa sb : Operand} {i b len n : Nat} {ag ag' : Bool} {cs : List AV} {c : AV} {z ys yx : Ty} {dx e' : TypeId}
    (k : RunOps P nt m ro' ops lo ⟨tm', objs.set i .gone ++ [.vec e ag 1 (len + 1) (cs.take len ++ [c])], dl⟩ K) (hi : objs[i]? = some (.vec e ag 1 n cs)) (hb : objs[b]? = some (.vec dx ag' 1 1 [c])) (hle : len ≤ n) (hby : (len + 1) * z.bytes ≤ 1099511627776)
    (hop : o.op = .call ⟨.builtin .append, #[sa, sb], #[ts, tx]⟩ := by rfl) (hg : guardA ops (rd tm) o = some true := by rfl) (hs : rd tm sa = .vs i 1 0 len := by rfl) (hx : rd tm sb = .vs b 1 0 1 := by rfl)
    (ht1 : E.get? ts = some ys := by rfl) (ht2 : ys.desc = .slice e := by rfl) (ht3 : E.get? tx = some yx := by rfl) (ht4 : yx.desc = .slice e' := by rfl) (hz : E.get? e = some z := by rfl) (hz1 : z.size = 1 := by rfl) (hz2 : 1 ≤ z.bytes := by decide)
    (ht : setD nt tm o.dst (.vs objs.length 1 0 (len + 1)) = some tm' := by rfl) : RunOps P nt m ro' ops (o :: lo) ⟨tm, objs, dl⟩ K := by
  have hu := (hE.ty ts ys ht1).und
  rw [ht2] at hu
  have hux := (hE.ty tx yx ht3).und
  rw [ht4] at hux
  have hT := hE.ty e z hz
  refine RunOps.does hg (v := .vs objs.length 1 0 (len + 1)) (objs' := objs.set i .gone ++ [.vec e ag 1 (len + 1) (cs.take len ++ [c])]) ?_ rfl ht k
  obtain ⟨dst, op, ty, pos, after, guard⟩ := o
  simp only at hop
  subst hop
  refine does_of_run (fun c => by simp) fun D β ρ w hp hρ => ?_
  have hv := hρ sb
  rw [hx] at hv
  have hus := hρ sa
  rw [hs] at hus
  obtain ⟨i0, zv, _, hzv, hzc, hzl, _⟩ := zero_ok (D := D) (β := β) (w := w.drew) hT
  have hzsz : zv.cells.size = z.size := by rw [hzc.1]; simp [hzl]
  generalize hvv : ρ sb = v at hv
  cases hv with
  | @vs _ _ _ _ cap c' bi a ad hbb hh hlc hmc hnn hxx =>
    obtain ⟨rfl, hcap⟩ := hxx (.inl rfl)
    obtain ⟨a', cap', k1, k2, k3, k4, k5, k6⟩ := hp.hold b bi _ hbb hb
    rw [hh] at k1
    simp only [Option.some.injEq, Prod.mk.injEq] at k1
    obtain ⟨rfl, rfl⟩ := k1
    cases a with
    | none => have := k5 rfl; omega
    | some ad0 =>
      obtain ⟨rfl, arr, T, ⟨g1, rfl⟩, g2, g3, g4, g5⟩ := k6 ad0 rfl
      have h0 : 0 < arr.size := by omega
      have hA : AppArg P e z tx (.slice (some ⟨bi.blk, 0 * 1, none⟩) 1 c') 1 [arr[0]] w := by
        refine .inl ⟨⟨_, hux, .inl ⟨_, rfl⟩⟩, rfl, fun W hW => ?_⟩
        have := run_loadCells P W ⟨bi.blk, 0 * 1, none⟩ [arr[0]] (fun j v hv => by
          match j, hv with
          | 0, hv =>
            simp at hv; subst hv
            rw [addr_add rfl]
            show W.cell? ⟨bi.blk, 0 * 1 + 0, none⟩ = _
            rw [cell_of_blk (by rw [hW]; exact g1)]; simp [h0]
          | j + 1, hv => simp at hv)
        rw [hz1]
        exact this
      obtain ⟨v', w', D', β', r1, r2, r3⟩ := append_vecA (ty := ty) hp hu hT (g4 0 _ (by simp [h0])) (g3 0 c arr[0] (by simp) (by simp [h0])) hA hzv (by rw [hzsz, hz1]) hzc.2.1 hz1 hz2 hus hi hle hby
      refine ⟨v', w', D', β', .inl ?_, r2, r3⟩
      simp only [Option.map_some] at hvv
      rw [← hvv] at r1
      simp [execOp, resolve, invoke, builtin, r1]
end
def ACallQ (P : Program) (f : FuncId) (args : List AV) (objs : List Ob) (G : List Ob → AV → Prop) : Prop :=
  Enters P f ∧ ∀ D β w vs, Heap D β objs w → Reps D β args vs → CallsIn (FW none) 0 P f vs w (fun e w' => ∃ o r, (G o r ∧ isPan r = false) ∧ EndOK D β objs w r o e w')
theorem acallQ_of_run {P : Program} {E : PT Ty} (hE : EnvOK P E) {f : FuncId} {i : FnI} (hF : FnAt P f i) {args : List AV} {objs : List Ob} {G : List Ob → AV → Prop} (hlen : args.length = i.np) (hle : Nat.ble i.np i.nt = true)
    (h : Run P i.nt objs.length none i.body ⟨initTm 0 args .nil, objs, []⟩ (fun e s => (match e with | .normal => True | .ret => True | _ => False) ∧ ∃ objs' r, evLeave H0 s.dl none s.objs = some (none, objs') ∧ evResults E ⟨s.tm, objs', []⟩ i.results = some r ∧ G objs' r ∧ isPan r = false)) : ACallQ P f args objs G :=
  calls_of_run (G := fun o r => G o r ∧ isPan r = false) hE hF hlen hle h
theorem ACallQ.of {P : Program} {f : FuncId} {args : List AV} {objs objs' : List Ob} {r : AV} (h : ACall P f args objs r objs') (hp : isPan r = false) : ACallQ P f args objs (fun o x => o = objs' ∧ x = r) :=
  ⟨h.1, fun D β w vs hp' hr => (h.2 D β w vs hp' hr).mono fun _ _ he => ⟨objs', r, ⟨⟨rfl, rfl⟩, hp⟩, he⟩⟩
theorem ACallQ.mono {P : Program} {f : FuncId} {args : List AV} {objs : List Ob} {G G' : List Ob → AV → Prop} (h : ACallQ P f args objs G) (hg : ∀ o r, G o r → G' o r) : ACallQ P f args objs G' :=
  ⟨h.1, fun D β w vs hp' hr => (h.2 D β w vs hp' hr).mono fun _ _ ⟨o, r, ⟨h1, h2⟩, he⟩ => ⟨o, r, ⟨hg o r h1, h2⟩, he⟩⟩
theorem ACallQ.weak {P : Program} {f : FuncId} {args : List AV} {objs : List Ob} {G G' : List Ob → AV → Prop} (h : ACallQ P f args objs G)
    (hg : ∀ o r, G o r → ∃ o', G' o' r ∧ WkObs o o' ∧ objs.length ≤ o'.length ∧ o'.all (refOb o'.length) = true ∧ refA 8 o'.length r = true) : ACallQ P f args objs G' := by
  refine ⟨h.1, fun D β w vs hp hr => (h.2 D β w vs hp hr).mono fun e w' he => ?_⟩
  obtain ⟨o, r, ⟨hG, hpan⟩, he⟩ := he
  obtain ⟨o', g1, g2, g3, g4, g5⟩ := hg o r hG
  obtain ⟨v, D', β', rfl, hs, hv⟩ := he.ret hpan
  refine ⟨o', r, ⟨g1, hpan⟩, .inl ⟨v, D', β'.take o'.length, rfl, hs.weak g2 (by rw [hp.len]; exact g3) g4, repA_take 8 g5 hv⟩⟩
theorem ACallQ.known {P : Program} {f : FuncId} {ds : List DV} {G : List Ob → AV → Prop} {r : AV} (h : ACallQ P f (ds.map .d) [] G) (hg : ∀ o x, G o x → ∃ r1, closeA o 8 x = some r1 ∧ AvTo r1 r) : KnownCall P f ds r := by
  intro o
  refine ⟨h.1, fun D β w vs hp hr => ?_⟩
  have hr0 : Reps D [] (ds.map .d) vs := ⟨hr.1, fun j c v hc hv => by
    obtain ⟨d, _, rfl⟩ := Option.map_eq_some_iff.1 (by rw [List.getElem?_map] at hc; exact hc)
    cases hr.2 j _ v hc hv with
    | d k => exact .d k⟩
  refine (h.2 D [] w vs hp.bare hr0).mono fun e w' he => ?_
  obtain ⟨o', x, ⟨hG, hpan⟩, he⟩ := he
  obtain ⟨v, D', β', rfl, hs, hv⟩ := he.ret hpan
  obtain ⟨r1, k1, k2⟩ := hg o' x hG
  exact .inl ⟨v, _, β, rfl, (hs.trans (frz_step hs.heap)).bare hp, k2.rep (closeA_ok hs.heap k1 hv β)⟩
section
variable {P : Program} {E : PT Ty} {frz : List Nat} {nt m : Nat} {ro' : Option Nat} {K : Ex → S → Prop} {c : Code} {ops : Array Oper} {lo : List Oper} {o : Oper} {tm tm' : PT AV} {objs objs' : List Ob} {dl : List Dl}
theorem callOf_rep {rd : Operand → AV} {op : Op} {g : FuncId} {args : List AV} (h : callOf rd op = some (g, args)) :
    ∃ f as ts x y, op = .call ⟨.value f, as, ts⟩ ∧ args = x ++ as.toList.map rd ++ y ∧ ∀ D β v, RepA D β (rd f) v → ∃ u1 u2, v = .func (.func g) u1 u2 ∧ Reps D β x u1 ∧ Reps D β y u2 := by
  unfold callOf at h
  split at h
  · rename_i f as ts
    split at h
    · rename_i hf
      simp only [Option.some.injEq, Prod.mk.injEq] at h
      obtain ⟨rfl, rfl⟩ := h
      exact ⟨f, as, ts, _, _, rfl, rfl, fun D β v hv => fn_rep (by rw [hf] at hv; exact hv)⟩
    · rename_i hf
      simp only [Option.some.injEq, Prod.mk.injEq] at h
      obtain ⟨rfl, rfl⟩ := h
      exact ⟨f, as, ts, _, _, rfl, rfl, fun D β v hv => fnA_rep (by rw [hf] at hv; exact hv)⟩
    · cases h
  · cases h
theorem oQ {g : FuncId} {args : List AV} {G : List Ob → AV → Prop} (hA : ACallQ P g args objs G) (k : ∀ o' r, G o' r → ∃ tm', setD nt tm o.dst r = some tm' ∧ RunOps P nt m ro' ops lo ⟨tm', o', dl⟩ K)
    (hc : callOf (rd tm) o.op = some (g, args) := by rfl) (hg : guardA ops (rd tm) o = some true := by rfl) : RunOps P nt m ro' ops (o :: lo) ⟨tm, objs, dl⟩ K := by
  obtain ⟨f, as, ts, x, y, ho, rfl, hf⟩ := callOf_rep hc
  intro D0 β0 o0 w0 hb0 ro Q a w n hro hl hK hs
  have hi' : ops[n]? = some o := by have := hl 0 (by simp); simpa using this
  have hl' : ∀ k : Nat, k < lo.length → ops[n + 1 + k]? = lo[k]? := fun k hk => by
    have := hl (k + 1) (by simp; omega)
    rw [show n + 1 + k = n + (k + 1) by omega]; simpa using this
  obtain ⟨D, β, h1, h2, h3⟩ := hs
  simp only [List.length_cons, List.range'_succ, wpOpsIn, hi']
  rw [guard_ok (fun x => h2.rd x) hg]
  simp only [if_true]
  obtain ⟨u1, u2, hv, hx, hy⟩ := hf D β _ (h2.rd f)
  refine ⟨fun _ _ => trivial, ?_⟩
  rw [Oper.semAt_eq _ _ _ (fun c => by rw [ho]; simp)]
  have he : (execOp a.eval o).run P w = .ok (.enter g (u1 ++ as.map a.eval ++ u2)) w := by
    have := hA.1 (u1 ++ as.map a.eval ++ u2) w
    simp only [execOp, ho, resolve, hv, Deferred.ofValue, Sem.run_bind, Sem.run_pure, Result.andThen, invoke]
    exact this
  rw [he]
  refine ⟨fun h => by simp at h, ?_⟩
  have hc := hA.2 D β w (u1 ++ as.map a.eval ++ u2) h1.heap (reps_append (reps_append hx (reps_map (fun x => h2.rd x) as)) hy)
  refine CallsIn.mono (F := FW ro) (n := 0) hc (fun e w' he => ?_)
  obtain ⟨o', r, ⟨hG, hp⟩, he⟩ := he
  obtain ⟨v, D', β', rfl, hs, hv⟩ := he.ret hp
  obtain ⟨tm', ht, hk⟩ := k o' r hG
  exact hk D0 β0 o0 w0 hb0 ro Q _ _ (n + 1) hro hl' hK (Sim.put h1 h2 h3 hs hv ht)
theorem Run.rangeQ {f : Operand} {g : FuncId} {x y : List AV} {ps : Array Tmp} {assign body : Code} {G : List Ob → AV → Prop} {s : S}
    (hf : ∀ D β v, RepA D β (rd s.tm f) v → ∃ u1 u2, v = .func (.func g) u1 u2 ∧ Reps D β x u1 ∧ Reps D β y u2)
    (hA : ACallQ P g (x ++ [.yl (s.objs.length + 1)] ++ y) (rangeObs s.objs s.tm nt frz ps assign body .ready none) G)
    (k : ∀ o r, G o r → ∃ tm' nt' frz' ps' as' bd' st, o[s.objs.length + 1]? = some (.loop tm' nt' frz' ps' as' bd' st none) ∧ st ≠ .busy ∧ K .normal ⟨s.tm, o.set (s.objs.length + 1) (.loop tm' nt' frz' ps' as' bd' .exhausted none), .mark s.objs.length :: s.dl⟩) :
    Run P nt m none (.rangeFunc f ps assign body) s K := by
  intro D0 β0 o0 w0 hb0 ro Q a w hro hK hs
  obtain ⟨D, β, h1, h2, h3⟩ := hs
  obtain ⟨u1, u2, hfv, hx, hy⟩ := hf D β _ (h2.rd f)
  simp only [RoOK] at hro
  subst hro
  refine wpIn_rangeFunc fun fn _ => ?_
  have hp0 := raw_push h1.heap (.deferred (some [])) (by simp)
  have h1' := h1.trans hp0
  have h2' : TmOK D (β ++ [⟨w.heap.size, fun _ => none⟩]) nt s.tm a.tmps := h2.mono (fun _ _ h => h) ext_snoc
  have hb1 : (β ++ [⟨w.heap.size, fun _ => none⟩])[s.objs.length]? = some (⟨w.heap.size, fun _ => none⟩ : Bi) := by rw [← h1.heap.len]; simp
  have hdl : DlOK D (β ++ [⟨w.heap.size, fun _ => none⟩]) (.mark s.objs.length :: s.dl) ({ target := .collected w.heap.size, args := #[] } :: a.defers) := ⟨⟨_, hb1, rfl⟩, h3.mono (fun _ _ h => h) ext_snoc⟩
  have hsz : (w.alloc (.deferred (some []))).heap.size = w.heap.size + 1 := by simp
  have hp1 := loop_push h1'.heap frz fn ps assign body w.heap.size h2'
  rw [hsz] at hp1
  have hx1 : Reps D (β ++ [⟨w.heap.size, fun _ => none⟩]) x u1 := ⟨hx.1, fun j c v hc hv => (hx.2 j c v hc hv).mono (fun _ _ h => h) ext_snoc⟩
  have hy1 : Reps D (β ++ [⟨w.heap.size, fun _ => none⟩]) y u2 := ⟨hy.1, fun j c v hc hv => (hy.2 j c v hc hv).mono (fun _ _ h => h) ext_snoc⟩
  generalize hβ1 : β ++ [(⟨w.heap.size, fun _ => none⟩ : Bi)] = β1 at *
  have hlen : β1.length = s.objs.length + 1 := by have := h1'.heap.len; simpa using this
  have hbl : (β1 ++ [⟨w.heap.size + 1, fun _ => none⟩])[s.objs.length + 1]? = some (⟨w.heap.size + 1, fun _ => none⟩ : Bi) := by rw [← hlen]; simp
  have hargs : Reps D (β1 ++ [⟨w.heap.size + 1, fun _ => none⟩]) (x ++ [.yl (s.objs.length + 1)] ++ y) (u1 ++ #[.func (.yield (w.heap.size + 1)) #[] #[]] ++ u2) := by
    refine reps_append (reps_append ⟨hx1.1, fun j c v hc hv => (hx1.2 j c v hc hv).mono (fun _ _ h => h) ext_snoc⟩ ⟨rfl, fun j c v hc hv => ?_⟩) ⟨hy1.1, fun j c v hc hv => (hy1.2 j c v hc hv).mono (fun _ _ h => h) ext_snoc⟩
    match j with
    | 0 => simp at hc hv; subst hc hv; exact .yl (bi := ⟨w.heap.size + 1, fun _ => none⟩) hbl
    | j + 1 => simp at hc
  refine ⟨w.heap.size + 1, _, _, { target := .fn (.func g) u2, args := u1 ++ #[.func (.yield (w.heap.size + 1)) #[] #[]] }, ((w.alloc (.deferred (some []))).alloc (.loop { state := .ready, pending := none, fn, tmps := a.tmps, params := ps, assign, body, defers := w.heap.size })), g, u1 ++ #[.func (.yield (w.heap.size + 1)) #[] #[]] ++ u2, ((w.alloc (.deferred (some []))).alloc (.loop { state := .ready, pending := none, fn, tmps := a.tmps, params := ps, assign, body, defers := w.heap.size })), run_enterLoop_outer fn a.tmps ps assign body, ?_, fun _ _ => trivial, ?_, fun h => by simp at h, ?_⟩
  · have e1 : (#[Operand.const (.func (.yield (w.heap.size + 1)) #[] #[])] : Array Operand).map a.eval = #[.func (.yield (w.heap.size + 1)) #[] #[]] := by simp [Act.eval]
    show (Deferred.ofValue (a.eval f) ((#[Operand.const (.func (.yield (w.heap.size + 1)) #[] #[])] : Array Operand).map a.eval)).run P _ = _
    rw [e1, hfv]
    rfl
  · exact hA.1 _ _
  · refine CallsIn.mono (F := FW none) (n := 0) (hA.2 D _ _ _ hp1.heap hargs) (fun en w3 he => ?_)
    obtain ⟨o, r, ⟨hG, hpan⟩, he⟩ := he
    obtain ⟨v, D', β', rfl, hs, hv⟩ := he.ret hpan
    obtain ⟨tm', nt', frz', ps', as', bd', st, ho, hst, hk⟩ := k o r hG
    obtain ⟨y', hy', he'⟩ := hs.bext _ _ hbl
    obtain ⟨lp, g1, g2, g3, _, _, _, _, g8⟩ := loop_set hs.heap hy' ho
    rw [show y'.blk = w.heap.size + 1 from he'.1] at g1 g8
    have hend := run_endLoop (P := P) g1 (by rw [g2]; exact hst)
    rw [g3] at hend
    refine ⟨none, _, hend, ?_⟩
    have all := ((h1'.trans hp1).trans hs).trans (g8 .exhausted none)
    refine (hK _ _ hk).1 _ _ rfl ⟨D', β', all, ?_, ?_⟩
    · exact (h2'.mono (fun _ _ h => h) ext_snoc).mono hs.dsub hs.bext
    · exact (hdl.mono (fun _ _ h => h) ext_snoc).mono hs.dsub hs.bext
end
theorem vec_freeze {D : DMap} {β : List Bi} {objs : List Ob} {w : World} (h : Heap D β objs w) {i sz n : Nat} {T : TypeId} {ag : Bool} {bi : Bi} {ds : List DV} (hb : β[i]? = some bi) (ho : objs[i]? = some (.vec T ag sz n (ds.map .d))) :
    Step D β objs w (boxD D bi.blk (n * sz) w) β (objs.set i .gone) w ∧ ∀ es u, flatD es = ds → es.length = n → (∀ e, e ∈ es → (cellsD e).length = sz) → RepA D β (.vs i sz 0 n) u → RepA (boxD D bi.blk (n * sz) w) β (.d (.sl sz es)) u := by
  obtain ⟨a, cap, k1, k2, k3, k4, k5, k6⟩ := h.hold i bi _ hb ho
  have hmul : n * sz ≤ cap * sz := Nat.mul_le_mul_right _ k2
  have cell : ∀ ad : Addr, ad.block = bi.blk → ad.spot = none → ad.off < n * sz → a = some ⟨bi.blk, 0, none⟩ ∧ D ad = none ∧ ∃ v, w.cell? ad = some v ∧ v.oneCell' = true ∧ ∀ c, ds[ad.off]? = some c → RepA D β (.d c) v := by
    rintro ⟨b, o, sp⟩ h1 h2 h3
    simp only at h1 h2 h3
    subst h1 h2
    cases a with
    | none => have := k5 rfl; subst this; omega
    | some ad0 =>
      obtain ⟨rfl, vs, T, ⟨g1, _⟩, g2, g3, g4, g5⟩ := k6 _ rfl
      have hlt : o < vs.size := by omega
      refine ⟨rfl, g5 _ rfl, vs[o], ?_, g4 o _ (by simp [hlt]), fun c hc => g3 o (.d c) _ (by simp [hc]) (by simp [hlt])⟩
      rw [cell_of_blk g1]; simp [hlt]
  have sub : ∀ ad v, D ad = some v → boxD D bi.blk (n * sz) w ad = some v := fun ad v hd => by
    unfold boxD
    rw [if_neg (fun hv => by rw [(cell ad hv.1 hv.2.1 hv.2.2).2.1] at hd; cases hd)]; exact hd
  have new : ∀ ad v, boxD D bi.blk (n * sz) w ad = some v → D ad = none → (ad.block = bi.blk ∧ ad.spot = none ∧ ad.off < n * sz) ∧ w.cell? ad = some v := fun ad v h1 h2 => by
    unfold boxD at h1
    split at h1
    · rename_i hv; exact ⟨hv, h1⟩
    · rw [h2] at h1; cases h1
  have own : ∀ ad : Addr, (ad.block = bi.blk ∧ ad.spot = none ∧ ad.off < n * sz) → ownOf bi (.vec T ag sz n (ds.map .d)) = some ad.block := fun ad hv => by
    obtain ⟨rfl, _⟩ := cell ad hv.1 hv.2.1 hv.2.2
    rw [hv.1]
    simp [ownOf, k1]
  have get : ∀ (j : Nat) o, (objs.set i .gone)[j]? = some o → (j = i ∧ o = .gone) ∨ (j ≠ i ∧ objs[j]? = some o) := fun j o hj => by
    by_cases hij : i = j
    · subst hij
      rw [List.getElem?_set_self (List.getElem?_eq_some_iff.1 ho).1] at hj
      cases hj; exact .inl ⟨rfl, rfl⟩
    · rw [List.getElem?_set_ne hij] at hj; exact .inr ⟨fun e => hij e.symm, hj⟩
  refine ⟨⟨sub, fun ad v h1 h2 => .inl ⟨i, bi, _, hb, ho, own ad (new ad v h1 h2).1⟩, fun i x hx => ⟨x, hx, BiExt.refl x⟩, ⟨fun ad v hv => ?_, by simp [h.len], fun j bj o h1 h2 => ?_, fun j k bj bk oj ok b h1 h2 h3 h4 h5 h6 => ?_⟩,
    Nat.le_refl _, fun _ _ _ => rfl, rfl, rfl, ⟨rfl, Nat.le_refl _⟩, ?_⟩, fun es u he1 he2 he3 hu => ?_⟩
  · cases h0 : D ad with
    | some u =>
      have := sub ad u h0
      rw [this] at hv; cases hv
      exact h.dh ad _ h0
    | none =>
      obtain ⟨⟨e1, e2, e3⟩, hv2⟩ := new ad v hv h0
      obtain ⟨_, _, u, q1, q2, _⟩ := cell ad e1 e2 e3
      rw [q1] at hv2; cases hv2
      exact ⟨e2, q2, q1⟩
  · rcases get j o h2 with ⟨rfl, rfl⟩ | ⟨hne, h2⟩
    · trivial
    · refine (h.hold j bj o h1 h2).mono sub (fun i x hx => ⟨x, hx, BiExt.refl x⟩) (fun ad v h3 h4 h5 => ?_) (fun b _ => rfl)
      exact hne (h.disj j i bj bi o _ ad.block h1 hb h2 ho h5 (own ad (new ad v h3 h4).1))
  · rcases get j oj h3 with ⟨rfl, rfl⟩ | ⟨_, h3⟩
    · cases h5
    · rcases get k ok h4 with ⟨rfl, rfl⟩ | ⟨_, h4⟩
      · cases h6
      · exact h.disj j k bj bk oj ok b h1 h2 h3 h4 h5 h6
  · rintro b ⟨j, bj, oj, h1, h2, h3⟩
    rcases get j oj h2 with ⟨rfl, rfl⟩ | ⟨_, h2⟩
    · cases h3
    · exact .inl ⟨j, bj, oj, h1, h2, h3⟩
  · subst he1
    cases hu with
    | @vs _ _ _ _ cap' c' bi' a2 ad hb' hh hlc hmc hnn hx =>
      rw [hb] at hb'; cases hb'
      rw [k1] at hh; cases hh
      obtain ⟨rfl, hcap⟩ := hx (.inl rfl)
      have hfl : (flatD es).length = n * sz := by rw [flat_length he3, he2]
      subst he2
      refine .d (.sl ((List.range (es.length * sz)).map fun j => (w.cell? ⟨bi.blk, j, none⟩).getD undef) hlc hmc he3 (fun hn => ?_) (by simp [hfl]) (fun ad had => ?_) (fun j c v hc hv => ?_))
      · have := hnn.2.1 hn
        exact ⟨List.length_eq_zero_iff.1 (by omega), this⟩
      · cases a with
        | none => cases had
        | some a0 =>
          simp only [Option.map_some, Option.some.injEq] at had
          subst had
          refine ⟨.inr rfl, fun j v hv => ?_⟩
          have hj : j < es.length * sz := by have := (List.getElem?_eq_some_iff.1 hv).1; simpa using this
          simp only [List.getElem?_map, List.getElem?_range hj, Option.map_some, Option.some.injEq] at hv
          obtain ⟨_, _, u, q1, _⟩ := cell ⟨bi.blk, j, none⟩ rfl rfl hj
          rw [q1] at hv
          simp only [Option.getD_some] at hv
          subst hv
          unfold boxD
          rw [Nat.zero_mul, Nat.zero_add, if_pos ⟨rfl, rfl, hj⟩]; exact q1
      · have hj : j < es.length * sz := by have := (List.getElem?_eq_some_iff.1 hv).1; simpa using this
        simp only [List.getElem?_map, List.getElem?_range hj, Option.map_some, Option.some.injEq] at hv
        obtain ⟨_, _, u, q1, _, q3⟩ := cell ⟨bi.blk, j, none⟩ rfl rfl hj
        rw [q1] at hv
        simp only [Option.getD_some] at hv
        subst hv
        have := q3 c hc
        cases this with
        | d this => exact this.mono sub
section
variable {P : Program} {nt m : Nat} {ro' : Option Nat} {K : Ex → S → Prop} {c : Code} {tm tm' : PT AV} {objs objs' : List Ob} {dl : List Dl}
theorem Run.freezeVec (i : Nat) {sz n : Nat} {T : TypeId} {ag : Bool} {es : List DV} (h : Run P nt m ro' c ⟨tm', objs.set i .gone, dl⟩ K) (hi : objs[i]? = some (.vec T ag sz n ((flatD es).map .d))) (hl : es.length = n) (hc : ∀ e, e ∈ es → (cellsD e).length = sz)
    (ht : ∀ t v, tm'.get? t = some v → tm.get? t = some v ∨ (tm.get? t = some (.vs i sz 0 n) ∧ v = .d (.sl sz es))) : Run P nt m ro' c ⟨tm, objs, dl⟩ K := by
  intro D0 β0 o0 w0 hb0 ro Q a w hro hK hs
  obtain ⟨D, β, h1, h2, h3⟩ := hs
  obtain ⟨bi, hb⟩ := obj_bi h1.heap hi
  obtain ⟨st, hr⟩ := vec_freeze h1.heap hb hi
  refine h D0 β0 o0 w0 hb0 ro Q a w hro hK ⟨_, β, h1.trans st, ⟨h2.1, fun t => ?_⟩, h3.mono st.dsub st.bext⟩
  cases hv : tm'.get? t with
  | none => exact .d .any
  | some v =>
    rcases ht t v hv with e | ⟨e, rfl⟩
    · have := h2.2 t
      simp only at this
      rw [e] at this
      exact st.repA this
    · have := h2.2 t
      simp only at this
      rw [e] at this
      exact hr es _ rfl hl hc this
end
end Go.Av
end

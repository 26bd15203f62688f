/-
  The abstract layer, part K: soundness of the evaluator's operations, last part: conversions, function values, maps.
-/
import Derived.Test.YtkehiddekhlfaaaJB
import Derived.Laws.BytesString
noncomputable section
namespace Go.Av
open Go

section
variable {P : Program} {E : PT Ty} {D : DMap} {β : List Bi} {objs : List Ob} {w : World}

theorem makeFunc_ok (hp : Heap D β objs w) (f : Fn) {first cap : List AV} {a b : Array Value} (h1 : a.size = first.length) (h2 : b.size = cap.length)
    (r1 : ∀ (j : Nat) c v, first[j]? = some c → a[j]? = some v → RepA D β c v) (r2 : ∀ (j : Nat) c v, cap[j]? = some c → b[j]? = some v → RepA D β c v) :
    ValOK P D β objs w (Instr.makeFunc f a b) (funcR f first cap objs) := by
  unfold funcR
  split
  · rename_i x y hx hy
    have e1 := allD_some hx
    have e2 := allD_some hy
    subst e1 e2
    refine .pure hp (fun _ => ⟨_, rfl, .d (.fn (by simpa using h1) (by simpa using h2) (fun j c v hc hv => ?_) (fun j c v hc hv => ?_))⟩)
    · have := r1 j (.d c) v (by simp [hc]) hv
      cases this with | d h => exact h
    · have := r2 j (.d c) v (by simp [hc]) hv
      cases this with | d h => exact h
  · exact .pure hp (fun _ => ⟨_, rfl, .fn h1 h2 r1 r2⟩)

theorem conv_int_ok (hE : TyOK P E) (hp : Heap D β objs w) (src dst : TypeId) {x : AV} {v : Value} (hx : RepA D β x v) (hns : ∀ ys e, E.get? src = some ys → ys.desc ≠ .slice e) :
    ValOK P D β objs w (convert src dst v) (convR E src dst x objs) := by
  unfold convR
  split
  · rename_i ys yd hs hd
    have us := (hE src _ hs).und
    have ud := (hE dst _ hd).und
    split
    · rename_i k0 k k' n e1 e2
      rw [e1] at us
      rw [e2] at ud
      cases hx with
      | d hx =>
        cases hx
        exact .pure hp (fun _ => ⟨_, by simp [convert, run_underlying us, run_underlying ud, Conv.intToInt], .d .int⟩)
    · rename_i s e1 e2
      rw [e1] at us
      rw [e2] at ud
      cases hx with
      | d hx =>
        cases hx with
        | str h => exact .pure hp (fun _ => ⟨_, by simp [convert, run_underlying us, run_underlying ud], .d (.str h)⟩)
    · rename_i e1 e2
      exact absurd e1 (hns ys _ hs)
    · exact .none
  · exact .none

/-- The bytes of a row of bytes, as numbers. -/
theorem bytesD_ok : ∀ {es : List DV} {s : List Nat}, convR.bytesD es = some s → ∃ ns : List Int, es = ns.map (.int .u8) ∧ s = ns.map fun n => n.toNat % 256
  | [], s, h => by simp only [convR.bytesD, Option.some.injEq] at h; subst h; exact ⟨[], rfl, rfl⟩
  | .int k n :: r, s, h => by
    cases k <;> simp only [convR.bytesD] at h <;> first | (cases h; done) | skip
    cases hr : convR.bytesD r with
    | none => rw [hr] at h; cases h
    | some t =>
      rw [hr] at h
      simp only [Option.map_some, Option.some.injEq] at h
      subst h
      obtain ⟨ns, h1, h2⟩ := bytesD_ok hr
      exact ⟨n :: ns, by simp [h1], by simp [h2]⟩
  | .any :: _, _, h => by cases h
  | .bool _ :: _, _, h => by cases h
  | .str _ :: _, _, h => by cases h
  | .nilptr :: _, _, h => by cases h
  | .nilfunc :: _, _, h => by cases h
  | .nilmap :: _, _, h => by cases h
  | .niliface :: _, _, h => by cases h
  | .nilsl :: _, _, h => by cases h
  | .sl _ _ :: _, _, h => by cases h
  | .ep _ :: _, _, h => by cases h
  | .fn _ _ _ :: _, _, h => by cases h
  | .agg _ :: _, _, h => by cases h
  | .iface _ _ :: _, _, h => by cases h

theorem push_bytes : ∀ (ns : List Int) (r : ByteArray), ((ns.foldl (fun r n => r.push (UInt8.ofNat n.toNat)) r).data.toList.map UInt8.toNat) = r.data.toList.map UInt8.toNat ++ ns.map fun n => n.toNat % 256
  | [], r => by simp
  | n :: ns, r => by
    rw [List.foldl_cons, push_bytes ns]
    simp [ByteArray.push]

theorem flatD_ints (ns : List Int) : flatD (ns.map (.int .u8)) = ns.map (.int .u8) := by
  induction ns with
  | nil => rfl
  | cons n ns ih => simp only [List.map_cons]; unfold flatD at ih ⊢; rw [List.flatMap_cons, ih]; rfl

theorem bytes_run (hp : Heap D β objs w) {sz : Nat} {es : List DV} {a : Option Addr} {cap : Nat} (h : RepD D (.sl sz es) (.slice a es.length cap)) {s : List Nat} (hs : convR.bytesD es = some s) :
    ∃ b : ByteArray, (Conv.bytesToString (.slice a es.length cap)).run P w = .ok (.string b) w ∧ s = b.data.toList.map UInt8.toNat := by
  obtain ⟨ns, rfl, rfl⟩ := bytesD_ok hs
  obtain ⟨vs, d1, d2, d3, d4, d5⟩ := sl_src (P := P) hp h
  rw [flatD_ints] at d1
  have hvs : vs = ns.map (Value.int .u8) := by
    apply List.ext_getElem?
    intro j
    have hl := d1.1
    cases hn : ns[j]? with
    | none =>
      have : ns.length ≤ j := by rw [List.getElem?_eq_none_iff] at hn; exact hn
      rw [List.getElem?_eq_none (by simp at hl; omega), List.getElem?_eq_none (by simpa using this)]
    | some n =>
      have hj : j < vs.length := by have := (List.getElem?_eq_some_iff.1 hn).1; simp at hl; omega
      have := d1.2.2 j (.int .u8 n) vs[j] (by simp [hn]) (by simp)
      rw [List.getElem?_eq_getElem hj, List.getElem?_map, hn]
      generalize vs[j] = u at this
      cases this; rfl
  cases a with
  | none =>
    have h0 : ns = [] := by
      cases h with
      | sl _ _ _ _ g4 _ _ _ => simpa using (g4 rfl).1
    subst h0
    exact ⟨.empty, by simp [Conv.bytesToString], rfl⟩
  | some ad =>
    have hrun : (loadCells ad (ns.map (DV.int IntKind.u8)).length).run P w = .ok (ns.map (Value.int .u8)).toArray w := by
      have hsz : (ns.map (DV.int IntKind.u8)) = [] ∨ 1 = sz := by
        cases ns with
        | nil => exact .inl rfl
        | cons n r => exact .inr (by simpa [cellsD] using d2 (.int .u8 n) (by simp))
      have := d4 1 hsz w rfl _ (Nat.le_refl _)
      simp only [Builtin.firstCells, Nat.mul_one] at this
      rw [this, List.take_of_length_le (by rw [d1.1]; exact Nat.le_refl _), hvs]
    refine ⟨_, run_bytesToString w ad _ cap ns hrun, ?_⟩
    rw [push_bytes]; rfl

theorem bytes_ok (hE : TyOK P E) (hp : Heap D β objs w) (src dst : TypeId) {x : AV} {v : Value} (hx : RepA D β x v) : ValOK P D β objs w (convert src dst v) (bytesR E src dst x objs) := by
  unfold bytesR
  split
  · rename_i e _ _ _ _ _ _ hs hd
    have us := (hE src _ hs).und
    have ud := (hE dst _ hd).und
    simp only at us ud
    split
    · rename_i he
      have ue := (hE e _ he).und
      simp only at ue
      have run : ∀ a l c, (convert src dst (.slice a l c)).run P w = (Conv.bytesToString (.slice a l c)).run P w := fun a l c => run_convert_bytes_string w src dst e a l c us ue ud
      have go : ∀ {sz : Nat} {es : List DV} {a : Option Addr} {cap : Nat}, RepD D (.sl sz es) (.slice a es.length cap) → ValOK P D β objs w (convert src dst (.slice a es.length cap)) ((convR.bytesD es).map fun s => (.d (.str s), objs, true)) := by
        intro sz es a cap h av o c hev _
        cases hs : convR.bytesD es with
        | none => rw [hs] at hev; cases hev
        | some s =>
          rw [hs] at hev
          simp only [Option.map_some, Option.some.injEq, Prod.mk.injEq] at hev
          obtain ⟨rfl, rfl, rfl⟩ := hev
          obtain ⟨b, h1, h2⟩ := bytes_run (P := P) hp h hs
          exact ⟨_, w, D, β, by rw [run]; exact h1, Step.refl hp, .d (.str h2)⟩
      split
      · cases hx with
        | d hx =>
          cases hx
          exact .pure hp (fun _ => ⟨.string .empty, by rw [run]; rfl, .d (.str (b := .empty) rfl)⟩)
      · cases hx with
        | d hx => cases hx with
          | sl vs g1 g2 g3 g4 g5 g6 g7 => exact go (.sl vs g1 g2 g3 g4 g5 g6 g7)
      · cases hx with
        | sr _ _ hd => exact go hd
      · exact .none
    · exact .none
  · rename_i _ _ _ e _ _ _ hs hd
    have us := (hE src _ hs).und
    have ud := (hE dst _ hd).und
    simp only at us ud
    split
    · rename_i he
      have ue := (hE e _ he).und
      simp only at ue
      split
      · rename_i s
        cases hx with
        | d hx =>
          cases hx with
          | @str _ b hb =>
            intro av o c hev hc
            simp only [Option.some.injEq, Prod.mk.injEq] at hev
            obtain ⟨rfl, rfl, rfl⟩ := hev
            have hn := Nat.le_of_ble_eq_true hc
            have hbl : b.data.toList.length = s.length := by rw [hb]; simp
            have hbs : b.size = s.length := by rw [← hbl]; rfl
            let cap := (Question.appendCap b.size 0 e).cut (w.tape w.drawn (.appendCap b.size 0 e))
            have c1 : b.size ≤ cap := by simp [cap, Question.cut]
            have c2 : cap ≤ maxLen := by
              simp only [cap, Question.cut, maxLen]
              have : w.tape w.drawn (.appendCap b.size 0 e) % (2 ^ 63 - b.size) < 2 ^ 63 - b.size := Nat.mod_lt _ (by omega)
              omega
            obtain ⟨arr, harr⟩ : ∃ arr : Array Value, arr = (b.data.map fun x => Value.int .u8 x.toNat) ++ Array.replicate (cap - b.size) (.int .u8 0) := ⟨_, rfl⟩
            obtain ⟨w1, hw1⟩ : ∃ w1 : World, w1 = w.drew.alloc (.cells arr e) := ⟨_, rfl⟩
            have hfo : Question.forced (.appendCap b.size 0 e) = false := rfl
            have hch : (choose (.appendCap b.size 0 e)).run P w = .ok cap w.drew := by
              rw [run_choose_drew]; simp [hfo, cap]
            have hnew : w1.heap[w.heap.size]? = some (.cells arr e (0, 0)) := by rw [hw1]; exact alloc_new w.drew _
            have hrow : (newRow e arr).run P w.drew = .ok ⟨w.heap.size, 0, none⟩ w1 := by rw [hw1]; simp [newRow]
            have hsh : w1.shape? w.heap.size = some (e, arr.size) := by simp [World.shape?, hnew]
            have hrun : (convert src dst (.string b)).run P w = .ok (.slice (some ⟨w.heap.size, 0, none⟩) b.size cap) (w1.freeze ⟨w.heap.size, arr.size, none⟩ 1) := by
              simp only [convert, Sem.run_bind, run_underlying us, run_underlying ud, Result.andThen_ok, run_underlying ue, Conv.stringToBytes, hch, ← harr, hrow, markStringish, run_shape, hsh]
              rfl
            have hlt : w.heap.size < w1.heap.size := lt_of_getElem? hnew
            have hfz : ∀ k, k < w.heap.size → (w1.freeze ⟨w.heap.size, arr.size, none⟩ 1).heap[k]? = w.heap[k]? := by
              intro k hk
              have : (w1.freeze ⟨w.heap.size, arr.size, none⟩ 1).heap[k]? = w1.heap[k]? := by
                simp only [World.freeze, if_neg (show ¬ (1 : Nat) = 0 by decide)]
                rw [Array.getElem?_modify]
                rw [if_neg (by omega)]
              rw [this, hw1]; exact alloc_keep w.drew _ k hk
            have hfb : ∃ f, (w1.freeze ⟨w.heap.size, arr.size, none⟩ 1).heap[w.heap.size]? = some (.cells arr e f) := by
              simp only [World.freeze, if_neg (show ¬ (1 : Nat) = 0 by decide)]
              rw [Array.getElem?_modify, if_pos rfl, hnew]
              exact ⟨_, rfl⟩
            obtain ⟨f, hfb⟩ := hfb
            have hD1 : ∀ ad v, extD D w.heap.size (b.data.toList.map fun x => Value.int .u8 x.toNat) ad = some v → D ad = none → ad.block = w.heap.size ∧ ad.spot = none ∧ arr[ad.off]? = some v ∧ ∃ x : UInt8, v = .int .u8 x.toNat := by
              intro ad v h1 h2
              obtain ⟨e1, e2, e3⟩ := extD_inv h1 h2
              refine ⟨e1, e2, ?_, ?_⟩
              · rw [harr, Array.getElem?_append_left (by have := (List.getElem?_eq_some_iff.1 e3).1; simpa using this)]
                rw [← Array.getElem?_toList, Array.toList_map]; exact e3
              · simp only [List.getElem?_map, Option.map_eq_some_iff] at e3
                obtain ⟨x, _, rfl⟩ := e3
                exact ⟨x, rfl⟩
            have hst : Step D β objs w (extD D w.heap.size (b.data.toList.map fun x => Value.int .u8 x.toNat)) β objs (w1.freeze ⟨w.heap.size, arr.size, none⟩ 1) := by
              refine Step.ext hp hfz ?_ ?_ ?_ ?_ (fun ad v hd => extD_old (fun ad v hd => hp.D_lt hd) hd) (fun ad v h1 h2 => ?_)
              · simp only [World.freeze, if_neg (show ¬ (1 : Nat) = 0 by decide), Array.size_modify]; omega
              · rw [World.freeze, if_neg (by decide), hw1]; rfl
              · rw [World.freeze, if_neg (by decide), hw1]; rfl
              · rw [World.freeze, if_neg (by decide), hw1]; rfl
              · obtain ⟨e1, e2, e3, x, rfl⟩ := hD1 ad v h1 h2
                refine ⟨by omega, e2, rfl, ?_⟩
                obtain ⟨bb, o, sp⟩ := ad
                simp only at e1 e2 e3
                subst e1 e2
                rw [cell_of_blk hfb]; exact e3
            refine ⟨_, _, _, β, hrun, hst, .d ?_⟩
            have hes : (s.map fun n => DV.int .u8 (n : Nat)) = (s.map fun n : Nat => (n : Int)).map (.int .u8) := by simp
            have := sl_of (D := extD D w.heap.size (b.data.toList.map fun x => Value.int .u8 x.toNat)) (b := w.heap.size) (off := 0) (cap := cap) (es := s.map fun n => DV.int .u8 (n : Nat)) (sz := 1)
              (vs := b.data.toList.map fun x => Value.int .u8 x.toNat) (fun e he => by
                simp only [List.mem_map] at he
                obtain ⟨n, _, rfl⟩ := he
                rfl) (by simp; omega) c2 ⟨by rw [hes, flatD_ints]; simp [hb], fun j v hv => by
                simp only [List.getElem?_map, Option.map_eq_some_iff] at hv
                obtain ⟨x, _, rfl⟩ := hv
                rfl, fun j c v hc hv => by
                rw [hes, flatD_ints, hb] at hc
                simp only [List.getElem?_map, Option.map_eq_some_iff] at hv hc
                obtain ⟨x, hx, rfl⟩ := hv
                obtain ⟨y, ⟨z, ⟨x', hx', rfl⟩, rfl⟩, rfl⟩ := hc
                rw [hx] at hx'; cases hx'
                exact .int⟩ (fun j v hv => by rw [Nat.zero_add]; exact extD_new hv)
            simp only [List.length_map] at this
            rw [hbs]
            exact this
      · exact .none
    · exact .none
  · exact .none

theorem mkIface_ok (hE : TyOK P E) (hp : Heap D β objs w) (t : TypeId) {x : AV} {v : Value} (hx : RepA D β x v) : ValOK P D β objs w (Instr.makeInterface t v) (mkIfaceR E t x objs) := by
  unfold mkIfaceR
  split
  · rename_i y hy
    have hu := (hE t y hy).und
    have run : isIface y.desc = false → (Instr.makeInterface t v).run P w = .ok (.iface t v) w := by
      intro hi
      simp only [Instr.makeInterface, Sem.run_bind, run_underlying hu, Result.andThen_ok]
      split
      · rename_i hd; rw [hd] at hi; cases hi
      · rfl
    split
    · rename_i hi
      cases hx with
      | d hx => exact .pure hp (fun _ => ⟨_, run hi, .d (.iface hx)⟩)
    · rename_i hi
      cases hx with
      | sr _ _ hx => exact .pure hp (fun _ => ⟨_, run hi, .d (.iface hx)⟩)
    · exact .none
  · exact .none

theorem min_fold {k : IntKind} : ∀ (args : List AV) (vs : List Value) (a n : Int), minL k a args = some n → args.length = vs.length → (∀ (j : Nat) c v, args[j]? = some c → vs[j]? = some v → RepA D β c v) →
    (vs.foldlM Builtin.min2 (.int k a)).run P w = .ok (.int k n) w
  | [], [], a, n, h, _, _ => by simp [minL] at h; subst h; rfl
  | [], _ :: _, _, _, _, hl, _ => by simp at hl
  | _ :: _, [], _, _, _, hl, _ => by simp at hl
  | c :: args, v :: vs, a, n, h, hl, hr => by
    have h0 := hr 0 c v rfl rfl
    cases c with
    | d x =>
      cases x with
      | int k' b =>
        simp only [minL] at h
        split at h
        · rename_i hk
          have := kindB_eq hk
          subst this
          cases h0 with
          | d h0 =>
            cases h0
            have ih := min_fold args vs _ n h (by simpa using hl) (fun j c v hc hv => hr (j + 1) c v (by simpa using hc) (by simpa using hv))
            simp only [List.foldlM_cons, Sem.run_bind, Builtin.min2, Sem.run_pure, Result.andThen_ok]
            exact ih
        · cases h
      | _ => simp [minL] at h
    | _ => simp [minL] at h
theorem max_fold {k : IntKind} : ∀ (args : List AV) (vs : List Value) (a n : Int), maxL k a args = some n → args.length = vs.length → (∀ (j : Nat) c v, args[j]? = some c → vs[j]? = some v → RepA D β c v) →
    (vs.foldlM Builtin.max2 (.int k a)).run P w = .ok (.int k n) w
  | [], [], a, n, h, _, _ => by simp [maxL] at h; subst h; rfl
  | [], _ :: _, _, _, _, hl, _ => by simp at hl
  | _ :: _, [], _, _, _, hl, _ => by simp at hl
  | c :: args, v :: vs, a, n, h, hl, hr => by
    have h0 := hr 0 c v rfl rfl
    cases c with
    | d x =>
      cases x with
      | int k' b =>
        simp only [maxL] at h
        split at h
        · rename_i hk
          have := kindB_eq hk
          subst this
          cases h0 with
          | d h0 =>
            cases h0
            have ih := max_fold args vs _ n h (by simpa using hl) (fun j c v hc hv => hr (j + 1) c v (by simpa using hc) (by simpa using hv))
            simp only [List.foldlM_cons, Sem.run_bind, Builtin.max2, Sem.run_pure, Result.andThen_ok]
            exact ih
        · cases h
      | _ => simp [maxL] at h
    | _ => simp [maxL] at h

/-! ### Maps -/
theorem makeMap_ok (hp : Heap D β objs w) (t : TypeId) : ValOK P D β objs w (Instr.makeMap t none) (makeMapR objs) := by
  intro av o c he _
  simp only [makeMapR, pureR, Option.some.injEq, Prod.mk.injEq] at he
  obtain ⟨rfl, rfl, rfl⟩ := he
  refine ⟨_, w.alloc (.map #[] 0), D, β ++ [⟨w.heap.size, fun _ => none⟩], by simp [Instr.makeMap], ?_, .mp (bi := ⟨w.heap.size, fun _ => none⟩) (by rw [← hp.len]; simp)⟩
  refine Step.push hp (fun k hk => alloc_keep w _ k hk) (by simp) rfl rfl rfl (fun _ _ h => h) (fun ad v h0 h2 => by rw [h2] at h0; cases h0) (fun b hb => by simp [ownOf] at hb; omega) ?_
  refine ⟨#[], 0, alloc_new w _, rfl, by simp, fun ad ha => ?_, rfl, by simp⟩
  cases hd : D ad with
  | none => rfl
  | some v => have := hp.D_lt hd; simp only at ha; omega

/-- Two plain keys: what the evaluator says of them, the model says. -/
theorem sameNow_ok {kt : TypeDesc} {a b : DV} {u v : Value} {r : Bool} (ha : RepD D a u) (hb : RepD D b v) (he : eqCell a b = some r)
    (hk : (∃ k k' n, kt = .int k ∧ a = .int k' n) ∨ (kt = .string ∧ ∃ s, a = .str s) ∨ (kt = .bool ∧ ∃ x, a = .bool x)) : Instr.sameNow kt u v = some r := by
  rcases hk with ⟨k, k', n, rfl, rfl⟩ | ⟨rfl, s, rfl⟩ | ⟨rfl, x, rfl⟩
  · cases b <;> simp only [eqCell, reduceCtorEq] at he
    split at he
    · rename_i hkk
      have := kindB_eq hkk
      subst this
      cases ha; cases hb
      simp only [Option.some.injEq] at he
      simp [Instr.sameNow, he]
    · cases he
  · cases b <;> simp only [eqCell, reduceCtorEq, Option.some.injEq] at he
    cases ha with
    | str h1 =>
      cases hb with
      | @str _ bb h2 =>
        subst he
        rw [h1, h2, beq_bytes]
        simp only [Instr.sameNow]
        rw [beq_toListBytes, ByteArray.toList_eq, ByteArray.toList_eq]
  · cases b <;> simp only [eqCell, reduceCtorEq, Option.some.injEq] at he
    cases ha; cases hb
    subst he
    rfl

theorem findNow_ok {kt : TypeDesc} {k : DV} {u : Value} (hk : RepD D k u) (hkt : (∃ i i' n, kt = .int i ∧ k = .int i' n) ∨ (kt = .string ∧ ∃ s, k = .str s) ∨ (kt = .bool ∧ ∃ x, k = .bool x)) :
    ∀ (kvs : List (DV × DV)) (es : List MapEntry) (i : Nat) (r : Option (Nat × DV)), findKV eqCell k kvs = some r → kvs.length = es.length → (∀ (j : Nat) p e, kvs[j]? = some p → es[j]? = some e → pairD D p e) →
      ∃ r', Instr.findNow kt u es i = some r' ∧ match r with
        | none => r' = none
        | some (j, d) => ∃ v, r' = some (i + j, v) ∧ RepD D d v ∧ (∃ p, kvs[j]? = some p ∧ eqCell k p.1 = some true)
  | [], [], i, r, h, _, _ => by simp [findKV] at h; subst h; exact ⟨none, rfl, rfl⟩
  | [], _ :: _, _, _, _, hl, _ => by simp at hl
  | _ :: _, [], _, _, _, hl, _ => by simp at hl
  | (k', d) :: kvs, e :: es, i, r, h, hl, hr => by
    obtain ⟨p1, p2⟩ := hr 0 (k', d) e rfl rfl
    simp only [findKV] at h
    cases he : eqCell k k' with
    | none => rw [he] at h; cases h
    | some b =>
      have hs := sameNow_ok hk p1 he hkt
      rw [he] at h
      cases b with
      | true =>
        simp only [Option.some.injEq] at h
        subst h
        exact ⟨some (i, e.val), by simp only [Instr.findNow, hs], e.val, by simp, p2, _, rfl, he⟩
      | false =>
        simp only [Option.map_eq_some_iff] at h
        obtain ⟨r0, h1, rfl⟩ := h
        obtain ⟨r', g1, g2⟩ := findNow_ok hk hkt kvs es (i + 1) r0 h1 (by simpa using hl) (fun j p e hp he => hr (j + 1) p e (by simpa using hp) (by simpa using he))
        refine ⟨r', by simp only [Instr.findNow, hs]; exact g1, ?_⟩
        cases r0 with
        | none => exact g2
        | some q =>
          obtain ⟨v, e1, e2, p, e3, e4⟩ := g2
          exact ⟨v, by rw [e1]; simp; omega, e2, p, by simpa using e3, e4⟩

theorem keyT_cases {kt : TypeId} {k : DV} (hE : TyOK P E) (h : keyT E kt k = true) : (∃ d, P.underlying kt = some d ∧
    ((∃ i i' n, d = .int i ∧ k = .int i' n) ∨ (d = .string ∧ ∃ s, k = .str s) ∨ (d = .bool ∧ ∃ x, k = .bool x))) ∨ (∃ xs r, k = .agg xs ∧ eqAgg E kt xs xs = some r ∧ ((∃ fs, P.underlying kt = some (.struct fs)) ∨ ∃ n e, P.underlying kt = some (.array n e))) := by
  unfold keyT at h
  split at h
  · rename_i fs _ _ _ xs hy
    split at h
    · rename_i r hr; exact .inr ⟨xs, r, rfl, hr, .inl ⟨_, (hE kt _ hy).und⟩⟩
    · cases h
  · rename_i n e _ _ _ xs hy
    split at h
    · rename_i r hr; exact .inr ⟨xs, r, rfl, hr, .inr ⟨_, _, (hE kt _ hy).und⟩⟩
    · cases h
  · rename_i hy; exact .inl ⟨_, (hE kt _ hy).und, .inl ⟨_, _, _, rfl, rfl⟩⟩
  · rename_i hy; exact .inl ⟨_, (hE kt _ hy).und, .inr (.inl ⟨rfl, _, rfl⟩)⟩
  · rename_i hy; exact .inl ⟨_, (hE kt _ hy).und, .inr (.inr ⟨rfl, _, rfl⟩)⟩
  · cases h

theorem checkKey_plain {kt : TypeId} {k : DV} {u : Value} {b : Bool} (hk : RepD D k u) {d : TypeDesc} (hu : P.underlying kt = some d)
    (hkt : (∃ i i' n, d = .int i ∧ k = .int i' n) ∨ (d = .string ∧ ∃ s, k = .str s) ∨ (d = .bool ∧ ∃ x, k = .bool x)) : (Instr.checkKey b 10000 kt u).run P w = .ok () w := by
  have key : ∀ n : Nat, (Instr.checkKey b (n + 1) kt u).run P w = .ok () w := by
    intro n
    rcases hkt with ⟨i, i', m, rfl, rfl⟩ | ⟨rfl, s, rfl⟩ | ⟨rfl, x, rfl⟩ <;> cases hk <;> simp only [Instr.checkKey, Sem.run_bind, run_underlying hu, Result.andThen_ok] <;> rfl
  exact key 9999

/-- A key that is a struct or an array goes through the check. -/
theorem checkKey_agg (hE : TyOK P E) (hS : PlainOK P E) (b : Bool) (d : Nat) : ∀ (n : Nat) (t : TypeId) (xs : List DV) (r : Bool) (v : Value), eqT E n t xs xs = some r → ValAt E D t xs v → (Instr.checkKey b (d + n) t v).run P w = .ok () w
  | 0, t, xs, r, v, h, _ => by cases h
  | n + 1, t, xs, r, v, h, ha => by
    obtain ⟨y, hy, ha⟩ := ha
    have hu := (hE t y hy).und
    have ih := checkKey_agg hE hS b d n
    obtain ⟨hst, _⟩ := hS t y hy
    unfold eqT at h
    rw [hy] at h
    obtain ⟨desc, sz, by_, z⟩ := y
    simp only at h hu ha hst
    have cell : isAggT desc = false → oneT desc xs xs = some r → (Instr.checkKey b (d + (n + 1)) t v).run P w = .ok () w := by
      intro hag h
      rw [hag] at ha
      obtain ⟨a, rfl, ha⟩ := ha
      simp only [oneT] at h
      split at h
      · cases ha; rw [show d + (n + 1) = (d + n) + 1 from rfl, Instr.checkKey]; simp only [Sem.run_bind, run_underlying hu, Result.andThen_ok]; rfl
      · cases ha; rw [show d + (n + 1) = (d + n) + 1 from rfl, Instr.checkKey]; simp only [Sem.run_bind, run_underlying hu, Result.andThen_ok]; rfl
      · cases ha; rw [show d + (n + 1) = (d + n) + 1 from rfl, Instr.checkKey]; simp only [Sem.run_bind, run_underlying hu, Result.andThen_ok]; rfl
      · cases h
    cases desc with
    | struct fs =>
      clear cell
      simp only [isAggT] at ha
      obtain ⟨us, rfl, a1, a2, a3⟩ := ha
      obtain ⟨_, hn⟩ := hst fs rfl
      rw [show d + (n + 1) = (d + n) + 1 from rfl, Instr.checkKey]
      simp only [Sem.run_bind, run_underlying hu, Result.andThen_ok]
      rw [← Array.forIn_toList]
      simp only at h
      generalize fs.toList = l at h hn
      induction l generalizing r with
      | nil => simp
      | cons f l ihl =>
        simp only [eqFs] at h
        split at h
        · rename_i p q hp' hq'
          rw [hp'] at hq'; cases hq'
          split at h
          · rename_i r1 r2 h1 h2
            obtain ⟨v1, g1, g2⟩ := part_at (w := w) hE a1 a2 a3 hp'
            have g5 := ih f.type p r1 v1 h1 g2
            have g6 := ihl r2 h2 (fun g hg => hn g (by simp [hg]))
            simp only [List.forIn_cons, Sem.run_bind, hn f (by simp), ne_eq, not_false_eq_true, if_true, Result.andThen_ok, g1, g5, Sem.run_pure]
            exact g6
          · cases h
        · cases h
    | array len e =>
      clear cell
      simp only [isAggT] at ha
      obtain ⟨us, rfl, a1, a2, a3⟩ := ha
      simp only at h
      split at h
      · rename_i ye hye
        rw [show d + (n + 1) = (d + n) + 1 from rfl, Instr.checkKey]
        simp only [Sem.run_bind, run_underlying hu, Result.andThen_ok]
        simp only [Std.Legacy.Range.forIn_eq_forIn_range', Std.Legacy.Range.size, Nat.sub_zero, Nat.add_one_sub_one, Nat.div_one]
        rw [List.range_eq_range'] at h
        generalize List.range' 0 len = l at h
        induction l generalizing r with
        | nil => simp
        | cons j l ihl =>
          simp only [eqIs] at h
          split at h
          · rename_i p q hp' hq'
            rw [hp'] at hq'; cases hq'
            split at h
            · rename_i r1 r2 h1 h2
              obtain ⟨v1, g1, g2⟩ := part_at (w := w) hE a1 a2 a3 hp'
              have g5 := ih e p r1 v1 h1 g2
              have g6 := ihl r2 h2
              simp only [List.forIn_cons, Sem.run_bind, run_sizeOf (hE e ye hye), Result.andThen_ok, g1, g5, Sem.run_pure]
              exact g6
            · cases h
          · cases h
      · cases h
    | _ => exact cell rfl h

theorem aggAt {t : TypeId} {xs ys : List DV} {r : Bool} (h : eqAgg E t xs ys = some r) {zs : List DV} {v : Value} (hr : RepD D (.agg zs) v) : eqT E 8 t xs ys = some r ∧ ValAt E D t zs v := by
  unfold eqAgg at h
  split at h
  · rename_i y hy
    split at h
    · rename_i ha
      refine ⟨h, y, hy, ?_⟩
      rw [ha]
      cases hr with
      | agg a b c => exact ⟨_, rfl, a, b, c⟩
    · cases h
  · cases h

theorem checkKey_ok (hE : TyOK P E) (hS : PlainOK P E) {kt : TypeId} {k : DV} {u : Value} {b : Bool} (hk : RepD D k u) (h : keyT E kt k = true) : (Instr.checkKey b 10000 kt u).run P w = .ok () w := by
  rcases keyT_cases hE h with ⟨d, hd, hc⟩ | ⟨xs, r, rfl, hr, _⟩
  · exact checkKey_plain hk hd hc
  · obtain ⟨h1, h2⟩ := aggAt (D := D) hr hk
    exact checkKey_agg hE hS b 9992 8 kt xs r u h1 h2

theorem eqCell_eq {a b : DV} (h : eqCell a b = some true) : a = b := by
  unfold eqCell at h
  split at h
  · split at h
    · rename_i hk; rw [kindB_eq hk]; simp at h; rw [h]
    · cases h
  · simp only [Option.some.injEq, beq_iff_eq] at h; rw [h]
  · simp only [Option.some.injEq, beq_iff_eq] at h; rw [h]
  · cases h
theorem eqCells_eq : ∀ {a b : List DV}, eqCells a b = some true → a = b ∧ ∀ c ∈ a, ∃ r, eqCell c c = some r
  | [], [], _ => ⟨rfl, by simp⟩
  | x :: a, y :: b, h => by
    simp only [eqCells] at h
    split at h
    · rename_i p q h1 h2
      simp only [Option.some.injEq, Bool.and_eq_true] at h
      obtain ⟨rfl, rfl⟩ := h
      have e := eqCell_eq h1
      subst e
      obtain ⟨e2, h3⟩ := eqCells_eq h2
      subst e2
      exact ⟨rfl, fun c hc => by
        rcases List.mem_cons.1 hc with rfl | hc
        · exact ⟨_, h1⟩
        · exact h3 c hc⟩
    · cases h
  | [], _ :: _, h => by cases h
  | _ :: _, [], h => by cases h

theorem sameBits_cell {n : Nat} {k : DV} {a b : Value} (hp : ∃ r, eqCell k k = some r) (ha : RepD D k a) (hb : RepD D k b) : Instr.sameBits n a b = true := by
  obtain ⟨r, hp⟩ := hp
  cases k <;> simp only [eqCell, reduceCtorEq] at hp
  · cases ha; cases hb; cases n <;> simp [Instr.sameBits]
  · cases ha; cases hb; cases n <;> simp [Instr.sameBits]
  · cases ha with
    | @str _ b1 h1 =>
      cases hb with
      | @str _ b2 h2 =>
        rw [h1] at h2
        have := byte_inj h2
        have hb12 : b1 = b2 := by
          obtain ⟨⟨l1⟩⟩ := b1
          obtain ⟨⟨l2⟩⟩ := b2
          simp only at this
          rw [this]
        subst hb12
        cases n <;> simp only [Instr.sameBits] <;> rw [beq_toListBytes] <;> simp

/-- Two equal keys have the same bits. -/
theorem sameBits_key {kt : TypeId} {k k' : DV} {a b : Value} (h : eqKey E kt k k' = some true) (ha : RepD D k' a) (hb : RepD D k b) : k' = k ∧ Instr.sameBits 10000 a b = true := by
  unfold eqKey at h
  split at h
  · rename_i xs ys
    split at h
    · rename_i h1 h2
      obtain ⟨e, hc⟩ := eqCells_eq h2
      subst e
      refine ⟨rfl, ?_⟩
      cases ha with
      | @agg _ us a1 a2 a3 =>
        cases hb with
        | @agg _ vs b1 b2 b3 =>
          simp only [Instr.sameBits, Bool.and_eq_true, beq_iff_eq, List.all_eq_true]
          refine ⟨by rw [a1, b1], fun p hp => ?_⟩
          obtain ⟨j, hj, rfl⟩ := List.getElem_of_mem hp
          simp only [List.length_zip, Array.length_toList] at hj
          have hj1 : j < us.size := by omega
          have hj2 : j < vs.size := by omega
          have hj3 : j < xs.length := by omega
          simp only [List.getElem_zip, Array.getElem_toList]
          exact sameBits_cell (hc _ (List.getElem_mem hj3)) (a3 j xs[j] us[j] (by simp [hj3]) (by simp [hj1])) (b3 j xs[j] vs[j] (by simp [hj3]) (by simp [hj2]))
    · cases h
    · cases h
  · cases h
  · have e := eqCell_eq h
    subst e
    exact ⟨rfl, sameBits_cell ⟨_, h⟩ ha hb⟩

theorem findAsking_ok (hE : TyOK P E) (hS : PlainOK P E) {kt : TypeId} {xs : List DV} {u : Value} (hk : RepD D (.agg xs) u) : ∀ (kvs : List (DV × DV)) (es : List MapEntry) (i : Nat) (r : Option (Nat × DV)), findKV (eqKey E kt) (.agg xs) kvs = some r → kvs.length = es.length →
    (∀ (j : Nat) p e, kvs[j]? = some p → es[j]? = some e → pairD D p e) → ∃ r', (Instr.findAsking kt u es i).run P w = .ok r' w ∧ match r with
        | none => r' = none
        | some (j, d) => ∃ v, r' = some (i + j, v) ∧ RepD D d v ∧ (∃ p, kvs[j]? = some p ∧ eqKey E kt (.agg xs) p.1 = some true)
  | [], [], i, r, h, _, _ => by simp [findKV] at h; subst h; exact ⟨none, rfl, rfl⟩
  | [], _ :: _, _, _, _, hl, _ => by simp at hl
  | _ :: _, [], _, _, _, hl, _ => by simp at hl
  | (k', dv) :: kvs, e :: es, i, r, h, hl, hr => by
    obtain ⟨p1, p2⟩ := hr 0 (k', dv) e rfl rfl
    simp only [findKV] at h
    cases he : eqKey E kt (.agg xs) k' with
    | none => rw [he] at h; cases h
    | some b =>
      have heq : (Op.equal kt u e.key).run P w = .ok b w := by
        cases k' with
        | agg ys =>
          simp only [eqKey] at he
          have : eqAgg E kt xs ys = some b := by
            split at he
            · rename_i h1 h2; cases he; exact h1
            · rename_i h1 h2; cases he; exact h1
            · cases he
          obtain ⟨g1, g2⟩ := aggAt (D := D) this hk
          obtain ⟨_, g3⟩ := aggAt (D := D) this p1
          exact eqT_ok hE hS 9992 8 kt xs ys b _ _ g1 g2 g3
        | _ => cases he
      rw [he] at h
      cases b with
      | true =>
        simp only [Option.some.injEq] at h
        subst h
        exact ⟨some (i, e.val), by simp [Instr.findAsking, heq], e.val, by simp, p2, _, rfl, he⟩
      | false =>
        simp only [Option.map_eq_some_iff] at h
        obtain ⟨r0, h1, rfl⟩ := h
        obtain ⟨r', g1, g2⟩ := findAsking_ok hE hS hk kvs es (i + 1) r0 h1 (by simpa using hl) (fun j p e hp he => hr (j + 1) p e (by simpa using hp) (by simpa using he))
        refine ⟨r', by simp [Instr.findAsking, heq, g1], ?_⟩
        cases r0 with
        | none => exact g2
        | some q =>
          obtain ⟨v, e1, e2, p, e3, e4⟩ := g2
          exact ⟨v, by rw [e1]; simp; omega, e2, p, by simpa using e3, e4⟩

/-- A key is looked for. -/
theorem findKey_ok (hE : TyOK P E) (hS : PlainOK P E) {kt : TypeId} {k : DV} {u : Value} (hk : RepD D k u) (hkey : keyT E kt k = true) (kvs : List (DV × DV)) (es : List MapEntry) (r : Option (Nat × DV)) (h : findKV (eqKey E kt) k kvs = some r)
    (hl : kvs.length = es.length) (hr : ∀ (j : Nat) p e, kvs[j]? = some p → es[j]? = some e → pairD D p e) : ∃ r', (Instr.findKey kt u es).run P w = .ok r' w ∧ match r with
        | none => r' = none
        | some (j, d) => ∃ v, r' = some (j, v) ∧ RepD D d v ∧ (∃ p, kvs[j]? = some p ∧ eqKey E kt k p.1 = some true) := by
  rcases keyT_cases hE hkey with ⟨d, hd, hc⟩ | ⟨xs, r0, rfl, hr0, hd⟩
  · have hne : ∀ k', eqKey E kt k k' = eqCell k k' := by
      intro k'
      rcases hc with ⟨_, _, _, _, rfl⟩ | ⟨_, _, rfl⟩ | ⟨_, _, rfl⟩ <;> rfl
    have hfk : ∀ l, findKV (eqKey E kt) k l = findKV eqCell k l := by
      intro l
      induction l with
      | nil => rfl
      | cons p l ih => obtain ⟨k', v⟩ := p; simp only [findKV, hne, ih]
    rw [hfk] at h
    obtain ⟨r', g1, g2⟩ := findNow_ok hk hc kvs es 0 r h hl hr
    refine ⟨r', by simp [Instr.findKey, run_underlying hd, g1], ?_⟩
    cases r with
    | none => exact g2
    | some q =>
      obtain ⟨v, e1, e2, p, e3, e4⟩ := g2
      exact ⟨v, by rw [e1]; simp, e2, p, e3, by rw [hne]; exact e4⟩
  · obtain ⟨d, hu, hns⟩ : ∃ d, P.underlying kt = some d ∧ ∀ v, Instr.sameNow d u v = none := by
      rcases hd with ⟨fs, hu⟩ | ⟨n, e, hu⟩
      · exact ⟨_, hu, fun v => rfl⟩
      · exact ⟨_, hu, fun v => rfl⟩
    obtain ⟨r', g1, g2⟩ := findAsking_ok (w := w) hE hS hk kvs es 0 r h hl hr
    refine ⟨r', ?_, ?_⟩
    · cases es with
      | nil =>
        simp only [Instr.findAsking, Sem.run_pure] at g1
        cases g1
        simp [Instr.findKey, run_underlying hu, Instr.findNow]
      | cons e es => simp [Instr.findKey, run_underlying hu, Instr.findNow, hns, g1]
    · cases r with
      | none => exact g2
      | some q =>
        obtain ⟨v, e1, e2, p, e3, e4⟩ := g2
        exact ⟨v, by rw [e1]; simp, e2, p, e3, e4⟩

theorem zeroD_ok {et : TypeId} {y : Ty} (hT : TyOK1 P et y) {z : DV} (h : zeroD y = some z) (hagg : ∀ zv i, P.info? et = some i → i.zero = some zv → (isAggT y.desc = true → ∃ cs, zv = .agg cs) ∧ (isAggT y.desc = false → zv.cells = #[zv])) :
    ∃ zv, (zeroValue et).run P w = .ok zv w ∧ RepD D z zv := by
  obtain ⟨i, zv, h1, h2, h3, h4, h5, h6, h7, h8⟩ := hT.info
  refine ⟨zv, by simp [zeroValue, run_typeInfo h1, h4], ?_⟩
  obtain ⟨g1, g2⟩ := hagg zv i h1 h4
  unfold zeroD at h
  split at h
  · rename_i ha
    obtain ⟨cs, rfl⟩ := g1 ha
    simp only [Option.some.injEq] at h
    subst h
    exact .agg (by rw [h6]; exact h5) h8 (fun j c v hc hv => (h7 j c v hc hv).zero)
  · rename_i ha
    have := g2 ha
    cases hz : y.zero with
    | nil => rw [hz] at h; cases h
    | cons c r =>
      rw [hz] at h
      simp only [List.head?_cons, Option.some.injEq] at h
      subst h
      exact (h7 0 c zv (by rw [hz]; rfl) (by rw [this]; rfl)).zero

/-- A type's zero value is an aggregate just where the type is one. -/
def ZeroOK (P : Program) (E : PT Ty) : Prop := ∀ et y, E.get? et = some y → ∀ zv i, P.info? et = some i → i.zero = some zv → (isAggT y.desc = true → ∃ cs, zv = .agg cs) ∧ (isAggT y.desc = false → zv.cells = #[zv])

def lookPick (et : TypeId) (r : Option (Nat × Value)) : Sem (Value × Bool) :=
  match r with
  | some (_, v) => pure (v, true)
  | none => do pure (← zeroValue et, false)
def lookupCore (kt et : TypeId) (u : Value) (ok : Bool) (es : List MapEntry) : Sem Value := do
  Instr.checkKey es.isEmpty 10000 kt u
  let p ← lookPick et (← Instr.findKey kt u es)
  pure (if ok then .tuple #[p.1, .bool p.2] else p.1)

theorem lookup_ok (hE : TyOK P E) (hS : PlainOK P E) (hZ : ZeroOK P E) (hp : Heap D β objs w) (t : TypeId) (ok : Bool) {x k : AV} {v u : Value} (hx : RepA D β x v) (hk : RepA D β k u) :
    ValOK P D β objs w (Instr.lookup t v u ok) (lookupR E t x k ok objs) := by
  unfold lookupR
  split
  · rename_i kt et _ _ _ kd hty
    have hu := (hE t _ hty).und
    simp only at hu
    cases hk with
    | d hk =>
      split
      · rename_i y hy hkey
        split
        · rename_i kvs hkvs
          obtain ⟨es, hcore, hlen, hpair⟩ : ∃ es : List MapEntry, (Instr.lookup t v u ok).run P w = (lookupCore kt et u ok es).run P w ∧ kvs.length = es.length ∧
              ∀ (j : Nat) p e, kvs[j]? = some p → es[j]? = some e → pairD D p e := by
            unfold kvsOf at hkvs
            split at hkvs
            · cases hkvs
              cases hx with
              | d hx =>
                cases hx
                refine ⟨[], ?_, rfl, by simp⟩
                simp only [Instr.lookup, lookupCore, Sem.run_bind, run_underlying hu, Result.andThen_ok, Sem.run_pure]
                have e0 : (#[] : Array MapEntry).isEmpty = ([] : List MapEntry).isEmpty := rfl
                rw [e0]
                congr 1; funext _ w1; congr 1; funext a w2; cases a <;> simp [lookPick] <;> (generalize Sem.run P (zeroValue et) w2 = r; cases r <;> rfl)
            · rename_i i
              split at hkvs
              · rename_i kvs' ho
                cases hkvs
                cases hx with
                | @mp _ bi hb =>
                  obtain ⟨es, clock, g1, g2, g3, _⟩ := hp.hold i _ _ hb ho
                  have hg : (getObj bi.blk).run P w = .ok (.map es clock) w := by simp only [getObj, Sem.run]; rw [g1]
                  refine ⟨es.toList, ?_, by simpa using g2.symm, fun j p e hp he => g3 j p e hp (by simpa using he)⟩
                  simp only [Instr.lookup, lookupCore, Sem.run_bind, run_underlying hu, Result.andThen_ok, Sem.run_pure, hg]
                  have e0 : es.isEmpty = es.toList.isEmpty := by simp
                  rw [e0]
                  congr 1; funext _ w1; congr 1; funext a w2; cases a <;> simp [lookPick] <;> (generalize Sem.run P (zeroValue et) w2 = r; cases r <;> rfl)
              · cases hkvs
            · cases hkvs
          have hrun0 : ∀ (r : Option (Nat × Value)), (Instr.findKey kt u es).run P w = .ok r w → (Instr.lookup t v u ok).run P w = ((lookPick et r).run P w).andThen fun p w' => .ok (if ok then .tuple #[p.1, .bool p.2] else p.1) w' := by
            intro r hfk
            rw [hcore]
            have hck := checkKey_ok (P := P) (w := w) (b := es.isEmpty) hE hS hk hkey
            simp only [lookupCore, Sem.run_bind, hck, Result.andThen_ok, hfk, Sem.run_pure]
          split
          · rename_i j dv hf
            obtain ⟨r', g1, v', e1, e2, _⟩ := findKey_ok (w := w) hE hS hk hkey kvs es _ hf hlen hpair
            subst e1
            refine .pure hp (fun _ => ⟨_, hrun0 _ g1, ?_⟩)
            cases ok with
            | true => exact .tup rfl (fun j c v hc hv => by
                match j with
                | 0 => simp at hc hv; subst hc hv; exact .d e2
                | 1 => simp at hc hv; subst hc hv; exact .d .bool
                | j + 2 => simp at hc)
            | false => exact .d e2
          · rename_i hf
            obtain ⟨r', g1, g2⟩ := findKey_ok (w := w) hE hS hk hkey kvs es _ hf hlen hpair
            subst g2
            split
            · rename_i z hz
              obtain ⟨zv, z1, z2⟩ := zeroD_ok (w := w) (D := D) (hE et y hy) hz (hZ et y hy)
              refine .pure hp (fun _ => ⟨if ok then .tuple #[zv, .bool false] else zv, ?_, ?_⟩)
              · rw [hrun0 _ g1]; simp [lookPick, z1]
              cases ok with
              | true => exact .tup rfl (fun j c v hc hv => by
                  match j with
                  | 0 => simp at hc hv; subst hc hv; exact .d z2
                  | 1 => simp at hc hv; subst hc hv; exact .d .bool
                  | j + 2 => simp at hc)
              | false => exact .d z2
            · exact .none
          · exact .none
        · exact .none
      · exact .none
  · exact .none


theorem assert_ok (hE : TyOK P E) (hZ : ZeroOK P E) (hp : Heap D β objs w) (xt asserted : TypeId) (ok : Bool) {x : AV} {v : Value} (hx : RepA D β x v) :
    ValOK P D β objs w (Instr.typeAssert v xt asserted ok) (assertR E asserted ok x objs) := by
  unfold assertR
  split
  · rename_i y hy
    have hu := (hE asserted y hy).und
    split
    · exact .none
    · rename_i hi
      have hni : ∀ m, y.desc ≠ .interface m := fun m e => by rw [e] at hi; cases hi
      have pair : ∀ (a b : DV) (u v : Value), RepD D a u → RepD D b v → RepA D β (.tup [.d a, .d b]) (.tuple #[u, v]) := fun a b u v h1 h2 => .tup rfl (fun j c z hc hz => by
        match j with
        | 0 => simp at hc hz; subst hc hz; exact .d h1
        | 1 => simp at hc hz; subst hc hz; exact .d h2
        | j + 2 => simp at hc)
      split
      · rename_i t dv
        cases hx with
        | d hx =>
          cases hx with
          | @iface _ _ u hx =>
            split
            · rename_i ht
              have := Nat.eq_of_beq_eq_true ht
              subst this
              refine .pure hp (fun _ => ⟨_, ?_, pair _ _ _ _ hx .bool⟩)
              simp only [Instr.typeAssert, Sem.run_bind, run_underlying hu, Result.andThen_ok]
              split <;> first | (rename_i hd _; exact absurd hd (hni _)) | simp_all
            · rename_i ht
              have := Nat.eq_of_beq_eq_true ht
              subst this
              refine .pure hp (fun _ => ⟨_, ?_, .d hx⟩)
              simp only [Instr.typeAssert, Sem.run_bind, run_underlying hu, Result.andThen_ok]
              split <;> first | (rename_i hd _; exact absurd hd (hni _)) | simp_all
            · rename_i ht
              have hne := Nat.ne_of_beq_eq_false ht
              split
              · rename_i z hz
                obtain ⟨zv, z1, z2⟩ := zeroD_ok (w := w) (D := D) (hE asserted y hy) hz (hZ asserted y hy)
                refine .pure hp (fun _ => ⟨_, ?_, pair _ _ _ _ z2 .bool⟩)
                simp only [Instr.typeAssert, Sem.run_bind, run_underlying hu, Result.andThen_ok]
                split <;> first | (rename_i hd _; exact absurd hd (hni _)) | simp_all
              · exact .none
            · exact .none
      · cases hx with
        | d hx =>
          cases hx
          split
          · rename_i z hz
            obtain ⟨zv, z1, z2⟩ := zeroD_ok (w := w) (D := D) (hE asserted y hy) hz (hZ asserted y hy)
            refine .pure hp (fun _ => ⟨_, ?_, pair _ _ _ _ z2 .bool⟩)
            simp only [Instr.typeAssert, Sem.run_bind, run_underlying hu, Result.andThen_ok]
            split <;> first | (rename_i hd _; exact absurd hd (hni _)) | simp_all
          · exact .none
      · exact .none
  · exact .none

theorem setObj_run {r : Nat} {o o' : Obj} (h : w.heap[r]? = some o) (hn : ∀ c e f, o ≠ .cells c e f) : (setObj r o').run P w = .ok () (putB w r o') := by
  simp only [setObj, Sem.run, h]
  cases o with
  | cells c e f => exact absurd rfl (hn c e f)
  | _ => rfl

theorem mapUpdate_ok (hE : TyOK P E) (hS : PlainOK P E) (hp : Heap D β objs w) (t : TypeId) {x k v : AV} {ux uk uv : Value} (hx : RepA D β x ux) (hk : RepA D β k uk) (hv : RepA D β v uv) :
    UnitOK P D β objs w (Instr.mapUpdate t ux uk uv) (mapUpdateR E t x k v objs) := by
  unfold mapUpdateR
  split
  · rename_i kt et _ _ _ i kd vd hty
    have hu := (hE t _ hty).und
    simp only at hu
    cases hk with
    | d hk =>
      cases hv with
      | d hv =>
        cases hx with
        | @mp _ bi hb =>
          split
          · rename_i kvs hkey ho
            obtain ⟨es, clock, g1, g2, g3, g4, g5, g6⟩ := hp.hold i bi _ hb ho
            have hg : (getObj bi.blk).run P w = .ok (.map es clock) w := by simp only [getObj, Sem.run]; rw [g1]
            have hck := checkKey_ok (P := P) (w := w) (b := false) hE hS hk hkey
            have hbw := lt_of_getElem? g1
            have hset : ∀ o', (setObj bi.blk o').run P w = .ok () (putB w bi.blk o') := fun o' => setObj_run g1 (by intros; simp)
            have hpair : ∀ (j : Nat) p e, kvs[j]? = some p → es.toList[j]? = some e → pairD D p e := fun j p e hp he => g3 j p e hp (by simpa using he)
            split
            · rename_i j dv hf
              obtain ⟨r', hfk, v', e1, e2, p0, e3, e4⟩ := findKey_ok (w := w) hE hS hk hkey kvs es.toList _ hf (by simpa using g2.symm) hpair
              subst e1
              have hjl : j < es.size := by rw [g2]; exact (List.getElem?_eq_some_iff.1 e3).1
              have hp1 := (hpair j p0 es[j] e3 (by simp [hjl])).1
              obtain ⟨hkd, hsb⟩ := sameBits_key e4 hp1 hk
              intro av o c he _
              simp only [pureR, Option.some.injEq, Prod.mk.injEq] at he
              obtain ⟨rfl, rfl, rfl⟩ := he
              refine ⟨putB w bi.blk (.map (es.modify j fun e => { e with key := uk, val := uv }) clock), D, β, ?_, ?_, .d .any⟩
              · simp only [Instr.mapUpdate, Sem.run_bind, run_underlying hu, Result.andThen_ok, hg, hck, hfk]
                have hkk : (Instr.keyThatStays (((es[j]?).map (·.key)).getD uk) uk).run P w = .ok uk w := by
                  simp [Instr.keyThatStays, hjl, hsb]
                simp only [hkk, Result.andThen_ok, hset]
              · refine Step.put hp hb ho rfl (fun b' hb' => by simp [ownOf] at hb'; exact hb'.symm) g4 ?_
                refine ⟨_, clock, putB_eq hbw, by simp [g2], fun j' p e hp' he' => ?_, g4, by simp [g5], fun j' e he' => ?_⟩
                rotate_left
                · rw [Array.getElem?_modify] at he'
                  split at he'
                  · simp only [Option.map_eq_some_iff] at he'; obtain ⟨e0, h0, rfl⟩ := he'; exact g6 j' e0 h0
                  · exact g6 j' e he'
                rw [List.getElem?_modify] at hp'
                rw [Array.getElem?_modify] at he'
                by_cases ej : j = j'
                · subst ej
                  rw [e3] at hp'
                  rw [Array.getElem?_eq_getElem hjl] at he'
                  simp at hp' he'
                  subst hp' he'
                  refine ⟨?_, hv⟩
                  simp only [hkd]; exact hk
                · simp [ej] at hp' he'
                  exact g3 j' p e hp' he'
            · rename_i hf
              obtain ⟨r', hfk, e1⟩ := findKey_ok (w := w) hE hS hk hkey kvs es.toList _ hf (by simpa using g2.symm) hpair
              subst e1
              intro av o c he _
              simp only [pureR, Option.some.injEq, Prod.mk.injEq] at he
              obtain ⟨rfl, rfl, rfl⟩ := he
              refine ⟨putB w bi.blk (.map (es.push { key := uk, val := uv, born := clock }) (clock + 1)), D, β, ?_, ?_, .d .any⟩
              · simp only [Instr.mapUpdate, Sem.run_bind, run_underlying hu, Result.andThen_ok, hg, hck, hfk, hset]
              · refine Step.put hp hb ho rfl (fun b' hb' => by simp [ownOf] at hb'; exact hb'.symm) g4 ?_
                refine ⟨_, clock + 1, putB_eq hbw, by simp [g2], fun j' p e hp' he' => ?_, g4, by simp [g5], fun j' e he' => ?_⟩
                rotate_left
                · rw [Array.getElem?_push] at he'
                  split at he'
                  · rename_i e1; cases he'; rw [e1]; exact g5
                  · exact g6 j' e he'
                rcases getElem?_snoc hp' with ⟨l1, h1⟩ | ⟨l1, h1⟩
                · rw [Array.getElem?_push, if_neg (by omega)] at he'
                  exact g3 j' p e h1 he'
                · rw [Array.getElem?_push, if_pos (by omega)] at he'
                  cases he'; subst h1
                  exact ⟨hk, hv⟩
            · intro av o c he; cases he
          · intro av o c he; cases he
  · intro av o c he; cases he

theorem mapEntry_ok (hE : TyOK P E) (hZ : ZeroOK P E) (hS : PlainOK P E) (hp : Heap D β objs w) (t : TypeId) {x k : AV} {ux uk : Value} (hx : RepA D β x ux) (hk : RepA D β k uk) :
    ValOK P D β objs w (Instr.mapEntry t ux uk) (mapEntryR E t x k objs) := by
  unfold mapEntryR
  split
  · rename_i kt et _ _ _ i kd hty
    have hu := (hE t _ hty).und
    simp only at hu
    cases hk with
    | d hk =>
      cases hx with
      | @mp _ bi hb =>
        split
        · rename_i y kvs hy hkey ho
          obtain ⟨es, clock, g1, g2, g3, g4, g5, g6⟩ := hp.hold i bi _ hb ho
          have hg : (getObj bi.blk).run P w = .ok (.map es clock) w := by simp only [getObj, Sem.run]; rw [g1]
          have hck := checkKey_ok (P := P) (w := w) (b := false) hE hS hk hkey
          have hbw := lt_of_getElem? g1
          have hset : ∀ o', (setObj bi.blk o').run P w = .ok () (putB w bi.blk o') := fun o' => setObj_run g1 (by intros; simp)
          have hpair : ∀ (j : Nat) p e, kvs[j]? = some p → es.toList[j]? = some e → pairD D p e := fun j p e hp he => g3 j p e hp (by simpa using he)
          split
          · rename_i j dv hf
            obtain ⟨r', hfk, v', e1, e2, p0, e3, e4⟩ := findKey_ok (w := w) hE hS hk hkey kvs es.toList _ hf (by simpa using g2.symm) hpair
            subst e1
            have hjl : j < es.size := by rw [g2]; exact (List.getElem?_eq_some_iff.1 e3).1
            have hp1 := (hpair j p0 es[j] e3 (by simp [hjl])).1
            obtain ⟨hkd, hsb⟩ := sameBits_key e4 hp1 hk
            intro av o c he _
            simp only [pureR, Option.some.injEq, Prod.mk.injEq] at he
            obtain ⟨rfl, rfl, rfl⟩ := he
            refine ⟨.tuple #[v', goInt (((es[j]?).map (·.born)).getD 0)], putB w bi.blk (.map (es.modify j fun e => { e with key := uk }) clock), D, β, ?_, ?_, ?_⟩
            · simp only [Instr.mapEntry, Sem.run_bind, run_underlying hu, Result.andThen_ok, hg, hck, hfk]
              have hkk : (Instr.keyThatStays (((es[j]?).map (·.key)).getD uk) uk).run P w = .ok uk w := by
                simp [Instr.keyThatStays, hjl, hsb]
              simp only [hkk, Result.andThen_ok, hset, Sem.run_pure]
            · refine Step.put hp hb ho rfl (fun b' hb' => by simp [ownOf] at hb'; exact hb'.symm) g4 ?_
              refine ⟨_, clock, putB_eq hbw, by simp [g2], fun j' p e hp' he' => ?_, g4, by simp [g5], fun j' e he' => ?_⟩
              · rw [Array.getElem?_modify] at he'
                by_cases ej : j = j'
                · subst ej
                  rw [e3] at hp'
                  rw [Array.getElem?_eq_getElem hjl] at he'
                  simp at hp' he'
                  subst hp' he'
                  refine ⟨?_, (hpair j p0 es[j] e3 (by simp [hjl])).2⟩
                  simp only [hkd]; exact hk
                · simp [ej] at hp' he'
                  exact g3 j' p e hp' he'
              · rw [Array.getElem?_modify] at he'
                split at he'
                · simp only [Option.map_eq_some_iff] at he'; obtain ⟨e0, h0, rfl⟩ := he'; exact g6 j' e0 h0
                · exact g6 j' e he'
            · refine .tup rfl (fun j' c v hc hv => ?_)
              match j', hc, hv with
              | 0, hc, hv => simp at hc hv; subst hc hv; exact .d e2
              | 1, hc, hv =>
                simp [hjl] at hc hv; subst hc hv
                rw [g6 j es[j] (by simp [hjl])]
                exact .d .int
              | j' + 2, hc, hv => simp at hc
          · rename_i hf
            obtain ⟨r', hfk, e1⟩ := findKey_ok (w := w) hE hS hk hkey kvs es.toList _ hf (by simpa using g2.symm) hpair
            subst e1
            split
            · rename_i z hz
              obtain ⟨zv, z1, z2⟩ := zeroD_ok (w := w) (D := D) (hE et y hy) hz (hZ et y hy)
              intro av o c he _
              simp only [pureR, Option.some.injEq, Prod.mk.injEq] at he
              obtain ⟨rfl, rfl, rfl⟩ := he
              refine ⟨.tuple #[zv, goInt clock], putB w bi.blk (.map (es.push { key := uk, val := zv, born := clock }) (clock + 1)), D, β, ?_, ?_, ?_⟩
              · simp only [Instr.mapEntry, Sem.run_bind, run_underlying hu, Result.andThen_ok, hg, hck, hfk, hset, z1, Sem.run_pure]
              · refine Step.put hp hb ho rfl (fun b' hb' => by simp [ownOf] at hb'; exact hb'.symm) g4 ?_
                refine ⟨_, clock + 1, putB_eq hbw, by simp [g2], fun j' p e hp' he' => ?_, g4, by simp [g5], fun j' e he' => ?_⟩
                · rcases getElem?_snoc hp' with ⟨l1, h1⟩ | ⟨l1, h1⟩
                  · rw [Array.getElem?_push, if_neg (by omega)] at he'
                    exact g3 j' p e h1 he'
                  · rw [Array.getElem?_push, if_pos (by omega)] at he'
                    cases he'; subst h1
                    exact ⟨hk, z2⟩
                · rw [Array.getElem?_push] at he'
                  split at he'
                  · rename_i e1; cases he'; rw [e1]; exact g5
                  · exact g6 j' e he'
              · refine .tup rfl (fun j' c v hc hv => ?_)
                match j', hc, hv with
                | 0, hc, hv => simp at hc hv; subst hc hv; exact .d z2
                | 1, hc, hv => simp at hc hv; subst hc hv; rw [g5, g2]; exact .d .int
                | j' + 2, hc, hv => simp at hc
            · intro av o c he; cases he
          · intro av o c he; cases he
        · intro av o c he; cases he
  · intro av o c he; cases he

theorem findIdx_born {es : Array MapEntry} (h : ∀ (j : Nat) e, es[j]? = some e → e.born = j) {n : Nat} (hn : n < es.size) : es.findIdx? (fun e => (e.born : Int) == (n : Int)) = some n := by
  rw [Array.findIdx?_eq_some_iff_getElem]
  refine ⟨hn, ?_, fun j hj => ?_⟩
  · simp [h n es[n] (by simp [hn])]
  · have := h j (es[j]'(by omega)) (by simp [show j < es.size by omega])
    simp [this]; omega

theorem entryStore_ok (hp : Heap D β objs w) (t : TypeId) {x st v : AV} {ux us uv : Value} (hx : RepA D β x ux) (hs : RepA D β st us) (hv : RepA D β v uv) :
    UnitOK P D β objs w (Instr.entryStore t ux us uv) (entryStoreR x st v objs) := by
  unfold entryStoreR
  split
  · rename_i i k n vd
    cases hx with
    | @mp _ bi hb =>
      cases hs with
      | d hs =>
        cases hs
        cases hv with
        | d hv =>
          split
          · rename_i kvs ho
            obtain ⟨es, clock, g1, g2, g3, g4, g5, g6⟩ := hp.hold i bi _ hb ho
            have hg : (getObj bi.blk).run P w = .ok (.map es clock) w := by simp only [getObj, Sem.run]; rw [g1]
            have hbw := lt_of_getElem? g1
            have hset : ∀ o', (setObj bi.blk o').run P w = .ok () (putB w bi.blk o') := fun o' => setObj_run g1 (by intros; simp)
            intro av o c he hc
            simp only [Option.some.injEq, Prod.mk.injEq] at he
            obtain ⟨rfl, rfl, rfl⟩ := he
            simp only [inB, Bool.and_eq_true, decide_eq_true_eq] at hc
            obtain ⟨m, rfl⟩ := Int.eq_ofNat_of_zero_le hc.1
            have hm : m < es.size := by rw [g2]; omega
            have hfi := findIdx_born g6 hm
            refine ⟨putB w bi.blk (.map (es.modify m fun e => { e with val := uv }) clock), D, β, ?_, ?_, .d .any⟩
            · simp only [Instr.entryStore, Sem.run_bind, Result.andThen_ok, hg, asInt, asIntOf, Sem.run_pure, hfi, hset]
            · refine Step.put hp hb ho rfl (fun b' hb' => by simp [ownOf] at hb'; exact hb'.symm) g4 ?_
              refine ⟨_, clock, putB_eq hbw, by simp [g2], fun j' p e hp' he' => ?_, g4, by simp [g5], fun j' e he' => ?_⟩
              · rw [List.getElem?_modify] at hp'
                rw [Array.getElem?_modify] at he'
                by_cases ej : m = j'
                · subst ej
                  simp only [Int.toNat_natCast, if_true, Option.map_eq_map, Option.map_eq_some_iff] at hp'
                  rw [if_pos rfl, Option.map_eq_some_iff] at he'
                  obtain ⟨p0, h0, rfl⟩ := hp'
                  obtain ⟨e0, h1, rfl⟩ := he'
                  exact ⟨(g3 m p0 e0 h0 h1).1, hv⟩
                · simp [ej] at hp' he'
                  exact g3 j' p e hp' he'
              · rw [Array.getElem?_modify] at he'
                split at he'
                · simp only [Option.map_eq_some_iff] at he'; obtain ⟨e0, h0, rfl⟩ := he'; exact g6 j' e0 h0
                · exact g6 j' e he'
          · intro av o c he; cases he
  · intro av o c he; cases he

/-! ### Ranging over a string -/
theorem run_getO {r : Nat} {o : Obj} (h : w.heap[r]? = some o) (hc : ∀ c e f, o ≠ .cells c e f) : (getObj r).run P w = .ok o w := by
  cases o <;> first | exact absurd rfl (hc _ _ _) | simp [getObj, Sem.run, h]
theorem run_setO {r : Nat} {o : Obj} (o' : Obj) (h : w.heap[r]? = some o) (hc : ∀ c e f, o ≠ .cells c e f) : (setObj r o').run P w = .ok () (putB w r o') := by
  cases o <;> first | exact absurd rfl (hc _ _ _) | simp [setObj, Sem.run, h, putB]
theorem beqN (a b : Nat) : (a == b) = Nat.beq a b := by
  rw [Bool.eq_iff_iff, beq_iff_eq]; exact ⟨fun h => by rw [h]; exact Nat.beq_refl b, Nat.eq_of_beq_eq_true⟩
theorem get!_nat (b : ByteArray) (j : Nat) : (b.get! j).toNat = (b.data.toList.map UInt8.toNat).getD j 0 := by
  obtain ⟨⟨l⟩⟩ := b
  simp only [ByteArray.get!, List.getD_eq_getElem?_getD, List.getElem?_map]
  cases h : l[j]? with
  | none => simp [getElem!_def, h]; rfl
  | some x => simp [getElem!_def, h]

theorem cont_nat (b : ByteArray) (j : Nat) : (decide (j < b.size) && ((b.get! j).toNat / 64 == 2)) = Nat.beq ((b.data.toList.map UInt8.toNat).getD j 0 / 64) 2 := by
  rw [get!_nat]
  by_cases h : j < b.size
  · simp only [h, decide_true, Bool.true_and]; exact beqN _ _
  · simp only [h, decide_false, Bool.false_and]
    have : (b.data.toList.map UInt8.toNat)[j]? = none := by simp; exact Nat.le_of_not_lt h
    simp [List.getD_eq_getElem?_getD, this, Nat.beq]

theorem validN_eq (c : Nat) : Utf8.valid (c : Int) = validN c := by
  simp only [Utf8.valid, validN]
  rw [Bool.eq_iff_iff]
  simp [Nat.blt_eq, Nat.ble_eq]
  omega

theorem bleN (a b : Nat) : (decide (b ≥ a)) = Nat.ble a b := by
  rw [Bool.eq_iff_iff]; simp [Nat.ble_eq]

theorem decL_eq (b : ByteArray) (i : Nat) : Utf8.decode b i = decL (b.data.toList.map UInt8.toNat) i := by
  have c1 := cont_nat b (i + 1)
  have c2 := cont_nat b (i + 2)
  have c3 := cont_nat b (i + 3)
  unfold Utf8.decode decL
  simp only [c1, c2, c3]
  simp only [get!_nat, Nat.add_zero]
  generalize (b.data.toList.map UInt8.toNat).getD i 0 = b0
  generalize (b.data.toList.map UInt8.toNat).getD (i + 1) 0 = b1
  generalize (b.data.toList.map UInt8.toNat).getD (i + 2) 0 = b2
  generalize (b.data.toList.map UInt8.toNat).getD (i + 3) 0 = b3
  have e0 : (b0 < 128) = (Nat.blt b0 128 = true) := by rw [Nat.blt_eq]
  simp only [validN_eq, beqN, e0, Utf8.runeError]
  cases Nat.blt b0 128 with
  | true => rfl
  | false =>
    simp only [Bool.false_eq_true, if_false]
    cases (Nat.beq (b0 / 32) 6 && Nat.beq (b1 / 64) 2) with
    | true =>
      simp only [if_true]
      by_cases h : 128 ≤ b0 % 32 * 64 + b1 % 64
      · rw [if_pos h, Nat.ble_eq_true_of_le h]
      · rw [if_neg h]; cases hh : Nat.ble 128 (b0 % 32 * 64 + b1 % 64) with | true => exact absurd (Nat.le_of_ble_eq_true hh) h | false => rfl
    | false =>
      simp only [Bool.false_eq_true, if_false]
      cases (Nat.beq (b0 / 16) 14 && Nat.beq (b1 / 64) 2 && Nat.beq (b2 / 64) 2) with
      | true =>
        simp only [if_true, ← bleN]
        generalize b0 % 16 * 4096 + b1 % 64 * 64 + b2 % 64 = x
        by_cases h : x ≥ 2048 <;> cases validN x <;> simp [h]
      | false =>
        simp only [Bool.false_eq_true, if_false]
        cases (Nat.beq (b0 / 8) 30 && Nat.beq (b1 / 64) 2 && Nat.beq (b2 / 64) 2 && Nat.beq (b3 / 64) 2) with
        | true =>
          simp only [if_true, ← bleN]
          generalize b0 % 8 * 262144 + b1 % 64 * 4096 + b2 % 64 * 64 + b3 % 64 = x
          by_cases h : x ≥ 65536 <;> cases validN x <;> simp [h]
        | false => simp

theorem range_ok (hE : TyOK P E) (hp : Heap D β objs w) (t : TypeId) {x : AV} {v : Value} (hx : RepA D β x v) : ValOK P D β objs w (Instr.range t v) (rangeR E t x objs) := by
  intro av o c he _
  unfold rangeR at he
  split at he
  · rename_i a1 a2 a3 s ht
    have us := (hE t _ ht).und
    simp only [pureR, Option.some.injEq, Prod.mk.injEq] at he
    obtain ⟨rfl, rfl, rfl⟩ := he
    cases hx with
    | d hx =>
      cases hx with
      | @str s b hs =>
        refine ⟨_, w.alloc (.stringIter b 0), D, β ++ [⟨w.heap.size, fun _ => none⟩], by simp [Instr.range, run_underlying us], ?_, .bp (bi := ⟨w.heap.size, fun _ => none⟩) (by rw [← hp.len]; simp)⟩
        refine Step.push hp (fun k hk => alloc_keep w _ k hk) (by simp) rfl rfl rfl (fun _ _ h => h) (fun ad v h0 h2 => by rw [h2] at h0; cases h0) (fun b hb => by simp [ownOf] at hb; omega) ?_
        refine ⟨b, alloc_new w _, hs, fun ad ha => ?_⟩
        cases hd : D ad with
        | none => rfl
        | some v => have := hp.D_lt hd; simp only at ha; omega
  · cases he

theorem next_ok (hp : Heap D β objs w) (isS : Bool) (t : TypeId) {x : AV} {v : Value} (hx : RepA D β x v) : ValOK P D β objs w (Instr.next v isS t) (nextR x isS objs) := by
  intro av o c he _
  unfold nextR at he
  split at he
  · rename_i i
    split at he
    · rename_i s pos ho
      cases hx with
      | @bp _ _ bi hb =>
        obtain ⟨b, h1, h2, h3⟩ := hp.hold i bi _ hb ho
        have hl : s.length = b.size := by rw [h2]; simp
        split at he
        · rename_i hlt
          have hlt : pos < s.length := by simpa [Nat.blt_eq] using hlt
          simp only [pureR, Option.some.injEq, Prod.mk.injEq] at he
          obtain ⟨rfl, rfl, rfl⟩ := he
          have hbs : bi.blk < w.heap.size := lt_of_getElem? h1
          refine ⟨.tuple #[.bool true, goInt pos, .int .i32 (Utf8.decode b pos).1], putB w bi.blk (.stringIter b (pos + (Utf8.decode b pos).2)), D, β, ?_, ?_, ?_⟩
          · have hlt' : pos < b.size := by omega
            simp [Instr.next, hlt', run_getO h1 (by simp), run_setO _ h1 (by simp)]
          · rw [decL_eq]
            rw [← h2]
            exact Step.put hp hb ho rfl (fun b' hb' => by simp [ownOf] at hb'; exact hb'.symm) h3 ⟨b, putB_eq hbs, h2, h3⟩
          · rw [decL_eq, ← h2]
            refine .tup rfl (fun j c v hc hv => ?_)
            match j, hc, hv with
            | 0, hc, hv => simp at hc hv; subst hc hv; exact .d .bool
            | 1, hc, hv => simp at hc hv; subst hc hv; exact .d .int
            | 2, hc, hv => simp at hc hv; subst hc hv; exact .d .int
            | j + 3, hc, hv => simp at hc
        · rename_i hlt
          have hlt : ¬ pos < s.length := fun h => by rw [show Nat.blt pos s.length = true by rw [Nat.blt_eq]; exact h] at hlt; cases hlt
          simp only [pureR, Option.some.injEq, Prod.mk.injEq] at he
          obtain ⟨rfl, rfl, rfl⟩ := he
          refine ⟨.tuple #[.bool false], w, D, β, ?_, Step.refl hp, ?_⟩
          · have hlt' : ¬ pos < b.size := by omega
            simp [Instr.next, hlt', run_getO h1 (by simp)]
          · refine .tup rfl (fun j c v hc hv => ?_)
            match j, hc, hv with
            | 0, hc, hv => simp at hc hv; subst hc hv; exact .d .bool
            | j + 1, hc, hv => simp at hc
    · cases he
  · cases he


end
end Go.Av

/-
  The abstract layer, part G: soundness of the evaluator's operations, fourth part: parts of slices and strings; slices that are built; append; conversions.
-/
import Derived.Test.YtkehiddekhlfaaaF
import Derived.Lib.Strings
noncomputable section
namespace Go.Av
open Go

section
variable {P : Program} {E : PT Ty} {D : DMap} {β : List Bi} {objs : List Ob} {w : World}

theorem flatD_append (a b : List DV) : flatD (a ++ b) = flatD a ++ flatD b := by simp [flatD]
theorem flat_take {es : List DV} {sz : Nat} (hsz : ∀ e, e ∈ es → (cellsD e).length = sz) (n : Nat) : flatD (es.take n) = (flatD es).take (n * sz) := by
  induction es generalizing n with
  | nil => simp [flatD]
  | cons x r ih =>
    have hx := hsz x (by simp)
    cases n with
    | zero => simp [flatD]
    | succ n =>
      have := ih (fun e he => hsz e (by simp [he])) n
      simp only [flatD, List.take_succ_cons, List.flatMap_cons] at this ⊢
      rw [this, List.take_append, hx, Nat.succ_mul, List.take_of_length_le (l := cellsD x) (i := n * sz + sz) (by omega), Nat.add_sub_cancel]
theorem flat_drop {es : List DV} {sz : Nat} (hsz : ∀ e, e ∈ es → (cellsD e).length = sz) (n : Nat) : flatD (es.drop n) = (flatD es).drop (n * sz) := by
  induction es generalizing n with
  | nil => simp [flatD]
  | cons x r ih =>
    have hx := hsz x (by simp)
    cases n with
    | zero => simp [flatD]
    | succ n =>
      have := ih (fun e he => hsz e (by simp [he])) n
      simp only [flatD, List.drop_succ_cons, List.flatMap_cons] at this ⊢
      rw [this, List.drop_append, hx, Nat.succ_mul, List.drop_of_length_le (l := cellsD x) (i := n * sz + sz) (by omega), Nat.add_sub_cancel, List.nil_append]

theorem cellsD_one {c : DV} {v : Value} (h : RepD D c v) (h1 : v.oneCell' = true) : cellsD c = [c] := by
  cases c <;> first | rfl | skip
  cases h
  simp [Value.oneCell'] at h1

theorem bnd_some {v : Option AV} {u : Option Value} {i : Int} (h : bnd v = some (some i)) (hr : ∀ x, v = some x → ∃ y, u = some y ∧ RepA D β x y) : ∃ k, u = some (.int k i) := by
  unfold bnd at h
  split at h
  · cases h
  · rename_i k j
    cases h
    obtain ⟨y, rfl, hy⟩ := hr _ rfl
    cases hy with
    | d hy => cases hy; exact ⟨k, rfl⟩
  · cases h
theorem bnd_none {v : Option AV} {u : Option Value} (h : bnd v = some none) (hn : v = none → u = none) : u = none := by
  unfold bnd at h
  split at h
  · exact hn rfl
  · cases h
  · cases h

/-- A part of a slice's datum. -/
theorem sl_part {sz l h m len cap : Nat} {es : List DV} {a : Option Addr} (hr : RepD D (.sl sz es) (.slice a len cap)) (h1 : l ≤ h) (h2 : h ≤ m) (h3 : m ≤ cap) (h4 : h ≤ es.length) :
    RepD D (.sl sz ((es.take h).drop l)) (.slice (if m = l then a else a.map (·.add (l * sz))) (h - l) (m - l)) := by
  cases hr with
  | sl vs hc hm hsz hn hv hD hr' =>
    have hlen : ((es.take h).drop l).length = h - l := by simp; omega
    have hsz' : ∀ e, e ∈ (es.take h).drop l → (cellsD e).length = sz := fun e he => hsz e (List.mem_of_mem_take (List.mem_of_mem_drop he))
    have hfl := flat_length hsz
    have hfl' := flat_length hsz'
    have hflat : flatD ((es.take h).drop l) = ((flatD es).take (h * sz)).drop (l * sz) := by
      rw [flat_drop (fun e he => hsz e (List.mem_of_mem_take he)), flat_take hsz]
    have hmul : h * sz ≤ es.length * sz := Nat.mul_le_mul_right _ h4
    rw [← hlen]
    refine .sl ((vs.take (h * sz)).drop (l * sz)) (by omega) (by omega) hsz' ?_ ?_ ?_ ?_
    · intro ha
      by_cases e : m = l
      · refine ⟨?_, by omega⟩
        have : h - l = 0 := by omega
        rw [this] at hlen
        exact List.length_eq_zero_iff.1 hlen
      · rw [if_neg e] at ha
        have ha' : a = none := by cases a <;> simp at ha ⊢
        have := (hn ha').2
        omega
    · rw [hflat]; simp [hv]
    · intro ad ha
      by_cases e : m = l
      · rw [if_pos e] at ha
        obtain ⟨g1, g2⟩ := hD ad ha
        refine ⟨.inl (by omega), fun j v hj => ?_⟩
        rw [List.getElem?_drop, List.getElem?_take] at hj
        have : h = l := by omega
        subst this
        rw [if_neg (by omega)] at hj; cases hj
      · rw [if_neg e] at ha
        cases a with
        | none => simp at ha
        | some a0 =>
          obtain ⟨g1, g2⟩ := hD a0 rfl
          have g1 : a0.spot = none := g1.resolve_left (by omega)
          simp only [Option.map_some, Option.some.injEq] at ha
          rw [addr_add g1] at ha
          subst ha
          refine ⟨.inr rfl, fun j v hj => ?_⟩
          rw [List.getElem?_drop, List.getElem?_take] at hj
          split at hj
          · have := g2 _ v hj
            simpa [Nat.add_assoc] using this
          · cases hj
    · intro j c v hc' hj
      rw [hflat, List.getElem?_drop, List.getElem?_take] at hc'
      rw [List.getElem?_drop, List.getElem?_take] at hj
      split at hj
      · rename_i hlt; rw [if_pos hlt] at hc'; exact hr' _ c v hc' hj
      · cases hj

/-- The bounds of a slice expression. -/
structure Bounds (lo hi mx : Option Value) (len cap l h m : Nat) : Prop where
  cm : (mx = none ∧ m = cap) ∨ (∃ k, mx = some (.int k m) ∧ m ≤ cap ∧ hi ≠ none)
  ch : (hi = none ∧ h = len) ∨ (∃ k, hi = some (.int k h))
  cl : (lo = none ∧ l = 0) ∨ (∃ k, lo = some (.int k l))
  lh : l ≤ h
  hm : h ≤ m

theorem sliceBounds_run {isS : Bool} {len cap l h m : Nat} {lo hi mx : Option Value} (b : Bounds lo hi mx len cap l h m) :
    (Instr.sliceBounds isS len cap lo hi mx).run P w = .ok (l, h, m) w := by
  obtain ⟨hm, hh, hl, lh, hm'⟩ := b
  have hb : ∀ (k : IntKind) (i y : Nat) (c : BoundsCode), i ≤ y → (Instr.sliceBound (.int k i) y c).run P w = .ok i w := by
    intro k i y c h
    simp [Instr.sliceBound, asIntOf, h]
  rcases hm with ⟨rfl, rfl⟩ | ⟨k, rfl, h1, h2⟩ <;> rcases hh with ⟨rfl, rfl⟩ | ⟨k', rfl⟩ <;> rcases hl with ⟨rfl, rfl⟩ | ⟨k'', rfl⟩ <;>
    simp_all [Instr.sliceBounds]

/-- The bounds that the evaluator's own conditions give. -/
theorem bounds_of {lo hi mx : Option AV} {lo' hi' mx' : Option Int} {ul uh um : Option Value} {n cap len : Nat} (el : bnd lo = some lo') (eh : bnd hi = some hi') (em : bnd mx = some mx')
    (rl : ∀ x, lo = some x → ∃ y, ul = some y ∧ RepA D β x y) (rh : ∀ x, hi = some x → ∃ y, uh = some y ∧ RepA D β x y) (rm : ∀ x, mx = some x → ∃ y, um = some y ∧ RepA D β x y)
    (nl : lo = none → ul = none) (nh : hi = none → uh = none) (nm : mx = none → um = none) (hlen : n = len) (hcap : n ≤ cap)
    (hc : cutC lo' hi' n = true) (hmx : maxC hi' mx' n = true) :
    ∃ l h m, Bounds ul uh um len cap l h m ∧ m ≤ cap ∧ h ≤ n ∧ (l = (lo'.getD 0).toNat ∧ h = (hi'.getD n).toNat ∧ (mx' = none → m = cap)) ∧ ∀ {α : Type} (x : List α), x.length = n → cutL lo' hi' x = (x.take h).drop l := by
  subst hlen
  cases lo' with
  | none =>
    have e1 := bnd_none el nl
    cases hi' with
    | none =>
      have e2 := bnd_none eh nh
      cases mx' with
      | none =>
        have e3 := bnd_none em nm
        exact ⟨0, n, cap, ⟨.inl ⟨e3, rfl⟩, .inl ⟨e2, rfl⟩, .inl ⟨e1, rfl⟩, by omega, hcap⟩, Nat.le_refl _, Nat.le_refl _, ⟨by simp, by simp, by simp⟩, fun x hx => by simp [cutL, ← hx]⟩
      | some m => simp [maxC] at hmx
    | some b =>
      obtain ⟨k2, e2⟩ := bnd_some eh rh
      simp only [cutC, Bool.and_eq_true, decide_eq_true_eq] at hc
      obtain ⟨b, rfl⟩ := Int.eq_ofNat_of_zero_le hc.1
      cases mx' with
      | none =>
        have e3 := bnd_none em nm
        exact ⟨0, b, cap, ⟨.inl ⟨e3, rfl⟩, .inr ⟨k2, e2⟩, .inl ⟨e1, rfl⟩, by omega, by omega⟩, Nat.le_refl _, by omega, ⟨by simp, by simp, by simp⟩, fun x hx => by simp [cutL]⟩
      | some m =>
        obtain ⟨k3, e3⟩ := bnd_some em rm
        simp only [maxC, Bool.and_eq_true, decide_eq_true_eq] at hmx
        obtain ⟨m, rfl⟩ := Int.eq_ofNat_of_zero_le (a := m) (by omega)
        exact ⟨0, b, m, ⟨.inr ⟨k3, e3, by omega, by rw [e2]; simp⟩, .inr ⟨k2, e2⟩, .inl ⟨e1, rfl⟩, by omega, by omega⟩, by omega, by omega, ⟨by simp, by simp, by simp⟩, fun x hx => by simp [cutL]⟩
  | some a =>
    obtain ⟨k1, e1⟩ := bnd_some el rl
    cases hi' with
    | none =>
      have e2 := bnd_none eh nh
      simp only [cutC, Bool.and_eq_true, decide_eq_true_eq] at hc
      obtain ⟨a, rfl⟩ := Int.eq_ofNat_of_zero_le hc.1
      cases mx' with
      | none =>
        have e3 := bnd_none em nm
        exact ⟨a, n, cap, ⟨.inl ⟨e3, rfl⟩, .inl ⟨e2, rfl⟩, .inr ⟨k1, e1⟩, by omega, hcap⟩, Nat.le_refl _, Nat.le_refl _, ⟨by simp, by simp, by simp⟩, fun x hx => by simp [cutL, ← hx]⟩
      | some m => simp [maxC] at hmx
    | some b =>
      obtain ⟨k2, e2⟩ := bnd_some eh rh
      simp only [cutC, Bool.and_eq_true, decide_eq_true_eq] at hc
      obtain ⟨a, rfl⟩ := Int.eq_ofNat_of_zero_le hc.1.1
      obtain ⟨b, rfl⟩ := Int.eq_ofNat_of_zero_le (a := b) (by omega)
      cases mx' with
      | none =>
        have e3 := bnd_none em nm
        exact ⟨a, b, cap, ⟨.inl ⟨e3, rfl⟩, .inr ⟨k2, e2⟩, .inr ⟨k1, e1⟩, by omega, by omega⟩, Nat.le_refl _, by omega, ⟨by simp, by simp, by simp⟩, fun x hx => by simp [cutL]⟩
      | some m =>
        obtain ⟨k3, e3⟩ := bnd_some em rm
        simp only [maxC, Bool.and_eq_true, decide_eq_true_eq] at hmx
        obtain ⟨m, rfl⟩ := Int.eq_ofNat_of_zero_le (a := m) (by omega)
        exact ⟨a, b, m, ⟨.inr ⟨k3, e3, by omega, by rw [e2]; simp⟩, .inr ⟨k2, e2⟩, .inr ⟨k1, e1⟩, by omega, by omega⟩, by omega, by omega, ⟨by simp, by simp, by simp⟩, fun x hx => by simp [cutL]⟩

theorem sliceAt_slice_run {t e : TypeId} {y : Ty} {len cap l h m : Nat} {a : Option Addr} {lo hi mx : Option Value} (hu : P.underlying t = some (.slice e)) (hT : TyOK1 P e y) (b : Bounds lo hi mx len cap l h m) :
    (Instr.sliceAt t (.slice a len cap) lo hi mx).run P w = .ok (.slice (if m = l then a else a.map (·.add (l * y.size))) (h - l) (m - l)) w := by
  simp [Instr.sliceAt, Instr.slice, run_underlying hu, sliceBounds_run b, run_sizeOf hT]

theorem slice_ok (hE : TyOK P E) (hp : Heap D β objs w) (t : TypeId) {x : AV} {v : Value} {lo hi mx : Option AV} {ul uh um : Option Value} (hx : RepA D β x v)
    (rl : ∀ x, lo = some x → ∃ y, ul = some y ∧ RepA D β x y) (rh : ∀ x, hi = some x → ∃ y, uh = some y ∧ RepA D β x y) (rm : ∀ x, mx = some x → ∃ y, um = some y ∧ RepA D β x y)
    (nl : lo = none → ul = none) (nh : hi = none → uh = none) (nm : mx = none → um = none) :
    ValOK P D β objs w (Instr.sliceAt t v ul uh um) (sliceR E t x lo hi mx objs) := by
  unfold sliceR
  split
  · rename_i y lo' hi' mx' hty el eh em
    have hu := (hE t _ hty).und
    split
    · rename_i hd
      rw [hd] at hu
      split
      · rename_i s
        cases hx with
        | d hx =>
          cases hx with
          | @str _ b hs =>
            have hl := str_size hs
            refine .pure hp (fun hc => ?_)
            obtain ⟨l, h, m, hb, _, hle, _, hcut⟩ := bounds_of el eh em rl rh rm nl nh nm hl (Nat.le_of_eq hl) hc (by cases hi' <;> rfl)
            have emx := bnd_none em nm
            subst emx
            refine ⟨.string (b.extract l h), ?_, .d (.str ?_)⟩
            · simp [Instr.sliceAt, Instr.slice, run_underlying hu, sliceBounds_run (P := P) (w := w) (isS := false) hb]
            · rw [Lib.extract_data, hcut s rfl, hs, List.drop_take, List.map_take, List.map_drop]
      · exact .none
    · rename_i e hd
      rw [hd] at hu
      split
      · rename_i ye sz es hye
        split
        · rename_i hsz
          have hsz := Nat.eq_of_beq_eq_true hsz
          cases hx with
          | d hx =>
            cases hx with
            | @sl _ _ a cap vs g1 g2 g3 g4 g5 g6 g7 =>
              refine .pure hp (fun hc => ?_)
              simp only [Bool.and_eq_true] at hc
              obtain ⟨l, h, m, hb, hmc, hle, _, hcut⟩ := bounds_of el eh em rl rh rm nl nh nm rfl g1 hc.1 hc.2
              refine ⟨_, sliceAt_slice_run hu (hE e _ hye) hb, .d ?_⟩
              rw [hcut es rfl, hsz]
              exact sl_part (.sl vs g1 g2 g3 g4 g5 g6 g7) hb.lh hb.hm hmc hle
        · exact .none
      · rename_i ye ri sz es hye
        split
        · rename_i hsz
          have hsz := Nat.eq_of_beq_eq_true hsz
          cases hx with
          | @sr _ _ _ bi a cap hb1 hb2 hx =>
            have hle0 : es.length ≤ cap := by cases hx with | sl vs g1 => exact g1
            refine .pure hp (fun hc => ?_)
            simp only [Bool.and_eq_true] at hc
            obtain ⟨l, h, m, hb, hmc, hle, _, hcut⟩ := bounds_of el eh em rl rh rm nl nh nm rfl hle0 hc.1 hc.2
            refine ⟨_, sliceAt_slice_run hu (hE e _ hye) hb, .d ?_⟩
            rw [hcut es rfl, hsz]
            exact sl_part hx hb.lh hb.hm hmc hle
        · exact .none
      · rename_i ye hye
        cases hx with
        | d hx =>
          cases hx
          refine .pure hp (fun hc => ?_)
          simp only [Bool.and_eq_true] at hc
          obtain ⟨l, h, m, hb, hmc, hle, _, hcut⟩ := bounds_of (n := 0) el eh em rl rh rm nl nh nm rfl (Nat.le_refl 0) hc.1 hc.2
          have : m = l := by have := hb.lh; have := hb.hm; omega
          refine ⟨_, sliceAt_slice_run hu (hE e _ hye) hb, .d ?_⟩
          have h0 : h - l = 0 := by omega
          rw [if_pos this, h0, show m - l = 0 from by omega]
          exact .nilsl
      · rename_i ye ri sz l0 len hye
        split
        · split
          · rename_i hsz
            have hsz := Nat.eq_of_beq_eq_true hsz
            cases hx with
            | @vs _ _ _ _ cap c bi a ad hb1 hb2 hle0 hm0 hn hx0 =>
              refine .pure hp (fun hc => ?_)
              obtain ⟨l, h, m, hb, hmc, hle, ⟨el', eh', em'⟩, _⟩ := bounds_of (n := len) el eh em rl rh rm nl nh nm rfl hle0 hc (by cases hi' <;> rfl)
              have hm := em' rfl
              subst hm
              refine ⟨_, sliceAt_slice_run hu (hE e _ hye) hb, ?_⟩
              rw [← el', ← eh', hsz]
              have hlh := hb.lh
              refine .vs hb1 hb2 (by omega) (by omega) ⟨hn.1, fun h => ?_, fun x h => ?_⟩ (fun hor => ?_)
              · by_cases e : m = l
                · omega
                · rw [if_neg e] at h
                  cases ad with
                  | none => have := hn.2.1 rfl; omega
                  | some ad => cases h
              · by_cases e : m = l
                · rw [if_pos e] at h; exact hn.2.2 x h
                · rw [if_neg e] at h
                  cases ad with
                  | none => cases h
                  | some ad => simp only [Option.map_some, Option.some.injEq] at h; rw [← h, addr_add (hn.2.2 ad rfl)]
              obtain ⟨rfl, hcap⟩ := hx0 (by rcases hor with h | h <;> omega)
              refine ⟨?_, by omega⟩
              by_cases e : m = l
              · rw [if_pos e]
                have : l = 0 := by rcases hor with h | h <;> omega
                subst this; simp
              · rw [if_neg e]
                cases a with
                | none => rfl
                | some a0 => simp only [Option.map_some]; rw [addr_add rfl]; simp [Nat.add_mul]
          · exact .none
        · exact .none
      · exact .none
    · rename_i n e hd
      rw [hd] at hu
      split
      · rename_i ye b off hye
        split
        · rename_i hcond
          simp only [Bool.and_eq_true] at hcond
          cases hx with
          | @bp _ _ bi hb0 =>
            refine .pure hp (fun _ => ?_)
            obtain ⟨l, h, m, hb, hmc, hle, ⟨el', eh', em'⟩, _⟩ := bounds_of (n := n) el eh em rl rh rm nl nh nm rfl (Nat.le_refl n) hcond.1 (by cases hi' <;> rfl)
            have hm := em' rfl
            subst hm
            rw [← el', ← eh']
            have hne : ¬ m = l := by
              intro e
              have := hcond.2
              rw [← el', ← e] at this
              simp at this
            refine ⟨.slice (some ⟨bi.blk, off + l * ye.size, none⟩) (h - l) (m - l), ?_, .bs hb0⟩
            have := addr_add (a := ⟨bi.blk, off, none⟩) rfl (l * ye.size)
            simp [Instr.sliceAt, Instr.sureAddr, run_underlying hu, sliceBounds_run (P := P) (w := w) (isS := false) hb, run_sizeOf (hE e _ hye), hne, this]
        · exact .none
      · rename_i ye cs hye
        split
        · rename_i hcond
          simp only [Bool.and_eq_true] at hcond
          cases hx with
          | d hx =>
            cases hx with
            | @ep _ ad vs hs hv hD hr =>
              refine .pure hp (fun hc => ?_)
              have hsz := Nat.eq_of_beq_eq_true hcond.1.1
              have hna := Nat.le_of_ble_eq_true hcond.1.2
              have hn := Nat.eq_of_beq_eq_true hcond.2
              obtain ⟨l, h, m, hb, hmc, hle, ⟨el', eh', em'⟩, hcut⟩ := bounds_of (n := n) el eh em rl rh rm nl nh nm rfl (Nat.le_refl n) hc (by cases hi' <;> rfl)
              have hm := em' rfl
              subst hm
              refine ⟨_, by simp [Instr.sliceAt, Instr.sureAddr, run_underlying hu, sliceBounds_run (P := P) (w := w) (isS := false) hb, run_sizeOf (hE e _ hye)]; rfl, .d ?_⟩
              rw [hcut cs hn.symm, hsz]
              have hone : ∀ (j : Nat) c v, cs[j]? = some c → vs[j]? = some v → cellsD c = [c] := fun j c v hc hv' => cellsD_one (hr j c v hc hv') (hp.dh _ _ (hD j v hv')).2.1
              have hone' : ∀ e, e ∈ cs → (cellsD e).length = 1 := by
                intro e he
                obtain ⟨j, hj, rfl⟩ := List.getElem_of_mem he
                rw [hone j _ (vs[j]'(by omega)) (by simp [hj]) (by simp)]; rfl
              have hflat : flatD cs = cs := by
                apply List.ext_getElem?
                intro j
                by_cases hj : j < cs.length
                · have := flat_elem hone' (i := j) (e := cs[j]) (by simp [hj]) 0 (by omega)
                  rw [Nat.mul_one, Nat.add_zero] at this
                  rw [this, hone j cs[j] (vs[j]'(by omega)) (by simp [hj]) (by simp)]
                  simp [hj]
                · rw [List.getElem?_eq_none (by have := flat_length hone'; omega), List.getElem?_eq_none (by omega)]
              have hbase : RepD D (.sl 1 cs) (.slice (some ad) m m) := by
                rw [hn]
                refine .sl vs (Nat.le_refl _) (by simp only [maxLen]; omega) hone' (by simp) (by rw [hflat, hv]) (fun ad' e => ?_) (by rw [hflat]; exact hr)
                cases e; exact ⟨.inr hs, hD⟩
              have := sl_part hbase hb.lh hb.hm (Nat.le_refl _) (by omega)
              by_cases e : m = l
              · simpa [e] using this
              · simpa [e] using this
        · exact .none
      · exact .none
    · exact .none
  · exact .none

end
end Go.Av

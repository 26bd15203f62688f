/-
  Parts of the way to the law, joined. Conditions stand at each.
-/
import Derived.Test.YtbbdpddeabojgaaTs4
import Derived.Test.YtbbdpddeabojgaaTs3
set_option linter.all false
noncomputable section
namespace Go.Av
set_option maxRecDepth 10000
theorem goT_app {Q : TE} : ∀ {l : List Nat} {m : List Nat} {a : Nat}, goT Q a (l ++ m) = (goT Q a l).bind fun b => goT Q b m
  | [], m, a => rfl
  | e :: l, m, a => by
    simp only [List.cons_append, goT]
    split
    · exact goT_app
    · rfl
theorem step_new {T : Trt} {a e : Nat} {pre : List Nat} (h : OkT T) (hp : goT T.q 0 pre = some a) : ∀ (es : List Nat) (n : Nat), goT (stepT T a e).q 0 es = some n → (∃ m, goT T.q 0 es = some m) ∨ es = pre ++ [e] := by
  by_cases hm : (a, e) ∈ T.q
  · intro es n hn
    rw [stepT, if_pos hm] at hn
    exact .inl ⟨n, hn⟩
  · have hq : (stepT T a e).q = T.q ++ [(a, e)] := by rw [stepT, if_neg hm]
    have hal := goT_le (Nat.zero_le _) hp
    rw [hq]
    refine rev_ind (fun n _ => .inl ⟨0, rfl⟩) (fun l f ih n hn => ?_)
    rw [goT_snoc] at hn
    cases hb : goT (T.q ++ [(a, e)]) 0 l with
    | none => rw [hb] at hn; cases hn
    | some b =>
      rw [hb] at hn
      simp only [Option.bind_some] at hn
      split at hn
      · rename_i hbf
        rcases ih b hb with ⟨m, hm1⟩ | rfl
        · have : m = b := by
            have := goT_mono (R := [(a, e)]) hm1
            rw [hb] at this; exact (Option.some.inj this).symm
          subst this
          rcases List.mem_append.1 hbf with h1 | h1
          · refine .inl ⟨toT T.q m f, ?_⟩
            rw [goT_snoc, hm1]
            simp only [Option.bind_some]
            rw [if_pos h1]
          · simp only [List.mem_cons, List.not_mem_nil, or_false, Prod.mk.injEq] at h1
            obtain ⟨rfl, rfl⟩ := h1
            have := goT_inj l hm1 hp
            subst this
            exact .inr rfl
        · exfalso
          have h2 := goT_mono (R := [(a, e)]) hp
          rw [goT_snoc, h2] at hb
          simp only [Option.bind_some] at hb
          rw [if_pos (by simp), toT_app hm, if_pos rfl] at hb
          have hbl : b = T.q.length + 1 := (Option.some.inj hb).symm
          rcases List.mem_append.1 hbf with h1 | h1
          · obtain ⟨i, hi⟩ := List.getElem?_of_mem h1
            have := (h.le i _ _ hi).1
            have := (List.getElem?_eq_some_iff.1 hi).1
            omega
          · simp only [List.mem_cons, List.not_mem_nil, or_false, Prod.mk.injEq] at h1
            omega
      · cases hn
theorem walk_new : ∀ {es : List Nat} {T : Trt} {a : Nat} {pre : List Nat}, OkT T → goT T.q 0 pre = some a → (∀ e ∈ es, e ≤ 8) → ∀ (w : List Nat) (n : Nat), goT (walkT T a es).1.q 0 w = some n → (∃ m, goT T.q 0 w = some m) ∨ w <+: pre ++ es
  | [], T, a, pre, _, _, _, w, n, hn => .inl ⟨n, hn⟩
  | e :: es, T, a, pre, h, hp, he, w, n, hn => by
    have ha := goT_le (Nat.zero_le _) hp
    have h' := stepT_ok h ha (he e (by simp))
    obtain ⟨R, r1, r2, r3, r4⟩ := stepT_ext T a e
    have hp' : goT (stepT T a e).q 0 (pre ++ [e]) = some (toT (stepT T a e).q a e) := by
      rw [goT_snoc, r1, goT_mono hp]
      simp only [Option.bind_some]
      rw [if_pos (by rw [← r1]; exact r4)]
    rcases walk_new h' hp' (fun f hf => he f (by simp [hf])) w n hn with ⟨m, hm⟩ | hw
    · rcases step_new h hp w m hm with h1 | rfl
      · exact .inl h1
      · exact .inr ⟨es, by simp⟩
    · rw [List.append_assoc] at hw
      exact .inr hw
def PreT (k : Nat) (T : Trt) (S : List (List Nat × Int)) : Prop := ∀ es n, goT T.q 0 es = some n → es = [] ∨ ∃ y ∈ S, es <+: edgesT k y.1
theorem PreT.zero (k : Nat) : PreT k Tz0 [] := fun es n h => by
  cases es with
  | nil => exact .inl rfl
  | cons e es => simp [goT, Tz0] at h
theorem PreT.put {k : Nat} {T : Trt} {S : List (List Nat × Int)} (h : PreT k T S) (ho : OkT T) {x : List Nat} {p : Int} (hx : ∀ e ∈ x, e < 8) : PreT k (putT k T (x, p)) (S ++ [(x, p)]) := fun es n hn => by
  have hn : goT (walkT T 0 (edgesT k x)).1.q 0 es = some n := hn
  rcases walk_new (pre := []) ho rfl (edges8 hx) es n hn with ⟨m, hm⟩ | hw
  · rcases h es m hm with h1 | ⟨y, hy, h1⟩
    · exact .inl h1
    · exact .inr ⟨y, by simp [hy], h1⟩
  · exact .inr ⟨(x, p), by simp, by simpa using hw⟩
theorem putT_okL {k : Nat} {T : Trt} (h : OkT T) {x : List Nat} (p : Int) (hx : ∀ e ∈ x, e < 8) (hl : x.length ≤ k) : OkT (putT k T (x, p)) ∧ (putT k T (x, p)).q.length ≤ T.q.length + k := by
  obtain ⟨g1, g2, R, r1, r2, r3⟩ := walkT_ok (es := edgesT k x) h (a := 0) (Nat.zero_le _) (edges8 hx)
  refine ⟨⟨by simp [putT, g1.len], g1.nd, g1.le⟩, ?_⟩
  show (walkT T 0 (edgesT k x)).1.q.length ≤ _
  have : (edgesT k x).length ≤ k := by
    unfold edgesT
    split
    · simp only [List.length_append, List.length_cons, List.length_nil]; omega
    · exact hl
  rw [r1, List.length_append]; omega
theorem PreT.fold {k : Nat} : ∀ {L : List (List Nat × Int)} {T : Trt} {S : List (List Nat × Int)}, PreT k T S → OkT T → (∀ x ∈ L, (∀ e ∈ x.1, e < 8) ∧ x.1.length ≤ k) → PreT k (L.foldl (putT k) T) (S ++ L) ∧ OkT (L.foldl (putT k) T) ∧ (L.foldl (putT k) T).q.length ≤ T.q.length + k * L.length
  | [], T, S, h, ho, _ => ⟨by simpa using h, ho, by simp⟩
  | (x, p) :: L, T, S, h, ho, hL => by
    have hx : (∀ e ∈ x, e < 8) ∧ x.length ≤ k := hL (x, p) (by simp)
    obtain ⟨o1, o2⟩ := putT_okL (k := k) ho p hx.1 hx.2
    obtain ⟨i1, i2, i3⟩ := PreT.fold (L := L) (h.put ho (p := p) hx.1) o1 (fun y hy => hL y (by simp [hy]))
    refine ⟨by simpa using i1, i2, ?_⟩
    rw [List.length_cons, Nat.mul_succ]
    simp only [List.foldl_cons]
    omega
theorem edges_pre {k : Nat} {y z : List Nat} (hy : ∀ e ∈ y, e < 8) (hz : ∀ e ∈ z, e < 8) (hyk : y.length ≤ k) (hzk : z.length ≤ k) (h : edgesT k y <+: edgesT k z) : y = z := by
  obtain ⟨t, ht⟩ := h
  unfold edgesT at ht
  have hlen := congrArg List.length ht
  split at ht <;> split at ht
  · rename_i h1 h2
    rw [List.append_assoc] at ht
    rcases List.eq_nil_or_concat t with rfl | ⟨u, f, rfl⟩
    · simpa using ht
    · exfalso
      rw [List.concat_eq_append, ← List.append_assoc, ← List.append_assoc] at ht
      have := List.append_inj_left' ht rfl
      have := hz 8 (by rw [← this]; simp)
      omega
  · exfalso
    have := hz 8 (by rw [← ht]; simp)
    omega
  · rename_i h1 h2
    exfalso
    rw [if_neg h1, if_pos h2] at hlen
    simp only [List.length_append, List.length_cons, List.length_nil] at hlen
    have ht0 : t = [] := List.length_eq_zero_iff.1 (by omega)
    subst ht0
    have := hy 8 (by rw [List.append_nil] at ht; rw [ht]; simp)
    omega
  · rename_i h1 h2
    rw [if_neg h1, if_neg h2] at hlen
    simp only [List.length_append] at hlen
    have ht0 : t = [] := List.length_eq_zero_iff.1 (by omega)
    subst ht0
    simpa using ht
structure FinT (k : Nat) (T : Trt) (S : List (List Nat × Int)) : Prop where
  ok : OkT T
  k1 : 1 ≤ k
  rt : ∀ x ∈ S, (∀ e ∈ x.1, e < 8) ∧ x.1.length ≤ k
  has : ∀ x p, (x, p) ∈ S → ∃ n, goT T.q 0 (edgesT k x) = some n ∧ T.v[n]? = some p
  pre : PreT k T S
theorem nodeAt_row {T : Trt} {a : Nat} (h : a ≤ T.q.length) : nodeAt (rowT T) (a : Int) = some (ndT T a) := by
  unfold nodeAt
  rw [if_neg (by omega), Int.toNat_natCast, rowT_get h]
theorem ndT_getD {T : Trt} {a e : Nat} (h : e < 9) : (ndT T a).x.getD e 0 = (toT T.q a e : Int) := by
  rw [List.getD_eq_getElem?_getD, ndT_x h]; rfl
theorem mem_kids {f : Int → List Nat → List (List Nat × Int)} {T : Trt} {a : Nat} {x : List Nat} {z : List Nat × Int} : ∀ {m : Nat}, m ≤ 8 → (z ∈ kidsF f (ndT T a) x m ↔ ∃ s, 8 - m ≤ s ∧ s < 8 ∧ toT T.q a s ≠ 0 ∧ z ∈ f (toT T.q a s) (x ++ [s]))
  | 0, _ => by
    simp only [kidsF, List.not_mem_nil, false_iff, not_exists]
    intro s h; omega
  | m + 1, hm => by
    simp only [kidsF, List.mem_append, mem_kids (m := m) (show m ≤ 8 by omega)]
    rw [ndT_getD (by omega)]
    constructor
    · rintro (h | ⟨s, h1, h2, h3, h4⟩)
      · split at h
        · simp at h
        · rename_i hn
          exact ⟨7 - m, by omega, by omega, by omega, h⟩
      · exact ⟨s, by omega, h2, h3, h4⟩
    · rintro ⟨s, h1, h2, h3, h4⟩
      by_cases hs : s = 7 - m
      · subst hs
        left
        rw [if_neg (by omega)]; exact h4
      · exact .inr ⟨s, by omega, h2, h3, h4⟩
theorem toT_ne {Q : TE} {a e : Nat} : toT Q a e ≠ 0 ↔ (a, e) ∈ Q := by
  constructor
  · intro h
    refine Classical.byContradiction fun hn => h (toT_not hn)
  · intro h; rw [toT_mem h]; omega
theorem vget {T : Trt} (h : OkT T) {a : Nat} (ha : a ≤ T.q.length) {p : Int} : T.v[a]? = some p ↔ p = T.v.getD a (-1) := by
  have := h.len
  rw [List.getD_eq_getElem?_getD, List.getElem?_eq_getElem (by omega)]
  simp [eq_comm]
theorem mem_lv {k : Nat} {T : Trt} (ho : OkT T) : ∀ (d : Nat) (x : List Nat) (a : Nat), x.length + d = k → goT T.q 0 x = some a → (∀ e ∈ x, e < 8) → ∀ y p, (y, p) ∈ lvF (rowT T) d a x ↔ x <+: y ∧ y.length ≤ k ∧ (∀ e ∈ y, e < 8) ∧ ∃ n, goT T.q 0 (edgesT k y) = some n ∧ T.v[n]? = some p
  | 0, x, a, hx, hg, h8, y, p => by
    have ha := goT_le (Nat.zero_le _) hg
    unfold lvF
    rw [nodeAt_row ha]
    simp only [List.mem_cons, List.not_mem_nil, or_false, Prod.mk.injEq]
    have hek : edgesT k x = x := by rw [edgesT, if_neg (by omega)]
    constructor
    · rintro ⟨rfl, rfl⟩
      exact ⟨⟨[], by simp⟩, by omega, h8, a, by rw [hek]; exact hg, (vget ho ha).2 rfl⟩
    · rintro ⟨⟨t, rfl⟩, h2, h3, n, h4, h5⟩
      have ht : t = [] := by
        rw [List.length_append] at h2
        exact List.length_eq_zero_iff.1 (by omega)
      subst ht
      rw [List.append_nil] at h4 ⊢
      rw [hek, hg] at h4
      cases h4
      exact ⟨rfl, (vget ho ha).1 h5⟩
  | d + 1, x, a, hx, hg, h8, y, p => by
    have ha := goT_le (Nat.zero_le _) hg
    have hek : edgesT k x = x ++ [8] := by rw [edgesT, if_pos (by omega)]
    have hgk : goT T.q 0 (edgesT k x) = if (a, 8) ∈ T.q then some (toT T.q a 8) else none := by rw [hek, goT_snoc, hg]; rfl
    have hkid : (y, p) ∈ kidsF (lvF (rowT T) d) (ndT T a) x 8 ↔ (∃ s, x ++ [s] <+: y) ∧ y.length ≤ k ∧ (∀ e ∈ y, e < 8) ∧ ∃ n, goT T.q 0 (edgesT k y) = some n ∧ T.v[n]? = some p := by
      rw [mem_kids (Nat.le_refl 8)]
      constructor
      · rintro ⟨s, _, h2, h3, h4⟩
        have hgs : goT T.q 0 (x ++ [s]) = some (toT T.q a s) := by
          rw [goT_snoc, hg]
          simp only [Option.bind_some]
          rw [if_pos (toT_ne.1 h3)]
        have := (mem_lv (k := k) ho d (x ++ [s]) (toT T.q a s) (by simp; omega) hgs (by
          intro e he
          rcases List.mem_append.1 he with h | h
          · exact h8 e h
          · simp at h; omega) y p).1 h4
        exact ⟨⟨s, this.1⟩, this.2⟩
      · rintro ⟨⟨s, t, ht⟩, h2, h3, n, h4, h5⟩
        have hs8 : s < 8 := h3 s (by rw [← ht]; simp)
        have hey : ∃ u, edgesT k y = x ++ [s] ++ u := by
          unfold edgesT
          rw [← ht]
          split
          · exact ⟨t ++ [8], by simp⟩
          · exact ⟨t, rfl⟩
        obtain ⟨u, hu⟩ := hey
        have hin : (a, s) ∈ T.q := by
          refine Classical.byContradiction fun hn => ?_
          rw [hu, goT_app, goT_snoc, hg] at h4
          simp only [Option.bind_some] at h4
          rw [if_neg hn] at h4
          cases h4
        have hgs : goT T.q 0 (x ++ [s]) = some (toT T.q a s) := by
          rw [goT_snoc, hg]
          simp only [Option.bind_some]
          rw [if_pos hin]
        exact ⟨s, by omega, hs8, toT_ne.2 hin, (mem_lv (k := k) ho d (x ++ [s]) (toT T.q a s) (by simp; omega) hgs (by
          intro e he
          rcases List.mem_append.1 he with h | h
          · exact h8 e h
          · simp at h; omega) y p).2 ⟨⟨t, ht⟩, h2, h3, n, h4, h5⟩⟩
    have hsplit : (x <+: y ↔ y = x ∨ ∃ s, x ++ [s] <+: y) := by
      constructor
      · rintro ⟨t, rfl⟩
        cases t with
        | nil => exact .inl (by simp)
        | cons s t => exact .inr ⟨s, t, by simp⟩
      · rintro (rfl | ⟨s, t, rfl⟩)
        · exact ⟨[], by simp⟩
        · exact ⟨s :: t, by simp⟩
    unfold lvF
    rw [nodeAt_row ha]
    simp only
    rw [ndT_getD (by omega)]
    by_cases h0 : (a, 8) ∈ T.q
    · rw [if_neg (by have := toT_ne.2 h0; omega), nodeAt_row toT_lt]
      simp only [List.mem_cons, Prod.mk.injEq, hkid]
      rw [if_pos h0] at hgk
      rw [hsplit]
      constructor
      · rintro (⟨rfl, rfl⟩ | ⟨h1, h2⟩)
        · exact ⟨.inl rfl, by omega, h8, _, hgk, (vget ho toT_lt).2 rfl⟩
        · exact ⟨.inr h1, h2⟩
      · rintro ⟨rfl | h1, h2, h3, n, h4, h5⟩
        · rw [hgk] at h4
          cases h4
          exact .inl ⟨rfl, (vget ho toT_lt).1 h5⟩
        · exact .inr ⟨h1, h2, h3, n, h4, h5⟩
    · rw [if_pos (by rw [toT_not h0]; rfl), hkid, hsplit]
      rw [if_neg h0] at hgk
      constructor
      · rintro ⟨h1, h2⟩
        exact ⟨.inr h1, h2⟩
      · rintro ⟨rfl | h1, h2, h3, n, h4, h5⟩
        · rw [hgk] at h4; cases h4
        · exact ⟨h1, h2, h3, n, h4, h5⟩
theorem cmpL_ext : ∀ (x : List Nat) (s : Nat) (t : List Nat), cmpL x (x ++ s :: t) < 0
  | [], s, t => by simp [cmpL]
  | a :: x, s, t => by
    simp only [List.cons_append, cmpL, Nat.lt_irrefl, if_false]
    exact cmpL_ext x s t
theorem cmpL_br {s s' : Nat} (h : s < s') : ∀ (x t t' : List Nat), cmpL (x ++ s :: t) (x ++ s' :: t') < 0
  | [], t, t' => by simp only [List.nil_append, cmpL]; rw [if_pos h]; decide
  | a :: x, t, t' => by
    simp only [List.cons_append, cmpL, Nat.lt_irrefl, if_false]
    exact cmpL_br h x t t'
abbrev ascE (L : List (List Nat × Int)) : Prop := L.Pairwise fun u v => cmpL u.1 v.1 < 0
theorem kids_asc {f : Int → List Nat → List (List Nat × Int)} {T : Trt} {a : Nat} {x : List Nat} (hf : ∀ s, s < 8 → toT T.q a s ≠ 0 → ascE (f (toT T.q a s) (x ++ [s])) ∧ ∀ z ∈ f (toT T.q a s) (x ++ [s]), x ++ [s] <+: z.1) : ∀ {m : Nat}, m ≤ 8 → ascE (kidsF f (ndT T a) x m)
  | 0, _ => List.Pairwise.nil
  | m + 1, hm => by
    have ih := kids_asc hf (m := m) (by omega)
    simp only [kidsF]
    rw [ndT_getD (by omega)]
    split
    · simpa using ih
    · rename_i hn
      have h7 := hf (7 - m) (by omega) (by omega)
      refine List.pairwise_append.2 ⟨h7.1, ih, fun u hu v hv => ?_⟩
      obtain ⟨s, h1, h2, h3, h4⟩ := (mem_kids (show m ≤ 8 by omega)).1 hv
      obtain ⟨t, ht⟩ := h7.2 u hu
      obtain ⟨t', ht'⟩ := (hf s h2 h3).2 v h4
      rw [← ht, ← ht', List.append_assoc, List.append_assoc]
      exact cmpL_br (by omega) x t t'
theorem lv_asc {k : Nat} {T : Trt} (ho : OkT T) : ∀ (d : Nat) (x : List Nat) (a : Nat), x.length + d = k → goT T.q 0 x = some a → (∀ e ∈ x, e < 8) → ascE (lvF (rowT T) d a x)
  | 0, x, a, hx, hg, h8 => by
    unfold lvF
    rw [nodeAt_row (goT_le (Nat.zero_le _) hg)]
    simp
  | d + 1, x, a, hx, hg, h8 => by
    have ha := goT_le (Nat.zero_le _) hg
    have hx8 : ∀ s, s < 8 → ∀ e ∈ x ++ [s], e < 8 := fun s hs e he => by
      rcases List.mem_append.1 he with h | h
      · exact h8 e h
      · simp at h; omega
    have hgs : ∀ s, toT T.q a s ≠ 0 → goT T.q 0 (x ++ [s]) = some (toT T.q a s) := fun s hs => by
      rw [goT_snoc, hg]
      simp only [Option.bind_some]
      rw [if_pos (toT_ne.1 hs)]
    have hk : ∀ s, s < 8 → toT T.q a s ≠ 0 → ascE (lvF (rowT T) d (toT T.q a s) (x ++ [s])) ∧ ∀ z ∈ lvF (rowT T) d (toT T.q a s) (x ++ [s]), x ++ [s] <+: z.1 := fun s h1 h2 =>
      ⟨lv_asc (k := k) ho d (x ++ [s]) _ (by simp; omega) (hgs s h2) (hx8 s h1), fun z hz => ((mem_lv ho d (x ++ [s]) _ (k := k) (by simp; omega) (hgs s h2) (hx8 s h1) z.1 z.2).1 hz).1⟩
    have hka := kids_asc hk (Nat.le_refl 8)
    unfold lvF
    rw [nodeAt_row ha]
    simp only
    rw [ndT_getD (by omega)]
    split
    · exact hka
    · rw [nodeAt_row toT_lt]
      simp only
      refine List.pairwise_cons.2 ⟨fun v hv => ?_, hka⟩
      obtain ⟨s, _, h2, h3, h4⟩ := (mem_kids (Nat.le_refl 8)).1 hv
      obtain ⟨t, ht⟩ := (hk s h2 h3).2 v h4
      simp only
      rw [← ht, List.append_assoc]
      exact cmpL_ext x s t
end Go.Av
end
noncomputable section
namespace Go.Av
open Go Go.Proofs
set_option maxRecDepth 10000
def fineE (pr : Int) (m : Nat) (E : List (List Nat × Int)) : Prop := ∀ (c : Nat) e, E[c]? = some e → 0 ≤ e.2 ∧ e.2 < pr ∧ c < m
theorem fine_or {pr : Int} {m : Nat} {E : List (List Nat × Int)} : fineE pr m E ∨ ∃ (n : Nat), ∃ e, E[n]? = some e ∧ (e.2 < 0 ∨ pr ≤ e.2 ∨ m ≤ n) ∧ ∀ (c : Nat) e', c < n → E[c]? = some e' → 0 ≤ e'.2 ∧ e'.2 < pr ∧ c < m := by
  have : ∀ j : Nat, (∀ (c : Nat) e, c < j → E[c]? = some e → 0 ≤ e.2 ∧ e.2 < pr ∧ c < m) ∨ ∃ (n : Nat), ∃ e, E[n]? = some e ∧ (e.2 < 0 ∨ pr ≤ e.2 ∨ m ≤ n) ∧ ∀ (c : Nat) e', c < n → E[c]? = some e' → 0 ≤ e'.2 ∧ e'.2 < pr ∧ c < m := by
    intro j
    induction j with
    | zero => exact .inl fun c e h => by omega
    | succ j ih =>
      rcases ih with h | h
      · cases hj : E[j]? with
        | none =>
          refine .inl fun c e hc he => ?_
          rcases Nat.lt_or_ge c j with h1 | h1
          · exact h c e h1 he
          · have : c = j := by omega
            subst this; rw [hj] at he; cases he
        | some e =>
          by_cases hb : 0 ≤ e.2 ∧ e.2 < pr ∧ j < m
          · refine .inl fun c e' hc he => ?_
            rcases Nat.lt_or_ge c j with h1 | h1
            · exact h c e' h1 he
            · have : c = j := by omega
              subst this; rw [hj] at he; cases he; exact hb
          · exact .inr ⟨j, e, hj, by omega, h⟩
      · exact .inr h
  rcases this E.length with h | h
  · exact .inl fun c e he => h c e (List.getElem?_eq_some_iff.1 he).1 he
  · exact .inr h
def vBad (E : List (List Nat × Int)) (c : Nat) : List Ob := .box [.d (.bool false)] :: .box (gcs (E.take c)) :: .box [.d (nI (c + 1))] :: grs (E.take c)
theorem vBad_len (E : List (List Nat × Int)) (c : Nat) : (vBad E c).length = 27 := by simp [vBad, grs_len]
theorem vBad_ref {n : Nat} (h : 27 ≤ n) (E : List (List Nat × Int)) (c : Nat) : (vBad E c).all (refOb n) = true := by
  simp only [vBad, List.all_cons, gcs_ref h, grs_ref, Bool.true_and, Bool.and_true]; rfl
set_option maxHeartbeats 4000000 in
theorem validA (N : List Nd) (h9 : N9 N) (hl : N.length ≤ 1000) (h0 : 0 < N.length) (k t : Nat) (hk : k ≤ 4) (pr : Int) (hp : pr ≤ 24) (b : Bool) (hb : b = true ↔ fineE pr N.length (lvF N k 0 []) ∧ chkAll k t (rawS (vS (lvF N k 0 []))) (vP (lvF N k 0 [])) = 0 ∧ trN k t (rawS (vS (lvF N k 0 []))) (vP (lvF N k 0 [])) = N) : KnownCall Try.prog 59 [nI k, iI t, iI pr, trD N] (.d (.bool b)) := by
  have hnl : (N.map nd).length = N.length := by simp
  have cl := leavesK k t N 0 []
  refine kF Try.func59 [6, 7] fun w => ?_
  have w : Fz [6, 7] := trivial
  repeat refine zS ?_
  iterate 3 refine zX ?_
  repeat refine zS ?_
  iterate 3 refine zX ?_
  refine zB (fun h => ?_) (fun h => ?_)
  · exfalso
    have : (N.map nd).length = 0 := by simpa using h
    omega
  repeat refine zS ?_
  refine zX ?_
  repeat refine zS ?_
  iterate 2 refine zX ?_
  repeat refine zS ?_
  iterate 4 refine zX ?_
  refine zC cl ?_
  repeat refine zS ?_
  obtain ⟨E, hE⟩ : ∃ E, E = lvF N k 0 [] := ⟨_, rfl⟩
  refine Run.weak (weak_of' (l := [(0, .d (nI k)), (1, .d (iI t)), (6, .d (.ep [iI pr])), (7, .d (.ep [.sl 10 (N.map nd)])), (8, .bp 0 0), (9, .bp 1 0), (10, .bp 2 0), (26, .d (.fn (.func 98) [] [.ep [iI 0], .ep [.sl 10 (N.map nd)], .ep (lkC []), .ep [nI k], .ep [iI t]]))]) (objs := crO (.box [.d (.bool false)]) (.box [.d (nI 0)]) 0) (by rfl) rfl (by repeat' (first | exact trivial | refine ⟨rfl, ?_⟩))) ?_
  refine Run.cells24 ?_
  refine Run.weak (weak_of' (l := [(0, .d (nI k)), (1, .d (iI t)), (6, .d (.ep [iI pr])), (7, .d (.ep [.sl 10 (N.map nd)])), (8, .bp 0 0), (9, .bp 1 0), (10, .bp 2 0), (26, .d (.fn (.func 98) [] [.ep [iI 0], .ep [.sl 10 (N.map nd)], .ep (lkC []), .ep [nI k], .ep [iI t]]))]) (objs := vB E 0) (by rfl) rfl (by repeat' (first | exact trivial | refine ⟨rfl, ?_⟩))) ?_
  have hmix : Try.prog.follows .mixedOrders = true := by kernel_rfl
  have hT : ptAll (refA 8 29) (PT.ofList [(0, .d (nI k)), (1, .d (iI t)), (6, .d (.ep [iI pr])), (7, .d (.ep [.sl 10 (N.map nd)])), (8, .bp 0 0), (9, .bp 1 0), (10, .bp 2 0), (26, .d (.fn (.func 98) [] [.ep [iI 0], .ep [.sl 10 (N.map nd)], .ep (lkC []), .ep [nI k], .ep [iI t]]))]) = true := ptAll_ofList ⟨rfl, rfl, rfl, rfl, rfl, rfl, rfl, rfl, trivial⟩
  obtain ⟨n, B2, st, pend, hle, hfine, hor⟩ : ∃ n B2 st pend, n ≤ E.length ∧ (∀ (c : Nat) e', c < n → E[c]? = some e' → 0 ≤ e'.2 ∧ e'.2 < pr ∧ c < N.length) ∧ ((n = E.length ∧ B2 = vB E n ∧ st = LoopState.ready ∧ pend = none) ∨ (∃ e0, E[n]? = some e0 ∧ (e0.2 < 0 ∨ pr ≤ e0.2 ∨ N.length ≤ n) ∧ B2 = vBad E n ∧ st = LoopState.done ∧ pend = some Code.ret)) := by
    rcases fine_or (pr := pr) (m := N.length) (E := E) with hf | ⟨n, e0, he0, hbad, hfine⟩
    · exact ⟨E.length, _, _, _, Nat.le_refl _, fun c e hc he => hf c e he, .inl ⟨rfl, rfl, rfl, rfl⟩⟩
    · exact ⟨n, _, _, _, Nat.le_of_lt (List.getElem?_eq_some_iff.1 he0).1, hfine, .inr ⟨e0, he0, hbad, rfl, rfl, rfl⟩⟩
  have hB2 : B2.length = 27 := by
    rcases hor with ⟨_, rfl, _, _⟩ | ⟨_, _, _, rfl, _, _⟩
    · exact vB_len _ _
    · exact vBad_len _ _
  have hB2r : B2.all (refOb 29) = true := by
    rcases hor with ⟨_, rfl, _, _⟩ | ⟨_, _, _, rfl, _, _⟩
    · exact vB_ref (by omega) _ _
    · exact vBad_ref (by omega) _ _
  have hst : st ≠ .busy := by
    rcases hor with ⟨_, _, rfl, _⟩ | ⟨_, _, _, _, rfl, _⟩ <;> simp
  refine Run.rangeB (frz := [6, 7]) (s := ⟨PT.ofList [(0, .d (nI k)), (1, .d (iI t)), (6, .d (.ep [iI pr])), (7, .d (.ep [.sl 10 (N.map nd)])), (8, .bp 0 0), (9, .bp 1 0), (10, .bp 2 0), (26, .d (.fn (.func 98) [] [.ep [iI 0], .ep [.sl 10 (N.map nd)], .ep (lkC []), .ep [nI k], .ep [iI t]]))], vB E 0, []⟩) (r := .tup []) Et_ok hmix B2 st pend rfl ?_ rfl (by rw [hB2, vB_len]) hst ?_
  · refine leavesC N h9 (by omega) t k hk k [] 0 28 29 (fun c => rangeObs (vB E c) (PT.ofList [(0, .d (nI k)), (1, .d (iI t)), (6, .d (.ep [iI pr])), (7, .d (.ep [.sl 10 (N.map nd)])), (8, .bp 0 0), (9, .bp 1 0), (10, .bp 2 0), (26, .d (.fn (.func 98) [] [.ep [iI 0], .ep [.sl 10 (N.map nd)], .ep (lkC []), .ep [nI k], .ep [iI t]]))]) _ [6, 7] _ _ _ .ready none) n _ (by simp) ⟨by omega, fun c => by simp [rangeObs, vB_len], fun c => ?_, by rw [← hE]; exact hle, fun c e hc he => ?_, ?_, by simp [rangeObs, hB2], ?_⟩
    · show (rangeObs (vB E c) (PT.ofList [(0, .d (nI k)), (1, .d (iI t)), (6, .d (.ep [iI pr])), (7, .d (.ep [.sl 10 (N.map nd)])), (8, .bp 0 0), (9, .bp 1 0), (10, .bp 2 0), (26, .d (.fn (.func 98) [] [.ep [iI 0], .ep [.sl 10 (N.map nd)], .ep (lkC []), .ep [nI k], .ep [iI t]]))]) _ [6, 7] _ _ _ .ready none).all _ = true
      unfold rangeObs
      simp only [List.all_append, vB_ref (show 27 ≤ 29 by omega), List.all_cons, List.all_nil, Bool.true_and, Bool.and_true, refOb, hT]
    · rw [← hE] at he
      obtain ⟨f1, f2, f3⟩ := hfine c e hc he
      refine ayield_box2 (L := 27) (B := vB E c) (B' := vB E (c + 1)) true (lfC e) [(6, .d (.ep [iI pr])), (7, .d (.ep [.sl 10 (N.map nd)])), (8, .bp 0 0), (9, .bp 1 0), (10, .bp 2 0), (11, .d (.ep (lfC e)))] rfl rfl (vB_len _ _) (vB_len _ _) (vB_ref (by omega) _ _) hT ⟨rfl, rfl, rfl, rfl, rfl, rfl, trivial⟩ ?_ (fun a b ha hb => ?_)
      · repeat' (first
          | refine zW ?_
          | refine zB ?_ ?_ <;> intro h <;> try exact zk h
          | refine zX ?_
          | refine oV ?_ (hv := evAny_store_last)
          | (fail)
          | fail)
        exact ⟨rfl, _, rfl, (ofList_cases (by intro q hq; simp only [List.mem_cons, List.not_mem_nil, or_false] at hq; rcases hq with rfl | rfl | rfl | rfl | rfl | rfl; exact .inl (by kernel_rfl); exact .inl (by kernel_rfl); exact .inl (by kernel_rfl); exact .inl (by kernel_rfl); exact .inl (by kernel_rfl); exact .inr ⟨0, Nat.zero_le _, by kernel_rfl, rfl⟩))⟩
      · obtain ⟨x, ep⟩ := e
        obtain ⟨p, rfl⟩ : ∃ p : Nat, ep = p := ⟨ep.toNat, by simp only at f1; omega⟩
        have hp24 : p < 24 := by simp only at f2; omega
        have hw : AV.d (.int .i64 (IntKind.i64.wrap ((c : Int) + 1))) = .d (nI (c + 1)) := by
          congr 2
          have := wrapN (n := c + 1) (by omega)
          rw [← this]; congr 1
        have htk : E.take (c + 1) = E.take c ++ [(x, (p : Int))] := by rw [List.take_add_one, he]; rfl
        have hgl : (grp (E.take c) p).length ≤ c := by
          unfold grp
          rw [List.length_map]
          exact Nat.le_trans (List.length_filter_le _ _) (by rw [List.length_take]; exact Nat.min_le_left _ _)
        unfold vB
        rw [htk]
        generalize E.take c = F at *
        show Run _ _ _ _ _ ⟨PT.ofList [(6, .d (.ep [iI pr])), (7, .d (.ep [.sl 10 (N.map nd)])), (8, .bp 0 0), (9, .bp 1 0), (10, .bp 2 0), (11, .d (.ep (lfC (x, (p : Int)))))], Ob.box [.d (.bool false)] :: Ob.box (gcs F) :: Ob.box [.d (nI c)] :: (grs F ++ [a, b]), []⟩ _
        generalize hR : grs F ++ [a, b] = R
        refine Run.postT ?_
        repeat refine zS ?_
        refine zX ?_
        refine zV hw ?_
        refine oV (v := .d .any) (objs' := Ob.box [.d (.bool false)] :: Ob.box (gcs F) :: Ob.box [.d (nI (c + 1))] :: R) ?_ (ho := rfl)
        repeat refine zS ?_
        iterate 2 refine zX ?_
        refine zB (fun h => ?_) (fun h => ?_)
        · exfalso
          simp at h
          omega
        iterate 4 refine zX ?_
        refine zB (fun h => ?_) (fun h => ?_)
        · exfalso
          simp only at f2
          simp at h
          omega
        iterate 6 refine zX ?_
        refine zB (fun h => ?_) (fun h => ?_)
        · exfalso
          simp at h
          omega
        refine zX ?_
        repeat refine zS ?_
        refine dW w ?_
        iterate 4 refine zX ?_
        refine zCut (show AV.bp 1 (0 + ((p : Nat) : Int).toNat * 1) = .bp 1 p by simp) ?_
        refine eX (v := .sr (3 + p) 5 ((grp F p).map lk)) ?_ (hv := evAny_loadB rfl rfl rfl rfl rfl (gcs_at hp24))
        iterate 3 refine zX ?_
        have hRl : R.length = 26 := by rw [← hR]; simp [grs_len]
        have hRp : ((Ob.box [.d (.bool false)] :: Ob.box (gcs F) :: Ob.box [.d (nI (c + 1))] :: R) ++ [Ob.room 1 ty52.size])[3 + p]? = some (.room (grp F p).length 5) := by
          rw [List.getElem?_append_left (by simp only [List.length_cons]; omega), Nat.add_comm 3 p]
          show R[p]? = _
          rw [← hR, List.getElem?_append_left (by rw [grs_len]; exact hp24)]; exact grs_at hp24
        have hRs : ((Ob.box [.d (.bool false)] :: Ob.box (gcs F) :: Ob.box [.d (nI (c + 1))] :: R) ++ [Ob.room 1 ty52.size]).set (3 + p) (.room ((grp F p).length + 1) 5) = (Ob.box [.d (.bool false)] :: Ob.box (gcs F) :: Ob.box [.d (nI (c + 1))] :: (grs (F ++ [(x, (p : Int))]) ++ [a, b])) ++ [Ob.room 1 ty52.size] := by
          rw [List.set_append_left _ _ (by simp only [List.length_cons]; omega)]
          congr 1
          rw [Nat.add_comm 3 p]
          show _ :: _ :: _ :: R.set p _ = _
          rw [← hR, List.set_append_left _ _ (by rw [grs_len]; exact hp24), grs_set hp24]
        refine eX (v := .sr (3 + p) 5 ((grp F p).map lk ++ [lk x])) (objs' := (Ob.box [.d (.bool false)] :: Ob.box (gcs F) :: Ob.box [.d (nI (c + 1))] :: (grs (F ++ [(x, (p : Int))]) ++ [a, b])) ++ [Ob.room 1 ty52.size]) ?_ (hv := evAny_appL rfl rfl rfl rfl rfl hRp (by omega)) (ho := by exact hRs)
        refine zCut (show AV.bp 1 (0 + ((p : Nat) : Int).toNat * 1) = .bp 1 p by simp) ?_
        refine eX (v := .d .any) (objs' := (Ob.box [.d (.bool false)] :: Ob.box (gcs (F ++ [(x, (p : Int))])) :: Ob.box [.d (nI (c + 1))] :: (grs (F ++ [(x, (p : Int))]) ++ [a, b])) ++ [Ob.room 1 ty52.size]) ?_ (hv := evAny_storeB (c := .sr (3 + p) 5 ((grp F p).map lk ++ [lk x])) rfl rfl rfl rfl rfl rfl rfl rfl (by rw [gcs_len]; exact hp24)) (ho := by rw [← gcs_set hp24]; rfl)
        refine eN ?_
        repeat refine zS ?_
        refine ⟨rfl, ⟨PT.ofList [], Ob.box [.d (.bool false)] :: Ob.box (gcs (F ++ [(x, (p : Int))])) :: Ob.box [.d (nI (c + 1))] :: (grs (F ++ [(x, (p : Int))]) ++ [a, b]), []⟩, ⟨rfl, rfl⟩, tidy_of [] 29 ?_ rfl trivial trivial ?_ rfl⟩
        · rw [List.take_append_of_le_length (by simp [grs_len]), List.take_of_length_le (by simp [grs_len])]
        · have := vB_ref (n := 29) (by omega) (F ++ [(x, (p : Int))]) (F ++ [(x, (p : Int))]).length
          simp only [vB, List.take_length, List.all_cons, Bool.and_eq_true] at this
          simp only [List.all_cons, List.all_append, this.2.1, this.2.2.2, ha, hb, List.all_nil, Bool.true_and, Bool.and_true]
          rfl
    · rcases hor with ⟨hn, rfl, rfl, rfl⟩ | ⟨e0, he0, hbad, rfl, rfl, rfl⟩
      · exact .inl ⟨by rw [hn, hE], rfl⟩
      · refine .inr ⟨e0, by rw [← hE]; exact he0, ?_⟩
        have hnN : n ≤ N.length := by
          rcases Nat.eq_zero_or_pos n with h1 | h1
          · omega
          · have := (hfine (n - 1) E[n - 1] (by omega) (by simp)).2.2
            omega
        refine ayield_box2 (L := 27) (B := vB E n) (B' := vBad E n) false (lfC e0) [(6, .d (.ep [iI pr])), (7, .d (.ep [.sl 10 (N.map nd)])), (8, .bp 0 0), (9, .bp 1 0), (10, .bp 2 0), (11, .d (.ep (lfC e0)))] rfl rfl (vB_len _ _) (vBad_len _ _) (vB_ref (by omega) _ _) hT ⟨rfl, rfl, rfl, rfl, rfl, rfl, trivial⟩ ?_ (fun a b ha hb => ?_)
        · repeat' (first
            | refine zW ?_
            | refine zB ?_ ?_ <;> intro h <;> try exact zk h
            | refine zX ?_
            | refine oV ?_ (hv := evAny_store_last)
            | (fail)
            | fail)
          exact ⟨rfl, _, rfl, (ofList_cases (by intro q hq; simp only [List.mem_cons, List.not_mem_nil, or_false] at hq; rcases hq with rfl | rfl | rfl | rfl | rfl | rfl; exact .inl (by kernel_rfl); exact .inl (by kernel_rfl); exact .inl (by kernel_rfl); exact .inl (by kernel_rfl); exact .inl (by kernel_rfl); exact .inr ⟨0, Nat.zero_le _, by kernel_rfl, rfl⟩))⟩
        · obtain ⟨x, ep⟩ := e0
          have hw : AV.d (.int .i64 (IntKind.i64.wrap ((n : Int) + 1))) = .d (nI (n + 1)) := by
            congr 2
            have := wrapN (n := n + 1) (by omega)
            rw [← this]; congr 1
          unfold vB vBad
          simp only at hbad
          generalize E.take n = F at *
          show Run _ _ _ _ _ ⟨PT.ofList [(6, .d (.ep [iI pr])), (7, .d (.ep [.sl 10 (N.map nd)])), (8, .bp 0 0), (9, .bp 1 0), (10, .bp 2 0), (11, .d (.ep (lfC (x, ep))))], Ob.box [.d (.bool false)] :: Ob.box (gcs F) :: Ob.box [.d (nI n)] :: (grs F ++ [a, b]), []⟩ _
          generalize hR : grs F ++ [a, b] = R
          repeat refine zS ?_
          refine zX ?_
          refine zV hw ?_
          refine oV (v := .d .any) (objs' := Ob.box [.d (.bool false)] :: Ob.box (gcs F) :: Ob.box [.d (nI (n + 1))] :: R) ?_ (ho := rfl)
          repeat refine zS ?_
          repeat' (first
            | refine zW ?_
            | refine zB ?_ ?_ <;> intro h <;> try exact zk h
            | refine zX ?_
            | ((exfalso; simp only [List.length_map, decide_eq_true_eq, decide_eq_false_iff_not, ge_iff_le, gt_iff_lt] at *; omega))
            | fail)
          all_goals (refine Run.ret ?_; subst hR; exact ⟨rfl, rfl⟩)
    · show (rangeObs B2 (PT.ofList [(0, .d (nI k)), (1, .d (iI t)), (6, .d (.ep [iI pr])), (7, .d (.ep [.sl 10 (N.map nd)])), (8, .bp 0 0), (9, .bp 1 0), (10, .bp 2 0), (26, .d (.fn (.func 98) [] [.ep [iI 0], .ep [.sl 10 (N.map nd)], .ep (lkC []), .ep [nI k], .ep [iI t]]))]) _ [6, 7] _ _ _ st pend).all _ = true
      unfold rangeObs
      simp only [List.all_append, hB2r, List.all_cons, List.all_nil, Bool.true_and, Bool.and_true, refOb, hT]
  · rcases hor with ⟨hn, rfl, rfl, rfl⟩ | ⟨e0, he0, hbad, rfl, rfl, rfl⟩
    · subst hn
      simp only
      unfold vB
      rw [List.take_length]
      have hgR := gcs_ref (show 27 ≤ 29 by omega) E
      have hgS := grs_ref (n := 29) E
      refine Run.wk (objs' := (.box [.d (.bool false)] :: .box (gcs E) :: .box [.d (nI E.length)] :: grs E) ++ [.raw (.deferred (some [])), .gone]) ?_ (wk_last _) (by simp) (by simp) (by simp only [List.length_append, List.length_cons, grs_len, List.length_nil, List.all_append, List.all_cons, hgR, hgS, List.all_nil, Bool.true_and, Bool.and_true]; rfl)
      repeat refine zS ?_
      refine zX ?_
      repeat refine zS ?_
      refine zX ?_
      repeat refine zS ?_
      refine oV (v := .agg (gcs E)) ?_ (he := rfl)
      refine zX ?_
      repeat refine zS ?_
      have hfl := vS_flat E
      refine Run.tidy (s' := ⟨PT.ofList [(0, .d (nI k)), (1, .d (iI t)), (7, .d (.ep [.sl 10 (N.map nd)])), (8, .bp 0 0), (12, .d .nilsl), (13, .d .nilsl), (57, .d (.agg (dataG E))), (58, .d (nI 0))], _, _⟩) (ti _ 29 (ho := List.take_of_length_le (by simp [grs_len])) (hr := by simp only [List.all_append, List.all_cons, hgR, hgS, List.all_nil, Bool.true_and, Bool.and_true]; rfl)) ?_
      refine Run.wk (objs' := O29) ?_ (wk29 (R := .box (gcs E) :: .box [.d (nI E.length)] :: grs E) (by simp [grs_len])) (by simp [O29, grs_len]) (by simp) rfl
      refine Run.mkRoom 12 1 [(0, .d (nI k)), (1, .d (iI t)), (7, .d (.ep [.sl 10 (N.map nd)])), (8, .bp 0 0), (12, .sr 29 1 (lsE E 0)), (13, .d .nilsl), (57, .d (.agg (dataG E))), (58, .d (nI 0))] (by kernel_rfl) (ofList_cases (by intro p hp; simp only [List.mem_cons, List.not_mem_nil, or_false] at hp; rcases hp with rfl | rfl | rfl | rfl | rfl | rfl | rfl | rfl <;> first | exact .inl ⟨rfl, rfl⟩ | exact .inr (by kernel_rfl))) ?_
      refine Run.mkRoom 13 1 [(0, .d (nI k)), (1, .d (iI t)), (7, .d (.ep [.sl 10 (N.map nd)])), (8, .bp 0 0), (12, .sr 29 1 (lsE E 0)), (13, .sr 30 1 (nsE E 0)), (57, .d (.agg (dataG E))), (58, .d (nI 0))] (by kernel_rfl) (ofList_cases (by intro p hp; simp only [List.mem_cons, List.not_mem_nil, or_false] at hp; rcases hp with rfl | rfl | rfl | rfl | rfl | rfl | rfl | rfl <;> first | exact .inl ⟨rfl, rfl⟩ | exact .inr (by kernel_rfl))) ?_
      refine Run.loopT (fun x : Nat × List DV × List DV => ⟨PT.ofList [(0, .d (nI k)), (1, .d (iI t)), (7, .d (.ep [.sl 10 (N.map nd)])), (8, .bp 0 0), (12, .sr 29 1 x.2.1), (13, .sr 30 1 x.2.2), (57, .d (.agg (dataG E))), (58, .d (nI x.1))], O29 ++ [.room x.2.1.length 1, .room x.2.2.length 1], [.mark 27]⟩) (fun x => x.1 ≤ 24 ∧ x.2.1 = lsE E x.1 ∧ x.2.2 = nsE E x.1) (fun x => 24 - x.1) (0, lsE E 0, nsE E 0) ⟨Nat.zero_le _, rfl, rfl⟩ (ti _ 31) (fun ⟨p, A, C⟩ ⟨hp, hA, hC⟩ => ?_)
      simp only at hp hA hC
      have hll := ls_len (E := E) (n := p)
      have hnn := ns_len (E := E) (n := p)
      rw [← hA] at hll
      rw [← hC] at hnn
      rcases Nat.lt_or_ge p 24 with hlt | hge
      · have hat := dataG_at (E := E) hlt
        have e1 := lsE_succ (E := E) (p := p)
        have e2 := nsE_succ (E := E) (p := p)
        rw [← hA] at e1
        rw [← hC] at e2
        have hw : AV.d (.int .i64 (IntKind.i64.wrap ((p : Int) + 1))) = .d (nI (p + 1)) := by
          congr 2
          have := wrapN (n := p + 1) (by omega)
          rw [← this]; congr 1
        repeat refine zS ?_
        refine zV (lt_true hlt) ?_
        repeat refine zS ?_
        refine zX ?_
        refine oV (v := .d (lks (grp E p))) ?_ (hv := evAny_indexA (i := p) (cs := dataG E) rfl rfl rfl rfl rfl rfl rfl hat hlt)
        iterate 2 refine zX ?_
        repeat refine zS ?_
        iterate 2 refine zX ?_
        refine zB (fun h => ?_) (fun h => ?_)
        · have hk : keepP E p = true := by
            unfold keepP
            cases hg : grp E p with
            | nil => rw [hg] at h; simp at h
            | cons a l => rfl
          rw [if_pos hk] at e1 e2
          repeat refine zS ?_
          iterate 3 refine zX ?_
          refine zAp ?_
          iterate 3 refine zX ?_
          refine zAp ?_
          iterate 2 refine zX ?_
          repeat refine zS ?_
          refine zV hw ?_
          refine zX ?_
          repeat refine zS ?_
          exact ⟨(p + 1, A ++ [lks (grp E p)], C ++ [nI p]), ⟨hlt, e1.symm, e2.symm⟩, by simp only; omega, (ti _ 31 (Eq.trans (b := O29 ++ [.room (A.length + 1) 1, .room (C.length + 1) 1]) rfl (by simp)))⟩
        · have hk : ¬ keepP E p = true := by
            unfold keepP
            cases hg : grp E p with
            | nil => simp
            | cons a l => rw [hg] at h; simp at h
          rw [if_neg hk] at e1 e2
          repeat refine zS ?_
          refine zV hw ?_
          refine zX ?_
          repeat refine zS ?_
          exact ⟨(p + 1, A, C), ⟨hlt, e1.symm, e2.symm⟩, by simp only; omega, (ti _ 31)⟩
      · have hie : p = 24 := by omega
        subst hie
        subst hA hC
        repeat refine zS ?_
        refine zV (lt_false (Nat.le_refl 24)) ?_
        repeat refine zS ?_
        refine RunOps.tidy (s' := ⟨PT.ofList [(0, .d (nI k)), (1, .d (iI t)), (7, .d (.ep [.sl 10 (N.map nd)])), (8, .bp 0 0), (12, .d (.sl 1 (lsE E 24))), (13, .d (.sl 1 (nsE E 24)))], O29, [.mark 27]⟩) (ti _ 29) ?_
        have hEN : E.length ≤ N.length := by
          rcases Nat.eq_zero_or_pos E.length with h1 | h1
          · omega
          · have := (hfine (E.length - 1) E[E.length - 1] (by omega) (by simp)).2.2
            omega
        have hsl := vS_len E
        have hpl := vP_len E
        have cO := progOfK k t (rawS (vS E)) (vP E) (by simp; omega) (by omega) (by
          have : (rawS (vS E)).flatten.length = (vS E).flatten.length := by simp [List.length_flatten, Function.comp_def]
          omega)
        rw [rws2_vS, vP_iI] at cO
        have hML : (trN k t (rawS (vS E)) (vP E)).length ≤ 1048576 := by
          have h1 := trN_len (k := k) (t := t) (S := rawS (vS E)) (P := vP E)
          have : (rawS (vS E)).flatten.length = (vS E).flatten.length := by simp [List.length_flatten, Function.comp_def]
          omega
        have cS := sameTrK (trN k t (rawS (vS E)) (vP E)) N trN_9 h9 hML
        have hbb : b = true ↔ (chkAll k t (rawS (vS E)) (vP E) = 0 ∧ trN k t (rawS (vS E)) (vP E) = N) := by
          rw [hb, ← hE]
          exact ⟨fun h => h.2, fun h => ⟨fun c e he => hfine c e (List.getElem?_eq_some_iff.1 he).1 he, h⟩⟩
        generalize trN k t (rawS (vS E)) (vP E) = M at *
        generalize chkAll k t (rawS (vS E)) (vP E) = ch at *
        generalize lsE E 24 = LA at *
        generalize nsE E 24 = LB at *
        by_cases hMN : M = N
        · rw [decide_eq_true hMN] at cS
          repeat' (first
            | refine zW ?_
            | refine zB ?_ ?_ <;> intro h <;> try exact zk h
            | refine zX ?_
            | refine zC (cO) ?_
            | refine zC (cS) ?_
            | (fail)
            | fail)
          · refine congrArg (fun b => AV.d (DV.bool b)) ?_
            symm
            rw [Bool.eq_iff_iff, hbb]
            simp at h
            simp [h, hMN]
          · refine congrArg (fun b => AV.d (DV.bool b)) ?_
            symm
            rw [Bool.eq_iff_iff, hbb]
            simp at h
            simp [h]
        · rw [decide_eq_false hMN] at cS
          repeat' (first
            | refine zW ?_
            | refine zB ?_ ?_ <;> intro h <;> try exact zk h
            | refine zX ?_
            | refine zC (cO) ?_
            | refine zC (cS) ?_
            | (fail)
            | fail)
          · refine congrArg (fun b => AV.d (DV.bool b)) ?_
            symm
            rw [Bool.eq_iff_iff, hbb]
            simp [hMN]
          · refine congrArg (fun b => AV.d (DV.bool b)) ?_
            symm
            rw [Bool.eq_iff_iff, hbb]
            simp at h
            simp [h]
    · have hbF : b = false := by
        cases b with
        | false => rfl
        | true =>
          exfalso
          obtain ⟨f, _⟩ := hb.1 rfl
          have := f n e0 (by rw [← hE]; exact he0)
          omega
      subst hbF
      simp only
      exact ⟨trivial, _, _, leave1 (by rw [List.getElem?_append_right (by rw [vBad_len]; exact Nat.le_refl _), vBad_len]; rfl), rfl, rfl⟩
theorem pw_ext {α : Type} {R : α → α → Prop} (hi : ∀ a, ¬ R a a) (hs : ∀ a b, R a b → R b a → False) : ∀ {A B : List α}, A.Pairwise R → B.Pairwise R → (∀ z, z ∈ A ↔ z ∈ B) → A = B
  | [], [], _, _, _ => rfl
  | [], y :: B, _, _, h => by have := (h y).2 (by simp); simp at this
  | x :: A, [], _, _, h => by have := (h x).1 (by simp); simp at this
  | x :: A, y :: B, ha, hb, h => by
    obtain ⟨ha1, ha2⟩ := List.pairwise_cons.1 ha
    obtain ⟨hb1, hb2⟩ := List.pairwise_cons.1 hb
    have hxy : x = y := by
      rcases List.mem_cons.1 ((h x).1 (by simp)) with h1 | h1
      · exact h1
      · rcases List.mem_cons.1 ((h y).2 (by simp)) with h2 | h2
        · exact h2.symm
        · exact (hs _ _ (ha1 y h2) (hb1 x h1)).elim
    subst hxy
    rw [pw_ext hi hs ha2 hb2 fun z => ⟨fun hz => ?_, fun hz => ?_⟩]
    · rcases List.mem_cons.1 ((h z).1 (by simp [hz])) with rfl | h1
      · exact (hi _ (ha1 _ hz)).elim
      · exact h1
    · rcases List.mem_cons.1 ((h z).2 (by simp [hz])) with rfl | h1
      · exact (hi _ (hb1 _ hz)).elim
      · exact h1
theorem nodup_le : ∀ (n : Nat) (l : List Nat), l.Nodup → (∀ x ∈ l, x < n) → l.length ≤ n
  | 0, l, _, h => by
    cases l with
    | nil => simp
    | cons a l => have := h a (by simp); omega
  | n + 1, l, hl, h => by
    by_cases hn : n ∈ l
    · have := nodup_le n (l.erase n) (hl.erase n) (fun x hx => by
        have h1 := h x (List.mem_of_mem_erase hx)
        have h2 : x ≠ n := fun e => by subst e; exact (hl.not_mem_erase) hx
        omega)
      rw [List.length_erase_of_mem hn] at this
      omega
    · have := nodup_le n l hl (fun x hx => by
        have h1 := h x hx
        have h2 : x ≠ n := fun e => by subst e; exact hn hx
        omega)
      omega
theorem ordE_asc : ∀ {P : List Int} {l : Int}, ordE l P = 0 → P.Pairwise (· < ·) ∧ ∀ p ∈ P, l < p
  | [], _, _ => by simp
  | p :: P, l, h => by
    simp only [ordE] at h
    split at h
    · cases h
    · rename_i hn
      obtain ⟨h1, h2⟩ := ordE_asc h
      refine ⟨List.pairwise_cons.2 ⟨h2, h1⟩, fun q hq => ?_⟩
      rcases List.mem_cons.1 hq with rfl | hq
      · omega
      · have := h2 q hq; omega
theorem entS_at {x : List Nat} {p : Int} : ∀ {S : List (List (List Nat))} {P : List Int}, (x, p) ∈ entS S P ↔ ∃ (i : Nat), ∃ L, S[i]? = some L ∧ P[i]? = some p ∧ x ∈ L
  | [], P => by simp [entS]
  | L :: S, [] => by simp [entS]
  | L :: S, q :: P => by
    simp only [entS, List.mem_append, List.mem_map, Prod.mk.injEq, entS_at (S := S) (P := P)]
    constructor
    · rintro (⟨y, hy, rfl, rfl⟩ | ⟨i, M, h1, h2, h3⟩)
      · exact ⟨0, L, rfl, rfl, hy⟩
      · exact ⟨i + 1, M, by simpa using h1, by simpa using h2, h3⟩
    · rintro ⟨i, M, h1, h2, h3⟩
      cases i with
      | zero => simp at h1 h2; subst h1 h2; exact .inl ⟨x, h3, rfl, rfl⟩
      | succ i => exact .inr ⟨i, M, by simpa using h1, by simpa using h2, h3⟩
theorem entS_lenE : ∀ {S : List (List (List Nat))} {P : List Int}, P.length = S.length → (entS S P).length = S.flatten.length
  | [], _, _ => by simp [entS]
  | L :: S, [], h => by simp at h
  | L :: S, p :: P, h => by
    have := entS_lenE (S := S) (P := P) (by simpa using h)
    simp [entS, this]
structure BackT (k t : Nat) (S : List (List (List Nat))) (P : List Int) : Prop where
  k1 : 1 ≤ k
  sl : S.length ≤ 24
  pl : P.length = S.length
  pa : P.Pairwise (· < ·)
  pb : ∀ p ∈ P, 0 ≤ p ∧ p < 24
  rt : ∀ L ∈ S, SetR k t L
  chk : chkAll k t (rawS S) P = 0
  row : trN k t (rawS S) P = rowT (madeAll k Tz0 S P)
  fin : FinT k (madeAll k Tz0 S P) (entS S P)
  len : (madeAll k Tz0 S P).q.length ≤ k * S.flatten.length
theorem decS_raw {S : List (List (List Nat))} (h : ∀ L ∈ S, ∀ x ∈ L, x.length ≤ 4) : decS (rawS S) = S := by
  simp only [decS, rawS, List.map_map]
  conv => rhs; rw [← List.map_id S]
  refine List.map_congr_left fun L hL => ?_
  simp only [Function.comp, List.map_map, id]
  conv => rhs; rw [← List.map_id L]
  refine List.map_congr_left fun x hx => ?_
  simp only [Function.comp, id]
  exact dec_of (h L hL x hx)
theorem BackT.of {k t : Nat} {S : List (List (List Nat))} {P : List Int} (h : chkAll k t (rawS S) P = 0) (h4 : ∀ L ∈ S, ∀ x ∈ L, x.length ≤ 4) : BackT k t S P := by
  obtain ⟨h1, h2⟩ := chkAll_ok h
  have ho := OfOK.of h1
  have hk := sizE_ok ho.sz
  have hd := decS_raw h4
  have hrt : ∀ L ∈ S, SetR k t L := by have := ho.rt; rw [hd] at this; exact this
  have hpl : P.length = S.length := by have := ho.pl; simpa using this
  have hP0 := ordE_ok ho.od (by decide)
  have hent : ∀ x ∈ entS S P, ((∀ e ∈ x.1, e < 8) ∧ 0 ≤ x.2) ∧ x.1.length ≤ k := fun x hx => by
    obtain ⟨L, h1, h2, h3⟩ := entS_mem (x := x.1) (p := x.2) hx
    exact ⟨⟨((hrt L h1).rt x.1 h2).1.lt, (hP0 x.2 h3).1⟩, ((hrt L h1).rt x.1 h2).2.1⟩
  obtain ⟨i1, _⟩ := insT_eq (k := k) HasT.zero (by simp) (fun x hx => (hent x hx).1)
  have hno := (noT_iff hrt hpl).2 h2
  obtain ⟨_, j2⟩ := i1 hno
  obtain ⟨p1, p2, p3⟩ := PreT.fold (k := k) (L := entS S P) (PreT.zero k) Tz0_ok (fun x hx => ⟨(hent x hx).1.1, (hent x hx).2⟩)
  rw [← madeAll_eq] at j2 p1 p2 p3
  rw [entS_lenE hpl] at p3
  refine ⟨by omega, by have := ho.sl; simpa using this, hpl, (ordE_asc ho.od).1, hP0, hrt, h, ?_, ⟨p2, by omega, fun x hx => ⟨(hent x hx).1.1, (hent x hx).2⟩, fun x p hx => ?_, by simpa using p1⟩, by simpa [Tz0] using p3⟩
  · unfold trN
    rw [if_pos h, hd]; rfl
  · exact j2.has (edgesT k x) p (by
      rw [List.append_nil, List.mem_reverse]
      exact List.mem_map.2 ⟨(x, p), hx, rfl⟩)
abbrev lvT (k : Nat) (S : List (List (List Nat))) (P : List Int) : List (List Nat × Int) := lvF (rowT (madeAll k Tz0 S P)) k 0 []
theorem BackT.mem {k t : Nat} {S : List (List (List Nat))} {P : List Int} (h : BackT k t S P) (y : List Nat) (p : Int) : (y, p) ∈ lvT k S P ↔ (y, p) ∈ entS S P := by
  have hf := h.fin
  have hm : (y, p) ∈ lvT k S P ↔ _ := mem_lv (k := k) hf.ok k [] 0 (by simp) rfl (by simp) y p
  rw [hm]
  constructor
  · rintro ⟨_, h2, h3, n, h4, h5⟩
    rcases hf.pre _ _ h4 with h6 | ⟨z, hz, h6⟩
    · exfalso
      have hk := h.k1
      unfold edgesT at h6
      split at h6
      · simp at h6
      · subst h6; rename_i h7; simp at h7; omega
    · obtain ⟨z1, z2⟩ := hf.rt z hz
      have := edges_pre h3 z1 h2 z2 h6
      subst this
      obtain ⟨m, m1, m2⟩ := hf.has z.1 z.2 hz
      rw [h4] at m1
      cases m1
      rw [h5] at m2
      cases m2
      exact hz
  · intro hy
    obtain ⟨r1, r2⟩ := hf.rt (y, p) hy
    exact ⟨⟨y, by simp⟩, r2, r1, hf.has y p hy⟩
theorem BackT.asc {k t : Nat} {S : List (List (List Nat))} {P : List Int} (h : BackT k t S P) : ascE (lvT k S P) := lv_asc (k := k) h.fin.ok k [] 0 (by simp) rfl (by simp)
theorem cmpL_asym {x y : List Nat} (h1 : cmpL x y < 0) (h2 : cmpL y x < 0) : False := by rw [cmpL_neg] at h2; omega
theorem cmpL_irr {x : List Nat} : ¬ cmpL x x < 0 := by rw [cmpL_self]; omega
theorem mem_grp {E : List (List Nat × Int)} {p : Nat} {z : List Nat} : z ∈ grp E p ↔ (z, (p : Int)) ∈ E := by
  unfold grp
  rw [List.mem_map]
  constructor
  · rintro ⟨⟨a, b⟩, h1, rfl⟩
    obtain ⟨h2, h3⟩ := List.mem_filter.1 h1
    simp only [decide_eq_true_eq] at h3
    subst h3; exact h2
  · intro h
    exact ⟨(z, (p : Int)), List.mem_filter.2 ⟨h, by simp⟩, rfl⟩
theorem grp_asc {E : List (List Nat × Int)} {p : Nat} (h : ascE E) : (grp E p).Pairwise fun x y => cmpL x y < 0 := by
  unfold grp
  rw [List.pairwise_map]
  exact h.filter _
theorem BackT.inj {k t : Nat} {S : List (List (List Nat))} {P : List Int} (h : BackT k t S P) {i j : Nat} {p : Int} (hi : P[i]? = some p) (hj : P[j]? = some p) : i = j := by
  have hl := List.pairwise_iff_getElem.1 h.pa
  obtain ⟨a1, a2⟩ := List.getElem?_eq_some_iff.1 hi
  obtain ⟨b1, b2⟩ := List.getElem?_eq_some_iff.1 hj
  rcases Nat.lt_trichotomy i j with h1 | h1 | h1
  · have := hl i j a1 b1 h1; rw [a2, b2] at this; omega
  · exact h1
  · have := hl j i b1 a1 h1; rw [a2, b2] at this; omega
theorem BackT.grp {k t : Nat} {S : List (List (List Nat))} {P : List Int} (h : BackT k t S P) {i : Nat} {L : List (List Nat)} {p : Nat} (hS : S[i]? = some L) (hP : P[i]? = some (p : Int)) : grp (lvT k S P) p = L := by
  refine pw_ext (R := fun x y => cmpL x y < 0) (fun _ => cmpL_irr) (fun _ _ => cmpL_asym) (grp_asc h.asc) (h.rt L (List.mem_of_getElem? hS)).asc fun z => ?_
  rw [mem_grp, h.mem, entS_at]
  constructor
  · rintro ⟨j, M, h1, h2, h3⟩
    have := h.inj hP h2
    subst this
    rw [hS] at h1; cases h1; exact h3
  · intro hz; exact ⟨i, L, hS, hP, hz⟩
theorem BackT.vP {k t : Nat} {S : List (List (List Nat))} {P : List Int} (h : BackT k t S P) : vP (lvT k S P) = P := by
  refine pw_ext (R := fun x y => x < y) (fun a => by omega) (fun a b => by omega) ?_ h.pa fun z => ?_
  · unfold Go.Av.vP
    rw [List.pairwise_map]
    exact (List.pairwise_lt_range.filter _).imp fun {a b} hab => by omega
  · unfold Go.Av.vP
    rw [List.mem_map]
    constructor
    · rintro ⟨p, hp, rfl⟩
      obtain ⟨h1, h2⟩ := List.mem_filter.1 hp
      unfold keepP at h2
      cases hg : Go.Av.grp (lvT k S P) p with
      | nil => rw [hg] at h2; simp at h2
      | cons a l =>
        have : a ∈ Go.Av.grp (lvT k S P) p := by rw [hg]; simp
        rw [mem_grp, h.mem, entS_at] at this
        obtain ⟨i, M, _, h4, _⟩ := this
        exact List.mem_of_getElem? h4
    · intro hz
      obtain ⟨b1, b2⟩ := h.pb z hz
      obtain ⟨p, rfl⟩ : ∃ p : Nat, z = p := ⟨z.toNat, by omega⟩
      obtain ⟨i, hi⟩ := List.getElem?_of_mem hz
      obtain ⟨L, hL⟩ := get_ok (show i < S.length by rw [← h.pl]; exact (List.getElem?_eq_some_iff.1 hi).1)
      refine ⟨p, List.mem_filter.2 ⟨List.mem_range.2 (by omega), ?_⟩, rfl⟩
      unfold keepP
      rw [h.grp hL hi]
      have := (h.rt L (List.mem_of_getElem? hL)).ne
      cases L with
      | nil => exact absurd rfl this
      | cons a l => rfl
theorem BackT.vS {k t : Nat} {S : List (List (List Nat))} {P : List Int} (h : BackT k t S P) : vS (lvT k S P) = S := by
  have e : Go.Av.vS (lvT k S P) = (Go.Av.vP (lvT k S P)).map fun q => Go.Av.grp (lvT k S P) q.toNat := by
    unfold Go.Av.vS Go.Av.vP
    rw [List.map_map]; rfl
  rw [e, h.vP]
  refine List.ext_getElem? fun i => ?_
  rw [List.getElem?_map]
  cases hi : P[i]? with
  | none =>
    rw [List.getElem?_eq_none_iff] at hi
    rw [List.getElem?_eq_none (by rw [← h.pl]; exact hi)]; rfl
  | some p =>
    obtain ⟨L, hL⟩ := get_ok (show i < S.length by rw [← h.pl]; exact (List.getElem?_eq_some_iff.1 hi).1)
    obtain ⟨b1, b2⟩ := h.pb p (List.mem_of_getElem? hi)
    obtain ⟨q, rfl⟩ : ∃ q : Nat, p = q := ⟨p.toNat, by omega⟩
    rw [hL, Option.map_some, Int.toNat_natCast, h.grp hL hi]
theorem BackT.elen {k t : Nat} {S : List (List (List Nat))} {P : List Int} (h : BackT k t S P) : (lvT k S P).length ≤ (madeAll k Tz0 S P).q.length + 1 := by
  have hf := h.fin
  have hgo : ∀ e ∈ lvT k S P, ∃ n, goT (madeAll k Tz0 S P).q 0 (edgesT k e.1) = some n := fun e he => by
    obtain ⟨n, h1, _⟩ := hf.has e.1 e.2 ((h.mem e.1 e.2).1 he)
    exact ⟨n, h1⟩
  have h8 : ∀ e ∈ lvT k S P, ∀ u ∈ e.1, u < 8 := fun e he => (hf.rt e ((h.mem e.1 e.2).1 he)).1
  have hn : ((lvT k S P).map fun e => (goT (madeAll k Tz0 S P).q 0 (edgesT k e.1)).getD 0).Nodup := by
    unfold List.Nodup
    rw [List.pairwise_map]
    refine h.asc.imp_of_mem fun {a b} ha hb hab e => ?_
    obtain ⟨n, h1⟩ := hgo a ha
    obtain ⟨m, h2⟩ := hgo b hb
    rw [h1, h2] at e
    simp only [Option.getD_some] at e
    subst e
    have := edges_inj (h8 a ha) (h8 b hb) (goT_inj _ h1 h2)
    rw [this] at hab
    exact cmpL_irr hab
  have := nodup_le ((madeAll k Tz0 S P).q.length + 1) _ hn (fun x hx => by
    obtain ⟨e, he, rfl⟩ := List.mem_map.1 hx
    obtain ⟨n, h1⟩ := hgo e he
    rw [h1]
    have := goT_le (Nat.zero_le _) h1
    simp only [Option.getD_some]; omega)
  simpa using this
theorem BackT.fine {k t : Nat} {S : List (List (List Nat))} {P : List Int} (h : BackT k t S P) : fineE 24 (rowT (madeAll k Tz0 S P)).length (lvT k S P) := fun c e he => by
  have hm := (h.mem e.1 e.2).1 (List.mem_of_getElem? he)
  obtain ⟨L, _, _, h3⟩ := entS_mem hm
  have hb := h.pb e.2 h3
  have := (List.getElem?_eq_some_iff.1 he).1
  have := h.elen
  rw [rowT_len]
  exact ⟨hb.1, hb.2, by omega⟩
theorem BackT.valid {k t : Nat} {S : List (List (List Nat))} {P : List Int} (h : BackT k t S P) (hk : k ≤ 4) (hl : (trN k t (rawS S) P).length ≤ 1000) : KnownCall Try.prog 59 [nI k, iI t, iI 24, trD (trN k t (rawS S) P)] (.d (.bool true)) := by
  refine validA _ trN_9 hl (by rw [h.row, rowT_len]; omega) k t hk 24 (by omega) true ?_
  rw [h.row]
  have h1 := h.vS
  have h2 := h.vP
  have h3 := h.fine
  unfold lvT at h1 h2 h3
  rw [h1, h2]
  exact ⟨fun _ => ⟨h3, h.chk, h.row⟩, fun _ => rfl⟩
theorem trCheckK (N : List Nd) (k t : Int) (hs : sizE k t = 0) (pr : Int) (h0 : 0 ≤ pr) (hp : pr ≤ 24) (b : Bool) (cv : KnownCall Try.prog 59 [iI k, iI t, iI pr, trD N] (.d (.bool b))) : KnownCall Try.prog 21 [iI k, iI t, iI pr, trD N] (.d (iI (if b then 0 else 3))) := by
  have c0 := sizesK k t
  rw [hs] at c0
  cases b with
  | true =>
    refine kF Try.func21 [7] fun w => ?_
    repeat' (first
      | refine zW ?_
      | refine zB ?_ ?_ <;> intro h <;> try exact zk h
      | refine zC (c0) ?_
      | refine zC (cv) ?_
      | rfl
      | ((exfalso; simp only [decide_eq_true_eq, decide_eq_false_iff_not, bne_iff_ne, ne_eq, bne_eq_false_iff_eq] at *; omega))
      | fail)
  | false =>
    refine kF Try.func21 [7] fun w => ?_
    repeat' (first
      | refine zW ?_
      | refine zB ?_ ?_ <;> intro h <;> try exact zk h
      | refine zC (c0) ?_
      | refine zC (cv) ?_
      | rfl
      | ((exfalso; simp only [decide_eq_true_eq, decide_eq_false_iff_not, bne_iff_ne, ne_eq, bne_eq_false_iff_eq] at *; omega))
      | fail)
theorem sizE_nat {k t : Nat} (h1 : 1 ≤ k) (h2 : k ≤ 4) (h3 : 1 ≤ t) (h4 : t ≤ 8) : sizE k t = 0 := by
  unfold sizE
  rw [if_neg (by omega)]
theorem wrap64 {n : Int} (h1 : -9223372036854775808 ≤ n) (h2 : n ≤ 9223372036854775807) : IntKind.i64.wrap n = n := IntWalk.i64_in n ⟨h1, h2⟩
def W64 (n : Int) : Prop := -9223372036854775808 ≤ n ∧ n ≤ 9223372036854775807
def mdN (m : Nat) (n : Int) : Nat := (n % m).toNat
theorem mdN_lt {m : Nat} (h : 0 < m) (n : Int) : mdN m n < m := by unfold mdN; have := Int.emod_lt_of_pos n (show (0 : Int) < m by omega); have := Int.emod_nonneg n (show (m : Int) ≠ 0 by omega); omega
theorem mod2 (n : Int) (hn : W64 n) : KnownCall Try.prog 30 [iI n, iI 2] (.d (nI (mdN 2 n))) := by
  have hw := hn
  unfold W64 at hw
  have hm : ((mdN 2 n : Nat) : Int) = n % 2 := by unfold mdN; omega
  have ht : n.tmod 2 = if 0 ≤ n ∨ (2 : Int) ∣ n then n % 2 else n % 2 - 2 := by
    rw [Int.tmod_eq_emod]
    by_cases h : 0 ≤ n ∨ (2 : Int) ∣ n
    · rw [if_pos h, if_pos h]; simp
    · rw [if_neg h, if_neg h]; rfl
  show KnownCall _ _ _ (.d (.int .i64 ((mdN 2 n : Nat) : Int)))
  by_cases h : 0 ≤ n ∨ (2 : Int) ∣ n
  · rw [if_pos h] at ht
    rw [hm]
    refine kF Try.func30 [] fun w => ?_
    repeat' (first
      | refine oV (v := .d (.int .i64 (n % 2))) ?_ (he := (congrArg (fun x => AV.d (.int .i64 x)) ht))
      | refine eX (v := .d (.int .i64 (n % 2))) ?_ (he := (congrArg (fun x => AV.d (.int .i64 x)) ht))
      | refine zW ?_
      | refine zB ?_ ?_ <;> intro h <;> try exact zk h
      | rfl
      | ((exfalso; first | (simp at h <;> fail) | (simp at h; omega)))
      | fail)
  · rw [if_neg h] at ht
    rw [hm]
    have hneg : n % 2 - 2 < 0 := by omega
    have hadd : AV.d (.int .i64 (IntKind.i64.wrap (n % 2 - 2 + 2))) = .d (.int .i64 (n % 2)) := congrArg (fun x => AV.d (.int .i64 x)) ((wrap64 (by omega) (by omega)).trans (by omega))
    have hrem : AV.d (.int .i64 (n.tmod 2)) = .d (.int .i64 (n % 2 - 2)) := congrArg (fun x => AV.d (.int .i64 x)) ht
    refine kF Try.func30 [] fun w => ?_
    repeat' (first
      | refine zV hadd ?_
      | refine zV hrem ?_
      | refine zW ?_
      | refine zB ?_ ?_ <;> intro h <;> try exact zk h
      | rfl
      | ((exfalso; first | (simp at h <;> fail) | (simp at h; omega)))
      | fail)
theorem mod3 (n : Int) (hn : W64 n) : KnownCall Try.prog 30 [iI n, iI 3] (.d (nI (mdN 3 n))) := by
  have hw := hn
  unfold W64 at hw
  have hm : ((mdN 3 n : Nat) : Int) = n % 3 := by unfold mdN; omega
  have ht : n.tmod 3 = if 0 ≤ n ∨ (3 : Int) ∣ n then n % 3 else n % 3 - 3 := by
    rw [Int.tmod_eq_emod]
    by_cases h : 0 ≤ n ∨ (3 : Int) ∣ n
    · rw [if_pos h, if_pos h]; simp
    · rw [if_neg h, if_neg h]; rfl
  show KnownCall _ _ _ (.d (.int .i64 ((mdN 3 n : Nat) : Int)))
  by_cases h : 0 ≤ n ∨ (3 : Int) ∣ n
  · rw [if_pos h] at ht
    rw [hm]
    refine kF Try.func30 [] fun w => ?_
    repeat' (first
      | refine oV (v := .d (.int .i64 (n % 3))) ?_ (he := (congrArg (fun x => AV.d (.int .i64 x)) ht))
      | refine eX (v := .d (.int .i64 (n % 3))) ?_ (he := (congrArg (fun x => AV.d (.int .i64 x)) ht))
      | refine zW ?_
      | refine zB ?_ ?_ <;> intro h <;> try exact zk h
      | rfl
      | ((exfalso; first | (simp at h <;> fail) | (simp at h; omega)))
      | fail)
  · rw [if_neg h] at ht
    rw [hm]
    have hneg : n % 3 - 3 < 0 := by omega
    have hadd : AV.d (.int .i64 (IntKind.i64.wrap (n % 3 - 3 + 3))) = .d (.int .i64 (n % 3)) := congrArg (fun x => AV.d (.int .i64 x)) ((wrap64 (by omega) (by omega)).trans (by omega))
    have hrem : AV.d (.int .i64 (n.tmod 3)) = .d (.int .i64 (n % 3 - 3)) := congrArg (fun x => AV.d (.int .i64 x)) ht
    refine kF Try.func30 [] fun w => ?_
    repeat' (first
      | refine zV hadd ?_
      | refine zV hrem ?_
      | refine zW ?_
      | refine zB ?_ ?_ <;> intro h <;> try exact zk h
      | rfl
      | ((exfalso; first | (simp at h <;> fail) | (simp at h; omega)))
      | fail)
theorem mod6 (n : Int) (hn : W64 n) : KnownCall Try.prog 30 [iI n, iI 6] (.d (nI (mdN 6 n))) := by
  have hw := hn
  unfold W64 at hw
  have hm : ((mdN 6 n : Nat) : Int) = n % 6 := by unfold mdN; omega
  have ht : n.tmod 6 = if 0 ≤ n ∨ (6 : Int) ∣ n then n % 6 else n % 6 - 6 := by
    rw [Int.tmod_eq_emod]
    by_cases h : 0 ≤ n ∨ (6 : Int) ∣ n
    · rw [if_pos h, if_pos h]; simp
    · rw [if_neg h, if_neg h]; rfl
  show KnownCall _ _ _ (.d (.int .i64 ((mdN 6 n : Nat) : Int)))
  by_cases h : 0 ≤ n ∨ (6 : Int) ∣ n
  · rw [if_pos h] at ht
    rw [hm]
    refine kF Try.func30 [] fun w => ?_
    repeat' (first
      | refine oV (v := .d (.int .i64 (n % 6))) ?_ (he := (congrArg (fun x => AV.d (.int .i64 x)) ht))
      | refine eX (v := .d (.int .i64 (n % 6))) ?_ (he := (congrArg (fun x => AV.d (.int .i64 x)) ht))
      | refine zW ?_
      | refine zB ?_ ?_ <;> intro h <;> try exact zk h
      | rfl
      | ((exfalso; first | (simp at h <;> fail) | (simp at h; omega)))
      | fail)
  · rw [if_neg h] at ht
    rw [hm]
    have hneg : n % 6 - 6 < 0 := by omega
    have hadd : AV.d (.int .i64 (IntKind.i64.wrap (n % 6 - 6 + 6))) = .d (.int .i64 (n % 6)) := congrArg (fun x => AV.d (.int .i64 x)) ((wrap64 (by omega) (by omega)).trans (by omega))
    have hrem : AV.d (.int .i64 (n.tmod 6)) = .d (.int .i64 (n % 6 - 6)) := congrArg (fun x => AV.d (.int .i64 x)) ht
    refine kF Try.func30 [] fun w => ?_
    repeat' (first
      | refine zV hadd ?_
      | refine zV hrem ?_
      | refine zW ?_
      | refine zB ?_ ?_ <;> intro h <;> try exact zk h
      | rfl
      | ((exfalso; first | (simp at h <;> fail) | (simp at h; omega)))
      | fail)
def atF (l : List Int) (i : Nat) : Int := (l[i]?).getD 0
theorem atF_wf {l : List Int} (h : ∀ n ∈ l, W64 n) (i : Nat) : W64 (atF l i) := by
  unfold atF
  cases e : l[i]? with
  | none => exact ⟨by decide, by decide⟩
  | some x => exact h x (List.mem_of_getElem? e)
theorem atK (l : List Int) (i : Nat) : KnownCall Try.prog 69 [.sl 1 (l.map iI), nI i] (.d (iI (atF l i))) := by
  rcases Nat.lt_or_ge i l.length with hlt | hge
  · obtain ⟨x, hx⟩ := get_ok hlt
    rw [show atF l i = x from by simp [atF, hx]]
    refine kF Try.func69 [] fun w => ?_
    repeat' (first
      | refine zW ?_
      | refine zB ?_ ?_ <;> intro h <;> try exact zk h
      | refine zI w (.d (.ep [iI x])) hx ?_
      | rfl
      | ((exfalso; first | (simp at h <;> fail) | (simp at h; omega)))
      | fail)
  · rw [show atF l i = 0 from by simp [atF, List.getElem?_eq_none hge]]
    refine kF Try.func69 [] fun w => ?_
    repeat' (first
      | refine zW ?_
      | refine zB ?_ ?_ <;> intro h <;> try exact zk h
      | rfl
      | ((exfalso; first | (simp at h <;> fail) | (simp at h; omega)))
      | fail)
theorem quo4 (v : Nat) (h : v < 1048576) : AV.d (.int .i64 (IntKind.i64.wrap (Int.tdiv (v : Int) 4))) = .d (nI (v / 4)) := by
  have : Int.tdiv (v : Int) 4 = ((v / 4 : Nat) : Int) := by rw [Int.tdiv_eq_ediv_of_nonneg (by omega)]; omega
  rw [this, wrap_nat (by omega)]
theorem rem4 (v : Nat) : AV.d (.int .i64 (Int.tmod (v : Int) 4)) = .d (nI (v % 4)) := by
  have : Int.tmod (v : Int) 4 = ((v % 4 : Nat) : Int) := by rw [Int.tmod_eq_emod_of_nonneg (by omega)]; omega
  rw [this]
abbrev zero5 : Ob := .box [.d (nI 0), .d (nI 0), .d (nI 0), .d (nI 0), .d (nI 0)]
theorem xNil : KnownCall Try.prog 32 [.nilsl] (.d (lk [])) := by
  refine kF Try.func32 [] fun w => ?_
  repeat' (first
    | refine zW ?_
    | refine zB ?_ ?_ <;> intro h <;> try exact zk h
    | fail)
  refine Run.loopT (fun i : Nat => ⟨PT.ofList [(0, .d .nilsl), (2, .bp 0 0), (3, .bp 1 0), (4, .d (.int .i64 0))], [zero5, zero5], []⟩) (fun i => i = 0) (fun i => i) 0 rfl (ti _ 2) (fun i hi => ?_)
  repeat' (first
    | refine zW ?_
    | refine zB ?_ ?_ <;> intro h <;> try exact zk h
    | rfl
    | fail)
theorem xK1 (a : Nat) : KnownCall Try.prog 32 [.sl 1 [nI a]] (.d (lk [a])) := by
  refine kF Try.func32 [] fun w => ?_
  repeat' (first
    | refine zW ?_
    | refine zB ?_ ?_ <;> intro h <;> try exact zk h
    | fail)
  refine Run.loopT (fun i : Nat => ⟨PT.ofList [(0, .d (.sl 1 [nI a])), (2, .bp 0 0), (3, .bp 1 0), (4, .d (nI i))], [zero5, .box ((lkC ([a].take i)).map .d)], []⟩) (fun i => i ≤ 1) (fun i => 1 - i) 0 (Nat.zero_le _) (ti _ 2) (fun i hi => ?_)
  rcases (show i = 0 ∨ i = 1 by omega) with rfl | rfl
  · repeat' (first
      | refine zW ?_
      | refine zB ?_ ?_ <;> intro h <;> try exact zk h
      | (exact ⟨1, by omega, by omega, (ti _ 2)⟩)
      | ((exfalso; first | (simp at h <;> fail) | (simp at h; omega)))
      | fail)
  · repeat' (first
      | refine zW ?_
      | refine zB ?_ ?_ <;> intro h <;> try exact zk h
      | rfl
      | ((exfalso; first | (simp at h <;> fail) | (simp at h; omega)))
      | fail)
theorem xK2 (a b : Nat) : KnownCall Try.prog 32 [.sl 1 [nI a, nI b]] (.d (lk [a, b])) := by
  refine kF Try.func32 [] fun w => ?_
  repeat' (first
    | refine zW ?_
    | refine zB ?_ ?_ <;> intro h <;> try exact zk h
    | fail)
  refine Run.loopT (fun i : Nat => ⟨PT.ofList [(0, .d (.sl 1 [nI a, nI b])), (2, .bp 0 0), (3, .bp 1 0), (4, .d (nI i))], [zero5, .box ((lkC ([a, b].take i)).map .d)], []⟩) (fun i => i ≤ 2) (fun i => 2 - i) 0 (Nat.zero_le _) (ti _ 2) (fun i hi => ?_)
  rcases (show i = 0 ∨ i = 1 ∨ i = 2 by omega) with rfl | rfl | rfl
  · repeat' (first
      | refine zW ?_
      | refine zB ?_ ?_ <;> intro h <;> try exact zk h
      | (exact ⟨1, by omega, by omega, (ti _ 2)⟩)
      | ((exfalso; first | (simp at h <;> fail) | (simp at h; omega)))
      | fail)
  · repeat' (first
      | refine zW ?_
      | refine zB ?_ ?_ <;> intro h <;> try exact zk h
      | (exact ⟨2, by omega, by omega, (ti _ 2)⟩)
      | ((exfalso; first | (simp at h <;> fail) | (simp at h; omega)))
      | fail)
  · repeat' (first
      | refine zW ?_
      | refine zB ?_ ?_ <;> intro h <;> try exact zk h
      | rfl
      | ((exfalso; first | (simp at h <;> fail) | (simp at h; omega)))
      | fail)
def ymk (i : Nat) : List Nat := if i = 0 then [] else if (i - 1) % 4 = 0 then [(i - 1) / 4] else [(i - 1) / 4, (i - 1) % 4 - 1]
def kpM (nums : List Int) (k p i : Nat) : Bool := decide ((ymk i).length ≤ k) && decide (mdN 6 (atF nums i) = p)
def setM (nums : List Int) (k p n : Nat) : List (List Nat) := ((List.range n).filter (kpM nums k p)).map ymk
def mS (nums : List Int) (k n : Nat) : List (List (List Nat)) := ((List.range n).filter fun p => !(setM nums k p 13).isEmpty).map fun p => setM nums k p 13
def mP (nums : List Int) (k n : Nat) : List Int := ((List.range n).filter fun p => !(setM nums k p 13).isEmpty).map fun p => ((3 * p : Nat) : Int)
theorem setM_succ (nums : List Int) (k p n : Nat) : setM nums k p (n + 1) = if kpM nums k p n = true then setM nums k p n ++ [ymk n] else setM nums k p n := by
  unfold setM
  rw [List.range_succ, List.filter_append, List.map_append]
  by_cases h : kpM nums k p n = true
  · rw [if_pos h]; simp [h]
  · rw [if_neg h]; simp [h]
theorem mS_succ (nums : List Int) (k n : Nat) : mS nums k (n + 1) = if setM nums k n 13 = [] then mS nums k n else mS nums k n ++ [setM nums k n 13] := by
  unfold mS
  rw [List.range_succ, List.filter_append, List.map_append]
  by_cases h : setM nums k n 13 = []
  · rw [if_pos h]; simp [h]
  · rw [if_neg h]; simp [h]
theorem mP_succ (nums : List Int) (k n : Nat) : mP nums k (n + 1) = if setM nums k n 13 = [] then mP nums k n else mP nums k n ++ [((3 * n : Nat) : Int)] := by
  unfold mP
  rw [List.range_succ, List.filter_append, List.map_append]
  by_cases h : setM nums k n 13 = []
  · rw [if_pos h]; simp [h]
  · rw [if_neg h]; simp [h]
theorem setM_len (nums : List Int) (k p n : Nat) : (setM nums k p n).length ≤ n := by
  rw [setM, List.length_map]
  exact Nat.le_trans (List.length_filter_le _ _) (by simp)
theorem mS_len (nums : List Int) (k n : Nat) : (mS nums k n).length ≤ n := by
  rw [mS, List.length_map]
  exact Nat.le_trans (List.length_filter_le _ _) (by simp)
theorem mP_len (nums : List Int) (k n : Nat) : (mP nums k n).length = (mS nums k n).length := by simp [mP, mS]
set_option maxHeartbeats 4000000 in
theorem madeTr (nums : List Int) (hn : ∀ n ∈ nums, W64 n) (k : Nat) (hk : k ≤ 4) : KnownCall Try.prog 31 [.sl 1 (nums.map iI), nI k] (.tup [.d (.sl 1 ((mS nums k 4).map lks)), .d (.sl 1 ((mP nums k 4).map iI))]) := by
  refine kF Try.func31 [26, 39, 55, 62, 67] fun w => ?_
  have w : Fz [26, 39, 55, 62, 67] := trivial
  repeat' (first
    | refine zW ?_
    | refine zB ?_ ?_ <;> intro h <;> try exact zk h
    | refine zX ?_
    | fail)
  refine Run.mkRoom 6 1 [(0, .d (.sl 1 (nums.map iI))), (1, .d (nI k)), (6, .sr 0 1 []), (7, .d .nilsl), (8, .d (nI 0))] (by kernel_rfl) (ofList_cases (by intro p hp; simp only [List.mem_cons, List.not_mem_nil, or_false] at hp; rcases hp with rfl | rfl | rfl | rfl | rfl <;> first | exact .inl ⟨rfl, rfl⟩ | exact .inr (by kernel_rfl))) ?_
  refine Run.mkRoom 7 1 [(0, .d (.sl 1 (nums.map iI))), (1, .d (nI k)), (6, .sr 0 1 []), (7, .sr 1 1 []), (8, .d (nI 0))] (by kernel_rfl) (ofList_cases (by intro p hp; simp only [List.mem_cons, List.not_mem_nil, or_false] at hp; rcases hp with rfl | rfl | rfl | rfl | rfl <;> first | exact .inl ⟨rfl, rfl⟩ | exact .inr (by kernel_rfl))) ?_
  refine Run.loopT (fun x : Nat × List DV × List DV => ⟨PT.ofList [(0, .d (.sl 1 (nums.map iI))), (1, .d (nI k)), (6, .sr 0 1 x.2.1), (7, .sr 1 1 x.2.2), (8, .d (nI x.1))], [.room x.2.1.length 1, .room x.2.2.length 1], []⟩) (fun x => x.1 ≤ 4 ∧ x.2.1 = (mS nums k x.1).map lks ∧ x.2.2 = (mP nums k x.1).map iI) (fun x => 4 - x.1) (0, [], []) ⟨Nat.zero_le _, rfl, rfl⟩ (ti _ 2) (fun ⟨p, A, C⟩ ⟨hp, hA, hC⟩ => ?_)
  simp only at hp hA hC
  have hal : A.length ≤ 4 := by rw [hA, List.length_map]; have := mS_len nums k p; omega
  have hcl : C.length ≤ 4 := by rw [hC, List.length_map, mP_len]; have := mS_len nums k p; omega
  rcases Nat.lt_or_ge p 4 with hlt | hge
  · repeat' (first
      | refine zW ?_
      | refine zB ?_ ?_ <;> intro h <;> try exact zk h
      | refine zX ?_
      | ((exfalso; first | (simp at h <;> fail) | (simp at h; omega)))
      | fail)
    refine Run.mkRoom 9 5 [(0, .d (.sl 1 (nums.map iI))), (1, .d (nI k)), (6, .sr 0 1 A), (7, .sr 1 1 C), (8, .d (nI p)), (9, .sr 2 5 []), (10, .d (nI 0))] (by kernel_rfl) (ofList_cases (by intro p hp; simp only [List.mem_cons, List.not_mem_nil, or_false] at hp; rcases hp with rfl | rfl | rfl | rfl | rfl | rfl | rfl <;> first | exact .inl ⟨rfl, rfl⟩ | exact .inr (by kernel_rfl))) ?_
    refine Run.loopT (fun x : Nat × List DV => ⟨PT.ofList [(0, .d (.sl 1 (nums.map iI))), (1, .d (nI k)), (6, .sr 0 1 A), (7, .sr 1 1 C), (8, .d (nI p)), (9, .sr 2 5 x.2), (10, .d (nI x.1))], [.room A.length 1, .room C.length 1, .room x.2.length 5], []⟩) (fun x => x.1 ≤ 13 ∧ x.2 = (setM nums k p x.1).map lk) (fun x => 13 - x.1) (0, []) ⟨Nat.zero_le _, rfl⟩ (ti _ 3) (fun ⟨i, F⟩ ⟨hi, hF⟩ => ?_)
    simp only at hi hF
    have hfl : F.length ≤ 13 := by rw [hF, List.length_map]; have := setM_len nums k p i; omega
    rcases Nat.lt_or_ge i 13 with hil | hig
    · have c0 := xNil
      have c1 := atK nums i
      have c2 := mod6 (atF nums i) (atF_wf hn i)
      have hnext := setM_succ nums k p i
      unfold kpM at hnext
      generalize mdN 6 (atF nums i) = m at *
      generalize atF nums i = q at *
      rcases (show i = 0 ∨ (0 < i ∧ (i - 1) % 4 = 0) ∨ (0 < i ∧ 0 < (i - 1) % 4) by omega) with h0 | ⟨h0, h1⟩ | ⟨h0, h1⟩
      · subst h0
        rw [show ymk 0 = [] from rfl] at hnext
        by_cases hm : m = p
        · have hn2 : F ++ [lk []] = (setM nums k p 1).map lk := by rw [hnext, hF]; simp [hm]
          repeat' (first
            | refine zW ?_
            | refine zB ?_ ?_ <;> intro h <;> try exact zk h
            | refine zX ?_
            | refine zC (c0) ?_
            | refine zC (c1) ?_
            | refine zC (c2) ?_
            | refine zAp ?_
            | (exact ⟨(1, F ++ [lk []]), ⟨by omega, hn2⟩, by simp only; omega, (ti _ 3 (Eq.trans (b := [.room A.length 1, .room C.length 1, .room (F.length + 1) 5]) rfl (by simp)))⟩)
            | ((exfalso; first | (simp at h <;> fail) | (simp at h; omega)))
            | fail)
        · have hn2 : F = (setM nums k p 1).map lk := by rw [hnext, hF]; simp [hm]
          repeat' (first
            | refine zW ?_
            | refine zB ?_ ?_ <;> intro h <;> try exact zk h
            | refine zX ?_
            | refine zC (c0) ?_
            | refine zC (c1) ?_
            | refine zC (c2) ?_
            | (exact ⟨(1, F), ⟨by omega, hn2⟩, by simp only; omega, (ti _ 3)⟩)
            | ((exfalso; first | (simp at h <;> fail) | (simp at h; omega)))
            | fail)
      · obtain ⟨v, rfl⟩ : ∃ v, i = v + 1 := ⟨i - 1, by omega⟩
        have hsub : AV.d (.int .i64 (IntKind.i64.wrap (((v + 1 : Nat) : Int) - 1))) = .d (nI v) := by
          congr 2
          rw [show ((v + 1 : Nat) : Int) - 1 = ((v : Nat) : Int) by omega]; exact wrap_nat (by omega)
        rw [Nat.add_sub_cancel] at h1
        have q1 := quo4 v (by omega)
        have r1 := rem4 v
        have hy : ymk (v + 1) = [v / 4] := by
          unfold ymk
          rw [if_neg (by omega), Nat.add_sub_cancel, if_pos h1]
        rw [hy] at hnext
        have c3 := xK1 (v / 4)
        by_cases hkp : 1 ≤ k ∧ m = p
        · have hn2 : F ++ [lk [v / 4]] = (setM nums k p (v + 1 + 1)).map lk := by rw [hnext, hF]; simp [hkp.1, hkp.2]
          repeat' (first
            | refine zV r1 ?_
            | refine zV q1 ?_
            | refine zV hsub ?_
            | refine zW ?_
            | refine zB ?_ ?_ <;> intro h <;> try exact zk h
            | refine zX ?_
            | refine zC (c0) ?_
            | refine zC (c1) ?_
            | refine zC (c2) ?_
            | refine zC (c3) ?_
            | refine zAp ?_
            | (exact ⟨(v + 1 + 1, F ++ [lk [v / 4]]), ⟨by omega, hn2⟩, by simp only; omega, (ti _ 3 (Eq.trans (b := [.room A.length 1, .room C.length 1, .room (F.length + 1) 5]) rfl (by simp)))⟩)
            | ((exfalso; simp only [decide_eq_true_eq, decide_eq_false_iff_not, beq_iff_eq, beq_eq_false_iff_ne, ne_eq, gt_iff_lt, List.length_map, List.length_cons, List.length_nil] at *; omega))
            | fail)
        · have hn2 : F = (setM nums k p (v + 1 + 1)).map lk := by
            rw [hnext, hF, if_neg (by simpa using hkp)]
          repeat' (first
            | refine zV r1 ?_
            | refine zV q1 ?_
            | refine zV hsub ?_
            | refine zW ?_
            | refine zB ?_ ?_ <;> intro h <;> try exact zk h
            | refine zX ?_
            | refine zC (c0) ?_
            | refine zC (c1) ?_
            | refine zC (c2) ?_
            | refine zC (c3) ?_
            | (exact ⟨(v + 1 + 1, F), ⟨by omega, hn2⟩, by simp only; omega, (ti _ 3)⟩)
            | ((exfalso; simp only [decide_eq_true_eq, decide_eq_false_iff_not, beq_iff_eq, beq_eq_false_iff_ne, ne_eq, gt_iff_lt, List.length_map, List.length_cons, List.length_nil] at *; omega))
            | fail)
      · obtain ⟨v, rfl⟩ : ∃ v, i = v + 1 := ⟨i - 1, by omega⟩
        have hsub : AV.d (.int .i64 (IntKind.i64.wrap (((v + 1 : Nat) : Int) - 1))) = .d (nI v) := by
          congr 2
          rw [show ((v + 1 : Nat) : Int) - 1 = ((v : Nat) : Int) by omega]; exact wrap_nat (by omega)
        rw [Nat.add_sub_cancel] at h1
        have q1 := quo4 v (by omega)
        have r1 := rem4 v
        have hy : ymk (v + 1) = [v / 4, v % 4 - 1] := by
          unfold ymk
          rw [if_neg (by omega), Nat.add_sub_cancel, if_neg (by omega)]
        rw [hy] at hnext
        have hsub2 : AV.d (.int .i64 (IntKind.i64.wrap (((v % 4 : Nat) : Int) - 1))) = .d (nI (v % 4 - 1)) := by
          congr 2
          rw [show ((v % 4 : Nat) : Int) - 1 = ((v % 4 - 1 : Nat) : Int) by omega]; exact wrap_nat (by omega)
        have c3 := xK1 (v / 4)
        have c4 := xK2 (v / 4) (v % 4 - 1)
        by_cases hkp : 2 ≤ k ∧ m = p
        · have hn2 : F ++ [lk [v / 4, v % 4 - 1]] = (setM nums k p (v + 1 + 1)).map lk := by rw [hnext, hF]; simp [hkp.1, hkp.2]
          repeat' (first
            | refine zV hsub2 ?_
            | refine zV r1 ?_
            | refine zV q1 ?_
            | refine zV hsub ?_
            | refine zW ?_
            | refine zB ?_ ?_ <;> intro h <;> try exact zk h
            | refine zX ?_
            | refine zC (c0) ?_
            | refine zC (c1) ?_
            | refine zC (c2) ?_
            | refine zC (c3) ?_
            | refine zC (c4) ?_
            | refine zAp ?_
            | (exact ⟨(v + 1 + 1, F ++ [lk [v / 4, v % 4 - 1]]), ⟨by omega, hn2⟩, by simp only; omega, (ti _ 3 (Eq.trans (b := [.room A.length 1, .room C.length 1, .room (F.length + 1) 5]) rfl (by simp)))⟩)
            | ((exfalso; simp only [decide_eq_true_eq, decide_eq_false_iff_not, beq_iff_eq, beq_eq_false_iff_ne, ne_eq, gt_iff_lt, List.length_map, List.length_cons, List.length_nil] at *; omega))
            | fail)
        · have hn2 : F = (setM nums k p (v + 1 + 1)).map lk := by
            rw [hnext, hF, if_neg (by simpa using hkp)]
          repeat' (first
            | refine zV hsub2 ?_
            | refine zV r1 ?_
            | refine zV q1 ?_
            | refine zV hsub ?_
            | refine zW ?_
            | refine zB ?_ ?_ <;> intro h <;> try exact zk h
            | refine zX ?_
            | refine zC (c0) ?_
            | refine zC (c1) ?_
            | refine zC (c2) ?_
            | refine zC (c3) ?_
            | refine zC (c4) ?_
            | (exact ⟨(v + 1 + 1, F), ⟨by omega, hn2⟩, by simp only; omega, (ti _ 3)⟩)
            | ((exfalso; simp only [decide_eq_true_eq, decide_eq_false_iff_not, beq_iff_eq, beq_eq_false_iff_ne, ne_eq, gt_iff_lt, List.length_map, List.length_cons, List.length_nil] at *; omega))
            | fail)
    · have hie : i = 13 := by omega
      subst hie
      subst hF
      have e1 := mS_succ nums k p
      have e2 := mP_succ nums k p
      have hsl := setM_len nums k p 13
      generalize setM nums k p 13 = Q at *
      have hmul : AV.d (.int .i64 (IntKind.i64.wrap (3 * ((p : Nat) : Int)))) = .d (nI (3 * p)) := by
        congr 2
        rw [show 3 * ((p : Nat) : Int) = ((3 * p : Nat) : Int) by omega]; exact wrap_nat (by omega)
      have hw : AV.d (.int .i64 (IntKind.i64.wrap (((p : Nat) : Int) + 1))) = .d (nI (p + 1)) := by
        congr 2
        rw [show ((p : Nat) : Int) + 1 = ((p + 1 : Nat) : Int) by omega]; exact wrap_nat (by omega)
      repeat refine zS ?_
      refine zX ?_
      refine zV (lt_false (Nat.le_refl 13)) ?_
      repeat refine zS ?_
      refine RunOps.tidy (s' := ⟨PT.ofList [(0, .d (.sl 1 (nums.map iI))), (1, .d (nI k)), (6, .sr 0 1 A), (7, .sr 1 1 C), (8, .d (nI p)), (9, .d (lks Q))], [.room A.length 1, .room C.length 1], []⟩) (ti _ 2) ?_
      by_cases hQ : Q = []
      · rw [if_pos hQ] at e1 e2
        have hA2 : A = (mS nums k (p + 1)).map lks := by rw [e1, hA]
        have hC2 : C = (mP nums k (p + 1)).map iI := by rw [e2, hC]
        have hQl : (Q.map lk).length = 0 := by rw [hQ]; rfl
        repeat' (first
          | refine zV hw ?_
          | refine zW ?_
          | refine zB ?_ ?_ <;> intro h <;> try exact zk h
          | refine zX ?_
          | (exact ⟨(p + 1, A, C), ⟨hlt, hA2, hC2⟩, by simp only; omega, (ti _ 2)⟩)
          | ((exfalso; simp only [decide_eq_true_eq, decide_eq_false_iff_not, gt_iff_lt] at *; omega))
          | fail)
      · rw [if_neg hQ] at e1 e2
        have hQl : 0 < (Q.map lk).length := by rw [List.length_map]; exact List.length_pos_iff.2 hQ
        have hA2 : A ++ [lks Q] = (mS nums k (p + 1)).map lks := by rw [e1, List.map_append, hA]; rfl
        have hC2 : C ++ [nI (3 * p)] = (mP nums k (p + 1)).map iI := by rw [e2, List.map_append, hC]; rfl
        repeat' (first
          | refine zV hw ?_
          | refine zV hmul ?_
          | refine zW ?_
          | refine zB ?_ ?_ <;> intro h <;> try exact zk h
          | refine zX ?_
          | refine zAp ?_
          | (exact ⟨(p + 1, A ++ [lks Q], C ++ [nI (3 * p)]), ⟨hlt, hA2, hC2⟩, by simp only; omega, (ti _ 2 (Eq.trans (b := [.room (A.length + 1) 1, .room (C.length + 1) 1]) rfl (by simp)))⟩)
          | ((exfalso; simp only [decide_eq_true_eq, decide_eq_false_iff_not, gt_iff_lt] at *; omega))
          | fail)
  · have hie : p = 4 := by omega
    subst hie
    subst hA hC
    repeat' (first
      | refine zW ?_
      | refine zB ?_ ?_ <;> intro h <;> try exact zk h
      | refine zX ?_
      | rfl
      | ((exfalso; first | (simp at h <;> fail) | (simp at h; omega)))
      | fail)
end Go.Av
end
noncomputable section
namespace Go.Av
set_option maxRecDepth 10000
theorem ordE_zero : ∀ {P : List Int} {l : Int}, P.Pairwise (· < ·) → (∀ p ∈ P, l < p ∧ p < 24) → ordE l P = 0
  | [], _, _, _ => rfl
  | p :: P, l, h, hb => by
    obtain ⟨h1, h2⟩ := List.pairwise_cons.1 h
    have := hb p (by simp)
    simp only [ordE]
    rw [if_neg (by omega)]
    exact ordE_zero h2 fun q hq => ⟨h1 q hq, (hb q (by simp [hq])).2⟩
theorem chkW_zero {k t : Nat} (h1 : 1 ≤ t) (h8 : t ≤ 8) : ∀ {L : List (List Nat)} {p : Option (List Nat)}, (∀ x ∈ L, Rt x ∧ x.length ≤ k ∧ ∀ u ∈ x, u < t) → L.Pairwise (fun x y => cmpL x y < 0) → (∀ q, p = some q → q.length ≤ 4 ∧ ∀ x ∈ L, cmpL q x < 0) → chkW k t (p.map rawOf) (L.map rawOf) = 0
  | [], p, _, _, _ => chkW_nil _ _ _
  | x :: L, p, hr, ha, hp => by
    obtain ⟨a1, a2⟩ := List.pairwise_cons.1 ha
    obtain ⟨r1, r2, r3⟩ := hr x (by simp)
    have hc : chkR (rawOf x) t = 0 := chkR_lk r1.len (by omega) (by omega) (fun u hu => by have := r3 u hu; omega)
    have ih := chkW_zero h1 h8 (L := L) (p := some x) (fun y hy => hr y (by simp [hy])) a2 (fun q e => by
      cases e
      exact ⟨r1.len, fun y hy => a1 y hy⟩)
    have hn : ¬ ((k : Int) < (rawOf x).n) := by
      show ¬ ((k : Int) < ((x.length : Nat) : Int))
      omega
    cases p with
    | none =>
      simp only [List.map_cons, Option.map_none, chkW]
      rw [if_pos hc, if_neg hn]
      exact ih
    | some q =>
      obtain ⟨q1, q2⟩ := hp q rfl
      simp only [List.map_cons, Option.map_some, chkW]
      rw [if_pos hc, if_neg hn, dec_of q1, dec_of r1.len, if_neg (by have := q2 x (by simp); omega)]
      exact ih
theorem setE_zero {k t : Nat} (h1 : 1 ≤ t) (h8 : t ≤ 8) {L : List (List Nat)} (h : SetR k t L) : setE k t (L.map rawOf) = 0 := by
  unfold setE
  rw [if_neg (by rw [List.length_map]; intro e; exact h.ne (List.length_eq_zero_iff.1 e))]
  exact chkW_zero (p := none) h1 h8 h.rt h.asc (fun q e => by cases e)
theorem setsE_zero {k t : Nat} (h1 : 1 ≤ t) (h8 : t ≤ 8) : ∀ {S : List (List (List Nat))}, (∀ L ∈ S, SetR k t L) → setsE k t (rawS S) = 0
  | [], _ => rfl
  | L :: S, h => by
    simp only [rawS, List.map_cons, setsE]
    rw [if_pos (setE_zero h1 h8 (h L (by simp)))]
    exact setsE_zero h1 h8 fun M hM => h M (by simp [hM])
theorem ymk_asc : (List.range 13).Pairwise fun i j => cmpL (ymk i) (ymk j) < 0 := by decide
theorem ymk_all : ∀ i ∈ List.range 13, (ymk i).length ≤ 4 ∧ ∀ u ∈ ymk i, u < 3 := by decide
theorem ymk_rt {i : Nat} (h : i < 13) : Rt (ymk i) ∧ ∀ u ∈ ymk i, u < 3 := by
  obtain ⟨h1, h2⟩ := ymk_all i (List.mem_range.2 h)
  exact ⟨⟨h1, fun u hu => by have := h2 u hu; omega⟩, h2⟩
theorem ymk_inj {i j : Nat} (hi : i < 13) (hj : j < 13) (h : ymk i = ymk j) : i = j := by
  have hp := List.pairwise_iff_getElem.1 ymk_asc
  rcases Nat.lt_trichotomy i j with h1 | h1 | h1
  · have := hp i j (by simpa using hi) (by simpa using hj) h1
    simp only [List.getElem_range] at this
    rw [h] at this; exact (cmpL_irr this).elim
  · exact h1
  · have := hp j i (by simpa using hj) (by simpa using hi) h1
    simp only [List.getElem_range] at this
    rw [h] at this; exact (cmpL_irr this).elim
theorem mem_setM {nums : List Int} {k p : Nat} {x : List Nat} : x ∈ setM nums k p 13 ↔ ∃ i, i < 13 ∧ (ymk i).length ≤ k ∧ mdN 6 (atF nums i) = p ∧ ymk i = x := by
  unfold setM
  rw [List.mem_map]
  constructor
  · rintro ⟨i, h1, rfl⟩
    obtain ⟨h2, h3⟩ := List.mem_filter.1 h1
    simp only [kpM, Bool.and_eq_true, decide_eq_true_eq] at h3
    exact ⟨i, List.mem_range.1 h2, h3.1, h3.2, rfl⟩
  · rintro ⟨i, h1, h2, h3, rfl⟩
    exact ⟨i, List.mem_filter.2 ⟨List.mem_range.2 h1, by simp [kpM, h2, h3]⟩, rfl⟩
theorem setM_right {nums : List Int} {k p : Nat} (h : setM nums k p 13 ≠ []) : SetR k 3 (setM nums k p 13) := by
  refine ⟨h, fun x hx => ?_, ?_⟩
  · obtain ⟨i, h1, h2, _, rfl⟩ := mem_setM.1 hx
    obtain ⟨h3, h4⟩ := ymk_rt h1
    exact ⟨h3, h2, h4⟩
  · unfold setM
    rw [List.pairwise_map]
    exact ymk_asc.filter _
theorem mS_at {nums : List Int} {k i : Nat} {L : List (List Nat)} (h : (mS nums k 4)[i]? = some L) : ∃ p, p < 4 ∧ L = setM nums k p 13 ∧ L ≠ [] ∧ (mP nums k 4)[i]? = some ((3 * p : Nat) : Int) := by
  unfold mS at h
  rw [List.getElem?_map] at h
  obtain ⟨p, hp, rfl⟩ := Option.map_eq_some_iff.1 h
  have hm := List.mem_of_getElem? hp
  obtain ⟨h1, h2⟩ := List.mem_filter.1 hm
  refine ⟨p, List.mem_range.1 h1, rfl, ?_, ?_⟩
  · intro e; rw [e] at h2; simp at h2
  · unfold mP
    rw [List.getElem?_map, hp]; rfl
theorem mP_asc (nums : List Int) (k : Nat) : (mP nums k 4).Pairwise (· < ·) := by
  unfold mP
  rw [List.pairwise_map]
  exact (List.pairwise_lt_range.filter _).imp fun {a b} hab => by omega
theorem mP_rng {nums : List Int} {k : Nat} {p : Int} (h : p ∈ mP nums k 4) : -1 < p ∧ p < 24 := by
  unfold mP at h
  obtain ⟨q, hq, rfl⟩ := List.mem_map.1 h
  have := List.mem_range.1 (List.mem_filter.1 hq).1
  omega
theorem made_chk (nums : List Int) {k : Nat} (h1 : 1 ≤ k) (h4 : k ≤ 4) : chkAll k (3 : Nat) (rawS (mS nums k 4)) (mP nums k 4) = 0 := by
  have hr : ∀ L ∈ mS nums k 4, SetR k 3 L := fun L hL => by
    obtain ⟨i, hi⟩ := List.getElem?_of_mem hL
    obtain ⟨p, _, rfl, hne, _⟩ := mS_at hi
    exact setM_right hne
  have hl : (rawS (mS nums k 4)).length ≤ 4 := by have := mS_len nums k 4; simpa using this
  have hpl : (mP nums k 4).length = (rawS (mS nums k 4)).length := by rw [mP_len]; simp
  have ho : ofE k (3 : Nat) (rawS (mS nums k 4)) (mP nums k 4) = 0 := by
    have e1 : sizE (k : Int) ((3 : Nat) : Int) = 0 := sizE_nat (by omega) (by omega) (by decide) (by decide)
    have e2 : ordE (-1) (mP nums k 4) = 0 := ordE_zero (mP_asc nums k) fun p hp => mP_rng hp
    have e3 : setsE (k : Int) ((3 : Nat) : Int) (rawS (mS nums k 4)) = 0 := setsE_zero (by omega) (by omega) hr
    unfold ofE
    simp only [e1, e2, e3, hpl]
    rw [if_neg (by omega)]
    simp
  have hn : NCr (rawS (mS nums k 4)) := by
    intro i j L M hji hL hM x hx hxM
    rw [List.getElem?_map] at hL hM
    obtain ⟨L', hL', rfl⟩ := Option.map_eq_some_iff.1 hL
    obtain ⟨M', hM', rfl⟩ := Option.map_eq_some_iff.1 hM
    obtain ⟨p, p4, rfl, _, hpi⟩ := mS_at hL'
    obtain ⟨q, q4, rfl, _, hqj⟩ := mS_at hM'
    obtain ⟨a, ha, rfl⟩ := List.mem_map.1 hx
    obtain ⟨b, hb, e⟩ := List.mem_map.1 hxM
    obtain ⟨u, u1, u2, u3, rfl⟩ := mem_setM.1 ha
    obtain ⟨v, v1, v2, v3, rfl⟩ := mem_setM.1 hb
    have := rawOf_inj (ymk_rt v1).1.len (ymk_rt u1).1.len e
    have := ymk_inj v1 u1 this
    subst this
    have hpq : p = q := by omega
    subst hpq
    have hp := List.pairwise_iff_getElem.1 (mP_asc nums k)
    obtain ⟨a1, a2⟩ := List.getElem?_eq_some_iff.1 hpi
    obtain ⟨b1, b2⟩ := List.getElem?_eq_some_iff.1 hqj
    have := hp j i b1 a1 hji
    omega
  unfold chkAll
  rw [if_neg (fun h => h ho), if_pos hn]
theorem made_back (nums : List Int) {k : Nat} (h1 : 1 ≤ k) (h4 : k ≤ 4) : BackT k 3 (mS nums k 4) (mP nums k 4) := BackT.of (made_chk nums h1 h4) fun L hL x hx => by
  obtain ⟨i, hi⟩ := List.getElem?_of_mem hL
  obtain ⟨p, _, rfl, hne, _⟩ := mS_at hi
  exact ((setM_right hne).rt x hx).1.len
theorem flat_row {n : Nat} : ∀ {S : List (List (List Nat))}, (∀ L ∈ S, L.length ≤ n) → S.flatten.length ≤ S.length * n
  | [], _ => by simp
  | L :: S, h => by
    have h1 := h L (by simp)
    have h2 := flat_row fun M hM => h M (List.mem_cons_of_mem _ hM)
    rw [List.flatten_cons, List.length_append, List.length_cons, Nat.succ_mul]
    omega
theorem made_flat (nums : List Int) (k : Nat) : (mS nums k 4).flatten.length ≤ 52 := by
  have h1 := flat_row (n := 13) (S := mS nums k 4) fun L hL => by
    obtain ⟨i, hi⟩ := List.getElem?_of_mem hL
    obtain ⟨p, _, rfl, _, _⟩ := mS_at hi
    exact setM_len nums k p 13
  have h2 := mS_len nums k 4
  have : (mS nums k 4).length * 13 ≤ 4 * 13 := Nat.mul_le_mul_right _ h2
  omega
end Go.Av
end
noncomputable section
namespace Go.Av
open Go Go.Proofs
set_option maxRecDepth 10000
theorem all_succ {p : Nat → Prop} {i : Nat} (h : ∀ j, j < i → p j) (h' : p i) : ∀ j, j < i + 1 → p j := fun j hj => by
  rcases Nat.lt_succ_iff_lt_or_eq.1 hj with h1 | h1
  · exact h j h1
  · exact h1 ▸ h'
def idxP {α : Type} (l : List α) (p : α → Bool) : Int := if l.any p then (l.findIdx p : Nat) else -1
theorem idxP_at {α : Type} {l : List α} {p : α → Bool} {i : Nat} {x : α} (h : l[i]? = some x) (hx : p x = true) (hb : ∀ j, j < i → ∀ y, l[j]? = some y → p y = false) : idxP l p = i := by
  have hm := List.mem_of_getElem? h
  have ha : l.any p = true := List.any_eq_true.2 ⟨x, hm, hx⟩
  rw [idxP, if_pos ha]
  have h1 : l.findIdx p < l.length := List.findIdx_lt_length_of_exists ⟨x, hm, hx⟩
  have h2 := List.findIdx_getElem (w := h1)
  have h3 : ¬ l.findIdx p < i := fun hlt => by
    have := hb _ hlt _ (List.getElem?_eq_getElem h1)
    rw [this] at h2; cases h2
  have h4 : ¬ i < l.findIdx p := fun hlt => by
    have h5 := List.not_of_lt_findIdx hlt
    rw [(List.getElem?_eq_some_iff.1 h).2] at h5
    simp [hx] at h5
  omega
theorem idxP_none {α : Type} {l : List α} {p : α → Bool} (hb : ∀ j, j < l.length → ∀ y, l[j]? = some y → p y = false) : idxP l p = -1 := by
  rw [idxP, if_neg]
  intro ha
  obtain ⟨x, hx, hp⟩ := List.any_eq_true.1 ha
  obtain ⟨j, hj, e⟩ := List.getElem_of_mem hx
  have := hb j hj x (by rw [List.getElem?_eq_getElem hj, e])
  rw [this] at hp; cases hp
theorem idxP_any {α : Type} (l : List α) (p : α → Bool) : decide (0 ≤ idxP l p) = l.any p := by
  unfold idxP
  cases h : l.any p <;> simp
theorem indexFuncInts (l : List Int) (hl : l.length ≤ 1099511627776) (F : FuncId) (caps : List DV) (p : Int → Bool) (hp : ∀ x ∈ l, KnownCall Try.prog F ((.int .i64 x) :: caps) (.d (.bool (p x)))) :
    KnownCall Try.prog 97 [(.sl 1 (l.map (.int .i64))), .fn (.func F) [] caps] (.d (.int .i64 (idxP l p))) := by
  refine kF Try.func97 [] fun w => ?_
  repeat' (first
    | refine zW ?_
    | refine zB ?_ ?_ <;> intro h <;> try exact zk h
    | fail)
  refine Run.loop (fun i : Nat => ⟨PT.ofList [(0, .d (.sl 1 (l.map (.int .i64)))), (1, .d (.fn (.func F) [] caps)), (7, .d (.int .i64 l.length)), (8, .d (.int .i64 i))], [], []⟩) (fun i => i ≤ l.length ∧ ∀ j, j < i → ∀ y, l[j]? = some y → p y = false) (fun i => l.length - i) 0 ⟨Nat.zero_le _, fun j hj => by omega⟩ (weak_of (by repeat' (first | exact trivial | refine ⟨rfl, ?_⟩ | refine ⟨Eq.trans (b := some (.d (.int .i64 (l.map _).length))) rfl (by rw [List.length_map]), ?_⟩ | fail))) (fun i hi => ?_)
  obtain ⟨hi1, hi2⟩ := hi
  rcases Nat.lt_or_ge i l.length with hlt | hge
  · obtain ⟨x, hx⟩ := get_ok hlt
    have hc := hp x (List.mem_of_getElem? hx)
    repeat' (first
      | refine zW ?_
      | refine zB ?_ ?_ <;> intro h <;> try exact zk h
      | refine zI w (.d (.ep [.int .i64 x])) hx ?_
      | refine zK (hc) ?_ ?_ <;> intro h <;> try exact zk h
      | refine zC (hc) ?_
      | (show _ = _; rw [idxP_at hx (by simp_all) hi2])
      | (exact ⟨i + 1, ⟨by omega, all_succ hi2 (fun q hq => by rw [hx] at hq; cases hq; simp_all)⟩, by omega, weak_of (by repeat' (first | exact trivial | refine ⟨rfl, ?_⟩ | refine ⟨(inc_get (k := i) (by kernel_rfl) (by omega)), ?_⟩))⟩)
      | fail)
  · have hge : i = l.length := by omega
    repeat' (first
      | refine zW ?_
      | refine zB ?_ ?_ <;> intro h <;> try exact zk h
      | (show _ = _; rw [idxP_none (fun j hj => hi2 j (by omega))])
      | fail)
theorem containsFuncInts (l : List Int) (hl : l.length ≤ 1099511627776) (F : FuncId) (caps : List DV) (p : Int → Bool) (hp : ∀ x ∈ l, KnownCall Try.prog F ((.int .i64 x) :: caps) (.d (.bool (p x)))) :
    KnownCall Try.prog 62 [(.sl 1 (l.map (.int .i64))), .fn (.func F) [] caps] (.d (.bool (l.any p))) := by
  refine kF Try.func62 [] fun w => ?_
  have e := idxP_any l p
  repeat' (first
    | refine zW ?_
    | refine zB ?_ ?_ <;> intro h <;> try exact zk h
    | refine zK (indexFuncInts _ hl _ _ _ hp) ?_ ?_ <;> intro h <;> try exact zk h
    | refine zC (indexFuncInts _ hl _ _ _ hp) ?_
    | (show _ = _; first | (rw [← e] <;> simp_all <;> fail) | fail)
    | fail)
theorem indexNil (F : FuncId) (caps : List DV) : KnownCall Try.prog 97 [.nilsl, .fn (.func F) [] caps] (.d (iI (-1))) := by
  refine kF Try.func97 [] fun w => ?_
  repeat' (first
    | refine zW ?_
    | refine zB ?_ ?_ <;> intro h <;> try exact zk h
    | fail)
  refine Run.loopT (fun i : Nat => ⟨PT.ofList [(7, .d (nI 0)), (8, .d (nI 0))], [], []⟩) (fun i => i = 0) (fun i => i) 0 rfl (ti _ 0) (fun i hi => ?_)
  repeat' (first
    | refine zW ?_
    | refine zB ?_ ?_ <;> intro h <;> try exact zk h
    | rfl
    | fail)
theorem containsNil (F : FuncId) (caps : List DV) : KnownCall Try.prog 62 [.nilsl, .fn (.func F) [] caps] (.d (.bool false)) := by
  have c := indexNil F caps
  refine kF Try.func62 [] fun w => ?_
  repeat' (first
    | refine zW ?_
    | refine zB ?_ ?_ <;> intro h <;> try exact zk h
    | refine zC (c) ?_
    | rfl
    | fail)
theorem badS (t : Nat) (x : Int) : KnownCall Try.prog 63 [iI x, .ep [iI t]] (.d (.bool (decide (x < 0) || decide ((t : Int) ≤ x)))) := by
  refine kF Try.func63 [] fun w => ?_
  repeat' (first
    | refine zW ?_
    | refine zB ?_ ?_ <;> intro h <;> try exact zk h
    | (fail)
    | fail)
  · simp at h; simp [h]
  · simp at h; simp [h]
  · rename_i h1
    simp at h1 h
    simp
    omega
theorem cloneC (a : Int) (l : List Int) (hl : l.length ≤ 100000) : KnownCall Try.prog 64 [.sl 1 ((a :: l).map iI)] (.d (.sl 1 ((a :: l).map iI))) := by
  have w : Fz [] := trivial
  refine knownE2 Et_ok (fnB Try.func64 []) ?_
  repeat' (first
    | refine zW ?_
    | refine zB ?_ ?_ <;> intro h <;> try exact zk h
    | refine zAp ?_
    | (refine Run.ret ?_; refine r2 ?_; first | done | (exact .refl))
    | fail)
theorem drop9 {n : Nd} (h : n.x.length = 9) {e : Nat} {v : Int} (hv : n.x[e]? = some v) : ∃ R, AV.d (.ep (List.drop (((e : Nat) : Int).toNat * 1) (ndC n))) = .d (.ep (iI v :: R)) := by
  have he := (List.getElem?_eq_some_iff.1 hv).1
  refine ⟨List.drop (e + 1) (ndC n), ?_⟩
  congr 2
  simp only [Int.toNat_natCast, Nat.mul_one]
  have h1 : (ndC n)[e]? = some (iI v) := by
    unfold ndC
    rw [List.getElem?_append_left (by simp; omega), List.getElem?_map, hv]; rfl
  obtain ⟨h2, h3⟩ := List.getElem?_eq_some_iff.1 h1
  rw [List.drop_eq_getElem_cons h2, h3]
def goR (T : Trt) (es : List Nat) : Int × Int := match goT T.q 0 es with
  | none => (0, 24)
  | some n => if 0 ≤ T.v.getD n (-1) then (T.v.getD n (-1), 0) else (0, 24)
def chR (T : Trt) (k : Nat) (l : List Nat) (b : Bool) : Int × Int := if l.length < k ∧ b = false then (0, 5) else goR T (edgesT k (l.take k))
def RunJ (P : Program) (nt m : Nat) (ro' : Option Nat) (K : Ex → S → Prop) (S1 : S) : List Code → S → Prop
  | [], s => Tidy m s S1
  | c :: cs, s => Run P nt m ro' c s (fun e s1 => match e with | .normal => RunJ P nt m ro' K S1 cs s1 | e => K e s1)
def seqs : List Code → Code → Code
  | [], r => r
  | c :: cs, r => .seq c (seqs cs r)
theorem RunJ.run {P : Program} {nt m : Nat} {ro' : Option Nat} {K : Ex → S → Prop} {r : Code} (S1 : S) : ∀ (cs : List Code) {s : S}, RunJ P nt m ro' K S1 cs s → Run P nt m ro' r S1 K → Run P nt m ro' (seqs cs r) s K
  | [], _, h, h2 => Run.tidy h h2
  | c :: cs, _, h, h2 => Run.seq (Run.mono h fun e s1 h3 => by
    cases e with
    | normal => exact RunJ.run S1 cs h3 h2
    | _ => exact h3)
theorem cloneA (a : Int) (l : List Int) (hl : l.length ≤ 100000) : ACall Try.prog 64 [.d (.sl 1 ((a :: l).map iI))] [] (.sr 0 1 ((a :: l).map iI)) [.room (l.length + 1) 1] := by
  have w : Fz [] := trivial
  refine acallG_of_run Et_ok (fnB Try.func64 []) rfl rfl (by simp) (by rfl) rfl ?_
  have w : Fz [] := trivial
  have e1 : ((a :: l).map iI).length = l.length + 1 := by simp
  repeat refine zS ?_
  refine zX ?_
  repeat refine zS ?_
  iterate 2 refine zX ?_
  repeat refine zS ?_
  iterate 2 refine zX ?_
  refine zAp ?_
  refine zX ?_
  repeat refine zS ?_
  refine Run.ret ?_
  refine ⟨trivial, _, _, rfl, rfl, .refl, ?_⟩
  have h : ∀ x y : Nat, x = y → WkOb (.room x 1) (.room y 1) := fun x y e => e ▸ .refl
  exact ⟨h _ _ (by simp), trivial⟩
theorem flag9 {e : Nat} (h : e ≤ 8) : (inB (e : Int) 9 && Nat.ble ((e : Int).toNat * 1) 10) = true := by
  simp [inB, Nat.ble_eq]; omega
theorem goT_take {Q : TE} {W : List Nat} {j a e : Nat} (h : goT Q 0 (W.take j) = some a) (he : W[j]? = some e) : goT Q 0 (W.take (j + 1)) = if (a, e) ∈ Q then some (toT Q a e) else none := by
  rw [List.take_add_one, he]
  show goT Q 0 (W.take j ++ [e]) = _
  rw [goT_snoc, h]; rfl
theorem goT_stop {Q : TE} {W : List Nat} {j : Nat} (h : goT Q 0 (W.take j) = none) : goT Q 0 W = none := by
  conv => lhs; rw [← List.take_append_drop j W]
  rw [goT_app, h]; rfl
set_option maxHeartbeats 60000000 in
theorem chooseK (T : Trt) (hT : OkT T) (hl : (rowT T).length ≤ 1000) (m t : Nat) (h4 : m + 1 ≤ 4) (ht8 : t ≤ 8) (hcc : KnownCall Try.prog 21 [nI (m + 1), iI t, iI 24, trD (rowT T)] (.d (iI 0))) (ld : DV) (l : List Nat) (hld : (ld = .nilsl ∧ l = []) ∨ ∃ a l', l = a :: l' ∧ ld = .sl 1 ((a :: l').map nI)) (hlt : ∀ u ∈ l, u < t) (hln : l.length ≤ 1000) (b : Bool) :
    KnownCall Try.prog 23 [nI (m + 1), iI t, trD (rowT T), ld, .bool b] (.tup [.d (iI (chR T (m + 1) l b).1), .d (iI (chR T (m + 1) l b).2)]) := by
  have hnl : ((rowT T).map nd).length = T.q.length + 1 := by simp [rowT_len]
  rw [rowT_len] at hl
  have hcf2 : KnownCall Try.prog 62 [ld, .fn (.func 63) [] [.ep [iI t]]] (.d (.bool false)) := by
    rcases hld with ⟨rfl, rfl⟩ | ⟨a, l', rfl, rfl⟩
    · exact containsNil _ _
    · have hcf := containsFuncInts ((a :: l').map fun (u : Nat) => (u : Int)) (by simp; simp at hln; omega) 63 [.ep [iI t]] (fun x => decide (x < 0) || decide ((t : Int) ≤ x)) (fun x _ => badS t x)
      have hany : ((a :: l').map fun (u : Nat) => (u : Int)).any (fun x => decide (x < 0) || decide ((t : Int) ≤ x)) = false := by
        rw [List.any_eq_false]
        intro x hx
        obtain ⟨u, hu, rfl⟩ := List.mem_map.1 hx
        have := hlt u hu
        simp
        omega
      rw [hany, List.map_map] at hcf
      exact hcf
  by_cases hsh : l.length < m + 1 ∧ b = false
  · obtain ⟨hsh, rfl⟩ := hsh
    rw [show chR T (m + 1) l false = (0, 5) from by unfold chR; rw [if_pos ⟨hsh, rfl⟩]]
    rcases hld with ⟨rfl, rfl⟩ | ⟨a, l', rfl, rfl⟩
    · refine kF Try.func23 [6, 7, 48] fun w => ?_
      repeat' (first
        | refine zW ?_
        | refine zB ?_ ?_ <;> intro h <;> try exact zk h
        | refine zX ?_
        | refine zC (hcc) ?_
        | refine zC (hcf2) ?_
        | rfl
        | ((exfalso; simp only [List.length_cons, List.length_map, List.length_nil, decide_eq_true_eq, decide_eq_false_iff_not] at *; omega))
        | fail)
    · refine kF Try.func23 [6, 7, 48] fun w => ?_
      repeat' (first
        | refine zW ?_
        | refine zB ?_ ?_ <;> intro h <;> try exact zk h
        | refine zX ?_
        | refine zC (hcc) ?_
        | refine zC (hcf2) ?_
        | rfl
        | ((exfalso; simp only [List.length_cons, List.length_map, List.length_nil, decide_eq_true_eq, decide_eq_false_iff_not] at *; omega))
        | fail)
  · obtain ⟨W, hW⟩ : ∃ W, W = edgesT (m + 1) (l.take (m + 1)) := ⟨_, rfl⟩
    rw [show chR T (m + 1) l b = goR T W from by unfold chR; rw [if_neg hsh, hW]]
    have hW8 : ∀ e ∈ W, e ≤ 8 := by
      rw [hW]
      exact edges8 fun e he => by have := hlt e (List.mem_of_mem_take he); omega
    have hWl : W.length ≤ 4 := by
      rw [hW]
      unfold edgesT
      split
      · rename_i hh; rw [List.length_append, List.length_cons, List.length_nil]; omega
      · rw [List.length_take]; omega
    refine kF Try.func23 [6, 7, 48] fun w => ?_
    have w : Fz [6, 7, 48] := trivial
    refine RunJ.run ⟨PT.ofList [(7, .d (.ep [.sl 10 ((rowT T).map nd)])), (13, .d (.sl 1 (W.map nI)))], [], []⟩ [_, _, _, _, _, _] ?_ ?_
    · rcases hld with ⟨rfl, rfl⟩ | ⟨a, l', rfl, rfl⟩
      focus
        have hbt : b = true := by
          cases b with
          | true => rfl
          | false => exact absurd ⟨by simp, rfl⟩ hsh
        subst hbt
        have hWe : W = [8] := by rw [hW]; unfold edgesT; simp
        have hcl : KnownCall Try.prog 64 [.nilsl] (.d .nilsl) := by
          refine kF Try.func64 [6, 7, 48] fun w => ?_
          repeat' (first
            | refine zW ?_
            | refine zB ?_ ?_ <;> intro h <;> try exact zk h
            | refine zX ?_
            | rfl
            | fail)
        repeat' (first
          | refine zW ?_
          | refine zB ?_ ?_ <;> intro h <;> try exact zk h
          | refine zX ?_
          | refine zC (hcc) ?_
          | refine zC (hcf2) ?_
          | refine zC (hcl) ?_
          | refine zAp ?_
          | ((exfalso; simp only [List.length_cons, List.length_map, List.length_nil, decide_eq_true_eq, decide_eq_false_iff_not] at *; omega))
          | fail)
        exact (ti [(7, .d (.ep [.sl 10 ((rowT T).map nd)])), (13, .d (.sl 1 (W.map nI)))] 0 (h := ⟨.inl rfl, .inr (by rw [hWe]; rfl), trivial⟩))
      focus
        by_cases hk : l'.length + 1 < m + 1
        focus
          have hbt : b = true := by
            cases b with
            | true => rfl
            | false => exact absurd ⟨by simpa using hk, rfl⟩ hsh
          subst hbt
          have hWe : W = (a :: l') ++ [8] := by
            rw [hW, List.take_of_length_le (by simp; omega)]
            unfold edgesT
            rw [if_pos (by simpa using hk)]
          have hA : ACall Try.prog 64 [.d (.sl 1 ((a :: l').map nI))] [] (.sr 0 1 ((a :: l').map nI)) [.room (l'.length + 1) 1] := by
            have := cloneA a (l'.map fun (u : Nat) => (u : Int)) (by simp; simp at hln; omega)
            simpa [List.map_map, Function.comp_def] using this
          have hll : ((a :: l').map nI).length = l'.length + 1 := by simp
          have hmin : AV.d (.int .i64 (if ((m + 1 : Nat) : Int) < ((((a :: l').map nI).length : Nat) : Int) then ((m + 1 : Nat) : Int) else ((((a :: l').map nI).length : Nat) : Int))) = .d (nI (l'.length + 1)) := by
            rw [hll, if_neg (by omega)]
          have hcut : AV.d (.sl 1 (cutL none (some ((l'.length + 1 : Nat) : Int)) ((a :: l').map nI))) = .d (.sl 1 ((a :: l').map nI)) := by
            simp only [cutL, Int.toNat_natCast]
            rw [List.take_of_length_le (by rw [hll]; exact Nat.le_refl _)]
          repeat' (first
            | refine zV hmin ?_
            | refine zW ?_
            | refine zB ?_ ?_ <;> intro h <;> try exact zk h
            | refine zX ?_
            | refine zC (hcc) ?_
            | refine zC (hcf2) ?_
            | refine zCut hcut ?_
            | refine oA hA ?_
            | refine zAp ?_
            | ((exfalso; simp only [List.length_cons, List.length_map, List.length_nil, decide_eq_true_eq, decide_eq_false_iff_not] at *; omega))
            | fail)
          have hlen2 : ((a :: l') ++ [8]).length = (((a :: l').map nI) ++ [nI 8]).length := by simp
          exact (ti [(7, .d (.ep [.sl 10 ((rowT T).map nd)])), (13, .d (.sl 1 (W.map nI)))] 0 (h := ⟨.inl rfl, .inr (by rw [hWe, List.map_append]; rfl), trivial⟩))
        focus
          have hWe : W = a :: l'.take m := by
            rw [hW, List.take_succ_cons]
            unfold edgesT
            rw [if_neg (by simp; omega)]
          have hC : KnownCall Try.prog 64 [.sl 1 ((a :: l'.take m).map nI)] (.d (.sl 1 ((a :: l'.take m).map nI))) := by
            have := cloneC a ((l'.take m).map fun (u : Nat) => (u : Int)) (by simp; simp at hln; omega)
            simpa [List.map_map, Function.comp_def] using this
          have hll : ((a :: l').map nI).length = l'.length + 1 := by simp
          have hmin : AV.d (.int .i64 (if ((m + 1 : Nat) : Int) < ((((a :: l').map nI).length : Nat) : Int) then ((m + 1 : Nat) : Int) else ((((a :: l').map nI).length : Nat) : Int))) = .d (nI (m + 1)) := by
            rw [hll]
            by_cases h : ((m + 1 : Nat) : Int) < ((l'.length + 1 : Nat) : Int)
            · rw [if_pos h]
            · rw [if_neg h]; congr 2; omega
          have hcut : AV.d (.sl 1 (cutL none (some ((m + 1 : Nat) : Int)) ((a :: l').map nI))) = .d (.sl 1 ((a :: l'.take m).map nI)) := by
            simp only [cutL, Int.toNat_natCast]
            rw [← List.map_take, List.take_succ_cons]
          repeat' (first
            | refine zV hmin ?_
            | refine zW ?_
            | refine zB ?_ ?_ <;> intro h <;> try exact zk h
            | refine zX ?_
            | refine zC (hcc) ?_
            | refine zC (hcf2) ?_
            | refine zCut hcut ?_
            | refine zC (hC) ?_
            | refine zAp ?_
            | ((exfalso; simp only [List.length_cons, List.length_map, List.length_nil, decide_eq_true_eq, decide_eq_false_iff_not] at *; omega))
            | fail)
          exact (ti [(7, .d (.ep [.sl 10 ((rowT T).map nd)])), (13, .d (.sl 1 (W.map nI)))] 0 (h := ⟨.inl rfl, .inl (by rw [hWe]; rfl), trivial⟩))
    clear hcc hcf2 hld
    have hWm : (W.map nI).length = W.length := by simp
    repeat' (first
      | refine zW ?_
      | refine zB ?_ ?_ <;> intro h <;> try exact zk h
      | refine zX ?_
      | (fail)
      | fail)
    refine Run.loopT (fun x : Nat × Nat => ⟨PT.ofList [(7, .d (.ep [.sl 10 ((rowT T).map nd)])), (14, .d (nI x.2)), (50, .d (.sl 1 (W.map nI))), (51, .d (nI (W.map nI).length)), (52, .d (nI x.1))], [], []⟩) (fun x => x.1 ≤ W.length ∧ goT T.q 0 (W.take x.1) = some x.2) (fun x => W.length - x.1) (0, 0) ⟨Nat.zero_le _, rfl⟩ (ti _ 0) (fun ⟨j, n0⟩ ⟨hj, hg⟩ => ?_)
    simp only at hj hg
    have hn0 := goT_le (Nat.zero_le _) hg
    have hN := rowT_get (T := T) hn0
    have hrl := rowT_len T
    have h9 : (ndT T n0).x.length = 9 := by simp [ndT]
    have hp : (ndT T n0).p = T.v.getD n0 (-1) := rfl
    rcases Nat.lt_or_ge j W.length with hjl | hjg
    · obtain ⟨e, he⟩ := get_ok hjl
      have he8 := hW8 e (List.mem_of_getElem? he)
      have hx := ndT_x (T := T) (a := n0) (show e < 9 by omega)
      have hgt := goT_take hg he
      generalize ndT T n0 = nn at *
      obtain ⟨nx, np⟩ := nn
      obtain ⟨R, hR⟩ := drop9 (n := ⟨nx, np⟩) h9 hx
      obtain ⟨a0, a1, a2, a3, a4, a5, a6, a7, a8, rfl⟩ := nine h9
      by_cases hin : (n0, e) ∈ T.q
      · rw [if_pos hin] at hgt
        have hne := toT_ne.2 hin
        generalize toT T.q n0 e = v at *
        repeat' (first
          | refine zW ?_
          | refine zB ?_ ?_ <;> intro h <;> try exact zk h
          | refine zX ?_
          | refine zI w (.d (.ep [nI e])) he ?_
          | refine zI w (.d (.ep (ndC ⟨[a0, a1, a2, a3, a4, a5, a6, a7, a8], np⟩))) hN ?_
          | refine oCw w hR ?_ (hf := flag9 (by omega))
          | (exact ⟨(j + 1, v), ⟨by omega, hgt⟩, by simp only; omega, (ti _ 0)⟩)
          | ((exfalso; simp only [decide_eq_true_eq, decide_eq_false_iff_not, beq_iff_eq, beq_eq_false_iff_ne, ne_eq, ge_iff_le] at *; omega))
          | fail)
      · rw [if_neg hin] at hgt
        rw [show goR T W = (0, 24) from by unfold goR; rw [goT_stop hgt]]
        rw [toT_not hin] at hx hR
        repeat' (first
          | refine zW ?_
          | refine zB ?_ ?_ <;> intro h <;> try exact zk h
          | refine zX ?_
          | refine zI w (.d (.ep [nI e])) he ?_
          | refine zI w (.d (.ep (ndC ⟨[a0, a1, a2, a3, a4, a5, a6, a7, a8], np⟩))) hN ?_
          | refine oCw w hR ?_ (hf := flag9 (by omega))
          | rfl
          | ((exfalso; simp only [decide_eq_true_eq, decide_eq_false_iff_not, beq_iff_eq, beq_eq_false_iff_ne, ne_eq, ge_iff_le] at *; omega))
          | fail)
    · have hje : j = W.length := by omega
      subst hje
      rw [List.take_length] at hg
      rw [show goR T W = if 0 ≤ T.v.getD n0 (-1) then (T.v.getD n0 (-1), 0) else (0, 24) from by unfold goR; rw [hg]]
      rw [← hp]
      generalize ndT T n0 = nn at *
      obtain ⟨nx, np⟩ := nn
      obtain ⟨a0, a1, a2, a3, a4, a5, a6, a7, a8, rfl⟩ := nine h9
      clear hp
      by_cases hnp : 0 ≤ np
      · rw [if_pos hnp]
        repeat' (first
          | refine zW ?_
          | refine zB ?_ ?_ <;> intro h <;> try exact zk h
          | refine zX ?_
          | refine zI w (.d (.ep (ndC ⟨[a0, a1, a2, a3, a4, a5, a6, a7, a8], np⟩))) hN ?_
          | rfl
          | ((exfalso; simp only [decide_eq_true_eq, decide_eq_false_iff_not, beq_iff_eq, beq_eq_false_iff_ne, ne_eq, ge_iff_le] at *; omega))
          | fail)
      · rw [if_neg hnp]
        repeat' (first
          | refine zW ?_
          | refine zB ?_ ?_ <;> intro h <;> try exact zk h
          | refine zX ?_
          | refine zI w (.d (.ep (ndC ⟨[a0, a1, a2, a3, a4, a5, a6, a7, a8], np⟩))) hN ?_
          | rfl
          | ((exfalso; simp only [decide_eq_true_eq, decide_eq_false_iff_not, beq_iff_eq, beq_eq_false_iff_ne, ne_eq, ge_iff_le] at *; omega))
          | fail)
def e0 : List DV × AV := ([(.int .i64 8), (.sl 5 [(.agg [(.int .i64 2), (.int .i64 0), (.int .i64 0), (.int .i64 0), (.int .i64 0)]), (.agg [(.int .i64 2), (.int .i64 0), (.int .i64 1), (.int .i64 0), (.int .i64 0)])])], (.d (.int .i64 0)))
theorem k0 : KnownCall Try.prog 107 e0.1 e0.2 := knownF T0_ok Et_ok (by kernel_rfl) Ft_ok (k := 100000) (n := 60) (by kernel_rfl)
def e2 : List DV × AV := ([(.agg [(.int .i64 0), (.int .i64 0), (.int .i64 0), (.int .i64 0), (.int .i64 0)]), (.agg [(.int .i64 1), (.int .i64 1), (.int .i64 0), (.int .i64 0), (.int .i64 0)])], (.tup [(.d (.int .i64 (-1))), (.d (.int .i64 0))]))
theorem k2 : KnownCall Try.prog 91 e2.1 e2.2 := knownF T0_ok Et_ok (by kernel_rfl) Ft_ok (k := 100000) (n := 60) (by kernel_rfl)
def e5 : List DV × AV := ([(.sl 10 [(.agg [(.int .i64 1), (.int .i64 5), (.int .i64 0), (.int .i64 0), (.int .i64 0), (.int .i64 0), (.int .i64 0), (.int .i64 0), (.int .i64 4), (.int .i64 (-1))]), (.agg [(.int .i64 2), (.int .i64 3), (.int .i64 0), (.int .i64 0), (.int .i64 0), (.int .i64 0), (.int .i64 0), (.int .i64 0), (.int .i64 0), (.int .i64 (-1))]), (.agg [(.int .i64 0), (.int .i64 0), (.int .i64 0), (.int .i64 0), (.int .i64 0), (.int .i64 0), (.int .i64 0), (.int .i64 0), (.int .i64 0), (.int .i64 3)]), (.agg [(.int .i64 0), (.int .i64 0), (.int .i64 0), (.int .i64 0), (.int .i64 0), (.int .i64 0), (.int .i64 0), (.int .i64 0), (.int .i64 0), (.int .i64 3)]), (.agg [(.int .i64 0), (.int .i64 0), (.int .i64 0), (.int .i64 0), (.int .i64 0), (.int .i64 0), (.int .i64 0), (.int .i64 0), (.int .i64 0), (.int .i64 5)]), (.agg [(.int .i64 0), (.int .i64 0), (.int .i64 0), (.int .i64 0), (.int .i64 0), (.int .i64 0), (.int .i64 0), (.int .i64 0), (.int .i64 6), (.int .i64 (-1))]), (.agg [(.int .i64 0), (.int .i64 0), (.int .i64 0), (.int .i64 0), (.int .i64 0), (.int .i64 0), (.int .i64 0), (.int .i64 0), (.int .i64 0), (.int .i64 5)])]), (.sl 10 [(.agg [(.int .i64 1), (.int .i64 5), (.int .i64 0), (.int .i64 0), (.int .i64 0), (.int .i64 0), (.int .i64 0), (.int .i64 0), (.int .i64 4), (.int .i64 (-1))]), (.agg [(.int .i64 2), (.int .i64 3), (.int .i64 0), (.int .i64 0), (.int .i64 0), (.int .i64 0), (.int .i64 0), (.int .i64 0), (.int .i64 0), (.int .i64 (-1))]), (.agg [(.int .i64 0), (.int .i64 0), (.int .i64 0), (.int .i64 0), (.int .i64 0), (.int .i64 0), (.int .i64 0), (.int .i64 0), (.int .i64 0), (.int .i64 3)]), (.agg [(.int .i64 0), (.int .i64 0), (.int .i64 0), (.int .i64 0), (.int .i64 0), (.int .i64 0), (.int .i64 0), (.int .i64 0), (.int .i64 0), (.int .i64 3)]), (.agg [(.int .i64 0), (.int .i64 0), (.int .i64 0), (.int .i64 0), (.int .i64 0), (.int .i64 0), (.int .i64 0), (.int .i64 0), (.int .i64 0), (.int .i64 5)]), (.agg [(.int .i64 0), (.int .i64 0), (.int .i64 0), (.int .i64 0), (.int .i64 0), (.int .i64 0), (.int .i64 0), (.int .i64 0), (.int .i64 6), (.int .i64 (-1))]), (.agg [(.int .i64 0), (.int .i64 0), (.int .i64 0), (.int .i64 0), (.int .i64 0), (.int .i64 0), (.int .i64 0), (.int .i64 0), (.int .i64 0), (.int .i64 5)])]), (.fn (.func 68) [] [])], (.d (.bool true)))
theorem k5 : KnownCall Try.prog 67 e5.1 e5.2 := knownF T0_ok Et_ok (by kernel_rfl) Ft_ok (k := 100000) (n := 60) (by kernel_rfl)
def T1 : Memo := (.node (.node (.node .nil none (.node (.node (.node (.node .nil (some [e5]) .nil) none .nil) none .nil) none (.node (.node .nil none (.node .nil (some [e0]) .nil)) none (.node (.node .nil (some [e2]) .nil) none .nil)))) none .nil) none .nil)
theorem T1_ok : MemoOK Try.prog T1 := ⟨trivial, ⟨trivial, ⟨trivial, trivial, ⟨trivial, ⟨trivial, ⟨trivial, ⟨⟨k5, trivial⟩, trivial, trivial⟩, trivial⟩, trivial⟩, ⟨trivial, ⟨trivial, trivial, ⟨⟨k0, trivial⟩, trivial, trivial⟩⟩, ⟨trivial, ⟨⟨k2, trivial⟩, trivial, trivial⟩, trivial⟩⟩⟩⟩, trivial⟩, trivial⟩
def e1 : List DV × AV := ([(.int .i64 2), (.int .i64 2), (.sl 5 [(.agg [(.int .i64 2), (.int .i64 0), (.int .i64 0), (.int .i64 0), (.int .i64 0)]), (.agg [(.int .i64 2), (.int .i64 0), (.int .i64 1), (.int .i64 0), (.int .i64 0)])])], (.d (.int .i64 0)))
theorem k1 : KnownCall Try.prog 54 e1.1 e1.2 := knownF T1_ok Et_ok (by kernel_rfl) Ft_ok (k := 100000) (n := 60) (by kernel_rfl)
def e3 : List DV × AV := ([(.int .i64 2), (.int .i64 2), (.sl 5 [(.agg [(.int .i64 0), (.int .i64 0), (.int .i64 0), (.int .i64 0), (.int .i64 0)]), (.agg [(.int .i64 1), (.int .i64 1), (.int .i64 0), (.int .i64 0), (.int .i64 0)])])], (.d (.int .i64 0)))
theorem k3 : KnownCall Try.prog 54 e3.1 e3.2 := knownF T1_ok Et_ok (by kernel_rfl) Ft_ok (k := 100000) (n := 60) (by kernel_rfl)
def T2 : Memo := (.node (.node (.node .nil none (.node (.node (.node (.node .nil (some [e5]) .nil) none .nil) none .nil) none (.node (.node .nil none (.node .nil (some [e0]) .nil)) none (.node (.node .nil (some [e2]) .nil) none .nil)))) none .nil) none (.node .nil none (.node .nil none (.node (.node .nil none (.node .nil (some [e1, e3]) .nil)) none .nil))))
theorem T2_ok : MemoOK Try.prog T2 := ⟨trivial, ⟨trivial, ⟨trivial, trivial, ⟨trivial, ⟨trivial, ⟨trivial, ⟨⟨k5, trivial⟩, trivial, trivial⟩, trivial⟩, trivial⟩, ⟨trivial, ⟨trivial, trivial, ⟨⟨k0, trivial⟩, trivial, trivial⟩⟩, ⟨trivial, ⟨⟨k2, trivial⟩, trivial, trivial⟩, trivial⟩⟩⟩⟩, trivial⟩, ⟨trivial, trivial, ⟨trivial, trivial, ⟨trivial, ⟨trivial, trivial, ⟨⟨k1, k3, trivial⟩, trivial, trivial⟩⟩, trivial⟩⟩⟩⟩
def e4 : List DV × AV := ([(.int .i64 2), (.int .i64 2), (.sl 1 [(.sl 5 [(.agg [(.int .i64 2), (.int .i64 0), (.int .i64 0), (.int .i64 0), (.int .i64 0)]), (.agg [(.int .i64 2), (.int .i64 0), (.int .i64 1), (.int .i64 0), (.int .i64 0)])]), (.sl 5 [(.agg [(.int .i64 0), (.int .i64 0), (.int .i64 0), (.int .i64 0), (.int .i64 0)]), (.agg [(.int .i64 1), (.int .i64 1), (.int .i64 0), (.int .i64 0), (.int .i64 0)])])]), (.sl 1 [(.int .i64 3), (.int .i64 5)])], (.tup [(.d (.agg [(.sl 10 [(.agg [(.int .i64 1), (.int .i64 5), (.int .i64 0), (.int .i64 0), (.int .i64 0), (.int .i64 0), (.int .i64 0), (.int .i64 0), (.int .i64 4), (.int .i64 (-1))]), (.agg [(.int .i64 2), (.int .i64 3), (.int .i64 0), (.int .i64 0), (.int .i64 0), (.int .i64 0), (.int .i64 0), (.int .i64 0), (.int .i64 0), (.int .i64 (-1))]), (.agg [(.int .i64 0), (.int .i64 0), (.int .i64 0), (.int .i64 0), (.int .i64 0), (.int .i64 0), (.int .i64 0), (.int .i64 0), (.int .i64 0), (.int .i64 3)]), (.agg [(.int .i64 0), (.int .i64 0), (.int .i64 0), (.int .i64 0), (.int .i64 0), (.int .i64 0), (.int .i64 0), (.int .i64 0), (.int .i64 0), (.int .i64 3)]), (.agg [(.int .i64 0), (.int .i64 0), (.int .i64 0), (.int .i64 0), (.int .i64 0), (.int .i64 0), (.int .i64 0), (.int .i64 0), (.int .i64 0), (.int .i64 5)]), (.agg [(.int .i64 0), (.int .i64 0), (.int .i64 0), (.int .i64 0), (.int .i64 0), (.int .i64 0), (.int .i64 0), (.int .i64 0), (.int .i64 6), (.int .i64 (-1))]), (.agg [(.int .i64 0), (.int .i64 0), (.int .i64 0), (.int .i64 0), (.int .i64 0), (.int .i64 0), (.int .i64 0), (.int .i64 0), (.int .i64 0), (.int .i64 5)])])])), (.d (.int .i64 0))]))
theorem k4 : KnownCall Try.prog 13 e4.1 e4.2 := knownF T2_ok Et_ok (by kernel_rfl) Ft_ok (k := 100000) (n := 60) (by kernel_rfl)
def e6 : List DV × AV := ([(.int .i64 2), (.int .i64 2), (.int .i64 24), (.agg [(.sl 10 [(.agg [(.int .i64 1), (.int .i64 5), (.int .i64 0), (.int .i64 0), (.int .i64 0), (.int .i64 0), (.int .i64 0), (.int .i64 0), (.int .i64 4), (.int .i64 (-1))]), (.agg [(.int .i64 2), (.int .i64 3), (.int .i64 0), (.int .i64 0), (.int .i64 0), (.int .i64 0), (.int .i64 0), (.int .i64 0), (.int .i64 0), (.int .i64 (-1))]), (.agg [(.int .i64 0), (.int .i64 0), (.int .i64 0), (.int .i64 0), (.int .i64 0), (.int .i64 0), (.int .i64 0), (.int .i64 0), (.int .i64 0), (.int .i64 3)]), (.agg [(.int .i64 0), (.int .i64 0), (.int .i64 0), (.int .i64 0), (.int .i64 0), (.int .i64 0), (.int .i64 0), (.int .i64 0), (.int .i64 0), (.int .i64 3)]), (.agg [(.int .i64 0), (.int .i64 0), (.int .i64 0), (.int .i64 0), (.int .i64 0), (.int .i64 0), (.int .i64 0), (.int .i64 0), (.int .i64 0), (.int .i64 5)]), (.agg [(.int .i64 0), (.int .i64 0), (.int .i64 0), (.int .i64 0), (.int .i64 0), (.int .i64 0), (.int .i64 0), (.int .i64 0), (.int .i64 6), (.int .i64 (-1))]), (.agg [(.int .i64 0), (.int .i64 0), (.int .i64 0), (.int .i64 0), (.int .i64 0), (.int .i64 0), (.int .i64 0), (.int .i64 0), (.int .i64 0), (.int .i64 5)])])])], (.d (.bool true)))
theorem k6 : KnownCall Try.prog 59 e6.1 e6.2 := knownF T2_ok Et_ok (by kernel_rfl) Ft_ok (k := 100000) (n := 60) (by kernel_rfl)
def T3 : Memo := (.node (.node (.node .nil none (.node (.node (.node (.node .nil (some [e5]) .nil) none .nil) none .nil) none (.node (.node .nil none (.node .nil (some [e0]) .nil)) none (.node (.node .nil (some [e2]) .nil) (some [e6]) .nil)))) none (.node .nil none (.node .nil (some [e4]) .nil))) none (.node .nil none (.node .nil none (.node (.node .nil none (.node .nil (some [e1, e3]) .nil)) none .nil))))
theorem T3_ok : MemoOK Try.prog T3 := ⟨trivial, ⟨trivial, ⟨trivial, trivial, ⟨trivial, ⟨trivial, ⟨trivial, ⟨⟨k5, trivial⟩, trivial, trivial⟩, trivial⟩, trivial⟩, ⟨trivial, ⟨trivial, trivial, ⟨⟨k0, trivial⟩, trivial, trivial⟩⟩, ⟨⟨k6, trivial⟩, ⟨⟨k2, trivial⟩, trivial, trivial⟩, trivial⟩⟩⟩⟩, ⟨trivial, trivial, ⟨⟨k4, trivial⟩, trivial, trivial⟩⟩⟩, ⟨trivial, trivial, ⟨trivial, trivial, ⟨trivial, ⟨trivial, trivial, ⟨⟨k1, k3, trivial⟩, trivial, trivial⟩⟩, trivial⟩⟩⟩⟩
def e7 : List DV × AV := ([], (.d (.bool true)))
theorem k7 : KnownCall Try.prog 29 e7.1 e7.2 := knownF T3_ok Et_ok (by kernel_rfl) Ft_ok (k := 100000) (n := 60) (by kernel_rfl)
def T4 : Memo := (.node (.node (.node .nil none (.node (.node (.node (.node .nil (some [e5]) .nil) none .nil) none .nil) none (.node (.node .nil none (.node .nil (some [e0]) .nil)) none (.node (.node .nil (some [e2]) .nil) (some [e6]) .nil)))) none (.node .nil none (.node .nil (some [e4]) (.node .nil (some [e7]) .nil)))) none (.node .nil none (.node .nil none (.node (.node .nil none (.node .nil (some [e1, e3]) .nil)) none .nil))))
theorem T4_ok : MemoOK Try.prog T4 := ⟨trivial, ⟨trivial, ⟨trivial, trivial, ⟨trivial, ⟨trivial, ⟨trivial, ⟨⟨k5, trivial⟩, trivial, trivial⟩, trivial⟩, trivial⟩, ⟨trivial, ⟨trivial, trivial, ⟨⟨k0, trivial⟩, trivial, trivial⟩⟩, ⟨⟨k6, trivial⟩, ⟨⟨k2, trivial⟩, trivial, trivial⟩, trivial⟩⟩⟩⟩, ⟨trivial, trivial, ⟨⟨k4, trivial⟩, trivial, ⟨⟨k7, trivial⟩, trivial, trivial⟩⟩⟩⟩, ⟨trivial, trivial, ⟨trivial, trivial, ⟨trivial, ⟨trivial, trivial, ⟨⟨k1, k3, trivial⟩, trivial, trivial⟩⟩, trivial⟩⟩⟩⟩
theorem known29 : KnownCall Try.prog 29 [] (.d (.bool true)) := knownF T4_ok Et_ok (by kernel_rfl) Ft_ok (k := 100000) (n := 60) (by kernel_rfl)
section
variable {H : Type} {enc : TypeId × Value → H} {w : World} {spare : Nat → Bool} {held : Bool} {fuel : Nat} {cs : List Value} {x : DataW H × List MemPlace}
abbrev Wf64 (n : Int) : Prop := (Lit.int .i64 n).wf = true
theorem cr_ints (hsp : ∀ b, spare b = true) (h : DataW.trod enc Try.prog w 0 spare held fuel 23 cs = some x) : ∃ l : List Int, CellsRep (heapD w) (ints l) cs ∧ l.length ≤ maxLen ∧ ∀ n ∈ l, Wf64 n :=
  cr_slice (DV.int .i64) Wf64 Try.underlying23 (by kernel_rfl) (Nat.le_refl _) hsp (fun n cs' y _ hy => cr_int Try.underlying3 hy) h
theorem arg_ints {r : Reach} {b0 : Nat} {v : Value} {d : DataW H} {ps : List MemPlace} (hsp : ∀ b, spare b = true) (hval : Value.okWide Try.prog w r b0 23 v) (h : DataW.Trod enc Try.prog w 0 spare held 23 v d ps) :
    ∃ l : List Int, RepD (heapD w) (ints l) v ∧ l.length ≤ maxLen ∧ ∀ n ∈ l, Wf64 n := by
  obtain ⟨es, he, l, rfl, hl⟩ := arg_slice (sz := 1) (R := fun es => ∃ l : List Int, es = l.map (DV.int .i64) ∧ l.length ≤ maxLen ∧ ∀ n ∈ l, Wf64 n) Try.underlying23 hval h (fun n x hx => by
    obtain ⟨l, h1, h2⟩ := cr_ints hsp hx
    exact ⟨_, h1, l, rfl, h2⟩)
  exact ⟨l, he, hl⟩
end
theorem rws2_S (S : List (List (List Nat))) : rws2 (rawS S) = .sl 1 (S.map lks) := rws2_raw S
theorem raw_flat (S : List (List (List Nat))) : (rawS S).flatten.length = S.flatten.length := by simp [List.length_flatten, Function.comp_def]
theorem flatS {S : List (List (List Nat))} {i : Nat} {L : List (List Nat)} (h : S[i]? = some L) : (S.take (i + 1)).flatten.length = (S.take i).flatten.length + L.length := by
  rw [List.take_add_one, h, List.flatten_append, List.length_append]; simp
theorem flatLe {S : List (List (List Nat))} {i : Nat} : (S.take i).flatten.length ≤ S.flatten.length := by
  conv => rhs; rw [← List.take_append_drop i S]
  rw [List.flatten_append, List.length_append]; omega
theorem w64_b {n : Int} (h : (Lit.int .i64 n).wf = true) : W64 n := by
  simp only [Lit.wf, Bool.and_eq_true, decide_eq_true_eq] at h
  exact h
theorem goR_in {k t : Nat} {S : List (List (List Nat))} {P : List Int} (h : BackT k t S P) {y : List Nat} {p : Int} (hy : (y, p) ∈ entS S P) : goR (madeAll k Tz0 S P) (edgesT k y) = (p, 0) := by
  obtain ⟨n, h1, h2⟩ := h.fin.has y p hy
  obtain ⟨L, _, _, h3⟩ := entS_mem hy
  have := h.pb p h3
  unfold goR
  rw [h1]
  simp only
  rw [List.getD_eq_getElem?_getD, h2, Option.getD_some, if_pos this.1]
theorem goR_out {k t : Nat} {S : List (List (List Nat))} {P : List Int} (h : BackT k t S P) {y : List Nat} (hk : y.length ≤ k) (h8 : ∀ u ∈ y, u < 8) (hy : ∀ p, (y, p) ∉ entS S P) : goR (madeAll k Tz0 S P) (edgesT k y) = (0, 24) := by
  unfold goR
  cases hg : goT (madeAll k Tz0 S P).q 0 (edgesT k y) with
  | none => rfl
  | some n =>
    exfalso
    have hn := goT_le (Nat.zero_le _) hg
    have hv := h.fin.ok.len
    obtain ⟨p, hp⟩ := get_ok (show n < (madeAll k Tz0 S P).v.length by omega)
    have hm : (y, p) ∈ lvT k S P ↔ _ := mem_lv (k := k) h.fin.ok k [] 0 (by simp) rfl (by simp) y p
    exact hy p ((h.mem y p).1 (hm.2 ⟨⟨y, by simp⟩, hk, h8, n, hg, hp⟩))
def RunL (P : Program) (nt m : Nat) (ro' : Option Nat) (K : Ex → S → Prop) (S1 : S) : List Code → S → Prop
  | [], s => ∀ (r : Code) (K' : Ex → S → Prop), Run P nt m ro' r S1 K' → Run P nt m ro' r s K'
  | c :: cs, s => Run P nt m ro' c s (fun e s1 => match e with | .normal => RunL P nt m ro' K S1 cs s1 | e => K e s1)
theorem RunL.run {P : Program} {nt m : Nat} {ro' : Option Nat} {K : Ex → S → Prop} {r : Code} (S1 : S) : ∀ (cs : List Code) {s : S}, RunL P nt m ro' K S1 cs s → Run P nt m ro' r S1 K → Run P nt m ro' (seqs cs r) s K
  | [], _, h, h2 => h r K h2
  | c :: cs, _, h, h2 => Run.seq (Run.mono h fun e s1 h3 => by
    cases e with
    | normal => exact RunL.run S1 cs h3 h2
    | _ => exact h3)
set_option maxHeartbeats 60000000 in
theorem lawTS (nums : List Int) (k : Int) (l : List Int) (b : Bool) (hn : ∀ n ∈ nums, W64 n) (hk : W64 k) (hl : ∀ n ∈ l, W64 n) : KnownCall Try.prog 5 [.sl 1 (nums.map iI), iI k, .sl 1 (l.map iI), .bool b] (.d (.bool true)) := by
  have k0 := known29
  have km := mod2 k hk
  have hm2 := mdN_lt (show 0 < 2 by decide) k
  have hadd : AV.d (.int .i64 (IntKind.i64.wrap (1 + ((mdN 2 k : Nat) : Int)))) = .d (nI (1 + mdN 2 k)) := by
    have h1 : (1 + ((mdN 2 k : Nat) : Int)) = ((1 + mdN 2 k : Nat) : Int) := by omega
    congr 2
    rw [h1]; exact wrap_nat (by omega)
  obtain ⟨d, hd⟩ : ∃ d, d = mdN 2 k + 1 := ⟨_, rfl⟩
  rw [show 1 + mdN 2 k = d by omega] at hadd
  have hd2 : d ≤ 2 := by omega
  have hd1 : 1 ≤ d := by omega
  have cm := madeTr nums hn d (by omega)
  have B := made_back nums hd1 (by omega : d ≤ 4)
  have hfl := made_flat nums d
  have hsl := mS_len nums d 4
  have hpl := mP_len nums d 4
  generalize mS nums d 4 = S at *
  generalize mP nums d 4 = P at *
  have hOf := progOfK d (3 : Nat) (rawS S) P (by simp; omega) (by omega) (by rw [raw_flat]; omega)
  rw [rws2_S, B.chk] at hOf
  have hNl := trN_len (k := d) (t := (3 : Nat)) (S := rawS S) (P := P)
  rw [raw_flat] at hNl
  have cV := B.valid (by omega) (by omega)
  have hC := trCheckK _ d (3 : Nat) (sizE_nat (by omega) (by omega) (by decide) (by decide)) 24 (by decide) (by decide) true cV
  rw [B.row] at hOf hC hNl
  have hsz := sizeTr (rowT (madeAll d Tz0 S P))
  have hlen := B.len
  obtain ⟨ls, hls⟩ : ∃ ls, ls = (l.take 5).map (mdN 3) := ⟨_, rfl⟩
  have hl5 : ls.length ≤ 5 := by rw [hls, List.length_map, List.length_take]; omega
  have hl3 : ∀ u ∈ ls, u < 3 := fun u hu => by
    rw [hls] at hu
    obtain ⟨n, _, rfl⟩ := List.mem_map.1 hu
    exact mdN_lt (by decide) n
  obtain ⟨y, hy⟩ : ∃ y, y = ls.take d := ⟨_, rfl⟩
  have hyk : y.length ≤ d := by rw [hy, List.length_take]; omega
  have hy8 : ∀ u ∈ y, u < 8 := fun u hu => by have := hl3 u (List.mem_of_mem_take (by rw [hy] at hu; exact hu)); omega
  obtain ⟨ld, hld⟩ : ∃ ld : DV, (ld = .nilsl ∧ ls = []) ∨ ∃ a l', ls = a :: l' ∧ ld = .sl 1 ((a :: l').map nI) := by
    cases ls with
    | nil => exact ⟨_, .inl ⟨rfl, rfl⟩⟩
    | cons a l' => exact ⟨_, .inr ⟨a, l', rfl, rfl⟩⟩
  have hch : ∀ (ld : DV) (z : List Nat) (e : Bool), ((ld = .nilsl ∧ z = []) ∨ ∃ a l', z = a :: l' ∧ ld = .sl 1 ((a :: l').map nI)) → (∀ u ∈ z, u < 3) → z.length ≤ 6 → KnownCall Try.prog 23 [nI d, iI (3 : Nat), trD (rowT (madeAll d Tz0 S P)), ld, .bool e] (.tup [.d (iI (chR (madeAll d Tz0 S P) d z e).1), .d (iI (chR (madeAll d Tz0 S P) d z e).2)]) := fun ld z e h1 h2 h3 => by
    subst hd
    exact chooseK _ B.fin.ok (by omega) (mdN 2 k) 3 (by omega) (by omega) hC ld z h1 h2 (by omega) e
  have hc1 := hch ld ls b hld hl3 (by omega)
  have hin : ∀ p, (y, p) ∈ entS S P → goR (madeAll d Tz0 S P) (edgesT d y) = (p, 0) := fun p hp => goR_in B hp
  have hout : (∀ p, (y, p) ∉ entS S P) → goR (madeAll d Tz0 S P) (edgesT d y) = (0, 24) := goR_out B hyk hy8
  have hchR : ∀ (z : List Nat) (e : Bool), z.take d = y → ¬ (z.length < d ∧ e = false) → chR (madeAll d Tz0 S P) d z e = goR (madeAll d Tz0 S P) (edgesT d y) := fun z e h1 h2 => by
    unfold chR; rw [if_neg h2, h1]
  have hrt := B.rt
  have hCC := hC
  clear cV hC B
  rw [rowT_len] at hNl
  have hnl : ((rowT (madeAll d Tz0 S P)).map nd).length = (madeAll d Tz0 S P).q.length + 1 := by simp [rowT_len]
  generalize madeAll d Tz0 S P = T at *
  generalize mdN 2 k = m at *
  have hS1 : (S.map lks).length = S.length := by simp
  have hL1 : (l.map iI).length = l.length := by simp
  refine kF Try.func5 [167] fun w => ?_
  have w : Fz [167] := trivial
  refine RunL.run ⟨PT.ofList [(1, .d (nI d)), (3, .d (.bool b)), (9, .d (.bool true)), (10, .d (.sl 1 (S.map lks))), (11, .d (.sl 1 (P.map iI))), (12, .bp 0 0), (14, .d ld), (16, .bp 2 0), (17, .d (iI 0)), (18, .d (.bool false)), (19, .d (nI 0))], [.box [.d (.sl 10 ((rowT T).map nd))], .gone, .box ((lkC y).map .d)], []⟩ [_, _, _, _, _, _, _, _, _, _] ?_ ?_
  · repeat' (first
      | refine zV hadd ?_
      | refine zW ?_
      | refine zB ?_ ?_ <;> intro h <;> try exact zk h
      | refine zC (k0) ?_
      | refine zC (km) ?_
      | refine zC (cm) ?_
      | refine zC (hOf) ?_
      | refine zC (hCC) ?_
      | ((exfalso; simp only [List.length_cons, List.length_map, List.length_nil, decide_eq_true_eq, decide_eq_false_iff_not, beq_iff_eq, beq_eq_false_iff_ne, bne_iff_ne, ne_eq, bne_eq_false_iff_eq, Bool.not_eq_eq_eq_not, gt_iff_lt] at *; omega))
      | fail)
    by_cases hl0 : l = []
    · subst hl0
      have hls0 : ls = [] := by rw [hls]; rfl
      have hld0 : ld = .nilsl := by
        rcases hld with ⟨h, _⟩ | ⟨a, l', h, _⟩
        · exact h
        · rw [hls0] at h; cases h
      have hy0 : y = [] := by rw [hy, hls0]; simp
      have hx0 := xNil
      have hmin : AV.d (.int .i64 (if ((0 : Nat) : Int) < ((d : Nat) : Int) then ((0 : Nat) : Int) else ((d : Nat) : Int))) = .d (nI 0) := by rw [if_pos (by omega)]
      refine Run.mkRoom 14 1 [(1, .d (nI d)), (3, .d (.bool b)), (9, .d (.bool true)), (10, .d (.sl 1 (S.map lks))), (11, .d (.sl 1 (P.map iI))), (12, .bp 0 0), (2, .d (.sl 1 (([] : List Int).map iI))), (14, .d .nilsl), (15, .d (nI 0))] (by kernel_rfl) (ofList_cases (by intro p hp; simp only [List.mem_cons, List.not_mem_nil, or_false] at hp; rcases hp with rfl | rfl | rfl | rfl | rfl | rfl | rfl | rfl | rfl <;> first | exact .inl ⟨rfl, rfl⟩ | exact .inr (by kernel_rfl))) ?_
      refine Run.loopT (fun i : Nat => ⟨PT.ofList [(1, .d (nI d)), (3, .d (.bool b)), (9, .d (.bool true)), (10, .d (.sl 1 (S.map lks))), (11, .d (.sl 1 (P.map iI))), (12, .bp 0 0), (2, .d (.sl 1 (([] : List Int).map iI))), (14, .d .nilsl), (15, .d (nI 0))], [.box [.d (.sl 10 ((rowT T).map nd))], .room 0 1], []⟩) (fun i => i = 0) (fun i => i) 0 rfl (ti _ 2) (fun i hi => ?_)
      repeat' (first
        | refine zV hmin ?_
        | refine zW ?_
        | refine zB ?_ ?_ <;> intro h <;> try exact zk h
        | refine zC (hx0) ?_
        | ((exfalso; simp only [List.length_cons, List.length_map, List.length_nil, decide_eq_true_eq, decide_eq_false_iff_not, beq_iff_eq, beq_eq_false_iff_ne, bne_iff_ne, ne_eq, bne_eq_false_iff_eq, Bool.not_eq_eq_eq_not, gt_iff_lt] at *; omega))
        | fail)
      intro r0 K0 hr0
      refine Run.tidy (s' := ⟨PT.ofList [(1, .d (nI d)), (3, .d (.bool b)), (9, .d (.bool true)), (10, .d (.sl 1 (S.map lks))), (11, .d (.sl 1 (P.map iI))), (12, .bp 0 0), (14, .d ld), (16, .bp 2 0), (17, .d (iI 0)), (18, .d (.bool false)), (19, .d (nI 0))], [.box [.d (.sl 10 ((rowT T).map nd))], .room 0 1, .box ((lkC y).map .d)], []⟩) (ti [(1, .d (nI d)), (3, .d (.bool b)), (9, .d (.bool true)), (10, .d (.sl 1 (S.map lks))), (11, .d (.sl 1 (P.map iI))), (12, .bp 0 0), (14, .d ld), (16, .bp 2 0), (17, .d (iI 0)), (18, .d (.bool false)), (19, .d (nI 0))] 3 (ho := by rw [hy0]; rfl) (h := ⟨.inl rfl, .inl rfl, .inl rfl, .inl rfl, .inl rfl, .inl rfl, .inl (by rw [hld0]; rfl), .inl rfl, .inl rfl, .inl rfl, .inl rfl, trivial⟩)) ?_
      refine Run.wk (objs' := [.box [.d (.sl 10 ((rowT T).map nd))], .gone, .box ((lkC y).map .d)]) ?_ ⟨.refl, .gone, .refl, trivial⟩ rfl (by simp) rfl
      exact hr0
    · have hlpos : 0 < l.length := List.length_pos_iff.2 hl0
      obtain ⟨a, l', hlsc, hldc⟩ : ∃ a l', ls = a :: l' ∧ ld = .sl 1 ((a :: l').map nI) := by
        rcases hld with ⟨_, h⟩ | h
        · exfalso
          rw [hls] at h
          simp at h
          exact hl0 h
        · exact h
      have hxc : KnownCall Try.prog 32 [.sl 1 (y.map nI)] (.d (lk y)) := by
        rw [hy, hlsc]
        rcases (show d = 1 ∨ d = 2 by omega) with h | h
        · rw [h]; exact xK1 a
        · rw [h]
          cases l' with
          | nil => exact xK1 a
          | cons c l'' => exact xK2 a c
      refine Run.mkRoom 14 1 [(1, .d (nI d)), (3, .d (.bool b)), (9, .d (.bool true)), (10, .d (.sl 1 (S.map lks))), (11, .d (.sl 1 (P.map iI))), (12, .bp 0 0), (2, .d (.sl 1 (l.map iI))), (14, .sr 1 1 []), (15, .d (nI 0))] (by kernel_rfl) (ofList_cases (by intro p hp; simp only [List.mem_cons, List.not_mem_nil, or_false] at hp; rcases hp with rfl | rfl | rfl | rfl | rfl | rfl | rfl | rfl | rfl <;> first | exact .inl ⟨rfl, rfl⟩ | exact .inr (by kernel_rfl))) ?_
      refine Run.loopT (fun x : Nat × List DV => ⟨PT.ofList [(1, .d (nI d)), (3, .d (.bool b)), (9, .d (.bool true)), (10, .d (.sl 1 (S.map lks))), (11, .d (.sl 1 (P.map iI))), (12, .bp 0 0), (2, .d (.sl 1 (l.map iI))), (14, .sr 1 1 x.2), (15, .d (nI x.1))], [.box [.d (.sl 10 ((rowT T).map nd))], .room x.2.length 1], []⟩) (fun x => x.1 ≤ l.length ∧ x.1 ≤ 5 ∧ x.2 = ((l.take x.1).map (mdN 3)).map nI) (fun x => l.length - x.1) (0, []) ⟨Nat.zero_le _, Nat.zero_le _, rfl⟩ (ti _ 2) (fun ⟨i, A⟩ ⟨hi1, hi2, hA⟩ => ?_)
      simp only at hi1 hi2 hA
      have hAl : A.length = i := by rw [hA, List.length_map, List.length_map, List.length_take]; omega
      by_cases hgo : i < l.length ∧ i < 5
      · obtain ⟨n, hx⟩ := get_ok hgo.1
        have hm3 := mod3 n (hl n (List.mem_of_getElem? hx))
        have hnx : A ++ [nI (mdN 3 n)] = ((l.take (i + 1)).map (mdN 3)).map nI := by rw [List.take_add_one, hx, hA]; simp
        repeat' (first
          | refine zW ?_
          | refine zB ?_ ?_ <;> intro h <;> try exact zk h
          | refine zI w (.d (.ep [iI n])) hx ?_
          | refine zC (hm3) ?_
          | refine zAp ?_
          | (exact ⟨(i + 1, A ++ [nI (mdN 3 n)]), ⟨by omega, by omega, hnx⟩, by simp only; omega, (ti _ 2 (Eq.trans (b := [.box [.d (.sl 10 ((rowT T).map nd))], .room (A.length + 1) 1]) rfl (by simp)))⟩)
          | ((exfalso; simp only [List.length_cons, List.length_map, List.length_nil, decide_eq_true_eq, decide_eq_false_iff_not, beq_iff_eq, beq_eq_false_iff_ne, bne_iff_ne, ne_eq, bne_eq_false_iff_eq, Bool.not_eq_eq_eq_not, gt_iff_lt] at *; omega))
          | fail)
      focus
        have hAls : A = ls.map nI := by
          have ht : l.take i = l.take 5 := by
            rcases Nat.lt_or_ge i l.length with h | h
            · rw [show i = 5 by omega]
            · rw [List.take_of_length_le h, List.take_of_length_le (by omega)]
          rw [hA, ht, hls]
        have hyl : y.length = min d ls.length := by rw [hy, List.length_take]
        have hA2 : A.length = ls.length := by rw [hAls, List.length_map]
        have hmin : AV.d (.int .i64 (if ((A.length : Nat) : Int) < ((d : Nat) : Int) then ((A.length : Nat) : Int) else ((d : Nat) : Int))) = .d (nI y.length) := by
          by_cases h : ((A.length : Nat) : Int) < ((d : Nat) : Int)
          · rw [if_pos h]; congr 2; omega
          · rw [if_neg h]; congr 2; omega
        have hcut : AV.d (.sl 1 (cutL none (some ((y.length : Nat) : Int)) A)) = .d (.sl 1 (y.map nI)) := by
          simp only [cutL, Int.toNat_natCast]
          rw [hAls, ← List.map_take, hyl, hy]
          congr 3
          rcases Nat.le_total d ls.length with h | h
          · rw [Nat.min_eq_left h]
          · rw [Nat.min_eq_right h, List.take_of_length_le h, List.take_of_length_le (Nat.le_refl _)]
        have hyA : y.length ≤ A.length := by omega
        have hldA : ld = .sl 1 A := by rw [hldc, hAls, hlsc]
        clear hA hAls
        repeat' (first
          | refine zV hmin ?_
          | refine zW ?_
          | refine zB ?_ ?_ <;> intro h <;> try exact zk h
          | refine zCut hcut ?_
          | refine zC (hxc) ?_
          | ((exfalso; simp only [List.length_cons, List.length_map, List.length_nil, decide_eq_true_eq, decide_eq_false_iff_not, beq_iff_eq, beq_eq_false_iff_ne, bne_iff_ne, ne_eq, bne_eq_false_iff_eq, Bool.not_eq_eq_eq_not, gt_iff_lt] at *; omega))
          | fail)
        all_goals
          intro r0 K0 hr0
          refine Run.tidy (s' := ⟨PT.ofList [(1, .d (nI d)), (3, .d (.bool b)), (9, .d (.bool true)), (10, .d (.sl 1 (S.map lks))), (11, .d (.sl 1 (P.map iI))), (12, .bp 0 0), (14, .d ld), (16, .bp 2 0), (17, .d (iI 0)), (18, .d (.bool false)), (19, .d (nI 0))], [.box [.d (.sl 10 ((rowT T).map nd))], .room A.length 1, .box ((lkC y).map .d)], []⟩) (ti [(1, .d (nI d)), (3, .d (.bool b)), (9, .d (.bool true)), (10, .d (.sl 1 (S.map lks))), (11, .d (.sl 1 (P.map iI))), (12, .bp 0 0), (14, .d ld), (16, .bp 2 0), (17, .d (iI 0)), (18, .d (.bool false)), (19, .d (nI 0))] 3 (ho := by rfl) (h := ⟨.inl rfl, .inl rfl, .inl rfl, .inl rfl, .inl rfl, .inl rfl, .inr (by rw [hldA]; rfl), .inl rfl, .inl rfl, .inl rfl, .inl rfl, trivial⟩)) ?_
          refine Run.wk (objs' := [.box [.d (.sl 10 ((rowT T).map nd))], .gone, .box ((lkC y).map .d)]) ?_ ⟨.refl, .gone, .refl, trivial⟩ rfl (by simp) rfl
          exact hr0
  · clear hls
    repeat' (first
      | refine zW ?_
      | refine zB ?_ ?_ <;> intro h <;> try exact zk h
      | ((exfalso; omega))
      | fail)
    refine Run.loopT (fun x : Nat × Int × Bool => ⟨PT.ofList [(1, .d (nI d)), (3, .d (.bool b)), (9, .d (.bool true)), (10, .d (.sl 1 (S.map lks))), (11, .d (.sl 1 (P.map iI))), (12, .bp 0 0), (14, .d ld), (16, .bp 2 0), (17, .d (iI x.2.1)), (18, .d (.bool x.2.2)), (19, .d (nI (S.take x.1).flatten.length)), (20, .d (nI x.1))], [.box [.d (.sl 10 ((rowT T).map nd))], .gone, .box ((lkC y).map .d)], []⟩) (fun x => x.1 ≤ S.length ∧ ((x.2.2 = true ∧ (y, x.2.1) ∈ entS S P) ∨ (x.2.2 = false ∧ ∀ (i0 : Nat) L0, i0 < x.1 → S[i0]? = some L0 → y ∉ L0))) (fun x => S.length - x.1) (0, 0, false) ⟨Nat.zero_le _, .inr ⟨rfl, fun i0 L0 h => absurd h (Nat.not_lt_zero _)⟩⟩ (ti _ 3) (fun ⟨i, w0, f⟩ ⟨hi, hI⟩ => ?_)
    simp only at hi hI
    rcases Nat.lt_or_ge i S.length with hlt | hge
    · obtain ⟨L, hL⟩ := get_ok hlt
      obtain ⟨pi, hP⟩ := get_ok (show i < P.length by omega)
      have hLr := hrt L (List.mem_of_getElem? hL)
      have hw2 : AV.d (.int .i64 (IntKind.i64.wrap (((S.take i).flatten.length : Nat) + ((L.map lk).length : Nat)))) = .d (nI (S.take (i + 1)).flatten.length) := by
        have hle := flatLe (S := S) (i := i + 1)
        have := wrapN (n := (S.take (i + 1)).flatten.length) (by omega)
        rw [flatS hL] at this ⊢
        rw [List.length_map]
        congr 2
      have hLl : (L.map lk).length = L.length := by simp
      have hLb : L.length ≤ 52 := by
        have := (List.sublist_flatten_of_mem (List.mem_of_getElem? hL)).length_le; omega
      generalize (S.take i).flatten.length = z at *
      clear hc1
      repeat' (first
        | refine zV hw2 ?_
        | refine zW ?_
        | refine zB ?_ ?_ <;> intro h <;> try exact zk h
        | refine zI w (.d (.ep [lks L])) hL ?_
        | ((exfalso; simp only [List.length_cons, List.length_map, List.length_nil, decide_eq_true_eq, decide_eq_false_iff_not, beq_iff_eq, beq_eq_false_iff_ne, bne_iff_ne, ne_eq, bne_eq_false_iff_eq, Bool.not_eq_eq_eq_not, gt_iff_lt] at *; omega))
        | fail)
      refine Run.loopT (fun x : Nat × Int × Bool => ⟨PT.ofList [(1, .d (nI d)), (3, .d (.bool b)), (9, .d (.bool true)), (10, .d (.sl 1 (S.map lks))), (11, .d (.sl 1 (P.map iI))), (12, .bp 0 0), (14, .d ld), (16, .bp 2 0), (17, .d (iI x.2.1)), (18, .d (.bool x.2.2)), (19, .d (nI (S.take (i + 1)).flatten.length)), (20, .d (nI i)), (21, .d (nI x.1))], [.box [.d (.sl 10 ((rowT T).map nd))], .gone, .box ((lkC y).map .d)], []⟩) (fun x => x.1 ≤ L.length ∧ ((x.2.2 = true ∧ (y, x.2.1) ∈ entS S P) ∨ (x.2.2 = false ∧ (∀ (i0 : Nat) L0, i0 < i → S[i0]? = some L0 → y ∉ L0) ∧ y ∉ L.take x.1))) (fun x => L.length - x.1) (0, w0, f) ⟨Nat.zero_le _, hI.imp id fun h => ⟨h.1, h.2, by simp⟩⟩ (ti _ 3) (fun ⟨j, w1, g⟩ ⟨hj, hJ⟩ => ?_)
      simp only at hj hJ
      rcases Nat.lt_or_ge j L.length with hjl | hjg
      · obtain ⟨x, hx⟩ := get_ok hjl
        have hxl := (hLr.rt x (List.mem_of_getElem? hx)).1.len
        by_cases hxy : x = y
        · subst hxy
          have hJ2 : (true = true ∧ (x, pi) ∈ entS S P) := ⟨rfl, entS_at.2 ⟨i, L, hL, hP, List.mem_of_getElem? hx⟩⟩
          repeat' (first
            | refine zW ?_
            | refine zB ?_ ?_ <;> intro h <;> try exact zk h
            | refine zI w (.d (.ep [lks L])) hL ?_
            | refine zI w (.d (.ep (lkC x))) hx ?_
            | refine zI w (.d (.ep [iI pi])) hP ?_
            | (exact ⟨(j + 1, pi, true), ⟨by omega, .inl hJ2⟩, by simp only; omega, (ti _ 3)⟩)
            | ((exfalso; first | (simp at h <;> fail) | (simp at h; omega)))
            | fail)
        · have hJ2 : (g = true ∧ (y, w1) ∈ entS S P) ∨ (g = false ∧ (∀ (i0 : Nat) L0, i0 < i → S[i0]? = some L0 → y ∉ L0) ∧ y ∉ L.take (j + 1)) := hJ.imp id fun h => ⟨h.1, h.2.1, fun hm => by
            rw [List.take_add_one, hx] at hm
            rcases List.mem_append.1 hm with h3 | h3
            · exact h.2.2 h3
            · simp at h3; exact hxy h3.symm⟩
          repeat' (first
            | refine zW ?_
            | refine zB ?_ ?_ <;> intro h <;> try exact zk h
            | refine zI w (.d (.ep [lks L])) hL ?_
            | refine zI w (.d (.ep (lkC x))) hx ?_
            | refine zI w (.d (.ep [iI pi])) hP ?_
            | ((exfalso; simp only [Bool.and_eq_true, beq_iff_eq] at h; exact hxy (lk_inj hxl (by omega) (by omega) (by omega) (by omega) (by omega))))
            | (exact ⟨(j + 1, w1, g), ⟨by omega, hJ2⟩, by simp only; omega, (ti _ 3)⟩)
            | ((exfalso; first | (simp at h <;> fail) | (simp at h; omega)))
            | fail)
      · have hje : j = L.length := by omega
        subst hje
        rw [List.take_length] at hJ
        have hJ2 : (g = true ∧ (y, w1) ∈ entS S P) ∨ (g = false ∧ ∀ (i0 : Nat) L0, i0 < i + 1 → S[i0]? = some L0 → y ∉ L0) := hJ.imp id fun h => ⟨h.1, fun i0 L0 h1 h2 => by
          rcases Nat.lt_or_ge i0 i with h3 | h3
          · exact h.2.1 i0 L0 h3 h2
          · have : i0 = i := by omega
            subst this
            rw [hL] at h2; cases h2; exact h.2.2⟩
        repeat' (first
          | refine zW ?_
          | refine zB ?_ ?_ <;> intro h <;> try exact zk h
          | refine zI w (.d (.ep [lks L])) hL ?_
          | (exact ⟨(i + 1, w1, g), ⟨by omega, hJ2⟩, by simp only; omega, (ti _ 3)⟩)
          | ((exfalso; first | (simp at h <;> fail) | (simp at h; omega)))
          | fail)
    · have hie : i = S.length := by omega
      subst hie
      rw [List.take_length]
      have hmul : T.q.length + 1 ≤ 1 + S.flatten.length * (d + 1) := by
        rw [Nat.mul_succ, Nat.mul_comm]; omega
      have hml : S.flatten.length * (d + 1) ≤ 52 * 3 := Nat.mul_le_mul hfl (by omega)
      generalize hzz : S.flatten.length * (d + 1) = zz at *
      have v1 : AV.d (.int .i64 (IntKind.i64.wrap (((d : Nat) : Int) + 1))) = .d (nI (d + 1)) := by
        congr 2
        rw [show ((d : Nat) : Int) + 1 = ((d + 1 : Nat) : Int) by omega]; exact wrap_nat (by omega)
      have v2 : AV.d (.int .i64 (IntKind.i64.wrap (((S.flatten.length : Nat) : Int) * ((d + 1 : Nat) : Int)))) = .d (nI zz) := by
        congr 2
        rw [← Int.natCast_mul, hzz]; exact wrap_nat (by omega)
      have v3 : AV.d (.int .i64 (IntKind.i64.wrap (1 + ((zz : Nat) : Int)))) = .d (nI (1 + zz)) := by
        congr 2
        rw [show 1 + ((zz : Nat) : Int) = ((1 + zz : Nat) : Int) by omega]; exact wrap_nat (by omega)
      have hld2 : ls.length < d ∨ d ≤ ls.length := by omega
      by_cases hsh : ls.length < d ∧ b = false
      · have e1 : chR T d ls b = (0, 5) := by unfold chR; rw [if_pos hsh]
        rw [e1] at hc1
        obtain ⟨hs1, rfl⟩ := hsh
        rcases hld with ⟨rfl, rfl⟩ | ⟨a, l', rfl, rfl⟩
        · repeat' (first
            | refine zV v3 ?_
            | refine zV v2 ?_
            | refine zV v1 ?_
            | refine zW ?_
            | refine zB ?_ ?_ <;> intro h <;> try exact zk h
            | refine zC (hsz) ?_
            | refine zC (hc1) ?_
            | rfl
            | ((exfalso; simp only [List.length_cons, List.length_map, List.length_nil, List.length_append, decide_eq_true_eq, decide_eq_false_iff_not, beq_iff_eq, beq_eq_false_iff_ne, bne_iff_ne, ne_eq, bne_eq_false_iff_eq, Bool.not_eq_eq_eq_not, gt_iff_lt] at *; omega))
            | fail)
        · repeat' (first
            | refine zV v3 ?_
            | refine zV v2 ?_
            | refine zV v1 ?_
            | refine zW ?_
            | refine zB ?_ ?_ <;> intro h <;> try exact zk h
            | refine zC (hsz) ?_
            | refine zC (hc1) ?_
            | rfl
            | ((exfalso; simp only [List.length_cons, List.length_map, List.length_nil, List.length_append, decide_eq_true_eq, decide_eq_false_iff_not, beq_iff_eq, beq_eq_false_iff_ne, bne_iff_ne, ne_eq, bne_eq_false_iff_eq, Bool.not_eq_eq_eq_not, gt_iff_lt] at *; omega))
            | fail)
      · have e1 := hchR ls b hy.symm hsh
        rcases hI with ⟨rfl, hm⟩ | ⟨rfl, hno⟩
        · rw [hin _ hm] at e1
          rw [e1] at hc1
          rcases hld with ⟨rfl, rfl⟩ | ⟨a, l', rfl, rfl⟩
          · have hbt : b = true := by
              cases b with
              | true => rfl
              | false => exact absurd ⟨by simp; omega, rfl⟩ hsh
            subst hbt
            have hd0 : 0 < d := hd1
            repeat' (first
              | refine zV v3 ?_
              | refine zV v2 ?_
              | refine zV v1 ?_
              | refine zW ?_
              | refine zB ?_ ?_ <;> intro h <;> try exact zk h
              | refine zC (hsz) ?_
              | refine zC (hc1) ?_
              | rfl
              | ((exfalso; simp only [List.length_cons, List.length_map, List.length_nil, List.length_append, decide_eq_true_eq, decide_eq_false_iff_not, beq_iff_eq, beq_eq_false_iff_ne, bne_iff_ne, ne_eq, bne_eq_false_iff_eq, Bool.not_eq_eq_eq_not, gt_iff_lt] at *; omega))
              | fail)
          · by_cases hle : (a :: l').length < d
            · have hbt : b = true := by
                cases b with
                | true => rfl
                | false => exact absurd ⟨hle, rfl⟩ hsh
              subst hbt
              repeat' (first
                | refine zV v3 ?_
                | refine zV v2 ?_
                | refine zV v1 ?_
                | refine zW ?_
                | refine zB ?_ ?_ <;> intro h <;> try exact zk h
                | refine zC (hsz) ?_
                | refine zC (hc1) ?_
                | rfl
                | ((exfalso; simp only [List.length_cons, List.length_map, List.length_nil, List.length_append, decide_eq_true_eq, decide_eq_false_iff_not, beq_iff_eq, beq_eq_false_iff_ne, bne_iff_ne, ne_eq, bne_eq_false_iff_eq, Bool.not_eq_eq_eq_not, gt_iff_lt] at *; omega))
                | fail)
            · have hl4 : l'.length ≤ 4 := by simp at hl5; omega
              have hc2 := hch (.sl 1 ((a :: (l' ++ [1])).map nI)) (a :: (l' ++ [1])) (!b) (.inr ⟨a, l' ++ [1], rfl, rfl⟩) (fun u hu => by
                rcases List.mem_cons.1 hu with rfl | hu
                · exact hl3 _ (by simp)
                · rcases List.mem_append.1 hu with h | h
                  · exact hl3 u (by simp [h])
                  · simp at h; omega) (by simp at hl5 ⊢; omega)
              have e2 := hchR (a :: (l' ++ [1])) (!b) (by
                rw [hy, show a :: (l' ++ [1]) = (a :: l') ++ [1] from rfl, List.take_append_of_le_length (by omega)]) (fun h => by
                have := h.1
                simp at this hle
                omega)
              rw [hin _ hm] at e2
              rw [e2, show (a :: (l' ++ [1])).map nI = (a :: l').map nI ++ [nI 1] by simp] at hc2
              cases b with
              | true =>
                repeat' (first
                  | refine zV v3 ?_
                  | refine zV v2 ?_
                  | refine zV v1 ?_
                  | refine zW ?_
                  | refine zB ?_ ?_ <;> intro h <;> try exact zk h
                  | refine zC (hsz) ?_
                  | refine zC (hc1) ?_
                  | refine eM hc2 ?_
                  | refine zAp ?_
                  | rfl
                  | ((exfalso; simp only [List.length_cons, List.length_map, List.length_nil, List.length_append, decide_eq_true_eq, decide_eq_false_iff_not, beq_iff_eq, beq_eq_false_iff_ne, bne_iff_ne, ne_eq, bne_eq_false_iff_eq, Bool.not_eq_eq_eq_not, gt_iff_lt] at *; omega))
                  | fail)
              | false =>
                repeat' (first
                  | refine zV v3 ?_
                  | refine zV v2 ?_
                  | refine zV v1 ?_
                  | refine zW ?_
                  | refine zB ?_ ?_ <;> intro h <;> try exact zk h
                  | refine zC (hsz) ?_
                  | refine zC (hc1) ?_
                  | refine eM hc2 ?_
                  | refine zAp ?_
                  | rfl
                  | ((exfalso; simp only [List.length_cons, List.length_map, List.length_nil, List.length_append, decide_eq_true_eq, decide_eq_false_iff_not, beq_iff_eq, beq_eq_false_iff_ne, bne_iff_ne, ne_eq, bne_eq_false_iff_eq, Bool.not_eq_eq_eq_not, gt_iff_lt] at *; omega))
                  | fail)
        · have hno2 : ∀ p, (y, p) ∉ entS S P := fun p hp => by
            obtain ⟨i0, L0, h1, _, h3⟩ := entS_at.1 hp
            exact hno i0 L0 (List.getElem?_eq_some_iff.1 h1).1 h1 h3
          rw [hout hno2] at e1
          rw [e1] at hc1
          rcases hld with ⟨rfl, rfl⟩ | ⟨a, l', rfl, rfl⟩
          · cases b with
            | true =>
              repeat' (first
                | refine zV v3 ?_
                | refine zV v2 ?_
                | refine zV v1 ?_
                | refine zW ?_
                | refine zB ?_ ?_ <;> intro h <;> try exact zk h
                | refine zC (hsz) ?_
                | refine zC (hc1) ?_
                | rfl
                | ((exfalso; simp only [List.length_cons, List.length_map, List.length_nil, List.length_append, decide_eq_true_eq, decide_eq_false_iff_not, beq_iff_eq, beq_eq_false_iff_ne, bne_iff_ne, ne_eq, bne_eq_false_iff_eq, Bool.not_eq_eq_eq_not, gt_iff_lt] at *; omega))
                | fail)
            | false => exact absurd ⟨by simp; omega, rfl⟩ hsh
          · cases b with
            | true =>
              repeat' (first
                | refine zV v3 ?_
                | refine zV v2 ?_
                | refine zV v1 ?_
                | refine zW ?_
                | refine zB ?_ ?_ <;> intro h <;> try exact zk h
                | refine zC (hsz) ?_
                | refine zC (hc1) ?_
                | rfl
                | ((exfalso; simp only [List.length_cons, List.length_map, List.length_nil, List.length_append, decide_eq_true_eq, decide_eq_false_iff_not, beq_iff_eq, beq_eq_false_iff_ne, bne_iff_ne, ne_eq, bne_eq_false_iff_eq, Bool.not_eq_eq_eq_not, gt_iff_lt] at *; omega))
                | fail)
            | false =>
              have hle : ¬ (a :: l').length < d := fun h => hsh ⟨h, rfl⟩
              repeat' (first
                | refine zV v3 ?_
                | refine zV v2 ?_
                | refine zV v1 ?_
                | refine zW ?_
                | refine zB ?_ ?_ <;> intro h <;> try exact zk h
                | refine zC (hsz) ?_
                | refine zC (hc1) ?_
                | rfl
                | ((exfalso; simp only [List.length_cons, List.length_map, List.length_nil, List.length_append, decide_eq_true_eq, decide_eq_false_iff_not, beq_iff_eq, beq_eq_false_iff_ne, bne_iff_ne, ne_eq, bne_eq_false_iff_eq, Bool.not_eq_eq_eq_not, gt_iff_lt] at *; omega))
                | fail)
theorem lawTSA (nums : List Int) (hn : nums.length ≤ maxLen ∧ ∀ n ∈ nums, Wf64 n) (k : Int) (hk : (Lit.int .i64 k).wf = true) (l : List Int) (hl : l.length ≤ maxLen ∧ ∀ n ∈ l, Wf64 n) (b : Bool) : KnownCall Try.prog 5 [ints nums, .int .i64 k, ints l, .bool b] (.d (.bool true)) :=
  lawTS nums k l b (fun n h => w64_b (hn.2 n h)) (w64_b hk) (fun n h => w64_b (hl.2 n h))
end Go.Av
end

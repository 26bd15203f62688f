/-
  The abstract layer, part V: a region whose order is drawn: whatever the order, it ends as in the text's order.
-/
import Derived.Test.YtkehiddekhlfaaaU
noncomputable section
namespace Go.Av
open Go

theorem PT.get?_set_self {α : Type} : ∀ (t : PT α) (n : Nat) (v : α), n < 2 ^ 64 - 1 → (t.set n v).get? n = some v
  | .nil, n, v, h => PT.get?_single_self v 64 n h
  | .node l x r, n, v, h => by
    rw [PT.set_node]
    cases hn : Nat.beq n 0 with
    | true => simp [PT.get?_node, hn]
    | false =>
      cases hp : Nat.beq (n % 2) 1 with
      | true => simp only [PT.get?_node, hn, hp]; exact PT.get?_set_self l _ v (by omega)
      | false => simp only [PT.get?_node, hn, hp]; exact PT.get?_set_self r _ v (by omega)

theorem PT.get?_single_ne {α : Type} (v : α) (fuel n m : Nat) (h : m ≠ n) : (PT.single v fuel n).get? m = none := by
  cases hg : (PT.single v fuel n).get? m with
  | none => rfl
  | some u => exact absurd (PT.get?_single v fuel n m u hg).1 h

theorem PT.get?_set_ne {α : Type} : ∀ (t : PT α) (n m : Nat) (v : α), m ≠ n → (t.set n v).get? m = t.get? m
  | .nil, n, m, v, h => PT.get?_single_ne v 64 n m h
  | .node l x r, n, m, v, h => by
    rw [PT.set_node]
    cases hn : Nat.beq n 0 with
    | true =>
      have e0 : n = 0 := Nat.eq_of_beq_eq_true hn
      have hm : Nat.beq m 0 = false := by cases hm : Nat.beq m 0 with | false => rfl | true => exact absurd ((Nat.eq_of_beq_eq_true hm).trans e0.symm) h
      simp [PT.get?_node, hm]
    | false =>
      have n0 := Nat.ne_of_beq_eq_false hn
      cases hp : Nat.beq (n % 2) 1 with
      | true =>
        have p1 := Nat.eq_of_beq_eq_true hp
        cases hm : Nat.beq m 0 with
        | true => simp [PT.get?_node, hm]
        | false =>
          have m0 := Nat.ne_of_beq_eq_false hm
          cases hq : Nat.beq (m % 2) 1 with
          | true => have q1 := Nat.eq_of_beq_eq_true hq; simp only [PT.get?_node, hm, hq]; exact PT.get?_set_ne l _ _ v (by omega)
          | false => simp [PT.get?_node, hm, hq]
      | false =>
        have p1 := Nat.ne_of_beq_eq_false hp
        cases hm : Nat.beq m 0 with
        | true => simp [PT.get?_node, hm]
        | false =>
          have m0 := Nat.ne_of_beq_eq_false hm
          cases hq : Nat.beq (m % 2) 1 with
          | true => simp [PT.get?_node, hm, hq]
          | false => have q1 := Nat.ne_of_beq_eq_false hq; simp only [PT.get?_node, hm, hq]; exact PT.get?_set_ne r _ _ v (by omega)

/-- One operation of the text's order, the i-th. -/
def TrStep (E : PT Ty) (H : Nat → Hd) (frz : List Nat) (nt : Nat) (ops : Array Oper) (dead pk : Nat → Bool) (i : Nat) (o : Oper) (s : S) (v : AV) (e : Eff) (s' : S) : Prop :=
  setD nt s.tm o.dst v = some s'.tm ∧ s'.dl = s.dl ∧ isPan v = false ∧
  ((pk i = false ∧ guardA ops (rd s.tm) o = some true ∧ ∃ ob, evAny E (H i) frz (rd s.tm) s.objs o = some (v, ob, true) ∧ s'.objs = ob.getD s.objs ∧ e = effOf (rd s.tm) s.objs o ob) ∨
   (pk i = false ∧ guardA ops (rd s.tm) o = some false ∧ v = .tup [] ∧ s'.objs = s.objs ∧ e = .a none) ∨
   (dead i = true ∧ s'.objs = s.objs ∧ e = .a none) ∨
   (pk i = true ∧ guardA ops (rd s.tm) o = some true ∧ ∃ x ob, evAny E (H i) frz (rd s.tm) s.objs o = some (.pan x, ob, true) ∧ s'.objs = ob.getD s.objs ∧ e = .b none))

structure Tr (E : PT Ty) (H : Nat → Hd) (frz : List Nat) (nt : Nat) (ops : Array Oper) (dead pk : Nat → Bool) (n : Nat) (l : List Oper) (s : S) (es : List Eff) (s' : S) (st : Nat → S) (vs : Nat → AV) : Prop where
  first : st 0 = s
  last : st l.length = s'
  len : es.length = l.length
  step : ∀ (i : Nat) o e, l[i]? = some o → es[i]? = some e → TrStep E H frz nt ops dead pk (n + i) o (st i) (vs i) e (st (i + 1))
  pre : ∀ i, i ≤ l.length → ∃ es', evOps E H frz nt ops dead pk n (l.take i) s = some (es', st i)

theorem trace {E : PT Ty} {H : Nat → Hd} {frz : List Nat} {nt : Nat} {ops : Array Oper} {dead pk : Nat → Bool} : ∀ (l : List Oper) (n : Nat) (s : S) (es : List Eff) (s' : S), evOps E H frz nt ops dead pk n l s = some (es, s') →
    ∃ st vs, Tr E H frz nt ops dead pk n l s es s' st vs
  | [], n, s, es, s', h => by
    simp only [evOps, Option.some.injEq, Prod.mk.injEq] at h
    obtain ⟨rfl, rfl⟩ := h
    exact ⟨fun _ => s, fun _ => .d .any, rfl, rfl, rfl, fun i o e h => by simp at h, fun i _ => ⟨[], by simp [evOps]⟩⟩
  | o :: l, n, s, es, s', h => by
    have cons : ∀ (s1 : S) (v : AV) (e : Eff) (es' : List Eff), TrStep E H frz nt ops dead pk n o s v e s1 → (∀ l' es3 s3, evOps E H frz nt ops dead pk (n + 1) l' s1 = some (es3, s3) → ∃ es4, evOps E H frz nt ops dead pk n (o :: l') s = some (es4, s3)) →
        evOps E H frz nt ops dead pk (n + 1) l s1 = some (es', s') → ∃ st vs, Tr E H frz nt ops dead pk n (o :: l) s (e :: es') s' st vs := by
      intro s1 v e es' h1 hpre h2
      obtain ⟨st, vs, ht⟩ := trace l (n + 1) s1 es' s' h2
      refine ⟨fun i => match i with | 0 => s | i + 1 => st i, fun i => match i with | 0 => v | i + 1 => vs i, rfl, ht.last, by simp [ht.len], fun i o' e' ho he => ?_, fun i hi => ?_⟩
      rotate_left
      · cases i with
        | zero => exact ⟨[], by simp [evOps]⟩
        | succ i =>
          obtain ⟨es3, h3⟩ := ht.pre i (by simpa using hi)
          obtain ⟨es4, h4⟩ := hpre _ _ _ h3
          exact ⟨es4, by simpa using h4⟩
      cases i with
      | zero =>
        simp only [List.getElem?_cons_zero, Option.some.injEq] at ho he
        subst ho he
        simp only [ht.first]
        exact h1
      | succ i =>
        simp only [List.getElem?_cons_succ] at ho he
        have := ht.step i o' e' ho he
        rw [show n + (i + 1) = n + 1 + i by omega]
        exact this
    unfold evOps at h
    cases hdd : dead n with
    | true =>
      rw [hdd] at h
      simp only at h
      split at h
      · rename_i tm htm
        split at h
        · rename_i es' s'' hev
          simp only [Option.some.injEq, Prod.mk.injEq] at h
          obtain ⟨rfl, rfl⟩ := h
          exact cons ⟨tm, s.objs, s.dl⟩ (.d .any) _ es' ⟨htm, rfl, rfl, .inr (.inr (.inl ⟨hdd, rfl, rfl⟩))⟩ (fun l' es3 s3 h3 => ⟨_, by unfold evOps; simp only [hdd, htm, h3]; rfl⟩) hev
        · cases h
      · cases h
    | false =>
      rw [hdd] at h
      simp only at h
      cases hg : guardA ops (rd s.tm) o with
      | none => rw [hg] at h; cases h
      | some b =>
        rw [hg] at h
        cases b with
        | true =>
          simp only at h
          split at h
          · rename_i v ob hv
            cases hpk : pk n with
            | true =>
              rw [hpk] at h
              simp only at h
              split at h
              · rename_i x
                split at h
                · rename_i tm htm
                  split at h
                  · rename_i es' s'' hev
                    simp only [Option.some.injEq, Prod.mk.injEq] at h
                    obtain ⟨rfl, rfl⟩ := h
                    exact cons ⟨tm, ob.getD s.objs, s.dl⟩ (.d .any) _ es' ⟨htm, rfl, rfl, .inr (.inr (.inr ⟨hpk, hg, x, ob, hv, rfl, rfl⟩))⟩ (fun l' es3 s3 h3 => ⟨_, by unfold evOps; simp only [hdd, hg, hv, hpk, htm, h3]; rfl⟩) hev
                  · cases h
                · cases h
              · cases h
            | false =>
              rw [hpk] at h
              simp only at h
              split at h
              · cases h
              · rename_i hnp
                split at h
                · rename_i tm htm
                  split at h
                  · rename_i es' s'' hev
                    simp only [Option.some.injEq, Prod.mk.injEq] at h
                    obtain ⟨rfl, rfl⟩ := h
                    exact cons ⟨tm, ob.getD s.objs, s.dl⟩ v _ es' ⟨htm, rfl, hnp, .inl ⟨hpk, hg, ob, hv, rfl, rfl⟩⟩ (fun l' es3 s3 h3 => ⟨_, by unfold evOps; simp only [hdd, hg, hv, hpk, hnp, htm, h3]; rfl⟩) hev
                  · cases h
                · cases h
          · cases h
        | false =>
          simp only at h
          cases hpk : pk n with
          | true => rw [hpk] at h; cases h
          | false =>
            rw [hpk] at h
            simp only at h
            split at h
            · rename_i tm htm
              split at h
              · rename_i es' s'' hev
                simp only [Option.some.injEq, Prod.mk.injEq] at h
                obtain ⟨rfl, rfl⟩ := h
                exact cons ⟨tm, s.objs, s.dl⟩ (.tup []) _ es' ⟨htm, rfl, rfl, .inr (.inl ⟨hpk, hg, rfl, rfl, rfl⟩)⟩ (fun l' es3 s3 h3 => ⟨_, by unfold evOps; simp only [hdd, hg, hpk, htm, h3]; rfl⟩) hev
              · cases h
            · cases h

/-! ### Unlisted operations, counted -/
theorem filter_lt {p q : Nat → Bool} : ∀ (l : List Nat), (∀ x, q x = true → p x = true) → ∀ i, i ∈ l → p i = true → q i = false → (l.filter q).length < (l.filter p).length
  | [], _, i, h, _, _ => by simp at h
  | x :: l, hpq, i, hi, hp, hq => by
    have le : ∀ l : List Nat, (l.filter q).length ≤ (l.filter p).length := fun l => by
      induction l with
      | nil => simp
      | cons y l ih =>
        simp only [List.filter_cons]
        cases hqy : q y with
        | true => rw [hpq y hqy]; simpa using ih
        | false => cases p y <;> simp <;> omega
    simp only [List.filter_cons]
    rcases List.mem_cons.1 hi with rfl | hi
    · rw [hp, hq]; have := le l; simp; omega
    · have ih := filter_lt l hpq i hi hp hq
      cases hqy : q x with
      | true => rw [hpq x hqy]; simpa using ih
      | false => cases p x <;> simp <;> omega

def left (n : Nat) (listed : Array Bool) : Nat := ((List.range n).filter fun i => !listed.getD i true).length

theorem getD_set {listed : Array Bool} {i j : Nat} (h : i < listed.size) (d : Bool) : (listed.setIfInBounds i true).getD j d = if j = i then true else listed.getD j d := by
  by_cases e : j = i
  · subst e; simp [h]
  · rw [if_neg e]; simp [Array.getElem?_setIfInBounds_ne (Ne.symm e)]

theorem left_set {n i : Nat} {listed : Array Bool} (hs : listed.size = n) (hi : i < n) (h : listed.getD i true = false) : left n (listed.setIfInBounds i true) < left n listed := by
  refine filter_lt _ (fun x hx => ?_) i (by simpa using hi) (by simp [h]) (by rw [getD_set (by omega)]; simp)
  rw [getD_set (by omega)] at hx
  split at hx
  · simp at hx
  · exact hx

theorem Aft.listed {ops : Array Oper} {listed : Array Bool} (hcl : ∀ (i : Nat) o, ops[i]? = some o → listed.getD i false = true → ∀ e ∈ o.after.toList, Region.binds .any e = true → listed.getD e.on false = true)
    {i j : Nat} (h : Aft ops.toList i j) (hi : ∀ o, ops[i]? = some o → ∀ e ∈ o.after.toList, Region.binds .any e = true → listed.getD e.on false = true) : listed.getD j false = true := by
  induction h with
  | base h1 h2 h3 => exact hi _ (by simpa using h1) _ h2 h3
  | step h1 h2 h3 _ ih => exact ih fun o ho => hcl _ o ho (hi _ (by simpa using h1) _ h2 h3)

theorem Aft.lt {ops : Array Oper} (he : ∀ (i : Nat) o, ops[i]? = some o → ∀ e ∈ o.after.toList, Region.binds .any e = true → e.on < i) {i j : Nat} (h : Aft ops.toList i j) : j < i := by
  induction h with
  | base h1 h2 h3 => exact he _ _ (by simpa using h1) _ h2 h3
  | step h1 h2 h3 _ ih => exact Nat.lt_trans ih (he _ _ (by simpa using h1) _ h2 h3)

end Go.Av

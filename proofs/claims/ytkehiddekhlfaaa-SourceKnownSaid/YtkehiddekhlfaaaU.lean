/-
  The abstract layer, part U: what a loud operation changes; the operations that come before.
-/
import Derived.Test.YtkehiddekhlfaaaT
noncomputable section
namespace Go.Av
open Go

/-- f changes the object at q alone. -/
def WF (q : Nat) (objs : List Ob) (r : R) : Prop := ∀ av o' c, r = some (av, o', c) → ∀ p, p ≠ q → o'[p]? = objs[p]?

theorem wf_none {q : Nat} {objs : List Ob} : WF q objs none := fun _ _ _ h => by cases h
theorem wf_new {objs : List Ob} {v : AV} {x : Ob} {c : Bool} : WF objs.length objs (some (v, objs ++ [x], c)) := fun _ _ _ h p hp => by
  simp only [Option.some.injEq, Prod.mk.injEq] at h; obtain ⟨_, rfl, _⟩ := h; exact append_other hp
theorem wf_set {objs : List Ob} {i : Nat} {v : AV} {x : Ob} {c : Bool} : WF i objs (some (v, objs.set i x, c)) := fun _ _ _ h p hp => by
  simp only [Option.some.injEq, Prod.mk.injEq] at h; obtain ⟨_, rfl, _⟩ := h; exact set_other hp
theorem wf_same {q : Nat} {objs : List Ob} {v : AV} {c : Bool} : WF q objs (some (v, objs, c)) := fun _ _ _ h p _ => by
  simp only [Option.some.injEq, Prod.mk.injEq] at h; obtain ⟨_, rfl, _⟩ := h; rfl

theorem wf_alloc (E : PT Ty) (t : TypeId) (objs : List Ob) : WF objs.length objs (allocR E t objs) := by
  unfold allocR; split
  · split
    · exact wf_new
    · exact wf_new
  · exact wf_none
theorem wf_box (x : AV) (objs : List Ob) : WF objs.length objs (boxR x objs) := by
  unfold boxR; split
  · exact wf_new
  · exact wf_none
theorem wf_boxT (E : PT Ty) (t : TypeId) (x : AV) (objs : List Ob) : WF objs.length objs (boxTR E t x objs) := by
  unfold boxTR; split
  · split
    · exact wf_new
    · exact wf_none
  · exact wf_box x objs
theorem wf_buildSlice (E : PT Ty) (b : Bool) (t : TypeId) (n : Nat) (ps : List (Nat × AV)) (objs : List Ob) : WF objs.length objs (buildSliceR E b t n ps objs) := by
  unfold buildSliceR
  split
  · split
    · split
      · split
        · split
          · split
            · exact wf_new
            · exact wf_same
          · exact wf_none
        · exact wf_none
      · exact wf_none
    · exact wf_none
  · exact wf_none
theorem wf_range (E : PT Ty) (t : TypeId) (x : AV) (objs : List Ob) : WF objs.length objs (rangeR E t x objs) := by
  unfold rangeR; split
  · exact wf_new
  · exact wf_none
theorem wf_next (x : AV) (b : Bool) (objs : List Ob) {q : Nat} (hq : posOf x = some q) : WF q objs (nextR x b objs) := by
  unfold nextR
  split
  · simp only [posOf, Option.some.injEq] at hq; subst hq
    split
    · split
      · exact wf_set
      · exact wf_same
    · exact wf_none
  · exact wf_none
theorem wf_store (E : PT Ty) (t : TypeId) (x v : AV) (objs : List Ob) {q : Nat} (hq : posOf x = some q) : WF q objs (storeR E t x v objs) := by
  unfold storeR
  split
  · simp only [posOf, Option.some.injEq] at hq; subst hq
    split
    · split
      · split
        · exact wf_set
        · exact wf_none
      · exact wf_none
    · exact wf_none
  · exact wf_none
theorem wf_mapUpdate (E : PT Ty) (t : TypeId) (x k v : AV) (objs : List Ob) {q : Nat} (hq : posOf x = some q) : WF q objs (mapUpdateR E t x k v objs) := by
  unfold mapUpdateR
  split
  · simp only [posOf, Option.some.injEq] at hq; subst hq
    split
    · split
      · exact wf_set
      · exact wf_set
      · exact wf_none
    · exact wf_none
  · exact wf_none
theorem wf_mapEntry (E : PT Ty) (t : TypeId) (x k : AV) (objs : List Ob) {q : Nat} (hq : posOf x = some q) : WF q objs (mapEntryR E t x k objs) := by
  unfold mapEntryR
  split
  · simp only [posOf, Option.some.injEq] at hq; subst hq
    split
    · split
      · exact wf_set
      · split
        · exact wf_set
        · exact wf_none
      · exact wf_none
    · exact wf_none
  · exact wf_none
theorem wf_entryStore (x k v : AV) (objs : List Ob) {q : Nat} (hq : posOf x = some q) : WF q objs (entryStoreR x k v objs) := by
  unfold entryStoreR
  split
  · simp only [posOf, Option.some.injEq] at hq; subst hq
    split
    · exact wf_set
    · exact wf_none
  · exact wf_none
theorem wf_slice3 (E : PT Ty) (t : TypeId) (x : AV) (lo hi mx : Option AV) (objs : List Ob) : WF objs.length objs (slice3R E t x lo hi mx objs) := by
  unfold slice3R
  split
  · split
    · split
      · exact wf_new
      · exact wf_none
    · exact wf_none
  · exact wf_none
theorem wf_makeSlice (E : PT Ty) (t : TypeId) (l c : AV) (objs : List Ob) : WF objs.length objs (makeSliceR E t l c objs) := by
  unfold makeSliceR
  split
  · split
    · split
      · exact wf_new
      · exact wf_none
    · exact wf_none
  · exact wf_none
theorem wf_buildVec (E : PT Ty) (t : TypeId) (n : Nat) (ps : List (Nat × AV)) (objs : List Ob) : WF objs.length objs (buildVecR E t n ps objs) := by
  unfold buildVecR
  split
  · split
    · split
      · split
        · exact wf_new
        · exact wf_none
      · exact wf_none
    · exact wf_none
  · exact wf_none
theorem wf_append (E : PT Ty) (vec : Bool) (ts tx : TypeId) (s x : AV) (objs : List Ob) {q : Nat} (hq : (match s with | .sr i _ _ => some i | .d .nilsl => some objs.length | _ => none) = some q) :
    WF q objs (appendR E vec ts tx s x objs) := by
  unfold appendR
  split
  · split
    · split
      · split
        · simp only [Option.some.injEq] at hq; subst hq
          split
          · exact wf_new
          · exact wf_new
        · cases hq
        · simp only [Option.some.injEq] at hq; subst hq
          split
          · split
            · exact wf_set
            · exact wf_none
          · exact wf_none
        · exact wf_none
      · exact wf_none
    · exact wf_none
  · exact wf_none

theorem evAny_b {E : PT Ty} {H : Hd} {frz : List Nat} {rd : Operand → AV} {objs objs' : List Ob} {o : Oper} {av : AV} {c : Bool} (h : evAny E H frz rd objs o = some (av, some objs', c)) {q : Nat}
    (hq : writesAt rd objs.length o.op = some q) {p : Nat} (hp : p ≠ q) : objs'[p]? = objs[p]? := by
  cases way_of h with
  | fnD ho hf h => rw [ho] at hq; simp [writesAt] at hq
  | fnA ho hf h => rw [ho] at hq; simp [writesAt] at hq
  | fnO ho hf h => rw [ho] at hq; simp [writesAt] at hq
  | yl ho hf h => rw [ho] at hq; simp [writesAt] at hq
  | rowV ho h => rw [ho] at hq; simp only [writesAt, Option.some.injEq] at hq; subst hq; exact wf_buildVec E _ _ _ objs _ _ _ h p hp
  | app ho ha ht h =>
    rw [ho] at hq
    simp only [writesAt, ha] at hq
    exact wf_append E _ _ _ _ _ objs hq _ _ _ h p hp
  | loud h =>
    revert h hq
    cases o.op with
    | store t x v => intro hq h; exact wf_store E t _ _ objs hq _ _ _ h p hp
    | mapUpdate t m k v => intro hq h; exact wf_mapUpdate E t _ _ _ objs hq _ _ _ h p hp
    | mapEntry t m k => intro hq h; exact wf_mapEntry E t _ _ objs hq _ _ _ h p hp
    | entryStore t m k v => intro hq h; exact wf_entryStore _ _ _ objs hq _ _ _ h p hp
    | insert t m k v => intro hq h; exact wf_mapUpdate E t _ _ _ objs hq _ _ _ h p hp
    | next it s => intro hq h; exact wf_next _ s objs hq _ _ _ h p hp
    | alloc t => intro hq h; simp only [writesAt, Option.some.injEq] at hq; subst hq; exact wf_alloc E t objs _ _ _ h p hp
    | box t x => intro hq h; simp only [writesAt, Option.some.injEq] at hq; subst hq; exact wf_boxT E t _ objs _ _ _ h p hp
    | buildSlice t n ps => intro hq h; simp only [writesAt, Option.some.injEq] at hq; subst hq; exact wf_buildSlice E true t n _ objs _ _ _ h p hp
    | makeMap t r =>
      intro hq h; simp only [writesAt, Option.some.injEq] at hq; subst hq
      cases r with
      | none => exact wf_new _ _ _ h p hp
      | some r => cases h
    | makeSlice t l c => intro hq h; simp only [writesAt, Option.some.injEq] at hq; subst hq; exact wf_makeSlice E t _ _ objs _ _ _ h p hp
    | slice t x lo hi mx =>
      intro hq h
      cases mx with
      | none => cases hq
      | some mx => simp only [writesAt, Option.some.injEq] at hq; subst hq; exact wf_slice3 E t _ _ _ _ objs _ _ _ h p hp
    | range t x => intro hq h; simp only [writesAt, Option.some.injEq] at hq; subst hq; exact wf_range E t _ objs _ _ _ h p hp
    | call cl =>
      obtain ⟨callee, ⟨l⟩, ⟨ts⟩⟩ := cl
      cases callee with
      | value f => intro hq h; simp [writesAt] at hq
      | invoke r m => intro hq h; simp [writesAt] at hq
      | builtin b =>
        cases b with
        | append =>
          intro hq h
          cases l with
          | nil => cases hq
          | cons s l =>
            cases l with
            | nil => cases h
            | cons x l =>
              cases l with
              | cons y l => cases h
              | nil =>
                cases ts with
                | nil => cases h
                | cons t1 ts => cases ts with
                  | nil => cases h
                  | cons t2 ts => cases ts with
                    | cons t3 ts => cases h
                    | nil => exact wf_append E false t1 t2 _ _ objs hq _ _ _ h p hp
        | _ => intro hq h; cases hq
    | _ => intro hq h; simp [writesAt] at hq

/-! ### What comes before -/
theorem bitN_testBit (n i : Nat) : bitN n i = n.testBit i := by
  unfold bitN
  rw [Nat.testBit_eq_decide_div_mod_eq, ← beqN, Bool.eq_iff_iff]
  simp

/-- i comes after j, by the edges that bind. -/
inductive Aft (ops : List Oper) : Nat → Nat → Prop
  | base {i : Nat} {o : Oper} {e : Edge} (hi : ops[i]? = some o) (he : e ∈ o.after.toList) (hb : Region.binds .any e = true) : Aft ops i e.on
  | step {i j : Nat} {o : Oper} {e : Edge} (hi : ops[i]? = some o) (he : e ∈ o.after.toList) (hb : Region.binds .any e = true) (h : Aft ops e.on j) : Aft ops i j

theorem ancOf_bit (anc : List Nat) (j : Nat) : ∀ (es : List Edge) (m : Nat), bitN (ancOf anc es m) j = true → bitN m j = true ∨ ∃ e ∈ es, Region.binds .any e = true ∧ (e.on = j ∨ bitN (anc.getD e.on 0) j = true)
  | [], m, h => .inl h
  | e :: r, m, h => by
    unfold ancOf at h
    rcases ancOf_bit anc j r _ h with h1 | ⟨e', he', hb, h2⟩
    · cases hb : Region.binds .any e with
      | false => rw [hb] at h1; exact .inl h1
      | true =>
        rw [hb] at h1
        simp only [bitN_testBit, Nat.testBit_or, Bool.or_eq_true] at h1 ⊢
        rcases h1 with h1 | h1 | h1
        · exact .inl h1
        · exact .inr ⟨e, by simp, hb, .inr h1⟩
        · refine .inr ⟨e, by simp, hb, .inl ?_⟩
          rw [Nat.one_shiftLeft, Nat.testBit_two_pow] at h1
          exact of_decide_eq_true h1
    · exact .inr ⟨e', by simp [he'], hb, h2⟩

theorem ancs_bit (all : List Oper) : ∀ (l : List Oper) (acc : List Nat), (∀ k : Nat, l[k]? = all[acc.length + k]?) → (∀ i j, bitN (acc.getD i 0) j = true → Aft all i j) →
    ∀ i j, bitN ((ancs l acc).getD i 0) j = true → Aft all i j
  | [], acc, _, h => h
  | o :: r, acc, hl, h => by
    unfold ancs
    refine ancs_bit all r _ (fun k => ?_) (fun i j hij => ?_)
    · have := hl (k + 1)
      simp only [List.length_append, List.length_singleton]
      rw [show acc.length + 1 + k = acc.length + (k + 1) by omega, ← this]; simp
    · by_cases hi : i < acc.length
      · rw [List.getD_eq_getElem?_getD, List.getElem?_append_left hi, ← List.getD_eq_getElem?_getD] at hij
        exact h i j hij
      · by_cases he : i = acc.length
        · subst he
          rw [List.getD_eq_getElem?_getD, List.getElem?_append_right (by omega)] at hij
          simp only [Nat.sub_self, List.getElem?_cons_zero, Option.getD_some] at hij
          have ho : all[acc.length]? = some o := by have := hl 0; simpa using this.symm
          rcases ancOf_bit acc j _ _ hij with h0 | ⟨e, he, hb, h1⟩
          · rw [bitN_testBit] at h0; simp at h0
          · rcases h1 with rfl | h1
            · exact .base ho he hb
            · exact .step ho he hb (h _ _ h1)
        · rw [List.getD_eq_getElem?_getD, List.getElem?_eq_none (by simp; omega), Option.getD_none, bitN_testBit] at hij
          simp at hij

theorem anc_aft {ops : Array Oper} {i j : Nat} (h : bitN ((ancs ops.toList []).getD i 0) j = true) : Aft ops.toList i j :=
  ancs_bit ops.toList ops.toList [] (fun k => by simp) (fun i j h => by rw [bitN_testBit] at h; simp at h) i j h

theorem upTo_get {n : Nat} {p : Nat → Bool} (h : upTo n p = true) : ∀ i, i < n → p i = true := by
  induction n with
  | zero => intro i hi; omega
  | succ n ih =>
    intro i hi
    simp only [upTo, Bool.and_eq_true] at h
    by_cases he : i = n
    · subst he; exact h.1
    · exact ih h.2 i (by omega)

theorem memN_iff {n : Nat} : ∀ {l : List Nat}, memN n l = true ↔ n ∈ l
  | [] => by simp [memN]
  | a :: r => by
    simp only [memN, Bool.or_eq_true, List.mem_cons, memN_iff (l := r), ← beqN, beq_iff_eq]
    exact ⟨fun h => h.imp Eq.symm id, fun h => h.imp Eq.symm id⟩

end Go.Av

/-
  Parts of the way to the law, joined: rules for code over data, and what the functions return. Conditions stand at each.
-/
import Derived.Test.YtchoocpngfhkpaaO4
noncomputable section
namespace Go.Av
open Go Go.Proofs
set_option maxRecDepth 10000
structure ShortX (x : Src) : Prop where
  tokens : x.tokens.length ≤ 10
  rules : x.rules.length ≤ 10
  sep : x.sep.length ≤ 40
  start : x.start.length ≤ 40
  tokenS : ∀ s ∈ x.tokens, s.length ≤ 40
  ruleS : ∀ r ∈ x.rules, r.name.length ≤ 40
  many : sumTo x x.rules.length ≤ 30
  names : ∀ r ∈ x.rules, ∀ a ∈ r.alts, a.length ≤ 8 ∧ ∀ s ∈ a, s.length ≤ 40
theorem ShortX.alts {x : Src} (h : ShortX x) {r : SRule} (hr : r ∈ x.rules) : r.alts.length ≤ 30 := Nat.le_trans (le_sumTo hr) h.many
theorem ShortX.fits {x : Src} (h : ShortX x) : FitsX x where
  tokens := by have := h.tokens; omega
  rules := by have := h.rules; omega
  alts r hr := by have := h.alts hr; omega
  names r hr a ha := by have := (h.names r hr a ha).1; omega
  sep := by have := h.sep; omega
  start := by have := h.start; omega
  tokenS s hs := by have := h.tokenS s hs; omega
  ruleS r hr := by have := h.ruleS r hr; omega
  nameS r hr a ha s hs := by have := (h.names r hr a ha).2 s hs; omega
theorem flatten_len {α : Type} {n : Nat} : ∀ {l : List (List α)}, (∀ a ∈ l, a.length ≤ n) → l.flatten.length ≤ l.length * n
  | [], _ => by simp
  | a :: l, h => by
    have h1 := h a List.mem_cons_self
    have h2 := flatten_len (l := l) fun b hb => h b (List.mem_cons_of_mem _ hb)
    rw [List.flatten_cons, List.length_append, List.length_cons, Nat.succ_mul]
    omega
theorem ShortX.inner {x : Src} (h : ShortX x) : (innerX x).length ≤ 1048576 := by
  have h1 : (innerX x).length ≤ (x.rules.map fun r => r.alts.flatten).length * 240 := by
    unfold innerX
    rw [List.flatMap_def]
    refine flatten_len fun a ha => ?_
    obtain ⟨r, hr, rfl⟩ := List.mem_map.1 ha
    have h2 := flatten_len (l := r.alts) (n := 8) fun a ha => (h.names r hr a ha).1
    have := h.alts hr
    omega
  have := h.rules
  rw [List.length_map] at h1
  omega
theorem ShortX.fitsG {x : Src} (h : ShortX x) : Fits (ofRes x) := by
  unfold ofRes
  split
  · rename_i h0
    obtain ⟨h1, h2, h3, h4⟩ := checkX_small h0
    refine ⟨by show x.tokens.length ≤ _; omega, by show (ruleNames x).length ≤ _; simp; omega, by show (ofP x x.rules.length).length ≤ _; rw [ofP_len (Nat.le_refl _)]; omega, by show x.sep.length ≤ _; have := h.sep; omega,
      fun s hs => by have := h.tokenS s hs; omega, fun s hs => ?_, fun p hp => ?_⟩
    · obtain ⟨r, hr, rfl⟩ := List.mem_map.1 hs
      have := h.ruleS r hr
      omega
    · change p ∈ ofP x x.rules.length at hp
      simp only [ofP, List.take_length, List.mem_flatMap] at hp
      obtain ⟨⟨r, i⟩, hr, hp⟩ := hp
      have hr := List.mem_zipIdx hr
      simp only [List.mem_map] at hp
      obtain ⟨a, ha, rfl⟩ := hp
      have hrm : r ∈ x.rules := by rw [hr.2.2]; exact List.getElem_mem _
      have := (h.names r hrm a ha).1
      simp only [altP, List.length_map]
      omega
  · exact ⟨Nat.zero_le _, Nat.zero_le _, Nat.zero_le _, Nat.zero_le _, by simp [g0], by simp [g0], by simp [g0]⟩
theorem take_all {α : Type} {l : List α} {i : Nat} {a : α} {Q : α → Prop} (h : l[i]? = some a) (hQ : ∀ b ∈ l.take i, Q b) (ha : Q a) : ∀ b ∈ l.take (i + 1), Q b := by
  intro b hb
  rw [List.take_add_one, h] at hb
  rcases List.mem_append.1 hb with hb | hb
  · exact hQ b hb
  · simp at hb; subst hb; exact ha
set_option maxHeartbeats 4000000 in
theorem lawOf (x : Src) (hbig : ∀ r ∈ x.rules, r.alts.length * 24 ≤ reachBytes) : KnownCall Try.prog 6 [encX x] (.d (.bool true)) := by
  have hA := awake9
  by_cases h0 : x.tokens.length ≤ 10 ∧ x.rules.length ≤ 10 ∧ x.sep.length ≤ 40 ∧ x.start.length ≤ 40
  · obtain ⟨h1, h2, h3, h4⟩ := h0
    have hs1 := short x.tokens 40 (by omega)
    cases hb : x.tokens.all fun s => decide (s.length ≤ 40) with
    | false =>
      rw [hb] at hs1
      refine knownE Et_ok (fnAt Try.func6 (by kernel_rfl) (by kernel_rfl) : FnAt _ _ (mkFn Try.f6 [1])) ?_
      repeat' (first
        | refine Run.region ?_
        | refine Run.seq ?_
        | ((refine oB (frz := [1]) Et_ok (fun h => ?_) (fun h => ?_)) <;> (first | (exfalso; simp at h <;> fail) | (exfalso; simp at h; omega) | skip))
        | ((refine eB (fun h => ?_) (fun h => ?_)) <;> (first | (exfalso; simp at h <;> fail) | (exfalso; simp at h; omega) | skip))
        | refine oX (frz := [1]) Et_ok ?_
        | refine oS ?_
        | refine RunOps.nil ?_
        | refine Run.skip ?_
        | refine cT ?_
        | refine cF ?_
        | refine Run.block ?_
        | refine Run.exit ?_
        | refine Run.draw (frz := [1]) Et_ok (by kernel_rfl) ?_
        | refine eX ?_
        | refine eS ?_
        | refine eN ?_
        | refine oC (hA) ?_
        | refine eC (hA) ?_
        | refine oC (hs1) ?_
        | refine eC (hs1) ?_
        | (refine Run.ret ?_; (first | refine rB ?_ | refine rI ?_ | refine rA ?_ | refine rII ?_ | refine rSI ?_ | refine rT ?_ | refine rS ?_); first | done | (rfl))
        | ((exfalso; first | (simp_all <;> fail) | (simp_all; omega)))
        | fail)
    | true =>
      rw [hb] at hs1
      have h5 : ∀ s ∈ x.tokens, s.length ≤ 40 := by simpa using hb
      refine knownE Et_ok (fnAt Try.func6 (by kernel_rfl) (by kernel_rfl) : FnAt _ _ (mkFn Try.f6 [1])) ?_
      repeat' (first
        | refine Run.region ?_
        | refine Run.seq ?_
        | ((refine oB (frz := [1]) Et_ok (fun h => ?_) (fun h => ?_)) <;> (first | (exfalso; simp at h <;> fail) | (exfalso; simp at h; omega) | skip))
        | ((refine eB (fun h => ?_) (fun h => ?_)) <;> (first | (exfalso; simp at h <;> fail) | (exfalso; simp at h; omega) | skip))
        | refine oX (frz := [1]) Et_ok ?_
        | refine oS ?_
        | refine RunOps.nil ?_
        | refine Run.skip ?_
        | refine cT ?_
        | refine cF ?_
        | refine Run.block ?_
        | refine Run.exit ?_
        | refine Run.draw (frz := [1]) Et_ok (by kernel_rfl) ?_
        | refine eX ?_
        | refine eS ?_
        | refine eN ?_
        | refine oC (hA) ?_
        | refine eC (hA) ?_
        | refine oC (hs1) ?_
        | refine eC (hs1) ?_
        | (refine Run.ret ?_; (first | refine rB ?_ | refine rI ?_ | refine rA ?_ | refine rII ?_ | refine rSI ?_ | refine rT ?_ | refine rS ?_); first | done | (rfl))
        | ((exfalso; first | (simp_all <;> fail) | (simp_all; omega)))
        | fail)
      refine Run.loop (fun i : Nat => ⟨PT.ofList [(1, cellX x), (2, .d (.bool false)), (3, .d (.int .i64 (sumTo x i : Nat))), (4, .d (.int .i64 i))], [], []⟩) (fun i => i ≤ x.rules.length ∧ sumTo x i ≤ 30 ∧ (∀ r ∈ x.rules.take i, r.name.length ≤ 40 ∧ ∀ a ∈ r.alts, a.length ≤ 8 ∧ ∀ s ∈ a, s.length ≤ 40)) (fun i => x.rules.length - i) 0 ⟨Nat.zero_le _, by simp [sumTo], by simp⟩ (weak_of (by repeat' (first | exact trivial | refine ⟨rfl, ?_⟩))) (fun i hi => ?_)
      obtain ⟨hi1, hi2, hi3⟩ := hi
      rcases Nat.lt_or_ge i x.rules.length with hlt | hge
      · obtain ⟨r, hr⟩ := get_ok hlt
        have hra := hbig r (List.mem_of_getElem? hr)
        have hsum : AV.d (.int .i64 (IntKind.i64.wrap ((sumTo x i : Nat) + ((r.alts.map strs).length : Int)))) = .d (.int .i64 (sumTo x (i + 1) : Nat)) := by
          rw [sumTo_succ hr, List.length_map, wrap64 (by omega) (by simp only [reachBytes] at hra; omega)]
          rfl
        by_cases hok : sumTo x (i + 1) ≤ 30 ∧ r.name.length ≤ 40
        · obtain ⟨ho1, ho2⟩ := hok
          have hal : r.alts.length ≤ 30 := by rw [sumTo_succ hr] at ho1; omega
          repeat' (first
            | refine oX (frz := [1]) (v := .d (.int .i64 (sumTo x (i + 1) : Nat))) Et_ok ?_ (he := (hsum))
            | refine eX (v := .d (.int .i64 (sumTo x (i + 1) : Nat))) ?_ (he := (hsum))
            | refine Run.region ?_
            | refine Run.seq ?_
            | ((refine oB (frz := [1]) Et_ok (fun h => ?_) (fun h => ?_)) <;> (first | (exfalso; simp at h <;> fail) | (exfalso; simp at h; omega) | skip))
            | ((refine eB (fun h => ?_) (fun h => ?_)) <;> (first | (exfalso; simp at h <;> fail) | (exfalso; simp at h; omega) | skip))
            | refine oX (frz := [1]) Et_ok ?_
            | refine oS ?_
            | refine RunOps.nil ?_
            | refine Run.skip ?_
            | refine cT ?_
            | refine cF ?_
            | refine Run.block ?_
            | refine Run.exit ?_
            | refine Run.draw (frz := [1]) Et_ok (by kernel_rfl) ?_
            | refine eX ?_
            | refine eS ?_
            | refine eN ?_
            | refine oC (hA) ?_
            | refine eC (hA) ?_
            | refine oX (frz := [1]) (v := .d (.ep [.str r.name, alts r.alts])) Et_ok ?_ (hf := (by first | (simp [inB] <;> fail) | (simp [inB]; omega))) (he := (by first | (simp [List.getD_eq_getElem?_getD, cellsD, hr, encR] <;> fail) | fail))
            | refine eX (v := .d (.ep [.str r.name, alts r.alts])) ?_ (hf := (by first | (simp [inB] <;> fail) | (simp [inB]; omega))) (he := (by first | (simp [List.getD_eq_getElem?_getD, cellsD, hr, encR] <;> fail) | fail))
            | (refine Run.ret ?_; (first | refine rB ?_ | refine rI ?_ | refine rA ?_ | refine rII ?_ | refine rSI ?_ | refine rT ?_ | refine rS ?_); first | done | (rfl))
            | ((exfalso; (simp at h <;> omega)))
            | fail)
          refine Run.loop (fun k : Nat => ⟨PT.ofList [(1, cellX x), (2, .d (.bool false)), (3, .d (.int .i64 (sumTo x (i + 1) : Nat))), (4, .d (.int .i64 i)), (5, .d (.int .i64 k))], [], []⟩) (fun k => k ≤ r.alts.length ∧ ∀ a ∈ r.alts.take k, a.length ≤ 8 ∧ ∀ s ∈ a, s.length ≤ 40) (fun k => r.alts.length - k) 0 ⟨Nat.zero_le _, by simp⟩ (weak_of (by repeat' (first | exact trivial | refine ⟨rfl, ?_⟩))) (fun k hk => ?_)
          obtain ⟨hk1, hk2⟩ := hk
          rcases Nat.lt_or_ge k r.alts.length with hkl | hkg
          · obtain ⟨a, ha⟩ := get_ok hkl
            by_cases hal8 : a.length ≤ 8
            · have hs2 := short a 40 (by omega)
              cases hb2 : a.all fun s => decide (s.length ≤ 40) with
              | false =>
                rw [hb2] at hs2
                repeat' (first
                  | refine Run.region ?_
                  | refine Run.seq ?_
                  | ((refine oB (frz := [1]) Et_ok (fun h => ?_) (fun h => ?_)) <;> (first | (exfalso; simp at h <;> fail) | (exfalso; simp at h; omega) | skip))
                  | ((refine eB (fun h => ?_) (fun h => ?_)) <;> (first | (exfalso; simp at h <;> fail) | (exfalso; simp at h; omega) | skip))
                  | refine oX (frz := [1]) Et_ok ?_
                  | refine oS ?_
                  | refine RunOps.nil ?_
                  | refine Run.skip ?_
                  | refine cT ?_
                  | refine cF ?_
                  | refine Run.block ?_
                  | refine Run.exit ?_
                  | refine Run.draw (frz := [1]) Et_ok (by kernel_rfl) ?_
                  | refine eX ?_
                  | refine eS ?_
                  | refine eN ?_
                  | refine oC (hA) ?_
                  | refine eC (hA) ?_
                  | refine oC (hs2) ?_
                  | refine eC (hs2) ?_
                  | refine oX (frz := [1]) (v := .d (.ep [.str r.name, alts r.alts])) Et_ok ?_ (hf := (by first | (simp [inB] <;> fail) | (simp [inB]; omega))) (he := (by first | (simp [List.getD_eq_getElem?_getD, cellsD, hr, encR] <;> fail) | fail))
                  | refine eX (v := .d (.ep [.str r.name, alts r.alts])) ?_ (hf := (by first | (simp [inB] <;> fail) | (simp [inB]; omega))) (he := (by first | (simp [List.getD_eq_getElem?_getD, cellsD, hr, encR] <;> fail) | fail))
                  | refine oX (frz := [1]) (v := .d (.ep [strs a])) Et_ok ?_ (hf := (by first | (simp [inB] <;> fail) | (simp [inB]; omega))) (he := (by first | (simp [List.getD_eq_getElem?_getD, cellsD, ha] <;> fail) | fail))
                  | refine eX (v := .d (.ep [strs a])) ?_ (hf := (by first | (simp [inB] <;> fail) | (simp [inB]; omega))) (he := (by first | (simp [List.getD_eq_getElem?_getD, cellsD, ha] <;> fail) | fail))
                  | (refine Run.ret ?_; (first | refine rB ?_ | refine rI ?_ | refine rA ?_ | refine rII ?_ | refine rSI ?_ | refine rT ?_ | refine rS ?_); first | done | (rfl))
                  | ((exfalso; (simp at h <;> omega)))
                  | fail)
              | true =>
                rw [hb2] at hs2
                have hkn := take_all (Q := fun a : List (List Nat) => a.length ≤ 8 ∧ ∀ s ∈ a, s.length ≤ 40) ha hk2 ⟨hal8, by simpa using hb2⟩
                repeat' (first
                  | refine Run.region ?_
                  | refine Run.seq ?_
                  | ((refine oB (frz := [1]) Et_ok (fun h => ?_) (fun h => ?_)) <;> (first | (exfalso; simp at h <;> fail) | (exfalso; simp at h; omega) | skip))
                  | ((refine eB (fun h => ?_) (fun h => ?_)) <;> (first | (exfalso; simp at h <;> fail) | (exfalso; simp at h; omega) | skip))
                  | refine oX (frz := [1]) Et_ok ?_
                  | refine oS ?_
                  | refine RunOps.nil ?_
                  | refine Run.skip ?_
                  | refine cT ?_
                  | refine cF ?_
                  | refine Run.block ?_
                  | refine Run.exit ?_
                  | refine Run.draw (frz := [1]) Et_ok (by kernel_rfl) ?_
                  | refine eX ?_
                  | refine eS ?_
                  | refine eN ?_
                  | refine oC (hA) ?_
                  | refine eC (hA) ?_
                  | refine oC (hs2) ?_
                  | refine eC (hs2) ?_
                  | refine oX (frz := [1]) (v := .d (.ep [.str r.name, alts r.alts])) Et_ok ?_ (hf := (by first | (simp [inB] <;> fail) | (simp [inB]; omega))) (he := (by first | (simp [List.getD_eq_getElem?_getD, cellsD, hr, encR] <;> fail) | fail))
                  | refine eX (v := .d (.ep [.str r.name, alts r.alts])) ?_ (hf := (by first | (simp [inB] <;> fail) | (simp [inB]; omega))) (he := (by first | (simp [List.getD_eq_getElem?_getD, cellsD, hr, encR] <;> fail) | fail))
                  | refine oX (frz := [1]) (v := .d (.ep [strs a])) Et_ok ?_ (hf := (by first | (simp [inB] <;> fail) | (simp [inB]; omega))) (he := (by first | (simp [List.getD_eq_getElem?_getD, cellsD, ha] <;> fail) | fail))
                  | refine eX (v := .d (.ep [strs a])) ?_ (hf := (by first | (simp [inB] <;> fail) | (simp [inB]; omega))) (he := (by first | (simp [List.getD_eq_getElem?_getD, cellsD, ha] <;> fail) | fail))
                  | (refine Run.ret ?_; (first | refine rB ?_ | refine rI ?_ | refine rA ?_ | refine rII ?_ | refine rSI ?_ | refine rT ?_ | refine rS ?_); first | done | (rfl))
                  | (exact ⟨k + 1, ⟨by omega, hkn⟩, by omega, weak_of (by repeat' (first | exact trivial | refine ⟨rfl, ?_⟩ | refine ⟨(inc_get (k := k) (by kernel_rfl) (by omega)), ?_⟩))⟩)
                  | ((exfalso; (simp at h <;> omega)))
                  | fail)
            · repeat' (first
                | refine Run.region ?_
                | refine Run.seq ?_
                | ((refine oB (frz := [1]) Et_ok (fun h => ?_) (fun h => ?_)) <;> (first | (exfalso; simp at h <;> fail) | (exfalso; simp at h; omega) | skip))
                | ((refine eB (fun h => ?_) (fun h => ?_)) <;> (first | (exfalso; simp at h <;> fail) | (exfalso; simp at h; omega) | skip))
                | refine oX (frz := [1]) Et_ok ?_
                | refine oS ?_
                | refine RunOps.nil ?_
                | refine Run.skip ?_
                | refine cT ?_
                | refine cF ?_
                | refine Run.block ?_
                | refine Run.exit ?_
                | refine Run.draw (frz := [1]) Et_ok (by kernel_rfl) ?_
                | refine eX ?_
                | refine eS ?_
                | refine eN ?_
                | refine oC (hA) ?_
                | refine eC (hA) ?_
                | refine oX (frz := [1]) (v := .d (.ep [.str r.name, alts r.alts])) Et_ok ?_ (hf := (by first | (simp [inB] <;> fail) | (simp [inB]; omega))) (he := (by first | (simp [List.getD_eq_getElem?_getD, cellsD, hr, encR] <;> fail) | fail))
                | refine eX (v := .d (.ep [.str r.name, alts r.alts])) ?_ (hf := (by first | (simp [inB] <;> fail) | (simp [inB]; omega))) (he := (by first | (simp [List.getD_eq_getElem?_getD, cellsD, hr, encR] <;> fail) | fail))
                | refine oX (frz := [1]) (v := .d (.ep [strs a])) Et_ok ?_ (hf := (by first | (simp [inB] <;> fail) | (simp [inB]; omega))) (he := (by first | (simp [List.getD_eq_getElem?_getD, cellsD, ha] <;> fail) | fail))
                | refine eX (v := .d (.ep [strs a])) ?_ (hf := (by first | (simp [inB] <;> fail) | (simp [inB]; omega))) (he := (by first | (simp [List.getD_eq_getElem?_getD, cellsD, ha] <;> fail) | fail))
                | (refine Run.ret ?_; (first | refine rB ?_ | refine rI ?_ | refine rA ?_ | refine rII ?_ | refine rSI ?_ | refine rT ?_ | refine rS ?_); first | done | (rfl))
                | ((exfalso; (simp at h <;> omega)))
                | fail)
          · have hke : k = r.alts.length := by omega
            rw [hke, List.take_length] at hk2
            subst hke
            have hin := take_all (Q := fun r : SRule => r.name.length ≤ 40 ∧ ∀ a ∈ r.alts, a.length ≤ 8 ∧ ∀ s ∈ a, s.length ≤ 40) hr hi3 ⟨ho2, hk2⟩
            repeat' (first
              | refine Run.region ?_
              | refine Run.seq ?_
              | ((refine oB (frz := [1]) Et_ok (fun h => ?_) (fun h => ?_)) <;> (first | (exfalso; simp at h <;> fail) | (exfalso; simp at h; omega) | skip))
              | ((refine eB (fun h => ?_) (fun h => ?_)) <;> (first | (exfalso; simp at h <;> fail) | (exfalso; simp at h; omega) | skip))
              | refine oX (frz := [1]) Et_ok ?_
              | refine oS ?_
              | refine RunOps.nil ?_
              | refine Run.skip ?_
              | refine cT ?_
              | refine cF ?_
              | refine Run.block ?_
              | refine Run.exit ?_
              | refine Run.draw (frz := [1]) Et_ok (by kernel_rfl) ?_
              | refine eX ?_
              | refine eS ?_
              | refine eN ?_
              | refine oX (frz := [1]) (v := .d (.ep [.str r.name, alts r.alts])) Et_ok ?_ (hf := (by first | (simp [inB] <;> fail) | (simp [inB]; omega))) (he := (by first | (simp [List.getD_eq_getElem?_getD, cellsD, hr, encR] <;> fail) | fail))
              | refine eX (v := .d (.ep [.str r.name, alts r.alts])) ?_ (hf := (by first | (simp [inB] <;> fail) | (simp [inB]; omega))) (he := (by first | (simp [List.getD_eq_getElem?_getD, cellsD, hr, encR] <;> fail) | fail))
              | (refine Run.ret ?_; (first | refine rB ?_ | refine rI ?_ | refine rA ?_ | refine rII ?_ | refine rSI ?_ | refine rT ?_ | refine rS ?_); first | done | (skip))
              | (exact ⟨i + 1, ⟨by omega, ho1, hin⟩, by omega, weak_of (by repeat' (first | exact trivial | refine ⟨rfl, ?_⟩ | refine ⟨(inc_get (k := i) (by kernel_rfl) (by omega)), ?_⟩))⟩)
              | ((exfalso; (simp at h <;> omega)))
              | fail)
        · repeat' (first
            | refine oX (frz := [1]) (v := .d (.int .i64 (sumTo x (i + 1) : Nat))) Et_ok ?_ (he := (hsum))
            | refine eX (v := .d (.int .i64 (sumTo x (i + 1) : Nat))) ?_ (he := (hsum))
            | refine Run.region ?_
            | refine Run.seq ?_
            | ((refine oB (frz := [1]) Et_ok (fun h => ?_) (fun h => ?_)) <;> (first | (exfalso; simp at h <;> fail) | (exfalso; simp at h; omega) | skip))
            | ((refine eB (fun h => ?_) (fun h => ?_)) <;> (first | (exfalso; simp at h <;> fail) | (exfalso; simp at h; omega) | skip))
            | refine oX (frz := [1]) Et_ok ?_
            | refine oS ?_
            | refine RunOps.nil ?_
            | refine Run.skip ?_
            | refine cT ?_
            | refine cF ?_
            | refine Run.block ?_
            | refine Run.exit ?_
            | refine Run.draw (frz := [1]) Et_ok (by kernel_rfl) ?_
            | refine eX ?_
            | refine eS ?_
            | refine eN ?_
            | refine oC (hA) ?_
            | refine eC (hA) ?_
            | refine oX (frz := [1]) (v := .d (.ep [.str r.name, alts r.alts])) Et_ok ?_ (hf := (by first | (simp [inB] <;> fail) | (simp [inB]; omega))) (he := (by first | (simp [List.getD_eq_getElem?_getD, cellsD, hr, encR] <;> fail) | fail))
            | refine eX (v := .d (.ep [.str r.name, alts r.alts])) ?_ (hf := (by first | (simp [inB] <;> fail) | (simp [inB]; omega))) (he := (by first | (simp [List.getD_eq_getElem?_getD, cellsD, hr, encR] <;> fail) | fail))
            | (refine Run.ret ?_; (first | refine rB ?_ | refine rI ?_ | refine rA ?_ | refine rII ?_ | refine rSI ?_ | refine rT ?_ | refine rS ?_); first | done | (rfl))
            | ((exfalso; (simp at h <;> omega)))
            | fail)
          all_goals (exfalso; simp only [List.length_map, decide_eq_false_iff_not, decide_eq_true_eq] at *; omega)
      · have hie : i = x.rules.length := by omega
        subst hie
        rw [List.take_length] at hi3
        have hX : ShortX x := ⟨h1, h2, h3, h4, h5, fun r hr => (hi3 r hr).1, hi2, fun r hr => (hi3 r hr).2⟩
        have c1 := grOf x hX.fits hX.inner
        have c2 := refOf x hX.fits
        have c3 := sameSelf (ofRes x) hX.fitsG
        generalize checkX x = c at c1 c2
        generalize ofRes x = g at c1 c2 c3
        repeat' (first
          | refine Run.region ?_
          | refine Run.seq ?_
          | ((refine oB (frz := [1]) Et_ok (fun h => ?_) (fun h => ?_)) <;> (first | (exfalso; simp at h <;> fail) | (exfalso; simp at h; omega) | skip))
          | ((refine eB (fun h => ?_) (fun h => ?_)) <;> (first | (exfalso; simp at h <;> fail) | (exfalso; simp at h; omega) | skip))
          | refine oX (frz := [1]) Et_ok ?_
          | refine oS ?_
          | refine RunOps.nil ?_
          | refine Run.skip ?_
          | refine cT ?_
          | refine cF ?_
          | refine Run.block ?_
          | refine Run.exit ?_
          | refine Run.draw (frz := [1]) Et_ok (by kernel_rfl) ?_
          | refine eX ?_
          | refine eS ?_
          | refine eN ?_
          | refine oC (hA) ?_
          | refine eC (hA) ?_
          | refine oC (c1) ?_
          | refine eC (c1) ?_
          | refine oC (c2) ?_
          | refine eC (c2) ?_
          | refine oC (c3) ?_
          | refine eC (c3) ?_
          | (refine Run.ret ?_; (first | refine rB ?_ | refine rI ?_ | refine rA ?_ | refine rII ?_ | refine rSI ?_ | refine rT ?_ | refine rS ?_); first | done | (rfl))
          | ((exfalso; (simp at h <;> omega)))
          | fail)
  · refine knownE Et_ok (fnAt Try.func6 (by kernel_rfl) (by kernel_rfl) : FnAt _ _ (mkFn Try.f6 [1])) ?_
    by_cases ht : x.tokens.length ≤ 10
    · have hs1 := short x.tokens 40 (by omega)
      generalize (x.tokens.all fun s => decide (s.length ≤ 40)) = b at hs1
      cases b
      · repeat' (first
          | refine Run.region ?_
          | refine Run.seq ?_
          | ((refine oB (frz := [1]) Et_ok (fun h => ?_) (fun h => ?_)) <;> (first | (exfalso; simp at h <;> fail) | (exfalso; simp at h; omega) | skip))
          | ((refine eB (fun h => ?_) (fun h => ?_)) <;> (first | (exfalso; simp at h <;> fail) | (exfalso; simp at h; omega) | skip))
          | refine oX (frz := [1]) Et_ok ?_
          | refine oS ?_
          | refine RunOps.nil ?_
          | refine Run.skip ?_
          | refine cT ?_
          | refine cF ?_
          | refine Run.block ?_
          | refine Run.exit ?_
          | refine Run.draw (frz := [1]) Et_ok (by kernel_rfl) ?_
          | refine eX ?_
          | refine eS ?_
          | refine eN ?_
          | refine oC (hA) ?_
          | refine eC (hA) ?_
          | refine oC (hs1) ?_
          | refine eC (hs1) ?_
          | (refine Run.ret ?_; (first | refine rB ?_ | refine rI ?_ | refine rA ?_ | refine rII ?_ | refine rSI ?_ | refine rT ?_ | refine rS ?_); first | done | (rfl))
          | ((exfalso; (simp at h <;> omega)))
          | fail)
      · repeat' (first
          | refine Run.region ?_
          | refine Run.seq ?_
          | ((refine oB (frz := [1]) Et_ok (fun h => ?_) (fun h => ?_)) <;> (first | (exfalso; simp at h <;> fail) | (exfalso; simp at h; omega) | skip))
          | ((refine eB (fun h => ?_) (fun h => ?_)) <;> (first | (exfalso; simp at h <;> fail) | (exfalso; simp at h; omega) | skip))
          | refine oX (frz := [1]) Et_ok ?_
          | refine oS ?_
          | refine RunOps.nil ?_
          | refine Run.skip ?_
          | refine cT ?_
          | refine cF ?_
          | refine Run.block ?_
          | refine Run.exit ?_
          | refine Run.draw (frz := [1]) Et_ok (by kernel_rfl) ?_
          | refine eX ?_
          | refine eS ?_
          | refine eN ?_
          | refine oC (hA) ?_
          | refine eC (hA) ?_
          | refine oC (hs1) ?_
          | refine eC (hs1) ?_
          | (refine Run.ret ?_; (first | refine rB ?_ | refine rI ?_ | refine rA ?_ | refine rII ?_ | refine rSI ?_ | refine rT ?_ | refine rS ?_); first | done | (rfl))
          | ((exfalso; (simp at h <;> omega)))
          | fail)
        all_goals (exfalso; simp only [List.length_map, decide_eq_false_iff_not, decide_eq_true_eq] at *; omega)
    · repeat' (first
        | refine Run.region ?_
        | refine Run.seq ?_
        | ((refine oB (frz := [1]) Et_ok (fun h => ?_) (fun h => ?_)) <;> (first | (exfalso; simp at h <;> fail) | (exfalso; simp at h; omega) | skip))
        | ((refine eB (fun h => ?_) (fun h => ?_)) <;> (first | (exfalso; simp at h <;> fail) | (exfalso; simp at h; omega) | skip))
        | refine oX (frz := [1]) Et_ok ?_
        | refine oS ?_
        | refine RunOps.nil ?_
        | refine Run.skip ?_
        | refine cT ?_
        | refine cF ?_
        | refine Run.block ?_
        | refine Run.exit ?_
        | refine Run.draw (frz := [1]) Et_ok (by kernel_rfl) ?_
        | refine eX ?_
        | refine eS ?_
        | refine eN ?_
        | refine oC (hA) ?_
        | refine eC (hA) ?_
        | (refine Run.ret ?_; (first | refine rB ?_ | refine rI ?_ | refine rA ?_ | refine rII ?_ | refine rSI ?_ | refine rT ?_ | refine rS ?_); first | done | (rfl))
        | ((exfalso; (simp at h <;> omega)))
        | fail)
theorem lawOfA (x : Src) (w : SrcW reachBytes x) : KnownCall Try.prog 6 [encX x] (.d (.bool true)) := lawOf x fun r hr => (w.rules.2 r hr).alts.1.2
end Go.Av
end

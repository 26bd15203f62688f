/-
  Parts of the way to the law, joined: rules for code over data, and what the functions return. Conditions stand at each.
-/
import Derived.Test.YtchoocpngfhkpaaM3
import Derived.Test.YtchoocpngfhkpaaM2
noncomputable section
namespace Go.Av
open Go Go.Proofs
set_option maxRecDepth 10000
theorem first_or (P : Nat → Bool) : ∀ N : Nat, ∃ n, n ≤ N ∧ (∀ k, k < n → P k = false) ∧ (n = N ∨ (n < N ∧ P n = true))
  | 0 => ⟨0, Nat.le_refl _, fun k hk => by omega, .inl rfl⟩
  | N + 1 => by
    obtain ⟨n, h1, h2, h3⟩ := first_or P N
    rcases h3 with rfl | ⟨h3, h4⟩
    · cases hp : P n with
      | true => exact ⟨n, by omega, h2, .inr ⟨by omega, hp⟩⟩
      | false => exact ⟨n + 1, by omega, all_succ h2 hp, .inl rfl⟩
    · exact ⟨n, by omega, h2, .inr ⟨by omega, h4⟩⟩
open Classical in
def ordBad (g : Gram) (k : Nat) : Bool := decide (0 < k ∧ ∃ p q, g.prods[k - 1]? = some p ∧ g.prods[k]? = some q ∧ q.left < p.left)
open Classical in
theorem ordBad_iff (g : Gram) (k : Nat) : ordBad g k = true ↔ (0 < k ∧ ∃ p q, g.prods[k - 1]? = some p ∧ g.prods[k]? = some q ∧ q.left < p.left) := by unfold ordBad; exact decide_eq_true_iff
open Classical in
def orderedG (g : Gram) : Int := if orderBad g then 9 else 0
theorem ordered (g : Gram) (hf : Fits g) : KnownCall Try.prog 47 [encG g] (.d (.int .i64 (orderedG g))) := by
  have hfp := hf.prods
  refine knownE Et_ok (fnAt Try.func47 (by kernel_rfl) (by kernel_rfl) : FnAt _ _ (mkFn Try.f47 [1])) ?_
  repeat' (first
    | refine Run.region ?_
    | refine Run.seq ?_
    | ((refine oB (frz := [1]) Et_ok (fun h => ?_) (fun h => ?_)) <;> (first | (exfalso; simp at h <;> fail) | (exfalso; simp at h; omega) | skip))
    | ((refine eB (fun h => ?_) (fun h => ?_)) <;> (first | (exfalso; simp at h <;> fail) | (exfalso; simp at h; omega) | skip))
    | refine oX (frz := [1]) Et_ok ?_
    | refine oS ?_
    | refine RunOps.nil ?_
    | refine Run.skip ?_
    | refine cT ?_
    | refine cF ?_
    | refine Run.block ?_
    | refine Run.exit ?_
    | refine Run.draw (frz := [1]) Et_ok (by kernel_rfl) ?_
    | refine eX ?_
    | refine eS ?_
    | refine eN ?_
    | ((refine oK (prodsOf g) (fun h => ?_) (fun h => ?_)) <;> (first | (exfalso; simp at h <;> fail) | (exfalso; simp at h; omega) | skip))
    | refine oC (prodsOf g) ?_
    | ((refine eK (prodsOf g) (fun h => ?_) (fun h => ?_)) <;> (first | (exfalso; simp at h <;> fail) | (exfalso; simp at h; omega) | skip))
    | refine eC (prodsOf g) ?_
    | (refine Run.ret ?_; (first | refine rB ?_ | refine rI ?_ | refine rA ?_ | refine rII ?_ | refine rSI ?_ | refine rT ?_ | refine rS ?_); first | done | (skip))
    | fail)
  obtain ⟨n, hidx, hbefore, hcase⟩ := first_or (ordBad g) g.prods.length
  refine Run.rangeProds (frz := [1]) 1 (fun _ => [.box [.d (.int .i64 0)]]) g.prods (Nat.le_trans hf.prods (by decide)) (by rfl) (fun _ => rfl) (fun _ => rfl) (by kernel_rfl) n hidx (fun k p hk hp => ?_) ?_
  · have hgood := hbefore k hk
    have hkl := (List.getElem?_eq_some_iff.1 hp).1
    rcases k with _ | k
    · refine ayield_of_run (i := 2) (by rfl) (by rfl) (by rfl) ?_
      repeat (first
        | refine oX (frz := [1]) Et_ok ?_
        | refine oS ?_
        | refine RunOps.nil ?_
        | refine Run.region ?_
        | refine Run.seq ?_
        | refine Run.skip ?_
        | refine Run.block ?_
        | refine Run.exit ?_
        | refine Run.draw (frz := [1]) Et_ok (by kernel_rfl) ?_
        | refine eX ?_
        | refine eS ?_
        | refine eN ?_)
      refine ⟨rfl, _, _, _, _, _, _, _, by rfl, ?_⟩
      refine Run.less ?_
      repeat' (first
        | refine Run.region ?_
        | refine Run.seq ?_
        | ((refine oB (frz := [1]) Et_ok (fun h => ?_) (fun h => ?_)) <;> (first | (exfalso; simp at h <;> fail) | (exfalso; simp at h; omega) | skip))
        | ((refine eB (fun h => ?_) (fun h => ?_)) <;> (first | (exfalso; simp at h <;> fail) | (exfalso; simp at h; omega) | skip))
        | refine oX (frz := [1]) Et_ok ?_
        | refine oS ?_
        | refine RunOps.nil ?_
        | refine Run.skip ?_
        | refine cT ?_
        | refine cF ?_
        | refine Run.block ?_
        | refine Run.exit ?_
        | refine Run.draw (frz := [1]) Et_ok (by kernel_rfl) ?_
        | refine eX ?_
        | refine eS ?_
        | refine eN ?_
        | (exact ⟨rfl, _, less_of [] 3 rfl (by rfl) trivial trivial (by kernel_rfl) rfl, _, _, _, _, _, _, _, _, by rfl, rfl, by rfl⟩)
        | fail)
    · obtain ⟨q, hq⟩ := get_ok (show k < g.prods.length by omega)
      have hno : ¬ p.left < q.left := fun h => by
        have : ordBad g (k + 1) = true := (ordBad_iff _ _).2 ⟨Nat.succ_pos _, q, p, hq, hp, h⟩
        rw [this] at hgood; cases hgood
      have hw : IntKind.i64.wrap (((k + 1 : Nat) : Int) - 1) = (k : Nat) := by rw [wrap64 (by omega) (by omega)]; omega
      refine ayield_of_run (i := 2) (by rfl) (by rfl) (by rfl) ?_
      repeat (first
        | refine oX (frz := [1]) Et_ok ?_
        | refine oS ?_
        | refine RunOps.nil ?_
        | refine Run.region ?_
        | refine Run.seq ?_
        | refine Run.skip ?_
        | refine Run.block ?_
        | refine Run.exit ?_
        | refine Run.draw (frz := [1]) Et_ok (by kernel_rfl) ?_
        | refine eX ?_
        | refine eS ?_
        | refine eN ?_)
      refine ⟨rfl, _, _, _, _, _, _, _, by rfl, ?_⟩
      refine Run.less ?_
      repeat' (first
        | refine oX (frz := [1]) (v := .d (.int .i64 (k : Nat))) Et_ok ?_ (he := (congrArg (fun n => AV.d (.int .i64 n)) hw))
        | refine eX (v := .d (.int .i64 (k : Nat))) ?_ (he := (congrArg (fun n => AV.d (.int .i64 n)) hw))
        | refine Run.region ?_
        | refine Run.seq ?_
        | ((refine oB (frz := [1]) Et_ok (fun h => ?_) (fun h => ?_)) <;> (first | (exfalso; simp at h <;> fail) | (exfalso; simp at h; omega) | skip))
        | ((refine eB (fun h => ?_) (fun h => ?_)) <;> (first | (exfalso; simp at h <;> fail) | (exfalso; simp at h; omega) | skip))
        | refine oX (frz := [1]) Et_ok ?_
        | refine oS ?_
        | refine RunOps.nil ?_
        | refine Run.skip ?_
        | refine cT ?_
        | refine cF ?_
        | refine Run.block ?_
        | refine Run.exit ?_
        | refine Run.draw (frz := [1]) Et_ok (by kernel_rfl) ?_
        | refine eX ?_
        | refine eS ?_
        | refine eN ?_
        | refine oX (frz := [1]) (v := .d (.ep [.int .i64 q.left, ints q.right])) Et_ok ?_ (hf := (by first | (simp [inB] <;> fail) | (simp [inB]; omega))) (he := (by first | (simp [List.getD_eq_getElem?_getD, cellsD, hq, encP] <;> fail) | fail))
        | refine eX (v := .d (.ep [.int .i64 q.left, ints q.right])) ?_ (hf := (by first | (simp [inB] <;> fail) | (simp [inB]; omega))) (he := (by first | (simp [List.getD_eq_getElem?_getD, cellsD, hq, encP] <;> fail) | fail))
        | (exact ⟨rfl, _, less_of [] 3 rfl (by rfl) trivial trivial (by kernel_rfl) rfl, _, _, _, _, _, _, _, _, by rfl, rfl, by rfl⟩)
        | ((exfalso; first | (simp_all <;> fail) | (simp_all; omega)))
        | fail)
  · rcases hcase with hge | ⟨hlt, hbad⟩
    · have e : orderedG g = 0 := by
        unfold orderedG
        rw [if_neg]
        rintro ⟨i, p, q, h1, h2, h3⟩
        have hi := (List.getElem?_eq_some_iff.1 h2).1
        have := hbefore (i + 1) (by omega)
        rw [show ordBad g (i + 1) = true from (ordBad_iff _ _).2 ⟨Nat.succ_pos _, p, q, h1, h2, h3⟩] at this
        cases this
      rw [e]
      refine .inl ⟨hge, ?_⟩
      repeat' (first
        | refine Run.region ?_
        | refine Run.seq ?_
        | ((refine oB (frz := [1]) Et_ok (fun h => ?_) (fun h => ?_)) <;> (first | (exfalso; simp at h <;> fail) | (exfalso; simp at h; omega) | skip))
        | ((refine eB (fun h => ?_) (fun h => ?_)) <;> (first | (exfalso; simp at h <;> fail) | (exfalso; simp at h; omega) | skip))
        | refine oX (frz := [1]) Et_ok ?_
        | refine oS ?_
        | refine RunOps.nil ?_
        | refine Run.skip ?_
        | refine cT ?_
        | refine cF ?_
        | refine Run.block ?_
        | refine Run.exit ?_
        | refine Run.draw (frz := [1]) Et_ok (by kernel_rfl) ?_
        | refine eX ?_
        | refine eS ?_
        | refine eN ?_
        | (refine Run.ret ?_; (first | refine rB ?_ | refine rI ?_ | refine rA ?_ | refine rII ?_ | refine rSI ?_ | refine rT ?_ | refine rS ?_); first | done | (rfl))
        | fail)
    · have hb := (ordBad_iff _ _).1 hbad
      obtain ⟨hn0, q, p, hq, hp, hlt2⟩ := hb
      rcases n with _ | k
      · omega
      · have hq : g.prods[k]? = some q := hq
        have e : orderedG g = 9 := by unfold orderedG; rw [if_pos ⟨k, q, p, hq, hp, hlt2⟩]
        rw [e]
        have hkl := (List.getElem?_eq_some_iff.1 hp).1
        have hw : IntKind.i64.wrap (((k + 1 : Nat) : Int) - 1) = (k : Nat) := by rw [wrap64 (by omega) (by omega)]; omega
        refine .inr ⟨p, [.box [.d (.int .i64 9)]], hp, rfl, .inl ⟨?_, ?_⟩⟩
        · refine ayield_of_run (i := 2) (by rfl) (by rfl) (by rfl) ?_
          repeat (first
            | refine oX (frz := [1]) Et_ok ?_
            | refine oS ?_
            | refine RunOps.nil ?_
            | refine Run.region ?_
            | refine Run.seq ?_
            | refine Run.skip ?_
            | refine Run.block ?_
            | refine Run.exit ?_
            | refine Run.draw (frz := [1]) Et_ok (by kernel_rfl) ?_
            | refine eX ?_
            | refine eS ?_
            | refine eN ?_)
          refine ⟨rfl, _, _, _, _, _, _, _, by rfl, ?_⟩
          refine Run.less ?_
          repeat' (first
            | refine oX (frz := [1]) (v := .d (.int .i64 (k : Nat))) Et_ok ?_ (he := (congrArg (fun n => AV.d (.int .i64 n)) hw))
            | refine eX (v := .d (.int .i64 (k : Nat))) ?_ (he := (congrArg (fun n => AV.d (.int .i64 n)) hw))
            | refine Run.region ?_
            | refine Run.seq ?_
            | ((refine oB (frz := [1]) Et_ok (fun h => ?_) (fun h => ?_)) <;> (first | (exfalso; simp at h <;> fail) | (exfalso; simp at h; omega) | skip))
            | ((refine eB (fun h => ?_) (fun h => ?_)) <;> (first | (exfalso; simp at h <;> fail) | (exfalso; simp at h; omega) | skip))
            | refine oX (frz := [1]) Et_ok ?_
            | refine oS ?_
            | refine RunOps.nil ?_
            | refine Run.skip ?_
            | refine cT ?_
            | refine cF ?_
            | refine Run.block ?_
            | refine Run.exit ?_
            | refine Run.draw (frz := [1]) Et_ok (by kernel_rfl) ?_
            | refine eX ?_
            | refine eS ?_
            | refine eN ?_
            | refine oX (frz := [1]) (v := .d (.ep [.int .i64 q.left, ints q.right])) Et_ok ?_ (hf := (by first | (simp [inB] <;> fail) | (simp [inB]; omega))) (he := (by first | (simp [List.getD_eq_getElem?_getD, cellsD, hq, encP] <;> fail) | fail))
            | refine eX (v := .d (.ep [.int .i64 q.left, ints q.right])) ?_ (hf := (by first | (simp [inB] <;> fail) | (simp [inB]; omega))) (he := (by first | (simp [List.getD_eq_getElem?_getD, cellsD, hq, encP] <;> fail) | fail))
            | ((refine Run.ret ?_; exact ⟨rfl, _, less_of [] 3 rfl (by rfl) trivial trivial (by kernel_rfl) rfl, _, _, _, _, _, _, _, _, by rfl, rfl, by rfl⟩))
            | ((exfalso; first | (simp_all <;> fail) | (simp_all; omega)))
            | fail)
        · refine ⟨trivial, _, _, by rfl, by rfl, Eq.trans (b := some (.d (.int .i64 9))) (by kernel_rfl) ?_⟩
          rfl
def checks (g : Gram) : List Int := [manyF g, namedG g, diffF g, symsG g, orderedG g, completeF g]
def firstErr : List Int → Int
  | [] => 0
  | e :: r => if e = 0 then firstErr r else e
def checkG (g : Gram) : Int := if g.k < 1 ∨ 4 < g.k then 2 else firstErr (checks g)
theorem firstErr_at : ∀ {l : List Int} {i : Nat} {e : Int}, l[i]? = some e → e ≠ 0 → (∀ j, j < i → l[j]? = some 0) → firstErr l = e
  | [], i, e, h, _, _ => by simp at h
  | a :: r, 0, e, h, he, _ => by simp at h; subst h; simp [firstErr, he]
  | a :: r, i + 1, e, h, he, hb => by
    have ha : a = 0 := by have := hb 0 (by omega); simpa using this
    subst ha
    simp only [firstErr, if_true]
    exact firstErr_at (i := i) (by simpa using h) he (fun j hj => by have := hb (j + 1) (by omega); simpa using this)
theorem firstErr_none : ∀ {l : List Int}, (∀ j, j < l.length → l[j]? = some 0) → firstErr l = 0
  | [], _ => rfl
  | a :: r, hb => by
    have ha : a = 0 := by have := hb 0 (by simp); simpa using this
    subst ha
    simp only [firstErr, if_true]
    exact firstErr_none (fun j hj => by have := hb (j + 1) (by simpa using hj); simpa using this)
abbrev looksD : List DV := [.fn (.func 43) [] [], .fn (.func 44) [] [], .fn (.func 45) [] [], .fn (.func 46) [] [], .fn (.func 47) [] [], .fn (.func 48) [] []]
theorem checkGr (g : Gram) (hf : Fits g) : KnownCall Try.prog 23 [encG g] (.d (.int .i64 (checkG g))) := by
  by_cases hk : g.k < 1 ∨ 4 < g.k
  · have e : checkG g = 2 := if_pos hk
    rw [e]
    refine knownE Et_ok (fnAt Try.func23 (by kernel_rfl) (by kernel_rfl) : FnAt _ _ (mkFn Try.f23 [1, 13, 200001])) ?_
    refine Run.seq ?_
    repeat' (first
      | refine Run.region ?_
      | refine Run.seq ?_
      | ((refine oB (frz := [1, 13, 200001]) Et_ok (fun h => ?_) (fun h => ?_)) <;> (first | (exfalso; simp at h <;> fail) | (exfalso; simp at h; omega) | skip))
      | ((refine eB (fun h => ?_) (fun h => ?_)) <;> (first | (exfalso; simp at h <;> fail) | (exfalso; simp at h; omega) | skip))
      | refine oX (frz := [1, 13, 200001]) Et_ok ?_
      | refine oS ?_
      | refine RunOps.nil ?_
      | refine Run.skip ?_
      | refine cT ?_
      | refine cF ?_
      | refine Run.block ?_
      | refine Run.exit ?_
      | refine Run.draw (frz := [1, 13, 200001]) Et_ok (by kernel_rfl) ?_
      | refine eX ?_
      | refine eS ?_
      | refine eN ?_
      | (refine Run.ret ?_; (first | refine rB ?_ | refine rI ?_ | refine rA ?_ | refine rII ?_ | refine rSI ?_ | refine rT ?_ | refine rS ?_); first | done | (skip))
      | fail)
    refine Run.scope ?_
    repeat' (first
      | refine Run.region ?_
      | refine Run.seq ?_
      | ((refine oB (frz := [1, 13, 200001]) Et_ok (fun h => ?_) (fun h => ?_)) <;> (first | (exfalso; simp at h <;> fail) | (exfalso; simp at h; omega) | skip))
      | ((refine eB (fun h => ?_) (fun h => ?_)) <;> (first | (exfalso; simp at h <;> fail) | (exfalso; simp at h; omega) | skip))
      | refine oX (frz := [1, 13, 200001]) Et_ok ?_
      | refine oS ?_
      | refine RunOps.nil ?_
      | refine Run.skip ?_
      | refine cT ?_
      | refine cF ?_
      | refine Run.block ?_
      | refine Run.exit ?_
      | refine Run.draw (frz := [1, 13, 200001]) Et_ok (by kernel_rfl) ?_
      | refine eX ?_
      | refine eS ?_
      | refine eN ?_
      | (refine Run.ret ?_; (first | refine rB ?_ | refine rI ?_ | refine rA ?_ | refine rII ?_ | refine rSI ?_ | refine rT ?_ | refine rS ?_); first | done | (rfl))
      | ((exfalso; first | (simp_all <;> fail) | (simp_all; omega)))
      | fail)
  · have e : checkG g = firstErr (checks g) := if_neg hk
    rw [e]
    rw [not_or] at hk
    refine knownE Et_ok (fnAt Try.func23 (by kernel_rfl) (by kernel_rfl) : FnAt _ _ (mkFn Try.f23 [1, 13, 200001])) ?_
    repeat' (first
      | refine Run.region ?_
      | refine Run.seq ?_
      | ((refine oB (frz := [1, 13, 200001]) Et_ok (fun h => ?_) (fun h => ?_)) <;> (first | (exfalso; simp at h <;> fail) | (exfalso; simp at h; omega) | skip))
      | ((refine eB (fun h => ?_) (fun h => ?_)) <;> (first | (exfalso; simp at h <;> fail) | (exfalso; simp at h; omega) | skip))
      | refine oX (frz := [1, 13, 200001]) Et_ok ?_
      | refine oS ?_
      | refine RunOps.nil ?_
      | refine Run.skip ?_
      | refine cT ?_
      | refine cF ?_
      | refine Run.block ?_
      | refine Run.exit ?_
      | refine Run.draw (frz := [1, 13, 200001]) Et_ok (by kernel_rfl) ?_
      | refine eX ?_
      | refine eS ?_
      | refine eN ?_
      | (refine Run.ret ?_; (first | refine rB ?_ | refine rI ?_ | refine rA ?_ | refine rII ?_ | refine rSI ?_ | refine rT ?_ | refine rS ?_); first | done | (skip))
      | fail)
    refine Run.scope ?_
    repeat' (first
      | refine Run.region ?_
      | refine Run.seq ?_
      | ((refine oB (frz := [1, 13, 200001]) Et_ok (fun h => ?_) (fun h => ?_)) <;> (first | (exfalso; simp at h <;> fail) | (exfalso; simp at h; omega) | skip))
      | ((refine eB (fun h => ?_) (fun h => ?_)) <;> (first | (exfalso; simp at h <;> fail) | (exfalso; simp at h; omega) | skip))
      | refine oX (frz := [1, 13, 200001]) Et_ok ?_
      | refine oS ?_
      | refine RunOps.nil ?_
      | refine Run.skip ?_
      | refine cT ?_
      | refine cF ?_
      | refine Run.block ?_
      | refine Run.exit ?_
      | refine Run.draw (frz := [1, 13, 200001]) Et_ok (by kernel_rfl) ?_
      | refine eX ?_
      | refine eS ?_
      | refine eN ?_
      | refine Run.label ?_
      | (refine Run.ret ?_; (first | refine rB ?_ | refine rI ?_ | refine rA ?_ | refine rII ?_ | refine rSI ?_ | refine rT ?_ | refine rS ?_); first | done | (skip))
      | ((exfalso; first | (simp_all <;> fail) | (simp_all; omega)))
      | fail)
    refine Run.loop (fun i : Nat => ⟨PT.ofList [(1, (.d (.ep [.int .i64 g.k, strs g.tokens, .str g.sep, strs g.names, .int .i64 g.start, .sl 2 (g.prods.map encP)]))), (2, .d (.int .i64 0)), (13, .d (.sl 1 looksD)), (14, .d (.int .i64 6)), (15, .d (.int .i64 i))], [], []⟩) (fun i => i ≤ 6 ∧ ∀ j, j < i → (checks g)[j]? = some 0) (fun i => 6 - i) 0 ⟨Nat.zero_le _, fun j hj => by omega⟩ (weak_of (by repeat' (first | exact trivial | refine ⟨rfl, ?_⟩))) (fun i hi => ?_)
    obtain ⟨hi1, hi2⟩ := hi
    have hcs : i = 0 ∨ i = 1 ∨ i = 2 ∨ i = 3 ∨ i = 4 ∨ i = 5 ∨ i = 6 := by omega
    rcases hcs with h | h | h | h | h | h | h <;> subst h
    · have hc := many g hf
      by_cases he : manyF g = 0
      · have hnext : (checks g)[0]? = some 0 := by rw [← he]; rfl
        rw [he] at hc
        repeat' (first
          | refine Run.region ?_
          | refine Run.seq ?_
          | ((refine oB (frz := [1, 13, 200001]) Et_ok (fun h => ?_) (fun h => ?_)) <;> (first | (exfalso; simp at h <;> fail) | (exfalso; simp at h; omega) | skip))
          | ((refine eB (fun h => ?_) (fun h => ?_)) <;> (first | (exfalso; simp at h <;> fail) | (exfalso; simp at h; omega) | skip))
          | refine oX (frz := [1, 13, 200001]) Et_ok ?_
          | refine oS ?_
          | refine RunOps.nil ?_
          | refine Run.skip ?_
          | refine cT ?_
          | refine cF ?_
          | refine Run.block ?_
          | refine Run.exit ?_
          | refine Run.draw (frz := [1, 13, 200001]) Et_ok (by kernel_rfl) ?_
          | refine eX ?_
          | refine eS ?_
          | refine eN ?_
          | refine oC (hc) ?_
          | refine eC (hc) ?_
          | (refine Run.ret ?_; (first | refine rB ?_ | refine rI ?_ | refine rA ?_ | refine rII ?_ | refine rSI ?_ | refine rT ?_ | refine rS ?_); first | done | (skip))
          | (exact ⟨1, ⟨by omega, all_succ hi2 hnext⟩, by omega, weak_of (by repeat' (first | exact trivial | refine ⟨rfl, ?_⟩))⟩)
          | fail)
      · repeat' (first
          | refine Run.region ?_
          | refine Run.seq ?_
          | ((refine oB (frz := [1, 13, 200001]) Et_ok (fun h => ?_) (fun h => ?_)) <;> (first | (exfalso; simp at h <;> fail) | (exfalso; simp at h; omega) | skip))
          | ((refine eB (fun h => ?_) (fun h => ?_)) <;> (first | (exfalso; simp at h <;> fail) | (exfalso; simp at h; omega) | skip))
          | refine oX (frz := [1, 13, 200001]) Et_ok ?_
          | refine oS ?_
          | refine RunOps.nil ?_
          | refine Run.skip ?_
          | refine cT ?_
          | refine cF ?_
          | refine Run.block ?_
          | refine Run.exit ?_
          | refine Run.draw (frz := [1, 13, 200001]) Et_ok (by kernel_rfl) ?_
          | refine eX ?_
          | refine eS ?_
          | refine eN ?_
          | refine oC (hc) ?_
          | refine eC (hc) ?_
          | (refine Run.ret ?_; (first | refine rB ?_ | refine rI ?_ | refine rA ?_ | refine rII ?_ | refine rSI ?_ | refine rT ?_ | refine rS ?_); first | done | (rw [firstErr_at (i := 0) (show (checks g)[0]? = some (manyF g) from rfl) he hi2]))
          | ((exfalso; (simp_all <;> fail)))
          | fail)
    · have hc := named g hf
      by_cases he : namedG g = 0
      · have hnext : (checks g)[1]? = some 0 := by rw [← he]; rfl
        rw [he] at hc
        repeat' (first
          | refine Run.region ?_
          | refine Run.seq ?_
          | ((refine oB (frz := [1, 13, 200001]) Et_ok (fun h => ?_) (fun h => ?_)) <;> (first | (exfalso; simp at h <;> fail) | (exfalso; simp at h; omega) | skip))
          | ((refine eB (fun h => ?_) (fun h => ?_)) <;> (first | (exfalso; simp at h <;> fail) | (exfalso; simp at h; omega) | skip))
          | refine oX (frz := [1, 13, 200001]) Et_ok ?_
          | refine oS ?_
          | refine RunOps.nil ?_
          | refine Run.skip ?_
          | refine cT ?_
          | refine cF ?_
          | refine Run.block ?_
          | refine Run.exit ?_
          | refine Run.draw (frz := [1, 13, 200001]) Et_ok (by kernel_rfl) ?_
          | refine eX ?_
          | refine eS ?_
          | refine eN ?_
          | refine oC (hc) ?_
          | refine eC (hc) ?_
          | (refine Run.ret ?_; (first | refine rB ?_ | refine rI ?_ | refine rA ?_ | refine rII ?_ | refine rSI ?_ | refine rT ?_ | refine rS ?_); first | done | (skip))
          | (exact ⟨2, ⟨by omega, all_succ hi2 hnext⟩, by omega, weak_of (by repeat' (first | exact trivial | refine ⟨rfl, ?_⟩))⟩)
          | fail)
      · repeat' (first
          | refine Run.region ?_
          | refine Run.seq ?_
          | ((refine oB (frz := [1, 13, 200001]) Et_ok (fun h => ?_) (fun h => ?_)) <;> (first | (exfalso; simp at h <;> fail) | (exfalso; simp at h; omega) | skip))
          | ((refine eB (fun h => ?_) (fun h => ?_)) <;> (first | (exfalso; simp at h <;> fail) | (exfalso; simp at h; omega) | skip))
          | refine oX (frz := [1, 13, 200001]) Et_ok ?_
          | refine oS ?_
          | refine RunOps.nil ?_
          | refine Run.skip ?_
          | refine cT ?_
          | refine cF ?_
          | refine Run.block ?_
          | refine Run.exit ?_
          | refine Run.draw (frz := [1, 13, 200001]) Et_ok (by kernel_rfl) ?_
          | refine eX ?_
          | refine eS ?_
          | refine eN ?_
          | refine oC (hc) ?_
          | refine eC (hc) ?_
          | (refine Run.ret ?_; (first | refine rB ?_ | refine rI ?_ | refine rA ?_ | refine rII ?_ | refine rSI ?_ | refine rT ?_ | refine rS ?_); first | done | (rw [firstErr_at (i := 1) (show (checks g)[1]? = some (namedG g) from rfl) he hi2]))
          | ((exfalso; (simp_all <;> fail)))
          | fail)
    · have hc := different g hf
      by_cases he : diffF g = 0
      · have hnext : (checks g)[2]? = some 0 := by rw [← he]; rfl
        rw [he] at hc
        repeat' (first
          | refine Run.region ?_
          | refine Run.seq ?_
          | ((refine oB (frz := [1, 13, 200001]) Et_ok (fun h => ?_) (fun h => ?_)) <;> (first | (exfalso; simp at h <;> fail) | (exfalso; simp at h; omega) | skip))
          | ((refine eB (fun h => ?_) (fun h => ?_)) <;> (first | (exfalso; simp at h <;> fail) | (exfalso; simp at h; omega) | skip))
          | refine oX (frz := [1, 13, 200001]) Et_ok ?_
          | refine oS ?_
          | refine RunOps.nil ?_
          | refine Run.skip ?_
          | refine cT ?_
          | refine cF ?_
          | refine Run.block ?_
          | refine Run.exit ?_
          | refine Run.draw (frz := [1, 13, 200001]) Et_ok (by kernel_rfl) ?_
          | refine eX ?_
          | refine eS ?_
          | refine eN ?_
          | refine oC (hc) ?_
          | refine eC (hc) ?_
          | (refine Run.ret ?_; (first | refine rB ?_ | refine rI ?_ | refine rA ?_ | refine rII ?_ | refine rSI ?_ | refine rT ?_ | refine rS ?_); first | done | (skip))
          | (exact ⟨3, ⟨by omega, all_succ hi2 hnext⟩, by omega, weak_of (by repeat' (first | exact trivial | refine ⟨rfl, ?_⟩))⟩)
          | fail)
      · repeat' (first
          | refine Run.region ?_
          | refine Run.seq ?_
          | ((refine oB (frz := [1, 13, 200001]) Et_ok (fun h => ?_) (fun h => ?_)) <;> (first | (exfalso; simp at h <;> fail) | (exfalso; simp at h; omega) | skip))
          | ((refine eB (fun h => ?_) (fun h => ?_)) <;> (first | (exfalso; simp at h <;> fail) | (exfalso; simp at h; omega) | skip))
          | refine oX (frz := [1, 13, 200001]) Et_ok ?_
          | refine oS ?_
          | refine RunOps.nil ?_
          | refine Run.skip ?_
          | refine cT ?_
          | refine cF ?_
          | refine Run.block ?_
          | refine Run.exit ?_
          | refine Run.draw (frz := [1, 13, 200001]) Et_ok (by kernel_rfl) ?_
          | refine eX ?_
          | refine eS ?_
          | refine eN ?_
          | refine oC (hc) ?_
          | refine eC (hc) ?_
          | (refine Run.ret ?_; (first | refine rB ?_ | refine rI ?_ | refine rA ?_ | refine rII ?_ | refine rSI ?_ | refine rT ?_ | refine rS ?_); first | done | (rw [firstErr_at (i := 2) (show (checks g)[2]? = some (diffF g) from rfl) he hi2]))
          | ((exfalso; (simp_all <;> fail)))
          | fail)
    · have hc := symbols g hf
      by_cases he : symsG g = 0
      · have hnext : (checks g)[3]? = some 0 := by rw [← he]; rfl
        rw [he] at hc
        repeat' (first
          | refine Run.region ?_
          | refine Run.seq ?_
          | ((refine oB (frz := [1, 13, 200001]) Et_ok (fun h => ?_) (fun h => ?_)) <;> (first | (exfalso; simp at h <;> fail) | (exfalso; simp at h; omega) | skip))
          | ((refine eB (fun h => ?_) (fun h => ?_)) <;> (first | (exfalso; simp at h <;> fail) | (exfalso; simp at h; omega) | skip))
          | refine oX (frz := [1, 13, 200001]) Et_ok ?_
          | refine oS ?_
          | refine RunOps.nil ?_
          | refine Run.skip ?_
          | refine cT ?_
          | refine cF ?_
          | refine Run.block ?_
          | refine Run.exit ?_
          | refine Run.draw (frz := [1, 13, 200001]) Et_ok (by kernel_rfl) ?_
          | refine eX ?_
          | refine eS ?_
          | refine eN ?_
          | refine oC (hc) ?_
          | refine eC (hc) ?_
          | (refine Run.ret ?_; (first | refine rB ?_ | refine rI ?_ | refine rA ?_ | refine rII ?_ | refine rSI ?_ | refine rT ?_ | refine rS ?_); first | done | (skip))
          | (exact ⟨4, ⟨by omega, all_succ hi2 hnext⟩, by omega, weak_of (by repeat' (first | exact trivial | refine ⟨rfl, ?_⟩))⟩)
          | fail)
      · repeat' (first
          | refine Run.region ?_
          | refine Run.seq ?_
          | ((refine oB (frz := [1, 13, 200001]) Et_ok (fun h => ?_) (fun h => ?_)) <;> (first | (exfalso; simp at h <;> fail) | (exfalso; simp at h; omega) | skip))
          | ((refine eB (fun h => ?_) (fun h => ?_)) <;> (first | (exfalso; simp at h <;> fail) | (exfalso; simp at h; omega) | skip))
          | refine oX (frz := [1, 13, 200001]) Et_ok ?_
          | refine oS ?_
          | refine RunOps.nil ?_
          | refine Run.skip ?_
          | refine cT ?_
          | refine cF ?_
          | refine Run.block ?_
          | refine Run.exit ?_
          | refine Run.draw (frz := [1, 13, 200001]) Et_ok (by kernel_rfl) ?_
          | refine eX ?_
          | refine eS ?_
          | refine eN ?_
          | refine oC (hc) ?_
          | refine eC (hc) ?_
          | (refine Run.ret ?_; (first | refine rB ?_ | refine rI ?_ | refine rA ?_ | refine rII ?_ | refine rSI ?_ | refine rT ?_ | refine rS ?_); first | done | (rw [firstErr_at (i := 3) (show (checks g)[3]? = some (symsG g) from rfl) he hi2]))
          | ((exfalso; (simp_all <;> fail)))
          | fail)
    · have hc := ordered g hf
      by_cases he : orderedG g = 0
      · have hnext : (checks g)[4]? = some 0 := by rw [← he]; rfl
        rw [he] at hc
        repeat' (first
          | refine Run.region ?_
          | refine Run.seq ?_
          | ((refine oB (frz := [1, 13, 200001]) Et_ok (fun h => ?_) (fun h => ?_)) <;> (first | (exfalso; simp at h <;> fail) | (exfalso; simp at h; omega) | skip))
          | ((refine eB (fun h => ?_) (fun h => ?_)) <;> (first | (exfalso; simp at h <;> fail) | (exfalso; simp at h; omega) | skip))
          | refine oX (frz := [1, 13, 200001]) Et_ok ?_
          | refine oS ?_
          | refine RunOps.nil ?_
          | refine Run.skip ?_
          | refine cT ?_
          | refine cF ?_
          | refine Run.block ?_
          | refine Run.exit ?_
          | refine Run.draw (frz := [1, 13, 200001]) Et_ok (by kernel_rfl) ?_
          | refine eX ?_
          | refine eS ?_
          | refine eN ?_
          | refine oC (hc) ?_
          | refine eC (hc) ?_
          | (refine Run.ret ?_; (first | refine rB ?_ | refine rI ?_ | refine rA ?_ | refine rII ?_ | refine rSI ?_ | refine rT ?_ | refine rS ?_); first | done | (skip))
          | (exact ⟨5, ⟨by omega, all_succ hi2 hnext⟩, by omega, weak_of (by repeat' (first | exact trivial | refine ⟨rfl, ?_⟩))⟩)
          | fail)
      · repeat' (first
          | refine Run.region ?_
          | refine Run.seq ?_
          | ((refine oB (frz := [1, 13, 200001]) Et_ok (fun h => ?_) (fun h => ?_)) <;> (first | (exfalso; simp at h <;> fail) | (exfalso; simp at h; omega) | skip))
          | ((refine eB (fun h => ?_) (fun h => ?_)) <;> (first | (exfalso; simp at h <;> fail) | (exfalso; simp at h; omega) | skip))
          | refine oX (frz := [1, 13, 200001]) Et_ok ?_
          | refine oS ?_
          | refine RunOps.nil ?_
          | refine Run.skip ?_
          | refine cT ?_
          | refine cF ?_
          | refine Run.block ?_
          | refine Run.exit ?_
          | refine Run.draw (frz := [1, 13, 200001]) Et_ok (by kernel_rfl) ?_
          | refine eX ?_
          | refine eS ?_
          | refine eN ?_
          | refine oC (hc) ?_
          | refine eC (hc) ?_
          | (refine Run.ret ?_; (first | refine rB ?_ | refine rI ?_ | refine rA ?_ | refine rII ?_ | refine rSI ?_ | refine rT ?_ | refine rS ?_); first | done | (rw [firstErr_at (i := 4) (show (checks g)[4]? = some (orderedG g) from rfl) he hi2]))
          | ((exfalso; (simp_all <;> fail)))
          | fail)
    · have hc := complete g hf
      by_cases he : completeF g = 0
      · have hnext : (checks g)[5]? = some 0 := by rw [← he]; rfl
        rw [he] at hc
        repeat' (first
          | refine Run.region ?_
          | refine Run.seq ?_
          | ((refine oB (frz := [1, 13, 200001]) Et_ok (fun h => ?_) (fun h => ?_)) <;> (first | (exfalso; simp at h <;> fail) | (exfalso; simp at h; omega) | skip))
          | ((refine eB (fun h => ?_) (fun h => ?_)) <;> (first | (exfalso; simp at h <;> fail) | (exfalso; simp at h; omega) | skip))
          | refine oX (frz := [1, 13, 200001]) Et_ok ?_
          | refine oS ?_
          | refine RunOps.nil ?_
          | refine Run.skip ?_
          | refine cT ?_
          | refine cF ?_
          | refine Run.block ?_
          | refine Run.exit ?_
          | refine Run.draw (frz := [1, 13, 200001]) Et_ok (by kernel_rfl) ?_
          | refine eX ?_
          | refine eS ?_
          | refine eN ?_
          | refine oC (hc) ?_
          | refine eC (hc) ?_
          | (refine Run.ret ?_; (first | refine rB ?_ | refine rI ?_ | refine rA ?_ | refine rII ?_ | refine rSI ?_ | refine rT ?_ | refine rS ?_); first | done | (skip))
          | (exact ⟨6, ⟨by omega, all_succ hi2 hnext⟩, by omega, weak_of (by repeat' (first | exact trivial | refine ⟨rfl, ?_⟩))⟩)
          | fail)
      · repeat' (first
          | refine Run.region ?_
          | refine Run.seq ?_
          | ((refine oB (frz := [1, 13, 200001]) Et_ok (fun h => ?_) (fun h => ?_)) <;> (first | (exfalso; simp at h <;> fail) | (exfalso; simp at h; omega) | skip))
          | ((refine eB (fun h => ?_) (fun h => ?_)) <;> (first | (exfalso; simp at h <;> fail) | (exfalso; simp at h; omega) | skip))
          | refine oX (frz := [1, 13, 200001]) Et_ok ?_
          | refine oS ?_
          | refine RunOps.nil ?_
          | refine Run.skip ?_
          | refine cT ?_
          | refine cF ?_
          | refine Run.block ?_
          | refine Run.exit ?_
          | refine Run.draw (frz := [1, 13, 200001]) Et_ok (by kernel_rfl) ?_
          | refine eX ?_
          | refine eS ?_
          | refine eN ?_
          | refine oC (hc) ?_
          | refine eC (hc) ?_
          | (refine Run.ret ?_; (first | refine rB ?_ | refine rI ?_ | refine rA ?_ | refine rII ?_ | refine rSI ?_ | refine rT ?_ | refine rS ?_); first | done | (rw [firstErr_at (i := 5) (show (checks g)[5]? = some (completeF g) from rfl) he hi2]))
          | ((exfalso; (simp_all <;> fail)))
          | fail)
    · repeat' (first
        | refine Run.region ?_
        | refine Run.seq ?_
        | ((refine oB (frz := [1, 13, 200001]) Et_ok (fun h => ?_) (fun h => ?_)) <;> (first | (exfalso; simp at h <;> fail) | (exfalso; simp at h; omega) | skip))
        | ((refine eB (fun h => ?_) (fun h => ?_)) <;> (first | (exfalso; simp at h <;> fail) | (exfalso; simp at h; omega) | skip))
        | refine oX (frz := [1, 13, 200001]) Et_ok ?_
        | refine oS ?_
        | refine RunOps.nil ?_
        | refine Run.skip ?_
        | refine cT ?_
        | refine cF ?_
        | refine Run.block ?_
        | refine Run.exit ?_
        | refine Run.draw (frz := [1, 13, 200001]) Et_ok (by kernel_rfl) ?_
        | refine eX ?_
        | refine eS ?_
        | refine eN ?_
        | (refine Run.ret ?_; (first | refine rB ?_ | refine rI ?_ | refine rA ?_ | refine rII ?_ | refine rSI ?_ | refine rT ?_ | refine rS ?_); first | done | (rw [firstErr_none (l := checks g) hi2]))
        | fail)
end Go.Av
end
noncomputable section
namespace Go.Av
open Go Go.Proofs
set_option maxRecDepth 10000
theorem named_zero {g : Gram} (h : namedF g = 0) : (∀ s ∈ smalls g, smallF s = true) ∧ ∀ s ∈ g.names, capitalF s = true := by
  unfold namedF at h
  split at h
  · omega
  · rename_i hn
    simp only [not_or, not_exists, not_and, Bool.not_eq_false] at hn
    exact hn
theorem small_capital {s : List Nat} (h1 : smallF s = true) (h2 : capitalF s = true) : False := by
  simp only [smallF, capitalF, Bool.and_eq_true, decide_eq_true_eq] at h1 h2
  omega
theorem allN_nodup {g : Gram} (h : namedF g = 0) : (allN g).Nodup ↔ (smalls g).Nodup ∧ g.names.Nodup := by
  obtain ⟨h1, h2⟩ := named_zero h
  rw [allN, List.nodup_append]
  refine ⟨fun h => ⟨h.1, h.2.1⟩, fun h => ⟨h.1, h.2, fun a ha b hb e => small_capital (h1 a ha) (e ▸ h2 b hb)⟩⟩
theorem checkG_eq (g : Gram) : checkG g = checkF g := by
  unfold checkG checkF
  split
  · rfl
  · simp only [checks, firstErr]
    by_cases h1 : manyF g = 0
    · simp only [h1, ne_eq, not_true_eq_false, if_false, if_true]
      by_cases h2 : g.tokens = [] ∨ g.names = []
      · have : namedG g = 5 := if_pos h2
        simp [this, h2]
      · have : namedG g = namedF g := if_neg h2
        simp only [this, if_neg h2]
        by_cases h3 : namedF g = 0
        · simp only [h3, if_true]
          by_cases h4 : (allN g).Nodup
          · have h5 := (allN_nodup h3).1 h4
            have h6 : diffF g = 0 := if_pos h4
            have h7 : namesF g = 0 := by unfold namesF; rw [if_neg (by simp [h5.1, h5.2]), h3]
            simp only [h6, h7, ne_eq, not_true_eq_false, if_false, if_true]
            unfold symsG orderedG completeF symbolsF
            by_cases a : symbolsOK g <;> by_cases b : orderBad g <;> by_cases c : missing g <;> simp [a, b, c]
          · have h6 : diffF g = 8 := if_neg h4
            have h7 : namesF g = 8 := by
              unfold namesF
              rw [if_pos]
              refine ⟨h3, ?_⟩
              by_cases h5 : (smalls g).Nodup
              · exact .inr fun h8 => h4 ((allN_nodup h3).2 ⟨h5, h8⟩)
              · exact .inl h5
            simp [h6, h7]
        · have h7 : namesF g = namedF g := by unfold namesF; rw [if_neg (by simp [h3])]
          simp [h3, h7]
    · simp [h1]
theorem grCheck (g : Gram) (hf : Fits g) : KnownCall Try.prog 23 [encG g] (.d (.int .i64 (checkF g))) := by rw [← checkG_eq]; exact checkGr g hf
theorem called (g : Gram) (s : Int) (x : List Nat) (hf : Fits g) (ht : g.tokens.length ≤ 8) (h : symName g s = some x) : KnownCall Try.prog 39 [encG g, .int .i64 s] (.d (.str x)) := by
  have hfn := hf.names
  by_cases hs : 16 ≤ s
  · rw [symName, if_pos hs] at h
    have hlt := (List.getElem?_eq_some_iff.1 h).1
    have hw : IntKind.i64.wrap (s - 16) = s - 16 := wrap64 (by omega) (by omega)
    have hx := h
    have hc := terminal g s
    rw [show isTerm g s = false from by simp [isTerm]; omega] at hc
    refine knownE Et_ok (fnAt Try.func39 (by kernel_rfl) (by kernel_rfl) : FnAt _ _ (mkFn Try.f39 [2])) ?_
    repeat' (first
      | refine Run.region ?_
      | refine Run.seq ?_
      | ((refine oB (frz := [2]) Et_ok (fun h => ?_) (fun h => ?_)) <;> (first | (exfalso; simp at h <;> fail) | (exfalso; simp at h; omega) | skip))
      | ((refine eB (fun h => ?_) (fun h => ?_)) <;> (first | (exfalso; simp at h <;> fail) | (exfalso; simp at h; omega) | skip))
      | refine oX (frz := [2]) Et_ok ?_
      | refine oS ?_
      | refine RunOps.nil ?_
      | refine Run.skip ?_
      | refine cT ?_
      | refine cF ?_
      | refine Run.block ?_
      | refine Run.exit ?_
      | refine Run.draw (frz := [2]) Et_ok (by kernel_rfl) ?_
      | refine eX ?_
      | refine eS ?_
      | refine eN ?_
      | refine oC (hc) ?_
      | refine eC (hc) ?_
      | refine oX (frz := [2]) (v := .d (.ep [.str x])) Et_ok ?_ (hf := (by first | (simp [inB] <;> fail) | (simp [inB]; omega))) (he := (by first | (simp [List.getD_eq_getElem?_getD, cellsD, hx, hw] <;> fail) | fail))
      | refine eX (v := .d (.ep [.str x])) ?_ (hf := (by first | (simp [inB] <;> fail) | (simp [inB]; omega))) (he := (by first | (simp [List.getD_eq_getElem?_getD, cellsD, hx, hw] <;> fail) | fail))
      | (refine Run.ret ?_; (first | refine rB ?_ | refine rI ?_ | refine rA ?_ | refine rII ?_ | refine rSI ?_ | refine rT ?_ | refine rS ?_); first | done | (rfl))
      | fail)
  · rw [symName, if_neg hs] at h
    by_cases hs0 : 0 ≤ s
    · rw [if_pos hs0] at h
      have hlt := (List.getElem?_eq_some_iff.1 h).1
      have hx := h
      have hc := terminal g s
      rw [show isTerm g s = true from by simp [isTerm]; omega] at hc
      refine knownE Et_ok (fnAt Try.func39 (by kernel_rfl) (by kernel_rfl) : FnAt _ _ (mkFn Try.f39 [2])) ?_
      repeat' (first
        | refine Run.region ?_
        | refine Run.seq ?_
        | ((refine oB (frz := [2]) Et_ok (fun h => ?_) (fun h => ?_)) <;> (first | (exfalso; simp at h <;> fail) | (exfalso; simp at h; omega) | skip))
        | ((refine eB (fun h => ?_) (fun h => ?_)) <;> (first | (exfalso; simp at h <;> fail) | (exfalso; simp at h; omega) | skip))
        | refine oX (frz := [2]) Et_ok ?_
        | refine oS ?_
        | refine RunOps.nil ?_
        | refine Run.skip ?_
        | refine cT ?_
        | refine cF ?_
        | refine Run.block ?_
        | refine Run.exit ?_
        | refine Run.draw (frz := [2]) Et_ok (by kernel_rfl) ?_
        | refine eX ?_
        | refine eS ?_
        | refine eN ?_
        | refine oC (hc) ?_
        | refine eC (hc) ?_
        | refine oX (frz := [2]) (v := .d (.ep [.str x])) Et_ok ?_ (hf := (by first | (simp [inB] <;> fail) | (simp [inB]; omega))) (he := (by first | (simp [List.getD_eq_getElem?_getD, cellsD, hx] <;> fail) | fail))
        | refine eX (v := .d (.ep [.str x])) ?_ (hf := (by first | (simp [inB] <;> fail) | (simp [inB]; omega))) (he := (by first | (simp [List.getD_eq_getElem?_getD, cellsD, hx] <;> fail) | fail))
        | (refine Run.ret ?_; (first | refine rB ?_ | refine rI ?_ | refine rA ?_ | refine rII ?_ | refine rSI ?_ | refine rT ?_ | refine rS ?_); first | done | (rfl))
        | fail)
    · rw [if_neg hs0] at h; cases h
theorem askNonterm (g : Gram) (s : Int) (hf : Fits g) : KnownCall Try.prog 10 [encG g, .int .i64 s] (.tup [.d (.int .i64 (ntermF g s).1), .d (.int .i64 (ntermF g s).2)]) := by
  have hn := hf.names
  by_cases hs : isNonterm g s = true
  · have hr : 16 ≤ s ∧ s < 16 + g.names.length := by simpa [isNonterm] using hs
    have hw : IntKind.i64.wrap (s - 16) = s - 16 := wrap64 (by omega) (by omega)
    refine knownE Et_ok (fnAt Try.func10 (by kernel_rfl) (by kernel_rfl) : FnAt _ _ (mkFn Try.f10 [2])) ?_
    repeat' (first
      | refine Run.region ?_
      | refine Run.seq ?_
      | ((refine oB (frz := [2]) Et_ok (fun h => ?_) (fun h => ?_)) <;> (first | (exfalso; simp at h <;> fail) | (exfalso; simp at h; omega) | skip))
      | ((refine eB (fun h => ?_) (fun h => ?_)) <;> (first | (exfalso; simp at h <;> fail) | (exfalso; simp at h; omega) | skip))
      | refine oX (frz := [2]) Et_ok ?_
      | refine oS ?_
      | refine RunOps.nil ?_
      | refine Run.skip ?_
      | refine cT ?_
      | refine cF ?_
      | refine Run.block ?_
      | refine Run.exit ?_
      | refine Run.draw (frz := [2]) Et_ok (by kernel_rfl) ?_
      | refine eX ?_
      | refine eS ?_
      | refine eN ?_
      | ((refine oK (grCheck _ hf) (fun h => ?_) (fun h => ?_)) <;> (first | (exfalso; simp at h <;> fail) | (exfalso; simp at h; omega) | skip))
      | refine oC (grCheck _ hf) ?_
      | ((refine eK (grCheck _ hf) (fun h => ?_) (fun h => ?_)) <;> (first | (exfalso; simp at h <;> fail) | (exfalso; simp at h; omega) | skip))
      | refine eC (grCheck _ hf) ?_
      | ((refine oK (nonterminal _ _ hf) (fun h => ?_) (fun h => ?_)) <;> (first | (exfalso; simp at h <;> fail) | (exfalso; simp at h; omega) | skip))
      | refine oC (nonterminal _ _ hf) ?_
      | ((refine eK (nonterminal _ _ hf) (fun h => ?_) (fun h => ?_)) <;> (first | (exfalso; simp at h <;> fail) | (exfalso; simp at h; omega) | skip))
      | refine eC (nonterminal _ _ hf) ?_
      | (refine Run.ret ?_; (first | refine rB ?_ | refine rI ?_ | refine rA ?_ | refine rII ?_ | refine rSI ?_ | refine rT ?_ | refine rS ?_); first | done | (first | (simp_all [ntermF] <;> fail) | (simp_all [ntermF]; omega)))
      | (exfalso; (simp_all <;> fail))
      | fail)
  · refine knownE Et_ok (fnAt Try.func10 (by kernel_rfl) (by kernel_rfl) : FnAt _ _ (mkFn Try.f10 [2])) ?_
    repeat' (first
      | refine Run.region ?_
      | refine Run.seq ?_
      | ((refine oB (frz := [2]) Et_ok (fun h => ?_) (fun h => ?_)) <;> (first | (exfalso; simp at h <;> fail) | (exfalso; simp at h; omega) | skip))
      | ((refine eB (fun h => ?_) (fun h => ?_)) <;> (first | (exfalso; simp at h <;> fail) | (exfalso; simp at h; omega) | skip))
      | refine oX (frz := [2]) Et_ok ?_
      | refine oS ?_
      | refine RunOps.nil ?_
      | refine Run.skip ?_
      | refine cT ?_
      | refine cF ?_
      | refine Run.block ?_
      | refine Run.exit ?_
      | refine Run.draw (frz := [2]) Et_ok (by kernel_rfl) ?_
      | refine eX ?_
      | refine eS ?_
      | refine eN ?_
      | ((refine oK (grCheck _ hf) (fun h => ?_) (fun h => ?_)) <;> (first | (exfalso; simp at h <;> fail) | (exfalso; simp at h; omega) | skip))
      | refine oC (grCheck _ hf) ?_
      | ((refine eK (grCheck _ hf) (fun h => ?_) (fun h => ?_)) <;> (first | (exfalso; simp at h <;> fail) | (exfalso; simp at h; omega) | skip))
      | refine eC (grCheck _ hf) ?_
      | ((refine oK (nonterminal _ _ hf) (fun h => ?_) (fun h => ?_)) <;> (first | (exfalso; simp at h <;> fail) | (exfalso; simp at h; omega) | skip))
      | refine oC (nonterminal _ _ hf) ?_
      | ((refine eK (nonterminal _ _ hf) (fun h => ?_) (fun h => ?_)) <;> (first | (exfalso; simp at h <;> fail) | (exfalso; simp at h; omega) | skip))
      | refine eC (nonterminal _ _ hf) ?_
      | (refine Run.ret ?_; (first | refine rB ?_ | refine rI ?_ | refine rA ?_ | refine rII ?_ | refine rSI ?_ | refine rT ?_ | refine rS ?_); first | done | (first | (simp_all [ntermF] <;> fail) | (simp_all [ntermF]; omega)))
      | (exfalso; (simp_all <;> fail))
      | fail)
theorem names_apart {g : Gram} (h0 : checkF g = 0) (s : List Nat) (h1 : s ∈ g.tokens) (h2 : s ∈ g.names) : False := by
  obtain ⟨_, _, _, hn, _⟩ := check_parts h0
  have h3 : namedF g = 0 := by
    unfold namesF at hn
    split at hn
    · omega
    · exact hn
  obtain ⟨h4, h5⟩ := named_zero h3
  exact small_capital (h4 s (by simp [smalls, h1])) (h5 s h2)
theorem findF_mem {l : List (List Nat)} {s : List Nat} : 0 ≤ findF l s ↔ s ∈ l := by
  unfold findF
  split
  · rename_i h; simp [h]
  · rename_i h; simp [h]
theorem askSym (g : Gram) (s : List Nat) (hf : Fits g) : KnownCall Try.prog 15 [encG g, .str s] (.tup [.d (.int .i64 (askSymF g s).1), .d (.int .i64 (askSymF g s).2)]) := by
  have hft := hf.tokens
  have hfn := hf.names
  have hr := findF_range g.names s
  have hw : IntKind.i64.wrap (16 + findF g.names s) = 16 + findF g.names s := wrap64 (by omega) (by omega)
  by_cases h0 : checkF g = 0
  · have hap := names_apart h0 s
    rw [← findF_mem, ← findF_mem] at hap
    refine knownE Et_ok (fnAt Try.func15 (by kernel_rfl) (by kernel_rfl) : FnAt _ _ (mkFn Try.f15 [2])) ?_
    repeat' (first
      | refine Run.region ?_
      | refine Run.seq ?_
      | ((refine oB (frz := [2]) Et_ok (fun h => ?_) (fun h => ?_)) <;> (first | (exfalso; simp at h <;> fail) | (exfalso; simp at h; omega) | skip))
      | ((refine eB (fun h => ?_) (fun h => ?_)) <;> (first | (exfalso; simp at h <;> fail) | (exfalso; simp at h; omega) | skip))
      | refine oX (frz := [2]) Et_ok ?_
      | refine oS ?_
      | refine RunOps.nil ?_
      | refine Run.skip ?_
      | refine cT ?_
      | refine cF ?_
      | refine Run.block ?_
      | refine Run.exit ?_
      | refine Run.draw (frz := [2]) Et_ok (by kernel_rfl) ?_
      | refine eX ?_
      | refine eS ?_
      | refine eN ?_
      | ((refine oK (grCheck _ hf) (fun h => ?_) (fun h => ?_)) <;> (first | (exfalso; simp at h <;> fail) | (exfalso; simp at h; omega) | skip))
      | refine oC (grCheck _ hf) ?_
      | ((refine eK (grCheck _ hf) (fun h => ?_) (fun h => ?_)) <;> (first | (exfalso; simp at h <;> fail) | (exfalso; simp at h; omega) | skip))
      | refine eC (grCheck _ hf) ?_
      | ((refine oK (index _ _ (show g.names.length ≤ _ by omega)) (fun h => ?_) (fun h => ?_)) <;> (first | (exfalso; simp at h <;> fail) | (exfalso; simp at h; omega) | skip))
      | refine oC (index _ _ (show g.names.length ≤ _ by omega)) ?_
      | ((refine eK (index _ _ (show g.names.length ≤ _ by omega)) (fun h => ?_) (fun h => ?_)) <;> (first | (exfalso; simp at h <;> fail) | (exfalso; simp at h; omega) | skip))
      | refine eC (index _ _ (show g.names.length ≤ _ by omega)) ?_
      | ((refine oK (index _ _ (show g.tokens.length ≤ _ by omega)) (fun h => ?_) (fun h => ?_)) <;> (first | (exfalso; simp at h <;> fail) | (exfalso; simp at h; omega) | skip))
      | refine oC (index _ _ (show g.tokens.length ≤ _ by omega)) ?_
      | ((refine eK (index _ _ (show g.tokens.length ≤ _ by omega)) (fun h => ?_) (fun h => ?_)) <;> (first | (exfalso; simp at h <;> fail) | (exfalso; simp at h; omega) | skip))
      | refine eC (index _ _ (show g.tokens.length ≤ _ by omega)) ?_
      | (refine Run.ret ?_; (first | refine rB ?_ | refine rI ?_ | refine rA ?_ | refine rII ?_ | refine rSI ?_ | refine rT ?_ | refine rS ?_); first | done | (((simp only [askSymF, symF]; repeat' split) <;> (first | rfl | (simp_all <;> fail) | (simp_all; omega)))))
      | (exfalso; (simp_all <;> fail))
      | fail)
  · refine knownE Et_ok (fnAt Try.func15 (by kernel_rfl) (by kernel_rfl) : FnAt _ _ (mkFn Try.f15 [2])) ?_
    repeat' (first
      | refine Run.region ?_
      | refine Run.seq ?_
      | ((refine oB (frz := [2]) Et_ok (fun h => ?_) (fun h => ?_)) <;> (first | (exfalso; simp at h <;> fail) | (exfalso; simp at h; omega) | skip))
      | ((refine eB (fun h => ?_) (fun h => ?_)) <;> (first | (exfalso; simp at h <;> fail) | (exfalso; simp at h; omega) | skip))
      | refine oX (frz := [2]) Et_ok ?_
      | refine oS ?_
      | refine RunOps.nil ?_
      | refine Run.skip ?_
      | refine cT ?_
      | refine cF ?_
      | refine Run.block ?_
      | refine Run.exit ?_
      | refine Run.draw (frz := [2]) Et_ok (by kernel_rfl) ?_
      | refine eX ?_
      | refine eS ?_
      | refine eN ?_
      | ((refine oK (grCheck _ hf) (fun h => ?_) (fun h => ?_)) <;> (first | (exfalso; simp at h <;> fail) | (exfalso; simp at h; omega) | skip))
      | refine oC (grCheck _ hf) ?_
      | ((refine eK (grCheck _ hf) (fun h => ?_) (fun h => ?_)) <;> (first | (exfalso; simp at h <;> fail) | (exfalso; simp at h; omega) | skip))
      | refine eC (grCheck _ hf) ?_
      | (refine Run.ret ?_; (first | refine rB ?_ | refine rI ?_ | refine rA ?_ | refine rII ?_ | refine rSI ?_ | refine rT ?_ | refine rS ?_); first | done | (((simp only [askSymF, symF]; repeat' split) <;> (first | rfl | (simp_all <;> fail) | (simp_all; omega)))))
      | (exfalso; (simp_all <;> fail))
      | fail)
end Go.Av
end
noncomputable section
namespace Go.Av
open Go Go.Proofs
set_option maxRecDepth 10000
theorem allProdsX (ps : List GProd) (hl : ps.length ≤ 1099511627776) (yi : Nat) (B : Nat → List Ob) (hyi : ∀ k, Nat.blt yi (B k).length = true) (hL : ∀ k, Nat.ble (B 0).length (B k).length = true) (hR : ∀ k, (B k).all (refOb (B k).length) = true)
    (hy : ∀ k p, k < ps.length → ps[k]? = some p → AYield Try.prog yi [.d (.int .i64 k), .d (encP p)] (B k) (.d (.bool true)) (B (k + 1))) :
    ACall Try.prog 85 [.yl yi, .d (.ep [.sl 2 (ps.map encP)])] (B 0) (.tup []) (B ps.length) := by
  refine acall_of_run Et_ok (fnAt Try.func85 (by kernel_rfl) (by kernel_rfl) : FnAt _ _ (mkFn Try.f85 [])) rfl rfl ?_
  repeat (first
    | refine oX (frz := []) Et_ok ?_
    | refine oS ?_
    | refine RunOps.nil ?_
    | refine Run.region ?_
    | refine Run.seq ?_
    | refine Run.skip ?_
    | refine Run.block ?_
    | refine Run.exit ?_
    | refine Run.draw (frz := []) Et_ok (by kernel_rfl) ?_
    | refine eX ?_
    | refine eS ?_
    | refine eN ?_)
  refine Run.loop (fun k : Nat => ⟨PT.ofList [(0, .yl yi), (5, .d (.sl 2 (ps.map encP))), (6, .d (.int .i64 (ps.map encP).length)), (7, .d (.int .i64 k))], B k, []⟩) (fun k => k ≤ ps.length) (fun k => ps.length - k) 0 (Nat.zero_le _) (weak_of ⟨rfl, rfl, rfl, rfl, trivial⟩) (fun k hk => ?_)
  repeat (first
    | refine oX (frz := []) Et_ok ?_
    | refine oS ?_
    | refine RunOps.nil ?_
    | refine Run.region ?_
    | refine Run.seq ?_
    | refine Run.skip ?_
    | refine Run.block ?_
    | refine Run.exit ?_
    | refine Run.draw (frz := []) Et_ok (by kernel_rfl) ?_
    | refine eX ?_
    | refine eS ?_
    | refine eN ?_)
  refine Run.cond (by rfl) (fun h => ?_) (fun h => ?_)
  · have hlt : k < ps.length := by simpa using h
    obtain ⟨p, hp⟩ := get_ok hlt
    repeat (first
      | refine oX (frz := []) Et_ok ?_
      | refine oS ?_
      | refine RunOps.nil ?_
      | refine Run.region ?_
      | refine Run.seq ?_
      | refine Run.skip ?_
      | refine Run.block ?_
      | refine Run.exit ?_
      | refine Run.draw (frz := []) Et_ok (by kernel_rfl) ?_
      | refine eX ?_
      | refine eS ?_
      | refine eN ?_)
    first | refine oX (frz := []) (v := .d (.ep [.int .i64 p.left, ints p.right])) Et_ok ?_ (hf := (by first | (simp [inB] <;> fail) | (simp [inB]; omega))) (he := (by first | (simp [List.getD_eq_getElem?_getD, cellsD, hp, encP] <;> fail) | fail)) | refine eX (v := .d (.ep [.int .i64 p.left, ints p.right])) ?_ (hf := (by first | (simp [inB] <;> fail) | (simp [inB]; omega))) (he := (by first | (simp [List.getD_eq_getElem?_getD, cellsD, hp, encP] <;> fail) | fail))
    repeat (first
      | refine oX (frz := []) Et_ok ?_
      | refine oS ?_
      | refine RunOps.nil ?_
      | refine Run.region ?_
      | refine Run.seq ?_
      | refine Run.skip ?_
      | refine Run.block ?_
      | refine Run.exit ?_
      | refine Run.draw (frz := []) Et_ok (by kernel_rfl) ?_
      | refine eX ?_
      | refine eS ?_
      | refine eN ?_)
    refine RunOps.x (frz := []) (v := .d .any) (ob := some (B k ++ [.box [.d (.int .i64 p.left), .d (ints p.right)]])) (fl := true) Et_ok (by rfl)
      (Eq.trans (b := Option.map (fun (p : AV × List Ob × Bool) => (p.1, some p.2.1, p.2.2)) (storeR Et 43 (.bp (B k).length 0) (.d (.agg [.int .i64 p.left, ints p.right])) (B k ++ [.box [.d (.int .i64 0), .d .nilsl]]))) rfl (by rw [store_last (y := ty43) (by rfl) (B k) _ (by rfl) (by rfl) (by rfl)]; rfl)) rfl rfl rfl rfl (by rfl) ?_
    repeat (first
      | refine oX (frz := []) Et_ok ?_
      | refine oS ?_
      | refine RunOps.nil ?_
      | refine Run.region ?_
      | refine Run.seq ?_
      | refine Run.skip ?_
      | refine Run.block ?_
      | refine Run.exit ?_
      | refine Run.draw (frz := []) Et_ok (by kernel_rfl) ?_
      | refine eX ?_
      | refine eS ?_
      | refine eN ?_)
    refine RunOps.x (frz := []) (v := .d (.agg [.int .i64 p.left, ints p.right])) (ob := none) (fl := true) Et_ok (by rfl)
      (Eq.trans (b := Option.map (fun (p : AV × List Ob × Bool) => (p.1, none, p.2.2)) (loadR Et 43 (.bp (B k).length 0) (B k ++ [.box [.d (.int .i64 p.left), .d (ints p.right)]]))) rfl (by rw [load_last (y := ty43) (by rfl) (by rfl) (B k) _ (by rfl)]; rfl)) rfl rfl rfl rfl (by rfl) ?_
    have hb := hyi k
    refine RunOps.less (less_of [(5, .d (.sl 2 (ps.map encP))), (6, .d (.int .i64 (ps.map encP).length)), (7, .d (.int .i64 k)), (12, .yl yi), (0, .yl yi), (13, .d (.int .i64 k)), (14, .d (encP p))] (B k).length (List.take_left) (hL k)
      ⟨by kernel_rfl, by kernel_rfl, by kernel_rfl, by kernel_rfl, by kernel_rfl, by kernel_rfl, by kernel_rfl, trivial⟩ ⟨rfl, rfl, rfl, hb, hb, rfl, rfl, trivial⟩ (hR k) rfl) ?_
    refine RunOps.yield (by rfl) (by rfl) (hy k p hlt hp) (by rfl) (by rfl) ?_
    repeat (first
      | refine oX (frz := []) Et_ok ?_
      | refine oS ?_
      | refine RunOps.nil ?_
      | refine Run.region ?_
      | refine Run.seq ?_
      | refine Run.skip ?_
      | refine Run.block ?_
      | refine Run.exit ?_
      | refine Run.draw (frz := []) Et_ok (by kernel_rfl) ?_
      | refine eX ?_
      | refine eS ?_
      | refine eN ?_)
    refine Run.cond (b := false) (by rfl) (fun h => by cases h) (fun _ => ?_)
    repeat (first
      | refine oX (frz := []) Et_ok ?_
      | refine oS ?_
      | refine RunOps.nil ?_
      | refine Run.region ?_
      | refine Run.seq ?_
      | refine Run.skip ?_
      | refine Run.block ?_
      | refine Run.exit ?_
      | refine Run.draw (frz := []) Et_ok (by kernel_rfl) ?_
      | refine eX ?_
      | refine eS ?_
      | refine eN ?_)
    exact ⟨k + 1, hlt, by omega, weak_of ⟨(by kernel_rfl), (by kernel_rfl), (by kernel_rfl), (inc_get (k := k) (by kernel_rfl) (by omega)), trivial⟩⟩
  · have hge : ps.length ≤ k := by simpa using h
    have hkn : k = ps.length := by omega
    subst hkn
    repeat (first
      | refine oX (frz := []) Et_ok ?_
      | refine oS ?_
      | refine RunOps.nil ?_
      | refine Run.region ?_
      | refine Run.seq ?_
      | refine Run.skip ?_
      | refine Run.block ?_
      | refine Run.exit ?_
      | refine Run.draw (frz := []) Et_ok (by kernel_rfl) ?_
      | refine eX ?_
      | refine eS ?_
      | refine eN ?_)
    exact ⟨trivial, rfl, by kernel_rfl⟩
theorem Run.rangeProdsX {nt m : Nat} {frz : List Nat} {K : Ex → S → Prop} {tm : PT AV} {dl : List Dl} {f : Operand} {qs : Array Tmp} {assign body : Code} (L : Nat) (Bs Xs : Nat → List Ob) (ps : List GProd) (hl : ps.length ≤ 1099511627776)
    (hf : rd tm f = .d (allProdsF ps)) (hX0 : Xs 0 = []) (hBL : ∀ k, (Bs k).length = L) (hBr : ∀ k, (Bs k).all (refOb (L + 2 + (Xs k).length)) = true) (hXr : ∀ k, (Xs k).all (refOb (L + 2 + (Xs k).length)) = true) (hT : ∀ n, ptAll (refA 8 (L + 2 + n)) tm = true)
    (hround : ∀ k p, k < ps.length → ps[k]? = some p → AYield Try.prog (L + 1) [.d (.int .i64 k), .d (encP p)] (rangeObs (Bs k) tm nt frz qs assign body .ready none ++ Xs k) (.d (.bool true)) (rangeObs (Bs (k + 1)) tm nt frz qs assign body .ready none ++ Xs (k + 1)))
    (hend : K .normal ⟨tm, rangeObs (Bs ps.length) tm nt frz qs assign body .exhausted none ++ Xs ps.length, .mark L :: dl⟩) :
    Run Try.prog nt m none (.rangeFunc f qs assign body) ⟨tm, Bs 0, dl⟩ K := by
  have hlen : ∀ k, (rangeObs (Bs k) tm nt frz qs assign body .ready none ++ Xs k).length = L + 2 + (Xs k).length := fun k => by simp [rangeObs, hBL k]; omega
  have hrefs : ∀ k, (rangeObs (Bs k) tm nt frz qs assign body .ready none ++ Xs k).all (refOb (rangeObs (Bs k) tm nt frz qs assign body .ready none ++ Xs k).length) = true := fun k => by
    rw [hlen k]
    simp only [rangeObs, List.all_append, hBr k, hXr k, Bool.true_and, List.all_cons, List.all_nil, Bool.and_true]
    simp only [refOb, hT, Bool.and_self]
  have hget : ∀ k, (rangeObs (Bs k) tm nt frz qs assign body .ready none ++ Xs k)[L + 1]? = some (.loop tm nt frz qs assign body .ready none) := fun k => by
    have := hBL k
    subst this; simp [rangeObs]
  have hset : ∀ k, (rangeObs (Bs k) tm nt frz qs assign body .ready none ++ Xs k).set (L + 1) (.loop tm nt frz qs assign body .exhausted none) = rangeObs (Bs k) tm nt frz qs assign body .exhausted none ++ Xs k := fun k => by
    have := hBL k
    subst this
    rw [List.set_append_left _ _ (by simp [rangeObs])]
    congr 1
    unfold rangeObs
    rw [List.set_append_right _ _ (by simp)]
    simp
  have hm : Try.prog.follows .mixedOrders = true := by kernel_rfl
  have hA := allProdsX ps hl (L + 1) (fun k => rangeObs (Bs k) tm nt frz qs assign body .ready none ++ Xs k) (fun k => by rw [hlen k, Nat.blt_eq]; omega) (fun k => Nat.ble_eq_true_of_le (by rw [hlen 0, hlen k, hX0]; simp)) hrefs hround
  simp only [hX0, List.append_nil] at hA
  rw [← hBL 0] at hA
  have := Run.range (m := m) (s := ⟨tm, Bs 0, dl⟩) (K := K) Et_ok hm hf hA rfl (by rw [hBL 0]; exact hget _) (by simp) (by
    simp only [hBL 0]
    rw [hset]
    exact hend)
  exact this
end Go.Av
end
noncomputable section
namespace Go.Av
open Go Go.Proofs
set_option maxRecDepth 10000
def askNameF (g : Gram) (s : Int) : List Nat × Int := if checkF g ≠ 0 then ([], checkF g) else if goodS g s = true then (nameS g s, 0) else ([], 14)
theorem refAskName (g : Gram) (s : Int) (hf : Fits g) : KnownCall Try.prog 18 [encG g, .int .i64 s] (.tup [.d (.str (askNameF g s).1), .d (.int .i64 (askNameF g s).2)]) := by
  by_cases h0 : checkF g = 0
  · obtain ⟨hm, _⟩ := check_parts h0
    have ht := (many_zero hm).1
    cases hg : goodS g s with
    | true =>
      obtain ⟨x, hx⟩ := name_of_good ht hg
      have e : askNameF g s = (x, 0) := by simp [askNameF, h0, hg, nameS_of hx]
      rw [e]
      simp only [goodS, Bool.or_eq_true] at hg
      refine knownE Et_ok (fnAt Try.func18 (by kernel_rfl) (by kernel_rfl) : FnAt _ _ (mkFn Try.f18 [2])) ?_
      repeat' (first
        | refine Run.region ?_
        | refine Run.seq ?_
        | ((refine oB (frz := [2]) Et_ok (fun h => ?_) (fun h => ?_)) <;> (first | (exfalso; simp at h <;> fail) | (exfalso; simp at h; omega) | skip))
        | ((refine eB (fun h => ?_) (fun h => ?_)) <;> (first | (exfalso; simp at h <;> fail) | (exfalso; simp at h; omega) | skip))
        | refine oX (frz := [2]) Et_ok ?_
        | refine oS ?_
        | refine RunOps.nil ?_
        | refine Run.skip ?_
        | refine cT ?_
        | refine cF ?_
        | refine Run.block ?_
        | refine Run.exit ?_
        | refine Run.draw (frz := [2]) Et_ok (by kernel_rfl) ?_
        | refine eX ?_
        | refine eS ?_
        | refine eN ?_
        | ((refine oK (refCheck _ hf) (fun h => ?_) (fun h => ?_)) <;> (first | (exfalso; simp at h <;> fail) | (exfalso; simp at h; omega) | skip))
        | refine oC (refCheck _ hf) ?_
        | ((refine eK (refCheck _ hf) (fun h => ?_) (fun h => ?_)) <;> (first | (exfalso; simp at h <;> fail) | (exfalso; simp at h; omega) | skip))
        | refine eC (refCheck _ hf) ?_
        | ((refine oK (refTerminal _ _) (fun h => ?_) (fun h => ?_)) <;> (first | (exfalso; simp at h <;> fail) | (exfalso; simp at h; omega) | skip))
        | refine oC (refTerminal _ _) ?_
        | ((refine eK (refTerminal _ _) (fun h => ?_) (fun h => ?_)) <;> (first | (exfalso; simp at h <;> fail) | (exfalso; simp at h; omega) | skip))
        | refine eC (refTerminal _ _) ?_
        | ((refine oK (refNonterm _ _ hf) (fun h => ?_) (fun h => ?_)) <;> (first | (exfalso; simp at h <;> fail) | (exfalso; simp at h; omega) | skip))
        | refine oC (refNonterm _ _ hf) ?_
        | ((refine eK (refNonterm _ _ hf) (fun h => ?_) (fun h => ?_)) <;> (first | (exfalso; simp at h <;> fail) | (exfalso; simp at h; omega) | skip))
        | refine eC (refNonterm _ _ hf) ?_
        | ((refine oK (refName _ s _ hf hx) (fun h => ?_) (fun h => ?_)) <;> (first | (exfalso; simp at h <;> fail) | (exfalso; simp at h; omega) | skip))
        | refine oC (refName _ s _ hf hx) ?_
        | ((refine eK (refName _ s _ hf hx) (fun h => ?_) (fun h => ?_)) <;> (first | (exfalso; simp at h <;> fail) | (exfalso; simp at h; omega) | skip))
        | refine eC (refName _ s _ hf hx) ?_
        | (refine Run.ret ?_; (first | refine rB ?_ | refine rI ?_ | refine rA ?_ | refine rII ?_ | refine rSI ?_ | refine rT ?_ | refine rS ?_); first | done | (rfl))
        | (exfalso; (simp_all <;> fail))
        | fail)
    | false =>
      have e : askNameF g s = ([], 14) := by simp [askNameF, h0, hg]
      rw [e]
      simp only [goodS, Bool.or_eq_false_iff] at hg
      refine knownE Et_ok (fnAt Try.func18 (by kernel_rfl) (by kernel_rfl) : FnAt _ _ (mkFn Try.f18 [2])) ?_
      repeat' (first
        | refine Run.region ?_
        | refine Run.seq ?_
        | ((refine oB (frz := [2]) Et_ok (fun h => ?_) (fun h => ?_)) <;> (first | (exfalso; simp at h <;> fail) | (exfalso; simp at h; omega) | skip))
        | ((refine eB (fun h => ?_) (fun h => ?_)) <;> (first | (exfalso; simp at h <;> fail) | (exfalso; simp at h; omega) | skip))
        | refine oX (frz := [2]) Et_ok ?_
        | refine oS ?_
        | refine RunOps.nil ?_
        | refine Run.skip ?_
        | refine cT ?_
        | refine cF ?_
        | refine Run.block ?_
        | refine Run.exit ?_
        | refine Run.draw (frz := [2]) Et_ok (by kernel_rfl) ?_
        | refine eX ?_
        | refine eS ?_
        | refine eN ?_
        | ((refine oK (refCheck _ hf) (fun h => ?_) (fun h => ?_)) <;> (first | (exfalso; simp at h <;> fail) | (exfalso; simp at h; omega) | skip))
        | refine oC (refCheck _ hf) ?_
        | ((refine eK (refCheck _ hf) (fun h => ?_) (fun h => ?_)) <;> (first | (exfalso; simp at h <;> fail) | (exfalso; simp at h; omega) | skip))
        | refine eC (refCheck _ hf) ?_
        | ((refine oK (refTerminal _ _) (fun h => ?_) (fun h => ?_)) <;> (first | (exfalso; simp at h <;> fail) | (exfalso; simp at h; omega) | skip))
        | refine oC (refTerminal _ _) ?_
        | ((refine eK (refTerminal _ _) (fun h => ?_) (fun h => ?_)) <;> (first | (exfalso; simp at h <;> fail) | (exfalso; simp at h; omega) | skip))
        | refine eC (refTerminal _ _) ?_
        | ((refine oK (refNonterm _ _ hf) (fun h => ?_) (fun h => ?_)) <;> (first | (exfalso; simp at h <;> fail) | (exfalso; simp at h; omega) | skip))
        | refine oC (refNonterm _ _ hf) ?_
        | ((refine eK (refNonterm _ _ hf) (fun h => ?_) (fun h => ?_)) <;> (first | (exfalso; simp at h <;> fail) | (exfalso; simp at h; omega) | skip))
        | refine eC (refNonterm _ _ hf) ?_
        | (refine Run.ret ?_; (first | refine rB ?_ | refine rI ?_ | refine rA ?_ | refine rII ?_ | refine rSI ?_ | refine rT ?_ | refine rS ?_); first | done | (rfl))
        | (exfalso; (simp_all <;> fail))
        | fail)
  · have e : askNameF g s = ([], checkF g) := by simp [askNameF, h0]
    rw [e]
    refine knownE Et_ok (fnAt Try.func18 (by kernel_rfl) (by kernel_rfl) : FnAt _ _ (mkFn Try.f18 [2])) ?_
    repeat' (first
      | refine Run.region ?_
      | refine Run.seq ?_
      | ((refine oB (frz := [2]) Et_ok (fun h => ?_) (fun h => ?_)) <;> (first | (exfalso; simp at h <;> fail) | (exfalso; simp at h; omega) | skip))
      | ((refine eB (fun h => ?_) (fun h => ?_)) <;> (first | (exfalso; simp at h <;> fail) | (exfalso; simp at h; omega) | skip))
      | refine oX (frz := [2]) Et_ok ?_
      | refine oS ?_
      | refine RunOps.nil ?_
      | refine Run.skip ?_
      | refine cT ?_
      | refine cF ?_
      | refine Run.block ?_
      | refine Run.exit ?_
      | refine Run.draw (frz := [2]) Et_ok (by kernel_rfl) ?_
      | refine eX ?_
      | refine eS ?_
      | refine eN ?_
      | ((refine oK (refCheck _ hf) (fun h => ?_) (fun h => ?_)) <;> (first | (exfalso; simp at h <;> fail) | (exfalso; simp at h; omega) | skip))
      | refine oC (refCheck _ hf) ?_
      | ((refine eK (refCheck _ hf) (fun h => ?_) (fun h => ?_)) <;> (first | (exfalso; simp at h <;> fail) | (exfalso; simp at h; omega) | skip))
      | refine eC (refCheck _ hf) ?_
      | (refine Run.ret ?_; (first | refine rB ?_ | refine rI ?_ | refine rA ?_ | refine rII ?_ | refine rSI ?_ | refine rT ?_ | refine rS ?_); first | done | (rfl))
      | (exfalso; (simp_all <;> fail))
      | fail)
theorem askName (g : Gram) (s : Int) (hf : Fits g) : KnownCall Try.prog 17 [encG g, .int .i64 s] (.tup [.d (.str (askNameF g s).1), .d (.int .i64 (askNameF g s).2)]) := by
  by_cases h0 : checkF g = 0
  · obtain ⟨hm, _⟩ := check_parts h0
    have ht := (many_zero hm).1
    cases hg : goodS g s with
    | true =>
      obtain ⟨x, hx⟩ := name_of_good ht hg
      have e : askNameF g s = (x, 0) := by simp [askNameF, h0, hg, nameS_of hx]
      rw [e]
      simp only [goodS, Bool.or_eq_true] at hg
      refine knownE Et_ok (fnAt Try.func17 (by kernel_rfl) (by kernel_rfl) : FnAt _ _ (mkFn Try.f17 [2])) ?_
      repeat' (first
        | refine Run.region ?_
        | refine Run.seq ?_
        | ((refine oB (frz := [2]) Et_ok (fun h => ?_) (fun h => ?_)) <;> (first | (exfalso; simp at h <;> fail) | (exfalso; simp at h; omega) | skip))
        | ((refine eB (fun h => ?_) (fun h => ?_)) <;> (first | (exfalso; simp at h <;> fail) | (exfalso; simp at h; omega) | skip))
        | refine oX (frz := [2]) Et_ok ?_
        | refine oS ?_
        | refine RunOps.nil ?_
        | refine Run.skip ?_
        | refine cT ?_
        | refine cF ?_
        | refine Run.block ?_
        | refine Run.exit ?_
        | refine Run.draw (frz := [2]) Et_ok (by kernel_rfl) ?_
        | refine eX ?_
        | refine eS ?_
        | refine eN ?_
        | ((refine oK (grCheck _ hf) (fun h => ?_) (fun h => ?_)) <;> (first | (exfalso; simp at h <;> fail) | (exfalso; simp at h; omega) | skip))
        | refine oC (grCheck _ hf) ?_
        | ((refine eK (grCheck _ hf) (fun h => ?_) (fun h => ?_)) <;> (first | (exfalso; simp at h <;> fail) | (exfalso; simp at h; omega) | skip))
        | refine eC (grCheck _ hf) ?_
        | ((refine oK (terminal _ _) (fun h => ?_) (fun h => ?_)) <;> (first | (exfalso; simp at h <;> fail) | (exfalso; simp at h; omega) | skip))
        | refine oC (terminal _ _) ?_
        | ((refine eK (terminal _ _) (fun h => ?_) (fun h => ?_)) <;> (first | (exfalso; simp at h <;> fail) | (exfalso; simp at h; omega) | skip))
        | refine eC (terminal _ _) ?_
        | ((refine oK (nonterminal _ _ hf) (fun h => ?_) (fun h => ?_)) <;> (first | (exfalso; simp at h <;> fail) | (exfalso; simp at h; omega) | skip))
        | refine oC (nonterminal _ _ hf) ?_
        | ((refine eK (nonterminal _ _ hf) (fun h => ?_) (fun h => ?_)) <;> (first | (exfalso; simp at h <;> fail) | (exfalso; simp at h; omega) | skip))
        | refine eC (nonterminal _ _ hf) ?_
        | ((refine oK (called _ s _ hf ht hx) (fun h => ?_) (fun h => ?_)) <;> (first | (exfalso; simp at h <;> fail) | (exfalso; simp at h; omega) | skip))
        | refine oC (called _ s _ hf ht hx) ?_
        | ((refine eK (called _ s _ hf ht hx) (fun h => ?_) (fun h => ?_)) <;> (first | (exfalso; simp at h <;> fail) | (exfalso; simp at h; omega) | skip))
        | refine eC (called _ s _ hf ht hx) ?_
        | (refine Run.ret ?_; (first | refine rB ?_ | refine rI ?_ | refine rA ?_ | refine rII ?_ | refine rSI ?_ | refine rT ?_ | refine rS ?_); first | done | (rfl))
        | (exfalso; (simp_all <;> fail))
        | fail)
    | false =>
      have e : askNameF g s = ([], 14) := by simp [askNameF, h0, hg]
      rw [e]
      simp only [goodS, Bool.or_eq_false_iff] at hg
      refine knownE Et_ok (fnAt Try.func17 (by kernel_rfl) (by kernel_rfl) : FnAt _ _ (mkFn Try.f17 [2])) ?_
      repeat' (first
        | refine Run.region ?_
        | refine Run.seq ?_
        | ((refine oB (frz := [2]) Et_ok (fun h => ?_) (fun h => ?_)) <;> (first | (exfalso; simp at h <;> fail) | (exfalso; simp at h; omega) | skip))
        | ((refine eB (fun h => ?_) (fun h => ?_)) <;> (first | (exfalso; simp at h <;> fail) | (exfalso; simp at h; omega) | skip))
        | refine oX (frz := [2]) Et_ok ?_
        | refine oS ?_
        | refine RunOps.nil ?_
        | refine Run.skip ?_
        | refine cT ?_
        | refine cF ?_
        | refine Run.block ?_
        | refine Run.exit ?_
        | refine Run.draw (frz := [2]) Et_ok (by kernel_rfl) ?_
        | refine eX ?_
        | refine eS ?_
        | refine eN ?_
        | ((refine oK (grCheck _ hf) (fun h => ?_) (fun h => ?_)) <;> (first | (exfalso; simp at h <;> fail) | (exfalso; simp at h; omega) | skip))
        | refine oC (grCheck _ hf) ?_
        | ((refine eK (grCheck _ hf) (fun h => ?_) (fun h => ?_)) <;> (first | (exfalso; simp at h <;> fail) | (exfalso; simp at h; omega) | skip))
        | refine eC (grCheck _ hf) ?_
        | ((refine oK (terminal _ _) (fun h => ?_) (fun h => ?_)) <;> (first | (exfalso; simp at h <;> fail) | (exfalso; simp at h; omega) | skip))
        | refine oC (terminal _ _) ?_
        | ((refine eK (terminal _ _) (fun h => ?_) (fun h => ?_)) <;> (first | (exfalso; simp at h <;> fail) | (exfalso; simp at h; omega) | skip))
        | refine eC (terminal _ _) ?_
        | ((refine oK (nonterminal _ _ hf) (fun h => ?_) (fun h => ?_)) <;> (first | (exfalso; simp at h <;> fail) | (exfalso; simp at h; omega) | skip))
        | refine oC (nonterminal _ _ hf) ?_
        | ((refine eK (nonterminal _ _ hf) (fun h => ?_) (fun h => ?_)) <;> (first | (exfalso; simp at h <;> fail) | (exfalso; simp at h; omega) | skip))
        | refine eC (nonterminal _ _ hf) ?_
        | (refine Run.ret ?_; (first | refine rB ?_ | refine rI ?_ | refine rA ?_ | refine rII ?_ | refine rSI ?_ | refine rT ?_ | refine rS ?_); first | done | (rfl))
        | (exfalso; (simp_all <;> fail))
        | fail)
  · have e : askNameF g s = ([], checkF g) := by simp [askNameF, h0]
    rw [e]
    refine knownE Et_ok (fnAt Try.func17 (by kernel_rfl) (by kernel_rfl) : FnAt _ _ (mkFn Try.f17 [2])) ?_
    repeat' (first
      | refine Run.region ?_
      | refine Run.seq ?_
      | ((refine oB (frz := [2]) Et_ok (fun h => ?_) (fun h => ?_)) <;> (first | (exfalso; simp at h <;> fail) | (exfalso; simp at h; omega) | skip))
      | ((refine eB (fun h => ?_) (fun h => ?_)) <;> (first | (exfalso; simp at h <;> fail) | (exfalso; simp at h; omega) | skip))
      | refine oX (frz := [2]) Et_ok ?_
      | refine oS ?_
      | refine RunOps.nil ?_
      | refine Run.skip ?_
      | refine cT ?_
      | refine cF ?_
      | refine Run.block ?_
      | refine Run.exit ?_
      | refine Run.draw (frz := [2]) Et_ok (by kernel_rfl) ?_
      | refine eX ?_
      | refine eS ?_
      | refine eN ?_
      | ((refine oK (grCheck _ hf) (fun h => ?_) (fun h => ?_)) <;> (first | (exfalso; simp at h <;> fail) | (exfalso; simp at h; omega) | skip))
      | refine oC (grCheck _ hf) ?_
      | ((refine eK (grCheck _ hf) (fun h => ?_) (fun h => ?_)) <;> (first | (exfalso; simp at h <;> fail) | (exfalso; simp at h; omega) | skip))
      | refine eC (grCheck _ hf) ?_
      | (refine Run.ret ?_; (first | refine rB ?_ | refine rI ?_ | refine rA ?_ | refine rII ?_ | refine rSI ?_ | refine rT ?_ | refine rS ?_); first | done | (rfl))
      | (exfalso; (simp_all <;> fail))
      | fail)
theorem showG (g : Gram) (i : Int) (hf : Fits g) : KnownCall Try.prog 19 [encG g, .int .i64 i] (.tup [.d (.str (showF g i).1), .d (.int .i64 (showF g i).2)]) := by
  by_cases h0 : checkF g = 0
  · by_cases hr : 0 ≤ i ∧ i < g.prods.length
    · obtain ⟨hm, _, _, _, hs⟩ := check_parts h0
      obtain ⟨hk1, hk2, hk3, hk4⟩ := many_zero hm
      obtain ⟨hsym, _, _⟩ := symbols_zero hs
      obtain ⟨p, hp⟩ := get_ok (show i.toNat < g.prods.length by omega)
      have hpm := List.mem_of_getElem? hp
      have hright := hk4 p hpm
      have hgood := hsym.2 p hpm
      have e : showF g i = (showTo g p p.right.length, 0) := by
        unfold showF
        rw [if_neg (by simp [h0]), if_neg (by omega), hp]
      rw [e]
      obtain ⟨x, hx⟩ := name_of_good hk1 (s := p.left) (by simp [goodS, hgood.1])
      have hxl := name_len hf hx
      refine knownE Et_ok (fnAt Try.func19 (by kernel_rfl) (by kernel_rfl) : FnAt _ _ (mkFn Try.f19 [2])) ?_
      repeat' (first
        | refine Run.region ?_
        | refine Run.seq ?_
        | ((refine oB (frz := [2]) Et_ok (fun h => ?_) (fun h => ?_)) <;> (first | (exfalso; simp at h <;> fail) | (exfalso; simp at h; omega) | skip))
        | ((refine eB (fun h => ?_) (fun h => ?_)) <;> (first | (exfalso; simp at h <;> fail) | (exfalso; simp at h; omega) | skip))
        | refine oX (frz := [2]) Et_ok ?_
        | refine oS ?_
        | refine RunOps.nil ?_
        | refine Run.skip ?_
        | refine cT ?_
        | refine cF ?_
        | refine Run.block ?_
        | refine Run.exit ?_
        | refine Run.draw (frz := [2]) Et_ok (by kernel_rfl) ?_
        | refine eX ?_
        | refine eS ?_
        | refine eN ?_
        | ((refine oK (grCheck _ hf) (fun h => ?_) (fun h => ?_)) <;> (first | (exfalso; simp at h <;> fail) | (exfalso; simp at h; omega) | skip))
        | refine oC (grCheck _ hf) ?_
        | ((refine eK (grCheck _ hf) (fun h => ?_) (fun h => ?_)) <;> (first | (exfalso; simp at h <;> fail) | (exfalso; simp at h; omega) | skip))
        | refine eC (grCheck _ hf) ?_
        | refine oX (frz := [2]) (v := .d (.ep [.int .i64 p.left, ints p.right])) Et_ok ?_ (hf := (by first | (simp [inB] <;> fail) | (simp [inB]; omega))) (he := (by first | (simp [List.getD_eq_getElem?_getD, cellsD, hp, encP] <;> fail) | fail))
        | refine eX (v := .d (.ep [.int .i64 p.left, ints p.right])) ?_ (hf := (by first | (simp [inB] <;> fail) | (simp [inB]; omega))) (he := (by first | (simp [List.getD_eq_getElem?_getD, cellsD, hp, encP] <;> fail) | fail))
        | ((refine oK (called _ _ _ hf hk1 hx) (fun h => ?_) (fun h => ?_)) <;> (first | (exfalso; simp at h <;> fail) | (exfalso; simp at h; omega) | skip))
        | refine oC (called _ _ _ hf hk1 hx) ?_
        | ((refine eK (called _ _ _ hf hk1 hx) (fun h => ?_) (fun h => ?_)) <;> (first | (exfalso; simp at h <;> fail) | (exfalso; simp at h; omega) | skip))
        | refine eC (called _ _ _ hf hk1 hx) ?_
        | refine oX (frz := [2]) Et_ok ?_ (hf := (by first | (simp [Nat.ble_eq] <;> fail) | (simp [Nat.ble_eq]; omega)))
        | refine eX ?_ (hf := (by first | (simp [Nat.ble_eq] <;> fail) | (simp [Nat.ble_eq]; omega)))
        | (refine Run.ret ?_; (first | refine rB ?_ | refine rI ?_ | refine rA ?_ | refine rII ?_ | refine rSI ?_ | refine rT ?_ | refine rS ?_); first | done | (skip))
        | (exfalso; first | (simp_all <;> fail) | (simp_all; omega))
        | fail)
      refine Run.loop (fun k : Nat => ⟨PT.ofList [(1, .d (.int .i64 i)), (2, (.d (.ep [.int .i64 g.k, strs g.tokens, .str g.sep, strs g.names, .int .i64 g.start, .sl 2 (g.prods.map encP)]))), (7, .d (.str (showTo g p k))), (42, .d (ints p.right)), (43, .d (.int .i64 (p.right.map (DV.int .i64)).length)), (44, .d (.int .i64 k))], [], []⟩) (fun k => k ≤ p.right.length) (fun k => p.right.length - k) 0 (Nat.zero_le _) (weak_of (by repeat' (first | exact trivial | refine ⟨rfl, ?_⟩ | refine ⟨(by rw [show showTo g p 0 = x ++ [32, 61] from by simp [showTo, nameS_of hx]]; rfl), ?_⟩ | fail))) (fun k hk => ?_)
      have hsl := showTo_len hf (p := p) (k := k)
      have hsl : (showTo g p k).length ≤ 10000000 := by have : (k + 1) * 1048600 ≤ 7 * 1048600 := Nat.mul_le_mul_right _ (by omega); omega
      rcases Nat.lt_or_ge k p.right.length with hkl | hkg
      · obtain ⟨s, hs⟩ := get_ok hkl
        obtain ⟨y, hy⟩ := name_of_good hk1 (hgood.2 s (List.mem_of_getElem? hs))
        have hyl := name_len hf hy
        repeat' (first
          | refine Run.region ?_
          | refine Run.seq ?_
          | ((refine oB (frz := [2]) Et_ok (fun h => ?_) (fun h => ?_)) <;> (first | (exfalso; simp at h <;> fail) | (exfalso; simp at h; omega) | skip))
          | ((refine eB (fun h => ?_) (fun h => ?_)) <;> (first | (exfalso; simp at h <;> fail) | (exfalso; simp at h; omega) | skip))
          | refine oX (frz := [2]) Et_ok ?_
          | refine oS ?_
          | refine RunOps.nil ?_
          | refine Run.skip ?_
          | refine cT ?_
          | refine cF ?_
          | refine Run.block ?_
          | refine Run.exit ?_
          | refine Run.draw (frz := [2]) Et_ok (by kernel_rfl) ?_
          | refine eX ?_
          | refine eS ?_
          | refine eN ?_
          | refine oX (frz := [2]) (v := .d (.ep [.int .i64 s])) Et_ok ?_ (hf := (by first | (simp [inB] <;> fail) | (simp [inB]; omega))) (he := (by first | (simp [List.getD_eq_getElem?_getD, cellsD, hs] <;> fail) | fail))
          | refine eX (v := .d (.ep [.int .i64 s])) ?_ (hf := (by first | (simp [inB] <;> fail) | (simp [inB]; omega))) (he := (by first | (simp [List.getD_eq_getElem?_getD, cellsD, hs] <;> fail) | fail))
          | ((refine oK (called _ _ _ hf hk1 hy) (fun h => ?_) (fun h => ?_)) <;> (first | (exfalso; simp at h <;> fail) | (exfalso; simp at h; omega) | skip))
          | refine oC (called _ _ _ hf hk1 hy) ?_
          | ((refine eK (called _ _ _ hf hk1 hy) (fun h => ?_) (fun h => ?_)) <;> (first | (exfalso; simp at h <;> fail) | (exfalso; simp at h; omega) | skip))
          | refine eC (called _ _ _ hf hk1 hy) ?_
          | refine oX (frz := [2]) Et_ok ?_ (hf := (by first | (simp [Nat.ble_eq] <;> fail) | (simp [Nat.ble_eq]; omega)))
          | refine eX ?_ (hf := (by first | (simp [Nat.ble_eq] <;> fail) | (simp [Nat.ble_eq]; omega)))
          | (refine Run.ret ?_; (first | refine rB ?_ | refine rI ?_ | refine rA ?_ | refine rII ?_ | refine rSI ?_ | refine rT ?_ | refine rS ?_); first | done | (skip))
          | (exact ⟨k + 1, hkl, by omega, weak_of (by repeat' (first | exact trivial | refine ⟨rfl, ?_⟩ | refine ⟨(inc_get (k := k) (by kernel_rfl) (by omega)), ?_⟩ | refine ⟨(by rw [showTo_succ hs, nameS_of hy, List.append_assoc]; rfl), ?_⟩ | fail))⟩)
          | fail)
      · have hke : k = p.right.length := by omega
        subst hke
        repeat' (first
          | refine Run.region ?_
          | refine Run.seq ?_
          | ((refine oB (frz := [2]) Et_ok (fun h => ?_) (fun h => ?_)) <;> (first | (exfalso; simp at h <;> fail) | (exfalso; simp at h; omega) | skip))
          | ((refine eB (fun h => ?_) (fun h => ?_)) <;> (first | (exfalso; simp at h <;> fail) | (exfalso; simp at h; omega) | skip))
          | refine oX (frz := [2]) Et_ok ?_
          | refine oS ?_
          | refine RunOps.nil ?_
          | refine Run.skip ?_
          | refine cT ?_
          | refine cF ?_
          | refine Run.block ?_
          | refine Run.exit ?_
          | refine Run.draw (frz := [2]) Et_ok (by kernel_rfl) ?_
          | refine eX ?_
          | refine eS ?_
          | refine eN ?_
          | (refine Run.ret ?_; (first | refine rB ?_ | refine rI ?_ | refine rA ?_ | refine rII ?_ | refine rSI ?_ | refine rT ?_ | refine rS ?_); first | done | (rfl))
          | fail)
    · have e : showF g i = ([], 2) := by
        unfold showF
        rw [if_neg (by simp [h0])]
        split
        · rfl
        · rw [List.getElem?_eq_none (by omega)]
      rw [e]
      by_cases hi : 0 ≤ i
      · refine knownE Et_ok (fnAt Try.func19 (by kernel_rfl) (by kernel_rfl) : FnAt _ _ (mkFn Try.f19 [2])) ?_
        repeat' (first
          | refine Run.region ?_
          | refine Run.seq ?_
          | ((refine oB (frz := [2]) Et_ok (fun h => ?_) (fun h => ?_)) <;> (first | (exfalso; simp at h <;> fail) | (exfalso; simp at h; omega) | skip))
          | ((refine eB (fun h => ?_) (fun h => ?_)) <;> (first | (exfalso; simp at h <;> fail) | (exfalso; simp at h; omega) | skip))
          | refine oX (frz := [2]) Et_ok ?_
          | refine oS ?_
          | refine RunOps.nil ?_
          | refine Run.skip ?_
          | refine cT ?_
          | refine cF ?_
          | refine Run.block ?_
          | refine Run.exit ?_
          | refine Run.draw (frz := [2]) Et_ok (by kernel_rfl) ?_
          | refine eX ?_
          | refine eS ?_
          | refine eN ?_
          | ((refine oK (grCheck _ hf) (fun h => ?_) (fun h => ?_)) <;> (first | (exfalso; simp at h <;> fail) | (exfalso; simp at h; omega) | skip))
          | refine oC (grCheck _ hf) ?_
          | ((refine eK (grCheck _ hf) (fun h => ?_) (fun h => ?_)) <;> (first | (exfalso; simp at h <;> fail) | (exfalso; simp at h; omega) | skip))
          | refine eC (grCheck _ hf) ?_
          | (refine Run.ret ?_; (first | refine rB ?_ | refine rI ?_ | refine rA ?_ | refine rII ?_ | refine rSI ?_ | refine rT ?_ | refine rS ?_); first | done | (rfl))
          | (exfalso; first | (simp_all <;> fail) | (simp_all; omega))
          | fail)
      · refine knownE Et_ok (fnAt Try.func19 (by kernel_rfl) (by kernel_rfl) : FnAt _ _ (mkFn Try.f19 [2])) ?_
        repeat' (first
          | refine Run.region ?_
          | refine Run.seq ?_
          | ((refine oB (frz := [2]) Et_ok (fun h => ?_) (fun h => ?_)) <;> (first | (exfalso; simp at h <;> fail) | (exfalso; simp at h; omega) | skip))
          | ((refine eB (fun h => ?_) (fun h => ?_)) <;> (first | (exfalso; simp at h <;> fail) | (exfalso; simp at h; omega) | skip))
          | refine oX (frz := [2]) Et_ok ?_
          | refine oS ?_
          | refine RunOps.nil ?_
          | refine Run.skip ?_
          | refine cT ?_
          | refine cF ?_
          | refine Run.block ?_
          | refine Run.exit ?_
          | refine Run.draw (frz := [2]) Et_ok (by kernel_rfl) ?_
          | refine eX ?_
          | refine eS ?_
          | refine eN ?_
          | ((refine oK (grCheck _ hf) (fun h => ?_) (fun h => ?_)) <;> (first | (exfalso; simp at h <;> fail) | (exfalso; simp at h; omega) | skip))
          | refine oC (grCheck _ hf) ?_
          | ((refine eK (grCheck _ hf) (fun h => ?_) (fun h => ?_)) <;> (first | (exfalso; simp at h <;> fail) | (exfalso; simp at h; omega) | skip))
          | refine eC (grCheck _ hf) ?_
          | (refine Run.ret ?_; (first | refine rB ?_ | refine rI ?_ | refine rA ?_ | refine rII ?_ | refine rSI ?_ | refine rT ?_ | refine rS ?_); first | done | (rfl))
          | (exfalso; first | (simp_all <;> fail) | (simp_all; omega))
          | fail)
  · have e : showF g i = ([], checkF g) := by simp [showF, h0]
    rw [e]
    refine knownE Et_ok (fnAt Try.func19 (by kernel_rfl) (by kernel_rfl) : FnAt _ _ (mkFn Try.f19 [2])) ?_
    repeat' (first
      | refine Run.region ?_
      | refine Run.seq ?_
      | ((refine oB (frz := [2]) Et_ok (fun h => ?_) (fun h => ?_)) <;> (first | (exfalso; simp at h <;> fail) | (exfalso; simp at h; omega) | skip))
      | ((refine eB (fun h => ?_) (fun h => ?_)) <;> (first | (exfalso; simp at h <;> fail) | (exfalso; simp at h; omega) | skip))
      | refine oX (frz := [2]) Et_ok ?_
      | refine oS ?_
      | refine RunOps.nil ?_
      | refine Run.skip ?_
      | refine cT ?_
      | refine cF ?_
      | refine Run.block ?_
      | refine Run.exit ?_
      | refine Run.draw (frz := [2]) Et_ok (by kernel_rfl) ?_
      | refine eX ?_
      | refine eS ?_
      | refine eN ?_
      | ((refine oK (grCheck _ hf) (fun h => ?_) (fun h => ?_)) <;> (first | (exfalso; simp at h <;> fail) | (exfalso; simp at h; omega) | skip))
      | refine oC (grCheck _ hf) ?_
      | ((refine eK (grCheck _ hf) (fun h => ?_) (fun h => ?_)) <;> (first | (exfalso; simp at h <;> fail) | (exfalso; simp at h; omega) | skip))
      | refine eC (grCheck _ hf) ?_
      | (refine Run.ret ?_; (first | refine rB ?_ | refine rI ?_ | refine rA ?_ | refine rII ?_ | refine rSI ?_ | refine rT ?_ | refine rS ?_); first | done | (rfl))
      | (exfalso; (simp_all <;> fail))
      | fail)
end Go.Av
end
noncomputable section
namespace Go.Av
open Go Go.Proofs
set_option maxRecDepth 10000
def xsF (p : GProd) : List DV → List Ob
  | [] => []
  | _ :: l => [.box [.d (.int .i64 p.left), .d (ints p.right)], .room (l.length + 1) 1]
def p0F (g : Gram) (s : Int) : GProd := (g.prods.find? (fun p => decide (p.left = s))).getD ⟨0, []⟩
theorem p0_first {g : Gram} {s : Int} {k : Nat} {p : GProd} (hp : g.prods[k]? = some p) (h : p.left = s) (hn : natsD (prodsTo g s k) = []) : p0F g s = p := by
  have hno : ∀ q ∈ g.prods.take k, ¬ q.left = s := by
    intro q hq he
    obtain ⟨j, hj, e⟩ := List.getElem_of_mem hq
    have hm : (q, j) ∈ (g.prods.take k).zipIdx := by rw [List.mem_zipIdx_iff_getElem?, List.getElem?_eq_getElem hj, e]
    have : j ∈ prodsTo g s k := by
      simp only [prodsTo, List.mem_map, List.mem_filter]
      exact ⟨(q, j), ⟨hm, by simp [he]⟩, rfl⟩
    have hn' : prodsTo g s k = [] := by simpa [natsD] using hn
    rw [hn'] at this
    cases this
  have hlt := (List.getElem?_eq_some_iff.1 hp).1
  have hsplit : g.prods = g.prods.take k ++ p :: g.prods.drop (k + 1) := by
    rw [← (List.getElem?_eq_some_iff.1 hp).2, ← List.drop_eq_getElem_cons hlt, List.take_append_drop]
  unfold p0F
  rw [hsplit, List.find?_append, List.find?_eq_none.2 (by simpa using hno)]
  simp [h]
theorem askProds (g : Gram) (s : Int) (hf : Fits g) : KnownCall Try.prog 12 [encG g, .int .i64 s] (.tup [.d (.sl 1 (natsD (askProdsF g s).1)), .d (.int .i64 (askProdsF g s).2)]) := by
  have hfp := hf.prods
  by_cases h0 : (ntermF g s).2 = 0
  · have e : askProdsF g s = (prodsF g s, 0) := by simp [askProdsF, h0]
    rw [e]
    refine knownE2 Et_ok (fnAt Try.func12 (by kernel_rfl) (by kernel_rfl) : FnAt _ _ (mkFn Try.f12 [2, 3, 30])) ?_
    repeat' (first
      | refine Run.region ?_
      | refine Run.seq ?_
      | ((refine oB (frz := [2, 3, 30]) Et_ok (fun h => ?_) (fun h => ?_)) <;> (first | (exfalso; simp at h <;> fail) | (exfalso; simp at h; omega) | skip))
      | ((refine eB (fun h => ?_) (fun h => ?_)) <;> (first | (exfalso; simp at h <;> fail) | (exfalso; simp at h; omega) | skip))
      | refine oX (frz := [2, 3, 30]) Et_ok ?_
      | refine oS ?_
      | refine RunOps.nil ?_
      | refine Run.skip ?_
      | refine cT ?_
      | refine cF ?_
      | refine Run.block ?_
      | refine Run.exit ?_
      | refine Run.draw (frz := [2, 3, 30]) Et_ok (by kernel_rfl) ?_
      | refine eX ?_
      | refine eS ?_
      | refine eN ?_
      | ((refine oK (askNonterm _ _ hf) (fun h => ?_) (fun h => ?_)) <;> (first | (exfalso; simp at h <;> fail) | (exfalso; simp at h; omega) | skip))
      | refine oC (askNonterm _ _ hf) ?_
      | ((refine eK (askNonterm _ _ hf) (fun h => ?_) (fun h => ?_)) <;> (first | (exfalso; simp at h <;> fail) | (exfalso; simp at h; omega) | skip))
      | refine eC (askNonterm _ _ hf) ?_
      | ((refine oK (prodsOf g) (fun h => ?_) (fun h => ?_)) <;> (first | (exfalso; simp at h <;> fail) | (exfalso; simp at h; omega) | skip))
      | refine oC (prodsOf g) ?_
      | ((refine eK (prodsOf g) (fun h => ?_) (fun h => ?_)) <;> (first | (exfalso; simp at h <;> fail) | (exfalso; simp at h; omega) | skip))
      | refine eC (prodsOf g) ?_
      | (refine Run.ret ?_; refine r2 ?_; first | done | (skip))
      | (exfalso; (simp [h0] at h <;> fail))
      | fail)
    refine Run.rangeProdsX (frz := [2, 3, 30]) 1 (fun k => [.box [rowA 4 1 (natsD (prodsTo g s k))]]) (fun k => xsF (p0F g s) (natsD (prodsTo g s k))) g.prods (by omega) (by rfl) rfl (fun _ => rfl) (fun k => ?_) (fun k => ?_) (fun n => ?_) (fun k p hk hp => ?_) ?_
    · generalize natsD (prodsTo g s k) = acc
      cases acc with
      | nil => rfl
      | cons a l => rfl
    · generalize natsD (prodsTo g s k) = acc
      cases acc with
      | nil => rfl
      | cons a l => rfl
    · rw [show 1 + 2 + n = n + 3 from by omega]; rfl
    · have hal : (natsD (prodsTo g s k)).length ≤ k := by simpa using prodsTo_len g s k
      simp only [prodsTo_succ hp, natsD_append]
      by_cases hps : p.left = s
      · rw [if_pos hps]
        have hfirst := p0_first hp hps
        generalize natsD (prodsTo g s k) = acc at hal hfirst ⊢
        rcases acc with _ | ⟨a, l⟩
        · rw [hfirst rfl]
          refine ayield_of_run (i := 2) (by rfl) (by rfl) (by rfl) ?_
          repeat (first
            | refine oX (frz := [2, 3, 30]) Et_ok ?_
            | refine oS ?_
            | refine RunOps.nil ?_
            | refine Run.region ?_
            | refine Run.seq ?_
            | refine Run.skip ?_
            | refine Run.block ?_
            | refine Run.exit ?_
            | refine Run.draw (frz := [2, 3, 30]) Et_ok (by kernel_rfl) ?_
            | refine eX ?_
            | refine eS ?_
            | refine eN ?_)
          refine ⟨rfl, _, _, _, _, _, _, _, by rfl, ?_⟩
          refine Run.less ?_
          repeat' (first
            | refine Run.region ?_
            | refine Run.seq ?_
            | ((refine oB (frz := [2, 3, 30]) Et_ok (fun h => ?_) (fun h => ?_)) <;> (first | (exfalso; simp at h <;> fail) | (exfalso; simp at h; omega) | skip))
            | ((refine eB (fun h => ?_) (fun h => ?_)) <;> (first | (exfalso; simp at h <;> fail) | (exfalso; simp at h; omega) | skip))
            | refine oX (frz := [2, 3, 30]) Et_ok ?_
            | refine oS ?_
            | refine RunOps.nil ?_
            | refine Run.skip ?_
            | refine cT ?_
            | refine cF ?_
            | refine Run.block ?_
            | refine Run.exit ?_
            | refine Run.draw (frz := [2, 3, 30]) Et_ok (by kernel_rfl) ?_
            | refine eX ?_
            | refine eS ?_
            | refine eN ?_
            | refine oX (frz := [2, 3, 30]) Et_ok ?_ (hv := app1) (hf := rfl) (he := rfl)
            | refine eX ?_ (hv := app1) (hf := rfl) (he := rfl)
            | refine oX (frz := [2, 3, 30]) Et_ok ?_ (hv := app0) (hf := rfl) (he := rfl)
            | refine eX ?_ (hv := app0) (hf := rfl) (he := rfl)
            | (exact ⟨rfl, _, less_of [] 5 rfl (by rfl) trivial trivial (by kernel_rfl) rfl, _, _, _, _, _, _, _, _, by rfl, rfl, by rfl⟩)
            | ((exfalso; (simp_all <;> fail)))
            | fail)
        · have hal' : l.length + 1 ≤ k := hal
          rw [show xsF (p0F g s) (a :: l ++ natsD [k]) = [.box [.d (.int .i64 (p0F g s).left), .d (ints (p0F g s).right)], .room (l.length + 1 + 1) 1] from by simp [xsF, natsD]]
          refine ayield_of_run (i := 2) (by rfl) (by rfl) (by rfl) ?_
          repeat (first
            | refine oX (frz := [2, 3, 30]) Et_ok ?_
            | refine oS ?_
            | refine RunOps.nil ?_
            | refine Run.region ?_
            | refine Run.seq ?_
            | refine Run.skip ?_
            | refine Run.block ?_
            | refine Run.exit ?_
            | refine Run.draw (frz := [2, 3, 30]) Et_ok (by kernel_rfl) ?_
            | refine eX ?_
            | refine eS ?_
            | refine eN ?_)
          refine ⟨rfl, _, _, _, _, _, _, _, by rfl, ?_⟩
          refine Run.less ?_
          repeat' (first
            | refine Run.region ?_
            | refine Run.seq ?_
            | ((refine oB (frz := [2, 3, 30]) Et_ok (fun h => ?_) (fun h => ?_)) <;> (first | (exfalso; simp at h <;> fail) | (exfalso; simp at h; omega) | skip))
            | ((refine eB (fun h => ?_) (fun h => ?_)) <;> (first | (exfalso; simp at h <;> fail) | (exfalso; simp at h; omega) | skip))
            | refine oX (frz := [2, 3, 30]) Et_ok ?_
            | refine oS ?_
            | refine RunOps.nil ?_
            | refine Run.skip ?_
            | refine cT ?_
            | refine cF ?_
            | refine Run.block ?_
            | refine Run.exit ?_
            | refine Run.draw (frz := [2, 3, 30]) Et_ok (by kernel_rfl) ?_
            | refine eX ?_
            | refine eS ?_
            | refine eN ?_
            | refine oX (frz := [2, 3, 30]) Et_ok ?_ (hv := app1) (hf := rfl) (he := rfl)
            | refine eX ?_ (hv := app1) (hf := rfl) (he := rfl)
            | refine oX (frz := [2, 3, 30]) Et_ok ?_ (hv := app0) (hf := rfl) (he := rfl)
            | refine eX ?_ (hv := app0) (hf := rfl) (he := rfl)
            | (exact ⟨rfl, _, less_of [] 5 rfl (by rfl) trivial trivial (by kernel_rfl) rfl, _, _, _, _, _, _, _, _, by rfl, rfl, by rfl⟩)
            | ((exfalso; (simp_all <;> fail)))
            | fail)
      · rw [if_neg hps]
        generalize natsD (prodsTo g s k) = acc at hal ⊢
        rw [show acc ++ natsD [] = acc from List.append_nil _]
        rcases acc with _ | ⟨a, l⟩
        · refine ayield_of_run (i := 2) (by rfl) (by rfl) (by rfl) ?_
          repeat (first
            | refine oX (frz := [2, 3, 30]) Et_ok ?_
            | refine oS ?_
            | refine RunOps.nil ?_
            | refine Run.region ?_
            | refine Run.seq ?_
            | refine Run.skip ?_
            | refine Run.block ?_
            | refine Run.exit ?_
            | refine Run.draw (frz := [2, 3, 30]) Et_ok (by kernel_rfl) ?_
            | refine eX ?_
            | refine eS ?_
            | refine eN ?_)
          refine ⟨rfl, _, _, _, _, _, _, _, by rfl, ?_⟩
          refine Run.less ?_
          repeat' (first
            | refine Run.region ?_
            | refine Run.seq ?_
            | ((refine oB (frz := [2, 3, 30]) Et_ok (fun h => ?_) (fun h => ?_)) <;> (first | (exfalso; simp at h <;> fail) | (exfalso; simp at h; omega) | skip))
            | ((refine eB (fun h => ?_) (fun h => ?_)) <;> (first | (exfalso; simp at h <;> fail) | (exfalso; simp at h; omega) | skip))
            | refine oX (frz := [2, 3, 30]) Et_ok ?_
            | refine oS ?_
            | refine RunOps.nil ?_
            | refine Run.skip ?_
            | refine cT ?_
            | refine cF ?_
            | refine Run.block ?_
            | refine Run.exit ?_
            | refine Run.draw (frz := [2, 3, 30]) Et_ok (by kernel_rfl) ?_
            | refine eX ?_
            | refine eS ?_
            | refine eN ?_
            | refine oX (frz := [2, 3, 30]) Et_ok ?_ (hv := app1) (hf := rfl) (he := rfl)
            | refine eX ?_ (hv := app1) (hf := rfl) (he := rfl)
            | refine oX (frz := [2, 3, 30]) Et_ok ?_ (hv := app0) (hf := rfl) (he := rfl)
            | refine eX ?_ (hv := app0) (hf := rfl) (he := rfl)
            | (exact ⟨rfl, _, less_of [] 3 rfl (by rfl) trivial trivial (by kernel_rfl) rfl, _, _, _, _, _, _, _, _, by rfl, rfl, by rfl⟩)
            | ((exfalso; (simp_all <;> fail)))
            | fail)
        · refine ayield_of_run (i := 2) (by rfl) (by rfl) (by rfl) ?_
          repeat (first
            | refine oX (frz := [2, 3, 30]) Et_ok ?_
            | refine oS ?_
            | refine RunOps.nil ?_
            | refine Run.region ?_
            | refine Run.seq ?_
            | refine Run.skip ?_
            | refine Run.block ?_
            | refine Run.exit ?_
            | refine Run.draw (frz := [2, 3, 30]) Et_ok (by kernel_rfl) ?_
            | refine eX ?_
            | refine eS ?_
            | refine eN ?_)
          refine ⟨rfl, _, _, _, _, _, _, _, by rfl, ?_⟩
          refine Run.less ?_
          repeat' (first
            | refine Run.region ?_
            | refine Run.seq ?_
            | ((refine oB (frz := [2, 3, 30]) Et_ok (fun h => ?_) (fun h => ?_)) <;> (first | (exfalso; simp at h <;> fail) | (exfalso; simp at h; omega) | skip))
            | ((refine eB (fun h => ?_) (fun h => ?_)) <;> (first | (exfalso; simp at h <;> fail) | (exfalso; simp at h; omega) | skip))
            | refine oX (frz := [2, 3, 30]) Et_ok ?_
            | refine oS ?_
            | refine RunOps.nil ?_
            | refine Run.skip ?_
            | refine cT ?_
            | refine cF ?_
            | refine Run.block ?_
            | refine Run.exit ?_
            | refine Run.draw (frz := [2, 3, 30]) Et_ok (by kernel_rfl) ?_
            | refine eX ?_
            | refine eS ?_
            | refine eN ?_
            | refine oX (frz := [2, 3, 30]) Et_ok ?_ (hv := app1) (hf := rfl) (he := rfl)
            | refine eX ?_ (hv := app1) (hf := rfl) (he := rfl)
            | refine oX (frz := [2, 3, 30]) Et_ok ?_ (hv := app0) (hf := rfl) (he := rfl)
            | refine eX ?_ (hv := app0) (hf := rfl) (he := rfl)
            | (exact ⟨rfl, _, less_of [] 5 rfl (by rfl) trivial trivial (by kernel_rfl) rfl, _, _, _, _, _, _, _, _, by rfl, rfl, by rfl⟩)
            | ((exfalso; (simp_all <;> fail)))
            | fail)
    · show _
      rw [show natsD (prodsTo g s g.prods.length) = natsD (prodsF g s) from rfl]
      generalize natsD (prodsF g s) = acc
      rcases acc with _ | ⟨a, l⟩
      · repeat' (first
          | refine Run.region ?_
          | refine Run.seq ?_
          | ((refine oB (frz := [2, 3, 30]) Et_ok (fun h => ?_) (fun h => ?_)) <;> (first | (exfalso; simp at h <;> fail) | (exfalso; simp at h; omega) | skip))
          | ((refine eB (fun h => ?_) (fun h => ?_)) <;> (first | (exfalso; simp at h <;> fail) | (exfalso; simp at h; omega) | skip))
          | refine oX (frz := [2, 3, 30]) Et_ok ?_
          | refine oS ?_
          | refine RunOps.nil ?_
          | refine Run.skip ?_
          | refine cT ?_
          | refine cF ?_
          | refine Run.block ?_
          | refine Run.exit ?_
          | refine Run.draw (frz := [2, 3, 30]) Et_ok (by kernel_rfl) ?_
          | refine eX ?_
          | refine eS ?_
          | refine eN ?_
          | (refine Run.ret ?_; refine r2 ?_; first | done | (exact .tup2 .nil .refl))
          | fail)
      · repeat' (first
          | refine Run.region ?_
          | refine Run.seq ?_
          | ((refine oB (frz := [2, 3, 30]) Et_ok (fun h => ?_) (fun h => ?_)) <;> (first | (exfalso; simp at h <;> fail) | (exfalso; simp at h; omega) | skip))
          | ((refine eB (fun h => ?_) (fun h => ?_)) <;> (first | (exfalso; simp at h <;> fail) | (exfalso; simp at h; omega) | skip))
          | refine oX (frz := [2, 3, 30]) Et_ok ?_
          | refine oS ?_
          | refine RunOps.nil ?_
          | refine Run.skip ?_
          | refine cT ?_
          | refine cF ?_
          | refine Run.block ?_
          | refine Run.exit ?_
          | refine Run.draw (frz := [2, 3, 30]) Et_ok (by kernel_rfl) ?_
          | refine eX ?_
          | refine eS ?_
          | refine eN ?_
          | (refine Run.ret ?_; refine r2 ?_; first | done | (exact .refl))
          | fail)
  · have e : askProdsF g s = ([], (ntermF g s).2) := by simp [askProdsF, h0]
    rw [e]
    refine knownE2 Et_ok (fnAt Try.func12 (by kernel_rfl) (by kernel_rfl) : FnAt _ _ (mkFn Try.f12 [2, 3, 30])) ?_
    repeat' (first
      | refine Run.region ?_
      | refine Run.seq ?_
      | ((refine oB (frz := [2, 3, 30]) Et_ok (fun h => ?_) (fun h => ?_)) <;> (first | (exfalso; simp at h <;> fail) | (exfalso; simp at h; omega) | skip))
      | ((refine eB (fun h => ?_) (fun h => ?_)) <;> (first | (exfalso; simp at h <;> fail) | (exfalso; simp at h; omega) | skip))
      | refine oX (frz := [2, 3, 30]) Et_ok ?_
      | refine oS ?_
      | refine RunOps.nil ?_
      | refine Run.skip ?_
      | refine cT ?_
      | refine cF ?_
      | refine Run.block ?_
      | refine Run.exit ?_
      | refine Run.draw (frz := [2, 3, 30]) Et_ok (by kernel_rfl) ?_
      | refine eX ?_
      | refine eS ?_
      | refine eN ?_
      | ((refine oK (askNonterm _ _ hf) (fun h => ?_) (fun h => ?_)) <;> (first | (exfalso; simp at h <;> fail) | (exfalso; simp at h; omega) | skip))
      | refine oC (askNonterm _ _ hf) ?_
      | ((refine eK (askNonterm _ _ hf) (fun h => ?_) (fun h => ?_)) <;> (first | (exfalso; simp at h <;> fail) | (exfalso; simp at h; omega) | skip))
      | refine eC (askNonterm _ _ hf) ?_
      | (refine Run.ret ?_; refine r2 ?_; first | done | (exact .tup2 .nil .refl))
      | (exfalso; (simp [h0] at h <;> fail))
      | fail)
end Go.Av
end
noncomputable section
namespace Go.Av
open Go Go.Proofs
set_option maxRecDepth 10000
theorem short (l : List (List Nat)) (most : Nat) (hl : l.length ≤ 1048576) : KnownCall Try.prog 25 [strs l, .int .i64 most] (.d (.bool (l.all fun s => decide (s.length ≤ most)))) := by
  refine knownE Et_ok (fnAt Try.func25 (by kernel_rfl) (by kernel_rfl) : FnAt _ _ (mkFn Try.f25 [])) ?_
  repeat' (first
    | refine Run.region ?_
    | refine Run.seq ?_
    | ((refine oB (frz := []) Et_ok (fun h => ?_) (fun h => ?_)) <;> (first | (exfalso; simp at h <;> fail) | (exfalso; simp at h; omega) | skip))
    | ((refine eB (fun h => ?_) (fun h => ?_)) <;> (first | (exfalso; simp at h <;> fail) | (exfalso; simp at h; omega) | skip))
    | refine oX (frz := []) Et_ok ?_
    | refine oS ?_
    | refine RunOps.nil ?_
    | refine Run.skip ?_
    | refine cT ?_
    | refine cF ?_
    | refine Run.block ?_
    | refine Run.exit ?_
    | refine Run.draw (frz := []) Et_ok (by kernel_rfl) ?_
    | refine eX ?_
    | refine eS ?_
    | refine eN ?_
    | (refine Run.ret ?_; (first | refine rB ?_ | refine rI ?_ | refine rA ?_ | refine rII ?_ | refine rSI ?_ | refine rT ?_ | refine rS ?_); first | done | (skip))
    | fail)
  refine Run.loop (fun i : Nat => ⟨PT.ofList [(0, .d (strs l)), (1, .d (.int .i64 most)), (5, .d (.int .i64 i))], [], []⟩) (fun i => i ≤ l.length ∧ (l.take i).all (fun s => decide (s.length ≤ most)) = true) (fun i => l.length - i) 0 ⟨Nat.zero_le _, rfl⟩ (weak_of (by repeat' (first | exact trivial | refine ⟨rfl, ?_⟩))) (fun i hi => ?_)
  rcases Nat.lt_or_ge i l.length with hlt | hge
  · obtain ⟨x, hx⟩ := get_ok hlt
    by_cases hxl : x.length ≤ most
    · have ht : (l.take (i + 1)).all (fun s => decide (s.length ≤ most)) = true := by rw [List.take_add_one, hx]; simp only [Option.toList_some, List.all_append, hi.2]; simp [hxl]
      repeat' (first
        | refine Run.region ?_
        | refine Run.seq ?_
        | ((refine oB (frz := []) Et_ok (fun h => ?_) (fun h => ?_)) <;> (first | (exfalso; simp at h <;> fail) | (exfalso; simp at h; omega) | skip))
        | ((refine eB (fun h => ?_) (fun h => ?_)) <;> (first | (exfalso; simp at h <;> fail) | (exfalso; simp at h; omega) | skip))
        | refine oX (frz := []) Et_ok ?_
        | refine oS ?_
        | refine RunOps.nil ?_
        | refine Run.skip ?_
        | refine cT ?_
        | refine cF ?_
        | refine Run.block ?_
        | refine Run.exit ?_
        | refine Run.draw (frz := []) Et_ok (by kernel_rfl) ?_
        | refine eX ?_
        | refine eS ?_
        | refine eN ?_
        | refine oX (frz := []) (v := .d (.ep [.str x])) Et_ok ?_ (hf := (by first | (simp [inB] <;> fail) | (simp [inB]; omega))) (he := (by first | (simp [List.getD_eq_getElem?_getD, cellsD, hx] <;> fail) | fail))
        | refine eX (v := .d (.ep [.str x])) ?_ (hf := (by first | (simp [inB] <;> fail) | (simp [inB]; omega))) (he := (by first | (simp [List.getD_eq_getElem?_getD, cellsD, hx] <;> fail) | fail))
        | (refine Run.ret ?_; (first | refine rB ?_ | refine rI ?_ | refine rA ?_ | refine rII ?_ | refine rSI ?_ | refine rT ?_ | refine rS ?_); first | done | (skip))
        | (exact ⟨i + 1, ⟨hlt, ht⟩, by omega, weak_of (by repeat' (first | exact trivial | refine ⟨rfl, ?_⟩ | refine ⟨(inc_get (k := i) (by kernel_rfl) (by omega)), ?_⟩))⟩)
        | ((exfalso; first | (simp_all <;> fail) | (simp_all; omega)))
        | fail)
    · have hf : (l.all fun s => decide (s.length ≤ most)) = false := by
        rw [List.all_eq_false]; exact ⟨x, List.mem_of_getElem? hx, by simpa using hxl⟩
      rw [hf]
      repeat' (first
        | refine Run.region ?_
        | refine Run.seq ?_
        | ((refine oB (frz := []) Et_ok (fun h => ?_) (fun h => ?_)) <;> (first | (exfalso; simp at h <;> fail) | (exfalso; simp at h; omega) | skip))
        | ((refine eB (fun h => ?_) (fun h => ?_)) <;> (first | (exfalso; simp at h <;> fail) | (exfalso; simp at h; omega) | skip))
        | refine oX (frz := []) Et_ok ?_
        | refine oS ?_
        | refine RunOps.nil ?_
        | refine Run.skip ?_
        | refine cT ?_
        | refine cF ?_
        | refine Run.block ?_
        | refine Run.exit ?_
        | refine Run.draw (frz := []) Et_ok (by kernel_rfl) ?_
        | refine eX ?_
        | refine eS ?_
        | refine eN ?_
        | refine oX (frz := []) (v := .d (.ep [.str x])) Et_ok ?_ (hf := (by first | (simp [inB] <;> fail) | (simp [inB]; omega))) (he := (by first | (simp [List.getD_eq_getElem?_getD, cellsD, hx] <;> fail) | fail))
        | refine eX (v := .d (.ep [.str x])) ?_ (hf := (by first | (simp [inB] <;> fail) | (simp [inB]; omega))) (he := (by first | (simp [List.getD_eq_getElem?_getD, cellsD, hx] <;> fail) | fail))
        | (refine Run.ret ?_; (first | refine rB ?_ | refine rI ?_ | refine rA ?_ | refine rII ?_ | refine rSI ?_ | refine rT ?_ | refine rS ?_); first | done | (rfl))
        | ((exfalso; first | (simp_all <;> fail) | (simp_all; omega)))
        | fail)
  · have hie : i = l.length := by omega
    subst hie
    have ht := hi.2
    rw [List.take_length] at ht
    rw [ht]
    repeat' (first
      | refine Run.region ?_
      | refine Run.seq ?_
      | ((refine oB (frz := []) Et_ok (fun h => ?_) (fun h => ?_)) <;> (first | (exfalso; simp at h <;> fail) | (exfalso; simp at h; omega) | skip))
      | ((refine eB (fun h => ?_) (fun h => ?_)) <;> (first | (exfalso; simp at h <;> fail) | (exfalso; simp at h; omega) | skip))
      | refine oX (frz := []) Et_ok ?_
      | refine oS ?_
      | refine RunOps.nil ?_
      | refine Run.skip ?_
      | refine cT ?_
      | refine cF ?_
      | refine Run.block ?_
      | refine Run.exit ?_
      | refine Run.draw (frz := []) Et_ok (by kernel_rfl) ?_
      | refine eX ?_
      | refine eS ?_
      | refine eN ?_
      | (refine Run.ret ?_; (first | refine rB ?_ | refine rI ?_ | refine rA ?_ | refine rII ?_ | refine rSI ?_ | refine rT ?_ | refine rS ?_); first | done | (rfl))
      | ((exfalso; first | (simp_all <;> fail) | (simp_all; omega)))
      | fail)
theorem sameInts (a b : List Int) (hal : a.length ≤ 1099511627776) : KnownCall Try.prog 14 [ints a, ints b] (.d (.bool (decide (a = b)))) := by
  by_cases hlen : a.length = b.length
  · refine knownE Et_ok (fnAt Try.func14 (by kernel_rfl) (by kernel_rfl) : FnAt _ _ (mkFn Try.f14 [])) ?_
    repeat' (first
      | refine Run.region ?_
      | refine Run.seq ?_
      | ((refine oB (frz := []) Et_ok (fun h => ?_) (fun h => ?_)) <;> (first | (exfalso; simp at h <;> fail) | (exfalso; simp at h; omega) | skip))
      | ((refine eB (fun h => ?_) (fun h => ?_)) <;> (first | (exfalso; simp at h <;> fail) | (exfalso; simp at h; omega) | skip))
      | refine oX (frz := []) Et_ok ?_
      | refine oS ?_
      | refine RunOps.nil ?_
      | refine Run.skip ?_
      | refine cT ?_
      | refine cF ?_
      | refine Run.block ?_
      | refine Run.exit ?_
      | refine Run.draw (frz := []) Et_ok (by kernel_rfl) ?_
      | refine eX ?_
      | refine eS ?_
      | refine eN ?_
      | (refine Run.ret ?_; (first | refine rB ?_ | refine rI ?_ | refine rA ?_ | refine rII ?_ | refine rSI ?_ | refine rT ?_ | refine rS ?_); first | done | (skip))
      | ((exfalso; first | (simp_all <;> fail) | (simp_all; omega)))
      | fail)
    refine Run.loop (fun i : Nat => ⟨PT.ofList [(0, .d (ints a)), (1, .d (ints b)), (5, .d (.int .i64 i))], [], []⟩) (fun i => i ≤ a.length ∧ a.take i = b.take i) (fun i => a.length - i) 0 ⟨Nat.zero_le _, rfl⟩ (weak_of (by repeat' (first | exact trivial | refine ⟨rfl, ?_⟩))) (fun i hi => ?_)
    rcases Nat.lt_or_ge i a.length with hlt | hge
    · obtain ⟨x, hx⟩ := get_ok hlt
      obtain ⟨y, hy⟩ := get_ok (show i < b.length by omega)
      by_cases hxy : x = y
      · subst hxy
        have ht : a.take (i + 1) = b.take (i + 1) := by rw [List.take_add_one, List.take_add_one, hi.2, hx, hy]
        repeat' (first
          | refine Run.region ?_
          | refine Run.seq ?_
          | ((refine oB (frz := []) Et_ok (fun h => ?_) (fun h => ?_)) <;> (first | (exfalso; simp at h <;> fail) | (exfalso; simp at h; omega) | skip))
          | ((refine eB (fun h => ?_) (fun h => ?_)) <;> (first | (exfalso; simp at h <;> fail) | (exfalso; simp at h; omega) | skip))
          | refine oX (frz := []) Et_ok ?_
          | refine oS ?_
          | refine RunOps.nil ?_
          | refine Run.skip ?_
          | refine cT ?_
          | refine cF ?_
          | refine Run.block ?_
          | refine Run.exit ?_
          | refine Run.draw (frz := []) Et_ok (by kernel_rfl) ?_
          | refine eX ?_
          | refine eS ?_
          | refine eN ?_
          | refine oX (frz := []) (v := .d (.ep [.int .i64 x])) Et_ok ?_ (hf := (by first | (simp [inB] <;> fail) | (simp [inB]; omega))) (he := (by first | (simp [List.getD_eq_getElem?_getD, cellsD, hx] <;> fail) | fail))
          | refine eX (v := .d (.ep [.int .i64 x])) ?_ (hf := (by first | (simp [inB] <;> fail) | (simp [inB]; omega))) (he := (by first | (simp [List.getD_eq_getElem?_getD, cellsD, hx] <;> fail) | fail))
          | refine oX (frz := []) (v := .d (.ep [.int .i64 x])) Et_ok ?_ (hf := (by first | (simp [inB] <;> fail) | (simp [inB]; omega))) (he := (by first | (simp [List.getD_eq_getElem?_getD, cellsD, hy] <;> fail) | fail))
          | refine eX (v := .d (.ep [.int .i64 x])) ?_ (hf := (by first | (simp [inB] <;> fail) | (simp [inB]; omega))) (he := (by first | (simp [List.getD_eq_getElem?_getD, cellsD, hy] <;> fail) | fail))
          | (refine Run.ret ?_; (first | refine rB ?_ | refine rI ?_ | refine rA ?_ | refine rII ?_ | refine rSI ?_ | refine rT ?_ | refine rS ?_); first | done | (skip))
          | (exact ⟨i + 1, ⟨hlt, ht⟩, by omega, weak_of (by repeat' (first | exact trivial | refine ⟨rfl, ?_⟩ | refine ⟨(inc_get (k := i) (by kernel_rfl) (by omega)), ?_⟩))⟩)
          | ((exfalso; first | (simp_all <;> fail) | (simp_all; omega)))
          | fail)
      · have hne : a ≠ b := fun e => by subst e; rw [hx] at hy; cases hy; exact hxy rfl
        rw [decide_eq_false hne]
        repeat' (first
          | refine Run.region ?_
          | refine Run.seq ?_
          | ((refine oB (frz := []) Et_ok (fun h => ?_) (fun h => ?_)) <;> (first | (exfalso; simp at h <;> fail) | (exfalso; simp at h; omega) | skip))
          | ((refine eB (fun h => ?_) (fun h => ?_)) <;> (first | (exfalso; simp at h <;> fail) | (exfalso; simp at h; omega) | skip))
          | refine oX (frz := []) Et_ok ?_
          | refine oS ?_
          | refine RunOps.nil ?_
          | refine Run.skip ?_
          | refine cT ?_
          | refine cF ?_
          | refine Run.block ?_
          | refine Run.exit ?_
          | refine Run.draw (frz := []) Et_ok (by kernel_rfl) ?_
          | refine eX ?_
          | refine eS ?_
          | refine eN ?_
          | refine oX (frz := []) (v := .d (.ep [.int .i64 x])) Et_ok ?_ (hf := (by first | (simp [inB] <;> fail) | (simp [inB]; omega))) (he := (by first | (simp [List.getD_eq_getElem?_getD, cellsD, hx] <;> fail) | fail))
          | refine eX (v := .d (.ep [.int .i64 x])) ?_ (hf := (by first | (simp [inB] <;> fail) | (simp [inB]; omega))) (he := (by first | (simp [List.getD_eq_getElem?_getD, cellsD, hx] <;> fail) | fail))
          | refine oX (frz := []) (v := .d (.ep [.int .i64 y])) Et_ok ?_ (hf := (by first | (simp [inB] <;> fail) | (simp [inB]; omega))) (he := (by first | (simp [List.getD_eq_getElem?_getD, cellsD, hy] <;> fail) | fail))
          | refine eX (v := .d (.ep [.int .i64 y])) ?_ (hf := (by first | (simp [inB] <;> fail) | (simp [inB]; omega))) (he := (by first | (simp [List.getD_eq_getElem?_getD, cellsD, hy] <;> fail) | fail))
          | (refine Run.ret ?_; (first | refine rB ?_ | refine rI ?_ | refine rA ?_ | refine rII ?_ | refine rSI ?_ | refine rT ?_ | refine rS ?_); first | done | (rfl))
          | ((exfalso; first | (simp_all <;> fail) | (simp_all; omega)))
          | fail)
    · have hie : i = a.length := by have := hi.1; omega
      have hab : a = b := by have := hi.2; rw [hie, List.take_length, hlen, List.take_length] at this; exact this
      rw [decide_eq_true hab]
      repeat' (first
        | refine Run.region ?_
        | refine Run.seq ?_
        | ((refine oB (frz := []) Et_ok (fun h => ?_) (fun h => ?_)) <;> (first | (exfalso; simp at h <;> fail) | (exfalso; simp at h; omega) | skip))
        | ((refine eB (fun h => ?_) (fun h => ?_)) <;> (first | (exfalso; simp at h <;> fail) | (exfalso; simp at h; omega) | skip))
        | refine oX (frz := []) Et_ok ?_
        | refine oS ?_
        | refine RunOps.nil ?_
        | refine Run.skip ?_
        | refine cT ?_
        | refine cF ?_
        | refine Run.block ?_
        | refine Run.exit ?_
        | refine Run.draw (frz := []) Et_ok (by kernel_rfl) ?_
        | refine eX ?_
        | refine eS ?_
        | refine eN ?_
        | (refine Run.ret ?_; (first | refine rB ?_ | refine rI ?_ | refine rA ?_ | refine rII ?_ | refine rSI ?_ | refine rT ?_ | refine rS ?_); first | done | (rfl))
        | ((exfalso; first | (simp_all <;> fail) | (simp_all; omega)))
        | fail)
  · have hne : a ≠ b := fun e => by subst e; exact hlen rfl
    rw [decide_eq_false hne]
    refine knownE Et_ok (fnAt Try.func14 (by kernel_rfl) (by kernel_rfl) : FnAt _ _ (mkFn Try.f14 [])) ?_
    repeat' (first
      | refine Run.region ?_
      | refine Run.seq ?_
      | ((refine oB (frz := []) Et_ok (fun h => ?_) (fun h => ?_)) <;> (first | (exfalso; simp at h <;> fail) | (exfalso; simp at h; omega) | skip))
      | ((refine eB (fun h => ?_) (fun h => ?_)) <;> (first | (exfalso; simp at h <;> fail) | (exfalso; simp at h; omega) | skip))
      | refine oX (frz := []) Et_ok ?_
      | refine oS ?_
      | refine RunOps.nil ?_
      | refine Run.skip ?_
      | refine cT ?_
      | refine cF ?_
      | refine Run.block ?_
      | refine Run.exit ?_
      | refine Run.draw (frz := []) Et_ok (by kernel_rfl) ?_
      | refine eX ?_
      | refine eS ?_
      | refine eN ?_
      | (refine Run.ret ?_; (first | refine rB ?_ | refine rI ?_ | refine rA ?_ | refine rII ?_ | refine rSI ?_ | refine rT ?_ | refine rS ?_); first | done | (rfl))
      | ((exfalso; first | (simp_all <;> fail) | (simp_all; omega)))
      | fail)
def shortS (n : Nat) (l : List (List Nat)) : Bool := l.all fun s => decide (s.length ≤ n)
def lightF (g : Gram) : Bool := decide (g.tokens.length ≤ 10) && decide (g.names.length ≤ 10) && decide (g.prods.length ≤ 30) && decide (g.sep.length ≤ 40) && shortS 40 g.tokens && shortS 40 g.names && g.prods.all (fun p => decide (p.right.length ≤ 8))
theorem light_fits {g : Gram} (h : lightF g = true) : Fits g := by
  simp only [lightF, shortS, Bool.and_eq_true, decide_eq_true_eq, List.all_eq_true] at h
  obtain ⟨⟨⟨⟨⟨⟨h1, h2⟩, h3⟩, h4⟩, h5⟩, h6⟩, h7⟩ := h
  exact ⟨by omega, by omega, by omega, by omega, fun s hs => by have := h5 s hs; omega, fun s hs => by have := h6 s hs; omega, fun p hp => by have := h7 p hp; omega⟩
theorem light (g : Gram) : KnownCall Try.prog 7 [encG g] (.d (.bool (lightF g))) := by
  by_cases h0 : g.tokens.length ≤ 10 ∧ g.names.length ≤ 10 ∧ g.prods.length ≤ 30 ∧ g.sep.length ≤ 40
  · obtain ⟨h1, h2, h3, h4⟩ := h0
    have hs1 := short g.tokens 40 (by omega)
    have hs2 := short g.names 40 (by omega)
    by_cases hb : shortS 40 g.tokens = true ∧ shortS 40 g.names = true
    · rw [show lightF g = g.prods.all (fun p => decide (p.right.length ≤ 8)) from by simp [lightF, h1, h2, h3, h4, hb.1, hb.2]]
      have hb1 := hb.1
      have hb2 := hb.2
      simp only [shortS] at hb1 hb2
      rw [hb1] at hs1
      rw [hb2] at hs2
      refine knownE Et_ok (fnAt Try.func7 (by kernel_rfl) (by kernel_rfl) : FnAt _ _ (mkFn Try.f7 [1])) ?_
      repeat' (first
        | refine Run.region ?_
        | refine Run.seq ?_
        | ((refine oB (frz := [1]) Et_ok (fun h => ?_) (fun h => ?_)) <;> (first | (exfalso; simp at h <;> fail) | (exfalso; simp at h; omega) | skip))
        | ((refine eB (fun h => ?_) (fun h => ?_)) <;> (first | (exfalso; simp at h <;> fail) | (exfalso; simp at h; omega) | skip))
        | refine oX (frz := [1]) Et_ok ?_
        | refine oS ?_
        | refine RunOps.nil ?_
        | refine Run.skip ?_
        | refine cT ?_
        | refine cF ?_
        | refine Run.block ?_
        | refine Run.exit ?_
        | refine Run.draw (frz := [1]) Et_ok (by kernel_rfl) ?_
        | refine eX ?_
        | refine eS ?_
        | refine eN ?_
        | refine oC (hs1) ?_
        | refine eC (hs1) ?_
        | refine oC (hs2) ?_
        | refine eC (hs2) ?_
        | (refine Run.ret ?_; (first | refine rB ?_ | refine rI ?_ | refine rA ?_ | refine rII ?_ | refine rSI ?_ | refine rT ?_ | refine rS ?_); first | done | (skip))
        | ((exfalso; first | (simp_all <;> fail) | (simp_all; omega)))
        | fail)
      refine Run.loop (fun i : Nat => ⟨PT.ofList [(1, (.d (.ep [.int .i64 g.k, strs g.tokens, .str g.sep, strs g.names, .int .i64 g.start, .sl 2 (g.prods.map encP)]))), (3, .d (.int .i64 i))], [], []⟩) (fun i => i ≤ g.prods.length ∧ (g.prods.take i).all (fun p => decide (p.right.length ≤ 8)) = true) (fun i => g.prods.length - i) 0 ⟨Nat.zero_le _, rfl⟩ (weak_of (by repeat' (first | exact trivial | refine ⟨rfl, ?_⟩))) (fun i hi => ?_)
      rcases Nat.lt_or_ge i g.prods.length with hlt | hge
      · obtain ⟨p, hp⟩ := get_ok hlt
        by_cases hpl : p.right.length ≤ 8
        · have ht : (g.prods.take (i + 1)).all (fun p => decide (p.right.length ≤ 8)) = true := by rw [List.take_add_one, hp]; simp only [Option.toList_some, List.all_append, hi.2]; simp [hpl]
          repeat' (first
            | refine Run.region ?_
            | refine Run.seq ?_
            | ((refine oB (frz := [1]) Et_ok (fun h => ?_) (fun h => ?_)) <;> (first | (exfalso; simp at h <;> fail) | (exfalso; simp at h; omega) | skip))
            | ((refine eB (fun h => ?_) (fun h => ?_)) <;> (first | (exfalso; simp at h <;> fail) | (exfalso; simp at h; omega) | skip))
            | refine oX (frz := [1]) Et_ok ?_
            | refine oS ?_
            | refine RunOps.nil ?_
            | refine Run.skip ?_
            | refine cT ?_
            | refine cF ?_
            | refine Run.block ?_
            | refine Run.exit ?_
            | refine Run.draw (frz := [1]) Et_ok (by kernel_rfl) ?_
            | refine eX ?_
            | refine eS ?_
            | refine eN ?_
            | refine oX (frz := [1]) (v := .d (.ep [.int .i64 p.left, ints p.right])) Et_ok ?_ (hf := (by first | (simp [inB] <;> fail) | (simp [inB]; omega))) (he := (by first | (simp [List.getD_eq_getElem?_getD, cellsD, hp, encP] <;> fail) | fail))
            | refine eX (v := .d (.ep [.int .i64 p.left, ints p.right])) ?_ (hf := (by first | (simp [inB] <;> fail) | (simp [inB]; omega))) (he := (by first | (simp [List.getD_eq_getElem?_getD, cellsD, hp, encP] <;> fail) | fail))
            | (refine Run.ret ?_; (first | refine rB ?_ | refine rI ?_ | refine rA ?_ | refine rII ?_ | refine rSI ?_ | refine rT ?_ | refine rS ?_); first | done | (skip))
            | (exact ⟨i + 1, ⟨hlt, ht⟩, by omega, weak_of (by repeat' (first | exact trivial | refine ⟨rfl, ?_⟩ | refine ⟨(inc_get (k := i) (by kernel_rfl) (by omega)), ?_⟩))⟩)
            | ((exfalso; first | (simp_all <;> fail) | (simp_all; omega)))
            | fail)
        · have hf : (g.prods.all fun p => decide (p.right.length ≤ 8)) = false := by
            rw [List.all_eq_false]; exact ⟨p, List.mem_of_getElem? hp, by simpa using hpl⟩
          rw [hf]
          repeat' (first
            | refine Run.region ?_
            | refine Run.seq ?_
            | ((refine oB (frz := [1]) Et_ok (fun h => ?_) (fun h => ?_)) <;> (first | (exfalso; simp at h <;> fail) | (exfalso; simp at h; omega) | skip))
            | ((refine eB (fun h => ?_) (fun h => ?_)) <;> (first | (exfalso; simp at h <;> fail) | (exfalso; simp at h; omega) | skip))
            | refine oX (frz := [1]) Et_ok ?_
            | refine oS ?_
            | refine RunOps.nil ?_
            | refine Run.skip ?_
            | refine cT ?_
            | refine cF ?_
            | refine Run.block ?_
            | refine Run.exit ?_
            | refine Run.draw (frz := [1]) Et_ok (by kernel_rfl) ?_
            | refine eX ?_
            | refine eS ?_
            | refine eN ?_
            | refine oX (frz := [1]) (v := .d (.ep [.int .i64 p.left, ints p.right])) Et_ok ?_ (hf := (by first | (simp [inB] <;> fail) | (simp [inB]; omega))) (he := (by first | (simp [List.getD_eq_getElem?_getD, cellsD, hp, encP] <;> fail) | fail))
            | refine eX (v := .d (.ep [.int .i64 p.left, ints p.right])) ?_ (hf := (by first | (simp [inB] <;> fail) | (simp [inB]; omega))) (he := (by first | (simp [List.getD_eq_getElem?_getD, cellsD, hp, encP] <;> fail) | fail))
            | (refine Run.ret ?_; (first | refine rB ?_ | refine rI ?_ | refine rA ?_ | refine rII ?_ | refine rSI ?_ | refine rT ?_ | refine rS ?_); first | done | (rfl))
            | ((exfalso; first | (simp_all <;> fail) | (simp_all; omega)))
            | fail)
      · have hie : i = g.prods.length := by omega
        subst hie
        have ht := hi.2
        rw [List.take_length] at ht
        rw [ht]
        repeat' (first
          | refine Run.region ?_
          | refine Run.seq ?_
          | ((refine oB (frz := [1]) Et_ok (fun h => ?_) (fun h => ?_)) <;> (first | (exfalso; simp at h <;> fail) | (exfalso; simp at h; omega) | skip))
          | ((refine eB (fun h => ?_) (fun h => ?_)) <;> (first | (exfalso; simp at h <;> fail) | (exfalso; simp at h; omega) | skip))
          | refine oX (frz := [1]) Et_ok ?_
          | refine oS ?_
          | refine RunOps.nil ?_
          | refine Run.skip ?_
          | refine cT ?_
          | refine cF ?_
          | refine Run.block ?_
          | refine Run.exit ?_
          | refine Run.draw (frz := [1]) Et_ok (by kernel_rfl) ?_
          | refine eX ?_
          | refine eS ?_
          | refine eN ?_
          | (refine Run.ret ?_; (first | refine rB ?_ | refine rI ?_ | refine rA ?_ | refine rII ?_ | refine rSI ?_ | refine rT ?_ | refine rS ?_); first | done | (rfl))
          | ((exfalso; first | (simp_all <;> fail) | (simp_all; omega)))
          | fail)
    · have hf : lightF g = false := by
        have : (shortS 40 g.tokens && shortS 40 g.names) = false := by cases ha : shortS 40 g.tokens <;> cases hc : shortS 40 g.names <;> simp_all
        simp only [lightF, Bool.and_assoc]
        cases ha : shortS 40 g.tokens <;> cases hc : shortS 40 g.names <;> simp_all
      rw [hf]
      rw [show (g.tokens.all fun s => decide (s.length ≤ 40)) = shortS 40 g.tokens from rfl] at hs1
      rw [show (g.names.all fun s => decide (s.length ≤ 40)) = shortS 40 g.names from rfl] at hs2
      generalize shortS 40 g.tokens = u at hb hs1
      generalize shortS 40 g.names = v at hb hs2
      cases u <;> cases v
      · refine knownE Et_ok (fnAt Try.func7 (by kernel_rfl) (by kernel_rfl) : FnAt _ _ (mkFn Try.f7 [1])) ?_
        repeat' (first
          | refine Run.region ?_
          | refine Run.seq ?_
          | ((refine oB (frz := [1]) Et_ok (fun h => ?_) (fun h => ?_)) <;> (first | (exfalso; simp at h <;> fail) | (exfalso; simp at h; omega) | skip))
          | ((refine eB (fun h => ?_) (fun h => ?_)) <;> (first | (exfalso; simp at h <;> fail) | (exfalso; simp at h; omega) | skip))
          | refine oX (frz := [1]) Et_ok ?_
          | refine oS ?_
          | refine RunOps.nil ?_
          | refine Run.skip ?_
          | refine cT ?_
          | refine cF ?_
          | refine Run.block ?_
          | refine Run.exit ?_
          | refine Run.draw (frz := [1]) Et_ok (by kernel_rfl) ?_
          | refine eX ?_
          | refine eS ?_
          | refine eN ?_
          | refine oC (hs1) ?_
          | refine eC (hs1) ?_
          | refine oC (hs2) ?_
          | refine eC (hs2) ?_
          | (refine Run.ret ?_; (first | refine rB ?_ | refine rI ?_ | refine rA ?_ | refine rII ?_ | refine rSI ?_ | refine rT ?_ | refine rS ?_); first | done | (rfl))
          | ((exfalso; first | (simp_all <;> fail) | (simp_all; omega)))
          | fail)
      · refine knownE Et_ok (fnAt Try.func7 (by kernel_rfl) (by kernel_rfl) : FnAt _ _ (mkFn Try.f7 [1])) ?_
        repeat' (first
          | refine Run.region ?_
          | refine Run.seq ?_
          | ((refine oB (frz := [1]) Et_ok (fun h => ?_) (fun h => ?_)) <;> (first | (exfalso; simp at h <;> fail) | (exfalso; simp at h; omega) | skip))
          | ((refine eB (fun h => ?_) (fun h => ?_)) <;> (first | (exfalso; simp at h <;> fail) | (exfalso; simp at h; omega) | skip))
          | refine oX (frz := [1]) Et_ok ?_
          | refine oS ?_
          | refine RunOps.nil ?_
          | refine Run.skip ?_
          | refine cT ?_
          | refine cF ?_
          | refine Run.block ?_
          | refine Run.exit ?_
          | refine Run.draw (frz := [1]) Et_ok (by kernel_rfl) ?_
          | refine eX ?_
          | refine eS ?_
          | refine eN ?_
          | refine oC (hs1) ?_
          | refine eC (hs1) ?_
          | refine oC (hs2) ?_
          | refine eC (hs2) ?_
          | (refine Run.ret ?_; (first | refine rB ?_ | refine rI ?_ | refine rA ?_ | refine rII ?_ | refine rSI ?_ | refine rT ?_ | refine rS ?_); first | done | (rfl))
          | ((exfalso; first | (simp_all <;> fail) | (simp_all; omega)))
          | fail)
      · refine knownE Et_ok (fnAt Try.func7 (by kernel_rfl) (by kernel_rfl) : FnAt _ _ (mkFn Try.f7 [1])) ?_
        repeat' (first
          | refine Run.region ?_
          | refine Run.seq ?_
          | ((refine oB (frz := [1]) Et_ok (fun h => ?_) (fun h => ?_)) <;> (first | (exfalso; simp at h <;> fail) | (exfalso; simp at h; omega) | skip))
          | ((refine eB (fun h => ?_) (fun h => ?_)) <;> (first | (exfalso; simp at h <;> fail) | (exfalso; simp at h; omega) | skip))
          | refine oX (frz := [1]) Et_ok ?_
          | refine oS ?_
          | refine RunOps.nil ?_
          | refine Run.skip ?_
          | refine cT ?_
          | refine cF ?_
          | refine Run.block ?_
          | refine Run.exit ?_
          | refine Run.draw (frz := [1]) Et_ok (by kernel_rfl) ?_
          | refine eX ?_
          | refine eS ?_
          | refine eN ?_
          | refine oC (hs1) ?_
          | refine eC (hs1) ?_
          | refine oC (hs2) ?_
          | refine eC (hs2) ?_
          | (refine Run.ret ?_; (first | refine rB ?_ | refine rI ?_ | refine rA ?_ | refine rII ?_ | refine rSI ?_ | refine rT ?_ | refine rS ?_); first | done | (rfl))
          | ((exfalso; first | (simp_all <;> fail) | (simp_all; omega)))
          | fail)
      · exact absurd ⟨rfl, rfl⟩ hb
  · have hf : lightF g = false := by
      cases hl : lightF g with
      | false => rfl
      | true =>
        simp only [lightF, Bool.and_eq_true, decide_eq_true_eq] at hl
        exact absurd ⟨hl.1.1.1.1.1.1, hl.1.1.1.1.1.2, hl.1.1.1.1.2, hl.1.1.1.2⟩ h0
    rw [hf]
    refine knownE Et_ok (fnAt Try.func7 (by kernel_rfl) (by kernel_rfl) : FnAt _ _ (mkFn Try.f7 [1])) ?_
    repeat' (first
      | refine Run.region ?_
      | refine Run.seq ?_
      | ((refine oB (frz := [1]) Et_ok (fun h => ?_) (fun h => ?_)) <;> (first | (exfalso; simp at h <;> fail) | (exfalso; simp at h; omega) | skip))
      | ((refine eB (fun h => ?_) (fun h => ?_)) <;> (first | (exfalso; simp at h <;> fail) | (exfalso; simp at h; omega) | skip))
      | refine oX (frz := [1]) Et_ok ?_
      | refine oS ?_
      | refine RunOps.nil ?_
      | refine Run.skip ?_
      | refine cT ?_
      | refine cF ?_
      | refine Run.block ?_
      | refine Run.exit ?_
      | refine Run.draw (frz := [1]) Et_ok (by kernel_rfl) ?_
      | refine eX ?_
      | refine eS ?_
      | refine eN ?_
      | (refine Run.ret ?_; (first | refine rB ?_ | refine rI ?_ | refine rA ?_ | refine rII ?_ | refine rSI ?_ | refine rT ?_ | refine rS ?_); first | done | (rfl))
      | ((exfalso; first | (simp_all <;> fail) | (simp_all; omega)))
      | fail)
end Go.Av
end
noncomputable section
namespace Go.Av
open Go Go.Proofs
set_option maxRecDepth 10000
theorem ownTexts (l : List (List Nat)) (hl : l.length ≤ 1048576) : KnownCall Try.prog 29 [strs l] (.d (strs l)) := by
  refine knownE2 Et_ok (fnAt Try.func29 (by kernel_rfl) (by kernel_rfl) : FnAt _ _ (mkFn Try.f29 [])) ?_
  repeat' (first
    | refine Run.region ?_
    | refine Run.seq ?_
    | ((refine oB (frz := []) Et_ok (fun h => ?_) (fun h => ?_)) <;> (first | (exfalso; simp at h <;> fail) | (exfalso; simp at h; omega) | skip))
    | ((refine eB (fun h => ?_) (fun h => ?_)) <;> (first | (exfalso; simp at h <;> fail) | (exfalso; simp at h; omega) | skip))
    | refine oX (frz := []) Et_ok ?_
    | refine oS ?_
    | refine RunOps.nil ?_
    | refine Run.skip ?_
    | refine cT ?_
    | refine cF ?_
    | refine Run.block ?_
    | refine Run.exit ?_
    | refine Run.draw (frz := []) Et_ok (by kernel_rfl) ?_
    | refine eX ?_
    | refine eS ?_
    | refine eN ?_
    | refine oX (frz := []) Et_ok ?_ (hv := app1) (hf := rfl) (he := rfl)
    | refine eX ?_ (hv := app1) (hf := rfl) (he := rfl)
    | refine oX (frz := []) Et_ok ?_ (hv := app0) (hf := rfl) (he := rfl)
    | refine eX ?_ (hv := app0) (hf := rfl) (he := rfl)
    | (refine Run.ret ?_; refine r2 ?_; first | done | (exact .refl))
    | fail)
theorem ownInts (l : List Int) (hl : l.length ≤ 1048576) : KnownCall Try.prog 30 [ints l] (.d (ints l)) := by
  refine knownE2 Et_ok (fnAt Try.func30 (by kernel_rfl) (by kernel_rfl) : FnAt _ _ (mkFn Try.f30 [])) ?_
  repeat' (first
    | refine Run.region ?_
    | refine Run.seq ?_
    | ((refine oB (frz := []) Et_ok (fun h => ?_) (fun h => ?_)) <;> (first | (exfalso; simp at h <;> fail) | (exfalso; simp at h; omega) | skip))
    | ((refine eB (fun h => ?_) (fun h => ?_)) <;> (first | (exfalso; simp at h <;> fail) | (exfalso; simp at h; omega) | skip))
    | refine oX (frz := []) Et_ok ?_
    | refine oS ?_
    | refine RunOps.nil ?_
    | refine Run.skip ?_
    | refine cT ?_
    | refine cF ?_
    | refine Run.block ?_
    | refine Run.exit ?_
    | refine Run.draw (frz := []) Et_ok (by kernel_rfl) ?_
    | refine eX ?_
    | refine eS ?_
    | refine eN ?_
    | refine oX (frz := []) Et_ok ?_ (hv := app1) (hf := rfl) (he := rfl)
    | refine eX ?_ (hv := app1) (hf := rfl) (he := rfl)
    | refine oX (frz := []) Et_ok ?_ (hv := app0) (hf := rfl) (he := rfl)
    | refine eX ?_ (hv := app0) (hf := rfl) (he := rfl)
    | (refine Run.ret ?_; refine r2 ?_; first | done | (exact .refl))
    | fail)
def sameG (a b : Gram) : Prop := a.k = b.k ∧ a.tokens = b.tokens ∧ a.sep = b.sep ∧ a.names = b.names ∧ a.start = b.start ∧ a.prods = b.prods
theorem sameG_iff {a b : Gram} : sameG a b ↔ a = b := by
  cases a; cases b; simp [sameG]
theorem sameSelf (g : Gram) (hf : Fits g) : KnownCall Try.prog 21 [encG g, encG g] (.d (.bool true)) := by
  have hfp := hf.prods
  have hft := hf.tokens
  have hfn := hf.names
  have h1 := sameTexts g.tokens g.tokens (by omega)
  have h2 := sameTexts g.names g.names (by omega)
  rw [decide_eq_true rfl] at h1 h2
  refine knownE Et_ok (fnAt Try.func21 (by kernel_rfl) (by kernel_rfl) : FnAt _ _ (mkFn Try.f21 [2, 3])) ?_
  repeat' (first
    | refine Run.region ?_
    | refine Run.seq ?_
    | ((refine oB (frz := [2, 3]) Et_ok (fun h => ?_) (fun h => ?_)) <;> (first | (exfalso; simp at h <;> fail) | (exfalso; simp at h; omega) | skip))
    | ((refine eB (fun h => ?_) (fun h => ?_)) <;> (first | (exfalso; simp at h <;> fail) | (exfalso; simp at h; omega) | skip))
    | refine oX (frz := [2, 3]) Et_ok ?_
    | refine oS ?_
    | refine RunOps.nil ?_
    | refine Run.skip ?_
    | refine cT ?_
    | refine cF ?_
    | refine Run.block ?_
    | refine Run.exit ?_
    | refine Run.draw (frz := [2, 3]) Et_ok (by kernel_rfl) ?_
    | refine eX ?_
    | refine eS ?_
    | refine eN ?_
    | refine oC (h1) ?_
    | refine eC (h1) ?_
    | refine oC (h2) ?_
    | refine eC (h2) ?_
    | (refine Run.ret ?_; (first | refine rB ?_ | refine rI ?_ | refine rA ?_ | refine rII ?_ | refine rSI ?_ | refine rT ?_ | refine rS ?_); first | done | (skip))
    | ((exfalso; first | (simp_all <;> fail) | (simp_all; omega)))
    | fail)
  refine Run.loop (fun i : Nat => ⟨PT.ofList [(2, (.d (.ep [.int .i64 g.k, strs g.tokens, .str g.sep, strs g.names, .int .i64 g.start, .sl 2 (g.prods.map encP)]))), (3, (.d (.ep [.int .i64 g.k, strs g.tokens, .str g.sep, strs g.names, .int .i64 g.start, .sl 2 (g.prods.map encP)]))), (5, .d (.int .i64 i))], [], []⟩) (fun i => i ≤ g.prods.length) (fun i => g.prods.length - i) 0 (Nat.zero_le _) (weak_of (by repeat' (first | exact trivial | refine ⟨rfl, ?_⟩))) (fun i hi => ?_)
  rcases Nat.lt_or_ge i g.prods.length with hlt | hge
  · obtain ⟨p, hp⟩ := get_ok hlt
    have hpr := hf.rights p (List.mem_of_getElem? hp)
    have h3 := sameInts p.right p.right (by omega)
    rw [decide_eq_true rfl] at h3
    repeat' (first
      | refine Run.region ?_
      | refine Run.seq ?_
      | ((refine oB (frz := [2, 3]) Et_ok (fun h => ?_) (fun h => ?_)) <;> (first | (exfalso; simp at h <;> fail) | (exfalso; simp at h; omega) | skip))
      | ((refine eB (fun h => ?_) (fun h => ?_)) <;> (first | (exfalso; simp at h <;> fail) | (exfalso; simp at h; omega) | skip))
      | refine oX (frz := [2, 3]) Et_ok ?_
      | refine oS ?_
      | refine RunOps.nil ?_
      | refine Run.skip ?_
      | refine cT ?_
      | refine cF ?_
      | refine Run.block ?_
      | refine Run.exit ?_
      | refine Run.draw (frz := [2, 3]) Et_ok (by kernel_rfl) ?_
      | refine eX ?_
      | refine eS ?_
      | refine eN ?_
      | refine oX (frz := [2, 3]) (v := .d (.ep [.int .i64 p.left, ints p.right])) Et_ok ?_ (hf := (by first | (simp [inB] <;> fail) | (simp [inB]; omega))) (he := (by first | (simp [List.getD_eq_getElem?_getD, cellsD, hp, encP] <;> fail) | fail))
      | refine eX (v := .d (.ep [.int .i64 p.left, ints p.right])) ?_ (hf := (by first | (simp [inB] <;> fail) | (simp [inB]; omega))) (he := (by first | (simp [List.getD_eq_getElem?_getD, cellsD, hp, encP] <;> fail) | fail))
      | refine oC (h3) ?_
      | refine eC (h3) ?_
      | (refine Run.ret ?_; (first | refine rB ?_ | refine rI ?_ | refine rA ?_ | refine rII ?_ | refine rSI ?_ | refine rT ?_ | refine rS ?_); first | done | (skip))
      | (exact ⟨i + 1, hlt, by omega, weak_of (by repeat' (first | exact trivial | refine ⟨rfl, ?_⟩ | refine ⟨(inc_get (k := i) (by kernel_rfl) (by omega)), ?_⟩))⟩)
      | ((exfalso; first | (simp_all <;> fail) | (simp_all; omega)))
      | fail)
  · have hie : i = g.prods.length := by omega
    subst hie
    repeat' (first
      | refine Run.region ?_
      | refine Run.seq ?_
      | ((refine oB (frz := [2, 3]) Et_ok (fun h => ?_) (fun h => ?_)) <;> (first | (exfalso; simp at h <;> fail) | (exfalso; simp at h; omega) | skip))
      | ((refine eB (fun h => ?_) (fun h => ?_)) <;> (first | (exfalso; simp at h <;> fail) | (exfalso; simp at h; omega) | skip))
      | refine oX (frz := [2, 3]) Et_ok ?_
      | refine oS ?_
      | refine RunOps.nil ?_
      | refine Run.skip ?_
      | refine cT ?_
      | refine cF ?_
      | refine Run.block ?_
      | refine Run.exit ?_
      | refine Run.draw (frz := [2, 3]) Et_ok (by kernel_rfl) ?_
      | refine eX ?_
      | refine eS ?_
      | refine eN ?_
      | (refine Run.ret ?_; (first | refine rB ?_ | refine rI ?_ | refine rA ?_ | refine rII ?_ | refine rSI ?_ | refine rT ?_ | refine rS ?_); first | done | (rfl))
      | ((exfalso; first | (simp_all <;> fail) | (simp_all; omega)))
      | fail)
abbrev boxG (g : Gram) : Ob := .box [.d (.int .i64 g.k), .d (strs g.tokens), .d (.str g.sep), .d (strs g.names), .d (.int .i64 g.start), .d (.sl 2 (g.prods.map encP))]
abbrev boxG0 : Ob := .box [.d (.int .i64 0), .d .nilsl, .d (.str []), .d .nilsl, .d (.int .i64 0), .d .nilsl]
theorem to_noProds {a b c d e : DV} : AvTo (.d (.agg [a, b, c, d, e, .nilsl])) (.d (.agg [a, b, c, d, e, .sl 2 []])) :=
  .d (.agg rfl fun j x y hx hy => by
    match j with
    | 0 | 1 | 2 | 3 | 4 => simp at hx hy; subst hx hy; exact .refl
    | 5 => simp at hx hy; subst hx hy; exact .nil
    | j + 6 => simp at hx)
theorem ownGrammar (g : Gram) (hf : Fits g) : KnownCall Try.prog 9 [encG g] (.d (encG g)) := by
  have hfp := hf.prods
  have hft := hf.tokens
  have hfn := hf.names
  refine knownE2 Et_ok (fnAt Try.func9 (by kernel_rfl) (by kernel_rfl) : FnAt _ _ (mkFn Try.f9 [35])) ?_
  repeat' (first
    | refine Run.region ?_
    | refine Run.seq ?_
    | ((refine oB (frz := [35]) Et_ok (fun h => ?_) (fun h => ?_)) <;> (first | (exfalso; simp at h <;> fail) | (exfalso; simp at h; omega) | skip))
    | ((refine eB (fun h => ?_) (fun h => ?_)) <;> (first | (exfalso; simp at h <;> fail) | (exfalso; simp at h; omega) | skip))
    | refine oX (frz := [35]) Et_ok ?_
    | refine oS ?_
    | refine RunOps.nil ?_
    | refine Run.skip ?_
    | refine cT ?_
    | refine cF ?_
    | refine Run.block ?_
    | refine Run.exit ?_
    | refine Run.draw (frz := [35]) Et_ok (by kernel_rfl) ?_
    | refine eX ?_
    | refine eS ?_
    | refine eN ?_
    | ((refine oK (ownTexts g.tokens (by omega)) (fun h => ?_) (fun h => ?_)) <;> (first | (exfalso; simp at h <;> fail) | (exfalso; simp at h; omega) | skip))
    | refine oC (ownTexts g.tokens (by omega)) ?_
    | ((refine eK (ownTexts g.tokens (by omega)) (fun h => ?_) (fun h => ?_)) <;> (first | (exfalso; simp at h <;> fail) | (exfalso; simp at h; omega) | skip))
    | refine eC (ownTexts g.tokens (by omega)) ?_
    | ((refine oK (ownTexts g.names (by omega)) (fun h => ?_) (fun h => ?_)) <;> (first | (exfalso; simp at h <;> fail) | (exfalso; simp at h; omega) | skip))
    | refine oC (ownTexts g.names (by omega)) ?_
    | ((refine eK (ownTexts g.names (by omega)) (fun h => ?_) (fun h => ?_)) <;> (first | (exfalso; simp at h <;> fail) | (exfalso; simp at h; omega) | skip))
    | refine eC (ownTexts g.names (by omega)) ?_
    | (refine Run.ret ?_; refine r2 ?_; first | done | (skip))
    | fail)
  refine Run.loop (fun x : Nat × List DV => ⟨PT.ofList [(1, .bp 0 0), (2, .bp 1 0), (3, rowA 2 2 x.2), (4, .d (.int .i64 x.1))], boxG g :: boxG0 :: rowO 2 x.2, []⟩) (fun x => x.1 ≤ g.prods.length ∧ x.2 = (g.prods.take x.1).map encP) (fun x => g.prods.length - x.1) (0, []) ⟨Nat.zero_le _, rfl⟩ (weak_of (by repeat' (first | exact trivial | refine ⟨rfl, ?_⟩))) (fun x hx => ?_)
  obtain ⟨i, acc⟩ := x
  obtain ⟨hi1, hi2⟩ := hx
  simp only at hi1 hi2 ⊢
  have hal : acc.length ≤ i := by rw [hi2]; simp; omega
  rcases Nat.lt_or_ge i g.prods.length with hlt | hge
  · obtain ⟨p, hp⟩ := get_ok hlt
    have hpr := hf.rights p (List.mem_of_getElem? hp)
    have hnext : acc ++ [encP p] = (g.prods.take (i + 1)).map encP := by rw [List.take_add_one, hp, hi2]; simp
    rcases acc with _ | ⟨a, l⟩
    · repeat' (first
        | refine Run.region ?_
        | refine Run.seq ?_
        | ((refine oB (frz := [35]) Et_ok (fun h => ?_) (fun h => ?_)) <;> (first | (exfalso; simp at h <;> fail) | (exfalso; simp at h; omega) | skip))
        | ((refine eB (fun h => ?_) (fun h => ?_)) <;> (first | (exfalso; simp at h <;> fail) | (exfalso; simp at h; omega) | skip))
        | refine oX (frz := [35]) Et_ok ?_
        | refine oS ?_
        | refine RunOps.nil ?_
        | refine Run.skip ?_
        | refine cT ?_
        | refine cF ?_
        | refine Run.block ?_
        | refine Run.exit ?_
        | refine Run.draw (frz := [35]) Et_ok (by kernel_rfl) ?_
        | refine eX ?_
        | refine eS ?_
        | refine eN ?_
        | refine oX (frz := [35]) (v := .d (.ep [.int .i64 p.left, ints p.right])) Et_ok ?_ (hf := (by first | (simp [inB] <;> fail) | (simp [inB]; omega))) (he := (by first | (simp [List.getD_eq_getElem?_getD, cellsD, hp, encP] <;> fail) | fail))
        | refine eX (v := .d (.ep [.int .i64 p.left, ints p.right])) ?_ (hf := (by first | (simp [inB] <;> fail) | (simp [inB]; omega))) (he := (by first | (simp [List.getD_eq_getElem?_getD, cellsD, hp, encP] <;> fail) | fail))
        | ((refine oK (ownInts p.right hpr) (fun h => ?_) (fun h => ?_)) <;> (first | (exfalso; simp at h <;> fail) | (exfalso; simp at h; omega) | skip))
        | refine oC (ownInts p.right hpr) ?_
        | ((refine eK (ownInts p.right hpr) (fun h => ?_) (fun h => ?_)) <;> (first | (exfalso; simp at h <;> fail) | (exfalso; simp at h; omega) | skip))
        | refine eC (ownInts p.right hpr) ?_
        | refine oX (frz := [35]) Et_ok ?_ (hv := app1) (hf := rfl) (he := rfl)
        | refine eX ?_ (hv := app1) (hf := rfl) (he := rfl)
        | refine oX (frz := [35]) Et_ok ?_ (hv := app0) (hf := rfl) (he := rfl)
        | refine eX ?_ (hv := app0) (hf := rfl) (he := rfl)
        | (refine Run.ret ?_; refine r2 ?_; first | done | (skip))
        | (exact ⟨(i + 1, [encP p]), ⟨hlt, hnext⟩, by simp only; omega, weak_of' (by rfl) rfl (by repeat' (first | exact trivial | refine ⟨rfl, ?_⟩ | refine ⟨(inc_get (k := i) (by kernel_rfl) (by omega)), ?_⟩))⟩)
        | fail)
    · have hal' : l.length + 1 ≤ i := hal
      repeat' (first
        | refine Run.region ?_
        | refine Run.seq ?_
        | ((refine oB (frz := [35]) Et_ok (fun h => ?_) (fun h => ?_)) <;> (first | (exfalso; simp at h <;> fail) | (exfalso; simp at h; omega) | skip))
        | ((refine eB (fun h => ?_) (fun h => ?_)) <;> (first | (exfalso; simp at h <;> fail) | (exfalso; simp at h; omega) | skip))
        | refine oX (frz := [35]) Et_ok ?_
        | refine oS ?_
        | refine RunOps.nil ?_
        | refine Run.skip ?_
        | refine cT ?_
        | refine cF ?_
        | refine Run.block ?_
        | refine Run.exit ?_
        | refine Run.draw (frz := [35]) Et_ok (by kernel_rfl) ?_
        | refine eX ?_
        | refine eS ?_
        | refine eN ?_
        | refine oX (frz := [35]) (v := .d (.ep [.int .i64 p.left, ints p.right])) Et_ok ?_ (hf := (by first | (simp [inB] <;> fail) | (simp [inB]; omega))) (he := (by first | (simp [List.getD_eq_getElem?_getD, cellsD, hp, encP] <;> fail) | fail))
        | refine eX (v := .d (.ep [.int .i64 p.left, ints p.right])) ?_ (hf := (by first | (simp [inB] <;> fail) | (simp [inB]; omega))) (he := (by first | (simp [List.getD_eq_getElem?_getD, cellsD, hp, encP] <;> fail) | fail))
        | ((refine oK (ownInts p.right hpr) (fun h => ?_) (fun h => ?_)) <;> (first | (exfalso; simp at h <;> fail) | (exfalso; simp at h; omega) | skip))
        | refine oC (ownInts p.right hpr) ?_
        | ((refine eK (ownInts p.right hpr) (fun h => ?_) (fun h => ?_)) <;> (first | (exfalso; simp at h <;> fail) | (exfalso; simp at h; omega) | skip))
        | refine eC (ownInts p.right hpr) ?_
        | refine oX (frz := [35]) Et_ok ?_ (hv := app1) (hf := rfl) (he := rfl)
        | refine eX ?_ (hv := app1) (hf := rfl) (he := rfl)
        | refine oX (frz := [35]) Et_ok ?_ (hv := app0) (hf := rfl) (he := rfl)
        | refine eX ?_ (hv := app0) (hf := rfl) (he := rfl)
        | (refine Run.ret ?_; refine r2 ?_; first | done | (skip))
        | (exact ⟨(i + 1, a :: (l ++ [encP p])), ⟨hlt, hnext⟩, by simp only; omega, weak_of' (by show [_, _, Ob.room ((l ++ [_]).length + 1) 2] = [_, _, Ob.room (l.length + 1 + 1) 2]; rw [List.length_append]; rfl) rfl (by repeat' (first | exact trivial | refine ⟨rfl, ?_⟩ | refine ⟨(inc_get (k := i) (by kernel_rfl) (by omega)), ?_⟩))⟩)
        | fail)
  · have hge : i = g.prods.length := by omega
    have he : g.prods.map encP = acc := by rw [hi2, hge, List.take_length]
    show _
    rw [show encG g = .agg [.int .i64 g.k, strs g.tokens, .str g.sep, strs g.names, .int .i64 g.start, .sl 2 (g.prods.map encP)] from rfl, he]
    rcases acc with _ | ⟨a, l⟩
    · repeat' (first
        | refine Run.region ?_
        | refine Run.seq ?_
        | ((refine oB (frz := [35]) Et_ok (fun h => ?_) (fun h => ?_)) <;> (first | (exfalso; simp at h <;> fail) | (exfalso; simp at h; omega) | skip))
        | ((refine eB (fun h => ?_) (fun h => ?_)) <;> (first | (exfalso; simp at h <;> fail) | (exfalso; simp at h; omega) | skip))
        | refine oX (frz := [35]) Et_ok ?_
        | refine oS ?_
        | refine RunOps.nil ?_
        | refine Run.skip ?_
        | refine cT ?_
        | refine cF ?_
        | refine Run.block ?_
        | refine Run.exit ?_
        | refine Run.draw (frz := [35]) Et_ok (by kernel_rfl) ?_
        | refine eX ?_
        | refine eS ?_
        | refine eN ?_
        | (refine Run.ret ?_; refine r2 ?_; first | done | (exact to_noProds))
        | fail)
    · repeat' (first
        | refine Run.region ?_
        | refine Run.seq ?_
        | ((refine oB (frz := [35]) Et_ok (fun h => ?_) (fun h => ?_)) <;> (first | (exfalso; simp at h <;> fail) | (exfalso; simp at h; omega) | skip))
        | ((refine eB (fun h => ?_) (fun h => ?_)) <;> (first | (exfalso; simp at h <;> fail) | (exfalso; simp at h; omega) | skip))
        | refine oX (frz := [35]) Et_ok ?_
        | refine oS ?_
        | refine RunOps.nil ?_
        | refine Run.skip ?_
        | refine cT ?_
        | refine cF ?_
        | refine Run.block ?_
        | refine Run.exit ?_
        | refine Run.draw (frz := [35]) Et_ok (by kernel_rfl) ?_
        | refine eX ?_
        | refine eS ?_
        | refine eN ?_
        | (refine Run.ret ?_; refine r2 ?_; first | done | (exact .refl))
        | fail)
end Go.Av
end
noncomputable section
namespace Go.Av
open Go Go.Proofs
def e0 : List DV × AV := ([(.str [97])], (.d (.int .i64 0)))
theorem k0 : KnownCall Try.prog 86 e0.1 e0.2 := known T0_ok Et_ok (by kernel_rfl) Ft_ok (k := 100000) (n := 60) (by kernel_rfl)
def e1 : List DV × AV := ([(.str [98])], (.d (.int .i64 0)))
theorem k1 : KnownCall Try.prog 86 e1.1 e1.2 := known T0_ok Et_ok (by kernel_rfl) Ft_ok (k := 100000) (n := 60) (by kernel_rfl)
def e2 : List DV × AV := ([(.str [110, 108])], (.d (.int .i64 0)))
theorem k2 : KnownCall Try.prog 86 e2.1 e2.2 := known T0_ok Et_ok (by kernel_rfl) Ft_ok (k := 100000) (n := 60) (by kernel_rfl)
def e3 : List DV × AV := ([(.str [83])], (.d (.int .i64 0)))
theorem k3 : KnownCall Try.prog 86 e3.1 e3.2 := known T0_ok Et_ok (by kernel_rfl) Ft_ok (k := 100000) (n := 60) (by kernel_rfl)
def e4 : List DV × AV := ([(.str [84])], (.d (.int .i64 0)))
theorem k4 : KnownCall Try.prog 86 e4.1 e4.2 := known T0_ok Et_ok (by kernel_rfl) Ft_ok (k := 100000) (n := 60) (by kernel_rfl)
def e6 : List DV × AV := ([(.sl 1 [(.int .i64 0), (.int .i64 17)]), (.fn (.func 62) [] [(.ep [(.int .i64 2), (.sl 1 [(.str [97]), (.str [98])]), (.str [110, 108]), (.sl 1 [(.str [83]), (.str [84])]), (.int .i64 16), (.sl 2 [(.agg [(.int .i64 16), (.sl 1 [(.int .i64 0), (.int .i64 17)])]), (.agg [(.int .i64 16), .nilsl]), (.agg [(.int .i64 17), (.sl 1 [(.int .i64 1), (.int .i64 16)])])])])])], (.d (.int .i64 (-1))))
theorem k6 : KnownCall Try.prog 87 e6.1 e6.2 := known T0_ok Et_ok (by kernel_rfl) Ft_ok (k := 100000) (n := 60) (by kernel_rfl)
def e7 : List DV × AV := ([(.sl 1 [(.int .i64 1), (.int .i64 16)]), (.fn (.func 62) [] [(.ep [(.int .i64 2), (.sl 1 [(.str [97]), (.str [98])]), (.str [110, 108]), (.sl 1 [(.str [83]), (.str [84])]), (.int .i64 16), (.sl 2 [(.agg [(.int .i64 16), (.sl 1 [(.int .i64 0), (.int .i64 17)])]), (.agg [(.int .i64 16), .nilsl]), (.agg [(.int .i64 17), (.sl 1 [(.int .i64 1), (.int .i64 16)])])])])])], (.d (.int .i64 (-1))))
theorem k7 : KnownCall Try.prog 87 e7.1 e7.2 := known T0_ok Et_ok (by kernel_rfl) Ft_ok (k := 100000) (n := 60) (by kernel_rfl)
def e9 : List DV × AV := ([(.agg [(.int .i64 2), (.sl 1 [(.str [97]), (.str [98])]), (.str [110, 108]), (.sl 1 [(.str [83]), (.str [84])]), (.int .i64 16), (.sl 2 [(.agg [(.int .i64 16), (.sl 1 [(.int .i64 0), (.int .i64 17)])]), (.agg [(.int .i64 16), .nilsl]), (.agg [(.int .i64 17), (.sl 1 [(.int .i64 1), (.int .i64 16)])])])])], (.d (.int .i64 0)))
theorem k9 : KnownCall Try.prog 47 e9.1 e9.2 := known T0_ok Et_ok (by kernel_rfl) Ft_ok (k := 100000) (n := 60) (by kernel_rfl)
def e10 : List DV × AV := ([(.agg [(.int .i64 2), (.sl 1 [(.str [97]), (.str [98])]), (.str [110, 108]), (.sl 1 [(.str [83]), (.str [84])]), (.int .i64 16), (.sl 2 [(.agg [(.int .i64 16), (.sl 1 [(.int .i64 0), (.int .i64 17)])]), (.agg [(.int .i64 16), .nilsl]), (.agg [(.int .i64 17), (.sl 1 [(.int .i64 1), (.int .i64 16)])])])])], (.d (.int .i64 0)))
theorem k10 : KnownCall Try.prog 48 e10.1 e10.2 := known T0_ok Et_ok (by kernel_rfl) Ft_ok (k := 100000) (n := 60) (by kernel_rfl)
end Go.Av
end
noncomputable section
namespace Go.Av
open Go Go.Proofs
def T1 : Memo := (.node (.node (.node (.node (.node .nil none (.node .nil (some [e9]) .nil)) none (.node .nil none (.node (.node .nil (some [e6, e7]) .nil) none .nil))) none .nil) none .nil) none (.node (.node (.node (.node .nil none (.node .nil (some [e10]) .nil)) none .nil) none .nil) none (.node .nil none (.node (.node .nil none (.node (.node .nil (some [e0, e1, e2, e3, e4]) .nil) none .nil)) none .nil))))
theorem T1_ok : MemoOK Try.prog T1 := ⟨trivial, ⟨trivial, ⟨trivial, ⟨trivial, ⟨trivial, trivial, ⟨⟨k9, trivial⟩, trivial, trivial⟩⟩, ⟨trivial, trivial, ⟨trivial, ⟨⟨k6, k7, trivial⟩, trivial, trivial⟩, trivial⟩⟩⟩, trivial⟩, trivial⟩, ⟨trivial, ⟨trivial, ⟨trivial, ⟨trivial, trivial, ⟨⟨k10, trivial⟩, trivial, trivial⟩⟩, trivial⟩, trivial⟩, ⟨trivial, trivial, ⟨trivial, ⟨trivial, trivial, ⟨trivial, ⟨⟨k0, k1, k2, k3, k4, trivial⟩, trivial, trivial⟩, trivial⟩⟩, trivial⟩⟩⟩⟩
end Go.Av
end
noncomputable section
namespace Go.Av
open Go Go.Proofs
def e5 : List DV × AV := ([(.agg [(.int .i64 2), (.sl 1 [(.str [97]), (.str [98])]), (.str [110, 108]), (.sl 1 [(.str [83]), (.str [84])]), (.int .i64 16), (.sl 2 [(.agg [(.int .i64 16), (.sl 1 [(.int .i64 0), (.int .i64 17)])]), (.agg [(.int .i64 16), .nilsl]), (.agg [(.int .i64 17), (.sl 1 [(.int .i64 1), (.int .i64 16)])])])])], (.d (.int .i64 0)))
theorem k5 : KnownCall Try.prog 44 e5.1 e5.2 := known T1_ok Et_ok (by kernel_rfl) Ft_ok (k := 100000) (n := 60) (by kernel_rfl)
def e8 : List DV × AV := ([(.agg [(.int .i64 2), (.sl 1 [(.str [97]), (.str [98])]), (.str [110, 108]), (.sl 1 [(.str [83]), (.str [84])]), (.int .i64 16), (.sl 2 [(.agg [(.int .i64 16), (.sl 1 [(.int .i64 0), (.int .i64 17)])]), (.agg [(.int .i64 16), .nilsl]), (.agg [(.int .i64 17), (.sl 1 [(.int .i64 1), (.int .i64 16)])])])])], (.d (.int .i64 0)))
theorem k8 : KnownCall Try.prog 46 e8.1 e8.2 := known T1_ok Et_ok (by kernel_rfl) Ft_ok (k := 100000) (n := 60) (by kernel_rfl)
end Go.Av
end
noncomputable section
namespace Go.Av
open Go Go.Proofs
def T2 : Memo := (.node (.node (.node (.node (.node .nil none (.node .nil (some [e9]) .nil)) none (.node .nil none (.node (.node .nil (some [e6, e7]) .nil) none .nil))) none .nil) none .nil) none (.node (.node (.node (.node .nil none (.node .nil (some [e10]) .nil)) none .nil) none (.node .nil none (.node (.node .nil (some [e5]) .nil) none .nil))) none (.node .nil none (.node (.node .nil none (.node (.node .nil (some [e0, e1, e2, e3, e4]) .nil) none .nil)) none (.node (.node .nil (some [e8]) .nil) none .nil)))))
theorem T2_ok : MemoOK Try.prog T2 := ⟨trivial, ⟨trivial, ⟨trivial, ⟨trivial, ⟨trivial, trivial, ⟨⟨k9, trivial⟩, trivial, trivial⟩⟩, ⟨trivial, trivial, ⟨trivial, ⟨⟨k6, k7, trivial⟩, trivial, trivial⟩, trivial⟩⟩⟩, trivial⟩, trivial⟩, ⟨trivial, ⟨trivial, ⟨trivial, ⟨trivial, trivial, ⟨⟨k10, trivial⟩, trivial, trivial⟩⟩, trivial⟩, ⟨trivial, trivial, ⟨trivial, ⟨⟨k5, trivial⟩, trivial, trivial⟩, trivial⟩⟩⟩, ⟨trivial, trivial, ⟨trivial, ⟨trivial, trivial, ⟨trivial, ⟨⟨k0, k1, k2, k3, k4, trivial⟩, trivial, trivial⟩, trivial⟩⟩, ⟨trivial, ⟨⟨k8, trivial⟩, trivial, trivial⟩, trivial⟩⟩⟩⟩⟩
end Go.Av
end
noncomputable section
namespace Go.Av
open Go Go.Proofs
def e11 : List DV × AV := ([(.agg [(.int .i64 2), (.sl 1 [(.str [97]), (.str [98])]), (.str [110, 108]), (.sl 1 [(.str [83]), (.str [84])]), (.int .i64 16), (.sl 2 [(.agg [(.int .i64 16), (.sl 1 [(.int .i64 0), (.int .i64 17)])]), (.agg [(.int .i64 16), .nilsl]), (.agg [(.int .i64 17), (.sl 1 [(.int .i64 1), (.int .i64 16)])])])])], (.d (.int .i64 0)))
theorem k11 : KnownCall Try.prog 23 e11.1 e11.2 := known T2_ok Et_ok (by kernel_rfl) Ft_ok (k := 100000) (n := 60) (by kernel_rfl)
end Go.Av
end
noncomputable section
namespace Go.Av
open Go Go.Proofs
def T3 : Memo := (.node (.node (.node (.node (.node .nil none (.node .nil (some [e9]) .nil)) none (.node .nil (some [e11]) (.node (.node .nil (some [e6, e7]) .nil) none .nil))) none .nil) none .nil) none (.node (.node (.node (.node .nil none (.node .nil (some [e10]) .nil)) none .nil) none (.node .nil none (.node (.node .nil (some [e5]) .nil) none .nil))) none (.node .nil none (.node (.node .nil none (.node (.node .nil (some [e0, e1, e2, e3, e4]) .nil) none .nil)) none (.node (.node .nil (some [e8]) .nil) none .nil)))))
theorem T3_ok : MemoOK Try.prog T3 := ⟨trivial, ⟨trivial, ⟨trivial, ⟨trivial, ⟨trivial, trivial, ⟨⟨k9, trivial⟩, trivial, trivial⟩⟩, ⟨⟨k11, trivial⟩, trivial, ⟨trivial, ⟨⟨k6, k7, trivial⟩, trivial, trivial⟩, trivial⟩⟩⟩, trivial⟩, trivial⟩, ⟨trivial, ⟨trivial, ⟨trivial, ⟨trivial, trivial, ⟨⟨k10, trivial⟩, trivial, trivial⟩⟩, trivial⟩, ⟨trivial, trivial, ⟨trivial, ⟨⟨k5, trivial⟩, trivial, trivial⟩, trivial⟩⟩⟩, ⟨trivial, trivial, ⟨trivial, ⟨trivial, trivial, ⟨trivial, ⟨⟨k0, k1, k2, k3, k4, trivial⟩, trivial, trivial⟩, trivial⟩⟩, ⟨trivial, ⟨⟨k8, trivial⟩, trivial, trivial⟩, trivial⟩⟩⟩⟩⟩
end Go.Av
end
noncomputable section
namespace Go.Av
open Go Go.Proofs
def e12 : List DV × AV := ([], (.d (.bool true)))
theorem k12 : KnownCall Try.prog 8 e12.1 e12.2 := known T3_ok Et_ok (by kernel_rfl) Ft_ok (k := 100000) (n := 60) (by kernel_rfl)
end Go.Av
end
noncomputable section
namespace Go.Av
open Go Go.Proofs
set_option maxRecDepth 10000
theorem awake9 : KnownCall Try.prog 8 [] (.d (.bool true)) := k12
theorem natsD_ints (l : List Nat) : DV.sl 1 (natsD l) = ints (l.map Int.ofNat) := by simp [natsD, ints]
theorem sameNats (l : List Nat) (hl : l.length ≤ 1099511627776) : KnownCall Try.prog 14 [.sl 1 (natsD l), .sl 1 (natsD l)] (.d (.bool true)) := by
  have := sameInts (l.map Int.ofNat) (l.map Int.ofNat) (by simpa using hl)
  rw [decide_eq_true rfl] at this
  rw [natsD_ints]
  exact this
theorem askProds_len {g : Gram} (s : Int) (hf : Fits g) : (askProdsF g s).1.length ≤ 1099511627776 := by
  unfold askProdsF
  split
  · exact Nat.zero_le _
  · have := prodsTo_len g s g.prods.length
    have := hf.prods
    show (prodsTo g s g.prods.length).length ≤ _
    omega
theorem lawAsks (g : Gram) (s p : Int) (n : List Nat) : KnownCall Try.prog 3 [encG g, .int .i64 s, .int .i64 p, .str n] (.d (.bool true)) := by
  have hL := light g
  have hA := awake9
  by_cases h0 : lightF g = true ∧ n.length ≤ 40
  · obtain ⟨hl, hn⟩ := h0
    have hf := light_fits hl
    rw [hl] at hL
    have c1 := ownGrammar g hf
    have c2 := askNonterm g s hf
    have c3 := refAskNonterm g s hf
    have c4 := askProds g s hf
    have c5 := refAskProds g s hf
    have c6 := askSym g n hf
    have c7 := refAskSym g n hf
    have c8 := askName g s hf
    have c9 := refAskName g s hf
    have c10 := showG g p hf
    have c11 := refShow g p hf
    have c12 := sameNats _ (askProds_len s hf)
    have c13 := sameSelf g hf
    generalize ntermF g s = r1 at c2 c3
    generalize askProdsF g s = r2 at c4 c5 c12
    generalize askSymF g n = r3 at c6 c7
    generalize askNameF g s = r4 at c8 c9
    generalize showF g p = r5 at c10 c11
    refine knownE Et_ok (fnAt Try.func3 (by kernel_rfl) (by kernel_rfl) : FnAt _ _ (mkFn Try.f3 [4])) ?_
    repeat' (first
      | refine Run.region ?_
      | refine Run.seq ?_
      | ((refine oB (frz := [4]) Et_ok (fun h => ?_) (fun h => ?_)) <;> (first | (exfalso; simp at h <;> fail) | (exfalso; simp at h; omega) | skip))
      | ((refine eB (fun h => ?_) (fun h => ?_)) <;> (first | (exfalso; simp at h <;> fail) | (exfalso; simp at h; omega) | skip))
      | refine oX (frz := [4]) Et_ok ?_
      | refine oS ?_
      | refine RunOps.nil ?_
      | refine Run.skip ?_
      | refine cT ?_
      | refine cF ?_
      | refine Run.block ?_
      | refine Run.exit ?_
      | refine Run.draw (frz := [4]) Et_ok (by kernel_rfl) ?_
      | refine eX ?_
      | refine eS ?_
      | refine eN ?_
      | refine oC (hL) ?_
      | refine eC (hL) ?_
      | refine oC (hA) ?_
      | refine eC (hA) ?_
      | ((refine oK (c1) (fun h => ?_) (fun h => ?_)) <;> (first | (exfalso; simp at h <;> fail) | (exfalso; simp at h; omega) | skip))
      | refine oC (c1) ?_
      | ((refine eK (c1) (fun h => ?_) (fun h => ?_)) <;> (first | (exfalso; simp at h <;> fail) | (exfalso; simp at h; omega) | skip))
      | refine eC (c1) ?_
      | ((refine oK (c2) (fun h => ?_) (fun h => ?_)) <;> (first | (exfalso; simp at h <;> fail) | (exfalso; simp at h; omega) | skip))
      | refine oC (c2) ?_
      | ((refine eK (c2) (fun h => ?_) (fun h => ?_)) <;> (first | (exfalso; simp at h <;> fail) | (exfalso; simp at h; omega) | skip))
      | refine eC (c2) ?_
      | ((refine oK (c3) (fun h => ?_) (fun h => ?_)) <;> (first | (exfalso; simp at h <;> fail) | (exfalso; simp at h; omega) | skip))
      | refine oC (c3) ?_
      | ((refine eK (c3) (fun h => ?_) (fun h => ?_)) <;> (first | (exfalso; simp at h <;> fail) | (exfalso; simp at h; omega) | skip))
      | refine eC (c3) ?_
      | ((refine oK (c4) (fun h => ?_) (fun h => ?_)) <;> (first | (exfalso; simp at h <;> fail) | (exfalso; simp at h; omega) | skip))
      | refine oC (c4) ?_
      | ((refine eK (c4) (fun h => ?_) (fun h => ?_)) <;> (first | (exfalso; simp at h <;> fail) | (exfalso; simp at h; omega) | skip))
      | refine eC (c4) ?_
      | ((refine oK (c5) (fun h => ?_) (fun h => ?_)) <;> (first | (exfalso; simp at h <;> fail) | (exfalso; simp at h; omega) | skip))
      | refine oC (c5) ?_
      | ((refine eK (c5) (fun h => ?_) (fun h => ?_)) <;> (first | (exfalso; simp at h <;> fail) | (exfalso; simp at h; omega) | skip))
      | refine eC (c5) ?_
      | ((refine oK (c6) (fun h => ?_) (fun h => ?_)) <;> (first | (exfalso; simp at h <;> fail) | (exfalso; simp at h; omega) | skip))
      | refine oC (c6) ?_
      | ((refine eK (c6) (fun h => ?_) (fun h => ?_)) <;> (first | (exfalso; simp at h <;> fail) | (exfalso; simp at h; omega) | skip))
      | refine eC (c6) ?_
      | ((refine oK (c7) (fun h => ?_) (fun h => ?_)) <;> (first | (exfalso; simp at h <;> fail) | (exfalso; simp at h; omega) | skip))
      | refine oC (c7) ?_
      | ((refine eK (c7) (fun h => ?_) (fun h => ?_)) <;> (first | (exfalso; simp at h <;> fail) | (exfalso; simp at h; omega) | skip))
      | refine eC (c7) ?_
      | ((refine oK (c8) (fun h => ?_) (fun h => ?_)) <;> (first | (exfalso; simp at h <;> fail) | (exfalso; simp at h; omega) | skip))
      | refine oC (c8) ?_
      | ((refine eK (c8) (fun h => ?_) (fun h => ?_)) <;> (first | (exfalso; simp at h <;> fail) | (exfalso; simp at h; omega) | skip))
      | refine eC (c8) ?_
      | ((refine oK (c9) (fun h => ?_) (fun h => ?_)) <;> (first | (exfalso; simp at h <;> fail) | (exfalso; simp at h; omega) | skip))
      | refine oC (c9) ?_
      | ((refine eK (c9) (fun h => ?_) (fun h => ?_)) <;> (first | (exfalso; simp at h <;> fail) | (exfalso; simp at h; omega) | skip))
      | refine eC (c9) ?_
      | ((refine oK (c10) (fun h => ?_) (fun h => ?_)) <;> (first | (exfalso; simp at h <;> fail) | (exfalso; simp at h; omega) | skip))
      | refine oC (c10) ?_
      | ((refine eK (c10) (fun h => ?_) (fun h => ?_)) <;> (first | (exfalso; simp at h <;> fail) | (exfalso; simp at h; omega) | skip))
      | refine eC (c10) ?_
      | ((refine oK (c11) (fun h => ?_) (fun h => ?_)) <;> (first | (exfalso; simp at h <;> fail) | (exfalso; simp at h; omega) | skip))
      | refine oC (c11) ?_
      | ((refine eK (c11) (fun h => ?_) (fun h => ?_)) <;> (first | (exfalso; simp at h <;> fail) | (exfalso; simp at h; omega) | skip))
      | refine eC (c11) ?_
      | refine oC (c12) ?_
      | refine eC (c12) ?_
      | refine oC (c13) ?_
      | refine eC (c13) ?_
      | (refine Run.ret ?_; (first | refine rB ?_ | refine rI ?_ | refine rA ?_ | refine rII ?_ | refine rSI ?_ | refine rT ?_ | refine rS ?_); first | done | (rfl))
      | ((exfalso; first | (simp at h <;> fail) | (simp at h; omega)))
      | fail)
  · refine knownE Et_ok (fnAt Try.func3 (by kernel_rfl) (by kernel_rfl) : FnAt _ _ (mkFn Try.f3 [4])) ?_
    cases hl : lightF g with
    | false =>
      rw [hl] at hL
      repeat' (first
        | refine Run.region ?_
        | refine Run.seq ?_
        | ((refine oB (frz := [4]) Et_ok (fun h => ?_) (fun h => ?_)) <;> (first | (exfalso; simp at h <;> fail) | (exfalso; simp at h; omega) | skip))
        | ((refine eB (fun h => ?_) (fun h => ?_)) <;> (first | (exfalso; simp at h <;> fail) | (exfalso; simp at h; omega) | skip))
        | refine oX (frz := [4]) Et_ok ?_
        | refine oS ?_
        | refine RunOps.nil ?_
        | refine Run.skip ?_
        | refine cT ?_
        | refine cF ?_
        | refine Run.block ?_
        | refine Run.exit ?_
        | refine Run.draw (frz := [4]) Et_ok (by kernel_rfl) ?_
        | refine eX ?_
        | refine eS ?_
        | refine eN ?_
        | refine oC (hL) ?_
        | refine eC (hL) ?_
        | refine oC (hA) ?_
        | refine eC (hA) ?_
        | (refine Run.ret ?_; (first | refine rB ?_ | refine rI ?_ | refine rA ?_ | refine rII ?_ | refine rSI ?_ | refine rT ?_ | refine rS ?_); first | done | (rfl))
        | ((exfalso; first | (simp at h <;> fail) | (simp at h; omega)))
        | fail)
    | true =>
      rw [hl] at hL
      have hn : ¬ n.length ≤ 40 := fun e => h0 ⟨hl, e⟩
      repeat' (first
        | refine Run.region ?_
        | refine Run.seq ?_
        | ((refine oB (frz := [4]) Et_ok (fun h => ?_) (fun h => ?_)) <;> (first | (exfalso; simp at h <;> fail) | (exfalso; simp at h; omega) | skip))
        | ((refine eB (fun h => ?_) (fun h => ?_)) <;> (first | (exfalso; simp at h <;> fail) | (exfalso; simp at h; omega) | skip))
        | refine oX (frz := [4]) Et_ok ?_
        | refine oS ?_
        | refine RunOps.nil ?_
        | refine Run.skip ?_
        | refine cT ?_
        | refine cF ?_
        | refine Run.block ?_
        | refine Run.exit ?_
        | refine Run.draw (frz := [4]) Et_ok (by kernel_rfl) ?_
        | refine eX ?_
        | refine eS ?_
        | refine eN ?_
        | refine oC (hL) ?_
        | refine eC (hL) ?_
        | refine oC (hA) ?_
        | refine eC (hA) ?_
        | (refine Run.ret ?_; (first | refine rB ?_ | refine rI ?_ | refine rA ?_ | refine rII ?_ | refine rSI ?_ | refine rT ?_ | refine rS ?_); first | done | (rfl))
        | ((exfalso; first | (simp at h <;> fail) | (simp at h; omega)))
        | fail)
end Go.Av
end
noncomputable section
namespace Go.Av
open Go Go.Proofs
set_option maxRecDepth 10000
section
variable {H : Type} {enc : TypeId × Value → H} {w : World} {spare : Nat → Bool} {held : Bool} {fuel : Nat} {cs : List Value} {x : DataW H × List MemPlace}
abbrev Wf64 (n : Int) : Prop := (Lit.int .i64 n).wf = true
def wfStr (s : List Nat) : Prop := s.length ≤ maxLen ∧ ∀ c ∈ s, c < 256
structure WfProd (p : GProd) : Prop where
  left : Wf64 p.left
  len : p.right.length ≤ maxLen
  right : ∀ n ∈ p.right, Wf64 n
structure WfGram (g : Gram) : Prop where
  k : Wf64 g.k
  tokensL : g.tokens.length ≤ maxLen
  tokens : ∀ s ∈ g.tokens, wfStr s
  sep : wfStr g.sep
  namesL : g.names.length ≤ maxLen
  names : ∀ s ∈ g.names, wfStr s
  start : Wf64 g.start
  prodsL : g.prods.length ≤ maxLen
  prods : ∀ p ∈ g.prods, WfProd p
theorem cr_ints (hsp : ∀ b, spare b = true) (h : DataW.trod enc Try.prog w 0 spare held fuel 32 cs = some x) : ∃ l : List Int, CellsRep (heapD w) (ints l) cs ∧ l.length ≤ maxLen ∧ ∀ n ∈ l, Wf64 n :=
  cr_slice (DV.int .i64) Wf64 Try.underlying32 (by kernel_rfl) (Nat.le_refl _) hsp (fun n cs' y _ hy => cr_int Try.underlying3 hy) h
theorem cr_strs (hsp : ∀ b, spare b = true) (h : DataW.trod enc Try.prog w 0 spare held fuel 22 cs = some x) : ∃ l : List (List Nat), CellsRep (heapD w) (strs l) cs ∧ l.length ≤ maxLen ∧ ∀ s ∈ l, wfStr s :=
  cr_slice DV.str wfStr Try.underlying22 (by kernel_rfl) (Nat.le_refl _) hsp (fun n cs' y _ hy => cr_str Try.underlying9 hy) h
theorem cr_prod (hsp : ∀ b, spare b = true) (hl : cs.length = 2) (h : DataW.trod enc Try.prog w 0 spare held fuel 43 cs = some x) : ∃ p : GProd, CellsRep (heapD w) (encP p) cs ∧ WfProd p := by
  match cs, hl, h with
  | [v0, v1], _, h =>
    obtain ⟨n0, y0, e0⟩ := trod_field Try.underlying43 h 0 rfl (by kernel_rfl) rfl
    obtain ⟨n1, y1, e1⟩ := trod_field Try.underlying43 h 1 rfl (by kernel_rfl) rfl
    obtain ⟨a, ha, wa⟩ := cr_int Try.underlying3 e0
    obtain ⟨l, hl, wl, wr⟩ := cr_ints hsp e1
    exact ⟨⟨a, l⟩, cr_all ⟨⟨rfl, ha⟩, ⟨rfl, hl⟩, trivial⟩, ⟨wa, wl, wr⟩⟩
theorem cr_gram (hsp : ∀ b, spare b = true) (hl : cs.length = 6) (h : DataW.trod enc Try.prog w 0 spare held fuel 25 cs = some x) : ∃ g : Gram, CellsRep (heapD w) (encG g) cs ∧ WfGram g := by
  match cs, hl, h with
  | [v0, v1, v2, v3, v4, v5], _, h =>
    obtain ⟨n0, y0, e0⟩ := trod_field Try.underlying25 h 0 rfl (by kernel_rfl) rfl
    obtain ⟨n1, y1, e1⟩ := trod_field Try.underlying25 h 1 rfl (by kernel_rfl) rfl
    obtain ⟨n2, y2, e2⟩ := trod_field Try.underlying25 h 2 rfl (by kernel_rfl) rfl
    obtain ⟨n3, y3, e3⟩ := trod_field Try.underlying25 h 3 rfl (by kernel_rfl) rfl
    obtain ⟨n4, y4, e4⟩ := trod_field Try.underlying25 h 4 rfl (by kernel_rfl) rfl
    obtain ⟨n5, y5, e5⟩ := trod_field Try.underlying25 h 5 rfl (by kernel_rfl) rfl
    obtain ⟨k, hk, wk⟩ := cr_int Try.underlying3 e0
    obtain ⟨ts, hts, wt1, wt2⟩ := cr_strs hsp e1
    obtain ⟨sep, hsep, ws1, ws2⟩ := cr_str Try.underlying9 e2
    obtain ⟨ns, hns, wn1, wn2⟩ := cr_strs hsp e3
    obtain ⟨st, hst, wst⟩ := cr_int Try.underlying3 e4
    obtain ⟨ps, hps, wp1, wp2⟩ := cr_slice encP WfProd (sz := 2) Try.underlying23 (by kernel_rfl) (by omega) hsp (fun n cs' y hn hy => cr_prod hsp hn hy) e5
    exact ⟨⟨k, ts, sep, ns, st, ps⟩, cr_all ⟨⟨rfl, hk⟩, ⟨rfl, hts⟩, ⟨rfl, hsep⟩, ⟨rfl, hns⟩, ⟨rfl, hst⟩, ⟨rfl, hps⟩, trivial⟩, ⟨wk, wt1, wt2, ⟨ws1, ws2⟩, wn1, wn2, wst, wp1, wp2⟩⟩
theorem arg_ints {r : Reach} {b0 : Nat} {v : Value} {d : DataW H} {ps : List MemPlace} (hsp : ∀ b, spare b = true) (hval : Value.okWide Try.prog w r b0 32 v) (h : DataW.Trod enc Try.prog w 0 spare held 32 v d ps) :
    ∃ l : List Int, RepD (heapD w) (ints l) v ∧ l.length ≤ maxLen ∧ ∀ n ∈ l, Wf64 n := by
  obtain ⟨es, he, l, rfl, hl⟩ := arg_slice (sz := 1) (R := fun es => ∃ l : List Int, es = l.map (DV.int .i64) ∧ l.length ≤ maxLen ∧ ∀ n ∈ l, Wf64 n) Try.underlying32 hval h (fun n x hx => by
    obtain ⟨l, h1, h2⟩ := cr_ints hsp hx
    exact ⟨_, h1, l, rfl, h2⟩)
  exact ⟨l, he, hl⟩
theorem arg_gram {r : Reach} {b0 : Nat} {v : Value} {d : DataW H} {ps : List MemPlace} (hsp : ∀ b, spare b = true) (hval : Value.okWide Try.prog w r b0 25 v) (h : DataW.Trod enc Try.prog w 0 spare held 25 v d ps) :
    ∃ g : Gram, RepD (heapD w) (encG g) v ∧ WfGram g :=
  arg_agg (f := fun g : Gram => [.int .i64 g.k, strs g.tokens, .str g.sep, strs g.names, .int .i64 g.start, .sl 2 (g.prods.map encP)]) Try.underlying25 hval h (fun n cs x hl hx => cr_gram hsp (hl.trans (by kernel_rfl)) hx)
end
end Go.Av
end

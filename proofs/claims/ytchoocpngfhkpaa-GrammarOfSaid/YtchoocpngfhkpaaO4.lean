/-
  Parts of the way to the law, joined: rules for code over data, and what the functions return. Conditions stand at each.
-/
import Derived.Test.YtchoocpngfhkpaaO3
import Derived.Test.YtchoocpngfhkpaaO2
noncomputable section
namespace Go.Av
open Go Go.Proofs
set_option maxRecDepth 10000
theorem indexFuncStrs (l : List (List Nat)) (hl : l.length ≤ 1099511627776) (F : FuncId) (caps : List DV) (p : (List Nat) → Bool) (hp : ∀ x ∈ l, KnownCall Try.prog F ((.str x) :: caps) (.d (.bool (p x)))) :
    KnownCall Try.prog 98 [(.sl 1 (l.map .str)), .fn (.func F) [] caps] (.d (.int .i64 (idxP l p))) := by
  refine knownE Et_ok (fnAt Try.func98 (by kernel_rfl) (by kernel_rfl) : FnAt _ _ (mkFn Try.f98 [])) ?_
  repeat' (first
    | refine Run.region ?_
    | refine Run.seq ?_
    | ((refine oB (frz := []) Et_ok (fun h => ?_) (fun h => ?_)) <;> (first | (exfalso; simp at h <;> fail) | (exfalso; simp at h; omega) | skip))
    | ((refine eB (fun h => ?_) (fun h => ?_)) <;> (first | (exfalso; simp at h <;> fail) | (exfalso; simp at h; omega) | skip))
    | refine oX (frz := []) Et_ok ?_
    | refine oS ?_
    | refine RunOps.nil ?_
    | refine Run.skip ?_
    | refine cT ?_
    | refine cF ?_
    | refine Run.block ?_
    | refine Run.exit ?_
    | refine Run.draw (frz := []) Et_ok (by kernel_rfl) ?_
    | refine eX ?_
    | refine eS ?_
    | refine eN ?_
    | (refine Run.ret ?_; (first | refine rB ?_ | refine rI ?_ | refine rA ?_ | refine rII ?_ | refine rSI ?_ | refine rT ?_ | refine rS ?_); first | done | (skip))
    | fail)
  refine Run.loop (fun i : Nat => ⟨PT.ofList [(0, .d (.sl 1 (l.map .str))), (1, .d (.fn (.func F) [] caps)), (7, .d (.int .i64 l.length)), (8, .d (.int .i64 i))], [], []⟩) (fun i => i ≤ l.length ∧ ∀ j, j < i → ∀ y, l[j]? = some y → p y = false) (fun i => l.length - i) 0 ⟨Nat.zero_le _, fun j hj => by omega⟩ (weak_of (by repeat' (first | exact trivial | refine ⟨rfl, ?_⟩ | refine ⟨Eq.trans (b := some (.d (.int .i64 (l.map _).length))) rfl (by rw [List.length_map]), ?_⟩ | fail))) (fun i hi => ?_)
  obtain ⟨hi1, hi2⟩ := hi
  rcases Nat.lt_or_ge i l.length with hlt | hge
  · obtain ⟨x, hx⟩ := get_ok hlt
    have hc := hp x (List.mem_of_getElem? hx)
    repeat' (first
      | refine Run.region ?_
      | refine Run.seq ?_
      | ((refine oB (frz := []) Et_ok (fun h => ?_) (fun h => ?_)) <;> (first | (exfalso; simp at h <;> fail) | (exfalso; simp at h; omega) | skip))
      | ((refine eB (fun h => ?_) (fun h => ?_)) <;> (first | (exfalso; simp at h <;> fail) | (exfalso; simp at h; omega) | skip))
      | refine oX (frz := []) Et_ok ?_
      | refine oS ?_
      | refine RunOps.nil ?_
      | refine Run.skip ?_
      | refine cT ?_
      | refine cF ?_
      | refine Run.block ?_
      | refine Run.exit ?_
      | refine Run.draw (frz := []) Et_ok (by kernel_rfl) ?_
      | refine eX ?_
      | refine eS ?_
      | refine eN ?_
      | refine oX (frz := []) (v := .d (.ep [.str x])) Et_ok ?_ (hf := (by first | (simp [inB] <;> fail) | (simp [inB]; omega))) (he := (by first | (simp [List.getD_eq_getElem?_getD, cellsD, hx] <;> fail) | fail))
      | refine eX (v := .d (.ep [.str x])) ?_ (hf := (by first | (simp [inB] <;> fail) | (simp [inB]; omega))) (he := (by first | (simp [List.getD_eq_getElem?_getD, cellsD, hx] <;> fail) | fail))
      | ((refine oK (hc) (fun h => ?_) (fun h => ?_)) <;> (first | (exfalso; simp at h <;> fail) | (exfalso; simp at h; omega) | skip))
      | refine oC (hc) ?_
      | ((refine eK (hc) (fun h => ?_) (fun h => ?_)) <;> (first | (exfalso; simp at h <;> fail) | (exfalso; simp at h; omega) | skip))
      | refine eC (hc) ?_
      | (refine Run.ret ?_; (first | refine rB ?_ | refine rI ?_ | refine rA ?_ | refine rII ?_ | refine rSI ?_ | refine rT ?_ | refine rS ?_); first | done | (rw [idxP_at hx (by simp_all) hi2]))
      | (exact ⟨i + 1, ⟨by omega, all_succ hi2 (fun q hq => by rw [hx] at hq; cases hq; simp_all)⟩, by omega, weak_of (by repeat' (first | exact trivial | refine ⟨rfl, ?_⟩ | refine ⟨(inc_get (k := i) (by kernel_rfl) (by omega)), ?_⟩))⟩)
      | fail)
  · have hge : i = l.length := by omega
    repeat' (first
      | refine Run.region ?_
      | refine Run.seq ?_
      | ((refine oB (frz := []) Et_ok (fun h => ?_) (fun h => ?_)) <;> (first | (exfalso; simp at h <;> fail) | (exfalso; simp at h; omega) | skip))
      | ((refine eB (fun h => ?_) (fun h => ?_)) <;> (first | (exfalso; simp at h <;> fail) | (exfalso; simp at h; omega) | skip))
      | refine oX (frz := []) Et_ok ?_
      | refine oS ?_
      | refine RunOps.nil ?_
      | refine Run.skip ?_
      | refine cT ?_
      | refine cF ?_
      | refine Run.block ?_
      | refine Run.exit ?_
      | refine Run.draw (frz := []) Et_ok (by kernel_rfl) ?_
      | refine eX ?_
      | refine eS ?_
      | refine eN ?_
      | (refine Run.ret ?_; (first | refine rB ?_ | refine rI ?_ | refine rA ?_ | refine rII ?_ | refine rSI ?_ | refine rT ?_ | refine rS ?_); first | done | (rw [idxP_none (fun j hj => hi2 j (by omega))]))
      | fail)
theorem containsFuncStrs (l : List (List Nat)) (hl : l.length ≤ 1099511627776) (F : FuncId) (caps : List DV) (p : (List Nat) → Bool) (hp : ∀ x ∈ l, KnownCall Try.prog F ((.str x) :: caps) (.d (.bool (p x)))) :
    KnownCall Try.prog 91 [(.sl 1 (l.map .str)), .fn (.func F) [] caps] (.d (.bool (l.any p))) := by
  refine knownE Et_ok (fnAt Try.func91 (by kernel_rfl) (by kernel_rfl) : FnAt _ _ (mkFn Try.f91 [])) ?_
  have e := idxP_any l p
  repeat' (first
    | refine Run.region ?_
    | refine Run.seq ?_
    | ((refine oB (frz := []) Et_ok (fun h => ?_) (fun h => ?_)) <;> (first | (exfalso; simp at h <;> fail) | (exfalso; simp at h; omega) | skip))
    | ((refine eB (fun h => ?_) (fun h => ?_)) <;> (first | (exfalso; simp at h <;> fail) | (exfalso; simp at h; omega) | skip))
    | refine oX (frz := []) Et_ok ?_
    | refine oS ?_
    | refine RunOps.nil ?_
    | refine Run.skip ?_
    | refine cT ?_
    | refine cF ?_
    | refine Run.block ?_
    | refine Run.exit ?_
    | refine Run.draw (frz := []) Et_ok (by kernel_rfl) ?_
    | refine eX ?_
    | refine eS ?_
    | refine eN ?_
    | ((refine oK (indexFuncStrs _ hl _ _ _ hp) (fun h => ?_) (fun h => ?_)) <;> (first | (exfalso; simp at h <;> fail) | (exfalso; simp at h; omega) | skip))
    | refine oC (indexFuncStrs _ hl _ _ _ hp) ?_
    | ((refine eK (indexFuncStrs _ hl _ _ _ hp) (fun h => ?_) (fun h => ?_)) <;> (first | (exfalso; simp at h <;> fail) | (exfalso; simp at h; omega) | skip))
    | refine eC (indexFuncStrs _ hl _ _ _ hp) ?_
    | (refine Run.ret ?_; (first | refine rB ?_ | refine rI ?_ | refine rA ?_ | refine rII ?_ | refine rSI ?_ | refine rT ?_ | refine rS ?_); first | done | (first | (rw [← e] <;> simp_all <;> fail) | fail))
    | fail)
theorem indexFuncRules (l : List SRule) (hl : l.length ≤ 1099511627776) (F : FuncId) (caps : List DV) (p : SRule → Bool) (hp : ∀ x ∈ l, KnownCall Try.prog F ((encR x) :: caps) (.d (.bool (p x)))) :
    KnownCall Try.prog 90 [(.sl 2 (l.map encR)), .fn (.func F) [] caps] (.d (.int .i64 (idxP l p))) := by
  refine knownE Et_ok (fnAt Try.func90 (by kernel_rfl) (by kernel_rfl) : FnAt _ _ (mkFn Try.f90 [])) ?_
  repeat' (first
    | refine Run.region ?_
    | refine Run.seq ?_
    | ((refine oB (frz := []) Et_ok (fun h => ?_) (fun h => ?_)) <;> (first | (exfalso; simp at h <;> fail) | (exfalso; simp at h; omega) | skip))
    | ((refine eB (fun h => ?_) (fun h => ?_)) <;> (first | (exfalso; simp at h <;> fail) | (exfalso; simp at h; omega) | skip))
    | refine oX (frz := []) Et_ok ?_
    | refine oS ?_
    | refine RunOps.nil ?_
    | refine Run.skip ?_
    | refine cT ?_
    | refine cF ?_
    | refine Run.block ?_
    | refine Run.exit ?_
    | refine Run.draw (frz := []) Et_ok (by kernel_rfl) ?_
    | refine eX ?_
    | refine eS ?_
    | refine eN ?_
    | (refine Run.ret ?_; (first | refine rB ?_ | refine rI ?_ | refine rA ?_ | refine rII ?_ | refine rSI ?_ | refine rT ?_ | refine rS ?_); first | done | (skip))
    | fail)
  refine Run.loop (fun i : Nat => ⟨PT.ofList [(0, .d (.sl 2 (l.map encR))), (1, .d (.fn (.func F) [] caps)), (7, .d (.int .i64 l.length)), (8, .d (.int .i64 i))], [], []⟩) (fun i => i ≤ l.length ∧ ∀ j, j < i → ∀ y, l[j]? = some y → p y = false) (fun i => l.length - i) 0 ⟨Nat.zero_le _, fun j hj => by omega⟩ (weak_of (by repeat' (first | exact trivial | refine ⟨rfl, ?_⟩ | refine ⟨Eq.trans (b := some (.d (.int .i64 (l.map _).length))) rfl (by rw [List.length_map]), ?_⟩ | fail))) (fun i hi => ?_)
  obtain ⟨hi1, hi2⟩ := hi
  rcases Nat.lt_or_ge i l.length with hlt | hge
  · obtain ⟨x, hx⟩ := get_ok hlt
    have hc := hp x (List.mem_of_getElem? hx)
    repeat' (first
      | refine Run.region ?_
      | refine Run.seq ?_
      | ((refine oB (frz := []) Et_ok (fun h => ?_) (fun h => ?_)) <;> (first | (exfalso; simp at h <;> fail) | (exfalso; simp at h; omega) | skip))
      | ((refine eB (fun h => ?_) (fun h => ?_)) <;> (first | (exfalso; simp at h <;> fail) | (exfalso; simp at h; omega) | skip))
      | refine oX (frz := []) Et_ok ?_
      | refine oS ?_
      | refine RunOps.nil ?_
      | refine Run.skip ?_
      | refine cT ?_
      | refine cF ?_
      | refine Run.block ?_
      | refine Run.exit ?_
      | refine Run.draw (frz := []) Et_ok (by kernel_rfl) ?_
      | refine eX ?_
      | refine eS ?_
      | refine eN ?_
      | refine oX (frz := []) (v := .d (.ep [.str x.name, alts x.alts])) Et_ok ?_ (hf := (by first | (simp [inB] <;> fail) | (simp [inB]; omega))) (he := (by first | (simp [List.getD_eq_getElem?_getD, cellsD, hx, encR] <;> fail) | fail))
      | refine eX (v := .d (.ep [.str x.name, alts x.alts])) ?_ (hf := (by first | (simp [inB] <;> fail) | (simp [inB]; omega))) (he := (by first | (simp [List.getD_eq_getElem?_getD, cellsD, hx, encR] <;> fail) | fail))
      | ((refine oK (hc) (fun h => ?_) (fun h => ?_)) <;> (first | (exfalso; simp at h <;> fail) | (exfalso; simp at h; omega) | skip))
      | refine oC (hc) ?_
      | ((refine eK (hc) (fun h => ?_) (fun h => ?_)) <;> (first | (exfalso; simp at h <;> fail) | (exfalso; simp at h; omega) | skip))
      | refine eC (hc) ?_
      | (refine Run.ret ?_; (first | refine rB ?_ | refine rI ?_ | refine rA ?_ | refine rII ?_ | refine rSI ?_ | refine rT ?_ | refine rS ?_); first | done | (rw [idxP_at hx (by simp_all) hi2]))
      | (exact ⟨i + 1, ⟨by omega, all_succ hi2 (fun q hq => by rw [hx] at hq; cases hq; simp_all)⟩, by omega, weak_of (by repeat' (first | exact trivial | refine ⟨rfl, ?_⟩ | refine ⟨(inc_get (k := i) (by kernel_rfl) (by omega)), ?_⟩))⟩)
      | fail)
  · have hge : i = l.length := by omega
    repeat' (first
      | refine Run.region ?_
      | refine Run.seq ?_
      | ((refine oB (frz := []) Et_ok (fun h => ?_) (fun h => ?_)) <;> (first | (exfalso; simp at h <;> fail) | (exfalso; simp at h; omega) | skip))
      | ((refine eB (fun h => ?_) (fun h => ?_)) <;> (first | (exfalso; simp at h <;> fail) | (exfalso; simp at h; omega) | skip))
      | refine oX (frz := []) Et_ok ?_
      | refine oS ?_
      | refine RunOps.nil ?_
      | refine Run.skip ?_
      | refine cT ?_
      | refine cF ?_
      | refine Run.block ?_
      | refine Run.exit ?_
      | refine Run.draw (frz := []) Et_ok (by kernel_rfl) ?_
      | refine eX ?_
      | refine eS ?_
      | refine eN ?_
      | (refine Run.ret ?_; (first | refine rB ?_ | refine rI ?_ | refine rA ?_ | refine rII ?_ | refine rSI ?_ | refine rT ?_ | refine rS ?_); first | done | (rw [idxP_none (fun j hj => hi2 j (by omega))]))
      | fail)
theorem containsFuncRules (l : List SRule) (hl : l.length ≤ 1099511627776) (F : FuncId) (caps : List DV) (p : SRule → Bool) (hp : ∀ x ∈ l, KnownCall Try.prog F ((encR x) :: caps) (.d (.bool (p x)))) :
    KnownCall Try.prog 67 [(.sl 2 (l.map encR)), .fn (.func F) [] caps] (.d (.bool (l.any p))) := by
  refine knownE Et_ok (fnAt Try.func67 (by kernel_rfl) (by kernel_rfl) : FnAt _ _ (mkFn Try.f67 [])) ?_
  have e := idxP_any l p
  repeat' (first
    | refine Run.region ?_
    | refine Run.seq ?_
    | ((refine oB (frz := []) Et_ok (fun h => ?_) (fun h => ?_)) <;> (first | (exfalso; simp at h <;> fail) | (exfalso; simp at h; omega) | skip))
    | ((refine eB (fun h => ?_) (fun h => ?_)) <;> (first | (exfalso; simp at h <;> fail) | (exfalso; simp at h; omega) | skip))
    | refine oX (frz := []) Et_ok ?_
    | refine oS ?_
    | refine RunOps.nil ?_
    | refine Run.skip ?_
    | refine cT ?_
    | refine cF ?_
    | refine Run.block ?_
    | refine Run.exit ?_
    | refine Run.draw (frz := []) Et_ok (by kernel_rfl) ?_
    | refine eX ?_
    | refine eS ?_
    | refine eN ?_
    | ((refine oK (indexFuncRules _ hl _ _ _ hp) (fun h => ?_) (fun h => ?_)) <;> (first | (exfalso; simp at h <;> fail) | (exfalso; simp at h; omega) | skip))
    | refine oC (indexFuncRules _ hl _ _ _ hp) ?_
    | ((refine eK (indexFuncRules _ hl _ _ _ hp) (fun h => ?_) (fun h => ?_)) <;> (first | (exfalso; simp at h <;> fail) | (exfalso; simp at h; omega) | skip))
    | refine eC (indexFuncRules _ hl _ _ _ hp) ?_
    | (refine Run.ret ?_; (first | refine rB ?_ | refine rI ?_ | refine rA ?_ | refine rII ?_ | refine rSI ?_ | refine rT ?_ | refine rS ?_); first | done | (first | (rw [← e] <;> simp_all <;> fail) | fail))
    | fail)
def headsO (r0 : SRule) : List DV → List Ob
  | [] => []
  | _ :: l => [.box [.d (.str r0.name), .d (alts r0.alts)], .room (l.length + 1) 1]
theorem heads (x : Src) (hf : FitsX x) : KnownCall Try.prog 65 [encX x] (.d (strs (x.rules.map (·.name)))) := by
  have hrl := hf.rules
  obtain ⟨r0, hr0⟩ : ∃ r0 : SRule, ∀ r, x.rules[0]? = some r → r = r0 := ⟨(x.rules[0]?).getD ⟨[], []⟩, fun r h => by rw [h]; rfl⟩
  refine knownE2 Et_ok (fnAt Try.func65 (by kernel_rfl) (by kernel_rfl) : FnAt _ _ (mkFn Try.f65 [1, 16])) ?_
  repeat' (first
    | refine Run.region ?_
    | refine Run.seq ?_
    | ((refine oB (frz := [1, 16]) Et_ok (fun h => ?_) (fun h => ?_)) <;> (first | (exfalso; simp at h <;> fail) | (exfalso; simp at h; omega) | skip))
    | ((refine eB (fun h => ?_) (fun h => ?_)) <;> (first | (exfalso; simp at h <;> fail) | (exfalso; simp at h; omega) | skip))
    | refine oX (frz := [1, 16]) Et_ok ?_
    | refine oS ?_
    | refine RunOps.nil ?_
    | refine Run.skip ?_
    | refine cT ?_
    | refine cF ?_
    | refine Run.block ?_
    | refine Run.exit ?_
    | refine Run.draw (frz := [1, 16]) Et_ok (by kernel_rfl) ?_
    | refine eX ?_
    | refine eS ?_
    | refine eN ?_
    | (refine Run.ret ?_; refine r2 ?_; first | done | (skip))
    | fail)
  refine Run.loopT (fun y : Nat × List DV => ⟨PT.ofList [(3, rowA 1 1 y.2), (7, .d (.sl 2 (x.rules.map encR))), (8, .d (.int .i64 (x.rules.map encR).length)), (9, .d (.int .i64 y.1))], headsO r0 y.2, []⟩) (fun y => y.1 ≤ x.rules.length ∧ y.2 = (x.rules.take y.1).map (fun r => .str r.name)) (fun y => x.rules.length - y.1) (0, []) ⟨Nat.zero_le _, rfl⟩ (tidy_of (objs := _) _ 0 (by rfl) rfl (by repeat' (first | exact trivial | refine ⟨(Or.inl rfl), ?_⟩ | refine ⟨(Or.inr rfl), ?_⟩ | fail)) (by repeat' (first | exact trivial | refine ⟨rfl, ?_⟩ | fail)) rfl rfl) (fun y hy => ?_)
  obtain ⟨i, acc⟩ := y
  obtain ⟨hi1, hi2⟩ := hy
  simp only at hi1 hi2 ⊢
  have hal : acc.length ≤ i := by rw [hi2]; simp; omega
  rcases Nat.lt_or_ge i x.rules.length with hlt | hge
  · obtain ⟨r, hr⟩ := get_ok hlt
    have hnext : acc ++ [DV.str r.name] = (x.rules.take (i + 1)).map (fun r => .str r.name) := by rw [List.take_add_one, hr, hi2]; simp
    rcases acc with _ | ⟨a, l⟩
    · have hi0 : i = 0 := by
        have := congrArg List.length hi2
        simp at this; omega
      have hrr := hr0 r (by rw [← hi0]; exact hr)
      subst hrr
      repeat' (first
        | refine Run.region ?_
        | refine Run.seq ?_
        | ((refine oB (frz := [1, 16]) Et_ok (fun h => ?_) (fun h => ?_)) <;> (first | (exfalso; simp at h <;> fail) | (exfalso; simp at h; omega) | skip))
        | ((refine eB (fun h => ?_) (fun h => ?_)) <;> (first | (exfalso; simp at h <;> fail) | (exfalso; simp at h; omega) | skip))
        | refine oX (frz := [1, 16]) Et_ok ?_
        | refine oS ?_
        | refine RunOps.nil ?_
        | refine Run.skip ?_
        | refine cT ?_
        | refine cF ?_
        | refine Run.block ?_
        | refine Run.exit ?_
        | refine Run.draw (frz := [1, 16]) Et_ok (by kernel_rfl) ?_
        | refine eX ?_
        | refine eS ?_
        | refine eN ?_
        | refine oX (frz := [1, 16]) (v := .d (.ep [.str r.name, alts r.alts])) Et_ok ?_ (hf := (by first | (simp [inB] <;> fail) | (simp [inB]; omega))) (he := (by first | (simp [List.getD_eq_getElem?_getD, cellsD, hr, encR] <;> fail) | fail))
        | refine eX (v := .d (.ep [.str r.name, alts r.alts])) ?_ (hf := (by first | (simp [inB] <;> fail) | (simp [inB]; omega))) (he := (by first | (simp [List.getD_eq_getElem?_getD, cellsD, hr, encR] <;> fail) | fail))
        | refine oX (frz := [1, 16]) Et_ok ?_ (hv := app1) (hf := rfl) (he := rfl)
        | refine eX ?_ (hv := app1) (hf := rfl) (he := rfl)
        | refine oX (frz := [1, 16]) Et_ok ?_ (hv := app0) (hf := rfl) (he := rfl)
        | refine eX ?_ (hv := app0) (hf := rfl) (he := rfl)
        | (refine Run.ret ?_; refine r2 ?_; first | done | (skip))
        | (exact ⟨(i + 1, [DV.str r.name]), ⟨hlt, hnext⟩, by simp only; omega, (tidy_of (objs := _) _ 2 (Eq.trans (b := [.box [.d (.str r.name), .d (alts r.alts)], .room 1 1]) rfl (by first | rfl | (simp [rowA, rowO, headsO] <;> fail))) rfl (by repeat' (first | exact trivial | refine ⟨(Or.inl rfl), ?_⟩ | refine ⟨(Or.inl (inc_get (k := i) (by kernel_rfl) (by omega))), ?_⟩ | refine ⟨(Or.inr rfl), ?_⟩ | fail)) (by repeat' (first | exact trivial | refine ⟨rfl, ?_⟩ | fail)) rfl rfl)⟩)
        | fail)
    · have hal' : l.length + 1 ≤ i := hal
      repeat' (first
        | refine Run.region ?_
        | refine Run.seq ?_
        | ((refine oB (frz := [1, 16]) Et_ok (fun h => ?_) (fun h => ?_)) <;> (first | (exfalso; simp at h <;> fail) | (exfalso; simp at h; omega) | skip))
        | ((refine eB (fun h => ?_) (fun h => ?_)) <;> (first | (exfalso; simp at h <;> fail) | (exfalso; simp at h; omega) | skip))
        | refine oX (frz := [1, 16]) Et_ok ?_
        | refine oS ?_
        | refine RunOps.nil ?_
        | refine Run.skip ?_
        | refine cT ?_
        | refine cF ?_
        | refine Run.block ?_
        | refine Run.exit ?_
        | refine Run.draw (frz := [1, 16]) Et_ok (by kernel_rfl) ?_
        | refine eX ?_
        | refine eS ?_
        | refine eN ?_
        | refine oX (frz := [1, 16]) (v := .d (.ep [.str r.name, alts r.alts])) Et_ok ?_ (hf := (by first | (simp [inB] <;> fail) | (simp [inB]; omega))) (he := (by first | (simp [List.getD_eq_getElem?_getD, cellsD, hr, encR] <;> fail) | fail))
        | refine eX (v := .d (.ep [.str r.name, alts r.alts])) ?_ (hf := (by first | (simp [inB] <;> fail) | (simp [inB]; omega))) (he := (by first | (simp [List.getD_eq_getElem?_getD, cellsD, hr, encR] <;> fail) | fail))
        | refine oX (frz := [1, 16]) Et_ok ?_ (hv := app1) (hf := rfl) (he := rfl)
        | refine eX ?_ (hv := app1) (hf := rfl) (he := rfl)
        | refine oX (frz := [1, 16]) Et_ok ?_ (hv := app0) (hf := rfl) (he := rfl)
        | refine eX ?_ (hv := app0) (hf := rfl) (he := rfl)
        | (refine Run.ret ?_; refine r2 ?_; first | done | (skip))
        | (exact ⟨(i + 1, a :: (l ++ [DV.str r.name])), ⟨hlt, hnext⟩, by simp only; omega, (tidy_of (objs := _) _ 2 (Eq.trans (b := [.box [.d (.str r0.name), .d (alts r0.alts)], .room (l.length + 1 + 1) 1]) rfl (by first | rfl | (simp [rowA, rowO, headsO] <;> fail))) rfl (by repeat' (first | exact trivial | refine ⟨(Or.inl rfl), ?_⟩ | refine ⟨(Or.inl (inc_get (k := i) (by kernel_rfl) (by omega))), ?_⟩ | refine ⟨(Or.inr rfl), ?_⟩ | fail)) (by repeat' (first | exact trivial | refine ⟨rfl, ?_⟩ | fail)) rfl rfl)⟩)
        | fail)
  · have hge : i = x.rules.length := by omega
    have he : (x.rules.map (·.name)).map DV.str = acc := by rw [hi2, hge, List.take_length, List.map_map]; rfl
    rw [show strs (x.rules.map (·.name)) = .sl 1 ((x.rules.map (·.name)).map DV.str) from rfl, he]
    rcases acc with _ | ⟨a, l⟩
    · repeat' (first
        | refine Run.region ?_
        | refine Run.seq ?_
        | ((refine oB (frz := [1, 16]) Et_ok (fun h => ?_) (fun h => ?_)) <;> (first | (exfalso; simp at h <;> fail) | (exfalso; simp at h; omega) | skip))
        | ((refine eB (fun h => ?_) (fun h => ?_)) <;> (first | (exfalso; simp at h <;> fail) | (exfalso; simp at h; omega) | skip))
        | refine oX (frz := [1, 16]) Et_ok ?_
        | refine oS ?_
        | refine RunOps.nil ?_
        | refine Run.skip ?_
        | refine cT ?_
        | refine cF ?_
        | refine Run.block ?_
        | refine Run.exit ?_
        | refine Run.draw (frz := [1, 16]) Et_ok (by kernel_rfl) ?_
        | refine eX ?_
        | refine eS ?_
        | refine eN ?_
        | (refine Run.ret ?_; refine r2 ?_; first | done | (exact .d .nil))
        | fail)
    · repeat' (first
        | refine Run.region ?_
        | refine Run.seq ?_
        | ((refine oB (frz := [1, 16]) Et_ok (fun h => ?_) (fun h => ?_)) <;> (first | (exfalso; simp at h <;> fail) | (exfalso; simp at h; omega) | skip))
        | ((refine eB (fun h => ?_) (fun h => ?_)) <;> (first | (exfalso; simp at h <;> fail) | (exfalso; simp at h; omega) | skip))
        | refine oX (frz := [1, 16]) Et_ok ?_
        | refine oS ?_
        | refine RunOps.nil ?_
        | refine Run.skip ?_
        | refine cT ?_
        | refine cF ?_
        | refine Run.block ?_
        | refine Run.exit ?_
        | refine Run.draw (frz := [1, 16]) Et_ok (by kernel_rfl) ?_
        | refine eX ?_
        | refine eS ?_
        | refine eN ?_
        | (refine Run.ret ?_; refine r2 ?_; first | done | (exact .refl))
        | fail)
theorem twiceS (l : List (List Nat)) (hl : l.length ≤ 1099511627776) : KnownCall Try.prog 72 [strs l] (.d (.bool (decide (¬ l.Nodup)))) := by
  refine knownE Et_ok (fnAt Try.func72 (by kernel_rfl) (by kernel_rfl) : FnAt _ _ (mkFn Try.f72 [])) ?_
  repeat' (first
    | refine Run.region ?_
    | refine Run.seq ?_
    | ((refine oB (frz := []) Et_ok (fun h => ?_) (fun h => ?_)) <;> (first | (exfalso; simp at h <;> fail) | (exfalso; simp at h; omega) | skip))
    | ((refine eB (fun h => ?_) (fun h => ?_)) <;> (first | (exfalso; simp at h <;> fail) | (exfalso; simp at h; omega) | skip))
    | refine oX (frz := []) Et_ok ?_
    | refine oS ?_
    | refine RunOps.nil ?_
    | refine Run.skip ?_
    | refine cT ?_
    | refine cF ?_
    | refine Run.block ?_
    | refine Run.exit ?_
    | refine Run.draw (frz := []) Et_ok (by kernel_rfl) ?_
    | refine eX ?_
    | refine eS ?_
    | refine eN ?_
    | (refine Run.ret ?_; (first | refine rB ?_ | refine rI ?_ | refine rA ?_ | refine rII ?_ | refine rSI ?_ | refine rT ?_ | refine rS ?_); first | done | (skip))
    | fail)
  refine Run.loop (fun i : Nat => ⟨PT.ofList [(0, .d (strs l)), (5, .d (strs l)), (6, .d (.int .i64 (l.map DV.str).length)), (7, .d (.int .i64 i))], [], []⟩) (fun i => i ≤ l.length ∧ (l.take i).Nodup) (fun i => l.length - i) 0 ⟨Nat.zero_le _, by simp⟩ (weak_of (by repeat' (first | exact trivial | refine ⟨rfl, ?_⟩))) (fun i hi => ?_)
  rcases Nat.lt_or_ge i l.length with hlt | hge
  · obtain ⟨x, hx⟩ := get_ok hlt
    have hh := contains (l.take i) x (by simp; omega)
    have hc : AV.d (DV.sl 1 (cutL none (some (i : Int)) (l.map DV.str))) = .d (strs (l.take i)) := by simp [cutL, List.map_take]
    by_cases hm : x ∈ l.take i
    · rw [decide_eq_true hm] at hh
      rw [decide_eq_true (nodup_not hx hm)]
      repeat' (first
        | refine Run.region ?_
        | refine Run.seq ?_
        | ((refine oB (frz := []) Et_ok (fun h => ?_) (fun h => ?_)) <;> (first | (exfalso; simp at h <;> fail) | (exfalso; simp at h; omega) | skip))
        | ((refine eB (fun h => ?_) (fun h => ?_)) <;> (first | (exfalso; simp at h <;> fail) | (exfalso; simp at h; omega) | skip))
        | refine oX (frz := []) Et_ok ?_
        | refine oS ?_
        | refine RunOps.nil ?_
        | refine Run.skip ?_
        | refine cT ?_
        | refine cF ?_
        | refine Run.block ?_
        | refine Run.exit ?_
        | refine Run.draw (frz := []) Et_ok (by kernel_rfl) ?_
        | refine eX ?_
        | refine eS ?_
        | refine eN ?_
        | refine oC (hh) ?_
        | refine eC (hh) ?_
        | refine oX (frz := []) (v := .d (.ep [.str x])) Et_ok ?_ (hf := (by first | (simp [inB] <;> fail) | (simp [inB]; omega))) (he := (by first | (simp [List.getD_eq_getElem?_getD, cellsD, hx] <;> fail) | fail))
        | refine eX (v := .d (.ep [.str x])) ?_ (hf := (by first | (simp [inB] <;> fail) | (simp [inB]; omega))) (he := (by first | (simp [List.getD_eq_getElem?_getD, cellsD, hx] <;> fail) | fail))
        | refine oX (frz := []) (v := .d (strs (l.take i))) Et_ok ?_ (hf := by first | (simp [cutC, maxC] <;> fail) | (simp [cutC, maxC]; omega)) (he := hc)
        | (refine Run.ret ?_; (first | refine rB ?_ | refine rI ?_ | refine rA ?_ | refine rII ?_ | refine rSI ?_ | refine rT ?_ | refine rS ?_); first | done | (rfl))
        | ((exfalso; (simp at h <;> omega)))
        | fail)
    · rw [decide_eq_false hm] at hh
      have hn := nodup_take hx hi.2 hm
      repeat' (first
        | refine Run.region ?_
        | refine Run.seq ?_
        | ((refine oB (frz := []) Et_ok (fun h => ?_) (fun h => ?_)) <;> (first | (exfalso; simp at h <;> fail) | (exfalso; simp at h; omega) | skip))
        | ((refine eB (fun h => ?_) (fun h => ?_)) <;> (first | (exfalso; simp at h <;> fail) | (exfalso; simp at h; omega) | skip))
        | refine oX (frz := []) Et_ok ?_
        | refine oS ?_
        | refine RunOps.nil ?_
        | refine Run.skip ?_
        | refine cT ?_
        | refine cF ?_
        | refine Run.block ?_
        | refine Run.exit ?_
        | refine Run.draw (frz := []) Et_ok (by kernel_rfl) ?_
        | refine eX ?_
        | refine eS ?_
        | refine eN ?_
        | refine oC (hh) ?_
        | refine eC (hh) ?_
        | refine oX (frz := []) (v := .d (.ep [.str x])) Et_ok ?_ (hf := (by first | (simp [inB] <;> fail) | (simp [inB]; omega))) (he := (by first | (simp [List.getD_eq_getElem?_getD, cellsD, hx] <;> fail) | fail))
        | refine eX (v := .d (.ep [.str x])) ?_ (hf := (by first | (simp [inB] <;> fail) | (simp [inB]; omega))) (he := (by first | (simp [List.getD_eq_getElem?_getD, cellsD, hx] <;> fail) | fail))
        | refine oX (frz := []) (v := .d (strs (l.take i))) Et_ok ?_ (hf := by first | (simp [cutC, maxC] <;> fail) | (simp [cutC, maxC]; omega)) (he := hc)
        | (refine Run.ret ?_; (first | refine rB ?_ | refine rI ?_ | refine rA ?_ | refine rII ?_ | refine rSI ?_ | refine rT ?_ | refine rS ?_); first | done | ((exfalso; (simp at h <;> omega))))
        | (exact ⟨i + 1, ⟨hlt, hn⟩, by omega, weak_of (by repeat' (first | exact trivial | refine ⟨rfl, ?_⟩ | refine ⟨(inc_get (k := i) (by kernel_rfl) (by omega)), ?_⟩))⟩)
        | fail)
  · have hie : i = l.length := by omega
    subst hie
    have hn := hi.2
    rw [List.take_length] at hn
    rw [decide_eq_false (by simpa using hn)]
    repeat' (first
      | refine Run.region ?_
      | refine Run.seq ?_
      | ((refine oB (frz := []) Et_ok (fun h => ?_) (fun h => ?_)) <;> (first | (exfalso; simp at h <;> fail) | (exfalso; simp at h; omega) | skip))
      | ((refine eB (fun h => ?_) (fun h => ?_)) <;> (first | (exfalso; simp at h <;> fail) | (exfalso; simp at h; omega) | skip))
      | refine oX (frz := []) Et_ok ?_
      | refine oS ?_
      | refine RunOps.nil ?_
      | refine Run.skip ?_
      | refine cT ?_
      | refine cF ?_
      | refine Run.block ?_
      | refine Run.exit ?_
      | refine Run.draw (frz := []) Et_ok (by kernel_rfl) ?_
      | refine eX ?_
      | refine eS ?_
      | refine eN ?_
      | (refine Run.ret ?_; (first | refine rB ?_ | refine rI ?_ | refine rA ?_ | refine rII ?_ | refine rSI ?_ | refine rT ?_ | refine rS ?_); first | done | (rfl))
      | ((exfalso; (simp at h <;> omega)))
      | fail)
theorem fullX_all {x : Src} (h : (x.rules.take x.rules.length).any (fun r => r.alts.any longA) = false) : fullX x = (decide (8 < x.tokens.length) || decide (8 < x.rules.length) || decide (24 < sumTo x x.rules.length)) := by
  unfold fullX
  rw [any_end h]; simp
theorem fullS (x : Src) (hf : FitsX x) : KnownCall Try.prog 69 [encX x] (.d (.bool (fullX x))) := by
  have hrl := hf.rules
  refine knownE Et_ok (fnAt Try.func69 (by kernel_rfl) (by kernel_rfl) : FnAt _ _ (mkFn Try.f69 [1])) ?_
  repeat' (first
    | refine Run.region ?_
    | refine Run.seq ?_
    | ((refine oB (frz := [1]) Et_ok (fun h => ?_) (fun h => ?_)) <;> (first | (exfalso; simp at h <;> fail) | (exfalso; simp at h; omega) | skip))
    | ((refine eB (fun h => ?_) (fun h => ?_)) <;> (first | (exfalso; simp at h <;> fail) | (exfalso; simp at h; omega) | skip))
    | refine oX (frz := [1]) Et_ok ?_
    | refine oS ?_
    | refine RunOps.nil ?_
    | refine Run.skip ?_
    | refine cT ?_
    | refine cF ?_
    | refine Run.block ?_
    | refine Run.exit ?_
    | refine Run.draw (frz := [1]) Et_ok (by kernel_rfl) ?_
    | refine eX ?_
    | refine eS ?_
    | refine eN ?_
    | (refine Run.ret ?_; (first | refine rB ?_ | refine rI ?_ | refine rA ?_ | refine rII ?_ | refine rSI ?_ | refine rT ?_ | refine rS ?_); first | done | (skip))
    | fail)
  refine Run.loopT (fun i : Nat => ⟨PT.ofList [(1, cellX x), (3, .d (.int .i64 (sumTo x i : Nat))), (9, .d (.sl 2 (x.rules.map encR))), (10, .d (.int .i64 (x.rules.map encR).length)), (11, .d (.int .i64 i))], [], []⟩) (fun i => i ≤ x.rules.length ∧ (x.rules.take i).any (fun r => r.alts.any longA) = false) (fun i => x.rules.length - i) 0 ⟨Nat.zero_le _, rfl⟩ (tidy_of (objs := _) _ 0 (by rfl) rfl (by repeat' (first | exact trivial | refine ⟨(Or.inl rfl), ?_⟩ | refine ⟨(Or.inr rfl), ?_⟩ | fail)) (by repeat' (first | exact trivial | refine ⟨rfl, ?_⟩ | fail)) rfl rfl) (fun i hi => ?_)
  obtain ⟨hi1, hi3⟩ := hi
  rcases Nat.lt_or_ge i x.rules.length with hlt | hge
  · obtain ⟨r, hr⟩ := get_ok hlt
    have hra := hf.alts r (List.mem_of_getElem? hr)
    have hsl := sumTo_le hf (i := i) hi1
    have hsum : AV.d (.int .i64 (IntKind.i64.wrap ((sumTo x i : Nat) + ((r.alts.map strs).length : Int)))) = .d (.int .i64 (sumTo x (i + 1) : Nat)) := vN8 (by rw [sumTo_succ hr]; simp) (by rw [sumTo_succ hr]; omega)
    repeat' (first
      | refine oX (frz := [1]) (v := .d (.int .i64 (sumTo x (i + 1) : Nat))) Et_ok ?_ (he := (hsum))
      | refine eX (v := .d (.int .i64 (sumTo x (i + 1) : Nat))) ?_ (he := (hsum))
      | refine Run.region ?_
      | refine Run.seq ?_
      | ((refine oB (frz := [1]) Et_ok (fun h => ?_) (fun h => ?_)) <;> (first | (exfalso; simp at h <;> fail) | (exfalso; simp at h; omega) | skip))
      | ((refine eB (fun h => ?_) (fun h => ?_)) <;> (first | (exfalso; simp at h <;> fail) | (exfalso; simp at h; omega) | skip))
      | refine oX (frz := [1]) Et_ok ?_
      | refine oS ?_
      | refine RunOps.nil ?_
      | refine Run.skip ?_
      | refine cT ?_
      | refine cF ?_
      | refine Run.block ?_
      | refine Run.exit ?_
      | refine Run.draw (frz := [1]) Et_ok (by kernel_rfl) ?_
      | refine eX ?_
      | refine eS ?_
      | refine eN ?_
      | refine oX (frz := [1]) (v := .d (.ep [.str r.name, alts r.alts])) Et_ok ?_ (hf := (by first | (simp [inB] <;> fail) | (simp [inB]; omega))) (he := (by first | (simp [List.getD_eq_getElem?_getD, cellsD, hr, encR] <;> fail) | fail))
      | refine eX (v := .d (.ep [.str r.name, alts r.alts])) ?_ (hf := (by first | (simp [inB] <;> fail) | (simp [inB]; omega))) (he := (by first | (simp [List.getD_eq_getElem?_getD, cellsD, hr, encR] <;> fail) | fail))
      | (refine Run.ret ?_; (first | refine rB ?_ | refine rI ?_ | refine rA ?_ | refine rII ?_ | refine rSI ?_ | refine rT ?_ | refine rS ?_); first | done | (skip))
      | ((exfalso; (simp at h <;> omega)))
      | fail)
    refine Run.loopT (fun k : Nat => ⟨PT.ofList [(1, cellX x), (3, .d (.int .i64 (sumTo x (i + 1) : Nat))), (9, .d (.sl 2 (x.rules.map encR))), (10, .d (.int .i64 (x.rules.map encR).length)), (11, .d (.int .i64 i)), (21, .d (alts r.alts)), (22, .d (.int .i64 (r.alts.map strs).length)), (23, .d (.int .i64 k))], [], []⟩) (fun k => k ≤ r.alts.length ∧ (r.alts.take k).any longA = false) (fun k => r.alts.length - k) 0 ⟨Nat.zero_le _, rfl⟩ (tidy_of (objs := _) _ 0 (by rfl) rfl (by repeat' (first | exact trivial | refine ⟨(Or.inl rfl), ?_⟩ | refine ⟨(Or.inr rfl), ?_⟩ | fail)) (by repeat' (first | exact trivial | refine ⟨rfl, ?_⟩ | fail)) rfl rfl) (fun k hk => ?_)
    obtain ⟨hk1, hk3⟩ := hk
    rcases Nat.lt_or_ge k r.alts.length with hkl | hkg
    · obtain ⟨a, ha⟩ := get_ok hkl
      cases hla : longA a with
      | true =>
        have hfx : fullX x = true := by unfold fullX; rw [any_hit hr (p := fun r => r.alts.any longA) (any_hit ha hla)]; rfl
        have hla' : 6 < a.length := by simpa [longA] using hla
        rw [hfx]
        repeat' (first
          | refine Run.region ?_
          | refine Run.seq ?_
          | ((refine oB (frz := [1]) Et_ok (fun h => ?_) (fun h => ?_)) <;> (first | (exfalso; simp at h <;> fail) | (exfalso; simp at h; omega) | skip))
          | ((refine eB (fun h => ?_) (fun h => ?_)) <;> (first | (exfalso; simp at h <;> fail) | (exfalso; simp at h; omega) | skip))
          | refine oX (frz := [1]) Et_ok ?_
          | refine oS ?_
          | refine RunOps.nil ?_
          | refine Run.skip ?_
          | refine cT ?_
          | refine cF ?_
          | refine Run.block ?_
          | refine Run.exit ?_
          | refine Run.draw (frz := [1]) Et_ok (by kernel_rfl) ?_
          | refine eX ?_
          | refine eS ?_
          | refine eN ?_
          | refine oX (frz := [1]) (v := .d (.ep [strs a])) Et_ok ?_ (hf := (by first | (simp [inB] <;> fail) | (simp [inB]; omega))) (he := (by first | (simp [List.getD_eq_getElem?_getD, cellsD, ha] <;> fail) | fail))
          | refine eX (v := .d (.ep [strs a])) ?_ (hf := (by first | (simp [inB] <;> fail) | (simp [inB]; omega))) (he := (by first | (simp [List.getD_eq_getElem?_getD, cellsD, ha] <;> fail) | fail))
          | (refine Run.ret ?_; (first | refine rB ?_ | refine rI ?_ | refine rA ?_ | refine rII ?_ | refine rSI ?_ | refine rT ?_ | refine rS ?_); first | done | (rfl))
          | ((exfalso; (simp at h <;> omega)))
          | fail)
      | false =>
        have hla' : ¬ 6 < a.length := by simpa [longA] using hla
        repeat' (first
          | refine Run.region ?_
          | refine Run.seq ?_
          | ((refine oB (frz := [1]) Et_ok (fun h => ?_) (fun h => ?_)) <;> (first | (exfalso; simp at h <;> fail) | (exfalso; simp at h; omega) | skip))
          | ((refine eB (fun h => ?_) (fun h => ?_)) <;> (first | (exfalso; simp at h <;> fail) | (exfalso; simp at h; omega) | skip))
          | refine oX (frz := [1]) Et_ok ?_
          | refine oS ?_
          | refine RunOps.nil ?_
          | refine Run.skip ?_
          | refine cT ?_
          | refine cF ?_
          | refine Run.block ?_
          | refine Run.exit ?_
          | refine Run.draw (frz := [1]) Et_ok (by kernel_rfl) ?_
          | refine eX ?_
          | refine eS ?_
          | refine eN ?_
          | refine oX (frz := [1]) (v := .d (.ep [strs a])) Et_ok ?_ (hf := (by first | (simp [inB] <;> fail) | (simp [inB]; omega))) (he := (by first | (simp [List.getD_eq_getElem?_getD, cellsD, ha] <;> fail) | fail))
          | refine eX (v := .d (.ep [strs a])) ?_ (hf := (by first | (simp [inB] <;> fail) | (simp [inB]; omega))) (he := (by first | (simp [List.getD_eq_getElem?_getD, cellsD, ha] <;> fail) | fail))
          | (refine Run.ret ?_; (first | refine rB ?_ | refine rI ?_ | refine rA ?_ | refine rII ?_ | refine rSI ?_ | refine rT ?_ | refine rS ?_); first | done | ((exfalso; (simp at h <;> omega))))
          | (exact ⟨k + 1, ⟨by omega, any_next ha hk3 hla⟩, by omega, (tidy_of (objs := _) _ 0 (by rfl) rfl (by repeat' (first | exact trivial | refine ⟨(Or.inl rfl), ?_⟩ | refine ⟨(Or.inl (inc_get (k := k) (by kernel_rfl) (by omega))), ?_⟩ | refine ⟨(Or.inr rfl), ?_⟩ | fail)) (by repeat' (first | exact trivial | refine ⟨rfl, ?_⟩ | fail)) rfl rfl)⟩)
          | ((exfalso; (simp at h <;> omega)))
          | fail)
    · have hke : k = r.alts.length := by omega
      subst hke
      have hall := any_end hk3
      repeat' (first
        | refine Run.region ?_
        | refine Run.seq ?_
        | ((refine oB (frz := [1]) Et_ok (fun h => ?_) (fun h => ?_)) <;> (first | (exfalso; simp at h <;> fail) | (exfalso; simp at h; omega) | skip))
        | ((refine eB (fun h => ?_) (fun h => ?_)) <;> (first | (exfalso; simp at h <;> fail) | (exfalso; simp at h; omega) | skip))
        | refine oX (frz := [1]) Et_ok ?_
        | refine oS ?_
        | refine RunOps.nil ?_
        | refine Run.skip ?_
        | refine cT ?_
        | refine cF ?_
        | refine Run.block ?_
        | refine Run.exit ?_
        | refine Run.draw (frz := [1]) Et_ok (by kernel_rfl) ?_
        | refine eX ?_
        | refine eS ?_
        | refine eN ?_
        | (refine Run.ret ?_; (first | refine rB ?_ | refine rI ?_ | refine rA ?_ | refine rII ?_ | refine rSI ?_ | refine rT ?_ | refine rS ?_); first | done | (skip))
        | (exact ⟨i + 1, ⟨by omega, any_next hr hi3 hall⟩, by omega, (tidy_of (objs := _) _ 0 (by rfl) rfl (by repeat' (first | exact trivial | refine ⟨(Or.inl rfl), ?_⟩ | refine ⟨(Or.inl (inc_get (k := i) (by kernel_rfl) (by omega))), ?_⟩ | refine ⟨(Or.inr rfl), ?_⟩ | fail)) (by repeat' (first | exact trivial | refine ⟨rfl, ?_⟩ | fail)) rfl rfl)⟩)
        | ((exfalso; (simp at h <;> omega)))
        | fail)
  · have hie : i = x.rules.length := by omega
    subst hie
    rw [fullX_all hi3]
    by_cases ht : 8 < x.tokens.length
    · rw [decide_eq_true ht]
      repeat' (first
        | refine Run.region ?_
        | refine Run.seq ?_
        | ((refine oB (frz := [1]) Et_ok (fun h => ?_) (fun h => ?_)) <;> (first | (exfalso; simp at h <;> fail) | (exfalso; simp at h; omega) | skip))
        | ((refine eB (fun h => ?_) (fun h => ?_)) <;> (first | (exfalso; simp at h <;> fail) | (exfalso; simp at h; omega) | skip))
        | refine oX (frz := [1]) Et_ok ?_
        | refine oS ?_
        | refine RunOps.nil ?_
        | refine Run.skip ?_
        | refine cT ?_
        | refine cF ?_
        | refine Run.block ?_
        | refine Run.exit ?_
        | refine Run.draw (frz := [1]) Et_ok (by kernel_rfl) ?_
        | refine eX ?_
        | refine eS ?_
        | refine eN ?_
        | (refine Run.ret ?_; (first | refine rB ?_ | refine rI ?_ | refine rA ?_ | refine rII ?_ | refine rSI ?_ | refine rT ?_ | refine rS ?_); first | done | (rfl))
        | ((exfalso; (simp at h <;> omega)))
        | fail)
    · rw [decide_eq_false ht]
      by_cases h8 : 8 < x.rules.length
      · rw [decide_eq_true h8]
        repeat' (first
          | refine Run.region ?_
          | refine Run.seq ?_
          | ((refine oB (frz := [1]) Et_ok (fun h => ?_) (fun h => ?_)) <;> (first | (exfalso; simp at h <;> fail) | (exfalso; simp at h; omega) | skip))
          | ((refine eB (fun h => ?_) (fun h => ?_)) <;> (first | (exfalso; simp at h <;> fail) | (exfalso; simp at h; omega) | skip))
          | refine oX (frz := [1]) Et_ok ?_
          | refine oS ?_
          | refine RunOps.nil ?_
          | refine Run.skip ?_
          | refine cT ?_
          | refine cF ?_
          | refine Run.block ?_
          | refine Run.exit ?_
          | refine Run.draw (frz := [1]) Et_ok (by kernel_rfl) ?_
          | refine eX ?_
          | refine eS ?_
          | refine eN ?_
          | (refine Run.ret ?_; (first | refine rB ?_ | refine rI ?_ | refine rA ?_ | refine rII ?_ | refine rSI ?_ | refine rT ?_ | refine rS ?_); first | done | (rfl))
          | ((exfalso; (simp at h <;> omega)))
          | fail)
      · rw [decide_eq_false h8]
        by_cases hs : 24 < sumTo x x.rules.length
        · rw [decide_eq_true hs]
          repeat' (first
            | refine Run.region ?_
            | refine Run.seq ?_
            | ((refine oB (frz := [1]) Et_ok (fun h => ?_) (fun h => ?_)) <;> (first | (exfalso; simp at h <;> fail) | (exfalso; simp at h; omega) | skip))
            | ((refine eB (fun h => ?_) (fun h => ?_)) <;> (first | (exfalso; simp at h <;> fail) | (exfalso; simp at h; omega) | skip))
            | refine oX (frz := [1]) Et_ok ?_
            | refine oS ?_
            | refine RunOps.nil ?_
            | refine Run.skip ?_
            | refine cT ?_
            | refine cF ?_
            | refine Run.block ?_
            | refine Run.exit ?_
            | refine Run.draw (frz := [1]) Et_ok (by kernel_rfl) ?_
            | refine eX ?_
            | refine eS ?_
            | refine eN ?_
            | (refine Run.ret ?_; (first | refine rB ?_ | refine rI ?_ | refine rA ?_ | refine rII ?_ | refine rSI ?_ | refine rT ?_ | refine rS ?_); first | done | (rfl))
            | ((exfalso; (simp at h <;> omega)))
            | fail)
        · rw [decide_eq_false hs]
          repeat' (first
            | refine Run.region ?_
            | refine Run.seq ?_
            | ((refine oB (frz := [1]) Et_ok (fun h => ?_) (fun h => ?_)) <;> (first | (exfalso; simp at h <;> fail) | (exfalso; simp at h; omega) | skip))
            | ((refine eB (fun h => ?_) (fun h => ?_)) <;> (first | (exfalso; simp at h <;> fail) | (exfalso; simp at h; omega) | skip))
            | refine oX (frz := [1]) Et_ok ?_
            | refine oS ?_
            | refine RunOps.nil ?_
            | refine Run.skip ?_
            | refine cT ?_
            | refine cF ?_
            | refine Run.block ?_
            | refine Run.exit ?_
            | refine Run.draw (frz := [1]) Et_ok (by kernel_rfl) ?_
            | refine eX ?_
            | refine eS ?_
            | refine eN ?_
            | (refine Run.ret ?_; (first | refine rB ?_ | refine rI ?_ | refine rA ?_ | refine rII ?_ | refine rSI ?_ | refine rT ?_ | refine rS ?_); first | done | (rfl))
            | ((exfalso; (simp at h <;> omega)))
            | fail)
end Go.Av
end
noncomputable section
namespace Go.Av
open Go Go.Proofs
set_option maxRecDepth 10000
theorem vT8 {p : Prop} [Decidable p] (h : p) : AV.d (.bool (decide p)) = .d (.bool true) := by rw [decide_eq_true h]
theorem vF8 {p : Prop} [Decidable p] (h : ¬ p) : AV.d (.bool (decide p)) = .d (.bool false) := by rw [decide_eq_false h]
section
variable {E : PT Ty} {H : Hd} {frz : List Nat} {rd : Operand → AV} {objs : List Ob} {o : Oper} {args : Array Operand} {tys : Array TypeId} {a b : Operand} {ts tx e : TypeId} {yts z : Ty} {szx k : Nat} {ys : List DV}
theorem appV (hlen : ys.length ≤ 16777216) (hop : o.op = .call ⟨.builtin .append, args, tys⟩ := by rfl) (ha : args.toList = [a, b] := by rfl) (ht : tys.toList = [ts, tx] := by rfl)
    (hv : hintV o.dst frz = true := by rfl) (h1 : E.get? ts = some yts := by rfl) (h2 : yts.desc = .slice e := by rfl) (h3 : E.get? e = some z := by rfl) (h4 : appSrc E z tx (rd b) objs = some (szx, ys) := by rfl) (h5 : (Nat.ble 1 z.size && Nat.ble 1 z.bytes) = true := by rfl) (hk : z.size = k := by rfl)
    (h6 : szx = k ∨ ys = [] := by first | rfl | (exact Or.inl rfl) | (exact Or.inr rfl))
    (h7 : rd a = .d .nilsl := by rfl) (h11 : Nat.ble z.bytes 65536 = true := by rfl) :
    evAny E H frz rd objs o = some (.vs objs.length k 0 ys.length, some (objs ++ [.vec (isAggT z.desc) k ys.length ((flatD ys).map .d)]), true) := by
  obtain ⟨dst, op, ty, pos, after, guard⟩ := o
  obtain ⟨desc, size, bytes, zero⟩ := yts
  simp only at hop h2 hv
  subst hop h2 hk
  have hb : ∀ q : Nat, Nat.beq q q = true := fun q => Nat.beq_refl q
  have hs : srcSz szx z.size ys = z.size := by
    rcases h6 with rfl | rfl
    · cases ys <;> rfl
    · rfl
  have hm : Nat.ble (ys.length * z.bytes) 1099511627776 = true := Nat.ble_eq_true_of_le (Nat.le_trans (Nat.mul_le_mul hlen (Nat.le_of_ble_eq_true h11)) (by decide))
  simp only [evAny, ha, ht, hv, appendR, h1, appSrc0, h3, h4, h5, hs, hb, h7, hm, Bool.and_self, if_true, Option.map_some]
end
theorem appSrc_make {n : Nat} (hn : n ≤ 1048576) {objs : List Ob} : appSrc Et ty9 3 (.d (.int .i64 (n : Nat))) objs = some (1, List.replicate n (.str [])) := by
  have h1 : Nat.ble n 1048576 = true := Nat.ble_eq_true_of_le hn
  have h2 : Nat.ble (n * ty9.bytes) 1099511627776 = true := Nat.ble_eq_true_of_le (Nat.le_trans (Nat.mul_le_mul hn (show ty9.bytes ≤ 16 from Nat.le_refl _)) (by decide))
  have h3 : (decide (0 ≤ ((n : Nat) : Int)) && Nat.ble ((n : Nat) : Int).toNat 1048576 && Nat.ble (((n : Nat) : Int).toNat * ty9.bytes) 1099511627776 && (isAggT ty9.desc || Nat.beq ty9.size 1)) = true := by
    rw [Int.toNat_natCast, h1, h2]; simp; exact .inr rfl
  show (match decide (0 ≤ ((n : Nat) : Int)) && Nat.ble ((n : Nat) : Int).toNat 1048576 && Nat.ble (((n : Nat) : Int).toNat * ty9.bytes) 1099511627776 && (isAggT ty9.desc || Nat.beq ty9.size 1) with
    | true => some (ty9.size, List.replicate ((n : Nat) : Int).toNat (zeroE ty9))
    | false => none) = _
  rw [h3]; rfl
theorem cloneA (l : List (List Nat)) (hl : l.length ≤ 1048576) : ACall Try.prog 52 [.d (strs l)] [] (.sr 0 1 ([] ++ l.map DV.str)) [.room (([] : List DV).length + (l.map DV.str).length) 1] := by
  refine acall_of_run Et_ok (fnAt Try.func52 (by kernel_rfl) (by kernel_rfl) : FnAt _ _ (mkFn Try.f52 [])) rfl rfl ?_
  repeat (first | refine Run.region ?_ | refine Run.seq ?_ | refine RunOps.nil ?_ | refine Run.skip ?_ | refine cT ?_ | refine cF ?_ | refine Run.block ?_ | refine Run.exit ?_ | refine eN ?_ | refine Run.draw (frz := []) Et_ok (by kernel_rfl) ?_)
  iterate 1 (first | refine oX (frz := []) Et_ok ?_ | refine eX ?_)
  repeat (first | refine Run.region ?_ | refine Run.seq ?_ | refine RunOps.nil ?_ | refine Run.skip ?_ | refine cT ?_ | refine cF ?_ | refine Run.block ?_ | refine Run.exit ?_ | refine eN ?_ | refine Run.draw (frz := []) Et_ok (by kernel_rfl) ?_)
  iterate 1 (first | refine oX (frz := []) Et_ok ?_ | refine eX ?_)
  refine oNil Et_ok (fun hnil => ?_) ?_
  · have hl0 : l = [] := by simpa using hnil
    subst hl0
    repeat (first | refine Run.region ?_ | refine Run.seq ?_ | refine RunOps.nil ?_ | refine Run.skip ?_ | refine cT ?_ | refine cF ?_ | refine Run.block ?_ | refine Run.exit ?_ | refine eN ?_ | refine Run.draw (frz := []) Et_ok (by kernel_rfl) ?_)
    iterate 1 (first | refine oX (frz := []) Et_ok ?_ | refine eX ?_)
    repeat (first | refine Run.region ?_ | refine Run.seq ?_ | refine RunOps.nil ?_ | refine Run.skip ?_ | refine cT ?_ | refine cF ?_ | refine Run.block ?_ | refine Run.exit ?_ | refine eN ?_ | refine Run.draw (frz := []) Et_ok (by kernel_rfl) ?_)
    refine Run.mkRoom 2 1 [(2, .sr 0 1 [])] rfl (ofList_cases (by intro p hp; simp at hp; subst hp; exact .inl ⟨rfl, rfl⟩)) ?_
    refine Run.ret ?_
    exact ⟨trivial, rfl, rfl⟩
  · repeat (first | refine Run.region ?_ | refine Run.seq ?_ | refine RunOps.nil ?_ | refine Run.skip ?_ | refine cT ?_ | refine cF ?_ | refine Run.block ?_ | refine Run.exit ?_ | refine eN ?_ | refine Run.draw (frz := []) Et_ok (by kernel_rfl) ?_)
    iterate 2 (first | refine oX (frz := []) Et_ok ?_ | refine eX ?_)
    refine oX (frz := []) Et_ok ?_ (hv := app1) (hf := rfl) (he := rfl)
    iterate 1 (first | refine oX (frz := []) Et_ok ?_ | refine eX ?_)
    repeat (first | refine Run.region ?_ | refine Run.seq ?_ | refine RunOps.nil ?_ | refine Run.skip ?_ | refine cT ?_ | refine cF ?_ | refine Run.block ?_ | refine Run.exit ?_ | refine eN ?_ | refine Run.draw (frz := []) Et_ok (by kernel_rfl) ?_)
    refine Run.ret ?_
    exact ⟨trivial, rfl, rfl⟩
theorem grow0 : ACall Try.prog 97 [.d .nilsl, .d (.int .i64 (0 : Nat))] [] (.sr 0 1 []) [.room 0 1] := by
  refine nil_room ?_
  refine acall_of_run Et_ok (fnAt Try.func97 (by kernel_rfl) (by kernel_rfl) : FnAt _ _ (mkFn Try.f97 [])) rfl rfl ?_
  repeat (first | refine Run.region ?_ | refine Run.seq ?_ | refine RunOps.nil ?_ | refine Run.skip ?_ | refine cT ?_ | refine cF ?_ | refine Run.block ?_ | refine Run.exit ?_ | refine eN ?_ | refine Run.draw (frz := []) Et_ok (by kernel_rfl) ?_)
  iterate 1 (first | refine oX (frz := []) Et_ok ?_ | refine eX ?_)
  repeat (first | refine Run.region ?_ | refine Run.seq ?_ | refine RunOps.nil ?_ | refine Run.skip ?_ | refine cT ?_ | refine cF ?_ | refine Run.block ?_ | refine Run.exit ?_ | refine eN ?_ | refine Run.draw (frz := []) Et_ok (by kernel_rfl) ?_)
  iterate 1 (first | refine oX (frz := []) Et_ok ?_ | refine eX ?_)
  first | refine oX (frz := []) (v := .d (.bool false)) Et_ok ?_ (he := (vF8 (by decide))) | refine eX (v := .d (.bool false)) ?_ (he := (vF8 (by decide)))
  repeat (first | refine Run.region ?_ | refine Run.seq ?_ | refine RunOps.nil ?_ | refine Run.skip ?_ | refine cT ?_ | refine cF ?_ | refine Run.block ?_ | refine Run.exit ?_ | refine eN ?_ | refine Run.draw (frz := []) Et_ok (by kernel_rfl) ?_)
  iterate 5 (first | refine oX (frz := []) Et_ok ?_ | refine eX ?_)
  first | refine oX (frz := []) (v := .d (.int .i64 0)) Et_ok ?_ (he := (rfl)) | refine eX (v := .d (.int .i64 0)) ?_ (he := (rfl))
  first | refine oX (frz := []) (v := .d (.int .i64 (0 : Nat))) Et_ok ?_ (he := (rfl)) | refine eX (v := .d (.int .i64 (0 : Nat))) ?_ (he := (rfl))
  iterate 1 (first | refine oX (frz := []) Et_ok ?_ | refine eX ?_)
  repeat (first | refine Run.region ?_ | refine Run.seq ?_ | refine RunOps.nil ?_ | refine Run.skip ?_ | refine cT ?_ | refine cF ?_ | refine Run.block ?_ | refine Run.exit ?_ | refine eN ?_ | refine Run.draw (frz := []) Et_ok (by kernel_rfl) ?_)
  iterate 1 (first | refine oX (frz := []) Et_ok ?_ | refine eX ?_)
  first | refine oX (frz := []) (v := .d (.bool false)) Et_ok ?_ (he := (vF8 (by decide))) | refine eX (v := .d (.bool false)) ?_ (he := (vF8 (by decide)))
  repeat (first | refine Run.region ?_ | refine Run.seq ?_ | refine RunOps.nil ?_ | refine Run.skip ?_ | refine cT ?_ | refine cF ?_ | refine Run.block ?_ | refine Run.exit ?_ | refine eN ?_ | refine Run.draw (frz := []) Et_ok (by kernel_rfl) ?_)
  iterate 2 (first | refine oX (frz := []) Et_ok ?_ | refine eX ?_)
  repeat (first | refine Run.region ?_ | refine Run.seq ?_ | refine RunOps.nil ?_ | refine Run.skip ?_ | refine cT ?_ | refine cF ?_ | refine Run.block ?_ | refine Run.exit ?_ | refine eN ?_ | refine Run.draw (frz := []) Et_ok (by kernel_rfl) ?_)
  refine Run.ret ?_
  exact ⟨trivial, rfl, rfl⟩
theorem growN (n : Nat) (h0 : 0 < n) (hn : n ≤ 1048576) : ∃ m cs, ACall Try.prog 97 [.d .nilsl, .d (.int .i64 (n : Nat))] [] (.vs 0 1 0 0) [.vec false 1 m cs] := by
  refine ⟨(List.replicate n (DV.str [])).length, (flatD (List.replicate n (.str []))).map .d, ?_⟩
  refine acall_of_run Et_ok (fnAt Try.func97 (by kernel_rfl) (by kernel_rfl) : FnAt _ _ (mkFn Try.f97 [65558, 200000])) rfl rfl ?_
  repeat (first | refine Run.region ?_ | refine Run.seq ?_ | refine RunOps.nil ?_ | refine Run.skip ?_ | refine cT ?_ | refine cF ?_ | refine Run.block ?_ | refine Run.exit ?_ | refine eN ?_ | refine Run.draw (frz := [65558, 200000]) Et_ok (by kernel_rfl) ?_)
  iterate 1 (first | refine oX (frz := [65558, 200000]) Et_ok ?_ | refine eX ?_)
  repeat (first | refine Run.region ?_ | refine Run.seq ?_ | refine RunOps.nil ?_ | refine Run.skip ?_ | refine cT ?_ | refine cF ?_ | refine Run.block ?_ | refine Run.exit ?_ | refine eN ?_ | refine Run.draw (frz := [65558, 200000]) Et_ok (by kernel_rfl) ?_)
  iterate 1 (first | refine oX (frz := [65558, 200000]) Et_ok ?_ | refine eX ?_)
  first | refine oX (frz := [65558, 200000]) (v := .d (.bool false)) Et_ok ?_ (he := (vF8 (by omega))) | refine eX (v := .d (.bool false)) ?_ (he := (vF8 (by omega)))
  repeat (first | refine Run.region ?_ | refine Run.seq ?_ | refine RunOps.nil ?_ | refine Run.skip ?_ | refine cT ?_ | refine cF ?_ | refine Run.block ?_ | refine Run.exit ?_ | refine eN ?_ | refine Run.draw (frz := [65558, 200000]) Et_ok (by kernel_rfl) ?_)
  iterate 5 (first | refine oX (frz := [65558, 200000]) Et_ok ?_ | refine eX ?_)
  first | refine oX (frz := [65558, 200000]) (v := .d (.int .i64 0)) Et_ok ?_ (he := (rfl)) | refine eX (v := .d (.int .i64 0)) ?_ (he := (rfl))
  first | refine oX (frz := [65558, 200000]) (v := .d (.int .i64 (n : Nat))) Et_ok ?_ (he := (vN8 (by omega) (by omega))) | refine eX (v := .d (.int .i64 (n : Nat))) ?_ (he := (vN8 (by omega) (by omega)))
  iterate 1 (first | refine oX (frz := [65558, 200000]) Et_ok ?_ | refine eX ?_)
  repeat (first | refine Run.region ?_ | refine Run.seq ?_ | refine RunOps.nil ?_ | refine Run.skip ?_ | refine cT ?_ | refine cF ?_ | refine Run.block ?_ | refine Run.exit ?_ | refine eN ?_ | refine Run.draw (frz := [65558, 200000]) Et_ok (by kernel_rfl) ?_)
  iterate 1 (first | refine oX (frz := [65558, 200000]) Et_ok ?_ | refine eX ?_)
  first | refine oX (frz := [65558, 200000]) (v := .d (.bool true)) Et_ok ?_ (he := (vT8 (by omega))) | refine eX (v := .d (.bool true)) ?_ (he := (vT8 (by omega)))
  repeat (first | refine Run.region ?_ | refine Run.seq ?_ | refine RunOps.nil ?_ | refine Run.skip ?_ | refine cT ?_ | refine cF ?_ | refine Run.block ?_ | refine Run.exit ?_ | refine eN ?_ | refine Run.draw (frz := [65558, 200000]) Et_ok (by kernel_rfl) ?_)
  iterate 5 (first | refine oX (frz := [65558, 200000]) Et_ok ?_ | refine eX ?_)
  refine oX (frz := [65558, 200000]) Et_ok ?_ (hv := appV (ys := List.replicate n (.str [])) (by rw [List.length_replicate] <;> omega) (h4 := by exact appSrc_make hn)) (hf := rfl) (he := rfl)
  iterate 2 (first | refine oX (frz := [65558, 200000]) Et_ok ?_ | refine eX ?_)
  refine oX (frz := [65558, 200000]) Et_ok ?_ (hf := by simp [cutC])
  iterate 1 (first | refine oX (frz := [65558, 200000]) Et_ok ?_ | refine eX ?_)
  repeat (first | refine Run.region ?_ | refine Run.seq ?_ | refine RunOps.nil ?_ | refine Run.skip ?_ | refine cT ?_ | refine cF ?_ | refine Run.block ?_ | refine Run.exit ?_ | refine eN ?_ | refine Run.draw (frz := [65558, 200000]) Et_ok (by kernel_rfl) ?_)
  iterate 2 (first | refine oX (frz := [65558, 200000]) Et_ok ?_ | refine eX ?_)
  repeat (first | refine Run.region ?_ | refine Run.seq ?_ | refine RunOps.nil ?_ | refine Run.skip ?_ | refine cT ?_ | refine cF ?_ | refine Run.block ?_ | refine Run.exit ?_ | refine eN ?_ | refine Run.draw (frz := [65558, 200000]) Et_ok (by kernel_rfl) ?_)
  refine Run.ret ?_
  exact ⟨trivial, rfl, rfl⟩
theorem growR (n : Nat) (hn : n ≤ 1048576) : ACall Try.prog 97 [.d .nilsl, .d (.int .i64 (n : Nat))] [] (.sr 0 1 []) [.room 0 1] := by
  rcases Nat.eq_zero_or_pos n with h0 | h0
  · subst h0; exact grow0
  · obtain ⟨m, cs, h⟩ := growN n h0 hn
    exact vec_room h
def lensTo (l : List (List (List Nat))) (i : Nat) : Nat := (l.take i).flatten.length
theorem lensTo_succ {l : List (List (List Nat))} {i : Nat} {a : List (List Nat)} (h : l[i]? = some a) : lensTo l (i + 1) = lensTo l i + a.length := by
  simp [lensTo, List.take_add_one, h]
theorem lensTo_le (l : List (List (List Nat))) (i : Nat) : lensTo l i ≤ l.flatten.length := by
  unfold lensTo
  conv => rhs; rw [← List.take_append_drop i l, List.flatten_append, List.length_append]
  omega
theorem concat (l : List (List (List Nat))) (hl : l.length ≤ 1099511627776) (ht : l.flatten.length ≤ 1048576) : KnownCall Try.prog 89 [alts l] (.d (strs l.flatten)) := by
  refine knownE Et_ok (fnAt Try.func89 (by kernel_rfl) (by kernel_rfl) : FnAt _ _ (mkFn Try.f89 [])) ?_
  repeat' (first
    | refine Run.region ?_
    | refine Run.seq ?_
    | ((refine oB (frz := []) Et_ok (fun h => ?_) (fun h => ?_)) <;> (first | (exfalso; simp at h <;> fail) | (exfalso; simp at h; omega) | skip))
    | ((refine eB (fun h => ?_) (fun h => ?_)) <;> (first | (exfalso; simp at h <;> fail) | (exfalso; simp at h; omega) | skip))
    | refine oX (frz := []) Et_ok ?_
    | refine oS ?_
    | refine RunOps.nil ?_
    | refine Run.skip ?_
    | refine cT ?_
    | refine cF ?_
    | refine Run.block ?_
    | refine Run.exit ?_
    | refine Run.draw (frz := []) Et_ok (by kernel_rfl) ?_
    | refine eX ?_
    | refine eS ?_
    | refine eN ?_
    | (refine Run.ret ?_; (first | refine rB ?_ | refine rI ?_ | refine rA ?_ | refine rII ?_ | refine rSI ?_ | refine rT ?_ | refine rS ?_); first | done | (skip))
    | fail)
  refine Run.loop (fun i : Nat => ⟨PT.ofList [(0, .d (alts l)), (3, .d (.int .i64 (lensTo l i : Nat))), (9, .d (alts l)), (10, .d (.int .i64 (l.map strs).length)), (11, .d (.int .i64 i))], [], []⟩) (fun i => i ≤ l.length) (fun i => l.length - i) 0 (Nat.zero_le _) (weak_of (by repeat' (first | exact trivial | refine ⟨rfl, ?_⟩))) (fun i hi => ?_)
  rcases Nat.lt_or_ge i l.length with hlt | hge
  · obtain ⟨a, ha⟩ := get_ok hlt
    have h1 := lensTo_le l (i + 1)
    have h2 := lensTo_succ ha
    repeat (first | refine Run.region ?_ | refine Run.seq ?_ | refine RunOps.nil ?_ | refine Run.skip ?_ | refine cT ?_ | refine cF ?_ | refine Run.block ?_ | refine Run.exit ?_ | refine eN ?_ | refine Run.draw (frz := []) Et_ok (by kernel_rfl) ?_)
    first | refine oX (frz := []) (v := .d (.bool true)) Et_ok ?_ (he := (vT8 (by simp <;> omega))) | refine eX (v := .d (.bool true)) ?_ (he := (vT8 (by simp <;> omega)))
    repeat (first | refine Run.region ?_ | refine Run.seq ?_ | refine RunOps.nil ?_ | refine Run.skip ?_ | refine cT ?_ | refine cF ?_ | refine Run.block ?_ | refine Run.exit ?_ | refine eN ?_ | refine Run.draw (frz := []) Et_ok (by kernel_rfl) ?_)
    refine oX (frz := []) (v := .d (.ep [strs a])) Et_ok ?_ (hf := by simp [inB] <;> omega) (he := by simp [List.getD_eq_getElem?_getD, cellsD, ha])
    iterate 2 (first | refine oX (frz := []) Et_ok ?_ | refine eX ?_)
    repeat (first | refine Run.region ?_ | refine Run.seq ?_ | refine RunOps.nil ?_ | refine Run.skip ?_ | refine cT ?_ | refine cF ?_ | refine Run.block ?_ | refine Run.exit ?_ | refine eN ?_ | refine Run.draw (frz := []) Et_ok (by kernel_rfl) ?_)
    iterate 3 (first | refine oX (frz := []) Et_ok ?_ | refine eX ?_)
    first | refine oX (frz := []) (v := .d (.int .i64 (lensTo l (i + 1) : Nat))) Et_ok ?_ (he := (vN8 (by rw [h2]; simp) (by omega))) | refine eX (v := .d (.int .i64 (lensTo l (i + 1) : Nat))) ?_ (he := (vN8 (by rw [h2]; simp) (by omega)))
    iterate 1 (first | refine oX (frz := []) Et_ok ?_ | refine eX ?_)
    repeat (first | refine Run.region ?_ | refine Run.seq ?_ | refine RunOps.nil ?_ | refine Run.skip ?_ | refine cT ?_ | refine cF ?_ | refine Run.block ?_ | refine Run.exit ?_ | refine eN ?_ | refine Run.draw (frz := []) Et_ok (by kernel_rfl) ?_)
    iterate 1 (first | refine oX (frz := []) Et_ok ?_ | refine eX ?_)
    first | refine oX (frz := []) (v := .d (.bool false)) Et_ok ?_ (he := (vF8 (by omega))) | refine eX (v := .d (.bool false)) ?_ (he := (vF8 (by omega)))
    repeat (first | refine Run.region ?_ | refine Run.seq ?_ | refine RunOps.nil ?_ | refine Run.skip ?_ | refine cT ?_ | refine cF ?_ | refine Run.block ?_ | refine Run.exit ?_ | refine eN ?_ | refine Run.draw (frz := []) Et_ok (by kernel_rfl) ?_)
    first | refine oX (frz := []) (v := .d (.int .i64 (i + 1 : Nat))) Et_ok ?_ (he := (vN8 (by omega) (by omega))) | refine eX (v := .d (.int .i64 (i + 1 : Nat))) ?_ (he := (vN8 (by omega) (by omega)))
    iterate 1 (first | refine oX (frz := []) Et_ok ?_ | refine eX ?_)
    repeat (first | refine Run.region ?_ | refine Run.seq ?_ | refine RunOps.nil ?_ | refine Run.skip ?_ | refine cT ?_ | refine cF ?_ | refine Run.block ?_ | refine Run.exit ?_ | refine eN ?_ | refine Run.draw (frz := []) Et_ok (by kernel_rfl) ?_)
    exact ⟨i + 1, hlt, by omega, weak_of (by repeat' (first | exact trivial | refine ⟨rfl, ?_⟩))⟩
  · have hie : i = l.length := by omega
    have hsum : lensTo l i = l.flatten.length := by unfold lensTo; rw [hie, List.take_length]
    rw [hsum]
    subst hie
    repeat (first | refine Run.region ?_ | refine Run.seq ?_ | refine RunOps.nil ?_ | refine Run.skip ?_ | refine cT ?_ | refine cF ?_ | refine Run.block ?_ | refine Run.exit ?_ | refine eN ?_ | refine Run.draw (frz := []) Et_ok (by kernel_rfl) ?_)
    first | refine oX (frz := []) (v := .d (.bool false)) Et_ok ?_ (he := (vF8 (by simp))) | refine eX (v := .d (.bool false)) ?_ (he := (vF8 (by simp)))
    repeat (first | refine Run.region ?_ | refine Run.seq ?_ | refine RunOps.nil ?_ | refine Run.skip ?_ | refine cT ?_ | refine cF ?_ | refine Run.block ?_ | refine Run.exit ?_ | refine eN ?_ | refine Run.draw (frz := []) Et_ok (by kernel_rfl) ?_)
    iterate 1 (first | refine oX (frz := []) Et_ok ?_ | refine eX ?_)
    refine oA (growR _ ht) ?_
    iterate 1 (first | refine oX (frz := []) Et_ok ?_ | refine eX ?_)
    repeat (first | refine Run.region ?_ | refine Run.seq ?_ | refine RunOps.nil ?_ | refine Run.skip ?_ | refine cT ?_ | refine cF ?_ | refine Run.block ?_ | refine Run.exit ?_ | refine eN ?_ | refine Run.draw (frz := []) Et_ok (by kernel_rfl) ?_)
    iterate 3 (first | refine oX (frz := []) Et_ok ?_ | refine eX ?_)
    repeat (first | refine Run.region ?_ | refine Run.seq ?_ | refine RunOps.nil ?_ | refine Run.skip ?_ | refine cT ?_ | refine cF ?_ | refine Run.block ?_ | refine Run.exit ?_ | refine eN ?_ | refine Run.draw (frz := []) Et_ok (by kernel_rfl) ?_)
    refine Run.loop (fun y : Nat × List DV => ⟨PT.ofList [(6, .sr 0 1 y.2), (25, .d (alts l)), (26, .d (.int .i64 (l.map strs).length)), (27, .d (.int .i64 y.1))], [.room y.2.length 1], []⟩) (fun y => y.1 ≤ l.length ∧ y.2 = (l.take y.1).flatten.map DV.str) (fun y => l.length - y.1) (0, []) ⟨Nat.zero_le _, rfl⟩ (weak_of (by repeat' (first | exact trivial | refine ⟨rfl, ?_⟩))) (fun y hy => ?_)
    obtain ⟨i, acc⟩ := y
    obtain ⟨hi1, hi2⟩ := hy
    simp only at hi1 hi2 ⊢
    rcases Nat.lt_or_ge i l.length with hlt | hge
    · obtain ⟨a, ha⟩ := get_ok hlt
      have h1 := lensTo_le l (i + 1)
      have h2 := lensTo_succ ha
      have hal : acc.length = lensTo l i := by rw [hi2, List.length_map]; rfl
      have hnext : acc ++ a.map DV.str = (l.take (i + 1)).flatten.map DV.str := by rw [List.take_add_one, ha, hi2]; simp
      repeat (first | refine Run.region ?_ | refine Run.seq ?_ | refine RunOps.nil ?_ | refine Run.skip ?_ | refine cT ?_ | refine cF ?_ | refine Run.block ?_ | refine Run.exit ?_ | refine eN ?_ | refine Run.draw (frz := []) Et_ok (by kernel_rfl) ?_)
      first | refine oX (frz := []) (v := .d (.bool true)) Et_ok ?_ (he := (vT8 (by simp <;> omega))) | refine eX (v := .d (.bool true)) ?_ (he := (vT8 (by simp <;> omega)))
      repeat (first | refine Run.region ?_ | refine Run.seq ?_ | refine RunOps.nil ?_ | refine Run.skip ?_ | refine cT ?_ | refine cF ?_ | refine Run.block ?_ | refine Run.exit ?_ | refine eN ?_ | refine Run.draw (frz := []) Et_ok (by kernel_rfl) ?_)
      refine oX (frz := []) (v := .d (.ep [strs a])) Et_ok ?_ (hf := by simp [inB] <;> omega) (he := by simp [List.getD_eq_getElem?_getD, cellsD, ha])
      iterate 2 (first | refine oX (frz := []) Et_ok ?_ | refine eX ?_)
      repeat (first | refine Run.region ?_ | refine Run.seq ?_ | refine RunOps.nil ?_ | refine Run.skip ?_ | refine cT ?_ | refine cF ?_ | refine Run.block ?_ | refine Run.exit ?_ | refine eN ?_ | refine Run.draw (frz := []) Et_ok (by kernel_rfl) ?_)
      iterate 2 (first | refine oX (frz := []) Et_ok ?_ | refine eX ?_)
      refine oX (frz := []) Et_ok ?_ (hv := app1 (hlen := by simp <;> omega)) (hf := rfl) (he := rfl)
      iterate 1 (first | refine oX (frz := []) Et_ok ?_ | refine eX ?_)
      repeat (first | refine Run.region ?_ | refine Run.seq ?_ | refine RunOps.nil ?_ | refine Run.skip ?_ | refine cT ?_ | refine cF ?_ | refine Run.block ?_ | refine Run.exit ?_ | refine eN ?_ | refine Run.draw (frz := []) Et_ok (by kernel_rfl) ?_)
      first | refine oX (frz := []) (v := .d (.int .i64 (i + 1 : Nat))) Et_ok ?_ (he := (vN8 (by omega) (by omega))) | refine eX (v := .d (.int .i64 (i + 1 : Nat))) ?_ (he := (vN8 (by omega) (by omega)))
      iterate 1 (first | refine oX (frz := []) Et_ok ?_ | refine eX ?_)
      repeat (first | refine Run.region ?_ | refine Run.seq ?_ | refine RunOps.nil ?_ | refine Run.skip ?_ | refine cT ?_ | refine cF ?_ | refine Run.block ?_ | refine Run.exit ?_ | refine eN ?_ | refine Run.draw (frz := []) Et_ok (by kernel_rfl) ?_)
      exact ⟨(i + 1, acc ++ a.map DV.str), ⟨hlt, hnext⟩, by simp only <;> omega, weak_of' (by show [Ob.room (acc ++ a.map DV.str).length 1] = [Ob.room (acc.length + (a.map DV.str).length) 1] <;> rw [List.length_append]) rfl (by repeat' (first | exact trivial | refine ⟨rfl, ?_⟩))⟩
    · have hie : i = l.length := by omega
      have he : l.flatten.map DV.str = acc := by rw [hi2, hie, List.take_length]
      rw [show strs l.flatten = .sl 1 (l.flatten.map DV.str) from rfl, he]
      subst hie
      repeat (first | refine Run.region ?_ | refine Run.seq ?_ | refine RunOps.nil ?_ | refine Run.skip ?_ | refine cT ?_ | refine cF ?_ | refine Run.block ?_ | refine Run.exit ?_ | refine eN ?_ | refine Run.draw (frz := []) Et_ok (by kernel_rfl) ?_)
      first | refine oX (frz := []) (v := .d (.bool false)) Et_ok ?_ (he := (vF8 (by simp))) | refine eX (v := .d (.bool false)) ?_ (he := (vF8 (by simp)))
      repeat' (first
        | refine Run.region ?_
        | refine Run.seq ?_
        | ((refine oB (frz := []) Et_ok (fun h => ?_) (fun h => ?_)) <;> (first | (exfalso; simp at h <;> fail) | (exfalso; simp at h; omega) | skip))
        | ((refine eB (fun h => ?_) (fun h => ?_)) <;> (first | (exfalso; simp at h <;> fail) | (exfalso; simp at h; omega) | skip))
        | refine oX (frz := []) Et_ok ?_
        | refine oS ?_
        | refine RunOps.nil ?_
        | refine Run.skip ?_
        | refine cT ?_
        | refine cF ?_
        | refine Run.block ?_
        | refine Run.exit ?_
        | refine Run.draw (frz := []) Et_ok (by kernel_rfl) ?_
        | refine eX ?_
        | refine eS ?_
        | refine eN ?_
        | (refine Run.ret ?_; (first | refine rB ?_ | refine rI ?_ | refine rA ?_ | refine rII ?_ | refine rSI ?_ | refine rT ?_ | refine rS ?_); first | done | (rfl))
        | fail)
end Go.Av
end
noncomputable section
namespace Go.Av
open Go Go.Proofs
set_option maxRecDepth 10000
def innerX (x : Src) : List (List Nat) := x.rules.flatMap (fun r => r.alts.flatten)
def innerTo (x : Src) (i : Nat) : List (List Nat) := (x.rules.take i).flatMap (fun r => r.alts.flatten)
theorem innerTo_succ {x : Src} {i : Nat} {r : SRule} (h : x.rules[i]? = some r) : innerTo x (i + 1) = innerTo x i ++ r.alts.flatten := by
  simp [innerTo, List.take_add_one, h]
theorem innerTo_le (x : Src) (i : Nat) : (innerTo x i).length ≤ (innerX x).length := by
  unfold innerTo innerX
  conv => rhs; rw [← List.take_append_drop i x.rules, List.flatMap_append, List.length_append]
  omega
theorem inner (x : Src) (hf : FitsX x) (ht : (innerX x).length ≤ 1048576) : KnownCall Try.prog 66 [encX x] (.d (strs (innerX x))) := by
  have hrl := hf.rules
  refine knownE Et_ok (fnAt Try.func66 (by kernel_rfl) (by kernel_rfl) : FnAt _ _ (mkFn Try.f66 [1])) ?_
  repeat (first | refine Run.region ?_ | refine Run.seq ?_ | refine RunOps.nil ?_ | refine Run.skip ?_ | refine cT ?_ | refine cF ?_ | refine Run.block ?_ | refine Run.exit ?_ | refine eN ?_ | refine Run.draw (frz := [1]) Et_ok (by kernel_rfl) ?_)
  iterate 2 (first | refine oX (frz := [1]) Et_ok ?_ | refine eX ?_)
  repeat (first | refine Run.region ?_ | refine Run.seq ?_ | refine RunOps.nil ?_ | refine Run.skip ?_ | refine cT ?_ | refine cF ?_ | refine Run.block ?_ | refine Run.exit ?_ | refine eN ?_ | refine Run.draw (frz := [1]) Et_ok (by kernel_rfl) ?_)
  iterate 1 (first | refine oX (frz := [1]) Et_ok ?_ | refine eX ?_)
  refine RunOps.nilRow 3 1 [(1, cellX x), (3, .d (.sl 1 []))] (by rfl) (by refine ofList_cases ?_; intro p hp; rcases List.mem_cons.1 hp with rfl | hp; right; dsimp only; rfl; rcases List.mem_cons.1 hp with rfl | hp; exact .inl ⟨rfl, rfl⟩; cases hp) ?_
  repeat (first | refine Run.region ?_ | refine Run.seq ?_ | refine RunOps.nil ?_ | refine Run.skip ?_ | refine cT ?_ | refine cF ?_ | refine Run.block ?_ | refine Run.exit ?_ | refine eN ?_ | refine Run.draw (frz := [1]) Et_ok (by kernel_rfl) ?_)
  iterate 4 (first | refine oX (frz := [1]) Et_ok ?_ | refine eX ?_)
  repeat (first | refine Run.region ?_ | refine Run.seq ?_ | refine RunOps.nil ?_ | refine Run.skip ?_ | refine cT ?_ | refine cF ?_ | refine Run.block ?_ | refine Run.exit ?_ | refine eN ?_ | refine Run.draw (frz := [1]) Et_ok (by kernel_rfl) ?_)
  refine Run.loopT (fun i : Nat => ⟨PT.ofList [(3, .d (strs (innerTo x i))), (7, .d (.sl 2 (x.rules.map encR))), (8, .d (.int .i64 (x.rules.map encR).length)), (9, .d (.int .i64 i))], [], []⟩) (fun i => i ≤ x.rules.length) (fun i => x.rules.length - i) 0 (Nat.zero_le _) (tidy_of (objs := _) _ 0 (by rfl) rfl (by repeat' (first | exact trivial | refine ⟨(Or.inl rfl), ?_⟩ | refine ⟨(Or.inr rfl), ?_⟩ | fail)) (by repeat' (first | exact trivial | refine ⟨rfl, ?_⟩ | fail)) rfl rfl) (fun i hi => ?_)
  rcases Nat.lt_or_ge i x.rules.length with hlt | hge
  · obtain ⟨r, hr⟩ := get_ok hlt
    have hra := hf.alts r (List.mem_of_getElem? hr)
    have h1 := innerTo_le x (i + 1)
    have h2 := innerTo_succ hr
    have hfl : (innerTo x i :: r.alts).flatten = innerTo x (i + 1) := by rw [h2]; rfl
    have hc := concat (innerTo x i :: r.alts) (by simp; omega) (by rw [hfl]; omega)
    rw [hfl] at hc
    repeat' (first
      | refine Run.region ?_
      | refine Run.seq ?_
      | ((refine oB (frz := [1]) Et_ok (fun h => ?_) (fun h => ?_)) <;> (first | (exfalso; simp at h <;> fail) | (exfalso; simp at h; omega) | skip))
      | ((refine eB (fun h => ?_) (fun h => ?_)) <;> (first | (exfalso; simp at h <;> fail) | (exfalso; simp at h; omega) | skip))
      | refine oX (frz := [1]) Et_ok ?_
      | refine oS ?_
      | refine RunOps.nil ?_
      | refine Run.skip ?_
      | refine cT ?_
      | refine cF ?_
      | refine Run.block ?_
      | refine Run.exit ?_
      | refine Run.draw (frz := [1]) Et_ok (by kernel_rfl) ?_
      | refine eX ?_
      | refine eS ?_
      | refine eN ?_
      | refine oX (frz := [1]) (v := .d (.ep [.str r.name, alts r.alts])) Et_ok ?_ (hf := (by first | (simp [inB] <;> fail) | (simp [inB]; omega))) (he := (by first | (simp [List.getD_eq_getElem?_getD, cellsD, hr, encR] <;> fail) | fail))
      | refine eX (v := .d (.ep [.str r.name, alts r.alts])) ?_ (hf := (by first | (simp [inB] <;> fail) | (simp [inB]; omega))) (he := (by first | (simp [List.getD_eq_getElem?_getD, cellsD, hr, encR] <;> fail) | fail))
      | refine oL (hc) ?_
      | refine eL (hc) ?_
      | refine oM (hc) ?_
      | refine eM (hc) ?_
      | refine oX (frz := [1]) Et_ok ?_ (hv := app1) (hf := rfl) (he := rfl)
      | refine eX ?_ (hv := app1) (hf := rfl) (he := rfl)
      | refine oX (frz := [1]) Et_ok ?_ (hv := app0) (hf := rfl) (he := rfl)
      | refine eX ?_ (hv := app0) (hf := rfl) (he := rfl)
      | (refine Run.ret ?_; (first | refine rB ?_ | refine rI ?_ | refine rA ?_ | refine rII ?_ | refine rSI ?_ | refine rT ?_ | refine rS ?_); first | done | (skip))
      | (exact ⟨i + 1, hlt, by omega, (tidy_of (objs := _) _ 0 (by rfl) rfl (by repeat' (first | exact trivial | refine ⟨(Or.inl rfl), ?_⟩ | refine ⟨(Or.inl (inc_get (k := i) (by kernel_rfl) (by omega))), ?_⟩ | refine ⟨(Or.inr rfl), ?_⟩ | fail)) (by repeat' (first | exact trivial | refine ⟨rfl, ?_⟩ | fail)) rfl rfl)⟩)
      | ((exfalso; (simp at h <;> omega)))
      | fail)
  · have hie : i = x.rules.length := by omega
    have he : innerTo x i = innerX x := by rw [hie]; simp [innerTo, innerX]
    rw [he]
    subst hie
    repeat' (first
      | refine Run.region ?_
      | refine Run.seq ?_
      | ((refine oB (frz := [1]) Et_ok (fun h => ?_) (fun h => ?_)) <;> (first | (exfalso; simp at h <;> fail) | (exfalso; simp at h; omega) | skip))
      | ((refine eB (fun h => ?_) (fun h => ?_)) <;> (first | (exfalso; simp at h <;> fail) | (exfalso; simp at h; omega) | skip))
      | refine oX (frz := [1]) Et_ok ?_
      | refine oS ?_
      | refine RunOps.nil ?_
      | refine Run.skip ?_
      | refine cT ?_
      | refine cF ?_
      | refine Run.block ?_
      | refine Run.exit ?_
      | refine Run.draw (frz := [1]) Et_ok (by kernel_rfl) ?_
      | refine eX ?_
      | refine eS ?_
      | refine eN ?_
      | (refine Run.ret ?_; (first | refine rB ?_ | refine rI ?_ | refine rA ?_ | refine rII ?_ | refine rSI ?_ | refine rT ?_ | refine rS ?_); first | done | (rfl))
      | ((exfalso; (simp at h <;> omega)))
      | fail)
theorem chk1 (r : SRule) : KnownCall Try.prog 68 [encR r] (.d (.bool r.alts.isEmpty)) := by
  refine knownE Et_ok (fnAt Try.func68 (by kernel_rfl) (by kernel_rfl) : FnAt _ _ (mkFn Try.f68 [1])) ?_
  cases ha : r.alts with
  | nil =>
    rw [show encR r = .agg [.str r.name, alts []] from by rw [encR, ha]]
    repeat' (first
      | refine Run.region ?_
      | refine Run.seq ?_
      | ((refine oB (frz := [1]) Et_ok (fun h => ?_) (fun h => ?_)) <;> (first | (exfalso; simp at h <;> fail) | (exfalso; simp at h; omega) | skip))
      | ((refine eB (fun h => ?_) (fun h => ?_)) <;> (first | (exfalso; simp at h <;> fail) | (exfalso; simp at h; omega) | skip))
      | refine oX (frz := [1]) Et_ok ?_
      | refine oS ?_
      | refine RunOps.nil ?_
      | refine Run.skip ?_
      | refine cT ?_
      | refine cF ?_
      | refine Run.block ?_
      | refine Run.exit ?_
      | refine Run.draw (frz := [1]) Et_ok (by kernel_rfl) ?_
      | refine eX ?_
      | refine eS ?_
      | refine eN ?_
      | (refine Run.ret ?_; (first | refine rB ?_ | refine rI ?_ | refine rA ?_ | refine rII ?_ | refine rSI ?_ | refine rT ?_ | refine rS ?_); first | done | (rfl))
      | ((exfalso; (simp at h <;> omega)))
      | fail)
  | cons a l =>
    rw [show encR r = .agg [.str r.name, alts (a :: l)] from by rw [encR, ha]]
    repeat' (first
      | refine Run.region ?_
      | refine Run.seq ?_
      | ((refine oB (frz := [1]) Et_ok (fun h => ?_) (fun h => ?_)) <;> (first | (exfalso; simp at h <;> fail) | (exfalso; simp at h; omega) | skip))
      | ((refine eB (fun h => ?_) (fun h => ?_)) <;> (first | (exfalso; simp at h <;> fail) | (exfalso; simp at h; omega) | skip))
      | refine oX (frz := [1]) Et_ok ?_
      | refine oS ?_
      | refine RunOps.nil ?_
      | refine Run.skip ?_
      | refine cT ?_
      | refine cF ?_
      | refine Run.block ?_
      | refine Run.exit ?_
      | refine Run.draw (frz := [1]) Et_ok (by kernel_rfl) ?_
      | refine eX ?_
      | refine eS ?_
      | refine eN ?_
      | (refine Run.ret ?_; (first | refine rB ?_ | refine rI ?_ | refine rA ?_ | refine rII ?_ | refine rSI ?_ | refine rT ?_ | refine rS ?_); first | done | (rfl))
      | ((exfalso; (simp at h <;> omega)))
      | fail)
def mayF (s : List Nat) : Bool := smallF s || capitalF s
theorem chk2 (s : List Nat) (hl : s.length ≤ 1099511627776) : KnownCall Try.prog 71 [.str s] (.d (.bool (mayF s))) := by
  have c1 := small s hl
  have c2 := capital s hl
  unfold mayF
  generalize smallF s = b1 at c1 ⊢
  generalize capitalF s = b2 at c2 ⊢
  cases b1 with
  | true =>
    refine knownE Et_ok (fnAt Try.func71 (by kernel_rfl) (by kernel_rfl) : FnAt _ _ (mkFn Try.f71 [])) ?_
    repeat' (first
      | refine Run.region ?_
      | refine Run.seq ?_
      | ((refine oB (frz := []) Et_ok (fun h => ?_) (fun h => ?_)) <;> (first | (exfalso; simp at h <;> fail) | (exfalso; simp at h; omega) | skip))
      | ((refine eB (fun h => ?_) (fun h => ?_)) <;> (first | (exfalso; simp at h <;> fail) | (exfalso; simp at h; omega) | skip))
      | refine oX (frz := []) Et_ok ?_
      | refine oS ?_
      | refine RunOps.nil ?_
      | refine Run.skip ?_
      | refine cT ?_
      | refine cF ?_
      | refine Run.block ?_
      | refine Run.exit ?_
      | refine Run.draw (frz := []) Et_ok (by kernel_rfl) ?_
      | refine eX ?_
      | refine eS ?_
      | refine eN ?_
      | refine oC (c1) ?_
      | refine eC (c1) ?_
      | refine oC (c2) ?_
      | refine eC (c2) ?_
      | (refine Run.ret ?_; (first | refine rB ?_ | refine rI ?_ | refine rA ?_ | refine rII ?_ | refine rSI ?_ | refine rT ?_ | refine rS ?_); first | done | (rfl))
      | ((exfalso; (simp at h <;> omega)))
      | fail)
  | false =>
    refine knownE Et_ok (fnAt Try.func71 (by kernel_rfl) (by kernel_rfl) : FnAt _ _ (mkFn Try.f71 [])) ?_
    repeat' (first
      | refine Run.region ?_
      | refine Run.seq ?_
      | ((refine oB (frz := []) Et_ok (fun h => ?_) (fun h => ?_)) <;> (first | (exfalso; simp at h <;> fail) | (exfalso; simp at h; omega) | skip))
      | ((refine eB (fun h => ?_) (fun h => ?_)) <;> (first | (exfalso; simp at h <;> fail) | (exfalso; simp at h; omega) | skip))
      | refine oX (frz := []) Et_ok ?_
      | refine oS ?_
      | refine RunOps.nil ?_
      | refine Run.skip ?_
      | refine cT ?_
      | refine cF ?_
      | refine Run.block ?_
      | refine Run.exit ?_
      | refine Run.draw (frz := []) Et_ok (by kernel_rfl) ?_
      | refine eX ?_
      | refine eS ?_
      | refine eN ?_
      | refine oC (c1) ?_
      | refine eC (c1) ?_
      | refine oC (c2) ?_
      | refine eC (c2) ?_
      | (refine Run.ret ?_; (first | refine rB ?_ | refine rI ?_ | refine rA ?_ | refine rII ?_ | refine rSI ?_ | refine rT ?_ | refine rS ?_); first | done | (rfl))
      | ((exfalso; (simp at h <;> omega)))
      | fail)
theorem all1 (s : List Nat) (F : FuncId) (caps : List DV) (b : Bool) (hp : KnownCall Try.prog F (.str s :: caps) (.d (.bool b))) : KnownCall Try.prog 92 [.str s, .ep [.fn (.func F) [] caps]] (.d (.bool (!b))) := by
  cases b with
  | true =>
    refine knownE Et_ok (fnAt Try.func92 (by kernel_rfl) (by kernel_rfl) : FnAt _ _ (mkFn Try.f92 [])) ?_
    repeat' (first
      | refine Run.region ?_
      | refine Run.seq ?_
      | ((refine oB (frz := []) Et_ok (fun h => ?_) (fun h => ?_)) <;> (first | (exfalso; simp at h <;> fail) | (exfalso; simp at h; omega) | skip))
      | ((refine eB (fun h => ?_) (fun h => ?_)) <;> (first | (exfalso; simp at h <;> fail) | (exfalso; simp at h; omega) | skip))
      | refine oX (frz := []) Et_ok ?_
      | refine oS ?_
      | refine RunOps.nil ?_
      | refine Run.skip ?_
      | refine cT ?_
      | refine cF ?_
      | refine Run.block ?_
      | refine Run.exit ?_
      | refine Run.draw (frz := []) Et_ok (by kernel_rfl) ?_
      | refine eX ?_
      | refine eS ?_
      | refine eN ?_
      | refine oC (hp) ?_
      | refine eC (hp) ?_
      | (refine Run.ret ?_; (first | refine rB ?_ | refine rI ?_ | refine rA ?_ | refine rII ?_ | refine rSI ?_ | refine rT ?_ | refine rS ?_); first | done | (rfl))
      | ((exfalso; (simp at h <;> omega)))
      | fail)
  | false =>
    refine knownE Et_ok (fnAt Try.func92 (by kernel_rfl) (by kernel_rfl) : FnAt _ _ (mkFn Try.f92 [])) ?_
    repeat' (first
      | refine Run.region ?_
      | refine Run.seq ?_
      | ((refine oB (frz := []) Et_ok (fun h => ?_) (fun h => ?_)) <;> (first | (exfalso; simp at h <;> fail) | (exfalso; simp at h; omega) | skip))
      | ((refine eB (fun h => ?_) (fun h => ?_)) <;> (first | (exfalso; simp at h <;> fail) | (exfalso; simp at h; omega) | skip))
      | refine oX (frz := []) Et_ok ?_
      | refine oS ?_
      | refine RunOps.nil ?_
      | refine Run.skip ?_
      | refine cT ?_
      | refine cF ?_
      | refine Run.block ?_
      | refine Run.exit ?_
      | refine Run.draw (frz := []) Et_ok (by kernel_rfl) ?_
      | refine eX ?_
      | refine eS ?_
      | refine eN ?_
      | refine oC (hp) ?_
      | refine eC (hp) ?_
      | (refine Run.ret ?_; (first | refine rB ?_ | refine rI ?_ | refine rA ?_ | refine rII ?_ | refine rSI ?_ | refine rT ?_ | refine rS ?_); first | done | (rfl))
      | ((exfalso; (simp at h <;> omega)))
      | fail)
theorem allS (l : List (List Nat)) (hl : l.length ≤ 1099511627776) (F : FuncId) (caps : List DV) (p : List Nat → Bool) (hp : ∀ s ∈ l, KnownCall Try.prog F (.str s :: caps) (.d (.bool (p s)))) :
    KnownCall Try.prog 70 [strs l, .fn (.func F) [] caps] (.d (.bool (l.all p))) := by
  have hc := containsFuncStrs l hl 92 [.ep [.fn (.func F) [] caps]] (fun s => !p s) (fun s hs => all1 s F caps (p s) (hp s hs))
  have e : l.all p = !(l.any fun s => !p s) := by rw [List.all_eq_not_any_not]
  rw [e]
  generalize (l.any fun s => !p s) = b at hc ⊢
  cases b with
  | true =>
    refine knownE Et_ok (fnAt Try.func70 (by kernel_rfl) (by kernel_rfl) : FnAt _ _ (mkFn Try.f70 [3])) ?_
    repeat' (first
      | refine Run.region ?_
      | refine Run.seq ?_
      | ((refine oB (frz := [3]) Et_ok (fun h => ?_) (fun h => ?_)) <;> (first | (exfalso; simp at h <;> fail) | (exfalso; simp at h; omega) | skip))
      | ((refine eB (fun h => ?_) (fun h => ?_)) <;> (first | (exfalso; simp at h <;> fail) | (exfalso; simp at h; omega) | skip))
      | refine oX (frz := [3]) Et_ok ?_
      | refine oS ?_
      | refine RunOps.nil ?_
      | refine Run.skip ?_
      | refine cT ?_
      | refine cF ?_
      | refine Run.block ?_
      | refine Run.exit ?_
      | refine Run.draw (frz := [3]) Et_ok (by kernel_rfl) ?_
      | refine eX ?_
      | refine eS ?_
      | refine eN ?_
      | refine oC (hc) ?_
      | refine eC (hc) ?_
      | (refine Run.ret ?_; (first | refine rB ?_ | refine rI ?_ | refine rA ?_ | refine rII ?_ | refine rSI ?_ | refine rT ?_ | refine rS ?_); first | done | (rfl))
      | ((exfalso; (simp at h <;> omega)))
      | fail)
  | false =>
    refine knownE Et_ok (fnAt Try.func70 (by kernel_rfl) (by kernel_rfl) : FnAt _ _ (mkFn Try.f70 [3])) ?_
    repeat' (first
      | refine Run.region ?_
      | refine Run.seq ?_
      | ((refine oB (frz := [3]) Et_ok (fun h => ?_) (fun h => ?_)) <;> (first | (exfalso; simp at h <;> fail) | (exfalso; simp at h; omega) | skip))
      | ((refine eB (fun h => ?_) (fun h => ?_)) <;> (first | (exfalso; simp at h <;> fail) | (exfalso; simp at h; omega) | skip))
      | refine oX (frz := [3]) Et_ok ?_
      | refine oS ?_
      | refine RunOps.nil ?_
      | refine Run.skip ?_
      | refine cT ?_
      | refine cF ?_
      | refine Run.block ?_
      | refine Run.exit ?_
      | refine Run.draw (frz := [3]) Et_ok (by kernel_rfl) ?_
      | refine eX ?_
      | refine eS ?_
      | refine eN ?_
      | refine oC (hc) ?_
      | refine eC (hc) ?_
      | (refine Run.ret ?_; (first | refine rB ?_ | refine rI ?_ | refine rA ?_ | refine rII ?_ | refine rSI ?_ | refine rT ?_ | refine rS ?_); first | done | (rfl))
      | ((exfalso; (simp at h <;> omega)))
      | fail)
theorem indexFuncSA (l : List (List Nat)) (hl : l.length ≤ 1099511627776) (F : FuncId) (caps : List AV) (objs : List Ob) (p : List Nat → Bool) (hp : ∀ x ∈ l, ACall Try.prog F (.d (.str x) :: caps) objs (.d (.bool (p x))) objs) :
    ACall Try.prog 98 [.d (strs l), .fn (.func F) [] caps] objs (.d (.int .i64 (idxP l p))) objs := by
  refine acall_of_run Et_ok (fnAt Try.func98 (by kernel_rfl) (by kernel_rfl) : FnAt _ _ (mkFn Try.f98 [])) rfl rfl ?_
  repeat' (first
    | refine Run.region ?_
    | refine Run.seq ?_
    | ((refine oB (frz := []) Et_ok (fun h => ?_) (fun h => ?_)) <;> (first | (exfalso; simp at h <;> fail) | (exfalso; simp at h; omega) | skip))
    | ((refine eB (fun h => ?_) (fun h => ?_)) <;> (first | (exfalso; simp at h <;> fail) | (exfalso; simp at h; omega) | skip))
    | refine oX (frz := []) Et_ok ?_
    | refine oS ?_
    | refine RunOps.nil ?_
    | refine Run.skip ?_
    | refine cT ?_
    | refine cF ?_
    | refine Run.block ?_
    | refine Run.exit ?_
    | refine Run.draw (frz := []) Et_ok (by kernel_rfl) ?_
    | refine eX ?_
    | refine eS ?_
    | refine eN ?_
    | (refine Run.ret ?_; (first | refine rB ?_ | refine rI ?_ | refine rA ?_ | refine rII ?_ | refine rSI ?_ | refine rT ?_ | refine rS ?_); first | done | (skip))
    | fail)
  refine Run.loop (fun i : Nat => ⟨PT.ofList [(0, .d (strs l)), (1, .fn (.func F) [] caps), (7, .d (.int .i64 l.length)), (8, .d (.int .i64 i))], objs, []⟩) (fun i => i ≤ l.length ∧ ∀ j, j < i → ∀ y, l[j]? = some y → p y = false) (fun i => l.length - i) 0 ⟨Nat.zero_le _, fun j hj => by omega⟩ (weak_of (by repeat' (first | exact trivial | refine ⟨rfl, ?_⟩ | refine ⟨Eq.trans (b := some (.d (.int .i64 (l.map _).length))) rfl (by rw [List.length_map]), ?_⟩ | fail))) (fun i hi => ?_)
  obtain ⟨hi1, hi2⟩ := hi
  rcases Nat.lt_or_ge i l.length with hlt | hge
  · obtain ⟨x, hx⟩ := get_ok hlt
    have hc := hp x (List.mem_of_getElem? hx)
    cases hpx : p x with
    | true =>
      rw [hpx] at hc
      repeat' (first
        | refine Run.region ?_
        | refine Run.seq ?_
        | ((refine oB (frz := []) Et_ok (fun h => ?_) (fun h => ?_)) <;> (first | (exfalso; simp at h <;> fail) | (exfalso; simp at h; omega) | skip))
        | ((refine eB (fun h => ?_) (fun h => ?_)) <;> (first | (exfalso; simp at h <;> fail) | (exfalso; simp at h; omega) | skip))
        | refine oX (frz := []) Et_ok ?_
        | refine oS ?_
        | refine RunOps.nil ?_
        | refine Run.skip ?_
        | refine cT ?_
        | refine cF ?_
        | refine Run.block ?_
        | refine Run.exit ?_
        | refine Run.draw (frz := []) Et_ok (by kernel_rfl) ?_
        | refine eX ?_
        | refine eS ?_
        | refine eN ?_
        | refine oX (frz := []) (v := .d (.ep [.str x])) Et_ok ?_ (hf := (by first | (simp [inB] <;> fail) | (simp [inB]; omega))) (he := (by first | (simp [List.getD_eq_getElem?_getD, cellsD, hx] <;> fail) | fail))
        | refine eX (v := .d (.ep [.str x])) ?_ (hf := (by first | (simp [inB] <;> fail) | (simp [inB]; omega))) (he := (by first | (simp [List.getD_eq_getElem?_getD, cellsD, hx] <;> fail) | fail))
        | refine RunOps.call (by rfl) (by rfl) hc (by rfl) (by rfl) ?_
        | (refine Run.ret ?_; (first | refine rB ?_ | refine rI ?_ | refine rA ?_ | refine rII ?_ | refine rSI ?_ | refine rT ?_ | refine rS ?_); first | done | (skip))
        | fail)
      refine Run.ret ?_
      refine ⟨trivial, rfl, ?_⟩
      rw [idxP_at hx hpx hi2]; rfl
    | false =>
      rw [hpx] at hc
      repeat' (first
        | refine Run.region ?_
        | refine Run.seq ?_
        | ((refine oB (frz := []) Et_ok (fun h => ?_) (fun h => ?_)) <;> (first | (exfalso; simp at h <;> fail) | (exfalso; simp at h; omega) | skip))
        | ((refine eB (fun h => ?_) (fun h => ?_)) <;> (first | (exfalso; simp at h <;> fail) | (exfalso; simp at h; omega) | skip))
        | refine oX (frz := []) Et_ok ?_
        | refine oS ?_
        | refine RunOps.nil ?_
        | refine Run.skip ?_
        | refine cT ?_
        | refine cF ?_
        | refine Run.block ?_
        | refine Run.exit ?_
        | refine Run.draw (frz := []) Et_ok (by kernel_rfl) ?_
        | refine eX ?_
        | refine eS ?_
        | refine eN ?_
        | refine oX (frz := []) (v := .d (.ep [.str x])) Et_ok ?_ (hf := (by first | (simp [inB] <;> fail) | (simp [inB]; omega))) (he := (by first | (simp [List.getD_eq_getElem?_getD, cellsD, hx] <;> fail) | fail))
        | refine eX (v := .d (.ep [.str x])) ?_ (hf := (by first | (simp [inB] <;> fail) | (simp [inB]; omega))) (he := (by first | (simp [List.getD_eq_getElem?_getD, cellsD, hx] <;> fail) | fail))
        | refine RunOps.call (by rfl) (by rfl) hc (by rfl) (by rfl) ?_
        | (refine Run.ret ?_; (first | refine rB ?_ | refine rI ?_ | refine rA ?_ | refine rII ?_ | refine rSI ?_ | refine rT ?_ | refine rS ?_); first | done | (skip))
        | (exact ⟨i + 1, ⟨by omega, all_succ hi2 (fun q hq => by rw [hx] at hq; cases hq; exact hpx)⟩, by omega, weak_of (by repeat' (first | exact trivial | refine ⟨rfl, ?_⟩ | refine ⟨(inc_get (k := i) (by kernel_rfl) (by omega)), ?_⟩))⟩)
        | fail)
  · have hge : i = l.length := by omega
    repeat' (first
      | refine Run.region ?_
      | refine Run.seq ?_
      | ((refine oB (frz := []) Et_ok (fun h => ?_) (fun h => ?_)) <;> (first | (exfalso; simp at h <;> fail) | (exfalso; simp at h; omega) | skip))
      | ((refine eB (fun h => ?_) (fun h => ?_)) <;> (first | (exfalso; simp at h <;> fail) | (exfalso; simp at h; omega) | skip))
      | refine oX (frz := []) Et_ok ?_
      | refine oS ?_
      | refine RunOps.nil ?_
      | refine Run.skip ?_
      | refine cT ?_
      | refine cF ?_
      | refine Run.block ?_
      | refine Run.exit ?_
      | refine Run.draw (frz := []) Et_ok (by kernel_rfl) ?_
      | refine eX ?_
      | refine eS ?_
      | refine eN ?_
      | (refine Run.ret ?_; (first | refine rB ?_ | refine rI ?_ | refine rA ?_ | refine rII ?_ | refine rSI ?_ | refine rT ?_ | refine rS ?_); first | done | (skip))
      | fail)
    refine Run.ret ?_
    refine ⟨trivial, rfl, ?_⟩
    rw [idxP_none (fun j hj => hi2 j (by omega))]; rfl
theorem containsFuncSA (l : List (List Nat)) (hl : l.length ≤ 1099511627776) (F : FuncId) (caps : List AV) (objs : List Ob) (p : List Nat → Bool) (hp : ∀ x ∈ l, ACall Try.prog F (.d (.str x) :: caps) objs (.d (.bool (p x))) objs) :
    ACall Try.prog 91 [.d (strs l), .fn (.func F) [] caps] objs (.d (.bool (l.any p))) objs := by
  refine acall_of_run Et_ok (fnAt Try.func91 (by kernel_rfl) (by kernel_rfl) : FnAt _ _ (mkFn Try.f91 [])) rfl rfl ?_
  repeat (first
    | refine oX (frz := []) Et_ok ?_
    | refine oS ?_
    | refine RunOps.nil ?_
    | refine Run.region ?_
    | refine Run.seq ?_
    | refine Run.skip ?_
    | refine Run.block ?_
    | refine Run.exit ?_
    | refine Run.draw (frz := []) Et_ok (by kernel_rfl) ?_
    | refine eX ?_
    | refine eS ?_
    | refine eN ?_)
  refine RunOps.call (by rfl) (by rfl) (indexFuncSA l hl F caps objs p hp) (by rfl) (by rfl) ?_
  repeat (first
    | refine oX (frz := []) Et_ok ?_
    | refine oS ?_
    | refine RunOps.nil ?_
    | refine Run.region ?_
    | refine Run.seq ?_
    | refine Run.skip ?_
    | refine Run.block ?_
    | refine Run.exit ?_
    | refine Run.draw (frz := []) Et_ok (by kernel_rfl) ?_
    | refine eX ?_
    | refine eS ?_
    | refine eN ?_)
  refine Run.ret ?_
  refine ⟨trivial, rfl, Eq.trans (b := some (.d (.bool (decide (idxP l p ≥ 0))))) (by kernel_rfl) ?_⟩
  rw [show decide (idxP l p ≥ 0) = l.any p from idxP_any l p]
def knowF (x : Src) (rn : List (List Nat)) (s : List Nat) : Bool := decide (s ∈ x.tokens) || decide (s ∈ rn)
theorem chk3 (x : Src) (rn : List (List Nat)) (O : Ob) (B : List Ob) (s : List Nat) (hf : FitsX x) (hrn : rn.length ≤ 1099511627776) :
    ACall Try.prog 74 [.d (.str s), cellX x, .bp 1 0] (O :: .box [.d (strs rn)] :: B) (.d (.bool (knowF x rn s))) (O :: .box [.d (strs rn)] :: B) := by
  have c1 := contains x.tokens s (Nat.le_trans hf.tokens (by decide))
  have c2 := contains rn s hrn
  unfold knowF
  generalize decide (s ∈ x.tokens) = b1 at c1 ⊢
  generalize decide (s ∈ rn) = b2 at c2 ⊢
  cases b1 with
  | true =>
    refine acall_of_run Et_ok (fnAt Try.func74 (by kernel_rfl) (by kernel_rfl) : FnAt _ _ (mkFn Try.f74 [])) rfl rfl ?_
    repeat' (first
      | refine Run.region ?_
      | refine Run.seq ?_
      | ((refine oB (frz := []) Et_ok (fun h => ?_) (fun h => ?_)) <;> (first | (exfalso; simp at h <;> fail) | (exfalso; simp at h; omega) | skip))
      | ((refine eB (fun h => ?_) (fun h => ?_)) <;> (first | (exfalso; simp at h <;> fail) | (exfalso; simp at h; omega) | skip))
      | refine oX (frz := []) Et_ok ?_
      | refine oS ?_
      | refine RunOps.nil ?_
      | refine Run.skip ?_
      | refine cT ?_
      | refine cF ?_
      | refine Run.block ?_
      | refine Run.exit ?_
      | refine Run.draw (frz := []) Et_ok (by kernel_rfl) ?_
      | refine eX ?_
      | refine eS ?_
      | refine eN ?_
      | refine oC (c1) ?_
      | refine eC (c1) ?_
      | refine oC (c2) ?_
      | refine eC (c2) ?_
      | (refine Run.ret ?_; (first | refine rB ?_ | refine rI ?_ | refine rA ?_ | refine rII ?_ | refine rSI ?_ | refine rT ?_ | refine rS ?_); first | done | (skip))
      | fail)
    refine Run.ret ?_
    exact ⟨trivial, rfl, rfl⟩
  | false =>
    refine acall_of_run Et_ok (fnAt Try.func74 (by kernel_rfl) (by kernel_rfl) : FnAt _ _ (mkFn Try.f74 [])) rfl rfl ?_
    repeat' (first
      | refine Run.region ?_
      | refine Run.seq ?_
      | ((refine oB (frz := []) Et_ok (fun h => ?_) (fun h => ?_)) <;> (first | (exfalso; simp at h <;> fail) | (exfalso; simp at h; omega) | skip))
      | ((refine eB (fun h => ?_) (fun h => ?_)) <;> (first | (exfalso; simp at h <;> fail) | (exfalso; simp at h; omega) | skip))
      | refine oX (frz := []) Et_ok ?_
      | refine oS ?_
      | refine RunOps.nil ?_
      | refine Run.skip ?_
      | refine cT ?_
      | refine cF ?_
      | refine Run.block ?_
      | refine Run.exit ?_
      | refine Run.draw (frz := []) Et_ok (by kernel_rfl) ?_
      | refine eX ?_
      | refine eS ?_
      | refine eN ?_
      | refine oC (c1) ?_
      | refine eC (c1) ?_
      | refine oC (c2) ?_
      | refine eC (c2) ?_
      | (refine Run.ret ?_; (first | refine rB ?_ | refine rI ?_ | refine rA ?_ | refine rII ?_ | refine rSI ?_ | refine rT ?_ | refine rS ?_); first | done | (skip))
      | fail)
    refine Run.ret ?_
    exact ⟨trivial, rfl, rfl⟩
theorem all1A (F : FuncId) (caps : List AV) (O P : Ob) (s : List Nat) (b : Bool) (hp : ACall Try.prog F (.d (.str s) :: caps) [O, P, .box [.fn (.func F) [] caps]] (.d (.bool b)) [O, P, .box [.fn (.func F) [] caps]]) :
    ACall Try.prog 92 [.d (.str s), .bp 2 0] [O, P, .box [.fn (.func F) [] caps]] (.d (.bool (!b))) [O, P, .box [.fn (.func F) [] caps]] := by
  cases b with
  | true =>
    refine acall_of_run Et_ok (fnAt Try.func92 (by kernel_rfl) (by kernel_rfl) : FnAt _ _ (mkFn Try.f92 [])) rfl rfl ?_
    repeat' (first
      | refine Run.region ?_
      | refine Run.seq ?_
      | ((refine oB (frz := []) Et_ok (fun h => ?_) (fun h => ?_)) <;> (first | (exfalso; simp at h <;> fail) | (exfalso; simp at h; omega) | skip))
      | ((refine eB (fun h => ?_) (fun h => ?_)) <;> (first | (exfalso; simp at h <;> fail) | (exfalso; simp at h; omega) | skip))
      | refine oX (frz := []) Et_ok ?_
      | refine oS ?_
      | refine RunOps.nil ?_
      | refine Run.skip ?_
      | refine cT ?_
      | refine cF ?_
      | refine Run.block ?_
      | refine Run.exit ?_
      | refine Run.draw (frz := []) Et_ok (by kernel_rfl) ?_
      | refine eX ?_
      | refine eS ?_
      | refine eN ?_
      | refine RunOps.call (by rfl) (by rfl) hp (by rfl) (by rfl) ?_
      | (refine Run.ret ?_; (first | refine rB ?_ | refine rI ?_ | refine rA ?_ | refine rII ?_ | refine rSI ?_ | refine rT ?_ | refine rS ?_); first | done | (skip))
      | fail)
    refine Run.ret ?_
    exact ⟨trivial, rfl, rfl⟩
  | false =>
    refine acall_of_run Et_ok (fnAt Try.func92 (by kernel_rfl) (by kernel_rfl) : FnAt _ _ (mkFn Try.f92 [])) rfl rfl ?_
    repeat' (first
      | refine Run.region ?_
      | refine Run.seq ?_
      | ((refine oB (frz := []) Et_ok (fun h => ?_) (fun h => ?_)) <;> (first | (exfalso; simp at h <;> fail) | (exfalso; simp at h; omega) | skip))
      | ((refine eB (fun h => ?_) (fun h => ?_)) <;> (first | (exfalso; simp at h <;> fail) | (exfalso; simp at h; omega) | skip))
      | refine oX (frz := []) Et_ok ?_
      | refine oS ?_
      | refine RunOps.nil ?_
      | refine Run.skip ?_
      | refine cT ?_
      | refine cF ?_
      | refine Run.block ?_
      | refine Run.exit ?_
      | refine Run.draw (frz := []) Et_ok (by kernel_rfl) ?_
      | refine eX ?_
      | refine eS ?_
      | refine eN ?_
      | refine RunOps.call (by rfl) (by rfl) hp (by rfl) (by rfl) ?_
      | (refine Run.ret ?_; (first | refine rB ?_ | refine rI ?_ | refine rA ?_ | refine rII ?_ | refine rSI ?_ | refine rT ?_ | refine rS ?_); first | done | (skip))
      | fail)
    refine Run.ret ?_
    exact ⟨trivial, rfl, rfl⟩
theorem allA (l : List (List Nat)) (hl : l.length ≤ 1099511627776) (F : FuncId) (caps : List AV) (O P : Ob) (p : List Nat → Bool) (hp : ∀ x ∈ l, ACall Try.prog F (.d (.str x) :: caps) [O, P, .box [.fn (.func F) [] caps]] (.d (.bool (p x))) [O, P, .box [.fn (.func F) [] caps]]) :
    ACall Try.prog 70 [.d (strs l), .fn (.func F) [] caps] [O, P] (.d (.bool (l.all p))) [O, P, .box [.fn (.func F) [] caps]] := by
  have hc := containsFuncSA l hl 92 [.bp 2 0] [O, P, .box [.fn (.func F) [] caps]] (fun s => !p s) (fun s hs => all1A F caps O P s (p s) (hp s hs))
  have e : l.all p = !(l.any fun s => !p s) := by rw [List.all_eq_not_any_not]
  rw [e]
  generalize (l.any fun s => !p s) = b at hc ⊢
  cases b with
  | true =>
    refine acall_of_run Et_ok (fnAt Try.func70 (by kernel_rfl) (by kernel_rfl) : FnAt _ _ (mkFn Try.f70 [])) rfl rfl ?_
    repeat' (first
      | refine Run.region ?_
      | refine Run.seq ?_
      | ((refine oB (frz := []) Et_ok (fun h => ?_) (fun h => ?_)) <;> (first | (exfalso; simp at h <;> fail) | (exfalso; simp at h; omega) | skip))
      | ((refine eB (fun h => ?_) (fun h => ?_)) <;> (first | (exfalso; simp at h <;> fail) | (exfalso; simp at h; omega) | skip))
      | refine oX (frz := []) Et_ok ?_
      | refine oS ?_
      | refine RunOps.nil ?_
      | refine Run.skip ?_
      | refine cT ?_
      | refine cF ?_
      | refine Run.block ?_
      | refine Run.exit ?_
      | refine Run.draw (frz := []) Et_ok (by kernel_rfl) ?_
      | refine eX ?_
      | refine eS ?_
      | refine eN ?_
      | refine RunOps.call (by rfl) (by rfl) hc (by rfl) (by rfl) ?_
      | (refine Run.ret ?_; (first | refine rB ?_ | refine rI ?_ | refine rA ?_ | refine rII ?_ | refine rSI ?_ | refine rT ?_ | refine rS ?_); first | done | (skip))
      | fail)
    refine Run.ret ?_
    exact ⟨trivial, rfl, rfl⟩
  | false =>
    refine acall_of_run Et_ok (fnAt Try.func70 (by kernel_rfl) (by kernel_rfl) : FnAt _ _ (mkFn Try.f70 [])) rfl rfl ?_
    repeat' (first
      | refine Run.region ?_
      | refine Run.seq ?_
      | ((refine oB (frz := []) Et_ok (fun h => ?_) (fun h => ?_)) <;> (first | (exfalso; simp at h <;> fail) | (exfalso; simp at h; omega) | skip))
      | ((refine eB (fun h => ?_) (fun h => ?_)) <;> (first | (exfalso; simp at h <;> fail) | (exfalso; simp at h; omega) | skip))
      | refine oX (frz := []) Et_ok ?_
      | refine oS ?_
      | refine RunOps.nil ?_
      | refine Run.skip ?_
      | refine cT ?_
      | refine cF ?_
      | refine Run.block ?_
      | refine Run.exit ?_
      | refine Run.draw (frz := []) Et_ok (by kernel_rfl) ?_
      | refine eX ?_
      | refine eS ?_
      | refine eN ?_
      | refine RunOps.call (by rfl) (by rfl) hc (by rfl) (by rfl) ?_
      | (refine Run.ret ?_; (first | refine rB ?_ | refine rI ?_ | refine rA ?_ | refine rII ?_ | refine rSI ?_ | refine rT ?_ | refine rS ?_); first | done | (skip))
      | fail)
    refine Run.ret ?_
    exact ⟨trivial, rfl, rfl⟩
end Go.Av
end
noncomputable section
namespace Go.Av
open Go Go.Proofs
set_option maxRecDepth 10000
theorem hasF_mem (l : List (List Nat)) (s : List Nat) : hasF l s = decide (s ∈ l) := by
  rw [Bool.eq_iff_iff]
  simp only [hasF, List.any_eq_true, decide_eq_true_eq]
  constructor
  · rintro ⟨y, hy, rfl⟩; exact hy
  · exact fun h => ⟨s, h, rfl⟩
theorem mem_innerX {x : Src} {s : List Nat} : s ∈ innerX x ↔ ∃ r ∈ x.rules, ∃ a ∈ r.alts, s ∈ a := by
  simp [innerX, List.mem_flatMap, List.mem_flatten]
theorem mis_eq (x : Src) : misX x = !((smallsX x).all smallF && capitalF x.start && (ruleNames x).all capitalF && (innerX x).all mayF) := by
  rw [Bool.eq_iff_iff, Bool.not_eq_true', ← Bool.not_eq_true]
  simp only [misX, misR, noName, mayF, smallsX, ruleNames, Bool.or_eq_true, Bool.and_eq_true, List.any_eq_true, List.all_eq_true, Bool.not_eq_true', List.mem_append, List.mem_singleton, List.mem_map, mem_innerX]
  constructor
  · rintro (((⟨s, hs, h⟩ | ⟨r, hr, h | ⟨a, ha, s, hs, h1, h2⟩⟩) | h) | h) ⟨⟨⟨g1, g2⟩, g3⟩, g4⟩
    · rw [g1 s (.inl hs)] at h; cases h
    · rw [g3 _ ⟨r, hr, rfl⟩] at h; cases h
    · rcases g4 s ⟨r, hr, a, ha, hs⟩ with g | g
      · rw [g] at h1; cases h1
      · rw [g] at h2; cases h2
    · rw [g1 _ (.inr rfl)] at h; cases h
    · rw [g2] at h; cases h
  · intro h
    refine Classical.byContradiction fun hn => h ⟨⟨⟨?_, ?_⟩, ?_⟩, ?_⟩
    · intro s hs
      cases hb : smallF s with
      | true => rfl
      | false =>
        rcases hs with hs | rfl
        · exact absurd (.inl (.inl (.inl ⟨s, hs, hb⟩))) hn
        · exact absurd (.inl (.inr hb)) hn
    · cases hb : capitalF x.start with
      | true => rfl
      | false => exact absurd (.inr hb) hn
    · rintro s ⟨r, hr, rfl⟩
      cases hb : capitalF r.name with
      | true => rfl
      | false => exact absurd (.inl (.inl (.inr ⟨r, hr, .inl hb⟩))) hn
    · rintro s ⟨r, hr, a, ha, hs⟩
      cases hb : smallF s with
      | true => exact .inl rfl
      | false => cases hb2 : capitalF s with
        | true => exact .inr rfl
        | false => exact absurd (.inl (.inl (.inr ⟨r, hr, .inr ⟨a, ha, s, hs, hb, hb2⟩⟩))) hn
theorem uses_eq (x : Src) (s : List Nat) : usesX x s = decide (s ∈ innerX x) := by
  rw [Bool.eq_iff_iff]
  simp only [usesX, usesR, List.any_eq_true, hasF_mem, decide_eq_true_eq, mem_innerX]
theorem unk_eq (x : Src) : unkX x = (!decide (x.start ∈ ruleNames x) || !(innerX x).all (knowF x (ruleNames x))) := by
  rw [Bool.eq_iff_iff]
  simp only [unkX, unkR, unkS, knowF, hasF_mem, Bool.or_eq_true, Bool.and_eq_true, List.any_eq_true, Bool.not_eq_true', decide_eq_false_iff_not, ← Bool.not_eq_true, List.all_eq_true, mem_innerX, decide_eq_true_eq]
  constructor
  · rintro (⟨r, hr, a, ha, s, hs, h1, h2⟩ | h)
    · exact .inr fun g => (g s ⟨r, hr, a, ha, hs⟩).elim h2 h1
    · exact .inl h
  · rintro (h | h)
    · exact .inr h
    · refine .inl (Classical.byContradiction fun hn => h ?_)
      rintro s ⟨r, hr, a, ha, hs⟩
      refine Classical.byContradiction fun hk => hn ⟨r, hr, a, ha, s, hs, fun e => hk (.inr e), fun e => hk (.inl e)⟩
set_option maxHeartbeats 4000000 in
theorem checkS (x : Src) (hf : FitsX x) (ht : (innerX x).length ≤ 1048576) : KnownCall Try.prog 51 [encX x] (.d (.int .i64 (checkX x))) := by
  have htl := hf.tokens
  have hrl := hf.rules
  have c0 := cloneA x.tokens htl
  have c1 : KnownCall Try.prog 65 [encX x] (.d (strs (ruleNames x))) := heads x hf
  have c2 := inner x hf ht
  have c3 := containsFuncRules x.rules (by omega) 68 [] (fun r => r.alts.isEmpty) (fun r _ => chk1 r)
  have c4 := fullS x hf
  have c5 := allS (smallsX x) (by simp [smallsX]; omega) 59 [] smallF (fun s hs => small s (by
    simp only [smallsX, List.mem_append, List.mem_singleton] at hs
    rcases hs with hs | rfl
    · exact Nat.le_trans (hf.tokenS s hs) (by decide)
    · exact Nat.le_trans hf.sep (by decide)))
  have c6 := capital x.start (Nat.le_trans hf.start (by decide))
  have c7 := allS (ruleNames x) (by simp; omega) 60 [] capitalF (fun s hs => capital s (by
    obtain ⟨r, hr, rfl⟩ := List.mem_map.1 hs
    exact Nat.le_trans (hf.ruleS r hr) (by decide)))
  have c8 := allS (innerX x) (by omega) 71 [] mayF (fun s hs => chk2 s (by
    obtain ⟨r, hr, a, ha, hs⟩ := mem_innerX.1 hs
    exact Nat.le_trans (hf.nameS r hr a ha s hs) (by decide)))
  have c9 := twiceS (smallsX x) (by simp [smallsX]; omega)
  have c10 := twiceS (ruleNames x) (by simp; omega)
  have c11 := contains (innerX x) x.sep (by omega)
  have c12 := contains (ruleNames x) x.start (by simp; omega)
  have c13 := fun (O : Ob) => allA (innerX x) (by omega) 74 [cellX x, .bp 1 0] O (.box [.d (strs (ruleNames x))]) (knowF x (ruleNames x)) (fun s _ => chk3 x (ruleNames x) O [_] s hf (by simp; omega))
  rw [← strs_smallsX] at c5 c9
  have hrn : (ruleNames x).length = x.rules.length := by simp
  have hshort : shortX x = (decide (x.tokens.length = 0) || decide ((ruleNames x).length = 0) || x.rules.any (fun r => r.alts.isEmpty)) := by
    unfold shortX
    rw [hrn]
    cases x.tokens <;> cases x.rules <;> simp
  have hchk : checkX x = if x.k < 1 ∨ 4 < x.k then 2 else if shortX x = true then 5 else if fullX x = true then 6 else if misX x = true then 12 else if twoX x = true then 8 else if usesX x x.sep = true then 14 else if unkX x = true then 7 else 0 := rfl
  rw [hshort, mis_eq, uses_eq, unk_eq, twoX] at hchk
  rw [hchk]
  generalize x.rules.any (fun r => r.alts.isEmpty) = b1 at c3 ⊢
  generalize fullX x = b2 at c4 ⊢
  generalize (smallsX x).all smallF = b3 at c5 ⊢
  generalize capitalF x.start = b4 at c6 ⊢
  generalize (ruleNames x).all capitalF = b5 at c7 ⊢
  generalize (innerX x).all mayF = b6 at c8 ⊢
  generalize decide (¬ (smallsX x).Nodup) = b7 at c9 ⊢
  generalize decide (¬ (ruleNames x).Nodup) = b8 at c10 ⊢
  generalize decide (x.sep ∈ innerX x) = b9 at c11 ⊢
  generalize decide (x.start ∈ ruleNames x) = b10 at c12 ⊢
  generalize (innerX x).all (knowF x (ruleNames x)) = b11 at c13 ⊢
  clear hchk hshort
  generalize hrn2 : ruleNames x = rn at *
  generalize hin2 : innerX x = inn at *
  by_cases hk1 : x.k < 1
  · rw [if_pos (.inl hk1)]
    refine knownE Et_ok (fnAt Try.func51 (by kernel_rfl) (by kernel_rfl) : FnAt _ _ (mkFn Try.f51 [1, 11])) ?_
    repeat' (first
      | refine Run.region ?_
      | refine Run.seq ?_
      | ((refine oB (frz := [1, 11]) Et_ok (fun h => ?_) (fun h => ?_)) <;> (first | (exfalso; simp at h <;> fail) | (exfalso; simp at h; omega) | skip))
      | ((refine eB (fun h => ?_) (fun h => ?_)) <;> (first | (exfalso; simp at h <;> fail) | (exfalso; simp at h; omega) | skip))
      | refine oX (frz := [1, 11]) Et_ok ?_
      | refine oS ?_
      | refine RunOps.nil ?_
      | refine Run.skip ?_
      | refine cT ?_
      | refine cF ?_
      | refine Run.block ?_
      | refine Run.exit ?_
      | refine Run.draw (frz := [1, 11]) Et_ok (by kernel_rfl) ?_
      | refine eX ?_
      | refine eS ?_
      | refine eN ?_
      | refine eA c0 ?_
      | refine oC (c1) ?_
      | refine eC (c1) ?_
      | refine oC (c2) ?_
      | refine eC (c2) ?_
      | refine oX (frz := [1, 11]) Et_ok ?_ (hv := app1) (hf := rfl) (he := rfl)
      | refine eX ?_ (hv := app1) (hf := rfl) (he := rfl)
      | refine oX (frz := [1, 11]) Et_ok ?_ (hv := app0) (hf := rfl) (he := rfl)
      | refine eX ?_ (hv := app0) (hf := rfl) (he := rfl)
      | (refine Run.ret ?_; (first | refine rB ?_ | refine rI ?_ | refine rA ?_ | refine rII ?_ | refine rSI ?_ | refine rT ?_ | refine rS ?_); first | done | (rfl))
      | ((exfalso; (simp at h <;> omega)))
      | fail)
  · by_cases hk4 : 4 < x.k
    · rw [if_pos (.inr hk4)]
      refine knownE Et_ok (fnAt Try.func51 (by kernel_rfl) (by kernel_rfl) : FnAt _ _ (mkFn Try.f51 [1, 11])) ?_
      repeat' (first
        | refine Run.region ?_
        | refine Run.seq ?_
        | ((refine oB (frz := [1, 11]) Et_ok (fun h => ?_) (fun h => ?_)) <;> (first | (exfalso; simp at h <;> fail) | (exfalso; simp at h; omega) | skip))
        | ((refine eB (fun h => ?_) (fun h => ?_)) <;> (first | (exfalso; simp at h <;> fail) | (exfalso; simp at h; omega) | skip))
        | refine oX (frz := [1, 11]) Et_ok ?_
        | refine oS ?_
        | refine RunOps.nil ?_
        | refine Run.skip ?_
        | refine cT ?_
        | refine cF ?_
        | refine Run.block ?_
        | refine Run.exit ?_
        | refine Run.draw (frz := [1, 11]) Et_ok (by kernel_rfl) ?_
        | refine eX ?_
        | refine eS ?_
        | refine eN ?_
        | refine eA c0 ?_
        | refine oC (c1) ?_
        | refine eC (c1) ?_
        | refine oC (c2) ?_
        | refine eC (c2) ?_
        | refine oX (frz := [1, 11]) Et_ok ?_ (hv := app1) (hf := rfl) (he := rfl)
        | refine eX ?_ (hv := app1) (hf := rfl) (he := rfl)
        | refine oX (frz := [1, 11]) Et_ok ?_ (hv := app0) (hf := rfl) (he := rfl)
        | refine eX ?_ (hv := app0) (hf := rfl) (he := rfl)
        | (refine Run.ret ?_; (first | refine rB ?_ | refine rI ?_ | refine rA ?_ | refine rII ?_ | refine rSI ?_ | refine rT ?_ | refine rS ?_); first | done | (rfl))
        | ((exfalso; (simp at h <;> omega)))
        | fail)
    · rw [if_neg (by omega)]
      by_cases ht0 : x.tokens.length = 0
      · have hT : AV.d (.bool ((((x.tokens.map DV.str).length : Nat) : Int) == 0)) = .d (.bool true) := by rw [List.length_map, ht0]; rfl
        rw [show (decide (x.tokens.length = 0) || decide (rn.length = 0) || b1) = true from by simp [ht0], if_pos rfl]
        refine knownE Et_ok (fnAt Try.func51 (by kernel_rfl) (by kernel_rfl) : FnAt _ _ (mkFn Try.f51 [1, 11])) ?_
        repeat' (first
          | refine oX (frz := [1, 11]) (v := .d (.bool true)) Et_ok ?_ (he := (hT))
          | refine eX (v := .d (.bool true)) ?_ (he := (hT))
          | refine Run.region ?_
          | refine Run.seq ?_
          | ((refine oB (frz := [1, 11]) Et_ok (fun h => ?_) (fun h => ?_)) <;> (first | (exfalso; simp at h <;> fail) | (exfalso; simp at h; omega) | skip))
          | ((refine eB (fun h => ?_) (fun h => ?_)) <;> (first | (exfalso; simp at h <;> fail) | (exfalso; simp at h; omega) | skip))
          | refine oX (frz := [1, 11]) Et_ok ?_
          | refine oS ?_
          | refine RunOps.nil ?_
          | refine Run.skip ?_
          | refine cT ?_
          | refine cF ?_
          | refine Run.block ?_
          | refine Run.exit ?_
          | refine Run.draw (frz := [1, 11]) Et_ok (by kernel_rfl) ?_
          | refine eX ?_
          | refine eS ?_
          | refine eN ?_
          | refine eA c0 ?_
          | refine oC (c1) ?_
          | refine eC (c1) ?_
          | refine oC (c2) ?_
          | refine eC (c2) ?_
          | refine oX (frz := [1, 11]) Et_ok ?_ (hv := app1) (hf := rfl) (he := rfl)
          | refine eX ?_ (hv := app1) (hf := rfl) (he := rfl)
          | refine oX (frz := [1, 11]) Et_ok ?_ (hv := app0) (hf := rfl) (he := rfl)
          | refine eX ?_ (hv := app0) (hf := rfl) (he := rfl)
          | (refine Run.ret ?_; (first | refine rB ?_ | refine rI ?_ | refine rA ?_ | refine rII ?_ | refine rSI ?_ | refine rT ?_ | refine rS ?_); first | done | (rfl))
          | ((exfalso; (simp at h <;> omega)))
          | fail)
      · have hT : AV.d (.bool ((((x.tokens.map DV.str).length : Nat) : Int) == 0)) = .d (.bool false) := by
          rw [List.length_map]; exact congrArg (fun b => AV.d (.bool b)) (by simpa using ht0)
        by_cases hr0 : rn.length = 0
        · have hR : AV.d (.bool ((((rn.map DV.str).length : Nat) : Int) == 0)) = .d (.bool true) := by rw [List.length_map, hr0]; rfl
          rw [show (decide (x.tokens.length = 0) || decide (rn.length = 0) || b1) = true from by simp [hr0], if_pos rfl]
          refine knownE Et_ok (fnAt Try.func51 (by kernel_rfl) (by kernel_rfl) : FnAt _ _ (mkFn Try.f51 [1, 11])) ?_
          repeat' (first
            | refine oX (frz := [1, 11]) (v := .d (.bool true)) Et_ok ?_ (he := (hR))
            | refine eX (v := .d (.bool true)) ?_ (he := (hR))
            | refine oX (frz := [1, 11]) (v := .d (.bool false)) Et_ok ?_ (he := (hT))
            | refine eX (v := .d (.bool false)) ?_ (he := (hT))
            | refine Run.region ?_
            | refine Run.seq ?_
            | ((refine oB (frz := [1, 11]) Et_ok (fun h => ?_) (fun h => ?_)) <;> (first | (exfalso; simp at h <;> fail) | (exfalso; simp at h; omega) | skip))
            | ((refine eB (fun h => ?_) (fun h => ?_)) <;> (first | (exfalso; simp at h <;> fail) | (exfalso; simp at h; omega) | skip))
            | refine oX (frz := [1, 11]) Et_ok ?_
            | refine oS ?_
            | refine RunOps.nil ?_
            | refine Run.skip ?_
            | refine cT ?_
            | refine cF ?_
            | refine Run.block ?_
            | refine Run.exit ?_
            | refine Run.draw (frz := [1, 11]) Et_ok (by kernel_rfl) ?_
            | refine eX ?_
            | refine eS ?_
            | refine eN ?_
            | refine eA c0 ?_
            | refine oC (c1) ?_
            | refine eC (c1) ?_
            | refine oC (c2) ?_
            | refine eC (c2) ?_
            | refine oX (frz := [1, 11]) Et_ok ?_ (hv := app1) (hf := rfl) (he := rfl)
            | refine eX ?_ (hv := app1) (hf := rfl) (he := rfl)
            | refine oX (frz := [1, 11]) Et_ok ?_ (hv := app0) (hf := rfl) (he := rfl)
            | refine eX ?_ (hv := app0) (hf := rfl) (he := rfl)
            | (refine Run.ret ?_; (first | refine rB ?_ | refine rI ?_ | refine rA ?_ | refine rII ?_ | refine rSI ?_ | refine rT ?_ | refine rS ?_); first | done | (rfl))
            | ((exfalso; (simp at h <;> omega)))
            | fail)
        · have hR : AV.d (.bool ((((rn.map DV.str).length : Nat) : Int) == 0)) = .d (.bool false) := by
            rw [List.length_map]; exact congrArg (fun b => AV.d (.bool b)) (by simpa using hr0)
          rw [show (decide (x.tokens.length = 0) || decide (rn.length = 0) || b1) = b1 from by simp [ht0, hr0]]
          cases b1 with
          | true =>
            refine knownE Et_ok (fnAt Try.func51 (by kernel_rfl) (by kernel_rfl) : FnAt _ _ (mkFn Try.f51 [1, 11])) ?_
            repeat' (first
              | refine oX (frz := [1, 11]) (v := .d (.bool false)) Et_ok ?_ (he := (hR))
              | refine eX (v := .d (.bool false)) ?_ (he := (hR))
              | refine oX (frz := [1, 11]) (v := .d (.bool false)) Et_ok ?_ (he := (hT))
              | refine eX (v := .d (.bool false)) ?_ (he := (hT))
              | refine Run.region ?_
              | refine Run.seq ?_
              | ((refine oB (frz := [1, 11]) Et_ok (fun h => ?_) (fun h => ?_)) <;> (first | (exfalso; simp at h <;> fail) | (exfalso; simp at h; omega) | skip))
              | ((refine eB (fun h => ?_) (fun h => ?_)) <;> (first | (exfalso; simp at h <;> fail) | (exfalso; simp at h; omega) | skip))
              | refine oX (frz := [1, 11]) Et_ok ?_
              | refine oS ?_
              | refine RunOps.nil ?_
              | refine Run.skip ?_
              | refine cT ?_
              | refine cF ?_
              | refine Run.block ?_
              | refine Run.exit ?_
              | refine Run.draw (frz := [1, 11]) Et_ok (by kernel_rfl) ?_
              | refine eX ?_
              | refine eS ?_
              | refine eN ?_
              | refine eA c0 ?_
              | refine oC (c1) ?_
              | refine eC (c1) ?_
              | refine oC (c2) ?_
              | refine eC (c2) ?_
              | refine oC (c3) ?_
              | refine eC (c3) ?_
              | refine oX (frz := [1, 11]) Et_ok ?_ (hv := app1) (hf := rfl) (he := rfl)
              | refine eX ?_ (hv := app1) (hf := rfl) (he := rfl)
              | refine oX (frz := [1, 11]) Et_ok ?_ (hv := app0) (hf := rfl) (he := rfl)
              | refine eX ?_ (hv := app0) (hf := rfl) (he := rfl)
              | (refine Run.ret ?_; (first | refine rB ?_ | refine rI ?_ | refine rA ?_ | refine rII ?_ | refine rSI ?_ | refine rT ?_ | refine rS ?_); first | done | (rfl))
              | ((exfalso; (simp at h <;> omega)))
              | fail)
          | false =>
            cases b2 with
            | true =>
              refine knownE Et_ok (fnAt Try.func51 (by kernel_rfl) (by kernel_rfl) : FnAt _ _ (mkFn Try.f51 [1, 11])) ?_
              repeat' (first
                | refine oX (frz := [1, 11]) (v := .d (.bool false)) Et_ok ?_ (he := (hR))
                | refine eX (v := .d (.bool false)) ?_ (he := (hR))
                | refine oX (frz := [1, 11]) (v := .d (.bool false)) Et_ok ?_ (he := (hT))
                | refine eX (v := .d (.bool false)) ?_ (he := (hT))
                | refine Run.region ?_
                | refine Run.seq ?_
                | ((refine oB (frz := [1, 11]) Et_ok (fun h => ?_) (fun h => ?_)) <;> (first | (exfalso; simp at h <;> fail) | (exfalso; simp at h; omega) | skip))
                | ((refine eB (fun h => ?_) (fun h => ?_)) <;> (first | (exfalso; simp at h <;> fail) | (exfalso; simp at h; omega) | skip))
                | refine oX (frz := [1, 11]) Et_ok ?_
                | refine oS ?_
                | refine RunOps.nil ?_
                | refine Run.skip ?_
                | refine cT ?_
                | refine cF ?_
                | refine Run.block ?_
                | refine Run.exit ?_
                | refine Run.draw (frz := [1, 11]) Et_ok (by kernel_rfl) ?_
                | refine eX ?_
                | refine eS ?_
                | refine eN ?_
                | refine eA c0 ?_
                | refine oC (c1) ?_
                | refine eC (c1) ?_
                | refine oC (c2) ?_
                | refine eC (c2) ?_
                | refine oC (c3) ?_
                | refine eC (c3) ?_
                | refine oC (c4) ?_
                | refine eC (c4) ?_
                | refine oX (frz := [1, 11]) Et_ok ?_ (hv := app1) (hf := rfl) (he := rfl)
                | refine eX ?_ (hv := app1) (hf := rfl) (he := rfl)
                | refine oX (frz := [1, 11]) Et_ok ?_ (hv := app0) (hf := rfl) (he := rfl)
                | refine eX ?_ (hv := app0) (hf := rfl) (he := rfl)
                | (refine Run.ret ?_; (first | refine rB ?_ | refine rI ?_ | refine rA ?_ | refine rII ?_ | refine rSI ?_ | refine rT ?_ | refine rS ?_); first | done | (rfl))
                | ((exfalso; (simp at h <;> omega)))
                | fail)
            | false =>
              refine knownE Et_ok (fnAt Try.func51 (by kernel_rfl) (by kernel_rfl) : FnAt _ _ (mkFn Try.f51 [1, 11])) ?_
              repeat' (first
                | refine oX (frz := [1, 11]) (v := .d (.bool false)) Et_ok ?_ (he := (hR))
                | refine eX (v := .d (.bool false)) ?_ (he := (hR))
                | refine oX (frz := [1, 11]) (v := .d (.bool false)) Et_ok ?_ (he := (hT))
                | refine eX (v := .d (.bool false)) ?_ (he := (hT))
                | refine Run.region ?_
                | refine Run.seq ?_
                | ((refine oB (frz := [1, 11]) Et_ok (fun h => ?_) (fun h => ?_)) <;> (first | (exfalso; simp at h <;> fail) | (exfalso; simp at h; omega) | skip))
                | ((refine eB (fun h => ?_) (fun h => ?_)) <;> (first | (exfalso; simp at h <;> fail) | (exfalso; simp at h; omega) | skip))
                | refine oX (frz := [1, 11]) Et_ok ?_
                | refine oS ?_
                | refine RunOps.nil ?_
                | refine Run.skip ?_
                | refine cT ?_
                | refine cF ?_
                | refine Run.block ?_
                | refine Run.exit ?_
                | refine Run.draw (frz := [1, 11]) Et_ok (by kernel_rfl) ?_
                | refine eX ?_
                | refine eS ?_
                | refine eN ?_
                | refine eA c0 ?_
                | refine oC (c1) ?_
                | refine eC (c1) ?_
                | refine oC (c2) ?_
                | refine eC (c2) ?_
                | refine oC (c3) ?_
                | refine eC (c3) ?_
                | refine oC (c4) ?_
                | refine eC (c4) ?_
                | ((refine oLb (c5) (fun h => ?_) (fun h => ?_)) <;> (first | (exfalso; simp at h <;> fail) | (exfalso; simp at h; omega) | skip))
                | refine oL (c5) ?_
                | ((refine eLb (c5) (fun h => ?_) (fun h => ?_)) <;> (first | (exfalso; simp at h <;> fail) | (exfalso; simp at h; omega) | skip))
                | refine eL (c5) ?_
                | ((refine oK (c6) (fun h => ?_) (fun h => ?_)) <;> (first | (exfalso; simp at h <;> fail) | (exfalso; simp at h; omega) | skip))
                | refine oC (c6) ?_
                | ((refine eK (c6) (fun h => ?_) (fun h => ?_)) <;> (first | (exfalso; simp at h <;> fail) | (exfalso; simp at h; omega) | skip))
                | refine eC (c6) ?_
                | ((refine oK (c7) (fun h => ?_) (fun h => ?_)) <;> (first | (exfalso; simp at h <;> fail) | (exfalso; simp at h; omega) | skip))
                | refine oC (c7) ?_
                | ((refine eK (c7) (fun h => ?_) (fun h => ?_)) <;> (first | (exfalso; simp at h <;> fail) | (exfalso; simp at h; omega) | skip))
                | refine eC (c7) ?_
                | ((refine oK (c8) (fun h => ?_) (fun h => ?_)) <;> (first | (exfalso; simp at h <;> fail) | (exfalso; simp at h; omega) | skip))
                | refine oC (c8) ?_
                | ((refine eK (c8) (fun h => ?_) (fun h => ?_)) <;> (first | (exfalso; simp at h <;> fail) | (exfalso; simp at h; omega) | skip))
                | refine eC (c8) ?_
                | ((refine oLb (c9) (fun h => ?_) (fun h => ?_)) <;> (first | (exfalso; simp at h <;> fail) | (exfalso; simp at h; omega) | skip))
                | refine oL (c9) ?_
                | ((refine eLb (c9) (fun h => ?_) (fun h => ?_)) <;> (first | (exfalso; simp at h <;> fail) | (exfalso; simp at h; omega) | skip))
                | refine eL (c9) ?_
                | ((refine oK (c10) (fun h => ?_) (fun h => ?_)) <;> (first | (exfalso; simp at h <;> fail) | (exfalso; simp at h; omega) | skip))
                | refine oC (c10) ?_
                | ((refine eK (c10) (fun h => ?_) (fun h => ?_)) <;> (first | (exfalso; simp at h <;> fail) | (exfalso; simp at h; omega) | skip))
                | refine eC (c10) ?_
                | ((refine oK (c11) (fun h => ?_) (fun h => ?_)) <;> (first | (exfalso; simp at h <;> fail) | (exfalso; simp at h; omega) | skip))
                | refine oC (c11) ?_
                | ((refine eK (c11) (fun h => ?_) (fun h => ?_)) <;> (first | (exfalso; simp at h <;> fail) | (exfalso; simp at h; omega) | skip))
                | refine eC (c11) ?_
                | ((refine oK (c12) (fun h => ?_) (fun h => ?_)) <;> (first | (exfalso; simp at h <;> fail) | (exfalso; simp at h; omega) | skip))
                | refine oC (c12) ?_
                | ((refine eK (c12) (fun h => ?_) (fun h => ?_)) <;> (first | (exfalso; simp at h <;> fail) | (exfalso; simp at h; omega) | skip))
                | refine eC (c12) ?_
                | refine oA (c13 _) ?_
                | refine oX (frz := [1, 11]) Et_ok ?_ (hv := app1) (hf := rfl) (he := rfl)
                | refine eX ?_ (hv := app1) (hf := rfl) (he := rfl)
                | refine oX (frz := [1, 11]) Et_ok ?_ (hv := app0) (hf := rfl) (he := rfl)
                | refine eX ?_ (hv := app0) (hf := rfl) (he := rfl)
                | (refine Run.ret ?_; (first | refine rB ?_ | refine rI ?_ | refine rA ?_ | refine rII ?_ | refine rSI ?_ | refine rT ?_ | refine rS ?_); first | done | (first | rfl | (simp_all <;> fail)))
                | ((exfalso; (simp at h <;> omega)))
                | ((exfalso; simp_all <;> fail))
                | fail)
end Go.Av
end
noncomputable section
namespace Go.Av
open Go Go.Proofs
set_option maxRecDepth 10000
def rgtD (l : List Int) : List DV := l.map (.int .i64)
def rowN : List Int → DV
  | [] => .nilsl
  | a :: l => ints (a :: l)
def encN (p : GProd) : DV := .agg [.int .i64 p.left, rowN p.right]
theorem encN_to (l : List GProd) : DvN (.sl 2 (l.map encN)) (.sl 2 (l.map encP)) := by
  refine DvN.map (f := encN) (g := encP) (n := 2) (fun _ => rfl) (fun _ => rfl) l fun a _ i x y hx hy => ?_
  match i with
  | 0 => simp [encN, encP, cellsD] at hx hy; subst hx hy; exact .refl
  | 1 =>
    simp [encN, encP, cellsD] at hx hy; subst hx hy
    cases a.right with
    | nil => exact .nil
    | cons r l => exact .refl
  | i + 2 => simp [encN, cellsD] at hx
end Go.Av
end
noncomputable section
namespace Go.Av
open Go Go.Proofs
set_option maxRecDepth 10000
def symW (ts ns : List (List Nat)) (s : List Nat) : Int := if 0 ≤ findF ns s then 16 + findF ns s else findF ts s
theorem symbolW (ts ns : List (List Nat)) (s : List Nat) (hft : ts.length ≤ 1048576) (hfn : ns.length ≤ 1048576) : KnownCall Try.prog 37 [.agg [.any, strs ts, .any, strs ns, .any, .any], .str s] (.d (.int .i64 (symW ts ns s))) := by
  have hr := findF_range ns s
  have hw : IntKind.i64.wrap (16 + findF ns s) = 16 + findF ns s := wrap64 (by omega) (by omega)
  refine knownE Et_ok (fnAt Try.func37 (by kernel_rfl) (by kernel_rfl) : FnAt _ _ (mkFn Try.f37 [2])) ?_
  repeat' (first
    | refine Run.region ?_
    | refine Run.seq ?_
    | ((refine oB (frz := [2]) Et_ok (fun h => ?_) (fun h => ?_)) <;> (first | (exfalso; simp at h <;> fail) | (exfalso; simp at h; omega) | skip))
    | ((refine eB (fun h => ?_) (fun h => ?_)) <;> (first | (exfalso; simp at h <;> fail) | (exfalso; simp at h; omega) | skip))
    | refine oX (frz := [2]) Et_ok ?_
    | refine oS ?_
    | refine RunOps.nil ?_
    | refine Run.skip ?_
    | refine cT ?_
    | refine cF ?_
    | refine Run.block ?_
    | refine Run.exit ?_
    | refine Run.draw (frz := [2]) Et_ok (by kernel_rfl) ?_
    | refine eX ?_
    | refine eS ?_
    | refine eN ?_
    | ((refine oK (refFind _ _ (show ns.length ≤ _ by omega)) (fun h => ?_) (fun h => ?_)) <;> (first | (exfalso; simp at h <;> fail) | (exfalso; simp at h; omega) | skip))
    | refine oC (refFind _ _ (show ns.length ≤ _ by omega)) ?_
    | ((refine eK (refFind _ _ (show ns.length ≤ _ by omega)) (fun h => ?_) (fun h => ?_)) <;> (first | (exfalso; simp at h <;> fail) | (exfalso; simp at h; omega) | skip))
    | refine eC (refFind _ _ (show ns.length ≤ _ by omega)) ?_
    | ((refine oK (refFind _ _ (show ts.length ≤ _ by omega)) (fun h => ?_) (fun h => ?_)) <;> (first | (exfalso; simp at h <;> fail) | (exfalso; simp at h; omega) | skip))
    | refine oC (refFind _ _ (show ts.length ≤ _ by omega)) ?_
    | ((refine eK (refFind _ _ (show ts.length ≤ _ by omega)) (fun h => ?_) (fun h => ?_)) <;> (first | (exfalso; simp at h <;> fail) | (exfalso; simp at h; omega) | skip))
    | refine eC (refFind _ _ (show ts.length ≤ _ by omega)) ?_
    | (refine Run.ret ?_; (first | refine rB ?_ | refine rI ?_ | refine rA ?_ | refine rII ?_ | refine rSI ?_ | refine rT ?_ | refine rS ?_); first | done | (first | (simp_all [symW] <;> fail) | (simp_all [symW]; omega)))
    | fail)
def altP (ts ns : List (List Nat)) (i : Nat) (a : List (List Nat)) : GProd := ⟨((16 + i : Nat) : Int), a.map (symW ts ns)⟩
def ofP (x : Src) (i : Nat) : List GProd := (x.rules.take i).zipIdx.flatMap fun p => p.1.alts.map (altP x.tokens (ruleNames x) p.2)
theorem ofP_succ {x : Src} {i : Nat} {r : SRule} (h : x.rules[i]? = some r) : ofP x (i + 1) = ofP x i ++ r.alts.map (altP x.tokens (ruleNames x) i) := by
  have hi := (List.getElem?_eq_some_iff.1 h).1
  have hl : (x.rules.take i).length = i := by simp; omega
  simp only [ofP]
  rw [List.take_add_one, h, List.zipIdx_append, List.flatMap_append, hl]
  simp
def ofX (x : Src) : Gram := ⟨x.k, x.tokens, x.sep, ruleNames x, symW x.tokens (ruleNames x) x.start, ofP x x.rules.length⟩
def psJ (b : Nat) (p : GProd) : Nat := match p.right with | [] => b + 1 | _ :: _ => b + 2
def psB (b : Nat) : List GProd → AV
  | [] => .d .nilsl
  | p :: l => .sr (psJ b p) 2 (encN p :: l.map encN)
def psC (b : Nat) : List GProd → List Ob
  | [] => []
  | p :: l => .box [.d (.int .i64 p.left), rowA (b + 1) 1 (rgtD p.right)] :: (rowO 1 (rgtD p.right) ++ [.room (l.length + 1) 2])
abbrev rmT (x : Src) : Ob := .room (([] : List DV).length + (x.tokens.map DV.str).length) 1
abbrev boxO (x : Src) (st : Int) (ns ps : AV) : Ob := .box [.d (.int .i64 x.k), .sr 1 1 ([] ++ x.tokens.map DV.str), .d (.str x.sep), ns, .d (.int .i64 st), ps]
abbrev fO : List Nat := [1, 42, 94, 100]
theorem checkX_rules {x : Src} (h : checkX x = 0) : x.rules ≠ [] ∧ ∀ r ∈ x.rules, r.alts ≠ [] := by
  have hs : shortX x = false := by
    cases hb : shortX x with
    | false => rfl
    | true => unfold checkX at h; rw [hb] at h; split at h <;> simp at h
  unfold shortX at hs
  simp only [Bool.or_eq_false_iff, List.any_eq_false, List.isEmpty_iff] at hs
  exact ⟨fun e => by simp [e] at hs, fun r hr e => hs.1.1 r hr (by simp [e])⟩
theorem ofP_len {x : Src} {i : Nat} (hi : i ≤ x.rules.length) : (ofP x i).length = sumTo x i := by
  induction i with
  | zero => simp [ofP, sumTo]
  | succ i ih =>
    obtain ⟨r, hr⟩ := get_ok (show i < x.rules.length by omega)
    rw [ofP_succ hr, sumTo_succ hr, List.length_append, List.length_map, ih (by omega)]
theorem checkX_small {x : Src} (h : checkX x = 0) : x.tokens.length ≤ 8 ∧ x.rules.length ≤ 8 ∧ sumTo x x.rules.length ≤ 24 ∧ ∀ r ∈ x.rules, ∀ a ∈ r.alts, a.length ≤ 6 := by
  have hs : fullX x = false := by
    cases hb : fullX x with
    | false => rfl
    | true =>
      unfold checkX at h; rw [hb] at h
      split at h
      · omega
      · split at h <;> simp at h
  unfold fullX at hs
  simp only [Bool.or_eq_false_iff, List.any_eq_false, decide_eq_false_iff_not] at hs
  refine ⟨by omega, by omega, by omega, fun r hr a ha => ?_⟩
  have := hs.1.1.1 r hr
  simp only [List.any_eq_true, not_exists, not_and] at this
  have := this a ha
  simp only [longA, decide_eq_true_eq] at this
  omega
set_option maxHeartbeats 4000000 in
theorem refOf0 (x : Src) (hf : FitsX x) (h0 : checkX x = 0) : KnownCall Try.prog 27 [encX x] (.tup [.d (.agg [.int .i64 x.k, strs x.tokens, .str x.sep, strs (ruleNames x), .int .i64 (symW x.tokens (ruleNames x) x.start), .sl 2 ((ofP x x.rules.length).map encN)]), .d (.int .i64 0)]) := by
  have htl := hf.tokens
  have hrl := hf.rules
  obtain ⟨hs1, hs2, hs3, hs4⟩ := checkX_small h0
  obtain ⟨hn1, hn2⟩ := checkX_rules h0
  have cc := check08 x hf
  rw [h0] at cc
  obtain ⟨st, hst⟩ : ∃ st, st = symW x.tokens (ruleNames x) x.start := ⟨_, rfl⟩
  rw [← hst]
  refine knownE Et_ok (fnAt Try.func27 (by kernel_rfl) (by kernel_rfl) : FnAt _ _ (mkFn Try.f27 fO)) ?_
  show Run _ _ _ _ _ _ (EndK _ _ (.tup [.d (.agg [.int .i64 x.k, strs x.tokens, .str x.sep, strs (ruleNames x), .int .i64 st, .sl 2 ((ofP x x.rules.length).map encN)]), .d (.int .i64 0)]))
  repeat' (first
    | refine Run.region ?_
    | refine Run.seq ?_
    | ((refine oB (frz := fO) Et_ok (fun h => ?_) (fun h => ?_)) <;> (first | (exfalso; simp at h <;> fail) | (exfalso; simp at h; omega) | skip))
    | ((refine eB (fun h => ?_) (fun h => ?_)) <;> (first | (exfalso; simp at h <;> fail) | (exfalso; simp at h; omega) | skip))
    | refine oX (frz := fO) Et_ok ?_
    | refine oS ?_
    | refine RunOps.nil ?_
    | refine Run.skip ?_
    | refine cT ?_
    | refine cF ?_
    | refine Run.block ?_
    | refine Run.exit ?_
    | refine Run.draw (frz := fO) Et_ok (by kernel_rfl) ?_
    | refine eX ?_
    | refine eS ?_
    | refine eN ?_
    | refine oC (cc) ?_
    | refine eC (cc) ?_
    | refine oX (frz := fO) Et_ok ?_ (hv := app1) (hf := rfl) (he := rfl)
    | refine eX ?_ (hv := app1) (hf := rfl) (he := rfl)
    | refine oX (frz := fO) Et_ok ?_ (hv := app0) (hf := rfl) (he := rfl)
    | refine eX ?_ (hv := app0) (hf := rfl) (he := rfl)
    | (refine Run.ret ?_; (first | refine rB ?_ | refine rI ?_ | refine rA ?_ | refine rII ?_ | refine rSI ?_ | refine rT ?_ | refine rS ?_); first | done | (skip))
    | ((exfalso; (simp at h <;> omega)))
    | fail)
  refine Run.loopT (fun y : Nat × List DV => ⟨PT.ofList [(1, cellX x), (2, .bp 0 0), (3, .d (.int .i64 0)), (5, .bp 2 0), (6, .d (.int .i64 y.1))], boxG0 :: rmT x :: boxO x 0 (rowA 3 1 y.2) (.d .nilsl) :: rowO 1 y.2, []⟩) (fun y => y.1 ≤ x.rules.length ∧ y.2 = (x.rules.take y.1).map (fun r => .str r.name)) (fun y => x.rules.length - y.1) (0, []) ⟨Nat.zero_le _, rfl⟩ (tidy_of (objs := _) _ 3 (by rfl) rfl (by repeat' (first | exact trivial | refine ⟨(Or.inl rfl), ?_⟩ | refine ⟨(Or.inr rfl), ?_⟩ | fail)) (by repeat' (first | exact trivial | refine ⟨rfl, ?_⟩ | fail)) rfl rfl) (fun y hy => ?_)
  obtain ⟨i, acc⟩ := y
  obtain ⟨hi1, hi2⟩ := hy
  simp only at hi1 hi2 ⊢
  have hal : acc.length ≤ i := by rw [hi2]; simp; omega
  rcases Nat.lt_or_ge i x.rules.length with hlt | hge
  · obtain ⟨r, hr⟩ := get_ok hlt
    have hnext : acc ++ [DV.str r.name] = (x.rules.take (i + 1)).map (fun r => .str r.name) := by rw [List.take_add_one, hr, hi2]; simp
    rcases acc with _ | ⟨a, l⟩
    · repeat' (first
        | refine Run.region ?_
        | refine Run.seq ?_
        | ((refine oB (frz := fO) Et_ok (fun h => ?_) (fun h => ?_)) <;> (first | (exfalso; simp at h <;> fail) | (exfalso; simp at h; omega) | skip))
        | ((refine eB (fun h => ?_) (fun h => ?_)) <;> (first | (exfalso; simp at h <;> fail) | (exfalso; simp at h; omega) | skip))
        | refine oX (frz := fO) Et_ok ?_
        | refine oS ?_
        | refine RunOps.nil ?_
        | refine Run.skip ?_
        | refine cT ?_
        | refine cF ?_
        | refine Run.block ?_
        | refine Run.exit ?_
        | refine Run.draw (frz := fO) Et_ok (by kernel_rfl) ?_
        | refine eX ?_
        | refine eS ?_
        | refine eN ?_
        | refine oX (frz := fO) (v := .d (.ep [.str r.name, alts r.alts])) Et_ok ?_ (hf := (by first | (simp [inB] <;> fail) | (simp [inB]; omega))) (he := (by first | (simp [List.getD_eq_getElem?_getD, cellsD, hr, encR] <;> fail) | fail))
        | refine eX (v := .d (.ep [.str r.name, alts r.alts])) ?_ (hf := (by first | (simp [inB] <;> fail) | (simp [inB]; omega))) (he := (by first | (simp [List.getD_eq_getElem?_getD, cellsD, hr, encR] <;> fail) | fail))
        | refine oX (frz := fO) Et_ok ?_ (hv := app1) (hf := rfl) (he := rfl)
        | refine eX ?_ (hv := app1) (hf := rfl) (he := rfl)
        | refine oX (frz := fO) Et_ok ?_ (hv := app0) (hf := rfl) (he := rfl)
        | refine eX ?_ (hv := app0) (hf := rfl) (he := rfl)
        | (refine Run.ret ?_; (first | refine rB ?_ | refine rI ?_ | refine rA ?_ | refine rII ?_ | refine rSI ?_ | refine rT ?_ | refine rS ?_); first | done | (skip))
        | (exact ⟨(i + 1, [DV.str r.name]), ⟨hlt, hnext⟩, by simp only; omega, (tidy_of (objs := _) _ 4 (Eq.trans (b := boxG0 :: rmT x :: boxO x 0 (.sr 3 1 [DV.str r.name]) (.d .nilsl) :: [.room 1 1]) rfl (by first | rfl | (simp [rowA, rowO, psB] <;> fail))) rfl (by repeat' (first | exact trivial | refine ⟨(Or.inl rfl), ?_⟩ | refine ⟨(Or.inl (inc_get (k := i) (by kernel_rfl) (by omega))), ?_⟩ | refine ⟨(Or.inr rfl), ?_⟩ | fail)) (by repeat' (first | exact trivial | refine ⟨rfl, ?_⟩ | fail)) rfl rfl)⟩)
        | ((exfalso; (simp at h <;> omega)))
        | fail)
    · have hal' : l.length + 1 ≤ i := hal
      repeat' (first
        | refine Run.region ?_
        | refine Run.seq ?_
        | ((refine oB (frz := fO) Et_ok (fun h => ?_) (fun h => ?_)) <;> (first | (exfalso; simp at h <;> fail) | (exfalso; simp at h; omega) | skip))
        | ((refine eB (fun h => ?_) (fun h => ?_)) <;> (first | (exfalso; simp at h <;> fail) | (exfalso; simp at h; omega) | skip))
        | refine oX (frz := fO) Et_ok ?_
        | refine oS ?_
        | refine RunOps.nil ?_
        | refine Run.skip ?_
        | refine cT ?_
        | refine cF ?_
        | refine Run.block ?_
        | refine Run.exit ?_
        | refine Run.draw (frz := fO) Et_ok (by kernel_rfl) ?_
        | refine eX ?_
        | refine eS ?_
        | refine eN ?_
        | refine oX (frz := fO) (v := .d (.ep [.str r.name, alts r.alts])) Et_ok ?_ (hf := (by first | (simp [inB] <;> fail) | (simp [inB]; omega))) (he := (by first | (simp [List.getD_eq_getElem?_getD, cellsD, hr, encR] <;> fail) | fail))
        | refine eX (v := .d (.ep [.str r.name, alts r.alts])) ?_ (hf := (by first | (simp [inB] <;> fail) | (simp [inB]; omega))) (he := (by first | (simp [List.getD_eq_getElem?_getD, cellsD, hr, encR] <;> fail) | fail))
        | refine oX (frz := fO) Et_ok ?_ (hv := app1) (hf := rfl) (he := rfl)
        | refine eX ?_ (hv := app1) (hf := rfl) (he := rfl)
        | refine oX (frz := fO) Et_ok ?_ (hv := app0) (hf := rfl) (he := rfl)
        | refine eX ?_ (hv := app0) (hf := rfl) (he := rfl)
        | (refine Run.ret ?_; (first | refine rB ?_ | refine rI ?_ | refine rA ?_ | refine rII ?_ | refine rSI ?_ | refine rT ?_ | refine rS ?_); first | done | (skip))
        | (exact ⟨(i + 1, a :: (l ++ [DV.str r.name])), ⟨hlt, hnext⟩, by simp only; omega, (tidy_of (objs := _) _ 4 (Eq.trans (b := boxG0 :: rmT x :: boxO x 0 (.sr 3 1 (a :: (l ++ [DV.str r.name]))) (.d .nilsl) :: [.room (l.length + 1 + 1) 1]) rfl (by first | rfl | (simp [rowA, rowO, psB] <;> fail))) rfl (by repeat' (first | exact trivial | refine ⟨(Or.inl rfl), ?_⟩ | refine ⟨(Or.inl (inc_get (k := i) (by kernel_rfl) (by omega))), ?_⟩ | refine ⟨(Or.inr rfl), ?_⟩ | fail)) (by repeat' (first | exact trivial | refine ⟨rfl, ?_⟩ | fail)) rfl rfl)⟩)
        | ((exfalso; (simp at h <;> omega)))
        | fail)
  · have hge : i = x.rules.length := by omega
    have hns : (ruleNames x).map DV.str = acc := by rw [hi2, hge, List.take_length, List.map_map]; rfl
    rcases acc with _ | ⟨n0, nl⟩
    · exfalso
      have := congrArg List.length hns
      simp at this
      exact hn1 this
    · have hsym : ∀ s, KnownCall Try.prog 37 [.agg [.any, strs x.tokens, .any, .sl 1 (n0 :: nl), .any, .any], .str s] (.d (.int .i64 (symW x.tokens (ruleNames x) s))) := fun s => by
        have := symbolW x.tokens (ruleNames x) s htl (by simp; omega)
        rw [show strs (ruleNames x) = .sl 1 (n0 :: nl) from congrArg (DV.sl 1) hns] at this
        exact this
      rw [show strs (ruleNames x) = .sl 1 (n0 :: nl) from congrArg (DV.sl 1) hns]
      have hsst := hsym x.start
      rw [← hst] at hsst
      subst hge
      clear hi1 hi2 hal
      repeat (first | refine Run.seq ?_ | refine Run.region ?_ | refine RunOps.nil ?_ | refine Run.skip ?_ | refine cT ?_ | refine cF ?_ | refine Run.block ?_ | refine Run.exit ?_)
      iterate 4 refine oX (frz := fO) Et_ok ?_
      refine oX (frz := fO) (v := .d (.bool false)) Et_ok ?_ (he := vF8 (by simp))
      repeat (first | refine Run.seq ?_ | refine Run.region ?_ | refine RunOps.nil ?_ | refine Run.skip ?_ | refine cT ?_ | refine cF ?_ | refine Run.block ?_ | refine Run.exit ?_)
      iterate 3 refine oX (frz := fO) Et_ok ?_
      refine oW hsst ?_
      iterate 2 refine oX (frz := fO) Et_ok ?_
      repeat (first | refine Run.seq ?_ | refine Run.region ?_ | refine RunOps.nil ?_ | refine Run.skip ?_ | refine cT ?_ | refine cF ?_ | refine Run.block ?_ | refine Run.exit ?_)
      refine oX (frz := fO) Et_ok ?_
      repeat (first | refine Run.seq ?_ | refine Run.region ?_ | refine RunOps.nil ?_ | refine Run.skip ?_ | refine cT ?_ | refine cF ?_ | refine Run.block ?_ | refine Run.exit ?_)
      refine Run.loop (fun y : Nat × List GProd => ⟨PT.ofList [(1, cellX x), (2, .bp 0 0), (3, .d (.int .i64 0)), (5, .bp 2 0), (7, .d (.int .i64 y.1))], boxG0 :: rmT x :: boxO x st (.sr 3 1 (n0 :: nl)) (psB 4 y.2) :: .room (nl.length + 1) 1 :: psC 4 y.2, []⟩) (fun y => y.1 ≤ x.rules.length ∧ y.2 = ofP x y.1) (fun y => x.rules.length - y.1) (0, []) ⟨Nat.zero_le _, rfl⟩ (weak_of' (by rfl) rfl (by repeat' (first | exact trivial | refine ⟨rfl, ?_⟩))) (fun y hy => ?_)
      obtain ⟨i, acc⟩ := y
      obtain ⟨hi1, hi2⟩ := hy
      simp only at hi1 hi2 ⊢
      rcases Nat.lt_or_ge i x.rules.length with hlt | hge
      · obtain ⟨r, hr⟩ := get_ok hlt
        have hmem := List.mem_of_getElem? hr
        have hra := hf.alts r hmem
        have hro := ofP_succ hr
        have hsl : (ofP x (i + 1)).length ≤ 24 := by
          have h1 := ofP_len (x := x) (i := i + 1) hlt
          have h2 : sumTo x (i + 1) ≤ sumTo x x.rules.length := by
            unfold sumTo
            rw [List.take_length]
            conv => rhs; rw [← List.take_append_drop (i + 1) x.rules, List.map_append, List.sum_append]
            omega
          omega
        repeat (first | refine Run.seq ?_ | refine Run.region ?_ | refine RunOps.nil ?_ | refine Run.skip ?_ | refine cT ?_ | refine cF ?_ | refine Run.block ?_ | refine Run.exit ?_)
        iterate 4 refine oX (frz := fO) Et_ok ?_
        refine oX (frz := fO) (v := .d (.bool true)) Et_ok ?_ (he := vT8 (by simp <;> omega))
        repeat (first | refine Run.seq ?_ | refine Run.region ?_ | refine RunOps.nil ?_ | refine Run.skip ?_ | refine cT ?_ | refine cF ?_ | refine Run.block ?_ | refine Run.exit ?_)
        refine oX (frz := fO) Et_ok ?_
        repeat (first | refine Run.seq ?_ | refine Run.region ?_ | refine RunOps.nil ?_ | refine Run.skip ?_ | refine cT ?_ | refine cF ?_ | refine Run.block ?_ | refine Run.exit ?_)
        refine Run.loopW (fun y : Nat × List GProd => ⟨PT.ofList [(1, cellX x), (2, .bp 0 0), (3, .d (.int .i64 0)), (5, .bp 2 0), (7, .d (.int .i64 i)), (8, .d (.int .i64 y.1))], boxG0 :: rmT x :: boxO x st (.sr 3 1 (n0 :: nl)) (psB 4 y.2) :: .room (nl.length + 1) 1 :: psC 4 y.2, []⟩) (fun y => y.1 ≤ r.alts.length ∧ y.2 = ofP x i ++ (r.alts.take y.1).map (altP x.tokens (ruleNames x) i)) (fun y => r.alts.length - y.1) (0, acc) ⟨Nat.zero_le _, by simp [hi2]⟩ (weak_of' (by rfl) rfl (by repeat' (first | exact trivial | refine ⟨rfl, ?_⟩))) (fun y hy => ?_)
        obtain ⟨k, acc⟩ := y
        obtain ⟨hk1, hk2⟩ := hy
        simp only at hk1 hk2 ⊢
        rcases Nat.lt_or_ge k r.alts.length with hkl | hkg
        · obtain ⟨a, ha⟩ := get_ok hkl
          have hal6 := hs4 r hmem a (List.mem_of_getElem? ha)
          have hnext : acc ++ [altP x.tokens (ruleNames x) i a] = ofP x i ++ (r.alts.take (k + 1)).map (altP x.tokens (ruleNames x) i) := by rw [List.take_add_one, ha, hk2]; simp
          have haccl : acc.length + 1 ≤ 24 := by
            have h1 := congrArg List.length hnext
            rw [hro, List.length_append, List.length_map] at hsl
            simp only [List.length_append, List.length_map, List.length_take, List.length_cons, List.length_nil] at h1
            omega
          have hL : AV.d (.int .i64 (IntKind.i64.wrap (16 + (i : Int)))) = .d (.int .i64 ((16 + i : Nat) : Int)) := vN8 (by omega) (by omega)
          rcases acc with _ | ⟨⟨pl, pr⟩, ps⟩
          · repeat' (first
              | refine oX (frz := fO) (v := .d (.int .i64 ((16 + i : Nat) : Int))) Et_ok ?_ (he := (hL))
              | refine eX (v := .d (.int .i64 ((16 + i : Nat) : Int))) ?_ (he := (hL))
              | refine Run.region ?_
              | refine Run.seq ?_
              | ((refine oB (frz := fO) Et_ok (fun h => ?_) (fun h => ?_)) <;> (first | (exfalso; simp at h <;> fail) | (exfalso; simp at h; omega) | skip))
              | ((refine eB (fun h => ?_) (fun h => ?_)) <;> (first | (exfalso; simp at h <;> fail) | (exfalso; simp at h; omega) | skip))
              | refine oX (frz := fO) Et_ok ?_
              | refine oS ?_
              | refine RunOps.nil ?_
              | refine Run.skip ?_
              | refine cT ?_
              | refine cF ?_
              | refine Run.block ?_
              | refine Run.exit ?_
              | refine Run.draw (frz := fO) Et_ok (by kernel_rfl) ?_
              | refine eX ?_
              | refine eS ?_
              | refine eN ?_
              | refine oX (frz := fO) (v := .d (.ep [.str r.name, alts r.alts])) Et_ok ?_ (hf := (by first | (simp [inB] <;> fail) | (simp [inB]; omega))) (he := (by first | (simp [List.getD_eq_getElem?_getD, cellsD, hr, encR] <;> fail) | fail))
              | refine eX (v := .d (.ep [.str r.name, alts r.alts])) ?_ (hf := (by first | (simp [inB] <;> fail) | (simp [inB]; omega))) (he := (by first | (simp [List.getD_eq_getElem?_getD, cellsD, hr, encR] <;> fail) | fail))
              | refine oX (frz := fO) (v := .d (.ep [strs a])) Et_ok ?_ (hf := (by first | (simp [inB] <;> fail) | (simp [inB]; omega))) (he := (by first | (simp [List.getD_eq_getElem?_getD, cellsD, ha] <;> fail) | fail))
              | refine eX (v := .d (.ep [strs a])) ?_ (hf := (by first | (simp [inB] <;> fail) | (simp [inB]; omega))) (he := (by first | (simp [List.getD_eq_getElem?_getD, cellsD, ha] <;> fail) | fail))
              | (refine Run.ret ?_; (first | refine rB ?_ | refine rI ?_ | refine rA ?_ | refine rII ?_ | refine rSI ?_ | refine rT ?_ | refine rS ?_); first | done | (skip))
              | ((exfalso; (simp at h <;> omega)))
              | fail)
            refine Run.loopT (fun z : Nat × List Int => ⟨PT.ofList [(1, cellX x), (2, .bp 0 0), (3, .d (.int .i64 0)), (5, .bp 2 0), (7, .d (.int .i64 i)), (8, .d (.int .i64 k)), (9, .bp 4 0), (10, .d (strs a)), (11, .d (.int .i64 z.1))], boxG0 :: rmT x :: boxO x st (.sr 3 1 (n0 :: nl)) (.d .nilsl) :: .room (nl.length + 1) 1 :: .box [.d (.int .i64 ((16 + i : Nat) : Int)), rowA 5 1 (rgtD z.2)] :: rowO 1 (rgtD z.2), []⟩)
              (fun z => z.1 ≤ a.length ∧ z.2 = (a.take z.1).map (symW x.tokens (ruleNames x))) (fun z => a.length - z.1) (0, []) ⟨Nat.zero_le _, rfl⟩ (tidy_of (objs := _) _ 5 (by rfl) rfl (by repeat' (first | exact trivial | refine ⟨(Or.inl rfl), ?_⟩ | refine ⟨(Or.inr rfl), ?_⟩ | fail)) (by repeat' (first | exact trivial | refine ⟨rfl, ?_⟩ | fail)) rfl rfl) (fun z hz => ?_)
            obtain ⟨j, rg⟩ := z
            obtain ⟨hj1, hj2⟩ := hz
            simp only at hj1 hj2 ⊢
            have hrl : rg.length = j := by rw [hj2]; simp; omega
            rcases Nat.lt_or_ge j a.length with hjl | hjg
            · obtain ⟨s, hs⟩ := get_ok hjl
              have hnx : rg ++ [symW x.tokens (ruleNames x) s] = (a.take (j + 1)).map (symW x.tokens (ruleNames x)) := by rw [List.take_add_one, hs, hj2]; simp
              rcases rg with _ | ⟨r1, rr⟩
              · repeat' (first
                  | refine Run.region ?_
                  | refine Run.seq ?_
                  | ((refine oB (frz := fO) Et_ok (fun h => ?_) (fun h => ?_)) <;> (first | (exfalso; simp at h <;> fail) | (exfalso; simp at h; omega) | skip))
                  | ((refine eB (fun h => ?_) (fun h => ?_)) <;> (first | (exfalso; simp at h <;> fail) | (exfalso; simp at h; omega) | skip))
                  | refine oX (frz := fO) Et_ok ?_
                  | refine oS ?_
                  | refine RunOps.nil ?_
                  | refine Run.skip ?_
                  | refine cT ?_
                  | refine cF ?_
                  | refine Run.block ?_
                  | refine Run.exit ?_
                  | refine Run.draw (frz := fO) Et_ok (by kernel_rfl) ?_
                  | refine eX ?_
                  | refine eS ?_
                  | refine eN ?_
                  | refine oX (frz := fO) (v := .d (.ep [.str s])) Et_ok ?_ (hf := (by first | (simp [inB] <;> fail) | (simp [inB]; omega))) (he := (by first | (simp [List.getD_eq_getElem?_getD, cellsD, hs] <;> fail) | fail))
                  | refine eX (v := .d (.ep [.str s])) ?_ (hf := (by first | (simp [inB] <;> fail) | (simp [inB]; omega))) (he := (by first | (simp [List.getD_eq_getElem?_getD, cellsD, hs] <;> fail) | fail))
                  | refine eW (hsym s) ?_
                  | refine oX (frz := fO) Et_ok ?_ (hv := app1) (hf := rfl) (he := rfl)
                  | refine eX ?_ (hv := app1) (hf := rfl) (he := rfl)
                  | refine oX (frz := fO) Et_ok ?_ (hv := app0) (hf := rfl) (he := rfl)
                  | refine eX ?_ (hv := app0) (hf := rfl) (he := rfl)
                  | (refine Run.ret ?_; (first | refine rB ?_ | refine rI ?_ | refine rA ?_ | refine rII ?_ | refine rSI ?_ | refine rT ?_ | refine rS ?_); first | done | (skip))
                  | (exact ⟨(j + 1, [symW x.tokens (ruleNames x) s]), ⟨hjl, hnx⟩, by simp only; omega, (tidy_of (objs := _) _ 6 (Eq.trans (b := boxG0 :: rmT x :: boxO x st (.sr 3 1 (n0 :: nl)) (.d .nilsl) :: .room (nl.length + 1) 1 :: .box [.d (.int .i64 ((16 + i : Nat) : Int)), .sr 5 1 [DV.int .i64 (symW x.tokens (ruleNames x) s)]] :: [.room 1 1]) rfl (by first | rfl | (simp [rowA, rowO, rgtD] <;> fail))) rfl (by repeat' (first | exact trivial | refine ⟨(Or.inl rfl), ?_⟩ | refine ⟨(Or.inl (inc_get (k := j) (by kernel_rfl) (by omega))), ?_⟩ | refine ⟨(Or.inr rfl), ?_⟩ | fail)) (by repeat' (first | exact trivial | refine ⟨rfl, ?_⟩ | fail)) rfl rfl)⟩)
                  | ((exfalso; (simp at h <;> omega)))
                  | fail)
              · have hrl' := hrl
                simp only [List.length_cons] at hrl'
                repeat' (first
                  | refine Run.region ?_
                  | refine Run.seq ?_
                  | ((refine oB (frz := fO) Et_ok (fun h => ?_) (fun h => ?_)) <;> (first | (exfalso; simp at h <;> fail) | (exfalso; simp at h; omega) | skip))
                  | ((refine eB (fun h => ?_) (fun h => ?_)) <;> (first | (exfalso; simp at h <;> fail) | (exfalso; simp at h; omega) | skip))
                  | refine oX (frz := fO) Et_ok ?_
                  | refine oS ?_
                  | refine RunOps.nil ?_
                  | refine Run.skip ?_
                  | refine cT ?_
                  | refine cF ?_
                  | refine Run.block ?_
                  | refine Run.exit ?_
                  | refine Run.draw (frz := fO) Et_ok (by kernel_rfl) ?_
                  | refine eX ?_
                  | refine eS ?_
                  | refine eN ?_
                  | refine oX (frz := fO) (v := .d (.ep [.str s])) Et_ok ?_ (hf := (by first | (simp [inB] <;> fail) | (simp [inB]; omega))) (he := (by first | (simp [List.getD_eq_getElem?_getD, cellsD, hs] <;> fail) | fail))
                  | refine eX (v := .d (.ep [.str s])) ?_ (hf := (by first | (simp [inB] <;> fail) | (simp [inB]; omega))) (he := (by first | (simp [List.getD_eq_getElem?_getD, cellsD, hs] <;> fail) | fail))
                  | refine eW (hsym s) ?_
                  | refine oX (frz := fO) Et_ok ?_ (hv := app1) (hf := rfl) (he := rfl)
                  | refine eX ?_ (hv := app1) (hf := rfl) (he := rfl)
                  | refine oX (frz := fO) Et_ok ?_ (hv := app0) (hf := rfl) (he := rfl)
                  | refine eX ?_ (hv := app0) (hf := rfl) (he := rfl)
                  | (refine Run.ret ?_; (first | refine rB ?_ | refine rI ?_ | refine rA ?_ | refine rII ?_ | refine rSI ?_ | refine rT ?_ | refine rS ?_); first | done | (skip))
                  | (exact ⟨(j + 1, r1 :: (rr ++ [symW x.tokens (ruleNames x) s])), ⟨hjl, hnx⟩, by simp only; omega, (tidy_of (objs := _) _ 6 (Eq.trans (b := boxG0 :: rmT x :: boxO x st (.sr 3 1 (n0 :: nl)) (.d .nilsl) :: .room (nl.length + 1) 1 :: .box [.d (.int .i64 ((16 + i : Nat) : Int)), .sr 5 1 (DV.int .i64 r1 :: (rgtD rr ++ [DV.int .i64 (symW x.tokens (ruleNames x) s)]))] :: [.room ((rgtD rr).length + 1 + 1) 1]) rfl (by first | rfl | (simp [rowA, rowO, rgtD] <;> fail))) rfl (by repeat' (first | exact trivial | refine ⟨(Or.inl rfl), ?_⟩ | refine ⟨(Or.inl (inc_get (k := j) (by kernel_rfl) (by omega))), ?_⟩ | refine ⟨(Or.inr rfl), ?_⟩ | fail)) (by repeat' (first | exact trivial | refine ⟨rfl, ?_⟩ | fail)) rfl rfl)⟩)
                  | ((exfalso; (simp at h <;> omega)))
                  | fail)
            · have hje : j = a.length := by omega
              have hrg : rg = a.map (symW x.tokens (ruleNames x)) := by rw [hj2, hje, List.take_length]
              rw [show altP x.tokens (ruleNames x) i a = ⟨((16 + i : Nat) : Int), rg⟩ from by rw [hrg]; rfl] at hnext
              rcases rg with _ | ⟨r1, rr⟩
              · repeat (first | refine Run.seq ?_ | refine Run.region ?_ | refine RunOps.nil ?_ | refine Run.skip ?_ | refine cT ?_ | refine cF ?_ | refine Run.block ?_ | refine Run.exit ?_)
                iterate 3 refine oX (frz := fO) Et_ok ?_
                refine oX (frz := fO) (v := .d (.bool false)) Et_ok ?_ (he := vF8 (by simp <;> omega))
                repeat (first | refine Run.seq ?_ | refine Run.region ?_ | refine RunOps.nil ?_ | refine Run.skip ?_ | refine cT ?_ | refine cF ?_ | refine Run.block ?_ | refine Run.exit ?_)
                iterate 3 refine oX (frz := fO) Et_ok ?_
                first | refine Run.tidy (tidy_of (objs := _) [(1, cellX x), (2, .bp 0 0), (3, .d (.int .i64 0)), (5, .bp 2 0), (7, .d (.int .i64 i)), (8, .d (.int .i64 k)), (98, .d .nilsl), (99, .d (encN (⟨((16 + i : Nat) : Int), []⟩ : GProd)))] 5 (Eq.trans (b := boxG0 :: rmT x :: boxO x st (.sr 3 1 (n0 :: nl)) (.d .nilsl) :: .room (nl.length + 1) 1 :: [.box [.d (.int .i64 ((16 + i : Nat) : Int)), .d .nilsl]]) rfl rfl) rfl (by repeat' (first | exact trivial | refine ⟨(Or.inl rfl), ?_⟩ | refine ⟨(Or.inr rfl), ?_⟩ | refine ⟨rfl, ?_⟩ | fail)) (by repeat' (first | exact trivial | refine ⟨(Or.inl rfl), ?_⟩ | refine ⟨(Or.inr rfl), ?_⟩ | refine ⟨rfl, ?_⟩ | fail)) rfl rfl) ?_ | refine RunOps.tidy (tidy_of (objs := _) [(1, cellX x), (2, .bp 0 0), (3, .d (.int .i64 0)), (5, .bp 2 0), (7, .d (.int .i64 i)), (8, .d (.int .i64 k)), (98, .d .nilsl), (99, .d (encN (⟨((16 + i : Nat) : Int), []⟩ : GProd)))] 5 (Eq.trans (b := boxG0 :: rmT x :: boxO x st (.sr 3 1 (n0 :: nl)) (.d .nilsl) :: .room (nl.length + 1) 1 :: [.box [.d (.int .i64 ((16 + i : Nat) : Int)), .d .nilsl]]) rfl rfl) rfl (by repeat' (first | exact trivial | refine ⟨(Or.inl rfl), ?_⟩ | refine ⟨(Or.inr rfl), ?_⟩ | refine ⟨rfl, ?_⟩ | fail)) (by repeat' (first | exact trivial | refine ⟨(Or.inl rfl), ?_⟩ | refine ⟨(Or.inr rfl), ?_⟩ | refine ⟨rfl, ?_⟩ | fail)) rfl rfl) ?_
                refine oX (frz := fO) Et_ok ?_
                first | refine oX (frz := fO) Et_ok ?_ (hv := app0) (hf := rfl) (he := rfl) | refine eX ?_ (hv := app0) (hf := rfl) (he := rfl)
                iterate 2 refine oX (frz := fO) Et_ok ?_
                repeat (first | refine Run.seq ?_ | refine Run.region ?_ | refine RunOps.nil ?_ | refine Run.skip ?_ | refine cT ?_ | refine cF ?_ | refine Run.block ?_ | refine Run.exit ?_)
                refine oX (frz := fO) Et_ok ?_
                refine oX (frz := fO) (v := .d (.int .i64 ((k + 1 : Nat) : Int))) Et_ok ?_ (he := vN8 (by omega) (by omega))
                refine oX (frz := fO) Et_ok ?_
                repeat (first | refine Run.seq ?_ | refine Run.region ?_ | refine RunOps.nil ?_ | refine Run.skip ?_ | refine cT ?_ | refine cF ?_ | refine Run.block ?_ | refine Run.exit ?_)
                exact ⟨(k + 1, [(⟨((16 + i : Nat) : Int), []⟩ : GProd)]), ⟨hkl, hnext⟩, by simp only <;> omega, (tidy_of (objs := _) _ 6 (Eq.trans (b := boxG0 :: rmT x :: boxO x st (.sr 3 1 (n0 :: nl)) (.sr 5 2 [encN (⟨((16 + i : Nat) : Int), []⟩ : GProd)]) :: .room (nl.length + 1) 1 :: [.box [.d (.int .i64 ((16 + i : Nat) : Int)), .d .nilsl], .room 1 2]) rfl (by first | rfl | (simp [rowA, rowO, rgtD, psB, psC, psJ] <;> fail))) rfl (by repeat' (first | exact trivial | refine ⟨(Or.inl rfl), ?_⟩ | refine ⟨(Or.inr rfl), ?_⟩ | fail)) (by repeat' (first | exact trivial | refine ⟨rfl, ?_⟩ | fail)) rfl rfl)⟩
              · repeat (first | refine Run.seq ?_ | refine Run.region ?_ | refine RunOps.nil ?_ | refine Run.skip ?_ | refine cT ?_ | refine cF ?_ | refine Run.block ?_ | refine Run.exit ?_)
                iterate 3 refine oX (frz := fO) Et_ok ?_
                refine oX (frz := fO) (v := .d (.bool false)) Et_ok ?_ (he := vF8 (by simp <;> omega))
                repeat (first | refine Run.seq ?_ | refine Run.region ?_ | refine RunOps.nil ?_ | refine Run.skip ?_ | refine cT ?_ | refine cF ?_ | refine Run.block ?_ | refine Run.exit ?_)
                iterate 3 refine oX (frz := fO) Et_ok ?_
                first | refine Run.tidy (tidy_of (objs := _) [(1, cellX x), (2, .bp 0 0), (3, .d (.int .i64 0)), (5, .bp 2 0), (7, .d (.int .i64 i)), (8, .d (.int .i64 k)), (98, .d .nilsl), (99, .d (encN (⟨((16 + i : Nat) : Int), r1 :: rr⟩ : GProd)))] 6 (Eq.trans (b := boxG0 :: rmT x :: boxO x st (.sr 3 1 (n0 :: nl)) (.d .nilsl) :: .room (nl.length + 1) 1 :: .box [.d (.int .i64 ((16 + i : Nat) : Int)), .sr 5 1 (rgtD (r1 :: rr))] :: [.room ((rgtD rr).length + 1) 1]) rfl rfl) rfl (by repeat' (first | exact trivial | refine ⟨(Or.inl rfl), ?_⟩ | refine ⟨(Or.inr rfl), ?_⟩ | refine ⟨rfl, ?_⟩ | fail)) (by repeat' (first | exact trivial | refine ⟨(Or.inl rfl), ?_⟩ | refine ⟨(Or.inr rfl), ?_⟩ | refine ⟨rfl, ?_⟩ | fail)) rfl rfl) ?_ | refine RunOps.tidy (tidy_of (objs := _) [(1, cellX x), (2, .bp 0 0), (3, .d (.int .i64 0)), (5, .bp 2 0), (7, .d (.int .i64 i)), (8, .d (.int .i64 k)), (98, .d .nilsl), (99, .d (encN (⟨((16 + i : Nat) : Int), r1 :: rr⟩ : GProd)))] 6 (Eq.trans (b := boxG0 :: rmT x :: boxO x st (.sr 3 1 (n0 :: nl)) (.d .nilsl) :: .room (nl.length + 1) 1 :: .box [.d (.int .i64 ((16 + i : Nat) : Int)), .sr 5 1 (rgtD (r1 :: rr))] :: [.room ((rgtD rr).length + 1) 1]) rfl rfl) rfl (by repeat' (first | exact trivial | refine ⟨(Or.inl rfl), ?_⟩ | refine ⟨(Or.inr rfl), ?_⟩ | refine ⟨rfl, ?_⟩ | fail)) (by repeat' (first | exact trivial | refine ⟨(Or.inl rfl), ?_⟩ | refine ⟨(Or.inr rfl), ?_⟩ | refine ⟨rfl, ?_⟩ | fail)) rfl rfl) ?_
                refine oX (frz := fO) Et_ok ?_
                first | refine oX (frz := fO) Et_ok ?_ (hv := app0) (hf := rfl) (he := rfl) | refine eX ?_ (hv := app0) (hf := rfl) (he := rfl)
                iterate 2 refine oX (frz := fO) Et_ok ?_
                repeat (first | refine Run.seq ?_ | refine Run.region ?_ | refine RunOps.nil ?_ | refine Run.skip ?_ | refine cT ?_ | refine cF ?_ | refine Run.block ?_ | refine Run.exit ?_)
                refine oX (frz := fO) Et_ok ?_
                refine oX (frz := fO) (v := .d (.int .i64 ((k + 1 : Nat) : Int))) Et_ok ?_ (he := vN8 (by omega) (by omega))
                refine oX (frz := fO) Et_ok ?_
                repeat (first | refine Run.seq ?_ | refine Run.region ?_ | refine RunOps.nil ?_ | refine Run.skip ?_ | refine cT ?_ | refine cF ?_ | refine Run.block ?_ | refine Run.exit ?_)
                exact ⟨(k + 1, [(⟨((16 + i : Nat) : Int), r1 :: rr⟩ : GProd)]), ⟨hkl, hnext⟩, by simp only <;> omega, (tidy_of (objs := _) _ 7 (Eq.trans (b := boxG0 :: rmT x :: boxO x st (.sr 3 1 (n0 :: nl)) (.sr 6 2 [encN (⟨((16 + i : Nat) : Int), r1 :: rr⟩ : GProd)]) :: .room (nl.length + 1) 1 :: .box [.d (.int .i64 ((16 + i : Nat) : Int)), .sr 5 1 (rgtD (r1 :: rr))] :: [.room ((rgtD rr).length + 1) 1, .room 1 2]) rfl (by first | rfl | (simp [rowA, rowO, rgtD, psB, psC, psJ] <;> fail))) rfl (by repeat' (first | exact trivial | refine ⟨(Or.inl rfl), ?_⟩ | refine ⟨(Or.inr rfl), ?_⟩ | fail)) (by repeat' (first | exact trivial | refine ⟨rfl, ?_⟩ | fail)) rfl rfl)⟩
          · simp only [List.length_cons] at haccl
            rcases pr with _ | ⟨r0, rl⟩
            · repeat' (first
                | refine oX (frz := fO) (v := .d (.int .i64 ((16 + i : Nat) : Int))) Et_ok ?_ (he := (hL))
                | refine eX (v := .d (.int .i64 ((16 + i : Nat) : Int))) ?_ (he := (hL))
                | refine Run.region ?_
                | refine Run.seq ?_
                | ((refine oB (frz := fO) Et_ok (fun h => ?_) (fun h => ?_)) <;> (first | (exfalso; simp at h <;> fail) | (exfalso; simp at h; omega) | skip))
                | ((refine eB (fun h => ?_) (fun h => ?_)) <;> (first | (exfalso; simp at h <;> fail) | (exfalso; simp at h; omega) | skip))
                | refine oX (frz := fO) Et_ok ?_
                | refine oS ?_
                | refine RunOps.nil ?_
                | refine Run.skip ?_
                | refine cT ?_
                | refine cF ?_
                | refine Run.block ?_
                | refine Run.exit ?_
                | refine Run.draw (frz := fO) Et_ok (by kernel_rfl) ?_
                | refine eX ?_
                | refine eS ?_
                | refine eN ?_
                | refine oX (frz := fO) (v := .d (.ep [.str r.name, alts r.alts])) Et_ok ?_ (hf := (by first | (simp [inB] <;> fail) | (simp [inB]; omega))) (he := (by first | (simp [List.getD_eq_getElem?_getD, cellsD, hr, encR] <;> fail) | fail))
                | refine eX (v := .d (.ep [.str r.name, alts r.alts])) ?_ (hf := (by first | (simp [inB] <;> fail) | (simp [inB]; omega))) (he := (by first | (simp [List.getD_eq_getElem?_getD, cellsD, hr, encR] <;> fail) | fail))
                | refine oX (frz := fO) (v := .d (.ep [strs a])) Et_ok ?_ (hf := (by first | (simp [inB] <;> fail) | (simp [inB]; omega))) (he := (by first | (simp [List.getD_eq_getElem?_getD, cellsD, ha] <;> fail) | fail))
                | refine eX (v := .d (.ep [strs a])) ?_ (hf := (by first | (simp [inB] <;> fail) | (simp [inB]; omega))) (he := (by first | (simp [List.getD_eq_getElem?_getD, cellsD, ha] <;> fail) | fail))
                | (refine Run.ret ?_; (first | refine rB ?_ | refine rI ?_ | refine rA ?_ | refine rII ?_ | refine rSI ?_ | refine rT ?_ | refine rS ?_); first | done | (skip))
                | ((exfalso; (simp at h <;> omega)))
                | fail)
              refine Run.loopT (fun z : Nat × List Int => ⟨PT.ofList [(1, cellX x), (2, .bp 0 0), (3, .d (.int .i64 0)), (5, .bp 2 0), (7, .d (.int .i64 i)), (8, .d (.int .i64 k)), (9, .bp 6 0), (10, .d (strs a)), (11, .d (.int .i64 z.1))], boxG0 :: rmT x :: boxO x st (.sr 3 1 (n0 :: nl)) (.sr 5 2 (encN ⟨pl, []⟩ :: ps.map encN)) :: .room (nl.length + 1) 1 :: .box [.d (.int .i64 pl), .d .nilsl] :: .room (ps.length + 1) 2 :: .box [.d (.int .i64 ((16 + i : Nat) : Int)), rowA 7 1 (rgtD z.2)] :: rowO 1 (rgtD z.2), []⟩)
                (fun z => z.1 ≤ a.length ∧ z.2 = (a.take z.1).map (symW x.tokens (ruleNames x))) (fun z => a.length - z.1) (0, []) ⟨Nat.zero_le _, rfl⟩ (tidy_of (objs := _) _ 7 (by rfl) rfl (by repeat' (first | exact trivial | refine ⟨(Or.inl rfl), ?_⟩ | refine ⟨(Or.inr rfl), ?_⟩ | fail)) (by repeat' (first | exact trivial | refine ⟨rfl, ?_⟩ | fail)) rfl rfl) (fun z hz => ?_)
              obtain ⟨j, rg⟩ := z
              obtain ⟨hj1, hj2⟩ := hz
              simp only at hj1 hj2 ⊢
              have hrl : rg.length = j := by rw [hj2]; simp; omega
              rcases Nat.lt_or_ge j a.length with hjl | hjg
              · obtain ⟨s, hs⟩ := get_ok hjl
                have hnx : rg ++ [symW x.tokens (ruleNames x) s] = (a.take (j + 1)).map (symW x.tokens (ruleNames x)) := by rw [List.take_add_one, hs, hj2]; simp
                rcases rg with _ | ⟨r1, rr⟩
                · repeat' (first
                    | refine Run.region ?_
                    | refine Run.seq ?_
                    | ((refine oB (frz := fO) Et_ok (fun h => ?_) (fun h => ?_)) <;> (first | (exfalso; simp at h <;> fail) | (exfalso; simp at h; omega) | skip))
                    | ((refine eB (fun h => ?_) (fun h => ?_)) <;> (first | (exfalso; simp at h <;> fail) | (exfalso; simp at h; omega) | skip))
                    | refine oX (frz := fO) Et_ok ?_
                    | refine oS ?_
                    | refine RunOps.nil ?_
                    | refine Run.skip ?_
                    | refine cT ?_
                    | refine cF ?_
                    | refine Run.block ?_
                    | refine Run.exit ?_
                    | refine Run.draw (frz := fO) Et_ok (by kernel_rfl) ?_
                    | refine eX ?_
                    | refine eS ?_
                    | refine eN ?_
                    | refine oX (frz := fO) (v := .d (.ep [.str s])) Et_ok ?_ (hf := (by first | (simp [inB] <;> fail) | (simp [inB]; omega))) (he := (by first | (simp [List.getD_eq_getElem?_getD, cellsD, hs] <;> fail) | fail))
                    | refine eX (v := .d (.ep [.str s])) ?_ (hf := (by first | (simp [inB] <;> fail) | (simp [inB]; omega))) (he := (by first | (simp [List.getD_eq_getElem?_getD, cellsD, hs] <;> fail) | fail))
                    | refine eW (hsym s) ?_
                    | refine oX (frz := fO) Et_ok ?_ (hv := app1) (hf := rfl) (he := rfl)
                    | refine eX ?_ (hv := app1) (hf := rfl) (he := rfl)
                    | refine oX (frz := fO) Et_ok ?_ (hv := app0) (hf := rfl) (he := rfl)
                    | refine eX ?_ (hv := app0) (hf := rfl) (he := rfl)
                    | (refine Run.ret ?_; (first | refine rB ?_ | refine rI ?_ | refine rA ?_ | refine rII ?_ | refine rSI ?_ | refine rT ?_ | refine rS ?_); first | done | (skip))
                    | (exact ⟨(j + 1, [symW x.tokens (ruleNames x) s]), ⟨hjl, hnx⟩, by simp only; omega, (tidy_of (objs := _) _ 8 (Eq.trans (b := boxG0 :: rmT x :: boxO x st (.sr 3 1 (n0 :: nl)) (.sr 5 2 (encN ⟨pl, []⟩ :: ps.map encN)) :: .room (nl.length + 1) 1 :: .box [.d (.int .i64 pl), .d .nilsl] :: .room (ps.length + 1) 2 :: .box [.d (.int .i64 ((16 + i : Nat) : Int)), .sr 7 1 [DV.int .i64 (symW x.tokens (ruleNames x) s)]] :: [.room 1 1]) rfl (by first | rfl | (simp [rowA, rowO, rgtD] <;> fail))) rfl (by repeat' (first | exact trivial | refine ⟨(Or.inl rfl), ?_⟩ | refine ⟨(Or.inl (inc_get (k := j) (by kernel_rfl) (by omega))), ?_⟩ | refine ⟨(Or.inr rfl), ?_⟩ | fail)) (by repeat' (first | exact trivial | refine ⟨rfl, ?_⟩ | fail)) rfl rfl)⟩)
                    | ((exfalso; (simp at h <;> omega)))
                    | fail)
                · have hrl' := hrl
                  simp only [List.length_cons] at hrl'
                  repeat' (first
                    | refine Run.region ?_
                    | refine Run.seq ?_
                    | ((refine oB (frz := fO) Et_ok (fun h => ?_) (fun h => ?_)) <;> (first | (exfalso; simp at h <;> fail) | (exfalso; simp at h; omega) | skip))
                    | ((refine eB (fun h => ?_) (fun h => ?_)) <;> (first | (exfalso; simp at h <;> fail) | (exfalso; simp at h; omega) | skip))
                    | refine oX (frz := fO) Et_ok ?_
                    | refine oS ?_
                    | refine RunOps.nil ?_
                    | refine Run.skip ?_
                    | refine cT ?_
                    | refine cF ?_
                    | refine Run.block ?_
                    | refine Run.exit ?_
                    | refine Run.draw (frz := fO) Et_ok (by kernel_rfl) ?_
                    | refine eX ?_
                    | refine eS ?_
                    | refine eN ?_
                    | refine oX (frz := fO) (v := .d (.ep [.str s])) Et_ok ?_ (hf := (by first | (simp [inB] <;> fail) | (simp [inB]; omega))) (he := (by first | (simp [List.getD_eq_getElem?_getD, cellsD, hs] <;> fail) | fail))
                    | refine eX (v := .d (.ep [.str s])) ?_ (hf := (by first | (simp [inB] <;> fail) | (simp [inB]; omega))) (he := (by first | (simp [List.getD_eq_getElem?_getD, cellsD, hs] <;> fail) | fail))
                    | refine eW (hsym s) ?_
                    | refine oX (frz := fO) Et_ok ?_ (hv := app1) (hf := rfl) (he := rfl)
                    | refine eX ?_ (hv := app1) (hf := rfl) (he := rfl)
                    | refine oX (frz := fO) Et_ok ?_ (hv := app0) (hf := rfl) (he := rfl)
                    | refine eX ?_ (hv := app0) (hf := rfl) (he := rfl)
                    | (refine Run.ret ?_; (first | refine rB ?_ | refine rI ?_ | refine rA ?_ | refine rII ?_ | refine rSI ?_ | refine rT ?_ | refine rS ?_); first | done | (skip))
                    | (exact ⟨(j + 1, r1 :: (rr ++ [symW x.tokens (ruleNames x) s])), ⟨hjl, hnx⟩, by simp only; omega, (tidy_of (objs := _) _ 8 (Eq.trans (b := boxG0 :: rmT x :: boxO x st (.sr 3 1 (n0 :: nl)) (.sr 5 2 (encN ⟨pl, []⟩ :: ps.map encN)) :: .room (nl.length + 1) 1 :: .box [.d (.int .i64 pl), .d .nilsl] :: .room (ps.length + 1) 2 :: .box [.d (.int .i64 ((16 + i : Nat) : Int)), .sr 7 1 (DV.int .i64 r1 :: (rgtD rr ++ [DV.int .i64 (symW x.tokens (ruleNames x) s)]))] :: [.room ((rgtD rr).length + 1 + 1) 1]) rfl (by first | rfl | (simp [rowA, rowO, rgtD] <;> fail))) rfl (by repeat' (first | exact trivial | refine ⟨(Or.inl rfl), ?_⟩ | refine ⟨(Or.inl (inc_get (k := j) (by kernel_rfl) (by omega))), ?_⟩ | refine ⟨(Or.inr rfl), ?_⟩ | fail)) (by repeat' (first | exact trivial | refine ⟨rfl, ?_⟩ | fail)) rfl rfl)⟩)
                    | ((exfalso; (simp at h <;> omega)))
                    | fail)
              · have hje : j = a.length := by omega
                have hrg : rg = a.map (symW x.tokens (ruleNames x)) := by rw [hj2, hje, List.take_length]
                rw [show altP x.tokens (ruleNames x) i a = ⟨((16 + i : Nat) : Int), rg⟩ from by rw [hrg]; rfl] at hnext
                rcases rg with _ | ⟨r1, rr⟩
                · repeat (first | refine Run.seq ?_ | refine Run.region ?_ | refine RunOps.nil ?_ | refine Run.skip ?_ | refine cT ?_ | refine cF ?_ | refine Run.block ?_ | refine Run.exit ?_)
                  iterate 3 refine oX (frz := fO) Et_ok ?_
                  refine oX (frz := fO) (v := .d (.bool false)) Et_ok ?_ (he := vF8 (by simp <;> omega))
                  repeat (first | refine Run.seq ?_ | refine Run.region ?_ | refine RunOps.nil ?_ | refine Run.skip ?_ | refine cT ?_ | refine cF ?_ | refine Run.block ?_ | refine Run.exit ?_)
                  iterate 3 refine oX (frz := fO) Et_ok ?_
                  first | refine Run.tidy (tidy_of (objs := _) [(1, cellX x), (2, .bp 0 0), (3, .d (.int .i64 0)), (5, .bp 2 0), (7, .d (.int .i64 i)), (8, .d (.int .i64 k)), (98, .sr 5 2 (encN ⟨pl, []⟩ :: ps.map encN)), (99, .d (encN (⟨((16 + i : Nat) : Int), []⟩ : GProd)))] 7 (Eq.trans (b := boxG0 :: rmT x :: boxO x st (.sr 3 1 (n0 :: nl)) (.sr 5 2 (encN ⟨pl, []⟩ :: ps.map encN)) :: .room (nl.length + 1) 1 :: .box [.d (.int .i64 pl), .d .nilsl] :: .room (ps.length + 1) 2 :: [.box [.d (.int .i64 ((16 + i : Nat) : Int)), .d .nilsl]]) rfl rfl) rfl (by repeat' (first | exact trivial | refine ⟨(Or.inl rfl), ?_⟩ | refine ⟨(Or.inr rfl), ?_⟩ | refine ⟨rfl, ?_⟩ | fail)) (by repeat' (first | exact trivial | refine ⟨(Or.inl rfl), ?_⟩ | refine ⟨(Or.inr rfl), ?_⟩ | refine ⟨rfl, ?_⟩ | fail)) rfl rfl) ?_ | refine RunOps.tidy (tidy_of (objs := _) [(1, cellX x), (2, .bp 0 0), (3, .d (.int .i64 0)), (5, .bp 2 0), (7, .d (.int .i64 i)), (8, .d (.int .i64 k)), (98, .sr 5 2 (encN ⟨pl, []⟩ :: ps.map encN)), (99, .d (encN (⟨((16 + i : Nat) : Int), []⟩ : GProd)))] 7 (Eq.trans (b := boxG0 :: rmT x :: boxO x st (.sr 3 1 (n0 :: nl)) (.sr 5 2 (encN ⟨pl, []⟩ :: ps.map encN)) :: .room (nl.length + 1) 1 :: .box [.d (.int .i64 pl), .d .nilsl] :: .room (ps.length + 1) 2 :: [.box [.d (.int .i64 ((16 + i : Nat) : Int)), .d .nilsl]]) rfl rfl) rfl (by repeat' (first | exact trivial | refine ⟨(Or.inl rfl), ?_⟩ | refine ⟨(Or.inr rfl), ?_⟩ | refine ⟨rfl, ?_⟩ | fail)) (by repeat' (first | exact trivial | refine ⟨(Or.inl rfl), ?_⟩ | refine ⟨(Or.inr rfl), ?_⟩ | refine ⟨rfl, ?_⟩ | fail)) rfl rfl) ?_
                  refine oX (frz := fO) Et_ok ?_
                  first | refine oX (frz := fO) Et_ok ?_ (hv := app1) (hf := rfl) (he := rfl) | refine eX ?_ (hv := app1) (hf := rfl) (he := rfl)
                  iterate 2 refine oX (frz := fO) Et_ok ?_
                  repeat (first | refine Run.seq ?_ | refine Run.region ?_ | refine RunOps.nil ?_ | refine Run.skip ?_ | refine cT ?_ | refine cF ?_ | refine Run.block ?_ | refine Run.exit ?_)
                  refine oX (frz := fO) Et_ok ?_
                  refine oX (frz := fO) (v := .d (.int .i64 ((k + 1 : Nat) : Int))) Et_ok ?_ (he := vN8 (by omega) (by omega))
                  refine oX (frz := fO) Et_ok ?_
                  repeat (first | refine Run.seq ?_ | refine Run.region ?_ | refine RunOps.nil ?_ | refine Run.skip ?_ | refine cT ?_ | refine cF ?_ | refine Run.block ?_ | refine Run.exit ?_)
                  exact ⟨(k + 1, ⟨pl, []⟩ :: (ps ++ [(⟨((16 + i : Nat) : Int), []⟩ : GProd)])), ⟨hkl, hnext⟩, by simp only <;> omega, (tidy_of (objs := _) _ 6 (Eq.trans (b := boxG0 :: rmT x :: boxO x st (.sr 3 1 (n0 :: nl)) (.sr 5 2 (encN ⟨pl, []⟩ :: (ps.map encN ++ [encN (⟨((16 + i : Nat) : Int), []⟩ : GProd)]))) :: .room (nl.length + 1) 1 :: .box [.d (.int .i64 pl), .d .nilsl] :: [.room (ps.length + 1 + 1) 2]) rfl (by first | rfl | (simp [rowA, rowO, rgtD, psB, psC, psJ] <;> fail))) rfl (by repeat' (first | exact trivial | refine ⟨(Or.inl rfl), ?_⟩ | refine ⟨(Or.inr rfl), ?_⟩ | fail)) (by repeat' (first | exact trivial | refine ⟨rfl, ?_⟩ | fail)) rfl rfl)⟩
                · repeat (first | refine Run.seq ?_ | refine Run.region ?_ | refine RunOps.nil ?_ | refine Run.skip ?_ | refine cT ?_ | refine cF ?_ | refine Run.block ?_ | refine Run.exit ?_)
                  iterate 3 refine oX (frz := fO) Et_ok ?_
                  refine oX (frz := fO) (v := .d (.bool false)) Et_ok ?_ (he := vF8 (by simp <;> omega))
                  repeat (first | refine Run.seq ?_ | refine Run.region ?_ | refine RunOps.nil ?_ | refine Run.skip ?_ | refine cT ?_ | refine cF ?_ | refine Run.block ?_ | refine Run.exit ?_)
                  iterate 3 refine oX (frz := fO) Et_ok ?_
                  first | refine Run.tidy (tidy_of (objs := _) [(1, cellX x), (2, .bp 0 0), (3, .d (.int .i64 0)), (5, .bp 2 0), (7, .d (.int .i64 i)), (8, .d (.int .i64 k)), (98, .sr 5 2 (encN ⟨pl, []⟩ :: ps.map encN)), (99, .d (encN (⟨((16 + i : Nat) : Int), r1 :: rr⟩ : GProd)))] 8 (Eq.trans (b := boxG0 :: rmT x :: boxO x st (.sr 3 1 (n0 :: nl)) (.sr 5 2 (encN ⟨pl, []⟩ :: ps.map encN)) :: .room (nl.length + 1) 1 :: .box [.d (.int .i64 pl), .d .nilsl] :: .room (ps.length + 1) 2 :: .box [.d (.int .i64 ((16 + i : Nat) : Int)), .sr 7 1 (rgtD (r1 :: rr))] :: [.room ((rgtD rr).length + 1) 1]) rfl rfl) rfl (by repeat' (first | exact trivial | refine ⟨(Or.inl rfl), ?_⟩ | refine ⟨(Or.inr rfl), ?_⟩ | refine ⟨rfl, ?_⟩ | fail)) (by repeat' (first | exact trivial | refine ⟨(Or.inl rfl), ?_⟩ | refine ⟨(Or.inr rfl), ?_⟩ | refine ⟨rfl, ?_⟩ | fail)) rfl rfl) ?_ | refine RunOps.tidy (tidy_of (objs := _) [(1, cellX x), (2, .bp 0 0), (3, .d (.int .i64 0)), (5, .bp 2 0), (7, .d (.int .i64 i)), (8, .d (.int .i64 k)), (98, .sr 5 2 (encN ⟨pl, []⟩ :: ps.map encN)), (99, .d (encN (⟨((16 + i : Nat) : Int), r1 :: rr⟩ : GProd)))] 8 (Eq.trans (b := boxG0 :: rmT x :: boxO x st (.sr 3 1 (n0 :: nl)) (.sr 5 2 (encN ⟨pl, []⟩ :: ps.map encN)) :: .room (nl.length + 1) 1 :: .box [.d (.int .i64 pl), .d .nilsl] :: .room (ps.length + 1) 2 :: .box [.d (.int .i64 ((16 + i : Nat) : Int)), .sr 7 1 (rgtD (r1 :: rr))] :: [.room ((rgtD rr).length + 1) 1]) rfl rfl) rfl (by repeat' (first | exact trivial | refine ⟨(Or.inl rfl), ?_⟩ | refine ⟨(Or.inr rfl), ?_⟩ | refine ⟨rfl, ?_⟩ | fail)) (by repeat' (first | exact trivial | refine ⟨(Or.inl rfl), ?_⟩ | refine ⟨(Or.inr rfl), ?_⟩ | refine ⟨rfl, ?_⟩ | fail)) rfl rfl) ?_
                  refine oX (frz := fO) Et_ok ?_
                  first | refine oX (frz := fO) Et_ok ?_ (hv := app1) (hf := rfl) (he := rfl) | refine eX ?_ (hv := app1) (hf := rfl) (he := rfl)
                  iterate 2 refine oX (frz := fO) Et_ok ?_
                  repeat (first | refine Run.seq ?_ | refine Run.region ?_ | refine RunOps.nil ?_ | refine Run.skip ?_ | refine cT ?_ | refine cF ?_ | refine Run.block ?_ | refine Run.exit ?_)
                  refine oX (frz := fO) Et_ok ?_
                  refine oX (frz := fO) (v := .d (.int .i64 ((k + 1 : Nat) : Int))) Et_ok ?_ (he := vN8 (by omega) (by omega))
                  refine oX (frz := fO) Et_ok ?_
                  repeat (first | refine Run.seq ?_ | refine Run.region ?_ | refine RunOps.nil ?_ | refine Run.skip ?_ | refine cT ?_ | refine cF ?_ | refine Run.block ?_ | refine Run.exit ?_)
                  exact ⟨(k + 1, ⟨pl, []⟩ :: (ps ++ [(⟨((16 + i : Nat) : Int), r1 :: rr⟩ : GProd)])), ⟨hkl, hnext⟩, by simp only <;> omega, (tidy_of (objs := _) _ 6 (Eq.trans (b := boxG0 :: rmT x :: boxO x st (.sr 3 1 (n0 :: nl)) (.sr 5 2 (encN ⟨pl, []⟩ :: (ps.map encN ++ [encN (⟨((16 + i : Nat) : Int), r1 :: rr⟩ : GProd)]))) :: .room (nl.length + 1) 1 :: .box [.d (.int .i64 pl), .d .nilsl] :: [.room (ps.length + 1 + 1) 2]) rfl (by first | rfl | (simp [rowA, rowO, rgtD, psB, psC, psJ] <;> fail))) rfl (by repeat' (first | exact trivial | refine ⟨(Or.inl rfl), ?_⟩ | refine ⟨(Or.inr rfl), ?_⟩ | fail)) (by repeat' (first | exact trivial | refine ⟨rfl, ?_⟩ | fail)) rfl rfl)⟩
            · repeat' (first
                | refine oX (frz := fO) (v := .d (.int .i64 ((16 + i : Nat) : Int))) Et_ok ?_ (he := (hL))
                | refine eX (v := .d (.int .i64 ((16 + i : Nat) : Int))) ?_ (he := (hL))
                | refine Run.region ?_
                | refine Run.seq ?_
                | ((refine oB (frz := fO) Et_ok (fun h => ?_) (fun h => ?_)) <;> (first | (exfalso; simp at h <;> fail) | (exfalso; simp at h; omega) | skip))
                | ((refine eB (fun h => ?_) (fun h => ?_)) <;> (first | (exfalso; simp at h <;> fail) | (exfalso; simp at h; omega) | skip))
                | refine oX (frz := fO) Et_ok ?_
                | refine oS ?_
                | refine RunOps.nil ?_
                | refine Run.skip ?_
                | refine cT ?_
                | refine cF ?_
                | refine Run.block ?_
                | refine Run.exit ?_
                | refine Run.draw (frz := fO) Et_ok (by kernel_rfl) ?_
                | refine eX ?_
                | refine eS ?_
                | refine eN ?_
                | refine oX (frz := fO) (v := .d (.ep [.str r.name, alts r.alts])) Et_ok ?_ (hf := (by first | (simp [inB] <;> fail) | (simp [inB]; omega))) (he := (by first | (simp [List.getD_eq_getElem?_getD, cellsD, hr, encR] <;> fail) | fail))
                | refine eX (v := .d (.ep [.str r.name, alts r.alts])) ?_ (hf := (by first | (simp [inB] <;> fail) | (simp [inB]; omega))) (he := (by first | (simp [List.getD_eq_getElem?_getD, cellsD, hr, encR] <;> fail) | fail))
                | refine oX (frz := fO) (v := .d (.ep [strs a])) Et_ok ?_ (hf := (by first | (simp [inB] <;> fail) | (simp [inB]; omega))) (he := (by first | (simp [List.getD_eq_getElem?_getD, cellsD, ha] <;> fail) | fail))
                | refine eX (v := .d (.ep [strs a])) ?_ (hf := (by first | (simp [inB] <;> fail) | (simp [inB]; omega))) (he := (by first | (simp [List.getD_eq_getElem?_getD, cellsD, ha] <;> fail) | fail))
                | (refine Run.ret ?_; (first | refine rB ?_ | refine rI ?_ | refine rA ?_ | refine rII ?_ | refine rSI ?_ | refine rT ?_ | refine rS ?_); first | done | (skip))
                | ((exfalso; (simp at h <;> omega)))
                | fail)
              refine Run.loopT (fun z : Nat × List Int => ⟨PT.ofList [(1, cellX x), (2, .bp 0 0), (3, .d (.int .i64 0)), (5, .bp 2 0), (7, .d (.int .i64 i)), (8, .d (.int .i64 k)), (9, .bp 7 0), (10, .d (strs a)), (11, .d (.int .i64 z.1))], boxG0 :: rmT x :: boxO x st (.sr 3 1 (n0 :: nl)) (.sr 6 2 (encN ⟨pl, r0 :: rl⟩ :: ps.map encN)) :: .room (nl.length + 1) 1 :: .box [.d (.int .i64 pl), .sr 5 1 (rgtD (r0 :: rl))] :: .room ((rgtD rl).length + 1) 1 :: .room (ps.length + 1) 2 :: .box [.d (.int .i64 ((16 + i : Nat) : Int)), rowA 8 1 (rgtD z.2)] :: rowO 1 (rgtD z.2), []⟩)
                (fun z => z.1 ≤ a.length ∧ z.2 = (a.take z.1).map (symW x.tokens (ruleNames x))) (fun z => a.length - z.1) (0, []) ⟨Nat.zero_le _, rfl⟩ (tidy_of (objs := _) _ 8 (by rfl) rfl (by repeat' (first | exact trivial | refine ⟨(Or.inl rfl), ?_⟩ | refine ⟨(Or.inr rfl), ?_⟩ | fail)) (by repeat' (first | exact trivial | refine ⟨rfl, ?_⟩ | fail)) rfl rfl) (fun z hz => ?_)
              obtain ⟨j, rg⟩ := z
              obtain ⟨hj1, hj2⟩ := hz
              simp only at hj1 hj2 ⊢
              have hrl : rg.length = j := by rw [hj2]; simp; omega
              rcases Nat.lt_or_ge j a.length with hjl | hjg
              · obtain ⟨s, hs⟩ := get_ok hjl
                have hnx : rg ++ [symW x.tokens (ruleNames x) s] = (a.take (j + 1)).map (symW x.tokens (ruleNames x)) := by rw [List.take_add_one, hs, hj2]; simp
                rcases rg with _ | ⟨r1, rr⟩
                · repeat' (first
                    | refine Run.region ?_
                    | refine Run.seq ?_
                    | ((refine oB (frz := fO) Et_ok (fun h => ?_) (fun h => ?_)) <;> (first | (exfalso; simp at h <;> fail) | (exfalso; simp at h; omega) | skip))
                    | ((refine eB (fun h => ?_) (fun h => ?_)) <;> (first | (exfalso; simp at h <;> fail) | (exfalso; simp at h; omega) | skip))
                    | refine oX (frz := fO) Et_ok ?_
                    | refine oS ?_
                    | refine RunOps.nil ?_
                    | refine Run.skip ?_
                    | refine cT ?_
                    | refine cF ?_
                    | refine Run.block ?_
                    | refine Run.exit ?_
                    | refine Run.draw (frz := fO) Et_ok (by kernel_rfl) ?_
                    | refine eX ?_
                    | refine eS ?_
                    | refine eN ?_
                    | refine oX (frz := fO) (v := .d (.ep [.str s])) Et_ok ?_ (hf := (by first | (simp [inB] <;> fail) | (simp [inB]; omega))) (he := (by first | (simp [List.getD_eq_getElem?_getD, cellsD, hs] <;> fail) | fail))
                    | refine eX (v := .d (.ep [.str s])) ?_ (hf := (by first | (simp [inB] <;> fail) | (simp [inB]; omega))) (he := (by first | (simp [List.getD_eq_getElem?_getD, cellsD, hs] <;> fail) | fail))
                    | refine eW (hsym s) ?_
                    | refine oX (frz := fO) Et_ok ?_ (hv := app1) (hf := rfl) (he := rfl)
                    | refine eX ?_ (hv := app1) (hf := rfl) (he := rfl)
                    | refine oX (frz := fO) Et_ok ?_ (hv := app0) (hf := rfl) (he := rfl)
                    | refine eX ?_ (hv := app0) (hf := rfl) (he := rfl)
                    | (refine Run.ret ?_; (first | refine rB ?_ | refine rI ?_ | refine rA ?_ | refine rII ?_ | refine rSI ?_ | refine rT ?_ | refine rS ?_); first | done | (skip))
                    | (exact ⟨(j + 1, [symW x.tokens (ruleNames x) s]), ⟨hjl, hnx⟩, by simp only; omega, (tidy_of (objs := _) _ 9 (Eq.trans (b := boxG0 :: rmT x :: boxO x st (.sr 3 1 (n0 :: nl)) (.sr 6 2 (encN ⟨pl, r0 :: rl⟩ :: ps.map encN)) :: .room (nl.length + 1) 1 :: .box [.d (.int .i64 pl), .sr 5 1 (rgtD (r0 :: rl))] :: .room ((rgtD rl).length + 1) 1 :: .room (ps.length + 1) 2 :: .box [.d (.int .i64 ((16 + i : Nat) : Int)), .sr 8 1 [DV.int .i64 (symW x.tokens (ruleNames x) s)]] :: [.room 1 1]) rfl (by first | rfl | (simp [rowA, rowO, rgtD] <;> fail))) rfl (by repeat' (first | exact trivial | refine ⟨(Or.inl rfl), ?_⟩ | refine ⟨(Or.inl (inc_get (k := j) (by kernel_rfl) (by omega))), ?_⟩ | refine ⟨(Or.inr rfl), ?_⟩ | fail)) (by repeat' (first | exact trivial | refine ⟨rfl, ?_⟩ | fail)) rfl rfl)⟩)
                    | ((exfalso; (simp at h <;> omega)))
                    | fail)
                · have hrl' := hrl
                  simp only [List.length_cons] at hrl'
                  repeat' (first
                    | refine Run.region ?_
                    | refine Run.seq ?_
                    | ((refine oB (frz := fO) Et_ok (fun h => ?_) (fun h => ?_)) <;> (first | (exfalso; simp at h <;> fail) | (exfalso; simp at h; omega) | skip))
                    | ((refine eB (fun h => ?_) (fun h => ?_)) <;> (first | (exfalso; simp at h <;> fail) | (exfalso; simp at h; omega) | skip))
                    | refine oX (frz := fO) Et_ok ?_
                    | refine oS ?_
                    | refine RunOps.nil ?_
                    | refine Run.skip ?_
                    | refine cT ?_
                    | refine cF ?_
                    | refine Run.block ?_
                    | refine Run.exit ?_
                    | refine Run.draw (frz := fO) Et_ok (by kernel_rfl) ?_
                    | refine eX ?_
                    | refine eS ?_
                    | refine eN ?_
                    | refine oX (frz := fO) (v := .d (.ep [.str s])) Et_ok ?_ (hf := (by first | (simp [inB] <;> fail) | (simp [inB]; omega))) (he := (by first | (simp [List.getD_eq_getElem?_getD, cellsD, hs] <;> fail) | fail))
                    | refine eX (v := .d (.ep [.str s])) ?_ (hf := (by first | (simp [inB] <;> fail) | (simp [inB]; omega))) (he := (by first | (simp [List.getD_eq_getElem?_getD, cellsD, hs] <;> fail) | fail))
                    | refine eW (hsym s) ?_
                    | refine oX (frz := fO) Et_ok ?_ (hv := app1) (hf := rfl) (he := rfl)
                    | refine eX ?_ (hv := app1) (hf := rfl) (he := rfl)
                    | refine oX (frz := fO) Et_ok ?_ (hv := app0) (hf := rfl) (he := rfl)
                    | refine eX ?_ (hv := app0) (hf := rfl) (he := rfl)
                    | (refine Run.ret ?_; (first | refine rB ?_ | refine rI ?_ | refine rA ?_ | refine rII ?_ | refine rSI ?_ | refine rT ?_ | refine rS ?_); first | done | (skip))
                    | (exact ⟨(j + 1, r1 :: (rr ++ [symW x.tokens (ruleNames x) s])), ⟨hjl, hnx⟩, by simp only; omega, (tidy_of (objs := _) _ 9 (Eq.trans (b := boxG0 :: rmT x :: boxO x st (.sr 3 1 (n0 :: nl)) (.sr 6 2 (encN ⟨pl, r0 :: rl⟩ :: ps.map encN)) :: .room (nl.length + 1) 1 :: .box [.d (.int .i64 pl), .sr 5 1 (rgtD (r0 :: rl))] :: .room ((rgtD rl).length + 1) 1 :: .room (ps.length + 1) 2 :: .box [.d (.int .i64 ((16 + i : Nat) : Int)), .sr 8 1 (DV.int .i64 r1 :: (rgtD rr ++ [DV.int .i64 (symW x.tokens (ruleNames x) s)]))] :: [.room ((rgtD rr).length + 1 + 1) 1]) rfl (by first | rfl | (simp [rowA, rowO, rgtD] <;> fail))) rfl (by repeat' (first | exact trivial | refine ⟨(Or.inl rfl), ?_⟩ | refine ⟨(Or.inl (inc_get (k := j) (by kernel_rfl) (by omega))), ?_⟩ | refine ⟨(Or.inr rfl), ?_⟩ | fail)) (by repeat' (first | exact trivial | refine ⟨rfl, ?_⟩ | fail)) rfl rfl)⟩)
                    | ((exfalso; (simp at h <;> omega)))
                    | fail)
              · have hje : j = a.length := by omega
                have hrg : rg = a.map (symW x.tokens (ruleNames x)) := by rw [hj2, hje, List.take_length]
                rw [show altP x.tokens (ruleNames x) i a = ⟨((16 + i : Nat) : Int), rg⟩ from by rw [hrg]; rfl] at hnext
                rcases rg with _ | ⟨r1, rr⟩
                · repeat (first | refine Run.seq ?_ | refine Run.region ?_ | refine RunOps.nil ?_ | refine Run.skip ?_ | refine cT ?_ | refine cF ?_ | refine Run.block ?_ | refine Run.exit ?_)
                  iterate 3 refine oX (frz := fO) Et_ok ?_
                  refine oX (frz := fO) (v := .d (.bool false)) Et_ok ?_ (he := vF8 (by simp <;> omega))
                  repeat (first | refine Run.seq ?_ | refine Run.region ?_ | refine RunOps.nil ?_ | refine Run.skip ?_ | refine cT ?_ | refine cF ?_ | refine Run.block ?_ | refine Run.exit ?_)
                  iterate 3 refine oX (frz := fO) Et_ok ?_
                  first | refine Run.tidy (tidy_of (objs := _) [(1, cellX x), (2, .bp 0 0), (3, .d (.int .i64 0)), (5, .bp 2 0), (7, .d (.int .i64 i)), (8, .d (.int .i64 k)), (98, .sr 6 2 (encN ⟨pl, r0 :: rl⟩ :: ps.map encN)), (99, .d (encN (⟨((16 + i : Nat) : Int), []⟩ : GProd)))] 8 (Eq.trans (b := boxG0 :: rmT x :: boxO x st (.sr 3 1 (n0 :: nl)) (.sr 6 2 (encN ⟨pl, r0 :: rl⟩ :: ps.map encN)) :: .room (nl.length + 1) 1 :: .box [.d (.int .i64 pl), .sr 5 1 (rgtD (r0 :: rl))] :: .room ((rgtD rl).length + 1) 1 :: .room (ps.length + 1) 2 :: [.box [.d (.int .i64 ((16 + i : Nat) : Int)), .d .nilsl]]) rfl rfl) rfl (by repeat' (first | exact trivial | refine ⟨(Or.inl rfl), ?_⟩ | refine ⟨(Or.inr rfl), ?_⟩ | refine ⟨rfl, ?_⟩ | fail)) (by repeat' (first | exact trivial | refine ⟨(Or.inl rfl), ?_⟩ | refine ⟨(Or.inr rfl), ?_⟩ | refine ⟨rfl, ?_⟩ | fail)) rfl rfl) ?_ | refine RunOps.tidy (tidy_of (objs := _) [(1, cellX x), (2, .bp 0 0), (3, .d (.int .i64 0)), (5, .bp 2 0), (7, .d (.int .i64 i)), (8, .d (.int .i64 k)), (98, .sr 6 2 (encN ⟨pl, r0 :: rl⟩ :: ps.map encN)), (99, .d (encN (⟨((16 + i : Nat) : Int), []⟩ : GProd)))] 8 (Eq.trans (b := boxG0 :: rmT x :: boxO x st (.sr 3 1 (n0 :: nl)) (.sr 6 2 (encN ⟨pl, r0 :: rl⟩ :: ps.map encN)) :: .room (nl.length + 1) 1 :: .box [.d (.int .i64 pl), .sr 5 1 (rgtD (r0 :: rl))] :: .room ((rgtD rl).length + 1) 1 :: .room (ps.length + 1) 2 :: [.box [.d (.int .i64 ((16 + i : Nat) : Int)), .d .nilsl]]) rfl rfl) rfl (by repeat' (first | exact trivial | refine ⟨(Or.inl rfl), ?_⟩ | refine ⟨(Or.inr rfl), ?_⟩ | refine ⟨rfl, ?_⟩ | fail)) (by repeat' (first | exact trivial | refine ⟨(Or.inl rfl), ?_⟩ | refine ⟨(Or.inr rfl), ?_⟩ | refine ⟨rfl, ?_⟩ | fail)) rfl rfl) ?_
                  refine oX (frz := fO) Et_ok ?_
                  first | refine oX (frz := fO) Et_ok ?_ (hv := app1) (hf := rfl) (he := rfl) | refine eX ?_ (hv := app1) (hf := rfl) (he := rfl)
                  iterate 2 refine oX (frz := fO) Et_ok ?_
                  repeat (first | refine Run.seq ?_ | refine Run.region ?_ | refine RunOps.nil ?_ | refine Run.skip ?_ | refine cT ?_ | refine cF ?_ | refine Run.block ?_ | refine Run.exit ?_)
                  refine oX (frz := fO) Et_ok ?_
                  refine oX (frz := fO) (v := .d (.int .i64 ((k + 1 : Nat) : Int))) Et_ok ?_ (he := vN8 (by omega) (by omega))
                  refine oX (frz := fO) Et_ok ?_
                  repeat (first | refine Run.seq ?_ | refine Run.region ?_ | refine RunOps.nil ?_ | refine Run.skip ?_ | refine cT ?_ | refine cF ?_ | refine Run.block ?_ | refine Run.exit ?_)
                  exact ⟨(k + 1, ⟨pl, r0 :: rl⟩ :: (ps ++ [(⟨((16 + i : Nat) : Int), []⟩ : GProd)])), ⟨hkl, hnext⟩, by simp only <;> omega, (tidy_of (objs := _) _ 7 (Eq.trans (b := boxG0 :: rmT x :: boxO x st (.sr 3 1 (n0 :: nl)) (.sr 6 2 (encN ⟨pl, r0 :: rl⟩ :: (ps.map encN ++ [encN (⟨((16 + i : Nat) : Int), []⟩ : GProd)]))) :: .room (nl.length + 1) 1 :: .box [.d (.int .i64 pl), .sr 5 1 (rgtD (r0 :: rl))] :: .room ((rgtD rl).length + 1) 1 :: [.room (ps.length + 1 + 1) 2]) rfl (by first | rfl | (simp [rowA, rowO, rgtD, psB, psC, psJ] <;> fail))) rfl (by repeat' (first | exact trivial | refine ⟨(Or.inl rfl), ?_⟩ | refine ⟨(Or.inr rfl), ?_⟩ | fail)) (by repeat' (first | exact trivial | refine ⟨rfl, ?_⟩ | fail)) rfl rfl)⟩
                · repeat (first | refine Run.seq ?_ | refine Run.region ?_ | refine RunOps.nil ?_ | refine Run.skip ?_ | refine cT ?_ | refine cF ?_ | refine Run.block ?_ | refine Run.exit ?_)
                  iterate 3 refine oX (frz := fO) Et_ok ?_
                  refine oX (frz := fO) (v := .d (.bool false)) Et_ok ?_ (he := vF8 (by simp <;> omega))
                  repeat (first | refine Run.seq ?_ | refine Run.region ?_ | refine RunOps.nil ?_ | refine Run.skip ?_ | refine cT ?_ | refine cF ?_ | refine Run.block ?_ | refine Run.exit ?_)
                  iterate 3 refine oX (frz := fO) Et_ok ?_
                  first | refine Run.tidy (tidy_of (objs := _) [(1, cellX x), (2, .bp 0 0), (3, .d (.int .i64 0)), (5, .bp 2 0), (7, .d (.int .i64 i)), (8, .d (.int .i64 k)), (98, .sr 6 2 (encN ⟨pl, r0 :: rl⟩ :: ps.map encN)), (99, .d (encN (⟨((16 + i : Nat) : Int), r1 :: rr⟩ : GProd)))] 9 (Eq.trans (b := boxG0 :: rmT x :: boxO x st (.sr 3 1 (n0 :: nl)) (.sr 6 2 (encN ⟨pl, r0 :: rl⟩ :: ps.map encN)) :: .room (nl.length + 1) 1 :: .box [.d (.int .i64 pl), .sr 5 1 (rgtD (r0 :: rl))] :: .room ((rgtD rl).length + 1) 1 :: .room (ps.length + 1) 2 :: .box [.d (.int .i64 ((16 + i : Nat) : Int)), .sr 8 1 (rgtD (r1 :: rr))] :: [.room ((rgtD rr).length + 1) 1]) rfl rfl) rfl (by repeat' (first | exact trivial | refine ⟨(Or.inl rfl), ?_⟩ | refine ⟨(Or.inr rfl), ?_⟩ | refine ⟨rfl, ?_⟩ | fail)) (by repeat' (first | exact trivial | refine ⟨(Or.inl rfl), ?_⟩ | refine ⟨(Or.inr rfl), ?_⟩ | refine ⟨rfl, ?_⟩ | fail)) rfl rfl) ?_ | refine RunOps.tidy (tidy_of (objs := _) [(1, cellX x), (2, .bp 0 0), (3, .d (.int .i64 0)), (5, .bp 2 0), (7, .d (.int .i64 i)), (8, .d (.int .i64 k)), (98, .sr 6 2 (encN ⟨pl, r0 :: rl⟩ :: ps.map encN)), (99, .d (encN (⟨((16 + i : Nat) : Int), r1 :: rr⟩ : GProd)))] 9 (Eq.trans (b := boxG0 :: rmT x :: boxO x st (.sr 3 1 (n0 :: nl)) (.sr 6 2 (encN ⟨pl, r0 :: rl⟩ :: ps.map encN)) :: .room (nl.length + 1) 1 :: .box [.d (.int .i64 pl), .sr 5 1 (rgtD (r0 :: rl))] :: .room ((rgtD rl).length + 1) 1 :: .room (ps.length + 1) 2 :: .box [.d (.int .i64 ((16 + i : Nat) : Int)), .sr 8 1 (rgtD (r1 :: rr))] :: [.room ((rgtD rr).length + 1) 1]) rfl rfl) rfl (by repeat' (first | exact trivial | refine ⟨(Or.inl rfl), ?_⟩ | refine ⟨(Or.inr rfl), ?_⟩ | refine ⟨rfl, ?_⟩ | fail)) (by repeat' (first | exact trivial | refine ⟨(Or.inl rfl), ?_⟩ | refine ⟨(Or.inr rfl), ?_⟩ | refine ⟨rfl, ?_⟩ | fail)) rfl rfl) ?_
                  refine oX (frz := fO) Et_ok ?_
                  first | refine oX (frz := fO) Et_ok ?_ (hv := app1) (hf := rfl) (he := rfl) | refine eX ?_ (hv := app1) (hf := rfl) (he := rfl)
                  iterate 2 refine oX (frz := fO) Et_ok ?_
                  repeat (first | refine Run.seq ?_ | refine Run.region ?_ | refine RunOps.nil ?_ | refine Run.skip ?_ | refine cT ?_ | refine cF ?_ | refine Run.block ?_ | refine Run.exit ?_)
                  refine oX (frz := fO) Et_ok ?_
                  refine oX (frz := fO) (v := .d (.int .i64 ((k + 1 : Nat) : Int))) Et_ok ?_ (he := vN8 (by omega) (by omega))
                  refine oX (frz := fO) Et_ok ?_
                  repeat (first | refine Run.seq ?_ | refine Run.region ?_ | refine RunOps.nil ?_ | refine Run.skip ?_ | refine cT ?_ | refine cF ?_ | refine Run.block ?_ | refine Run.exit ?_)
                  exact ⟨(k + 1, ⟨pl, r0 :: rl⟩ :: (ps ++ [(⟨((16 + i : Nat) : Int), r1 :: rr⟩ : GProd)])), ⟨hkl, hnext⟩, by simp only <;> omega, (tidy_of (objs := _) _ 7 (Eq.trans (b := boxG0 :: rmT x :: boxO x st (.sr 3 1 (n0 :: nl)) (.sr 6 2 (encN ⟨pl, r0 :: rl⟩ :: (ps.map encN ++ [encN (⟨((16 + i : Nat) : Int), r1 :: rr⟩ : GProd)]))) :: .room (nl.length + 1) 1 :: .box [.d (.int .i64 pl), .sr 5 1 (rgtD (r0 :: rl))] :: .room ((rgtD rl).length + 1) 1 :: [.room (ps.length + 1 + 1) 2]) rfl (by first | rfl | (simp [rowA, rowO, rgtD, psB, psC, psJ] <;> fail))) rfl (by repeat' (first | exact trivial | refine ⟨(Or.inl rfl), ?_⟩ | refine ⟨(Or.inr rfl), ?_⟩ | fail)) (by repeat' (first | exact trivial | refine ⟨rfl, ?_⟩ | fail)) rfl rfl)⟩
        · have hke : k = r.alts.length := by omega
          have hacc : acc = ofP x (i + 1) := by rw [hk2, hke, List.take_length, hro]
          repeat (first | refine Run.seq ?_ | refine Run.region ?_ | refine RunOps.nil ?_ | refine Run.skip ?_ | refine cT ?_ | refine cF ?_ | refine Run.block ?_ | refine Run.exit ?_)
          iterate 4 refine oX (frz := fO) Et_ok ?_
          refine oX (frz := fO) (v := .d (.ep [.str r.name, alts r.alts])) Et_ok ?_ (hf := by simp [inB] <;> omega) (he := by simp [List.getD_eq_getElem?_getD, cellsD, hr, encR])
          iterate 3 refine oX (frz := fO) Et_ok ?_
          refine oX (frz := fO) (v := .d (.bool false)) Et_ok ?_ (he := vF8 (by simp <;> omega))
          repeat (first | refine Run.seq ?_ | refine Run.region ?_ | refine RunOps.nil ?_ | refine Run.skip ?_ | refine cT ?_ | refine cF ?_ | refine Run.block ?_ | refine Run.exit ?_)
          refine oX (frz := fO) Et_ok ?_
          refine oX (frz := fO) (v := .d (.int .i64 ((i + 1 : Nat) : Int))) Et_ok ?_ (he := vN8 (by omega) (by omega))
          refine oX (frz := fO) Et_ok ?_
          repeat (first | refine Run.seq ?_ | refine Run.region ?_ | refine RunOps.nil ?_ | refine Run.skip ?_ | refine cT ?_ | refine cF ?_ | refine Run.block ?_ | refine Run.exit ?_)
          exact ⟨(i + 1, acc), ⟨hlt, hacc⟩, by simp only <;> omega, weak_of' (by rfl) rfl (by repeat' (first | exact trivial | refine ⟨rfl, ?_⟩))⟩
      · have hie : i = x.rules.length := by omega
        have hoe : ofP x x.rules.length = acc := by rw [hi2, hie]
        have hne : acc ≠ [] := fun e => by
          have h1 := ofP_len (x := x) (i := x.rules.length) (Nat.le_refl _)
          rw [hoe, e] at h1
          obtain ⟨r, hr⟩ := List.exists_mem_of_ne_nil _ hn1
          have h2 := le_sumTo hr
          have h3 := hn2 r hr
          simp at h1
          exact h3 (List.length_eq_zero_iff.1 (by omega))
        rw [hoe]
        rcases acc with _ | ⟨⟨pl, pr⟩, ps⟩
        · exact absurd rfl hne
        · rcases pr with _ | ⟨r0, rl⟩
          · repeat (first | refine Run.seq ?_ | refine Run.region ?_ | refine RunOps.nil ?_ | refine Run.skip ?_ | refine cT ?_ | refine cF ?_ | refine Run.block ?_ | refine Run.exit ?_)
            iterate 4 refine oX (frz := fO) Et_ok ?_
            refine oX (frz := fO) (v := .d (.bool false)) Et_ok ?_ (he := vF8 (by simp <;> omega))
            repeat' (first
              | refine Run.region ?_
              | refine Run.seq ?_
              | ((refine oB (frz := fO) Et_ok (fun h => ?_) (fun h => ?_)) <;> (first | (exfalso; simp at h <;> fail) | (exfalso; simp at h; omega) | skip))
              | ((refine eB (fun h => ?_) (fun h => ?_)) <;> (first | (exfalso; simp at h <;> fail) | (exfalso; simp at h; omega) | skip))
              | refine oX (frz := fO) Et_ok ?_
              | refine oS ?_
              | refine RunOps.nil ?_
              | refine Run.skip ?_
              | refine cT ?_
              | refine cF ?_
              | refine Run.block ?_
              | refine Run.exit ?_
              | refine Run.draw (frz := fO) Et_ok (by kernel_rfl) ?_
              | refine eX ?_
              | refine eS ?_
              | refine eN ?_
              | (refine Run.ret ?_; (first | refine rB ?_ | refine rI ?_ | refine rA ?_ | refine rII ?_ | refine rSI ?_ | refine rT ?_ | refine rS ?_); first | done | (rfl))
              | fail)
          · repeat (first | refine Run.seq ?_ | refine Run.region ?_ | refine RunOps.nil ?_ | refine Run.skip ?_ | refine cT ?_ | refine cF ?_ | refine Run.block ?_ | refine Run.exit ?_)
            iterate 4 refine oX (frz := fO) Et_ok ?_
            refine oX (frz := fO) (v := .d (.bool false)) Et_ok ?_ (he := vF8 (by simp <;> omega))
            repeat' (first
              | refine Run.region ?_
              | refine Run.seq ?_
              | ((refine oB (frz := fO) Et_ok (fun h => ?_) (fun h => ?_)) <;> (first | (exfalso; simp at h <;> fail) | (exfalso; simp at h; omega) | skip))
              | ((refine eB (fun h => ?_) (fun h => ?_)) <;> (first | (exfalso; simp at h <;> fail) | (exfalso; simp at h; omega) | skip))
              | refine oX (frz := fO) Et_ok ?_
              | refine oS ?_
              | refine RunOps.nil ?_
              | refine Run.skip ?_
              | refine cT ?_
              | refine cF ?_
              | refine Run.block ?_
              | refine Run.exit ?_
              | refine Run.draw (frz := fO) Et_ok (by kernel_rfl) ?_
              | refine eX ?_
              | refine eS ?_
              | refine eN ?_
              | (refine Run.ret ?_; (first | refine rB ?_ | refine rI ?_ | refine rA ?_ | refine rII ?_ | refine rSI ?_ | refine rT ?_ | refine rS ?_); first | done | (rfl))
              | fail)
end Go.Av
end
noncomputable section
namespace Go.Av
open Go Go.Proofs
set_option maxRecDepth 10000
theorem known_toN2 {P : Program} {f : FuncId} {ds : List DV} {x y e : DV} (h : KnownCall P f ds (.tup [.d x, .d e])) (hr : DvN x y) : KnownCall P f ds (.tup [.d y, .d e]) := by
  intro o
  refine ⟨(h o).1, fun D β w vs hp hv => ((h o).2 D β w vs hp hv).mono fun en w' he => ?_⟩
  rcases he with ⟨v, D', β', rfl, hs, hv⟩ | ⟨z, v, D', β', hz, rfl, hs, hrep⟩
  · refine .inl ⟨v, D', β', rfl, hs, ?_⟩
    cases hv with
    | tup hl hg =>
      refine .tup hl fun j c v hc hv' => ?_
      match j with
      | 0 =>
        simp at hc; subst hc
        have := hg 0 (.d x) v rfl hv'
        cases this with
        | d k => exact .d (hr.rep k)
      | 1 =>
        simp at hc; subst hc
        exact hg 1 (.d e) v rfl hv'
      | j + 2 => simp at hc
  · cases hz
def g0 : Gram := ⟨0, [], [], [], 0, []⟩
def ofRes (x : Src) : Gram := if checkX x = 0 then ofX x else g0
theorem zeroG : DvN (.agg [.int .i64 0, .nilsl, .str [], .nilsl, .int .i64 0, .nilsl]) (encG g0) :=
  .agg rfl fun j x y hx hy => by
    match j with
    | 0 | 2 | 4 => simp [g0] at hx hy; subst hx hy; exact .refl
    | 1 | 3 | 5 => simp [g0, strs] at hx hy; subst hx hy; exact .nil
    | j + 6 => simp at hx
theorem encN_gram {k st : Int} {ts ns : List (List Nat)} {sep : List Nat} {l : List GProd} : DvN (.agg [.int .i64 k, strs ts, .str sep, strs ns, .int .i64 st, .sl 2 (l.map encN)]) (.agg [.int .i64 k, strs ts, .str sep, strs ns, .int .i64 st, .sl 2 (l.map encP)]) :=
  .agg rfl fun j x y hx hy => by
    match j with
    | 0 | 1 | 2 | 3 | 4 => simp at hx hy; subst hx hy; exact .refl
    | 5 => simp at hx hy; subst hx hy; exact encN_to _
    | j + 6 => simp at hx
theorem refOf (x : Src) (hf : FitsX x) : KnownCall Try.prog 27 [encX x] (.tup [.d (encG (ofRes x)), .d (.int .i64 (checkX x))]) := by
  by_cases h0 : checkX x = 0
  · have e : ofRes x = ofX x := if_pos h0
    rw [e, h0]
    exact known_toN2 (refOf0 x hf h0) encN_gram
  · have e : ofRes x = g0 := if_neg h0
    rw [e]
    have cc := check08 x hf
    generalize checkX x = c at cc h0 ⊢
    refine known_toN2 ?_ zeroG
    refine knownE Et_ok (fnAt Try.func27 (by kernel_rfl) (by kernel_rfl) : FnAt _ _ (mkFn Try.f27 fO)) ?_
    repeat' (first
      | refine Run.region ?_
      | refine Run.seq ?_
      | ((refine oB (frz := fO) Et_ok (fun h => ?_) (fun h => ?_)) <;> (first | (exfalso; simp at h <;> fail) | (exfalso; simp at h; omega) | skip))
      | ((refine eB (fun h => ?_) (fun h => ?_)) <;> (first | (exfalso; simp at h <;> fail) | (exfalso; simp at h; omega) | skip))
      | refine oX (frz := fO) Et_ok ?_
      | refine oS ?_
      | refine RunOps.nil ?_
      | refine Run.skip ?_
      | refine cT ?_
      | refine cF ?_
      | refine Run.block ?_
      | refine Run.exit ?_
      | refine Run.draw (frz := fO) Et_ok (by kernel_rfl) ?_
      | refine eX ?_
      | refine eS ?_
      | refine eN ?_
      | refine oC (cc) ?_
      | refine eC (cc) ?_
      | (refine Run.ret ?_; (first | refine rB ?_ | refine rI ?_ | refine rA ?_ | refine rII ?_ | refine rSI ?_ | refine rT ?_ | refine rS ?_); first | done | (rfl))
      | ((exfalso; (simp [h0] at h <;> fail)))
      | fail)
end Go.Av
end
noncomputable section
namespace Go.Av
open Go Go.Proofs
set_option maxRecDepth 10000
theorem nodup_idx {α : Type} [DecidableEq α] [BEq α] [LawfulBEq α] {l : List α} (hn : l.Nodup) {i : Nat} {x : α} (h : l[i]? = some x) : l.idxOf x = i := by
  obtain ⟨hi, rfl⟩ := List.getElem?_eq_some_iff.1 h
  exact hn.idxOf_getElem i hi
end Go.Av
end
noncomputable section
namespace Go.Av
open Go Go.Proofs
set_option maxRecDepth 10000
theorem checkX_zero {x : Src} (h : checkX x = 0) : ¬ (x.k < 1 ∨ 4 < x.k) ∧ shortX x = false ∧ fullX x = false ∧ misX x = false ∧ twoX x = false ∧ usesX x x.sep = false ∧ unkX x = false := by
  unfold checkX at h
  split at h
  · omega
  · rename_i hk
    refine ⟨hk, ?_⟩
    cases h1 : shortX x <;> cases h2 : fullX x <;> cases h3 : misX x <;> cases h4 : twoX x <;> cases h5 : usesX x x.sep <;> cases h6 : unkX x <;> simp_all
theorem checkX_apart {x : Src} (h : checkX x = 0) : x.tokens.Nodup ∧ (ruleNames x).Nodup ∧ ∀ s, s ∈ x.tokens → s ∈ ruleNames x → False := by
  obtain ⟨_, _, _, hm, ht, _, _⟩ := checkX_zero h
  simp only [twoX, Bool.or_eq_false_iff, decide_eq_false_iff_not, Decidable.not_not] at ht
  rw [mis_eq] at hm
  simp only [Bool.not_eq_false', Bool.and_eq_true, List.all_eq_true] at hm
  obtain ⟨⟨⟨h1, h2⟩, h3⟩, h4⟩ := hm
  refine ⟨(List.nodup_append.1 ht.1).1, ht.2, fun s hs hn => ?_⟩
  exact small_capital (h1 s (List.mem_append_left _ hs)) (h3 s hn)
theorem checkX_known {x : Src} (h : checkX x = 0) {s : List Nat} (hs : s = x.start ∨ ∃ r ∈ x.rules, ∃ a ∈ r.alts, s ∈ a) : s ∈ x.tokens ∨ s ∈ ruleNames x := by
  obtain ⟨_, _, _, _, _, _, hu⟩ := checkX_zero h
  rw [unk_eq] at hu
  simp only [Bool.or_eq_false_iff, Bool.not_eq_false', decide_eq_true_eq, List.all_eq_true] at hu
  rcases hs with rfl | hs
  · exact .inr hu.1
  · have := hu.2 s (mem_innerX.2 hs)
    simpa [knowF] using this
def pT (x : Src) (i : Nat) : List (List Nat × DV) := (x.tokens.take i).zipIdx.map fun p => (p.1, .int .i64 (p.2 : Nat))
def pN (x : Src) (i : Nat) : List (List Nat × DV) := pT x x.tokens.length ++ (x.rules.take i).zipIdx.map fun p => (p.1.name, .int .i64 ((16 + p.2 : Nat) : Int))
def kvD (l : List (List Nat × DV)) : List (DV × DV) := l.map fun p => (.str p.1, p.2)
theorem kvD_app (l : List (List Nat × DV)) (s : List Nat) (d : DV) : kvD l ++ [(.str s, d)] = kvD (l ++ [(s, d)]) := by simp [kvD]
theorem pT_succ {x : Src} {i : Nat} {s : List Nat} (h : x.tokens[i]? = some s) : pT x (i + 1) = pT x i ++ [(s, .int .i64 (i : Nat))] := by
  have hi := (List.getElem?_eq_some_iff.1 h).1
  have hl : (x.tokens.take i).length = i := by simp; omega
  simp only [pT]
  rw [List.take_add_one, h, List.zipIdx_append, List.map_append, hl, Nat.zero_add]
  rfl
theorem pN_succ {x : Src} {i : Nat} {r : SRule} (h : x.rules[i]? = some r) : pN x (i + 1) = pN x i ++ [(r.name, .int .i64 ((16 + i : Nat) : Int))] := by
  have hi := (List.getElem?_eq_some_iff.1 h).1
  have hl : (x.rules.take i).length = i := by simp; omega
  simp only [pN]
  rw [List.take_add_one, h, List.zipIdx_append, List.map_append, hl, Nat.zero_add, List.append_assoc]
  rfl
theorem pT_keys (x : Src) (i : Nat) : (pT x i).map (·.1) = x.tokens.take i := by
  simp only [pT, List.map_map]
  exact List.zipIdx_map_fst 0 _
theorem pN_keys (x : Src) (i : Nat) : (pN x i).map (·.1) = x.tokens ++ (ruleNames x).take i := by
  simp only [pN, List.map_append, pT_keys, List.take_length, List.map_map]
  congr 1
  rw [show ((fun x : List Nat × DV => x.1) ∘ fun p : SRule × Nat => (p.1.name, DV.int .i64 ((16 + p.2 : Nat) : Int))) = (SRule.name ∘ Prod.fst) from rfl, ← List.map_map, List.zipIdx_map_fst, ruleNames, List.map_take]
theorem kv_none {E : PT Ty} {t : TypeId} {l : List (List Nat × DV)} {s : List Nat} (h : s ∉ l.map (·.1)) : findKV (eqKey E t) (.str s) (kvD l) = some none := by
  unfold kvD
  rw [findKV_str]
  cases hf : l.findIdx? (fun p => p.1 == s) with
  | none => rfl
  | some j =>
    exfalso
    rw [List.findIdx?_eq_some_iff_getElem] at hf
    obtain ⟨h1, h2, _⟩ := hf
    refine h (List.mem_map.2 ⟨l[j], List.getElem_mem h1, by simpa using h2⟩)
theorem kv_some {E : PT Ty} {t : TypeId} {l : List (List Nat × DV)} {s : List Nat} (h : s ∈ l.map (·.1)) : ∃ j d, findKV (eqKey E t) (.str s) (kvD l) = some (some (j, d)) ∧ l[j]? = some (s, d) := by
  unfold kvD
  rw [findKV_str]
  cases hf : l.findIdx? (fun p => p.1 == s) with
  | none =>
    exfalso
    rw [List.findIdx?_eq_none_iff] at hf
    obtain ⟨p, hp, e⟩ := List.mem_map.1 h
    have := hf p hp
    simp [e] at this
  | some j =>
    rw [List.findIdx?_eq_some_iff_getElem] at hf
    obtain ⟨h1, h2, _⟩ := hf
    have h2 : l[j].1 = s := by simpa using h2
    refine ⟨j, l[j].2, by simp [h1], ?_⟩
    rw [List.getElem?_eq_getElem h1, ← h2]
theorem look_sym {x : Src} (h0 : checkX x = 0) {s : List Nat} (hs : s ∈ x.tokens ∨ s ∈ ruleNames x) {E : PT Ty} {t : TypeId} : ∃ j, findKV (eqKey E t) (.str s) (kvD (pN x x.rules.length)) = some (some (j, .int .i64 (symW x.tokens (ruleNames x) s))) := by
  obtain ⟨hn1, hn2, hap⟩ := checkX_apart h0
  have hk : s ∈ (pN x x.rules.length).map (·.1) := by
    rw [pN_keys, List.take_of_length_le (by simp)]
    exact List.mem_append.2 hs
  obtain ⟨j, d, h1, h2⟩ := kv_some (E := E) (t := t) hk
  refine ⟨j, ?_⟩
  rw [h1]
  congr 3
  have hT : (pT x x.tokens.length).length = x.tokens.length := by simp [pT]
  unfold pN at h2
  rcases Nat.lt_or_ge j x.tokens.length with hj | hj
  · rw [List.getElem?_append_left (by omega)] at h2
    simp only [pT, List.take_length, List.getElem?_map, List.getElem?_zipIdx, Option.map_map, Option.map_eq_some_iff] at h2
    obtain ⟨y, hy, e⟩ := h2
    simp at e
    obtain ⟨rfl, rfl⟩ := e
    have hm := List.mem_of_getElem? hy
    have hno : y ∉ ruleNames x := fun hc => hap y hm hc
    have hf : findF x.tokens y = (j : Int) := by
      unfold findF
      rw [if_pos hm, nodup_idx hn1 hy]
    unfold symW
    rw [show findF (ruleNames x) y = -1 from by unfold findF; rw [if_neg hno], if_neg (by omega), hf]
  · rw [List.getElem?_append_right (by omega), hT] at h2
    simp only [List.take_length, List.getElem?_map, List.getElem?_zipIdx, Option.map_map, Option.map_eq_some_iff] at h2
    obtain ⟨r, hr, e⟩ := h2
    simp at e
    obtain ⟨rfl, rfl⟩ := e
    have hy : (ruleNames x)[j - x.tokens.length]? = some r.name := by simp [hr]
    have hm := List.mem_of_getElem? hy
    have hf : findF (ruleNames x) r.name = ((j - x.tokens.length : Nat) : Int) := by
      unfold findF
      rw [if_pos hm, nodup_idx hn2 hy]
    unfold symW
    rw [hf, if_pos (by omega)]
end Go.Av
end
noncomputable section
namespace Go.Av
open Go Go.Proofs
set_option maxRecDepth 10000
def nmD (x : Src) (i : Nat) : List DV := ((ruleNames x).take i).map DV.str
theorem nmD_succ {x : Src} {i : Nat} {r : SRule} (h : x.rules[i]? = some r) : nmD x i ++ [.str r.name] = nmD x (i + 1) := by
  simp [nmD, List.take_add_one, h]
theorem nmD_len {x : Src} {i : Nat} (h : i ≤ x.rules.length) : (nmD x i).length = i := by simp [nmD]; omega
theorem rgtD_app (l : List Int) (a : Int) : rgtD l ++ [.int .i64 a] = rgtD (l ++ [a]) := by simp [rgtD]
theorem rgtD_len (l : List Int) : (rgtD l).length = l.length := by simp [rgtD]
theorem encP_app (l : List GProd) (p : GProd) : l.map encP ++ [encP p] = (l ++ [p]).map encP := by simp
abbrev boxW (x : Src) (st : Int) (ns ps : List DV) : Ob := .box [.d (.int .i64 x.k), .sr 1 1 ([] ++ x.tokens.map DV.str), .d (.str x.sep), .sr 4 1 ns, .d (.int .i64 st), .sr 5 2 ps]
set_option maxHeartbeats 4000000 in
theorem grOf0 (x : Src) (hf : FitsX x) (hin : (innerX x).length ≤ 1048576) (h0 : checkX x = 0) : KnownCall Try.prog 26 [encX x] (.tup [.d (encG (ofX x)), .d (.int .i64 0)]) := by
  have htl := hf.tokens
  have hrl := hf.rules
  obtain ⟨hs1, hs2, hs3, hs4⟩ := checkX_small h0
  obtain ⟨hn1, hn2⟩ := checkX_rules h0
  have cc := checkS x hf hin
  rw [h0] at cc
  have c0 := fun O => ACall.lift (ds := [strs x.tokens]) (cloneA x.tokens htl) rfl O
  obtain ⟨ha1, ha2, ha3⟩ := checkX_apart h0
  obtain ⟨st, hst⟩ : ∃ st, st = symW x.tokens (ruleNames x) x.start := ⟨_, rfl⟩
  refine knownE Et_ok (fnAt Try.func26 (by kernel_rfl) (by kernel_rfl) : FnAt _ _ (mkFn Try.f26 [1, 57, 95, 102])) ?_
  show Run _ _ _ _ _ _ (EndK _ _ (.tup [.d (.agg [.int .i64 x.k, strs x.tokens, .str x.sep, strs (ruleNames x), .int .i64 (symW x.tokens (ruleNames x) x.start), .sl 2 ((ofP x x.rules.length).map encP)]), .d (.int .i64 0)]))
  rw [← hst]
  repeat' (first
    | refine Run.region ?_
    | refine Run.seq ?_
    | ((refine oB (frz := [1, 57, 95, 102]) Et_ok (fun h => ?_) (fun h => ?_)) <;> (first | (exfalso; simp at h <;> fail) | (exfalso; simp at h; omega) | skip))
    | ((refine eB (fun h => ?_) (fun h => ?_)) <;> (first | (exfalso; simp at h <;> fail) | (exfalso; simp at h; omega) | skip))
    | refine oX (frz := [1, 57, 95, 102]) Et_ok ?_
    | refine oS ?_
    | refine RunOps.nil ?_
    | refine Run.skip ?_
    | refine cT ?_
    | refine cF ?_
    | refine Run.block ?_
    | refine Run.exit ?_
    | refine Run.draw (frz := [1, 57, 95, 102]) Et_ok (by kernel_rfl) ?_
    | refine eX ?_
    | refine eS ?_
    | refine eN ?_
    | refine oC (cc) ?_
    | refine eC (cc) ?_
    | refine eA (c0 _) ?_
    | (refine Run.ret ?_; (first | refine rB ?_ | refine rI ?_ | refine rA ?_ | refine rII ?_ | refine rSI ?_ | refine rT ?_ | refine rS ?_); first | done | (skip))
    | ((exfalso; (simp at h <;> omega)))
    | fail)
  refine Run.loopT (fun i : Nat => ⟨PT.ofList [(1, cellX x), (2, .bp 0 0), (3, .d (.int .i64 0)), (5, .bp 2 0), (6, .mp 3), (34, .sr 1 1 ([] ++ x.tokens.map DV.str)), (35, .d (.int .i64 (([] ++ x.tokens.map DV.str).length : Nat))), (36, .d (.int .i64 i))], [boxG0, rmT x, boxO x 0 (.d .nilsl) (.d .nilsl), .map (kvD (pT x i))], []⟩) (fun i => i ≤ x.tokens.length) (fun i => x.tokens.length - i) 0 (Nat.zero_le _) (tidy_of (objs := _) _ 4 (by rfl) rfl (by repeat' (first | exact trivial | refine ⟨(Or.inl rfl), ?_⟩ | refine ⟨(Or.inr rfl), ?_⟩ | fail)) (by repeat' (first | exact trivial | refine ⟨rfl, ?_⟩ | fail)) rfl rfl) (fun i hi => ?_)
  rcases Nat.lt_or_ge i x.tokens.length with hlt | hge
  · obtain ⟨s, hs⟩ := get_ok hlt
    have hno : s ∉ (pT x i).map (·.1) := by rw [pT_keys]; exact fun hm => nodup_not hs hm ha1
    have hj := fun E t => kv_none (E := E) (t := t) hno
    repeat' (first
      | refine Run.region ?_
      | refine Run.seq ?_
      | ((refine oB (frz := [1, 57, 95, 102]) Et_ok (fun h => ?_) (fun h => ?_)) <;> (first | (exfalso; simp at h <;> fail) | (exfalso; simp at h; omega) | skip))
      | ((refine eB (fun h => ?_) (fun h => ?_)) <;> (first | (exfalso; simp at h <;> fail) | (exfalso; simp at h; omega) | skip))
      | refine oX (frz := [1, 57, 95, 102]) Et_ok ?_
      | refine oS ?_
      | refine RunOps.nil ?_
      | refine Run.skip ?_
      | refine cT ?_
      | refine cF ?_
      | refine Run.block ?_
      | refine Run.exit ?_
      | refine Run.draw (frz := [1, 57, 95, 102]) Et_ok (by kernel_rfl) ?_
      | refine eX ?_
      | refine eS ?_
      | refine eN ?_
      | refine oX (frz := [1, 57, 95, 102]) (v := .d (.ep [.str s])) Et_ok ?_ (hf := (by first | (simp [inB] <;> fail) | (simp [inB]; omega))) (he := (by first | (simp [List.getD_eq_getElem?_getD, cellsD, hs] <;> fail) | fail))
      | refine eX (v := .d (.ep [.str s])) ?_ (hf := (by first | (simp [inB] <;> fail) | (simp [inB]; omega))) (he := (by first | (simp [List.getD_eq_getElem?_getD, cellsD, hs] <;> fail) | fail))
      | refine oX (frz := [1, 57, 95, 102]) Et_ok ?_ (hv := evAny_mapUpdate (by rfl) (by rfl) (by rfl) (by rfl) (by rfl) (by rfl) (by rfl) (by rfl) (by rfl) (hj _ _))
      | (refine Run.ret ?_; (first | refine rB ?_ | refine rI ?_ | refine rA ?_ | refine rII ?_ | refine rSI ?_ | refine rT ?_ | refine rS ?_); first | done | (skip))
      | ((exfalso; (simp at h <;> omega)))
      | fail)
    exact ⟨i + 1, hlt, by omega, (tidy_of (objs := _) _ 4 (Eq.trans (b := [boxG0, rmT x, boxO x 0 (.d .nilsl) (.d .nilsl), .map (kvD (pT x i) ++ [(.str s, .int .i64 (i : Nat))])]) rfl (by rw [kvD_app, ← pT_succ hs])) rfl (by repeat' (first | exact trivial | refine ⟨(Or.inl rfl), ?_⟩ | refine ⟨(Or.inl (inc_get (k := i) (by kernel_rfl) (by omega))), ?_⟩ | refine ⟨(Or.inr rfl), ?_⟩ | fail)) (by repeat' (first | exact trivial | refine ⟨rfl, ?_⟩ | fail)) rfl rfl)⟩
  · have hie : i = x.tokens.length := by omega
    subst hie
    repeat (first | refine Run.seq ?_ | refine Run.region ?_ | refine RunOps.nil ?_ | refine Run.skip ?_ | refine cT ?_ | refine cF ?_ | refine Run.block ?_ | refine Run.exit ?_)
    refine oX (frz := [1, 57, 95, 102]) (v := .d (.bool false)) Et_ok ?_ (he := vF8 (by simp))
    repeat (first | refine Run.seq ?_ | refine Run.region ?_ | refine RunOps.nil ?_ | refine Run.skip ?_ | refine cT ?_ | refine cF ?_ | refine Run.block ?_ | refine Run.exit ?_)
    iterate 4 refine oX (frz := [1, 57, 95, 102]) Et_ok ?_
    repeat (first | refine Run.seq ?_ | refine Run.region ?_ | refine RunOps.nil ?_ | refine Run.skip ?_ | refine cT ?_ | refine cF ?_ | refine Run.block ?_ | refine Run.exit ?_)
    refine Run.cellRoom 2 3 1 ?_
    refine Run.loopT (fun i : Nat => ⟨PT.ofList [(1, cellX x), (2, .bp 0 0), (3, .d (.int .i64 0)), (5, .bp 2 0), (6, .mp 3), (46, .d (.sl 2 (x.rules.map encR))), (47, (.d (.int .i64 (x.rules.map encR).length))), (48, .d (.int .i64 i))], [boxG0, rmT x, boxO x 0 (.sr 4 1 (nmD x i)) (.d .nilsl), .map (kvD (pN x i)), .room (nmD x i).length 1], []⟩) (fun i => i ≤ x.rules.length) (fun i => x.rules.length - i) 0 (Nat.zero_le _) (tidy_of (objs := _) _ 5 (Eq.trans (b := [boxG0, rmT x, boxO x 0 (.sr 4 1 []) (.d .nilsl), .map (kvD (pT x x.tokens.length)), .room 0 1]) rfl (by simp [nmD, pN])) rfl (by repeat' (first | exact trivial | refine ⟨(Or.inl rfl), ?_⟩ | refine ⟨(Or.inl (inc_get (k := hi) (by kernel_rfl) (by omega))), ?_⟩ | refine ⟨(Or.inr rfl), ?_⟩ | fail)) (by repeat' (first | exact trivial | refine ⟨rfl, ?_⟩ | fail)) rfl rfl) (fun i hi => ?_)
    rcases Nat.lt_or_ge i x.rules.length with hlt | hge
    · obtain ⟨r, hr⟩ := get_ok hlt
      have hno : r.name ∉ (pN x i).map (·.1) := by
        rw [pN_keys]
        have hr' : (ruleNames x)[i]? = some r.name := by simp [hr]
        refine fun hm => (List.mem_append.1 hm).elim (fun hm => ?_) (fun hm => nodup_not hr' hm ha2)
        exact ha3 _ hm (List.mem_of_getElem? hr')
      have hj := fun E t => kv_none (E := E) (t := t) hno
      have hnl := nmD_len hi
      have hL : AV.d (.int .i64 (IntKind.i64.wrap (16 + (i : Int)))) = .d (.int .i64 ((16 + i : Nat) : Int)) := vN8 (by omega) (by omega)
      repeat' (first
        | refine oX (frz := [1, 57, 95, 102]) (v := .d (.int .i64 ((16 + i : Nat) : Int))) Et_ok ?_ (he := (hL))
        | refine eX (v := .d (.int .i64 ((16 + i : Nat) : Int))) ?_ (he := (hL))
        | refine Run.region ?_
        | refine Run.seq ?_
        | ((refine oB (frz := [1, 57, 95, 102]) Et_ok (fun h => ?_) (fun h => ?_)) <;> (first | (exfalso; simp at h <;> fail) | (exfalso; simp at h; omega) | skip))
        | ((refine eB (fun h => ?_) (fun h => ?_)) <;> (first | (exfalso; simp at h <;> fail) | (exfalso; simp at h; omega) | skip))
        | refine oX (frz := [1, 57, 95, 102]) Et_ok ?_
        | refine oS ?_
        | refine RunOps.nil ?_
        | refine Run.skip ?_
        | refine cT ?_
        | refine cF ?_
        | refine Run.block ?_
        | refine Run.exit ?_
        | refine Run.draw (frz := [1, 57, 95, 102]) Et_ok (by kernel_rfl) ?_
        | refine eX ?_
        | refine eS ?_
        | refine eN ?_
        | refine oX (frz := [1, 57, 95, 102]) (v := .d (.ep [.str r.name, alts r.alts])) Et_ok ?_ (hf := (by first | (simp [inB] <;> fail) | (simp [inB]; omega))) (he := (by first | (simp [List.getD_eq_getElem?_getD, cellsD, hr, encR] <;> fail) | fail))
        | refine eX (v := .d (.ep [.str r.name, alts r.alts])) ?_ (hf := (by first | (simp [inB] <;> fail) | (simp [inB]; omega))) (he := (by first | (simp [List.getD_eq_getElem?_getD, cellsD, hr, encR] <;> fail) | fail))
        | refine oX (frz := [1, 57, 95, 102]) Et_ok ?_ (hv := evAny_mapUpdate (by rfl) (by rfl) (by rfl) (by rfl) (by rfl) (by rfl) (by rfl) (by rfl) (by rfl) (hj _ _))
        | refine oX (frz := [1, 57, 95, 102]) Et_ok ?_ (hv := app1) (hf := rfl) (he := rfl)
        | refine eX ?_ (hv := app1) (hf := rfl) (he := rfl)
        | refine oX (frz := [1, 57, 95, 102]) Et_ok ?_ (hv := app0) (hf := rfl) (he := rfl)
        | refine eX ?_ (hv := app0) (hf := rfl) (he := rfl)
        | (refine Run.ret ?_; (first | refine rB ?_ | refine rI ?_ | refine rA ?_ | refine rII ?_ | refine rSI ?_ | refine rT ?_ | refine rS ?_); first | done | (skip))
        | ((exfalso; (simp at h <;> omega)))
        | fail)
      exact ⟨i + 1, hlt, by omega, (tidy_of (objs := _) _ 5 (Eq.trans (b := [boxG0, rmT x, boxO x 0 (.sr 4 1 (nmD x i ++ [.str r.name])) (.d .nilsl), .map (kvD (pN x i) ++ [(.str r.name, .int .i64 ((16 + i : Nat) : Int))]), .room ((nmD x i).length + 1) 1]) rfl (by rw [kvD_app, ← pN_succ hr, ← nmD_succ hr, List.length_append]; rfl)) rfl (by repeat' (first | exact trivial | refine ⟨(Or.inl rfl), ?_⟩ | refine ⟨(Or.inl (inc_get (k := i) (by kernel_rfl) (by omega))), ?_⟩ | refine ⟨(Or.inr rfl), ?_⟩ | fail)) (by repeat' (first | exact trivial | refine ⟨rfl, ?_⟩ | fail)) rfl rfl)⟩
    · have hie : i = x.rules.length := by omega
      subst hie
      repeat (first | refine Run.seq ?_ | refine Run.region ?_ | refine RunOps.nil ?_ | refine Run.skip ?_ | refine cT ?_ | refine cF ?_ | refine Run.block ?_ | refine Run.exit ?_)
      refine oX (frz := [1, 57, 95, 102]) (v := .d (.bool false)) Et_ok ?_ (he := vF8 (by simp))
      repeat (first | refine Run.seq ?_ | refine Run.region ?_ | refine RunOps.nil ?_ | refine Run.skip ?_ | refine cT ?_ | refine cF ?_ | refine Run.block ?_ | refine Run.exit ?_)
      iterate 4 refine oX (frz := [1, 57, 95, 102]) Et_ok ?_
      repeat (first | refine Run.seq ?_ | refine Run.region ?_ | refine RunOps.nil ?_ | refine Run.skip ?_ | refine cT ?_ | refine cF ?_ | refine Run.block ?_ | refine Run.exit ?_)
      refine Run.cellRoom 2 5 2 ?_
      refine Run.loopT (fun y : Nat × List GProd => ⟨PT.ofList [(1, cellX x), (2, .bp 0 0), (3, .d (.int .i64 0)), (5, .bp 2 0), (6, .mp 3), (67, .d (.sl 2 (x.rules.map encR))), (68, (.d (.int .i64 (x.rules.map encR).length))), (69, .d (.int .i64 y.1))], [boxG0, rmT x, boxW x 0 (nmD x x.rules.length) (y.2.map encP), .map (kvD (pN x x.rules.length)), .room (nmD x x.rules.length).length 1, .room (y.2.map encP).length 2], []⟩) (fun y => y.1 ≤ x.rules.length ∧ y.2 = ofP x y.1) (fun y => x.rules.length - y.1) (0, []) ⟨Nat.zero_le _, rfl⟩ (tidy_of (objs := _) _ 6 (by rfl) rfl (by repeat' (first | exact trivial | refine ⟨(Or.inl rfl), ?_⟩ | refine ⟨(Or.inr rfl), ?_⟩ | fail)) (by repeat' (first | exact trivial | refine ⟨rfl, ?_⟩ | fail)) rfl rfl) (fun y hy => ?_)
      obtain ⟨i, acc⟩ := y
      obtain ⟨hi1, hi2⟩ := hy
      simp only at hi1 hi2 ⊢
      rcases Nat.lt_or_ge i x.rules.length with hlt | hge
      · obtain ⟨r, hr⟩ := get_ok hlt
        have hmem := List.mem_of_getElem? hr
        have hra := hf.alts r hmem
        have hro := ofP_succ hr
        have hsl : (ofP x (i + 1)).length ≤ 24 := by
          have h1 := ofP_len (x := x) (i := i + 1) hlt
          have h2 : sumTo x (i + 1) ≤ sumTo x x.rules.length := by
            unfold sumTo
            rw [List.take_length]
            conv => rhs; rw [← List.take_append_drop (i + 1) x.rules, List.map_append, List.sum_append]
            omega
          omega
        repeat (first | refine Run.seq ?_ | refine Run.region ?_ | refine RunOps.nil ?_ | refine Run.skip ?_ | refine cT ?_ | refine cF ?_ | refine Run.block ?_ | refine Run.exit ?_)
        refine oX (frz := [1, 57, 95, 102]) (v := .d (.bool true)) Et_ok ?_ (he := vT8 (by simp <;> omega))
        repeat (first | refine Run.seq ?_ | refine Run.region ?_ | refine RunOps.nil ?_ | refine Run.skip ?_ | refine cT ?_ | refine cF ?_ | refine Run.block ?_ | refine Run.exit ?_)
        refine oX (frz := [1, 57, 95, 102]) Et_ok ?_
        refine oX (frz := [1, 57, 95, 102]) (v := .d (.ep [.str r.name, alts r.alts])) Et_ok ?_ (hf := by simp [inB] <;> omega) (he := by simp [List.getD_eq_getElem?_getD, cellsD, hr, encR])
        iterate 4 refine oX (frz := [1, 57, 95, 102]) Et_ok ?_
        repeat (first | refine Run.seq ?_ | refine Run.region ?_ | refine RunOps.nil ?_ | refine Run.skip ?_ | refine cT ?_ | refine cF ?_ | refine Run.block ?_ | refine Run.exit ?_)
        iterate 4 refine oX (frz := [1, 57, 95, 102]) Et_ok ?_
        repeat (first | refine Run.seq ?_ | refine Run.region ?_ | refine RunOps.nil ?_ | refine Run.skip ?_ | refine cT ?_ | refine cF ?_ | refine Run.block ?_ | refine Run.exit ?_)
        refine Run.loopT (fun y : Nat × List GProd => ⟨PT.ofList [(1, cellX x), (2, .bp 0 0), (3, .d (.int .i64 0)), (5, .bp 2 0), (6, .mp 3), (67, .d (.sl 2 (x.rules.map encR))), (68, (.d (.int .i64 (x.rules.map encR).length))), (69, .d (.int .i64 i)), (11, .d (.int .i64 i)), (75, .d (alts r.alts)), (76, .d (.int .i64 (r.alts.map strs).length)), (77, .d (.int .i64 y.1))], [boxG0, rmT x, boxW x 0 (nmD x x.rules.length) (y.2.map encP), .map (kvD (pN x x.rules.length)), .room (nmD x x.rules.length).length 1, .room (y.2.map encP).length 2], []⟩) (fun y => y.1 ≤ r.alts.length ∧ y.2 = ofP x i ++ (r.alts.take y.1).map (altP x.tokens (ruleNames x) i)) (fun y => r.alts.length - y.1) (0, acc) ⟨Nat.zero_le _, by simp [hi2]⟩ (tidy_of (objs := _) _ 6 (by rfl) rfl (by repeat' (first | exact trivial | refine ⟨(Or.inl rfl), ?_⟩ | refine ⟨(Or.inr rfl), ?_⟩ | fail)) (by repeat' (first | exact trivial | refine ⟨rfl, ?_⟩ | fail)) rfl rfl) (fun y hy => ?_)
        obtain ⟨k, acc⟩ := y
        obtain ⟨hk1, hk2⟩ := hy
        simp only at hk1 hk2 ⊢
        rcases Nat.lt_or_ge k r.alts.length with hkl | hkg
        · obtain ⟨a, ha⟩ := get_ok hkl
          have hma := List.mem_of_getElem? ha
          have hal6 := hs4 r hmem a hma
          have hnext : acc ++ [altP x.tokens (ruleNames x) i a] = ofP x i ++ (r.alts.take (k + 1)).map (altP x.tokens (ruleNames x) i) := by rw [List.take_add_one, ha, hk2]; simp
          have haccl : acc.length + 1 ≤ 24 := by
            have h1 := congrArg List.length hnext
            rw [hro, List.length_append, List.length_map] at hsl
            simp only [List.length_append, List.length_map, List.length_take, List.length_cons, List.length_nil] at h1
            omega
          have hL : AV.d (.int .i64 (IntKind.i64.wrap (16 + (i : Int)))) = .d (.int .i64 ((16 + i : Nat) : Int)) := vN8 (by omega) (by omega)
          repeat (first | refine Run.seq ?_ | refine Run.region ?_ | refine RunOps.nil ?_ | refine Run.skip ?_ | refine cT ?_ | refine cF ?_ | refine Run.block ?_ | refine Run.exit ?_)
          refine oX (frz := [1, 57, 95, 102]) (v := .d (.bool true)) Et_ok ?_ (he := vT8 (by simp <;> omega))
          repeat (first | refine Run.seq ?_ | refine Run.region ?_ | refine RunOps.nil ?_ | refine Run.skip ?_ | refine cT ?_ | refine cF ?_ | refine Run.block ?_ | refine Run.exit ?_)
          refine oX (frz := [1, 57, 95, 102]) (v := .d (.ep [strs a])) Et_ok ?_ (hf := by simp [inB] <;> omega) (he := by simp [List.getD_eq_getElem?_getD, cellsD, ha])
          iterate 2 refine oX (frz := [1, 57, 95, 102]) Et_ok ?_
          repeat (first | refine Run.seq ?_ | refine Run.region ?_ | refine RunOps.nil ?_ | refine Run.skip ?_ | refine cT ?_ | refine cF ?_ | refine Run.block ?_ | refine Run.exit ?_)
          refine oX (frz := [1, 57, 95, 102]) Et_ok ?_
          refine oX (frz := [1, 57, 95, 102]) (v := .d (.int .i64 ((16 + i : Nat) : Int))) Et_ok ?_ (he := hL)
          iterate 3 refine oX (frz := [1, 57, 95, 102]) Et_ok ?_
          repeat (first | refine Run.seq ?_ | refine Run.region ?_ | refine RunOps.nil ?_ | refine Run.skip ?_ | refine cT ?_ | refine cF ?_ | refine Run.block ?_ | refine Run.exit ?_)
          iterate 3 refine oX (frz := [1, 57, 95, 102]) Et_ok ?_
          repeat (first | refine Run.seq ?_ | refine Run.region ?_ | refine RunOps.nil ?_ | refine Run.skip ?_ | refine cT ?_ | refine cF ?_ | refine Run.block ?_ | refine Run.exit ?_)
          refine Run.cellRoom 6 1 1 ?_
          refine Run.loopT (fun z : Nat × List Int => ⟨PT.ofList [(1, cellX x), (2, .bp 0 0), (3, .d (.int .i64 0)), (5, .bp 2 0), (6, .mp 3), (67, .d (.sl 2 (x.rules.map encR))), (68, (.d (.int .i64 (x.rules.map encR).length))), (69, .d (.int .i64 i)), (11, .d (.int .i64 i)), (75, .d (alts r.alts)), (76, .d (.int .i64 (r.alts.map strs).length)), (77, .d (.int .i64 k)), (15, .bp 6 0), (84, .d (strs a)), (85, .d (.int .i64 (a.map DV.str).length)), (86, .d (.int .i64 z.1))], [boxG0, rmT x, boxW x 0 (nmD x x.rules.length) (acc.map encP), .map (kvD (pN x x.rules.length)), .room (nmD x x.rules.length).length 1, .room (acc.map encP).length 2, .box [.d (.int .i64 ((16 + i : Nat) : Int)), .sr 7 1 (rgtD z.2)], .room (rgtD z.2).length 1], []⟩)
            (fun z => z.1 ≤ a.length ∧ z.2 = (a.take z.1).map (symW x.tokens (ruleNames x))) (fun z => a.length - z.1) (0, []) ⟨Nat.zero_le _, rfl⟩ (tidy_of (objs := _) _ 8 (by rfl) rfl (by repeat' (first | exact trivial | refine ⟨(Or.inl rfl), ?_⟩ | refine ⟨(Or.inr rfl), ?_⟩ | fail)) (by repeat' (first | exact trivial | refine ⟨rfl, ?_⟩ | fail)) rfl rfl) (fun z hz => ?_)
          obtain ⟨j, rg⟩ := z
          obtain ⟨hj1, hj2⟩ := hz
          simp only at hj1 hj2 ⊢
          have hrgl : (rgtD rg).length = j := by rw [rgtD_len, hj2]; simp; omega
          rcases Nat.lt_or_ge j a.length with hjl | hjg
          · obtain ⟨s, hs⟩ := get_ok hjl
            have hnx : rg ++ [symW x.tokens (ruleNames x) s] = (a.take (j + 1)).map (symW x.tokens (ruleNames x)) := by rw [List.take_add_one, hs, hj2]; simp
            obtain ⟨jj, hsj⟩ : ∃ j, findKV (eqKey Et 9) (.str s) (kvD (pN x x.rules.length)) = some (some (j, .int .i64 (symW x.tokens (ruleNames x) s))) := look_sym h0 (checkX_known h0 (.inr ⟨r, hmem, a, hma, List.mem_of_getElem? hs⟩))
            repeat' (first
              | refine Run.region ?_
              | refine Run.seq ?_
              | ((refine oB (frz := [1, 57, 95, 102]) Et_ok (fun h => ?_) (fun h => ?_)) <;> (first | (exfalso; simp at h <;> fail) | (exfalso; simp at h; omega) | skip))
              | ((refine eB (fun h => ?_) (fun h => ?_)) <;> (first | (exfalso; simp at h <;> fail) | (exfalso; simp at h; omega) | skip))
              | refine oX (frz := [1, 57, 95, 102]) Et_ok ?_
              | refine oS ?_
              | refine RunOps.nil ?_
              | refine Run.skip ?_
              | refine cT ?_
              | refine cF ?_
              | refine Run.block ?_
              | refine Run.exit ?_
              | refine Run.draw (frz := [1, 57, 95, 102]) Et_ok (by kernel_rfl) ?_
              | refine eX ?_
              | refine eS ?_
              | refine eN ?_
              | refine oX (frz := [1, 57, 95, 102]) (v := .d (.ep [.str s])) Et_ok ?_ (hf := (by first | (simp [inB] <;> fail) | (simp [inB]; omega))) (he := (by first | (simp [List.getD_eq_getElem?_getD, cellsD, hs] <;> fail) | fail))
              | refine eX (v := .d (.ep [.str s])) ?_ (hf := (by first | (simp [inB] <;> fail) | (simp [inB]; omega))) (he := (by first | (simp [List.getD_eq_getElem?_getD, cellsD, hs] <;> fail) | fail))
              | refine oX (frz := [1, 57, 95, 102]) Et_ok ?_ (hv := evAny_lookup (by rfl) (by rfl) (by rfl) (by rfl) (by rfl) (by rfl) (by rfl) (by rfl) (by rfl) hsj (by rfl))
              | refine eX ?_ (hv := evAny_lookup (by rfl) (by rfl) (by rfl) (by rfl) (by rfl) (by rfl) (by rfl) (by rfl) (by rfl) hsj (by rfl))
              | refine oX (frz := [1, 57, 95, 102]) Et_ok ?_ (hv := app1) (hf := rfl) (he := rfl)
              | refine eX ?_ (hv := app1) (hf := rfl) (he := rfl)
              | refine oX (frz := [1, 57, 95, 102]) Et_ok ?_ (hv := app0) (hf := rfl) (he := rfl)
              | refine eX ?_ (hv := app0) (hf := rfl) (he := rfl)
              | (refine Run.ret ?_; (first | refine rB ?_ | refine rI ?_ | refine rA ?_ | refine rII ?_ | refine rSI ?_ | refine rT ?_ | refine rS ?_); first | done | (skip))
              | ((exfalso; (simp at h <;> omega)))
              | fail)
            exact ⟨(j + 1, rg ++ [symW x.tokens (ruleNames x) s]), ⟨hjl, hnx⟩, by simp only <;> omega, (tidy_of (objs := _) _ 8 (Eq.trans (b := [boxG0, rmT x, boxW x 0 (nmD x x.rules.length) (acc.map encP), .map (kvD (pN x x.rules.length)), .room (nmD x x.rules.length).length 1, .room (acc.map encP).length 2, .box [.d (.int .i64 ((16 + i : Nat) : Int)), .sr 7 1 (rgtD rg ++ [.int .i64 (symW x.tokens (ruleNames x) s)])], .room ((rgtD rg).length + 1) 1]) rfl (by rw [rgtD_app]; simp only [rgtD_len, List.length_append, List.length_cons, List.length_nil])) rfl (by repeat' (first | exact trivial | refine ⟨(Or.inl rfl), ?_⟩ | refine ⟨(Or.inl (inc_get (k := j) (by kernel_rfl) (by omega))), ?_⟩ | refine ⟨(Or.inr rfl), ?_⟩ | fail)) (by repeat' (first | exact trivial | refine ⟨rfl, ?_⟩ | fail)) rfl rfl)⟩
          · have hje : j = a.length := by omega
            have hrg : rg = a.map (symW x.tokens (ruleNames x)) := by rw [hj2, hje, List.take_length]
            rw [show altP x.tokens (ruleNames x) i a = ⟨((16 + i : Nat) : Int), rg⟩ from by rw [hrg]; rfl] at hnext
            repeat (first | refine Run.seq ?_ | refine Run.region ?_ | refine RunOps.nil ?_ | refine Run.skip ?_ | refine cT ?_ | refine cF ?_ | refine Run.block ?_ | refine Run.exit ?_)
            refine oX (frz := [1, 57, 95, 102]) (v := .d (.bool false)) Et_ok ?_ (he := vF8 (by simp <;> omega))
            repeat (first | refine Run.seq ?_ | refine Run.region ?_ | refine RunOps.nil ?_ | refine Run.skip ?_ | refine cT ?_ | refine cF ?_ | refine Run.block ?_ | refine Run.exit ?_)
            iterate 3 refine oX (frz := [1, 57, 95, 102]) Et_ok ?_
            first | refine Run.tidy (tidy_of (objs := _) [(1, cellX x), (2, .bp 0 0), (3, .d (.int .i64 0)), (5, .bp 2 0), (6, .mp 3), (67, .d (.sl 2 (x.rules.map encR))), (68, (.d (.int .i64 (x.rules.map encR).length))), (69, .d (.int .i64 i)), (11, .d (.int .i64 i)), (75, .d (alts r.alts)), (76, .d (.int .i64 (r.alts.map strs).length)), (77, .d (.int .i64 k)), (100, .sr 5 2 (acc.map encP)), (101, .d (encP (⟨((16 + i : Nat) : Int), rg⟩ : GProd)))] 6 (Eq.trans (b := [boxG0, rmT x, boxW x 0 (nmD x x.rules.length) (acc.map encP), .map (kvD (pN x x.rules.length)), .room (nmD x x.rules.length).length 1, .room (acc.map encP).length 2]) rfl rfl) rfl (by repeat' (first | exact trivial | refine ⟨(Or.inl rfl), ?_⟩ | refine ⟨(Or.inr rfl), ?_⟩ | refine ⟨rfl, ?_⟩ | fail)) (by repeat' (first | exact trivial | refine ⟨(Or.inl rfl), ?_⟩ | refine ⟨(Or.inr rfl), ?_⟩ | refine ⟨rfl, ?_⟩ | fail)) rfl rfl) ?_ | refine RunOps.tidy (tidy_of (objs := _) [(1, cellX x), (2, .bp 0 0), (3, .d (.int .i64 0)), (5, .bp 2 0), (6, .mp 3), (67, .d (.sl 2 (x.rules.map encR))), (68, (.d (.int .i64 (x.rules.map encR).length))), (69, .d (.int .i64 i)), (11, .d (.int .i64 i)), (75, .d (alts r.alts)), (76, .d (.int .i64 (r.alts.map strs).length)), (77, .d (.int .i64 k)), (100, .sr 5 2 (acc.map encP)), (101, .d (encP (⟨((16 + i : Nat) : Int), rg⟩ : GProd)))] 6 (Eq.trans (b := [boxG0, rmT x, boxW x 0 (nmD x x.rules.length) (acc.map encP), .map (kvD (pN x x.rules.length)), .room (nmD x x.rules.length).length 1, .room (acc.map encP).length 2]) rfl rfl) rfl (by repeat' (first | exact trivial | refine ⟨(Or.inl rfl), ?_⟩ | refine ⟨(Or.inr rfl), ?_⟩ | refine ⟨rfl, ?_⟩ | fail)) (by repeat' (first | exact trivial | refine ⟨(Or.inl rfl), ?_⟩ | refine ⟨(Or.inr rfl), ?_⟩ | refine ⟨rfl, ?_⟩ | fail)) rfl rfl) ?_
            refine oX (frz := [1, 57, 95, 102]) Et_ok ?_
            refine oX (frz := [1, 57, 95, 102]) Et_ok ?_ (hv := app1) (hf := rfl) (he := rfl)
            iterate 2 refine oX (frz := [1, 57, 95, 102]) Et_ok ?_
            repeat (first | refine Run.seq ?_ | refine Run.region ?_ | refine RunOps.nil ?_ | refine Run.skip ?_ | refine cT ?_ | refine cF ?_ | refine Run.block ?_ | refine Run.exit ?_)
            refine oX (frz := [1, 57, 95, 102]) (v := .d (.int .i64 ((k + 1 : Nat) : Int))) Et_ok ?_ (he := vN8 (by omega) (by omega))
            refine oX (frz := [1, 57, 95, 102]) Et_ok ?_
            repeat (first | refine Run.seq ?_ | refine Run.region ?_ | refine RunOps.nil ?_ | refine Run.skip ?_ | refine cT ?_ | refine cF ?_ | refine Run.block ?_ | refine Run.exit ?_)
            exact ⟨(k + 1, acc ++ [(⟨((16 + i : Nat) : Int), rg⟩ : GProd)]), ⟨hkl, hnext⟩, by simp only <;> omega, (tidy_of (objs := _) _ 6 (Eq.trans (b := [boxG0, rmT x, boxW x 0 (nmD x x.rules.length) (acc.map encP ++ [encP (⟨((16 + i : Nat) : Int), rg⟩ : GProd)]), .map (kvD (pN x x.rules.length)), .room (nmD x x.rules.length).length 1, .room ((acc.map encP).length + 1) 2]) rfl (by rw [encP_app]; simp only [List.length_map, List.length_append, List.length_cons, List.length_nil])) rfl (by repeat' (first | exact trivial | refine ⟨(Or.inl rfl), ?_⟩ | refine ⟨(Or.inl (inc_get (k := k) (by kernel_rfl) (by omega))), ?_⟩ | refine ⟨(Or.inr rfl), ?_⟩ | fail)) (by repeat' (first | exact trivial | refine ⟨rfl, ?_⟩ | fail)) rfl rfl)⟩
        · have hke : k = r.alts.length := by omega
          have hacc : acc = ofP x (i + 1) := by rw [hk2, hke, List.take_length, hro]
          repeat (first | refine Run.seq ?_ | refine Run.region ?_ | refine RunOps.nil ?_ | refine Run.skip ?_ | refine cT ?_ | refine cF ?_ | refine Run.block ?_ | refine Run.exit ?_)
          refine oX (frz := [1, 57, 95, 102]) (v := .d (.bool false)) Et_ok ?_ (he := vF8 (by simp <;> omega))
          repeat (first | refine Run.seq ?_ | refine Run.region ?_ | refine RunOps.nil ?_ | refine Run.skip ?_ | refine cT ?_ | refine cF ?_ | refine Run.block ?_ | refine Run.exit ?_)
          refine oX (frz := [1, 57, 95, 102]) (v := .d (.int .i64 ((i + 1 : Nat) : Int))) Et_ok ?_ (he := vN8 (by omega) (by omega))
          refine oX (frz := [1, 57, 95, 102]) Et_ok ?_
          repeat (first | refine Run.seq ?_ | refine Run.region ?_ | refine RunOps.nil ?_ | refine Run.skip ?_ | refine cT ?_ | refine cF ?_ | refine Run.block ?_ | refine Run.exit ?_)
          exact ⟨(i + 1, acc), ⟨hlt, hacc⟩, by simp only <;> omega, (tidy_of (objs := _) _ 6 (by rfl) rfl (by repeat' (first | exact trivial | refine ⟨(Or.inl rfl), ?_⟩ | refine ⟨(Or.inr rfl), ?_⟩ | fail)) (by repeat' (first | exact trivial | refine ⟨rfl, ?_⟩ | fail)) rfl rfl)⟩
      · have hie : i = x.rules.length := by omega
        have hoe : ofP x x.rules.length = acc := by rw [hi2, hie]
        obtain ⟨jj, hsj⟩ : ∃ j, findKV (eqKey Et 9) (.str x.start) (kvD (pN x x.rules.length)) = some (some (j, .int .i64 st)) := by rw [hst]; exact look_sym h0 (checkX_known h0 (.inl rfl))
        have hnm : strs (ruleNames x) = .sl 1 (nmD x x.rules.length) := by
          unfold nmD
          rw [List.take_of_length_le (by simp)]
        rw [hoe, hnm]
        repeat (first | refine Run.seq ?_ | refine Run.region ?_ | refine RunOps.nil ?_ | refine Run.skip ?_ | refine cT ?_ | refine cF ?_ | refine Run.block ?_ | refine Run.exit ?_)
        refine oX (frz := [1, 57, 95, 102]) (v := .d (.bool false)) Et_ok ?_ (he := vF8 (by simp <;> omega))
        repeat' (first
          | refine Run.region ?_
          | refine Run.seq ?_
          | ((refine oB (frz := [1, 57, 95, 102]) Et_ok (fun h => ?_) (fun h => ?_)) <;> (first | (exfalso; simp at h <;> fail) | (exfalso; simp at h; omega) | skip))
          | ((refine eB (fun h => ?_) (fun h => ?_)) <;> (first | (exfalso; simp at h <;> fail) | (exfalso; simp at h; omega) | skip))
          | refine oX (frz := [1, 57, 95, 102]) Et_ok ?_
          | refine oS ?_
          | refine RunOps.nil ?_
          | refine Run.skip ?_
          | refine cT ?_
          | refine cF ?_
          | refine Run.block ?_
          | refine Run.exit ?_
          | refine Run.draw (frz := [1, 57, 95, 102]) Et_ok (by kernel_rfl) ?_
          | refine eX ?_
          | refine eS ?_
          | refine eN ?_
          | refine oX (frz := [1, 57, 95, 102]) Et_ok ?_ (hv := evAny_lookup (by rfl) (by rfl) (by rfl) (by rfl) (by rfl) (by rfl) (by rfl) (by rfl) (by rfl) hsj (by rfl))
          | refine eX ?_ (hv := evAny_lookup (by rfl) (by rfl) (by rfl) (by rfl) (by rfl) (by rfl) (by rfl) (by rfl) (by rfl) hsj (by rfl))
          | (refine Run.ret ?_; (first | refine rB ?_ | refine rI ?_ | refine rA ?_ | refine rII ?_ | refine rSI ?_ | refine rT ?_ | refine rS ?_); first | done | (rfl))
          | fail)
theorem grOf (x : Src) (hf : FitsX x) (hin : (innerX x).length ≤ 1048576) : KnownCall Try.prog 26 [encX x] (.tup [.d (encG (ofRes x)), .d (.int .i64 (checkX x))]) := by
  by_cases h0 : checkX x = 0
  · have e : ofRes x = ofX x := if_pos h0
    rw [e, h0]
    exact grOf0 x hf hin h0
  · have e : ofRes x = g0 := if_neg h0
    rw [e]
    have cc := checkS x hf hin
    generalize checkX x = c at cc h0 ⊢
    refine known_toN2 ?_ zeroG
    refine knownE Et_ok (fnAt Try.func26 (by kernel_rfl) (by kernel_rfl) : FnAt _ _ (mkFn Try.f26 [1, 57, 95, 102])) ?_
    repeat' (first
      | refine Run.region ?_
      | refine Run.seq ?_
      | ((refine oB (frz := [1, 57, 95, 102]) Et_ok (fun h => ?_) (fun h => ?_)) <;> (first | (exfalso; simp at h <;> fail) | (exfalso; simp at h; omega) | skip))
      | ((refine eB (fun h => ?_) (fun h => ?_)) <;> (first | (exfalso; simp at h <;> fail) | (exfalso; simp at h; omega) | skip))
      | refine oX (frz := [1, 57, 95, 102]) Et_ok ?_
      | refine oS ?_
      | refine RunOps.nil ?_
      | refine Run.skip ?_
      | refine cT ?_
      | refine cF ?_
      | refine Run.block ?_
      | refine Run.exit ?_
      | refine Run.draw (frz := [1, 57, 95, 102]) Et_ok (by kernel_rfl) ?_
      | refine eX ?_
      | refine eS ?_
      | refine eN ?_
      | refine oC (cc) ?_
      | refine eC (cc) ?_
      | (refine Run.ret ?_; (first | refine rB ?_ | refine rI ?_ | refine rA ?_ | refine rII ?_ | refine rSI ?_ | refine rT ?_ | refine rS ?_); first | done | (rfl))
      | ((exfalso; (simp [h0] at h <;> fail)))
      | fail)
end Go.Av
end
noncomputable section
namespace Go.Av
open Go Go.Proofs
set_option maxRecDepth 10000
section
variable {H : Type} {enc : TypeId × Value → H} {w : World} {spare : Nat → Bool} {held : Bool} {fuel : Nat} {cs : List Value} {x : DataW H × List MemPlace}
abbrev Wf64 (n : Int) : Prop := (Lit.int .i64 n).wf = true
def wfStr (s : List Nat) : Prop := s.length ≤ maxLen ∧ ∀ c ∈ s, c < 256
structure WfProd (p : GProd) : Prop where
  left : Wf64 p.left
  len : p.right.length ≤ maxLen
  right : ∀ n ∈ p.right, Wf64 n
structure WfGram (g : Gram) : Prop where
  k : Wf64 g.k
  tokensL : g.tokens.length ≤ maxLen
  tokens : ∀ s ∈ g.tokens, wfStr s
  sep : wfStr g.sep
  namesL : g.names.length ≤ maxLen
  names : ∀ s ∈ g.names, wfStr s
  start : Wf64 g.start
  prodsL : g.prods.length ≤ maxLen
  prods : ∀ p ∈ g.prods, WfProd p
end
end Go.Av
end
noncomputable section
namespace Go.Av
open Go Go.Proofs
set_option maxRecDepth 10000
section
variable {H : Type} {enc : TypeId × Value → H} {w : World} {spare : Nat → Bool} {held : Bool} {fuel : Nat} {cs : List Value} {x : DataW H × List MemPlace}
def WfAlt (a : List (List Nat)) : Prop := a.length ≤ maxLen ∧ ∀ s ∈ a, wfStr s
structure WfRule (r : SRule) : Prop where
  name : wfStr r.name
  len : r.alts.length ≤ maxLen
  alts : ∀ a ∈ r.alts, WfAlt a
structure WfSrc (x : Src) : Prop where
  k : Wf64 x.k
  tokensL : x.tokens.length ≤ maxLen
  tokens : ∀ s ∈ x.tokens, wfStr s
  sep : wfStr x.sep
  start : wfStr x.start
  rulesL : x.rules.length ≤ maxLen
  rules : ∀ r ∈ x.rules, WfRule r
end
end Go.Av
end
noncomputable section
namespace Go.Av
open Go Go.Proofs
set_option maxRecDepth 10000
section
variable {H : Type} {enc : TypeId × Value → H} {w : World} {spare : Nat → Bool} {held : Bool} {fuel : Nat} {cs : List Value} {x : DataW H × List MemPlace} {B : Nat}
def StrW (B : Nat) (s : List Nat) : Prop := s.length ≤ B ∧ ∀ c ∈ s, c < 256
def RowW {α : Type} (B z : Nat) (Q : α → Prop) (l : List α) : Prop := (l.length ≤ maxLen ∧ l.length * z ≤ B) ∧ ∀ a ∈ l, Q a
structure RuleW (B : Nat) (r : SRule) : Prop where
  name : StrW B r.name
  alts : RowW B 24 (RowW B 16 (StrW B)) r.alts
structure SrcW (B : Nat) (x : Src) : Prop where
  k : Wf64 x.k
  tokens : RowW B 16 (StrW B) x.tokens
  sep : StrW B x.sep
  start : StrW B x.start
  rules : RowW B 40 (RuleW B) x.rules
theorem cw_strs (hsp : ∀ b, spare b = true) (h : DataW.trod enc Try.prog w 0 spare held fuel 22 cs = some x) (hB : LightW Try.prog 22 B x.1) : ∃ l : List (List Nat), CellsRep (heapD w) (strs l) cs ∧ RowW B 16 (StrW B) l :=
  cr_sliceW DV.str (StrW B) Try.underlying22 (by kernel_rfl) (Nat.le_refl _) hsp (fun n cs' y _ hy hb => cr_strW Try.underlying9 hy hb) h hB
theorem cw_alts (hsp : ∀ b, spare b = true) (h : DataW.trod enc Try.prog w 0 spare held fuel 51 cs = some x) (hB : LightW Try.prog 51 B x.1) : ∃ l : List (List (List Nat)), CellsRep (heapD w) (alts l) cs ∧ RowW B 24 (RowW B 16 (StrW B)) l :=
  cr_sliceW strs (RowW B 16 (StrW B)) Try.underlying51 (by kernel_rfl) (Nat.le_refl _) hsp (fun n cs' y _ hy hb => cw_strs hsp hy hb) h hB
theorem cw_rule (hsp : ∀ b, spare b = true) (hl : cs.length = 2) (h : DataW.trod enc Try.prog w 0 spare held fuel 53 cs = some x) (hB : LightW Try.prog 53 B x.1) : ∃ r : SRule, CellsRep (heapD w) (encR r) cs ∧ RuleW B r := by
  match cs, hl, h with
  | [v0, v1], _, h =>
    obtain ⟨n0, y0, e0, b0⟩ := trod_fieldW Try.underlying53 h hB 0 rfl (by kernel_rfl) rfl
    obtain ⟨n1, y1, e1, b1⟩ := trod_fieldW Try.underlying53 h hB 1 rfl (by kernel_rfl) rfl
    obtain ⟨a, ha, wa⟩ := cr_strW Try.underlying9 e0 b0
    obtain ⟨l, hl, wl⟩ := cw_alts hsp e1 b1
    exact ⟨⟨a, l⟩, cr_all ⟨⟨rfl, ha⟩, ⟨rfl, hl⟩, trivial⟩, ⟨wa, wl⟩⟩
theorem cw_src (hsp : ∀ b, spare b = true) (hl : cs.length = 5) (h : DataW.trod enc Try.prog w 0 spare held fuel 49 cs = some x) (hB : LightW Try.prog 49 B x.1) : ∃ s : Src, CellsRep (heapD w) (encX s) cs ∧ SrcW B s := by
  match cs, hl, h with
  | [v0, v1, v2, v3, v4], _, h =>
    obtain ⟨n0, y0, e0, b0⟩ := trod_fieldW Try.underlying49 h hB 0 rfl (by kernel_rfl) rfl
    obtain ⟨n1, y1, e1, b1⟩ := trod_fieldW Try.underlying49 h hB 1 rfl (by kernel_rfl) rfl
    obtain ⟨n2, y2, e2, b2⟩ := trod_fieldW Try.underlying49 h hB 2 rfl (by kernel_rfl) rfl
    obtain ⟨n3, y3, e3, b3⟩ := trod_fieldW Try.underlying49 h hB 3 rfl (by kernel_rfl) rfl
    obtain ⟨n4, y4, e4, b4⟩ := trod_fieldW Try.underlying49 h hB 4 rfl (by kernel_rfl) rfl
    obtain ⟨k, hk, wk⟩ := cr_int Try.underlying3 e0
    obtain ⟨ts, hts, wt⟩ := cw_strs hsp e1 b1
    obtain ⟨sep, hsep, ws⟩ := cr_strW Try.underlying9 e2 b2
    obtain ⟨st, hst, wst⟩ := cr_strW Try.underlying9 e3 b3
    obtain ⟨rs, hrs, wr⟩ := cr_sliceW encR (RuleW B) (sz := 2) Try.underlying47 (by kernel_rfl) (by omega) hsp (fun n cs' y hn hy hb => cw_rule hsp hn hy hb) e4 b4
    exact ⟨⟨k, ts, sep, st, rs⟩, cr_all ⟨⟨rfl, hk⟩, ⟨rfl, hts⟩, ⟨rfl, hsep⟩, ⟨rfl, hst⟩, ⟨rfl, hrs⟩, trivial⟩, ⟨wk, wt, ws, wst, wr⟩⟩
theorem arg_srcW {r : Reach} {b0 : Nat} {v : Value} {d : DataW H} {ps : List MemPlace} (hsp : ∀ b, spare b = true) (hval : Value.okWide Try.prog w r b0 49 v) (h : DataW.Trod enc Try.prog w 0 spare held 49 v d ps) (hB : LightW Try.prog 49 B d) :
    ∃ s : Src, RepD (heapD w) (encX s) v ∧ SrcW B s :=
  arg_aggW (f := fun x : Src => [.int .i64 x.k, strs x.tokens, .str x.sep, .str x.start, .sl 2 (x.rules.map encR)]) Try.underlying49 hval h hB (fun n cs x hl hx hb => cw_src hsp (hl.trans (by kernel_rfl)) hx hb)
end
end Go.Av
end
noncomputable section
namespace Go.Av
open Go Go.Proofs
def e0 : List DV × AV := ([(.str [97])], (.d (.int .i64 0)))
theorem k0 : KnownCall Try.prog 86 e0.1 e0.2 := known T0_ok Et_ok (by kernel_rfl) Ft_ok (k := 100000) (n := 60) (by kernel_rfl)
def e1 : List DV × AV := ([(.str [98])], (.d (.int .i64 0)))
theorem k1 : KnownCall Try.prog 86 e1.1 e1.2 := known T0_ok Et_ok (by kernel_rfl) Ft_ok (k := 100000) (n := 60) (by kernel_rfl)
def e2 : List DV × AV := ([(.str [110, 108])], (.d (.int .i64 0)))
theorem k2 : KnownCall Try.prog 86 e2.1 e2.2 := known T0_ok Et_ok (by kernel_rfl) Ft_ok (k := 100000) (n := 60) (by kernel_rfl)
def e3 : List DV × AV := ([(.str [83])], (.d (.int .i64 0)))
theorem k3 : KnownCall Try.prog 86 e3.1 e3.2 := known T0_ok Et_ok (by kernel_rfl) Ft_ok (k := 100000) (n := 60) (by kernel_rfl)
def e4 : List DV × AV := ([(.str [84])], (.d (.int .i64 0)))
theorem k4 : KnownCall Try.prog 86 e4.1 e4.2 := known T0_ok Et_ok (by kernel_rfl) Ft_ok (k := 100000) (n := 60) (by kernel_rfl)
def e6 : List DV × AV := ([(.sl 1 [(.int .i64 0), (.int .i64 17)]), (.fn (.func 62) [] [(.ep [(.int .i64 2), (.sl 1 [(.str [97]), (.str [98])]), (.str [110, 108]), (.sl 1 [(.str [83]), (.str [84])]), (.int .i64 16), (.sl 2 [(.agg [(.int .i64 16), (.sl 1 [(.int .i64 0), (.int .i64 17)])]), (.agg [(.int .i64 16), .nilsl]), (.agg [(.int .i64 17), (.sl 1 [(.int .i64 1), (.int .i64 16)])])])])])], (.d (.int .i64 (-1))))
theorem k6 : KnownCall Try.prog 87 e6.1 e6.2 := known T0_ok Et_ok (by kernel_rfl) Ft_ok (k := 100000) (n := 60) (by kernel_rfl)
def e7 : List DV × AV := ([(.sl 1 [(.int .i64 1), (.int .i64 16)]), (.fn (.func 62) [] [(.ep [(.int .i64 2), (.sl 1 [(.str [97]), (.str [98])]), (.str [110, 108]), (.sl 1 [(.str [83]), (.str [84])]), (.int .i64 16), (.sl 2 [(.agg [(.int .i64 16), (.sl 1 [(.int .i64 0), (.int .i64 17)])]), (.agg [(.int .i64 16), .nilsl]), (.agg [(.int .i64 17), (.sl 1 [(.int .i64 1), (.int .i64 16)])])])])])], (.d (.int .i64 (-1))))
theorem k7 : KnownCall Try.prog 87 e7.1 e7.2 := known T0_ok Et_ok (by kernel_rfl) Ft_ok (k := 100000) (n := 60) (by kernel_rfl)
def e9 : List DV × AV := ([(.agg [(.int .i64 2), (.sl 1 [(.str [97]), (.str [98])]), (.str [110, 108]), (.sl 1 [(.str [83]), (.str [84])]), (.int .i64 16), (.sl 2 [(.agg [(.int .i64 16), (.sl 1 [(.int .i64 0), (.int .i64 17)])]), (.agg [(.int .i64 16), .nilsl]), (.agg [(.int .i64 17), (.sl 1 [(.int .i64 1), (.int .i64 16)])])])])], (.d (.int .i64 0)))
theorem k9 : KnownCall Try.prog 47 e9.1 e9.2 := known T0_ok Et_ok (by kernel_rfl) Ft_ok (k := 100000) (n := 60) (by kernel_rfl)
def e10 : List DV × AV := ([(.agg [(.int .i64 2), (.sl 1 [(.str [97]), (.str [98])]), (.str [110, 108]), (.sl 1 [(.str [83]), (.str [84])]), (.int .i64 16), (.sl 2 [(.agg [(.int .i64 16), (.sl 1 [(.int .i64 0), (.int .i64 17)])]), (.agg [(.int .i64 16), .nilsl]), (.agg [(.int .i64 17), (.sl 1 [(.int .i64 1), (.int .i64 16)])])])])], (.d (.int .i64 0)))
theorem k10 : KnownCall Try.prog 48 e10.1 e10.2 := known T0_ok Et_ok (by kernel_rfl) Ft_ok (k := 100000) (n := 60) (by kernel_rfl)
end Go.Av
end
noncomputable section
namespace Go.Av
open Go Go.Proofs
def T1 : Memo := (.node (.node (.node (.node (.node .nil none (.node .nil (some [e9]) .nil)) none (.node .nil none (.node (.node .nil (some [e6, e7]) .nil) none .nil))) none .nil) none .nil) none (.node (.node (.node (.node .nil none (.node .nil (some [e10]) .nil)) none .nil) none .nil) none (.node .nil none (.node (.node .nil none (.node (.node .nil (some [e0, e1, e2, e3, e4]) .nil) none .nil)) none .nil))))
theorem T1_ok : MemoOK Try.prog T1 := ⟨trivial, ⟨trivial, ⟨trivial, ⟨trivial, ⟨trivial, trivial, ⟨⟨k9, trivial⟩, trivial, trivial⟩⟩, ⟨trivial, trivial, ⟨trivial, ⟨⟨k6, k7, trivial⟩, trivial, trivial⟩, trivial⟩⟩⟩, trivial⟩, trivial⟩, ⟨trivial, ⟨trivial, ⟨trivial, ⟨trivial, trivial, ⟨⟨k10, trivial⟩, trivial, trivial⟩⟩, trivial⟩, trivial⟩, ⟨trivial, trivial, ⟨trivial, ⟨trivial, trivial, ⟨trivial, ⟨⟨k0, k1, k2, k3, k4, trivial⟩, trivial, trivial⟩, trivial⟩⟩, trivial⟩⟩⟩⟩
end Go.Av
end
noncomputable section
namespace Go.Av
open Go Go.Proofs
def e5 : List DV × AV := ([(.agg [(.int .i64 2), (.sl 1 [(.str [97]), (.str [98])]), (.str [110, 108]), (.sl 1 [(.str [83]), (.str [84])]), (.int .i64 16), (.sl 2 [(.agg [(.int .i64 16), (.sl 1 [(.int .i64 0), (.int .i64 17)])]), (.agg [(.int .i64 16), .nilsl]), (.agg [(.int .i64 17), (.sl 1 [(.int .i64 1), (.int .i64 16)])])])])], (.d (.int .i64 0)))
theorem k5 : KnownCall Try.prog 44 e5.1 e5.2 := known T1_ok Et_ok (by kernel_rfl) Ft_ok (k := 100000) (n := 60) (by kernel_rfl)
def e8 : List DV × AV := ([(.agg [(.int .i64 2), (.sl 1 [(.str [97]), (.str [98])]), (.str [110, 108]), (.sl 1 [(.str [83]), (.str [84])]), (.int .i64 16), (.sl 2 [(.agg [(.int .i64 16), (.sl 1 [(.int .i64 0), (.int .i64 17)])]), (.agg [(.int .i64 16), .nilsl]), (.agg [(.int .i64 17), (.sl 1 [(.int .i64 1), (.int .i64 16)])])])])], (.d (.int .i64 0)))
theorem k8 : KnownCall Try.prog 46 e8.1 e8.2 := known T1_ok Et_ok (by kernel_rfl) Ft_ok (k := 100000) (n := 60) (by kernel_rfl)
end Go.Av
end
noncomputable section
namespace Go.Av
open Go Go.Proofs
def T2 : Memo := (.node (.node (.node (.node (.node .nil none (.node .nil (some [e9]) .nil)) none (.node .nil none (.node (.node .nil (some [e6, e7]) .nil) none .nil))) none .nil) none .nil) none (.node (.node (.node (.node .nil none (.node .nil (some [e10]) .nil)) none .nil) none (.node .nil none (.node (.node .nil (some [e5]) .nil) none .nil))) none (.node .nil none (.node (.node .nil none (.node (.node .nil (some [e0, e1, e2, e3, e4]) .nil) none .nil)) none (.node (.node .nil (some [e8]) .nil) none .nil)))))
theorem T2_ok : MemoOK Try.prog T2 := ⟨trivial, ⟨trivial, ⟨trivial, ⟨trivial, ⟨trivial, trivial, ⟨⟨k9, trivial⟩, trivial, trivial⟩⟩, ⟨trivial, trivial, ⟨trivial, ⟨⟨k6, k7, trivial⟩, trivial, trivial⟩, trivial⟩⟩⟩, trivial⟩, trivial⟩, ⟨trivial, ⟨trivial, ⟨trivial, ⟨trivial, trivial, ⟨⟨k10, trivial⟩, trivial, trivial⟩⟩, trivial⟩, ⟨trivial, trivial, ⟨trivial, ⟨⟨k5, trivial⟩, trivial, trivial⟩, trivial⟩⟩⟩, ⟨trivial, trivial, ⟨trivial, ⟨trivial, trivial, ⟨trivial, ⟨⟨k0, k1, k2, k3, k4, trivial⟩, trivial, trivial⟩, trivial⟩⟩, ⟨trivial, ⟨⟨k8, trivial⟩, trivial, trivial⟩, trivial⟩⟩⟩⟩⟩
end Go.Av
end
noncomputable section
namespace Go.Av
open Go Go.Proofs
def e11 : List DV × AV := ([(.agg [(.int .i64 2), (.sl 1 [(.str [97]), (.str [98])]), (.str [110, 108]), (.sl 1 [(.str [83]), (.str [84])]), (.int .i64 16), (.sl 2 [(.agg [(.int .i64 16), (.sl 1 [(.int .i64 0), (.int .i64 17)])]), (.agg [(.int .i64 16), .nilsl]), (.agg [(.int .i64 17), (.sl 1 [(.int .i64 1), (.int .i64 16)])])])])], (.d (.int .i64 0)))
theorem k11 : KnownCall Try.prog 23 e11.1 e11.2 := known T2_ok Et_ok (by kernel_rfl) Ft_ok (k := 100000) (n := 60) (by kernel_rfl)
end Go.Av
end
noncomputable section
namespace Go.Av
open Go Go.Proofs
def T3 : Memo := (.node (.node (.node (.node (.node .nil none (.node .nil (some [e9]) .nil)) none (.node .nil (some [e11]) (.node (.node .nil (some [e6, e7]) .nil) none .nil))) none .nil) none .nil) none (.node (.node (.node (.node .nil none (.node .nil (some [e10]) .nil)) none .nil) none (.node .nil none (.node (.node .nil (some [e5]) .nil) none .nil))) none (.node .nil none (.node (.node .nil none (.node (.node .nil (some [e0, e1, e2, e3, e4]) .nil) none .nil)) none (.node (.node .nil (some [e8]) .nil) none .nil)))))
theorem T3_ok : MemoOK Try.prog T3 := ⟨trivial, ⟨trivial, ⟨trivial, ⟨trivial, ⟨trivial, trivial, ⟨⟨k9, trivial⟩, trivial, trivial⟩⟩, ⟨⟨k11, trivial⟩, trivial, ⟨trivial, ⟨⟨k6, k7, trivial⟩, trivial, trivial⟩, trivial⟩⟩⟩, trivial⟩, trivial⟩, ⟨trivial, ⟨trivial, ⟨trivial, ⟨trivial, trivial, ⟨⟨k10, trivial⟩, trivial, trivial⟩⟩, trivial⟩, ⟨trivial, trivial, ⟨trivial, ⟨⟨k5, trivial⟩, trivial, trivial⟩, trivial⟩⟩⟩, ⟨trivial, trivial, ⟨trivial, ⟨trivial, trivial, ⟨trivial, ⟨⟨k0, k1, k2, k3, k4, trivial⟩, trivial, trivial⟩, trivial⟩⟩, ⟨trivial, ⟨⟨k8, trivial⟩, trivial, trivial⟩, trivial⟩⟩⟩⟩⟩
end Go.Av
end
noncomputable section
namespace Go.Av
open Go Go.Proofs
def e12 : List DV × AV := ([], (.d (.bool true)))
theorem k12 : KnownCall Try.prog 8 e12.1 e12.2 := known T3_ok Et_ok (by kernel_rfl) Ft_ok (k := 100000) (n := 60) (by kernel_rfl)
end Go.Av
end
noncomputable section
namespace Go.Av
open Go Go.Proofs
set_option maxRecDepth 10000
theorem awake9 : KnownCall Try.prog 8 [] (.d (.bool true)) := k12
end Go.Av
end

/-
  Parts of the way to the law, joined: rules for code over data, and what the functions return. Conditions stand at each.
-/
import Derived.Test.YtbhonjkfkdeneaaGreatW4
import Derived.Test.YtbhonjkfkdeneaaGreatW2
import Derived.Test.YtbhonjkfkdeneaaGreatW3
noncomputable section
namespace Go.Av
open Go Go.Proofs
set_option maxRecDepth 10000
abbrev cellG (g : Gram) : DV := .ep [.int .i64 g.k, strs g.tokens, .str g.sep, strs g.names, .int .i64 g.start, .sl 2 (g.prods.map encP)]
theorem symbols1 (g : Gram) (s : Int) (hf : Fits g) : KnownCall Tryz.prog 169 [.int .i64 s, cellG g] (.d (.bool (!goodS g s))) := by
  refine knownE Et_ok (fnAt Tryz.func169 (by kernel_rfl) (by kernel_rfl) : FnAt _ _ (mkFn Tryz.f169 [])) ?_
  repeat' (first
    | refine Run.region ?_
    | refine Run.seq ?_
    | ((refine oB (frz := []) Et_ok (fun h => ?_) (fun h => ?_)) <;> (first | (exfalso; simp at h <;> fail) | (exfalso; simp at h; omega) | skip))
    | ((refine eB (fun h => ?_) (fun h => ?_)) <;> (first | (exfalso; simp at h <;> fail) | (exfalso; simp at h; omega) | skip))
    | refine oX (frz := []) Et_ok ?_
    | refine oS ?_
    | refine RunOps.nil ?_
    | refine Run.skip ?_
    | refine cT ?_
    | refine cF ?_
    | refine Run.block ?_
    | refine Run.exit ?_
    | refine Run.draw (frz := []) Et_ok (by kernel_rfl) ?_
    | refine eX ?_
    | refine eS ?_
    | refine eN ?_
    | ((refine oK (terminal g _) (fun h => ?_) (fun h => ?_)) <;> (first | (exfalso; simp at h <;> fail) | (exfalso; simp at h; omega) | skip))
    | refine oC (terminal g _) ?_
    | ((refine eK (terminal g _) (fun h => ?_) (fun h => ?_)) <;> (first | (exfalso; simp at h <;> fail) | (exfalso; simp at h; omega) | skip))
    | refine eC (terminal g _) ?_
    | ((refine oK (nonterminal g _ hf) (fun h => ?_) (fun h => ?_)) <;> (first | (exfalso; simp at h <;> fail) | (exfalso; simp at h; omega) | skip))
    | refine oC (nonterminal g _ hf) ?_
    | ((refine eK (nonterminal g _ hf) (fun h => ?_) (fun h => ?_)) <;> (first | (exfalso; simp at h <;> fail) | (exfalso; simp at h; omega) | skip))
    | refine eC (nonterminal g _ hf) ?_
    | (refine Run.ret ?_; (first | refine rB ?_ | refine rI ?_ | refine rA ?_ | refine rII ?_ | refine rSI ?_ | refine rT ?_ | refine rS ?_); first | done | (first | (simp_all [goodS] <;> fail) | (simp_all [goodS]; omega)))
    | fail)
open Classical in
def badP (g : Gram) (p : GProd) : Bool := !isNonterm g p.left || p.right.any (fun s => !goodS g s)
theorem badP_iff (g : Gram) (p : GProd) : badP g p = false ↔ goodP g p := by
  simp only [badP, goodP, Bool.or_eq_false_iff, Bool.not_eq_false', List.any_eq_false]
  refine and_congr Iff.rfl (forall_congr' fun s => forall_congr' fun _ => ?_)
  simp
open Classical in
def symsG (g : Gram) : Int := if symbolsOK g then 0 else 14
theorem symbols (g : Gram) (hf : Fits g) : KnownCall Tryz.prog 80 [encG g] (.d (.int .i64 (symsG g))) := by
  have hfp := hf.prods
  cases hst : isNonterm g g.start with
  | false =>
    have e : symsG g = 14 := by unfold symsG; rw [if_neg]; exact fun h => by rw [h.1] at hst; cases hst
    rw [e]
    have hc := nonterminal g g.start hf
    rw [hst] at hc
    refine knownE Et_ok (fnAt Tryz.func80 (by kernel_rfl) (by kernel_rfl) : FnAt _ _ (mkFn Tryz.f80 [1])) ?_
    repeat' (first
      | refine Run.region ?_
      | refine Run.seq ?_
      | ((refine oB (frz := [1]) Et_ok (fun h => ?_) (fun h => ?_)) <;> (first | (exfalso; simp at h <;> fail) | (exfalso; simp at h; omega) | skip))
      | ((refine eB (fun h => ?_) (fun h => ?_)) <;> (first | (exfalso; simp at h <;> fail) | (exfalso; simp at h; omega) | skip))
      | refine oX (frz := [1]) Et_ok ?_
      | refine oS ?_
      | refine RunOps.nil ?_
      | refine Run.skip ?_
      | refine cT ?_
      | refine cF ?_
      | refine Run.block ?_
      | refine Run.exit ?_
      | refine Run.draw (frz := [1]) Et_ok (by kernel_rfl) ?_
      | refine eX ?_
      | refine eS ?_
      | refine eN ?_
      | ((refine oK (hc) (fun h => ?_) (fun h => ?_)) <;> (first | (exfalso; simp at h <;> fail) | (exfalso; simp at h; omega) | skip))
      | refine oC (hc) ?_
      | ((refine eK (hc) (fun h => ?_) (fun h => ?_)) <;> (first | (exfalso; simp at h <;> fail) | (exfalso; simp at h; omega) | skip))
      | refine eC (hc) ?_
      | (refine Run.ret ?_; (first | refine rB ?_ | refine rI ?_ | refine rA ?_ | refine rII ?_ | refine rSI ?_ | refine rT ?_ | refine rS ?_); first | done | (rfl))
      | fail)
  | true =>
    have hc := nonterminal g g.start hf
    rw [hst] at hc
    refine knownE Et_ok (fnAt Tryz.func80 (by kernel_rfl) (by kernel_rfl) : FnAt _ _ (mkFn Tryz.f80 [1])) ?_
    repeat' (first
      | refine Run.region ?_
      | refine Run.seq ?_
      | ((refine oB (frz := [1]) Et_ok (fun h => ?_) (fun h => ?_)) <;> (first | (exfalso; simp at h <;> fail) | (exfalso; simp at h; omega) | skip))
      | ((refine eB (fun h => ?_) (fun h => ?_)) <;> (first | (exfalso; simp at h <;> fail) | (exfalso; simp at h; omega) | skip))
      | refine oX (frz := [1]) Et_ok ?_
      | refine oS ?_
      | refine RunOps.nil ?_
      | refine Run.skip ?_
      | refine cT ?_
      | refine cF ?_
      | refine Run.block ?_
      | refine Run.exit ?_
      | refine Run.draw (frz := [1]) Et_ok (by kernel_rfl) ?_
      | refine eX ?_
      | refine eS ?_
      | refine eN ?_
      | refine oC (hc) ?_
      | refine eC (hc) ?_
      | ((refine oK (prodsOf g) (fun h => ?_) (fun h => ?_)) <;> (first | (exfalso; simp at h <;> fail) | (exfalso; simp at h; omega) | skip))
      | refine oC (prodsOf g) ?_
      | ((refine eK (prodsOf g) (fun h => ?_) (fun h => ?_)) <;> (first | (exfalso; simp at h <;> fail) | (exfalso; simp at h; omega) | skip))
      | refine eC (prodsOf g) ?_
      | (refine Run.ret ?_; (first | refine rB ?_ | refine rI ?_ | refine rA ?_ | refine rII ?_ | refine rSI ?_ | refine rT ?_ | refine rS ?_); first | done | (rfl))
      | fail)
    obtain ⟨n, hn⟩ : ∃ n, n = g.prods.findIdx (fun p => badP g p) := ⟨_, rfl⟩
    have hidx : n ≤ g.prods.length := by rw [hn]; exact List.findIdx_le_length
    have hcase : n < g.prods.length ∨ n = g.prods.length := by omega
    refine Run.rangeProds (frz := [1]) 1 (fun _ => [.box [.d (.int .i64 0)]]) g.prods (Nat.le_trans hf.prods (by decide)) (by rfl) (fun _ => rfl) (fun _ => rfl) (by kernel_rfl) n hidx (fun k p hk hp => ?_) ?_
    · have hgood : badP g p = false := by
        rw [hn] at hk
        have := List.not_of_lt_findIdx hk
        have e : g.prods[k] = p := by rw [List.getElem?_eq_some_iff] at hp; exact hp.2
        simpa [e] using this
      have hpr := hf.rights p (List.mem_of_getElem? hp)
      have hg := (badP_iff g p).1 hgood
      have hnt := nonterminal g p.left hf
      rw [hg.1] at hnt
      have hcf := containsFuncInts p.right (by omega) 169 [cellG g] (fun s => !goodS g s) (fun s _ => symbols1 g s hf)
      rw [show p.right.any (fun s => !goodS g s) = false from by simp only [badP, Bool.or_eq_false_iff] at hgood; exact hgood.2] at hcf
      refine ayield_of_run (i := 2) (by rfl) (by rfl) (by rfl) ?_
      repeat (first
        | refine oX (frz := [1]) Et_ok ?_
        | refine oS ?_
        | refine RunOps.nil ?_
        | refine Run.region ?_
        | refine Run.seq ?_
        | refine Run.skip ?_
        | refine Run.block ?_
        | refine Run.exit ?_
        | refine Run.draw (frz := [1]) Et_ok (by kernel_rfl) ?_
        | refine eX ?_
        | refine eS ?_
        | refine eN ?_)
      refine ⟨rfl, _, _, _, _, _, _, _, by rfl, ?_⟩
      refine Run.less ?_
      repeat' (first
        | refine Run.region ?_
        | refine Run.seq ?_
        | ((refine oB (frz := [1]) Et_ok (fun h => ?_) (fun h => ?_)) <;> (first | (exfalso; simp at h <;> fail) | (exfalso; simp at h; omega) | skip))
        | ((refine eB (fun h => ?_) (fun h => ?_)) <;> (first | (exfalso; simp at h <;> fail) | (exfalso; simp at h; omega) | skip))
        | refine oX (frz := [1]) Et_ok ?_
        | refine oS ?_
        | refine RunOps.nil ?_
        | refine Run.skip ?_
        | refine cT ?_
        | refine cF ?_
        | refine Run.block ?_
        | refine Run.exit ?_
        | refine Run.draw (frz := [1]) Et_ok (by kernel_rfl) ?_
        | refine eX ?_
        | refine eS ?_
        | refine eN ?_
        | refine oC (hnt) ?_
        | refine eC (hnt) ?_
        | refine oC (hcf) ?_
        | refine eC (hcf) ?_
        | (exact ⟨rfl, _, less_of [] 3 rfl (by rfl) trivial trivial (by kernel_rfl) rfl, _, _, _, _, _, _, _, _, by rfl, rfl, by rfl⟩)
        | fail)
    · rcases hcase with hlt | hge
      · obtain ⟨p, hp⟩ := get_ok hlt
        have hbad : badP g p = true := by
          rw [hn] at hp hlt
          have := List.findIdx_getElem (p := fun p : GProd => badP g p) (xs := g.prods) (w := hlt)
          have e : g.prods[g.prods.findIdx fun p => badP g p] = p := by rw [List.getElem?_eq_some_iff] at hp; exact hp.2
          rw [e] at this
          simpa using this
        have hpr := hf.rights p (List.mem_of_getElem? hp)
        have e : symsG g = 14 := by
          unfold symsG
          rw [if_neg]
          intro h
          have := (badP_iff g p).2 (h.2 p (List.mem_of_getElem? hp))
          rw [hbad] at this; cases this
        rw [e]
        have hcf := containsFuncInts p.right (by omega) 169 [cellG g] (fun s => !goodS g s) (fun s _ => symbols1 g s hf)
        refine .inr ⟨p, [.box [.d (.int .i64 14)]], hp, rfl, .inl ⟨?_, ?_⟩⟩
        · cases hl : isNonterm g p.left with
          | false =>
            have hnt := nonterminal g p.left hf
            rw [hl] at hnt
            refine ayield_of_run (i := 2) (by rfl) (by rfl) (by rfl) ?_
            repeat (first
              | refine oX (frz := [1]) Et_ok ?_
              | refine oS ?_
              | refine RunOps.nil ?_
              | refine Run.region ?_
              | refine Run.seq ?_
              | refine Run.skip ?_
              | refine Run.block ?_
              | refine Run.exit ?_
              | refine Run.draw (frz := [1]) Et_ok (by kernel_rfl) ?_
              | refine eX ?_
              | refine eS ?_
              | refine eN ?_)
            refine ⟨rfl, _, _, _, _, _, _, _, by rfl, ?_⟩
            refine Run.less ?_
            repeat' (first
              | refine Run.region ?_
              | refine Run.seq ?_
              | ((refine oB (frz := [1]) Et_ok (fun h => ?_) (fun h => ?_)) <;> (first | (exfalso; simp at h <;> fail) | (exfalso; simp at h; omega) | skip))
              | ((refine eB (fun h => ?_) (fun h => ?_)) <;> (first | (exfalso; simp at h <;> fail) | (exfalso; simp at h; omega) | skip))
              | refine oX (frz := [1]) Et_ok ?_
              | refine oS ?_
              | refine RunOps.nil ?_
              | refine Run.skip ?_
              | refine cT ?_
              | refine cF ?_
              | refine Run.block ?_
              | refine Run.exit ?_
              | refine Run.draw (frz := [1]) Et_ok (by kernel_rfl) ?_
              | refine eX ?_
              | refine eS ?_
              | refine eN ?_
              | refine oC (hnt) ?_
              | refine eC (hnt) ?_
              | ((refine Run.ret ?_; exact ⟨rfl, _, less_of [] 3 rfl (by rfl) trivial trivial (by kernel_rfl) rfl, _, _, _, _, _, _, _, _, by rfl, rfl, by rfl⟩))
              | fail)
          | true =>
            have hnt := nonterminal g p.left hf
            rw [hl] at hnt
            rw [show p.right.any (fun s => !goodS g s) = true from by simpa [badP, hl] using hbad] at hcf
            refine ayield_of_run (i := 2) (by rfl) (by rfl) (by rfl) ?_
            repeat (first
              | refine oX (frz := [1]) Et_ok ?_
              | refine oS ?_
              | refine RunOps.nil ?_
              | refine Run.region ?_
              | refine Run.seq ?_
              | refine Run.skip ?_
              | refine Run.block ?_
              | refine Run.exit ?_
              | refine Run.draw (frz := [1]) Et_ok (by kernel_rfl) ?_
              | refine eX ?_
              | refine eS ?_
              | refine eN ?_)
            refine ⟨rfl, _, _, _, _, _, _, _, by rfl, ?_⟩
            refine Run.less ?_
            repeat' (first
              | refine Run.region ?_
              | refine Run.seq ?_
              | ((refine oB (frz := [1]) Et_ok (fun h => ?_) (fun h => ?_)) <;> (first | (exfalso; simp at h <;> fail) | (exfalso; simp at h; omega) | skip))
              | ((refine eB (fun h => ?_) (fun h => ?_)) <;> (first | (exfalso; simp at h <;> fail) | (exfalso; simp at h; omega) | skip))
              | refine oX (frz := [1]) Et_ok ?_
              | refine oS ?_
              | refine RunOps.nil ?_
              | refine Run.skip ?_
              | refine cT ?_
              | refine cF ?_
              | refine Run.block ?_
              | refine Run.exit ?_
              | refine Run.draw (frz := [1]) Et_ok (by kernel_rfl) ?_
              | refine eX ?_
              | refine eS ?_
              | refine eN ?_
              | refine oC (hnt) ?_
              | refine eC (hnt) ?_
              | refine oC (hcf) ?_
              | refine eC (hcf) ?_
              | ((refine Run.ret ?_; exact ⟨rfl, _, less_of [] 3 rfl (by rfl) trivial trivial (by kernel_rfl) rfl, _, _, _, _, _, _, _, _, by rfl, rfl, by rfl⟩))
              | fail)
        · refine ⟨trivial, _, _, by rfl, by rfl, Eq.trans (b := some (.d (.int .i64 14))) (by kernel_rfl) ?_⟩
          rfl
      · have e : symsG g = 0 := by
          unfold symsG
          rw [if_pos]
          refine ⟨hst, fun p hp => (badP_iff g p).1 ?_⟩
          cases hb : badP g p with
          | false => rfl
          | true =>
            have := List.findIdx_lt_length_of_exists (xs := g.prods) (p := fun p => badP g p) ⟨p, hp, hb⟩
            omega
        rw [e]
        refine .inl ⟨hge, ?_⟩
        repeat' (first
          | refine Run.region ?_
          | refine Run.seq ?_
          | ((refine oB (frz := [1]) Et_ok (fun h => ?_) (fun h => ?_)) <;> (first | (exfalso; simp at h <;> fail) | (exfalso; simp at h; omega) | skip))
          | ((refine eB (fun h => ?_) (fun h => ?_)) <;> (first | (exfalso; simp at h <;> fail) | (exfalso; simp at h; omega) | skip))
          | refine oX (frz := [1]) Et_ok ?_
          | refine oS ?_
          | refine RunOps.nil ?_
          | refine Run.skip ?_
          | refine cT ?_
          | refine cF ?_
          | refine Run.block ?_
          | refine Run.exit ?_
          | refine Run.draw (frz := [1]) Et_ok (by kernel_rfl) ?_
          | refine eX ?_
          | refine eS ?_
          | refine eN ?_
          | (refine Run.ret ?_; (first | refine rB ?_ | refine rI ?_ | refine rA ?_ | refine rII ?_ | refine rSI ?_ | refine rT ?_ | refine rS ?_); first | done | (rfl))
          | fail)
end Go.Av
end
noncomputable section
namespace Go.Av
open Go Go.Proofs
set_option maxRecDepth 10000
theorem first_or (P : Nat → Bool) : ∀ N : Nat, ∃ n, n ≤ N ∧ (∀ k, k < n → P k = false) ∧ (n = N ∨ (n < N ∧ P n = true))
  | 0 => ⟨0, Nat.le_refl _, fun k hk => by omega, .inl rfl⟩
  | N + 1 => by
    obtain ⟨n, h1, h2, h3⟩ := first_or P N
    rcases h3 with rfl | ⟨h3, h4⟩
    · cases hp : P n with
      | true => exact ⟨n, by omega, h2, .inr ⟨by omega, hp⟩⟩
      | false => exact ⟨n + 1, by omega, all_succ h2 hp, .inl rfl⟩
    · exact ⟨n, by omega, h2, .inr ⟨by omega, h4⟩⟩
open Classical in
def ordBad (g : Gram) (k : Nat) : Bool := decide (0 < k ∧ ∃ p q, g.prods[k - 1]? = some p ∧ g.prods[k]? = some q ∧ q.left < p.left)
open Classical in
theorem ordBad_iff (g : Gram) (k : Nat) : ordBad g k = true ↔ (0 < k ∧ ∃ p q, g.prods[k - 1]? = some p ∧ g.prods[k]? = some q ∧ q.left < p.left) := by unfold ordBad; exact decide_eq_true_iff
open Classical in
def orderedG (g : Gram) : Int := if orderBad g then 9 else 0
theorem ordered (g : Gram) (hf : Fits g) : KnownCall Tryz.prog 81 [encG g] (.d (.int .i64 (orderedG g))) := by
  have hfp := hf.prods
  refine knownE Et_ok (fnAt Tryz.func81 (by kernel_rfl) (by kernel_rfl) : FnAt _ _ (mkFn Tryz.f81 [1])) ?_
  repeat' (first
    | refine Run.region ?_
    | refine Run.seq ?_
    | ((refine oB (frz := [1]) Et_ok (fun h => ?_) (fun h => ?_)) <;> (first | (exfalso; simp at h <;> fail) | (exfalso; simp at h; omega) | skip))
    | ((refine eB (fun h => ?_) (fun h => ?_)) <;> (first | (exfalso; simp at h <;> fail) | (exfalso; simp at h; omega) | skip))
    | refine oX (frz := [1]) Et_ok ?_
    | refine oS ?_
    | refine RunOps.nil ?_
    | refine Run.skip ?_
    | refine cT ?_
    | refine cF ?_
    | refine Run.block ?_
    | refine Run.exit ?_
    | refine Run.draw (frz := [1]) Et_ok (by kernel_rfl) ?_
    | refine eX ?_
    | refine eS ?_
    | refine eN ?_
    | ((refine oK (prodsOf g) (fun h => ?_) (fun h => ?_)) <;> (first | (exfalso; simp at h <;> fail) | (exfalso; simp at h; omega) | skip))
    | refine oC (prodsOf g) ?_
    | ((refine eK (prodsOf g) (fun h => ?_) (fun h => ?_)) <;> (first | (exfalso; simp at h <;> fail) | (exfalso; simp at h; omega) | skip))
    | refine eC (prodsOf g) ?_
    | (refine Run.ret ?_; (first | refine rB ?_ | refine rI ?_ | refine rA ?_ | refine rII ?_ | refine rSI ?_ | refine rT ?_ | refine rS ?_); first | done | (skip))
    | fail)
  obtain ⟨n, hidx, hbefore, hcase⟩ := first_or (ordBad g) g.prods.length
  refine Run.rangeProds (frz := [1]) 1 (fun _ => [.box [.d (.int .i64 0)]]) g.prods (Nat.le_trans hf.prods (by decide)) (by rfl) (fun _ => rfl) (fun _ => rfl) (by kernel_rfl) n hidx (fun k p hk hp => ?_) ?_
  · have hgood := hbefore k hk
    have hkl := (List.getElem?_eq_some_iff.1 hp).1
    rcases k with _ | k
    · refine ayield_of_run (i := 2) (by rfl) (by rfl) (by rfl) ?_
      repeat (first
        | refine oX (frz := [1]) Et_ok ?_
        | refine oS ?_
        | refine RunOps.nil ?_
        | refine Run.region ?_
        | refine Run.seq ?_
        | refine Run.skip ?_
        | refine Run.block ?_
        | refine Run.exit ?_
        | refine Run.draw (frz := [1]) Et_ok (by kernel_rfl) ?_
        | refine eX ?_
        | refine eS ?_
        | refine eN ?_)
      refine ⟨rfl, _, _, _, _, _, _, _, by rfl, ?_⟩
      refine Run.less ?_
      repeat' (first
        | refine Run.region ?_
        | refine Run.seq ?_
        | ((refine oB (frz := [1]) Et_ok (fun h => ?_) (fun h => ?_)) <;> (first | (exfalso; simp at h <;> fail) | (exfalso; simp at h; omega) | skip))
        | ((refine eB (fun h => ?_) (fun h => ?_)) <;> (first | (exfalso; simp at h <;> fail) | (exfalso; simp at h; omega) | skip))
        | refine oX (frz := [1]) Et_ok ?_
        | refine oS ?_
        | refine RunOps.nil ?_
        | refine Run.skip ?_
        | refine cT ?_
        | refine cF ?_
        | refine Run.block ?_
        | refine Run.exit ?_
        | refine Run.draw (frz := [1]) Et_ok (by kernel_rfl) ?_
        | refine eX ?_
        | refine eS ?_
        | refine eN ?_
        | (exact ⟨rfl, _, less_of [] 3 rfl (by rfl) trivial trivial (by kernel_rfl) rfl, _, _, _, _, _, _, _, _, by rfl, rfl, by rfl⟩)
        | fail)
    · obtain ⟨q, hq⟩ := get_ok (show k < g.prods.length by omega)
      have hno : ¬ p.left < q.left := fun h => by
        have : ordBad g (k + 1) = true := (ordBad_iff _ _).2 ⟨Nat.succ_pos _, q, p, hq, hp, h⟩
        rw [this] at hgood; cases hgood
      have hw : IntKind.i64.wrap (((k + 1 : Nat) : Int) - 1) = (k : Nat) := by rw [wrap64 (by omega) (by omega)]; omega
      refine ayield_of_run (i := 2) (by rfl) (by rfl) (by rfl) ?_
      repeat (first
        | refine oX (frz := [1]) Et_ok ?_
        | refine oS ?_
        | refine RunOps.nil ?_
        | refine Run.region ?_
        | refine Run.seq ?_
        | refine Run.skip ?_
        | refine Run.block ?_
        | refine Run.exit ?_
        | refine Run.draw (frz := [1]) Et_ok (by kernel_rfl) ?_
        | refine eX ?_
        | refine eS ?_
        | refine eN ?_)
      refine ⟨rfl, _, _, _, _, _, _, _, by rfl, ?_⟩
      refine Run.less ?_
      repeat' (first
        | refine oX (frz := [1]) (v := .d (.int .i64 (k : Nat))) Et_ok ?_ (he := (congrArg (fun n => AV.d (.int .i64 n)) hw))
        | refine eX (v := .d (.int .i64 (k : Nat))) ?_ (he := (congrArg (fun n => AV.d (.int .i64 n)) hw))
        | refine Run.region ?_
        | refine Run.seq ?_
        | ((refine oB (frz := [1]) Et_ok (fun h => ?_) (fun h => ?_)) <;> (first | (exfalso; simp at h <;> fail) | (exfalso; simp at h; omega) | skip))
        | ((refine eB (fun h => ?_) (fun h => ?_)) <;> (first | (exfalso; simp at h <;> fail) | (exfalso; simp at h; omega) | skip))
        | refine oX (frz := [1]) Et_ok ?_
        | refine oS ?_
        | refine RunOps.nil ?_
        | refine Run.skip ?_
        | refine cT ?_
        | refine cF ?_
        | refine Run.block ?_
        | refine Run.exit ?_
        | refine Run.draw (frz := [1]) Et_ok (by kernel_rfl) ?_
        | refine eX ?_
        | refine eS ?_
        | refine eN ?_
        | refine oX (frz := [1]) (v := .d (.ep [.int .i64 q.left, ints q.right])) Et_ok ?_ (hf := (by first | (simp [inB] <;> fail) | (simp [inB]; omega))) (he := (by first | (simp [List.getD_eq_getElem?_getD, cellsD, hq, encP] <;> fail) | fail))
        | refine eX (v := .d (.ep [.int .i64 q.left, ints q.right])) ?_ (hf := (by first | (simp [inB] <;> fail) | (simp [inB]; omega))) (he := (by first | (simp [List.getD_eq_getElem?_getD, cellsD, hq, encP] <;> fail) | fail))
        | (exact ⟨rfl, _, less_of [] 3 rfl (by rfl) trivial trivial (by kernel_rfl) rfl, _, _, _, _, _, _, _, _, by rfl, rfl, by rfl⟩)
        | ((exfalso; first | (simp_all <;> fail) | (simp_all; omega)))
        | fail)
  · rcases hcase with hge | ⟨hlt, hbad⟩
    · have e : orderedG g = 0 := by
        unfold orderedG
        rw [if_neg]
        rintro ⟨i, p, q, h1, h2, h3⟩
        have hi := (List.getElem?_eq_some_iff.1 h2).1
        have := hbefore (i + 1) (by omega)
        rw [show ordBad g (i + 1) = true from (ordBad_iff _ _).2 ⟨Nat.succ_pos _, p, q, h1, h2, h3⟩] at this
        cases this
      rw [e]
      refine .inl ⟨hge, ?_⟩
      repeat' (first
        | refine Run.region ?_
        | refine Run.seq ?_
        | ((refine oB (frz := [1]) Et_ok (fun h => ?_) (fun h => ?_)) <;> (first | (exfalso; simp at h <;> fail) | (exfalso; simp at h; omega) | skip))
        | ((refine eB (fun h => ?_) (fun h => ?_)) <;> (first | (exfalso; simp at h <;> fail) | (exfalso; simp at h; omega) | skip))
        | refine oX (frz := [1]) Et_ok ?_
        | refine oS ?_
        | refine RunOps.nil ?_
        | refine Run.skip ?_
        | refine cT ?_
        | refine cF ?_
        | refine Run.block ?_
        | refine Run.exit ?_
        | refine Run.draw (frz := [1]) Et_ok (by kernel_rfl) ?_
        | refine eX ?_
        | refine eS ?_
        | refine eN ?_
        | (refine Run.ret ?_; (first | refine rB ?_ | refine rI ?_ | refine rA ?_ | refine rII ?_ | refine rSI ?_ | refine rT ?_ | refine rS ?_); first | done | (rfl))
        | fail)
    · have hb := (ordBad_iff _ _).1 hbad
      obtain ⟨hn0, q, p, hq, hp, hlt2⟩ := hb
      rcases n with _ | k
      · omega
      · have hq : g.prods[k]? = some q := hq
        have e : orderedG g = 9 := by unfold orderedG; rw [if_pos ⟨k, q, p, hq, hp, hlt2⟩]
        rw [e]
        have hkl := (List.getElem?_eq_some_iff.1 hp).1
        have hw : IntKind.i64.wrap (((k + 1 : Nat) : Int) - 1) = (k : Nat) := by rw [wrap64 (by omega) (by omega)]; omega
        refine .inr ⟨p, [.box [.d (.int .i64 9)]], hp, rfl, .inl ⟨?_, ?_⟩⟩
        · refine ayield_of_run (i := 2) (by rfl) (by rfl) (by rfl) ?_
          repeat (first
            | refine oX (frz := [1]) Et_ok ?_
            | refine oS ?_
            | refine RunOps.nil ?_
            | refine Run.region ?_
            | refine Run.seq ?_
            | refine Run.skip ?_
            | refine Run.block ?_
            | refine Run.exit ?_
            | refine Run.draw (frz := [1]) Et_ok (by kernel_rfl) ?_
            | refine eX ?_
            | refine eS ?_
            | refine eN ?_)
          refine ⟨rfl, _, _, _, _, _, _, _, by rfl, ?_⟩
          refine Run.less ?_
          repeat' (first
            | refine oX (frz := [1]) (v := .d (.int .i64 (k : Nat))) Et_ok ?_ (he := (congrArg (fun n => AV.d (.int .i64 n)) hw))
            | refine eX (v := .d (.int .i64 (k : Nat))) ?_ (he := (congrArg (fun n => AV.d (.int .i64 n)) hw))
            | refine Run.region ?_
            | refine Run.seq ?_
            | ((refine oB (frz := [1]) Et_ok (fun h => ?_) (fun h => ?_)) <;> (first | (exfalso; simp at h <;> fail) | (exfalso; simp at h; omega) | skip))
            | ((refine eB (fun h => ?_) (fun h => ?_)) <;> (first | (exfalso; simp at h <;> fail) | (exfalso; simp at h; omega) | skip))
            | refine oX (frz := [1]) Et_ok ?_
            | refine oS ?_
            | refine RunOps.nil ?_
            | refine Run.skip ?_
            | refine cT ?_
            | refine cF ?_
            | refine Run.block ?_
            | refine Run.exit ?_
            | refine Run.draw (frz := [1]) Et_ok (by kernel_rfl) ?_
            | refine eX ?_
            | refine eS ?_
            | refine eN ?_
            | refine oX (frz := [1]) (v := .d (.ep [.int .i64 q.left, ints q.right])) Et_ok ?_ (hf := (by first | (simp [inB] <;> fail) | (simp [inB]; omega))) (he := (by first | (simp [List.getD_eq_getElem?_getD, cellsD, hq, encP] <;> fail) | fail))
            | refine eX (v := .d (.ep [.int .i64 q.left, ints q.right])) ?_ (hf := (by first | (simp [inB] <;> fail) | (simp [inB]; omega))) (he := (by first | (simp [List.getD_eq_getElem?_getD, cellsD, hq, encP] <;> fail) | fail))
            | ((refine Run.ret ?_; exact ⟨rfl, _, less_of [] 3 rfl (by rfl) trivial trivial (by kernel_rfl) rfl, _, _, _, _, _, _, _, _, by rfl, rfl, by rfl⟩))
            | ((exfalso; first | (simp_all <;> fail) | (simp_all; omega)))
            | fail)
        · refine ⟨trivial, _, _, by rfl, by rfl, Eq.trans (b := some (.d (.int .i64 9))) (by kernel_rfl) ?_⟩
          rfl
def checks (g : Gram) : List Int := [manyF g, namedG g, diffF g, symsG g, orderedG g, completeF g]
def firstErr : List Int → Int
  | [] => 0
  | e :: r => if e = 0 then firstErr r else e
def checkG (g : Gram) : Int := if g.k < 1 ∨ 4 < g.k then 2 else firstErr (checks g)
theorem firstErr_at : ∀ {l : List Int} {i : Nat} {e : Int}, l[i]? = some e → e ≠ 0 → (∀ j, j < i → l[j]? = some 0) → firstErr l = e
  | [], i, e, h, _, _ => by simp at h
  | a :: r, 0, e, h, he, _ => by simp at h; subst h; simp [firstErr, he]
  | a :: r, i + 1, e, h, he, hb => by
    have ha : a = 0 := by have := hb 0 (by omega); simpa using this
    subst ha
    simp only [firstErr, if_true]
    exact firstErr_at (i := i) (by simpa using h) he (fun j hj => by have := hb (j + 1) (by omega); simpa using this)
theorem firstErr_none : ∀ {l : List Int}, (∀ j, j < l.length → l[j]? = some 0) → firstErr l = 0
  | [], _ => rfl
  | a :: r, hb => by
    have ha : a = 0 := by have := hb 0 (by simp); simpa using this
    subst ha
    simp only [firstErr, if_true]
    exact firstErr_none (fun j hj => by have := hb (j + 1) (by simpa using hj); simpa using this)
abbrev looksD : List DV := [.fn (.func 77) [] [], .fn (.func 78) [] [], .fn (.func 79) [] [], .fn (.func 80) [] [], .fn (.func 81) [] [], .fn (.func 82) [] []]
theorem checkGr (g : Gram) (hf : Fits g) : KnownCall Tryz.prog 20 [encG g] (.d (.int .i64 (checkG g))) := by
  by_cases hk : g.k < 1 ∨ 4 < g.k
  · have e : checkG g = 2 := if_pos hk
    rw [e]
    refine knownE Et_ok (fnAt Tryz.func20 (by kernel_rfl) (by kernel_rfl) : FnAt _ _ (mkFn Tryz.f20 [1, 13, 200001])) ?_
    refine Run.seq ?_
    repeat' (first
      | refine Run.region ?_
      | refine Run.seq ?_
      | ((refine oB (frz := [1, 13, 200001]) Et_ok (fun h => ?_) (fun h => ?_)) <;> (first | (exfalso; simp at h <;> fail) | (exfalso; simp at h; omega) | skip))
      | ((refine eB (fun h => ?_) (fun h => ?_)) <;> (first | (exfalso; simp at h <;> fail) | (exfalso; simp at h; omega) | skip))
      | refine oX (frz := [1, 13, 200001]) Et_ok ?_
      | refine oS ?_
      | refine RunOps.nil ?_
      | refine Run.skip ?_
      | refine cT ?_
      | refine cF ?_
      | refine Run.block ?_
      | refine Run.exit ?_
      | refine Run.draw (frz := [1, 13, 200001]) Et_ok (by kernel_rfl) ?_
      | refine eX ?_
      | refine eS ?_
      | refine eN ?_
      | (refine Run.ret ?_; (first | refine rB ?_ | refine rI ?_ | refine rA ?_ | refine rII ?_ | refine rSI ?_ | refine rT ?_ | refine rS ?_); first | done | (skip))
      | fail)
    refine Run.scope ?_
    repeat' (first
      | refine Run.region ?_
      | refine Run.seq ?_
      | ((refine oB (frz := [1, 13, 200001]) Et_ok (fun h => ?_) (fun h => ?_)) <;> (first | (exfalso; simp at h <;> fail) | (exfalso; simp at h; omega) | skip))
      | ((refine eB (fun h => ?_) (fun h => ?_)) <;> (first | (exfalso; simp at h <;> fail) | (exfalso; simp at h; omega) | skip))
      | refine oX (frz := [1, 13, 200001]) Et_ok ?_
      | refine oS ?_
      | refine RunOps.nil ?_
      | refine Run.skip ?_
      | refine cT ?_
      | refine cF ?_
      | refine Run.block ?_
      | refine Run.exit ?_
      | refine Run.draw (frz := [1, 13, 200001]) Et_ok (by kernel_rfl) ?_
      | refine eX ?_
      | refine eS ?_
      | refine eN ?_
      | (refine Run.ret ?_; (first | refine rB ?_ | refine rI ?_ | refine rA ?_ | refine rII ?_ | refine rSI ?_ | refine rT ?_ | refine rS ?_); first | done | (rfl))
      | ((exfalso; first | (simp_all <;> fail) | (simp_all; omega)))
      | fail)
  · have e : checkG g = firstErr (checks g) := if_neg hk
    rw [e]
    rw [not_or] at hk
    refine knownE Et_ok (fnAt Tryz.func20 (by kernel_rfl) (by kernel_rfl) : FnAt _ _ (mkFn Tryz.f20 [1, 13, 200001])) ?_
    repeat' (first
      | refine Run.region ?_
      | refine Run.seq ?_
      | ((refine oB (frz := [1, 13, 200001]) Et_ok (fun h => ?_) (fun h => ?_)) <;> (first | (exfalso; simp at h <;> fail) | (exfalso; simp at h; omega) | skip))
      | ((refine eB (fun h => ?_) (fun h => ?_)) <;> (first | (exfalso; simp at h <;> fail) | (exfalso; simp at h; omega) | skip))
      | refine oX (frz := [1, 13, 200001]) Et_ok ?_
      | refine oS ?_
      | refine RunOps.nil ?_
      | refine Run.skip ?_
      | refine cT ?_
      | refine cF ?_
      | refine Run.block ?_
      | refine Run.exit ?_
      | refine Run.draw (frz := [1, 13, 200001]) Et_ok (by kernel_rfl) ?_
      | refine eX ?_
      | refine eS ?_
      | refine eN ?_
      | (refine Run.ret ?_; (first | refine rB ?_ | refine rI ?_ | refine rA ?_ | refine rII ?_ | refine rSI ?_ | refine rT ?_ | refine rS ?_); first | done | (skip))
      | fail)
    refine Run.scope ?_
    repeat' (first
      | refine Run.region ?_
      | refine Run.seq ?_
      | ((refine oB (frz := [1, 13, 200001]) Et_ok (fun h => ?_) (fun h => ?_)) <;> (first | (exfalso; simp at h <;> fail) | (exfalso; simp at h; omega) | skip))
      | ((refine eB (fun h => ?_) (fun h => ?_)) <;> (first | (exfalso; simp at h <;> fail) | (exfalso; simp at h; omega) | skip))
      | refine oX (frz := [1, 13, 200001]) Et_ok ?_
      | refine oS ?_
      | refine RunOps.nil ?_
      | refine Run.skip ?_
      | refine cT ?_
      | refine cF ?_
      | refine Run.block ?_
      | refine Run.exit ?_
      | refine Run.draw (frz := [1, 13, 200001]) Et_ok (by kernel_rfl) ?_
      | refine eX ?_
      | refine eS ?_
      | refine eN ?_
      | refine Run.label ?_
      | (refine Run.ret ?_; (first | refine rB ?_ | refine rI ?_ | refine rA ?_ | refine rII ?_ | refine rSI ?_ | refine rT ?_ | refine rS ?_); first | done | (skip))
      | ((exfalso; first | (simp_all <;> fail) | (simp_all; omega)))
      | fail)
    refine Run.loop (fun i : Nat => ⟨PT.ofList [(1, (.d (.ep [.int .i64 g.k, strs g.tokens, .str g.sep, strs g.names, .int .i64 g.start, .sl 2 (g.prods.map encP)]))), (2, .d (.int .i64 0)), (13, .d (.sl 1 looksD)), (14, .d (.int .i64 6)), (15, .d (.int .i64 i))], [], []⟩) (fun i => i ≤ 6 ∧ ∀ j, j < i → (checks g)[j]? = some 0) (fun i => 6 - i) 0 ⟨Nat.zero_le _, fun j hj => by omega⟩ (weak_of (by repeat' (first | exact trivial | refine ⟨rfl, ?_⟩))) (fun i hi => ?_)
    obtain ⟨hi1, hi2⟩ := hi
    have hcs : i = 0 ∨ i = 1 ∨ i = 2 ∨ i = 3 ∨ i = 4 ∨ i = 5 ∨ i = 6 := by omega
    rcases hcs with h | h | h | h | h | h | h <;> subst h
    · have hc := many g hf
      by_cases he : manyF g = 0
      · have hnext : (checks g)[0]? = some 0 := by rw [← he]; rfl
        rw [he] at hc
        repeat' (first
          | refine Run.region ?_
          | refine Run.seq ?_
          | ((refine oB (frz := [1, 13, 200001]) Et_ok (fun h => ?_) (fun h => ?_)) <;> (first | (exfalso; simp at h <;> fail) | (exfalso; simp at h; omega) | skip))
          | ((refine eB (fun h => ?_) (fun h => ?_)) <;> (first | (exfalso; simp at h <;> fail) | (exfalso; simp at h; omega) | skip))
          | refine oX (frz := [1, 13, 200001]) Et_ok ?_
          | refine oS ?_
          | refine RunOps.nil ?_
          | refine Run.skip ?_
          | refine cT ?_
          | refine cF ?_
          | refine Run.block ?_
          | refine Run.exit ?_
          | refine Run.draw (frz := [1, 13, 200001]) Et_ok (by kernel_rfl) ?_
          | refine eX ?_
          | refine eS ?_
          | refine eN ?_
          | refine oC (hc) ?_
          | refine eC (hc) ?_
          | (refine Run.ret ?_; (first | refine rB ?_ | refine rI ?_ | refine rA ?_ | refine rII ?_ | refine rSI ?_ | refine rT ?_ | refine rS ?_); first | done | (skip))
          | (exact ⟨1, ⟨by omega, all_succ hi2 hnext⟩, by omega, weak_of (by repeat' (first | exact trivial | refine ⟨rfl, ?_⟩))⟩)
          | fail)
      · repeat' (first
          | refine Run.region ?_
          | refine Run.seq ?_
          | ((refine oB (frz := [1, 13, 200001]) Et_ok (fun h => ?_) (fun h => ?_)) <;> (first | (exfalso; simp at h <;> fail) | (exfalso; simp at h; omega) | skip))
          | ((refine eB (fun h => ?_) (fun h => ?_)) <;> (first | (exfalso; simp at h <;> fail) | (exfalso; simp at h; omega) | skip))
          | refine oX (frz := [1, 13, 200001]) Et_ok ?_
          | refine oS ?_
          | refine RunOps.nil ?_
          | refine Run.skip ?_
          | refine cT ?_
          | refine cF ?_
          | refine Run.block ?_
          | refine Run.exit ?_
          | refine Run.draw (frz := [1, 13, 200001]) Et_ok (by kernel_rfl) ?_
          | refine eX ?_
          | refine eS ?_
          | refine eN ?_
          | refine oC (hc) ?_
          | refine eC (hc) ?_
          | (refine Run.ret ?_; (first | refine rB ?_ | refine rI ?_ | refine rA ?_ | refine rII ?_ | refine rSI ?_ | refine rT ?_ | refine rS ?_); first | done | (rw [firstErr_at (i := 0) (show (checks g)[0]? = some (manyF g) from rfl) he hi2]))
          | ((exfalso; (simp_all <;> fail)))
          | fail)
    · have hc := named g hf
      by_cases he : namedG g = 0
      · have hnext : (checks g)[1]? = some 0 := by rw [← he]; rfl
        rw [he] at hc
        repeat' (first
          | refine Run.region ?_
          | refine Run.seq ?_
          | ((refine oB (frz := [1, 13, 200001]) Et_ok (fun h => ?_) (fun h => ?_)) <;> (first | (exfalso; simp at h <;> fail) | (exfalso; simp at h; omega) | skip))
          | ((refine eB (fun h => ?_) (fun h => ?_)) <;> (first | (exfalso; simp at h <;> fail) | (exfalso; simp at h; omega) | skip))
          | refine oX (frz := [1, 13, 200001]) Et_ok ?_
          | refine oS ?_
          | refine RunOps.nil ?_
          | refine Run.skip ?_
          | refine cT ?_
          | refine cF ?_
          | refine Run.block ?_
          | refine Run.exit ?_
          | refine Run.draw (frz := [1, 13, 200001]) Et_ok (by kernel_rfl) ?_
          | refine eX ?_
          | refine eS ?_
          | refine eN ?_
          | refine oC (hc) ?_
          | refine eC (hc) ?_
          | (refine Run.ret ?_; (first | refine rB ?_ | refine rI ?_ | refine rA ?_ | refine rII ?_ | refine rSI ?_ | refine rT ?_ | refine rS ?_); first | done | (skip))
          | (exact ⟨2, ⟨by omega, all_succ hi2 hnext⟩, by omega, weak_of (by repeat' (first | exact trivial | refine ⟨rfl, ?_⟩))⟩)
          | fail)
      · repeat' (first
          | refine Run.region ?_
          | refine Run.seq ?_
          | ((refine oB (frz := [1, 13, 200001]) Et_ok (fun h => ?_) (fun h => ?_)) <;> (first | (exfalso; simp at h <;> fail) | (exfalso; simp at h; omega) | skip))
          | ((refine eB (fun h => ?_) (fun h => ?_)) <;> (first | (exfalso; simp at h <;> fail) | (exfalso; simp at h; omega) | skip))
          | refine oX (frz := [1, 13, 200001]) Et_ok ?_
          | refine oS ?_
          | refine RunOps.nil ?_
          | refine Run.skip ?_
          | refine cT ?_
          | refine cF ?_
          | refine Run.block ?_
          | refine Run.exit ?_
          | refine Run.draw (frz := [1, 13, 200001]) Et_ok (by kernel_rfl) ?_
          | refine eX ?_
          | refine eS ?_
          | refine eN ?_
          | refine oC (hc) ?_
          | refine eC (hc) ?_
          | (refine Run.ret ?_; (first | refine rB ?_ | refine rI ?_ | refine rA ?_ | refine rII ?_ | refine rSI ?_ | refine rT ?_ | refine rS ?_); first | done | (rw [firstErr_at (i := 1) (show (checks g)[1]? = some (namedG g) from rfl) he hi2]))
          | ((exfalso; (simp_all <;> fail)))
          | fail)
    · have hc := different g hf
      by_cases he : diffF g = 0
      · have hnext : (checks g)[2]? = some 0 := by rw [← he]; rfl
        rw [he] at hc
        repeat' (first
          | refine Run.region ?_
          | refine Run.seq ?_
          | ((refine oB (frz := [1, 13, 200001]) Et_ok (fun h => ?_) (fun h => ?_)) <;> (first | (exfalso; simp at h <;> fail) | (exfalso; simp at h; omega) | skip))
          | ((refine eB (fun h => ?_) (fun h => ?_)) <;> (first | (exfalso; simp at h <;> fail) | (exfalso; simp at h; omega) | skip))
          | refine oX (frz := [1, 13, 200001]) Et_ok ?_
          | refine oS ?_
          | refine RunOps.nil ?_
          | refine Run.skip ?_
          | refine cT ?_
          | refine cF ?_
          | refine Run.block ?_
          | refine Run.exit ?_
          | refine Run.draw (frz := [1, 13, 200001]) Et_ok (by kernel_rfl) ?_
          | refine eX ?_
          | refine eS ?_
          | refine eN ?_
          | refine oC (hc) ?_
          | refine eC (hc) ?_
          | (refine Run.ret ?_; (first | refine rB ?_ | refine rI ?_ | refine rA ?_ | refine rII ?_ | refine rSI ?_ | refine rT ?_ | refine rS ?_); first | done | (skip))
          | (exact ⟨3, ⟨by omega, all_succ hi2 hnext⟩, by omega, weak_of (by repeat' (first | exact trivial | refine ⟨rfl, ?_⟩))⟩)
          | fail)
      · repeat' (first
          | refine Run.region ?_
          | refine Run.seq ?_
          | ((refine oB (frz := [1, 13, 200001]) Et_ok (fun h => ?_) (fun h => ?_)) <;> (first | (exfalso; simp at h <;> fail) | (exfalso; simp at h; omega) | skip))
          | ((refine eB (fun h => ?_) (fun h => ?_)) <;> (first | (exfalso; simp at h <;> fail) | (exfalso; simp at h; omega) | skip))
          | refine oX (frz := [1, 13, 200001]) Et_ok ?_
          | refine oS ?_
          | refine RunOps.nil ?_
          | refine Run.skip ?_
          | refine cT ?_
          | refine cF ?_
          | refine Run.block ?_
          | refine Run.exit ?_
          | refine Run.draw (frz := [1, 13, 200001]) Et_ok (by kernel_rfl) ?_
          | refine eX ?_
          | refine eS ?_
          | refine eN ?_
          | refine oC (hc) ?_
          | refine eC (hc) ?_
          | (refine Run.ret ?_; (first | refine rB ?_ | refine rI ?_ | refine rA ?_ | refine rII ?_ | refine rSI ?_ | refine rT ?_ | refine rS ?_); first | done | (rw [firstErr_at (i := 2) (show (checks g)[2]? = some (diffF g) from rfl) he hi2]))
          | ((exfalso; (simp_all <;> fail)))
          | fail)
    · have hc := symbols g hf
      by_cases he : symsG g = 0
      · have hnext : (checks g)[3]? = some 0 := by rw [← he]; rfl
        rw [he] at hc
        repeat' (first
          | refine Run.region ?_
          | refine Run.seq ?_
          | ((refine oB (frz := [1, 13, 200001]) Et_ok (fun h => ?_) (fun h => ?_)) <;> (first | (exfalso; simp at h <;> fail) | (exfalso; simp at h; omega) | skip))
          | ((refine eB (fun h => ?_) (fun h => ?_)) <;> (first | (exfalso; simp at h <;> fail) | (exfalso; simp at h; omega) | skip))
          | refine oX (frz := [1, 13, 200001]) Et_ok ?_
          | refine oS ?_
          | refine RunOps.nil ?_
          | refine Run.skip ?_
          | refine cT ?_
          | refine cF ?_
          | refine Run.block ?_
          | refine Run.exit ?_
          | refine Run.draw (frz := [1, 13, 200001]) Et_ok (by kernel_rfl) ?_
          | refine eX ?_
          | refine eS ?_
          | refine eN ?_
          | refine oC (hc) ?_
          | refine eC (hc) ?_
          | (refine Run.ret ?_; (first | refine rB ?_ | refine rI ?_ | refine rA ?_ | refine rII ?_ | refine rSI ?_ | refine rT ?_ | refine rS ?_); first | done | (skip))
          | (exact ⟨4, ⟨by omega, all_succ hi2 hnext⟩, by omega, weak_of (by repeat' (first | exact trivial | refine ⟨rfl, ?_⟩))⟩)
          | fail)
      · repeat' (first
          | refine Run.region ?_
          | refine Run.seq ?_
          | ((refine oB (frz := [1, 13, 200001]) Et_ok (fun h => ?_) (fun h => ?_)) <;> (first | (exfalso; simp at h <;> fail) | (exfalso; simp at h; omega) | skip))
          | ((refine eB (fun h => ?_) (fun h => ?_)) <;> (first | (exfalso; simp at h <;> fail) | (exfalso; simp at h; omega) | skip))
          | refine oX (frz := [1, 13, 200001]) Et_ok ?_
          | refine oS ?_
          | refine RunOps.nil ?_
          | refine Run.skip ?_
          | refine cT ?_
          | refine cF ?_
          | refine Run.block ?_
          | refine Run.exit ?_
          | refine Run.draw (frz := [1, 13, 200001]) Et_ok (by kernel_rfl) ?_
          | refine eX ?_
          | refine eS ?_
          | refine eN ?_
          | refine oC (hc) ?_
          | refine eC (hc) ?_
          | (refine Run.ret ?_; (first | refine rB ?_ | refine rI ?_ | refine rA ?_ | refine rII ?_ | refine rSI ?_ | refine rT ?_ | refine rS ?_); first | done | (rw [firstErr_at (i := 3) (show (checks g)[3]? = some (symsG g) from rfl) he hi2]))
          | ((exfalso; (simp_all <;> fail)))
          | fail)
    · have hc := ordered g hf
      by_cases he : orderedG g = 0
      · have hnext : (checks g)[4]? = some 0 := by rw [← he]; rfl
        rw [he] at hc
        repeat' (first
          | refine Run.region ?_
          | refine Run.seq ?_
          | ((refine oB (frz := [1, 13, 200001]) Et_ok (fun h => ?_) (fun h => ?_)) <;> (first | (exfalso; simp at h <;> fail) | (exfalso; simp at h; omega) | skip))
          | ((refine eB (fun h => ?_) (fun h => ?_)) <;> (first | (exfalso; simp at h <;> fail) | (exfalso; simp at h; omega) | skip))
          | refine oX (frz := [1, 13, 200001]) Et_ok ?_
          | refine oS ?_
          | refine RunOps.nil ?_
          | refine Run.skip ?_
          | refine cT ?_
          | refine cF ?_
          | refine Run.block ?_
          | refine Run.exit ?_
          | refine Run.draw (frz := [1, 13, 200001]) Et_ok (by kernel_rfl) ?_
          | refine eX ?_
          | refine eS ?_
          | refine eN ?_
          | refine oC (hc) ?_
          | refine eC (hc) ?_
          | (refine Run.ret ?_; (first | refine rB ?_ | refine rI ?_ | refine rA ?_ | refine rII ?_ | refine rSI ?_ | refine rT ?_ | refine rS ?_); first | done | (skip))
          | (exact ⟨5, ⟨by omega, all_succ hi2 hnext⟩, by omega, weak_of (by repeat' (first | exact trivial | refine ⟨rfl, ?_⟩))⟩)
          | fail)
      · repeat' (first
          | refine Run.region ?_
          | refine Run.seq ?_
          | ((refine oB (frz := [1, 13, 200001]) Et_ok (fun h => ?_) (fun h => ?_)) <;> (first | (exfalso; simp at h <;> fail) | (exfalso; simp at h; omega) | skip))
          | ((refine eB (fun h => ?_) (fun h => ?_)) <;> (first | (exfalso; simp at h <;> fail) | (exfalso; simp at h; omega) | skip))
          | refine oX (frz := [1, 13, 200001]) Et_ok ?_
          | refine oS ?_
          | refine RunOps.nil ?_
          | refine Run.skip ?_
          | refine cT ?_
          | refine cF ?_
          | refine Run.block ?_
          | refine Run.exit ?_
          | refine Run.draw (frz := [1, 13, 200001]) Et_ok (by kernel_rfl) ?_
          | refine eX ?_
          | refine eS ?_
          | refine eN ?_
          | refine oC (hc) ?_
          | refine eC (hc) ?_
          | (refine Run.ret ?_; (first | refine rB ?_ | refine rI ?_ | refine rA ?_ | refine rII ?_ | refine rSI ?_ | refine rT ?_ | refine rS ?_); first | done | (rw [firstErr_at (i := 4) (show (checks g)[4]? = some (orderedG g) from rfl) he hi2]))
          | ((exfalso; (simp_all <;> fail)))
          | fail)
    · have hc := complete g hf
      by_cases he : completeF g = 0
      · have hnext : (checks g)[5]? = some 0 := by rw [← he]; rfl
        rw [he] at hc
        repeat' (first
          | refine Run.region ?_
          | refine Run.seq ?_
          | ((refine oB (frz := [1, 13, 200001]) Et_ok (fun h => ?_) (fun h => ?_)) <;> (first | (exfalso; simp at h <;> fail) | (exfalso; simp at h; omega) | skip))
          | ((refine eB (fun h => ?_) (fun h => ?_)) <;> (first | (exfalso; simp at h <;> fail) | (exfalso; simp at h; omega) | skip))
          | refine oX (frz := [1, 13, 200001]) Et_ok ?_
          | refine oS ?_
          | refine RunOps.nil ?_
          | refine Run.skip ?_
          | refine cT ?_
          | refine cF ?_
          | refine Run.block ?_
          | refine Run.exit ?_
          | refine Run.draw (frz := [1, 13, 200001]) Et_ok (by kernel_rfl) ?_
          | refine eX ?_
          | refine eS ?_
          | refine eN ?_
          | refine oC (hc) ?_
          | refine eC (hc) ?_
          | (refine Run.ret ?_; (first | refine rB ?_ | refine rI ?_ | refine rA ?_ | refine rII ?_ | refine rSI ?_ | refine rT ?_ | refine rS ?_); first | done | (skip))
          | (exact ⟨6, ⟨by omega, all_succ hi2 hnext⟩, by omega, weak_of (by repeat' (first | exact trivial | refine ⟨rfl, ?_⟩))⟩)
          | fail)
      · repeat' (first
          | refine Run.region ?_
          | refine Run.seq ?_
          | ((refine oB (frz := [1, 13, 200001]) Et_ok (fun h => ?_) (fun h => ?_)) <;> (first | (exfalso; simp at h <;> fail) | (exfalso; simp at h; omega) | skip))
          | ((refine eB (fun h => ?_) (fun h => ?_)) <;> (first | (exfalso; simp at h <;> fail) | (exfalso; simp at h; omega) | skip))
          | refine oX (frz := [1, 13, 200001]) Et_ok ?_
          | refine oS ?_
          | refine RunOps.nil ?_
          | refine Run.skip ?_
          | refine cT ?_
          | refine cF ?_
          | refine Run.block ?_
          | refine Run.exit ?_
          | refine Run.draw (frz := [1, 13, 200001]) Et_ok (by kernel_rfl) ?_
          | refine eX ?_
          | refine eS ?_
          | refine eN ?_
          | refine oC (hc) ?_
          | refine eC (hc) ?_
          | (refine Run.ret ?_; (first | refine rB ?_ | refine rI ?_ | refine rA ?_ | refine rII ?_ | refine rSI ?_ | refine rT ?_ | refine rS ?_); first | done | (rw [firstErr_at (i := 5) (show (checks g)[5]? = some (completeF g) from rfl) he hi2]))
          | ((exfalso; (simp_all <;> fail)))
          | fail)
    · repeat' (first
        | refine Run.region ?_
        | refine Run.seq ?_
        | ((refine oB (frz := [1, 13, 200001]) Et_ok (fun h => ?_) (fun h => ?_)) <;> (first | (exfalso; simp at h <;> fail) | (exfalso; simp at h; omega) | skip))
        | ((refine eB (fun h => ?_) (fun h => ?_)) <;> (first | (exfalso; simp at h <;> fail) | (exfalso; simp at h; omega) | skip))
        | refine oX (frz := [1, 13, 200001]) Et_ok ?_
        | refine oS ?_
        | refine RunOps.nil ?_
        | refine Run.skip ?_
        | refine cT ?_
        | refine cF ?_
        | refine Run.block ?_
        | refine Run.exit ?_
        | refine Run.draw (frz := [1, 13, 200001]) Et_ok (by kernel_rfl) ?_
        | refine eX ?_
        | refine eS ?_
        | refine eN ?_
        | (refine Run.ret ?_; (first | refine rB ?_ | refine rI ?_ | refine rA ?_ | refine rII ?_ | refine rSI ?_ | refine rT ?_ | refine rS ?_); first | done | (rw [firstErr_none (l := checks g) hi2]))
        | fail)
end Go.Av
end
noncomputable section
namespace Go.Av
open Go Go.Proofs
set_option maxRecDepth 10000
theorem named_zero {g : Gram} (h : namedF g = 0) : (∀ s ∈ smalls g, smallF s = true) ∧ ∀ s ∈ g.names, capitalF s = true := by
  unfold namedF at h
  split at h
  · omega
  · rename_i hn
    simp only [not_or, not_exists, not_and, Bool.not_eq_false] at hn
    exact hn
theorem small_capital {s : List Nat} (h1 : smallF s = true) (h2 : capitalF s = true) : False := by
  simp only [smallF, capitalF, Bool.and_eq_true, decide_eq_true_eq] at h1 h2
  omega
theorem allN_nodup {g : Gram} (h : namedF g = 0) : (allN g).Nodup ↔ (smalls g).Nodup ∧ g.names.Nodup := by
  obtain ⟨h1, h2⟩ := named_zero h
  rw [allN, List.nodup_append]
  refine ⟨fun h => ⟨h.1, h.2.1⟩, fun h => ⟨h.1, h.2, fun a ha b hb e => small_capital (h1 a ha) (e ▸ h2 b hb)⟩⟩
theorem checkG_eq (g : Gram) : checkG g = checkF g := by
  unfold checkG checkF
  split
  · rfl
  · simp only [checks, firstErr]
    by_cases h1 : manyF g = 0
    · simp only [h1, ne_eq, not_true_eq_false, if_false, if_true]
      by_cases h2 : g.tokens = [] ∨ g.names = []
      · have : namedG g = 5 := if_pos h2
        simp [this, h2]
      · have : namedG g = namedF g := if_neg h2
        simp only [this, if_neg h2]
        by_cases h3 : namedF g = 0
        · simp only [h3, if_true]
          by_cases h4 : (allN g).Nodup
          · have h5 := (allN_nodup h3).1 h4
            have h6 : diffF g = 0 := if_pos h4
            have h7 : namesF g = 0 := by unfold namesF; rw [if_neg (by simp [h5.1, h5.2]), h3]
            simp only [h6, h7, ne_eq, not_true_eq_false, if_false, if_true]
            unfold symsG orderedG completeF symbolsF
            by_cases a : symbolsOK g <;> by_cases b : orderBad g <;> by_cases c : missing g <;> simp [a, b, c]
          · have h6 : diffF g = 8 := if_neg h4
            have h7 : namesF g = 8 := by
              unfold namesF
              rw [if_pos]
              refine ⟨h3, ?_⟩
              by_cases h5 : (smalls g).Nodup
              · exact .inr fun h8 => h4 ((allN_nodup h3).2 ⟨h5, h8⟩)
              · exact .inl h5
            simp [h6, h7]
        · have h7 : namesF g = namedF g := by unfold namesF; rw [if_neg (by simp [h3])]
          simp [h3, h7]
    · simp [h1]
theorem grCheck (g : Gram) (hf : Fits g) : KnownCall Tryz.prog 20 [encG g] (.d (.int .i64 (checkF g))) := by rw [← checkG_eq]; exact checkGr g hf
end Go.Av
end
noncomputable section
namespace Go.Av
open Go Go.Proofs
set_option maxRecDepth 10000
end Go.Av
end
noncomputable section
namespace Go.Av
open Go Go.Proofs
set_option maxRecDepth 10000
end Go.Av
end
noncomputable section
namespace Go.Av
open Go Go.Proofs
set_option maxRecDepth 10000
end Go.Av
end
noncomputable section
namespace Go.Av
open Go Go.Proofs
set_option maxRecDepth 10000
theorem short (l : List (List Nat)) (most : Nat) (hl : l.length ≤ 1048576) : KnownCall Tryz.prog 63 [strs l, .int .i64 most] (.d (.bool (l.all fun s => decide (s.length ≤ most)))) := by
  refine knownE Et_ok (fnAt Tryz.func63 (by kernel_rfl) (by kernel_rfl) : FnAt _ _ (mkFn Tryz.f63 [])) ?_
  repeat' (first
    | refine Run.region ?_
    | refine Run.seq ?_
    | ((refine oB (frz := []) Et_ok (fun h => ?_) (fun h => ?_)) <;> (first | (exfalso; simp at h <;> fail) | (exfalso; simp at h; omega) | skip))
    | ((refine eB (fun h => ?_) (fun h => ?_)) <;> (first | (exfalso; simp at h <;> fail) | (exfalso; simp at h; omega) | skip))
    | refine oX (frz := []) Et_ok ?_
    | refine oS ?_
    | refine RunOps.nil ?_
    | refine Run.skip ?_
    | refine cT ?_
    | refine cF ?_
    | refine Run.block ?_
    | refine Run.exit ?_
    | refine Run.draw (frz := []) Et_ok (by kernel_rfl) ?_
    | refine eX ?_
    | refine eS ?_
    | refine eN ?_
    | (refine Run.ret ?_; (first | refine rB ?_ | refine rI ?_ | refine rA ?_ | refine rII ?_ | refine rSI ?_ | refine rT ?_ | refine rS ?_); first | done | (skip))
    | fail)
  refine Run.loop (fun i : Nat => ⟨PT.ofList [(0, .d (strs l)), (1, .d (.int .i64 most)), (5, .d (.int .i64 i))], [], []⟩) (fun i => i ≤ l.length ∧ (l.take i).all (fun s => decide (s.length ≤ most)) = true) (fun i => l.length - i) 0 ⟨Nat.zero_le _, rfl⟩ (weak_of (by repeat' (first | exact trivial | refine ⟨rfl, ?_⟩))) (fun i hi => ?_)
  rcases Nat.lt_or_ge i l.length with hlt | hge
  · obtain ⟨x, hx⟩ := get_ok hlt
    by_cases hxl : x.length ≤ most
    · have ht : (l.take (i + 1)).all (fun s => decide (s.length ≤ most)) = true := by rw [List.take_add_one, hx]; simp only [Option.toList_some, List.all_append, hi.2]; simp [hxl]
      repeat' (first
        | refine Run.region ?_
        | refine Run.seq ?_
        | ((refine oB (frz := []) Et_ok (fun h => ?_) (fun h => ?_)) <;> (first | (exfalso; simp at h <;> fail) | (exfalso; simp at h; omega) | skip))
        | ((refine eB (fun h => ?_) (fun h => ?_)) <;> (first | (exfalso; simp at h <;> fail) | (exfalso; simp at h; omega) | skip))
        | refine oX (frz := []) Et_ok ?_
        | refine oS ?_
        | refine RunOps.nil ?_
        | refine Run.skip ?_
        | refine cT ?_
        | refine cF ?_
        | refine Run.block ?_
        | refine Run.exit ?_
        | refine Run.draw (frz := []) Et_ok (by kernel_rfl) ?_
        | refine eX ?_
        | refine eS ?_
        | refine eN ?_
        | refine oX (frz := []) (v := .d (.ep [.str x])) Et_ok ?_ (hf := (by first | (simp [inB] <;> fail) | (simp [inB]; omega))) (he := (by first | (simp [List.getD_eq_getElem?_getD, cellsD, hx] <;> fail) | fail))
        | refine eX (v := .d (.ep [.str x])) ?_ (hf := (by first | (simp [inB] <;> fail) | (simp [inB]; omega))) (he := (by first | (simp [List.getD_eq_getElem?_getD, cellsD, hx] <;> fail) | fail))
        | (refine Run.ret ?_; (first | refine rB ?_ | refine rI ?_ | refine rA ?_ | refine rII ?_ | refine rSI ?_ | refine rT ?_ | refine rS ?_); first | done | (skip))
        | (exact ⟨i + 1, ⟨hlt, ht⟩, by omega, weak_of (by repeat' (first | exact trivial | refine ⟨rfl, ?_⟩ | refine ⟨(inc_get (k := i) (by kernel_rfl) (by omega)), ?_⟩))⟩)
        | ((exfalso; first | (simp_all <;> fail) | (simp_all; omega)))
        | fail)
    · have hf : (l.all fun s => decide (s.length ≤ most)) = false := by
        rw [List.all_eq_false]; exact ⟨x, List.mem_of_getElem? hx, by simpa using hxl⟩
      rw [hf]
      repeat' (first
        | refine Run.region ?_
        | refine Run.seq ?_
        | ((refine oB (frz := []) Et_ok (fun h => ?_) (fun h => ?_)) <;> (first | (exfalso; simp at h <;> fail) | (exfalso; simp at h; omega) | skip))
        | ((refine eB (fun h => ?_) (fun h => ?_)) <;> (first | (exfalso; simp at h <;> fail) | (exfalso; simp at h; omega) | skip))
        | refine oX (frz := []) Et_ok ?_
        | refine oS ?_
        | refine RunOps.nil ?_
        | refine Run.skip ?_
        | refine cT ?_
        | refine cF ?_
        | refine Run.block ?_
        | refine Run.exit ?_
        | refine Run.draw (frz := []) Et_ok (by kernel_rfl) ?_
        | refine eX ?_
        | refine eS ?_
        | refine eN ?_
        | refine oX (frz := []) (v := .d (.ep [.str x])) Et_ok ?_ (hf := (by first | (simp [inB] <;> fail) | (simp [inB]; omega))) (he := (by first | (simp [List.getD_eq_getElem?_getD, cellsD, hx] <;> fail) | fail))
        | refine eX (v := .d (.ep [.str x])) ?_ (hf := (by first | (simp [inB] <;> fail) | (simp [inB]; omega))) (he := (by first | (simp [List.getD_eq_getElem?_getD, cellsD, hx] <;> fail) | fail))
        | (refine Run.ret ?_; (first | refine rB ?_ | refine rI ?_ | refine rA ?_ | refine rII ?_ | refine rSI ?_ | refine rT ?_ | refine rS ?_); first | done | (rfl))
        | ((exfalso; first | (simp_all <;> fail) | (simp_all; omega)))
        | fail)
  · have hie : i = l.length := by omega
    subst hie
    have ht := hi.2
    rw [List.take_length] at ht
    rw [ht]
    repeat' (first
      | refine Run.region ?_
      | refine Run.seq ?_
      | ((refine oB (frz := []) Et_ok (fun h => ?_) (fun h => ?_)) <;> (first | (exfalso; simp at h <;> fail) | (exfalso; simp at h; omega) | skip))
      | ((refine eB (fun h => ?_) (fun h => ?_)) <;> (first | (exfalso; simp at h <;> fail) | (exfalso; simp at h; omega) | skip))
      | refine oX (frz := []) Et_ok ?_
      | refine oS ?_
      | refine RunOps.nil ?_
      | refine Run.skip ?_
      | refine cT ?_
      | refine cF ?_
      | refine Run.block ?_
      | refine Run.exit ?_
      | refine Run.draw (frz := []) Et_ok (by kernel_rfl) ?_
      | refine eX ?_
      | refine eS ?_
      | refine eN ?_
      | (refine Run.ret ?_; (first | refine rB ?_ | refine rI ?_ | refine rA ?_ | refine rII ?_ | refine rSI ?_ | refine rT ?_ | refine rS ?_); first | done | (rfl))
      | ((exfalso; first | (simp_all <;> fail) | (simp_all; omega)))
      | fail)
theorem sameInts (a b : List Int) (hal : a.length ≤ 1099511627776) : KnownCall Tryz.prog 68 [ints a, ints b] (.d (.bool (decide (a = b)))) := by
  by_cases hlen : a.length = b.length
  · refine knownE Et_ok (fnAt Tryz.func68 (by kernel_rfl) (by kernel_rfl) : FnAt _ _ (mkFn Tryz.f68 [])) ?_
    repeat' (first
      | refine Run.region ?_
      | refine Run.seq ?_
      | ((refine oB (frz := []) Et_ok (fun h => ?_) (fun h => ?_)) <;> (first | (exfalso; simp at h <;> fail) | (exfalso; simp at h; omega) | skip))
      | ((refine eB (fun h => ?_) (fun h => ?_)) <;> (first | (exfalso; simp at h <;> fail) | (exfalso; simp at h; omega) | skip))
      | refine oX (frz := []) Et_ok ?_
      | refine oS ?_
      | refine RunOps.nil ?_
      | refine Run.skip ?_
      | refine cT ?_
      | refine cF ?_
      | refine Run.block ?_
      | refine Run.exit ?_
      | refine Run.draw (frz := []) Et_ok (by kernel_rfl) ?_
      | refine eX ?_
      | refine eS ?_
      | refine eN ?_
      | (refine Run.ret ?_; (first | refine rB ?_ | refine rI ?_ | refine rA ?_ | refine rII ?_ | refine rSI ?_ | refine rT ?_ | refine rS ?_); first | done | (skip))
      | ((exfalso; first | (simp_all <;> fail) | (simp_all; omega)))
      | fail)
    refine Run.loop (fun i : Nat => ⟨PT.ofList [(0, .d (ints a)), (1, .d (ints b)), (5, .d (.int .i64 i))], [], []⟩) (fun i => i ≤ a.length ∧ a.take i = b.take i) (fun i => a.length - i) 0 ⟨Nat.zero_le _, rfl⟩ (weak_of (by repeat' (first | exact trivial | refine ⟨rfl, ?_⟩))) (fun i hi => ?_)
    rcases Nat.lt_or_ge i a.length with hlt | hge
    · obtain ⟨x, hx⟩ := get_ok hlt
      obtain ⟨y, hy⟩ := get_ok (show i < b.length by omega)
      by_cases hxy : x = y
      · subst hxy
        have ht : a.take (i + 1) = b.take (i + 1) := by rw [List.take_add_one, List.take_add_one, hi.2, hx, hy]
        repeat' (first
          | refine Run.region ?_
          | refine Run.seq ?_
          | ((refine oB (frz := []) Et_ok (fun h => ?_) (fun h => ?_)) <;> (first | (exfalso; simp at h <;> fail) | (exfalso; simp at h; omega) | skip))
          | ((refine eB (fun h => ?_) (fun h => ?_)) <;> (first | (exfalso; simp at h <;> fail) | (exfalso; simp at h; omega) | skip))
          | refine oX (frz := []) Et_ok ?_
          | refine oS ?_
          | refine RunOps.nil ?_
          | refine Run.skip ?_
          | refine cT ?_
          | refine cF ?_
          | refine Run.block ?_
          | refine Run.exit ?_
          | refine Run.draw (frz := []) Et_ok (by kernel_rfl) ?_
          | refine eX ?_
          | refine eS ?_
          | refine eN ?_
          | refine oX (frz := []) (v := .d (.ep [.int .i64 x])) Et_ok ?_ (hf := (by first | (simp [inB] <;> fail) | (simp [inB]; omega))) (he := (by first | (simp [List.getD_eq_getElem?_getD, cellsD, hx] <;> fail) | fail))
          | refine eX (v := .d (.ep [.int .i64 x])) ?_ (hf := (by first | (simp [inB] <;> fail) | (simp [inB]; omega))) (he := (by first | (simp [List.getD_eq_getElem?_getD, cellsD, hx] <;> fail) | fail))
          | refine oX (frz := []) (v := .d (.ep [.int .i64 x])) Et_ok ?_ (hf := (by first | (simp [inB] <;> fail) | (simp [inB]; omega))) (he := (by first | (simp [List.getD_eq_getElem?_getD, cellsD, hy] <;> fail) | fail))
          | refine eX (v := .d (.ep [.int .i64 x])) ?_ (hf := (by first | (simp [inB] <;> fail) | (simp [inB]; omega))) (he := (by first | (simp [List.getD_eq_getElem?_getD, cellsD, hy] <;> fail) | fail))
          | (refine Run.ret ?_; (first | refine rB ?_ | refine rI ?_ | refine rA ?_ | refine rII ?_ | refine rSI ?_ | refine rT ?_ | refine rS ?_); first | done | (skip))
          | (exact ⟨i + 1, ⟨hlt, ht⟩, by omega, weak_of (by repeat' (first | exact trivial | refine ⟨rfl, ?_⟩ | refine ⟨(inc_get (k := i) (by kernel_rfl) (by omega)), ?_⟩))⟩)
          | ((exfalso; first | (simp_all <;> fail) | (simp_all; omega)))
          | fail)
      · have hne : a ≠ b := fun e => by subst e; rw [hx] at hy; cases hy; exact hxy rfl
        rw [decide_eq_false hne]
        repeat' (first
          | refine Run.region ?_
          | refine Run.seq ?_
          | ((refine oB (frz := []) Et_ok (fun h => ?_) (fun h => ?_)) <;> (first | (exfalso; simp at h <;> fail) | (exfalso; simp at h; omega) | skip))
          | ((refine eB (fun h => ?_) (fun h => ?_)) <;> (first | (exfalso; simp at h <;> fail) | (exfalso; simp at h; omega) | skip))
          | refine oX (frz := []) Et_ok ?_
          | refine oS ?_
          | refine RunOps.nil ?_
          | refine Run.skip ?_
          | refine cT ?_
          | refine cF ?_
          | refine Run.block ?_
          | refine Run.exit ?_
          | refine Run.draw (frz := []) Et_ok (by kernel_rfl) ?_
          | refine eX ?_
          | refine eS ?_
          | refine eN ?_
          | refine oX (frz := []) (v := .d (.ep [.int .i64 x])) Et_ok ?_ (hf := (by first | (simp [inB] <;> fail) | (simp [inB]; omega))) (he := (by first | (simp [List.getD_eq_getElem?_getD, cellsD, hx] <;> fail) | fail))
          | refine eX (v := .d (.ep [.int .i64 x])) ?_ (hf := (by first | (simp [inB] <;> fail) | (simp [inB]; omega))) (he := (by first | (simp [List.getD_eq_getElem?_getD, cellsD, hx] <;> fail) | fail))
          | refine oX (frz := []) (v := .d (.ep [.int .i64 y])) Et_ok ?_ (hf := (by first | (simp [inB] <;> fail) | (simp [inB]; omega))) (he := (by first | (simp [List.getD_eq_getElem?_getD, cellsD, hy] <;> fail) | fail))
          | refine eX (v := .d (.ep [.int .i64 y])) ?_ (hf := (by first | (simp [inB] <;> fail) | (simp [inB]; omega))) (he := (by first | (simp [List.getD_eq_getElem?_getD, cellsD, hy] <;> fail) | fail))
          | (refine Run.ret ?_; (first | refine rB ?_ | refine rI ?_ | refine rA ?_ | refine rII ?_ | refine rSI ?_ | refine rT ?_ | refine rS ?_); first | done | (rfl))
          | ((exfalso; first | (simp_all <;> fail) | (simp_all; omega)))
          | fail)
    · have hie : i = a.length := by have := hi.1; omega
      have hab : a = b := by have := hi.2; rw [hie, List.take_length, hlen, List.take_length] at this; exact this
      rw [decide_eq_true hab]
      repeat' (first
        | refine Run.region ?_
        | refine Run.seq ?_
        | ((refine oB (frz := []) Et_ok (fun h => ?_) (fun h => ?_)) <;> (first | (exfalso; simp at h <;> fail) | (exfalso; simp at h; omega) | skip))
        | ((refine eB (fun h => ?_) (fun h => ?_)) <;> (first | (exfalso; simp at h <;> fail) | (exfalso; simp at h; omega) | skip))
        | refine oX (frz := []) Et_ok ?_
        | refine oS ?_
        | refine RunOps.nil ?_
        | refine Run.skip ?_
        | refine cT ?_
        | refine cF ?_
        | refine Run.block ?_
        | refine Run.exit ?_
        | refine Run.draw (frz := []) Et_ok (by kernel_rfl) ?_
        | refine eX ?_
        | refine eS ?_
        | refine eN ?_
        | (refine Run.ret ?_; (first | refine rB ?_ | refine rI ?_ | refine rA ?_ | refine rII ?_ | refine rSI ?_ | refine rT ?_ | refine rS ?_); first | done | (rfl))
        | ((exfalso; first | (simp_all <;> fail) | (simp_all; omega)))
        | fail)
  · have hne : a ≠ b := fun e => by subst e; exact hlen rfl
    rw [decide_eq_false hne]
    refine knownE Et_ok (fnAt Tryz.func68 (by kernel_rfl) (by kernel_rfl) : FnAt _ _ (mkFn Tryz.f68 [])) ?_
    repeat' (first
      | refine Run.region ?_
      | refine Run.seq ?_
      | ((refine oB (frz := []) Et_ok (fun h => ?_) (fun h => ?_)) <;> (first | (exfalso; simp at h <;> fail) | (exfalso; simp at h; omega) | skip))
      | ((refine eB (fun h => ?_) (fun h => ?_)) <;> (first | (exfalso; simp at h <;> fail) | (exfalso; simp at h; omega) | skip))
      | refine oX (frz := []) Et_ok ?_
      | refine oS ?_
      | refine RunOps.nil ?_
      | refine Run.skip ?_
      | refine cT ?_
      | refine cF ?_
      | refine Run.block ?_
      | refine Run.exit ?_
      | refine Run.draw (frz := []) Et_ok (by kernel_rfl) ?_
      | refine eX ?_
      | refine eS ?_
      | refine eN ?_
      | (refine Run.ret ?_; (first | refine rB ?_ | refine rI ?_ | refine rA ?_ | refine rII ?_ | refine rSI ?_ | refine rT ?_ | refine rS ?_); first | done | (rfl))
      | ((exfalso; first | (simp_all <;> fail) | (simp_all; omega)))
      | fail)
def shortS (n : Nat) (l : List (List Nat)) : Bool := l.all fun s => decide (s.length ≤ n)
def lightF (g : Gram) : Bool := decide (g.tokens.length ≤ 10) && decide (g.names.length ≤ 10) && decide (g.prods.length ≤ 30) && decide (g.sep.length ≤ 40) && shortS 40 g.tokens && shortS 40 g.names && g.prods.all (fun p => decide (p.right.length ≤ 8))
theorem light_fits {g : Gram} (h : lightF g = true) : Fits g := by
  simp only [lightF, shortS, Bool.and_eq_true, decide_eq_true_eq, List.all_eq_true] at h
  obtain ⟨⟨⟨⟨⟨⟨h1, h2⟩, h3⟩, h4⟩, h5⟩, h6⟩, h7⟩ := h
  exact ⟨by omega, by omega, by omega, by omega, fun s hs => by have := h5 s hs; omega, fun s hs => by have := h6 s hs; omega, fun p hp => by have := h7 p hp; omega⟩
theorem light (g : Gram) : KnownCall Tryz.prog 13 [encG g] (.d (.bool (lightF g))) := by
  by_cases h0 : g.tokens.length ≤ 10 ∧ g.names.length ≤ 10 ∧ g.prods.length ≤ 30 ∧ g.sep.length ≤ 40
  · obtain ⟨h1, h2, h3, h4⟩ := h0
    have hs1 := short g.tokens 40 (by omega)
    have hs2 := short g.names 40 (by omega)
    by_cases hb : shortS 40 g.tokens = true ∧ shortS 40 g.names = true
    · rw [show lightF g = g.prods.all (fun p => decide (p.right.length ≤ 8)) from by simp [lightF, h1, h2, h3, h4, hb.1, hb.2]]
      have hb1 := hb.1
      have hb2 := hb.2
      simp only [shortS] at hb1 hb2
      rw [hb1] at hs1
      rw [hb2] at hs2
      refine knownE Et_ok (fnAt Tryz.func13 (by kernel_rfl) (by kernel_rfl) : FnAt _ _ (mkFn Tryz.f13 [1])) ?_
      repeat' (first
        | refine Run.region ?_
        | refine Run.seq ?_
        | ((refine oB (frz := [1]) Et_ok (fun h => ?_) (fun h => ?_)) <;> (first | (exfalso; simp at h <;> fail) | (exfalso; simp at h; omega) | skip))
        | ((refine eB (fun h => ?_) (fun h => ?_)) <;> (first | (exfalso; simp at h <;> fail) | (exfalso; simp at h; omega) | skip))
        | refine oX (frz := [1]) Et_ok ?_
        | refine oS ?_
        | refine RunOps.nil ?_
        | refine Run.skip ?_
        | refine cT ?_
        | refine cF ?_
        | refine Run.block ?_
        | refine Run.exit ?_
        | refine Run.draw (frz := [1]) Et_ok (by kernel_rfl) ?_
        | refine eX ?_
        | refine eS ?_
        | refine eN ?_
        | refine oC (hs1) ?_
        | refine eC (hs1) ?_
        | refine oC (hs2) ?_
        | refine eC (hs2) ?_
        | (refine Run.ret ?_; (first | refine rB ?_ | refine rI ?_ | refine rA ?_ | refine rII ?_ | refine rSI ?_ | refine rT ?_ | refine rS ?_); first | done | (skip))
        | ((exfalso; first | (simp_all <;> fail) | (simp_all; omega)))
        | fail)
      refine Run.loop (fun i : Nat => ⟨PT.ofList [(1, (.d (.ep [.int .i64 g.k, strs g.tokens, .str g.sep, strs g.names, .int .i64 g.start, .sl 2 (g.prods.map encP)]))), (3, .d (.int .i64 i))], [], []⟩) (fun i => i ≤ g.prods.length ∧ (g.prods.take i).all (fun p => decide (p.right.length ≤ 8)) = true) (fun i => g.prods.length - i) 0 ⟨Nat.zero_le _, rfl⟩ (weak_of (by repeat' (first | exact trivial | refine ⟨rfl, ?_⟩))) (fun i hi => ?_)
      rcases Nat.lt_or_ge i g.prods.length with hlt | hge
      · obtain ⟨p, hp⟩ := get_ok hlt
        by_cases hpl : p.right.length ≤ 8
        · have ht : (g.prods.take (i + 1)).all (fun p => decide (p.right.length ≤ 8)) = true := by rw [List.take_add_one, hp]; simp only [Option.toList_some, List.all_append, hi.2]; simp [hpl]
          repeat' (first
            | refine Run.region ?_
            | refine Run.seq ?_
            | ((refine oB (frz := [1]) Et_ok (fun h => ?_) (fun h => ?_)) <;> (first | (exfalso; simp at h <;> fail) | (exfalso; simp at h; omega) | skip))
            | ((refine eB (fun h => ?_) (fun h => ?_)) <;> (first | (exfalso; simp at h <;> fail) | (exfalso; simp at h; omega) | skip))
            | refine oX (frz := [1]) Et_ok ?_
            | refine oS ?_
            | refine RunOps.nil ?_
            | refine Run.skip ?_
            | refine cT ?_
            | refine cF ?_
            | refine Run.block ?_
            | refine Run.exit ?_
            | refine Run.draw (frz := [1]) Et_ok (by kernel_rfl) ?_
            | refine eX ?_
            | refine eS ?_
            | refine eN ?_
            | refine oX (frz := [1]) (v := .d (.ep [.int .i64 p.left, ints p.right])) Et_ok ?_ (hf := (by first | (simp [inB] <;> fail) | (simp [inB]; omega))) (he := (by first | (simp [List.getD_eq_getElem?_getD, cellsD, hp, encP] <;> fail) | fail))
            | refine eX (v := .d (.ep [.int .i64 p.left, ints p.right])) ?_ (hf := (by first | (simp [inB] <;> fail) | (simp [inB]; omega))) (he := (by first | (simp [List.getD_eq_getElem?_getD, cellsD, hp, encP] <;> fail) | fail))
            | (refine Run.ret ?_; (first | refine rB ?_ | refine rI ?_ | refine rA ?_ | refine rII ?_ | refine rSI ?_ | refine rT ?_ | refine rS ?_); first | done | (skip))
            | (exact ⟨i + 1, ⟨hlt, ht⟩, by omega, weak_of (by repeat' (first | exact trivial | refine ⟨rfl, ?_⟩ | refine ⟨(inc_get (k := i) (by kernel_rfl) (by omega)), ?_⟩))⟩)
            | ((exfalso; first | (simp_all <;> fail) | (simp_all; omega)))
            | fail)
        · have hf : (g.prods.all fun p => decide (p.right.length ≤ 8)) = false := by
            rw [List.all_eq_false]; exact ⟨p, List.mem_of_getElem? hp, by simpa using hpl⟩
          rw [hf]
          repeat' (first
            | refine Run.region ?_
            | refine Run.seq ?_
            | ((refine oB (frz := [1]) Et_ok (fun h => ?_) (fun h => ?_)) <;> (first | (exfalso; simp at h <;> fail) | (exfalso; simp at h; omega) | skip))
            | ((refine eB (fun h => ?_) (fun h => ?_)) <;> (first | (exfalso; simp at h <;> fail) | (exfalso; simp at h; omega) | skip))
            | refine oX (frz := [1]) Et_ok ?_
            | refine oS ?_
            | refine RunOps.nil ?_
            | refine Run.skip ?_
            | refine cT ?_
            | refine cF ?_
            | refine Run.block ?_
            | refine Run.exit ?_
            | refine Run.draw (frz := [1]) Et_ok (by kernel_rfl) ?_
            | refine eX ?_
            | refine eS ?_
            | refine eN ?_
            | refine oX (frz := [1]) (v := .d (.ep [.int .i64 p.left, ints p.right])) Et_ok ?_ (hf := (by first | (simp [inB] <;> fail) | (simp [inB]; omega))) (he := (by first | (simp [List.getD_eq_getElem?_getD, cellsD, hp, encP] <;> fail) | fail))
            | refine eX (v := .d (.ep [.int .i64 p.left, ints p.right])) ?_ (hf := (by first | (simp [inB] <;> fail) | (simp [inB]; omega))) (he := (by first | (simp [List.getD_eq_getElem?_getD, cellsD, hp, encP] <;> fail) | fail))
            | (refine Run.ret ?_; (first | refine rB ?_ | refine rI ?_ | refine rA ?_ | refine rII ?_ | refine rSI ?_ | refine rT ?_ | refine rS ?_); first | done | (rfl))
            | ((exfalso; first | (simp_all <;> fail) | (simp_all; omega)))
            | fail)
      · have hie : i = g.prods.length := by omega
        subst hie
        have ht := hi.2
        rw [List.take_length] at ht
        rw [ht]
        repeat' (first
          | refine Run.region ?_
          | refine Run.seq ?_
          | ((refine oB (frz := [1]) Et_ok (fun h => ?_) (fun h => ?_)) <;> (first | (exfalso; simp at h <;> fail) | (exfalso; simp at h; omega) | skip))
          | ((refine eB (fun h => ?_) (fun h => ?_)) <;> (first | (exfalso; simp at h <;> fail) | (exfalso; simp at h; omega) | skip))
          | refine oX (frz := [1]) Et_ok ?_
          | refine oS ?_
          | refine RunOps.nil ?_
          | refine Run.skip ?_
          | refine cT ?_
          | refine cF ?_
          | refine Run.block ?_
          | refine Run.exit ?_
          | refine Run.draw (frz := [1]) Et_ok (by kernel_rfl) ?_
          | refine eX ?_
          | refine eS ?_
          | refine eN ?_
          | (refine Run.ret ?_; (first | refine rB ?_ | refine rI ?_ | refine rA ?_ | refine rII ?_ | refine rSI ?_ | refine rT ?_ | refine rS ?_); first | done | (rfl))
          | ((exfalso; first | (simp_all <;> fail) | (simp_all; omega)))
          | fail)
    · have hf : lightF g = false := by
        have : (shortS 40 g.tokens && shortS 40 g.names) = false := by cases ha : shortS 40 g.tokens <;> cases hc : shortS 40 g.names <;> simp_all
        simp only [lightF, Bool.and_assoc]
        cases ha : shortS 40 g.tokens <;> cases hc : shortS 40 g.names <;> simp_all
      rw [hf]
      rw [show (g.tokens.all fun s => decide (s.length ≤ 40)) = shortS 40 g.tokens from rfl] at hs1
      rw [show (g.names.all fun s => decide (s.length ≤ 40)) = shortS 40 g.names from rfl] at hs2
      generalize shortS 40 g.tokens = u at hb hs1
      generalize shortS 40 g.names = v at hb hs2
      cases u <;> cases v
      · refine knownE Et_ok (fnAt Tryz.func13 (by kernel_rfl) (by kernel_rfl) : FnAt _ _ (mkFn Tryz.f13 [1])) ?_
        repeat' (first
          | refine Run.region ?_
          | refine Run.seq ?_
          | ((refine oB (frz := [1]) Et_ok (fun h => ?_) (fun h => ?_)) <;> (first | (exfalso; simp at h <;> fail) | (exfalso; simp at h; omega) | skip))
          | ((refine eB (fun h => ?_) (fun h => ?_)) <;> (first | (exfalso; simp at h <;> fail) | (exfalso; simp at h; omega) | skip))
          | refine oX (frz := [1]) Et_ok ?_
          | refine oS ?_
          | refine RunOps.nil ?_
          | refine Run.skip ?_
          | refine cT ?_
          | refine cF ?_
          | refine Run.block ?_
          | refine Run.exit ?_
          | refine Run.draw (frz := [1]) Et_ok (by kernel_rfl) ?_
          | refine eX ?_
          | refine eS ?_
          | refine eN ?_
          | refine oC (hs1) ?_
          | refine eC (hs1) ?_
          | refine oC (hs2) ?_
          | refine eC (hs2) ?_
          | (refine Run.ret ?_; (first | refine rB ?_ | refine rI ?_ | refine rA ?_ | refine rII ?_ | refine rSI ?_ | refine rT ?_ | refine rS ?_); first | done | (rfl))
          | ((exfalso; first | (simp_all <;> fail) | (simp_all; omega)))
          | fail)
      · refine knownE Et_ok (fnAt Tryz.func13 (by kernel_rfl) (by kernel_rfl) : FnAt _ _ (mkFn Tryz.f13 [1])) ?_
        repeat' (first
          | refine Run.region ?_
          | refine Run.seq ?_
          | ((refine oB (frz := [1]) Et_ok (fun h => ?_) (fun h => ?_)) <;> (first | (exfalso; simp at h <;> fail) | (exfalso; simp at h; omega) | skip))
          | ((refine eB (fun h => ?_) (fun h => ?_)) <;> (first | (exfalso; simp at h <;> fail) | (exfalso; simp at h; omega) | skip))
          | refine oX (frz := [1]) Et_ok ?_
          | refine oS ?_
          | refine RunOps.nil ?_
          | refine Run.skip ?_
          | refine cT ?_
          | refine cF ?_
          | refine Run.block ?_
          | refine Run.exit ?_
          | refine Run.draw (frz := [1]) Et_ok (by kernel_rfl) ?_
          | refine eX ?_
          | refine eS ?_
          | refine eN ?_
          | refine oC (hs1) ?_
          | refine eC (hs1) ?_
          | refine oC (hs2) ?_
          | refine eC (hs2) ?_
          | (refine Run.ret ?_; (first | refine rB ?_ | refine rI ?_ | refine rA ?_ | refine rII ?_ | refine rSI ?_ | refine rT ?_ | refine rS ?_); first | done | (rfl))
          | ((exfalso; first | (simp_all <;> fail) | (simp_all; omega)))
          | fail)
      · refine knownE Et_ok (fnAt Tryz.func13 (by kernel_rfl) (by kernel_rfl) : FnAt _ _ (mkFn Tryz.f13 [1])) ?_
        repeat' (first
          | refine Run.region ?_
          | refine Run.seq ?_
          | ((refine oB (frz := [1]) Et_ok (fun h => ?_) (fun h => ?_)) <;> (first | (exfalso; simp at h <;> fail) | (exfalso; simp at h; omega) | skip))
          | ((refine eB (fun h => ?_) (fun h => ?_)) <;> (first | (exfalso; simp at h <;> fail) | (exfalso; simp at h; omega) | skip))
          | refine oX (frz := [1]) Et_ok ?_
          | refine oS ?_
          | refine RunOps.nil ?_
          | refine Run.skip ?_
          | refine cT ?_
          | refine cF ?_
          | refine Run.block ?_
          | refine Run.exit ?_
          | refine Run.draw (frz := [1]) Et_ok (by kernel_rfl) ?_
          | refine eX ?_
          | refine eS ?_
          | refine eN ?_
          | refine oC (hs1) ?_
          | refine eC (hs1) ?_
          | refine oC (hs2) ?_
          | refine eC (hs2) ?_
          | (refine Run.ret ?_; (first | refine rB ?_ | refine rI ?_ | refine rA ?_ | refine rII ?_ | refine rSI ?_ | refine rT ?_ | refine rS ?_); first | done | (rfl))
          | ((exfalso; first | (simp_all <;> fail) | (simp_all; omega)))
          | fail)
      · exact absurd ⟨rfl, rfl⟩ hb
  · have hf : lightF g = false := by
      cases hl : lightF g with
      | false => rfl
      | true =>
        simp only [lightF, Bool.and_eq_true, decide_eq_true_eq] at hl
        exact absurd ⟨hl.1.1.1.1.1.1, hl.1.1.1.1.1.2, hl.1.1.1.1.2, hl.1.1.1.2⟩ h0
    rw [hf]
    refine knownE Et_ok (fnAt Tryz.func13 (by kernel_rfl) (by kernel_rfl) : FnAt _ _ (mkFn Tryz.f13 [1])) ?_
    repeat' (first
      | refine Run.region ?_
      | refine Run.seq ?_
      | ((refine oB (frz := [1]) Et_ok (fun h => ?_) (fun h => ?_)) <;> (first | (exfalso; simp at h <;> fail) | (exfalso; simp at h; omega) | skip))
      | ((refine eB (fun h => ?_) (fun h => ?_)) <;> (first | (exfalso; simp at h <;> fail) | (exfalso; simp at h; omega) | skip))
      | refine oX (frz := [1]) Et_ok ?_
      | refine oS ?_
      | refine RunOps.nil ?_
      | refine Run.skip ?_
      | refine cT ?_
      | refine cF ?_
      | refine Run.block ?_
      | refine Run.exit ?_
      | refine Run.draw (frz := [1]) Et_ok (by kernel_rfl) ?_
      | refine eX ?_
      | refine eS ?_
      | refine eN ?_
      | (refine Run.ret ?_; (first | refine rB ?_ | refine rI ?_ | refine rA ?_ | refine rII ?_ | refine rSI ?_ | refine rT ?_ | refine rS ?_); first | done | (rfl))
      | ((exfalso; first | (simp_all <;> fail) | (simp_all; omega)))
      | fail)
end Go.Av
end
noncomputable section
namespace Go.Av
open Go Go.Proofs
set_option maxRecDepth 10000
theorem ownTexts (l : List (List Nat)) (hl : l.length ≤ 1048576) : KnownCall Tryz.prog 70 [strs l] (.d (strs l)) := by
  refine knownE2 Et_ok (fnAt Tryz.func70 (by kernel_rfl) (by kernel_rfl) : FnAt _ _ (mkFn Tryz.f70 [])) ?_
  repeat' (first
    | refine Run.region ?_
    | refine Run.seq ?_
    | ((refine oB (frz := []) Et_ok (fun h => ?_) (fun h => ?_)) <;> (first | (exfalso; simp at h <;> fail) | (exfalso; simp at h; omega) | skip))
    | ((refine eB (fun h => ?_) (fun h => ?_)) <;> (first | (exfalso; simp at h <;> fail) | (exfalso; simp at h; omega) | skip))
    | refine oX (frz := []) Et_ok ?_
    | refine oS ?_
    | refine RunOps.nil ?_
    | refine Run.skip ?_
    | refine cT ?_
    | refine cF ?_
    | refine Run.block ?_
    | refine Run.exit ?_
    | refine Run.draw (frz := []) Et_ok (by kernel_rfl) ?_
    | refine eX ?_
    | refine eS ?_
    | refine eN ?_
    | refine oX (frz := []) Et_ok ?_ (hv := app1) (hf := rfl) (he := rfl)
    | refine eX ?_ (hv := app1) (hf := rfl) (he := rfl)
    | refine oX (frz := []) Et_ok ?_ (hv := app0) (hf := rfl) (he := rfl)
    | refine eX ?_ (hv := app0) (hf := rfl) (he := rfl)
    | (refine Run.ret ?_; refine r2 ?_; first | done | (exact .refl))
    | fail)
theorem ownInts (l : List Int) (hl : l.length ≤ 1048576) : KnownCall Tryz.prog 71 [ints l] (.d (ints l)) := by
  refine knownE2 Et_ok (fnAt Tryz.func71 (by kernel_rfl) (by kernel_rfl) : FnAt _ _ (mkFn Tryz.f71 [])) ?_
  repeat' (first
    | refine Run.region ?_
    | refine Run.seq ?_
    | ((refine oB (frz := []) Et_ok (fun h => ?_) (fun h => ?_)) <;> (first | (exfalso; simp at h <;> fail) | (exfalso; simp at h; omega) | skip))
    | ((refine eB (fun h => ?_) (fun h => ?_)) <;> (first | (exfalso; simp at h <;> fail) | (exfalso; simp at h; omega) | skip))
    | refine oX (frz := []) Et_ok ?_
    | refine oS ?_
    | refine RunOps.nil ?_
    | refine Run.skip ?_
    | refine cT ?_
    | refine cF ?_
    | refine Run.block ?_
    | refine Run.exit ?_
    | refine Run.draw (frz := []) Et_ok (by kernel_rfl) ?_
    | refine eX ?_
    | refine eS ?_
    | refine eN ?_
    | refine oX (frz := []) Et_ok ?_ (hv := app1) (hf := rfl) (he := rfl)
    | refine eX ?_ (hv := app1) (hf := rfl) (he := rfl)
    | refine oX (frz := []) Et_ok ?_ (hv := app0) (hf := rfl) (he := rfl)
    | refine eX ?_ (hv := app0) (hf := rfl) (he := rfl)
    | (refine Run.ret ?_; refine r2 ?_; first | done | (exact .refl))
    | fail)
theorem sameSelf (g : Gram) (hf : Fits g) : KnownCall Tryz.prog 25 [encG g, encG g] (.d (.bool true)) := by
  have hfp := hf.prods
  have hft := hf.tokens
  have hfn := hf.names
  have h1 := sameTexts g.tokens g.tokens (by omega)
  have h2 := sameTexts g.names g.names (by omega)
  rw [decide_eq_true rfl] at h1 h2
  refine knownE Et_ok (fnAt Tryz.func25 (by kernel_rfl) (by kernel_rfl) : FnAt _ _ (mkFn Tryz.f25 [2, 3])) ?_
  repeat' (first
    | refine Run.region ?_
    | refine Run.seq ?_
    | ((refine oB (frz := [2, 3]) Et_ok (fun h => ?_) (fun h => ?_)) <;> (first | (exfalso; simp at h <;> fail) | (exfalso; simp at h; omega) | skip))
    | ((refine eB (fun h => ?_) (fun h => ?_)) <;> (first | (exfalso; simp at h <;> fail) | (exfalso; simp at h; omega) | skip))
    | refine oX (frz := [2, 3]) Et_ok ?_
    | refine oS ?_
    | refine RunOps.nil ?_
    | refine Run.skip ?_
    | refine cT ?_
    | refine cF ?_
    | refine Run.block ?_
    | refine Run.exit ?_
    | refine Run.draw (frz := [2, 3]) Et_ok (by kernel_rfl) ?_
    | refine eX ?_
    | refine eS ?_
    | refine eN ?_
    | refine oC (h1) ?_
    | refine eC (h1) ?_
    | refine oC (h2) ?_
    | refine eC (h2) ?_
    | (refine Run.ret ?_; (first | refine rB ?_ | refine rI ?_ | refine rA ?_ | refine rII ?_ | refine rSI ?_ | refine rT ?_ | refine rS ?_); first | done | (skip))
    | ((exfalso; first | (simp_all <;> fail) | (simp_all; omega)))
    | fail)
  refine Run.loop (fun i : Nat => ⟨PT.ofList [(2, (.d (.ep [.int .i64 g.k, strs g.tokens, .str g.sep, strs g.names, .int .i64 g.start, .sl 2 (g.prods.map encP)]))), (3, (.d (.ep [.int .i64 g.k, strs g.tokens, .str g.sep, strs g.names, .int .i64 g.start, .sl 2 (g.prods.map encP)]))), (5, .d (.int .i64 i))], [], []⟩) (fun i => i ≤ g.prods.length) (fun i => g.prods.length - i) 0 (Nat.zero_le _) (weak_of (by repeat' (first | exact trivial | refine ⟨rfl, ?_⟩))) (fun i hi => ?_)
  rcases Nat.lt_or_ge i g.prods.length with hlt | hge
  · obtain ⟨p, hp⟩ := get_ok hlt
    have hpr := hf.rights p (List.mem_of_getElem? hp)
    have h3 := sameInts p.right p.right (by omega)
    rw [decide_eq_true rfl] at h3
    repeat' (first
      | refine Run.region ?_
      | refine Run.seq ?_
      | ((refine oB (frz := [2, 3]) Et_ok (fun h => ?_) (fun h => ?_)) <;> (first | (exfalso; simp at h <;> fail) | (exfalso; simp at h; omega) | skip))
      | ((refine eB (fun h => ?_) (fun h => ?_)) <;> (first | (exfalso; simp at h <;> fail) | (exfalso; simp at h; omega) | skip))
      | refine oX (frz := [2, 3]) Et_ok ?_
      | refine oS ?_
      | refine RunOps.nil ?_
      | refine Run.skip ?_
      | refine cT ?_
      | refine cF ?_
      | refine Run.block ?_
      | refine Run.exit ?_
      | refine Run.draw (frz := [2, 3]) Et_ok (by kernel_rfl) ?_
      | refine eX ?_
      | refine eS ?_
      | refine eN ?_
      | refine oX (frz := [2, 3]) (v := .d (.ep [.int .i64 p.left, ints p.right])) Et_ok ?_ (hf := (by first | (simp [inB] <;> fail) | (simp [inB]; omega))) (he := (by first | (simp [List.getD_eq_getElem?_getD, cellsD, hp, encP] <;> fail) | fail))
      | refine eX (v := .d (.ep [.int .i64 p.left, ints p.right])) ?_ (hf := (by first | (simp [inB] <;> fail) | (simp [inB]; omega))) (he := (by first | (simp [List.getD_eq_getElem?_getD, cellsD, hp, encP] <;> fail) | fail))
      | refine oC (h3) ?_
      | refine eC (h3) ?_
      | (refine Run.ret ?_; (first | refine rB ?_ | refine rI ?_ | refine rA ?_ | refine rII ?_ | refine rSI ?_ | refine rT ?_ | refine rS ?_); first | done | (skip))
      | (exact ⟨i + 1, hlt, by omega, weak_of (by repeat' (first | exact trivial | refine ⟨rfl, ?_⟩ | refine ⟨(inc_get (k := i) (by kernel_rfl) (by omega)), ?_⟩))⟩)
      | ((exfalso; first | (simp_all <;> fail) | (simp_all; omega)))
      | fail)
  · have hie : i = g.prods.length := by omega
    subst hie
    repeat' (first
      | refine Run.region ?_
      | refine Run.seq ?_
      | ((refine oB (frz := [2, 3]) Et_ok (fun h => ?_) (fun h => ?_)) <;> (first | (exfalso; simp at h <;> fail) | (exfalso; simp at h; omega) | skip))
      | ((refine eB (fun h => ?_) (fun h => ?_)) <;> (first | (exfalso; simp at h <;> fail) | (exfalso; simp at h; omega) | skip))
      | refine oX (frz := [2, 3]) Et_ok ?_
      | refine oS ?_
      | refine RunOps.nil ?_
      | refine Run.skip ?_
      | refine cT ?_
      | refine cF ?_
      | refine Run.block ?_
      | refine Run.exit ?_
      | refine Run.draw (frz := [2, 3]) Et_ok (by kernel_rfl) ?_
      | refine eX ?_
      | refine eS ?_
      | refine eN ?_
      | (refine Run.ret ?_; (first | refine rB ?_ | refine rI ?_ | refine rA ?_ | refine rII ?_ | refine rSI ?_ | refine rT ?_ | refine rS ?_); first | done | (rfl))
      | ((exfalso; first | (simp_all <;> fail) | (simp_all; omega)))
      | fail)
abbrev boxG (g : Gram) : Ob := .box [.d (.int .i64 g.k), .d (strs g.tokens), .d (.str g.sep), .d (strs g.names), .d (.int .i64 g.start), .d (.sl 2 (g.prods.map encP))]
abbrev boxG0 : Ob := .box [.d (.int .i64 0), .d .nilsl, .d (.str []), .d .nilsl, .d (.int .i64 0), .d .nilsl]
theorem to_noProds {a b c d e : DV} : AvTo (.d (.agg [a, b, c, d, e, .nilsl])) (.d (.agg [a, b, c, d, e, .sl 2 []])) :=
  .d (.agg rfl fun j x y hx hy => by
    match j with
    | 0 | 1 | 2 | 3 | 4 => simp at hx hy; subst hx hy; exact .refl
    | 5 => simp at hx hy; subst hx hy; exact .nil
    | j + 6 => simp at hx)
theorem ownGrammar (g : Gram) (hf : Fits g) : KnownCall Tryz.prog 15 [encG g] (.d (encG g)) := by
  have hfp := hf.prods
  have hft := hf.tokens
  have hfn := hf.names
  refine knownE2 Et_ok (fnAt Tryz.func15 (by kernel_rfl) (by kernel_rfl) : FnAt _ _ (mkFn Tryz.f15 [35])) ?_
  repeat' (first
    | refine Run.region ?_
    | refine Run.seq ?_
    | ((refine oB (frz := [35]) Et_ok (fun h => ?_) (fun h => ?_)) <;> (first | (exfalso; simp at h <;> fail) | (exfalso; simp at h; omega) | skip))
    | ((refine eB (fun h => ?_) (fun h => ?_)) <;> (first | (exfalso; simp at h <;> fail) | (exfalso; simp at h; omega) | skip))
    | refine oX (frz := [35]) Et_ok ?_
    | refine oS ?_
    | refine RunOps.nil ?_
    | refine Run.skip ?_
    | refine cT ?_
    | refine cF ?_
    | refine Run.block ?_
    | refine Run.exit ?_
    | refine Run.draw (frz := [35]) Et_ok (by kernel_rfl) ?_
    | refine eX ?_
    | refine eS ?_
    | refine eN ?_
    | ((refine oK (ownTexts g.tokens (by omega)) (fun h => ?_) (fun h => ?_)) <;> (first | (exfalso; simp at h <;> fail) | (exfalso; simp at h; omega) | skip))
    | refine oC (ownTexts g.tokens (by omega)) ?_
    | ((refine eK (ownTexts g.tokens (by omega)) (fun h => ?_) (fun h => ?_)) <;> (first | (exfalso; simp at h <;> fail) | (exfalso; simp at h; omega) | skip))
    | refine eC (ownTexts g.tokens (by omega)) ?_
    | ((refine oK (ownTexts g.names (by omega)) (fun h => ?_) (fun h => ?_)) <;> (first | (exfalso; simp at h <;> fail) | (exfalso; simp at h; omega) | skip))
    | refine oC (ownTexts g.names (by omega)) ?_
    | ((refine eK (ownTexts g.names (by omega)) (fun h => ?_) (fun h => ?_)) <;> (first | (exfalso; simp at h <;> fail) | (exfalso; simp at h; omega) | skip))
    | refine eC (ownTexts g.names (by omega)) ?_
    | (refine Run.ret ?_; refine r2 ?_; first | done | (skip))
    | fail)
  refine Run.loop (fun x : Nat × List DV => ⟨PT.ofList [(1, .bp 0 0), (2, .bp 1 0), (3, rowA 2 2 x.2), (4, .d (.int .i64 x.1))], boxG g :: boxG0 :: rowO 2 x.2, []⟩) (fun x => x.1 ≤ g.prods.length ∧ x.2 = (g.prods.take x.1).map encP) (fun x => g.prods.length - x.1) (0, []) ⟨Nat.zero_le _, rfl⟩ (weak_of (by repeat' (first | exact trivial | refine ⟨rfl, ?_⟩))) (fun x hx => ?_)
  obtain ⟨i, acc⟩ := x
  obtain ⟨hi1, hi2⟩ := hx
  simp only at hi1 hi2 ⊢
  have hal : acc.length ≤ i := by rw [hi2]; simp; omega
  rcases Nat.lt_or_ge i g.prods.length with hlt | hge
  · obtain ⟨p, hp⟩ := get_ok hlt
    have hpr := hf.rights p (List.mem_of_getElem? hp)
    have hnext : acc ++ [encP p] = (g.prods.take (i + 1)).map encP := by rw [List.take_add_one, hp, hi2]; simp
    rcases acc with _ | ⟨a, l⟩
    · repeat' (first
        | refine Run.region ?_
        | refine Run.seq ?_
        | ((refine oB (frz := [35]) Et_ok (fun h => ?_) (fun h => ?_)) <;> (first | (exfalso; simp at h <;> fail) | (exfalso; simp at h; omega) | skip))
        | ((refine eB (fun h => ?_) (fun h => ?_)) <;> (first | (exfalso; simp at h <;> fail) | (exfalso; simp at h; omega) | skip))
        | refine oX (frz := [35]) Et_ok ?_
        | refine oS ?_
        | refine RunOps.nil ?_
        | refine Run.skip ?_
        | refine cT ?_
        | refine cF ?_
        | refine Run.block ?_
        | refine Run.exit ?_
        | refine Run.draw (frz := [35]) Et_ok (by kernel_rfl) ?_
        | refine eX ?_
        | refine eS ?_
        | refine eN ?_
        | refine oX (frz := [35]) (v := .d (.ep [.int .i64 p.left, ints p.right])) Et_ok ?_ (hf := (by first | (simp [inB] <;> fail) | (simp [inB]; omega))) (he := (by first | (simp [List.getD_eq_getElem?_getD, cellsD, hp, encP] <;> fail) | fail))
        | refine eX (v := .d (.ep [.int .i64 p.left, ints p.right])) ?_ (hf := (by first | (simp [inB] <;> fail) | (simp [inB]; omega))) (he := (by first | (simp [List.getD_eq_getElem?_getD, cellsD, hp, encP] <;> fail) | fail))
        | ((refine oK (ownInts p.right hpr) (fun h => ?_) (fun h => ?_)) <;> (first | (exfalso; simp at h <;> fail) | (exfalso; simp at h; omega) | skip))
        | refine oC (ownInts p.right hpr) ?_
        | ((refine eK (ownInts p.right hpr) (fun h => ?_) (fun h => ?_)) <;> (first | (exfalso; simp at h <;> fail) | (exfalso; simp at h; omega) | skip))
        | refine eC (ownInts p.right hpr) ?_
        | refine oX (frz := [35]) Et_ok ?_ (hv := app1) (hf := rfl) (he := rfl)
        | refine eX ?_ (hv := app1) (hf := rfl) (he := rfl)
        | refine oX (frz := [35]) Et_ok ?_ (hv := app0) (hf := rfl) (he := rfl)
        | refine eX ?_ (hv := app0) (hf := rfl) (he := rfl)
        | (refine Run.ret ?_; refine r2 ?_; first | done | (skip))
        | (exact ⟨(i + 1, [encP p]), ⟨hlt, hnext⟩, by simp only; omega, weak_of' (by rfl) rfl (by repeat' (first | exact trivial | refine ⟨rfl, ?_⟩ | refine ⟨(inc_get (k := i) (by kernel_rfl) (by omega)), ?_⟩))⟩)
        | fail)
    · have hal' : l.length + 1 ≤ i := hal
      repeat' (first
        | refine Run.region ?_
        | refine Run.seq ?_
        | ((refine oB (frz := [35]) Et_ok (fun h => ?_) (fun h => ?_)) <;> (first | (exfalso; simp at h <;> fail) | (exfalso; simp at h; omega) | skip))
        | ((refine eB (fun h => ?_) (fun h => ?_)) <;> (first | (exfalso; simp at h <;> fail) | (exfalso; simp at h; omega) | skip))
        | refine oX (frz := [35]) Et_ok ?_
        | refine oS ?_
        | refine RunOps.nil ?_
        | refine Run.skip ?_
        | refine cT ?_
        | refine cF ?_
        | refine Run.block ?_
        | refine Run.exit ?_
        | refine Run.draw (frz := [35]) Et_ok (by kernel_rfl) ?_
        | refine eX ?_
        | refine eS ?_
        | refine eN ?_
        | refine oX (frz := [35]) (v := .d (.ep [.int .i64 p.left, ints p.right])) Et_ok ?_ (hf := (by first | (simp [inB] <;> fail) | (simp [inB]; omega))) (he := (by first | (simp [List.getD_eq_getElem?_getD, cellsD, hp, encP] <;> fail) | fail))
        | refine eX (v := .d (.ep [.int .i64 p.left, ints p.right])) ?_ (hf := (by first | (simp [inB] <;> fail) | (simp [inB]; omega))) (he := (by first | (simp [List.getD_eq_getElem?_getD, cellsD, hp, encP] <;> fail) | fail))
        | ((refine oK (ownInts p.right hpr) (fun h => ?_) (fun h => ?_)) <;> (first | (exfalso; simp at h <;> fail) | (exfalso; simp at h; omega) | skip))
        | refine oC (ownInts p.right hpr) ?_
        | ((refine eK (ownInts p.right hpr) (fun h => ?_) (fun h => ?_)) <;> (first | (exfalso; simp at h <;> fail) | (exfalso; simp at h; omega) | skip))
        | refine eC (ownInts p.right hpr) ?_
        | refine oX (frz := [35]) Et_ok ?_ (hv := app1) (hf := rfl) (he := rfl)
        | refine eX ?_ (hv := app1) (hf := rfl) (he := rfl)
        | refine oX (frz := [35]) Et_ok ?_ (hv := app0) (hf := rfl) (he := rfl)
        | refine eX ?_ (hv := app0) (hf := rfl) (he := rfl)
        | (refine Run.ret ?_; refine r2 ?_; first | done | (skip))
        | (exact ⟨(i + 1, a :: (l ++ [encP p])), ⟨hlt, hnext⟩, by simp only; omega, weak_of' (by show [_, _, Ob.room ((l ++ [_]).length + 1) 2] = [_, _, Ob.room (l.length + 1 + 1) 2]; rw [List.length_append]; rfl) rfl (by repeat' (first | exact trivial | refine ⟨rfl, ?_⟩ | refine ⟨(inc_get (k := i) (by kernel_rfl) (by omega)), ?_⟩))⟩)
        | fail)
  · have hge : i = g.prods.length := by omega
    have he : g.prods.map encP = acc := by rw [hi2, hge, List.take_length]
    show _
    rw [show encG g = .agg [.int .i64 g.k, strs g.tokens, .str g.sep, strs g.names, .int .i64 g.start, .sl 2 (g.prods.map encP)] from rfl, he]
    rcases acc with _ | ⟨a, l⟩
    · repeat' (first
        | refine Run.region ?_
        | refine Run.seq ?_
        | ((refine oB (frz := [35]) Et_ok (fun h => ?_) (fun h => ?_)) <;> (first | (exfalso; simp at h <;> fail) | (exfalso; simp at h; omega) | skip))
        | ((refine eB (fun h => ?_) (fun h => ?_)) <;> (first | (exfalso; simp at h <;> fail) | (exfalso; simp at h; omega) | skip))
        | refine oX (frz := [35]) Et_ok ?_
        | refine oS ?_
        | refine RunOps.nil ?_
        | refine Run.skip ?_
        | refine cT ?_
        | refine cF ?_
        | refine Run.block ?_
        | refine Run.exit ?_
        | refine Run.draw (frz := [35]) Et_ok (by kernel_rfl) ?_
        | refine eX ?_
        | refine eS ?_
        | refine eN ?_
        | (refine Run.ret ?_; refine r2 ?_; first | done | (exact to_noProds))
        | fail)
    · repeat' (first
        | refine Run.region ?_
        | refine Run.seq ?_
        | ((refine oB (frz := [35]) Et_ok (fun h => ?_) (fun h => ?_)) <;> (first | (exfalso; simp at h <;> fail) | (exfalso; simp at h; omega) | skip))
        | ((refine eB (fun h => ?_) (fun h => ?_)) <;> (first | (exfalso; simp at h <;> fail) | (exfalso; simp at h; omega) | skip))
        | refine oX (frz := [35]) Et_ok ?_
        | refine oS ?_
        | refine RunOps.nil ?_
        | refine Run.skip ?_
        | refine cT ?_
        | refine cF ?_
        | refine Run.block ?_
        | refine Run.exit ?_
        | refine Run.draw (frz := [35]) Et_ok (by kernel_rfl) ?_
        | refine eX ?_
        | refine eS ?_
        | refine eN ?_
        | (refine Run.ret ?_; refine r2 ?_; first | done | (exact .refl))
        | fail)
end Go.Av
end
noncomputable section
namespace Go.Av
open Go Go.Proofs
set_option maxRecDepth 10000
structure SRule where
  name : List Nat
  alts : List (List (List Nat))
structure Src where
  k : Int
  tokens : List (List Nat)
  sep : List Nat
  start : List Nat
  rules : List SRule
abbrev alts (l : List (List (List Nat))) : DV := .sl 1 (l.map strs)
structure FitsX (x : Src) : Prop where
  tokens : x.tokens.length ≤ 1048576
  rules : x.rules.length ≤ 1048576
  alts : ∀ r ∈ x.rules, r.alts.length ≤ 1048576
  names : ∀ r ∈ x.rules, ∀ a ∈ r.alts, a.length ≤ 1048576
  sep : x.sep.length ≤ 1048576
  start : x.start.length ≤ 1048576
  tokenS : ∀ s ∈ x.tokens, s.length ≤ 1048576
  ruleS : ∀ r ∈ x.rules, r.name.length ≤ 1048576
  nameS : ∀ r ∈ x.rules, ∀ a ∈ r.alts, ∀ s ∈ a, s.length ≤ 1048576
section
variable {α : Type} {l : List α} {p : α → Bool} {i : Nat} {x : α}
end
end Go.Av
end
noncomputable section
namespace Go.Av
open Go Go.Proofs
set_option maxRecDepth 10000
end Go.Av
end
noncomputable section
namespace Go.Av
open Go Go.Proofs
set_option maxRecDepth 10000
theorem vN8 {x : Int} {n : Nat} (h : x = (n : Int)) (hn : n ≤ 1099511627776) : AV.d (.int .i64 (IntKind.i64.wrap x)) = .d (.int .i64 (n : Int)) := by
  subst h; exact congrArg (fun n => AV.d (.int .i64 n)) (wrap_nat hn)
end Go.Av
end
noncomputable section
namespace Go.Av
open Go Go.Proofs
set_option maxRecDepth 10000
end Go.Av
end
noncomputable section
namespace Go.Av
open Go Go.Proofs
set_option maxRecDepth 10000
end Go.Av
end
noncomputable section
namespace Go.Av
open Go Go.Proofs
set_option maxRecDepth 10000
end Go.Av
end
noncomputable section
namespace Go.Av
open Go Go.Proofs
set_option maxRecDepth 10000
theorem vF8 {p : Prop} [Decidable p] (h : ¬ p) : AV.d (.bool (decide p)) = .d (.bool false) := by rw [decide_eq_false h]
section
variable {E : PT Ty} {H : Hd} {frz : List Nat} {rd : Operand → AV} {objs : List Ob} {o : Oper} {args : Array Operand} {tys : Array TypeId} {a b : Operand} {ts tx e : TypeId} {yts z : Ty} {szx k : Nat} {ys : List DV}
end
end Go.Av
end
noncomputable section
namespace Go.Av
open Go Go.Proofs
set_option maxRecDepth 10000
end Go.Av
end
noncomputable section
namespace Go.Av
open Go Go.Proofs
set_option maxRecDepth 10000
end Go.Av
end
noncomputable section
namespace Go.Av
open Go Go.Proofs
set_option maxRecDepth 10000
def rgtD (l : List Int) : List DV := l.map (.int .i64)
end Go.Av
end
noncomputable section
namespace Go.Av
open Go Go.Proofs
set_option maxRecDepth 10000
end Go.Av
end
noncomputable section
namespace Go.Av
open Go Go.Proofs
set_option maxRecDepth 10000
def isS (n : Nat) : Option (AV × Option (List Ob)) → Bool
  | some (.d (.str [m]), none) => Nat.beq m n
  | _ => false
theorem isS_eq {n : Nat} {x : Option (AV × Option (List Ob))} (h : isS n x = true) : x = some (.d (.str [n]), none) := by
  unfold isS at h
  split at h
  · rw [Nat.eq_of_beq_eq_true h]
  · cases h
theorem vbS (n : Nat) (h : n < 128) : KnownCall Tryz.prog 208 [.int .u64 (n : Nat)] (.d (.str [n])) := by
  have hall : upTo 128 (fun n => isS n (evBothF Et Ft.get? (hdlF T0 Et Ft.get? 1000 20) 1000 208 ([DV.int .u64 (n : Nat)].map .d) [])) = true := by kernel_rfl
  exact knownF T0_ok Et_ok (by kernel_rfl) Ft_ok (isS_eq (upTo_get hall n h))
theorem vbR (n : Nat) (h : n < 128) : KnownCall Tryz.prog 211 [.int .u64 (n : Nat)] (.d (.str [n])) := by
  have hall : upTo 128 (fun n => isS n (evBothF Et Ft.get? (hdlF T0 Et Ft.get? 1000 20) 1000 211 ([DV.int .u64 (n : Nat)].map .d) [])) = true := by kernel_rfl
  exact knownF T0_ok Et_ok (by kernel_rfl) Ft_ok (isS_eq (upTo_get hall n h))
theorem wrapU {n : Nat} (h : n ≤ 1099511627776) : AV.d (.int .u64 (IntKind.u64.wrap (n : Int))) = .d (.int .u64 (n : Nat)) := by
  have : IntKind.u64.wrap (n : Int) = n := IntWalk.u64_in n ⟨by omega, by omega⟩
  rw [this]
abbrev wrC (s : List Nat) : List AV := [.d (.str s), .d (.int .i64 20000), .d (.int .i64 0)]
abbrev wrD (s : List Nat) : DV := .agg [.str s, .int .i64 20000, .int .i64 0]
abbrev wr0 : Ob := .box [.d (.str []), .d (.int .i64 0), .d (.int .i64 0)]
def strsC (l : List (List Nat)) : List Nat := l.flatMap fun x => x.length :: x
def namesC (l : List (List Nat)) : List Nat := l.length :: strsC l
theorem strsC_to {l : List (List Nat)} {i : Nat} {x : List Nat} (h : l[i]? = some x) : strsC (l.take (i + 1)) = strsC (l.take i) ++ (x.length :: x) := by
  simp [strsC, List.take_add_one, h]
theorem strsC_le (l : List (List Nat)) (i : Nat) : (strsC (l.take i)).length ≤ (strsC l).length := by
  unfold strsC
  conv => rhs; rw [← List.take_append_drop i l, List.flatMap_append, List.length_append]
  omega
def pairC (l : List (List Nat)) : List (List Nat) := l.flatMap fun x => [[x.length], x]
theorem pairC_flat (l : List (List Nat)) : (pairC l).flatten = strsC l := by
  induction l with
  | nil => rfl
  | cons a l ih => simp only [pairC, strsC, List.flatMap_cons, List.flatten_append] at ih ⊢; rw [ih]; simp
theorem makeS : KnownCall Tryz.prog 135 [.int .i64 20000] (.d (wrD [])) := knownF T0_ok Et_ok (by kernel_rfl) Ft_ok (k := 1000) (n := 20) (by kernel_rfl)
theorem startA (s : List Nat) (hs : s.length ≤ 20000) : ACall Tryz.prog 206 [.d (wrD s)] [] (.bp 1 0) [.box (wrC s), .box (wrC s)] := by
  refine acall_of_run Et_ok (fnAt Tryz.func206 (by kernel_rfl) (by kernel_rfl) : FnAt _ _ (mkFn Tryz.f206 [])) rfl rfl ?_
  repeat' (first
    | refine Run.region ?_
    | refine Run.seq ?_
    | ((refine oB (frz := []) Et_ok (fun h => ?_) (fun h => ?_)) <;> (first | (exfalso; simp at h <;> fail) | (exfalso; simp at h; omega) | skip))
    | ((refine eB (fun h => ?_) (fun h => ?_)) <;> (first | (exfalso; simp at h <;> fail) | (exfalso; simp at h; omega) | skip))
    | refine oX (frz := []) Et_ok ?_
    | refine oS ?_
    | refine RunOps.nil ?_
    | refine Run.skip ?_
    | refine cT ?_
    | refine cF ?_
    | refine Run.block ?_
    | refine Run.exit ?_
    | refine Run.draw (frz := []) Et_ok (by kernel_rfl) ?_
    | refine eX ?_
    | refine eS ?_
    | refine eN ?_
    | (refine Run.ret ?_; (first | refine rB ?_ | refine rI ?_ | refine rA ?_ | refine rII ?_ | refine rSI ?_ | refine rT ?_ | refine rS ?_); first | done | (skip))
    | ((exfalso; (simp at h <;> omega)))
    | fail)
  refine Run.ret ?_
  exact ⟨trivial, rfl, rfl⟩
theorem flatT {l : List (List Nat)} {i : Nat} {x : List Nat} (h : l[i]? = some x) : (l.take (i + 1)).flatten = (l.take i).flatten ++ x := by
  rw [List.take_add_one, h]; simp
theorem flatT_le (l : List (List Nat)) (i : Nat) : ((l.take i).flatten).length ≤ (l.flatten).length := by
  conv => rhs; rw [← List.take_append_drop i l, List.flatten_append, List.length_append]
  omega
set_option maxHeartbeats 1000000 in
theorem writeW (O P : Ob) (s : List Nat) (l : List (List Nat)) (h0 : (s ++ l.flatten).length ≤ 20000) (hl : l.length ≤ 4194304) :
    ACall Tryz.prog 209 [.bp 2 0, .d (strs l)] [O, P, .box (wrC s)] (.d (wrD (s ++ l.flatten))) [O, P, .box (wrC (s ++ l.flatten)), .box (wrC (s ++ l.flatten))] := by
  rw [List.length_append] at h0
  have h1 : AV.d (.int .i64 (IntKind.i64.wrap (20000 - (s.length : Int)))) = .d (.int .i64 ((20000 - s.length : Nat) : Int)) := vN8 (by omega) (by omega)
  refine acall_of_run Et_ok (fnAt Tryz.func209 (by kernel_rfl) (by kernel_rfl) : FnAt _ _ (mkFn Tryz.f209 [])) rfl rfl ?_
  repeat' (first
    | refine oX (frz := []) (v := .d (.int .i64 ((20000 - s.length : Nat) : Int))) Et_ok ?_ (he := (h1))
    | refine eX (v := .d (.int .i64 ((20000 - s.length : Nat) : Int))) ?_ (he := (h1))
    | refine Run.region ?_
    | refine Run.seq ?_
    | ((refine oB (frz := []) Et_ok (fun h => ?_) (fun h => ?_)) <;> (first | (exfalso; simp at h <;> fail) | (exfalso; simp at h; omega) | skip))
    | ((refine eB (fun h => ?_) (fun h => ?_)) <;> (first | (exfalso; simp at h <;> fail) | (exfalso; simp at h; omega) | skip))
    | refine oX (frz := []) Et_ok ?_
    | refine oS ?_
    | refine RunOps.nil ?_
    | refine Run.skip ?_
    | refine cT ?_
    | refine cF ?_
    | refine Run.block ?_
    | refine Run.exit ?_
    | refine Run.draw (frz := []) Et_ok (by kernel_rfl) ?_
    | refine eX ?_
    | refine eS ?_
    | refine eN ?_
    | (refine Run.ret ?_; (first | refine rB ?_ | refine rI ?_ | refine rA ?_ | refine rII ?_ | refine rSI ?_ | refine rT ?_ | refine rS ?_); first | done | (skip))
    | ((exfalso; (simp at h <;> omega)))
    | fail)
  refine Run.loop (fun i : Nat => ⟨PT.ofList [(0, .bp 2 0), (1, .d (strs l)), (4, .bp 3 0), (5, .d (.int .i64 ((20000 - s.length - ((l.take i).flatten).length : Nat) : Int))), (32, .d (strs l)), (33, .d (.int .i64 (l.map DV.str).length)), (34, .d (.int .i64 i))], [O, P, .box (wrC s), wr0], []⟩) (fun i => i ≤ l.length) (fun i => l.length - i) 0 (Nat.zero_le _) (weak_of (by repeat' (first | exact trivial | refine ⟨rfl, ?_⟩))) (fun i hi => ?_)
  rcases Nat.lt_or_ge i l.length with hlt | hge
  · obtain ⟨x, hx⟩ := get_ok hlt
    have hfl := congrArg List.length (flatT hx)
    have hle := flatT_le l (i + 1)
    rw [List.length_append] at hfl
    have h2 : AV.d (.int .i64 (IntKind.i64.wrap (((20000 - s.length - ((l.take i).flatten).length : Nat) : Int) - (x.length : Int)))) = .d (.int .i64 ((20000 - s.length - ((l.take (i + 1)).flatten).length : Nat) : Int)) := vN8 (by omega) (by omega)
    repeat' (first
      | refine oX (frz := []) (v := .d (.int .i64 ((20000 - s.length - ((l.take (i + 1)).flatten).length : Nat) : Int))) Et_ok ?_ (he := (h2))
      | refine eX (v := .d (.int .i64 ((20000 - s.length - ((l.take (i + 1)).flatten).length : Nat) : Int))) ?_ (he := (h2))
      | refine Run.region ?_
      | refine Run.seq ?_
      | ((refine oB (frz := []) Et_ok (fun h => ?_) (fun h => ?_)) <;> (first | (exfalso; simp at h <;> fail) | (exfalso; simp at h; omega) | skip))
      | ((refine eB (fun h => ?_) (fun h => ?_)) <;> (first | (exfalso; simp at h <;> fail) | (exfalso; simp at h; omega) | skip))
      | refine oX (frz := []) Et_ok ?_
      | refine oS ?_
      | refine RunOps.nil ?_
      | refine Run.skip ?_
      | refine cT ?_
      | refine cF ?_
      | refine Run.block ?_
      | refine Run.exit ?_
      | refine Run.draw (frz := []) Et_ok (by kernel_rfl) ?_
      | refine eX ?_
      | refine eS ?_
      | refine eN ?_
      | refine oX (frz := []) (v := .d (.ep [.str x])) Et_ok ?_ (hf := (by first | (simp [inB] <;> fail) | (simp [inB]; omega))) (he := (by first | (simp [List.getD_eq_getElem?_getD, cellsD, hx] <;> fail) | fail))
      | refine eX (v := .d (.ep [.str x])) ?_ (hf := (by first | (simp [inB] <;> fail) | (simp [inB]; omega))) (he := (by first | (simp [List.getD_eq_getElem?_getD, cellsD, hx] <;> fail) | fail))
      | (refine Run.ret ?_; (first | refine rB ?_ | refine rI ?_ | refine rA ?_ | refine rII ?_ | refine rSI ?_ | refine rT ?_ | refine rS ?_); first | done | (skip))
      | (exact ⟨i + 1, hlt, by omega, weak_of (by repeat' (first | exact trivial | refine ⟨rfl, ?_⟩ | refine ⟨(inc_get (k := i) (by kernel_rfl) (by omega)), ?_⟩))⟩)
      | ((exfalso; have h' := of_decide_eq_true h; omega))
      | fail)
  · have hie : i = l.length := by omega
    subst hie
    repeat' (first
      | refine Run.region ?_
      | refine Run.seq ?_
      | ((refine oB (frz := []) Et_ok (fun h => ?_) (fun h => ?_)) <;> (first | (exfalso; simp at h <;> fail) | (exfalso; simp at h; omega) | skip))
      | ((refine eB (fun h => ?_) (fun h => ?_)) <;> (first | (exfalso; simp at h <;> fail) | (exfalso; simp at h; omega) | skip))
      | refine oX (frz := []) Et_ok ?_
      | refine oS ?_
      | refine RunOps.nil ?_
      | refine Run.skip ?_
      | refine cT ?_
      | refine cF ?_
      | refine Run.block ?_
      | refine Run.exit ?_
      | refine Run.draw (frz := []) Et_ok (by kernel_rfl) ?_
      | refine eX ?_
      | refine eS ?_
      | refine eN ?_
      | (refine Run.ret ?_; (first | refine rB ?_ | refine rI ?_ | refine rA ?_ | refine rII ?_ | refine rSI ?_ | refine rT ?_ | refine rS ?_); first | done | (skip))
      | ((exfalso; (simp at h <;> omega)))
      | fail)
    refine Run.loop (fun i : Nat => ⟨PT.ofList [(0, .bp 2 0), (1, .d (strs l)), (4, .bp 3 0), (55, .d (strs l)), (56, .d (.int .i64 (l.map DV.str).length)), (57, .d (.int .i64 i))], [O, P, .box (wrC (s ++ (l.take i).flatten)), wr0], []⟩) (fun i => i ≤ l.length) (fun i => l.length - i) 0 (Nat.zero_le _) (weak_of' (by rw [List.take_zero, List.flatten_nil, List.append_nil]) rfl (by repeat' (first | exact trivial | refine ⟨rfl, ?_⟩))) (fun i hi => ?_)
    rcases Nat.lt_or_ge i l.length with hlt | hge
    · obtain ⟨x, hx⟩ := get_ok hlt
      have hft := flatT hx
      have hfl := congrArg List.length hft
      have hle := flatT_le l (i + 1)
      rw [List.length_append] at hfl
      repeat' (first
        | refine Run.region ?_
        | refine Run.seq ?_
        | ((refine oB (frz := []) Et_ok (fun h => ?_) (fun h => ?_)) <;> (first | (exfalso; simp at h <;> fail) | (exfalso; simp at h; omega) | skip))
        | ((refine eB (fun h => ?_) (fun h => ?_)) <;> (first | (exfalso; simp at h <;> fail) | (exfalso; simp at h; omega) | skip))
        | refine oX (frz := []) Et_ok ?_
        | refine oS ?_
        | refine RunOps.nil ?_
        | refine Run.skip ?_
        | refine cT ?_
        | refine cF ?_
        | refine Run.block ?_
        | refine Run.exit ?_
        | refine Run.draw (frz := []) Et_ok (by kernel_rfl) ?_
        | refine eX ?_
        | refine eS ?_
        | refine eN ?_
        | refine oX (frz := []) (v := .d (.ep [.str x])) Et_ok ?_ (hf := (by first | (simp [inB] <;> fail) | (simp [inB]; omega))) (he := (by first | (simp [List.getD_eq_getElem?_getD, cellsD, hx] <;> fail) | fail))
        | refine eX (v := .d (.ep [.str x])) ?_ (hf := (by first | (simp [inB] <;> fail) | (simp [inB]; omega))) (he := (by first | (simp [List.getD_eq_getElem?_getD, cellsD, hx] <;> fail) | fail))
        | refine oX (frz := []) Et_ok ?_ (hf := by rw [Nat.ble_eq, List.length_append]; omega)
        | (refine Run.ret ?_; (first | refine rB ?_ | refine rI ?_ | refine rA ?_ | refine rII ?_ | refine rSI ?_ | refine rT ?_ | refine rS ?_); first | done | (skip))
        | (exact ⟨i + 1, hlt, by omega, weak_of' (by rw [hft, ← List.append_assoc]; rfl) rfl (by repeat' (first | exact trivial | refine ⟨rfl, ?_⟩ | refine ⟨(inc_get (k := i) (by kernel_rfl) (by omega)), ?_⟩))⟩)
        | ((exfalso; (simp at h <;> omega)))
        | fail)
    · have hie : i = l.length := by omega
      subst hie
      rw [List.take_length]
      repeat' (first
        | refine Run.region ?_
        | refine Run.seq ?_
        | ((refine oB (frz := []) Et_ok (fun h => ?_) (fun h => ?_)) <;> (first | (exfalso; simp at h <;> fail) | (exfalso; simp at h; omega) | skip))
        | ((refine eB (fun h => ?_) (fun h => ?_)) <;> (first | (exfalso; simp at h <;> fail) | (exfalso; simp at h; omega) | skip))
        | refine oX (frz := []) Et_ok ?_
        | refine oS ?_
        | refine RunOps.nil ?_
        | refine Run.skip ?_
        | refine cT ?_
        | refine cF ?_
        | refine Run.block ?_
        | refine Run.exit ?_
        | refine Run.draw (frz := []) Et_ok (by kernel_rfl) ?_
        | refine eX ?_
        | refine eS ?_
        | refine eN ?_
        | (refine Run.ret ?_; (first | refine rB ?_ | refine rI ?_ | refine rA ?_ | refine rII ?_ | refine rSI ?_ | refine rT ?_ | refine rS ?_); first | done | (skip))
        | ((exfalso; (simp at h <;> omega)))
        | fail)
      refine Run.ret ?_
      exact ⟨trivial, rfl, rfl⟩
theorem putV (s : List Nat) (n : Nat) (hn : n < 128) (hs : s.length + 1 ≤ 20000) : KnownCall Tryz.prog 207 [wrD s, .int .u64 (n : Nat)] (.d (wrD (s ++ [n]))) := by
  have c1 := fun O => ACall.lift (ds := [wrD s]) (startA s (by omega)) rfl O
  have c2 := vbS n hn
  have c3 := fun O P => writeW O P s [[n]] (by simp; omega) (by simp)
  refine knownE Et_ok (fnAt Tryz.func207 (by kernel_rfl) (by kernel_rfl) : FnAt _ _ (mkFn Tryz.f207 [2, 9])) ?_
  repeat' (first
    | refine Run.region ?_
    | refine Run.seq ?_
    | ((refine oB (frz := [2, 9]) Et_ok (fun h => ?_) (fun h => ?_)) <;> (first | (exfalso; simp at h <;> fail) | (exfalso; simp at h; omega) | skip))
    | ((refine eB (fun h => ?_) (fun h => ?_)) <;> (first | (exfalso; simp at h <;> fail) | (exfalso; simp at h; omega) | skip))
    | refine oX (frz := [2, 9]) Et_ok ?_
    | refine oS ?_
    | refine RunOps.nil ?_
    | refine Run.skip ?_
    | refine cT ?_
    | refine cF ?_
    | refine Run.block ?_
    | refine Run.exit ?_
    | refine Run.draw (frz := [2, 9]) Et_ok (by kernel_rfl) ?_
    | refine eX ?_
    | refine eS ?_
    | refine eN ?_
    | refine oA (c1 _) ?_
    | refine oC (c2) ?_
    | refine eC (c2) ?_
    | refine oA (c3 _ _) ?_
    | (refine Run.ret ?_; (first | refine rB ?_ | refine rI ?_ | refine rA ?_ | refine rII ?_ | refine rSI ?_ | refine rT ?_ | refine rS ?_); first | done | (rfl))
    | fail)
set_option maxHeartbeats 1000000 in
theorem putStr (s : List Nat) (l : List (List Nat)) (hl : ∀ x ∈ l, x.length < 128) (hn : l.length ≤ 1048576) (hs : (s ++ strsC l).length ≤ 20000) : KnownCall Tryz.prog 138 [wrD s, strs l] (.d (wrD (s ++ strsC l))) := by
  rw [List.length_append] at hs
  have c1 := fun O => ACall.lift (ds := [wrD s]) (startA s (by omega)) rfl O
  have hpl : (pairC l).length ≤ 2 * l.length := by
    clear c1 hs hn hl
    induction l with
    | nil => simp [pairC]
    | cons a l ih => simp only [pairC, List.flatMap_cons, List.length_append, List.length_cons, List.length_nil] at ih ⊢; omega
  have c3 := fun O P => writeW O P s (pairC l) (by rw [pairC_flat, List.length_append]; omega) (by omega)
  rw [pairC_flat] at c3
  refine knownE Et_ok (fnAt Tryz.func138 (by kernel_rfl) (by kernel_rfl) : FnAt _ _ (mkFn Tryz.f138 [2, 20])) ?_
  repeat' (first
    | refine Run.region ?_
    | refine Run.seq ?_
    | ((refine oB (frz := [2, 20]) Et_ok (fun h => ?_) (fun h => ?_)) <;> (first | (exfalso; simp at h <;> fail) | (exfalso; simp at h; omega) | skip))
    | ((refine eB (fun h => ?_) (fun h => ?_)) <;> (first | (exfalso; simp at h <;> fail) | (exfalso; simp at h; omega) | skip))
    | refine oX (frz := [2, 20]) Et_ok ?_
    | refine oS ?_
    | refine RunOps.nil ?_
    | refine Run.skip ?_
    | refine cT ?_
    | refine cF ?_
    | refine Run.block ?_
    | refine Run.exit ?_
    | refine Run.draw (frz := [2, 20]) Et_ok (by kernel_rfl) ?_
    | refine eX ?_
    | refine eS ?_
    | refine eN ?_
    | (refine Run.ret ?_; (first | refine rB ?_ | refine rI ?_ | refine rA ?_ | refine rII ?_ | refine rSI ?_ | refine rT ?_ | refine rS ?_); first | done | (skip))
    | fail)
  refine Run.mkRoom 5 1 [(1, .d (strs l)), (2, .d (.ep [.str s, .int .i64 20000, .int .i64 0])), (4, .bp 0 0), (5, .sr 1 1 []), (8, .d (strs l)), (9, .d (.int .i64 (l.map DV.str).length)), (10, .d (.int .i64 (0 : Nat)))] (by kernel_rfl) (ofList_cases (by intro p hp; simp only [List.mem_cons, List.not_mem_nil, or_false] at hp; rcases hp with rfl | rfl | rfl | rfl | rfl | rfl | rfl <;> first | exact .inl ⟨rfl, rfl⟩ | exact .inr (by kernel_rfl))) ?_
  refine Run.loopT (fun y : Nat × List DV => ⟨PT.ofList [(1, .d (strs l)), (2, .d (.ep [.str s, .int .i64 20000, .int .i64 0])), (4, .bp 0 0), (5, .sr 1 1 y.2), (8, .d (strs l)), (9, .d (.int .i64 (l.map DV.str).length)), (10, .d (.int .i64 y.1))], [wr0, .room y.2.length 1], []⟩) (fun y => y.1 ≤ l.length ∧ y.2 = (pairC (l.take y.1)).map DV.str ∧ y.2.length ≤ 2 * y.1) (fun y => l.length - y.1) (0, []) ⟨Nat.zero_le _, rfl, Nat.le_refl _⟩ (tidy_of (objs := _) _ 2 (by rfl) rfl (by repeat' (first | exact trivial | refine ⟨(Or.inl rfl), ?_⟩ | refine ⟨(Or.inr rfl), ?_⟩ | fail)) (by repeat' (first | exact trivial | refine ⟨rfl, ?_⟩ | fail)) rfl rfl) (fun y hy => ?_)
  obtain ⟨i, acc⟩ := y
  obtain ⟨hi1, hi2, hi3⟩ := hy
  simp only at hi1 hi2 hi3 ⊢
  rcases Nat.lt_or_ge i l.length with hlt | hge
  · obtain ⟨x, hx⟩ := get_ok hlt
    have hxl := hl x (List.mem_of_getElem? hx)
    have c2 := vbS x.length hxl
    have hw : AV.d (.int .u64 (IntKind.u64.wrap (x.length : Int))) = .d (.int .u64 (x.length : Nat)) := wrapU (by omega)
    have hnx : acc ++ [.str [x.length], .str x] = (pairC (l.take (i + 1))).map DV.str := by
      rw [hi2]; simp [pairC, List.take_add_one, hx]
    repeat' (first
      | refine oX (frz := [2, 20]) (v := .d (.int .u64 (x.length : Nat))) Et_ok ?_ (he := (hw))
      | refine eX (v := .d (.int .u64 (x.length : Nat))) ?_ (he := (hw))
      | refine Run.region ?_
      | refine Run.seq ?_
      | ((refine oB (frz := [2, 20]) Et_ok (fun h => ?_) (fun h => ?_)) <;> (first | (exfalso; simp at h <;> fail) | (exfalso; simp at h; omega) | skip))
      | ((refine eB (fun h => ?_) (fun h => ?_)) <;> (first | (exfalso; simp at h <;> fail) | (exfalso; simp at h; omega) | skip))
      | refine oX (frz := [2, 20]) Et_ok ?_
      | refine oS ?_
      | refine RunOps.nil ?_
      | refine Run.skip ?_
      | refine cT ?_
      | refine cF ?_
      | refine Run.block ?_
      | refine Run.exit ?_
      | refine Run.draw (frz := [2, 20]) Et_ok (by kernel_rfl) ?_
      | refine eX ?_
      | refine eS ?_
      | refine eN ?_
      | refine oX (frz := [2, 20]) (v := .d (.ep [.str x])) Et_ok ?_ (hf := (by first | (simp [inB] <;> fail) | (simp [inB]; omega))) (he := (by first | (simp [List.getD_eq_getElem?_getD, cellsD, hx] <;> fail) | fail))
      | refine eX (v := .d (.ep [.str x])) ?_ (hf := (by first | (simp [inB] <;> fail) | (simp [inB]; omega))) (he := (by first | (simp [List.getD_eq_getElem?_getD, cellsD, hx] <;> fail) | fail))
      | refine oC (c2) ?_
      | refine eC (c2) ?_
      | refine oX (frz := [2, 20]) Et_ok ?_ (hv := app1) (hf := rfl) (he := rfl)
      | refine eX ?_ (hv := app1) (hf := rfl) (he := rfl)
      | refine oX (frz := [2, 20]) Et_ok ?_ (hv := app0) (hf := rfl) (he := rfl)
      | refine eX ?_ (hv := app0) (hf := rfl) (he := rfl)
      | (refine Run.ret ?_; (first | refine rB ?_ | refine rI ?_ | refine rA ?_ | refine rII ?_ | refine rSI ?_ | refine rT ?_ | refine rS ?_); first | done | (skip))
      | ((exfalso; (simp at h <;> omega)))
      | fail)
    exact ⟨(i + 1, acc ++ [.str [x.length], .str x]), ⟨hlt, hnx, by simp; omega⟩, by simp only <;> omega, (tidy_of (objs := _) _ 2 (Eq.trans (b := [wr0, .room (acc.length + 2) 1]) rfl (by simp)) rfl (by repeat' (first | exact trivial | refine ⟨(Or.inl rfl), ?_⟩ | refine ⟨(Or.inl (inc_get (k := i) (by kernel_rfl) (by omega))), ?_⟩ | refine ⟨(Or.inr rfl), ?_⟩ | fail)) (by repeat' (first | exact trivial | refine ⟨rfl, ?_⟩ | fail)) rfl rfl)⟩
  · have hie : i = l.length := by omega
    subst hie
    rw [List.take_length] at hi2
    subst hi2
    repeat (first | refine Run.seq ?_ | refine Run.region ?_ | refine RunOps.nil ?_ | refine Run.skip ?_ | refine cT ?_ | refine cF ?_ | refine Run.block ?_ | refine Run.exit ?_)
    refine oX (frz := [2, 20]) (v := .d (.bool false)) Et_ok ?_ (he := vF8 (by simp))
    repeat (first | refine Run.seq ?_ | refine Run.region ?_ | refine RunOps.nil ?_ | refine Run.skip ?_ | refine cT ?_ | refine cF ?_ | refine Run.block ?_ | refine Run.exit ?_)
    first | refine Run.tidy (tidy_of (objs := _) [(2, .d (.ep [.str s, .int .i64 20000, .int .i64 0])), (4, .bp 0 0), (5, .d (strs (pairC l)))] 1 (Eq.trans (b := [wr0]) rfl rfl) rfl (by repeat' (first | exact trivial | refine ⟨(Or.inl rfl), ?_⟩ | refine ⟨(Or.inr rfl), ?_⟩ | refine ⟨rfl, ?_⟩ | fail)) (by repeat' (first | exact trivial | refine ⟨(Or.inl rfl), ?_⟩ | refine ⟨(Or.inr rfl), ?_⟩ | refine ⟨rfl, ?_⟩ | fail)) rfl rfl) ?_ | refine RunOps.tidy (tidy_of (objs := _) [(2, .d (.ep [.str s, .int .i64 20000, .int .i64 0])), (4, .bp 0 0), (5, .d (strs (pairC l)))] 1 (Eq.trans (b := [wr0]) rfl rfl) rfl (by repeat' (first | exact trivial | refine ⟨(Or.inl rfl), ?_⟩ | refine ⟨(Or.inr rfl), ?_⟩ | refine ⟨rfl, ?_⟩ | fail)) (by repeat' (first | exact trivial | refine ⟨(Or.inl rfl), ?_⟩ | refine ⟨(Or.inr rfl), ?_⟩ | refine ⟨rfl, ?_⟩ | fail)) rfl rfl) ?_
    repeat' (first
      | refine Run.region ?_
      | refine Run.seq ?_
      | ((refine oB (frz := [2, 20]) Et_ok (fun h => ?_) (fun h => ?_)) <;> (first | (exfalso; simp at h <;> fail) | (exfalso; simp at h; omega) | skip))
      | ((refine eB (fun h => ?_) (fun h => ?_)) <;> (first | (exfalso; simp at h <;> fail) | (exfalso; simp at h; omega) | skip))
      | refine oX (frz := [2, 20]) Et_ok ?_
      | refine oS ?_
      | refine RunOps.nil ?_
      | refine Run.skip ?_
      | refine cT ?_
      | refine cF ?_
      | refine Run.block ?_
      | refine Run.exit ?_
      | refine Run.draw (frz := [2, 20]) Et_ok (by kernel_rfl) ?_
      | refine eX ?_
      | refine eS ?_
      | refine eN ?_
      | refine oA (c1 _) ?_
      | refine oA (c3 _ _) ?_
      | (refine Run.ret ?_; (first | refine rB ?_ | refine rI ?_ | refine rA ?_ | refine rII ?_ | refine rSI ?_ | refine rT ?_ | refine rS ?_); first | done | (rfl))
      | fail)
theorem wputS (R : List Ob) (s : List Nat) (l : List Int) (hl : ∀ n ∈ l, 0 ≤ n ∧ n < 128) (hs : s.length + l.length ≤ 20000) :
    ACall Tryz.prog 136 [.bp 0 0, .d (ints l)] (.box (wrC s) :: R) (.tup []) (.box (wrC (s ++ l.map Int.toNat)) :: R) := by
  refine acall_of_run Et_ok (fnAt Tryz.func136 (by kernel_rfl) (by kernel_rfl) : FnAt _ _ (mkFn Tryz.f136 [])) rfl rfl ?_
  repeat' (first
    | refine Run.region ?_
    | refine Run.seq ?_
    | ((refine oB (frz := []) Et_ok (fun h => ?_) (fun h => ?_)) <;> (first | (exfalso; simp at h <;> fail) | (exfalso; simp at h; omega) | skip))
    | ((refine eB (fun h => ?_) (fun h => ?_)) <;> (first | (exfalso; simp at h <;> fail) | (exfalso; simp at h; omega) | skip))
    | refine oX (frz := []) Et_ok ?_
    | refine oS ?_
    | refine RunOps.nil ?_
    | refine Run.skip ?_
    | refine cT ?_
    | refine cF ?_
    | refine Run.block ?_
    | refine Run.exit ?_
    | refine Run.draw (frz := []) Et_ok (by kernel_rfl) ?_
    | refine eX ?_
    | refine eS ?_
    | refine eN ?_
    | (refine Run.ret ?_; (first | refine rB ?_ | refine rI ?_ | refine rA ?_ | refine rII ?_ | refine rSI ?_ | refine rT ?_ | refine rS ?_); first | done | (skip))
    | fail)
  refine Run.loop (fun i : Nat => ⟨PT.ofList [(0, .bp 0 0), (6, .d (ints l)), (7, .d (.int .i64 (l.map (DV.int .i64)).length)), (8, .d (.int .i64 i))], .box (wrC (s ++ (l.take i).map Int.toNat)) :: R, []⟩) (fun i => i ≤ l.length) (fun i => l.length - i) 0 (Nat.zero_le _) (weak_of' (by rw [List.take_zero, List.map_nil, List.append_nil]) rfl (by repeat' (first | exact trivial | refine ⟨rfl, ?_⟩))) (fun i hi => ?_)
  rcases Nat.lt_or_ge i l.length with hlt | hge
  · obtain ⟨n, hx⟩ := get_ok hlt
    obtain ⟨h1, h2⟩ := hl n (List.mem_of_getElem? hx)
    obtain ⟨m, rfl⟩ := Int.eq_ofNat_of_zero_le h1
    have hw : AV.d (.int .u64 (IntKind.u64.wrap (m : Int))) = .d (.int .u64 (m : Nat)) := wrapU (by omega)
    have c := putV (s ++ (l.take i).map Int.toNat) m (by omega) (by simp; omega)
    have hnx : s ++ (l.take (i + 1)).map Int.toNat = s ++ (l.take i).map Int.toNat ++ [m] := by rw [List.take_add_one, hx]; simp
    repeat' (first
      | refine oX (frz := []) (v := .d (.int .u64 (m : Nat))) Et_ok ?_ (he := (hw))
      | refine eX (v := .d (.int .u64 (m : Nat))) ?_ (he := (hw))
      | refine Run.region ?_
      | refine Run.seq ?_
      | ((refine oB (frz := []) Et_ok (fun h => ?_) (fun h => ?_)) <;> (first | (exfalso; simp at h <;> fail) | (exfalso; simp at h; omega) | skip))
      | ((refine eB (fun h => ?_) (fun h => ?_)) <;> (first | (exfalso; simp at h <;> fail) | (exfalso; simp at h; omega) | skip))
      | refine oX (frz := []) Et_ok ?_
      | refine oS ?_
      | refine RunOps.nil ?_
      | refine Run.skip ?_
      | refine cT ?_
      | refine cF ?_
      | refine Run.block ?_
      | refine Run.exit ?_
      | refine Run.draw (frz := []) Et_ok (by kernel_rfl) ?_
      | refine eX ?_
      | refine eS ?_
      | refine eN ?_
      | refine oX (frz := []) (v := .d (.ep [.int .i64 (m : Int)])) Et_ok ?_ (hf := (by first | (simp [inB] <;> fail) | (simp [inB]; omega))) (he := (by first | (simp [List.getD_eq_getElem?_getD, cellsD, hx] <;> fail) | fail))
      | refine eX (v := .d (.ep [.int .i64 (m : Int)])) ?_ (hf := (by first | (simp [inB] <;> fail) | (simp [inB]; omega))) (he := (by first | (simp [List.getD_eq_getElem?_getD, cellsD, hx] <;> fail) | fail))
      | refine oC (c) ?_
      | refine eC (c) ?_
      | (refine Run.ret ?_; (first | refine rB ?_ | refine rI ?_ | refine rA ?_ | refine rII ?_ | refine rSI ?_ | refine rT ?_ | refine rS ?_); first | done | (skip))
      | (exact ⟨i + 1, hlt, by omega, weak_of' (by rw [hnx]; rfl) rfl (by repeat' (first | exact trivial | refine ⟨rfl, ?_⟩ | refine ⟨(inc_get (k := i) (by kernel_rfl) (by omega)), ?_⟩))⟩)
      | ((exfalso; (simp at h <;> omega)))
      | fail)
  · have hie : i = l.length := by omega
    subst hie
    rw [List.take_length]
    repeat' (first
      | refine Run.region ?_
      | refine Run.seq ?_
      | ((refine oB (frz := []) Et_ok (fun h => ?_) (fun h => ?_)) <;> (first | (exfalso; simp at h <;> fail) | (exfalso; simp at h; omega) | skip))
      | ((refine eB (fun h => ?_) (fun h => ?_)) <;> (first | (exfalso; simp at h <;> fail) | (exfalso; simp at h; omega) | skip))
      | refine oX (frz := []) Et_ok ?_
      | refine oS ?_
      | refine RunOps.nil ?_
      | refine Run.skip ?_
      | refine cT ?_
      | refine cF ?_
      | refine Run.block ?_
      | refine Run.exit ?_
      | refine Run.draw (frz := []) Et_ok (by kernel_rfl) ?_
      | refine eX ?_
      | refine eS ?_
      | refine eN ?_
      | (refine Run.ret ?_; (first | refine rB ?_ | refine rI ?_ | refine rA ?_ | refine rII ?_ | refine rSI ?_ | refine rT ?_ | refine rS ?_); first | done | (skip))
      | ((exfalso; (simp at h <;> omega)))
      | (exact ⟨trivial, rfl, rfl⟩)
      | fail)
theorem namesW (R : List Ob) (s : List Nat) (l : List (List Nat)) (hn : l.length < 128) (hl : ∀ x ∈ l, x.length < 128) (hs : (s ++ namesC l).length ≤ 20000) :
    ACall Tryz.prog 137 [.bp 0 0, .d (strs l)] (.box (wrC s) :: R) (.tup []) (.box (wrC (s ++ namesC l)) :: R) := by
  simp only [namesC, List.length_append, List.length_cons] at hs
  have c1 := wputS R s [(l.length : Int)] (by intro n hn; simp at hn; omega) (by simp; omega)
  have c2 := putStr (s ++ [l.length]) l hl (by omega) (by simp; omega)
  have hlen : AV.d (.int .i64 ((l.map DV.str).length : Nat)) = .d (.int .i64 (l.length : Nat)) := by rw [List.length_map]
  have he : s ++ namesC l = s ++ [l.length] ++ strsC l := by simp [namesC]
  rw [he]
  refine acall_of_run Et_ok (fnAt Tryz.func137 (by kernel_rfl) (by kernel_rfl) : FnAt _ _ (mkFn Tryz.f137 [7])) rfl rfl ?_
  repeat' (first
    | refine oX (frz := [7]) (v := .d (.int .i64 (l.length : Nat))) Et_ok ?_ (he := (hlen))
    | refine eX (v := .d (.int .i64 (l.length : Nat))) ?_ (he := (hlen))
    | refine Run.region ?_
    | refine Run.seq ?_
    | ((refine oB (frz := [7]) Et_ok (fun h => ?_) (fun h => ?_)) <;> (first | (exfalso; simp at h <;> fail) | (exfalso; simp at h; omega) | skip))
    | ((refine eB (fun h => ?_) (fun h => ?_)) <;> (first | (exfalso; simp at h <;> fail) | (exfalso; simp at h; omega) | skip))
    | refine oX (frz := [7]) Et_ok ?_
    | refine oS ?_
    | refine RunOps.nil ?_
    | refine Run.skip ?_
    | refine cT ?_
    | refine cF ?_
    | refine Run.block ?_
    | refine Run.exit ?_
    | refine Run.draw (frz := [7]) Et_ok (by kernel_rfl) ?_
    | refine eX ?_
    | refine eS ?_
    | refine eN ?_
    | refine oA c1 ?_
    | refine oC (c2) ?_
    | refine eC (c2) ?_
    | (refine Run.ret ?_; (first | refine rB ?_ | refine rI ?_ | refine rA ?_ | refine rII ?_ | refine rSI ?_ | refine rT ?_ | refine rS ?_); first | done | (skip))
    | (exact ⟨trivial, rfl, rfl⟩)
    | fail)
end Go.Av
end
noncomputable section
namespace Go.Av
open Go Go.Proofs
set_option maxRecDepth 10000
theorem writerR (s : List Nat) (hs : s.length ≤ 20000) : KnownCall Tryz.prog 212 [wrD s] (.d (wrD s)) := by
  refine knownE Et_ok (fnAt Tryz.func212 (by kernel_rfl) (by kernel_rfl) : FnAt _ _ (mkFn Tryz.f212 [1])) ?_
  repeat' (first
    | refine Run.region ?_
    | refine Run.seq ?_
    | ((refine oB (frz := [1]) Et_ok (fun h => ?_) (fun h => ?_)) <;> (first | (exfalso; simp at h <;> fail) | (exfalso; simp at h; omega) | skip))
    | ((refine eB (fun h => ?_) (fun h => ?_)) <;> (first | (exfalso; simp at h <;> fail) | (exfalso; simp at h; omega) | skip))
    | refine oX (frz := [1]) Et_ok ?_
    | refine oS ?_
    | refine RunOps.nil ?_
    | refine Run.skip ?_
    | refine cT ?_
    | refine cF ?_
    | refine Run.block ?_
    | refine Run.exit ?_
    | refine Run.draw (frz := [1]) Et_ok (by kernel_rfl) ?_
    | refine eX ?_
    | refine eS ?_
    | refine eN ?_
    | (refine Run.ret ?_; (first | refine rB ?_ | refine rI ?_ | refine rA ?_ | refine rII ?_ | refine rSI ?_ | refine rT ?_ | refine rS ?_); first | done | (rfl))
    | ((exfalso; (simp at h <;> omega)))
    | fail)
theorem addR (s x : List Nat) (h0 : (s ++ x).length ≤ 20000) : KnownCall Tryz.prog 210 [wrD s, .str x] (.d (wrD (s ++ x))) := by
  rw [List.length_append] at h0
  have c := writerR s (by omega)
  have h1 : AV.d (.int .i64 (IntKind.i64.wrap (20000 - (s.length : Int)))) = .d (.int .i64 ((20000 - s.length : Nat) : Int)) := vN8 (by omega) (by omega)
  refine knownE Et_ok (fnAt Tryz.func210 (by kernel_rfl) (by kernel_rfl) : FnAt _ _ (mkFn Tryz.f210 [])) ?_
  repeat' (first
    | refine oX (frz := []) (v := .d (.int .i64 ((20000 - s.length : Nat) : Int))) Et_ok ?_ (he := (h1))
    | refine eX (v := .d (.int .i64 ((20000 - s.length : Nat) : Int))) ?_ (he := (h1))
    | refine Run.region ?_
    | refine Run.seq ?_
    | ((refine oB (frz := []) Et_ok (fun h => ?_) (fun h => ?_)) <;> (first | (exfalso; simp at h <;> fail) | (exfalso; simp at h; omega) | skip))
    | ((refine eB (fun h => ?_) (fun h => ?_)) <;> (first | (exfalso; simp at h <;> fail) | (exfalso; simp at h; omega) | skip))
    | refine oX (frz := []) Et_ok ?_
    | refine oS ?_
    | refine RunOps.nil ?_
    | refine Run.skip ?_
    | refine cT ?_
    | refine cF ?_
    | refine Run.block ?_
    | refine Run.exit ?_
    | refine Run.draw (frz := []) Et_ok (by kernel_rfl) ?_
    | refine eX ?_
    | refine eS ?_
    | refine eN ?_
    | refine oC (c) ?_
    | refine eC (c) ?_
    | refine oX (frz := []) Et_ok ?_ (hf := by rw [Nat.ble_eq]; omega)
    | (refine Run.ret ?_; (first | refine rB ?_ | refine rI ?_ | refine rA ?_ | refine rII ?_ | refine rSI ?_ | refine rT ?_ | refine rS ?_); first | done | (rfl))
    | ((exfalso; (simp at h <;> omega)))
    | ((exfalso; have h' := of_decide_eq_true h; omega))
    | fail)
theorem makeR : KnownCall Tryz.prog 142 [.int .i64 20000] (.d (wrD [])) := knownF T0_ok Et_ok (by kernel_rfl) Ft_ok (k := 1000) (n := 20) (by kernel_rfl)
theorem putR5 (s : List Nat) (n : Nat) (hn : n < 128) (hs : s.length + 1 ≤ 20000) : KnownCall Tryz.prog 141 [wrD s, .int .u64 (n : Nat)] (.d (wrD (s ++ [n]))) := by
  have c2 := vbR n hn
  have c3 := addR s [n] (by simp; omega)
  refine knownE Et_ok (fnAt Tryz.func141 (by kernel_rfl) (by kernel_rfl) : FnAt _ _ (mkFn Tryz.f141 [2])) ?_
  repeat' (first
    | refine Run.region ?_
    | refine Run.seq ?_
    | ((refine oB (frz := [2]) Et_ok (fun h => ?_) (fun h => ?_)) <;> (first | (exfalso; simp at h <;> fail) | (exfalso; simp at h; omega) | skip))
    | ((refine eB (fun h => ?_) (fun h => ?_)) <;> (first | (exfalso; simp at h <;> fail) | (exfalso; simp at h; omega) | skip))
    | refine oX (frz := [2]) Et_ok ?_
    | refine oS ?_
    | refine RunOps.nil ?_
    | refine Run.skip ?_
    | refine cT ?_
    | refine cF ?_
    | refine Run.block ?_
    | refine Run.exit ?_
    | refine Run.draw (frz := [2]) Et_ok (by kernel_rfl) ?_
    | refine eX ?_
    | refine eS ?_
    | refine eN ?_
    | refine oC (c2) ?_
    | refine eC (c2) ?_
    | refine oC (c3) ?_
    | refine eC (c3) ?_
    | (refine Run.ret ?_; (first | refine rB ?_ | refine rI ?_ | refine rA ?_ | refine rII ?_ | refine rSI ?_ | refine rT ?_ | refine rS ?_); first | done | (rfl))
    | fail)
theorem putStrR (s : List Nat) (l : List (List Nat)) (hl : ∀ x ∈ l, x.length < 128) (hn : l.length ≤ 1048576) (hs : (s ++ strsC l).length ≤ 20000) : KnownCall Tryz.prog 144 [wrD s, strs l] (.d (wrD (s ++ strsC l))) := by
  have c3 := addR s (strsC l) hs
  rw [List.length_append] at hs
  refine knownE Et_ok (fnAt Tryz.func144 (by kernel_rfl) (by kernel_rfl) : FnAt _ _ (mkFn Tryz.f144 [2])) ?_
  repeat' (first
    | refine Run.region ?_
    | refine Run.seq ?_
    | ((refine oB (frz := [2]) Et_ok (fun h => ?_) (fun h => ?_)) <;> (first | (exfalso; simp at h <;> fail) | (exfalso; simp at h; omega) | skip))
    | ((refine eB (fun h => ?_) (fun h => ?_)) <;> (first | (exfalso; simp at h <;> fail) | (exfalso; simp at h; omega) | skip))
    | refine oX (frz := [2]) Et_ok ?_
    | refine oS ?_
    | refine RunOps.nil ?_
    | refine Run.skip ?_
    | refine cT ?_
    | refine cF ?_
    | refine Run.block ?_
    | refine Run.exit ?_
    | refine Run.draw (frz := [2]) Et_ok (by kernel_rfl) ?_
    | refine eX ?_
    | refine eS ?_
    | refine eN ?_
    | (refine Run.ret ?_; (first | refine rB ?_ | refine rI ?_ | refine rA ?_ | refine rII ?_ | refine rSI ?_ | refine rT ?_ | refine rS ?_); first | done | (skip))
    | fail)
  refine Run.loop (fun i : Nat => ⟨PT.ofList [(1, .d (strs l)), (2, .d (.ep [.str s, .int .i64 20000, .int .i64 0])), (4, .bp 0 0), (5, .d (.str (strsC (l.take i)))), (6, .d (.int .i64 i))], [wr0], []⟩) (fun i => i ≤ l.length) (fun i => l.length - i) 0 (Nat.zero_le _) (weak_of (by repeat' (first | exact trivial | refine ⟨rfl, ?_⟩))) (fun i hi => ?_)
  rcases Nat.lt_or_ge i l.length with hlt | hge
  · obtain ⟨x, hx⟩ := get_ok hlt
    have hxl := hl x (List.mem_of_getElem? hx)
    have c2 := vbR x.length hxl
    have hw : AV.d (.int .u64 (IntKind.u64.wrap (x.length : Int))) = .d (.int .u64 (x.length : Nat)) := wrapU (by omega)
    have hto := strsC_to hx
    have hle := strsC_le l (i + 1)
    rw [hto] at hle
    simp only [List.length_append, List.length_cons] at hle
    have hsum : AV.d (.int .i64 (IntKind.i64.wrap (((strsC (l.take i)).length : Int) + (x.length : Int)))) = .d (.int .i64 (((strsC (l.take i)).length + x.length : Nat) : Int)) := vN8 (by omega) (by omega)
    repeat' (first
      | refine oX (frz := [2]) (v := .d (.int .i64 (((strsC (l.take i)).length + x.length : Nat) : Int))) Et_ok ?_ (he := (hsum))
      | refine eX (v := .d (.int .i64 (((strsC (l.take i)).length + x.length : Nat) : Int))) ?_ (he := (hsum))
      | refine oX (frz := [2]) (v := .d (.int .u64 (x.length : Nat))) Et_ok ?_ (he := (hw))
      | refine eX (v := .d (.int .u64 (x.length : Nat))) ?_ (he := (hw))
      | refine Run.region ?_
      | refine Run.seq ?_
      | ((refine oB (frz := [2]) Et_ok (fun h => ?_) (fun h => ?_)) <;> (first | (exfalso; simp at h <;> fail) | (exfalso; simp at h; omega) | skip))
      | ((refine eB (fun h => ?_) (fun h => ?_)) <;> (first | (exfalso; simp at h <;> fail) | (exfalso; simp at h; omega) | skip))
      | refine oX (frz := [2]) Et_ok ?_
      | refine oS ?_
      | refine RunOps.nil ?_
      | refine Run.skip ?_
      | refine cT ?_
      | refine cF ?_
      | refine Run.block ?_
      | refine Run.exit ?_
      | refine Run.draw (frz := [2]) Et_ok (by kernel_rfl) ?_
      | refine eX ?_
      | refine eS ?_
      | refine eN ?_
      | refine oX (frz := [2]) (v := .d (.ep [.str x])) Et_ok ?_ (hf := (by first | (simp [inB] <;> fail) | (simp [inB]; omega))) (he := (by first | (simp [List.getD_eq_getElem?_getD, cellsD, hx] <;> fail) | fail))
      | refine eX (v := .d (.ep [.str x])) ?_ (hf := (by first | (simp [inB] <;> fail) | (simp [inB]; omega))) (he := (by first | (simp [List.getD_eq_getElem?_getD, cellsD, hx] <;> fail) | fail))
      | refine oC (c2) ?_
      | refine eC (c2) ?_
      | refine oX (frz := [2]) Et_ok ?_ (hf := by simp only [Nat.ble_eq, List.length_append, List.length_cons, List.length_nil]; omega)
      | refine eX ?_ (hf := by simp only [Nat.ble_eq, List.length_append, List.length_cons, List.length_nil]; omega)
      | (refine Run.ret ?_; (first | refine rB ?_ | refine rI ?_ | refine rA ?_ | refine rII ?_ | refine rSI ?_ | refine rT ?_ | refine rS ?_); first | done | (skip))
      | (exact ⟨i + 1, hlt, by omega, weak_of (by repeat' (first | exact trivial | refine ⟨rfl, ?_⟩ | refine ⟨(inc_get (k := i) (by kernel_rfl) (by omega)), ?_⟩ | refine ⟨(by rw [hto, show x.length :: x = [x.length] ++ x from rfl, ← List.append_assoc]; rfl), ?_⟩ | fail))⟩)
      | ((exfalso; (simp at h <;> omega)))
      | ((exfalso; have h' := of_decide_eq_true h; omega))
      | fail)
  · have hie : i = l.length := by omega
    subst hie
    rw [List.take_length]
    repeat' (first
      | refine Run.region ?_
      | refine Run.seq ?_
      | ((refine oB (frz := [2]) Et_ok (fun h => ?_) (fun h => ?_)) <;> (first | (exfalso; simp at h <;> fail) | (exfalso; simp at h; omega) | skip))
      | ((refine eB (fun h => ?_) (fun h => ?_)) <;> (first | (exfalso; simp at h <;> fail) | (exfalso; simp at h; omega) | skip))
      | refine oX (frz := [2]) Et_ok ?_
      | refine oS ?_
      | refine RunOps.nil ?_
      | refine Run.skip ?_
      | refine cT ?_
      | refine cF ?_
      | refine Run.block ?_
      | refine Run.exit ?_
      | refine Run.draw (frz := [2]) Et_ok (by kernel_rfl) ?_
      | refine eX ?_
      | refine eS ?_
      | refine eN ?_
      | refine oC (c3) ?_
      | refine eC (c3) ?_
      | (refine Run.ret ?_; (first | refine rB ?_ | refine rI ?_ | refine rA ?_ | refine rII ?_ | refine rSI ?_ | refine rT ?_ | refine rS ?_); first | done | (rfl))
      | ((exfalso; (simp at h <;> omega)))
      | fail)
theorem doneR (s : List Nat) (hs : s.length ≤ 20000) : KnownCall Tryz.prog 146 [wrD s] (.tup [.d (.str s), .d (.int .i64 0)]) := by
  have c := writerR s hs
  refine knownE Et_ok (fnAt Tryz.func146 (by kernel_rfl) (by kernel_rfl) : FnAt _ _ (mkFn Tryz.f146 [2])) ?_
  repeat' (first
    | refine Run.region ?_
    | refine Run.seq ?_
    | ((refine oB (frz := [2]) Et_ok (fun h => ?_) (fun h => ?_)) <;> (first | (exfalso; simp at h <;> fail) | (exfalso; simp at h; omega) | skip))
    | ((refine eB (fun h => ?_) (fun h => ?_)) <;> (first | (exfalso; simp at h <;> fail) | (exfalso; simp at h; omega) | skip))
    | refine oX (frz := [2]) Et_ok ?_
    | refine oS ?_
    | refine RunOps.nil ?_
    | refine Run.skip ?_
    | refine cT ?_
    | refine cF ?_
    | refine Run.block ?_
    | refine Run.exit ?_
    | refine Run.draw (frz := [2]) Et_ok (by kernel_rfl) ?_
    | refine eX ?_
    | refine eS ?_
    | refine eN ?_
    | refine oC (c) ?_
    | refine eC (c) ?_
    | (refine Run.ret ?_; (first | refine rB ?_ | refine rI ?_ | refine rA ?_ | refine rII ?_ | refine rSI ?_ | refine rT ?_ | refine rS ?_); first | done | (rfl))
    | ((exfalso; (simp at h <;> omega)))
    | fail)
theorem doneS (s : List Nat) (hs : s.length ≤ 20000) : KnownCall Tryz.prog 140 [wrD s] (.tup [.d (.str s), .d (.int .i64 0)]) := by
  have c := startA s hs
  refine knownE Et_ok (fnAt Tryz.func140 (by kernel_rfl) (by kernel_rfl) : FnAt _ _ (mkFn Tryz.f140 [2])) ?_
  repeat' (first
    | refine Run.region ?_
    | refine Run.seq ?_
    | ((refine oB (frz := [2]) Et_ok (fun h => ?_) (fun h => ?_)) <;> (first | (exfalso; simp at h <;> fail) | (exfalso; simp at h; omega) | skip))
    | ((refine eB (fun h => ?_) (fun h => ?_)) <;> (first | (exfalso; simp at h <;> fail) | (exfalso; simp at h; omega) | skip))
    | refine oX (frz := [2]) Et_ok ?_
    | refine oS ?_
    | refine RunOps.nil ?_
    | refine Run.skip ?_
    | refine cT ?_
    | refine cF ?_
    | refine Run.block ?_
    | refine Run.exit ?_
    | refine Run.draw (frz := [2]) Et_ok (by kernel_rfl) ?_
    | refine eX ?_
    | refine eS ?_
    | refine eN ?_
    | refine oA (ACall.lift (ds := [wrD s]) c rfl _) ?_
    | (refine Run.ret ?_; (first | refine rB ?_ | refine rI ?_ | refine rA ?_ | refine rII ?_ | refine rSI ?_ | refine rT ?_ | refine rS ?_); first | done | (rfl))
    | ((exfalso; (simp at h <;> omega)))
    | fail)
theorem namesR12 (s : List Nat) (l : List (List Nat)) (hn : l.length < 128) (hl : ∀ x ∈ l, x.length < 128) (hs : (s ++ namesC l).length ≤ 20000) : KnownCall Tryz.prog 143 [wrD s, strs l] (.d (wrD (s ++ namesC l))) := by
  simp only [namesC, List.length_append, List.length_cons] at hs
  have c1 := putR5 s l.length hn (by omega)
  have hw : AV.d (.int .u64 (IntKind.u64.wrap ((l.map DV.str).length : Int))) = .d (.int .u64 (l.length : Nat)) := by rw [List.length_map]; exact wrapU (by omega)
  have he : s ++ namesC l = s ++ [l.length] ++ strsC l := by simp [namesC]
  rw [he]
  refine knownE Et_ok (fnAt Tryz.func143 (by kernel_rfl) (by kernel_rfl) : FnAt _ _ (mkFn Tryz.f143 [])) ?_
  repeat' (first
    | refine oX (frz := [22]) (v := .d (.int .u64 (l.length : Nat))) Et_ok ?_ (he := (hw))
    | refine eX (v := .d (.int .u64 (l.length : Nat))) ?_ (he := (hw))
    | refine Run.region ?_
    | refine Run.seq ?_
    | ((refine oB (frz := [22]) Et_ok (fun h => ?_) (fun h => ?_)) <;> (first | (exfalso; simp at h <;> fail) | (exfalso; simp at h; omega) | skip))
    | ((refine eB (fun h => ?_) (fun h => ?_)) <;> (first | (exfalso; simp at h <;> fail) | (exfalso; simp at h; omega) | skip))
    | refine oX (frz := [22]) Et_ok ?_
    | refine oS ?_
    | refine RunOps.nil ?_
    | refine Run.skip ?_
    | refine cT ?_
    | refine cF ?_
    | refine Run.block ?_
    | refine Run.exit ?_
    | refine Run.draw (frz := [22]) Et_ok (by kernel_rfl) ?_
    | refine eX ?_
    | refine eS ?_
    | refine eN ?_
    | refine oC (c1) ?_
    | refine eC (c1) ?_
    | (refine Run.ret ?_; (first | refine rB ?_ | refine rI ?_ | refine rA ?_ | refine rII ?_ | refine rSI ?_ | refine rT ?_ | refine rS ?_); first | done | (skip))
    | fail)
  refine Run.loop (fun i : Nat => ⟨PT.ofList [(1, .d (strs l)), (2, .bp 0 0), (4, .bp 1 0), (5, .d (.int .i64 i))], [.box (wrC (s ++ [l.length] ++ strsC (l.take i))), wr0], []⟩) (fun i => i ≤ l.length) (fun i => l.length - i) 0 (Nat.zero_le _) (weak_of' (by rw [List.take_zero, show strsC [] = [] from rfl, List.append_nil]; rfl) rfl (by repeat' (first | exact trivial | refine ⟨rfl, ?_⟩))) (fun i hi => ?_)
  rcases Nat.lt_or_ge i l.length with hlt | hge
  · obtain ⟨x, hx⟩ := get_ok hlt
    have hto := strsC_to hx
    have hle := strsC_le l (i + 1)
    have hxl := hl x (List.mem_of_getElem? hx)
    have h1 : strsC [x] = x.length :: x := by simp [strsC]
    have hle2 := hle
    rw [hto] at hle2
    simp only [List.length_append, List.length_cons] at hle2
    have c2 := putStrR (s ++ [l.length] ++ strsC (l.take i)) [x] (by simpa using hxl) (by simp) (by rw [h1]; simp only [List.length_append, List.length_cons, List.length_nil]; omega)
    rw [h1] at c2
    repeat' (first
      | refine Run.region ?_
      | refine Run.seq ?_
      | ((refine oB (frz := [22]) Et_ok (fun h => ?_) (fun h => ?_)) <;> (first | (exfalso; simp at h <;> fail) | (exfalso; simp at h; omega) | skip))
      | ((refine eB (fun h => ?_) (fun h => ?_)) <;> (first | (exfalso; simp at h <;> fail) | (exfalso; simp at h; omega) | skip))
      | refine oX (frz := [22]) Et_ok ?_
      | refine oS ?_
      | refine RunOps.nil ?_
      | refine Run.skip ?_
      | refine cT ?_
      | refine cF ?_
      | refine Run.block ?_
      | refine Run.exit ?_
      | refine Run.draw (frz := [22]) Et_ok (by kernel_rfl) ?_
      | refine eX ?_
      | refine eS ?_
      | refine eN ?_
      | refine oX (frz := [22]) (v := .d (.ep [.str x])) Et_ok ?_ (hf := (by first | (simp [inB] <;> fail) | (simp [inB]; omega))) (he := (by first | (simp [List.getD_eq_getElem?_getD, cellsD, hx] <;> fail) | fail))
      | refine eX (v := .d (.ep [.str x])) ?_ (hf := (by first | (simp [inB] <;> fail) | (simp [inB]; omega))) (he := (by first | (simp [List.getD_eq_getElem?_getD, cellsD, hx] <;> fail) | fail))
      | refine oC (c2) ?_
      | refine eC (c2) ?_
      | (refine Run.ret ?_; (first | refine rB ?_ | refine rI ?_ | refine rA ?_ | refine rII ?_ | refine rSI ?_ | refine rT ?_ | refine rS ?_); first | done | (skip))
      | (exact ⟨i + 1, hlt, by omega, weak_of' (by rw [hto, ← List.append_assoc]; rfl) rfl (by repeat' (first | exact trivial | refine ⟨rfl, ?_⟩ | refine ⟨(inc_get (k := i) (by kernel_rfl) (by omega)), ?_⟩))⟩)
      | ((exfalso; (simp at h <;> omega)))
      | fail)
  · have hie : i = l.length := by omega
    subst hie
    rw [List.take_length]
    repeat' (first
      | refine Run.region ?_
      | refine Run.seq ?_
      | ((refine oB (frz := [22]) Et_ok (fun h => ?_) (fun h => ?_)) <;> (first | (exfalso; simp at h <;> fail) | (exfalso; simp at h; omega) | skip))
      | ((refine eB (fun h => ?_) (fun h => ?_)) <;> (first | (exfalso; simp at h <;> fail) | (exfalso; simp at h; omega) | skip))
      | refine oX (frz := [22]) Et_ok ?_
      | refine oS ?_
      | refine RunOps.nil ?_
      | refine Run.skip ?_
      | refine cT ?_
      | refine cF ?_
      | refine Run.block ?_
      | refine Run.exit ?_
      | refine Run.draw (frz := [22]) Et_ok (by kernel_rfl) ?_
      | refine eX ?_
      | refine eS ?_
      | refine eN ?_
      | (refine Run.ret ?_; (first | refine rB ?_ | refine rI ?_ | refine rA ?_ | refine rII ?_ | refine rSI ?_ | refine rT ?_ | refine rS ?_); first | done | (rfl))
      | ((exfalso; (simp at h <;> omega)))
      | fail)
def hashTo (s : List Nat) : Nat → Int
  | 0 => 14695981039346656037
  | i + 1 => IntKind.u64.wrap (IntKind.u64.wrap (BitVec.ofInt 64 (hashTo s i) ^^^ BitVec.ofInt 64 ((s.getD i 0 : Nat) : Int)).toNat * 1099511628211)
theorem getD_of {s : List Nat} {i c : Nat} (h : s[i]? = some c) : s.getD i 0 = c := by rw [List.getD_eq_getElem?_getD, h]; rfl
theorem hashS (s : List Nat) (hs : s.length ≤ 1048576) (hb : ∀ c ∈ s, c < 256) : KnownCall Tryz.prog 49 [.str s] (.d (.int .u64 (hashTo s s.length))) := by
  refine knownE Et_ok (fnAt Tryz.func49 (by kernel_rfl) (by kernel_rfl) : FnAt _ _ (mkFn Tryz.f49 [])) ?_
  repeat' (first
    | refine Run.region ?_
    | refine Run.seq ?_
    | ((refine oB (frz := []) Et_ok (fun h => ?_) (fun h => ?_)) <;> (first | (exfalso; simp at h <;> fail) | (exfalso; simp at h; omega) | skip))
    | ((refine eB (fun h => ?_) (fun h => ?_)) <;> (first | (exfalso; simp at h <;> fail) | (exfalso; simp at h; omega) | skip))
    | refine oX (frz := []) Et_ok ?_
    | refine oS ?_
    | refine RunOps.nil ?_
    | refine Run.skip ?_
    | refine cT ?_
    | refine cF ?_
    | refine Run.block ?_
    | refine Run.exit ?_
    | refine Run.draw (frz := []) Et_ok (by kernel_rfl) ?_
    | refine eX ?_
    | refine eS ?_
    | refine eN ?_
    | refine oX (frz := []) Et_ok ?_ (hf := (by first | (simp [Nat.ble_eq] <;> fail) | (simp [Nat.ble_eq]; omega)))
    | refine eX ?_ (hf := (by first | (simp [Nat.ble_eq] <;> fail) | (simp [Nat.ble_eq]; omega)))
    | (refine Run.ret ?_; (first | refine rB ?_ | refine rI ?_ | refine rA ?_ | refine rII ?_ | refine rSI ?_ | refine rT ?_ | refine rS ?_); first | done | (skip))
    | fail)
  refine Run.loop (fun i : Nat => ⟨PT.ofList [(3, .d (.int .u64 (hashTo s i))), (7, .d (.sl 1 (s.map fun n => .int .u8 (n : Nat)))), (8, .d (.int .i64 (s.map fun n => DV.int .u8 (n : Nat)).length)), (9, .d (.int .i64 i))], [], []⟩) (fun i => i ≤ s.length) (fun i => s.length - i) 0 (Nat.zero_le _) (weak_of ⟨by rw [hashTo]; rfl, rfl, rfl, rfl, trivial⟩) (fun i hi => ?_)
  rcases Nat.lt_or_ge i s.length with hlt | hge
  · obtain ⟨c, hc⟩ := get_ok hlt
    have hcb := hb c (List.mem_of_getElem? hc)
    have hw : AV.d (.int .u64 (IntKind.u64.wrap (c : Int))) = .d (.int .u64 (c : Nat)) := wrapU (by omega)
    have hgd := getD_of hc
    repeat' (first
      | refine oX (frz := []) (v := .d (.int .u64 (c : Nat))) Et_ok ?_ (he := (hw))
      | refine eX (v := .d (.int .u64 (c : Nat))) ?_ (he := (hw))
      | refine Run.region ?_
      | refine Run.seq ?_
      | ((refine oB (frz := []) Et_ok (fun h => ?_) (fun h => ?_)) <;> (first | (exfalso; simp at h <;> fail) | (exfalso; simp at h; omega) | skip))
      | ((refine eB (fun h => ?_) (fun h => ?_)) <;> (first | (exfalso; simp at h <;> fail) | (exfalso; simp at h; omega) | skip))
      | refine oX (frz := []) Et_ok ?_
      | refine oS ?_
      | refine RunOps.nil ?_
      | refine Run.skip ?_
      | refine cT ?_
      | refine cF ?_
      | refine Run.block ?_
      | refine Run.exit ?_
      | refine Run.draw (frz := []) Et_ok (by kernel_rfl) ?_
      | refine eX ?_
      | refine eS ?_
      | refine eN ?_
      | refine oX (frz := []) (v := .d (.ep [.int .u8 (c : Nat)])) Et_ok ?_ (hf := (by first | (simp [inB] <;> fail) | (simp [inB]; omega))) (he := (by first | (simp [List.getD_eq_getElem?_getD, cellsD, hc] <;> fail) | fail))
      | refine eX (v := .d (.ep [.int .u8 (c : Nat)])) ?_ (hf := (by first | (simp [inB] <;> fail) | (simp [inB]; omega))) (he := (by first | (simp [List.getD_eq_getElem?_getD, cellsD, hc] <;> fail) | fail))
      | (refine Run.ret ?_; (first | refine rB ?_ | refine rI ?_ | refine rA ?_ | refine rII ?_ | refine rSI ?_ | refine rT ?_ | refine rS ?_); first | done | (skip))
      | (exact ⟨i + 1, hlt, by omega, weak_of ⟨by rw [hashTo, hgd]; rfl, rfl, rfl, (inc_get (k := i) (by kernel_rfl) (by omega)), trivial⟩⟩)
      | ((exfalso; (simp at h <;> omega)))
      | fail)
  · have hie : i = s.length := by omega
    subst hie
    repeat' (first
      | refine Run.region ?_
      | refine Run.seq ?_
      | ((refine oB (frz := []) Et_ok (fun h => ?_) (fun h => ?_)) <;> (first | (exfalso; simp at h <;> fail) | (exfalso; simp at h; omega) | skip))
      | ((refine eB (fun h => ?_) (fun h => ?_)) <;> (first | (exfalso; simp at h <;> fail) | (exfalso; simp at h; omega) | skip))
      | refine oX (frz := []) Et_ok ?_
      | refine oS ?_
      | refine RunOps.nil ?_
      | refine Run.skip ?_
      | refine cT ?_
      | refine cF ?_
      | refine Run.block ?_
      | refine Run.exit ?_
      | refine Run.draw (frz := []) Et_ok (by kernel_rfl) ?_
      | refine eX ?_
      | refine eS ?_
      | refine eN ?_
      | (refine Run.ret ?_; (first | refine rB ?_ | refine rI ?_ | refine rA ?_ | refine rII ?_ | refine rSI ?_ | refine rT ?_ | refine rS ?_); first | done | (rfl))
      | ((exfalso; (simp at h <;> omega)))
      | fail)
theorem hashR (s : List Nat) (hs : s.length ≤ 1048576) (hb : ∀ c ∈ s, c < 256) : KnownCall Tryz.prog 50 [.str s] (.d (.int .u64 (hashTo s s.length))) := by
  refine knownE Et_ok (fnAt Tryz.func50 (by kernel_rfl) (by kernel_rfl) : FnAt _ _ (mkFn Tryz.f50 [])) ?_
  repeat' (first
    | refine Run.region ?_
    | refine Run.seq ?_
    | ((refine oB (frz := []) Et_ok (fun h => ?_) (fun h => ?_)) <;> (first | (exfalso; simp at h <;> fail) | (exfalso; simp at h; omega) | skip))
    | ((refine eB (fun h => ?_) (fun h => ?_)) <;> (first | (exfalso; simp at h <;> fail) | (exfalso; simp at h; omega) | skip))
    | refine oX (frz := []) Et_ok ?_
    | refine oS ?_
    | refine RunOps.nil ?_
    | refine Run.skip ?_
    | refine cT ?_
    | refine cF ?_
    | refine Run.block ?_
    | refine Run.exit ?_
    | refine Run.draw (frz := []) Et_ok (by kernel_rfl) ?_
    | refine eX ?_
    | refine eS ?_
    | refine eN ?_
    | (refine Run.ret ?_; (first | refine rB ?_ | refine rI ?_ | refine rA ?_ | refine rII ?_ | refine rSI ?_ | refine rT ?_ | refine rS ?_); first | done | (skip))
    | fail)
  refine Run.loop (fun i : Nat => ⟨PT.ofList [(0, .d (.str s)), (3, .d (.int .u64 (hashTo s i))), (4, .d (.int .i64 i))], [], []⟩) (fun i => i ≤ s.length) (fun i => s.length - i) 0 (Nat.zero_le _) (weak_of ⟨rfl, by rw [hashTo]; rfl, rfl, trivial⟩) (fun i hi => ?_)
  rcases Nat.lt_or_ge i s.length with hlt | hge
  · obtain ⟨c, hc⟩ := get_ok hlt
    have hcb := hb c (List.mem_of_getElem? hc)
    have hw : AV.d (.int .u64 (IntKind.u64.wrap (c : Int))) = .d (.int .u64 (c : Nat)) := wrapU (by omega)
    have hgd := getD_of hc
    repeat' (first
      | refine oX (frz := []) (v := .d (.int .u64 (c : Nat))) Et_ok ?_ (he := (hw))
      | refine eX (v := .d (.int .u64 (c : Nat))) ?_ (he := (hw))
      | refine Run.region ?_
      | refine Run.seq ?_
      | ((refine oB (frz := []) Et_ok (fun h => ?_) (fun h => ?_)) <;> (first | (exfalso; simp at h <;> fail) | (exfalso; simp at h; omega) | skip))
      | ((refine eB (fun h => ?_) (fun h => ?_)) <;> (first | (exfalso; simp at h <;> fail) | (exfalso; simp at h; omega) | skip))
      | refine oX (frz := []) Et_ok ?_
      | refine oS ?_
      | refine RunOps.nil ?_
      | refine Run.skip ?_
      | refine cT ?_
      | refine cF ?_
      | refine Run.block ?_
      | refine Run.exit ?_
      | refine Run.draw (frz := []) Et_ok (by kernel_rfl) ?_
      | refine eX ?_
      | refine eS ?_
      | refine eN ?_
      | refine oX (frz := []) (v := .d (.int .u8 (c : Nat))) Et_ok ?_ (hf := by simp [inB]; omega) (he := by simp [List.getD_eq_getElem?_getD, hc])
      | (refine Run.ret ?_; (first | refine rB ?_ | refine rI ?_ | refine rA ?_ | refine rII ?_ | refine rSI ?_ | refine rT ?_ | refine rS ?_); first | done | (skip))
      | (exact ⟨i + 1, hlt, by omega, weak_of ⟨rfl, by rw [hashTo, hgd]; rfl, (inc_get (k := i) (by kernel_rfl) (by omega)), trivial⟩⟩)
      | ((exfalso; (simp at h <;> omega)))
      | fail)
  · have hie : i = s.length := by omega
    subst hie
    repeat' (first
      | refine Run.region ?_
      | refine Run.seq ?_
      | ((refine oB (frz := []) Et_ok (fun h => ?_) (fun h => ?_)) <;> (first | (exfalso; simp at h <;> fail) | (exfalso; simp at h; omega) | skip))
      | ((refine eB (fun h => ?_) (fun h => ?_)) <;> (first | (exfalso; simp at h <;> fail) | (exfalso; simp at h; omega) | skip))
      | refine oX (frz := []) Et_ok ?_
      | refine oS ?_
      | refine RunOps.nil ?_
      | refine Run.skip ?_
      | refine cT ?_
      | refine cF ?_
      | refine Run.block ?_
      | refine Run.exit ?_
      | refine Run.draw (frz := []) Et_ok (by kernel_rfl) ?_
      | refine eX ?_
      | refine eS ?_
      | refine eN ?_
      | (refine Run.ret ?_; (first | refine rB ?_ | refine rI ?_ | refine rA ?_ | refine rII ?_ | refine rSI ?_ | refine rT ?_ | refine rS ?_); first | done | (rfl))
      | ((exfalso; (simp at h <;> omega)))
      | fail)
theorem nameF_len {s : List Nat} (h : nameF s = 0) : s.length ≤ 12 := by
  unfold nameF at h
  split at h
  · omega
  · unfold wordF at h
    split at h
    · omega
    · split at h
      · omega
      · split at h
        · omega
        · omega
theorem small_len {s : List Nat} (h : smallF s = true) : s.length ≤ 12 := by
  simp only [smallF, Bool.and_eq_true, decide_eq_true_eq] at h; exact nameF_len h.1
theorem capital_len {s : List Nat} (h : capitalF s = true) : s.length ≤ 12 := by
  simp only [capitalF, Bool.and_eq_true, decide_eq_true_eq] at h; exact nameF_len h.1
structure OkG (g : Gram) : Prop where
  k : 1 ≤ g.k ∧ g.k ≤ 4
  tokens : g.tokens.length ≤ 8
  tokenS : ∀ s ∈ g.tokens, s.length ≤ 12
  sep : g.sep.length ≤ 12
  names : g.names.length ≤ 8
  nameS : ∀ s ∈ g.names, s.length ≤ 12
  start : 16 ≤ g.start ∧ g.start < 24
  prods : g.prods.length ≤ 24
  left : ∀ p ∈ g.prods, 16 ≤ p.left ∧ p.left < 16 + g.names.length
  right : ∀ p ∈ g.prods, p.right.length ≤ 6
  syms : ∀ p ∈ g.prods, ∀ s ∈ p.right, (0 ≤ s ∧ s < g.tokens.length) ∨ (16 ≤ s ∧ s < 16 + g.names.length)
theorem valid_ok {g : Gram} (h : checkF g = 0) : OkG g := by
  unfold checkF at h
  split at h
  · omega
  rename_i hk
  split at h
  · exact absurd h (by assumption)
  rename_i hm
  have hm : manyF g = 0 := Classical.byContradiction hm
  split at h
  · omega
  split at h
  · exact absurd h (by assumption)
  rename_i hn
  have hn : namesF g = 0 := Classical.byContradiction hn
  have hnz : namedF g = 0 := by
    unfold namesF at hn
    split at hn
    · omega
    · exact hn
  obtain ⟨hs1, hs2⟩ := named_zero hnz
  unfold symbolsF at h
  split at h
  · rename_i hso
    obtain ⟨hst, hps⟩ := hso
    have h1 : g.tokens.length ≤ 8 := by
      rcases Nat.lt_or_ge 8 g.tokens.length with hh | hh
      · rw [many_tok hh] at hm; cases hm
      · exact hh
    have h2 : g.names.length ≤ 8 := by
      rcases Nat.lt_or_ge 8 g.names.length with hh | hh
      · rw [many_nam hh] at hm; cases hm
      · exact hh
    have h3 : g.prods.length ≤ 24 := by
      rcases Nat.lt_or_ge 24 g.prods.length with hh | hh
      · rw [many_pro hh] at hm; cases hm
      · exact hh
    have h4 : ∀ p ∈ g.prods, p.right.length ≤ 6 := fun p hp => by
      obtain ⟨i, hi, rfl⟩ := List.getElem_of_mem hp
      rcases Nat.lt_or_ge 6 g.prods[i].right.length with hh | hh
      · rw [many_rig (i := i) (by simp [hi]) hh] at hm; cases hm
      · exact hh
    simp only [isNonterm, Bool.and_eq_true, decide_eq_true_eq] at hst
    refine ⟨by omega, h1, fun s hs => small_len (hs1 s (by simp [smalls, hs])), small_len (hs1 g.sep (by simp [smalls])), h2, fun s hs => capital_len (hs2 s hs), by omega, h3, fun p hp => ?_, h4, fun p hp s hs => ?_⟩
    · have := (hps p hp).1
      simp only [isNonterm, Bool.and_eq_true, decide_eq_true_eq] at this
      omega
    · have := (hps p hp).2 s hs
      simp only [goodS, isTerm, isNonterm, Bool.or_eq_true, Bool.and_eq_true, decide_eq_true_eq] at this
      omega
  · cases h
end Go.Av
end
noncomputable section
namespace Go.Av
open Go Go.Proofs
set_option maxRecDepth 10000
def numI (s : Int) : Int := if 16 ≤ s then s - 8 else s
def numC (s : Int) : Nat := (numI s).toNat
def prodC (p : GProd) : List Nat := [p.left - 16, (p.right.length : Int)].map Int.toNat ++ p.right.map numC
def headC (g : Gram) : List Nat := [] ++ [g.k].map Int.toNat ++ namesC g.tokens ++ strsC [g.sep] ++ namesC g.names ++ [g.start - 16, (g.prods.length : Int)].map Int.toNat
def canonC (g : Gram) : List Nat := headC g ++ g.prods.flatMap prodC
def bytesF (g : Gram) : List Nat := if checkF g = 0 then canonC g else []
theorem strsC_len {l : List (List Nat)} (h : ∀ x ∈ l, x.length ≤ 12) : (strsC l).length ≤ l.length * 13 := by
  induction l with
  | nil => simp [strsC]
  | cons a l ih =>
    have h1 := h a (by simp)
    have h2 := ih fun x hx => h x (by simp [hx])
    simp only [strsC, List.flatMap_cons, List.length_append, List.length_cons] at h2 ⊢
    omega
theorem headC_len {g : Gram} (h : OkG g) : (headC g).length ≤ 300 := by
  have h1 := strsC_len h.tokenS
  have h2 := strsC_len h.nameS
  have h3 : (strsC [g.sep]).length = g.sep.length + 1 := by simp [strsC]
  have := h.tokens
  have := h.names
  have := h.sep
  simp only [headC, namesC, List.length_append, List.length_cons, List.length_nil, List.length_map]
  omega
theorem prodC_len (p : GProd) : (prodC p).length = p.right.length + 2 := by simp [prodC]
def prodsC (g : Gram) (i : Nat) : List Nat := (g.prods.take i).flatMap prodC
theorem prodsC_succ {g : Gram} {i : Nat} {p : GProd} (h : g.prods[i]? = some p) : prodsC g (i + 1) = prodsC g i ++ prodC p := by
  simp [prodsC, List.take_add_one, h]
theorem prodsC_len {g : Gram} (h : OkG g) : ∀ i, i ≤ g.prods.length → (prodsC g i).length ≤ i * 8
  | 0, _ => by simp [prodsC]
  | i + 1, hi => by
    obtain ⟨p, hp⟩ := get_ok (show i < g.prods.length by omega)
    have h1 := prodsC_len h i (by omega)
    have h2 := h.right p (List.mem_of_getElem? hp)
    rw [prodsC_succ hp, List.length_append, prodC_len]
    omega
theorem canonC_len {g : Gram} (h : OkG g) : (canonC g).length ≤ 492 := by
  have h1 := headC_len h
  have h2 := prodsC_len h g.prods.length (Nat.le_refl _)
  have h3 := h.prods
  rw [prodsC, List.take_length] at h2
  simp only [canonC, List.length_append]
  omega
theorem vI {x y : Int} (h : -9223372036854775808 ≤ x) (h2 : x ≤ 9223372036854775807) (e : x = y) : AV.d (.int .i64 (IntKind.i64.wrap x)) = .d (.int .i64 y) := by rw [wrap64 h h2, e]
theorem numS12 (s : Int) (h1 : 0 ≤ s) (h2 : s ≤ 1048576) : KnownCall Tryz.prog 139 [.int .i64 s] (.d (.int .i64 (numI s))) := by
  have hw : AV.d (.int .i64 (IntKind.i64.wrap (s - 8))) = .d (.int .i64 (s - 8)) := vI (by omega) (by omega) rfl
  by_cases hs : 16 ≤ s
  · rw [show numI s = s - 8 from if_pos hs]
    refine knownE Et_ok (fnAt Tryz.func139 (by kernel_rfl) (by kernel_rfl) : FnAt _ _ (mkFn Tryz.f139 [])) ?_
    repeat' (first
      | refine oX (frz := []) (v := .d (.int .i64 (s - 8))) Et_ok ?_ (he := (hw))
      | refine eX (v := .d (.int .i64 (s - 8))) ?_ (he := (hw))
      | refine Run.region ?_
      | refine Run.seq ?_
      | ((refine oB (frz := []) Et_ok (fun h => ?_) (fun h => ?_)) <;> (first | (exfalso; simp at h <;> fail) | (exfalso; simp at h; omega) | skip))
      | ((refine eB (fun h => ?_) (fun h => ?_)) <;> (first | (exfalso; simp at h <;> fail) | (exfalso; simp at h; omega) | skip))
      | refine oX (frz := []) Et_ok ?_
      | refine oS ?_
      | refine RunOps.nil ?_
      | refine Run.skip ?_
      | refine cT ?_
      | refine cF ?_
      | refine Run.block ?_
      | refine Run.exit ?_
      | refine Run.draw (frz := []) Et_ok (by kernel_rfl) ?_
      | refine eX ?_
      | refine eS ?_
      | refine eN ?_
      | (refine Run.ret ?_; (first | refine rB ?_ | refine rI ?_ | refine rA ?_ | refine rII ?_ | refine rSI ?_ | refine rT ?_ | refine rS ?_); first | done | (rfl))
      | ((exfalso; (simp at h <;> omega)))
      | fail)
  · rw [show numI s = s from if_neg hs]
    refine knownE Et_ok (fnAt Tryz.func139 (by kernel_rfl) (by kernel_rfl) : FnAt _ _ (mkFn Tryz.f139 [])) ?_
    repeat' (first
      | refine Run.region ?_
      | refine Run.seq ?_
      | ((refine oB (frz := []) Et_ok (fun h => ?_) (fun h => ?_)) <;> (first | (exfalso; simp at h <;> fail) | (exfalso; simp at h; omega) | skip))
      | ((refine eB (fun h => ?_) (fun h => ?_)) <;> (first | (exfalso; simp at h <;> fail) | (exfalso; simp at h; omega) | skip))
      | refine oX (frz := []) Et_ok ?_
      | refine oS ?_
      | refine RunOps.nil ?_
      | refine Run.skip ?_
      | refine cT ?_
      | refine cF ?_
      | refine Run.block ?_
      | refine Run.exit ?_
      | refine Run.draw (frz := []) Et_ok (by kernel_rfl) ?_
      | refine eX ?_
      | refine eS ?_
      | refine eN ?_
      | (refine Run.ret ?_; (first | refine rB ?_ | refine rI ?_ | refine rA ?_ | refine rII ?_ | refine rSI ?_ | refine rT ?_ | refine rS ?_); first | done | (rfl))
      | ((exfalso; (simp at h <;> omega)))
      | fail)
theorem codeR12 (s : Int) (h1 : 0 ≤ s) (h2 : s ≤ 1048576) : KnownCall Tryz.prog 145 [.int .i64 s] (.d (.int .u64 (numC s : Nat))) := by
  have hw : AV.d (.int .i64 (IntKind.i64.wrap (s - 8))) = .d (.int .i64 (s - 8)) := vI (by omega) (by omega) rfl
  obtain ⟨m, rfl⟩ := Int.eq_ofNat_of_zero_le h1
  by_cases hs : 16 ≤ m
  · have e : numC m = m - 8 := by simp only [numC, numI]; rw [if_pos (by omega)]; omega
    have hu : AV.d (.int .u64 (IntKind.u64.wrap ((m : Int) - 8))) = .d (.int .u64 ((m - 8 : Nat) : Int)) := by
      rw [show (m : Int) - 8 = ((m - 8 : Nat) : Int) by omega]; exact wrapU (by omega)
    rw [e]
    refine knownE Et_ok (fnAt Tryz.func145 (by kernel_rfl) (by kernel_rfl) : FnAt _ _ (mkFn Tryz.f145 [])) ?_
    repeat' (first
      | refine oX (frz := []) (v := .d (.int .u64 ((m - 8 : Nat) : Int))) Et_ok ?_ (he := (hu))
      | refine eX (v := .d (.int .u64 ((m - 8 : Nat) : Int))) ?_ (he := (hu))
      | refine oX (frz := []) (v := .d (.int .i64 ((m : Int) - 8))) Et_ok ?_ (he := (hw))
      | refine eX (v := .d (.int .i64 ((m : Int) - 8))) ?_ (he := (hw))
      | refine Run.region ?_
      | refine Run.seq ?_
      | ((refine oB (frz := []) Et_ok (fun h => ?_) (fun h => ?_)) <;> (first | (exfalso; simp at h <;> fail) | (exfalso; simp at h; omega) | skip))
      | ((refine eB (fun h => ?_) (fun h => ?_)) <;> (first | (exfalso; simp at h <;> fail) | (exfalso; simp at h; omega) | skip))
      | refine oX (frz := []) Et_ok ?_
      | refine oS ?_
      | refine RunOps.nil ?_
      | refine Run.skip ?_
      | refine cT ?_
      | refine cF ?_
      | refine Run.block ?_
      | refine Run.exit ?_
      | refine Run.draw (frz := []) Et_ok (by kernel_rfl) ?_
      | refine eX ?_
      | refine eS ?_
      | refine eN ?_
      | (refine Run.ret ?_; (first | refine rB ?_ | refine rI ?_ | refine rA ?_ | refine rII ?_ | refine rSI ?_ | refine rT ?_ | refine rS ?_); first | done | (rfl))
      | ((exfalso; (simp at h <;> omega)))
      | fail)
  · have e : numC m = m := by simp only [numC, numI]; rw [if_neg (by omega)]; omega
    have hu : AV.d (.int .u64 (IntKind.u64.wrap (m : Int))) = .d (.int .u64 ((m : Nat) : Int)) := wrapU (by omega)
    rw [e]
    refine knownE Et_ok (fnAt Tryz.func145 (by kernel_rfl) (by kernel_rfl) : FnAt _ _ (mkFn Tryz.f145 [])) ?_
    repeat' (first
      | refine oX (frz := []) (v := .d (.int .u64 (m : Nat))) Et_ok ?_ (he := (hu))
      | refine eX (v := .d (.int .u64 (m : Nat))) ?_ (he := (hu))
      | refine Run.region ?_
      | refine Run.seq ?_
      | ((refine oB (frz := []) Et_ok (fun h => ?_) (fun h => ?_)) <;> (first | (exfalso; simp at h <;> fail) | (exfalso; simp at h; omega) | skip))
      | ((refine eB (fun h => ?_) (fun h => ?_)) <;> (first | (exfalso; simp at h <;> fail) | (exfalso; simp at h; omega) | skip))
      | refine oX (frz := []) Et_ok ?_
      | refine oS ?_
      | refine RunOps.nil ?_
      | refine Run.skip ?_
      | refine cT ?_
      | refine cF ?_
      | refine Run.block ?_
      | refine Run.exit ?_
      | refine Run.draw (frz := []) Et_ok (by kernel_rfl) ?_
      | refine eX ?_
      | refine eS ?_
      | refine eN ?_
      | (refine Run.ret ?_; (first | refine rB ?_ | refine rI ?_ | refine rA ?_ | refine rII ?_ | refine rSI ?_ | refine rT ?_ | refine rS ?_); first | done | (rfl))
      | ((exfalso; (simp at h <;> omega)))
      | fail)
theorem numI_range {g : Gram} (h : OkG g) {p : GProd} (hp : p ∈ g.prods) {s : Int} (hs : s ∈ p.right) : 0 ≤ s ∧ s ≤ 24 ∧ 0 ≤ numI s ∧ numI s < 16 := by
  have h1 := h.syms p hp s hs
  have h2 := h.tokens
  have h3 := h.names
  unfold numI
  split <;> omega
set_option maxHeartbeats 4000000 in
theorem bytesS0 (g : Gram) (hf : Fits g) (h0 : checkF g = 0) : KnownCall Tryz.prog 45 [encG g] (.tup [.d (.str (canonC g)), .d (.int .i64 0)]) := by
  have cc := grCheck g hf
  rw [h0] at cc
  have hv := valid_ok h0
  have hcl := canonC_len hv
  have hhl := headC_len hv
  obtain ⟨hk1, hk2⟩ := hv.k
  obtain ⟨hst1, hst2⟩ := hv.start
  have htl := hv.tokens
  have hnl := hv.names
  have hpl := hv.prods
  have hsl := hv.sep
  have ht1 := strsC_len hv.tokenS
  have ht2 := strsC_len hv.nameS
  have ht3 : (strsC [g.sep]).length = g.sep.length + 1 := by simp [strsC]
  have c1 := wputS [] [] [g.k] (by intro n hn; simp at hn; omega) (by simp)
  have c2 := namesW [] ([] ++ [g.k].map Int.toNat) g.tokens (by omega) (fun x hx => by have := hv.tokenS x hx; omega) (by simp only [namesC, List.length_append, List.length_cons, List.length_nil, List.length_map]; omega)
  have c3 := putStr ([] ++ [g.k].map Int.toNat ++ namesC g.tokens) [g.sep] (by intro x hx; simp at hx; subst hx; omega) (by simp) (by simp only [namesC, List.length_append, List.length_cons, List.length_nil, List.length_map]; omega)
  have c4 := namesW [] ([] ++ [g.k].map Int.toNat ++ namesC g.tokens ++ strsC [g.sep]) g.names (by omega) (fun x hx => by have := hv.nameS x hx; omega) (by simp only [namesC, List.length_append, List.length_cons, List.length_nil, List.length_map]; omega)
  have c5 := wputS [] ([] ++ [g.k].map Int.toNat ++ namesC g.tokens ++ strsC [g.sep] ++ namesC g.names) [g.start - 16, (g.prods.length : Int)] (by intro n hn; simp at hn; omega) (by simp only [namesC, List.length_append, List.length_cons, List.length_nil, List.length_map]; omega)
  have hst : AV.d (.int .i64 (IntKind.i64.wrap (g.start - 16))) = .d (.int .i64 (g.start - 16)) := vI (by omega) (by omega) rfl
  have hpn : AV.d (.int .i64 ((g.prods.map encP).length : Nat)) = .d (.int .i64 (g.prods.length : Nat)) := by rw [List.length_map]
  have c6 := doneS (canonC g) (by omega)
  refine knownE Et_ok (fnAt Tryz.func45 (by kernel_rfl) (by kernel_rfl) : FnAt _ _ (mkFn Tryz.f45 [1, 21, 34, 49, 65, 77])) ?_
  repeat' (first
    | refine oX (frz := [1, 21, 34, 49, 65, 77]) (v := .d (.int .i64 (g.prods.length : Nat))) Et_ok ?_ (he := (hpn))
    | refine eX (v := .d (.int .i64 (g.prods.length : Nat))) ?_ (he := (hpn))
    | refine oX (frz := [1, 21, 34, 49, 65, 77]) (v := .d (.int .i64 (g.start - 16))) Et_ok ?_ (he := (hst))
    | refine eX (v := .d (.int .i64 (g.start - 16))) ?_ (he := (hst))
    | refine Run.region ?_
    | refine Run.seq ?_
    | ((refine oB (frz := [1, 21, 34, 49, 65, 77]) Et_ok (fun h => ?_) (fun h => ?_)) <;> (first | (exfalso; simp at h <;> fail) | (exfalso; simp at h; omega) | skip))
    | ((refine eB (fun h => ?_) (fun h => ?_)) <;> (first | (exfalso; simp at h <;> fail) | (exfalso; simp at h; omega) | skip))
    | refine oX (frz := [1, 21, 34, 49, 65, 77]) Et_ok ?_
    | refine oS ?_
    | refine RunOps.nil ?_
    | refine Run.skip ?_
    | refine cT ?_
    | refine cF ?_
    | refine Run.block ?_
    | refine Run.exit ?_
    | refine Run.draw (frz := [1, 21, 34, 49, 65, 77]) Et_ok (by kernel_rfl) ?_
    | refine eX ?_
    | refine eS ?_
    | refine eN ?_
    | refine oC (cc) ?_
    | refine eC (cc) ?_
    | refine oC (makeS) ?_
    | refine eC (makeS) ?_
    | refine oA c1 ?_
    | refine oA c2 ?_
    | refine oC (c3) ?_
    | refine eC (c3) ?_
    | refine oA c4 ?_
    | refine oA c5 ?_
    | (refine Run.ret ?_; (first | refine rB ?_ | refine rI ?_ | refine rA ?_ | refine rII ?_ | refine rSI ?_ | refine rT ?_ | refine rS ?_); first | done | (skip))
    | ((exfalso; (simp at h <;> omega)))
    | fail)
  refine Run.loopT (fun i : Nat => ⟨PT.ofList [(1, (.d (.ep [.int .i64 g.k, strs g.tokens, .str g.sep, strs g.names, .int .i64 g.start, .sl 2 (g.prods.map encP)]))), (5, .bp 0 0), (52, .d (.sl 2 (g.prods.map encP))), (53, .d (.int .i64 (g.prods.length : Nat))), (54, .d (.int .i64 i))], [.box (wrC (headC g ++ prodsC g i))], []⟩) (fun i => i ≤ g.prods.length) (fun i => g.prods.length - i) 0 (Nat.zero_le _) (tidy_of (objs := _) _ 1 (Eq.trans (b := [.box (wrC (headC g))]) rfl (by first | rfl | (simp [rowA, rowO, rgtD, prodsC] <;> fail))) rfl (by repeat' (first | exact trivial | refine ⟨(Or.inl rfl), ?_⟩ | refine ⟨(Or.inr rfl), ?_⟩ | fail)) (by repeat' (first | exact trivial | refine ⟨rfl, ?_⟩ | fail)) rfl rfl) (fun i hi => ?_)
  have hpc := prodsC_len hv i hi
  rcases Nat.lt_or_ge i g.prods.length with hlt | hge
  · obtain ⟨p, hp⟩ := get_ok hlt
    have hpm := List.mem_of_getElem? hp
    obtain ⟨hl1, hl2⟩ := hv.left p hpm
    have hr6 := hv.right p hpm
    have hsu := prodsC_succ hp
    have hlf : AV.d (.int .i64 (IntKind.i64.wrap (p.left - 16))) = .d (.int .i64 (p.left - 16)) := vI (by omega) (by omega) rfl
    have hrn : AV.d (.int .i64 ((p.right.map (DV.int .i64)).length : Nat)) = .d (.int .i64 (p.right.length : Nat)) := by rw [List.length_map]
    have c7 := wputS [.box [.d (.int .i64 p.left), .d (ints p.right)]] (headC g ++ prodsC g i) [p.left - 16, (p.right.length : Int)] (by intro n hn; simp at hn; omega) (by simp only [List.length_append, List.length_cons, List.length_nil]; omega)
    obtain ⟨X, hX⟩ : ∃ X, X = headC g ++ prodsC g i ++ [p.left - 16, (p.right.length : Int)].map Int.toNat := ⟨_, rfl⟩
    have hXl : X.length ≤ 494 := by rw [hX]; simp only [List.length_append, List.length_cons, List.length_nil, List.length_map]; omega
    rw [← hX] at c7
    repeat' (first
      | refine oX (frz := [1, 21, 34, 49, 65, 77]) (v := .d (.int .i64 (p.right.length : Nat))) Et_ok ?_ (he := (hrn))
      | refine eX (v := .d (.int .i64 (p.right.length : Nat))) ?_ (he := (hrn))
      | refine oX (frz := [1, 21, 34, 49, 65, 77]) (v := .d (.int .i64 (p.left - 16))) Et_ok ?_ (he := (hlf))
      | refine eX (v := .d (.int .i64 (p.left - 16))) ?_ (he := (hlf))
      | refine Run.region ?_
      | refine Run.seq ?_
      | ((refine oB (frz := [1, 21, 34, 49, 65, 77]) Et_ok (fun h => ?_) (fun h => ?_)) <;> (first | (exfalso; simp at h <;> fail) | (exfalso; simp at h; omega) | skip))
      | ((refine eB (fun h => ?_) (fun h => ?_)) <;> (first | (exfalso; simp at h <;> fail) | (exfalso; simp at h; omega) | skip))
      | refine oX (frz := [1, 21, 34, 49, 65, 77]) Et_ok ?_
      | refine oS ?_
      | refine RunOps.nil ?_
      | refine Run.skip ?_
      | refine cT ?_
      | refine cF ?_
      | refine Run.block ?_
      | refine Run.exit ?_
      | refine Run.draw (frz := [1, 21, 34, 49, 65, 77]) Et_ok (by kernel_rfl) ?_
      | refine eX ?_
      | refine eS ?_
      | refine eN ?_
      | refine oX (frz := [1, 21, 34, 49, 65, 77]) (v := .d (.ep [.int .i64 p.left, ints p.right])) Et_ok ?_ (hf := (by first | (simp [inB] <;> fail) | (simp [inB]; omega))) (he := (by first | (simp [List.getD_eq_getElem?_getD, cellsD, hp, encP] <;> fail) | fail))
      | refine eX (v := .d (.ep [.int .i64 p.left, ints p.right])) ?_ (hf := (by first | (simp [inB] <;> fail) | (simp [inB]; omega))) (he := (by first | (simp [List.getD_eq_getElem?_getD, cellsD, hp, encP] <;> fail) | fail))
      | refine oA c7 ?_
      | (refine Run.ret ?_; (first | refine rB ?_ | refine rI ?_ | refine rA ?_ | refine rII ?_ | refine rSI ?_ | refine rT ?_ | refine rS ?_); first | done | (skip))
      | ((exfalso; (simp at h <;> omega)))
      | fail)
    refine Run.loopT (fun k : Nat => ⟨PT.ofList [(1, (.d (.ep [.int .i64 g.k, strs g.tokens, .str g.sep, strs g.names, .int .i64 g.start, .sl 2 (g.prods.map encP)]))), (5, .bp 0 0), (52, .d (.sl 2 (g.prods.map encP))), (53, .d (.int .i64 (g.prods.length : Nat))), (54, .d (.int .i64 i)), (68, .d (ints p.right)), (69, .d (.int .i64 (p.right.length : Nat))), (70, .d (.int .i64 k))], [.box (wrC (X ++ (p.right.take k).map numC)), .box [.d (.int .i64 p.left), .d (ints p.right)]], []⟩) (fun k => k ≤ p.right.length) (fun k => p.right.length - k) 0 (Nat.zero_le _) (tidy_of (objs := _) _ 2 (Eq.trans (b := [.box (wrC X), .box [.d (.int .i64 p.left), .d (ints p.right)]]) rfl (by first | rfl | (simp [rowA, rowO, rgtD, ] <;> fail))) rfl (by repeat' (first | exact trivial | refine ⟨(Or.inl rfl), ?_⟩ | refine ⟨(Or.inr rfl), ?_⟩ | fail)) (by repeat' (first | exact trivial | refine ⟨rfl, ?_⟩ | fail)) rfl rfl) (fun k hk => ?_)
    rcases Nat.lt_or_ge k p.right.length with hkl | hkg
    · obtain ⟨s, hs⟩ := get_ok hkl
      obtain ⟨n1, n2, n3, n4⟩ := numI_range hv hpm (List.mem_of_getElem? hs)
      have c8 := numS12 s n1 (by omega)
      have c9 := wputS [.box [.d (.int .i64 p.left), .d (ints p.right)]] (X ++ (p.right.take k).map numC) [numI s] (by intro n hn; simp at hn; omega) (by simp only [List.length_append, List.length_cons, List.length_nil, List.length_map, List.length_take]; omega)
      repeat' (first
        | refine Run.region ?_
        | refine Run.seq ?_
        | ((refine oB (frz := [1, 21, 34, 49, 65, 77]) Et_ok (fun h => ?_) (fun h => ?_)) <;> (first | (exfalso; simp at h <;> fail) | (exfalso; simp at h; omega) | skip))
        | ((refine eB (fun h => ?_) (fun h => ?_)) <;> (first | (exfalso; simp at h <;> fail) | (exfalso; simp at h; omega) | skip))
        | refine oX (frz := [1, 21, 34, 49, 65, 77]) Et_ok ?_
        | refine oS ?_
        | refine RunOps.nil ?_
        | refine Run.skip ?_
        | refine cT ?_
        | refine cF ?_
        | refine Run.block ?_
        | refine Run.exit ?_
        | refine Run.draw (frz := [1, 21, 34, 49, 65, 77]) Et_ok (by kernel_rfl) ?_
        | refine eX ?_
        | refine eS ?_
        | refine eN ?_
        | refine oX (frz := [1, 21, 34, 49, 65, 77]) (v := .d (.ep [.int .i64 s])) Et_ok ?_ (hf := (by first | (simp [inB] <;> fail) | (simp [inB]; omega))) (he := (by first | (simp [List.getD_eq_getElem?_getD, cellsD, hs] <;> fail) | fail))
        | refine eX (v := .d (.ep [.int .i64 s])) ?_ (hf := (by first | (simp [inB] <;> fail) | (simp [inB]; omega))) (he := (by first | (simp [List.getD_eq_getElem?_getD, cellsD, hs] <;> fail) | fail))
        | refine oC (c8) ?_
        | refine eC (c8) ?_
        | refine oA c9 ?_
        | (refine Run.ret ?_; (first | refine rB ?_ | refine rI ?_ | refine rA ?_ | refine rII ?_ | refine rSI ?_ | refine rT ?_ | refine rS ?_); first | done | (skip))
        | ((exfalso; (simp at h <;> omega)))
        | fail)
      exact ⟨k + 1, hkl, by omega, (tidy_of (objs := _) _ 2 (Eq.trans (b := [.box (wrC (X ++ (p.right.take k).map numC ++ [numI s].map Int.toNat)), .box [.d (.int .i64 p.left), .d (ints p.right)]]) rfl (by rw [List.take_add_one, hs]; simp [numC])) rfl (by repeat' (first | exact trivial | refine ⟨(Or.inl rfl), ?_⟩ | refine ⟨(Or.inl (inc_get (k := k) (by kernel_rfl) (by omega))), ?_⟩ | refine ⟨(Or.inr rfl), ?_⟩ | fail)) (by repeat' (first | exact trivial | refine ⟨rfl, ?_⟩ | fail)) rfl rfl)⟩
    · have hke : k = p.right.length := by omega
      subst hke
      rw [List.take_length]
      repeat' (first
        | refine Run.region ?_
        | refine Run.seq ?_
        | ((refine oB (frz := [1, 21, 34, 49, 65, 77]) Et_ok (fun h => ?_) (fun h => ?_)) <;> (first | (exfalso; simp at h <;> fail) | (exfalso; simp at h; omega) | skip))
        | ((refine eB (fun h => ?_) (fun h => ?_)) <;> (first | (exfalso; simp at h <;> fail) | (exfalso; simp at h; omega) | skip))
        | refine oX (frz := [1, 21, 34, 49, 65, 77]) Et_ok ?_
        | refine oS ?_
        | refine RunOps.nil ?_
        | refine Run.skip ?_
        | refine cT ?_
        | refine cF ?_
        | refine Run.block ?_
        | refine Run.exit ?_
        | refine Run.draw (frz := [1, 21, 34, 49, 65, 77]) Et_ok (by kernel_rfl) ?_
        | refine eX ?_
        | refine eS ?_
        | refine eN ?_
        | (refine Run.ret ?_; (first | refine rB ?_ | refine rI ?_ | refine rA ?_ | refine rII ?_ | refine rSI ?_ | refine rT ?_ | refine rS ?_); first | done | (skip))
        | ((exfalso; (simp at h <;> omega)))
        | fail)
      exact ⟨i + 1, hlt, by omega, (tidy_of (objs := _) _ 1 (Eq.trans (b := [.box (wrC (X ++ p.right.map numC))]) rfl (by rw [hsu, hX, prodC]; simp only [List.append_assoc])) rfl (by repeat' (first | exact trivial | refine ⟨(Or.inl rfl), ?_⟩ | refine ⟨(Or.inl (inc_get (k := i) (by kernel_rfl) (by omega))), ?_⟩ | refine ⟨(Or.inr rfl), ?_⟩ | fail)) (by repeat' (first | exact trivial | refine ⟨rfl, ?_⟩ | fail)) rfl rfl)⟩
  · have hie : i = g.prods.length := by omega
    subst hie
    have he : headC g ++ prodsC g g.prods.length = canonC g := by rw [prodsC, List.take_length]; rfl
    rw [he]
    repeat' (first
      | refine Run.region ?_
      | refine Run.seq ?_
      | ((refine oB (frz := [1, 21, 34, 49, 65, 77]) Et_ok (fun h => ?_) (fun h => ?_)) <;> (first | (exfalso; simp at h <;> fail) | (exfalso; simp at h; omega) | skip))
      | ((refine eB (fun h => ?_) (fun h => ?_)) <;> (first | (exfalso; simp at h <;> fail) | (exfalso; simp at h; omega) | skip))
      | refine oX (frz := [1, 21, 34, 49, 65, 77]) Et_ok ?_
      | refine oS ?_
      | refine RunOps.nil ?_
      | refine Run.skip ?_
      | refine cT ?_
      | refine cF ?_
      | refine Run.block ?_
      | refine Run.exit ?_
      | refine Run.draw (frz := [1, 21, 34, 49, 65, 77]) Et_ok (by kernel_rfl) ?_
      | refine eX ?_
      | refine eS ?_
      | refine eN ?_
      | refine oC (c6) ?_
      | refine eC (c6) ?_
      | (refine Run.ret ?_; (first | refine rB ?_ | refine rI ?_ | refine rA ?_ | refine rII ?_ | refine rSI ?_ | refine rT ?_ | refine rS ?_); first | done | (rfl))
      | ((exfalso; (simp at h <;> omega)))
      | fail)
set_option maxHeartbeats 4000000 in
theorem bytesR0 (g : Gram) (hf : Fits g) (h0 : checkF g = 0) : KnownCall Tryz.prog 46 [encG g] (.tup [.d (.str (canonC g)), .d (.int .i64 0)]) := by
  have cc := refCheck g hf
  rw [h0] at cc
  have hv := valid_ok h0
  have hcl := canonC_len hv
  have hhl := headC_len hv
  obtain ⟨hk1, hk2⟩ := hv.k
  obtain ⟨hst1, hst2⟩ := hv.start
  have htl := hv.tokens
  have hnl := hv.names
  have hpl := hv.prods
  have hsl := hv.sep
  have ht1 := strsC_len hv.tokenS
  have ht2 := strsC_len hv.nameS
  have ht3 : (strsC [g.sep]).length = g.sep.length + 1 := by simp [strsC]
  obtain ⟨k, hk⟩ := Int.eq_ofNat_of_zero_le (show 0 ≤ g.k by omega)
  obtain ⟨st, hst⟩ := Int.eq_ofNat_of_zero_le (show 0 ≤ g.start - 16 by omega)
  have c1 := putR5 [] k (by omega) (by simp)
  have c2 := namesR12 ([] ++ [k]) g.tokens (by omega) (fun x hx => by have := hv.tokenS x hx; omega) (by simp only [namesC, List.length_append, List.length_cons, List.length_nil, List.length_map]; omega)
  have c3 := putStrR ([] ++ [k] ++ namesC g.tokens) [g.sep] (by intro x hx; simp at hx; subst hx; omega) (by simp) (by simp only [namesC, List.length_append, List.length_cons, List.length_nil, List.length_map]; omega)
  have c4 := namesR12 ([] ++ [k] ++ namesC g.tokens ++ strsC [g.sep]) g.names (by omega) (fun x hx => by have := hv.nameS x hx; omega) (by simp only [namesC, List.length_append, List.length_cons, List.length_nil, List.length_map]; omega)
  have c5 := putR5 ([] ++ [k] ++ namesC g.tokens ++ strsC [g.sep] ++ namesC g.names) st (by omega) (by simp only [namesC, List.length_append, List.length_cons, List.length_nil, List.length_map]; omega)
  have c5b := putR5 ([] ++ [k] ++ namesC g.tokens ++ strsC [g.sep] ++ namesC g.names ++ [st]) g.prods.length (by omega) (by simp only [namesC, List.length_append, List.length_cons, List.length_nil, List.length_map]; omega)
  have hu1 : AV.d (.int .u64 (IntKind.u64.wrap g.k)) = .d (.int .u64 (k : Nat)) := by rw [hk]; exact wrapU (by omega)
  have hst0 : AV.d (.int .i64 (IntKind.i64.wrap (g.start - 16))) = .d (.int .i64 (st : Nat)) := vI (by omega) (by omega) hst
  have hu2 : AV.d (.int .u64 (IntKind.u64.wrap (st : Int))) = .d (.int .u64 (st : Nat)) := wrapU (by omega)
  have hu3 : AV.d (.int .u64 (IntKind.u64.wrap ((g.prods.map encP).length : Nat))) = .d (.int .u64 (g.prods.length : Nat)) := by rw [List.length_map]; exact wrapU (by omega)
  have hhd : [] ++ [k] ++ namesC g.tokens ++ strsC [g.sep] ++ namesC g.names ++ [st] ++ [g.prods.length] = headC g := by
    simp only [headC, List.map_cons, List.map_nil, hk, hst, List.append_assoc, Int.toNat_natCast, List.cons_append, List.nil_append]
  rw [hhd] at c5b
  have c6 := doneR (canonC g) (by omega)
  refine knownE Et_ok (fnAt Tryz.func46 (by kernel_rfl) (by kernel_rfl) : FnAt _ _ (mkFn Tryz.f46 [1, 26])) ?_
  repeat' (first
    | refine oX (frz := [1, 26]) (v := .d (.int .u64 (g.prods.length : Nat))) Et_ok ?_ (he := (hu3))
    | refine eX (v := .d (.int .u64 (g.prods.length : Nat))) ?_ (he := (hu3))
    | refine oX (frz := [1, 26]) (v := .d (.int .u64 (st : Nat))) Et_ok ?_ (he := (hu2))
    | refine eX (v := .d (.int .u64 (st : Nat))) ?_ (he := (hu2))
    | refine oX (frz := [1, 26]) (v := .d (.int .i64 (st : Nat))) Et_ok ?_ (he := (hst0))
    | refine eX (v := .d (.int .i64 (st : Nat))) ?_ (he := (hst0))
    | refine oX (frz := [1, 26]) (v := .d (.int .u64 (k : Nat))) Et_ok ?_ (he := (hu1))
    | refine eX (v := .d (.int .u64 (k : Nat))) ?_ (he := (hu1))
    | refine Run.region ?_
    | refine Run.seq ?_
    | ((refine oB (frz := [1, 26]) Et_ok (fun h => ?_) (fun h => ?_)) <;> (first | (exfalso; simp at h <;> fail) | (exfalso; simp at h; omega) | skip))
    | ((refine eB (fun h => ?_) (fun h => ?_)) <;> (first | (exfalso; simp at h <;> fail) | (exfalso; simp at h; omega) | skip))
    | refine oX (frz := [1, 26]) Et_ok ?_
    | refine oS ?_
    | refine RunOps.nil ?_
    | refine Run.skip ?_
    | refine cT ?_
    | refine cF ?_
    | refine Run.block ?_
    | refine Run.exit ?_
    | refine Run.draw (frz := [1, 26]) Et_ok (by kernel_rfl) ?_
    | refine eX ?_
    | refine eS ?_
    | refine eN ?_
    | refine oC (cc) ?_
    | refine eC (cc) ?_
    | refine oC (makeR) ?_
    | refine eC (makeR) ?_
    | refine oC (c1) ?_
    | refine eC (c1) ?_
    | refine oC (c2) ?_
    | refine eC (c2) ?_
    | refine oC (c3) ?_
    | refine eC (c3) ?_
    | refine oC (c4) ?_
    | refine eC (c4) ?_
    | refine oC (c5) ?_
    | refine eC (c5) ?_
    | refine oC (c5b) ?_
    | refine eC (c5b) ?_
    | (refine Run.ret ?_; (first | refine rB ?_ | refine rI ?_ | refine rA ?_ | refine rII ?_ | refine rSI ?_ | refine rT ?_ | refine rS ?_); first | done | (skip))
    | ((exfalso; (simp at h <;> omega)))
    | fail)
  refine Run.loopT (fun i : Nat => ⟨PT.ofList [(1, (.d (.ep [.int .i64 g.k, strs g.tokens, .str g.sep, strs g.names, .int .i64 g.start, .sl 2 (g.prods.map encP)]))), (5, .bp 0 0), (6, .d (.int .i64 i))], [.box (wrC (headC g ++ prodsC g i))], []⟩) (fun i => i ≤ g.prods.length) (fun i => g.prods.length - i) 0 (Nat.zero_le _) (tidy_of (objs := _) _ 1 (Eq.trans (b := [.box (wrC (headC g))]) rfl (by first | rfl | (simp [rowA, rowO, rgtD, prodsC] <;> fail))) rfl (by repeat' (first | exact trivial | refine ⟨(Or.inl rfl), ?_⟩ | refine ⟨(Or.inr rfl), ?_⟩ | fail)) (by repeat' (first | exact trivial | refine ⟨rfl, ?_⟩ | fail)) rfl rfl) (fun i hi => ?_)
  have hpc := prodsC_len hv i hi
  rcases Nat.lt_or_ge i g.prods.length with hlt | hge
  · obtain ⟨p, hp⟩ := get_ok hlt
    have hpm := List.mem_of_getElem? hp
    obtain ⟨hl1, hl2⟩ := hv.left p hpm
    have hr6 := hv.right p hpm
    have hsu := prodsC_succ hp
    obtain ⟨lf, hlf⟩ := Int.eq_ofNat_of_zero_le (show 0 ≤ p.left - 16 by omega)
    have hl0 : AV.d (.int .i64 (IntKind.i64.wrap (p.left - 16))) = .d (.int .i64 (lf : Nat)) := vI (by omega) (by omega) hlf
    have hu4 : AV.d (.int .u64 (IntKind.u64.wrap (lf : Int))) = .d (.int .u64 (lf : Nat)) := wrapU (by omega)
    have hu5 : AV.d (.int .u64 (IntKind.u64.wrap ((p.right.map (DV.int .i64)).length : Nat))) = .d (.int .u64 (p.right.length : Nat)) := by rw [List.length_map]; exact wrapU (by omega)
    have c7 := putR5 (headC g ++ prodsC g i) lf (by omega) (by simp only [List.length_append]; omega)
    have c7b := putR5 (headC g ++ prodsC g i ++ [lf]) p.right.length (by omega) (by simp only [List.length_append, List.length_cons, List.length_nil]; omega)
    obtain ⟨X, hX⟩ : ∃ X, X = headC g ++ prodsC g i ++ [lf] ++ [p.right.length] := ⟨_, rfl⟩
    have hXl : X.length ≤ 494 := by rw [hX]; simp only [List.length_append, List.length_cons, List.length_nil]; omega
    rw [← hX] at c7b
    repeat' (first
      | refine oX (frz := [1, 26]) (v := .d (.int .u64 (p.right.length : Nat))) Et_ok ?_ (he := (hu5))
      | refine eX (v := .d (.int .u64 (p.right.length : Nat))) ?_ (he := (hu5))
      | refine oX (frz := [1, 26]) (v := .d (.int .u64 (lf : Nat))) Et_ok ?_ (he := (hu4))
      | refine eX (v := .d (.int .u64 (lf : Nat))) ?_ (he := (hu4))
      | refine oX (frz := [1, 26]) (v := .d (.int .i64 (lf : Nat))) Et_ok ?_ (he := (hl0))
      | refine eX (v := .d (.int .i64 (lf : Nat))) ?_ (he := (hl0))
      | refine Run.region ?_
      | refine Run.seq ?_
      | ((refine oB (frz := [1, 26]) Et_ok (fun h => ?_) (fun h => ?_)) <;> (first | (exfalso; simp at h <;> fail) | (exfalso; simp at h; omega) | skip))
      | ((refine eB (fun h => ?_) (fun h => ?_)) <;> (first | (exfalso; simp at h <;> fail) | (exfalso; simp at h; omega) | skip))
      | refine oX (frz := [1, 26]) Et_ok ?_
      | refine oS ?_
      | refine RunOps.nil ?_
      | refine Run.skip ?_
      | refine cT ?_
      | refine cF ?_
      | refine Run.block ?_
      | refine Run.exit ?_
      | refine Run.draw (frz := [1, 26]) Et_ok (by kernel_rfl) ?_
      | refine eX ?_
      | refine eS ?_
      | refine eN ?_
      | refine oX (frz := [1, 26]) (v := .d (.ep [.int .i64 p.left, ints p.right])) Et_ok ?_ (hf := (by first | (simp [inB] <;> fail) | (simp [inB]; omega))) (he := (by first | (simp [List.getD_eq_getElem?_getD, cellsD, hp, encP] <;> fail) | fail))
      | refine eX (v := .d (.ep [.int .i64 p.left, ints p.right])) ?_ (hf := (by first | (simp [inB] <;> fail) | (simp [inB]; omega))) (he := (by first | (simp [List.getD_eq_getElem?_getD, cellsD, hp, encP] <;> fail) | fail))
      | refine oC (c7) ?_
      | refine eC (c7) ?_
      | refine oC (c7b) ?_
      | refine eC (c7b) ?_
      | (refine Run.ret ?_; (first | refine rB ?_ | refine rI ?_ | refine rA ?_ | refine rII ?_ | refine rSI ?_ | refine rT ?_ | refine rS ?_); first | done | (skip))
      | ((exfalso; (simp at h <;> omega)))
      | fail)
    refine Run.loopT (fun k : Nat => ⟨PT.ofList [(1, (.d (.ep [.int .i64 g.k, strs g.tokens, .str g.sep, strs g.names, .int .i64 g.start, .sl 2 (g.prods.map encP)]))), (5, .bp 0 0), (6, .d (.int .i64 i)), (7, .bp 1 0), (8, .d (.int .i64 k))], [.box (wrC (X ++ (p.right.take k).map numC)), .box [.d (.int .i64 p.left), .d (ints p.right)]], []⟩) (fun k => k ≤ p.right.length) (fun k => p.right.length - k) 0 (Nat.zero_le _) (tidy_of (objs := _) _ 2 (Eq.trans (b := [.box (wrC X), .box [.d (.int .i64 p.left), .d (ints p.right)]]) rfl (by first | rfl | (simp [rowA, rowO, rgtD, ] <;> fail))) rfl (by repeat' (first | exact trivial | refine ⟨(Or.inl rfl), ?_⟩ | refine ⟨(Or.inr rfl), ?_⟩ | fail)) (by repeat' (first | exact trivial | refine ⟨rfl, ?_⟩ | fail)) rfl rfl) (fun k hk => ?_)
    rcases Nat.lt_or_ge k p.right.length with hkl | hkg
    · obtain ⟨s, hs⟩ := get_ok hkl
      obtain ⟨n1, n2, n3, n4⟩ := numI_range hv hpm (List.mem_of_getElem? hs)
      have c8 := codeR12 s n1 (by omega)
      have c9 := putR5 (X ++ (p.right.take k).map numC) (numC s) (by unfold numC; omega) (by simp only [List.length_append, List.length_map, List.length_take]; omega)
      repeat' (first
        | refine Run.region ?_
        | refine Run.seq ?_
        | ((refine oB (frz := [1, 26]) Et_ok (fun h => ?_) (fun h => ?_)) <;> (first | (exfalso; simp at h <;> fail) | (exfalso; simp at h; omega) | skip))
        | ((refine eB (fun h => ?_) (fun h => ?_)) <;> (first | (exfalso; simp at h <;> fail) | (exfalso; simp at h; omega) | skip))
        | refine oX (frz := [1, 26]) Et_ok ?_
        | refine oS ?_
        | refine RunOps.nil ?_
        | refine Run.skip ?_
        | refine cT ?_
        | refine cF ?_
        | refine Run.block ?_
        | refine Run.exit ?_
        | refine Run.draw (frz := [1, 26]) Et_ok (by kernel_rfl) ?_
        | refine eX ?_
        | refine eS ?_
        | refine eN ?_
        | refine oX (frz := [1, 26]) (v := .d (.ep [.int .i64 s])) Et_ok ?_ (hf := (by first | (simp [inB] <;> fail) | (simp [inB]; omega))) (he := (by first | (simp [List.getD_eq_getElem?_getD, cellsD, hs] <;> fail) | fail))
        | refine eX (v := .d (.ep [.int .i64 s])) ?_ (hf := (by first | (simp [inB] <;> fail) | (simp [inB]; omega))) (he := (by first | (simp [List.getD_eq_getElem?_getD, cellsD, hs] <;> fail) | fail))
        | refine oC (c8) ?_
        | refine eC (c8) ?_
        | refine oC (c9) ?_
        | refine eC (c9) ?_
        | (refine Run.ret ?_; (first | refine rB ?_ | refine rI ?_ | refine rA ?_ | refine rII ?_ | refine rSI ?_ | refine rT ?_ | refine rS ?_); first | done | (skip))
        | ((exfalso; (simp at h <;> omega)))
        | fail)
      exact ⟨k + 1, hkl, by omega, (tidy_of (objs := _) _ 2 (Eq.trans (b := [.box (wrC (X ++ (p.right.take k).map numC ++ [numC s])), .box [.d (.int .i64 p.left), .d (ints p.right)]]) rfl (by rw [List.take_add_one, hs]; simp)) rfl (by repeat' (first | exact trivial | refine ⟨(Or.inl rfl), ?_⟩ | refine ⟨(Or.inl (inc_get (k := k) (by kernel_rfl) (by omega))), ?_⟩ | refine ⟨(Or.inr rfl), ?_⟩ | fail)) (by repeat' (first | exact trivial | refine ⟨rfl, ?_⟩ | fail)) rfl rfl)⟩
    · have hke : k = p.right.length := by omega
      subst hke
      rw [List.take_length]
      have hpe : prodC p = [lf] ++ [p.right.length] ++ p.right.map numC := by simp [prodC, hlf]
      repeat' (first
        | refine Run.region ?_
        | refine Run.seq ?_
        | ((refine oB (frz := [1, 26]) Et_ok (fun h => ?_) (fun h => ?_)) <;> (first | (exfalso; simp at h <;> fail) | (exfalso; simp at h; omega) | skip))
        | ((refine eB (fun h => ?_) (fun h => ?_)) <;> (first | (exfalso; simp at h <;> fail) | (exfalso; simp at h; omega) | skip))
        | refine oX (frz := [1, 26]) Et_ok ?_
        | refine oS ?_
        | refine RunOps.nil ?_
        | refine Run.skip ?_
        | refine cT ?_
        | refine cF ?_
        | refine Run.block ?_
        | refine Run.exit ?_
        | refine Run.draw (frz := [1, 26]) Et_ok (by kernel_rfl) ?_
        | refine eX ?_
        | refine eS ?_
        | refine eN ?_
        | (refine Run.ret ?_; (first | refine rB ?_ | refine rI ?_ | refine rA ?_ | refine rII ?_ | refine rSI ?_ | refine rT ?_ | refine rS ?_); first | done | (skip))
        | ((exfalso; (simp at h <;> omega)))
        | fail)
      exact ⟨i + 1, hlt, by omega, (tidy_of (objs := _) _ 1 (Eq.trans (b := [.box (wrC (X ++ p.right.map numC))]) rfl (by rw [hsu, hX, hpe]; simp only [List.append_assoc])) rfl (by repeat' (first | exact trivial | refine ⟨(Or.inl rfl), ?_⟩ | refine ⟨(Or.inl (inc_get (k := i) (by kernel_rfl) (by omega))), ?_⟩ | refine ⟨(Or.inr rfl), ?_⟩ | fail)) (by repeat' (first | exact trivial | refine ⟨rfl, ?_⟩ | fail)) rfl rfl)⟩
  · have hie : i = g.prods.length := by omega
    subst hie
    have he : headC g ++ prodsC g g.prods.length = canonC g := by rw [prodsC, List.take_length]; rfl
    rw [he]
    repeat' (first
      | refine Run.region ?_
      | refine Run.seq ?_
      | ((refine oB (frz := [1, 26]) Et_ok (fun h => ?_) (fun h => ?_)) <;> (first | (exfalso; simp at h <;> fail) | (exfalso; simp at h; omega) | skip))
      | ((refine eB (fun h => ?_) (fun h => ?_)) <;> (first | (exfalso; simp at h <;> fail) | (exfalso; simp at h; omega) | skip))
      | refine oX (frz := [1, 26]) Et_ok ?_
      | refine oS ?_
      | refine RunOps.nil ?_
      | refine Run.skip ?_
      | refine cT ?_
      | refine cF ?_
      | refine Run.block ?_
      | refine Run.exit ?_
      | refine Run.draw (frz := [1, 26]) Et_ok (by kernel_rfl) ?_
      | refine eX ?_
      | refine eS ?_
      | refine eN ?_
      | refine oC (c6) ?_
      | refine eC (c6) ?_
      | (refine Run.ret ?_; (first | refine rB ?_ | refine rI ?_ | refine rA ?_ | refine rII ?_ | refine rSI ?_ | refine rT ?_ | refine rS ?_); first | done | (rfl))
      | ((exfalso; (simp at h <;> omega)))
      | fail)
theorem bytesS12 (g : Gram) (hf : Fits g) : KnownCall Tryz.prog 45 [encG g] (.tup [.d (.str (bytesF g)), .d (.int .i64 (checkF g))]) := by
  by_cases h0 : checkF g = 0
  · rw [show bytesF g = canonC g from if_pos h0, h0]; exact bytesS0 g hf h0
  · have cc := grCheck g hf
    rw [show bytesF g = [] from if_neg h0]
    generalize checkF g = c at cc h0 ⊢
    refine knownE Et_ok (fnAt Tryz.func45 (by kernel_rfl) (by kernel_rfl) : FnAt _ _ (mkFn Tryz.f45 [1])) ?_
    repeat' (first
      | refine Run.region ?_
      | refine Run.seq ?_
      | ((refine oB (frz := [1]) Et_ok (fun h => ?_) (fun h => ?_)) <;> (first | (exfalso; simp at h <;> fail) | (exfalso; simp at h; omega) | skip))
      | ((refine eB (fun h => ?_) (fun h => ?_)) <;> (first | (exfalso; simp at h <;> fail) | (exfalso; simp at h; omega) | skip))
      | refine oX (frz := [1]) Et_ok ?_
      | refine oS ?_
      | refine RunOps.nil ?_
      | refine Run.skip ?_
      | refine cT ?_
      | refine cF ?_
      | refine Run.block ?_
      | refine Run.exit ?_
      | refine Run.draw (frz := [1]) Et_ok (by kernel_rfl) ?_
      | refine eX ?_
      | refine eS ?_
      | refine eN ?_
      | refine oC (cc) ?_
      | refine eC (cc) ?_
      | (refine Run.ret ?_; (first | refine rB ?_ | refine rI ?_ | refine rA ?_ | refine rII ?_ | refine rSI ?_ | refine rT ?_ | refine rS ?_); first | done | (rfl))
      | ((exfalso; first | (simp_all <;> fail) | (simp_all; omega)))
      | fail)
theorem bytesR12 (g : Gram) (hf : Fits g) : KnownCall Tryz.prog 46 [encG g] (.tup [.d (.str (bytesF g)), .d (.int .i64 (checkF g))]) := by
  by_cases h0 : checkF g = 0
  · rw [show bytesF g = canonC g from if_pos h0, h0]; exact bytesR0 g hf h0
  · have cc := refCheck g hf
    rw [show bytesF g = [] from if_neg h0]
    generalize checkF g = c at cc h0 ⊢
    refine knownE Et_ok (fnAt Tryz.func46 (by kernel_rfl) (by kernel_rfl) : FnAt _ _ (mkFn Tryz.f46 [1])) ?_
    repeat' (first
      | refine Run.region ?_
      | refine Run.seq ?_
      | ((refine oB (frz := [1]) Et_ok (fun h => ?_) (fun h => ?_)) <;> (first | (exfalso; simp at h <;> fail) | (exfalso; simp at h; omega) | skip))
      | ((refine eB (fun h => ?_) (fun h => ?_)) <;> (first | (exfalso; simp at h <;> fail) | (exfalso; simp at h; omega) | skip))
      | refine oX (frz := [1]) Et_ok ?_
      | refine oS ?_
      | refine RunOps.nil ?_
      | refine Run.skip ?_
      | refine cT ?_
      | refine cF ?_
      | refine Run.block ?_
      | refine Run.exit ?_
      | refine Run.draw (frz := [1]) Et_ok (by kernel_rfl) ?_
      | refine eX ?_
      | refine eS ?_
      | refine eN ?_
      | refine oC (cc) ?_
      | refine eC (cc) ?_
      | (refine Run.ret ?_; (first | refine rB ?_ | refine rI ?_ | refine rA ?_ | refine rII ?_ | refine rSI ?_ | refine rT ?_ | refine rS ?_); first | done | (rfl))
      | ((exfalso; first | (simp_all <;> fail) | (simp_all; omega)))
      | fail)
def fingF (g : Gram) : Int := if checkF g = 0 then hashTo (bytesF g) (bytesF g).length else 0
theorem strsC_by {l : List (List Nat)} (h : ∀ x ∈ l, x.length ≤ 12) (hb : ∀ s ∈ l, ∀ c ∈ s, c < 256) : ∀ c ∈ strsC l, c < 256 := by
  intro c hc
  simp only [strsC, List.mem_flatMap, List.mem_cons] at hc
  obtain ⟨s, hs, rfl | hc⟩ := hc
  · have := h s hs; omega
  · exact hb s hs c hc
structure ByteG (g : Gram) : Prop where
  tokens : ∀ s ∈ g.tokens, ∀ c ∈ s, c < 256
  sep : ∀ c ∈ g.sep, c < 256
  names : ∀ s ∈ g.names, ∀ c ∈ s, c < 256
theorem canonC_by {g : Gram} (hv : OkG g) (hb : ByteG g) : ∀ c ∈ canonC g, c < 256 := by
  obtain ⟨hk1, hk2⟩ := hv.k
  obtain ⟨hst1, hst2⟩ := hv.start
  have htl := hv.tokens
  have hnl := hv.names
  have hpl := hv.prods
  have hsl := hv.sep
  intro c hc
  simp only [canonC, headC, namesC, List.mem_append, List.mem_cons, List.map_cons, List.map_nil, List.nil_append, List.not_mem_nil, or_false, List.mem_flatMap] at hc
  rcases hc with (((((rfl | rfl | hc) | hc) | (rfl | hc)) | (rfl | rfl)) | hc)
  · omega
  · omega
  · exact strsC_by hv.tokenS hb.tokens c hc
  · exact strsC_by (l := [g.sep]) (by intro x hx; simp at hx; subst hx; exact hsl) (by intro x hx; simp at hx; subst hx; exact hb.sep) c hc
  · omega
  · exact strsC_by hv.nameS hb.names c hc
  · omega
  · omega
  · obtain ⟨p, hp, hc⟩ := hc
    have h1 := hv.left p hp
    have h2 := hv.right p hp
    simp only [prodC, List.mem_append, List.mem_cons, List.map_cons, List.map_nil, List.not_mem_nil, or_false, List.mem_map] at hc
    rcases hc with (rfl | rfl) | ⟨s, hs, rfl⟩
    · omega
    · omega
    · have := numI_range hv hp hs
      unfold numC; omega
theorem fingS (g : Gram) (hf : Fits g) (hb : ByteG g) : KnownCall Tryz.prog 47 [encG g] (.tup [.d (.int .u64 (fingF g)), .d (.int .i64 (checkF g))]) := by
  have cc := bytesS12 g hf
  by_cases h0 : checkF g = 0
  · have hv := valid_ok h0
    have hbe : bytesF g = canonC g := if_pos h0
    have ch := hashS (bytesF g) (by rw [hbe]; have := canonC_len hv; omega) (by rw [hbe]; exact canonC_by hv hb)
    rw [show fingF g = hashTo (bytesF g) (bytesF g).length from if_pos h0]
    rw [h0] at cc ⊢
    generalize hashTo (bytesF g) (bytesF g).length = hh at ch ⊢
    generalize bytesF g = bb at cc ch
    refine knownE Et_ok (fnAt Tryz.func47 (by kernel_rfl) (by kernel_rfl) : FnAt _ _ (mkFn Tryz.f47 [1])) ?_
    repeat' (first
      | refine Run.region ?_
      | refine Run.seq ?_
      | ((refine oB (frz := [1]) Et_ok (fun h => ?_) (fun h => ?_)) <;> (first | (exfalso; simp at h <;> fail) | (exfalso; simp at h; omega) | skip))
      | ((refine eB (fun h => ?_) (fun h => ?_)) <;> (first | (exfalso; simp at h <;> fail) | (exfalso; simp at h; omega) | skip))
      | refine oX (frz := [1]) Et_ok ?_
      | refine oS ?_
      | refine RunOps.nil ?_
      | refine Run.skip ?_
      | refine cT ?_
      | refine cF ?_
      | refine Run.block ?_
      | refine Run.exit ?_
      | refine Run.draw (frz := [1]) Et_ok (by kernel_rfl) ?_
      | refine eX ?_
      | refine eS ?_
      | refine eN ?_
      | refine oC (cc) ?_
      | refine eC (cc) ?_
      | refine oC (ch) ?_
      | refine eC (ch) ?_
      | (refine Run.ret ?_; (first | refine rB ?_ | refine rI ?_ | refine rA ?_ | refine rII ?_ | refine rSI ?_ | refine rT ?_ | refine rS ?_); first | done | (rfl))
      | ((exfalso; (simp at h <;> omega)))
      | fail)
  · rw [show fingF g = 0 from if_neg h0]
    generalize checkF g = c at cc h0 ⊢
    refine knownE Et_ok (fnAt Tryz.func47 (by kernel_rfl) (by kernel_rfl) : FnAt _ _ (mkFn Tryz.f47 [1])) ?_
    repeat' (first
      | refine Run.region ?_
      | refine Run.seq ?_
      | ((refine oB (frz := [1]) Et_ok (fun h => ?_) (fun h => ?_)) <;> (first | (exfalso; simp at h <;> fail) | (exfalso; simp at h; omega) | skip))
      | ((refine eB (fun h => ?_) (fun h => ?_)) <;> (first | (exfalso; simp at h <;> fail) | (exfalso; simp at h; omega) | skip))
      | refine oX (frz := [1]) Et_ok ?_
      | refine oS ?_
      | refine RunOps.nil ?_
      | refine Run.skip ?_
      | refine cT ?_
      | refine cF ?_
      | refine Run.block ?_
      | refine Run.exit ?_
      | refine Run.draw (frz := [1]) Et_ok (by kernel_rfl) ?_
      | refine eX ?_
      | refine eS ?_
      | refine eN ?_
      | refine oC (cc) ?_
      | refine eC (cc) ?_
      | (refine Run.ret ?_; (first | refine rB ?_ | refine rI ?_ | refine rA ?_ | refine rII ?_ | refine rSI ?_ | refine rT ?_ | refine rS ?_); first | done | (rfl))
      | ((exfalso; first | (simp_all <;> fail) | (simp_all; omega)))
      | fail)
theorem fingR (g : Gram) (hf : Fits g) (hb : ByteG g) : KnownCall Tryz.prog 48 [encG g] (.tup [.d (.int .u64 (fingF g)), .d (.int .i64 (checkF g))]) := by
  have cc := bytesR12 g hf
  by_cases h0 : checkF g = 0
  · have hv := valid_ok h0
    have hbe : bytesF g = canonC g := if_pos h0
    have ch := hashR (bytesF g) (by rw [hbe]; have := canonC_len hv; omega) (by rw [hbe]; exact canonC_by hv hb)
    rw [show fingF g = hashTo (bytesF g) (bytesF g).length from if_pos h0]
    rw [h0] at cc ⊢
    generalize hashTo (bytesF g) (bytesF g).length = hh at ch ⊢
    generalize bytesF g = bb at cc ch
    refine knownE Et_ok (fnAt Tryz.func48 (by kernel_rfl) (by kernel_rfl) : FnAt _ _ (mkFn Tryz.f48 [1])) ?_
    repeat' (first
      | refine Run.region ?_
      | refine Run.seq ?_
      | ((refine oB (frz := [1]) Et_ok (fun h => ?_) (fun h => ?_)) <;> (first | (exfalso; simp at h <;> fail) | (exfalso; simp at h; omega) | skip))
      | ((refine eB (fun h => ?_) (fun h => ?_)) <;> (first | (exfalso; simp at h <;> fail) | (exfalso; simp at h; omega) | skip))
      | refine oX (frz := [1]) Et_ok ?_
      | refine oS ?_
      | refine RunOps.nil ?_
      | refine Run.skip ?_
      | refine cT ?_
      | refine cF ?_
      | refine Run.block ?_
      | refine Run.exit ?_
      | refine Run.draw (frz := [1]) Et_ok (by kernel_rfl) ?_
      | refine eX ?_
      | refine eS ?_
      | refine eN ?_
      | refine oC (cc) ?_
      | refine eC (cc) ?_
      | refine oC (ch) ?_
      | refine eC (ch) ?_
      | (refine Run.ret ?_; (first | refine rB ?_ | refine rI ?_ | refine rA ?_ | refine rII ?_ | refine rSI ?_ | refine rT ?_ | refine rS ?_); first | done | (rfl))
      | ((exfalso; (simp at h <;> omega)))
      | fail)
  · rw [show fingF g = 0 from if_neg h0]
    generalize checkF g = c at cc h0 ⊢
    refine knownE Et_ok (fnAt Tryz.func48 (by kernel_rfl) (by kernel_rfl) : FnAt _ _ (mkFn Tryz.f48 [1])) ?_
    repeat' (first
      | refine Run.region ?_
      | refine Run.seq ?_
      | ((refine oB (frz := [1]) Et_ok (fun h => ?_) (fun h => ?_)) <;> (first | (exfalso; simp at h <;> fail) | (exfalso; simp at h; omega) | skip))
      | ((refine eB (fun h => ?_) (fun h => ?_)) <;> (first | (exfalso; simp at h <;> fail) | (exfalso; simp at h; omega) | skip))
      | refine oX (frz := [1]) Et_ok ?_
      | refine oS ?_
      | refine RunOps.nil ?_
      | refine Run.skip ?_
      | refine cT ?_
      | refine cF ?_
      | refine Run.block ?_
      | refine Run.exit ?_
      | refine Run.draw (frz := [1]) Et_ok (by kernel_rfl) ?_
      | refine eX ?_
      | refine eS ?_
      | refine eN ?_
      | refine oC (cc) ?_
      | refine eC (cc) ?_
      | (refine Run.ret ?_; (first | refine rB ?_ | refine rI ?_ | refine rA ?_ | refine rII ?_ | refine rSI ?_ | refine rT ?_ | refine rS ?_); first | done | (rfl))
      | ((exfalso; first | (simp_all <;> fail) | (simp_all; omega)))
      | fail)
end Go.Av
end
noncomputable section
namespace Go.Av
open Go Go.Proofs
set_option maxRecDepth 10000
section
variable {H : Type} {enc : TypeId × Value → H} {w : World} {spare : Nat → Bool} {held : Bool} {fuel : Nat} {cs : List Value} {x : DataW H × List MemPlace}
abbrev Wf64 (n : Int) : Prop := (Lit.int .i64 n).wf = true
def wfStr (s : List Nat) : Prop := s.length ≤ maxLen ∧ ∀ c ∈ s, c < 256
structure WfProd (p : GProd) : Prop where
  left : Wf64 p.left
  len : p.right.length ≤ maxLen
  right : ∀ n ∈ p.right, Wf64 n
structure WfGram (g : Gram) : Prop where
  k : Wf64 g.k
  tokensL : g.tokens.length ≤ maxLen
  tokens : ∀ s ∈ g.tokens, wfStr s
  sep : wfStr g.sep
  namesL : g.names.length ≤ maxLen
  names : ∀ s ∈ g.names, wfStr s
  start : Wf64 g.start
  prodsL : g.prods.length ≤ maxLen
  prods : ∀ p ∈ g.prods, WfProd p
theorem cr_ints (hsp : ∀ b, spare b = true) (h : DataW.trod enc Tryz.prog w 0 spare held fuel 66 cs = some x) : ∃ l : List Int, CellsRep (heapD w) (ints l) cs ∧ l.length ≤ maxLen ∧ ∀ n ∈ l, Wf64 n :=
  cr_slice (DV.int .i64) Wf64 Tryz.underlying66 (by kernel_rfl) (Nat.le_refl _) hsp (fun n cs' y _ hy => cr_int Tryz.underlying3 hy) h
theorem cr_strs (hsp : ∀ b, spare b = true) (h : DataW.trod enc Tryz.prog w 0 spare held fuel 22 cs = some x) : ∃ l : List (List Nat), CellsRep (heapD w) (strs l) cs ∧ l.length ≤ maxLen ∧ ∀ s ∈ l, wfStr s :=
  cr_slice DV.str wfStr Tryz.underlying22 (by kernel_rfl) (Nat.le_refl _) hsp (fun n cs' y _ hy => cr_str Tryz.underlying9 hy) h
theorem cr_prod (hsp : ∀ b, spare b = true) (hl : cs.length = 2) (h : DataW.trod enc Tryz.prog w 0 spare held fuel 82 cs = some x) : ∃ p : GProd, CellsRep (heapD w) (encP p) cs ∧ WfProd p := by
  match cs, hl, h with
  | [v0, v1], _, h =>
    obtain ⟨n0, y0, e0⟩ := trod_field Tryz.underlying82 h 0 rfl (by kernel_rfl) rfl
    obtain ⟨n1, y1, e1⟩ := trod_field Tryz.underlying82 h 1 rfl (by kernel_rfl) rfl
    obtain ⟨a, ha, wa⟩ := cr_int Tryz.underlying3 e0
    obtain ⟨l, hl, wl, wr⟩ := cr_ints hsp e1
    exact ⟨⟨a, l⟩, cr_all ⟨⟨rfl, ha⟩, ⟨rfl, hl⟩, trivial⟩, ⟨wa, wl, wr⟩⟩
theorem cr_gram (hsp : ∀ b, spare b = true) (hl : cs.length = 6) (h : DataW.trod enc Tryz.prog w 0 spare held fuel 25 cs = some x) : ∃ g : Gram, CellsRep (heapD w) (encG g) cs ∧ WfGram g := by
  match cs, hl, h with
  | [v0, v1, v2, v3, v4, v5], _, h =>
    obtain ⟨n0, y0, e0⟩ := trod_field Tryz.underlying25 h 0 rfl (by kernel_rfl) rfl
    obtain ⟨n1, y1, e1⟩ := trod_field Tryz.underlying25 h 1 rfl (by kernel_rfl) rfl
    obtain ⟨n2, y2, e2⟩ := trod_field Tryz.underlying25 h 2 rfl (by kernel_rfl) rfl
    obtain ⟨n3, y3, e3⟩ := trod_field Tryz.underlying25 h 3 rfl (by kernel_rfl) rfl
    obtain ⟨n4, y4, e4⟩ := trod_field Tryz.underlying25 h 4 rfl (by kernel_rfl) rfl
    obtain ⟨n5, y5, e5⟩ := trod_field Tryz.underlying25 h 5 rfl (by kernel_rfl) rfl
    obtain ⟨k, hk, wk⟩ := cr_int Tryz.underlying3 e0
    obtain ⟨ts, hts, wt1, wt2⟩ := cr_strs hsp e1
    obtain ⟨sep, hsep, ws1, ws2⟩ := cr_str Tryz.underlying9 e2
    obtain ⟨ns, hns, wn1, wn2⟩ := cr_strs hsp e3
    obtain ⟨st, hst, wst⟩ := cr_int Tryz.underlying3 e4
    obtain ⟨ps, hps, wp1, wp2⟩ := cr_slice encP WfProd (sz := 2) Tryz.underlying23 (by kernel_rfl) (by omega) hsp (fun n cs' y hn hy => cr_prod hsp hn hy) e5
    exact ⟨⟨k, ts, sep, ns, st, ps⟩, cr_all ⟨⟨rfl, hk⟩, ⟨rfl, hts⟩, ⟨rfl, hsep⟩, ⟨rfl, hns⟩, ⟨rfl, hst⟩, ⟨rfl, hps⟩, trivial⟩, ⟨wk, wt1, wt2, ⟨ws1, ws2⟩, wn1, wn2, wst, wp1, wp2⟩⟩
theorem arg_gram {r : Reach} {b0 : Nat} {v : Value} {d : DataW H} {ps : List MemPlace} (hsp : ∀ b, spare b = true) (hval : Value.okWide Tryz.prog w r b0 25 v) (h : DataW.Trod enc Tryz.prog w 0 spare held 25 v d ps) :
    ∃ g : Gram, RepD (heapD w) (encG g) v ∧ WfGram g :=
  arg_agg (f := fun g : Gram => [.int .i64 g.k, strs g.tokens, .str g.sep, strs g.names, .int .i64 g.start, .sl 2 (g.prods.map encP)]) Tryz.underlying25 hval h (fun n cs x hl hx => cr_gram hsp (hl.trans (by kernel_rfl)) hx)
end
end Go.Av
end
noncomputable section
namespace Go.Av
open Go Go.Proofs
def e0 : List DV × AV := ([(.str [108, 111, 111, 107, 97, 104, 101, 97, 100, 32, 49, 59, 32, 116, 111, 107, 101, 110, 32, 97, 59, 32, 115, 101, 112, 97, 114, 97, 116, 111, 114, 32, 98, 59, 32, 115, 116, 97, 114, 116, 32, 83, 59, 32, 83, 32, 61, 32, 97, 32, 83, 32, 124, 32, 59])], (.tup [(.d (.sl 3 [(.agg [(.int .i64 1), (.str [108, 111, 111, 107, 97, 104, 101, 97, 100]), (.int .i64 0)]), (.agg [(.int .i64 2), (.str [49]), (.int .i64 10)]), (.agg [(.int .i64 3), (.str [59]), (.int .i64 11)]), (.agg [(.int .i64 1), (.str [116, 111, 107, 101, 110]), (.int .i64 13)]), (.agg [(.int .i64 1), (.str [97]), (.int .i64 19)]), (.agg [(.int .i64 3), (.str [59]), (.int .i64 20)]), (.agg [(.int .i64 1), (.str [115, 101, 112, 97, 114, 97, 116, 111, 114]), (.int .i64 22)]), (.agg [(.int .i64 1), (.str [98]), (.int .i64 32)]), (.agg [(.int .i64 3), (.str [59]), (.int .i64 33)]), (.agg [(.int .i64 1), (.str [115, 116, 97, 114, 116]), (.int .i64 35)]), (.agg [(.int .i64 1), (.str [83]), (.int .i64 41)]), (.agg [(.int .i64 3), (.str [59]), (.int .i64 42)]), (.agg [(.int .i64 1), (.str [83]), (.int .i64 44)]), (.agg [(.int .i64 3), (.str [61]), (.int .i64 46)]), (.agg [(.int .i64 1), (.str [97]), (.int .i64 48)]), (.agg [(.int .i64 1), (.str [83]), (.int .i64 50)]), (.agg [(.int .i64 3), (.str [124]), (.int .i64 52)]), (.agg [(.int .i64 3), (.str [59]), (.int .i64 54)])])), (.d (.agg [(.int .i64 0), (.int .i64 0)]))]))
theorem k0 : KnownCall Tryz.prog 96 e0.1 e0.2 := knownF T0_ok Et_ok (by kernel_rfl) Ft_ok (k := 100000) (n := 60) (by kernel_rfl)
def e1 : List DV × AV := ([(.agg [(.int .i64 2), (.str [49]), (.int .i64 10)])], (.d (.int .i64 0)))
theorem k1 : KnownCall Tryz.prog 228 e1.1 e1.2 := knownF T0_ok Et_ok (by kernel_rfl) Ft_ok (k := 100000) (n := 60) (by kernel_rfl)
def e2 : List DV × AV := ([(.str [97])], (.d (.int .i64 0)))
theorem k2 : KnownCall Tryz.prog 204 e2.1 e2.2 := knownF T0_ok Et_ok (by kernel_rfl) Ft_ok (k := 100000) (n := 60) (by kernel_rfl)
def e3 : List DV × AV := ([(.str [83])], (.d (.int .i64 0)))
theorem k3 : KnownCall Tryz.prog 204 e3.1 e3.2 := knownF T0_ok Et_ok (by kernel_rfl) Ft_ok (k := 100000) (n := 60) (by kernel_rfl)
end Go.Av
end
noncomputable section
namespace Go.Av
open Go Go.Proofs
def T1 : Memo := (.node .nil none (.node (.node (.node (.node (.node .nil none (.node .nil (some [e0]) .nil)) none .nil) none .nil) none (.node (.node (.node .nil none (.node .nil none (.node .nil (some [e1]) .nil))) none .nil) none (.node (.node (.node .nil none (.node .nil (some [e2, e3]) .nil)) none .nil) none .nil))) none .nil))
theorem T1_ok : MemoOK Tryz.prog T1 := ⟨trivial, trivial, ⟨trivial, ⟨trivial, ⟨trivial, ⟨trivial, ⟨trivial, trivial, ⟨⟨k0, trivial⟩, trivial, trivial⟩⟩, trivial⟩, trivial⟩, ⟨trivial, ⟨trivial, ⟨trivial, trivial, ⟨trivial, trivial, ⟨⟨k1, trivial⟩, trivial, trivial⟩⟩⟩, trivial⟩, ⟨trivial, ⟨trivial, ⟨trivial, trivial, ⟨⟨k2, k3, trivial⟩, trivial, trivial⟩⟩, trivial⟩, trivial⟩⟩⟩, trivial⟩⟩
end Go.Av
end
noncomputable section
namespace Go.Av
open Go Go.Proofs
def e4 : List DV × AV := ([(.str [108, 111, 111, 107, 97, 104, 101, 97, 100, 32, 49, 59, 32, 116, 111, 107, 101, 110, 32, 97, 59, 32, 115, 101, 112, 97, 114, 97, 116, 111, 114, 32, 98, 59, 32, 115, 116, 97, 114, 116, 32, 83, 59, 32, 83, 32, 61, 32, 97, 32, 83, 32, 124, 32, 59])], (.tup [(.d (.agg [(.int .i64 1), (.sl 1 [(.str [97])]), (.str [98]), (.str [83]), (.sl 2 [(.agg [(.str [83]), (.sl 1 [(.sl 1 [(.str [97]), (.str [83])]), .nilsl])])])])), (.d (.agg [(.int .i64 0), (.int .i64 0)]))]))
theorem k4 : KnownCall Tryz.prog 27 e4.1 e4.2 := knownF T1_ok Et_ok (by kernel_rfl) Ft_ok (k := 100000) (n := 60) (by kernel_rfl)
def e5 : List DV × AV := ([(.agg [(.int .i64 1), (.sl 1 [(.str [97])]), (.str [98]), (.str [83]), (.sl 2 [(.agg [(.str [83]), (.sl 1 [(.sl 1 [(.str [97]), (.str [83])]), .nilsl])])])])], (.d (.int .i64 0)))
theorem k5 : KnownCall Tryz.prog 35 e5.1 e5.2 := knownF T1_ok Et_ok (by kernel_rfl) Ft_ok (k := 100000) (n := 60) (by kernel_rfl)
def e6 : List DV × AV := ([(.agg [(.int .i64 1), (.sl 1 [(.str [97])]), (.str [98]), (.sl 1 [(.str [83])]), (.int .i64 16), (.sl 2 [(.agg [(.int .i64 16), (.sl 1 [(.int .i64 0), (.int .i64 16)])]), (.agg [(.int .i64 16), .nilsl])])])], (.d (.int .i64 0)))
theorem k6 : KnownCall Tryz.prog 20 e6.1 e6.2 := knownF T1_ok Et_ok (by kernel_rfl) Ft_ok (k := 100000) (n := 60) (by kernel_rfl)
end Go.Av
end
noncomputable section
namespace Go.Av
open Go Go.Proofs
def T2 : Memo := (.node (.node (.node .nil none (.node (.node (.node .nil (some [e5]) .nil) none .nil) none (.node .nil (some [e4]) .nil))) none .nil) none (.node (.node (.node (.node (.node .nil none (.node .nil (some [e0]) .nil)) none .nil) none .nil) none (.node (.node (.node .nil none (.node .nil none (.node .nil (some [e1]) .nil))) (some [e6]) .nil) none (.node (.node (.node .nil none (.node .nil (some [e2, e3]) .nil)) none .nil) none .nil))) none .nil))
theorem T2_ok : MemoOK Tryz.prog T2 := ⟨trivial, ⟨trivial, ⟨trivial, trivial, ⟨trivial, ⟨trivial, ⟨⟨k5, trivial⟩, trivial, trivial⟩, trivial⟩, ⟨⟨k4, trivial⟩, trivial, trivial⟩⟩⟩, trivial⟩, ⟨trivial, ⟨trivial, ⟨trivial, ⟨trivial, ⟨trivial, trivial, ⟨⟨k0, trivial⟩, trivial, trivial⟩⟩, trivial⟩, trivial⟩, ⟨trivial, ⟨⟨k6, trivial⟩, ⟨trivial, trivial, ⟨trivial, trivial, ⟨⟨k1, trivial⟩, trivial, trivial⟩⟩⟩, trivial⟩, ⟨trivial, ⟨trivial, ⟨trivial, trivial, ⟨⟨k2, k3, trivial⟩, trivial, trivial⟩⟩, trivial⟩, trivial⟩⟩⟩, trivial⟩⟩
end Go.Av
end
noncomputable section
namespace Go.Av
open Go Go.Proofs
def e7 : List DV × AV := ([(.agg [(.int .i64 1), (.sl 1 [(.str [97])]), (.str [98]), (.sl 1 [(.str [83])]), (.int .i64 16), (.sl 2 [(.agg [(.int .i64 16), (.sl 1 [(.int .i64 0), (.int .i64 16)])]), (.agg [(.int .i64 16), .nilsl])])])], (.tup [(.d (.str [1, 1, 1, 97, 1, 98, 1, 1, 83, 0, 2, 0, 2, 0, 8, 0, 0])), (.d (.int .i64 0))]))
theorem k7 : KnownCall Tryz.prog 45 e7.1 e7.2 := knownF T2_ok Et_ok (by kernel_rfl) Ft_ok (k := 100000) (n := 60) (by kernel_rfl)
end Go.Av
end
noncomputable section
namespace Go.Av
open Go Go.Proofs
def T3 : Memo := (.node (.node (.node .nil none (.node (.node (.node .nil (some [e5]) .nil) none .nil) none (.node .nil (some [e4]) .nil))) none (.node .nil none (.node .nil none (.node (.node .nil (some [e7]) .nil) none .nil)))) none (.node (.node (.node (.node (.node .nil none (.node .nil (some [e0]) .nil)) none .nil) none .nil) none (.node (.node (.node .nil none (.node .nil none (.node .nil (some [e1]) .nil))) (some [e6]) .nil) none (.node (.node (.node .nil none (.node .nil (some [e2, e3]) .nil)) none .nil) none .nil))) none .nil))
theorem T3_ok : MemoOK Tryz.prog T3 := ⟨trivial, ⟨trivial, ⟨trivial, trivial, ⟨trivial, ⟨trivial, ⟨⟨k5, trivial⟩, trivial, trivial⟩, trivial⟩, ⟨⟨k4, trivial⟩, trivial, trivial⟩⟩⟩, ⟨trivial, trivial, ⟨trivial, trivial, ⟨trivial, ⟨⟨k7, trivial⟩, trivial, trivial⟩, trivial⟩⟩⟩⟩, ⟨trivial, ⟨trivial, ⟨trivial, ⟨trivial, ⟨trivial, trivial, ⟨⟨k0, trivial⟩, trivial, trivial⟩⟩, trivial⟩, trivial⟩, ⟨trivial, ⟨⟨k6, trivial⟩, ⟨trivial, trivial, ⟨trivial, trivial, ⟨⟨k1, trivial⟩, trivial, trivial⟩⟩⟩, trivial⟩, ⟨trivial, ⟨trivial, ⟨trivial, trivial, ⟨⟨k2, k3, trivial⟩, trivial, trivial⟩⟩, trivial⟩, trivial⟩⟩⟩, trivial⟩⟩
end Go.Av
end
noncomputable section
namespace Go.Av
open Go Go.Proofs
theorem awake12 : KnownCall Tryz.prog 42 [] (.d (.bool true)) := knownF T3_ok Et_ok (by kernel_rfl) Ft_ok (k := 100000) (n := 60) (by kernel_rfl)
end Go.Av
end
noncomputable section
namespace Go.Av
open Go Go.Proofs
set_option maxRecDepth 10000
theorem WfGram.bytes {g : Gram} (h : WfGram g) : ByteG g := ⟨fun s hs => (h.tokens s hs).2, h.sep.2, fun s hs => (h.names s hs).2⟩
set_option maxHeartbeats 4000000 in
theorem lawCB (g : Gram) (wg : WfGram g) (s : List Nat) (ws : wfStr s) : KnownCall Tryz.prog 8 [encG g, .str s] (.d (.bool true)) := by
  have hA := awake12
  have l1 := light g
  cases h1 : lightF g with
  | false =>
    rw [h1] at l1
    refine knownE Et_ok (fnAt Tryz.func8 (by kernel_rfl) (by kernel_rfl) : FnAt _ _ (mkFn Tryz.f8 [2])) ?_
    repeat' (first
      | refine Run.region ?_
      | refine Run.seq ?_
      | ((refine oB (frz := [2]) Et_ok (fun h => ?_) (fun h => ?_)) <;> (first | (exfalso; simp at h <;> fail) | (exfalso; simp at h; omega) | skip))
      | ((refine eB (fun h => ?_) (fun h => ?_)) <;> (first | (exfalso; simp at h <;> fail) | (exfalso; simp at h; omega) | skip))
      | refine oX (frz := [2]) Et_ok ?_
      | refine oS ?_
      | refine RunOps.nil ?_
      | refine Run.skip ?_
      | refine cT ?_
      | refine cF ?_
      | refine Run.block ?_
      | refine Run.exit ?_
      | refine Run.draw (frz := [2]) Et_ok (by kernel_rfl) ?_
      | refine eX ?_
      | refine eS ?_
      | refine eN ?_
      | refine oC (hA) ?_
      | refine eC (hA) ?_
      | refine oC (l1) ?_
      | refine eC (l1) ?_
      | (refine Run.ret ?_; (first | refine rB ?_ | refine rI ?_ | refine rA ?_ | refine rII ?_ | refine rSI ?_ | refine rT ?_ | refine rS ?_); first | done | (rfl))
      | ((exfalso; (simp at h <;> fail)))
      | fail)
  | true =>
    rw [h1] at l1
    by_cases hl : s.length ≤ 500
    · have hf := light_fits h1
      have hb := wg.bytes
      have c0 := ownGrammar g hf
      have c1 := bytesS12 g hf
      have c2 := bytesR12 g hf
      have c3 := fingS g hf hb
      have c4 := fingR g hf hb
      have c5 := hashS s (by omega) ws.2
      have c6 := hashR s (by omega) ws.2
      have c7 := sameSelf g hf
      generalize bytesF g = bb at c1 c2
      generalize fingF g = ff at c3 c4
      generalize checkF g = c at c1 c2 c3 c4
      generalize hashTo s s.length = hh at c5 c6
      clear h1 wg ws hf hb
      refine knownE Et_ok (fnAt Tryz.func8 (by kernel_rfl) (by kernel_rfl) : FnAt _ _ (mkFn Tryz.f8 [2])) ?_
      repeat' (first
        | refine Run.region ?_
        | refine Run.seq ?_
        | ((refine oB (frz := [2]) Et_ok (fun h => ?_) (fun h => ?_)) <;> (first | (exfalso; simp at h <;> fail) | (exfalso; simp at h; omega) | skip))
        | ((refine eB (fun h => ?_) (fun h => ?_)) <;> (first | (exfalso; simp at h <;> fail) | (exfalso; simp at h; omega) | skip))
        | refine oX (frz := [2]) Et_ok ?_
        | refine oS ?_
        | refine RunOps.nil ?_
        | refine Run.skip ?_
        | refine cT ?_
        | refine cF ?_
        | refine Run.block ?_
        | refine Run.exit ?_
        | refine Run.draw (frz := [2]) Et_ok (by kernel_rfl) ?_
        | refine eX ?_
        | refine eS ?_
        | refine eN ?_
        | refine oC (hA) ?_
        | refine eC (hA) ?_
        | refine oC (l1) ?_
        | refine eC (l1) ?_
        | refine oC (c0) ?_
        | refine eC (c0) ?_
        | refine oC (c1) ?_
        | refine eC (c1) ?_
        | refine oC (c2) ?_
        | refine eC (c2) ?_
        | refine oC (c3) ?_
        | refine eC (c3) ?_
        | refine oC (c4) ?_
        | refine eC (c4) ?_
        | refine oC (c5) ?_
        | refine eC (c5) ?_
        | refine oC (c6) ?_
        | refine eC (c6) ?_
        | refine oC (c7) ?_
        | refine eC (c7) ?_
        | (refine Run.ret ?_; (first | refine rB ?_ | refine rI ?_ | refine rA ?_ | refine rII ?_ | refine rSI ?_ | refine rT ?_ | refine rS ?_); first | done | (rfl))
        | ((exfalso; (simp at h <;> omega)))
        | fail)
    · refine knownE Et_ok (fnAt Tryz.func8 (by kernel_rfl) (by kernel_rfl) : FnAt _ _ (mkFn Tryz.f8 [2])) ?_
      repeat' (first
        | refine Run.region ?_
        | refine Run.seq ?_
        | ((refine oB (frz := [2]) Et_ok (fun h => ?_) (fun h => ?_)) <;> (first | (exfalso; simp at h <;> fail) | (exfalso; simp at h; omega) | skip))
        | ((refine eB (fun h => ?_) (fun h => ?_)) <;> (first | (exfalso; simp at h <;> fail) | (exfalso; simp at h; omega) | skip))
        | refine oX (frz := [2]) Et_ok ?_
        | refine oS ?_
        | refine RunOps.nil ?_
        | refine Run.skip ?_
        | refine cT ?_
        | refine cF ?_
        | refine Run.block ?_
        | refine Run.exit ?_
        | refine Run.draw (frz := [2]) Et_ok (by kernel_rfl) ?_
        | refine eX ?_
        | refine eS ?_
        | refine eN ?_
        | refine oC (hA) ?_
        | refine eC (hA) ?_
        | refine oC (l1) ?_
        | refine eC (l1) ?_
        | (refine Run.ret ?_; (first | refine rB ?_ | refine rI ?_ | refine rA ?_ | refine rII ?_ | refine rSI ?_ | refine rT ?_ | refine rS ?_); first | done | (rfl))
        | ((exfalso; (simp at h <;> omega)))
        | fail)
end Go.Av
end

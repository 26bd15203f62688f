/-
  Parts of the way to the law, joined. Conditions stand at each.
-/
import Derived.Test.YtpcomlcjkdmggaaFk4
import Derived.Test.YtpcomlcjkdmggaaFk3
set_option linter.all false
noncomputable section
namespace Go.Av
open Go Go.Proofs
set_option maxRecDepth 10000
def prodsTo (g : Gram) (s : Int) (i : Nat) : List Nat := ((g.prods.take i).zipIdx.filter (fun q => decide (q.1.left = s))).map (·.2)
def prodsF (g : Gram) (s : Int) : List Nat := prodsTo g s g.prods.length
def goodS (g : Gram) (s : Int) : Bool := isTerm g s || isNonterm g s
def goodP (g : Gram) (p : GProd) : Prop := isNonterm g p.left = true ∧ ∀ s ∈ p.right, goodS g s = true
def symbolsOK (g : Gram) : Prop := isNonterm g g.start = true ∧ ∀ p ∈ g.prods, goodP g p
def orderBad (g : Gram) : Prop := ∃ (i : Nat) (p q : GProd), g.prods[i]? = some p ∧ g.prods[i + 1]? = some q ∧ q.left < p.left
def missing (g : Gram) : Prop := ∃ i : Nat, i < g.names.length ∧ prodsF g (16 + i) = []
open Classical in
def symbolsF (g : Gram) : Int := if symbolsOK g then (if orderBad g then 9 else if missing g then 7 else 0) else 14
open Classical in
def checkF (g : Gram) : Int := if g.k < 1 ∨ 4 < g.k then 2 else if manyF g ≠ 0 then manyF g else if g.tokens = [] ∨ g.names = [] then 5 else if namesF g ≠ 0 then namesF g else symbolsF g
def symName (g : Gram) (s : Int) : Option (List Nat) := if 16 ≤ s then g.names[(s - 16).toNat]? else if 0 ≤ s then g.tokens[s.toNat]? else none
theorem check_parts {g : Gram} (h : checkF g = 0) : manyF g = 0 ∧ g.tokens ≠ [] ∧ g.names ≠ [] ∧ namesF g = 0 ∧ symbolsF g = 0 := by
  unfold checkF at h
  split at h
  · omega
  · split at h
    · contradiction
    · split at h
      · omega
      · split at h
        · contradiction
        · rename_i h1 h2 h3 h4
          rw [not_or] at h3
          exact ⟨Classical.byContradiction h2, h3.1, h3.2, Classical.byContradiction h4, h⟩
theorem many_zero {g : Gram} (h : manyF g = 0) : g.tokens.length ≤ 8 ∧ g.names.length ≤ 8 ∧ g.prods.length ≤ 24 ∧ ∀ p ∈ g.prods, p.right.length ≤ 6 := by
  unfold manyF at h
  split at h
  · omega
  · rename_i hn
    simp only [not_or, not_exists, not_and] at hn
    exact ⟨by omega, by omega, by omega, fun p hp => by have := hn.2.2.2 p hp; omega⟩
theorem symbols_zero {g : Gram} (h : symbolsF g = 0) : symbolsOK g ∧ ¬ orderBad g ∧ ¬ missing g := by
  unfold symbolsF at h
  split at h
  · split at h
    · omega
    · split at h
      · omega
      · exact ⟨by assumption, by assumption, by assumption⟩
  · omega
theorem name_of_good {g : Gram} (ht : g.tokens.length ≤ 8) {s : Int} (h : goodS g s = true) : ∃ x, symName g s = some x := by
  simp only [goodS, isTerm, isNonterm, Bool.or_eq_true, Bool.and_eq_true, decide_eq_true_eq] at h
  unfold symName
  split
  · exact get_ok (by omega)
  · rw [if_pos (by omega)]
    exact get_ok (by omega)
def nameS (g : Gram) (s : Int) : List Nat := (symName g s).getD []
theorem nameS_of {g : Gram} {s : Int} {x : List Nat} (h : symName g s = some x) : nameS g s = x := by simp [nameS, h]
theorem cutL_all {α : Type} (l : List α) : cutL none (some (l.length : Int)) l = l := by simp [cutL]
def namedG (g : Gram) : Int := if g.tokens = [] ∨ g.names = [] then 5 else namedF g
theorem namedG_of {g : Gram} (h1 : g.tokens ≠ []) (h2 : g.names ≠ []) : namedG g = namedF g := if_neg (by simp [h1, h2])
theorem named (g : Gram) (hf : Fits g) : KnownCall Try.prog 57 [encG g] (.d (.int .i64 (namedG g))) := by
  have hft := hf.tokens
  have hfn := hf.names
  have hsl : (smalls g).length = g.tokens.length + 1 := by simp [smalls]
  by_cases h1 : g.tokens = []
  · have e : namedG g = 5 := if_pos (.inl h1)
    rw [e]
    refine kF Try.func57 [1, 28] fun w => ?_
    repeat' (first
      | refine zW ?_
      | refine zB ?_ ?_ <;> intro h <;> try exact zk h
      | refine zX ?_
      | rfl
      | (exfalso; (simp_all <;> fail))
      | fail)
  · by_cases h2 : g.names = []
    · have e : namedG g = 5 := if_pos (.inr h2)
      rw [e]
      have h1' : g.tokens.length ≠ 0 := by simpa using h1
      refine kF Try.func57 [1, 28] fun w => ?_
      repeat' (first
        | refine zW ?_
        | refine zB ?_ ?_ <;> intro h <;> try exact zk h
        | refine zX ?_
        | rfl
        | (exfalso; (simp_all <;> fail))
        | fail)
    · rw [namedG_of h1 h2]
      have h1' : g.tokens.length ≠ 0 := by simpa using h1
      have h2' : g.names.length ≠ 0 := by simpa using h2
      refine kF Try.func57 [1, 28] fun w => ?_
      repeat' (first
        | refine zW ?_
        | refine zB ?_ ?_ <;> intro h <;> try exact zk h
        | refine zX ?_
        | refine oV ?_ (hf := (by first | (simp [cutC] <;> fail) | (simp [cutC]; omega)))
        | refine eX ?_ (hf := (by first | (simp [cutC] <;> fail) | (simp [cutC]; omega)))
        | refine zAp ?_
        | (show _ = _; exfalso; (simp_all <;> fail))
        | fail)
      first | refine Run.tidy (tidy_of (objs := _) [(1, (.d (.ep [.int .i64 g.k, strs g.tokens, .str g.sep, strs g.names, .int .i64 g.start, .sl 2 (g.prods.map encP)]))), (29, .d (strs (smalls g))), (30, .d (.int .i64 (smalls g).length)), (31, .d (.int .i64 0))] 0 (Eq.trans (b := []) rfl rfl) rfl (by repeat' (first | exact trivial | refine ⟨(Or.inl rfl), ?_⟩ | refine ⟨(Or.inr rfl), ?_⟩ | refine ⟨rfl, ?_⟩ | refine ⟨(Or.inr (Eq.trans (b := some (.d (.sl 1 (cutL none (some ((g.tokens.map DV.str).length : Int)) (g.tokens.map DV.str) ++ [.str g.sep])))) rfl (by rw [cutL_all]; simp [smalls]))), ?_⟩ | refine ⟨(Or.inl (Eq.trans (b := some (.d (.int .i64 ((cutL none (some ((g.tokens.map DV.str).length : Int)) (g.tokens.map DV.str) ++ [DV.str g.sep]).length : Nat)))) rfl (by rw [cutL_all]; simp [smalls]))), ?_⟩ | fail)) (by repeat' (first | exact trivial | refine ⟨(Or.inl rfl), ?_⟩ | refine ⟨(Or.inr rfl), ?_⟩ | refine ⟨rfl, ?_⟩ | refine ⟨(Or.inr (Eq.trans (b := some (.d (.sl 1 (cutL none (some ((g.tokens.map DV.str).length : Int)) (g.tokens.map DV.str) ++ [.str g.sep])))) rfl (by rw [cutL_all]; simp [smalls]))), ?_⟩ | refine ⟨(Or.inl (Eq.trans (b := some (.d (.int .i64 ((cutL none (some ((g.tokens.map DV.str).length : Int)) (g.tokens.map DV.str) ++ [DV.str g.sep]).length : Nat)))) rfl (by rw [cutL_all]; simp [smalls]))), ?_⟩ | fail)) rfl rfl) ?_ | refine RunOps.tidy (tidy_of (objs := _) [(1, (.d (.ep [.int .i64 g.k, strs g.tokens, .str g.sep, strs g.names, .int .i64 g.start, .sl 2 (g.prods.map encP)]))), (29, .d (strs (smalls g))), (30, .d (.int .i64 (smalls g).length)), (31, .d (.int .i64 0))] 0 (Eq.trans (b := []) rfl rfl) rfl (by repeat' (first | exact trivial | refine ⟨(Or.inl rfl), ?_⟩ | refine ⟨(Or.inr rfl), ?_⟩ | refine ⟨rfl, ?_⟩ | refine ⟨(Or.inr (Eq.trans (b := some (.d (.sl 1 (cutL none (some ((g.tokens.map DV.str).length : Int)) (g.tokens.map DV.str) ++ [.str g.sep])))) rfl (by rw [cutL_all]; simp [smalls]))), ?_⟩ | refine ⟨(Or.inl (Eq.trans (b := some (.d (.int .i64 ((cutL none (some ((g.tokens.map DV.str).length : Int)) (g.tokens.map DV.str) ++ [DV.str g.sep]).length : Nat)))) rfl (by rw [cutL_all]; simp [smalls]))), ?_⟩ | fail)) (by repeat' (first | exact trivial | refine ⟨(Or.inl rfl), ?_⟩ | refine ⟨(Or.inr rfl), ?_⟩ | refine ⟨rfl, ?_⟩ | refine ⟨(Or.inr (Eq.trans (b := some (.d (.sl 1 (cutL none (some ((g.tokens.map DV.str).length : Int)) (g.tokens.map DV.str) ++ [.str g.sep])))) rfl (by rw [cutL_all]; simp [smalls]))), ?_⟩ | refine ⟨(Or.inl (Eq.trans (b := some (.d (.int .i64 ((cutL none (some ((g.tokens.map DV.str).length : Int)) (g.tokens.map DV.str) ++ [DV.str g.sep]).length : Nat)))) rfl (by rw [cutL_all]; simp [smalls]))), ?_⟩ | fail)) rfl rfl) ?_
      refine Run.loop (fun i : Nat => ⟨PT.ofList [(1, (.d (.ep [.int .i64 g.k, strs g.tokens, .str g.sep, strs g.names, .int .i64 g.start, .sl 2 (g.prods.map encP)]))), (29, .d (strs (smalls g))), (30, .d (.int .i64 (smalls g).length)), (31, .d (.int .i64 i))], [], []⟩) (fun i => i ≤ (smalls g).length ∧ ∀ j, j < i → ∀ s, (smalls g)[j]? = some s → smallF s = true) (fun i => (smalls g).length - i) 0 ⟨Nat.zero_le _, fun j hj => by omega⟩ (weak_of (by repeat' (first | exact trivial | refine ⟨rfl, ?_⟩))) (fun i hi => ?_)
      obtain ⟨hi1, hi2⟩ := hi
      rcases Nat.lt_or_ge i (smalls g).length with hlt | hge
      · obtain ⟨s, hs⟩ := get_ok hlt
        repeat' (first
          | refine zW ?_
          | refine zB ?_ ?_ <;> intro h <;> try exact zk h
          | refine zX ?_
          | refine zI w (.d (.ep [.str s])) hs ?_
          | refine zK (small _ (hf.small hs)) ?_ ?_ <;> intro h <;> try exact zk h
          | refine zC (small _ (hf.small hs)) ?_
          | (show _ = _; rw [named_small hs (by simp_all)])
          | (exact ⟨i + 1, ⟨by omega, all_succ hi2 (fun q hq => by rw [hs] at hq; cases hq; simp_all)⟩, by omega, weak_of (by repeat' (first | exact trivial | refine ⟨rfl, ?_⟩ | refine ⟨(inc_get (k := i) (by kernel_rfl) (by omega)), ?_⟩))⟩)
          | fail)
      · repeat' (first
          | refine zW ?_
          | refine zB ?_ ?_ <;> intro h <;> try exact zk h
          | refine zX ?_
          | fail)
        refine Run.loop (fun i : Nat => ⟨PT.ofList [(1, (.d (.ep [.int .i64 g.k, strs g.tokens, .str g.sep, strs g.names, .int .i64 g.start, .sl 2 (g.prods.map encP)]))), (40, .d (strs g.names)), (41, .d (.int .i64 (g.names.map DV.str).length)), (42, .d (.int .i64 i))], [], []⟩) (fun i => i ≤ g.names.length ∧ ∀ j, j < i → ∀ s, g.names[j]? = some s → capitalF s = true) (fun i => g.names.length - i) 0 ⟨Nat.zero_le _, fun j hj => by omega⟩ (weak_of (by repeat' (first | exact trivial | refine ⟨rfl, ?_⟩))) (fun k hk => ?_)
        obtain ⟨hk1, hk2⟩ := hk
        rcases Nat.lt_or_ge k g.names.length with hklt | hkge
        · obtain ⟨s, hs⟩ := get_ok hklt
          repeat' (first
            | refine zW ?_
            | refine zB ?_ ?_ <;> intro h <;> try exact zk h
            | refine zX ?_
            | refine zI w (.d (.ep [.str s])) hs ?_
            | refine zK (capital _ (hf.name hs)) ?_ ?_ <;> intro h <;> try exact zk h
            | refine zC (capital _ (hf.name hs)) ?_
            | (show _ = _; rw [named_capital hs (by simp_all)])
            | (exact ⟨k + 1, ⟨by omega, all_succ hk2 (fun q hq => by rw [hs] at hq; cases hq; simp_all)⟩, by omega, weak_of (by repeat' (first | exact trivial | refine ⟨rfl, ?_⟩ | refine ⟨(inc_get (k := k) (by kernel_rfl) (by omega)), ?_⟩))⟩)
            | fail)
        · have h0 : namedF g = 0 := named_no (fun j hj => hi2 j (by omega)) (fun j hj => hk2 j (by omega))
          repeat' (first
            | refine zW ?_
            | refine zB ?_ ?_ <;> intro h <;> try exact zk h
            | refine zX ?_
            | (show _ = _; rw [h0])
            | fail)
def allN (g : Gram) : List (List Nat) := smalls g ++ g.names
def diffF (g : Gram) : Int := if (allN g).Nodup then 0 else 8
def kvs (l : List (List Nat)) : List (DV × DV) := l.map fun s => (.str s, .bool true)
theorem kvs_pairs (l : List (List Nat)) : kvs l = (l.map fun s => ((s, DV.bool true) : List Nat × DV)).map fun p => (.str p.1, p.2) := by simp [kvs]
theorem find_not {E : PT Ty} {t : TypeId} {l : List (List Nat)} {s : List Nat} (h : s ∉ l) : findKV (eqKey E t) (.str s) (kvs l) = some none := by
  rw [kvs_pairs, findKV_str]
  have : (l.map fun s => ((s, DV.bool true) : List Nat × DV)).findIdx? (fun p => p.1 == s) = none := by
    rw [List.findIdx?_eq_none_iff]
    intro p hp
    simp only [List.mem_map] at hp
    obtain ⟨x, hx, rfl⟩ := hp
    simp
    exact fun e => h (e ▸ hx)
  rw [this]; rfl
theorem find_in {E : PT Ty} {t : TypeId} {l : List (List Nat)} {s : List Nat} (h : s ∈ l) : ∃ j, findKV (eqKey E t) (.str s) (kvs l) = some (some (j, .bool true)) := by
  rw [kvs_pairs, findKV_str]
  cases hf : (l.map fun s => ((s, DV.bool true) : List Nat × DV)).findIdx? (fun p => p.1 == s) with
  | none =>
    rw [List.findIdx?_eq_none_iff] at hf
    have := hf (s, .bool true) (by simp [h])
    simp at this
  | some j =>
    have hj : j < l.length := by
      rw [List.findIdx?_eq_some_iff_getElem] at hf
      obtain ⟨h1, _⟩ := hf
      simpa using h1
    exact ⟨j, by simp [hj]⟩
theorem kvs_app (l : List (List Nat)) (s : List Nat) : kvs l ++ [(.str s, .bool true)] = kvs (l ++ [s]) := by simp [kvs]
theorem nodup_take {l : List (List Nat)} {i : Nat} {s : List Nat} (h : l[i]? = some s) (hn : (l.take i).Nodup) (hs : s ∉ l.take i) : (l.take (i + 1)).Nodup := by
  rw [List.take_add_one, h, List.nodup_append]
  refine ⟨hn, by simp, fun a ha b hb => ?_⟩
  simp at hb
  subst hb
  exact fun e => hs (e ▸ ha)
theorem nodup_not {l : List (List Nat)} {i : Nat} {s : List Nat} (h : l[i]? = some s) (hs : s ∈ l.take i) : ¬ l.Nodup := fun hn => by
  obtain ⟨j, hj, e⟩ := List.getElem_of_mem hs
  have hji : j < i := by simp at hj; omega
  have hi := (List.getElem?_eq_some_iff.1 h).1
  refine List.pairwise_iff_getElem.1 hn j i (by omega) hi hji ?_
  rw [(List.getElem?_eq_some_iff.1 h).2]
  simpa using e
theorem different (g : Gram) (hf : Fits g) : KnownCall Try.prog 58 [encG g] (.d (.int .i64 (diffF g))) := by
  have hft := hf.tokens
  have hfn := hf.names
  have hal : (allN g).length = g.tokens.length + 1 + g.names.length := by simp [allN, smalls]; omega
  refine kF Try.func58 [1, 18] fun w => ?_
  repeat' (first
    | refine zW ?_
    | refine zB ?_ ?_ <;> intro h <;> try exact zk h
    | refine zX ?_
    | refine oV ?_ (hf := (by first | (simp [cutC] <;> fail) | (simp [cutC]; omega)))
    | refine eX ?_ (hf := (by first | (simp [cutC] <;> fail) | (simp [cutC]; omega)))
    | refine zAp ?_
    | fail)
  first | refine Run.tidy (tidy_of (objs := _) [(1, (.d (.ep [.int .i64 g.k, strs g.tokens, .str g.sep, strs g.names, .int .i64 g.start, .sl 2 (g.prods.map encP)]))), (3, .mp 0), (22, .d (strs (allN g))), (23, .d (.int .i64 (allN g).length)), (24, .d (.int .i64 0))] 1 (Eq.trans (b := [.map []]) rfl rfl) rfl (by repeat' (first | exact trivial | refine ⟨(Or.inl rfl), ?_⟩ | refine ⟨(Or.inr rfl), ?_⟩ | refine ⟨rfl, ?_⟩ | refine ⟨(Or.inr (Eq.trans (b := some (.d (.sl 1 (cutL none (some ((g.tokens.map DV.str).length : Int)) (g.tokens.map DV.str) ++ [.str g.sep] ++ g.names.map .str)))) rfl (by rw [cutL_all]; simp [allN, smalls]))), ?_⟩ | refine ⟨(Or.inl (Eq.trans (b := some (.d (.int .i64 ((cutL none (some ((g.tokens.map DV.str).length : Int)) (g.tokens.map DV.str) ++ [DV.str g.sep] ++ g.names.map DV.str).length : Nat)))) rfl (congrArg (fun n : Nat => some (AV.d (DV.int .i64 n))) (by rw [cutL_all, hal]; simp <;> omega)))), ?_⟩ | fail)) (by repeat' (first | exact trivial | refine ⟨(Or.inl rfl), ?_⟩ | refine ⟨(Or.inr rfl), ?_⟩ | refine ⟨rfl, ?_⟩ | refine ⟨(Or.inr (Eq.trans (b := some (.d (.sl 1 (cutL none (some ((g.tokens.map DV.str).length : Int)) (g.tokens.map DV.str) ++ [.str g.sep] ++ g.names.map .str)))) rfl (by rw [cutL_all]; simp [allN, smalls]))), ?_⟩ | refine ⟨(Or.inl (Eq.trans (b := some (.d (.int .i64 ((cutL none (some ((g.tokens.map DV.str).length : Int)) (g.tokens.map DV.str) ++ [DV.str g.sep] ++ g.names.map DV.str).length : Nat)))) rfl (congrArg (fun n : Nat => some (AV.d (DV.int .i64 n))) (by rw [cutL_all, hal]; simp <;> omega)))), ?_⟩ | fail)) rfl rfl) ?_ | refine RunOps.tidy (tidy_of (objs := _) [(1, (.d (.ep [.int .i64 g.k, strs g.tokens, .str g.sep, strs g.names, .int .i64 g.start, .sl 2 (g.prods.map encP)]))), (3, .mp 0), (22, .d (strs (allN g))), (23, .d (.int .i64 (allN g).length)), (24, .d (.int .i64 0))] 1 (Eq.trans (b := [.map []]) rfl rfl) rfl (by repeat' (first | exact trivial | refine ⟨(Or.inl rfl), ?_⟩ | refine ⟨(Or.inr rfl), ?_⟩ | refine ⟨rfl, ?_⟩ | refine ⟨(Or.inr (Eq.trans (b := some (.d (.sl 1 (cutL none (some ((g.tokens.map DV.str).length : Int)) (g.tokens.map DV.str) ++ [.str g.sep] ++ g.names.map .str)))) rfl (by rw [cutL_all]; simp [allN, smalls]))), ?_⟩ | refine ⟨(Or.inl (Eq.trans (b := some (.d (.int .i64 ((cutL none (some ((g.tokens.map DV.str).length : Int)) (g.tokens.map DV.str) ++ [DV.str g.sep] ++ g.names.map DV.str).length : Nat)))) rfl (congrArg (fun n : Nat => some (AV.d (DV.int .i64 n))) (by rw [cutL_all, hal]; simp <;> omega)))), ?_⟩ | fail)) (by repeat' (first | exact trivial | refine ⟨(Or.inl rfl), ?_⟩ | refine ⟨(Or.inr rfl), ?_⟩ | refine ⟨rfl, ?_⟩ | refine ⟨(Or.inr (Eq.trans (b := some (.d (.sl 1 (cutL none (some ((g.tokens.map DV.str).length : Int)) (g.tokens.map DV.str) ++ [.str g.sep] ++ g.names.map .str)))) rfl (by rw [cutL_all]; simp [allN, smalls]))), ?_⟩ | refine ⟨(Or.inl (Eq.trans (b := some (.d (.int .i64 ((cutL none (some ((g.tokens.map DV.str).length : Int)) (g.tokens.map DV.str) ++ [DV.str g.sep] ++ g.names.map DV.str).length : Nat)))) rfl (congrArg (fun n : Nat => some (AV.d (DV.int .i64 n))) (by rw [cutL_all, hal]; simp <;> omega)))), ?_⟩ | fail)) rfl rfl) ?_
  refine Run.loop (fun i : Nat => ⟨PT.ofList [(1, (.d (.ep [.int .i64 g.k, strs g.tokens, .str g.sep, strs g.names, .int .i64 g.start, .sl 2 (g.prods.map encP)]))), (3, .mp 0), (22, .d (strs (allN g))), (23, .d (.int .i64 (allN g).length)), (24, .d (.int .i64 i))], [.map (kvs ((allN g).take i))], []⟩) (fun i => i ≤ (allN g).length ∧ ((allN g).take i).Nodup) (fun i => (allN g).length - i) 0 ⟨Nat.zero_le _, by simp⟩ (weak_of' rfl rfl (by repeat' (first | exact trivial | refine ⟨rfl, ?_⟩))) (fun i hi => ?_)
  obtain ⟨hi1, hi2⟩ := hi
  rcases Nat.lt_or_ge i (allN g).length with hlt | hge
  · obtain ⟨s, hs⟩ := get_ok hlt
    by_cases hm : s ∈ (allN g).take i
    · obtain ⟨j, hj⟩ := find_in (E := Et) (t := 9) hm
      repeat' (first
        | refine zW ?_
        | refine zB ?_ ?_ <;> intro h <;> try exact zk h
        | refine zX ?_
        | refine zI w (.d (.ep [.str s])) hs ?_
        | refine RunOps.x (frz := [1, 18]) Et_ok (by rfl) (evAny_lookup (by rfl) (by rfl) (by rfl) (by rfl) (by rfl) (by rfl) (by rfl) (by rfl) (by rfl) hj (by rfl)) rfl (v := .d (.bool true)) rfl rfl (by rfl) (by rfl) ?_
        | (show _ = _; rw [diffF, if_neg (nodup_not hs hm)])
        | fail)
    · have hj := find_not (E := Et) (t := 9) hm
      repeat' (first
        | refine zW ?_
        | refine zB ?_ ?_ <;> intro h <;> try exact zk h
        | refine zX ?_
        | refine zI w (.d (.ep [.str s])) hs ?_
        | refine RunOps.x (frz := [1, 18]) Et_ok (by rfl) (evAny_lookup (by rfl) (by rfl) (by rfl) (by rfl) (by rfl) (by rfl) (by rfl) (by rfl) (by rfl) hj (by rfl)) rfl (v := .d (.bool false)) rfl rfl (by rfl) (by rfl) ?_
        | refine RunOps.x (frz := [1, 18]) Et_ok (by rfl) (evAny_mapUpdate (by rfl) (by rfl) (by rfl) (by rfl) (by rfl) (by rfl) (by rfl) (by rfl) (by rfl) hj) rfl rfl rfl (by rfl) (by rfl) ?_
        | (refine ⟨i + 1, ⟨by omega, nodup_take hs hi2 hm⟩, by omega, weak_of' (by rw [List.take_add_one, hs]; exact congrArg (fun q => [Ob.map q]) (kvs_app _ _).symm) rfl (by repeat' (first | exact trivial | refine ⟨rfl, ?_⟩ | refine ⟨(inc_get (k := i) (by kernel_rfl) (by omega)), ?_⟩))⟩)
        | fail)
  · have hnd : (allN g).Nodup := by rw [List.take_of_length_le hge] at hi2; exact hi2
    repeat' (first
      | refine zW ?_
      | refine zB ?_ ?_ <;> intro h <;> try exact zk h
      | refine zX ?_
      | (show _ = _; rw [diffF, if_pos hnd])
      | fail)
def idxP {α : Type} (l : List α) (p : α → Bool) : Int := if l.any p then (l.findIdx p : Nat) else -1
theorem idxP_at {α : Type} {l : List α} {p : α → Bool} {i : Nat} {x : α} (h : l[i]? = some x) (hx : p x = true) (hb : ∀ j, j < i → ∀ y, l[j]? = some y → p y = false) : idxP l p = i := by
  have hm := List.mem_of_getElem? h
  have ha : l.any p = true := List.any_eq_true.2 ⟨x, hm, hx⟩
  rw [idxP, if_pos ha]
  have h1 : l.findIdx p < l.length := List.findIdx_lt_length_of_exists ⟨x, hm, hx⟩
  have h2 := List.findIdx_getElem (w := h1)
  have h3 : ¬ l.findIdx p < i := fun hlt => by
    have := hb _ hlt _ (List.getElem?_eq_getElem h1)
    rw [this] at h2; cases h2
  have h4 : ¬ i < l.findIdx p := fun hlt => by
    have h5 := List.not_of_lt_findIdx hlt
    rw [(List.getElem?_eq_some_iff.1 h).2] at h5
    simp [hx] at h5
  omega
theorem idxP_none {α : Type} {l : List α} {p : α → Bool} (hb : ∀ j, j < l.length → ∀ y, l[j]? = some y → p y = false) : idxP l p = -1 := by
  rw [idxP, if_neg]
  intro ha
  obtain ⟨x, hx, hp⟩ := List.any_eq_true.1 ha
  obtain ⟨j, hj, e⟩ := List.getElem_of_mem hx
  have := hb j hj x (by rw [List.getElem?_eq_getElem hj, e])
  rw [this] at hp; cases hp
theorem idxP_any {α : Type} (l : List α) (p : α → Bool) : decide (0 ≤ idxP l p) = l.any p := by
  unfold idxP
  cases h : l.any p <;> simp
theorem indexFuncInts (l : List Int) (hl : l.length ≤ 1099511627776) (F : FuncId) (caps : List DV) (p : Int → Bool) (hp : ∀ x ∈ l, KnownCall Try.prog F ((.int .i64 x) :: caps) (.d (.bool (p x)))) :
    KnownCall Try.prog 97 [(.sl 1 (l.map (.int .i64))), .fn (.func F) [] caps] (.d (.int .i64 (idxP l p))) := by
  refine kF Try.func97 [] fun w => ?_
  repeat' (first
    | refine zW ?_
    | refine zB ?_ ?_ <;> intro h <;> try exact zk h
    | fail)
  refine Run.loop (fun i : Nat => ⟨PT.ofList [(0, .d (.sl 1 (l.map (.int .i64)))), (1, .d (.fn (.func F) [] caps)), (7, .d (.int .i64 l.length)), (8, .d (.int .i64 i))], [], []⟩) (fun i => i ≤ l.length ∧ ∀ j, j < i → ∀ y, l[j]? = some y → p y = false) (fun i => l.length - i) 0 ⟨Nat.zero_le _, fun j hj => by omega⟩ (weak_of (by repeat' (first | exact trivial | refine ⟨rfl, ?_⟩ | refine ⟨Eq.trans (b := some (.d (.int .i64 (l.map _).length))) rfl (by rw [List.length_map]), ?_⟩ | fail))) (fun i hi => ?_)
  obtain ⟨hi1, hi2⟩ := hi
  rcases Nat.lt_or_ge i l.length with hlt | hge
  · obtain ⟨x, hx⟩ := get_ok hlt
    have hc := hp x (List.mem_of_getElem? hx)
    repeat' (first
      | refine zW ?_
      | refine zB ?_ ?_ <;> intro h <;> try exact zk h
      | refine zI w (.d (.ep [.int .i64 x])) hx ?_
      | refine zK (hc) ?_ ?_ <;> intro h <;> try exact zk h
      | refine zC (hc) ?_
      | (show _ = _; rw [idxP_at hx (by simp_all) hi2])
      | (exact ⟨i + 1, ⟨by omega, all_succ hi2 (fun q hq => by rw [hx] at hq; cases hq; simp_all)⟩, by omega, weak_of (by repeat' (first | exact trivial | refine ⟨rfl, ?_⟩ | refine ⟨(inc_get (k := i) (by kernel_rfl) (by omega)), ?_⟩))⟩)
      | fail)
  · have hge : i = l.length := by omega
    repeat' (first
      | refine zW ?_
      | refine zB ?_ ?_ <;> intro h <;> try exact zk h
      | (show _ = _; rw [idxP_none (fun j hj => hi2 j (by omega))])
      | fail)
theorem containsFuncInts (l : List Int) (hl : l.length ≤ 1099511627776) (F : FuncId) (caps : List DV) (p : Int → Bool) (hp : ∀ x ∈ l, KnownCall Try.prog F ((.int .i64 x) :: caps) (.d (.bool (p x)))) :
    KnownCall Try.prog 77 [(.sl 1 (l.map (.int .i64))), .fn (.func F) [] caps] (.d (.bool (l.any p))) := by
  refine kF Try.func77 [] fun w => ?_
  have e := idxP_any l p
  repeat' (first
    | refine zW ?_
    | refine zB ?_ ?_ <;> intro h <;> try exact zk h
    | refine zK (indexFuncInts _ hl _ _ _ hp) ?_ ?_ <;> intro h <;> try exact zk h
    | refine zC (indexFuncInts _ hl _ _ _ hp) ?_
    | (show _ = _; first | (rw [← e] <;> simp_all <;> fail) | fail)
    | fail)
theorem prodsF_nil (g : Gram) (s : Int) : prodsF g s = [] ↔ g.prods.any (fun p => decide (p.left = s)) = false := by
  simp only [prodsF, prodsTo, List.take_length, List.map_eq_nil_iff, List.filter_eq_nil_iff, List.any_eq_false, decide_eq_true_eq]
  refine ⟨fun h p hp => ?_, fun h q hq => h q.1 (by have := List.fst_mem_of_mem_zipIdx hq; exact this)⟩
  obtain ⟨j, hj, e⟩ := List.getElem_of_mem hp
  exact h (p, j) (by rw [List.mem_zipIdx_iff_getElem?]; rw [List.getElem?_eq_getElem hj, e])
theorem indexFuncA (l : List GProd) (hl : l.length ≤ 1099511627776) (F : FuncId) (caps : List AV) (objs : List Ob) (p : GProd → Bool) (hp : ∀ x ∈ l, ACall Try.prog F (.d (encP x) :: caps) objs (.d (.bool (p x))) objs) :
    ACall Try.prog 98 [.d (.sl 2 (l.map encP)), .fn (.func F) [] caps] objs (.d (.int .i64 (idxP l p))) objs := by
  have w : Fz [] := trivial
  refine acall_of_run Et_ok (fnB Try.func98 []) rfl rfl ?_
  repeat' (first
    | refine zW ?_
    | refine zB ?_ ?_ <;> intro h <;> try exact zk h
    | fail)
  refine Run.loop (fun i : Nat => ⟨PT.ofList [(0, .d (.sl 2 (l.map encP))), (1, .fn (.func F) [] caps), (7, .d (.int .i64 l.length)), (8, .d (.int .i64 i))], objs, []⟩) (fun i => i ≤ l.length ∧ ∀ j, j < i → ∀ y, l[j]? = some y → p y = false) (fun i => l.length - i) 0 ⟨Nat.zero_le _, fun j hj => by omega⟩ (weak_of (by repeat' (first | exact trivial | refine ⟨rfl, ?_⟩ | refine ⟨Eq.trans (b := some (.d (.int .i64 (l.map _).length))) rfl (by rw [List.length_map]), ?_⟩ | fail))) (fun i hi => ?_)
  obtain ⟨hi1, hi2⟩ := hi
  rcases Nat.lt_or_ge i l.length with hlt | hge
  · obtain ⟨x, hx⟩ := get_ok hlt
    have hc := hp x (List.mem_of_getElem? hx)
    cases hpx : p x with
    | true =>
      rw [hpx] at hc
      repeat' (first
        | refine zW ?_
        | refine zB ?_ ?_ <;> intro h <;> try exact zk h
        | refine zIP w (.d (.ep [.int .i64 x.left, ints x.right])) hx ?_
        | refine RunOps.call (by rfl) (by rfl) hc (by rfl) (by rfl) ?_
        | fail)
      refine Run.ret ?_
      refine ⟨trivial, rfl, ?_⟩
      rw [idxP_at hx hpx hi2]; rfl
    | false =>
      rw [hpx] at hc
      repeat' (first
        | refine zW ?_
        | refine zB ?_ ?_ <;> intro h <;> try exact zk h
        | refine zIP w (.d (.ep [.int .i64 x.left, ints x.right])) hx ?_
        | refine RunOps.call (by rfl) (by rfl) hc (by rfl) (by rfl) ?_
        | (exact ⟨i + 1, ⟨by omega, all_succ hi2 (fun q hq => by rw [hx] at hq; cases hq; exact hpx)⟩, by omega, weak_of (by repeat' (first | exact trivial | refine ⟨rfl, ?_⟩ | refine ⟨(inc_get (k := i) (by kernel_rfl) (by omega)), ?_⟩))⟩)
        | fail)
  · have hge : i = l.length := by omega
    repeat' (first
      | refine zW ?_
      | refine zB ?_ ?_ <;> intro h <;> try exact zk h
      | fail)
    refine Run.ret ?_
    refine ⟨trivial, rfl, ?_⟩
    rw [idxP_none (fun j hj => hi2 j (by omega))]; rfl
theorem containsFuncA (l : List GProd) (hl : l.length ≤ 1099511627776) (F : FuncId) (caps : List AV) (objs : List Ob) (p : GProd → Bool) (hp : ∀ x ∈ l, ACall Try.prog F (.d (encP x) :: caps) objs (.d (.bool (p x))) objs) :
    ACall Try.prog 79 [.d (.sl 2 (l.map encP)), .fn (.func F) [] caps] objs (.d (.bool (l.any p))) objs := by
  have w : Fz [] := trivial
  refine acall_of_run Et_ok (fnB Try.func79 []) rfl rfl ?_
  repeat refine zA ?_
  refine RunOps.call (by rfl) (by rfl) (indexFuncA l hl F caps objs p hp) (by rfl) (by rfl) ?_
  repeat refine zA ?_
  refine Run.ret ?_
  refine ⟨trivial, rfl, Eq.trans (b := some (.d (.bool (decide (idxP l p ≥ 0))))) (by kernel_rfl) ?_⟩
  rw [show decide (idxP l p ≥ 0) = l.any p from idxP_any l p]
theorem complete1 (p : GProd) (i : Nat) (hi : i ≤ 1048576) : ACall Try.prog 80 [.d (encP p), .bp 0 0] [.box [.d (.int .i64 i)]] (.d (.bool (decide (p.left = 16 + (i : Int))))) [.box [.d (.int .i64 i)]] := by
  have w : Fz [2] := trivial
  have hw : IntKind.i64.wrap (16 + (i : Int)) = 16 + i := wrap64 (by omega) (by omega)
  refine acall_of_run Et_ok (fnB Try.func80 [2]) rfl rfl ?_
  repeat refine zA ?_
  refine Run.ret ?_
  refine ⟨trivial, rfl, Eq.trans (b := some (.d (.bool (p.left == IntKind.i64.wrap (16 + (i : Int)))))) (by kernel_rfl) ?_⟩
  rw [hw]
  congr 3
open Classical in
def completeF (g : Gram) : Int := if missing g then 7 else 0
theorem complete (g : Gram) (hf : Fits g) : KnownCall Try.prog 61 [encG g] (.d (.int .i64 (completeF g))) := by
  have hfp := hf.prods
  have hfn := hf.names
  refine kF Try.func61 [1] fun w => ?_
  repeat' (first
    | refine zW ?_
    | refine zB ?_ ?_ <;> intro h <;> try exact zk h
    | fail)
  refine Run.loopT (fun i : Nat => ⟨PT.ofList [(1, (.d (.ep [.int .i64 g.k, strs g.tokens, .str g.sep, strs g.names, .int .i64 g.start, .sl 2 (g.prods.map encP)]))), (6, .d (.int .i64 (g.names.map DV.str).length)), (7, .d (.int .i64 i))], [], []⟩) (fun i => i ≤ g.names.length ∧ ∀ j : Nat, j < i → prodsF g (16 + j) ≠ []) (fun i => g.names.length - i) 0 ⟨Nat.zero_le _, fun j hj => by omega⟩ (ti _ 0) (fun i hi => ?_)
  obtain ⟨hi1, hi2⟩ := hi
  rcases Nat.lt_or_ge i g.names.length with hlt | hge
  · have hc := containsFuncA g.prods (by omega) 80 [.bp 0 0] [.box [.d (.int .i64 i)]] (fun p => decide (p.left = 16 + (i : Int))) (fun x _ => complete1 x i (by omega))
    cases hpx : g.prods.any (fun p => decide (p.left = 16 + (i : Int))) with
    | true =>
      rw [hpx] at hc
      repeat' (first
        | refine zW ?_
        | refine zB ?_ ?_ <;> intro h <;> try exact zk h
        | refine RunOps.call (by rfl) (by rfl) hc (by rfl) (by rfl) ?_
        | (exact ⟨i + 1, ⟨by omega, all_succ hi2 (fun e => by rw [prodsF_nil, hpx] at e; cases e)⟩, by omega, (ti _ 0)⟩)
        | fail)
    | false =>
      rw [hpx] at hc
      have hm : missing g := ⟨i, hlt, by rw [prodsF_nil]; exact hpx⟩
      repeat' (first
        | refine zW ?_
        | refine zB ?_ ?_ <;> intro h <;> try exact zk h
        | refine RunOps.call (by rfl) (by rfl) hc (by rfl) (by rfl) ?_
        | (show _ = _; rw [completeF, if_pos hm])
        | fail)
  · have hm : ¬ missing g := fun ⟨j, h1, h2⟩ => hi2 j (by omega) h2
    repeat' (first
      | refine zW ?_
      | refine zB ?_ ?_ <;> intro h <;> try exact zk h
      | (show _ = _; rw [completeF, if_neg hm])
      | fail)
abbrev cellG (g : Gram) : DV := .ep [.int .i64 g.k, strs g.tokens, .str g.sep, strs g.names, .int .i64 g.start, .sl 2 (g.prods.map encP)]
theorem symbols1 (g : Gram) (s : Int) (hf : Fits g) : KnownCall Try.prog 78 [.int .i64 s, cellG g] (.d (.bool (!goodS g s))) := by
  refine kF Try.func78 [] fun w => ?_
  repeat' (first
    | refine zW ?_
    | refine zB ?_ ?_ <;> intro h <;> try exact zk h
    | refine zK (terminal g _) ?_ ?_ <;> intro h <;> try exact zk h
    | refine zC (terminal g _) ?_
    | refine zK (nonterminal g _ hf) ?_ ?_ <;> intro h <;> try exact zk h
    | refine zC (nonterminal g _ hf) ?_
    | (show _ = _; first | (simp_all [goodS] <;> fail) | (simp_all [goodS]; omega))
    | fail)
open Classical in
def badP (g : Gram) (p : GProd) : Bool := !isNonterm g p.left || p.right.any (fun s => !goodS g s)
theorem badP_iff (g : Gram) (p : GProd) : badP g p = false ↔ goodP g p := by
  simp only [badP, goodP, Bool.or_eq_false_iff, Bool.not_eq_false', List.any_eq_false]
  refine and_congr Iff.rfl (forall_congr' fun s => forall_congr' fun _ => ?_)
  simp
open Classical in
def symsG (g : Gram) : Int := if symbolsOK g then 0 else 14
theorem symbols (g : Gram) (hf : Fits g) : KnownCall Try.prog 59 [encG g] (.d (.int .i64 (symsG g))) := by
  have hfp := hf.prods
  cases hst : isNonterm g g.start with
  | false =>
    have e : symsG g = 14 := by unfold symsG; rw [if_neg]; exact fun h => by rw [h.1] at hst; cases hst
    rw [e]
    have hc := nonterminal g g.start hf
    rw [hst] at hc
    refine kF Try.func59 [1] fun w => ?_
    repeat' (first
      | refine zW ?_
      | refine zB ?_ ?_ <;> intro h <;> try exact zk h
      | refine zK (hc) ?_ ?_ <;> intro h <;> try exact zk h
      | refine zC (hc) ?_
      | rfl
      | fail)
  | true =>
    have hc := nonterminal g g.start hf
    rw [hst] at hc
    refine kF Try.func59 [1] fun w => ?_
    repeat' (first
      | refine zW ?_
      | refine zB ?_ ?_ <;> intro h <;> try exact zk h
      | refine zC (hc) ?_
      | refine zK (prodsOf g) ?_ ?_ <;> intro h <;> try exact zk h
      | refine zC (prodsOf g) ?_
      | rfl
      | fail)
    obtain ⟨n, hn⟩ : ∃ n, n = g.prods.findIdx (fun p => badP g p) := ⟨_, rfl⟩
    have hidx : n ≤ g.prods.length := by rw [hn]; exact List.findIdx_le_length
    have hcase : n < g.prods.length ∨ n = g.prods.length := by omega
    refine Run.rangeProds (frz := [1]) 1 (fun _ => [.box [.d (.int .i64 0)]]) g.prods (Nat.le_trans hf.prods (by decide)) (by rfl) (fun _ => rfl) (fun _ => rfl) (by kernel_rfl) n hidx (fun k p hk hp => ?_) ?_
    · have hgood : badP g p = false := by
        rw [hn] at hk
        have := List.not_of_lt_findIdx hk
        have e : g.prods[k] = p := by rw [List.getElem?_eq_some_iff] at hp; exact hp.2
        simpa [e] using this
      have hpr := hf.rights p (List.mem_of_getElem? hp)
      have hg := (badP_iff g p).1 hgood
      have hnt := nonterminal g p.left hf
      rw [hg.1] at hnt
      have hcf := containsFuncInts p.right (by omega) 78 [cellG g] (fun s => !goodS g s) (fun s _ => symbols1 g s hf)
      rw [show p.right.any (fun s => !goodS g s) = false from by simp only [badP, Bool.or_eq_false_iff] at hgood; exact hgood.2] at hcf
      refine ayield_of_run (i := 2) (by rfl) (by rfl) (by rfl) ?_
      repeat refine zA ?_
      refine ⟨rfl, _, _, _, _, _, _, _, by rfl, ?_⟩
      refine Run.less ?_
      repeat' (first
        | refine zW ?_
        | refine zB ?_ ?_ <;> intro h <;> try exact zk h
        | refine zC (hnt) ?_
        | refine zC (hcf) ?_
        | (exact ⟨rfl, _, less_of [] 3 rfl (by rfl) trivial trivial (by kernel_rfl) rfl, _, _, _, _, _, _, _, _, by rfl, rfl, by rfl⟩)
        | fail)
    · rcases hcase with hlt | hge
      · obtain ⟨p, hp⟩ := get_ok hlt
        have hbad : badP g p = true := by
          rw [hn] at hp hlt
          have := List.findIdx_getElem (p := fun p : GProd => badP g p) (xs := g.prods) (w := hlt)
          have e : g.prods[g.prods.findIdx fun p => badP g p] = p := by rw [List.getElem?_eq_some_iff] at hp; exact hp.2
          rw [e] at this
          simpa using this
        have hpr := hf.rights p (List.mem_of_getElem? hp)
        have e : symsG g = 14 := by
          unfold symsG
          rw [if_neg]
          intro h
          have := (badP_iff g p).2 (h.2 p (List.mem_of_getElem? hp))
          rw [hbad] at this; cases this
        rw [e]
        have hcf := containsFuncInts p.right (by omega) 78 [cellG g] (fun s => !goodS g s) (fun s _ => symbols1 g s hf)
        refine .inr ⟨p, [.box [.d (.int .i64 14)]], hp, rfl, .inl ⟨?_, ?_⟩⟩
        · cases hl : isNonterm g p.left with
          | false =>
            have hnt := nonterminal g p.left hf
            rw [hl] at hnt
            refine ayield_of_run (i := 2) (by rfl) (by rfl) (by rfl) ?_
            repeat refine zA ?_
            refine ⟨rfl, _, _, _, _, _, _, _, by rfl, ?_⟩
            refine Run.less ?_
            repeat' (first
              | refine zW ?_
              | refine zB ?_ ?_ <;> intro h <;> try exact zk h
              | refine zC (hnt) ?_
              | ((refine Run.ret ?_; exact ⟨rfl, _, less_of [] 3 rfl (by rfl) trivial trivial (by kernel_rfl) rfl, _, _, _, _, _, _, _, _, by rfl, rfl, by rfl⟩))
              | fail)
          | true =>
            have hnt := nonterminal g p.left hf
            rw [hl] at hnt
            rw [show p.right.any (fun s => !goodS g s) = true from by simpa [badP, hl] using hbad] at hcf
            refine ayield_of_run (i := 2) (by rfl) (by rfl) (by rfl) ?_
            repeat refine zA ?_
            refine ⟨rfl, _, _, _, _, _, _, _, by rfl, ?_⟩
            refine Run.less ?_
            repeat' (first
              | refine zW ?_
              | refine zB ?_ ?_ <;> intro h <;> try exact zk h
              | refine zC (hnt) ?_
              | refine zC (hcf) ?_
              | ((refine Run.ret ?_; exact ⟨rfl, _, less_of [] 3 rfl (by rfl) trivial trivial (by kernel_rfl) rfl, _, _, _, _, _, _, _, _, by rfl, rfl, by rfl⟩))
              | fail)
        · refine ⟨trivial, _, _, by rfl, by rfl, Eq.trans (b := some (.d (.int .i64 14))) (by kernel_rfl) ?_⟩
          rfl
      · have e : symsG g = 0 := by
          unfold symsG
          rw [if_pos]
          refine ⟨hst, fun p hp => (badP_iff g p).1 ?_⟩
          cases hb : badP g p with
          | false => rfl
          | true =>
            have := List.findIdx_lt_length_of_exists (xs := g.prods) (p := fun p => badP g p) ⟨p, hp, hb⟩
            omega
        rw [e]
        refine .inl ⟨hge, ?_⟩
        repeat' (first
          | refine zW ?_
          | refine zB ?_ ?_ <;> intro h <;> try exact zk h
          | rfl
          | fail)
theorem first_or (P : Nat → Bool) : ∀ N : Nat, ∃ n, n ≤ N ∧ (∀ k, k < n → P k = false) ∧ (n = N ∨ (n < N ∧ P n = true))
  | 0 => ⟨0, Nat.le_refl _, fun k hk => by omega, .inl rfl⟩
  | N + 1 => by
    obtain ⟨n, h1, h2, h3⟩ := first_or P N
    rcases h3 with rfl | ⟨h3, h4⟩
    · cases hp : P n with
      | true => exact ⟨n, by omega, h2, .inr ⟨by omega, hp⟩⟩
      | false => exact ⟨n + 1, by omega, all_succ h2 hp, .inl rfl⟩
    · exact ⟨n, by omega, h2, .inr ⟨by omega, h4⟩⟩
open Classical in
def ordBad (g : Gram) (k : Nat) : Bool := decide (0 < k ∧ ∃ p q, g.prods[k - 1]? = some p ∧ g.prods[k]? = some q ∧ q.left < p.left)
open Classical in
theorem ordBad_iff (g : Gram) (k : Nat) : ordBad g k = true ↔ (0 < k ∧ ∃ p q, g.prods[k - 1]? = some p ∧ g.prods[k]? = some q ∧ q.left < p.left) := by unfold ordBad; exact decide_eq_true_iff
open Classical in
def orderedG (g : Gram) : Int := if orderBad g then 9 else 0
theorem ordered (g : Gram) (hf : Fits g) : KnownCall Try.prog 60 [encG g] (.d (.int .i64 (orderedG g))) := by
  have hfp := hf.prods
  refine kF Try.func60 [1] fun w => ?_
  repeat' (first
    | refine zW ?_
    | refine zB ?_ ?_ <;> intro h <;> try exact zk h
    | refine zK (prodsOf g) ?_ ?_ <;> intro h <;> try exact zk h
    | refine zC (prodsOf g) ?_
    | fail)
  obtain ⟨n, hidx, hbefore, hcase⟩ := first_or (ordBad g) g.prods.length
  refine Run.rangeProds (frz := [1]) 1 (fun _ => [.box [.d (.int .i64 0)]]) g.prods (Nat.le_trans hf.prods (by decide)) (by rfl) (fun _ => rfl) (fun _ => rfl) (by kernel_rfl) n hidx (fun k p hk hp => ?_) ?_
  · have hgood := hbefore k hk
    have hkl := (List.getElem?_eq_some_iff.1 hp).1
    rcases k with _ | k
    · refine ayield_of_run (i := 2) (by rfl) (by rfl) (by rfl) ?_
      repeat refine zA ?_
      refine ⟨rfl, _, _, _, _, _, _, _, by rfl, ?_⟩
      refine Run.less ?_
      repeat' (first
        | refine zW ?_
        | refine zB ?_ ?_ <;> intro h <;> try exact zk h
        | (exact ⟨rfl, _, less_of [] 3 rfl (by rfl) trivial trivial (by kernel_rfl) rfl, _, _, _, _, _, _, _, _, by rfl, rfl, by rfl⟩)
        | fail)
    · obtain ⟨q, hq⟩ := get_ok (show k < g.prods.length by omega)
      have hno : ¬ p.left < q.left := fun h => by
        have : ordBad g (k + 1) = true := (ordBad_iff _ _).2 ⟨Nat.succ_pos _, q, p, hq, hp, h⟩
        rw [this] at hgood; cases hgood
      have hw : IntKind.i64.wrap (((k + 1 : Nat) : Int) - 1) = (k : Nat) := by rw [wrap64 (by omega) (by omega)]; omega
      refine ayield_of_run (i := 2) (by rfl) (by rfl) (by rfl) ?_
      repeat refine zA ?_
      refine ⟨rfl, _, _, _, _, _, _, _, by rfl, ?_⟩
      refine Run.less ?_
      repeat' (first
        | refine oV (v := .d (.int .i64 (k : Nat))) ?_ (he := (congrArg (fun n => AV.d (.int .i64 n)) hw))
        | refine eX (v := .d (.int .i64 (k : Nat))) ?_ (he := (congrArg (fun n => AV.d (.int .i64 n)) hw))
        | refine zW ?_
        | refine zB ?_ ?_ <;> intro h <;> try exact zk h
        | refine zIP w (.d (.ep [.int .i64 q.left, ints q.right])) hq ?_
        | (exact ⟨rfl, _, less_of [] 3 rfl (by rfl) trivial trivial (by kernel_rfl) rfl, _, _, _, _, _, _, _, _, by rfl, rfl, by rfl⟩)
        | ((exfalso; first | (simp_all <;> fail) | (simp_all; omega)))
        | fail)
  · rcases hcase with hge | ⟨hlt, hbad⟩
    · have e : orderedG g = 0 := by
        unfold orderedG
        rw [if_neg]
        rintro ⟨i, p, q, h1, h2, h3⟩
        have hi := (List.getElem?_eq_some_iff.1 h2).1
        have := hbefore (i + 1) (by omega)
        rw [show ordBad g (i + 1) = true from (ordBad_iff _ _).2 ⟨Nat.succ_pos _, p, q, h1, h2, h3⟩] at this
        cases this
      rw [e]
      refine .inl ⟨hge, ?_⟩
      repeat' (first
        | refine zW ?_
        | refine zB ?_ ?_ <;> intro h <;> try exact zk h
        | rfl
        | fail)
    · have hb := (ordBad_iff _ _).1 hbad
      obtain ⟨hn0, q, p, hq, hp, hlt2⟩ := hb
      rcases n with _ | k
      · omega
      · have hq : g.prods[k]? = some q := hq
        have e : orderedG g = 9 := by unfold orderedG; rw [if_pos ⟨k, q, p, hq, hp, hlt2⟩]
        rw [e]
        have hkl := (List.getElem?_eq_some_iff.1 hp).1
        have hw : IntKind.i64.wrap (((k + 1 : Nat) : Int) - 1) = (k : Nat) := by rw [wrap64 (by omega) (by omega)]; omega
        refine .inr ⟨p, [.box [.d (.int .i64 9)]], hp, rfl, .inl ⟨?_, ?_⟩⟩
        · refine ayield_of_run (i := 2) (by rfl) (by rfl) (by rfl) ?_
          repeat refine zA ?_
          refine ⟨rfl, _, _, _, _, _, _, _, by rfl, ?_⟩
          refine Run.less ?_
          repeat' (first
            | refine oV (v := .d (.int .i64 (k : Nat))) ?_ (he := (congrArg (fun n => AV.d (.int .i64 n)) hw))
            | refine eX (v := .d (.int .i64 (k : Nat))) ?_ (he := (congrArg (fun n => AV.d (.int .i64 n)) hw))
            | refine zW ?_
            | refine zB ?_ ?_ <;> intro h <;> try exact zk h
            | refine zIP w (.d (.ep [.int .i64 q.left, ints q.right])) hq ?_
            | ((refine Run.ret ?_; exact ⟨rfl, _, less_of [] 3 rfl (by rfl) trivial trivial (by kernel_rfl) rfl, _, _, _, _, _, _, _, _, by rfl, rfl, by rfl⟩))
            | ((exfalso; first | (simp_all <;> fail) | (simp_all; omega)))
            | fail)
        · refine ⟨trivial, _, _, by rfl, by rfl, Eq.trans (b := some (.d (.int .i64 9))) (by kernel_rfl) ?_⟩
          rfl
def checks (g : Gram) : List Int := [manyF g, namedG g, diffF g, symsG g, orderedG g, completeF g]
def firstErr : List Int → Int
  | [] => 0
  | e :: r => if e = 0 then firstErr r else e
def checkG (g : Gram) : Int := if g.k < 1 ∨ 4 < g.k then 2 else firstErr (checks g)
theorem firstErr_at : ∀ {l : List Int} {i : Nat} {e : Int}, l[i]? = some e → e ≠ 0 → (∀ j, j < i → l[j]? = some 0) → firstErr l = e
  | [], i, e, h, _, _ => by simp at h
  | a :: r, 0, e, h, he, _ => by simp at h; subst h; simp [firstErr, he]
  | a :: r, i + 1, e, h, he, hb => by
    have ha : a = 0 := by have := hb 0 (by omega); simpa using this
    subst ha
    simp only [firstErr, if_true]
    exact firstErr_at (i := i) (by simpa using h) he (fun j hj => by have := hb (j + 1) (by omega); simpa using this)
theorem firstErr_none : ∀ {l : List Int}, (∀ j, j < l.length → l[j]? = some 0) → firstErr l = 0
  | [], _ => rfl
  | a :: r, hb => by
    have ha : a = 0 := by have := hb 0 (by simp); simpa using this
    subst ha
    simp only [firstErr, if_true]
    exact firstErr_none (fun j hj => by have := hb (j + 1) (by simpa using hj); simpa using this)
abbrev looksD : List DV := [.fn (.func 56) [] [], .fn (.func 57) [] [], .fn (.func 58) [] [], .fn (.func 59) [] [], .fn (.func 60) [] [], .fn (.func 61) [] []]
theorem checkGr (g : Gram) (hf : Fits g) : KnownCall Try.prog 36 [encG g] (.d (.int .i64 (checkG g))) := by
  by_cases hk : g.k < 1 ∨ 4 < g.k
  · have e : checkG g = 2 := if_pos hk
    rw [e]
    refine kF Try.func36 [1, 13, 200001] fun w => ?_
    refine Run.seq ?_
    repeat' (first
      | refine zW ?_
      | refine zB ?_ ?_ <;> intro h <;> try exact zk h
      | refine zX ?_
      | fail)
    refine Run.scope ?_
    repeat' (first
      | refine zW ?_
      | refine zB ?_ ?_ <;> intro h <;> try exact zk h
      | refine zX ?_
      | rfl
      | ((exfalso; first | (simp_all <;> fail) | (simp_all; omega)))
      | fail)
  · have e : checkG g = firstErr (checks g) := if_neg hk
    rw [e]
    rw [not_or] at hk
    refine kF Try.func36 [1, 13, 200001] fun w => ?_
    repeat' (first
      | refine zW ?_
      | refine zB ?_ ?_ <;> intro h <;> try exact zk h
      | refine zX ?_
      | fail)
    refine Run.scope ?_
    repeat' (first
      | refine zW ?_
      | refine zB ?_ ?_ <;> intro h <;> try exact zk h
      | refine zX ?_
      | refine Run.label ?_
      | ((exfalso; first | (simp_all <;> fail) | (simp_all; omega)))
      | fail)
    refine Run.loop (fun i : Nat => ⟨PT.ofList [(1, (.d (.ep [.int .i64 g.k, strs g.tokens, .str g.sep, strs g.names, .int .i64 g.start, .sl 2 (g.prods.map encP)]))), (2, .d (.int .i64 0)), (13, .d (.sl 1 looksD)), (14, .d (.int .i64 6)), (15, .d (.int .i64 i))], [], []⟩) (fun i => i ≤ 6 ∧ ∀ j, j < i → (checks g)[j]? = some 0) (fun i => 6 - i) 0 ⟨Nat.zero_le _, fun j hj => by omega⟩ (weak_of (by repeat' (first | exact trivial | refine ⟨rfl, ?_⟩))) (fun i hi => ?_)
    obtain ⟨hi1, hi2⟩ := hi
    have hcs : i = 0 ∨ i = 1 ∨ i = 2 ∨ i = 3 ∨ i = 4 ∨ i = 5 ∨ i = 6 := by omega
    rcases hcs with h | h | h | h | h | h | h <;> subst h
    · have hc := many g hf
      by_cases he : manyF g = 0
      · have hnext : (checks g)[0]? = some 0 := by rw [← he]; rfl
        rw [he] at hc
        repeat' (first
          | refine zW ?_
          | refine zB ?_ ?_ <;> intro h <;> try exact zk h
          | refine zX ?_
          | refine zC (hc) ?_
          | (exact ⟨1, ⟨by omega, all_succ hi2 hnext⟩, by omega, weak_of (by repeat' (first | exact trivial | refine ⟨rfl, ?_⟩))⟩)
          | fail)
      · repeat' (first
          | refine zW ?_
          | refine zB ?_ ?_ <;> intro h <;> try exact zk h
          | refine zX ?_
          | refine zC (hc) ?_
          | (show _ = _; rw [firstErr_at (i := 0) (show (checks g)[0]? = some (manyF g) from rfl) he hi2])
          | ((exfalso; (simp_all <;> fail)))
          | fail)
    · have hc := named g hf
      by_cases he : namedG g = 0
      · have hnext : (checks g)[1]? = some 0 := by rw [← he]; rfl
        rw [he] at hc
        repeat' (first
          | refine zW ?_
          | refine zB ?_ ?_ <;> intro h <;> try exact zk h
          | refine zX ?_
          | refine zC (hc) ?_
          | (exact ⟨2, ⟨by omega, all_succ hi2 hnext⟩, by omega, weak_of (by repeat' (first | exact trivial | refine ⟨rfl, ?_⟩))⟩)
          | fail)
      · repeat' (first
          | refine zW ?_
          | refine zB ?_ ?_ <;> intro h <;> try exact zk h
          | refine zX ?_
          | refine zC (hc) ?_
          | (show _ = _; rw [firstErr_at (i := 1) (show (checks g)[1]? = some (namedG g) from rfl) he hi2])
          | ((exfalso; (simp_all <;> fail)))
          | fail)
    · have hc := different g hf
      by_cases he : diffF g = 0
      · have hnext : (checks g)[2]? = some 0 := by rw [← he]; rfl
        rw [he] at hc
        repeat' (first
          | refine zW ?_
          | refine zB ?_ ?_ <;> intro h <;> try exact zk h
          | refine zX ?_
          | refine zC (hc) ?_
          | (exact ⟨3, ⟨by omega, all_succ hi2 hnext⟩, by omega, weak_of (by repeat' (first | exact trivial | refine ⟨rfl, ?_⟩))⟩)
          | fail)
      · repeat' (first
          | refine zW ?_
          | refine zB ?_ ?_ <;> intro h <;> try exact zk h
          | refine zX ?_
          | refine zC (hc) ?_
          | (show _ = _; rw [firstErr_at (i := 2) (show (checks g)[2]? = some (diffF g) from rfl) he hi2])
          | ((exfalso; (simp_all <;> fail)))
          | fail)
    · have hc := symbols g hf
      by_cases he : symsG g = 0
      · have hnext : (checks g)[3]? = some 0 := by rw [← he]; rfl
        rw [he] at hc
        repeat' (first
          | refine zW ?_
          | refine zB ?_ ?_ <;> intro h <;> try exact zk h
          | refine zX ?_
          | refine zC (hc) ?_
          | (exact ⟨4, ⟨by omega, all_succ hi2 hnext⟩, by omega, weak_of (by repeat' (first | exact trivial | refine ⟨rfl, ?_⟩))⟩)
          | fail)
      · repeat' (first
          | refine zW ?_
          | refine zB ?_ ?_ <;> intro h <;> try exact zk h
          | refine zX ?_
          | refine zC (hc) ?_
          | (show _ = _; rw [firstErr_at (i := 3) (show (checks g)[3]? = some (symsG g) from rfl) he hi2])
          | ((exfalso; (simp_all <;> fail)))
          | fail)
    · have hc := ordered g hf
      by_cases he : orderedG g = 0
      · have hnext : (checks g)[4]? = some 0 := by rw [← he]; rfl
        rw [he] at hc
        repeat' (first
          | refine zW ?_
          | refine zB ?_ ?_ <;> intro h <;> try exact zk h
          | refine zX ?_
          | refine zC (hc) ?_
          | (exact ⟨5, ⟨by omega, all_succ hi2 hnext⟩, by omega, weak_of (by repeat' (first | exact trivial | refine ⟨rfl, ?_⟩))⟩)
          | fail)
      · repeat' (first
          | refine zW ?_
          | refine zB ?_ ?_ <;> intro h <;> try exact zk h
          | refine zX ?_
          | refine zC (hc) ?_
          | (show _ = _; rw [firstErr_at (i := 4) (show (checks g)[4]? = some (orderedG g) from rfl) he hi2])
          | ((exfalso; (simp_all <;> fail)))
          | fail)
    · have hc := complete g hf
      by_cases he : completeF g = 0
      · have hnext : (checks g)[5]? = some 0 := by rw [← he]; rfl
        rw [he] at hc
        repeat' (first
          | refine zW ?_
          | refine zB ?_ ?_ <;> intro h <;> try exact zk h
          | refine zX ?_
          | refine zC (hc) ?_
          | (exact ⟨6, ⟨by omega, all_succ hi2 hnext⟩, by omega, weak_of (by repeat' (first | exact trivial | refine ⟨rfl, ?_⟩))⟩)
          | fail)
      · repeat' (first
          | refine zW ?_
          | refine zB ?_ ?_ <;> intro h <;> try exact zk h
          | refine zX ?_
          | refine zC (hc) ?_
          | (show _ = _; rw [firstErr_at (i := 5) (show (checks g)[5]? = some (completeF g) from rfl) he hi2])
          | ((exfalso; (simp_all <;> fail)))
          | fail)
    · repeat' (first
        | refine zW ?_
        | refine zB ?_ ?_ <;> intro h <;> try exact zk h
        | refine zX ?_
        | (show _ = _; rw [firstErr_none (l := checks g) hi2])
        | fail)
theorem named_zero {g : Gram} (h : namedF g = 0) : (∀ s ∈ smalls g, smallF s = true) ∧ ∀ s ∈ g.names, capitalF s = true := by
  unfold namedF at h
  split at h
  · omega
  · rename_i hn
    simp only [not_or, not_exists, not_and, Bool.not_eq_false] at hn
    exact hn
theorem small_capital {s : List Nat} (h1 : smallF s = true) (h2 : capitalF s = true) : False := by
  simp only [smallF, capitalF, Bool.and_eq_true, decide_eq_true_eq] at h1 h2
  omega
theorem allN_nodup {g : Gram} (h : namedF g = 0) : (allN g).Nodup ↔ (smalls g).Nodup ∧ g.names.Nodup := by
  obtain ⟨h1, h2⟩ := named_zero h
  rw [allN, List.nodup_append]
  refine ⟨fun h => ⟨h.1, h.2.1⟩, fun h => ⟨h.1, h.2, fun a ha b hb e => small_capital (h1 a ha) (e ▸ h2 b hb)⟩⟩
theorem checkG_eq (g : Gram) : checkG g = checkF g := by
  unfold checkG checkF
  split
  · rfl
  · simp only [checks, firstErr]
    by_cases h1 : manyF g = 0
    · simp only [h1, ne_eq, not_true_eq_false, if_false, if_true]
      by_cases h2 : g.tokens = [] ∨ g.names = []
      · have : namedG g = 5 := if_pos h2
        simp [this, h2]
      · have : namedG g = namedF g := if_neg h2
        simp only [this, if_neg h2]
        by_cases h3 : namedF g = 0
        · simp only [h3, if_true]
          by_cases h4 : (allN g).Nodup
          · have h5 := (allN_nodup h3).1 h4
            have h6 : diffF g = 0 := if_pos h4
            have h7 : namesF g = 0 := by unfold namesF; rw [if_neg (by simp [h5.1, h5.2]), h3]
            simp only [h6, h7, ne_eq, not_true_eq_false, if_false, if_true]
            unfold symsG orderedG completeF symbolsF
            by_cases a : symbolsOK g <;> by_cases b : orderBad g <;> by_cases c : missing g <;> simp [a, b, c]
          · have h6 : diffF g = 8 := if_neg h4
            have h7 : namesF g = 8 := by
              unfold namesF
              rw [if_pos]
              refine ⟨h3, ?_⟩
              by_cases h5 : (smalls g).Nodup
              · exact .inr fun h8 => h4 ((allN_nodup h3).2 ⟨h5, h8⟩)
              · exact .inl h5
            simp [h6, h7]
        · have h7 : namesF g = namedF g := by unfold namesF; rw [if_neg (by simp [h3])]
          simp [h3, h7]
    · simp [h1]
theorem grCheck (g : Gram) (hf : Fits g) : KnownCall Try.prog 36 [encG g] (.d (.int .i64 (checkF g))) := by rw [← checkG_eq]; exact checkGr g hf
theorem called (g : Gram) (s : Int) (x : List Nat) (hf : Fits g) (ht : g.tokens.length ≤ 8) (h : symName g s = some x) : KnownCall Try.prog 69 [encG g, .int .i64 s] (.d (.str x)) := by
  have hfn := hf.names
  by_cases hs : 16 ≤ s
  · rw [symName, if_pos hs] at h
    have hlt := (List.getElem?_eq_some_iff.1 h).1
    have hw : IntKind.i64.wrap (s - 16) = s - 16 := wrap64 (by omega) (by omega)
    have hx := h
    have hc := terminal g s
    rw [show isTerm g s = false from by simp [isTerm]; omega] at hc
    refine kF Try.func69 [2] fun w => ?_
    repeat' (first
      | refine zW ?_
      | refine zB ?_ ?_ <;> intro h <;> try exact zk h
      | refine zC (hc) ?_
      | refine zI w (.d (.ep [.str x])) (And.intro hx hw) ?_
      | rfl
      | fail)
  · rw [symName, if_neg hs] at h
    by_cases hs0 : 0 ≤ s
    · rw [if_pos hs0] at h
      have hlt := (List.getElem?_eq_some_iff.1 h).1
      have hx := h
      have hc := terminal g s
      rw [show isTerm g s = true from by simp [isTerm]; omega] at hc
      refine kF Try.func69 [2] fun w => ?_
      repeat' (first
        | refine zW ?_
        | refine zB ?_ ?_ <;> intro h <;> try exact zk h
        | refine zC (hc) ?_
        | refine zI w (.d (.ep [.str x])) hx ?_
        | rfl
        | fail)
    · rw [if_neg hs0] at h; cases h
section
set_option maxRecDepth 10000
end
def askNameF (g : Gram) (s : Int) : List Nat × Int := if checkF g ≠ 0 then ([], checkF g) else if goodS g s = true then (nameS g s, 0) else ([], 14)
theorem askName (g : Gram) (s : Int) (hf : Fits g) : KnownCall Try.prog 48 [encG g, .int .i64 s] (.tup [.d (.str (askNameF g s).1), .d (.int .i64 (askNameF g s).2)]) := by
  by_cases h0 : checkF g = 0
  · obtain ⟨hm, _⟩ := check_parts h0
    have ht := (many_zero hm).1
    cases hg : goodS g s with
    | true =>
      obtain ⟨x, hx⟩ := name_of_good ht hg
      have e : askNameF g s = (x, 0) := by simp [askNameF, h0, hg, nameS_of hx]
      rw [e]
      simp only [goodS, Bool.or_eq_true] at hg
      refine kF Try.func48 [2] fun w => ?_
      repeat' (first
        | refine zW ?_
        | refine zB ?_ ?_ <;> intro h <;> try exact zk h
        | refine zK (grCheck _ hf) ?_ ?_ <;> intro h <;> try exact zk h
        | refine zC (grCheck _ hf) ?_
        | refine zK (terminal _ _) ?_ ?_ <;> intro h <;> try exact zk h
        | refine zC (terminal _ _) ?_
        | refine zK (nonterminal _ _ hf) ?_ ?_ <;> intro h <;> try exact zk h
        | refine zC (nonterminal _ _ hf) ?_
        | refine zK (called _ s _ hf ht hx) ?_ ?_ <;> intro h <;> try exact zk h
        | refine zC (called _ s _ hf ht hx) ?_
        | rfl
        | (exfalso; (simp_all <;> fail))
        | fail)
    | false =>
      have e : askNameF g s = ([], 14) := by simp [askNameF, h0, hg]
      rw [e]
      simp only [goodS, Bool.or_eq_false_iff] at hg
      refine kF Try.func48 [2] fun w => ?_
      repeat' (first
        | refine zW ?_
        | refine zB ?_ ?_ <;> intro h <;> try exact zk h
        | refine zK (grCheck _ hf) ?_ ?_ <;> intro h <;> try exact zk h
        | refine zC (grCheck _ hf) ?_
        | refine zK (terminal _ _) ?_ ?_ <;> intro h <;> try exact zk h
        | refine zC (terminal _ _) ?_
        | refine zK (nonterminal _ _ hf) ?_ ?_ <;> intro h <;> try exact zk h
        | refine zC (nonterminal _ _ hf) ?_
        | rfl
        | (exfalso; (simp_all <;> fail))
        | fail)
  · have e : askNameF g s = ([], checkF g) := by simp [askNameF, h0]
    rw [e]
    refine kF Try.func48 [2] fun w => ?_
    repeat' (first
      | refine zW ?_
      | refine zB ?_ ?_ <;> intro h <;> try exact zk h
      | refine zK (grCheck _ hf) ?_ ?_ <;> intro h <;> try exact zk h
      | refine zC (grCheck _ hf) ?_
      | rfl
      | (exfalso; (simp_all <;> fail))
      | fail)
section
set_option maxRecDepth 10000
end
section
set_option maxRecDepth 10000
end
section
set_option maxRecDepth 10000
end
section
set_option maxRecDepth 10000
end
def rowN : List Int → DV
  | [] => .nilsl
  | a :: l => ints (a :: l)
def encN (p : GProd) : DV := .agg [.int .i64 p.left, rowN p.right]
theorem encN_to (l : List GProd) : DvN (.sl 2 (l.map encN)) (.sl 2 (l.map encP)) := by
  refine DvN.map (f := encN) (g := encP) (n := 2) (fun _ => rfl) (fun _ => rfl) l fun a _ i x y hx hy => ?_
  match i with
  | 0 => simp [encN, encP, cellsD] at hx hy; subst hx hy; exact .refl
  | 1 =>
    simp [encN, encP, cellsD] at hx hy; subst hx hy
    cases a.right with
    | nil => exact .nil
    | cons r l => exact .refl
  | i + 2 => simp [encN, cellsD] at hx
section
set_option maxRecDepth 10000
end
section
set_option maxRecDepth 10000
end
def kN (g : Gram) : Nat := g.k.toNat
def psN (g : Gram) : List (Nat × List Nat) := g.prods.map fun p => ((p.left - 16).toNat, p.right.map Int.toNat)
theorem good_nat {g : Gram} {s : Int} (ht : g.tokens.length ≤ 8) (h : goodS g s = true) : s = (s.toNat : Int) ∧ SymN g.names.length s.toNat := by
  unfold goodS isTerm isNonterm at h
  simp only [Bool.or_eq_true, Bool.and_eq_true, decide_eq_true_eq] at h
  unfold SymN
  omega
theorem ints_nat {l : List Int} (h : ∀ s ∈ l, s = (s.toNat : Int)) : ints l = .sl 1 ((l.map Int.toNat).map nI) := by
  simp only [ints, List.map_map]
  congr 1
  refine List.map_congr_left fun s hs => ?_
  have := h s hs
  show DV.int .i64 s = .int .i64 ((s.toNat : Nat) : Int)
  rw [← this]
structure ValN (g : Gram) : Prop where
  k : g.k = (kN g : Int)
  k1 : 1 ≤ kN g
  k4 : kN g ≤ 4
  n8 : g.names.length ≤ 8
  t8 : g.tokens.length ≤ 8
  ok : PrOK g.names.length (psN g)
  len : (psN g).length ≤ 24
  enc : g.prods.map encP = (psN g).map encQ
theorem valN {g : Gram} (h : checkF g = 0) : ValN g := by
  have hc := h
  obtain ⟨hm, h1, h2, h3, h4⟩ := check_parts h
  obtain ⟨ht, hn, hp, hr⟩ := many_zero hm
  have hk : 1 ≤ g.k ∧ g.k ≤ 4 := by
    unfold checkF at hc
    split at hc
    · cases hc
    · omega
  have hs : symbolsOK g := (symbols_zero h4).1
  have hg : ∀ p ∈ g.prods, 16 ≤ p.left ∧ p.left < 16 + g.names.length ∧ ∀ s ∈ p.right, s = (s.toNat : Int) ∧ SymN g.names.length s.toNat := fun p hp => by
    obtain ⟨h5, h6⟩ := hs.2 p hp
    unfold isNonterm at h5
    simp only [Bool.and_eq_true, decide_eq_true_eq] at h5
    exact ⟨h5.1, h5.2, fun s hs => good_nat ht (h6 s hs)⟩
  refine ⟨?_, ?_, ?_, hn, ht, ⟨fun p hp => ?_, fun p hp s hs => ?_, fun p hp => ?_⟩, by simp [psN]; exact hp, ?_⟩
  · unfold kN; omega
  · unfold kN; omega
  · unfold kN; omega
  · obtain ⟨q, hq, rfl⟩ := List.mem_map.1 hp
    have := hg q hq
    simp only; omega
  · obtain ⟨q, hq, rfl⟩ := List.mem_map.1 hp
    obtain ⟨t, ht, rfl⟩ := List.mem_map.1 hs
    exact ((hg q hq).2.2 t ht).2
  · obtain ⟨q, hq, rfl⟩ := List.mem_map.1 hp
    have := hr q hq
    simp only [List.length_map]; omega
  · unfold psN
    rw [List.map_map]
    refine List.map_congr_left fun p hp => ?_
    obtain ⟨h5, h6, h7⟩ := hg p hp
    simp only [encP, encQ, Function.comp]
    rw [ints_nat fun s hs => (h7 s hs).1]
    have : p.left = ((16 + (p.left - 16).toNat : Nat) : Int) := by omega
    exact congrArg (fun n => DV.agg [DV.int .i64 n, .sl 1 ((p.right.map Int.toNat).map nI)]) this
def setsG (g : Gram) : Sets := setsF (kN g) g.names.length (psN g)
abbrev grmF (g : Gram) : DV × DV × DV × DV × DV := (strs g.tokens, .str g.sep, strs g.names, .int .i64 g.start, .sl 2 (g.prods.map encP))
theorem setsK {g : Gram} (h : checkF g = 0) : ACall Try.prog 30 [.d (encG g)] [] (.agg (tbC (kN g) (grmF g) (.vs (2 + 3 * g.names.length) 1 0 g.names.length))) (objT .gone .gone (setsG g) g.names.length) := by
  have v := valN h
  have := setsA (kN g) v.k1 v.k4 (strs g.tokens) (.str g.sep) (.int .i64 g.start) (g.names.map .str) g.names.length (by simp) v.n8 (psN g) v.ok (by have := v.len; omega)
  rw [← v.enc, show nI (kN g) = DV.int .i64 g.k from congrArg (DV.int .i64) v.k.symm] at this
  exact this
def chkFs (g : Gram) (l : List Int) : Int := if checkF g ≠ 0 then checkF g else if 100 < l.length then 6 else if l.all (goodS g) = true then 0 else 14
theorem checkFst (g : Gram) (hf : Fits g) (l : List Int) (hl : l.length ≤ 1048576) : KnownCall Try.prog 29 [encG g, ints l] (.d (.int .i64 (chkFs g l))) := by
  have c := grCheck g hf
  have hll : (l.map (DV.int .i64)).length = l.length := by simp
  by_cases h0 : checkF g = 0
  · by_cases h1 : 100 < l.length
    · have e : chkFs g l = 6 := by simp [chkFs, h0, h1]
      rw [e]
      refine kF Try.func29 [2] fun w => ?_
      repeat' (first
        | refine zW ?_
        | refine zB ?_ ?_ <;> intro h <;> try exact zk h
        | refine zC (c) ?_
        | rfl
        | (exfalso; (simp_all <;> omega))
        | fail)
    · refine kF Try.func29 [2] fun w => ?_
      repeat' (first
        | refine zW ?_
        | refine zB ?_ ?_ <;> intro h <;> try exact zk h
        | refine zC (c) ?_
        | (exfalso; (simp_all <;> omega))
        | fail)
      refine Run.loopT (fun i : Nat => ⟨PT.ofList [(2, .d (.ep [.int .i64 g.k, strs g.tokens, .str g.sep, strs g.names, .int .i64 g.start, .sl 2 (g.prods.map encP)])), (22, .d (ints l)), (23, .d (nI (l.map (DV.int .i64)).length)), (24, .d (nI i))], [], []⟩) (fun i => i ≤ l.length ∧ ∀ s ∈ l.take i, goodS g s = true) (fun i => l.length - i) 0 ⟨Nat.zero_le _, by simp⟩ (ti _ 0) (fun i hi => ?_)
      obtain ⟨hi1, hi2⟩ := hi
      rcases Nat.lt_or_ge i l.length with hlt | hge
      · obtain ⟨s, hs⟩ := get_ok hlt
        have ca := askName g s hf
        repeat refine zS ?_
        refine zV (lt_true (show i < (l.map (DV.int .i64)).length by omega)) ?_
        repeat refine zS ?_
        refine zI w (.d (.ep [.int .i64 s])) hs ?_
        iterate 2 refine zX ?_
        repeat refine zS ?_
        cases hg : goodS g s with
        | true =>
          rw [show askNameF g s = (nameS g s, 0) by simp [askNameF, h0, hg]] at ca
          repeat' (first
            | refine zW ?_
            | refine zB ?_ ?_ <;> intro h <;> try exact zk h
            | refine zC (ca) ?_
            | (fail)
            | fail)
          exact ⟨i + 1, ⟨hlt, fun t ht => by
            rw [List.take_add_one, hs] at ht
            rcases List.mem_append.1 ht with h | h
            · exact hi2 t h
            · simp at h; subst h; exact hg⟩, by omega, ti _ 0⟩
        | false =>
          rw [show askNameF g s = ([], 14) by simp [askNameF, h0, hg]] at ca
          have e : chkFs g l = 14 := by
            unfold chkFs
            rw [if_neg (by simp [h0]), if_neg h1, if_neg]
            rw [List.all_eq_true]
            exact fun h => by rw [h s (List.mem_of_getElem? hs)] at hg; cases hg
          rw [e]
          repeat' (first
            | refine zW ?_
            | refine zB ?_ ?_ <;> intro h <;> try exact zk h
            | refine zC (ca) ?_
            | rfl
            | (fail)
            | fail)
      · have hie : i = l.length := by omega
        subst hie
        rw [List.take_length] at hi2
        have e : chkFs g l = 0 := by
          unfold chkFs
          rw [if_neg (by simp [h0]), if_neg h1, if_pos (List.all_eq_true.2 hi2)]
        rw [e]
        repeat refine zS ?_
        refine zV (lt_false (show (l.map (DV.int .i64)).length ≤ l.length by omega)) ?_
        repeat' (first
          | refine zW ?_
          | refine zB ?_ ?_ <;> intro h <;> try exact zk h
          | rfl
          | (fail)
          | fail)
  · have e : chkFs g l = checkF g := by simp [chkFs, h0]
    rw [e]
    refine kF Try.func29 [2] fun w => ?_
    repeat' (first
      | refine zW ?_
      | refine zB ?_ ?_ <;> intro h <;> try exact zk h
      | refine zC (c) ?_
      | rfl
      | (exfalso; (simp_all <;> omega))
      | fail)
def cM : Nat := 9223372036854775807
def sumC (a b : Nat) : Nat := if a = cM ∨ b = cM ∨ cM - b < a then cM else a + b
theorem sumC_le {a b : Nat} (hb : b ≤ cM) : sumC a b ≤ cM := by unfold sumC; split <;> omega
theorem sumK (a b : Nat) (ha : a ≤ cM) (hb : b ≤ cM) : KnownCall Try.prog 102 [nI a, nI b] (.d (nI (sumC a b))) := by
  unfold cM at ha hb
  have hs : AV.d (.int .i64 (IntKind.i64.wrap (9223372036854775807 - ((b : Nat) : Int)))) = .d (nI (9223372036854775807 - b)) := by
    congr 2
    rw [show (9223372036854775807 : Int) - ((b : Nat) : Int) = ((9223372036854775807 - b : Nat) : Int) by omega]
    exact wrap64 (by omega) (by omega)
  by_cases h1 : a = 9223372036854775807
  · have e : sumC a b = cM := by unfold sumC cM; rw [if_pos (.inl h1)]
    rw [e]
    refine kF Try.func102 [] fun w => ?_
    repeat' (first
      | refine zW ?_
      | refine zB ?_ ?_ <;> intro h <;> try exact zk h
      | rfl
      | ((exfalso; simp at h; omega))
      | fail)
  · by_cases h2 : b = 9223372036854775807
    · have e : sumC a b = cM := by unfold sumC cM; rw [if_pos (.inr (.inl h2))]
      rw [e]
      refine kF Try.func102 [] fun w => ?_
      repeat' (first
        | refine zW ?_
        | refine zB ?_ ?_ <;> intro h <;> try exact zk h
        | rfl
        | ((exfalso; simp at h; omega))
        | fail)
    · by_cases h3 : 9223372036854775807 - b < a
      · have e : sumC a b = cM := by unfold sumC cM; rw [if_pos (.inr (.inr h3))]
        rw [e]
        refine kF Try.func102 [] fun w => ?_
        repeat' (first
          | refine zV hs ?_
          | refine zW ?_
          | refine zB ?_ ?_ <;> intro h <;> try exact zk h
          | rfl
          | ((exfalso; simp at h; omega))
          | fail)
      · have e : sumC a b = a + b := by unfold sumC cM; rw [if_neg (by omega)]
        have hp : AV.d (.int .i64 (IntKind.i64.wrap (((a : Nat) : Int) + ((b : Nat) : Int)))) = .d (nI (a + b)) := by
          congr 2
          rw [show ((a : Nat) : Int) + ((b : Nat) : Int) = ((a + b : Nat) : Int) by omega]
          exact wrap64 (by omega) (by omega)
        rw [e]
        refine kF Try.func102 [] fun w => ?_
        repeat' (first
          | refine zV hp ?_
          | refine zV hs ?_
          | refine zW ?_
          | refine zB ?_ ?_ <;> intro h <;> try exact zk h
          | rfl
          | ((exfalso; simp at h; omega))
          | fail)
def vecF (T : Nat) (n : Nat) (x z : DV) (i : Nat) : Ob := .vec T false 1 n (List.replicate i (.d x) ++ List.replicate (n - i) (.d z))
theorem repL {n : Nat} {z : DV} : repeatL n ([z].map AV.d) = List.replicate n (.d z) := by
  induction n with
  | zero => rfl
  | succ n ih => rw [List.replicate_succ, ← ih]; rfl
theorem vecF_0 (T n : Nat) (x z : DV) : Ob.vec T false 1 n (List.replicate n (.d z)) = vecF T n x z 0 := by simp [vecF]
theorem vecF_n (T n : Nat) (x z : DV) : vecF T n x z n = Ob.vec T false 1 n (List.replicate n (.d x)) := by simp [vecF]
theorem vecF_s {T n : Nat} {x z : DV} {i : Nat} (h : i < n) : Ob.vec T false 1 n ((List.replicate i (AV.d x) ++ List.replicate (n - i) (AV.d z)).take i ++ [AV.d x] ++ (List.replicate i (AV.d x) ++ List.replicate (n - i) (AV.d z)).drop (i + 1)) = vecF T n x z (i + 1) := by
  unfold vecF
  congr 1
  rw [List.take_left' (by simp), List.drop_append, List.drop_of_length_le (by simp), List.length_replicate, List.drop_replicate, List.replicate_succ']
  simp
  omega
theorem filledI (n : Nat) (hn : n ≤ 1000) (x : DV) (hx : knownA (.d x) = true) (hc : AV.cells (.d x) = [.d x]) : ACall Try.prog 100 [.d (nI n), .d x] [] (.vs 0 1 0 n) [.vec 2 false 1 n (List.replicate n (.d x))] := by
  have w : Fz [] := trivial
  refine acallG_of_run Et_ok (fnB Try.func100 []) rfl rfl (by simp) ?_ (by simp [refA]) ?_
  · simp [refOb, List.all_eq_true, refA]
  have w : Fz [] := trivial
  repeat refine zS ?_
  refine zX ?_
  repeat refine zS ?_
  refine zX ?_
  refine oV (v := .vs 0 1 0 n) (objs' := [vecF 2 n x (nI 0) 0]) ?_ (hf := by simp [Nat.ble_eq, ty2]; omega) (he := by simp [ty2]) (ho := by rw [← vecF_0]; simp only [Option.getD, Int.toNat_natCast, List.nil_append]; exact congrArg (fun z => [Ob.vec 2 false 1 n z]) repL)
  refine zX ?_
  repeat refine zS ?_
  iterate 3 refine zX ?_
  repeat refine zS ?_
  refine Run.loopT (fun i : Nat => ⟨PT.ofList [(1, .d x), (5, .vs 0 1 0 n), (10, .d (nI n)), (11, .d (nI i))], [vecF 2 n x (nI 0) i], []⟩) (fun i => i ≤ n) (fun i => n - i) 0 (Nat.zero_le _) ?_ (fun i hi => ?_)
  · exact tidy_of _ 1 rfl rfl ⟨.inl rfl, .inl rfl, .inl rfl, .inl rfl, trivial⟩ ⟨rfl, rfl, rfl, rfl, trivial⟩ (by simp [vecF, refOb, List.all_eq_true, refA]) rfl
  · rcases Nat.lt_or_ge i n with hin | hin
    · repeat refine zS ?_
      refine zV (lt_true (show i < n by omega)) ?_
      repeat refine zS ?_
      iterate 2 refine zX ?_
      repeat refine zS ?_
      iterate 3 refine zX ?_
      refine zCut (show AV.bp 0 (0 + ((i : Nat) : Int).toNat * 1) = .bp 0 i by simp) ?_
      refine oV (v := .d .any) (objs' := [vecF 2 n x (nI 0) (i + 1)]) ?_ (hv := evAny_storeV (c := .d x) rfl rfl rfl rfl rfl hx hc rfl (by simp; omega)) (ho := by rw [← vecF_s hin]; rfl)
      repeat refine zS ?_
      iterate 2 refine zX ?_
      refine RunOps.nil ?_
      refine ⟨i + 1, hin, by omega, ?_⟩
      exact tidy_of _ 1 rfl rfl ⟨.inl rfl, .inl rfl, .inl rfl, .inl (inc_get rfl (by omega)), trivial⟩ ⟨rfl, rfl, rfl, rfl, trivial⟩ (by simp [vecF, refOb, List.all_eq_true, refA]) rfl
    · have hie : i = n := by omega
      subst hie
      repeat refine zS ?_
      refine zV (lt_false (show i ≤ i by omega)) ?_
      repeat refine zS ?_
      iterate 2 refine zX ?_
      repeat refine zS ?_
      refine Run.ret ?_
      refine ⟨trivial, _, _, rfl, rfl, .refl, ?_⟩
      rw [vecF_n]
      exact wk_refl _
theorem filledB (n : Nat) (hn : n ≤ 1000) (x : DV) (hx : knownA (.d x) = true) (hc : AV.cells (.d x) = [.d x]) : ACall Try.prog 99 [.d (nI n), .d x] [] (.vs 0 1 0 n) [.vec 4 false 1 n (List.replicate n (.d x))] := by
  have w : Fz [] := trivial
  refine acallG_of_run Et_ok (fnB Try.func99 []) rfl rfl (by simp) ?_ (by simp [refA]) ?_
  · simp [refOb, List.all_eq_true, refA]
  have w : Fz [] := trivial
  repeat refine zS ?_
  refine zX ?_
  repeat refine zS ?_
  refine zX ?_
  refine oV (v := .vs 0 1 0 n) (objs' := [vecF 4 n x (.bool false) 0]) ?_ (hf := by simp [Nat.ble_eq, ty4]; omega) (he := by simp [ty4]) (ho := by rw [← vecF_0]; simp only [Option.getD, Int.toNat_natCast, List.nil_append]; exact congrArg (fun z => [Ob.vec 4 false 1 n z]) repL)
  refine zX ?_
  repeat refine zS ?_
  iterate 3 refine zX ?_
  repeat refine zS ?_
  refine Run.loopT (fun i : Nat => ⟨PT.ofList [(1, .d x), (5, .vs 0 1 0 n), (10, .d (nI n)), (11, .d (nI i))], [vecF 4 n x (.bool false) i], []⟩) (fun i => i ≤ n) (fun i => n - i) 0 (Nat.zero_le _) ?_ (fun i hi => ?_)
  · exact tidy_of _ 1 rfl rfl ⟨.inl rfl, .inl rfl, .inl rfl, .inl rfl, trivial⟩ ⟨rfl, rfl, rfl, rfl, trivial⟩ (by simp [vecF, refOb, List.all_eq_true, refA]) rfl
  · rcases Nat.lt_or_ge i n with hin | hin
    · repeat refine zS ?_
      refine zV (lt_true (show i < n by omega)) ?_
      repeat refine zS ?_
      iterate 2 refine zX ?_
      repeat refine zS ?_
      iterate 3 refine zX ?_
      refine zCut (show AV.bp 0 (0 + ((i : Nat) : Int).toNat * 1) = .bp 0 i by simp) ?_
      refine oV (v := .d .any) (objs' := [vecF 4 n x (.bool false) (i + 1)]) ?_ (hv := evAny_storeV (c := .d x) rfl rfl rfl rfl rfl hx hc rfl (by simp; omega)) (ho := by rw [← vecF_s hin]; rfl)
      repeat refine zS ?_
      iterate 2 refine zX ?_
      refine RunOps.nil ?_
      refine ⟨i + 1, hin, by omega, ?_⟩
      exact tidy_of _ 1 rfl rfl ⟨.inl rfl, .inl rfl, .inl rfl, .inl (inc_get rfl (by omega)), trivial⟩ ⟨rfl, rfl, rfl, rfl, trivial⟩ (by simp [vecF, refOb, List.all_eq_true, refA]) rfl
    · have hie : i = n := by omega
      subst hie
      repeat refine zS ?_
      refine zV (lt_false (show i ≤ i by omega)) ?_
      repeat refine zS ?_
      iterate 2 refine zX ?_
      repeat refine zS ?_
      refine Run.ret ?_
      refine ⟨trivial, _, _, rfl, rfl, .refl, ?_⟩
      rw [vecF_n]
      exact wk_refl _
def costP (it te : Nat) (cs : List Nat) (r : List Nat) : Nat := r.foldl (fun c s => sumC c (if s < 16 then te else cs.getD (s - 16) 0)) it
theorem costP_succ {it te : Nat} {cs r : List Nat} {i s : Nat} (h : r[i]? = some s) : costP it te cs (r.take (i + 1)) = sumC (costP it te cs (r.take i)) (if s < 16 then te else cs.getD (s - 16) 0) := by
  unfold costP
  rw [List.take_add_one, h, List.foldl_append]; rfl
theorem costP_le {it te : Nat} {cs : List Nat} (hi : it ≤ cM) (ht : te ≤ cM) (hc : ∀ c ∈ cs, c ≤ cM) : ∀ {r : List Nat}, costP it te cs r ≤ cM := by
  intro r
  unfold costP
  induction r generalizing it with
  | nil => exact hi
  | cons s r ih =>
    refine ih (sumC_le ?_)
    split
    · exact ht
    · rw [List.getD_eq_getElem?_getD]
      cases e : cs[s - 16]? with
      | none => exact Nat.zero_le _
      | some c => exact hc c (List.mem_of_getElem? e)
def vecC (cs : List Nat) : Ob := .vec 2 false 1 cs.length (cs.map fun c => AV.d (nI c))
def obC (cs : List Nat) : List Ob := [vecC cs, .box [.vs 0 1 0 cs.length]]
set_option maxHeartbeats 1000000 in
theorem costA (it te : Nat) (hit : it ≤ cM) (hte : te ≤ cM) (cs : List Nat) (hcs : cs.length ≤ 8) (hle : ∀ c ∈ cs, c ≤ cM) (x : DV) (r : List Nat) (hr : ∀ s ∈ r, SymN cs.length s) (hl : r.length ≤ 1000) :
    ACall Try.prog 101 [.d (.agg [x, .sl 1 (r.map nI)]), .d (.ep [nI it]), .d (.ep [nI te]), .bp 1 0] (obC cs) (.d (nI (costP it te cs r))) (obC cs) := by
  have w : Fz [4] := trivial
  have hrl : (r.map nI).length = r.length := by simp
  refine acallG_of_run Et_ok (fnB Try.func101 [4]) rfl rfl (by simp [obC]) ?_ rfl ?_
  · simp [obC, vecC, refOb, List.all_eq_true, refA]
  have w : Fz [4] := trivial
  repeat refine zS ?_
  iterate 2 refine zX ?_
  repeat refine zS ?_
  iterate 2 refine zX ?_
  repeat refine zS ?_
  iterate 4 refine zX ?_
  repeat refine zS ?_
  refine Run.loopT (fun i : Nat => ⟨PT.ofList [(1, .d (.ep [nI it])), (2, .d (.ep [nI te])), (3, .bp 1 0), (6, .d (nI (costP it te cs (r.take i)))), (11, .d (.sl 1 (r.map nI))), (12, .d (nI (r.map nI).length)), (13, .d (nI i))], obC cs, []⟩) (fun i => i ≤ r.length) (fun i => r.length - i) 0 (Nat.zero_le _) ?_ (fun i hi => ?_)
  · exact tidy_of _ 2 rfl rfl ⟨.inl rfl, .inl rfl, .inl rfl, .inl rfl, .inl rfl, .inl rfl, .inl rfl, trivial⟩ ⟨rfl, rfl, rfl, rfl, rfl, rfl, rfl, trivial⟩ (by simp [obC, vecC, refOb, List.all_eq_true, refA]) rfl
  · have hcl := costP_le (te := te) (cs := cs) hit hte hle (r := r.take i)
    rcases Nat.lt_or_ge i r.length with hil | hig
    · obtain ⟨s, hs⟩ := get_ok hil
      have hsy := hr s (List.mem_of_getElem? hs)
      have hce := costP_succ (it := it) (te := te) (cs := cs) hs
      obtain ⟨c2, hc2⟩ : ∃ c2, c2 = costP it te cs (r.take (i + 1)) := ⟨_, rfl⟩
      rw [← hc2] at hce
      have tdy : ∀ tm : PT AV, tm.get? 1 = some (.d (.ep [nI it])) → tm.get? 2 = some (.d (.ep [nI te])) → tm.get? 3 = some (.bp 1 0) → tm.get? 6 = some (.d (nI c2)) → tm.get? 11 = some (.d (.sl 1 (r.map nI))) → tm.get? 12 = some (.d (nI (r.map nI).length)) → tm.get? 13 = some (.d (.int .i64 (IntKind.i64.wrap (((i : Nat) : Int) + 1)))) → Tidy 2 ⟨tm, obC cs, []⟩ ⟨PT.ofList [(1, .d (.ep [nI it])), (2, .d (.ep [nI te])), (3, .bp 1 0), (6, .d (nI (costP it te cs (r.take (i + 1))))), (11, .d (.sl 1 (r.map nI))), (12, .d (nI (r.map nI).length)), (13, .d (nI (i + 1)))], obC cs, []⟩ := fun tm h1 h2 h3 h4 h5 h6 h7 => by
        rw [← hc2]
        exact tidy_of _ 2 rfl rfl ⟨.inl h1, .inl h2, .inl h3, .inl h4, .inl h5, .inl h6, .inl (inc_get h7 (by omega)), trivial⟩ ⟨rfl, rfl, rfl, rfl, rfl, rfl, rfl, trivial⟩ (by simp [obC, vecC, refOb, List.all_eq_true, refA]) rfl
      repeat refine zS ?_
      refine zV (lt_true (show i < (r.map nI).length by omega)) ?_
      repeat refine zS ?_
      refine zI w (.d (.ep [nI s])) hs ?_
      iterate 2 refine zX ?_
      repeat refine zS ?_
      refine zX ?_
      by_cases h16 : s < 16
      · rw [if_pos h16] at hce
        have hk := sumK (costP it te cs (r.take i)) te hcl hte
        rw [← hce] at hk
        refine zV (lt_true h16) ?_
        repeat refine zS ?_
        iterate 2 refine zX ?_
        refine oC hk ?_
        refine zX ?_
        repeat refine zS ?_
        iterate 2 refine zX ?_
        refine RunOps.nil ?_
        exact ⟨i + 1, hil, by omega, tdy _ rfl rfl rfl rfl rfl rfl rfl⟩
      · rw [if_neg h16] at hce
        have ha : s - 16 < cs.length := by rcases hsy with h | ⟨_, h⟩ <;> omega
        obtain ⟨c, hc⟩ := get_ok ha
        rw [List.getD_eq_getElem?_getD, hc, Option.getD_some] at hce
        have hk := sumK (costP it te cs (r.take i)) c hcl (hle c (List.mem_of_getElem? hc))
        rw [← hce] at hk
        refine zV (lt_false (show 16 ≤ s by omega)) ?_
        repeat refine zS ?_
        iterate 3 refine zX ?_
        refine zV (show AV.d (.int .i64 (IntKind.i64.wrap (((s : Nat) : Int) - 16))) = .d (nI (s - 16)) by congr 2; rw [show ((s : Nat) : Int) - 16 = ((s - 16 : Nat) : Int) by omega]; exact wrap_nat (by omega)) ?_
        refine zCut (show AV.bp 0 (0 + ((s - 16 : Nat) : Int).toNat * 1) = .bp 0 (s - 16) by rw [Int.toNat_natCast, Nat.zero_add, Nat.mul_one]) ?_
        refine oV (v := .d (nI c)) ?_ (hv := evAny_loadV (c := .d (nI c)) rfl rfl rfl rfl rfl (by simp [hc]))
        refine oC hk ?_
        refine zX ?_
        repeat refine zS ?_
        iterate 2 refine zX ?_
        refine RunOps.nil ?_
        exact ⟨i + 1, hil, by omega, tdy _ rfl rfl rfl rfl rfl rfl rfl⟩
    · have hie : i = r.length := by omega
      subst hie
      rw [List.take_length]
      repeat refine zS ?_
      refine zV (lt_false (show (r.map nI).length ≤ r.length by omega)) ?_
      repeat refine zS ?_
      iterate 2 refine zX ?_
      repeat refine zS ?_
      refine Run.ret ?_
      exact ⟨trivial, _, _, rfl, rfl, .refl, wk_refl _⟩
def stepC (it te : Nat) (ps : List (Nat × List Nat)) (cs : List Nat) : Option (List Nat) :=
  match ps.find? fun p => decide (costP it te cs p.2 < cs.getD p.1 0) with
  | none => none
  | some p => some (cs.set p.1 (costP it te cs p.2))
def costsF (it te : Nat) (ps : List (Nat × List Nat)) : Nat → List Nat → List Nat
  | 0, cs => cs
  | f + 1, cs => match stepC it te ps cs with
    | none => cs
    | some cs' => costsF it te ps f cs'
theorem set_sum : ∀ {l : List Nat} {i a : Nat}, i < l.length → (l.set i a).sum + l.getD i 0 = l.sum + a
  | [], i, a, h => by simp at h
  | x :: l, 0, a, _ => by simp; omega
  | x :: l, i + 1, a, h => by
    have := set_sum (l := l) (i := i) (a := a) (by simpa using h)
    simp only [List.set_cons_succ, List.sum_cons, List.getD_cons_succ]; omega
structure CsOK (n : Nat) (cs : List Nat) : Prop where
  len : cs.length = n
  le : ∀ c ∈ cs, c ≤ cM
theorem step_ok {it te n : Nat} (hi : it ≤ cM) (ht : te ≤ cM) {ps : List (Nat × List Nat)} {cs cs' : List Nat} (h : CsOK n cs) (hs : stepC it te ps cs = some cs') : CsOK n cs' ∧ cs'.sum < cs.sum ∧ ∃ p ∈ ps, cs' = cs.set p.1 (costP it te cs p.2) ∧ costP it te cs p.2 < cs.getD p.1 0 := by
  unfold stepC at hs
  split at hs
  · cases hs
  · rename_i p hp
    have h1 := List.find?_some hp
    simp only [decide_eq_true_eq] at h1
    cases hs
    have h2 : p.1 < cs.length := by
      rcases Nat.lt_or_ge p.1 cs.length with h2 | h2
      · exact h2
      · rw [List.getD_eq_getElem?_getD, List.getElem?_eq_none h2, Option.getD_none] at h1; omega
    have h3 := set_sum (a := costP it te cs p.2) h2
    refine ⟨⟨by rw [List.length_set]; exact h.len, fun c hc => ?_⟩, by omega, p, List.mem_of_find?_eq_some hp, rfl, h1⟩
    rcases List.mem_or_eq_of_mem_set hc with h4 | rfl
    · exact h.le c h4
    · exact costP_le hi ht h.le
theorem costs_fuel {it te n : Nat} (hi : it ≤ cM) (ht : te ≤ cM) {ps : List (Nat × List Nat)} : ∀ (f f' : Nat) {cs : List Nat}, CsOK n cs → cs.sum < f → cs.sum < f' → costsF it te ps f cs = costsF it te ps f' cs
  | 0, _, _, _, h, _ => absurd h (Nat.not_lt_zero _)
  | _ + 1, 0, _, _, _, h => absurd h (Nat.not_lt_zero _)
  | f + 1, f' + 1, cs, hc, h1, h2 => by
    simp only [costsF]
    cases hs : stepC it te ps cs with
    | none => rfl
    | some cs' =>
      obtain ⟨g1, g2, _⟩ := step_ok hi ht hc hs
      exact costs_fuel hi ht f f' g1 (by omega) (by omega)
theorem costs_ind {it te n : Nat} (hi : it ≤ cM) (ht : te ≤ cM) {ps : List (Nat × List Nat)} (Q : List Nat → Prop) (hq : ∀ cs cs', CsOK n cs → Q cs → stepC it te ps cs = some cs' → Q cs') : ∀ (f : Nat) {cs : List Nat}, CsOK n cs → cs.sum < f → Q cs → CsOK n (costsF it te ps f cs) ∧ Q (costsF it te ps f cs) ∧ stepC it te ps (costsF it te ps f cs) = none
  | 0, _, _, h, _ => absurd h (Nat.not_lt_zero _)
  | f + 1, cs, hc, h, h0 => by
    simp only [costsF]
    cases hs : stepC it te ps cs with
    | none => exact ⟨hc, h0, hs⟩
    | some cs' =>
      obtain ⟨g1, g2, _⟩ := step_ok hi ht hc hs
      exact costs_ind hi ht Q hq f g1 (by omega) (hq cs cs' hc h0 hs)
def costsN (it te n : Nat) (ps : List (Nat × List Nat)) : List Nat := costsF it te ps ((List.replicate n cM).sum + 1) (List.replicate n cM)
theorem cs0 (n : Nat) : CsOK n (List.replicate n cM) := ⟨by simp, fun c hc => by rw [List.eq_of_mem_replicate hc]; exact Nat.le_refl _⟩
theorem obC_refs (cs : List Nat) (m : Nat) (h : 2 ≤ m) : (obC cs).all (refOb m) = true := by
  simp only [obC, vecC, List.all_cons, List.all_nil, refOb, Bool.and_true, Bool.and_eq_true, List.all_eq_true]
  exact ⟨fun x hx => by obtain ⟨c, _, rfl⟩ := List.mem_map.1 hx; rfl, by simp [refA, Nat.blt_eq]; omega⟩
theorem vecC_rep (n : Nat) : Ob.vec 2 false 1 n (List.replicate n (AV.d (nI cM))) = vecC (List.replicate n cM) := by simp [vecC]
theorem vecC_set {cs : List Nat} {a c : Nat} (h : a < cs.length) : Ob.vec 2 false 1 cs.length ((cs.map fun c => AV.d (nI c)).take a ++ [AV.d (nI c)] ++ (cs.map fun c => AV.d (nI c)).drop (a + 1)) = vecC (cs.set a c) := by
  unfold vecC
  rw [List.length_set, List.set_eq_take_append_cons_drop, if_pos h]
  simp
theorem obC_set {cs : List Nat} {a c : Nat} (h : a < cs.length) : obC (cs.set a c) = [Ob.vec 2 false 1 cs.length ((cs.map fun c => AV.d (nI c)).take a ++ [AV.d (nI c)] ++ (cs.map fun c => AV.d (nI c)).drop (a + 1)), .box [.vs 0 1 0 cs.length]] := by
  rw [vecC_set h, obC, List.length_set]
abbrev fnC (it te : Nat) : AV := .fn (.func 101) [] [.d (.ep [nI it]), .d (.ep [nI te]), .bp 1 0]
abbrev gC (k ga gb gc gd : DV) (ps : List (Nat × List Nat)) : AV := .d (.ep [k, ga, gb, gc, gd, .sl 2 (ps.map encQ)])
theorem fnd_some {ps : List (Nat × List Nat)} {f : Nat × List Nat → Bool} {j : Nat} {p : Nat × List Nat} (h : (ps.take j).find? f = none) (hp : ps[j]? = some p) (hf : f p = true) : ps.find? f = some p := by
  have e : ps = ps.take j ++ p :: ps.drop (j + 1) := by
    obtain ⟨h1, h2⟩ := List.getElem?_eq_some_iff.1 hp
    rw [← h2, ← List.drop_eq_getElem_cons h1, List.take_append_drop]
  rw [e, List.find?_append, h]
  simp [hf]
theorem fnd_none {ps : List (Nat × List Nat)} {f : Nat × List Nat → Bool} {j : Nat} {p : Nat × List Nat} (h : (ps.take j).find? f = none) (hp : ps[j]? = some p) (hf : f p = false) : (ps.take (j + 1)).find? f = none := by
  rw [List.take_add_one, hp, List.find?_append, h]
  simp [hf]
section
variable {E : PT Ty} {rd : Operand → AV} {objs : List Ob} {t : TypeId} {x : Operand} {y : Ty} {i off sz n : Nat} {T : TypeId} {ag : Bool} {cs : List AV} {c : AV}
theorem evOp_loadV (h1 : E.get? t = some y) (ha : isAggT y.desc = false) (hx : rd x = .bp i off) (hi : objs[i]? = some (.vec T ag sz n cs)) (hc : cs[off]? = some c) : evOp E rd objs (.load t x) = some (c, objs, true) := by
  cases cs with
  | nil => simp at hc
  | cons a l => simp only [evOp, loadR, h1, hx, hi, obCells, ha, hc, pureR, if_true]
end
set_option maxHeartbeats 4000000 in
theorem costsA (it te : Nat) (hit : it ≤ cM) (hte : te ≤ cM) (k ga gb gd : DV) (nms : List DV) (n : Nat) (hnl : nms.length = n) (hn : n ≤ 8) (ps : List (Nat × List Nat)) (hps : PrOK n ps) (hpl : ps.length ≤ 1000) :
    ACall Try.prog 82 [.d (.agg [k, ga, gb, .sl 1 nms, gd, .sl 2 (ps.map encQ)]), .d (nI it), .d (nI te)] [] (.vs 0 1 0 n) (obC (costsN it te n ps)) := by
  have w : Fz [3, 4, 5] := trivial
  have hend := costs_ind hit hte (ps := ps) (n := n) (te := te) (fun _ => True) (fun _ _ _ _ _ => trivial) ((List.replicate n cM).sum + 1) (cs0 n) (Nat.lt_succ_self _) trivial
  have hpm : (ps.map encQ).length = ps.length := by simp
  refine acallG_of_run Et_ok (fnB Try.func82 [3, 4, 5]) rfl rfl (by simp) ?_ (by simp [refA, obC]) ?_
  · exact obC_refs _ _ (Nat.le_refl _)
  have w : Fz [3, 4, 5] := trivial
  have hf := filledI n (by omega) (nI cM) rfl rfl
  repeat refine zS ?_
  iterate 4 refine zX ?_
  repeat refine zS ?_
  refine Run.scope ?_
  repeat refine zS ?_
  iterate 3 refine zX ?_
  subst hnl
  refine oA hf ?_
  rw [vecC_rep]
  iterate 2 refine zX ?_
  repeat refine zS ?_
  iterate 2 refine zX ?_
  repeat refine zS ?_
  refine Run.label ?_
  repeat refine zS ?_
  refine Run.loopT (fun cs : List Nat => ⟨PT.ofList [(3, gC k ga gb (.sl 1 nms) gd ps), (7, .bp 1 0), (8, fnC it te)], obC cs, []⟩) (fun cs => CsOK nms.length cs ∧ costsF it te ps (cs.sum + 1) cs = costsN it te nms.length ps) (fun cs => cs.sum) (List.replicate nms.length cM) ⟨cs0 _, rfl⟩ ?_ (fun cs hcs => ?_)
  · refine tidy_of _ 2 ?_ rfl ⟨.inl rfl, .inl rfl, .inl rfl, trivial⟩ ⟨rfl, rfl, rfl, trivial⟩ (obC_refs _ _ (Nat.le_refl _)) rfl
    have e : obC (List.replicate nms.length cM) = [vecC (List.replicate nms.length cM), .box [.vs 0 1 0 nms.length]] := by simp [obC]
    rw [e]; rfl
  · obtain ⟨hc, he⟩ := hcs
    have hcl := hc.len
    repeat refine zS ?_
    iterate 4 refine zX ?_
    repeat refine zS ?_
    refine Run.loopT (fun j : Nat => ⟨PT.ofList [(3, gC k ga gb (.sl 1 nms) gd ps), (7, .bp 1 0), (8, fnC it te), (18, .d (.sl 2 (ps.map encQ))), (19, .d (nI (ps.map encQ).length)), (20, .d (nI j))], obC cs, []⟩) (fun j => j ≤ ps.length ∧ (ps.take j).find? (fun p => decide (costP it te cs p.2 < cs.getD p.1 0)) = none) (fun j => ps.length - j) 0 ⟨Nat.zero_le _, by simp⟩ ?_ (fun j hj => ?_)
    · exact tidy_of _ 2 rfl rfl ⟨.inl rfl, .inl rfl, .inl rfl, .inl rfl, .inl rfl, .inl rfl, trivial⟩ ⟨rfl, rfl, rfl, rfl, rfl, rfl, trivial⟩ (obC_refs _ _ (Nat.le_refl _)) rfl
    · obtain ⟨hj1, hj2⟩ := hj
      rcases Nat.lt_or_ge j ps.length with hjl | hjg
      · obtain ⟨p, hp⟩ := get_ok hjl
        have hpmem := List.mem_of_getElem? hp
        have hlt := hps.lt p hpmem
        have hpe : (ps.map encQ)[j]? = some (encQ p) := by rw [List.getElem?_map, hp]; rfl
        have hcA := costA it te hit hte cs (by omega) hc.le (nI (16 + p.1)) p.2 (by rw [hcl]; exact hps.sy p hpmem) (hps.len p hpmem)
        obtain ⟨c, hcg⟩ := get_ok (show p.1 < cs.length by omega)
        have hcd : cs.getD p.1 0 = c := by rw [List.getD_eq_getElem?_getD, hcg]; rfl
        repeat refine zS ?_
        refine zV (lt_true (show j < (ps.map encQ).length by omega)) ?_
        repeat refine zS ?_
        refine oIv w (v := .d (.ep [nI (16 + p.1), .sl 1 (p.2.map nI)])) trivial ?_ (he := by simp [gD, cellsD, encQ, hp])
        iterate 2 refine zX ?_
        refine oV ?_ (hv := evAny_store_last)
        refine RunOps.nil ?_
        refine Run.dropLastD (m := 0) (dl := []) (O := obC cs) (ds := [nI (16 + p.1), .sl 1 (p.2.map nI)]) [(3, gC k ga gb (.sl 1 nms) gd ps), (7, .bp 1 0), (8, fnC it te), (18, .d (.sl 2 (ps.map encQ))), (19, .d (nI (ps.map encQ).length)), (20, .d (nI j)), (10, .d (.ep [nI (16 + p.1), .sl 1 (p.2.map nI)]))] ?_ (Nat.zero_le _) (obC_refs _ _ (Nat.le_refl _)) rfl (ofList_cases (by intro q hq; simp only [List.mem_cons, List.not_mem_nil, or_false] at hq; rcases hq with rfl | rfl | rfl | rfl | rfl | rfl | rfl; exact .inl (by kernel_rfl); exact .inl (by kernel_rfl); exact .inl (by kernel_rfl); exact .inl (by kernel_rfl); exact .inl (by kernel_rfl); exact .inl (by kernel_rfl); exact .inr ⟨0, Nat.zero_le _, by kernel_rfl, rfl⟩)) ⟨rfl, rfl, rfl, rfl, rfl, rfl, rfl, trivial⟩
        repeat refine zS ?_
        iterate 2 refine zX ?_
        refine zV (show AV.d (.int .i64 (IntKind.i64.wrap (((16 + p.1 : Nat) : Int) - 16))) = .d (nI p.1) by congr 2; rw [show ((16 + p.1 : Nat) : Int) - 16 = ((p.1 : Nat) : Int) by omega]; exact wrap_nat (by omega)) ?_
        refine zX ?_
        repeat refine zS ?_
        refine Run.drawC (frz := [3, 4, 5]) Et_ok (by kernel_rfl) [(3, 2), (6, 2)] ?_
        refine cX ?_
        refine cX ?_
        refine cAll hcA ?_
        refine cX ?_
        refine cX ?_
        refine cX (v := .bp 0 p.1) ?_ (hf := by simp [inB]; omega) (he := show AV.bp 0 (0 + ((p.1 : Nat) : Int).toNat * 1) = .bp 0 p.1 by rw [Int.toNat_natCast, Nat.zero_add, Nat.mul_one])
        refine cX (v := .d (nI c)) ?_ (hv := evAny_loadV (c := .d (nI c)) rfl rfl rfl rfl rfl (by simp [hcg]))
        by_cases hlc : costP it te cs p.2 < c
        · refine cX (v := .d (.bool true)) ?_ (he := lt_true hlc)
          refine EvC.nil ⟨draw2 (by kernel_rfl), ⟨⟨_, _, _, _, _, _, _, rfl, rfl, rfl, rfl, rfl, rfl⟩, ⟨_, _, _, _, _, _, _, rfl, rfl, rfl, rfl, evOp_loadV (c := .d (nI c)) rfl rfl rfl rfl (by simp [hcg]), evOp_loadV (c := .d (nI c)) rfl rfl rfl rfl (by simp [hcg])⟩, trivial⟩, ?_⟩
          repeat refine zS ?_
          refine Run.drawC (frz := [3, 4, 5]) Et_ok (by kernel_rfl) [(0, 4)] ?_
          refine cX ?_
          refine cX ?_
          refine cX ?_
          refine cX ?_
          refine cAll hcA ?_
          refine cX (v := .bp 0 p.1) ?_ (hf := by simp [inB]; omega) (he := show AV.bp 0 (0 + ((p.1 : Nat) : Int).toNat * 1) = .bp 0 p.1 by rw [Int.toNat_natCast, Nat.zero_add, Nat.mul_one])
          refine cX (v := .d .any) (objs' := obC (cs.set p.1 (costP it te cs p.2))) ?_ (hv := evAny_storeV (c := .d (nI (costP it te cs p.2))) rfl rfl rfl rfl rfl rfl rfl rfl (by simp; omega)) (ho := by rw [obC_set (by omega)]; rfl)
          refine EvC.nil ⟨draw2 (by kernel_rfl), ⟨⟨_, _, _, _, _, _, _, rfl, rfl, rfl, rfl, rfl, rfl⟩, trivial⟩, ?_⟩
          repeat refine zS ?_
          have hst : stepC it te ps cs = some (cs.set p.1 (costP it te cs p.2)) := by
            unfold stepC
            rw [fnd_some hj2 hp (decide_eq_true (by rw [hcd]; exact hlc))]
          obtain ⟨g1, g2, _⟩ := step_ok hit hte hc hst
          refine ⟨cs.set p.1 (costP it te cs p.2), ⟨g1, ?_⟩, g2, ?_⟩
          · rw [← he]
            have e : costsF it te ps (cs.sum + 1) cs = costsF it te ps cs.sum (cs.set p.1 (costP it te cs p.2)) := by simp only [costsF, hst]
            rw [e]
            exact costs_fuel hit hte _ _ g1 (Nat.lt_succ_self _) g2
          · exact tidy_of _ 2 rfl rfl ⟨.inl rfl, .inl rfl, .inl rfl, trivial⟩ ⟨rfl, rfl, rfl, trivial⟩ (obC_refs _ _ (Nat.le_refl _)) rfl
        · refine cX (v := .d (.bool false)) ?_ (he := lt_false (by omega))
          refine EvC.nil ⟨draw2 (by kernel_rfl), ⟨⟨_, _, _, _, _, _, _, rfl, rfl, rfl, rfl, rfl, rfl⟩, ⟨_, _, _, _, _, _, _, rfl, rfl, rfl, rfl, evOp_loadV (c := .d (nI c)) rfl rfl rfl rfl (by simp [hcg]), evOp_loadV (c := .d (nI c)) rfl rfl rfl rfl (by simp [hcg])⟩, trivial⟩, ?_⟩
          repeat refine zS ?_
          iterate 2 refine zX ?_
          refine RunOps.nil ?_
          refine ⟨j + 1, ⟨hjl, fnd_none hj2 hp (decide_eq_false (by rw [hcd]; exact hlc))⟩, by omega, ?_⟩
          exact tidy_of _ 2 rfl rfl ⟨.inl rfl, .inl rfl, .inl rfl, .inl rfl, .inl rfl, .inl (inc_get rfl (by omega)), trivial⟩ ⟨rfl, rfl, rfl, rfl, rfl, rfl, trivial⟩ (obC_refs _ _ (Nat.le_refl _)) rfl
      · have hje : j = ps.length := by omega
        subst hje
        rw [List.take_length] at hj2
        have hst : stepC it te ps cs = none := by unfold stepC; rw [hj2]
        have e : costsN it te nms.length ps = cs := by rw [← he]; simp only [costsF, hst]
        repeat refine zS ?_
        refine zV (lt_false (show (ps.map encQ).length ≤ ps.length by omega)) ?_
        repeat refine zS ?_
        iterate 2 refine zX ?_
        repeat refine zS ?_
        refine Run.ret ?_
        refine ⟨trivial, _, _, rfl, rfl, (by rw [hcl]; exact .refl), ?_⟩
        rw [e]
        exact wk_refl _
theorem oLenPm {nt m : Nat} {ro' : Option Nat} {K : Ex → S → Prop} {ops : Array Oper} {lo : List Oper} {o : Oper} {tm tm' : PT AV} {objs : List Ob} {dl : List Dl} {i : Nat} {L : List (List Nat)} {args : Array Operand} {tys : Array TypeId} {a : Operand} {t kt et : TypeId} {yt : Ty} (hi : objs[i]? = some (.pm (kvT L)))
    (k : RunOps Try.prog nt m ro' ops lo ⟨tm', objs, dl⟩ K) (hop : o.op = .call ⟨.builtin .len, args, tys⟩ := by rfl) (ha : args.toList = [a] := by rfl) (ht : tys.toList = [t] := by rfl) (h1 : Et.get? t = some yt := by rfl) (h2 : yt.desc = .map kt et := by rfl) (hm : rd tm a = .mp i := by rfl)
    (hg : guardA ops (rd tm) o = some true := by rfl) (hs : setD nt tm o.dst (.d (nI L.length)) = some tm' := by rfl) : RunOps Try.prog nt m ro' ops (o :: lo) ⟨tm, objs, dl⟩ K := by
  refine RunOps.openPm i hi fun lA hlA => ?_
  obtain ⟨L', rfl, hp⟩ := perm_kvT hlA
  have hil := (List.getElem?_eq_some_iff.1 hi).1
  have hx : (objs.set i (.map (kvT L')))[i]? = some (.map (kvT L')) := List.getElem?_set_self hil
  refine RunOps.x (frz := []) (v := .d (nI L.length)) Et_ok hg (evAny_lenM (frz := []) hop ha ht h1 h2 hm hx) rfl (by rw [List.length_map, hp.length_eq]) rfl rfl hs ?_
  refine RunOps.closePm i (l := kvT L') (kvs := kvT L) hx (hp.map _) ?_
  show RunOps _ _ _ _ _ _ ⟨tm', (objs.set i (.map (kvT L'))).set i (.pm (kvT L)), dl⟩ K
  rw [set_back hi]
  exact k
def foN (g : Gram) (l : List Nat) : List (List Nat) := fstF (kN g) (setsG g) [[]] l
theorem setsG_ok {g : Gram} (h : checkF g = 0) : SOK (kN g) (setsG g) := it_sok (valN h).k4 (valN h).ok.sy _
theorem fo_asc (g : Gram) (l : List Nat) : Asc (foN g l) := fst_asc emp_asc
theorem fo_rt {g : Gram} (h : checkF g = 0) {l : List Nat} (hl : ∀ s ∈ l, SymN g.names.length s) : ∀ x ∈ foN g l, Rt x ∧ x.length ≤ kN g := fst_rt (valN h).k4 (fun a x hx => ((setsG_ok h).rt a x hx).1) emp_rt hl
abbrev ofO (g : Gram) (l : List Nat) : List Ob := objT .gone .gone (setsG g) g.names.length ++ [.gone, .pm (kvT [[]])] ++ tlF l.length (foN g l)
abbrev ofI (g : Gram) (l : List Nat) : Nat := ixO (objT .gone .gone (setsG g) g.names.length).length l.length
theorem objG_refs (g : Gram) : (objT .gone .gone (setsG g) g.names.length).all (refOb (objT .gone .gone (setsG g) g.names.length).length) = true := objT_refs rfl rfl (by rw [objT_len]; exact Nat.le_refl _)
theorem ofG {g : Gram} (h : checkF g = 0) (l : List Nat) (hl : ∀ s ∈ l, SymN g.names.length s) (hll : l.length ≤ 1000) :
    ACall Try.prog 31 [.agg (tbC (kN g) (grmF g) (.vs (2 + 3 * g.names.length) 1 0 g.names.length)), .d (.sl 1 (l.map nI))] (objT .gone .gone (setsG g) g.names.length) (.mp (ofI g l)) (ofO g l) :=
  ofTA _ (objG_refs g) (kN g) (valN h).k1 (valN h).k4 (grmF g) _ g.names.length (setsG g) (tbs_obj (setsG_ok h) (valN h).n8 (by rw [objT_len]; exact Nat.le_refl _)) l hl hll
theorem ofO_at (g : Gram) (l : List Nat) : (ofO g l)[ofI g l]? = some (.pm (kvT (foN g l))) := by
  refine at_ix (by simp) fun h0 => ?_
  rw [List.length_eq_zero_iff.1 h0]
  exact get1
theorem ofO_refs (g : Gram) (l : List Nat) : (ofO g l).all (refOb (ofO g l).length) = true := by
  rw [List.all_append, List.all_append, refs_mono (by simp) (objG_refs g), tlF_refs]; rfl
theorem chk_good {g : Gram} (h : checkF g = 0) {l : List Int} (hg : ∀ s ∈ l, goodS g s = true) (hl : l.length ≤ 100) : chkFs g l = 0 := by
  unfold chkFs
  rw [if_neg (by simp [h]), if_neg (by omega), if_pos (List.all_eq_true.2 hg)]
structure SyN (g : Gram) (l : List Int) : Prop where
  enc : ints l = .sl 1 ((l.map Int.toNat).map nI)
  sy : ∀ s ∈ l.map Int.toNat, SymN g.names.length s
theorem syN {g : Gram} (h : checkF g = 0) {l : List Int} (hg : ∀ s ∈ l, goodS g s = true) : SyN g l :=
  ⟨ints_nat fun s hs => (good_nat (valN h).t8 (hg s hs)).1, fun s hs => by
    obtain ⟨t, ht, rfl⟩ := List.mem_map.1 hs
    exact (good_nat (valN h).t8 (hg t ht)).2⟩
set_option maxHeartbeats 4000000 in
theorem fOfK {g : Gram} (h : checkF g = 0) (hf : Fits g) {l : List Int} (hg : ∀ s ∈ l, goodS g s = true) (hl : l.length ≤ 100) (hc : (foN g (l.map Int.toNat)).length ≤ 600) :
    KnownCall Try.prog 9 [encG g, ints l] (.tup [.d (lks (foN g (l.map Int.toNat))), .d (.int .i64 0)]) := by
  have c := checkFst g hf l (by omega)
  rw [chk_good h hg hl] at c
  have v := syN h hg
  rw [v.enc] at c ⊢
  have hO := ofG h (l.map Int.toNat) v.sy (by simp; omega)
  have hM := ofO_at g (l.map Int.toNat)
  have hR := ofO_refs g (l.map Int.toNat)
  have hrt := fo_rt h v.sy
  generalize hofo : ofO g (l.map Int.toNat) = Z at hO hM hR
  generalize hofi : ofI g (l.map Int.toNat) = ix at hO hM
  have has := fo_asc g (l.map Int.toNat)
  generalize foN g (l.map Int.toNat) = A at *
  have hS := sortedA Z hR ix A hM has fun x hx => (hrt x hx).1
  have hK := collectK A (fun x hx => (hrt x hx).1.len) (by omega)
  refine kF Try.func9 [2] fun w => ?_
  repeat refine zS ?_
  iterate 3 refine zX ?_
  repeat refine zS ?_
  iterate 2 refine zX ?_
  refine zC c ?_
  refine zX ?_
  repeat refine zS ?_
  iterate 2 refine zX ?_
  repeat refine zS ?_
  refine zX ?_
  refine oA (setsK h) ?_
  refine zX ?_
  refine oA hO ?_
  refine zX ?_
  repeat refine zS ?_
  refine zX ?_
  refine oLenPm hM ?_
  refine zV (show AV.d (.bool (decide (((A.length : Nat) : Int) > 600))) = .d (.bool false) by rw [decide_eq_false (by omega)]) ?_
  repeat refine zS ?_
  refine zX ?_
  refine oA hS ?_
  refine zC hK ?_
  iterate 2 refine zX ?_
  repeat refine zS ?_
  exact zE rfl
theorem fCountK {g : Gram} (h : checkF g = 0) (hf : Fits g) {l : List Int} (hg : ∀ s ∈ l, goodS g s = true) (hl : l.length ≤ 100) : KnownCall Try.prog 11 [encG g, ints l] (.tup [.d (nI (foN g (l.map Int.toNat)).length), .d (.int .i64 0)]) := by
  have c := checkFst g hf l (by omega)
  rw [chk_good h hg hl] at c
  have v := syN h hg
  rw [v.enc] at c ⊢
  have hO := ofG h (l.map Int.toNat) v.sy (by simp; omega)
  have hM := ofO_at g (l.map Int.toNat)
  generalize hofo : ofO g (l.map Int.toNat) = Z at hO hM
  generalize hofi : ofI g (l.map Int.toNat) = ix at hO hM
  generalize foN g (l.map Int.toNat) = A at *
  refine kF Try.func11 [2] fun w => ?_
  repeat refine zS ?_
  iterate 3 refine zX ?_
  repeat refine zS ?_
  iterate 2 refine zX ?_
  refine zC c ?_
  refine zX ?_
  repeat refine zS ?_
  iterate 2 refine zX ?_
  repeat refine zS ?_
  refine zX ?_
  refine oA (setsK h) ?_
  refine zX ?_
  refine oA hO ?_
  refine oLenPm hM ?_
  iterate 2 refine zX ?_
  repeat refine zS ?_
  exact zE rfl
def fallN (g : Gram) : List (List (List Nat)) := (List.range g.names.length).map (setsG g)
set_option maxHeartbeats 4000000 in
theorem fAllK {g : Gram} (h : checkF g = 0) (hf : Fits g) (hc : ∀ a, (setsG g a).length ≤ 600) :
    KnownCall Try.prog 17 [encG g] (.tup [.d (.sl 1 ((fallN g).map lks)), .d (.int .i64 0), .d (.int .i64 0)]) := by
  have c := grCheck g hf
  rw [h] at c
  have v := valN h
  have hS := setsG_ok h
  have hR := objG_refs g
  have hol := objT_len .gone .gone (setsG g) g.names.length
  have hn8 := v.n8
  refine kF Try.func17 [1, 31] fun w => ?_
  repeat refine zS ?_
  iterate 4 refine zX ?_
  repeat refine zS ?_
  refine zX ?_
  refine zC c ?_
  refine zX ?_
  repeat refine zS ?_
  iterate 2 refine zX ?_
  repeat refine zS ?_
  refine zX ?_
  repeat refine zS ?_
  refine zX ?_
  refine oA (setsK h) ?_
  refine oV (v := .vs (2 + 3 * g.names.length) 1 0 g.names.length) ?_ (he := rfl)
  iterate 2 refine zX ?_
  refine RunOps.nil ?_
  obtain ⟨n, hn⟩ : ∃ n, n = g.names.length := ⟨_, rfl⟩
  have hal : ∀ a, a < n → (setsG g a).length ≤ 600 := fun a _ => hc a
  have hfa : fallN g = (List.range n).map (setsG g) := by rw [hn]; rfl
  rw [← hn] at hR hol hn8 ⊢
  rw [hfa]
  obtain ⟨O, hOd⟩ : ∃ O, O = objT .gone .gone (setsG g) n := ⟨_, rfl⟩
  have hat : ∀ a, a < n → ∀ X, (O ++ X)[3 * a + 3]? = some (.pm (kvT (setsG g a))) := fun a ha X => by rw [hOd]; exact objT_at ha
  have hrow : ∀ X, (O ++ X)[2 + 3 * n]? = some (.vec 68 false 1 n (cellsT n)) := fun X => by rw [hOd]; exact objT_row
  rw [← hOd] at hR hol ⊢
  clear hOd
  refine Run.mkRoom 6 1 [(6, .sr O.length 1 []), (16, .vs (2 + 3 * n) 1 0 n), (17, .d (nI n)), (18, .d (nI 0))] rfl (ofList_cases (by intro q hq; simp only [List.mem_cons, List.not_mem_nil, or_false] at hq; rcases hq with rfl | rfl | rfl | rfl; exact .inl ⟨rfl, rfl⟩; exact .inr (by kernel_rfl); exact .inr (by kernel_rfl); exact .inr (by kernel_rfl))) ?_
  repeat refine zS ?_
  have tdy : ∀ (tm : PT AV) (i : Nat), tm.get? 6 = some (.sr O.length 1 (((List.range i).map (setsG g)).map lks)) → tm.get? 16 = some (.vs (2 + 3 * n) 1 0 n) → tm.get? 17 = some (.d (nI n)) → tm.get? 18 = some (.d (nI i)) →
      Tidy 0 ⟨tm, O ++ [.room i 1], []⟩ ⟨PT.ofList [(6, .sr O.length 1 (((List.range i).map (setsG g)).map lks)), (16, .vs (2 + 3 * n) 1 0 n), (17, .d (nI n)), (18, .d (nI i))], O ++ [.room i 1], []⟩ := fun tm i t1 t2 t3 t4 => by
    refine tidy_of _ (O.length + 1) (List.take_of_length_le (by simp)) (Nat.ble_eq_true_of_le (Nat.zero_le _)) ⟨.inl t1, .inl t2, .inl t3, .inl t4, trivial⟩ ⟨by simp only [refA, Nat.blt_eq]; omega, by simp only [refA, Nat.blt_eq]; omega, rfl, rfl, trivial⟩ ?_ rfl
    rw [List.all_append, refs_mono (Nat.le_succ _) hR]; rfl
  refine Run.loopT (fun i : Nat => ⟨PT.ofList [(6, .sr O.length 1 (((List.range i).map (setsG g)).map lks)), (16, .vs (2 + 3 * n) 1 0 n), (17, .d (nI n)), (18, .d (nI i))], O ++ [.room i 1], []⟩) (fun i => i ≤ n) (fun i => n - i) 0 (Nat.zero_le _) ?_ (fun i hi => ?_)
  · exact tdy _ 0 rfl rfl rfl rfl
  · rcases Nat.lt_or_ge i n with hin | hin
    · repeat refine zS ?_
      refine zV (lt_true hin) ?_
      repeat refine zS ?_
      refine zX ?_
      refine zCut (show AV.bp (2 + 3 * n) (0 + ((i : Nat) : Int).toNat * 1) = .bp (2 + 3 * n) i by simp) ?_
      refine oV (v := .mp (3 * i + 3)) ?_ (hv := evAny_loadV rfl rfl rfl rfl (hrow _) (cellsT_at hin))
      iterate 2 refine zX ?_
      repeat refine zS ?_
      refine zX ?_
      refine oLenPm (hat i hin _) ?_
      have := hal i hin
      refine zV (show AV.d (.bool (decide ((((setsG g i).length : Nat) : Int) > 600))) = .d (.bool false) by rw [decide_eq_false (by omega)]) ?_
      repeat refine zS ?_
      iterate 2 refine zX ?_
      refine oA (sortedA (O ++ [.room i 1]) (by rw [List.all_append, refs_mono (by simp) hR]; rfl) (3 * i + 3) (setsG g i) (hat i hin _) (hS.asc i) fun x hx => (hS.rt i x hx).1) ?_
      refine zC (collectK (setsG g i) (fun x hx => (hS.rt i x hx).1.len) (by omega)) ?_
      refine zX ?_
      refine oV (v := .sr O.length 1 (((List.range (i + 1)).map (setsG g)).map lks)) (objs' := O ++ [.room (i + 1) 1]) ?_ (hv := app1 (i := O.length) (sz := 1) (k := 1) (es := ((List.range i).map (setsG g)).map lks) (ys := [lks (setsG g i)]) (n := i) (h8 := get0) (hn := by simp) (hlen := by simp; omega)) (he := by simp [List.range_succ]) (ho := by exact setL0)
      refine zX ?_
      repeat refine zS ?_
      iterate 2 refine zX ?_
      refine RunOps.nil ?_
      exact ⟨i + 1, hin, by omega, tdy _ (i + 1) rfl rfl rfl (inc_get rfl (by omega))⟩
    · have hie : i = n := by omega
      subst hie
      repeat refine zS ?_
      refine zV (lt_false (Nat.le_refl _)) ?_
      repeat refine zS ?_
      iterate 4 refine zX ?_
      repeat refine zS ?_
      refine Run.ret ?_
      exact ⟨trivial, _, _, rfl, rfl, rfl⟩
def Sub (S S' : Sets) : Prop := ∀ a x, x ∈ S a → x ∈ S' a
def Clo (k : Nat) (ps : List (Nat × List Nat)) (S : Sets) : Prop := ∀ p ∈ ps, ∀ x ∈ fstF k S [[]] p.2, x ∈ S p.1
theorem fst_mono {k : Nat} {S S' : Sets} (h : Sub S S') : ∀ {l : List Nat} {B B' : List (List Nat)}, (∀ x ∈ B, x ∈ B') → ∀ x ∈ fstF k S B l, x ∈ fstF k S' B' l
  | [], _, _, hB, x, hx => hB x hx
  | s :: l, B, B', hB, x, hx => by
    refine fst_mono h (l := l) (fun y hy => ?_) x hx
    obtain ⟨u, hu, v, hv, rfl⟩ := mem_prs.1 (mem_asc.1 hy)
    refine mem_asc.2 (mem_prs.2 ⟨u, hB u hu, v, ?_, rfl⟩)
    unfold syF at hv ⊢
    split
    · rename_i h8; rw [if_pos h8] at hv; exact hv
    · rename_i h8; rw [if_neg h8] at hv; exact h _ _ hv
theorem sub_step {k : Nat} {S : Sets} {p : Nat × List Nat} : Sub S (stepS k S p) := fun a x hx => by
  unfold stepS updT
  split
  · rename_i h; subst h; exact mem_asc.2 (List.mem_append.2 (.inl hx))
  · exact hx
theorem sub_round {k : Nat} : ∀ {ps : List (Nat × List Nat)} {S : Sets}, Sub S (roundS k ps S)
  | [], _ => fun _ _ h => h
  | _ :: ps, _ => fun a x hx => sub_round (ps := ps) a x (sub_step a x hx)
theorem step_least {k : Nat} {S S' : Sets} {p : Nat × List Nat} (h : Sub S S') (hp : ∀ x ∈ fstF k S' [[]] p.2, x ∈ S' p.1) : Sub (stepS k S p) S' := fun a x hx => by
  unfold stepS updT at hx
  split at hx
  · rename_i h0; subst h0
    rcases List.mem_append.1 (mem_asc.1 hx) with h1 | h1
    · exact h _ _ h1
    · exact hp x (fst_mono h (fun _ h => h) x h1)
  · exact h _ _ hx
theorem round_least {k : Nat} : ∀ {ps : List (Nat × List Nat)} {S S' : Sets}, Sub S S' → Clo k ps S' → Sub (roundS k ps S) S'
  | [], _, _, h, _ => h
  | p :: ps, _, _, h, hc => round_least (ps := ps) (step_least h (hc p (by simp))) fun q hq => hc q (by simp [hq])
theorem it_least {k : Nat} {ps : List (Nat × List Nat)} {S' : Sets} (hc : Clo k ps S') : ∀ m, Sub (itS k ps m) S'
  | 0 => fun _ _ h => by simp [itS] at h
  | m + 1 => round_least (it_least hc m) hc
theorem sub_anti {k : Nat} {S S' : Sets} (h : SOK k S) (h' : SOK k S') (h1 : Sub S S') (h2 : Sub S' S) : S = S' := funext fun a => asc_ext (h.asc a) (h'.asc a) fun x => ⟨h1 a x, h2 a x⟩
theorem clo_of_fix {k n : Nat} (hk : k ≤ 4) : ∀ {ps : List (Nat × List Nat)} {S : Sets}, SOK k S → (∀ p ∈ ps, ∀ s ∈ p.2, SymN n s) → Sub (roundS k ps S) S → Clo k ps S
  | [], _, _, _, _ => fun p hp => by cases hp
  | q :: ps, S, hS, hp, h => by
    have h1 : Sub (stepS k S q) S := fun a x hx => h a x (sub_round (ps := ps) a x hx)
    have h2 : stepS k S q = S := sub_anti (step_sok hk hS (hp q (by simp))) hS h1 sub_step
    have h3 : Sub (roundS k ps S) S := fun a x hx => h a x (by show x ∈ roundS k ps (stepS k S q) a; rw [h2]; exact hx)
    intro p hpm
    rcases List.mem_cons.1 hpm with rfl | hpm
    · intro x hx
      refine h1 p.1 x ?_
      unfold stepS updT
      rw [if_pos rfl]
      exact mem_asc.2 (List.mem_append.2 (.inr hx))
    · exact clo_of_fix hk hS (fun q hq => hp q (by simp [hq])) h3 p hpm
theorem tot_sub {k : Nat} {S S' : Sets} (h : SOK k S) (h1 : Sub S S') : ∀ n, tot S n ≤ tot S' n
  | 0 => Nat.le_refl _
  | n + 1 => by
    have := tot_sub h h1 n
    have := nodup_le (asc_nodup (h.asc n)) (h1 n)
    simp only [tot]; omega
theorem tot_eq {k : Nat} {S S' : Sets} (h : SOK k S) (h1 : Sub S S') : ∀ n, tot S' n ≤ tot S n → ∀ a, a < n → ∀ x ∈ S' a, x ∈ S a
  | n + 1, he, a, ha, x, hx => by
    have h2 := tot_sub h h1 n
    have h3 := nodup_le (asc_nodup (h.asc n)) (h1 n)
    simp only [tot] at he
    rcases Nat.lt_or_ge a n with h4 | h4
    · exact tot_eq h h1 n (by omega) a h4 x hx
    · have : a = n := by omega
      subst this
      by_cases hc : x ∈ S a
      · exact hc
      · have hn : (x :: S a).Nodup := List.nodup_cons.2 ⟨hc, asc_nodup (h.asc a)⟩
        have := nodup_le hn (m := S' a) fun y hy => by
          rcases List.mem_cons.1 hy with rfl | hy
          · exact hx
          · exact h1 _ _ hy
        simp only [List.length_cons] at this
        omega
theorem round_far {k n : Nat} : ∀ {ps : List (Nat × List Nat)} {S : Sets} {a : Nat}, (∀ p ∈ ps, p.1 < n) → n ≤ a → roundS k ps S a = S a
  | [], _, _, _, _ => rfl
  | p :: ps, S, a, hp, ha => by
    show roundS k ps (stepS k S p) a = S a
    rw [round_far (ps := ps) (fun q hq => hp q (by simp [hq])) ha, stepS, updT, if_neg (by have := hp p (by simp); omega)]
theorem it_far {k n : Nat} {ps : List (Nat × List Nat)} (hp : ∀ p ∈ ps, p.1 < n) {a : Nat} (ha : n ≤ a) : ∀ m, itS k ps m a = []
  | 0 => rfl
  | m + 1 => by show roundS k ps (itS k ps m) a = []; rw [round_far hp ha, it_far hp ha m]
theorem it_fix {k n : Nat} (hk : k ≤ 4) {ps : List (Nat × List Nat)} (hp : PrOK n ps) : ∀ m, (∃ j, j ≤ m ∧ itS k ps (j + 1) = itS k ps j) ∨ m ≤ tot (itS k ps m) n
  | 0 => .inr (Nat.zero_le _)
  | m + 1 => by
    rcases it_fix hk hp m with ⟨j, h1, h2⟩ | h
    · exact .inl ⟨j, by omega, h2⟩
    · have hs := it_sok hk hp.sy (k := k)
      by_cases hl : tot (itS k ps (m + 1)) n ≤ tot (itS k ps m) n
      · refine .inl ⟨m, by omega, (sub_anti (hs m) (hs (m + 1)) sub_round fun a x hx => ?_).symm⟩
        rcases Nat.lt_or_ge a n with ha | ha
        · exact tot_eq (hs m) sub_round n hl a ha x hx
        · rw [it_far hp.lt ha] at hx; cases hx
      · exact .inr (by omega)
theorem sets_fix {k n : Nat} (hk : k ≤ 4) {ps : List (Nat × List Nat)} (hp : PrOK n ps) : ∃ m, itS k ps (m + 1) = itS k ps m ∧ setsF k n ps = itS k ps m := by
  rcases it_fix hk hp (6562 * (n + 1)) with ⟨j, h1, h2⟩ | h
  · exact ⟨j, h2, sets_of h2 h1⟩
  · have := tot_le (it_sok (k := k) hk hp.sy (6562 * (n + 1))) n
    omega
theorem sets_clo {k n : Nat} (hk : k ≤ 4) {ps : List (Nat × List Nat)} (hp : PrOK n ps) : Clo k ps (setsF k n ps) := by
  obtain ⟨m, h1, h2⟩ := sets_fix hk hp
  rw [h2]
  exact clo_of_fix hk (it_sok hk hp.sy m) hp.sy fun a x hx => by
    rw [show roundS k ps (itS k ps m) = itS k ps (m + 1) from rfl, h1] at hx; exact hx
theorem sets_least {k n : Nat} {ps : List (Nat × List Nat)} {S' : Sets} (hc : Clo k ps S') : Sub (setsF k n ps) S' := it_least hc _
def tabL (L : List (List (List Nat))) : Sets := fun a => L.getD a []
def stepL (k : Nat) (L : List (List (List Nat))) (p : Nat × List Nat) : List (List (List Nat)) := L.set p.1 (ascOf (L.getD p.1 [] ++ fstF k (tabL L) [[]] p.2))
theorem tab_set {L : List (List (List Nat))} {a : Nat} (h : a < L.length) (X : List (List Nat)) : updT (tabL L) a X = tabL (L.set a X) := by
  funext c
  unfold updT tabL
  by_cases hc : c = a
  · subst hc; simp [List.getD_eq_getElem?_getD, h]
  · rw [if_neg hc]
    simp only [List.getD_eq_getElem?_getD]
    rw [List.getElem?_set_ne (Ne.symm hc)]
theorem round_tab {k : Nat} : ∀ {ps : List (Nat × List Nat)} {L : List (List (List Nat))}, (∀ p ∈ ps, p.1 < L.length) → roundS k ps (tabL L) = tabL (ps.foldl (stepL k) L)
  | [], _, _ => rfl
  | p :: ps, L, h => by
    show roundS k ps (stepS k (tabL L) p) = tabL (ps.foldl (stepL k) (stepL k L p))
    have e : stepS k (tabL L) p = tabL (stepL k L p) := tab_set (h p (by simp)) _
    rw [e]
    refine round_tab (ps := ps) fun q hq => ?_
    simp only [stepL, List.length_set]
    exact h q (by simp [hq])
def psE : List (Nat × List Nat) := [(0, [0, 16, 1]), (0, []), (1, [16, 17, 0]), (1, [1])]
def exL : List (List (List Nat)) := [[[], [0, 0], [0, 1]], [[0, 0], [0, 1], [1], [1, 0]]]
def itL (k : Nat) (ps : List (Nat × List Nat)) : Nat → List (List (List Nat)) → List (List (List Nat))
  | 0, L => L
  | m + 1, L => ps.foldl (stepL k) (itL k ps m L)
theorem stepL_len {k : Nat} : ∀ {ps : List (Nat × List Nat)} {L : List (List (List Nat))}, (ps.foldl (stepL k) L).length = L.length
  | [], _ => rfl
  | p :: ps, L => by
    show (ps.foldl (stepL k) (stepL k L p)).length = _
    rw [stepL_len (ps := ps)]; simp [stepL]
theorem it_tab {k : Nat} {ps : List (Nat × List Nat)} {L : List (List (List Nat))} (h0 : tabL L = fun _ => []) (h : ∀ p ∈ ps, p.1 < L.length) : ∀ m, itS k ps m = tabL (itL k ps m L) ∧ (itL k ps m L).length = L.length
  | 0 => ⟨h0.symm, rfl⟩
  | m + 1 => by
    obtain ⟨h1, h2⟩ := it_tab h0 h m
    refine ⟨?_, by simp only [itL]; rw [stepL_len, h2]⟩
    show roundS k ps (itS k ps m) = _
    rw [h1, round_tab fun p hp => by rw [h2]; exact h p hp]; rfl
theorem ex4 : itL 2 psE 4 [[], []] = exL := by decide
theorem ex5 : psE.foldl (stepL 2) exL = exL := by decide
theorem setsE : setsF 2 2 psE = tabL exL := by
  have h0 : tabL [[], []] = fun _ => [] := by
    funext a
    match a with
    | 0 | 1 => rfl
    | a + 2 => rfl
  have h := it_tab (k := 2) (ps := psE) h0 (by decide)
  have h4 := (h 4).1
  have h5 := (h 5).1
  rw [ex4] at h4
  rw [show itL 2 psE 5 [[], []] = exL from (by show psE.foldl (stepL 2) (itL 2 psE 4 [[], []]) = exL; rw [ex4, ex5])] at h5
  rw [sets_of (m := 4) (by rw [h5, h4]) (by decide), h4]
def exG : Gram := ⟨2, [[97], [98]], [110, 108], [[83], [84]], 16, [⟨16, [0, 16, 1]⟩, ⟨16, []⟩, ⟨17, [16, 17, 0]⟩, ⟨17, [1]⟩]⟩
theorem name_letters {s : List Nat} (hs : s ≠ []) (hl : s.length ≤ 12) (h : ∀ c ∈ s, letterF (c : Int) = true) (hn : languageF s = false) : nameF s = 0 := by
  have hw : wordF s = 0 := by
    rw [wordF_good hs (fun i ⟨c, h1, h2, _⟩ => by rw [h c (List.mem_of_getElem? h1)] at h2; cases h2), if_neg (by omega)]
  unfold nameF
  rw [if_neg (by rw [hn]; simp), hw]
theorem exV : checkF exG = 0 := by
  have n1 : ∀ s ∈ smalls exG, smallF s = true := by
    intro s hs
    have : s = [97] ∨ s = [98] ∨ s = [110, 108] := by simpa [smalls, exG] using hs
    rcases this with rfl | rfl | rfl <;>
    · simp only [smallF, Bool.and_eq_true, decide_eq_true_eq]
      exact ⟨name_letters (by simp) (by simp) (by decide) (by decide), by decide⟩
  have n2 : ∀ s ∈ exG.names, capitalF s = true := by
    intro s hs
    have : s = [83] ∨ s = [84] := by simpa [exG] using hs
    rcases this with rfl | rfl <;>
    · simp only [capitalF, Bool.and_eq_true, decide_eq_true_eq]
      exact ⟨name_letters (by simp) (by simp) (by decide) (by decide), by decide⟩
  have hm : manyF exG = 0 := by
    unfold manyF
    rw [if_neg]
    rintro (h | h | h | ⟨p, hp, h⟩)
    · simp [exG] at h
    · simp [exG] at h
    · simp [exG] at h
    · simp only [exG, List.mem_cons, List.not_mem_nil, or_false] at hp
      rcases hp with rfl | rfl | rfl | rfl <;> simp at h
  have hn : namedF exG = 0 := by
    unfold namedF
    rw [if_neg]
    rintro (⟨s, hs, h⟩ | ⟨s, hs, h⟩)
    · rw [n1 s hs] at h; cases h
    · rw [n2 s hs] at h; cases h
  have hns : namesF exG = 0 := by
    unfold namesF
    rw [if_neg, hn]
    rintro ⟨_, h | h⟩
    · exact h (by decide)
    · exact h (by decide)
  have hs : symbolsF exG = 0 := by
    unfold symbolsF
    rw [if_pos, if_neg, if_neg]
    · rintro ⟨i, hi, h⟩
      have : i = 0 ∨ i = 1 := by simp [exG] at hi; omega
      rcases this with rfl | rfl
      · have : prodsF exG (16 + (0 : Nat)) = [0, 1] := by decide
        rw [this] at h; cases h
      · have : prodsF exG (16 + (1 : Nat)) = [2, 3] := by decide
        rw [this] at h; cases h
    · rintro ⟨i, p, q, hp, hq, hlt⟩
      match i, hp, hq with
      | 0, hp, hq | 1, hp, hq | 2, hp, hq => simp [exG] at hp hq; subst hp hq; simp at hlt
      | i + 3, hp, hq => simp [exG] at hq
    · refine ⟨by decide, fun p hp => ?_⟩
      simp only [exG, List.mem_cons, List.not_mem_nil, or_false] at hp
      rcases hp with rfl | rfl | rfl | rfl <;> exact ⟨by decide, by decide⟩
  unfold checkF
  rw [if_neg (by simp [exG]), if_neg (by simp [hm]), if_neg (by simp [exG]), if_neg (by simp [hns]), hs]
theorem setsGE : setsG exG = tabL exL := setsE
theorem foE (l : List Nat) : foN exG l = fstF 2 (tabL exL) [[]] l := by unfold foN; rw [setsGE]; rfl
def isBx : List Nat → Nat → List AV
  | _, 0 => [.d (nI 0), .d (nI 0), .d (nI 0), .d (nI 0), .d (nI 0)]
  | a :: _, 1 => [.d (nI 1), .d (nI a), .d (nI 0), .d (nI 0), .d (nI 0)]
  | a :: b :: _, 2 => [.d (nI 2), .d (nI a), .d (nI b), .d (nI 0), .d (nI 0)]
  | _, _ => []
theorem is0 : KnownCall Try.prog 15 [.nilsl] (.d (lk [])) := by
  refine kF Try.func15 [] fun w => ?_
  repeat' (first
    | refine zW ?_
    | refine zB ?_ ?_ <;> intro h <;> try exact zk h
    | ((exfalso; (simp at h <;> fail)))
    | fail)
  refine Run.loop (fun i : Nat => ⟨PT.ofList [(0, .d .nilsl), (2, .bp 0 0), (3, .bp 1 0), (4, .d (nI i))], [.box (isBx [] 0), .box (isBx [] i)], []⟩) (fun i => i ≤ 0) (fun i => 0 - i) 0 (Nat.le_refl _) (weak_of (by repeat' (first | exact trivial | refine ⟨rfl, ?_⟩))) (fun i hi => ?_)
  obtain rfl : i = 0 := by omega
  repeat' (first
    | refine zW ?_
    | refine zB ?_ ?_ <;> intro h <;> try exact zk h
    | rfl
    | ((exfalso; (simp at h <;> fail)))
    | fail)
theorem is1 (a : Nat) : KnownCall Try.prog 15 [.sl 1 [nI a]] (.d (lk [a])) := by
  refine kF Try.func15 [] fun w => ?_
  repeat' (first
    | refine zW ?_
    | refine zB ?_ ?_ <;> intro h <;> try exact zk h
    | ((exfalso; (simp at h <;> fail)))
    | fail)
  refine Run.loop (fun i : Nat => ⟨PT.ofList [(0, .d (.sl 1 [nI a])), (2, .bp 0 0), (3, .bp 1 0), (4, .d (nI i))], [.box (isBx [] 0), .box (isBx [a] i)], []⟩) (fun i => i ≤ 1) (fun i => 1 - i) 0 (Nat.zero_le _) (weak_of (by repeat' (first | exact trivial | refine ⟨rfl, ?_⟩))) (fun i hi => ?_)
  have hc : i = 0 ∨ i = 1 := by omega
  rcases hc with rfl | rfl
  · repeat' (first
      | refine zW ?_
      | refine zB ?_ ?_ <;> intro h <;> try exact zk h
      | ((exfalso; (simp at h <;> fail)))
      | (exact ⟨1, by omega, by omega, weak_of (by repeat' (first | exact trivial | refine ⟨rfl, ?_⟩ | refine ⟨(inc_get (k := 0) (by kernel_rfl) (by omega)), ?_⟩))⟩)
      | fail)
  · repeat' (first
      | refine zW ?_
      | refine zB ?_ ?_ <;> intro h <;> try exact zk h
      | rfl
      | ((exfalso; (simp at h <;> fail)))
      | fail)
theorem is2 (a b : Nat) : KnownCall Try.prog 15 [.sl 1 [nI a, nI b]] (.d (lk [a, b])) := by
  refine kF Try.func15 [] fun w => ?_
  repeat' (first
    | refine zW ?_
    | refine zB ?_ ?_ <;> intro h <;> try exact zk h
    | ((exfalso; (simp at h <;> fail)))
    | fail)
  refine Run.loop (fun i : Nat => ⟨PT.ofList [(0, .d (.sl 1 [nI a, nI b])), (2, .bp 0 0), (3, .bp 1 0), (4, .d (nI i))], [.box (isBx [] 0), .box (isBx [a, b] i)], []⟩) (fun i => i ≤ 2) (fun i => 2 - i) 0 (Nat.zero_le _) (weak_of (by repeat' (first | exact trivial | refine ⟨rfl, ?_⟩))) (fun i hi => ?_)
  have hc : i = 0 ∨ i = 1 ∨ i = 2 := by omega
  rcases hc with rfl | rfl | rfl
  · repeat' (first
      | refine zW ?_
      | refine zB ?_ ?_ <;> intro h <;> try exact zk h
      | ((exfalso; (simp at h <;> fail)))
      | (exact ⟨1, by omega, by omega, weak_of (by repeat' (first | exact trivial | refine ⟨rfl, ?_⟩ | refine ⟨(inc_get (k := 0) (by kernel_rfl) (by omega)), ?_⟩))⟩)
      | fail)
  · repeat' (first
      | refine zW ?_
      | refine zB ?_ ?_ <;> intro h <;> try exact zk h
      | ((exfalso; (simp at h <;> fail)))
      | (exact ⟨2, by omega, by omega, weak_of (by repeat' (first | exact trivial | refine ⟨rfl, ?_⟩ | refine ⟨(inc_get (k := 1) (by kernel_rfl) (by omega)), ?_⟩))⟩)
      | fail)
  · repeat' (first
      | refine zW ?_
      | refine zB ?_ ?_ <;> intro h <;> try exact zk h
      | rfl
      | ((exfalso; (simp at h <;> fail)))
      | fail)
theorem exampleK : KnownCall Try.prog 19 [] (.d (encG exG)) := by
  refine known_toN (x := .agg [.int .i64 2, strs [[97], [98]], .str [110, 108], strs [[83], [84]], .int .i64 16, .sl 2 (exG.prods.map encN)]) ?_ (.agg rfl fun j x y hx hy => ?_)
  · refine kF Try.func19 [1, 2, 3, 6, 8, 10] fun w => ?_
    repeat' (first
      | refine zW ?_
      | refine zB ?_ ?_ <;> intro h <;> try exact zk h
      | refine zX ?_
      | rfl
      | (fail)
      | fail)
  · match j, hx, hy with
    | 0, hx, hy | 1, hx, hy | 2, hx, hy | 3, hx, hy | 4, hx, hy => simp at hx hy; subst hx hy; exact .refl
    | 5, hx, hy => simp at hx hy; subst hx hy; exact encN_to _
    | j + 6, hx, hy => simp at hx
theorem ex_fits : Fits exG := ⟨by decide, by decide, by decide, by decide, by decide, by decide, by decide⟩
theorem hasE (l : List Int) (hg : ∀ s ∈ l, goodS exG s = true) (hl : l.length ≤ 100) (hc : (foN exG (l.map Int.toNat)).length ≤ 600) (want : List (List Nat)) : KnownCall Try.prog 21 [ints l, lks want] (.d (.bool (decide (foN exG (l.map Int.toNat) = want)))) := by
  have c1 := fOfK exV ex_fits hg hl hc
  have c2 := sameLq (foN exG (l.map Int.toNat)) want (fun x hx => (fo_rt exV (syN exV hg).sy x hx).1.len) (by omega)
  have c0 := exampleK
  refine kF Try.func21 [] fun w => ?_
  repeat' (first
    | refine zW ?_
    | refine zB ?_ ?_ <;> intro h <;> try exact zk h
    | refine zC (c0) ?_
    | refine zK (c1) ?_ ?_ <;> intro h <;> try exact zk h
    | refine zC (c1) ?_
    | refine zC (c2) ?_
    | rfl
    | ((exfalso; (simp at h <;> fail)))
    | fail)
theorem awakeK : KnownCall Try.prog 16 [] (.d (.bool true)) := by
  have h1 := hasE [16] (by decide) (by decide) (by rw [foE]; decide) [[], [0, 0], [0, 1]]
  have h2 := hasE [17] (by decide) (by decide) (by rw [foE]; decide) [[0, 0], [0, 1], [1], [1, 0]]
  rw [foE, decide_eq_true (by decide)] at h1 h2
  have i0 := is0
  have i1 := is2 0 0
  have i2 := is2 0 1
  have i3 := is1 1
  have i4 := is2 1 0
  refine kF Try.func16 [1, 3, 5, 7, 10, 11, 13, 15, 17, 19] fun w => ?_
  repeat' (first
    | refine zW ?_
    | refine zB ?_ ?_ <;> intro h <;> try exact zk h
    | refine zX ?_
    | refine zC (i0) ?_
    | refine zC (i1) ?_
    | refine zC (i2) ?_
    | refine zC (h1) ?_
    | refine zC (i1) ?_
    | refine zC (i2) ?_
    | refine zC (i3) ?_
    | refine zC (i4) ?_
    | refine zC (h2) ?_
    | rfl
    | ((exfalso; (simp at h <;> fail)))
    | fail)
section
set_option maxRecDepth 10000
end
theorem ints_cast (l : List Nat) : ints (l.map fun s : Nat => (s : Int)) = .sl 1 (l.map nI) := by simp only [ints, List.map_map]; rfl
theorem nat_cast (l : List Nat) : (l.map fun s : Nat => (s : Int)).map Int.toNat = l := by
  rw [List.map_map]
  exact (List.map_congr_left fun s _ => rfl).trans (List.map_id' l)
structure SmG (g : Gram) : Prop where
  ok : checkF g = 0
  fits : Fits g
  k2 : g.k ≤ 2
def GdN (g : Gram) (l : List Nat) : Prop := l.length ≤ 100 ∧ ∀ s ∈ l, goodS g (s : Int) = true
theorem GdN.good {g : Gram} {l : List Nat} (h : GdN g l) : ∀ s ∈ l.map (fun s : Nat => (s : Int)), goodS g s = true := fun s hs => by
  obtain ⟨t, ht, rfl⟩ := List.mem_map.1 hs
  exact h.2 t ht
theorem GdN.sy {g : Gram} (hv : checkF g = 0) {l : List Nat} (h : GdN g l) : ∀ s ∈ l, SymN g.names.length s := by
  have := (syN hv h.good).sy
  rwa [nat_cast] at this
theorem rt_card2 {L : List (List Nat)} (hn : L.Nodup) (h : ∀ x ∈ L, Rt x ∧ x.length ≤ 2) : L.length ≤ 81 := by
  have h1 := seen_le 81 (L.map codeT) (by
    rw [List.Nodup, List.pairwise_map]
    exact hn.imp_of_mem fun ha hb hab e => hab (codeT_inj (h _ ha).1.lt (h _ hb).1.lt e)) fun c hc => by
      obtain ⟨x, hx, rfl⟩ := List.mem_map.1 hc
      have h2 := codeT_lt (h x hx).1.lt
      have h3 := (h x hx).2
      exact Nat.lt_of_lt_of_le h2 (Nat.pow_le_pow_right (n := 9) (by omega) h3)
  simpa using h1
theorem SmG.kk {g : Gram} (h : SmG g) : kN g ≤ 2 := by have := h.k2; unfold kN; omega
theorem SmG.len {g : Gram} (h : SmG g) {l : List Nat} (hl : GdN g l) : (foN g l).length ≤ 81 :=
  rt_card2 (asc_nodup (fo_asc g l)) fun x hx => ⟨(fo_rt h.ok (hl.sy h.ok) x hx).1, Nat.le_trans (fo_rt h.ok (hl.sy h.ok) x hx).2 h.kk⟩
theorem SmG.slen {g : Gram} (h : SmG g) (a : Nat) : (setsG g a).length ≤ 81 :=
  rt_card2 (asc_nodup ((setsG_ok h.ok).asc a)) fun x hx => ⟨((setsG_ok h.ok).rt a x hx).1, Nat.le_trans ((setsG_ok h.ok).rt a x hx).2 h.kk⟩
theorem fCountN {g : Gram} (h : SmG g) {l : List Nat} (hl : GdN g l) : KnownCall Try.prog 11 [encG g, .sl 1 (l.map nI)] (.tup [.d (nI (foN g l).length), .d (.int .i64 0)]) := by
  have := fCountK h.ok h.fits hl.good (by rw [List.length_map]; exact hl.1)
  rwa [nat_cast, ints_cast] at this
section
variable {H : Hd} {frz : List Nat} {rd : Operand → AV} {objs : List Ob} {o : Oper} {t : TypeId} {m k : Operand} {i : Nat} {L : List (List Nat)} {x : List Nat}
theorem pmFind_T (hx : x.length ≤ 4) : pmFind (eqKey Et 38) (lk x) (kvT L) = findKV (eqKey Et 38) (lk x) (kvT L) := by
  unfold pmFind
  rw [List.all_eq_true.2 (fun p hp => ?_)]
  obtain ⟨y, _, rfl⟩ := List.mem_map.1 hp
  simp only [eqKeyL x y hx]
  rfl
theorem evAny_hasPm (hop : o.op = .lookup t m k false) (h1 : Et.get? t = some ⟨.map 38 4, 1, 8, [.nilmap]⟩) (hm : rd m = .mp i) (hi : objs[i]? = some (.pm (kvT L))) (hk : rd k = .d (lk x)) (hx : x.length ≤ 4) :
    evAny Et H frz rd objs o = some (.d (.bool (decide (x ∈ L))), none, true) := by
  obtain ⟨dst, op, ty, pos, after, guard⟩ := o
  simp only at hop
  subst hop
  have h3 : Et.get? 4 = some ty4 := rfl
  have hp := pmFind_T (L := L) hx
  by_cases h : x ∈ L
  · obtain ⟨j, h2, _⟩ := findT_at hx h
    rw [h2] at hp
    simp only [evAny, quiet, evOp, lookupR, h1, hk, h3, keyTL x, kvsOf, pmOf, hm, hi, hp, pureR, Option.map_some, decide_eq_true h]
  · rw [findT_none hx h] at hp
    have hz : zeroD ty4 = some (.bool false) := rfl
    simp only [evAny, quiet, evOp, lookupR, h1, hk, h3, keyTL x, kvsOf, pmOf, hm, hi, hp, hz, pureR, Option.map_some, decide_eq_false h]
end
def neC (c : Nat) : Bool := !decide (c = cM)
def vecW (cs : List Nat) (i : Nat) : Ob := .vec 4 false 1 cs.length ((cs.take i).map (fun c => AV.d (.bool (neC c))) ++ List.replicate (cs.length - i) (.d (.bool false)))
theorem vecW_0 (cs : List Nat) : Ob.vec 4 false 1 cs.length (List.replicate cs.length (.d (.bool false))) = vecW cs 0 := by simp [vecW]
theorem vecW_n (cs : List Nat) : vecW cs cs.length = .vec 4 false 1 cs.length (cs.map fun c => AV.d (.bool (neC c))) := by simp [vecW]
theorem vecW_s {cs : List Nat} {i c : Nat} (h : cs[i]? = some c) : Ob.vec 4 false 1 cs.length (((cs.take i).map (fun c => AV.d (.bool (neC c))) ++ List.replicate (cs.length - i) (AV.d (.bool false))).take i ++ [AV.d (.bool (neC c))] ++ ((cs.take i).map (fun c => AV.d (.bool (neC c))) ++ List.replicate (cs.length - i) (AV.d (.bool false))).drop (i + 1)) = vecW cs (i + 1) := by
  have hi := (List.getElem?_eq_some_iff.1 h).1
  have hl : ((cs.take i).map (fun c => AV.d (.bool (neC c)))).length = i := by simp; omega
  unfold vecW
  congr 1
  rw [List.take_left' hl, List.drop_append, List.drop_of_length_le (by omega), hl, List.drop_replicate, List.take_add_one, h]
  simp
  omega
theorem vecW_refs (cs : List Nat) (i m : Nat) : refOb m (vecW cs i) = true := by
  simp only [vecW, refOb, List.all_eq_true]
  intro x hx
  rcases List.mem_append.1 hx with h | h
  · obtain ⟨c, _, rfl⟩ := List.mem_map.1 h; rfl
  · rw [List.eq_of_mem_replicate h]; rfl
theorem obW_refs (cs : List Nat) (i m : Nat) (h : 2 ≤ m) : (obC cs ++ [vecW cs i]).all (refOb m) = true := by
  rw [List.all_append, obC_refs cs m h]
  simp [vecW_refs]
set_option maxHeartbeats 1000000 in
theorem whichA (cs : List Nat) (hcs : cs.length ≤ 1000) :
    ACall Try.prog 81 [.vs 0 1 0 cs.length] (obC cs) (.vs 2 1 0 cs.length) (obC cs ++ [vecW cs cs.length]) := by
  have w : Fz [] := trivial
  refine acallG_of_run Et_ok (fnB Try.func81 []) rfl rfl (by simp [obC]) ?_ (by simp [refA, obC]) ?_
  · exact obW_refs _ _ _ (by simp [obC])
  have w : Fz [] := trivial
  have hf := filledB cs.length hcs (.bool false) rfl rfl
  have hg := hf.grow [] (Big := obC cs) rfl (Nat.zero_le _) (by simp) trivial rfl rfl
  have hgl : growL (obC cs) [] ([] : List Nat).length [Ob.vec 4 false 1 cs.length (List.replicate cs.length (AV.d (.bool false)))] = obC cs ++ [vecW cs 0] := by
    rw [← vecW_0]
    unfold growL
    simp [putL, reO, reA]
  rw [hgl] at hg
  repeat refine zS ?_
  refine zX ?_
  repeat refine zS ?_
  iterate 2 refine zX ?_
  refine oA hg ?_
  refine zX ?_
  repeat refine zS ?_
  iterate 3 refine zX ?_
  repeat refine zS ?_
  refine Run.loopT (fun i : Nat => ⟨PT.ofList [(3, .vs 2 1 0 cs.length), (9, .vs 0 1 0 cs.length), (10, .d (nI cs.length)), (11, .d (nI i))], obC cs ++ [vecW cs i], []⟩) (fun i => i ≤ cs.length) (fun i => cs.length - i) 0 (Nat.zero_le _) ?_ (fun i hi => ?_)
  · exact tidy_of _ 3 rfl rfl ⟨.inl rfl, .inl rfl, .inl rfl, .inl rfl, trivial⟩ ⟨rfl, rfl, rfl, rfl, trivial⟩ (obW_refs _ _ _ (by omega)) rfl
  · rcases Nat.lt_or_ge i cs.length with hil | hig
    · obtain ⟨c, hc⟩ := get_ok hil
      repeat refine zS ?_
      refine zV (lt_true hil) ?_
      repeat refine zS ?_
      refine zX ?_
      refine zCut (show AV.bp 0 (0 + ((i : Nat) : Int).toNat * 1) = .bp 0 i by rw [Int.toNat_natCast, Nat.zero_add, Nat.mul_one]) ?_
      refine oV (v := .d (nI c)) ?_ (hv := evAny_loadV (c := .d (nI c)) rfl rfl rfl rfl rfl (by simp [hc]))
      iterate 2 refine zX ?_
      repeat refine zS ?_
      iterate 3 refine zX ?_
      have hb : AV.d (.bool (decide (((c : Nat) : Int) ≠ 9223372036854775807))) = .d (.bool (neC c)) := by
        unfold neC cM
        congr 2
        by_cases h : c = 9223372036854775807
        · subst h; rfl
        · rw [decide_eq_true (by omega), decide_eq_false h]; rfl
      refine oV (v := .d (.bool (neC c))) ?_ (he := by
        unfold neC cM
        congr 2
        by_cases h : c = 9223372036854775807
        · subst h; rfl
        · rw [decide_eq_false h]; simp; omega)
      refine zCut (show AV.bp 2 (0 + ((i : Nat) : Int).toNat * 1) = .bp 2 i by rw [Int.toNat_natCast, Nat.zero_add, Nat.mul_one]) ?_
      refine oV (v := .d .any) (objs' := obC cs ++ [vecW cs (i + 1)]) ?_ (hv := evAny_storeV (c := .d (.bool (neC c))) rfl rfl rfl rfl rfl rfl rfl rfl (by simp; omega)) (ho := by rw [← vecW_s hc]; rfl)
      repeat refine zS ?_
      iterate 2 refine zX ?_
      refine RunOps.nil ?_
      exact ⟨i + 1, hil, by omega, tidy_of _ 3 rfl rfl ⟨.inl rfl, .inl rfl, .inl rfl, .inl (inc_get rfl (by omega)), trivial⟩ ⟨rfl, rfl, rfl, rfl, trivial⟩ (obW_refs _ _ _ (by omega)) rfl⟩
    · have hie : i = cs.length := by omega
      subst hie
      repeat refine zS ?_
      refine zV (lt_false (Nat.le_refl _)) ?_
      repeat refine zS ?_
      iterate 2 refine zX ?_
      repeat refine zS ?_
      refine Run.ret ?_
      exact ⟨trivial, _, _, rfl, rfl, .refl, wk_refl _⟩
theorem flat_bools : ∀ cs : List Nat, (flatD (cs.map fun c => DV.bool (neC c))).map AV.d = cs.map fun c => AV.d (.bool (neC c))
  | [] => rfl
  | c :: cs => congrArg (AV.d (.bool (neC c)) :: ·) (flat_bools cs)
def nulC (g : Gram) : List Nat := costsN 1 cM g.names.length (psN g)
theorem nulC_len {g : Gram} (h : checkF g = 0) : (nulC g).length = g.names.length :=
  (costs_ind (by decide) (Nat.le_refl _) (ps := psN g) (n := g.names.length) (fun _ => True) (fun _ _ _ _ _ => trivial) _ (cs0 _) (Nat.lt_succ_self _) trivial).1.len
theorem reachNullK {g : Gram} (h : checkF g = 0) (hf : Fits g) : KnownCall Try.prog 64 [encG g] (.tup [.d (.sl 1 ((nulC g).map fun c => .bool (neC c))), .d (.int .i64 0)]) := by
  have c := grCheck g hf
  rw [h] at c
  have v := valN h
  have hcl := nulC_len h
  have hA := costsA 1 cM (by decide) (Nat.le_refl _) (.int .i64 g.k) (strs g.tokens) (.str g.sep) (.int .i64 g.start) (g.names.map .str) g.names.length (by simp) v.n8 (psN g) v.ok (by have := v.len; omega)
  rw [← v.enc] at hA
  change ACall _ _ [.d (encG g), _, _] [] (.vs 0 1 0 g.names.length) (obC (nulC g)) at hA
  rw [← hcl] at hA
  have hW := whichA (nulC g) (by have := v.n8; omega)
  generalize nulC g = cs at *
  refine kF Try.func64 [1] fun w => ?_
  repeat refine zS ?_
  iterate 3 refine zX ?_
  repeat refine zS ?_
  refine zX ?_
  refine zC c ?_
  refine zX ?_
  repeat refine zS ?_
  iterate 2 refine zX ?_
  repeat refine zS ?_
  refine zX ?_
  refine oA hA ?_
  refine oA hW ?_
  iterate 2 refine zX ?_
  refine RunOps.nil ?_
  rw [vecW_n]
  refine Run.freezeVec 2 (es := cs.map fun c => .bool (neC c)) (n := cs.length) (sz := 1) (ag := false) (T := 4) (tm' := PT.ofList [(2, .d (.sl 1 (cs.map fun c => .bool (neC c)))), (3, .d (.int .i64 0))]) ?_ ?_ (by simp) (fun e he => by obtain ⟨x, _, rfl⟩ := List.mem_map.1 he; rfl) (ofList_cases (by intro q hq; simp only [List.mem_cons, List.not_mem_nil, or_false] at hq; rcases hq with rfl | rfl; exact .inr ⟨by kernel_rfl, rfl⟩; exact .inl (by kernel_rfl)))
  · repeat refine zS ?_
    exact zE rfl
  · rw [flat_bools]; rfl
theorem sumC_top {b : Nat} : sumC cM b = cM := by unfold sumC; rw [if_pos (.inl rfl)]
theorem sumC_top2 {a : Nat} : sumC a cM = cM := by unfold sumC; rw [if_pos (.inr (.inl rfl))]
theorem costP_top {te : Nat} {cs : List Nat} : ∀ {r : List Nat}, costP cM te cs r = cM
  | [] => rfl
  | s :: r => by
    show costP (sumC cM _) te cs r = cM
    rw [sumC_top]; exact costP_top
theorem costP_fin {cs : List Nat} : ∀ {r : List Nat} {it : Nat}, costP it cM cs r ≠ cM → ∀ s ∈ r, 16 ≤ s ∧ cs.getD (s - 16) 0 ≠ cM
  | [], _, _, s, hs => by cases hs
  | t :: r, it, h, s, hs => by
    change costP (sumC it (if t < 16 then cM else cs.getD (t - 16) 0)) cM cs r ≠ cM at h
    have key : 16 ≤ t ∧ cs.getD (t - 16) 0 ≠ cM := by
      rcases Nat.lt_or_ge t 16 with h1 | h1
      · rw [if_pos h1, sumC_top2, costP_top] at h; exact absurd rfl h
      · refine ⟨h1, fun e => ?_⟩
        rw [if_neg (by omega), e, sumC_top2, costP_top] at h; exact absurd rfl h
    rcases List.mem_cons.1 hs with rfl | hs
    · exact key
    · exact costP_fin h s hs
theorem costP_bd {cs : List Nat} {B : Nat} : ∀ {r : List Nat} {it : Nat}, (∀ s ∈ r, 16 ≤ s ∧ cs.getD (s - 16) 0 ≤ B) → it + r.length * B < cM → costP it cM cs r ≤ it + r.length * B
  | [], _, _, _ => by simp [costP]
  | t :: r, it, h, hb => by
    obtain ⟨h1, h2⟩ := h t (by simp)
    have e : (t :: r).length * B = B + r.length * B := by rw [List.length_cons, Nat.add_mul, Nat.one_mul, Nat.add_comm]
    rw [e] at hb ⊢
    have e2 : sumC it (if t < 16 then cM else cs.getD (t - 16) 0) = it + cs.getD (t - 16) 0 := by
      rw [if_neg (by omega)]
      unfold sumC
      rw [if_neg (by omega)]
    show costP (sumC it (if t < 16 then cM else cs.getD (t - 16) 0)) cM cs r ≤ _
    rw [e2]
    have := costP_bd (r := r) (it := it + cs.getD (t - 16) 0) (fun s hs => h s (by simp [hs])) (by omega)
    omega
def cntF : List Nat → Nat
  | [] => 0
  | c :: l => (if c = cM then 0 else 1) + cntF l
theorem cntF_le : ∀ l : List Nat, cntF l ≤ l.length
  | [] => Nat.le_refl _
  | c :: l => by have := cntF_le l; simp only [cntF, List.length_cons]; split <;> omega
theorem cntF_set : ∀ {l : List Nat} {i a : Nat}, i < l.length → cntF (l.set i a) + (if l.getD i 0 = cM then 0 else 1) = cntF l + (if a = cM then 0 else 1)
  | [], _, _, h => by simp at h
  | c :: l, 0, a, _ => by simp only [List.set_cons_zero, cntF, List.getD_cons_zero]; omega
  | c :: l, i + 1, a, h => by
    have := cntF_set (l := l) (i := i) (a := a) (by simpa using h)
    simp only [List.set_cons_succ, cntF, List.getD_cons_succ]; omega
theorem getDsetN {l : List Nat} {i j a : Nat} (h : i < l.length) : (l.set i a).getD j 0 = if j = i then a else l.getD j 0 := by
  rw [List.getD_eq_getElem?_getD, List.getD_eq_getElem?_getD]
  by_cases e : j = i
  · subst e; rw [List.getElem?_set_self h, if_pos rfl]; rfl
  · rw [List.getElem?_set_ne (Ne.symm e), if_neg e]
def SmC (cs : List Nat) : Prop := ∀ a, cs.getD a 0 ≠ cM → cs.getD a 0 ≤ 7 ^ cntF cs
theorem pow7 {m : Nat} (h : m ≤ 8) : 7 ^ (m + 1) < cM := by
  have : 7 ^ (m + 1) ≤ 7 ^ 9 := Nat.pow_le_pow_right (by omega) (by omega)
  have e : 7 ^ 9 < cM := by decide
  omega
theorem cost_small {cs : List Nat} (hc : SmC cs) (hl : cs.length ≤ 8) {r : List Nat} (hr : r.length ≤ 6) (h : ∀ s ∈ r, 16 ≤ s ∧ cs.getD (s - 16) 0 ≠ cM) : costP 1 cM cs r ≤ 7 ^ (cntF cs + 1) := by
  have h1 := Nat.pow_le_pow_right (n := 7) (by omega) (Nat.zero_le (cntF cs))
  have h2 : r.length * 7 ^ cntF cs ≤ 6 * 7 ^ cntF cs := Nat.mul_le_mul_right _ hr
  have h3 := pow7 (m := cntF cs) (Nat.le_trans (cntF_le cs) hl)
  rw [Nat.pow_succ] at h3 ⊢
  have := costP_bd (cs := cs) (B := 7 ^ cntF cs) (it := 1) (r := r) (fun s hs => ⟨(h s hs).1, hc _ (h s hs).2⟩) (by omega)
  omega
theorem sm_step {n : Nat} (hn : n ≤ 8) {ps : List (Nat × List Nat)} (hp : ∀ p ∈ ps, p.1 < n ∧ p.2.length ≤ 6) {cs cs' : List Nat} (hc : CsOK n cs) (h : SmC cs) (hs : stepC 1 cM ps cs = some cs') : SmC cs' := by
  obtain ⟨g1, _, p, hpm, rfl, hlt⟩ := step_ok (by decide) (Nat.le_refl _) hc hs
  obtain ⟨h1, h2⟩ := hp p hpm
  have hl := hc.len
  have hi : p.1 < cs.length := by omega
  have hv := hc.le cs[p.1] (List.getElem_mem hi)
  have hv2 : cs.getD p.1 0 = cs[p.1] := by rw [List.getD_eq_getElem?_getD, List.getElem?_eq_getElem hi]; rfl
  have hne : costP 1 cM cs p.2 ≠ cM := by omega
  have hct := cntF_set (a := costP 1 cM cs p.2) hi
  rw [if_neg hne] at hct
  intro a ha
  rw [getDsetN hi] at ha ⊢
  have hsm := cost_small h (by omega) h2 (costP_fin hne)
  by_cases e : a = p.1
  · rw [if_pos e]
    by_cases e2 : cs.getD p.1 0 = cM
    · rw [if_pos e2] at hct
      rw [show cntF (cs.set p.1 (costP 1 cM cs p.2)) = cntF cs + 1 by omega]
      exact hsm
    · rw [if_neg e2] at hct
      rw [show cntF (cs.set p.1 (costP 1 cM cs p.2)) = cntF cs by omega]
      have := h _ e2
      omega
  · rw [if_neg e] at ha ⊢
    exact Nat.le_trans (h a ha) (Nat.pow_le_pow_right (by omega) (by split at hct <;> omega))
theorem nil_fst {k : Nat} {S : Sets} : ∀ {r : List Nat} {B : List (List Nat)}, [] ∈ B → (∀ s ∈ r, 16 ≤ s ∧ [] ∈ S (s - 16)) → [] ∈ fstF k S B r
  | [], _, hb, _ => hb
  | s :: r, B, hb, h => by
    refine nil_fst (r := r) (B := ascOf (prs k B (syF S s))) (mem_asc.2 (mem_prs.2 ⟨[], hb, [], ?_, by simp⟩)) fun t ht => h t (by simp [ht])
    obtain ⟨h1, h2⟩ := h s (by simp)
    unfold syF
    rw [if_neg (by omega)]
    exact h2
theorem fst_nil {k : Nat} (hk : 1 ≤ k) {S : Sets} : ∀ {r : List Nat} {B : List (List Nat)}, (∀ s ∈ r, s < 8 ∨ 16 ≤ s) → [] ∈ fstF k S B r → [] ∈ B ∧ ∀ s ∈ r, 16 ≤ s ∧ [] ∈ S (s - 16)
  | [], _, _, h => ⟨h, by simp⟩
  | s :: r, B, hs, h => by
    obtain ⟨h1, h2⟩ := fst_nil hk (r := r) (fun t ht => hs t (by simp [ht])) h
    obtain ⟨x, hx, y, hy, e⟩ := mem_prs.1 (mem_asc.1 h1)
    have e1 : x = [] ∧ y = [] := by
      have : (x ++ y).take k = [] := e.symm
      rcases List.take_eq_nil_iff.1 this with h | h
      · omega
      · exact List.append_eq_nil_iff.1 h
    obtain ⟨rfl, rfl⟩ := e1
    refine ⟨hx, fun t ht => ?_⟩
    rcases List.mem_cons.1 ht with rfl | ht
    · unfold syF at hy
      split at hy
      · simp at hy
      · rename_i h8
        exact ⟨by rcases hs t (by simp) with h | h <;> omega, hy⟩
    · exact h2 t ht
theorem psN_len {g : Gram} (h : checkF g = 0) : ∀ p ∈ psN g, p.1 < g.names.length ∧ p.2.length ≤ 6 := fun p hp => by
  refine ⟨(valN h).ok.lt p hp, ?_⟩
  obtain ⟨q, hq, rfl⟩ := List.mem_map.1 hp
  rw [List.length_map]
  exact (many_zero (check_parts h).1).2.2.2 q hq
theorem nul_iff {g : Gram} (h : checkF g = 0) {a : Nat} (ha : a < g.names.length) : (nulC g).getD a 0 ≠ cM ↔ [] ∈ setsG g a := by
  have v := valN h
  have hpl := psN_len h
  have hclo := sets_clo v.k4 v.ok
  obtain ⟨h1, ⟨h2, h3⟩, h4⟩ := costs_ind (it := 1) (te := cM) (by decide) (Nat.le_refl _) (ps := psN g) (n := g.names.length) (fun cs => (∀ a, a < g.names.length → cs.getD a 0 ≠ cM → [] ∈ setsG g a) ∧ SmC cs) (fun cs cs' hc hq hs => by
    refine ⟨fun a ha hne => ?_, sm_step v.n8 hpl hc hq.2 hs⟩
    obtain ⟨_, _, p, hp, rfl, hlt⟩ := step_ok (by decide) (Nat.le_refl _) hc hs
    have hi : p.1 < cs.length := by have := hc.len; have := (hpl p hp).1; omega
    rw [getDsetN hi] at hne
    split at hne
    · rename_i e
      subst e
      refine hclo p hp [] (nil_fst (by simp) fun s hs => ?_)
      obtain ⟨g1, g2⟩ := costP_fin hne s hs
      refine ⟨g1, hq.1 _ ?_ g2⟩
      rcases v.ok.sy p hp s hs with h | h <;> omega
    · exact hq.1 a ha hne) _ (cs0 _) (Nat.lt_succ_self _) ⟨fun a ha hne => by
      rw [List.getD_eq_getElem?_getD, List.getElem?_eq_getElem (by simpa using ha)] at hne
      simp at hne, fun a hne => by
      rw [List.getD_eq_getElem?_getD] at hne ⊢
      cases e : (List.replicate g.names.length cM)[a]? with
      | none => simp
      | some c =>
        rw [e] at hne
        exact absurd (List.eq_of_mem_replicate (List.mem_of_getElem? e)) hne⟩
  change CsOK _ (nulC g) at h1
  change ∀ a, a < g.names.length → (nulC g).getD a 0 ≠ cM → [] ∈ setsG g a at h2
  change SmC (nulC g) at h3
  change stepC 1 cM (psN g) (nulC g) = none at h4
  refine ⟨h2 a ha, fun hm => ?_⟩
  have hsub : Sub (setsG g) (fun a => (setsG g a).filter fun x => decide (x ≠ [] ∨ (nulC g).getD a 0 ≠ cM)) := sets_least fun p hp x hx => by
    refine List.mem_filter.2 ⟨hclo p hp x (fst_mono (fun a x hx => (List.mem_filter.1 hx).1) (fun _ h => h) x hx), decide_eq_true ?_⟩
    by_cases hx0 : x = []
    · subst hx0
      right
      obtain ⟨_, h5⟩ := fst_nil v.k1 (fun s hs => by rcases v.ok.sy p hp s hs with h | h <;> omega) hx
      have h6 : ∀ s ∈ p.2, 16 ≤ s ∧ (nulC g).getD (s - 16) 0 ≠ cM := fun s hs => by
        obtain ⟨g1, g2⟩ := h5 s hs
        refine ⟨g1, ?_⟩
        have := (List.mem_filter.1 g2).2
        simpa using this
      have h7 := cost_small h3 (by rw [h1.len]; exact v.n8) (hpl p hp).2 h6
      have h8 := pow7 (m := cntF (nulC g)) (Nat.le_trans (cntF_le _) (by rw [h1.len]; exact v.n8))
      have h9 : ¬ costP 1 cM (nulC g) p.2 < (nulC g).getD p.1 0 := fun hlt => by
        unfold stepC at h4
        split at h4
        · rename_i hf
          have := List.find?_eq_none.1 hf p hp
          simp only [decide_eq_true_eq] at this
          exact this hlt
        · cases h4
      omega
    · exact .inl hx0
  have := (List.mem_filter.1 (hsub a [] hm)).2
  simpa using this
def empF (g : Gram) (l : List Nat) : Bool := l.all fun s => decide (16 ≤ s) && neC ((nulC g).getD (s - 16) 0)
theorem emp_iff {g : Gram} (h : checkF g = 0) {l : List Nat} (hl : ∀ s ∈ l, SymN g.names.length s) : empF g l = decide ([] ∈ foN g l) := by
  have v := valN h
  have key : empF g l = true ↔ [] ∈ foN g l := by
    unfold empF foN
    rw [List.all_eq_true]
    constructor
    · intro hh
      refine nil_fst (by simp) fun s hs => ?_
      have h1 := hh s hs
      simp only [Bool.and_eq_true, decide_eq_true_eq, neC, Bool.not_eq_true', decide_eq_false_iff_not] at h1
      refine ⟨h1.1, (nul_iff h ?_).1 h1.2⟩
      rcases hl s hs with h | h <;> omega
    · intro hh s hs
      obtain ⟨_, h5⟩ := fst_nil v.k1 (fun s hs => by rcases hl s hs with h | h <;> omega) hh
      obtain ⟨g1, g2⟩ := h5 s hs
      simp only [Bool.and_eq_true, decide_eq_true_eq, neC, Bool.not_eq_true', decide_eq_false_iff_not]
      exact ⟨g1, (nul_iff h (by rcases hl s hs with h | h <;> omega)).2 g2⟩
  cases e : empF g l with
  | true => rw [decide_eq_true (key.1 e)]
  | false => rw [decide_eq_false fun h => by rw [key.2 h] at e; cases e]
set_option maxHeartbeats 1000000 in
theorem reachEmptyK {g : Gram} (h : checkF g = 0) (hf : Fits g) {l : List Nat} (hl : GdN g l) : KnownCall Try.prog 41 [encG g, .sl 1 (l.map nI)] (.tup [.d (.bool (empF g l)), .d (.int .i64 0)]) := by
  have c := reachNullK h hf
  have hcl := nulC_len h
  have v := valN h
  have hn8 := v.n8
  have ht8 := v.t8
  have hll : (l.map nI).length = l.length := by simp
  have hbl : ((nulC g).map fun c => DV.bool (neC c)).length = g.names.length := by simp [hcl]
  have htk : (g.tokens.map DV.str).length = g.tokens.length := by simp
  have hl100 := hl.1
  refine kF Try.func41 [2] fun w => ?_
  repeat' (first
    | refine zW ?_
    | refine zB ?_ ?_ <;> intro h <;> try exact zk h
    | refine zC (c) ?_
    | ((exfalso; simp at h; done))
    | fail)
  refine Run.loopT (fun i : Nat => ⟨PT.ofList [(2, .d (.ep [.int .i64 g.k, strs g.tokens, .str g.sep, strs g.names, .int .i64 g.start, .sl 2 (g.prods.map encP)])), (6, .d (.sl 1 ((nulC g).map fun c => DV.bool (neC c)))), (8, .d (.bool (empF g (l.take i)))), (20, .d (.sl 1 (l.map nI))), (21, .d (nI (l.map nI).length)), (22, .d (nI i))], [], []⟩) (fun i => i ≤ l.length) (fun i => l.length - i) 0 (Nat.zero_le _) (ti _ 0) (fun i hi => ?_)
  rcases Nat.lt_or_ge i l.length with hil | hig
  · obtain ⟨s, hs⟩ := get_ok hil
    have hgs := hl.2 s (List.mem_of_getElem? hs)
    have hemp : empF g (l.take (i + 1)) = (empF g (l.take i) && (decide (16 ≤ s) && neC ((nulC g).getD (s - 16) 0))) := by
      unfold empF
      rw [List.take_add_one, hs, List.all_append]
      simp
    have hgood : s < g.tokens.length ∧ s < 16 ∨ 16 ≤ s ∧ s - 16 < g.names.length := by
      simp only [goodS, isTerm, isNonterm, Bool.or_eq_true, Bool.and_eq_true, decide_eq_true_eq] at hgs
      omega
    generalize hbb : empF g (l.take i) = b0
    rw [hbb] at hemp
    have tdy : ∀ (tm : PT AV), tm.get? 2 = some (.d (.ep [.int .i64 g.k, strs g.tokens, .str g.sep, strs g.names, .int .i64 g.start, .sl 2 (g.prods.map encP)])) → tm.get? 6 = some (.d (.sl 1 ((nulC g).map fun c => DV.bool (neC c)))) → tm.get? 8 = some (.d (.bool (empF g (l.take (i + 1))))) → tm.get? 20 = some (.d (.sl 1 (l.map nI))) → tm.get? 21 = some (.d (nI (l.map nI).length)) → tm.get? 22 = some (.d (.int .i64 (IntKind.i64.wrap (((i : Nat) : Int) + 1)))) → Tidy 0 ⟨tm, [], []⟩ ⟨PT.ofList [(2, .d (.ep [.int .i64 g.k, strs g.tokens, .str g.sep, strs g.names, .int .i64 g.start, .sl 2 (g.prods.map encP)])), (6, .d (.sl 1 ((nulC g).map fun c => DV.bool (neC c)))), (8, .d (.bool (empF g (l.take (i + 1))))), (20, .d (.sl 1 (l.map nI))), (21, .d (nI (l.map nI).length)), (22, .d (nI (i + 1)))], [], []⟩ := fun tm h1 h2 h3 h4 h5 h6 =>
      tidy_of _ 0 rfl rfl ⟨.inl h1, .inl h2, .inl h3, .inl h4, .inl h5, .inl (inc_get h6 (by omega)), trivial⟩ ⟨rfl, rfl, rfl, rfl, rfl, rfl, trivial⟩ rfl rfl
    repeat refine zS ?_
    refine zV (lt_true (show i < (l.map nI).length by omega)) ?_
    repeat refine zS ?_
    refine zI w (.d (.ep [nI s])) hs ?_
    iterate 2 refine zX ?_
    repeat refine zS ?_
    refine zX ?_
    rcases hgood with ⟨g1, g3⟩ | ⟨g1, g2⟩
    · have hw : AV.d (.int .i64 (IntKind.i64.wrap (((s : Nat) : Int) - 16))) = .d (.int .i64 ((s : Int) - 16)) := by
        rw [wrap64 (by omega) (by omega)]
      refine zV hw ?_
      refine zX ?_
      repeat refine zS ?_
      refine zX ?_
      refine zV (show AV.d (.bool (decide ((s : Int) - 16 ≥ 0))) = .d (.bool false) by rw [decide_eq_false (by omega)]) ?_
      repeat' (first
        | refine zW ?_
        | refine zB ?_ ?_ <;> intro h <;> try exact zk h
        | ((exfalso; simp at h'; omega))
        | ((exfalso; simp at h; omega))
        | fail)
      have e : empF g (l.take (i + 1)) = false := by rw [hemp, decide_eq_false (by omega)]; simp
      exact ⟨i + 1, hil, by omega, tdy _ rfl rfl (by rw [e]; rfl) rfl rfl rfl⟩
    · have hw : AV.d (.int .i64 (IntKind.i64.wrap (((s : Nat) : Int) - 16))) = .d (nI (s - 16)) := by
        congr 2; rw [show ((s : Nat) : Int) - 16 = ((s - 16 : Nat) : Int) by omega]; exact wrap_nat (by omega)
      obtain ⟨c, hc⟩ := get_ok (show s - 16 < (nulC g).length by omega)
      have hcd : (nulC g).getD (s - 16) 0 = c := by rw [List.getD_eq_getElem?_getD, hc]; rfl
      rw [hcd, decide_eq_true g1, Bool.true_and] at hemp
      refine zV hw ?_
      refine zX ?_
      repeat refine zS ?_
      refine zX ?_
      refine zV (show AV.d (.bool (decide (((s - 16 : Nat) : Int) ≥ 0))) = .d (.bool true) by rw [decide_eq_true (by omega)]) ?_
      iterate 4 refine zX ?_
      refine zV (lt_true (show s - 16 < ((nulC g).map fun c => DV.bool (neC c)).length by omega)) ?_
      iterate 2 refine zX ?_
      repeat refine zS ?_
      cases b0 with
      | true =>
        rw [Bool.true_and] at hemp
        iterate 4 refine zX ?_
        refine zI w (.d (.ep [.bool (neC c)])) hc ?_
        iterate 3 refine zX ?_
        repeat refine zS ?_
        iterate 2 refine zX ?_
        refine RunOps.nil ?_
        exact ⟨i + 1, hil, by omega, tdy _ rfl rfl (by rw [hemp]; rfl) rfl rfl rfl⟩
      | false =>
        rw [Bool.false_and] at hemp
        repeat' (first
          | refine zW ?_
          | refine zB ?_ ?_ <;> intro h <;> try exact zk h
          | (fail)
          | fail)
        exact ⟨i + 1, hil, by omega, tdy _ rfl rfl (by rw [hemp]; rfl) rfl rfl rfl⟩
  · have hie : i = l.length := by omega
    subst hie
    rw [List.take_length]
    repeat refine zS ?_
    refine zV (lt_false (show (l.map nI).length ≤ l.length by omega)) ?_
    repeat' (first
      | refine zW ?_
      | refine zB ?_ ?_ <;> intro h <;> try exact zk h
      | rfl
      | (fail)
      | fail)
theorem fNullK {g : Gram} (h : checkF g = 0) (hf : Fits g) {l : List Nat} (hl : GdN g l) : KnownCall Try.prog 20 [encG g, .sl 1 (l.map nI)] (.tup [.d (.bool (decide ([] ∈ foN g l))), .d (.int .i64 0)]) := by
  have c := checkFst g hf (l.map fun s : Nat => (s : Int)) (by rw [List.length_map]; have := hl.1; omega)
  rw [chk_good h hl.good (by rw [List.length_map]; exact hl.1), ints_cast] at c
  have e := reachEmptyK h hf hl
  rw [emp_iff h (hl.sy h)] at e
  refine kF Try.func20 [2] fun w => ?_
  repeat' (first
    | refine zW ?_
    | refine zB ?_ ?_ <;> intro h <;> try exact zk h
    | refine zC (c) ?_
    | refine zC (e) ?_
    | rfl
    | ((exfalso; simp at h'; done))
    | fail)
set_option maxHeartbeats 1000000 in
theorem fHasK {g : Gram} (h : checkF g = 0) (hf : Fits g) {l : List Nat} (hl : GdN g l) (x : List Nat) (hx : x.length ≤ 4) (hc : chkL x g.tokens.length = 0) :
    KnownCall Try.prog 22 [encG g, .sl 1 (l.map nI), lk x] (.tup [.d (.bool (decide (x ∈ foN g l))), .d (.int .i64 0)]) := by
  have c := checkFst g hf (l.map fun s : Nat => (s : Int)) (by rw [List.length_map]; have := hl.1; omega)
  rw [chk_good h hl.good (by rw [List.length_map]; exact hl.1), ints_cast] at c
  have hO := ofG h l (hl.sy h) (by have := hl.1; omega)
  have hM := ofO_at g l
  have c2 := checkK x hx g.tokens.length
  rw [hc] at c2
  generalize hofo : ofO g l = Z at hO hM
  generalize hofi : ofI g l = ix at hO hM
  generalize foN g l = A at *
  refine kF Try.func22 [3, 5] fun w => ?_
  repeat refine zS ?_
  iterate 4 refine zX ?_
  repeat refine zS ?_
  iterate 2 refine zX ?_
  refine zC c ?_
  refine zX ?_
  repeat refine zS ?_
  iterate 2 refine zX ?_
  repeat refine zS ?_
  iterate 3 refine zX ?_
  refine zV (show AV.d (.int .i64 (((g.tokens.map DV.str).length : Nat) : Int)) = .d (.int .i64 (g.tokens.length : Int)) by rw [List.length_map]) ?_
  refine zC c2 ?_
  refine zX ?_
  repeat refine zS ?_
  iterate 2 refine zX ?_
  repeat refine zS ?_
  refine Run.drawC (frz := [3, 5]) Et_ok (by kernel_rfl) [] ?_
  refine cX ?_
  refine cAll (setsK h) ?_
  refine cX ?_
  refine cAll hO ?_
  refine cX ?_
  refine cX (v := .d (.bool (decide (x ∈ A)))) ?_ (hv := evAny_hasPm rfl rfl rfl hM rfl hx)
  refine cX ?_
  refine cX ?_
  refine EvC.nil ⟨draw2 (by kernel_rfl), trivial, ?_⟩
  repeat refine zS ?_
  exact zE rfl
theorem fHasBad {g : Gram} (h : checkF g = 0) (hf : Fits g) {l : List Nat} (hl : GdN g l) (x : List Nat) (hx : x.length ≤ 4) (hc : chkL x g.tokens.length ≠ 0) :
    KnownCall Try.prog 22 [encG g, .sl 1 (l.map nI), lk x] (.tup [.d (.bool false), .d (.int .i64 (chkL x g.tokens.length))]) := by
  have c := checkFst g hf (l.map fun s : Nat => (s : Int)) (by rw [List.length_map]; have := hl.1; omega)
  rw [chk_good h hl.good (by rw [List.length_map]; exact hl.1), ints_cast] at c
  have c2 := checkK x hx g.tokens.length
  generalize chkL x g.tokens.length = e at *
  refine kF Try.func22 [3, 5] fun w => ?_
  repeat refine zS ?_
  iterate 4 refine zX ?_
  repeat refine zS ?_
  iterate 2 refine zX ?_
  refine zC c ?_
  refine zX ?_
  repeat refine zS ?_
  iterate 2 refine zX ?_
  repeat refine zS ?_
  iterate 3 refine zX ?_
  refine zV (show AV.d (.int .i64 (((g.tokens.map DV.str).length : Nat) : Int)) = .d (.int .i64 (g.tokens.length : Int)) by rw [List.length_map]) ?_
  refine zC c2 ?_
  refine zX ?_
  repeat refine zS ?_
  refine zX ?_
  refine zV (show AV.d (.bool (e != 0)) = .d (.bool true) by simp [hc]) ?_
  repeat' (first
    | refine zW ?_
    | refine zB ?_ ?_ <;> intro h <;> try exact zk h
    | refine zX ?_
    | rfl
    | (fail)
    | fail)
theorem fOfErr {g : Gram} (hf : Fits g) {l : List Int} (hl : l.length ≤ 1048576) (h : chkFs g l ≠ 0) : KnownCall Try.prog 9 [encG g, ints l] (.tup [.d .nilsl, .d (.int .i64 (chkFs g l))]) := by
  have c := checkFst g hf l hl
  generalize chkFs g l = e at *
  refine kF Try.func9 [2] fun w => ?_
  repeat refine zS ?_
  iterate 3 refine zX ?_
  repeat refine zS ?_
  iterate 2 refine zX ?_
  refine zC c ?_
  refine zX ?_
  repeat refine zS ?_
  refine zX ?_
  refine zV (show AV.d (.bool (e != 0)) = .d (.bool true) by simp [h]) ?_
  repeat' (first
    | refine zW ?_
    | refine zB ?_ ?_ <;> intro h <;> try exact zk h
    | rfl
    | (fail)
    | fail)
theorem known_argL {P : Program} {f : FuncId} {x y z : DV} {r : AV} (h : KnownCall P f [y, z] r) (hn : DvN x y) : KnownCall P f [x, z] r := by
  intro o
  refine ⟨(h o).1, fun D β w vs hp hv => (h o).2 D β w vs hp ⟨hv.1, fun j c v hc hw => ?_⟩⟩
  match j, hc with
  | 0, hc =>
    simp at hc
    subst hc
    have := hv.2 0 _ v rfl hw
    cases this with
    | d k => exact .d (hn.rep k)
  | 1, hc => exact hv.2 1 c v hc hw
  | j + 2, hc => simp at hc
theorem exS : SmG exG := ⟨exV, ex_fits, by decide⟩
theorem fallE : fallN exG = exL := by unfold fallN; rw [setsGE]; rfl
set_option maxHeartbeats 4000000 in
theorem lawFK : KnownCall Try.prog 5 [] (.d (.bool true)) := by
  have hex := exampleK
  have n1 := fNullK exV ex_fits (l := [16, 16]) ⟨by decide, by decide⟩
  have n2 := fNullK exV ex_fits (l := [17]) ⟨by decide, by decide⟩
  rw [foE, decide_eq_true (by decide)] at n1
  rw [foE, decide_eq_false (by decide)] at n2
  have a1 := hasE [0, 16] (by decide) (by decide) (by rw [foE]; decide) [[0], [0, 0]]
  have a2 := known_argL (x := .nilsl) (hasE [] (by decide) (by decide) (by rw [foE]; decide) [[]]) .nil
  have a3 := hasE [16, 16] (by decide) (by decide) (by rw [foE]; decide) [[], [0, 0], [0, 1]]
  rw [foE, decide_eq_true (by decide)] at a1 a2 a3
  have i0 := is0
  have i1 := is1 0
  have i2 := is2 0 0
  have i3 := is2 0 1
  have i4 := is1 2
  have h1 := fHasK exV ex_fits (l := [16]) ⟨by decide, by decide⟩ [0, 1] (by decide) (by decide)
  have h2 := fHasK exV ex_fits (l := [16]) ⟨by decide, by decide⟩ [0] (by decide) (by decide)
  have h3 := fHasBad exV ex_fits (l := [16]) ⟨by decide, by decide⟩ [2] (by decide) (by decide)
  rw [show chkL [2] (exG.tokens.length : Int) = 14 by decide] at h3
  rw [foE, decide_eq_true (by decide)] at h1
  rw [foE, decide_eq_false (by decide)] at h2
  have c1 := fCountN exS (l := [17]) ⟨by decide, by decide⟩
  rw [foE, show (fstF 2 (tabL exL) [[]] [17]).length = 4 by decide] at c1
  have e0 : chkFs exG [18] = 14 := by unfold chkFs; rw [if_neg (by simp [exV]), if_neg (by decide), if_neg (by decide)]
  have o1 := fOfErr ex_fits (l := [18]) (by decide) (by rw [e0]; decide)
  rw [e0] at o1
  have al := fAllK exV ex_fits fun a => by have := exS.slen a; omega
  rw [fallE] at al
  have hw := awakeK
  refine kF Try.func5 [18, 24, 28, 29, 31, 33, 38, 43, 45, 47, 49, 70, 71, 78, 79, 86, 87, 94, 100] fun w => ?_
  repeat refine zS ?_
  refine zX ?_
  repeat refine zS ?_
  refine zC hex ?_
  iterate 2 refine zX ?_
  refine RunOps.nil ?_
  refine Run.dropLastD (m := 0) (dl := []) (O := []) (ds := [.int .i64 exG.k, strs exG.tokens, .str exG.sep, strs exG.names, .int .i64 exG.start, .sl 2 (exG.prods.map encP)]) [(1, .d (.ep [.int .i64 exG.k, strs exG.tokens, .str exG.sep, strs exG.names, .int .i64 exG.start, .sl 2 (exG.prods.map encP)]))] ?_ (Nat.zero_le _) rfl rfl (ofList_cases (by intro q hq; simp only [List.mem_cons, List.not_mem_nil, or_false] at hq; rcases hq with rfl; exact .inr ⟨0, Nat.zero_le _, by kernel_rfl, rfl⟩)) ⟨rfl, trivial⟩
  repeat' (first
    | refine zW ?_
    | refine zB ?_ ?_ <;> intro h <;> try exact zk h
    | refine zX ?_
    | refine zC (n1) ?_
    | refine zC (n2) ?_
    | refine zC (i0) ?_
    | refine zC (i1) ?_
    | refine zC (i2) ?_
    | refine zC (i3) ?_
    | refine zC (i4) ?_
    | refine zK (a1) ?_ ?_ <;> intro h <;> try exact zk h
    | refine zC (a1) ?_
    | refine zK (a2) ?_ ?_ <;> intro h <;> try exact zk h
    | refine zC (a2) ?_
    | refine zK (a3) ?_ ?_ <;> intro h <;> try exact zk h
    | refine zC (a3) ?_
    | refine zC (h1) ?_
    | refine zC (h2) ?_
    | refine zC (h3) ?_
    | refine zC (c1) ?_
    | refine zC (o1) ?_
    | refine zC (al) ?_
    | refine zK (hw) ?_ ?_ <;> intro h <;> try exact zk h
    | refine zC (hw) ?_
    | rfl
    | ((exfalso; simp at h; done))
    | ((exfalso; simp [exL] at h; done))
    | fail)
end Go.Av
end

/-
  Parts of the way to the law, joined. Conditions stand at each.
-/
import Derived.Test.YtbbdpddeabojgaaTc4
import Derived.Test.YtbbdpddeabojgaaTc5
import Derived.Test.YtbbdpddeabojgaaTc3
set_option linter.all false
noncomputable section
namespace Go.Av
open Go Go.Proofs
set_option maxRecDepth 10000
theorem known_to3 {P : Program} {f : FuncId} {ds : List DV} {a b c a' b' : DV} (h : KnownCall P f ds (.tup [.d a, .d b, .d c])) (ha : DvTo a a') (hb : DvTo b b') : KnownCall P f ds (.tup [.d a', .d b', .d c]) := by
  intro o
  refine ⟨(h o).1, fun D β w vs hp hv => ((h o).2 D β w vs hp hv).mono fun e w' he => ?_⟩
  rcases he with ⟨v, D', β', rfl, hs, hv⟩ | ⟨z, v, D', β', hz, rfl, hs, hrep⟩
  · refine .inl ⟨v, D', β', rfl, hs, ?_⟩
    cases hv with
    | tup hs hr =>
      refine .tup (by simpa using hs) fun j c v hc hv => ?_
      rcases j with _ | _ | _ | j
      · simp at hc; subst hc
        have := hr 0 (.d _) v rfl hv
        cases this with
        | d k => exact .d (ha.rep k)
      · simp at hc; subst hc
        have := hr 1 (.d _) v rfl hv
        cases this with
        | d k => exact .d (hb.rep k)
      · simp at hc; subst hc
        exact hr 2 (.d _) v rfl hv
      · simp at hc
  · cases hz
theorem trStringsE (N : List Nd) (k t e : Int) (he : e ≠ 0) (hcc : KnownCall Try.prog 21 [iI k, iI t, iI 24, trD N] (.d (iI e))) : KnownCall Try.prog 25 [iI k, iI t, trD N] (.tup [.d (.sl 5 []), .d (.sl 1 []), .d (iI e)]) := by
  refine known_to3 (a := .nilsl) (b := .nilsl) ?_ .nil .nil
  refine kF Try.func25 [5] fun w => ?_
  repeat' (first
    | refine zW ?_
    | refine zB ?_ ?_ <;> intro h <;> try exact zk h
    | refine zC (hcc) ?_
    | rfl
    | ((exfalso; simp [he] at h <;> fail))
    | fail)
theorem refStringsE (N : List Nd) (k t e : Int) (he : e ≠ 0) (hcc : KnownCall Try.prog 22 [iI k, iI t, iI 24, trD N] (.d (iI e))) : KnownCall Try.prog 26 [iI k, iI t, trD N] (.tup [.d (.sl 5 []), .d (.sl 1 []), .d (iI e)]) := by
  refine known_to3 (a := .nilsl) (b := .nilsl) ?_ .nil .nil
  refine kF Try.func26 [5] fun w => ?_
  repeat' (first
    | refine zW ?_
    | refine zB ?_ ?_ <;> intro h <;> try exact zk h
    | refine zC (hcc) ?_
    | rfl
    | ((exfalso; simp [he] at h <;> fail))
    | fail)
theorem asc_ne {E : List (List Nat × Int)} (h : ascE E) {i j : Nat} {a b : List Nat × Int} (hi : E[i]? = some a) (hj : E[j]? = some b) (hne : i ≠ j) : a.1 ≠ b.1 := by
  have hp := List.pairwise_iff_getElem.1 h
  obtain ⟨hi1, hi2⟩ := List.getElem?_eq_some_iff.1 hi
  obtain ⟨hj1, hj2⟩ := List.getElem?_eq_some_iff.1 hj
  intro e
  rcases Nat.lt_or_ge i j with h1 | h1
  · have := hp i j hi1 hj1 h1
    rw [hi2, hj2, e] at this
    exact cmpL_irr this
  · have := hp j i hj1 hi1 (by omega)
    rw [hi2, hj2, e] at this
    exact cmpL_irr this
set_option maxHeartbeats 8000000 in
theorem refStringsK (N : List Nd) (h9 : N9 N) (hl : N.length ≤ 1000) (k : Int) (t : Nat) (h1 : 1 ≤ t) (h8 : t ≤ 8) (hcc : KnownCall Try.prog 22 [iI k, nI t, iI 24, trD N] (.d (iI 0))) (E : List (List Nat × Int)) (hE : entF N N.length 0 [] N.length = some (E, 0)) (hs : ascE E) (hR : ∀ e ∈ E, Rt e.1 ∧ ∀ u ∈ e.1, u < t) :
    KnownCall Try.prog 26 [iI k, nI t, trD N] (.tup [.d (.sl 5 (E.map fun e => lk e.1)), .d (.sl 1 (E.map fun e => iI e.2)), .d (iI 0)]) := by
  have cb := belowK N h9 hl
  rw [hE] at cb
  unfold belV at cb
  simp only [decide_true] at cb
  have hEl : E.length ≤ 1000 := by have := entF_le hE; simp only at this; omega
  have hem : (E.map lf).length = E.length := by simp
  have co := ofA t h1 h8 (E.map (·.1)) (fun x hx => by
    obtain ⟨e, he, rfl⟩ := List.mem_map.1 hx
    exact hR e he) (List.pairwise_map.2 hs) (by simp; omega)
  have hlk : lks (E.map (·.1)) = .sl 5 (E.map fun e => lk e.1) := by simp [lks, Function.comp_def]
  rw [hlk] at co
  refine kF Try.func26 [5] fun w => ?_
  have w : Fz [5] := trivial
  repeat' (first
    | refine zW ?_
    | refine zB ?_ ?_ <;> intro h <;> try exact zk h
    | refine zC (hcc) ?_
    | refine zC (cb) ?_
    | (fail)
    | fail)
  refine Run.mkRoom 12 5 [(1, .d (nI t)), (10, .d (.sl 6 (E.map lf))), (12, .sr 0 5 []), (13, .d (nI 0))] (by kernel_rfl) (ofList_cases (by intro p hp; simp only [List.mem_cons, List.not_mem_nil, or_false] at hp; rcases hp with rfl | rfl | rfl | rfl <;> first | exact .inl ⟨rfl, rfl⟩ | exact .inr (by kernel_rfl))) ?_
  refine Run.loopT (fun x : Nat × List DV => ⟨PT.ofList [(1, .d (nI t)), (10, .d (.sl 6 (E.map lf))), (12, .sr 0 5 x.2), (13, .d (nI x.1))], [.room x.2.length 5], []⟩) (fun x => x.1 ≤ E.length ∧ x.2 = (E.take x.1).map fun e => lk e.1) (fun x => E.length - x.1) (0, []) ⟨Nat.zero_le _, rfl⟩ (ti _ 1) (fun ⟨i, A⟩ ⟨hi, hA⟩ => ?_)
  simp only at hi hA
  have hal : A.length ≤ 1000 := by rw [hA, List.length_map, List.length_take]; omega
  rcases Nat.lt_or_ge i E.length with hlt | hge
  · obtain ⟨e, he⟩ := get_ok hlt
    have hn2 : A ++ [lk e.1] = (E.take (i + 1)).map fun e => lk e.1 := by rw [hA, List.take_add_one, he]; simp
    repeat' (first
      | refine zW ?_
      | refine zB ?_ ?_ <;> intro h <;> try exact zk h
      | refine zI w (.d (.ep (lfC e))) he ?_
      | refine zAp ?_
      | (exact ⟨(i + 1, A ++ [lk e.1]), ⟨hlt, hn2⟩, by simp only; omega, (ti _ 1 (Eq.trans (b := [.room (A.length + 1) 5]) rfl (by simp)))⟩)
      | ((exfalso; first | (simp [hem] at h <;> omega) | omega))
      | fail)
  · have hie : i = E.length := by omega
    subst hie
    rw [List.take_length] at hA
    subst hA
    repeat refine zS ?_
    iterate 3 refine zX ?_
    refine zV (lt_false (show (E.map lf).length ≤ E.length by rw [hem]; exact Nat.le_refl _)) ?_
    repeat refine zS ?_
    refine RunOps.tidy (s' := ⟨PT.ofList [(1, .d (nI t)), (10, .d (.sl 6 (E.map lf))), (12, .d (.sl 5 (E.map fun e => lk e.1)))], [], []⟩) (ti _ 0) ?_
    repeat' (first
      | refine zW ?_
      | refine zB ?_ ?_ <;> intro h <;> try exact zk h
      | refine zC (co) ?_
      | (fail)
      | fail)
    refine Run.mkRoom 14 1 [(10, .d (.sl 6 (E.map lf))), (12, .d (.sl 5 (E.map fun e => lk e.1))), (14, .sr 0 1 []), (15, .d (nI 0))] (by kernel_rfl) (ofList_cases (by intro p hp; simp only [List.mem_cons, List.not_mem_nil, or_false] at hp; rcases hp with rfl | rfl | rfl | rfl <;> first | exact .inl ⟨rfl, rfl⟩ | exact .inr (by kernel_rfl))) ?_
    have hlm : (E.map fun e => lk e.1).length = E.length := by simp
    refine Run.loopT (fun x : Nat × List DV => ⟨PT.ofList [(10, .d (.sl 6 (E.map lf))), (12, .d (.sl 5 (E.map fun e => lk e.1))), (14, .sr 0 1 x.2), (15, .d (nI x.1))], [.room x.2.length 1], []⟩) (fun x => x.1 ≤ E.length ∧ x.2 = (E.take x.1).map fun e => iI e.2) (fun x => E.length - x.1) (0, []) ⟨Nat.zero_le _, rfl⟩ (ti _ 1) (fun ⟨i, A⟩ ⟨hi, hA⟩ => ?_)
    simp only at hi hA
    rcases Nat.lt_or_ge i E.length with hlt | hge
    · obtain ⟨e, he⟩ := get_ok hlt
      have hn2 : A ++ [iI e.2] = (E.take (i + 1)).map fun e => iI e.2 := by rw [hA, List.take_add_one, he]; simp
      have hal : A.length ≤ 1000 := by rw [hA, List.length_map, List.length_take]; omega
      have hel : (E.map fun e => lk e.1)[i]? = some (lk e.1) := by rw [List.getElem?_map, he]; rfl
      have he4 := (hR e (List.mem_of_getElem? he)).1.len
      repeat' (first
        | refine zW ?_
        | refine zB ?_ ?_ <;> intro h <;> try exact zk h
        | ((exfalso; first | (simp [hlm] at h <;> omega) | omega))
        | fail)
      refine Run.loopT (fun x : Nat × List DV => ⟨PT.ofList [(10, .d (.sl 6 (E.map lf))), (12, .d (.sl 5 (E.map fun e => lk e.1))), (14, .sr 0 1 x.2), (15, .d (nI i)), (16, .d (nI x.1))], [.room x.2.length 1], []⟩) (fun x => x.1 ≤ E.length ∧ ((x.1 ≤ i ∧ x.2 = A) ∨ (i < x.1 ∧ x.2 = A ++ [iI e.2]))) (fun x => E.length - x.1) (0, A) ⟨Nat.zero_le _, .inl ⟨Nat.zero_le _, rfl⟩⟩ (ti _ 1) (fun ⟨j, F⟩ ⟨hj, hF⟩ => ?_)
      simp only at hj hF
      have hfl : F.length ≤ 1001 := by
        rcases hF with ⟨_, h⟩ | ⟨_, h⟩
        · rw [h]; omega
        · rw [h, List.length_append, List.length_cons, List.length_nil]; omega
      rcases Nat.lt_or_ge j E.length with hjl | hjg
      · obtain ⟨q, hq⟩ := get_ok hjl
        by_cases hij : i = j
        · subst hij
          rw [hq] at he
          cases he
          have hF2 : F = A := by
            rcases hF with ⟨_, h⟩ | ⟨h, _⟩
            · exact h
            · omega
          repeat' (first
            | refine zW ?_
            | refine zB ?_ ?_ <;> intro h <;> try exact zk h
            | refine zI w (.d (.ep (lfC e))) hq ?_
            | refine zI w (.d (.ep (lkC e.1))) hel ?_
            | refine zI w (.d (.ep (lfC e))) hq ?_
            | refine zAp ?_
            | (exact ⟨(i + 1, F ++ [iI e.2]), ⟨hjl, .inr ⟨Nat.lt_succ_self _, by rw [hF2]⟩⟩, by simp only; omega, (ti _ 1 (Eq.trans (b := [.room (F.length + 1) 1]) rfl (by simp)))⟩)
            | ((exfalso; first | (simp [hem] at h <;> omega) | omega))
            | fail)
        · have hxy := asc_ne hs hq he (fun e => hij e.symm)
          have hF2 : (j + 1 ≤ i ∧ F = A) ∨ (i < j + 1 ∧ F = A ++ [iI e.2]) := by
            rcases hF with ⟨h1, h2⟩ | ⟨h1, h2⟩
            · exact .inl ⟨by omega, h2⟩
            · exact .inr ⟨by omega, h2⟩
          have hq4 := (hR q (List.mem_of_getElem? hq)).1.len
          repeat' (first
            | refine zW ?_
            | refine zB ?_ ?_ <;> intro h <;> try exact zk h
            | refine zI w (.d (.ep (lfC q))) hq ?_
            | refine zI w (.d (.ep (lkC e.1))) hel ?_
            | ((exfalso; simp only [Bool.and_eq_true, beq_iff_eq] at h; exact hxy (lk_inj hq4 (by omega) (by omega) (by omega) (by omega) (by omega))))
            | (exact ⟨(j + 1, F), ⟨hjl, hF2⟩, by simp only; omega, (ti _ 1)⟩)
            | ((exfalso; first | (simp [hem] at h <;> omega) | omega))
            | fail)
      · have hF2 : F = A ++ [iI e.2] := by
          rcases hF with ⟨h, _⟩ | ⟨_, h⟩
          · omega
          · exact h
        subst hF2
        repeat' (first
          | refine zW ?_
          | refine zB ?_ ?_ <;> intro h <;> try exact zk h
          | (exact ⟨(i + 1, A ++ [iI e.2]), ⟨hlt, hn2⟩, by simp only; omega, (ti _ 1)⟩)
          | ((exfalso; first | (simp [hem] at h <;> omega) | omega))
          | fail)
    · have hie : i = E.length := by omega
      subst hie
      rw [List.take_length] at hA
      subst hA
      repeat' (first
        | refine zW ?_
        | refine zB ?_ ?_ <;> intro h <;> try exact zk h
        | rfl
        | ((exfalso; first | (simp [hlm] at h <;> omega) | omega))
        | fail)
theorem stringsBoth (N : List Nd) (h9 : N9 N) (hl : N.length ≤ 1000) (k t : Int) : ∃ (L : List (List Nat)) (P : List Int) (e : Int), L.length ≤ 1000 ∧ P.length ≤ 1000 ∧ KnownCall Try.prog 25 [iI k, iI t, trD N] (.tup [.d (lks L), .d (.sl 1 (P.map iI)), .d (iI e)]) ∧ KnownCall Try.prog 26 [iI k, iI t, trD N] (.tup [.d (lks L), .d (.sl 1 (P.map iI)), .d (iI e)]) := by
  obtain ⟨e, c1, c2, h0⟩ := checkBoth N h9 hl k t 24
  by_cases he : e = 0
  · obtain ⟨kn, tn, n, rfl, rfl, hn, hs, _, S, P, hb, _, rfl⟩ := h0 he
    subst he
    have hk := sizE_ok hs
    have hel := hb.elen
    rw [rowT_len] at hl
    refine ⟨(lvT kn S P).map (·.1), (lvT kn S P).map (·.2), 0, by simp; omega, by simp; omega, ?_, ?_⟩
    · have := stringsK _ h9 (by rw [rowT_len]; exact hl) kn tn (by omega) (Nat.le_trans hel (by omega)) c1
      simpa [lks, Function.comp_def] using this
    · have := refStringsK _ h9 (by rw [rowT_len]; exact hl) kn tn (by omega) (by omega) c2 _ (hb.ent (by omega)) hb.asc (fun e he => by
        obtain ⟨L, h1, h2, _⟩ := entS_mem ((hb.mem e.1 e.2).1 he)
        have := (hb.rt L h1).rt e.1 h2
        exact ⟨this.1, this.2.2⟩)
      simpa [lks, Function.comp_def] using this
  · exact ⟨[], [], e, by simp, by simp, trStringsE N k t e he c1, refStringsE N k t e he c2⟩
def e0 : List DV × AV := ([(.int .i64 8), (.sl 5 [(.agg [(.int .i64 2), (.int .i64 0), (.int .i64 0), (.int .i64 0), (.int .i64 0)]), (.agg [(.int .i64 2), (.int .i64 0), (.int .i64 1), (.int .i64 0), (.int .i64 0)])])], (.d (.int .i64 0)))
theorem k0 : KnownCall Try.prog 107 e0.1 e0.2 := knownF T0_ok Et_ok (by kernel_rfl) Ft_ok (k := 100000) (n := 60) (by kernel_rfl)
def e2 : List DV × AV := ([(.agg [(.int .i64 0), (.int .i64 0), (.int .i64 0), (.int .i64 0), (.int .i64 0)]), (.agg [(.int .i64 1), (.int .i64 1), (.int .i64 0), (.int .i64 0), (.int .i64 0)])], (.tup [(.d (.int .i64 (-1))), (.d (.int .i64 0))]))
theorem k2 : KnownCall Try.prog 91 e2.1 e2.2 := knownF T0_ok Et_ok (by kernel_rfl) Ft_ok (k := 100000) (n := 60) (by kernel_rfl)
def e5 : List DV × AV := ([(.sl 10 [(.agg [(.int .i64 1), (.int .i64 5), (.int .i64 0), (.int .i64 0), (.int .i64 0), (.int .i64 0), (.int .i64 0), (.int .i64 0), (.int .i64 4), (.int .i64 (-1))]), (.agg [(.int .i64 2), (.int .i64 3), (.int .i64 0), (.int .i64 0), (.int .i64 0), (.int .i64 0), (.int .i64 0), (.int .i64 0), (.int .i64 0), (.int .i64 (-1))]), (.agg [(.int .i64 0), (.int .i64 0), (.int .i64 0), (.int .i64 0), (.int .i64 0), (.int .i64 0), (.int .i64 0), (.int .i64 0), (.int .i64 0), (.int .i64 3)]), (.agg [(.int .i64 0), (.int .i64 0), (.int .i64 0), (.int .i64 0), (.int .i64 0), (.int .i64 0), (.int .i64 0), (.int .i64 0), (.int .i64 0), (.int .i64 3)]), (.agg [(.int .i64 0), (.int .i64 0), (.int .i64 0), (.int .i64 0), (.int .i64 0), (.int .i64 0), (.int .i64 0), (.int .i64 0), (.int .i64 0), (.int .i64 5)]), (.agg [(.int .i64 0), (.int .i64 0), (.int .i64 0), (.int .i64 0), (.int .i64 0), (.int .i64 0), (.int .i64 0), (.int .i64 0), (.int .i64 6), (.int .i64 (-1))]), (.agg [(.int .i64 0), (.int .i64 0), (.int .i64 0), (.int .i64 0), (.int .i64 0), (.int .i64 0), (.int .i64 0), (.int .i64 0), (.int .i64 0), (.int .i64 5)])]), (.sl 10 [(.agg [(.int .i64 1), (.int .i64 5), (.int .i64 0), (.int .i64 0), (.int .i64 0), (.int .i64 0), (.int .i64 0), (.int .i64 0), (.int .i64 4), (.int .i64 (-1))]), (.agg [(.int .i64 2), (.int .i64 3), (.int .i64 0), (.int .i64 0), (.int .i64 0), (.int .i64 0), (.int .i64 0), (.int .i64 0), (.int .i64 0), (.int .i64 (-1))]), (.agg [(.int .i64 0), (.int .i64 0), (.int .i64 0), (.int .i64 0), (.int .i64 0), (.int .i64 0), (.int .i64 0), (.int .i64 0), (.int .i64 0), (.int .i64 3)]), (.agg [(.int .i64 0), (.int .i64 0), (.int .i64 0), (.int .i64 0), (.int .i64 0), (.int .i64 0), (.int .i64 0), (.int .i64 0), (.int .i64 0), (.int .i64 3)]), (.agg [(.int .i64 0), (.int .i64 0), (.int .i64 0), (.int .i64 0), (.int .i64 0), (.int .i64 0), (.int .i64 0), (.int .i64 0), (.int .i64 0), (.int .i64 5)]), (.agg [(.int .i64 0), (.int .i64 0), (.int .i64 0), (.int .i64 0), (.int .i64 0), (.int .i64 0), (.int .i64 0), (.int .i64 0), (.int .i64 6), (.int .i64 (-1))]), (.agg [(.int .i64 0), (.int .i64 0), (.int .i64 0), (.int .i64 0), (.int .i64 0), (.int .i64 0), (.int .i64 0), (.int .i64 0), (.int .i64 0), (.int .i64 5)])]), (.fn (.func 68) [] [])], (.d (.bool true)))
theorem k5 : KnownCall Try.prog 67 e5.1 e5.2 := knownF T0_ok Et_ok (by kernel_rfl) Ft_ok (k := 100000) (n := 60) (by kernel_rfl)
def T1 : Memo := (.node (.node (.node .nil none (.node (.node (.node (.node .nil (some [e5]) .nil) none .nil) none .nil) none (.node (.node .nil none (.node .nil (some [e0]) .nil)) none (.node (.node .nil (some [e2]) .nil) none .nil)))) none .nil) none .nil)
theorem T1_ok : MemoOK Try.prog T1 := ⟨trivial, ⟨trivial, ⟨trivial, trivial, ⟨trivial, ⟨trivial, ⟨trivial, ⟨⟨k5, trivial⟩, trivial, trivial⟩, trivial⟩, trivial⟩, ⟨trivial, ⟨trivial, trivial, ⟨⟨k0, trivial⟩, trivial, trivial⟩⟩, ⟨trivial, ⟨⟨k2, trivial⟩, trivial, trivial⟩, trivial⟩⟩⟩⟩, trivial⟩, trivial⟩
def e1 : List DV × AV := ([(.int .i64 2), (.int .i64 2), (.sl 5 [(.agg [(.int .i64 2), (.int .i64 0), (.int .i64 0), (.int .i64 0), (.int .i64 0)]), (.agg [(.int .i64 2), (.int .i64 0), (.int .i64 1), (.int .i64 0), (.int .i64 0)])])], (.d (.int .i64 0)))
theorem k1 : KnownCall Try.prog 54 e1.1 e1.2 := knownF T1_ok Et_ok (by kernel_rfl) Ft_ok (k := 100000) (n := 60) (by kernel_rfl)
def e3 : List DV × AV := ([(.int .i64 2), (.int .i64 2), (.sl 5 [(.agg [(.int .i64 0), (.int .i64 0), (.int .i64 0), (.int .i64 0), (.int .i64 0)]), (.agg [(.int .i64 1), (.int .i64 1), (.int .i64 0), (.int .i64 0), (.int .i64 0)])])], (.d (.int .i64 0)))
theorem k3 : KnownCall Try.prog 54 e3.1 e3.2 := knownF T1_ok Et_ok (by kernel_rfl) Ft_ok (k := 100000) (n := 60) (by kernel_rfl)
def T2 : Memo := (.node (.node (.node .nil none (.node (.node (.node (.node .nil (some [e5]) .nil) none .nil) none .nil) none (.node (.node .nil none (.node .nil (some [e0]) .nil)) none (.node (.node .nil (some [e2]) .nil) none .nil)))) none .nil) none (.node .nil none (.node .nil none (.node (.node .nil none (.node .nil (some [e1, e3]) .nil)) none .nil))))
theorem T2_ok : MemoOK Try.prog T2 := ⟨trivial, ⟨trivial, ⟨trivial, trivial, ⟨trivial, ⟨trivial, ⟨trivial, ⟨⟨k5, trivial⟩, trivial, trivial⟩, trivial⟩, trivial⟩, ⟨trivial, ⟨trivial, trivial, ⟨⟨k0, trivial⟩, trivial, trivial⟩⟩, ⟨trivial, ⟨⟨k2, trivial⟩, trivial, trivial⟩, trivial⟩⟩⟩⟩, trivial⟩, ⟨trivial, trivial, ⟨trivial, trivial, ⟨trivial, ⟨trivial, trivial, ⟨⟨k1, k3, trivial⟩, trivial, trivial⟩⟩, trivial⟩⟩⟩⟩
theorem awake11 : KnownCall Try.prog 11 [] (.d (.bool true)) := knownF T2_ok Et_ok (by kernel_rfl) Ft_ok (k := 100000) (n := 60) (by kernel_rfl)
section
variable {H : Type} {enc : TypeId × Value → H} {w : World} {spare : Nat → Bool} {held : Bool} {fuel : Nat} {cs : List Value} {x : DataW H × List MemPlace}
abbrev Wf64 (n : Int) : Prop := (Lit.int .i64 n).wf = true
theorem cr_ints (hsp : ∀ b, spare b = true) (h : DataW.trod enc Try.prog w 0 spare held fuel 23 cs = some x) : ∃ l : List Int, CellsRep (heapD w) (ints l) cs ∧ l.length ≤ maxLen ∧ ∀ n ∈ l, Wf64 n :=
  cr_slice (DV.int .i64) Wf64 Try.underlying23 (by kernel_rfl) (Nat.le_refl _) hsp (fun n cs' y _ hy => cr_int Try.underlying3 hy) h
end
structure AskD where
  (k t p : Int)
  (l : List Int)
  (e : Bool)
abbrev askC (a : AskD) : List DV := [iI a.k, iI a.t, iI a.p, ints a.l, .bool a.e]
section
variable {H : Type} {enc : TypeId × Value → H} {w : World} {spare : Nat → Bool} {held : Bool} {fuel : Nat} {cs : List Value} {x : DataW H × List MemPlace}
theorem cr_node (hl : cs.length = 10) (h : DataW.trod enc Try.prog w 0 spare held fuel 87 cs = some x) : ∃ n : Nd, CellsRep (heapD w) (nd n) cs ∧ n.x.length = 9 := by
  match cs, hl, h with
  | [v0, v1, v2, v3, v4, v5, v6, v7, v8, v9], _, h =>
    obtain ⟨n0, y0, e0⟩ := trod_field Try.underlying87 h 1 rfl (by kernel_rfl) rfl
    obtain ⟨xs, n, _, _, _, hxl, hff⟩ := DataW.trod_struct Try.underlying87 h
    have h1 := hff 0 { name := "Next", type := 85, offset := 0, embedded := false, tag := "", pkgPath := "", byteOffset := 0 } rfl
    have c9 : (Try.prog).cellsOf 85 = 9 := by kernel_rfl
    have c1 : (Try.prog).cellsOf 3 = 1 := by kernel_rfl
    dsimp only at h1
    rw [c9] at h1
    change DataW.trod enc Try.prog w 0 spare held n 85 [v0, v1, v2, v3, v4, v5, v6, v7, v8] = _ at h1
    have hi : 0 < xs.length := by rw [hxl]; decide
    rw [List.getElem?_eq_getElem hi] at h1
    obtain ⟨ys, m, _, _, _, hyl, hy⟩ := DataW.trod_array Try.underlying85 h1
    have g : ∀ (i : Nat) (v : Value), i < 9 → [v0, v1, v2, v3, v4, v5, v6, v7, v8][i]? = some v → ∃ a, CellsRep (heapD w) (iI a) [v] := fun i v hi4 hv => by
      have h2 := hy i hi4
      rw [c1, List.getElem?_eq_getElem (show i < ys.length by omega), Nat.mul_one, drop_at hv] at h2
      obtain ⟨a, ha, _⟩ := cr_int Try.underlying3 h2
      exact ⟨a, ha⟩
    obtain ⟨p, hp, _⟩ := cr_int Try.underlying3 e0
    obtain ⟨a0, h0⟩ := g 0 v0 (by omega) rfl
    obtain ⟨a1, h1⟩ := g 1 v1 (by omega) rfl
    obtain ⟨a2, h2⟩ := g 2 v2 (by omega) rfl
    obtain ⟨a3, h3⟩ := g 3 v3 (by omega) rfl
    obtain ⟨a4, h4⟩ := g 4 v4 (by omega) rfl
    obtain ⟨a5, h5⟩ := g 5 v5 (by omega) rfl
    obtain ⟨a6, h6⟩ := g 6 v6 (by omega) rfl
    obtain ⟨a7, h7⟩ := g 7 v7 (by omega) rfl
    obtain ⟨a8, h8⟩ := g 8 v8 (by omega) rfl
    exact ⟨⟨[a0, a1, a2, a3, a4, a5, a6, a7, a8], p⟩, cr_all (xs := ndC ⟨[a0, a1, a2, a3, a4, a5, a6, a7, a8], p⟩) ⟨⟨rfl, h0⟩, ⟨rfl, h1⟩, ⟨rfl, h2⟩, ⟨rfl, h3⟩, ⟨rfl, h4⟩, ⟨rfl, h5⟩, ⟨rfl, h6⟩, ⟨rfl, h7⟩, ⟨rfl, h8⟩, ⟨rfl, hp⟩, trivial⟩, rfl⟩
theorem cr_trie (hsp : ∀ b, spare b = true) (hl : cs.length = 1) (h : DataW.trod enc Try.prog w 0 spare held fuel 29 cs = some x) : ∃ N : List Nd, CellsRep (heapD w) (trD N) cs ∧ N.length ≤ maxLen ∧ ∀ n ∈ N, n.x.length = 9 := by
  match cs, hl, h with
  | [v0], _, h =>
    obtain ⟨n0, y0, e0⟩ := trod_field Try.underlying29 h 0 rfl (by kernel_rfl) rfl
    obtain ⟨N, hN, w1, w2⟩ := cr_slice nd (fun n => n.x.length = 9) (sz := 10) Try.underlying27 (by kernel_rfl) (by omega) hsp (fun n cs' y hn hy => cr_node hn hy) e0
    exact ⟨N, cr_all ⟨⟨rfl, hN⟩, trivial⟩, w1, w2⟩
theorem cr_ask (hsp : ∀ b, spare b = true) (hl : cs.length = 5) (h : DataW.trod enc Try.prog w 0 spare held fuel 39 cs = some x) : ∃ a : AskD, CellsRep (heapD w) (.agg (askC a)) cs ∧ a.l.length ≤ maxLen := by
  match cs, hl, h with
  | [v0, v1, v2, v3, v4], _, h =>
    obtain ⟨n0, y0, e0⟩ := trod_field Try.underlying39 h 0 rfl (by kernel_rfl) rfl
    obtain ⟨n1, y1, e1⟩ := trod_field Try.underlying39 h 1 rfl (by kernel_rfl) rfl
    obtain ⟨n2, y2, e2⟩ := trod_field Try.underlying39 h 2 rfl (by kernel_rfl) rfl
    obtain ⟨n3, y3, e3⟩ := trod_field Try.underlying39 h 3 rfl (by kernel_rfl) rfl
    obtain ⟨n4, y4, e4⟩ := trod_field Try.underlying39 h 4 rfl (by kernel_rfl) rfl
    obtain ⟨k, hk, _⟩ := cr_int Try.underlying3 e0
    obtain ⟨t, ht, _⟩ := cr_int Try.underlying3 e1
    obtain ⟨p, hp, _⟩ := cr_int Try.underlying3 e2
    obtain ⟨l, hl, wl, _⟩ := cr_ints hsp e3
    obtain ⟨e, he⟩ := cr_bool Try.underlying4 e4
    exact ⟨⟨k, t, p, l, e⟩, cr_all ⟨⟨rfl, hk⟩, ⟨rfl, ht⟩, ⟨rfl, hp⟩, ⟨rfl, hl⟩, ⟨rfl, he⟩, trivial⟩, wl⟩
theorem arg_trie {r : Reach} {b0 : Nat} {v : Value} {d : DataW H} {ps : List MemPlace} (hsp : ∀ b, spare b = true) (hval : Value.okWide Try.prog w r b0 29 v) (h : DataW.Trod enc Try.prog w 0 spare held 29 v d ps) :
    ∃ N : List Nd, RepD (heapD w) (trD N) v ∧ N.length ≤ maxLen ∧ ∀ n ∈ N, n.x.length = 9 :=
  arg_agg (f := fun N : List Nd => [.sl 10 (N.map nd)]) Try.underlying29 hval h (fun n cs x hl hx => cr_trie hsp (hl.trans (by kernel_rfl)) hx)
theorem arg_ask {r : Reach} {b0 : Nat} {v : Value} {d : DataW H} {ps : List MemPlace} (hsp : ∀ b, spare b = true) (hval : Value.okWide Try.prog w r b0 39 v) (h : DataW.Trod enc Try.prog w 0 spare held 39 v d ps) :
    ∃ a : AskD, RepD (heapD w) (.agg (askC a)) v ∧ a.l.length ≤ maxLen :=
  arg_agg (f := askC) Try.underlying39 hval h (fun n cs x hl hx => cr_ask hsp (hl.trans (by kernel_rfl)) hx)
end
set_option maxHeartbeats 20000000 in
theorem lawTC (N M : List Nd) (hN : N9 N) (hM : N9 M) (a : AskD) : KnownCall Try.prog 4 [trD N, trD M, .agg (askC a)] (.d (.bool true)) := by
  have k0 := awake11
  obtain ⟨k, t, p, l, b⟩ := a
  have hNl : (N.map nd).length = N.length := by simp
  have hMl : (M.map nd).length = M.length := by simp
  have hll : (l.map iI).length = l.length := by simp
  by_cases hbig : 60 < N.length ∨ 60 < M.length ∨ 12 < l.length
  · refine kF Try.func4 [3, 4, 5] fun w => ?_
    repeat' (first
      | refine zW ?_
      | refine zB ?_ ?_ <;> intro h <;> try exact zk h
      | refine zX ?_
      | refine zC (k0) ?_
      | rfl
      | ((exfalso; simp only [ints, List.length_map, decide_eq_true_eq, decide_eq_false_iff_not, gt_iff_lt] at *; omega))
      | fail)
  · have o1 := own18 N (by omega)
    have o2 := ownIs l (by omega)
    obtain ⟨e, c1, c2, _⟩ := checkBoth N hN (by omega) k t p
    obtain ⟨x, y, d1, d2⟩ := chooseBoth N hN (by omega) k t l (by omega) b
    obtain ⟨L, P, e2, hLl, hPl, s1, s2⟩ := stringsBoth N hN (by omega) k t
    have l1 := looksRw (L.map rawOf) (by simp; omega)
    rw [rws_lks] at l1
    have l2 := sameIs P (by omega)
    have z1 := sizeTr N
    have m1 := sameTrK N M hN hM (by omega)
    have m2 := sameRefK N M hN hM (by omega)
    have m3 := sameTr N hN (by omega)
    have m4 := sameIs l (by omega)
    generalize decide (N = M) = q at m1 m2
    refine kF Try.func4 [3, 4, 5] fun w => ?_
    cases q with
    | true =>
      repeat' (first
        | refine zW ?_
        | refine zB ?_ ?_ <;> intro h <;> try exact zk h
        | refine zX ?_
        | refine zC (o1) ?_
        | refine zC (o2) ?_
        | refine zC (c1) ?_
        | refine zC (c2) ?_
        | refine zC (d1) ?_
        | refine zC (d2) ?_
        | refine zC (s1) ?_
        | refine zC (s2) ?_
        | refine zC (l1) ?_
        | refine zC (l2) ?_
        | refine zC (z1) ?_
        | refine zC (m1) ?_
        | refine zC (m2) ?_
        | refine zC (m3) ?_
        | refine zC (m4) ?_
        | refine zC (k0) ?_
        | rfl
        | ((exfalso; simp only [ints, List.length_map, decide_eq_true_eq, decide_eq_false_iff_not, gt_iff_lt, bne_self_eq_false, beq_self_eq_true, Bool.false_eq_true, Bool.true_eq_false] at *; omega))
        | fail)
    | false =>
      repeat' (first
        | refine zW ?_
        | refine zB ?_ ?_ <;> intro h <;> try exact zk h
        | refine zX ?_
        | refine zC (o1) ?_
        | refine zC (o2) ?_
        | refine zC (c1) ?_
        | refine zC (c2) ?_
        | refine zC (d1) ?_
        | refine zC (d2) ?_
        | refine zC (s1) ?_
        | refine zC (s2) ?_
        | refine zC (l1) ?_
        | refine zC (l2) ?_
        | refine zC (z1) ?_
        | refine zC (m1) ?_
        | refine zC (m2) ?_
        | refine zC (m3) ?_
        | refine zC (m4) ?_
        | refine zC (k0) ?_
        | rfl
        | ((exfalso; simp only [ints, List.length_map, decide_eq_true_eq, decide_eq_false_iff_not, gt_iff_lt, bne_self_eq_false, beq_self_eq_true, Bool.false_eq_true, Bool.true_eq_false] at *; omega))
        | fail)
theorem lawTCA (N : List Nd) (hN : N.length ≤ maxLen ∧ ∀ n ∈ N, n.x.length = 9) (M : List Nd) (hM : M.length ≤ maxLen ∧ ∀ n ∈ M, n.x.length = 9) (a : AskD) (_ : a.l.length ≤ maxLen) : KnownCall Try.prog 4 [trD N, trD M, .agg (askC a)] (.d (.bool true)) :=
  lawTC N M hN.2 hM.2 a
end Go.Av
end

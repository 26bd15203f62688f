/-
  Parts of the way to the law, joined. Conditions stand at each.
-/
import Derived.Test.YtbbdpddeabojgaaTc4
set_option linter.all false
noncomputable section
namespace Go.Av
open Go Go.Proofs
set_option maxRecDepth 10000
def trN (k t : Int) (S : List (List Raw)) (P : List Int) : List Nd := if chkAll k t S P = 0 then rowT (madeAll k.toNat Tz0 (decS S) P) else []
theorem nilTr : DvTo (.agg [.nilsl]) (trD []) := .agg rfl fun j x y hx hy => by
  match j, hx, hy with
  | 0, hx, hy => simp at hx hy; subst hx hy; exact .nil
  | j + 1, hx, hy => simp at hx
theorem ofE_ok {k t : Int} {S : List (List Raw)} {P : List Int} (h : ofE k t S P = 0) : sizE k t = 0 ∧ S.length ≤ 24 ∧ P.length = S.length ∧ ordE (-1) P = 0 ∧ setsE k t S = 0 := by
  unfold ofE at h
  split at h
  · cases h
  rename_i h1
  split at h
  · cases h
  rename_i h2
  refine ⟨Classical.byContradiction fun h => h1 (.inl h), by omega, by omega, Classical.byContradiction fun h => h2 h, h⟩
theorem sizE_ok {k t : Int} (h : sizE k t = 0) : 1 ≤ k ∧ k ≤ 4 ∧ 1 ≤ t ∧ t ≤ 8 := by
  unfold sizE at h
  split at h
  · cases h
  · omega
structure OfOK (k t : Int) (S : List (List Raw)) (P : List Int) : Prop where
  sz : sizE k t = 0
  sl : S.length ≤ 24
  pl : P.length = S.length
  od : ordE (-1) P = 0
  se : setsE k t S = 0
  raw : S = rawS (decS S)
  rt : ∀ L ∈ decS S, SetR k.toNat t.toNat L
theorem OfOK.of {k t : Int} {S : List (List Raw)} {P : List Int} (h : ofE k t S P = 0) : OfOK k t S P := by
  obtain ⟨h1, h2, h3, h4, h5⟩ := ofE_ok h
  have := sizE_ok h1
  obtain ⟨h6, h7⟩ := setsE_ok (by omega) h5
  exact ⟨h1, h2, h3, h4, h5, h6, h7⟩
theorem chkAll_ok {k t : Int} {S : List (List Raw)} {P : List Int} (h : chkAll k t S P = 0) : ofE k t S P = 0 ∧ NCr S := by
  unfold chkAll at h
  split at h
  · rename_i h1; exact absurd h h1
  · rename_i h1
    split at h
    · rename_i h2; exact ⟨Classical.byContradiction fun h => h1 h, h2⟩
    · cases h
theorem rws_lks (L : List (List Nat)) : rws (L.map rawOf) = lks L := by
  simp only [rws, lks, List.map_map]; rfl
theorem rws2_raw (S : List (List (List Nat))) : rws2 (rawS S) = .sl 1 (S.map lks) := by
  simp only [rws2, rawS, List.map_map]
  congr 1
  refine List.map_congr_left fun L _ => ?_
  exact rws_lks L
theorem flat_dec (S : List (List Raw)) : (decS S).flatten.length = S.flatten.length := by
  simp [decS, List.length_flatten, Function.comp_def]
theorem refOfK (k t : Int) (S : List (List Raw)) (P : List Int) (hS : S.length ≤ 1048576) (hP : P.length ≤ 1048576) (hb : S.flatten.length ≤ 1000) : KnownCall Try.prog 14 [iI k, iI t, rws2 S, .sl 1 (P.map iI)] (.tup [.d (trD (trN k t S P)), .d (iI (chkAll k t S P))]) := by
  have hL : ∀ L ∈ S, L.length ≤ 1048576 := fun L hL => by
    have := (List.sublist_flatten_of_mem hL).length_le; omega
  have c1 := checkedK k t S P hS hP hL
  by_cases h0 : chkAll k t S P = 0
  · obtain ⟨ho, _⟩ := chkAll_ok h0
    have ho := OfOK.of ho
    have hk := sizE_ok ho.sz
    obtain ⟨kn, rfl⟩ : ∃ kn : Nat, k = kn := ⟨k.toNat, by omega⟩
    have c2 := madeK kn (decS S) P (by rw [ho.pl]; simp [decS]) (fun L hL x hx => ((ho.rt L hL).rt x hx).1) (by rw [flat_dec]; exact hb) (by have := ho.sl; simp [decS]; omega)
    rw [← rws2_raw, ← ho.raw] at c2
    have ht : trN kn t S P = rowT (madeAll kn Tz0 (decS S) P) := by unfold trN; rw [if_pos h0]; rfl
    rw [ht, h0]
    rw [h0] at c1
    generalize rowT (madeAll kn Tz0 (decS S) P) = N at *
    refine kF Try.func14 [] fun w => ?_
    repeat' (first
      | refine zW ?_
      | refine zB ?_ ?_ <;> intro h <;> try exact zk h
      | refine zC (c1) ?_
      | refine zC (c2) ?_
      | rfl
      | fail)
  · have ht : trN k t S P = [] := by unfold trN; rw [if_neg h0]
    rw [ht]
    generalize chkAll k t S P = e at *
    refine knownE2 Et_ok (fnB Try.func14 []) ?_
    have w : Fz [] := trivial
    repeat' (first
      | refine zW ?_
      | refine zB ?_ ?_ <;> intro h <;> try exact zk h
      | refine zC (c1) ?_
      | (refine Run.ret ?_; refine r2 ?_; first | done | (exact .tup2 nilTr .refl))
      | ((exfalso; exact h0 (by simpa using h)))
      | fail)
theorem begunA : ACall Try.prog 55 [] [] (.bp 2 0) (bO Tz0) := by
  have w : Fz [65538] := trivial
  refine acallG_of_run Et_ok (fnB Try.func55 [65538]) rfl rfl (by simp) (by simp only [List.all_cons, ref_vecN]; rfl) rfl ?_
  have w : Fz [65538] := trivial
  repeat refine zS ?_
  refine zX ?_
  repeat refine zS ?_
  iterate 7 refine zX ?_
  repeat refine zS ?_
  refine Run.ret ?_
  exact ⟨trivial, _, _, rfl, rfl, .refl, ⟨.refl, .refl, .refl, trivial⟩⟩
structure PM (T : Trt) (O : List Ob) : Prop where
  ok : OkT T
  bo : BO T 2 3 O
  b0 : O[0]? = some (.box [.d .nilsl])
theorem four {α : Type} {l : List α} (h : 4 ≤ l.length) : ∃ a b c d M, l = a :: b :: c :: d :: M := by
  match l, h with
  | a :: b :: c :: d :: M, _ => exact ⟨a, b, c, d, M, rfl⟩
theorem PM.four {T : Trt} {O : List Ob} (h : PM T O) : 4 ≤ O.length := by
  obtain ⟨r, _, _, h3, _⟩ := h.bo
  exact (List.getElem?_eq_some_iff.1 h3).1
def insN : Option Trt → List Nd
  | some T => rowT T
  | none => []
def insE : Option Trt → Int
  | some _ => 0
  | none => 18
set_option maxHeartbeats 8000000 in
theorem progOf0 (k t : Int) (S : List (List Raw)) (P : List Int) (hS : S.length ≤ 1048576) (hP : P.length ≤ 1048576) (hL : ∀ L ∈ S, L.length ≤ 1048576) (e : Int) (he : ofE k t S P = e) (h0 : e ≠ 0) : KnownCall Try.prog 13 [iI k, iI t, rws2 S, .sl 1 (P.map iI)] (.tup [.d (trD []), .d (iI e)]) := by
  have w : Fz [] := trivial
  have c0 := sizesK k t
  have hsl : (S.map rws).length = S.length := by simp
  have hpl : (P.map iI).length = P.length := by simp
  unfold ofE at he
  by_cases h1 : sizE k t ≠ 0 ∨ 24 < S.length ∨ P.length ≠ S.length
  · rw [if_pos h1] at he
    subst he
    generalize sizE k t = z at *
    refine knownE2 Et_ok (fnB Try.func13 []) ?_
    have w : Fz [] := trivial
    repeat' (first
      | refine zW ?_
      | refine zB ?_ ?_ <;> intro h <;> try exact zk h
      | refine zC (c0) ?_
      | (refine Run.ret ?_; refine r2 ?_; first | done | (exact .tup2 nilTr .refl))
      | ((exfalso; simp only [decide_eq_true_eq, decide_eq_false_iff_not, bne_iff_ne, ne_eq, bne_eq_false_iff_eq] at *; omega))
      | fail)
  rw [if_neg h1] at he
  have hz : sizE k t = 0 := Classical.byContradiction fun h => h1 (.inl h)
  rw [hz] at c0
  refine knownE2 Et_ok (fnB Try.func13 []) ?_
  have w : Fz [] := trivial
  repeat' (first
    | refine zW ?_
    | refine zB ?_ ?_ <;> intro h <;> try exact zk h
    | refine zC (c0) ?_
    | (refine Run.ret ?_; refine r2 ?_; first | done | (skip))
    | ((exfalso; simp only [decide_eq_true_eq, decide_eq_false_iff_not, bne_iff_ne, ne_eq, bne_eq_false_iff_eq] at *; omega))
    | fail)
  refine Run.loopT (fun i : Nat => ⟨PT.ofList [(0, .d (iI k)), (1, .d (iI t)), (2, .d (rws2 S)), (3, .d (.sl 1 (P.map iI))), (8, .bp 0 0), (11, .d (iI (pvI P i))), (40, .d (.sl 1 (P.map iI))), (41, .d (nI (P.map iI).length)), (42, .d (nI i))], [.box [.d .nilsl]], []⟩) (fun i => i ≤ P.length ∧ ordE (-1) P = ordE (pvI P i) (P.drop i)) (fun i => P.length - i) 0 ⟨Nat.zero_le _, rfl⟩ (ti _ 1) (fun i ⟨hi1, hi2⟩ => ?_)
  rcases Nat.lt_or_ge i P.length with hlt | hge
  · obtain ⟨p, hp⟩ := get_ok hlt
    rw [drop_at hp] at hi2
    simp only [ordE] at hi2
    have hpp := pvI_at hp
    by_cases hb : p ≤ pvI P i ∨ 24 ≤ p
    · rw [if_pos hb] at hi2
      rw [hi2, if_pos (by decide)] at he
      subst he
      generalize pvI P i = l at *
      repeat' (first
        | refine zW ?_
        | refine zB ?_ ?_ <;> intro h <;> try exact zk h
        | refine zI w (.d (.ep [iI p])) hp ?_
        | (refine Run.ret ?_; refine r2 ?_; first | done | (exact .tup2 nilTr .refl))
        | ((exfalso; simp only [List.length_map, decide_eq_true_eq, decide_eq_false_iff_not] at *; omega))
        | fail)
    · rw [if_neg hb] at hi2
      have hg : ordE (-1) P = ordE (pvI P (i + 1)) (P.drop (i + 1)) := by rw [hpp]; exact hi2
      repeat' (first
        | refine zW ?_
        | refine zB ?_ ?_ <;> intro h <;> try exact zk h
        | refine zI w (.d (.ep [iI p])) hp ?_
        | (refine Run.ret ?_; refine r2 ?_; first | done | (skip))
        | (exact ⟨i + 1, ⟨hlt, hg⟩, by omega, by rw [hpp]; exact (ti _ 1)⟩)
        | ((exfalso; simp only [List.length_map, decide_eq_true_eq, decide_eq_false_iff_not] at *; omega))
        | fail)
  · have hie : i = P.length := by omega
    subst hie
    rw [List.drop_length] at hi2
    simp only [ordE] at hi2
    rw [hi2, if_neg (by simp)] at he
    generalize pvI P P.length = l at *
    repeat' (first
      | refine zW ?_
      | refine zB ?_ ?_ <;> intro h <;> try exact zk h
      | (refine Run.ret ?_; refine r2 ?_; first | done | (skip))
      | ((exfalso; simp only [List.length_map, decide_eq_true_eq, decide_eq_false_iff_not] at *; omega))
      | fail)
    refine Run.loopT (fun i : Nat => ⟨PT.ofList [(0, .d (iI k)), (1, .d (iI t)), (2, .d (rws2 S)), (3, .d (.sl 1 (P.map iI))), (8, .bp 0 0), (56, .d (rws2 S)), (57, .d (nI (S.map rws).length)), (58, .d (nI i))], [.box [.d .nilsl]], []⟩) (fun i => i ≤ S.length ∧ setsE k t (S.drop i) = e) (fun i => S.length - i) 0 ⟨Nat.zero_le _, he⟩ (ti _ 1) (fun i ⟨hi1, hi2⟩ => ?_)
    rcases Nat.lt_or_ge i S.length with hlt | hge
    · obtain ⟨L, hSL⟩ := get_ok hlt
      have c1 := setW k t L (hL L (List.mem_of_getElem? hSL))
      rw [drop_at hSL] at hi2
      simp only [setsE] at hi2
      by_cases hs : setE k t L = 0
      · rw [if_pos hs] at hi2
        rw [hs] at c1
        repeat' (first
          | refine zW ?_
          | refine zB ?_ ?_ <;> intro h <;> try exact zk h
          | refine zC (c1) ?_
          | refine zI w (.d (.ep [rws L])) hSL ?_
          | (refine Run.ret ?_; refine r2 ?_; first | done | (skip))
          | (exact ⟨i + 1, ⟨hlt, hi2⟩, by omega, (ti _ 1)⟩)
          | ((exfalso; simp only [List.length_map, decide_eq_true_eq, decide_eq_false_iff_not] at *; omega))
          | fail)
      · rw [if_neg hs] at hi2
        rw [hi2] at c1
        repeat' (first
          | refine zW ?_
          | refine zB ?_ ?_ <;> intro h <;> try exact zk h
          | refine zC (c1) ?_
          | refine zI w (.d (.ep [rws L])) hSL ?_
          | (refine Run.ret ?_; refine r2 ?_; first | done | (exact .tup2 nilTr .refl))
          | ((exfalso; first | exact h0 (by simpa using h) | (simp only [List.length_map, decide_eq_true_eq, decide_eq_false_iff_not] at *; omega)))
          | fail)
    · have hie : i = S.length := by omega
      subst hie
      rw [List.drop_length] at hi2
      simp only [setsE] at hi2
      exact absurd hi2.symm h0
theorem begunL {O : List Ob} : ACall Try.prog 55 [] [.box [.d .nilsl]] (.bp 3 0) [.box [.d .nilsl], vecN (rowT Tz0), .map [], .box [.vs 1 10 0 1, .mp 2]] := by
  have h := begunA.grow [] (Big := [.box [.d .nilsl]]) rfl (by simp) (by simp) trivial rfl rfl
  have e : growL [.box [.d .nilsl]] [] ([] : List Nat).length (bO Tz0) = [.box [.d .nilsl], vecN (rowT Tz0), .map [], .box [.vs 1 10 0 1, .mp 2]] := by
    show [Ob.box [.d .nilsl]] ++ [reO _ (vecN (rowT Tz0)), _, _] = _
    rw [okO0_reO (vecN_ok0 _ _)]
    rfl
  rw [e] at h
  exact h
theorem close_tr {objs : List Ob} {r n : Nat} {N : List Nd} (h : objs[r]? = some (vecN N)) (h9 : N9 N) (hn : n = N.length) (e : Int) : closeA objs 8 (.tup [.agg [.vs r 10 0 n], .d (iI e)]) = some (.tup [.d (trD N), .d (iI e)]) := by
  have hd : dvOf objs 7 (.vs r 10 0 n) = some (.sl 10 (N.map nd)) := dv_vecN (k := 6) h h9 hn
  have e1 : dvOf objs 8 (.agg [.vs r 10 0 n]) = some (trD N) := by
    show (allM (dvOf objs 7) [.vs r 10 0 n]).map DV.agg = _
    simp only [allM, hd]; rfl
  show (allM (fun x => (dvOf objs 8 x).map AV.d) [.agg [.vs r 10 0 n], .d (iI e)]).map AV.tup = _
  simp only [allM, e1]; rfl
theorem PM.zero : PM Tz0 [.box [.d .nilsl], vecN (rowT Tz0), .map [], .box [.vs 1 10 0 1, .mp 2]] :=
  ⟨Tz0_ok, ⟨1, rfl, rfl, rfl, fun j o ho hj => by
    match j, ho, hj with
    | 0, ho, _ => simp at ho; subst ho; rfl
    | 1, ho, _ => simp at ho; subst ho; exact vecN_ok0 _ _
    | 2, ho, _ => simp at ho; subst ho; rfl
    | 3, _, hj => exact absurd rfl hj
    | j + 4, ho, _ => simp at ho⟩, rfl⟩
set_option maxHeartbeats 8000000 in
theorem progOf1 (k t : Nat) (S : List (List (List Nat))) (P : List Int) (ho : OfOK k t (rawS S) P) (hR : ∀ L ∈ S, SetR k t L) (hb : S.flatten.length ≤ 1000) (R : Option Trt) (hI : insT k Tz0 (entS S P) = R) :
    KnownCall Try.prog 13 [iI k, iI t, .sl 1 (S.map lks), .sl 1 (P.map iI)] (.tup [.d (trD (insN R)), .d (iI (insE R))]) := by
  have w : Fz [] := trivial
  have c0 := sizesK k t
  rw [ho.sz] at c0
  have hs24 := ho.sl
  have hps := ho.pl
  have hsr : (rawS S).length = S.length := by simp
  rw [hsr] at hs24 hps
  have hsl : (S.map lks).length = S.length := by simp
  have hpl : (P.map iI).length = P.length := by simp
  have hord := ho.od
  have hset : ∀ L ∈ S, setE k t (L.map rawOf) = 0 := fun L hL => by
    have : ∀ (S : List (List Raw)), setsE k t S = 0 → ∀ L ∈ S, setE k t L = 0 := fun S => by
      induction S with
      | nil => simp
      | cons M S ih =>
        intro h L hL
        simp only [setsE] at h
        split at h
        · rcases List.mem_cons.1 hL with rfl | hL
          · assumption
          · exact ih h L hL
        · rename_i hn; exact absurd h hn
    exact this _ ho.se _ (List.mem_map.2 ⟨L, hL, rfl⟩)
  refine knownE2 Et_ok (fnB Try.func13 []) ?_
  have w : Fz [] := trivial
  repeat' (first
    | refine zW ?_
    | refine zB ?_ ?_ <;> intro h <;> try exact zk h
    | refine zC (c0) ?_
    | (refine Run.ret ?_; refine r2 ?_; first | done | (skip))
    | ((exfalso; simp only [decide_eq_true_eq, decide_eq_false_iff_not, bne_iff_ne, ne_eq, bne_eq_false_iff_eq] at *; omega))
    | fail)
  refine Run.loopT (fun i : Nat => ⟨PT.ofList [(0, .d (iI k)), (1, .d (iI t)), (2, .d (.sl 1 (S.map lks))), (3, .d (.sl 1 (P.map iI))), (8, .bp 0 0), (11, .d (iI (pvI P i))), (40, .d (.sl 1 (P.map iI))), (41, .d (nI (P.map iI).length)), (42, .d (nI i))], [.box [.d .nilsl]], []⟩) (fun i => i ≤ P.length ∧ ordE (pvI P i) (P.drop i) = 0) (fun i => P.length - i) 0 ⟨Nat.zero_le _, hord⟩ (ti _ 1) (fun i ⟨hi1, hi2⟩ => ?_)
  rcases Nat.lt_or_ge i P.length with hlt | hge
  · obtain ⟨p, hp⟩ := get_ok hlt
    rw [drop_at hp] at hi2
    simp only [ordE] at hi2
    have hpp := pvI_at hp
    by_cases hb : p ≤ pvI P i ∨ 24 ≤ p
    · rw [if_pos hb] at hi2; cases hi2
    · rw [if_neg hb] at hi2
      have hg : ordE (pvI P (i + 1)) (P.drop (i + 1)) = 0 := by rw [hpp]; exact hi2
      repeat' (first
        | refine zW ?_
        | refine zB ?_ ?_ <;> intro h <;> try exact zk h
        | refine zI w (.d (.ep [iI p])) hp ?_
        | (refine Run.ret ?_; refine r2 ?_; first | done | (skip))
        | (exact ⟨i + 1, ⟨hlt, hg⟩, by omega, by rw [hpp]; exact (ti _ 1)⟩)
        | ((exfalso; simp only [List.length_map, decide_eq_true_eq, decide_eq_false_iff_not] at *; omega))
        | fail)
  have hie : i = P.length := by omega
  subst hie
  generalize pvI P P.length = l at *
  repeat' (first
    | refine zW ?_
    | refine zB ?_ ?_ <;> intro h <;> try exact zk h
    | (refine Run.ret ?_; refine r2 ?_; first | done | (skip))
    | ((exfalso; simp only [List.length_map, decide_eq_true_eq, decide_eq_false_iff_not] at *; omega))
    | fail)
  refine Run.loopT (fun i : Nat => ⟨PT.ofList [(0, .d (iI k)), (1, .d (iI t)), (2, .d (.sl 1 (S.map lks))), (3, .d (.sl 1 (P.map iI))), (8, .bp 0 0), (56, .d (.sl 1 (S.map lks))), (57, .d (nI (S.map lks).length)), (58, .d (nI i))], [.box [.d .nilsl]], []⟩) (fun i => i ≤ S.length) (fun i => S.length - i) 0 (Nat.zero_le _) (ti _ 1) (fun i hi1 => ?_)
  rcases Nat.lt_or_ge i S.length with hlt | hge
  · obtain ⟨L, hSL⟩ := get_ok hlt
    have hLl : L.length ≤ 1048576 := by
      have := (List.sublist_flatten_of_mem (List.mem_of_getElem? hSL)).length_le; omega
    have c1 := setW k t (L.map rawOf) (by simpa using hLl)
    rw [hset L (List.mem_of_getElem? hSL), rws_lks] at c1
    repeat' (first
      | refine zW ?_
      | refine zB ?_ ?_ <;> intro h <;> try exact zk h
      | refine zC (c1) ?_
      | refine zI w (.d (.ep [lks L])) hSL ?_
      | (refine Run.ret ?_; refine r2 ?_; first | done | (skip))
      | (exact ⟨i + 1, hlt, by omega, (ti _ 1)⟩)
      | ((exfalso; simp only [List.length_map, decide_eq_true_eq, decide_eq_false_iff_not] at *; omega))
      | fail)
  have hie : i = S.length := by omega
  subst hie
  have cb := begunL (O := [])
  repeat refine zS ?_
  refine zV (lt_false (show (S.map lks).length ≤ S.length by omega)) ?_
  repeat refine zS ?_
  refine oA cb ?_
  refine zX ?_
  repeat refine zS ?_
  iterate 3 refine zX ?_
  repeat refine zS ?_
  refine Run.loop (fun a : Nat × Trt × List Ob => ⟨PT.ofList [(0, .d (nI k)), (2, .d (.sl 1 (S.map lks))), (3, .d (.sl 1 (P.map iI))), (8, .bp 0 0), (17, .bp 3 0), (72, .d (.sl 1 (S.map lks))), (73, .d (nI (S.map lks).length)), (74, .d (.int .i64 a.1))], a.2.2, []⟩)
    (fun a => a.1 ≤ S.length ∧ PM a.2.1 a.2.2 ∧ a.2.1.q.length + 5 * (S.drop a.1).flatten.length ≤ 5000 ∧ insT k a.2.1 (entS (S.drop a.1) (P.drop a.1)) = R) (fun a => S.length - a.1)
    (0, Tz0, _) ⟨Nat.zero_le _, PM.zero, by show 0 + 5 * S.flatten.length ≤ 5000; omega, hI⟩ (weak_of' (by rfl) rfl (by repeat' (first | exact trivial | refine ⟨rfl, ?_⟩))) (fun ⟨i, T, O⟩ ⟨hi, hm, hq, he⟩ => ?_)
  simp only at hi hm hq he
  rcases Nat.lt_or_ge i S.length with hlt | hge
  · obtain ⟨L, hL⟩ := get_ok hlt
    obtain ⟨p, hp⟩ := get_ok (show i < P.length by omega)
    rw [drop_at hL, drop_at hp] at he
    rw [drop_at hL] at hq
    simp only [entS, List.flatten_cons, List.length_append] at he hq
    have hLR := (hR L (List.mem_of_getElem? hL)).rt
    have hll : (L.map lk).length = L.length := by simp
    repeat refine zS ?_
    refine zV (lt_true (show i < (S.map lks).length by omega)) ?_
    repeat refine zS ?_
    refine zX ?_
    refine zI w (.d (.ep [lks L])) hL ?_
    iterate 3 refine zX ?_
    repeat refine zS ?_
    iterate 3 refine zX ?_
    repeat refine zS ?_
    refine Run.loop (fun a : Nat × Trt × List Ob => ⟨PT.ofList [(0, .d (nI k)), (2, .d (.sl 1 (S.map lks))), (3, .d (.sl 1 (P.map iI))), (8, .bp 0 0), (17, .bp 3 0), (18, .d (nI i)), (72, .d (.sl 1 (S.map lks))), (73, .d (nI (S.map lks).length)), (74, .d (.int .i64 i)), (79, .d (lks L)), (80, .d (nI (L.map lk).length)), (81, .d (.int .i64 a.1))], a.2.2, []⟩)
      (fun a => a.1 ≤ L.length ∧ PM a.2.1 a.2.2 ∧ a.2.1.q.length + 5 * ((L.length - a.1) + (S.drop (i + 1)).flatten.length) ≤ 5000 ∧ insT k a.2.1 ((L.drop a.1).map (fun x => (x, p)) ++ entS (S.drop (i + 1)) (P.drop (i + 1))) = R) (fun a => L.length - a.1)
      (0, T, O) ⟨Nat.zero_le _, hm, by simpa using hq, by simpa using he⟩ (weak_of' (by rfl) rfl (by repeat' (first | exact trivial | refine ⟨rfl, ?_⟩))) (fun ⟨j, T, O⟩ ⟨hj, hm, hq, he⟩ => ?_)
    simp only at hj hm hq he
    rcases Nat.lt_or_ge j L.length with hjl | hjg
    · obtain ⟨x, hx⟩ := get_ok hjl
      have hxR := (hLR x (List.mem_of_getElem? hx)).1
      have h4 := hm.four
      have href := hm.bo.refs
      rw [drop_at hx] at he
      simp only [List.map_cons, List.cons_append, insT] at he
      obtain ⟨A', p1, p2, p3⟩ := putA T hm.ok (by omega) k x hxR p
      obtain ⟨O', cp, q1, q2, q3⟩ := BO.lift (ds := [nI k, lk x, iI p]) p1 p2 p3 hm.bo
      have hb0 := q3 0 _ (by decide) hm.b0
      obtain ⟨hok', hq'⟩ := putT_ok (k := k) hm.ok hxR p
      have hlen5 := edges5 (k := k) hxR
      repeat refine zS ?_
      refine zV (lt_true (show j < (L.map lk).length by omega)) ?_
      repeat refine zS ?_
      refine zI w (.d (.ep (lkC x))) hx ?_
      iterate 2 refine zX ?_
      refine oV ?_ (hv := evAny_store_last)
      refine RunOps.nil ?_
      refine Run.dropLast (ds := lkC x) [(0, .d (nI k)), (2, .d (.sl 1 (S.map lks))), (3, .d (.sl 1 (P.map iI))), (8, .bp 0 0), (17, .bp 3 0), (18, .d (nI i)), (72, .d (.sl 1 (S.map lks))), (73, .d (nI (S.map lks).length)), (74, .d (.int .i64 i)), (79, .d (lks L)), (80, .d (nI (L.map lk).length)), (81, .d (.int .i64 j)), (21, .d (.ep (lkC x)))] ?_ (Nat.zero_le _) href (ofList_cases (by intro q hq; simp only [List.mem_cons, List.not_mem_nil, or_false] at hq; rcases hq with rfl | rfl | rfl | rfl | rfl | rfl | rfl | rfl | rfl | rfl | rfl | rfl | rfl; exact .inl (by kernel_rfl); exact .inl (by kernel_rfl); exact .inl (by kernel_rfl); exact .inl (by kernel_rfl); exact .inl (by kernel_rfl); exact .inl (by kernel_rfl); exact .inl (by kernel_rfl); exact .inl (by kernel_rfl); exact .inl (by kernel_rfl); exact .inl (by kernel_rfl); exact .inl (by kernel_rfl); exact .inl (by kernel_rfl); exact .inr ⟨0, Nat.zero_le _, by kernel_rfl, rfl⟩)) ⟨rfl, rfl, rfl, by simp [refA]; omega, by simp [refA]; omega, rfl, rfl, rfl, rfl, rfl, rfl, rfl, rfl, trivial⟩
      by_cases hw : wasT k T x < 0
      · rw [decide_eq_true hw] at cp
        rw [if_pos hw] at he
        repeat refine zS ?_
        refine dW w ?_
        iterate 5 refine zX ?_
        refine zI w (.d (.ep [iI p])) hp ?_
        refine zX ?_
        refine eA cp ?_
        refine zX ?_
        refine eN ?_
        repeat refine zS ?_
        iterate 2 refine zX ?_
        repeat refine zS ?_
        exact ⟨(j + 1, putT k T (x, p), O'), ⟨hjl, ⟨hok', q1, hb0⟩, by simp only; omega, he⟩, by simp only; omega, weak_of (by repeat' (first | exact trivial | refine ⟨rfl, ?_⟩ | refine ⟨(inc_get (k := j) (by kernel_rfl) (by omega)), ?_⟩))⟩
      · rw [decide_eq_false hw] at cp
        rw [if_neg hw] at he
        subst he
        obtain ⟨o0, o1, o2, o3, M, rfl⟩ := four (Nat.le_trans h4 q2)
        obtain rfl : o0 = .box [.d .nilsl] := by simpa using hb0
        repeat refine zS ?_
        refine dW w ?_
        iterate 5 refine zX ?_
        refine zI w (.d (.ep [iI p])) hp ?_
        refine zX ?_
        refine eA cp ?_
        refine zX ?_
        refine eN ?_
        repeat refine zS ?_
        iterate 3 refine zX ?_
        repeat refine zS ?_
        refine Run.ret ?_
        exact ⟨trivial, _, _, _, rfl, rfl, rfl, .tup2 nilTr .refl⟩
    · have hje : j = L.length := by omega
      subst hje
      rw [List.drop_length] at he
      simp only [List.map_nil, List.nil_append] at he
      repeat refine zS ?_
      refine zV (lt_false (show (L.map lk).length ≤ L.length by omega)) ?_
      repeat refine zS ?_
      iterate 2 refine zX ?_
      repeat refine zS ?_
      exact ⟨(i + 1, T, O), ⟨hlt, hm, by simp only; omega, he⟩, by simp only; omega, weak_of (by repeat' (first | exact trivial | refine ⟨rfl, ?_⟩ | refine ⟨(inc_get (k := i) (by kernel_rfl) (by omega)), ?_⟩))⟩
  · have hie : i = S.length := by omega
    subst hie
    rw [List.drop_length] at he
    simp only [entS, insT] at he
    subst he
    obtain ⟨r, r1, r2, r3, r4⟩ := hm.bo
    have hb0 := hm.b0
    have h4 := hm.four
    obtain ⟨o0, o1, o2, o3, M, rfl⟩ := four h4
    obtain rfl : o3 = .box [.vs r 10 0 (T.q.length + 1), .mp 2] := by simpa using r3
    obtain rfl : o0 = .box [.d .nilsl] := by simpa using hb0
    repeat refine zS ?_
    refine zV (lt_false (show (S.map lks).length ≤ S.length by omega)) ?_
    repeat refine zS ?_
    iterate 6 refine zX ?_
    repeat refine zS ?_
    refine Run.ret ?_
    refine ⟨trivial, .box [.vs r 10 0 (T.q.length + 1)] :: o1 :: o2 :: .box [.vs r 10 0 (T.q.length + 1), .mp 2] :: M, _, _, rfl, rfl, ?_, .refl⟩
    exact close_tr (N := rowT T) (by
      match r, r1 with
      | 0, r1 => cases r1
      | r + 1, r1 => exact r1) (rowT_9 T) (rowT_len T).symm 0
theorem progOfK (k t : Int) (S : List (List Raw)) (P : List Int) (hS : S.length ≤ 1048576) (hP : P.length ≤ 1048576) (hb : S.flatten.length ≤ 1000) : KnownCall Try.prog 13 [iI k, iI t, rws2 S, .sl 1 (P.map iI)] (.tup [.d (trD (trN k t S P)), .d (iI (chkAll k t S P))]) := by
  have hL : ∀ L ∈ S, L.length ≤ 1048576 := fun L hL => by
    have := (List.sublist_flatten_of_mem hL).length_le; omega
  by_cases h0 : ofE k t S P = 0
  · have ho := OfOK.of h0
    have hk := sizE_ok ho.sz
    obtain ⟨kn, rfl⟩ : ∃ kn : Nat, k = kn := ⟨k.toNat, by omega⟩
    obtain ⟨tn, rfl⟩ : ∃ tn : Nat, t = tn := ⟨t.toNat, by omega⟩
    have hrt : ∀ L ∈ decS S, SetR kn tn L := ho.rt
    have hpl : P.length = (decS S).length := by rw [ho.pl]; simp [decS]
    have hP0 := ordE_ok ho.od (by decide)
    have hent : ∀ x ∈ entS (decS S) P, (∀ e ∈ x.1, e < 8) ∧ 0 ≤ x.2 := fun x hx => by
      obtain ⟨L, h1, h2, h3⟩ := entS_mem (x := x.1) (p := x.2) hx
      exact ⟨((hrt L h1).rt x.1 h2).1.lt, (hP0 x.2 h3).1⟩
    obtain ⟨i1, i2⟩ := insT_eq (k := kn) HasT.zero (by simp) hent
    have hno := noT_iff hrt hpl
    rw [← ho.raw] at hno
    have ho' : OfOK kn tn (rawS (decS S)) P := by rw [← ho.raw]; exact ho
    have hbd : (decS S).flatten.length ≤ 1000 := by rw [flat_dec]; exact hb
    by_cases hn : NCr S
    · have hc : chkAll kn tn S P = 0 := by unfold chkAll; rw [if_neg (by simp [h0]), if_pos hn]
      have := progOf1 kn tn (decS S) P ho' hrt hbd _ (i1 (hno.2 hn)).1
      rw [← rws2_raw, ← ho.raw] at this
      have ht : trN kn tn S P = rowT ((entS (decS S) P).foldl (putT kn) Tz0) := by unfold trN; rw [if_pos hc, ← madeAll_eq]; rfl
      rw [ht, hc]
      exact this
    · have hc : chkAll kn tn S P = 18 := by unfold chkAll; rw [if_neg (by simp [h0]), if_neg hn]
      have := progOf1 kn tn (decS S) P ho' hrt hbd _ (i2 fun h => hn (hno.1 h))
      rw [← rws2_raw, ← ho.raw] at this
      have ht : trN kn tn S P = [] := by unfold trN; rw [if_neg (by rw [hc]; decide)]
      rw [ht, hc]
      exact this
  · have hc : chkAll k t S P = ofE k t S P := by unfold chkAll; rw [if_pos h0]
    have ht : trN k t S P = [] := by unfold trN; rw [if_neg (by rw [hc]; exact h0)]
    rw [ht, hc]
    exact progOf0 k t S P hS hP hL _ rfl h0
theorem wrapN {n : Nat} (h : n < 4611686018427387904) : IntKind.i64.wrap (n : Int) = n := by
  unfold IntKind.wrap
  simp [IntKind.bits, IntKind.signed]
  omega
theorem foldP_len {k : Nat} : ∀ {L : List (List Nat × Int)} {T : Trt}, OkT T → (∀ x ∈ L, Rt x.1) → OkT (L.foldl (putT k) T) ∧ (L.foldl (putT k) T).q.length ≤ T.q.length + 5 * L.length
  | [], T, h, _ => ⟨h, by simp⟩
  | (x, p) :: L, T, h, hL => by
    have hx : Rt x := hL (x, p) (by simp)
    obtain ⟨h1, h2⟩ := putT_ok (k := k) h hx p
    have h3 := edges5 (k := k) hx
    obtain ⟨h4, h5⟩ := foldP_len (k := k) (L := L) h1 fun y hy => hL y (by simp [hy])
    simp only [List.foldl_cons, List.length_cons]
    exact ⟨h4, by omega⟩
theorem entS_len : ∀ {S : List (List (List Nat))} {P : List Int}, (entS S P).length ≤ S.flatten.length
  | [], P => by simp [entS]
  | L :: S, [] => by simp [entS]
  | L :: S, p :: P => by
    have := entS_len (S := S) (P := P)
    simp only [entS, List.length_append, List.length_map, List.flatten_cons]; omega
theorem trN_len {k t : Int} {S : List (List Raw)} {P : List Int} : (trN k t S P).length ≤ 1 + 5 * S.flatten.length := by
  unfold trN
  split
  · rename_i h0
    have ho := OfOK.of (chkAll_ok h0).1
    obtain ⟨_, h2⟩ := foldP_len (k := k.toNat) (L := entS (decS S) P) Tz0_ok fun x hx => by
      obtain ⟨L, h1, h2, _⟩ := entS_mem (x := x.1) (p := x.2) hx
      exact ((ho.rt L h1).rt x.1 h2).1
    have h3 := entS_len (S := decS S) (P := P)
    rw [flat_dec] at h3
    rw [rowT_len, madeAll_eq]
    have : Tz0.q.length = 0 := rfl
    omega
  · simp
theorem trN_9 {k t : Int} {S : List (List Raw)} {P : List Int} : N9 (trN k t S P) := by
  unfold trN
  split
  · exact rowT_9 _
  · intro n hn; simp at hn
theorem sameTr (N : List Nd) (h9 : N9 N) (hl : N.length ≤ 1048576) : KnownCall Try.prog 15 [trD N, trD N] (.d (.bool true)) := by
  refine kF Try.func15 [2, 3] fun w => ?_
  repeat' (first
    | refine zW ?_
    | refine zB ?_ ?_ <;> intro h <;> try exact zk h
    | refine zX ?_
    | ((exfalso; first | (simp at h <;> fail) | (simp at h; omega)))
    | fail)
  refine Run.loop (fun i : Nat => ⟨PT.ofList [(2, .d (.ep [.sl 10 (N.map nd)])), (3, .d (.ep [.sl 10 (N.map nd)])), (5, .d (.int .i64 i))], [], []⟩) (fun i => i ≤ N.length) (fun i => N.length - i) 0 (Nat.zero_le _) (weak_of (by repeat' (first | exact trivial | refine ⟨rfl, ?_⟩))) (fun i hi => ?_)
  rcases Nat.lt_or_ge i N.length with hlt | hge
  · obtain ⟨n, hn⟩ := get_ok hlt
    have h9n := h9 n (List.mem_of_getElem? hn)
    obtain ⟨x, p⟩ := n
    obtain ⟨a, b, c, d, e, f, g, i', j, rfl⟩ := nine h9n
    repeat' (first
      | refine zW ?_
      | refine zB ?_ ?_ <;> intro h <;> try exact zk h
      | refine zX ?_
      | refine zI w (.d (.ep (ndC ⟨[a, b, c, d, e, f, g, i', j], p⟩))) hn ?_
      | (exact ⟨i + 1, hlt, by omega, weak_of (by repeat' (first | exact trivial | refine ⟨rfl, ?_⟩ | refine ⟨(inc_get (k := i) (by kernel_rfl) (by omega)), ?_⟩))⟩)
      | ((exfalso; first | (simp at h <;> fail) | (simp at h; omega)))
      | fail)
  · have hie : i = N.length := by omega
    subst hie
    repeat' (first
      | refine zW ?_
      | refine zB ?_ ?_ <;> intro h <;> try exact zk h
      | refine zX ?_
      | rfl
      | ((exfalso; first | (simp at h <;> fail) | (simp at h; omega)))
      | fail)
theorem sizeTr (N : List Nd) : KnownCall Try.prog 16 [trD N] (.d (nI (N.map nd).length)) := by
  refine kF Try.func16 [1] fun w => ?_
  repeat' (first
    | refine zW ?_
    | refine zB ?_ ?_ <;> intro h <;> try exact zk h
    | rfl
    | fail)
theorem looksRw (a : List Raw) (hl : a.length ≤ 1048576) : KnownCall Try.prog 18 [rws a, rws a] (.d (.bool true)) := by
  refine kF Try.func18 [] fun w => ?_
  repeat' (first
    | refine zW ?_
    | refine zB ?_ ?_ <;> intro h <;> try exact zk h
    | ((exfalso; first | (simp at h <;> fail) | (simp at h; omega)))
    | fail)
  refine Run.loop (fun i : Nat => ⟨PT.ofList [(0, .d (rws a)), (1, .d (rws a)), (5, .d (.int .i64 i))], [], []⟩) (fun i => i ≤ a.length) (fun i => a.length - i) 0 (Nat.zero_le _) (weak_of (by repeat' (first | exact trivial | refine ⟨rfl, ?_⟩))) (fun i hi => ?_)
  rcases Nat.lt_or_ge i a.length with hlt | hge
  · obtain ⟨x, hx⟩ := get_ok hlt
    repeat' (first
      | refine zW ?_
      | refine zB ?_ ?_ <;> intro h <;> try exact zk h
      | refine zI w (.d (.ep (rwC x))) hx ?_
      | (exact ⟨i + 1, hlt, by omega, weak_of (by repeat' (first | exact trivial | refine ⟨rfl, ?_⟩ | refine ⟨(inc_get (k := i) (by kernel_rfl) (by omega)), ?_⟩))⟩)
      | ((exfalso; first | (simp at h <;> fail) | (simp at h; omega)))
      | fail)
  · have hie : i = a.length := by omega
    subst hie
    repeat' (first
      | refine zW ?_
      | refine zB ?_ ?_ <;> intro h <;> try exact zk h
      | rfl
      | ((exfalso; first | (simp at h <;> fail) | (simp at h; omega)))
      | fail)
theorem sameIs (a : List Int) (hl : a.length ≤ 1048576) : KnownCall Try.prog 19 [.sl 1 (a.map iI), .sl 1 (a.map iI)] (.d (.bool true)) := by
  refine kF Try.func19 [] fun w => ?_
  repeat' (first
    | refine zW ?_
    | refine zB ?_ ?_ <;> intro h <;> try exact zk h
    | ((exfalso; first | (simp at h <;> fail) | (simp at h; omega)))
    | fail)
  refine Run.loop (fun i : Nat => ⟨PT.ofList [(0, .d (.sl 1 (a.map iI))), (1, .d (.sl 1 (a.map iI))), (5, .d (.int .i64 i))], [], []⟩) (fun i => i ≤ a.length) (fun i => a.length - i) 0 (Nat.zero_le _) (weak_of (by repeat' (first | exact trivial | refine ⟨rfl, ?_⟩))) (fun i hi => ?_)
  rcases Nat.lt_or_ge i a.length with hlt | hge
  · obtain ⟨x, hx⟩ := get_ok hlt
    repeat' (first
      | refine zW ?_
      | refine zB ?_ ?_ <;> intro h <;> try exact zk h
      | refine zI w (.d (.ep [iI x])) hx ?_
      | (exact ⟨i + 1, hlt, by omega, weak_of (by repeat' (first | exact trivial | refine ⟨rfl, ?_⟩ | refine ⟨(inc_get (k := i) (by kernel_rfl) (by omega)), ?_⟩))⟩)
      | ((exfalso; first | (simp at h <;> fail) | (simp at h; omega)))
      | fail)
  · have hie : i = a.length := by omega
    subst hie
    repeat' (first
      | refine zW ?_
      | refine zB ?_ ?_ <;> intro h <;> try exact zk h
      | rfl
      | ((exfalso; first | (simp at h <;> fail) | (simp at h; omega)))
      | fail)
theorem ownIs (l : List Int) (hl : l.length ≤ 1048576) : KnownCall Try.prog 12 [.sl 1 (l.map iI)] (.d (.sl 1 (l.map iI))) := by
  have w : Fz [] := trivial
  refine knownE2 Et_ok (fnB Try.func12 []) ?_
  repeat' (first
    | refine zW ?_
    | refine zB ?_ ?_ <;> intro h <;> try exact zk h
    | refine zAp ?_
    | (refine Run.ret ?_; refine r2 ?_; first | done | (exact .refl))
    | fail)
theorem leavesC (N : List Nd) (h9 : N9 N) (hl : N.length ≤ 1048576) (t k : Nat) (hk : k ≤ 4) : ∀ (d : Nat) (x : List Nat) (i : Int) (yi L : Nat) (B : Nat → List Ob) (n : Nat) (obs : List Ob), x.length + d = k → Feed yi L (lvF N d i x) B n obs → ACall Try.prog 98 (lvA yi N i x k t) (B 0) (.tup []) obs
  | 0, x, i, yi, L, B, n, obs, hx, hF => leaves0 N h9 hl t k x hx i yi L B n obs hF
  | d + 1, x, i, yi, L, B, n, obs, hx, hF => leavesS N h9 hl t k d hk (fun x i yi L B n obs h1 h2 => leavesC N h9 hl t k hk d x i yi L B n obs h1 h2) x hx i yi L B n obs hF
instance instDecNd : DecidableEq Nd := fun a b => if h : a.x = b.x ∧ a.p = b.p then isTrue (by cases a; cases b; simp_all) else isFalse fun e => h (by subst e; exact ⟨rfl, rfl⟩)
def smL {α : Type} (p : α → α → Bool) : List α → List α → Bool
  | [], [] => true
  | x :: a, y :: b => p x y && smL p a b
  | _, _ => false
theorem smL_len {α : Type} {p : α → α → Bool} : ∀ {a b : List α}, a.length ≠ b.length → smL p a b = false
  | [], [], h => absurd rfl h
  | [], _ :: _, _ => rfl
  | _ :: _, [], _ => rfl
  | x :: a, y :: b, h => by
    have : smL p a b = false := smL_len (by simpa using h)
    simp [smL, this]
theorem smL_at {α : Type} {p : α → α → Bool} : ∀ {a b : List α} {i : Nat} {x y : α}, a[i]? = some x → b[i]? = some y → p x y = false → smL p a b = false
  | [], _, i, x, y, h, _, _ => by simp at h
  | _ :: _, [], i, x, y, _, h, _ => by simp at h
  | u :: a, v :: b, 0, x, y, h, k, hp => by simp at h k; subst h k; simp [smL, hp]
  | u :: a, v :: b, i + 1, x, y, h, k, hp => by
    have := smL_at (p := p) (a := a) (b := b) (i := i) (by simpa using h) (by simpa using k) hp
    simp [smL, this]
theorem smL_all {α : Type} {p : α → α → Bool} : ∀ {a b : List α}, a.length = b.length → (∀ (j : Nat) x y, a[j]? = some x → b[j]? = some y → p x y = true) → smL p a b = true
  | [], [], _, _ => rfl
  | [], _ :: _, h, _ => by simp at h
  | _ :: _, [], h, _ => by simp at h
  | x :: a, y :: b, h, hp => by
    have h1 := hp 0 x y rfl rfl
    have h2 := smL_all (p := p) (a := a) (b := b) (by simpa using h) (fun j u v hu hv => hp (j + 1) u v (by simpa using hu) (by simpa using hv))
    simp [smL, h1, h2]
theorem smL_self {α : Type} {p : α → α → Bool} {a : List α} (h : ∀ x ∈ a, p x x = true) : smL p a a = true :=
  smL_all rfl fun j x y hx hy => by rw [hx] at hy; cases hy; exact h x (List.mem_of_getElem? hx)
theorem smL_dec {α : Type} [DecidableEq α] {a b : List α} : smL (fun x y => decide (x = y)) a b = decide (a = b) := by
  by_cases hl : a.length = b.length
  · by_cases h : a = b
    · subst h; rw [decide_eq_true rfl]; exact smL_self fun x _ => by simp
    · rw [decide_eq_false h]
      have : ∃ j : Nat, ∃ x y, a[j]? = some x ∧ b[j]? = some y ∧ x ≠ y := Classical.byContradiction fun hn => h (List.ext_getElem hl fun j h1 h2 => Classical.byContradiction fun hne => hn ⟨j, a[j], b[j], by simp [h1], by simp [h2], hne⟩)
      obtain ⟨j, x, y, hx, hy, hne⟩ := this
      exact smL_at hx hy (by simpa using hne)
  · rw [smL_len hl, decide_eq_false]
    intro e; subst e; exact hl rfl
theorem upTo_succ {α : Type} {a b : List α} {p : α → α → Bool} {i : Nat} {x y : α} (hi : ∀ j : Nat, j < i → ∀ u v, a[j]? = some u → b[j]? = some v → p u v = true) (hx : a[i]? = some x) (hy : b[i]? = some y) (h : p x y = true) :
    ∀ j : Nat, j < i + 1 → ∀ u v, a[j]? = some u → b[j]? = some v → p u v = true := by
  intro j hj u v hu hv
  rcases Nat.lt_or_ge j i with h1 | h1
  · exact hi j h1 u v hu hv
  · have : j = i := by omega
    subst this
    rw [hx] at hu; rw [hy] at hv; cases hu; cases hv; exact h
theorem upTo_all {α : Type} {a b : List α} {p : α → α → Bool} {i : Nat} (hl : a.length = b.length) (hge : a.length ≤ i) (hi : ∀ j : Nat, j < i → ∀ u v, a[j]? = some u → b[j]? = some v → p u v = true) : smL p a b = true :=
  smL_all hl fun j u v hu hv => hi j (Nat.lt_of_lt_of_le (List.getElem?_eq_some_iff.1 hu).1 hge) u v hu hv
theorem equalFuncN (a b : List Nd) (hal : a.length ≤ 1099511627776) (ha9 : N9 a) (hb9 : N9 b) (F : FuncId) (p : Nd → Nd → Bool) (hp : ∀ x ∈ a, ∀ y ∈ b, KnownCall Try.prog F [nd x, nd y] (.d (.bool (p x y)))) :
    KnownCall Try.prog 67 [.sl 10 (a.map nd), .sl 10 (b.map nd), .fn (.func F) [] []] (.d (.bool (smL p a b))) := by
  by_cases hlen : a.length = b.length
  · refine kF Try.func67 [] fun w => ?_
    repeat' (first
      | refine zW ?_
      | refine zB ?_ ?_ <;> intro h <;> try exact zk h
      | ((exfalso; first | (simp_all <;> fail) | (simp_all; omega)))
      | fail)
    refine Run.loopT (fun i : Nat => ⟨PT.ofList [(1, .d (.sl 10 (b.map nd))), (2, .d (.fn (.func F) [] [])), (15, .d (.sl 10 (a.map nd))), (16, .d (.int .i64 (a.map nd).length)), (17, .d (.int .i64 i))], [], []⟩) (fun i => i ≤ a.length ∧ ∀ j : Nat, j < i → ∀ u v, a[j]? = some u → b[j]? = some v → p u v = true) (fun i => a.length - i) 0 ⟨Nat.zero_le _, fun j hj => by omega⟩ (ti _ 0) (fun i hi => ?_)
    rcases Nat.lt_or_ge i a.length with hlt | hge
    · obtain ⟨x, hx⟩ := get_ok hlt
      obtain ⟨y, hy⟩ := get_ok (show i < b.length by omega)
      have hc := hp x (List.mem_of_getElem? hx) y (List.mem_of_getElem? hy)
      have hx9 := ha9 x (List.mem_of_getElem? hx)
      have hy9 := hb9 y (List.mem_of_getElem? hy)
      cases hxy : p x y with
      | true =>
        rw [hxy] at hc
        have ht := upTo_succ hi.2 hx hy hxy
        obtain ⟨ax, ap⟩ := x
        obtain ⟨a0, a1, a2, a3, a4, a5, a6, a7, a8, rfl⟩ := nine hx9
        obtain ⟨bx, bp⟩ := y
        obtain ⟨b0, b1, b2, b3, b4, b5, b6, b7, b8, rfl⟩ := nine hy9
        repeat' (first
          | refine zW ?_
          | refine zB ?_ ?_ <;> intro h <;> try exact zk h
          | refine oI (v := .d (.ep (ndC ⟨[a0, a1, a2, a3, a4, a5, a6, a7, a8], ap⟩))) ?_ (he := by first | (simp [gD, cellsD, hx, nd] <;> fail) | fail)
          | refine eI (v := .d (.ep (ndC ⟨[a0, a1, a2, a3, a4, a5, a6, a7, a8], ap⟩))) ?_ (he := by first | (simp [gD, cellsD, hx, nd] <;> fail) | fail)
          | refine oI (v := .d (.ep (ndC ⟨[b0, b1, b2, b3, b4, b5, b6, b7, b8], bp⟩))) ?_ (he := by first | (simp [gD, cellsD, hy, nd] <;> fail) | fail)
          | refine eI (v := .d (.ep (ndC ⟨[b0, b1, b2, b3, b4, b5, b6, b7, b8], bp⟩))) ?_ (he := by first | (simp [gD, cellsD, hy, nd] <;> fail) | fail)
          | refine zC (hc) ?_
          | (exact ⟨i + 1, ⟨hlt, ht⟩, by omega, (ti _ 0)⟩)
          | ((exfalso; first | (simp_all <;> fail) | (simp_all; omega)))
          | fail)
      | false =>
        rw [hxy] at hc
        rw [smL_at hx hy hxy]
        obtain ⟨ax, ap⟩ := x
        obtain ⟨a0, a1, a2, a3, a4, a5, a6, a7, a8, rfl⟩ := nine hx9
        obtain ⟨bx, bp⟩ := y
        obtain ⟨b0, b1, b2, b3, b4, b5, b6, b7, b8, rfl⟩ := nine hy9
        repeat' (first
          | refine zW ?_
          | refine zB ?_ ?_ <;> intro h <;> try exact zk h
          | refine oI (v := .d (.ep (ndC ⟨[a0, a1, a2, a3, a4, a5, a6, a7, a8], ap⟩))) ?_ (he := by first | (simp [gD, cellsD, hx, nd] <;> fail) | fail)
          | refine eI (v := .d (.ep (ndC ⟨[a0, a1, a2, a3, a4, a5, a6, a7, a8], ap⟩))) ?_ (he := by first | (simp [gD, cellsD, hx, nd] <;> fail) | fail)
          | refine oI (v := .d (.ep (ndC ⟨[b0, b1, b2, b3, b4, b5, b6, b7, b8], bp⟩))) ?_ (he := by first | (simp [gD, cellsD, hy, nd] <;> fail) | fail)
          | refine eI (v := .d (.ep (ndC ⟨[b0, b1, b2, b3, b4, b5, b6, b7, b8], bp⟩))) ?_ (he := by first | (simp [gD, cellsD, hy, nd] <;> fail) | fail)
          | refine zC (hc) ?_
          | rfl
          | ((exfalso; first | (simp_all <;> fail) | (simp_all; omega)))
          | fail)
    · rw [upTo_all hlen hge hi.2]
      have hie : i = a.length := by have := hi.1; omega
      subst hie
      repeat' (first
        | refine zW ?_
        | refine zB ?_ ?_ <;> intro h <;> try exact zk h
        | rfl
        | ((exfalso; first | (simp_all <;> fail) | (simp_all; omega)))
        | fail)
  · rw [smL_len hlen]
    refine kF Try.func67 [] fun w => ?_
    repeat' (first
      | refine zW ?_
      | refine zB ?_ ?_ <;> intro h <;> try exact zk h
      | rfl
      | ((exfalso; first | (simp_all <;> fail) | (simp_all; omega)))
      | fail)
theorem sameNd1 (x y : Nd) (hx : x.x.length = 9) (hy : y.x.length = 9) : KnownCall Try.prog 68 [nd x, nd y] (.d (.bool (decide (x = y)))) := by
  obtain ⟨ax, ap⟩ := x
  obtain ⟨a0, a1, a2, a3, a4, a5, a6, a7, a8, rfl⟩ := nine hx
  obtain ⟨bx, bp⟩ := y
  obtain ⟨b0, b1, b2, b3, b4, b5, b6, b7, b8, rfl⟩ := nine hy
  refine kF Try.func68 [2, 3] fun w => ?_
  repeat' (first
    | refine zW ?_
    | refine zB ?_ ?_ <;> intro h <;> try exact zk h
    | refine zX ?_
    | (fail)
    | fail)
  · refine congrArg (fun b => AV.d (DV.bool b)) ?_
    simp only [Bool.and_eq_true, beq_iff_eq, Bool.and_true] at *
    simp_all
  · refine congrArg (fun b => AV.d (DV.bool b)) ?_
    simp only [Bool.and_eq_true, beq_iff_eq, Bool.and_true, beq_eq_false_iff_ne] at *
    simp_all
  · refine congrArg (fun b => AV.d (DV.bool b)) ?_
    simp only [Bool.and_true] at h
    symm
    rw [decide_eq_false_iff_not]
    intro e
    simp only [Nd.mk.injEq, List.cons.injEq, and_true] at e
    obtain ⟨⟨rfl, rfl, rfl, rfl, rfl, rfl, rfl, rfl, rfl⟩, rfl⟩ := e
    simp at h
theorem sameTrK (N M : List Nd) (hN : N9 N) (hM : N9 M) (hl : N.length ≤ 1048576) : KnownCall Try.prog 27 [trD N, trD M] (.d (.bool (decide (N = M)))) := by
  have c := equalFuncN N M (by omega) hN hM 68 (fun u v => decide (u = v)) (fun u hu v hv => sameNd1 u v (hN u hu) (hM v hv))
  rw [smL_dec] at c
  refine kF Try.func27 [2, 3] fun w => ?_
  repeat' (first
    | refine zW ?_
    | refine zB ?_ ?_ <;> intro h <;> try exact zk h
    | refine zX ?_
    | refine zC (c) ?_
    | rfl
    | (fail)
    | fail)
theorem Run.postT {P : Program} {nt m : Nat} {ro' : Option Nat} {K : Ex → S → Prop} {c : Code} {s : S} (h : Run P nt m ro' c s (fun e s1 => isPanE e = false ∧ ∃ s2, K e s2 ∧ Tidy m s1 s2)) : Run P nt m ro' c s K := by
  intro D0 β0 o0 w0 hb0 ro Q a w hro hK hs
  refine h D0 β0 o0 w0 hb0 ro Q a w hro (fun e s1 hk => ?_) hs
  obtain ⟨h0, s2, h1, h2⟩ := hk
  refine ⟨fun a w hx hs => (hK _ _ h1).1 a w hx (hs.tidyL hb0 h2), fun x hx => ?_⟩
  subst hx
  cases h0
def crF (j p : Nat) : AV := if p < j then .sr (3 + p) 5 [] else .d .nilsl
def crO (a c : Ob) (j : Nat) : List Ob := a :: .box ((List.range 24).map (crF j)) :: c :: (List.range j).map (fun _ => Ob.room 0 5)
theorem crO_len (a c : Ob) (j : Nat) : (crO a c j).length = 3 + j := by simp [crO]; omega
theorem crO_succ (a c : Ob) {j : Nat} (hj : j < 24) : (crO a c j).set 1 (.box (((List.range 24).map (crF j)).set j (.sr (crO a c j).length 5 []))) ++ [.room 0 5] = crO a c (j + 1) := by
  rw [crO_len]
  have h1 : ((List.range 24).map (crF j)).set j (.sr (3 + j) 5 []) = (List.range 24).map (crF (j + 1)) := by
    refine List.ext_getElem? fun p => ?_
    by_cases hp : p < 24
    · rw [List.getElem?_set, List.getElem?_map, List.getElem?_map, List.getElem?_range hp]
      simp only [List.length_map, List.length_range, Option.map_some]
      by_cases hjp : j = p
      · subst hjp; rw [if_pos rfl, if_pos hj, crF, if_pos (by omega)]
      · rw [if_neg hjp]
        unfold crF
        by_cases h2 : p < j
        · rw [if_pos h2, if_pos (by omega)]
        · rw [if_neg h2, if_neg (by omega)]
    · rw [List.getElem?_eq_none (by simp; omega), List.getElem?_eq_none (by simp; omega)]
  have h2 : (List.range (j + 1)).map (fun _ => Ob.room 0 5) = (List.range j).map (fun _ => Ob.room 0 5) ++ [.room 0 5] := by rw [List.range_succ, List.map_append]; rfl
  unfold crO
  rw [h2]
  simp [h1]
theorem Run.cells24 {P : Program} {nt m : Nat} {ro' : Option Nat} {K : Ex → S → Prop} {c : Code} {tm : PT AV} {dl : List Dl} {a b : Ob} (h : Run P nt m ro' c ⟨tm, crO a b 24, dl⟩ K) : Run P nt m ro' c ⟨tm, crO a b 0, dl⟩ K := by
  have : ∀ d, d ≤ 24 → Run P nt m ro' c ⟨tm, crO a b (24 - d), dl⟩ K := by
    intro d
    induction d with
    | zero => exact fun _ => h
    | succ d ih =>
      intro hd
      refine Run.cellRoom 1 (24 - (d + 1)) 5 (cs := (List.range 24).map (crF (24 - (d + 1)))) (ih (by omega)) rfl ?_ ?_
      · rw [List.getElem?_map, List.getElem?_range (by omega)]
        show some (crF _ _) = _
        rw [crF, if_neg (Nat.lt_irrefl _)]
      · have := crO_succ a b (j := 24 - (d + 1)) (by omega)
        rw [this]; congr 1; omega
  exact this 24 (Nat.le_refl _)
def grp (E : List (List Nat × Int)) (p : Nat) : List (List Nat) := (E.filter fun e => decide (e.2 = (p : Int))).map (·.1)
def gcF (E : List (List Nat × Int)) (p : Nat) : AV := .sr (3 + p) 5 ((grp E p).map lk)
def gcs (E : List (List Nat × Int)) : List AV := (List.range 24).map (gcF E)
def grs (E : List (List Nat × Int)) : List Ob := (List.range 24).map fun p => Ob.room (grp E p).length 5
theorem gcs_len (E : List (List Nat × Int)) : (gcs E).length = 24 := by simp [gcs]
theorem grs_len (E : List (List Nat × Int)) : (grs E).length = 24 := by simp [grs]
theorem gcs_at {E : List (List Nat × Int)} {p : Nat} (h : p < 24) : (gcs E)[p]? = some (.sr (3 + p) 5 ((grp E p).map lk)) := by
  rw [gcs, List.getElem?_map, List.getElem?_range h]; rfl
theorem grs_at {E : List (List Nat × Int)} {p : Nat} (h : p < 24) : (grs E)[p]? = some (.room (grp E p).length 5) := by
  rw [grs, List.getElem?_map, List.getElem?_range h]; rfl
theorem grp_snoc {E : List (List Nat × Int)} {e : List Nat × Int} {p : Nat} : grp (E ++ [e]) p = if e.2 = (p : Int) then grp E p ++ [e.1] else grp E p := by
  unfold grp
  rw [List.filter_append, List.map_append]
  by_cases h : e.2 = (p : Int)
  · rw [if_pos h]; simp [h]
  · rw [if_neg h]; simp [h]
theorem gcs_set {E : List (List Nat × Int)} {x : List Nat} {p : Nat} (h : p < 24) : (gcs E).set p (.sr (3 + p) 5 ((grp E p).map lk ++ [lk x])) = gcs (E ++ [(x, (p : Int))]) := by
  refine List.ext_getElem? fun q => ?_
  by_cases hq : q < 24
  · rw [List.getElem?_set, gcs_at hq, gcs_at hq, grp_snoc, gcs_len]
    by_cases hpq : p = q
    · subst hpq; simp [h]
    · rw [if_neg hpq, if_neg (by simp only; omega)]
  · rw [List.getElem?_eq_none (by simp [gcs]; omega), List.getElem?_eq_none (by simp [gcs]; omega)]
theorem grs_set {E : List (List Nat × Int)} {x : List Nat} {p : Nat} (h : p < 24) : (grs E).set p (.room ((grp E p).length + 1) 5) = grs (E ++ [(x, (p : Int))]) := by
  refine List.ext_getElem? fun q => ?_
  by_cases hq : q < 24
  · rw [List.getElem?_set, grs_at hq, grs_at hq, grp_snoc, grs_len]
    by_cases hpq : p = q
    · subst hpq; simp [h]
    · rw [if_neg hpq, if_neg (by simp only; omega)]
  · rw [List.getElem?_eq_none (by simp [grs]; omega), List.getElem?_eq_none (by simp [grs]; omega)]
theorem gcs_ref {n : Nat} (h : 27 ≤ n) (E : List (List Nat × Int)) : refOb n (.box (gcs E)) = true := by
  simp only [refOb, List.all_eq_true]
  intro x hx
  obtain ⟨p, hp, rfl⟩ := List.mem_map.1 hx
  have := List.mem_range.1 hp
  simp only [gcF, refA, Nat.blt_eq]; omega
theorem grs_ref {n : Nat} (E : List (List Nat × Int)) : (grs E).all (refOb n) = true := by
  rw [List.all_eq_true]
  intro x hx
  obtain ⟨p, hp, rfl⟩ := List.mem_map.1 hx
  rfl
def vB (E : List (List Nat × Int)) (c : Nat) : List Ob := .box [.d (.bool false)] :: .box (gcs (E.take c)) :: .box [.d (nI c)] :: grs (E.take c)
theorem vB_len (E : List (List Nat × Int)) (c : Nat) : (vB E c).length = 27 := by simp [vB, grs_len]
theorem vB_ref {n : Nat} (h : 27 ≤ n) (E : List (List Nat × Int)) (c : Nat) : (vB E c).all (refOb n) = true := by
  simp only [vB, List.all_cons, gcs_ref h, grs_ref, Bool.true_and, Bool.and_true]; rfl
def keepP (E : List (List Nat × Int)) (p : Nat) : Bool := !(grp E p).isEmpty
def lsE (E : List (List Nat × Int)) (n : Nat) : List DV := ((List.range n).filter (keepP E)).map fun q => lks (grp E q)
def nsE (E : List (List Nat × Int)) (n : Nat) : List DV := ((List.range n).filter (keepP E)).map fun q => nI q
def vS (E : List (List Nat × Int)) : List (List (List Nat)) := ((List.range 24).filter (keepP E)).map fun q => grp E q
def vP (E : List (List Nat × Int)) : List Int := ((List.range 24).filter (keepP E)).map fun (q : Nat) => (q : Int)
theorem lsE_succ {E : List (List Nat × Int)} {p : Nat} : lsE E (p + 1) = if keepP E p = true then lsE E p ++ [lks (grp E p)] else lsE E p := by
  unfold lsE
  rw [List.range_succ, List.filter_append, List.map_append]
  by_cases h : keepP E p = true
  · rw [if_pos h]; simp [h]
  · rw [if_neg h]; simp [h]
theorem nsE_succ {E : List (List Nat × Int)} {p : Nat} : nsE E (p + 1) = if keepP E p = true then nsE E p ++ [nI p] else nsE E p := by
  unfold nsE
  rw [List.range_succ, List.filter_append, List.map_append]
  by_cases h : keepP E p = true
  · rw [if_pos h]; simp [h]
  · rw [if_neg h]; simp [h]
theorem ls_len {E : List (List Nat × Int)} {n : Nat} : (lsE E n).length ≤ n := by
  rw [lsE, List.length_map]
  exact Nat.le_trans (List.length_filter_le _ _) (by simp)
theorem ns_len {E : List (List Nat × Int)} {n : Nat} : (nsE E n).length ≤ n := by
  rw [nsE, List.length_map]
  exact Nat.le_trans (List.length_filter_le _ _) (by simp)
theorem rws2_vS (E : List (List Nat × Int)) : rws2 (rawS (vS E)) = .sl 1 (lsE E 24) := by
  rw [rws2_raw, vS, lsE, List.map_map]; rfl
theorem vP_iI (E : List (List Nat × Int)) : (vP E).map iI = nsE E 24 := by
  rw [vP, nsE, List.map_map]; rfl
theorem vS_len (E : List (List Nat × Int)) : (vS E).length ≤ 24 := by
  rw [vS, List.length_map]
  exact Nat.le_trans (List.length_filter_le _ _) (by simp)
theorem vP_len (E : List (List Nat × Int)) : (vP E).length = (vS E).length := by simp [vP, vS]
theorem cnt_succ (p : Nat) : ∀ E : List (List Nat × Int), (E.filter fun e => decide (0 ≤ e.2 ∧ e.2 < ((p + 1 : Nat) : Int))).length = (E.filter fun e => decide (0 ≤ e.2 ∧ e.2 < (p : Int))).length + (E.filter fun e => decide (e.2 = (p : Int))).length
  | [] => rfl
  | e :: E => by
    have ih := cnt_succ p E
    simp only [List.filter_cons, decide_eq_true_eq]
    by_cases h1 : e.2 = (p : Int)
    · rw [if_pos (show 0 ≤ e.2 ∧ e.2 < ((p + 1 : Nat) : Int) by omega), if_neg (show ¬ (0 ≤ e.2 ∧ e.2 < (p : Int)) by omega), if_pos h1, List.length_cons, List.length_cons, ih]; omega
    · by_cases h2 : 0 ≤ e.2 ∧ e.2 < (p : Int)
      · rw [if_pos (show 0 ≤ e.2 ∧ e.2 < ((p + 1 : Nat) : Int) by omega), if_pos h2, if_neg h1, List.length_cons, List.length_cons, ih]; omega
      · rw [if_neg (show ¬ (0 ≤ e.2 ∧ e.2 < ((p + 1 : Nat) : Int)) by omega), if_neg h2, if_neg h1, ih]
theorem flat_le (E : List (List Nat × Int)) : ∀ n : Nat, (((List.range n).filter (keepP E)).map fun q => grp E q).flatten.length ≤ (E.filter fun e => decide (0 ≤ e.2 ∧ e.2 < (n : Int))).length
  | 0 => Nat.zero_le _
  | n + 1 => by
    rw [List.range_succ, List.filter_append, List.map_append, List.flatten_append, List.length_append, cnt_succ]
    refine Nat.add_le_add (flat_le E n) ?_
    by_cases h : keepP E n = true
    · simp [h, grp]
    · simp [h]
theorem vS_flat (E : List (List Nat × Int)) : (vS E).flatten.length ≤ E.length := Nat.le_trans (flat_le E 24) (List.length_filter_le _ _)
def dataG (E : List (List Nat × Int)) : List DV := (List.range 24).map fun p => lks (grp E p)
theorem dataG_at {E : List (List Nat × Int)} {p : Nat} (h : p < 24) : (dataG E)[p]? = some (lks (grp E p)) := by
  rw [dataG, List.getElem?_map, List.getElem?_range h]; rfl
def O29 : List Ob := .box [.d (.bool false)] :: (List.replicate 26 .gone ++ [.raw (.deferred (some [])), .gone])
theorem wk_gone : ∀ (R : List Ob) {T T' : List Ob}, WkObs T T' → WkObs (R ++ T) (List.replicate R.length .gone ++ T')
  | [], _, _, h => h
  | _ :: R, _, _, h => ⟨.gone, wk_gone R h⟩
theorem wk29 {R : List Ob} {l : Ob} (hR : R.length = 26) : WkObs (.box [.d (.bool false)] :: (R ++ [.raw (.deferred (some [])), l])) O29 := by
  refine ⟨.refl, ?_⟩
  have := wk_gone R (T := [.raw (.deferred (some [])), l]) (T' := [.raw (.deferred (some [])), .gone]) ⟨.refl, .gone, trivial⟩
  rw [hR] at this
  exact this
theorem leave1 {i : Nat} {O : List Ob} (h : O[i]? = some (.raw (.deferred (some [])))) : evLeave H0 [.mark i] none O = some (none, O.set i (.raw (.deferred none))) := by
  simp only [evLeave, h]
section
variable {E : PT Ty} {H : Hd} {frz : List Nat} {rd : Operand → AV} {objs : List Ob} {o : Oper}
theorem evAny_indexA {t e : TypeId} {x ix : Operand} {len i : Nat} {z : Ty} {c : DV} {cs : List DV} {y1 y2 : Nat} {zz : _} (hop : o.op = .index t x ix) (h1 : E.get? t = some ⟨.array len e, y1, y2, zz⟩) (h2 : E.get? e = some z) (ha : isAggT z.desc = false) (hz : z.size = 1) (hx : rd x = .d (.agg cs)) (hi : rd ix = .d (nI i)) (hc : cs[i]? = some c) (hl : i < len) :
    evAny E H frz rd objs o = some (.d c, none, true) := by
  obtain ⟨dst, op, ty, pos, after, guard⟩ := o
  simp only at hop
  subst hop
  have hb : inB (i : Int) len = true := by simp [inB]; omega
  have hcc : (cs.map AV.d)[i]? = some (.d c) := by simp [hc]
  simp only [evAny, quiet, evOp, indexR, h1, hx, hi, aggCells, h2, hb, if_true, partR, ha, hz, Nat.mul_one, Int.toNat_natCast, hcc, pureR, Option.map_some]
theorem evAny_appL {args : Array Operand} {tys : Array TypeId} {a b : Operand} {x : List Nat} {i : Nat} {L : List (List Nat)} (hop : o.op = .call ⟨.builtin .append, args, tys⟩) (ha : args.toList = [a, b]) (ht : tys.toList = [24, 24])
    {j : Nat} (hb : rd b = .sr j 5 [lk x]) (h7 : rd a = .sr i 5 (L.map lk)) (h8 : objs[i]? = some (.room L.length 5)) (hlen : L.length ≤ 1048575) :
    evAny Et H0 frz rd objs o = some (.sr i 5 (L.map lk ++ [lk x]), some (objs.set i (.room (L.length + 1) 5)), true) := by
  obtain ⟨dst, op, ty, pos, after, guard⟩ := o
  simp only at hop
  subst hop
  have hs : appSrc0 Et 52 24 (.sr j 5 [lk x]) objs = some (5, [lk x]) := rfl
  have e1 : Et.get? 24 = some ty24 := rfl
  have e2 : Et.get? 52 = some ty52 := rfl
  have hsz : srcSz 5 ty52.size [lk x] = 5 := rfl
  have hm : Nat.ble (((L.map lk).length + 1) * ty52.bytes) 1099511627776 = true := Nat.ble_eq_true_of_le (Nat.le_trans (Nat.mul_le_mul (show (L.map lk).length + 1 ≤ 1048576 by simp; omega) (Nat.le_refl _)) (by decide))
  have hn : Nat.beq L.length (L.map lk).length = true := by simp
  simp only [evAny, ha, ht, hb, h7, appendR, e1]
  show Option.map _ (match some ty52, appSrc0 Et 52 24 (.sr j 5 [lk x]) objs with
    | some z, some (szx, ys) => _
    | _, _ => none) = _
  rw [hs]
  simp only [h8, hsz]
  rw [if_pos (by rfl), if_pos (by rfl)]
  simp only [Option.map_some, List.length_cons, List.length_nil, Nat.zero_add, hn, hm, Bool.and_self]
  rfl
end
end Go.Av
end
noncomputable section
namespace Go.Av
set_option maxRecDepth 10000
theorem goT_app {Q : TE} : ∀ {l : List Nat} {m : List Nat} {a : Nat}, goT Q a (l ++ m) = (goT Q a l).bind fun b => goT Q b m
  | [], m, a => rfl
  | e :: l, m, a => by
    simp only [List.cons_append, goT]
    split
    · exact goT_app
    · rfl
theorem step_new {T : Trt} {a e : Nat} {pre : List Nat} (h : OkT T) (hp : goT T.q 0 pre = some a) : ∀ (es : List Nat) (n : Nat), goT (stepT T a e).q 0 es = some n → (∃ m, goT T.q 0 es = some m) ∨ es = pre ++ [e] := by
  by_cases hm : (a, e) ∈ T.q
  · intro es n hn
    rw [stepT, if_pos hm] at hn
    exact .inl ⟨n, hn⟩
  · have hq : (stepT T a e).q = T.q ++ [(a, e)] := by rw [stepT, if_neg hm]
    have hal := goT_le (Nat.zero_le _) hp
    rw [hq]
    refine rev_ind (fun n _ => .inl ⟨0, rfl⟩) (fun l f ih n hn => ?_)
    rw [goT_snoc] at hn
    cases hb : goT (T.q ++ [(a, e)]) 0 l with
    | none => rw [hb] at hn; cases hn
    | some b =>
      rw [hb] at hn
      simp only [Option.bind_some] at hn
      split at hn
      · rename_i hbf
        rcases ih b hb with ⟨m, hm1⟩ | rfl
        · have : m = b := by
            have := goT_mono (R := [(a, e)]) hm1
            rw [hb] at this; exact (Option.some.inj this).symm
          subst this
          rcases List.mem_append.1 hbf with h1 | h1
          · refine .inl ⟨toT T.q m f, ?_⟩
            rw [goT_snoc, hm1]
            simp only [Option.bind_some]
            rw [if_pos h1]
          · simp only [List.mem_cons, List.not_mem_nil, or_false, Prod.mk.injEq] at h1
            obtain ⟨rfl, rfl⟩ := h1
            have := goT_inj l hm1 hp
            subst this
            exact .inr rfl
        · exfalso
          have h2 := goT_mono (R := [(a, e)]) hp
          rw [goT_snoc, h2] at hb
          simp only [Option.bind_some] at hb
          rw [if_pos (by simp), toT_app hm, if_pos rfl] at hb
          have hbl : b = T.q.length + 1 := (Option.some.inj hb).symm
          rcases List.mem_append.1 hbf with h1 | h1
          · obtain ⟨i, hi⟩ := List.getElem?_of_mem h1
            have := (h.le i _ _ hi).1
            have := (List.getElem?_eq_some_iff.1 hi).1
            omega
          · simp only [List.mem_cons, List.not_mem_nil, or_false, Prod.mk.injEq] at h1
            omega
      · cases hn
theorem walk_new : ∀ {es : List Nat} {T : Trt} {a : Nat} {pre : List Nat}, OkT T → goT T.q 0 pre = some a → (∀ e ∈ es, e ≤ 8) → ∀ (w : List Nat) (n : Nat), goT (walkT T a es).1.q 0 w = some n → (∃ m, goT T.q 0 w = some m) ∨ w <+: pre ++ es
  | [], T, a, pre, _, _, _, w, n, hn => .inl ⟨n, hn⟩
  | e :: es, T, a, pre, h, hp, he, w, n, hn => by
    have ha := goT_le (Nat.zero_le _) hp
    have h' := stepT_ok h ha (he e (by simp))
    obtain ⟨R, r1, r2, r3, r4⟩ := stepT_ext T a e
    have hp' : goT (stepT T a e).q 0 (pre ++ [e]) = some (toT (stepT T a e).q a e) := by
      rw [goT_snoc, r1, goT_mono hp]
      simp only [Option.bind_some]
      rw [if_pos (by rw [← r1]; exact r4)]
    rcases walk_new h' hp' (fun f hf => he f (by simp [hf])) w n hn with ⟨m, hm⟩ | hw
    · rcases step_new h hp w m hm with h1 | rfl
      · exact .inl h1
      · exact .inr ⟨es, by simp⟩
    · rw [List.append_assoc] at hw
      exact .inr hw
def PreT (k : Nat) (T : Trt) (S : List (List Nat × Int)) : Prop := ∀ es n, goT T.q 0 es = some n → es = [] ∨ ∃ y ∈ S, es <+: edgesT k y.1
theorem PreT.zero (k : Nat) : PreT k Tz0 [] := fun es n h => by
  cases es with
  | nil => exact .inl rfl
  | cons e es => simp [goT, Tz0] at h
theorem PreT.put {k : Nat} {T : Trt} {S : List (List Nat × Int)} (h : PreT k T S) (ho : OkT T) {x : List Nat} {p : Int} (hx : ∀ e ∈ x, e < 8) : PreT k (putT k T (x, p)) (S ++ [(x, p)]) := fun es n hn => by
  have hn : goT (walkT T 0 (edgesT k x)).1.q 0 es = some n := hn
  rcases walk_new (pre := []) ho rfl (edges8 hx) es n hn with ⟨m, hm⟩ | hw
  · rcases h es m hm with h1 | ⟨y, hy, h1⟩
    · exact .inl h1
    · exact .inr ⟨y, by simp [hy], h1⟩
  · exact .inr ⟨(x, p), by simp, by simpa using hw⟩
theorem putT_okL {k : Nat} {T : Trt} (h : OkT T) {x : List Nat} (p : Int) (hx : ∀ e ∈ x, e < 8) (hl : x.length ≤ k) : OkT (putT k T (x, p)) ∧ (putT k T (x, p)).q.length ≤ T.q.length + k := by
  obtain ⟨g1, g2, R, r1, r2, r3⟩ := walkT_ok (es := edgesT k x) h (a := 0) (Nat.zero_le _) (edges8 hx)
  refine ⟨⟨by simp [putT, g1.len], g1.nd, g1.le⟩, ?_⟩
  show (walkT T 0 (edgesT k x)).1.q.length ≤ _
  have : (edgesT k x).length ≤ k := by
    unfold edgesT
    split
    · simp only [List.length_append, List.length_cons, List.length_nil]; omega
    · exact hl
  rw [r1, List.length_append]; omega
theorem PreT.fold {k : Nat} : ∀ {L : List (List Nat × Int)} {T : Trt} {S : List (List Nat × Int)}, PreT k T S → OkT T → (∀ x ∈ L, (∀ e ∈ x.1, e < 8) ∧ x.1.length ≤ k) → PreT k (L.foldl (putT k) T) (S ++ L) ∧ OkT (L.foldl (putT k) T) ∧ (L.foldl (putT k) T).q.length ≤ T.q.length + k * L.length
  | [], T, S, h, ho, _ => ⟨by simpa using h, ho, by simp⟩
  | (x, p) :: L, T, S, h, ho, hL => by
    have hx : (∀ e ∈ x, e < 8) ∧ x.length ≤ k := hL (x, p) (by simp)
    obtain ⟨o1, o2⟩ := putT_okL (k := k) ho p hx.1 hx.2
    obtain ⟨i1, i2, i3⟩ := PreT.fold (L := L) (h.put ho (p := p) hx.1) o1 (fun y hy => hL y (by simp [hy]))
    refine ⟨by simpa using i1, i2, ?_⟩
    rw [List.length_cons, Nat.mul_succ]
    simp only [List.foldl_cons]
    omega
theorem edges_pre {k : Nat} {y z : List Nat} (hy : ∀ e ∈ y, e < 8) (hz : ∀ e ∈ z, e < 8) (hyk : y.length ≤ k) (hzk : z.length ≤ k) (h : edgesT k y <+: edgesT k z) : y = z := by
  obtain ⟨t, ht⟩ := h
  unfold edgesT at ht
  have hlen := congrArg List.length ht
  split at ht <;> split at ht
  · rename_i h1 h2
    rw [List.append_assoc] at ht
    rcases List.eq_nil_or_concat t with rfl | ⟨u, f, rfl⟩
    · simpa using ht
    · exfalso
      rw [List.concat_eq_append, ← List.append_assoc, ← List.append_assoc] at ht
      have := List.append_inj_left' ht rfl
      have := hz 8 (by rw [← this]; simp)
      omega
  · exfalso
    have := hz 8 (by rw [← ht]; simp)
    omega
  · rename_i h1 h2
    exfalso
    rw [if_neg h1, if_pos h2] at hlen
    simp only [List.length_append, List.length_cons, List.length_nil] at hlen
    have ht0 : t = [] := List.length_eq_zero_iff.1 (by omega)
    subst ht0
    have := hy 8 (by rw [List.append_nil] at ht; rw [ht]; simp)
    omega
  · rename_i h1 h2
    rw [if_neg h1, if_neg h2] at hlen
    simp only [List.length_append] at hlen
    have ht0 : t = [] := List.length_eq_zero_iff.1 (by omega)
    subst ht0
    simpa using ht
structure FinT (k : Nat) (T : Trt) (S : List (List Nat × Int)) : Prop where
  ok : OkT T
  k1 : 1 ≤ k
  rt : ∀ x ∈ S, (∀ e ∈ x.1, e < 8) ∧ x.1.length ≤ k
  has : ∀ x p, (x, p) ∈ S → ∃ n, goT T.q 0 (edgesT k x) = some n ∧ T.v[n]? = some p
  pre : PreT k T S
theorem nodeAt_row {T : Trt} {a : Nat} (h : a ≤ T.q.length) : nodeAt (rowT T) (a : Int) = some (ndT T a) := by
  unfold nodeAt
  rw [if_neg (by omega), Int.toNat_natCast, rowT_get h]
theorem ndT_getD {T : Trt} {a e : Nat} (h : e < 9) : (ndT T a).x.getD e 0 = (toT T.q a e : Int) := by
  rw [List.getD_eq_getElem?_getD, ndT_x h]; rfl
theorem mem_kids {f : Int → List Nat → List (List Nat × Int)} {T : Trt} {a : Nat} {x : List Nat} {z : List Nat × Int} : ∀ {m : Nat}, m ≤ 8 → (z ∈ kidsF f (ndT T a) x m ↔ ∃ s, 8 - m ≤ s ∧ s < 8 ∧ toT T.q a s ≠ 0 ∧ z ∈ f (toT T.q a s) (x ++ [s]))
  | 0, _ => by
    simp only [kidsF, List.not_mem_nil, false_iff, not_exists]
    intro s h; omega
  | m + 1, hm => by
    simp only [kidsF, List.mem_append, mem_kids (m := m) (show m ≤ 8 by omega)]
    rw [ndT_getD (by omega)]
    constructor
    · rintro (h | ⟨s, h1, h2, h3, h4⟩)
      · split at h
        · simp at h
        · rename_i hn
          exact ⟨7 - m, by omega, by omega, by omega, h⟩
      · exact ⟨s, by omega, h2, h3, h4⟩
    · rintro ⟨s, h1, h2, h3, h4⟩
      by_cases hs : s = 7 - m
      · subst hs
        left
        rw [if_neg (by omega)]; exact h4
      · exact .inr ⟨s, by omega, h2, h3, h4⟩
theorem toT_ne {Q : TE} {a e : Nat} : toT Q a e ≠ 0 ↔ (a, e) ∈ Q := by
  constructor
  · intro h
    refine Classical.byContradiction fun hn => h (toT_not hn)
  · intro h; rw [toT_mem h]; omega
theorem vget {T : Trt} (h : OkT T) {a : Nat} (ha : a ≤ T.q.length) {p : Int} : T.v[a]? = some p ↔ p = T.v.getD a (-1) := by
  have := h.len
  rw [List.getD_eq_getElem?_getD, List.getElem?_eq_getElem (by omega)]
  simp [eq_comm]
theorem mem_lv {k : Nat} {T : Trt} (ho : OkT T) : ∀ (d : Nat) (x : List Nat) (a : Nat), x.length + d = k → goT T.q 0 x = some a → (∀ e ∈ x, e < 8) → ∀ y p, (y, p) ∈ lvF (rowT T) d a x ↔ x <+: y ∧ y.length ≤ k ∧ (∀ e ∈ y, e < 8) ∧ ∃ n, goT T.q 0 (edgesT k y) = some n ∧ T.v[n]? = some p
  | 0, x, a, hx, hg, h8, y, p => by
    have ha := goT_le (Nat.zero_le _) hg
    unfold lvF
    rw [nodeAt_row ha]
    simp only [List.mem_cons, List.not_mem_nil, or_false, Prod.mk.injEq]
    have hek : edgesT k x = x := by rw [edgesT, if_neg (by omega)]
    constructor
    · rintro ⟨rfl, rfl⟩
      exact ⟨⟨[], by simp⟩, by omega, h8, a, by rw [hek]; exact hg, (vget ho ha).2 rfl⟩
    · rintro ⟨⟨t, rfl⟩, h2, h3, n, h4, h5⟩
      have ht : t = [] := by
        rw [List.length_append] at h2
        exact List.length_eq_zero_iff.1 (by omega)
      subst ht
      rw [List.append_nil] at h4 ⊢
      rw [hek, hg] at h4
      cases h4
      exact ⟨rfl, (vget ho ha).1 h5⟩
  | d + 1, x, a, hx, hg, h8, y, p => by
    have ha := goT_le (Nat.zero_le _) hg
    have hek : edgesT k x = x ++ [8] := by rw [edgesT, if_pos (by omega)]
    have hgk : goT T.q 0 (edgesT k x) = if (a, 8) ∈ T.q then some (toT T.q a 8) else none := by rw [hek, goT_snoc, hg]; rfl
    have hkid : (y, p) ∈ kidsF (lvF (rowT T) d) (ndT T a) x 8 ↔ (∃ s, x ++ [s] <+: y) ∧ y.length ≤ k ∧ (∀ e ∈ y, e < 8) ∧ ∃ n, goT T.q 0 (edgesT k y) = some n ∧ T.v[n]? = some p := by
      rw [mem_kids (Nat.le_refl 8)]
      constructor
      · rintro ⟨s, _, h2, h3, h4⟩
        have hgs : goT T.q 0 (x ++ [s]) = some (toT T.q a s) := by
          rw [goT_snoc, hg]
          simp only [Option.bind_some]
          rw [if_pos (toT_ne.1 h3)]
        have := (mem_lv (k := k) ho d (x ++ [s]) (toT T.q a s) (by simp; omega) hgs (by
          intro e he
          rcases List.mem_append.1 he with h | h
          · exact h8 e h
          · simp at h; omega) y p).1 h4
        exact ⟨⟨s, this.1⟩, this.2⟩
      · rintro ⟨⟨s, t, ht⟩, h2, h3, n, h4, h5⟩
        have hs8 : s < 8 := h3 s (by rw [← ht]; simp)
        have hey : ∃ u, edgesT k y = x ++ [s] ++ u := by
          unfold edgesT
          rw [← ht]
          split
          · exact ⟨t ++ [8], by simp⟩
          · exact ⟨t, rfl⟩
        obtain ⟨u, hu⟩ := hey
        have hin : (a, s) ∈ T.q := by
          refine Classical.byContradiction fun hn => ?_
          rw [hu, goT_app, goT_snoc, hg] at h4
          simp only [Option.bind_some] at h4
          rw [if_neg hn] at h4
          cases h4
        have hgs : goT T.q 0 (x ++ [s]) = some (toT T.q a s) := by
          rw [goT_snoc, hg]
          simp only [Option.bind_some]
          rw [if_pos hin]
        exact ⟨s, by omega, hs8, toT_ne.2 hin, (mem_lv (k := k) ho d (x ++ [s]) (toT T.q a s) (by simp; omega) hgs (by
          intro e he
          rcases List.mem_append.1 he with h | h
          · exact h8 e h
          · simp at h; omega) y p).2 ⟨⟨t, ht⟩, h2, h3, n, h4, h5⟩⟩
    have hsplit : (x <+: y ↔ y = x ∨ ∃ s, x ++ [s] <+: y) := by
      constructor
      · rintro ⟨t, rfl⟩
        cases t with
        | nil => exact .inl (by simp)
        | cons s t => exact .inr ⟨s, t, by simp⟩
      · rintro (rfl | ⟨s, t, rfl⟩)
        · exact ⟨[], by simp⟩
        · exact ⟨s :: t, by simp⟩
    unfold lvF
    rw [nodeAt_row ha]
    simp only
    rw [ndT_getD (by omega)]
    by_cases h0 : (a, 8) ∈ T.q
    · rw [if_neg (by have := toT_ne.2 h0; omega), nodeAt_row toT_lt]
      simp only [List.mem_cons, Prod.mk.injEq, hkid]
      rw [if_pos h0] at hgk
      rw [hsplit]
      constructor
      · rintro (⟨rfl, rfl⟩ | ⟨h1, h2⟩)
        · exact ⟨.inl rfl, by omega, h8, _, hgk, (vget ho toT_lt).2 rfl⟩
        · exact ⟨.inr h1, h2⟩
      · rintro ⟨rfl | h1, h2, h3, n, h4, h5⟩
        · rw [hgk] at h4
          cases h4
          exact .inl ⟨rfl, (vget ho toT_lt).1 h5⟩
        · exact .inr ⟨h1, h2, h3, n, h4, h5⟩
    · rw [if_pos (by rw [toT_not h0]; rfl), hkid, hsplit]
      rw [if_neg h0] at hgk
      constructor
      · rintro ⟨h1, h2⟩
        exact ⟨.inr h1, h2⟩
      · rintro ⟨rfl | h1, h2, h3, n, h4, h5⟩
        · rw [hgk] at h4; cases h4
        · exact ⟨h1, h2, h3, n, h4, h5⟩
theorem cmpL_ext : ∀ (x : List Nat) (s : Nat) (t : List Nat), cmpL x (x ++ s :: t) < 0
  | [], s, t => by simp [cmpL]
  | a :: x, s, t => by
    simp only [List.cons_append, cmpL, Nat.lt_irrefl, if_false]
    exact cmpL_ext x s t
theorem cmpL_br {s s' : Nat} (h : s < s') : ∀ (x t t' : List Nat), cmpL (x ++ s :: t) (x ++ s' :: t') < 0
  | [], t, t' => by simp only [List.nil_append, cmpL]; rw [if_pos h]; decide
  | a :: x, t, t' => by
    simp only [List.cons_append, cmpL, Nat.lt_irrefl, if_false]
    exact cmpL_br h x t t'
abbrev ascE (L : List (List Nat × Int)) : Prop := L.Pairwise fun u v => cmpL u.1 v.1 < 0
theorem kids_asc {f : Int → List Nat → List (List Nat × Int)} {T : Trt} {a : Nat} {x : List Nat} (hf : ∀ s, s < 8 → toT T.q a s ≠ 0 → ascE (f (toT T.q a s) (x ++ [s])) ∧ ∀ z ∈ f (toT T.q a s) (x ++ [s]), x ++ [s] <+: z.1) : ∀ {m : Nat}, m ≤ 8 → ascE (kidsF f (ndT T a) x m)
  | 0, _ => List.Pairwise.nil
  | m + 1, hm => by
    have ih := kids_asc hf (m := m) (by omega)
    simp only [kidsF]
    rw [ndT_getD (by omega)]
    split
    · simpa using ih
    · rename_i hn
      have h7 := hf (7 - m) (by omega) (by omega)
      refine List.pairwise_append.2 ⟨h7.1, ih, fun u hu v hv => ?_⟩
      obtain ⟨s, h1, h2, h3, h4⟩ := (mem_kids (show m ≤ 8 by omega)).1 hv
      obtain ⟨t, ht⟩ := h7.2 u hu
      obtain ⟨t', ht'⟩ := (hf s h2 h3).2 v h4
      rw [← ht, ← ht', List.append_assoc, List.append_assoc]
      exact cmpL_br (by omega) x t t'
theorem lv_asc {k : Nat} {T : Trt} (ho : OkT T) : ∀ (d : Nat) (x : List Nat) (a : Nat), x.length + d = k → goT T.q 0 x = some a → (∀ e ∈ x, e < 8) → ascE (lvF (rowT T) d a x)
  | 0, x, a, hx, hg, h8 => by
    unfold lvF
    rw [nodeAt_row (goT_le (Nat.zero_le _) hg)]
    simp
  | d + 1, x, a, hx, hg, h8 => by
    have ha := goT_le (Nat.zero_le _) hg
    have hx8 : ∀ s, s < 8 → ∀ e ∈ x ++ [s], e < 8 := fun s hs e he => by
      rcases List.mem_append.1 he with h | h
      · exact h8 e h
      · simp at h; omega
    have hgs : ∀ s, toT T.q a s ≠ 0 → goT T.q 0 (x ++ [s]) = some (toT T.q a s) := fun s hs => by
      rw [goT_snoc, hg]
      simp only [Option.bind_some]
      rw [if_pos (toT_ne.1 hs)]
    have hk : ∀ s, s < 8 → toT T.q a s ≠ 0 → ascE (lvF (rowT T) d (toT T.q a s) (x ++ [s])) ∧ ∀ z ∈ lvF (rowT T) d (toT T.q a s) (x ++ [s]), x ++ [s] <+: z.1 := fun s h1 h2 =>
      ⟨lv_asc (k := k) ho d (x ++ [s]) _ (by simp; omega) (hgs s h2) (hx8 s h1), fun z hz => ((mem_lv ho d (x ++ [s]) _ (k := k) (by simp; omega) (hgs s h2) (hx8 s h1) z.1 z.2).1 hz).1⟩
    have hka := kids_asc hk (Nat.le_refl 8)
    unfold lvF
    rw [nodeAt_row ha]
    simp only
    rw [ndT_getD (by omega)]
    split
    · exact hka
    · rw [nodeAt_row toT_lt]
      simp only
      refine List.pairwise_cons.2 ⟨fun v hv => ?_, hka⟩
      obtain ⟨s, _, h2, h3, h4⟩ := (mem_kids (Nat.le_refl 8)).1 hv
      obtain ⟨t, ht⟩ := (hk s h2 h3).2 v h4
      simp only
      rw [← ht, List.append_assoc]
      exact cmpL_ext x s t
end Go.Av
end
noncomputable section
namespace Go.Av
open Go Go.Proofs
set_option maxRecDepth 10000
def fineE (pr : Int) (m : Nat) (E : List (List Nat × Int)) : Prop := ∀ (c : Nat) e, E[c]? = some e → 0 ≤ e.2 ∧ e.2 < pr ∧ c < m
theorem fine_or {pr : Int} {m : Nat} {E : List (List Nat × Int)} : fineE pr m E ∨ ∃ (n : Nat), ∃ e, E[n]? = some e ∧ (e.2 < 0 ∨ pr ≤ e.2 ∨ m ≤ n) ∧ ∀ (c : Nat) e', c < n → E[c]? = some e' → 0 ≤ e'.2 ∧ e'.2 < pr ∧ c < m := by
  have : ∀ j : Nat, (∀ (c : Nat) e, c < j → E[c]? = some e → 0 ≤ e.2 ∧ e.2 < pr ∧ c < m) ∨ ∃ (n : Nat), ∃ e, E[n]? = some e ∧ (e.2 < 0 ∨ pr ≤ e.2 ∨ m ≤ n) ∧ ∀ (c : Nat) e', c < n → E[c]? = some e' → 0 ≤ e'.2 ∧ e'.2 < pr ∧ c < m := by
    intro j
    induction j with
    | zero => exact .inl fun c e h => by omega
    | succ j ih =>
      rcases ih with h | h
      · cases hj : E[j]? with
        | none =>
          refine .inl fun c e hc he => ?_
          rcases Nat.lt_or_ge c j with h1 | h1
          · exact h c e h1 he
          · have : c = j := by omega
            subst this; rw [hj] at he; cases he
        | some e =>
          by_cases hb : 0 ≤ e.2 ∧ e.2 < pr ∧ j < m
          · refine .inl fun c e' hc he => ?_
            rcases Nat.lt_or_ge c j with h1 | h1
            · exact h c e' h1 he
            · have : c = j := by omega
              subst this; rw [hj] at he; cases he; exact hb
          · exact .inr ⟨j, e, hj, by omega, h⟩
      · exact .inr h
  rcases this E.length with h | h
  · exact .inl fun c e he => h c e (List.getElem?_eq_some_iff.1 he).1 he
  · exact .inr h
def vBad (E : List (List Nat × Int)) (c : Nat) : List Ob := .box [.d (.bool false)] :: .box (gcs (E.take c)) :: .box [.d (nI (c + 1))] :: grs (E.take c)
theorem vBad_len (E : List (List Nat × Int)) (c : Nat) : (vBad E c).length = 27 := by simp [vBad, grs_len]
theorem vBad_ref {n : Nat} (h : 27 ≤ n) (E : List (List Nat × Int)) (c : Nat) : (vBad E c).all (refOb n) = true := by
  simp only [vBad, List.all_cons, gcs_ref h, grs_ref, Bool.true_and, Bool.and_true]; rfl
set_option maxHeartbeats 4000000 in
theorem validA (N : List Nd) (h9 : N9 N) (hl : N.length ≤ 1000) (h0 : 0 < N.length) (k t : Nat) (hk : k ≤ 4) (pr : Int) (hp : pr ≤ 24) (b : Bool) (hb : b = true ↔ fineE pr N.length (lvF N k 0 []) ∧ chkAll k t (rawS (vS (lvF N k 0 []))) (vP (lvF N k 0 [])) = 0 ∧ trN k t (rawS (vS (lvF N k 0 []))) (vP (lvF N k 0 [])) = N) : KnownCall Try.prog 59 [nI k, iI t, iI pr, trD N] (.d (.bool b)) := by
  have hnl : (N.map nd).length = N.length := by simp
  have cl := leavesK k t N 0 []
  refine kF Try.func59 [6, 7] fun w => ?_
  have w : Fz [6, 7] := trivial
  repeat refine zS ?_
  iterate 3 refine zX ?_
  repeat refine zS ?_
  iterate 3 refine zX ?_
  refine zB (fun h => ?_) (fun h => ?_)
  · exfalso
    have : (N.map nd).length = 0 := by simpa using h
    omega
  repeat refine zS ?_
  refine zX ?_
  repeat refine zS ?_
  iterate 2 refine zX ?_
  repeat refine zS ?_
  iterate 4 refine zX ?_
  refine zC cl ?_
  repeat refine zS ?_
  obtain ⟨E, hE⟩ : ∃ E, E = lvF N k 0 [] := ⟨_, rfl⟩
  refine Run.weak (weak_of' (l := [(0, .d (nI k)), (1, .d (iI t)), (6, .d (.ep [iI pr])), (7, .d (.ep [.sl 10 (N.map nd)])), (8, .bp 0 0), (9, .bp 1 0), (10, .bp 2 0), (26, .d (.fn (.func 98) [] [.ep [iI 0], .ep [.sl 10 (N.map nd)], .ep (lkC []), .ep [nI k], .ep [iI t]]))]) (objs := crO (.box [.d (.bool false)]) (.box [.d (nI 0)]) 0) (by rfl) rfl (by repeat' (first | exact trivial | refine ⟨rfl, ?_⟩))) ?_
  refine Run.cells24 ?_
  refine Run.weak (weak_of' (l := [(0, .d (nI k)), (1, .d (iI t)), (6, .d (.ep [iI pr])), (7, .d (.ep [.sl 10 (N.map nd)])), (8, .bp 0 0), (9, .bp 1 0), (10, .bp 2 0), (26, .d (.fn (.func 98) [] [.ep [iI 0], .ep [.sl 10 (N.map nd)], .ep (lkC []), .ep [nI k], .ep [iI t]]))]) (objs := vB E 0) (by rfl) rfl (by repeat' (first | exact trivial | refine ⟨rfl, ?_⟩))) ?_
  have hmix : Try.prog.follows .mixedOrders = true := by kernel_rfl
  have hT : ptAll (refA 8 29) (PT.ofList [(0, .d (nI k)), (1, .d (iI t)), (6, .d (.ep [iI pr])), (7, .d (.ep [.sl 10 (N.map nd)])), (8, .bp 0 0), (9, .bp 1 0), (10, .bp 2 0), (26, .d (.fn (.func 98) [] [.ep [iI 0], .ep [.sl 10 (N.map nd)], .ep (lkC []), .ep [nI k], .ep [iI t]]))]) = true := ptAll_ofList ⟨rfl, rfl, rfl, rfl, rfl, rfl, rfl, rfl, trivial⟩
  obtain ⟨n, B2, st, pend, hle, hfine, hor⟩ : ∃ n B2 st pend, n ≤ E.length ∧ (∀ (c : Nat) e', c < n → E[c]? = some e' → 0 ≤ e'.2 ∧ e'.2 < pr ∧ c < N.length) ∧ ((n = E.length ∧ B2 = vB E n ∧ st = LoopState.ready ∧ pend = none) ∨ (∃ e0, E[n]? = some e0 ∧ (e0.2 < 0 ∨ pr ≤ e0.2 ∨ N.length ≤ n) ∧ B2 = vBad E n ∧ st = LoopState.done ∧ pend = some Code.ret)) := by
    rcases fine_or (pr := pr) (m := N.length) (E := E) with hf | ⟨n, e0, he0, hbad, hfine⟩
    · exact ⟨E.length, _, _, _, Nat.le_refl _, fun c e hc he => hf c e he, .inl ⟨rfl, rfl, rfl, rfl⟩⟩
    · exact ⟨n, _, _, _, Nat.le_of_lt (List.getElem?_eq_some_iff.1 he0).1, hfine, .inr ⟨e0, he0, hbad, rfl, rfl, rfl⟩⟩
  have hB2 : B2.length = 27 := by
    rcases hor with ⟨_, rfl, _, _⟩ | ⟨_, _, _, rfl, _, _⟩
    · exact vB_len _ _
    · exact vBad_len _ _
  have hB2r : B2.all (refOb 29) = true := by
    rcases hor with ⟨_, rfl, _, _⟩ | ⟨_, _, _, rfl, _, _⟩
    · exact vB_ref (by omega) _ _
    · exact vBad_ref (by omega) _ _
  have hst : st ≠ .busy := by
    rcases hor with ⟨_, _, rfl, _⟩ | ⟨_, _, _, _, rfl, _⟩ <;> simp
  refine Run.rangeB (frz := [6, 7]) (s := ⟨PT.ofList [(0, .d (nI k)), (1, .d (iI t)), (6, .d (.ep [iI pr])), (7, .d (.ep [.sl 10 (N.map nd)])), (8, .bp 0 0), (9, .bp 1 0), (10, .bp 2 0), (26, .d (.fn (.func 98) [] [.ep [iI 0], .ep [.sl 10 (N.map nd)], .ep (lkC []), .ep [nI k], .ep [iI t]]))], vB E 0, []⟩) (r := .tup []) Et_ok hmix B2 st pend rfl ?_ rfl (by rw [hB2, vB_len]) hst ?_
  · refine leavesC N h9 (by omega) t k hk k [] 0 28 29 (fun c => rangeObs (vB E c) (PT.ofList [(0, .d (nI k)), (1, .d (iI t)), (6, .d (.ep [iI pr])), (7, .d (.ep [.sl 10 (N.map nd)])), (8, .bp 0 0), (9, .bp 1 0), (10, .bp 2 0), (26, .d (.fn (.func 98) [] [.ep [iI 0], .ep [.sl 10 (N.map nd)], .ep (lkC []), .ep [nI k], .ep [iI t]]))]) _ [6, 7] _ _ _ .ready none) n _ (by simp) ⟨by omega, fun c => by simp [rangeObs, vB_len], fun c => ?_, by rw [← hE]; exact hle, fun c e hc he => ?_, ?_, by simp [rangeObs, hB2], ?_⟩
    · show (rangeObs (vB E c) (PT.ofList [(0, .d (nI k)), (1, .d (iI t)), (6, .d (.ep [iI pr])), (7, .d (.ep [.sl 10 (N.map nd)])), (8, .bp 0 0), (9, .bp 1 0), (10, .bp 2 0), (26, .d (.fn (.func 98) [] [.ep [iI 0], .ep [.sl 10 (N.map nd)], .ep (lkC []), .ep [nI k], .ep [iI t]]))]) _ [6, 7] _ _ _ .ready none).all _ = true
      unfold rangeObs
      simp only [List.all_append, vB_ref (show 27 ≤ 29 by omega), List.all_cons, List.all_nil, Bool.true_and, Bool.and_true, refOb, hT]
    · rw [← hE] at he
      obtain ⟨f1, f2, f3⟩ := hfine c e hc he
      refine ayield_box2 (L := 27) (B := vB E c) (B' := vB E (c + 1)) true (lfC e) [(6, .d (.ep [iI pr])), (7, .d (.ep [.sl 10 (N.map nd)])), (8, .bp 0 0), (9, .bp 1 0), (10, .bp 2 0), (11, .d (.ep (lfC e)))] rfl rfl (vB_len _ _) (vB_len _ _) (vB_ref (by omega) _ _) hT ⟨rfl, rfl, rfl, rfl, rfl, rfl, trivial⟩ ?_ (fun a b ha hb => ?_)
      · repeat' (first
          | refine zW ?_
          | refine zB ?_ ?_ <;> intro h <;> try exact zk h
          | refine zX ?_
          | refine oV ?_ (hv := evAny_store_last)
          | (fail)
          | fail)
        exact ⟨rfl, _, rfl, (ofList_cases (by intro q hq; simp only [List.mem_cons, List.not_mem_nil, or_false] at hq; rcases hq with rfl | rfl | rfl | rfl | rfl | rfl; exact .inl (by kernel_rfl); exact .inl (by kernel_rfl); exact .inl (by kernel_rfl); exact .inl (by kernel_rfl); exact .inl (by kernel_rfl); exact .inr ⟨0, Nat.zero_le _, by kernel_rfl, rfl⟩))⟩
      · obtain ⟨x, ep⟩ := e
        obtain ⟨p, rfl⟩ : ∃ p : Nat, ep = p := ⟨ep.toNat, by simp only at f1; omega⟩
        have hp24 : p < 24 := by simp only at f2; omega
        have hw : AV.d (.int .i64 (IntKind.i64.wrap ((c : Int) + 1))) = .d (nI (c + 1)) := by
          congr 2
          have := wrapN (n := c + 1) (by omega)
          rw [← this]; congr 1
        have htk : E.take (c + 1) = E.take c ++ [(x, (p : Int))] := by rw [List.take_add_one, he]; rfl
        have hgl : (grp (E.take c) p).length ≤ c := by
          unfold grp
          rw [List.length_map]
          exact Nat.le_trans (List.length_filter_le _ _) (by rw [List.length_take]; exact Nat.min_le_left _ _)
        unfold vB
        rw [htk]
        generalize E.take c = F at *
        show Run _ _ _ _ _ ⟨PT.ofList [(6, .d (.ep [iI pr])), (7, .d (.ep [.sl 10 (N.map nd)])), (8, .bp 0 0), (9, .bp 1 0), (10, .bp 2 0), (11, .d (.ep (lfC (x, (p : Int)))))], Ob.box [.d (.bool false)] :: Ob.box (gcs F) :: Ob.box [.d (nI c)] :: (grs F ++ [a, b]), []⟩ _
        generalize hR : grs F ++ [a, b] = R
        refine Run.postT ?_
        repeat refine zS ?_
        refine zX ?_
        refine zV hw ?_
        refine oV (v := .d .any) (objs' := Ob.box [.d (.bool false)] :: Ob.box (gcs F) :: Ob.box [.d (nI (c + 1))] :: R) ?_ (ho := rfl)
        repeat refine zS ?_
        iterate 2 refine zX ?_
        refine zB (fun h => ?_) (fun h => ?_)
        · exfalso
          simp at h
          omega
        iterate 4 refine zX ?_
        refine zB (fun h => ?_) (fun h => ?_)
        · exfalso
          simp only at f2
          simp at h
          omega
        iterate 6 refine zX ?_
        refine zB (fun h => ?_) (fun h => ?_)
        · exfalso
          simp at h
          omega
        refine zX ?_
        repeat refine zS ?_
        refine dW w ?_
        iterate 4 refine zX ?_
        refine zCut (show AV.bp 1 (0 + ((p : Nat) : Int).toNat * 1) = .bp 1 p by simp) ?_
        refine eX (v := .sr (3 + p) 5 ((grp F p).map lk)) ?_ (hv := evAny_loadB rfl rfl rfl rfl rfl (gcs_at hp24))
        iterate 3 refine zX ?_
        have hRl : R.length = 26 := by rw [← hR]; simp [grs_len]
        have hRp : ((Ob.box [.d (.bool false)] :: Ob.box (gcs F) :: Ob.box [.d (nI (c + 1))] :: R) ++ [Ob.room 1 ty52.size])[3 + p]? = some (.room (grp F p).length 5) := by
          rw [List.getElem?_append_left (by simp only [List.length_cons]; omega), Nat.add_comm 3 p]
          show R[p]? = _
          rw [← hR, List.getElem?_append_left (by rw [grs_len]; exact hp24)]; exact grs_at hp24
        have hRs : ((Ob.box [.d (.bool false)] :: Ob.box (gcs F) :: Ob.box [.d (nI (c + 1))] :: R) ++ [Ob.room 1 ty52.size]).set (3 + p) (.room ((grp F p).length + 1) 5) = (Ob.box [.d (.bool false)] :: Ob.box (gcs F) :: Ob.box [.d (nI (c + 1))] :: (grs (F ++ [(x, (p : Int))]) ++ [a, b])) ++ [Ob.room 1 ty52.size] := by
          rw [List.set_append_left _ _ (by simp only [List.length_cons]; omega)]
          congr 1
          rw [Nat.add_comm 3 p]
          show _ :: _ :: _ :: R.set p _ = _
          rw [← hR, List.set_append_left _ _ (by rw [grs_len]; exact hp24), grs_set hp24]
        refine eX (v := .sr (3 + p) 5 ((grp F p).map lk ++ [lk x])) (objs' := (Ob.box [.d (.bool false)] :: Ob.box (gcs F) :: Ob.box [.d (nI (c + 1))] :: (grs (F ++ [(x, (p : Int))]) ++ [a, b])) ++ [Ob.room 1 ty52.size]) ?_ (hv := evAny_appL rfl rfl rfl rfl rfl hRp (by omega)) (ho := by exact hRs)
        refine zCut (show AV.bp 1 (0 + ((p : Nat) : Int).toNat * 1) = .bp 1 p by simp) ?_
        refine eX (v := .d .any) (objs' := (Ob.box [.d (.bool false)] :: Ob.box (gcs (F ++ [(x, (p : Int))])) :: Ob.box [.d (nI (c + 1))] :: (grs (F ++ [(x, (p : Int))]) ++ [a, b])) ++ [Ob.room 1 ty52.size]) ?_ (hv := evAny_storeB (c := .sr (3 + p) 5 ((grp F p).map lk ++ [lk x])) rfl rfl rfl rfl rfl rfl rfl rfl (by rw [gcs_len]; exact hp24)) (ho := by rw [← gcs_set hp24]; rfl)
        refine eN ?_
        repeat refine zS ?_
        refine ⟨rfl, ⟨PT.ofList [], Ob.box [.d (.bool false)] :: Ob.box (gcs (F ++ [(x, (p : Int))])) :: Ob.box [.d (nI (c + 1))] :: (grs (F ++ [(x, (p : Int))]) ++ [a, b]), []⟩, ⟨rfl, rfl⟩, tidy_of [] 29 ?_ rfl trivial trivial ?_ rfl⟩
        · rw [List.take_append_of_le_length (by simp [grs_len]), List.take_of_length_le (by simp [grs_len])]
        · have := vB_ref (n := 29) (by omega) (F ++ [(x, (p : Int))]) (F ++ [(x, (p : Int))]).length
          simp only [vB, List.take_length, List.all_cons, Bool.and_eq_true] at this
          simp only [List.all_cons, List.all_append, this.2.1, this.2.2.2, ha, hb, List.all_nil, Bool.true_and, Bool.and_true]
          rfl
    · rcases hor with ⟨hn, rfl, rfl, rfl⟩ | ⟨e0, he0, hbad, rfl, rfl, rfl⟩
      · exact .inl ⟨by rw [hn, hE], rfl⟩
      · refine .inr ⟨e0, by rw [← hE]; exact he0, ?_⟩
        have hnN : n ≤ N.length := by
          rcases Nat.eq_zero_or_pos n with h1 | h1
          · omega
          · have := (hfine (n - 1) E[n - 1] (by omega) (by simp)).2.2
            omega
        refine ayield_box2 (L := 27) (B := vB E n) (B' := vBad E n) false (lfC e0) [(6, .d (.ep [iI pr])), (7, .d (.ep [.sl 10 (N.map nd)])), (8, .bp 0 0), (9, .bp 1 0), (10, .bp 2 0), (11, .d (.ep (lfC e0)))] rfl rfl (vB_len _ _) (vBad_len _ _) (vB_ref (by omega) _ _) hT ⟨rfl, rfl, rfl, rfl, rfl, rfl, trivial⟩ ?_ (fun a b ha hb => ?_)
        · repeat' (first
            | refine zW ?_
            | refine zB ?_ ?_ <;> intro h <;> try exact zk h
            | refine zX ?_
            | refine oV ?_ (hv := evAny_store_last)
            | (fail)
            | fail)
          exact ⟨rfl, _, rfl, (ofList_cases (by intro q hq; simp only [List.mem_cons, List.not_mem_nil, or_false] at hq; rcases hq with rfl | rfl | rfl | rfl | rfl | rfl; exact .inl (by kernel_rfl); exact .inl (by kernel_rfl); exact .inl (by kernel_rfl); exact .inl (by kernel_rfl); exact .inl (by kernel_rfl); exact .inr ⟨0, Nat.zero_le _, by kernel_rfl, rfl⟩))⟩
        · obtain ⟨x, ep⟩ := e0
          have hw : AV.d (.int .i64 (IntKind.i64.wrap ((n : Int) + 1))) = .d (nI (n + 1)) := by
            congr 2
            have := wrapN (n := n + 1) (by omega)
            rw [← this]; congr 1
          unfold vB vBad
          simp only at hbad
          generalize E.take n = F at *
          show Run _ _ _ _ _ ⟨PT.ofList [(6, .d (.ep [iI pr])), (7, .d (.ep [.sl 10 (N.map nd)])), (8, .bp 0 0), (9, .bp 1 0), (10, .bp 2 0), (11, .d (.ep (lfC (x, ep))))], Ob.box [.d (.bool false)] :: Ob.box (gcs F) :: Ob.box [.d (nI n)] :: (grs F ++ [a, b]), []⟩ _
          generalize hR : grs F ++ [a, b] = R
          repeat refine zS ?_
          refine zX ?_
          refine zV hw ?_
          refine oV (v := .d .any) (objs' := Ob.box [.d (.bool false)] :: Ob.box (gcs F) :: Ob.box [.d (nI (n + 1))] :: R) ?_ (ho := rfl)
          repeat refine zS ?_
          repeat' (first
            | refine zW ?_
            | refine zB ?_ ?_ <;> intro h <;> try exact zk h
            | refine zX ?_
            | ((exfalso; simp only [List.length_map, decide_eq_true_eq, decide_eq_false_iff_not, ge_iff_le, gt_iff_lt] at *; omega))
            | fail)
          all_goals (refine Run.ret ?_; subst hR; exact ⟨rfl, rfl⟩)
    · show (rangeObs B2 (PT.ofList [(0, .d (nI k)), (1, .d (iI t)), (6, .d (.ep [iI pr])), (7, .d (.ep [.sl 10 (N.map nd)])), (8, .bp 0 0), (9, .bp 1 0), (10, .bp 2 0), (26, .d (.fn (.func 98) [] [.ep [iI 0], .ep [.sl 10 (N.map nd)], .ep (lkC []), .ep [nI k], .ep [iI t]]))]) _ [6, 7] _ _ _ st pend).all _ = true
      unfold rangeObs
      simp only [List.all_append, hB2r, List.all_cons, List.all_nil, Bool.true_and, Bool.and_true, refOb, hT]
  · rcases hor with ⟨hn, rfl, rfl, rfl⟩ | ⟨e0, he0, hbad, rfl, rfl, rfl⟩
    · subst hn
      simp only
      unfold vB
      rw [List.take_length]
      have hgR := gcs_ref (show 27 ≤ 29 by omega) E
      have hgS := grs_ref (n := 29) E
      refine Run.wk (objs' := (.box [.d (.bool false)] :: .box (gcs E) :: .box [.d (nI E.length)] :: grs E) ++ [.raw (.deferred (some [])), .gone]) ?_ (wk_last _) (by simp) (by simp) (by simp only [List.length_append, List.length_cons, grs_len, List.length_nil, List.all_append, List.all_cons, hgR, hgS, List.all_nil, Bool.true_and, Bool.and_true]; rfl)
      repeat refine zS ?_
      refine zX ?_
      repeat refine zS ?_
      refine zX ?_
      repeat refine zS ?_
      refine oV (v := .agg (gcs E)) ?_ (he := rfl)
      refine zX ?_
      repeat refine zS ?_
      have hfl := vS_flat E
      refine Run.tidy (s' := ⟨PT.ofList [(0, .d (nI k)), (1, .d (iI t)), (7, .d (.ep [.sl 10 (N.map nd)])), (8, .bp 0 0), (12, .d .nilsl), (13, .d .nilsl), (57, .d (.agg (dataG E))), (58, .d (nI 0))], _, _⟩) (ti _ 29 (ho := List.take_of_length_le (by simp [grs_len])) (hr := by simp only [List.all_append, List.all_cons, hgR, hgS, List.all_nil, Bool.true_and, Bool.and_true]; rfl)) ?_
      refine Run.wk (objs' := O29) ?_ (wk29 (R := .box (gcs E) :: .box [.d (nI E.length)] :: grs E) (by simp [grs_len])) (by simp [O29, grs_len]) (by simp) rfl
      refine Run.mkRoom 12 1 [(0, .d (nI k)), (1, .d (iI t)), (7, .d (.ep [.sl 10 (N.map nd)])), (8, .bp 0 0), (12, .sr 29 1 (lsE E 0)), (13, .d .nilsl), (57, .d (.agg (dataG E))), (58, .d (nI 0))] (by kernel_rfl) (ofList_cases (by intro p hp; simp only [List.mem_cons, List.not_mem_nil, or_false] at hp; rcases hp with rfl | rfl | rfl | rfl | rfl | rfl | rfl | rfl <;> first | exact .inl ⟨rfl, rfl⟩ | exact .inr (by kernel_rfl))) ?_
      refine Run.mkRoom 13 1 [(0, .d (nI k)), (1, .d (iI t)), (7, .d (.ep [.sl 10 (N.map nd)])), (8, .bp 0 0), (12, .sr 29 1 (lsE E 0)), (13, .sr 30 1 (nsE E 0)), (57, .d (.agg (dataG E))), (58, .d (nI 0))] (by kernel_rfl) (ofList_cases (by intro p hp; simp only [List.mem_cons, List.not_mem_nil, or_false] at hp; rcases hp with rfl | rfl | rfl | rfl | rfl | rfl | rfl | rfl <;> first | exact .inl ⟨rfl, rfl⟩ | exact .inr (by kernel_rfl))) ?_
      refine Run.loopT (fun x : Nat × List DV × List DV => ⟨PT.ofList [(0, .d (nI k)), (1, .d (iI t)), (7, .d (.ep [.sl 10 (N.map nd)])), (8, .bp 0 0), (12, .sr 29 1 x.2.1), (13, .sr 30 1 x.2.2), (57, .d (.agg (dataG E))), (58, .d (nI x.1))], O29 ++ [.room x.2.1.length 1, .room x.2.2.length 1], [.mark 27]⟩) (fun x => x.1 ≤ 24 ∧ x.2.1 = lsE E x.1 ∧ x.2.2 = nsE E x.1) (fun x => 24 - x.1) (0, lsE E 0, nsE E 0) ⟨Nat.zero_le _, rfl, rfl⟩ (ti _ 31) (fun ⟨p, A, C⟩ ⟨hp, hA, hC⟩ => ?_)
      simp only at hp hA hC
      have hll := ls_len (E := E) (n := p)
      have hnn := ns_len (E := E) (n := p)
      rw [← hA] at hll
      rw [← hC] at hnn
      rcases Nat.lt_or_ge p 24 with hlt | hge
      · have hat := dataG_at (E := E) hlt
        have e1 := lsE_succ (E := E) (p := p)
        have e2 := nsE_succ (E := E) (p := p)
        rw [← hA] at e1
        rw [← hC] at e2
        have hw : AV.d (.int .i64 (IntKind.i64.wrap ((p : Int) + 1))) = .d (nI (p + 1)) := by
          congr 2
          have := wrapN (n := p + 1) (by omega)
          rw [← this]; congr 1
        repeat refine zS ?_
        refine zV (lt_true hlt) ?_
        repeat refine zS ?_
        refine zX ?_
        refine oV (v := .d (lks (grp E p))) ?_ (hv := evAny_indexA (i := p) (cs := dataG E) rfl rfl rfl rfl rfl rfl rfl hat hlt)
        iterate 2 refine zX ?_
        repeat refine zS ?_
        iterate 2 refine zX ?_
        refine zB (fun h => ?_) (fun h => ?_)
        · have hk : keepP E p = true := by
            unfold keepP
            cases hg : grp E p with
            | nil => rw [hg] at h; simp at h
            | cons a l => rfl
          rw [if_pos hk] at e1 e2
          repeat refine zS ?_
          iterate 3 refine zX ?_
          refine zAp ?_
          iterate 3 refine zX ?_
          refine zAp ?_
          iterate 2 refine zX ?_
          repeat refine zS ?_
          refine zV hw ?_
          refine zX ?_
          repeat refine zS ?_
          exact ⟨(p + 1, A ++ [lks (grp E p)], C ++ [nI p]), ⟨hlt, e1.symm, e2.symm⟩, by simp only; omega, (ti _ 31 (Eq.trans (b := O29 ++ [.room (A.length + 1) 1, .room (C.length + 1) 1]) rfl (by simp)))⟩
        · have hk : ¬ keepP E p = true := by
            unfold keepP
            cases hg : grp E p with
            | nil => simp
            | cons a l => rw [hg] at h; simp at h
          rw [if_neg hk] at e1 e2
          repeat refine zS ?_
          refine zV hw ?_
          refine zX ?_
          repeat refine zS ?_
          exact ⟨(p + 1, A, C), ⟨hlt, e1.symm, e2.symm⟩, by simp only; omega, (ti _ 31)⟩
      · have hie : p = 24 := by omega
        subst hie
        subst hA hC
        repeat refine zS ?_
        refine zV (lt_false (Nat.le_refl 24)) ?_
        repeat refine zS ?_
        refine RunOps.tidy (s' := ⟨PT.ofList [(0, .d (nI k)), (1, .d (iI t)), (7, .d (.ep [.sl 10 (N.map nd)])), (8, .bp 0 0), (12, .d (.sl 1 (lsE E 24))), (13, .d (.sl 1 (nsE E 24)))], O29, [.mark 27]⟩) (ti _ 29) ?_
        have hEN : E.length ≤ N.length := by
          rcases Nat.eq_zero_or_pos E.length with h1 | h1
          · omega
          · have := (hfine (E.length - 1) E[E.length - 1] (by omega) (by simp)).2.2
            omega
        have hsl := vS_len E
        have hpl := vP_len E
        have cO := progOfK k t (rawS (vS E)) (vP E) (by simp; omega) (by omega) (by
          have : (rawS (vS E)).flatten.length = (vS E).flatten.length := by simp [List.length_flatten, Function.comp_def]
          omega)
        rw [rws2_vS, vP_iI] at cO
        have hML : (trN k t (rawS (vS E)) (vP E)).length ≤ 1048576 := by
          have h1 := trN_len (k := k) (t := t) (S := rawS (vS E)) (P := vP E)
          have : (rawS (vS E)).flatten.length = (vS E).flatten.length := by simp [List.length_flatten, Function.comp_def]
          omega
        have cS := sameTrK (trN k t (rawS (vS E)) (vP E)) N trN_9 h9 hML
        have hbb : b = true ↔ (chkAll k t (rawS (vS E)) (vP E) = 0 ∧ trN k t (rawS (vS E)) (vP E) = N) := by
          rw [hb, ← hE]
          exact ⟨fun h => h.2, fun h => ⟨fun c e he => hfine c e (List.getElem?_eq_some_iff.1 he).1 he, h⟩⟩
        generalize trN k t (rawS (vS E)) (vP E) = M at *
        generalize chkAll k t (rawS (vS E)) (vP E) = ch at *
        generalize lsE E 24 = LA at *
        generalize nsE E 24 = LB at *
        by_cases hMN : M = N
        · rw [decide_eq_true hMN] at cS
          repeat' (first
            | refine zW ?_
            | refine zB ?_ ?_ <;> intro h <;> try exact zk h
            | refine zX ?_
            | refine zC (cO) ?_
            | refine zC (cS) ?_
            | (fail)
            | fail)
          · refine congrArg (fun b => AV.d (DV.bool b)) ?_
            symm
            rw [Bool.eq_iff_iff, hbb]
            simp at h
            simp [h, hMN]
          · refine congrArg (fun b => AV.d (DV.bool b)) ?_
            symm
            rw [Bool.eq_iff_iff, hbb]
            simp at h
            simp [h]
        · rw [decide_eq_false hMN] at cS
          repeat' (first
            | refine zW ?_
            | refine zB ?_ ?_ <;> intro h <;> try exact zk h
            | refine zX ?_
            | refine zC (cO) ?_
            | refine zC (cS) ?_
            | (fail)
            | fail)
          · refine congrArg (fun b => AV.d (DV.bool b)) ?_
            symm
            rw [Bool.eq_iff_iff, hbb]
            simp [hMN]
          · refine congrArg (fun b => AV.d (DV.bool b)) ?_
            symm
            rw [Bool.eq_iff_iff, hbb]
            simp at h
            simp [h]
    · have hbF : b = false := by
        cases b with
        | false => rfl
        | true =>
          exfalso
          obtain ⟨f, _⟩ := hb.1 rfl
          have := f n e0 (by rw [← hE]; exact he0)
          omega
      subst hbF
      simp only
      exact ⟨trivial, _, _, leave1 (by rw [List.getElem?_append_right (by rw [vBad_len]; exact Nat.le_refl _), vBad_len]; rfl), rfl, rfl⟩
theorem pw_ext {α : Type} {R : α → α → Prop} (hi : ∀ a, ¬ R a a) (hs : ∀ a b, R a b → R b a → False) : ∀ {A B : List α}, A.Pairwise R → B.Pairwise R → (∀ z, z ∈ A ↔ z ∈ B) → A = B
  | [], [], _, _, _ => rfl
  | [], y :: B, _, _, h => by have := (h y).2 (by simp); simp at this
  | x :: A, [], _, _, h => by have := (h x).1 (by simp); simp at this
  | x :: A, y :: B, ha, hb, h => by
    obtain ⟨ha1, ha2⟩ := List.pairwise_cons.1 ha
    obtain ⟨hb1, hb2⟩ := List.pairwise_cons.1 hb
    have hxy : x = y := by
      rcases List.mem_cons.1 ((h x).1 (by simp)) with h1 | h1
      · exact h1
      · rcases List.mem_cons.1 ((h y).2 (by simp)) with h2 | h2
        · exact h2.symm
        · exact (hs _ _ (ha1 y h2) (hb1 x h1)).elim
    subst hxy
    rw [pw_ext hi hs ha2 hb2 fun z => ⟨fun hz => ?_, fun hz => ?_⟩]
    · rcases List.mem_cons.1 ((h z).1 (by simp [hz])) with rfl | h1
      · exact (hi _ (ha1 _ hz)).elim
      · exact h1
    · rcases List.mem_cons.1 ((h z).2 (by simp [hz])) with rfl | h1
      · exact (hi _ (hb1 _ hz)).elim
      · exact h1
theorem nodup_le : ∀ (n : Nat) (l : List Nat), l.Nodup → (∀ x ∈ l, x < n) → l.length ≤ n
  | 0, l, _, h => by
    cases l with
    | nil => simp
    | cons a l => have := h a (by simp); omega
  | n + 1, l, hl, h => by
    by_cases hn : n ∈ l
    · have := nodup_le n (l.erase n) (hl.erase n) (fun x hx => by
        have h1 := h x (List.mem_of_mem_erase hx)
        have h2 : x ≠ n := fun e => by subst e; exact (hl.not_mem_erase) hx
        omega)
      rw [List.length_erase_of_mem hn] at this
      omega
    · have := nodup_le n l hl (fun x hx => by
        have h1 := h x hx
        have h2 : x ≠ n := fun e => by subst e; exact hn hx
        omega)
      omega
theorem ordE_asc : ∀ {P : List Int} {l : Int}, ordE l P = 0 → P.Pairwise (· < ·) ∧ ∀ p ∈ P, l < p
  | [], _, _ => by simp
  | p :: P, l, h => by
    simp only [ordE] at h
    split at h
    · cases h
    · rename_i hn
      obtain ⟨h1, h2⟩ := ordE_asc h
      refine ⟨List.pairwise_cons.2 ⟨h2, h1⟩, fun q hq => ?_⟩
      rcases List.mem_cons.1 hq with rfl | hq
      · omega
      · have := h2 q hq; omega
theorem entS_at {x : List Nat} {p : Int} : ∀ {S : List (List (List Nat))} {P : List Int}, (x, p) ∈ entS S P ↔ ∃ (i : Nat), ∃ L, S[i]? = some L ∧ P[i]? = some p ∧ x ∈ L
  | [], P => by simp [entS]
  | L :: S, [] => by simp [entS]
  | L :: S, q :: P => by
    simp only [entS, List.mem_append, List.mem_map, Prod.mk.injEq, entS_at (S := S) (P := P)]
    constructor
    · rintro (⟨y, hy, rfl, rfl⟩ | ⟨i, M, h1, h2, h3⟩)
      · exact ⟨0, L, rfl, rfl, hy⟩
      · exact ⟨i + 1, M, by simpa using h1, by simpa using h2, h3⟩
    · rintro ⟨i, M, h1, h2, h3⟩
      cases i with
      | zero => simp at h1 h2; subst h1 h2; exact .inl ⟨x, h3, rfl, rfl⟩
      | succ i => exact .inr ⟨i, M, by simpa using h1, by simpa using h2, h3⟩
theorem entS_lenE : ∀ {S : List (List (List Nat))} {P : List Int}, P.length = S.length → (entS S P).length = S.flatten.length
  | [], _, _ => by simp [entS]
  | L :: S, [], h => by simp at h
  | L :: S, p :: P, h => by
    have := entS_lenE (S := S) (P := P) (by simpa using h)
    simp [entS, this]
structure BackT (k t : Nat) (S : List (List (List Nat))) (P : List Int) : Prop where
  k1 : 1 ≤ k
  sl : S.length ≤ 24
  pl : P.length = S.length
  pa : P.Pairwise (· < ·)
  pb : ∀ p ∈ P, 0 ≤ p ∧ p < 24
  rt : ∀ L ∈ S, SetR k t L
  chk : chkAll k t (rawS S) P = 0
  row : trN k t (rawS S) P = rowT (madeAll k Tz0 S P)
  fin : FinT k (madeAll k Tz0 S P) (entS S P)
  len : (madeAll k Tz0 S P).q.length ≤ k * S.flatten.length
theorem decS_raw {S : List (List (List Nat))} (h : ∀ L ∈ S, ∀ x ∈ L, x.length ≤ 4) : decS (rawS S) = S := by
  simp only [decS, rawS, List.map_map]
  conv => rhs; rw [← List.map_id S]
  refine List.map_congr_left fun L hL => ?_
  simp only [Function.comp, List.map_map, id]
  conv => rhs; rw [← List.map_id L]
  refine List.map_congr_left fun x hx => ?_
  simp only [Function.comp, id]
  exact dec_of (h L hL x hx)
theorem BackT.of {k t : Nat} {S : List (List (List Nat))} {P : List Int} (h : chkAll k t (rawS S) P = 0) (h4 : ∀ L ∈ S, ∀ x ∈ L, x.length ≤ 4) : BackT k t S P := by
  obtain ⟨h1, h2⟩ := chkAll_ok h
  have ho := OfOK.of h1
  have hk := sizE_ok ho.sz
  have hd := decS_raw h4
  have hrt : ∀ L ∈ S, SetR k t L := by have := ho.rt; rw [hd] at this; exact this
  have hpl : P.length = S.length := by have := ho.pl; simpa using this
  have hP0 := ordE_ok ho.od (by decide)
  have hent : ∀ x ∈ entS S P, ((∀ e ∈ x.1, e < 8) ∧ 0 ≤ x.2) ∧ x.1.length ≤ k := fun x hx => by
    obtain ⟨L, h1, h2, h3⟩ := entS_mem (x := x.1) (p := x.2) hx
    exact ⟨⟨((hrt L h1).rt x.1 h2).1.lt, (hP0 x.2 h3).1⟩, ((hrt L h1).rt x.1 h2).2.1⟩
  obtain ⟨i1, _⟩ := insT_eq (k := k) HasT.zero (by simp) (fun x hx => (hent x hx).1)
  have hno := (noT_iff hrt hpl).2 h2
  obtain ⟨_, j2⟩ := i1 hno
  obtain ⟨p1, p2, p3⟩ := PreT.fold (k := k) (L := entS S P) (PreT.zero k) Tz0_ok (fun x hx => ⟨(hent x hx).1.1, (hent x hx).2⟩)
  rw [← madeAll_eq] at j2 p1 p2 p3
  rw [entS_lenE hpl] at p3
  refine ⟨by omega, by have := ho.sl; simpa using this, hpl, (ordE_asc ho.od).1, hP0, hrt, h, ?_, ⟨p2, by omega, fun x hx => ⟨(hent x hx).1.1, (hent x hx).2⟩, fun x p hx => ?_, by simpa using p1⟩, by simpa [Tz0] using p3⟩
  · unfold trN
    rw [if_pos h, hd]; rfl
  · exact j2.has (edgesT k x) p (by
      rw [List.append_nil, List.mem_reverse]
      exact List.mem_map.2 ⟨(x, p), hx, rfl⟩)
abbrev lvT (k : Nat) (S : List (List (List Nat))) (P : List Int) : List (List Nat × Int) := lvF (rowT (madeAll k Tz0 S P)) k 0 []
theorem BackT.mem {k t : Nat} {S : List (List (List Nat))} {P : List Int} (h : BackT k t S P) (y : List Nat) (p : Int) : (y, p) ∈ lvT k S P ↔ (y, p) ∈ entS S P := by
  have hf := h.fin
  have hm : (y, p) ∈ lvT k S P ↔ _ := mem_lv (k := k) hf.ok k [] 0 (by simp) rfl (by simp) y p
  rw [hm]
  constructor
  · rintro ⟨_, h2, h3, n, h4, h5⟩
    rcases hf.pre _ _ h4 with h6 | ⟨z, hz, h6⟩
    · exfalso
      have hk := h.k1
      unfold edgesT at h6
      split at h6
      · simp at h6
      · subst h6; rename_i h7; simp at h7; omega
    · obtain ⟨z1, z2⟩ := hf.rt z hz
      have := edges_pre h3 z1 h2 z2 h6
      subst this
      obtain ⟨m, m1, m2⟩ := hf.has z.1 z.2 hz
      rw [h4] at m1
      cases m1
      rw [h5] at m2
      cases m2
      exact hz
  · intro hy
    obtain ⟨r1, r2⟩ := hf.rt (y, p) hy
    exact ⟨⟨y, by simp⟩, r2, r1, hf.has y p hy⟩
theorem BackT.asc {k t : Nat} {S : List (List (List Nat))} {P : List Int} (h : BackT k t S P) : ascE (lvT k S P) := lv_asc (k := k) h.fin.ok k [] 0 (by simp) rfl (by simp)
theorem cmpL_asym {x y : List Nat} (h1 : cmpL x y < 0) (h2 : cmpL y x < 0) : False := by rw [cmpL_neg] at h2; omega
theorem cmpL_irr {x : List Nat} : ¬ cmpL x x < 0 := by rw [cmpL_self]; omega
theorem mem_grp {E : List (List Nat × Int)} {p : Nat} {z : List Nat} : z ∈ grp E p ↔ (z, (p : Int)) ∈ E := by
  unfold grp
  rw [List.mem_map]
  constructor
  · rintro ⟨⟨a, b⟩, h1, rfl⟩
    obtain ⟨h2, h3⟩ := List.mem_filter.1 h1
    simp only [decide_eq_true_eq] at h3
    subst h3; exact h2
  · intro h
    exact ⟨(z, (p : Int)), List.mem_filter.2 ⟨h, by simp⟩, rfl⟩
theorem grp_asc {E : List (List Nat × Int)} {p : Nat} (h : ascE E) : (grp E p).Pairwise fun x y => cmpL x y < 0 := by
  unfold grp
  rw [List.pairwise_map]
  exact h.filter _
theorem BackT.inj {k t : Nat} {S : List (List (List Nat))} {P : List Int} (h : BackT k t S P) {i j : Nat} {p : Int} (hi : P[i]? = some p) (hj : P[j]? = some p) : i = j := by
  have hl := List.pairwise_iff_getElem.1 h.pa
  obtain ⟨a1, a2⟩ := List.getElem?_eq_some_iff.1 hi
  obtain ⟨b1, b2⟩ := List.getElem?_eq_some_iff.1 hj
  rcases Nat.lt_trichotomy i j with h1 | h1 | h1
  · have := hl i j a1 b1 h1; rw [a2, b2] at this; omega
  · exact h1
  · have := hl j i b1 a1 h1; rw [a2, b2] at this; omega
theorem BackT.grp {k t : Nat} {S : List (List (List Nat))} {P : List Int} (h : BackT k t S P) {i : Nat} {L : List (List Nat)} {p : Nat} (hS : S[i]? = some L) (hP : P[i]? = some (p : Int)) : grp (lvT k S P) p = L := by
  refine pw_ext (R := fun x y => cmpL x y < 0) (fun _ => cmpL_irr) (fun _ _ => cmpL_asym) (grp_asc h.asc) (h.rt L (List.mem_of_getElem? hS)).asc fun z => ?_
  rw [mem_grp, h.mem, entS_at]
  constructor
  · rintro ⟨j, M, h1, h2, h3⟩
    have := h.inj hP h2
    subst this
    rw [hS] at h1; cases h1; exact h3
  · intro hz; exact ⟨i, L, hS, hP, hz⟩
theorem BackT.vP {k t : Nat} {S : List (List (List Nat))} {P : List Int} (h : BackT k t S P) : vP (lvT k S P) = P := by
  refine pw_ext (R := fun x y => x < y) (fun a => by omega) (fun a b => by omega) ?_ h.pa fun z => ?_
  · unfold Go.Av.vP
    rw [List.pairwise_map]
    exact (List.pairwise_lt_range.filter _).imp fun {a b} hab => by omega
  · unfold Go.Av.vP
    rw [List.mem_map]
    constructor
    · rintro ⟨p, hp, rfl⟩
      obtain ⟨h1, h2⟩ := List.mem_filter.1 hp
      unfold keepP at h2
      cases hg : Go.Av.grp (lvT k S P) p with
      | nil => rw [hg] at h2; simp at h2
      | cons a l =>
        have : a ∈ Go.Av.grp (lvT k S P) p := by rw [hg]; simp
        rw [mem_grp, h.mem, entS_at] at this
        obtain ⟨i, M, _, h4, _⟩ := this
        exact List.mem_of_getElem? h4
    · intro hz
      obtain ⟨b1, b2⟩ := h.pb z hz
      obtain ⟨p, rfl⟩ : ∃ p : Nat, z = p := ⟨z.toNat, by omega⟩
      obtain ⟨i, hi⟩ := List.getElem?_of_mem hz
      obtain ⟨L, hL⟩ := get_ok (show i < S.length by rw [← h.pl]; exact (List.getElem?_eq_some_iff.1 hi).1)
      refine ⟨p, List.mem_filter.2 ⟨List.mem_range.2 (by omega), ?_⟩, rfl⟩
      unfold keepP
      rw [h.grp hL hi]
      have := (h.rt L (List.mem_of_getElem? hL)).ne
      cases L with
      | nil => exact absurd rfl this
      | cons a l => rfl
theorem BackT.vS {k t : Nat} {S : List (List (List Nat))} {P : List Int} (h : BackT k t S P) : vS (lvT k S P) = S := by
  have e : Go.Av.vS (lvT k S P) = (Go.Av.vP (lvT k S P)).map fun q => Go.Av.grp (lvT k S P) q.toNat := by
    unfold Go.Av.vS Go.Av.vP
    rw [List.map_map]; rfl
  rw [e, h.vP]
  refine List.ext_getElem? fun i => ?_
  rw [List.getElem?_map]
  cases hi : P[i]? with
  | none =>
    rw [List.getElem?_eq_none_iff] at hi
    rw [List.getElem?_eq_none (by rw [← h.pl]; exact hi)]; rfl
  | some p =>
    obtain ⟨L, hL⟩ := get_ok (show i < S.length by rw [← h.pl]; exact (List.getElem?_eq_some_iff.1 hi).1)
    obtain ⟨b1, b2⟩ := h.pb p (List.mem_of_getElem? hi)
    obtain ⟨q, rfl⟩ : ∃ q : Nat, p = q := ⟨p.toNat, by omega⟩
    rw [hL, Option.map_some, Int.toNat_natCast, h.grp hL hi]
theorem BackT.elen {k t : Nat} {S : List (List (List Nat))} {P : List Int} (h : BackT k t S P) : (lvT k S P).length ≤ (madeAll k Tz0 S P).q.length + 1 := by
  have hf := h.fin
  have hgo : ∀ e ∈ lvT k S P, ∃ n, goT (madeAll k Tz0 S P).q 0 (edgesT k e.1) = some n := fun e he => by
    obtain ⟨n, h1, _⟩ := hf.has e.1 e.2 ((h.mem e.1 e.2).1 he)
    exact ⟨n, h1⟩
  have h8 : ∀ e ∈ lvT k S P, ∀ u ∈ e.1, u < 8 := fun e he => (hf.rt e ((h.mem e.1 e.2).1 he)).1
  have hn : ((lvT k S P).map fun e => (goT (madeAll k Tz0 S P).q 0 (edgesT k e.1)).getD 0).Nodup := by
    unfold List.Nodup
    rw [List.pairwise_map]
    refine h.asc.imp_of_mem fun {a b} ha hb hab e => ?_
    obtain ⟨n, h1⟩ := hgo a ha
    obtain ⟨m, h2⟩ := hgo b hb
    rw [h1, h2] at e
    simp only [Option.getD_some] at e
    subst e
    have := edges_inj (h8 a ha) (h8 b hb) (goT_inj _ h1 h2)
    rw [this] at hab
    exact cmpL_irr hab
  have := nodup_le ((madeAll k Tz0 S P).q.length + 1) _ hn (fun x hx => by
    obtain ⟨e, he, rfl⟩ := List.mem_map.1 hx
    obtain ⟨n, h1⟩ := hgo e he
    rw [h1]
    have := goT_le (Nat.zero_le _) h1
    simp only [Option.getD_some]; omega)
  simpa using this
theorem BackT.fine {k t : Nat} {S : List (List (List Nat))} {P : List Int} (h : BackT k t S P) : fineE 24 (rowT (madeAll k Tz0 S P)).length (lvT k S P) := fun c e he => by
  have hm := (h.mem e.1 e.2).1 (List.mem_of_getElem? he)
  obtain ⟨L, _, _, h3⟩ := entS_mem hm
  have hb := h.pb e.2 h3
  have := (List.getElem?_eq_some_iff.1 he).1
  have := h.elen
  rw [rowT_len]
  exact ⟨hb.1, hb.2, by omega⟩
theorem BackT.valid {k t : Nat} {S : List (List (List Nat))} {P : List Int} (h : BackT k t S P) (hk : k ≤ 4) (hl : (trN k t (rawS S) P).length ≤ 1000) : KnownCall Try.prog 59 [nI k, iI t, iI 24, trD (trN k t (rawS S) P)] (.d (.bool true)) := by
  refine validA _ trN_9 hl (by rw [h.row, rowT_len]; omega) k t hk 24 (by omega) true ?_
  rw [h.row]
  have h1 := h.vS
  have h2 := h.vP
  have h3 := h.fine
  unfold lvT at h1 h2 h3
  rw [h1, h2]
  exact ⟨fun _ => ⟨h3, h.chk, h.row⟩, fun _ => rfl⟩
theorem trCheckK (N : List Nd) (k t : Int) (hs : sizE k t = 0) (pr : Int) (h0 : 0 ≤ pr) (hp : pr ≤ 24) (b : Bool) (cv : KnownCall Try.prog 59 [iI k, iI t, iI pr, trD N] (.d (.bool b))) : KnownCall Try.prog 21 [iI k, iI t, iI pr, trD N] (.d (iI (if b then 0 else 3))) := by
  have c0 := sizesK k t
  rw [hs] at c0
  cases b with
  | true =>
    refine kF Try.func21 [7] fun w => ?_
    repeat' (first
      | refine zW ?_
      | refine zB ?_ ?_ <;> intro h <;> try exact zk h
      | refine zC (c0) ?_
      | refine zC (cv) ?_
      | rfl
      | ((exfalso; simp only [decide_eq_true_eq, decide_eq_false_iff_not, bne_iff_ne, ne_eq, bne_eq_false_iff_eq] at *; omega))
      | fail)
  | false =>
    refine kF Try.func21 [7] fun w => ?_
    repeat' (first
      | refine zW ?_
      | refine zB ?_ ?_ <;> intro h <;> try exact zk h
      | refine zC (c0) ?_
      | refine zC (cv) ?_
      | rfl
      | ((exfalso; simp only [decide_eq_true_eq, decide_eq_false_iff_not, bne_iff_ne, ne_eq, bne_eq_false_iff_eq] at *; omega))
      | fail)
def sB (E : List (List Nat × Int)) (c : Nat) : List Ob := [.box [.sr 2 5 ((E.take c).map fun e => lk e.1)], .box [.sr 3 1 ((E.take c).map fun e => iI e.2)], .room (E.take c).length 5, .room (E.take c).length 1]
set_option maxHeartbeats 4000000 in
theorem stringsK (N : List Nd) (h9 : N9 N) (hl : N.length ≤ 1000) (k t : Nat) (hk : k ≤ 4) (hE1 : (lvF N k 0 []).length ≤ 100000) (cc : KnownCall Try.prog 21 [nI k, iI t, iI 24, trD N] (.d (iI 0))) :
    KnownCall Try.prog 25 [nI k, iI t, trD N] (.tup [.d (.sl 5 ((lvF N k 0 []).map fun e => lk e.1)), .d (.sl 1 ((lvF N k 0 []).map fun e => iI e.2)), .d (iI 0)]) := by
  have hnl : (N.map nd).length = N.length := by simp
  have cl := leavesK k t N 0 []
  refine kF Try.func25 [5, 29, 34] fun w => ?_
  have w : Fz [5, 29, 34] := trivial
  repeat refine zS ?_
  iterate 4 refine zX ?_
  repeat refine zS ?_
  iterate 3 refine zX ?_
  refine zC cc ?_
  refine zX ?_
  repeat refine zS ?_
  refine zX ?_
  refine zV (show AV.d (.bool ((0 : Int) != 0)) = .d (.bool false) from rfl) ?_
  repeat refine zS ?_
  refine zX ?_
  repeat refine zS ?_
  refine zX ?_
  repeat refine zS ?_
  iterate 4 refine zX ?_
  refine zC cl ?_
  repeat refine zS ?_
  obtain ⟨E, hE⟩ : ∃ E, E = lvF N k 0 [] := ⟨_, rfl⟩
  rw [← hE] at hE1 ⊢
  refine Run.cellRoom 0 0 5 ?_
  refine Run.cellRoom 1 0 1 ?_
  refine Run.weak (weak_of' (l := [(5, .d (.ep [.sl 10 (N.map nd)])), (10, .bp 0 0), (11, .bp 1 0), (24, .d (.fn (.func 98) [] [.ep [iI 0], .ep [.sl 10 (N.map nd)], .ep (lkC []), .ep [nI k], .ep [iI t]]))]) (objs := sB E 0) (by rfl) rfl (by repeat' (first | exact trivial | refine ⟨rfl, ?_⟩))) ?_
  have hmix : Try.prog.follows .mixedOrders = true := by kernel_rfl
  have hT : ptAll (refA 8 6) (PT.ofList [(5, .d (.ep [.sl 10 (N.map nd)])), (10, .bp 0 0), (11, .bp 1 0), (24, .d (.fn (.func 98) [] [.ep [iI 0], .ep [.sl 10 (N.map nd)], .ep (lkC []), .ep [nI k], .ep [iI t]]))]) = true := ptAll_ofList ⟨rfl, rfl, rfl, rfl, trivial⟩
  refine Run.rangeB (frz := [5, 29, 34]) (s := ⟨PT.ofList [(5, .d (.ep [.sl 10 (N.map nd)])), (10, .bp 0 0), (11, .bp 1 0), (24, .d (.fn (.func 98) [] [.ep [iI 0], .ep [.sl 10 (N.map nd)], .ep (lkC []), .ep [nI k], .ep [iI t]]))], sB E 0, []⟩) (r := .tup []) Et_ok hmix (sB E E.length) .ready none rfl ?_ rfl rfl (by simp) ?_
  · refine leavesC N h9 (by omega) t k hk k [] 0 5 6 (fun c => rangeObs (sB E c) (PT.ofList [(5, .d (.ep [.sl 10 (N.map nd)])), (10, .bp 0 0), (11, .bp 1 0), (24, .d (.fn (.func 98) [] [.ep [iI 0], .ep [.sl 10 (N.map nd)], .ep (lkC []), .ep [nI k], .ep [iI t]]))]) _ [5, 29, 34] _ _ _ .ready none) E.length _ (by simp) ⟨by omega, fun c => rfl, fun c => ?_, by rw [← hE]; exact Nat.le_refl _, fun c e hc he => ?_, .inl ⟨by rw [hE], rfl⟩, rfl, ?_⟩
    · show (rangeObs (sB E c) (PT.ofList [(5, .d (.ep [.sl 10 (N.map nd)])), (10, .bp 0 0), (11, .bp 1 0), (24, .d (.fn (.func 98) [] [.ep [iI 0], .ep [.sl 10 (N.map nd)], .ep (lkC []), .ep [nI k], .ep [iI t]]))]) _ [5, 29, 34] _ _ _ .ready none).all _ = true
      unfold rangeObs
      simp only [List.all_append, List.all_cons, List.all_nil, Bool.true_and, Bool.and_true, refOb, hT]
      rfl
    · rw [← hE] at he
      refine ayield_box2 (L := 4) (B := sB E c) (B' := sB E (c + 1)) true (lfC e) [(10, .bp 0 0), (11, .bp 1 0), (12, .d (.ep (lfC e)))] rfl rfl rfl rfl rfl hT ⟨rfl, rfl, rfl, trivial⟩ ?_ (fun a b ha hb => ?_)
      · repeat' (first
          | refine zW ?_
          | refine zB ?_ ?_ <;> intro h <;> try exact zk h
          | refine zX ?_
          | refine oV ?_ (hv := evAny_store_last)
          | (fail)
          | fail)
        exact ⟨rfl, _, rfl, (ofList_cases (by intro q hq; simp only [List.mem_cons, List.not_mem_nil, or_false] at hq; rcases hq with rfl | rfl | rfl; exact .inl (by kernel_rfl); exact .inl (by kernel_rfl); exact .inr ⟨0, Nat.zero_le _, by kernel_rfl, rfl⟩))⟩
      · obtain ⟨x, p⟩ := e
        have htk : E.take (c + 1) = E.take c ++ [(x, p)] := by rw [List.take_add_one, he]; rfl
        have hcl : (E.take c).length ≤ 100000 := by rw [List.length_take]; omega
        unfold sB
        rw [htk]
        generalize E.take c = F at *
        clear htk
        simp only [List.map_append, List.map_cons, List.map_nil, List.length_append, List.length_cons, List.length_nil, Nat.zero_add]
        have hf1 : (F.map fun e => lk e.1).length = F.length := by simp
        have hf2 : (F.map fun e => iI e.2).length = F.length := by simp
        generalize hA : (F.map fun e => lk e.1) = A at *
        generalize hC : (F.map fun e => iI e.2) = C at *
        have hal : A.length ≤ 100000 := by omega
        have hbl : C.length ≤ 100000 := by omega
        clear hA hC
        refine Run.postT ?_
        repeat refine zS ?_
        refine dW w ?_
        iterate 4 refine zX ?_
        refine eX ?_ (hv := app1 (n := F.length) (es := A) (hn := by omega)) (hf := rfl) (he := rfl)
        iterate 4 refine zX ?_
        refine eX ?_ (hv := app1 (n := F.length) (es := C) (hn := by omega)) (hf := rfl) (he := rfl)
        iterate 2 refine zX ?_
        refine eN ?_
        repeat refine zS ?_
        exact ⟨rfl, ⟨PT.ofList [], [.box [.sr 2 5 (A ++ [lk x])], .box [.sr 3 1 (C ++ [iI p])], .room (F.length + 1) 5, .room (F.length + 1) 1, a, b], []⟩, ⟨rfl, rfl⟩, tidy_of [] 6 rfl rfl trivial trivial (by simp only [List.all_cons, ha, hb, List.all_nil, Bool.and_true]; rfl) rfl⟩
    · show (rangeObs (sB E E.length) (PT.ofList [(5, .d (.ep [.sl 10 (N.map nd)])), (10, .bp 0 0), (11, .bp 1 0), (24, .d (.fn (.func 98) [] [.ep [iI 0], .ep [.sl 10 (N.map nd)], .ep (lkC []), .ep [nI k], .ep [iI t]]))]) _ [5, 29, 34] _ _ _ .ready none).all _ = true
      unfold rangeObs
      simp only [List.all_append, List.all_cons, List.all_nil, Bool.true_and, Bool.and_true, refOb, hT]
      rfl
  · simp only
    refine Run.wk (objs' := sB E E.length ++ [.raw (.deferred (some [])), .gone]) ?_ (wk_last _) rfl (by simp) rfl
    unfold sB
    rw [List.take_length]
    repeat refine zS ?_
    refine dW w ?_
    iterate 5 refine zX ?_
    refine eN ?_
    repeat refine zS ?_
    exact zE rfl
section
set_option maxRecDepth 10000
end
end Go.Av
end
noncomputable section
namespace Go.Av
set_option maxRecDepth 10000
end Go.Av
end
noncomputable section
namespace Go.Av
open Go Go.Proofs
set_option maxRecDepth 10000
def entL (f : Int → List Nat → Nat → Option (List (List Nat × Int) × Nat)) (n : Nd) (x : List Nat) : List Nat → List (List Nat × Int) → Nat → Option (List (List Nat × Int) × Nat)
  | [], out, left => some (out, left)
  | o :: os, out, left => if n.x.getD o 0 = 0 then entL f n x os out left else if o < 8 ∧ x.length = 4 then none else
    match f (n.x.getD o 0) (if o < 8 then x ++ [o] else x) left with
    | none => none
    | some r => entL f n x os (out ++ r.1) r.2
abbrev ord9 : List Nat := [8, 0, 1, 2, 3, 4, 5, 6, 7]
def own0 (n : Nd) (x : List Nat) : List (List Nat × Int) := if n.p = -1 then [] else [(x, n.p)]
def entF (N : List Nd) : Nat → Int → List Nat → Nat → Option (List (List Nat × Int) × Nat)
  | 0, _, _, _ => none
  | f + 1, i, x, left => if left = 0 then none else match nodeAt N i with
    | none => none
    | some n => entL (entF N f) n x ord9 (own0 n x) (left - 1)
theorem entL_le {f : Int → List Nat → Nat → Option (List (List Nat × Int) × Nat)} (hf : ∀ i x l r, f i x l = some r → r.1.length + r.2 ≤ l) {n : Nd} {x : List Nat} : ∀ {os : List Nat} {out : List (List Nat × Int)} {l : Nat} {r : List (List Nat × Int) × Nat}, entL f n x os out l = some r → r.1.length + r.2 ≤ out.length + l
  | [], out, l, r, h => by cases h; exact Nat.le_refl _
  | o :: os, out, l, r, h => by
    unfold entL at h
    split at h
    · exact entL_le hf h
    · split at h
      · cases h
      · split at h
        · cases h
        · rename_i q hq
          have h1 := hf _ _ _ _ hq
          have h2 := entL_le hf h
          rw [List.length_append] at h2
          omega
theorem own0_le (n : Nd) (x : List Nat) : (own0 n x).length ≤ 1 := by unfold own0; split <;> simp
theorem entF_le {N : List Nd} : ∀ {f : Nat} {i : Int} {x : List Nat} {l : Nat} {r : List (List Nat × Int) × Nat}, entF N f i x l = some r → r.1.length + r.2 ≤ l
  | 0, _, _, _, _, h => by cases h
  | f + 1, i, x, l, r, h => by
    unfold entF at h
    split at h
    · cases h
    · split at h
      · cases h
      · rename_i n hn
        have h1 := entL_le (fun i x l r hr => entF_le hr) h
        have h2 := own0_le n x
        omega
theorem entL_lt {f : Int → List Nat → Nat → Option (List (List Nat × Int) × Nat)} (hf : ∀ i x l r, x.length ≤ 4 → f i x l = some r → ∀ e ∈ r.1, e.1.length ≤ 4) {n : Nd} {x : List Nat} (hx : x.length ≤ 4) : ∀ {os : List Nat} {out : List (List Nat × Int)} {l : Nat} {r : List (List Nat × Int) × Nat}, (∀ e ∈ out, e.1.length ≤ 4) → entL f n x os out l = some r → ∀ e ∈ r.1, e.1.length ≤ 4
  | [], out, l, r, ho, h => by cases h; exact ho
  | o :: os, out, l, r, ho, h => by
    unfold entL at h
    split at h
    · exact entL_lt hf hx ho h
    · split at h
      · cases h
      · rename_i hno
        split at h
        · cases h
        · rename_i q hq
          refine entL_lt hf hx (fun e he => ?_) h
          rcases List.mem_append.1 he with h1 | h1
          · exact ho e h1
          · refine hf _ _ _ _ ?_ hq e h1
            split
            · rename_i h8
              simp only [List.length_append, List.length_cons, List.length_nil]
              have : x.length ≠ 4 := fun e => hno ⟨h8, e⟩
              omega
            · exact hx
theorem entF_lt {N : List Nd} : ∀ {f : Nat} {i : Int} {x : List Nat} {l : Nat} {r : List (List Nat × Int) × Nat}, x.length ≤ 4 → entF N f i x l = some r → ∀ e ∈ r.1, e.1.length ≤ 4
  | 0, _, _, _, _, _, h => by cases h
  | f + 1, i, x, l, r, hx, h => by
    unfold entF at h
    split at h
    · cases h
    · split at h
      · cases h
      · rename_i n hn
        refine entL_lt (fun i x l r hx hr => entF_lt hx hr) hx (fun e he => ?_) h
        unfold own0 at he
        split at he
        · cases he
        · simp only [List.mem_cons, List.not_mem_nil, or_false] at he
          subst he; exact hx
theorem BackT.hasT {k t : Nat} {S : List (List (List Nat))} {P : List Int} (h : BackT k t S P) : HasT (madeAll k Tz0 S P) (((entS S P).map (keyT' k)).reverse ++ []) := by
  obtain ⟨_, h2⟩ := chkAll_ok h.chk
  have hent : ∀ x ∈ entS S P, (∀ e ∈ x.1, e < 8) ∧ 0 ≤ x.2 := fun x hx => by
    obtain ⟨L, h1, h3, h4⟩ := entS_mem (x := x.1) (p := x.2) hx
    exact ⟨((h.rt L h1).rt x.1 h3).1.lt, (h.pb x.2 h4).1⟩
  obtain ⟨i1, _⟩ := insT_eq (k := k) HasT.zero (by simp) hent
  have j := (i1 ((noT_iff h.rt h.pl).2 h2)).2
  rw [madeAll_eq]
  exact j
structure WayT (k : Nat) (T : Trt) : Prop where
  ok : OkT T
  k1 : 1 ≤ k
  inner : ∀ x a, goT T.q 0 x = some a → (∀ e ∈ x, e < 8) → x.length < k → T.v.getD a (-1) = -1
  deep : ∀ x a, goT T.q 0 x = some a → (∀ e ∈ x, e < 8) → x.length = k → T.v.getD a (-1) ≠ -1 ∧ ∀ e, (a, e) ∉ T.q
  ends : ∀ x a, goT T.q 0 (x ++ [8]) = some a → (∀ e ∈ x, e < 8) → T.v.getD a (-1) ≠ -1 ∧ ∀ e, (a, e) ∉ T.q
theorem edges_len {k : Nat} {y : List Nat} (h : y.length ≤ k) : (edgesT k y).length ≤ k := by
  unfold edgesT
  split
  · rw [List.length_append]; simp; omega
  · exact h
theorem pre_end {k : Nat} {x u y : List Nat} (hy : ∀ e ∈ y, e < 8) (h : x ++ 8 :: u <+: edgesT k y) : u = [] ∧ edgesT k y = x ++ [8] := by
  obtain ⟨w, hw⟩ := h
  have hs : ∀ z : List Nat, x ++ 8 :: u ++ w = z → z[x.length]? = some 8 := fun z hz => by subst hz; simp
  unfold edgesT at hw ⊢
  split at hw
  · rename_i hlt
    rw [if_pos hlt]
    have h8 := hs _ hw
    have hxl : ¬ x.length < y.length := fun hl => by
      rw [List.getElem?_append_left hl] at h8
      have := hy 8 (List.mem_of_getElem? h8)
      omega
    have hl := congrArg List.length hw
    simp only [List.length_append, List.length_cons, List.length_nil] at hl
    have hu : u = [] := List.length_eq_zero_iff.1 (by omega)
    have hw0 : w = [] := List.length_eq_zero_iff.1 (by omega)
    subst hu hw0
    exact ⟨rfl, by rw [← hw]; simp⟩
  · have := hy 8 (List.mem_of_getElem? (hs _ hw))
    omega
theorem BackT.way {k t : Nat} {S : List (List (List Nat))} {P : List Int} (h : BackT k t S P) : WayT k (madeAll k Tz0 S P) := by
  have hh := h.hasT
  have hf := h.fin
  have hp : ∀ y ∈ entS S P, 0 ≤ y.2 := fun y hy => by
    obtain ⟨L, h1, h3, h4⟩ := entS_mem (x := y.1) (p := y.2) hy
    exact (h.pb y.2 h4).1
  generalize madeAll k Tz0 S P = T at *
  generalize entS S P = L at *
  have hval : ∀ y ∈ L, ∀ a, goT T.q 0 (edgesT k y.1) = some a → T.v.getD a (-1) ≠ -1 := fun y hy a ha => by
    obtain ⟨n, h1, h2⟩ := hh.has (edgesT k y.1) y.2 (by
      simp only [List.append_nil, List.mem_reverse, List.mem_map]
      exact ⟨y, hy, rfl⟩)
    rw [ha] at h1
    cases h1
    have := hp y hy
    rw [List.getD_eq_getElem?_getD, h2]
    simp; omega
  have hlong : ∀ x a, goT T.q 0 x = some a → x.length ≤ k := fun x a hx => by
    rcases hf.pre x a hx with rfl | ⟨y, hy, w, hw⟩
    · simp
    · have h1 := edges_len (hf.rt y hy).2
      rw [← hw, List.length_append] at h1
      omega
  have hedge : ∀ {x : List Nat} {a : Nat}, goT T.q 0 x = some a → ∀ e, (a, e) ∈ T.q → ∃ b, goT T.q 0 (x ++ [e]) = some b := fun {x a} hx e he => by
    refine ⟨toT T.q a e, ?_⟩
    rw [goT_snoc, hx]
    simp only [Option.bind_some]
    rw [if_pos he]
  refine ⟨hf.ok, h.k1, fun x a hx h8 hl => ?_, fun x a hx h8 hl => ⟨?_, fun e he => ?_⟩, fun x a hx h8 => ⟨?_, fun e he => ?_⟩⟩
  · have := hh.none x a hx (fun c hc => by
      simp only [List.append_nil, List.mem_reverse, List.mem_map] at hc
      obtain ⟨y, hy, e⟩ := hc
      have e1 : edgesT k y.1 = x := congrArg Prod.fst e
      have hyl := (hf.rt y hy).2
      unfold edgesT at e1
      split at e1
      · have := h8 8 (by rw [← e1]; simp)
        omega
      · have := congrArg List.length e1
        omega)
    rw [List.getD_eq_getElem?_getD, this]; rfl
  · rcases hf.pre x a hx with rfl | ⟨y, hy, w, hw⟩
    · have := h.k1
      simp at hl; omega
    · have h1 := edges_len (hf.rt y hy).2
      have hw0 : w = [] := List.length_eq_zero_iff.1 (by rw [← hw, List.length_append] at h1; omega)
      subst hw0
      rw [List.append_nil] at hw
      exact hval y hy a (by rw [← hw]; exact hx)
  · obtain ⟨b, hb⟩ := hedge hx e he
    have := hlong _ _ hb
    simp at this; omega
  · rcases hf.pre _ a hx with h0 | ⟨y, hy, hw⟩
    · simp at h0
    · have := (pre_end (hf.rt y hy).1 hw).2
      exact hval y hy a (by rw [this]; exact hx)
  · obtain ⟨b, hb⟩ := hedge hx e he
    rw [List.append_assoc] at hb
    rcases hf.pre _ b hb with h0 | ⟨y, hy, hw⟩
    · simp at h0
    · have := (pre_end (u := [e]) (hf.rt y hy).1 (by simpa using hw)).1
      simp at this
def vkF (f : Nat → List Nat) (Q : TE) (a : Nat) : Nat → List Nat
  | 0 => []
  | m + 1 => (if toT Q a (7 - m) = 0 then [] else f (toT Q a (7 - m))) ++ vkF f Q a m
def vsF (Q : TE) : Nat → Nat → List Nat
  | 0, a => [a]
  | d + 1, a => a :: ((if toT Q a 8 = 0 then [] else [toT Q a 8]) ++ vkF (vsF Q d) Q a 8)
def ordM : Nat → List Nat
  | 0 => []
  | m + 1 => (7 - m) :: ordM m
theorem go_next {T : Trt} {x : List Nat} {a e : Nat} (hx : goT T.q 0 x = some a) (h : toT T.q a e ≠ 0) : goT T.q 0 (x ++ [e]) = some (toT T.q a e) := by
  rw [goT_snoc, hx]
  simp only [Option.bind_some]
  rw [if_pos (toT_ne.1 h)]
theorem lt8_snoc {x : List Nat} {s : Nat} (h : ∀ e ∈ x, e < 8) (hs : s < 8) : ∀ e ∈ x ++ [s], e < 8 := fun e he => by
  rcases List.mem_append.1 he with h1 | h1
  · exact h e h1
  · simp at h1; omega
theorem entL_zero {f : Int → List Nat → Nat → Option (List (List Nat × Int) × Nat)} {n : Nd} {x : List Nat} {out : List (List Nat × Int)} {l : Nat} : ∀ {os : List Nat}, (∀ o ∈ os, n.x.getD o 0 = 0) → entL f n x os out l = some (out, l)
  | [], _ => rfl
  | o :: os, h => by
    unfold entL
    rw [if_pos (h o (by simp))]
    exact entL_zero fun q hq => h q (by simp [hq])
theorem ent_leaf {T : Trt} {a : Nat} (ha : a ≤ T.q.length) (hp : T.v.getD a (-1) ≠ -1) (hn : ∀ e, (a, e) ∉ T.q) (f : Nat) (x : List Nat) (l : Nat) : entF (rowT T) (f + 1) a x (l + 1) = some ([(x, T.v.getD a (-1))], l) := by
  unfold entF
  rw [if_neg (by omega), nodeAt_row ha]
  have h0 : own0 (ndT T a) x = [(x, T.v.getD a (-1))] := by unfold own0; rw [if_neg (show ¬ (ndT T a).p = -1 from hp)]; rfl
  simp only [h0, Nat.add_sub_cancel]
  refine entL_zero fun o ho => ?_
  have ho9 : o < 9 := by
    have : ∀ o ∈ ord9, o < 9 := by decide
    exact this o ho
  rw [ndT_getD ho9, toT_not (hn o)]; rfl
theorem entF_way {k : Nat} {T : Trt} (h : WayT k T) (hk : k ≤ 4) : ∀ (d : Nat) (x : List Nat) (a : Nat), x.length + d = k → goT T.q 0 x = some a → (∀ e ∈ x, e < 8) → ∀ (f l : Nat), (vsF T.q d a).length ≤ l → l ≤ f → entF (rowT T) f a x l = some (lvF (rowT T) d a x, l - (vsF T.q d a).length)
  | 0, x, a, hd, hx, h8, f, l, hl, hf => by
    have ha := goT_le (Nat.zero_le _) hx
    obtain ⟨h1, h2⟩ := h.deep x a hx h8 (by omega)
    simp only [vsF, List.length_cons, List.length_nil] at hl ⊢
    obtain ⟨l, rfl⟩ : ∃ q, l = q + 1 := ⟨l - 1, by omega⟩
    obtain ⟨f, rfl⟩ : ∃ q, f = q + 1 := ⟨f - 1, by omega⟩
    rw [ent_leaf ha h1 h2]
    unfold lvF
    rw [nodeAt_row ha]; rfl
  | d + 1, x, a, hd, hx, h8, f, l, hl, hf => by
    have ha := goT_le (Nat.zero_le _) hx
    have h1 := h.inner x a hx h8 (by omega)
    simp only [vsF, List.length_cons, List.length_append] at hl ⊢
    obtain ⟨l, rfl⟩ : ∃ q, l = q + 1 := ⟨l - 1, by omega⟩
    obtain ⟨f, rfl⟩ : ∃ q, f = q + 1 := ⟨f - 1, by omega⟩
    have hkids : ∀ (m : Nat), m ≤ 8 → ∀ (out : List (List Nat × Int)) (l : Nat), (vkF (vsF T.q d) T.q a m).length ≤ l → l ≤ f → entL (entF (rowT T) f) (ndT T a) x (ordM m) out l = some (out ++ kidsF (lvF (rowT T) d) (ndT T a) x m, l - (vkF (vsF T.q d) T.q a m).length) := by
      intro m
      induction m with
      | zero => intro _ out l _ _; simp [ordM, entL, kidsF, vkF]
      | succ m ih =>
        intro hm out l hl hf
        simp only [ordM, entL, kidsF, vkF, List.length_append] at hl ⊢
        rw [ndT_getD (show 7 - m < 9 by omega)]
        by_cases h0 : toT T.q a (7 - m) = 0
        · simp only [h0, if_true, List.length_nil, Nat.zero_add, List.nil_append, Int.ofNat_eq_zero, Int.natCast_eq_zero] at hl ⊢
          exact ih (by omega) out l hl hf
        · have h0' : ¬ ((toT T.q a (7 - m) : Nat) : Int) = 0 := by omega
          simp only [h0, h0', if_false] at hl ⊢
          have h4 : ¬ (7 - m < 8 ∧ x.length = 4) := by omega
          rw [if_neg h4, if_pos (show 7 - m < 8 by omega)]
          have hg := go_next hx h0
          have r1 := entF_way h hk d (x ++ [7 - m]) (toT T.q a (7 - m)) (by simp; omega) hg (lt8_snoc h8 (by omega)) f l (by omega) hf
          rw [r1]
          simp only
          rw [ih (by omega) _ _ (by omega) (by omega), List.append_assoc, Nat.sub_sub]
    unfold entF
    rw [if_neg (by omega), nodeAt_row ha]
    have h0 : own0 (ndT T a) x = [] := by unfold own0; rw [if_pos (show (ndT T a).p = -1 from h1)]
    simp only [h0, Nat.add_sub_cancel]
    show entL _ _ _ (8 :: ordM 8) _ _ = _
    unfold entL lvF
    rw [nodeAt_row ha]
    simp only
    rw [ndT_getD (show 8 < 9 by omega)]
    by_cases he : toT T.q a 8 = 0
    · have he' : ((toT T.q a 8 : Nat) : Int) = 0 := by omega
      rw [if_pos he] at hl
      rw [if_pos he', if_pos he', if_pos he]
      simp only [List.length_nil, Nat.zero_add] at hl ⊢
      rw [hkids 8 (Nat.le_refl 8) [] l (by omega) (by omega)]
      simp
    · have he' : ¬ ((toT T.q a 8 : Nat) : Int) = 0 := by omega
      rw [if_neg he] at hl
      rw [if_neg he', if_neg he', if_neg he, if_neg (by omega), if_neg (by omega)]
      simp only [List.length_cons, List.length_nil, Nat.zero_add] at hl ⊢
      have hg := go_next hx he
      have ha' := goT_le (Nat.zero_le _) hg
      obtain ⟨e1, e2⟩ := h.ends x _ hg h8
      obtain ⟨l, rfl⟩ : ∃ q, l = q + 1 := ⟨l - 1, by omega⟩
      obtain ⟨f', rfl⟩ : ∃ q, f = q + 1 := ⟨f - 1, by omega⟩
      rw [ent_leaf ha' e1 e2, nodeAt_row ha']
      simp only
      rw [hkids 8 (Nat.le_refl 8) _ l (by omega) (by omega)]
      simp only [List.nil_append, List.cons_append, Option.some.injEq, Prod.mk.injEq]
      exact ⟨rfl, by omega⟩
theorem go_cons {Q : TE} {x es : List Nat} {a e n : Nat} (hx : goT Q 0 x = some a) (h : goT Q 0 (x ++ e :: es) = some n) : (a, e) ∈ Q ∧ goT Q 0 (x ++ [e] ++ es) = some n := by
  refine ⟨?_, by simpa using h⟩
  rw [goT_app, hx] at h
  simp only [Option.bind_some, goT] at h
  split at h
  · assumption
  · cases h
theorem mem_vk {f : Nat → List Nat} {Q : TE} {a n : Nat} : ∀ {m : Nat}, m ≤ 8 → (n ∈ vkF f Q a m ↔ ∃ s, 8 - m ≤ s ∧ s < 8 ∧ toT Q a s ≠ 0 ∧ n ∈ f (toT Q a s))
  | 0, _ => by
    simp only [vkF, List.not_mem_nil, false_iff, not_exists]
    intro s h; omega
  | m + 1, hm => by
    simp only [vkF, List.mem_append]
    rw [mem_vk (show m ≤ 8 by omega)]
    constructor
    · rintro (h | ⟨s, h1, h2⟩)
      · split at h
        · cases h
        · exact ⟨7 - m, by omega, by omega, by assumption, h⟩
      · exact ⟨s, by omega, h2⟩
    · rintro ⟨s, h1, h2, h3, h4⟩
      by_cases hs : s = 7 - m
      · subst hs; left; rw [if_neg h3]; exact h4
      · exact .inr ⟨s, by omega, h2, h3, h4⟩
theorem mem_vs {k : Nat} {T : Trt} (h : WayT k T) : ∀ (d : Nat) (x : List Nat) (a : Nat), x.length + d = k → goT T.q 0 x = some a → (∀ e ∈ x, e < 8) → ∀ n, n ∈ vsF T.q d a ↔ ∃ es, goT T.q 0 (x ++ es) = some n
  | 0, x, a, hd, hx, h8, n => by
    simp only [vsF, List.mem_cons, List.not_mem_nil, or_false]
    constructor
    · rintro rfl; exact ⟨[], by simpa using hx⟩
    · rintro ⟨es, he⟩
      cases es with
      | nil => rw [List.append_nil, hx] at he; exact (Option.some.inj he).symm
      | cons e es => exact absurd (go_cons hx he).1 ((h.deep x a hx h8 (by omega)).2 e)
  | d + 1, x, a, hd, hx, h8, n => by
    simp only [vsF, List.mem_cons, List.mem_append]
    rw [mem_vk (Nat.le_refl 8)]
    constructor
    · rintro (rfl | h1 | ⟨s, _, h2, h3, h4⟩)
      · exact ⟨[], by simpa using hx⟩
      · split at h1
        · cases h1
        · rename_i h0
          simp only [List.mem_cons, List.not_mem_nil, or_false] at h1
          subst h1
          exact ⟨[8], go_next hx h0⟩
      · obtain ⟨es, he⟩ := (mem_vs h d (x ++ [s]) _ (by simp; omega) (go_next hx h3) (lt8_snoc h8 h2) n).1 h4
        exact ⟨s :: es, by simpa using he⟩
    · rintro ⟨es, he⟩
      cases es with
      | nil => rw [List.append_nil, hx] at he; exact .inl (Option.some.inj he).symm
      | cons e es =>
        obtain ⟨h1, h2⟩ := go_cons hx he
        have hne := toT_ne.2 h1
        obtain ⟨i, hi⟩ := List.getElem?_of_mem h1
        have he8 := (h.ok.le i a e hi).2
        right
        by_cases h88 : e = 8
        · subst h88
          left
          rw [if_neg hne]
          have hg := go_next hx hne
          cases es with
          | nil =>
            rw [List.append_nil, hg] at h2
            rw [← Option.some.inj h2]; simp
          | cons e es => exact absurd (go_cons hg h2).1 ((h.ends x _ hg h8).2 e)
        · right
          exact ⟨e, by omega, by omega, hne, (mem_vs h d (x ++ [e]) _ (by simp; omega) (go_next hx hne) (lt8_snoc h8 (by omega)) n).2 ⟨es, h2⟩⟩
theorem app_ne {x es es' : List Nat} {s s' : Nat} (h : s ≠ s') : x ++ [s] ++ es ≠ x ++ [s'] ++ es' := fun e => by
  rw [List.append_assoc, List.append_assoc] at e
  have := List.append_cancel_left e
  simp at this
  exact h this.1
theorem vs_nodup {k : Nat} {T : Trt} (h : WayT k T) : ∀ (d : Nat) (x : List Nat) (a : Nat), x.length + d = k → goT T.q 0 x = some a → (∀ e ∈ x, e < 8) → (vsF T.q d a).Nodup
  | 0, x, a, hd, hx, h8 => by simp [vsF]
  | d + 1, x, a, hd, hx, h8 => by
    have hsub : ∀ {s n : Nat}, s < 8 → toT T.q a s ≠ 0 → n ∈ vsF T.q d (toT T.q a s) → ∃ es, goT T.q 0 (x ++ [s] ++ es) = some n := fun hs h0 hn =>
      (mem_vs h d (x ++ [_]) _ (by simp; omega) (go_next hx h0) (lt8_snoc h8 hs) _).1 hn
    have hk : ∀ m, m ≤ 8 → (vkF (vsF T.q d) T.q a m).Nodup := by
      intro m
      induction m with
      | zero => intro _; simp [vkF]
      | succ m ih =>
        intro hm
        simp only [vkF]
        rw [List.nodup_append]
        refine ⟨?_, ih (by omega), fun n hn n' hn' e => ?_⟩
        · split
          · simp
          · rename_i h0
            exact vs_nodup h d (x ++ [7 - m]) _ (by simp; omega) (go_next hx h0) (lt8_snoc h8 (by omega))
        · subst e
          obtain ⟨s, h1, h2, h3, h4⟩ := (mem_vk (show m ≤ 8 by omega)).1 hn'
          split at hn
          · cases hn
          · rename_i h0
            obtain ⟨es, he⟩ := hsub (by omega) h0 hn
            obtain ⟨es', he'⟩ := hsub h2 h3 h4
            exact app_ne (by omega) (goT_inj _ he he')
    simp only [vsF]
    rw [List.nodup_cons, List.nodup_append]
    refine ⟨fun hm => ?_, ?_, hk 8 (Nat.le_refl 8), fun n hn n' hn' e => ?_⟩
    · rcases List.mem_append.1 hm with h1 | h1
      · split at h1
        · cases h1
        · rename_i h0
          simp only [List.mem_cons, List.not_mem_nil, or_false] at h1
          have hg := go_next hx h0
          rw [← h1] at hg
          have := goT_inj _ hx hg
          simp at this
      · obtain ⟨s, _, h2, h3, h4⟩ := (mem_vk (Nat.le_refl 8)).1 h1
        obtain ⟨es, he⟩ := hsub h2 h3 h4
        have := goT_inj _ hx he
        simp at this
    · split <;> simp
    · subst e
      split at hn
      · cases hn
      · rename_i h0
        simp only [List.mem_cons, List.not_mem_nil, or_false] at hn
        subst hn
        obtain ⟨s, _, h2, h3, h4⟩ := (mem_vk (Nat.le_refl 8)).1 hn'
        obtain ⟨es, he⟩ := hsub h2 h3 h4
        have hg := go_next hx h0
        have := goT_inj _ hg he
        exact app_ne (x := x) (es := []) (es' := es) (s := 8) (s' := s) (by omega) (by simpa using this)
theorem len_ge : ∀ (n : Nat) (l : List Nat), (∀ i, i < n → i ∈ l) → n ≤ l.length
  | 0, _, _ => Nat.zero_le _
  | n + 1, l, h => by
    have h1 := len_ge n (l.erase n) fun i hi => (List.mem_erase_of_ne (by omega)).2 (h i (by omega))
    have h2 := List.length_erase_of_mem (h n (by omega))
    have h3 := List.length_pos_of_mem (h n (by omega))
    omega
theorem vs_len {k : Nat} {T : Trt} (h : WayT k T) : (vsF T.q k 0).length = T.q.length + 1 := by
  have hm := mem_vs h k [] 0 (by simp) rfl (by simp)
  have h1 : (vsF T.q k 0).length ≤ T.q.length + 1 := nodup_le _ _ (vs_nodup h k [] 0 (by simp) rfl (by simp)) fun n hn => by
    obtain ⟨es, he⟩ := (hm n).1 hn
    have := goT_le (Nat.zero_le _) he
    omega
  have h2 := len_ge (T.q.length + 1) (vsF T.q k 0) fun n hn => by
    obtain ⟨es, he, _⟩ := goT_all h.ok n (by omega)
    exact (hm n).2 ⟨es, by simpa using he⟩
  omega
theorem BackT.ent {k t : Nat} {S : List (List (List Nat))} {P : List Int} (h : BackT k t S P) (hk : k ≤ 4) : entF (rowT (madeAll k Tz0 S P)) (rowT (madeAll k Tz0 S P)).length 0 [] (rowT (madeAll k Tz0 S P)).length = some (lvT k S P, 0) := by
  have hw := h.way
  have hl := vs_len hw
  have := entF_way hw hk k [] 0 (by simp) rfl (by simp) (rowT (madeAll k Tz0 S P)).length (rowT (madeAll k Tz0 S P)).length (by rw [hl, rowT_len]; exact Nat.le_refl _) (Nat.le_refl _)
  rw [hl, rowT_len, Nat.sub_self] at this
  rw [rowT_len]
  exact this
theorem eq_nil2 {P : Program} {w : World} {t e : TypeId} (hu : P.underlying t = some (.slice e)) (q : Option Addr) (cap : Nat) (dd : Nat) : (Op.equalIn (dd + 1) t (.slice q 0 cap) (.slice none 0 0)).run P w = .ok q.isNone w := by
  cases q <;> simp [Op.equalIn, run_underlying hu]
theorem RunOps.nil2 {P : Program} {E : PT Ty} {nt m : Nat} {ro' : Option Nat} {K : Ex → S → Prop} {ops : Array Oper} {l : List Oper} {o : Oper} {tm tm1 tm0 : PT AV} {objs : List Ob} {dl : List Dl} (hE : EnvOK P E) {t yt e : TypeId} {x : Operand} {sz : Nat} {d : Ty}
    (k1 : RunOps P nt m ro' ops l ⟨tm1, objs, dl⟩ K) (k0 : RunOps P nt m ro' ops l ⟨tm0, objs, dl⟩ K)
    (hop : o.op = .binOp .eql t x (.const (.slice none 0 0)) yt := by rfl) (hg : guardA ops (rd tm) o = some true := by rfl) (hx : rd tm x = .d (.sl sz []) := by rfl) (hd : E.get? t = some d := by rfl) (hds : d.desc = .slice e := by rfl)
    (ht1 : setD nt tm o.dst (.d (.bool true)) = some tm1 := by rfl) (ht0 : setD nt tm o.dst (.d (.bool false)) = some tm0 := by rfl) : RunOps P nt m ro' ops (o :: l) ⟨tm, objs, dl⟩ K := by
  intro D0 β0 o0 w0 hb0 ro Q a w i hro hl hK hs
  have hi : ops[i]? = some o := by have := hl 0 (by simp); simpa using this
  have hl' : ∀ k : Nat, k < l.length → ops[i + 1 + k]? = l[k]? := fun k hk => by
    have := hl (k + 1) (by simp; omega)
    rw [show i + 1 + k = i + (k + 1) by omega]; simpa using this
  obtain ⟨D, β, h1, h2, h3⟩ := hs
  simp only [List.length_cons, List.range'_succ, wpOpsIn, hi]
  rw [guard_ok (fun x => h2.rd x) hg]
  simp only [if_true]
  have hx' := h2.rd x
  simp only at hx'
  rw [hx] at hx'
  obtain ⟨q, cap, hq⟩ : ∃ q cap, a.eval x = .slice q 0 cap := by
    generalize a.eval x = u at hx'
    cases hx' with
    | d h => cases h; exact ⟨_, _, rfl⟩
  have hu := (hE.ty t d hd).und
  rw [hds] at hu
  have he : (execOp a.eval o).run P w = .ok (.value (.bool q.isNone)) w := by
    obtain ⟨dst, op, ty, pos, after, guard⟩ := o
    simp only at hop
    subst hop
    have h4 : execOp a.eval ⟨dst, .binOp .eql t x (.const (.slice none 0 0)) yt, ty, pos, after, guard⟩ = (do pure (.value (← (do eqGuard .eql t x (.const (.slice none 0 0)) (a.eval x) (.slice none 0 0); binOp .eql t (a.eval x) (.slice none 0 0))))) := rfl
    have h5 : (Op.equal t (.slice q 0 cap) (.slice none 0 0)).run P w = .ok q.isNone w := by
      exact eq_nil2 hu q cap 9999
    rw [h4, hq]
    simp [eqGuard, binOp, h5]
  refine ⟨fun _ _ => trivial, ?_⟩
  rw [Oper.semAt_eq _ _ _ (fun c => by rw [hop]; simp), he]
  cases q with
  | none => exact k1 D0 β0 o0 w0 hb0 ro Q _ _ (i + 1) hro hl' hK (Sim.put h1 h2 h3 (Step.refl h1.heap) (.d .bool) ht1)
  | some ad => exact k0 D0 β0 o0 w0 hb0 ro Q _ _ (i + 1) hro hl' hK (Sim.put h1 h2 h3 (Step.refl h1.heap) (.d .bool) ht0)
theorem cloneE : ACall Try.prog 64 [.d (.sl 1 [])] [] (.sr 0 1 []) [.room 0 1] := by
  have w : Fz [] := trivial
  refine acallG_of_run Et_ok (fnB Try.func64 []) rfl rfl (by simp) (by rfl) rfl ?_
  have w : Fz [] := trivial
  repeat refine zS ?_
  refine zX ?_
  repeat refine zS ?_
  refine zX ?_
  refine RunOps.nil2 Et_ok ?_ ?_
  · repeat refine zS ?_
    refine zX ?_
    refine RunOps.nil ?_
    refine Run.mkRoom 2 1 [(2, .sr 0 1 [])] (by kernel_rfl) (ofList_cases (by intro p hp; simp only [List.mem_cons, List.not_mem_nil, or_false] at hp; rcases hp with rfl; exact .inl ⟨rfl, rfl⟩)) ?_
    refine Run.ret ?_
    refine ⟨trivial, _, _, rfl, rfl, .refl, ?_⟩
    exact ⟨.refl, trivial⟩
  · repeat refine zS ?_
    iterate 2 refine zX ?_
    refine zAp ?_
    refine zX ?_
    repeat refine zS ?_
    refine Run.ret ?_
    refine ⟨trivial, _, _, rfl, rfl, .refl, ?_⟩
    exact ⟨.refl, trivial⟩
theorem all_succ {p : Nat → Prop} {i : Nat} (h : ∀ j, j < i → p j) (h' : p i) : ∀ j, j < i + 1 → p j := fun j hj => by
  rcases Nat.lt_succ_iff_lt_or_eq.1 hj with h1 | h1
  · exact h j h1
  · exact h1 ▸ h'
def idxP {α : Type} (l : List α) (p : α → Bool) : Int := if l.any p then (l.findIdx p : Nat) else -1
theorem idxP_at {α : Type} {l : List α} {p : α → Bool} {i : Nat} {x : α} (h : l[i]? = some x) (hx : p x = true) (hb : ∀ j, j < i → ∀ y, l[j]? = some y → p y = false) : idxP l p = i := by
  have hm := List.mem_of_getElem? h
  have ha : l.any p = true := List.any_eq_true.2 ⟨x, hm, hx⟩
  rw [idxP, if_pos ha]
  have h1 : l.findIdx p < l.length := List.findIdx_lt_length_of_exists ⟨x, hm, hx⟩
  have h2 := List.findIdx_getElem (w := h1)
  have h3 : ¬ l.findIdx p < i := fun hlt => by
    have := hb _ hlt _ (List.getElem?_eq_getElem h1)
    rw [this] at h2; cases h2
  have h4 : ¬ i < l.findIdx p := fun hlt => by
    have h5 := List.not_of_lt_findIdx hlt
    rw [(List.getElem?_eq_some_iff.1 h).2] at h5
    simp [hx] at h5
  omega
theorem idxP_none {α : Type} {l : List α} {p : α → Bool} (hb : ∀ j, j < l.length → ∀ y, l[j]? = some y → p y = false) : idxP l p = -1 := by
  rw [idxP, if_neg]
  intro ha
  obtain ⟨x, hx, hp⟩ := List.any_eq_true.1 ha
  obtain ⟨j, hj, e⟩ := List.getElem_of_mem hx
  have := hb j hj x (by rw [List.getElem?_eq_getElem hj, e])
  rw [this] at hp; cases hp
theorem idxP_any {α : Type} (l : List α) (p : α → Bool) : decide (0 ≤ idxP l p) = l.any p := by
  unfold idxP
  cases h : l.any p <;> simp
theorem indexFuncInts (l : List Int) (hl : l.length ≤ 1099511627776) (F : FuncId) (caps : List DV) (p : Int → Bool) (hp : ∀ x ∈ l, KnownCall Try.prog F ((.int .i64 x) :: caps) (.d (.bool (p x)))) :
    KnownCall Try.prog 97 [(.sl 1 (l.map (.int .i64))), .fn (.func F) [] caps] (.d (.int .i64 (idxP l p))) := by
  refine kF Try.func97 [] fun w => ?_
  repeat' (first
    | refine zW ?_
    | refine zB ?_ ?_ <;> intro h <;> try exact zk h
    | fail)
  refine Run.loop (fun i : Nat => ⟨PT.ofList [(0, .d (.sl 1 (l.map (.int .i64)))), (1, .d (.fn (.func F) [] caps)), (7, .d (.int .i64 l.length)), (8, .d (.int .i64 i))], [], []⟩) (fun i => i ≤ l.length ∧ ∀ j, j < i → ∀ y, l[j]? = some y → p y = false) (fun i => l.length - i) 0 ⟨Nat.zero_le _, fun j hj => by omega⟩ (weak_of (by repeat' (first | exact trivial | refine ⟨rfl, ?_⟩ | refine ⟨Eq.trans (b := some (.d (.int .i64 (l.map _).length))) rfl (by rw [List.length_map]), ?_⟩ | fail))) (fun i hi => ?_)
  obtain ⟨hi1, hi2⟩ := hi
  rcases Nat.lt_or_ge i l.length with hlt | hge
  · obtain ⟨x, hx⟩ := get_ok hlt
    have hc := hp x (List.mem_of_getElem? hx)
    repeat' (first
      | refine zW ?_
      | refine zB ?_ ?_ <;> intro h <;> try exact zk h
      | refine zI w (.d (.ep [.int .i64 x])) hx ?_
      | refine zK (hc) ?_ ?_ <;> intro h <;> try exact zk h
      | refine zC (hc) ?_
      | (show _ = _; rw [idxP_at hx (by simp_all) hi2])
      | (exact ⟨i + 1, ⟨by omega, all_succ hi2 (fun q hq => by rw [hx] at hq; cases hq; simp_all)⟩, by omega, weak_of (by repeat' (first | exact trivial | refine ⟨rfl, ?_⟩ | refine ⟨(inc_get (k := i) (by kernel_rfl) (by omega)), ?_⟩))⟩)
      | fail)
  · have hge : i = l.length := by omega
    repeat' (first
      | refine zW ?_
      | refine zB ?_ ?_ <;> intro h <;> try exact zk h
      | (show _ = _; rw [idxP_none (fun j hj => hi2 j (by omega))])
      | fail)
theorem containsFuncInts (l : List Int) (hl : l.length ≤ 1099511627776) (F : FuncId) (caps : List DV) (p : Int → Bool) (hp : ∀ x ∈ l, KnownCall Try.prog F ((.int .i64 x) :: caps) (.d (.bool (p x)))) :
    KnownCall Try.prog 62 [(.sl 1 (l.map (.int .i64))), .fn (.func F) [] caps] (.d (.bool (l.any p))) := by
  refine kF Try.func62 [] fun w => ?_
  have e := idxP_any l p
  repeat' (first
    | refine zW ?_
    | refine zB ?_ ?_ <;> intro h <;> try exact zk h
    | refine zK (indexFuncInts _ hl _ _ _ hp) ?_ ?_ <;> intro h <;> try exact zk h
    | refine zC (indexFuncInts _ hl _ _ _ hp) ?_
    | (show _ = _; first | (rw [← e] <;> simp_all <;> fail) | fail)
    | fail)
theorem indexNil (F : FuncId) (caps : List DV) : KnownCall Try.prog 97 [.nilsl, .fn (.func F) [] caps] (.d (iI (-1))) := by
  refine kF Try.func97 [] fun w => ?_
  repeat' (first
    | refine zW ?_
    | refine zB ?_ ?_ <;> intro h <;> try exact zk h
    | fail)
  refine Run.loopT (fun i : Nat => ⟨PT.ofList [(7, .d (nI 0)), (8, .d (nI 0))], [], []⟩) (fun i => i = 0) (fun i => i) 0 rfl (ti _ 0) (fun i hi => ?_)
  repeat' (first
    | refine zW ?_
    | refine zB ?_ ?_ <;> intro h <;> try exact zk h
    | rfl
    | fail)
theorem containsNil (F : FuncId) (caps : List DV) : KnownCall Try.prog 62 [.nilsl, .fn (.func F) [] caps] (.d (.bool false)) := by
  have c := indexNil F caps
  refine kF Try.func62 [] fun w => ?_
  repeat' (first
    | refine zW ?_
    | refine zB ?_ ?_ <;> intro h <;> try exact zk h
    | refine zC (c) ?_
    | rfl
    | fail)
theorem badS (t : Nat) (x : Int) : KnownCall Try.prog 63 [iI x, .ep [iI t]] (.d (.bool (decide (x < 0) || decide ((t : Int) ≤ x)))) := by
  refine kF Try.func63 [] fun w => ?_
  repeat' (first
    | refine zW ?_
    | refine zB ?_ ?_ <;> intro h <;> try exact zk h
    | (fail)
    | fail)
  · simp at h; simp [h]
  · simp at h; simp [h]
  · rename_i h1
    simp at h1 h
    simp
    omega
theorem cloneC (a : Int) (l : List Int) (hl : l.length ≤ 100000) : KnownCall Try.prog 64 [.sl 1 ((a :: l).map iI)] (.d (.sl 1 ((a :: l).map iI))) := by
  have w : Fz [] := trivial
  refine knownE2 Et_ok (fnB Try.func64 []) ?_
  repeat' (first
    | refine zW ?_
    | refine zB ?_ ?_ <;> intro h <;> try exact zk h
    | refine zAp ?_
    | (refine Run.ret ?_; refine r2 ?_; first | done | (exact .refl))
    | fail)
theorem drop9 {n : Nd} (h : n.x.length = 9) {e : Nat} {v : Int} (hv : n.x[e]? = some v) : ∃ R, AV.d (.ep (List.drop (((e : Nat) : Int).toNat * 1) (ndC n))) = .d (.ep (iI v :: R)) := by
  have he := (List.getElem?_eq_some_iff.1 hv).1
  refine ⟨List.drop (e + 1) (ndC n), ?_⟩
  congr 2
  simp only [Int.toNat_natCast, Nat.mul_one]
  have h1 : (ndC n)[e]? = some (iI v) := by
    unfold ndC
    rw [List.getElem?_append_left (by simp; omega), List.getElem?_map, hv]; rfl
  obtain ⟨h2, h3⟩ := List.getElem?_eq_some_iff.1 h1
  rw [List.drop_eq_getElem_cons h2, h3]
def goR (T : Trt) (es : List Nat) : Int × Int := match goT T.q 0 es with
  | none => (0, 24)
  | some n => if 0 ≤ T.v.getD n (-1) then (T.v.getD n (-1), 0) else (0, 24)
def chR (T : Trt) (k : Nat) (l : List Nat) (b : Bool) : Int × Int := if l.length < k ∧ b = false then (0, 5) else goR T (edgesT k (l.take k))
def RunJ (P : Program) (nt m : Nat) (ro' : Option Nat) (K : Ex → S → Prop) (S1 : S) : List Code → S → Prop
  | [], s => Tidy m s S1
  | c :: cs, s => Run P nt m ro' c s (fun e s1 => match e with | .normal => RunJ P nt m ro' K S1 cs s1 | e => K e s1)
def seqs : List Code → Code → Code
  | [], r => r
  | c :: cs, r => .seq c (seqs cs r)
theorem RunJ.run {P : Program} {nt m : Nat} {ro' : Option Nat} {K : Ex → S → Prop} {r : Code} (S1 : S) : ∀ (cs : List Code) {s : S}, RunJ P nt m ro' K S1 cs s → Run P nt m ro' r S1 K → Run P nt m ro' (seqs cs r) s K
  | [], _, h, h2 => Run.tidy h h2
  | c :: cs, _, h, h2 => Run.seq (Run.mono h fun e s1 h3 => by
    cases e with
    | normal => exact RunJ.run S1 cs h3 h2
    | _ => exact h3)
theorem cloneA (a : Int) (l : List Int) (hl : l.length ≤ 100000) : ACall Try.prog 64 [.d (.sl 1 ((a :: l).map iI))] [] (.sr 0 1 ((a :: l).map iI)) [.room (l.length + 1) 1] := by
  have w : Fz [] := trivial
  refine acallG_of_run Et_ok (fnB Try.func64 []) rfl rfl (by simp) (by rfl) rfl ?_
  have w : Fz [] := trivial
  have e1 : ((a :: l).map iI).length = l.length + 1 := by simp
  repeat refine zS ?_
  refine zX ?_
  repeat refine zS ?_
  iterate 2 refine zX ?_
  repeat refine zS ?_
  iterate 2 refine zX ?_
  refine zAp ?_
  refine zX ?_
  repeat refine zS ?_
  refine Run.ret ?_
  refine ⟨trivial, _, _, rfl, rfl, .refl, ?_⟩
  have h : ∀ x y : Nat, x = y → WkOb (.room x 1) (.room y 1) := fun x y e => e ▸ .refl
  exact ⟨h _ _ (by simp), trivial⟩
theorem flag9 {e : Nat} (h : e ≤ 8) : (inB (e : Int) 9 && Nat.ble ((e : Int).toNat * 1) 10) = true := by
  simp [inB, Nat.ble_eq]; omega
theorem goT_take {Q : TE} {W : List Nat} {j a e : Nat} (h : goT Q 0 (W.take j) = some a) (he : W[j]? = some e) : goT Q 0 (W.take (j + 1)) = if (a, e) ∈ Q then some (toT Q a e) else none := by
  rw [List.take_add_one, he]
  show goT Q 0 (W.take j ++ [e]) = _
  rw [goT_snoc, h]; rfl
theorem goT_stop {Q : TE} {W : List Nat} {j : Nat} (h : goT Q 0 (W.take j) = none) : goT Q 0 W = none := by
  conv => lhs; rw [← List.take_append_drop j W]
  rw [goT_app, h]; rfl
set_option maxHeartbeats 60000000 in
theorem chooseK3 (T : Trt) (hT : OkT T) (hl : (rowT T).length ≤ 1000) (m t : Nat) (h4 : m + 1 ≤ 4) (ht8 : t ≤ 8) (hcc : KnownCall Try.prog 21 [nI (m + 1), iI t, iI 24, trD (rowT T)] (.d (iI 0))) (ld : DV) (l : List Nat) (hld : (ld = .nilsl ∧ l = []) ∨ (∃ a l', l = a :: l' ∧ ld = .sl 1 ((a :: l').map nI)) ∨ (ld = .sl 1 [] ∧ l = [])) (hlt : ∀ u ∈ l, u < t) (hln : l.length ≤ 1000) (b : Bool) :
    KnownCall Try.prog 23 [nI (m + 1), iI t, trD (rowT T), ld, .bool b] (.tup [.d (iI (chR T (m + 1) l b).1), .d (iI (chR T (m + 1) l b).2)]) := by
  have hnl : ((rowT T).map nd).length = T.q.length + 1 := by simp [rowT_len]
  rw [rowT_len] at hl
  have hcf2 : KnownCall Try.prog 62 [ld, .fn (.func 63) [] [.ep [iI t]]] (.d (.bool false)) := by
    rcases hld with ⟨rfl, rfl⟩ | ⟨a, l', rfl, rfl⟩ | ⟨rfl, rfl⟩
    · exact containsNil _ _
    rotate_left
    · exact containsFuncInts [] (by simp) _ [.ep [iI t]] (fun _ => false) (by simp)
    · have hcf := containsFuncInts ((a :: l').map fun (u : Nat) => (u : Int)) (by simp; simp at hln; omega) 63 [.ep [iI t]] (fun x => decide (x < 0) || decide ((t : Int) ≤ x)) (fun x _ => badS t x)
      have hany : ((a :: l').map fun (u : Nat) => (u : Int)).any (fun x => decide (x < 0) || decide ((t : Int) ≤ x)) = false := by
        rw [List.any_eq_false]
        intro x hx
        obtain ⟨u, hu, rfl⟩ := List.mem_map.1 hx
        have := hlt u hu
        simp
        omega
      rw [hany, List.map_map] at hcf
      exact hcf
  by_cases hsh : l.length < m + 1 ∧ b = false
  · obtain ⟨hsh, rfl⟩ := hsh
    rw [show chR T (m + 1) l false = (0, 5) from by unfold chR; rw [if_pos ⟨hsh, rfl⟩]]
    rcases hld with ⟨rfl, rfl⟩ | ⟨a, l', rfl, rfl⟩ | ⟨rfl, rfl⟩
    · refine kF Try.func23 [6, 7, 48] fun w => ?_
      repeat' (first
        | refine zW ?_
        | refine zB ?_ ?_ <;> intro h <;> try exact zk h
        | refine zX ?_
        | refine zC (hcc) ?_
        | refine zC (hcf2) ?_
        | rfl
        | ((exfalso; simp only [List.length_cons, List.length_map, List.length_nil, decide_eq_true_eq, decide_eq_false_iff_not] at *; omega))
        | fail)
    · refine kF Try.func23 [6, 7, 48] fun w => ?_
      repeat' (first
        | refine zW ?_
        | refine zB ?_ ?_ <;> intro h <;> try exact zk h
        | refine zX ?_
        | refine zC (hcc) ?_
        | refine zC (hcf2) ?_
        | rfl
        | ((exfalso; simp only [List.length_cons, List.length_map, List.length_nil, decide_eq_true_eq, decide_eq_false_iff_not] at *; omega))
        | fail)
    · refine kF Try.func23 [6, 7, 48] fun w => ?_
      repeat' (first
        | refine zW ?_
        | refine zB ?_ ?_ <;> intro h <;> try exact zk h
        | refine zX ?_
        | refine zC (hcc) ?_
        | refine zC (hcf2) ?_
        | rfl
        | ((exfalso; simp only [List.length_cons, List.length_map, List.length_nil, decide_eq_true_eq, decide_eq_false_iff_not] at *; omega))
        | fail)
  · obtain ⟨W, hW⟩ : ∃ W, W = edgesT (m + 1) (l.take (m + 1)) := ⟨_, rfl⟩
    rw [show chR T (m + 1) l b = goR T W from by unfold chR; rw [if_neg hsh, hW]]
    have hW8 : ∀ e ∈ W, e ≤ 8 := by
      rw [hW]
      exact edges8 fun e he => by have := hlt e (List.mem_of_mem_take he); omega
    have hWl : W.length ≤ 4 := by
      rw [hW]
      unfold edgesT
      split
      · rename_i hh; rw [List.length_append, List.length_cons, List.length_nil]; omega
      · rw [List.length_take]; omega
    refine kF Try.func23 [6, 7, 48] fun w => ?_
    have w : Fz [6, 7, 48] := trivial
    refine RunJ.run ⟨PT.ofList [(7, .d (.ep [.sl 10 ((rowT T).map nd)])), (13, .d (.sl 1 (W.map nI)))], [], []⟩ [_, _, _, _, _, _] ?_ ?_
    · rcases hld with ⟨rfl, rfl⟩ | ⟨a, l', rfl, rfl⟩ | ⟨rfl, rfl⟩
      rotate_right
      focus
        have hbt : b = true := by
          cases b with
          | true => rfl
          | false => exact absurd ⟨by simp, rfl⟩ hsh
        subst hbt
        have hWe : W = [8] := by rw [hW]; unfold edgesT; simp
        have hmin : AV.d (.int .i64 (if ((m + 1 : Nat) : Int) < ((([] : List DV).length : Nat) : Int) then ((m + 1 : Nat) : Int) else ((([] : List DV).length : Nat) : Int))) = .d (nI 0) := by
          rw [if_neg (by simp; omega)]; rfl
        have hcut : AV.d (.sl 1 (cutL none (some ((0 : Nat) : Int)) [])) = .d (.sl 1 []) := rfl
        repeat' (first
          | refine zV hmin ?_
          | refine zW ?_
          | refine zB ?_ ?_ <;> intro h <;> try exact zk h
          | refine zX ?_
          | refine zC (hcc) ?_
          | refine zC (hcf2) ?_
          | refine zCut hcut ?_
          | refine oA cloneE ?_
          | refine zAp ?_
          | ((exfalso; simp only [List.length_cons, List.length_map, List.length_nil, decide_eq_true_eq, decide_eq_false_iff_not] at *; omega))
          | fail)
        exact (ti [(7, .d (.ep [.sl 10 ((rowT T).map nd)])), (13, .d (.sl 1 (W.map nI)))] 0 (h := ⟨.inl rfl, .inr (by rw [hWe]; rfl), trivial⟩))
      focus
        have hbt : b = true := by
          cases b with
          | true => rfl
          | false => exact absurd ⟨by simp, rfl⟩ hsh
        subst hbt
        have hWe : W = [8] := by rw [hW]; unfold edgesT; simp
        have hcl : KnownCall Try.prog 64 [.nilsl] (.d .nilsl) := by
          refine kF Try.func64 [6, 7, 48] fun w => ?_
          repeat' (first
            | refine zW ?_
            | refine zB ?_ ?_ <;> intro h <;> try exact zk h
            | refine zX ?_
            | rfl
            | fail)
        repeat' (first
          | refine zW ?_
          | refine zB ?_ ?_ <;> intro h <;> try exact zk h
          | refine zX ?_
          | refine zC (hcc) ?_
          | refine zC (hcf2) ?_
          | refine zC (hcl) ?_
          | refine zAp ?_
          | ((exfalso; simp only [List.length_cons, List.length_map, List.length_nil, decide_eq_true_eq, decide_eq_false_iff_not] at *; omega))
          | fail)
        exact (ti [(7, .d (.ep [.sl 10 ((rowT T).map nd)])), (13, .d (.sl 1 (W.map nI)))] 0 (h := ⟨.inl rfl, .inr (by rw [hWe]; rfl), trivial⟩))
      focus
        by_cases hk : l'.length + 1 < m + 1
        focus
          have hbt : b = true := by
            cases b with
            | true => rfl
            | false => exact absurd ⟨by simpa using hk, rfl⟩ hsh
          subst hbt
          have hWe : W = (a :: l') ++ [8] := by
            rw [hW, List.take_of_length_le (by simp; omega)]
            unfold edgesT
            rw [if_pos (by simpa using hk)]
          have hA : ACall Try.prog 64 [.d (.sl 1 ((a :: l').map nI))] [] (.sr 0 1 ((a :: l').map nI)) [.room (l'.length + 1) 1] := by
            have := cloneA a (l'.map fun (u : Nat) => (u : Int)) (by simp; simp at hln; omega)
            simpa [List.map_map, Function.comp_def] using this
          have hll : ((a :: l').map nI).length = l'.length + 1 := by simp
          have hmin : AV.d (.int .i64 (if ((m + 1 : Nat) : Int) < ((((a :: l').map nI).length : Nat) : Int) then ((m + 1 : Nat) : Int) else ((((a :: l').map nI).length : Nat) : Int))) = .d (nI (l'.length + 1)) := by
            rw [hll, if_neg (by omega)]
          have hcut : AV.d (.sl 1 (cutL none (some ((l'.length + 1 : Nat) : Int)) ((a :: l').map nI))) = .d (.sl 1 ((a :: l').map nI)) := by
            simp only [cutL, Int.toNat_natCast]
            rw [List.take_of_length_le (by rw [hll]; exact Nat.le_refl _)]
          repeat' (first
            | refine zV hmin ?_
            | refine zW ?_
            | refine zB ?_ ?_ <;> intro h <;> try exact zk h
            | refine zX ?_
            | refine zC (hcc) ?_
            | refine zC (hcf2) ?_
            | refine zCut hcut ?_
            | refine oA hA ?_
            | refine zAp ?_
            | ((exfalso; simp only [List.length_cons, List.length_map, List.length_nil, decide_eq_true_eq, decide_eq_false_iff_not] at *; omega))
            | fail)
          have hlen2 : ((a :: l') ++ [8]).length = (((a :: l').map nI) ++ [nI 8]).length := by simp
          exact (ti [(7, .d (.ep [.sl 10 ((rowT T).map nd)])), (13, .d (.sl 1 (W.map nI)))] 0 (h := ⟨.inl rfl, .inr (by rw [hWe, List.map_append]; rfl), trivial⟩))
        focus
          have hWe : W = a :: l'.take m := by
            rw [hW, List.take_succ_cons]
            unfold edgesT
            rw [if_neg (by simp; omega)]
          have hC : KnownCall Try.prog 64 [.sl 1 ((a :: l'.take m).map nI)] (.d (.sl 1 ((a :: l'.take m).map nI))) := by
            have := cloneC a ((l'.take m).map fun (u : Nat) => (u : Int)) (by simp; simp at hln; omega)
            simpa [List.map_map, Function.comp_def] using this
          have hll : ((a :: l').map nI).length = l'.length + 1 := by simp
          have hmin : AV.d (.int .i64 (if ((m + 1 : Nat) : Int) < ((((a :: l').map nI).length : Nat) : Int) then ((m + 1 : Nat) : Int) else ((((a :: l').map nI).length : Nat) : Int))) = .d (nI (m + 1)) := by
            rw [hll]
            by_cases h : ((m + 1 : Nat) : Int) < ((l'.length + 1 : Nat) : Int)
            · rw [if_pos h]
            · rw [if_neg h]; congr 2; omega
          have hcut : AV.d (.sl 1 (cutL none (some ((m + 1 : Nat) : Int)) ((a :: l').map nI))) = .d (.sl 1 ((a :: l'.take m).map nI)) := by
            simp only [cutL, Int.toNat_natCast]
            rw [← List.map_take, List.take_succ_cons]
          repeat' (first
            | refine zV hmin ?_
            | refine zW ?_
            | refine zB ?_ ?_ <;> intro h <;> try exact zk h
            | refine zX ?_
            | refine zC (hcc) ?_
            | refine zC (hcf2) ?_
            | refine zCut hcut ?_
            | refine zC (hC) ?_
            | refine zAp ?_
            | ((exfalso; simp only [List.length_cons, List.length_map, List.length_nil, decide_eq_true_eq, decide_eq_false_iff_not] at *; omega))
            | fail)
          exact (ti [(7, .d (.ep [.sl 10 ((rowT T).map nd)])), (13, .d (.sl 1 (W.map nI)))] 0 (h := ⟨.inl rfl, .inl (by rw [hWe]; rfl), trivial⟩))
    clear hcc hcf2 hld
    have hWm : (W.map nI).length = W.length := by simp
    repeat' (first
      | refine zW ?_
      | refine zB ?_ ?_ <;> intro h <;> try exact zk h
      | refine zX ?_
      | (fail)
      | fail)
    refine Run.loopT (fun x : Nat × Nat => ⟨PT.ofList [(7, .d (.ep [.sl 10 ((rowT T).map nd)])), (14, .d (nI x.2)), (50, .d (.sl 1 (W.map nI))), (51, .d (nI (W.map nI).length)), (52, .d (nI x.1))], [], []⟩) (fun x => x.1 ≤ W.length ∧ goT T.q 0 (W.take x.1) = some x.2) (fun x => W.length - x.1) (0, 0) ⟨Nat.zero_le _, rfl⟩ (ti _ 0) (fun ⟨j, n0⟩ ⟨hj, hg⟩ => ?_)
    simp only at hj hg
    have hn0 := goT_le (Nat.zero_le _) hg
    have hN := rowT_get (T := T) hn0
    have hrl := rowT_len T
    have h9 : (ndT T n0).x.length = 9 := by simp [ndT]
    have hp : (ndT T n0).p = T.v.getD n0 (-1) := rfl
    rcases Nat.lt_or_ge j W.length with hjl | hjg
    · obtain ⟨e, he⟩ := get_ok hjl
      have he8 := hW8 e (List.mem_of_getElem? he)
      have hx := ndT_x (T := T) (a := n0) (show e < 9 by omega)
      have hgt := goT_take hg he
      generalize ndT T n0 = nn at *
      obtain ⟨nx, np⟩ := nn
      obtain ⟨R, hR⟩ := drop9 (n := ⟨nx, np⟩) h9 hx
      obtain ⟨a0, a1, a2, a3, a4, a5, a6, a7, a8, rfl⟩ := nine h9
      by_cases hin : (n0, e) ∈ T.q
      · rw [if_pos hin] at hgt
        have hne := toT_ne.2 hin
        generalize toT T.q n0 e = v at *
        repeat' (first
          | refine zW ?_
          | refine zB ?_ ?_ <;> intro h <;> try exact zk h
          | refine zX ?_
          | refine zI w (.d (.ep [nI e])) he ?_
          | refine zI w (.d (.ep (ndC ⟨[a0, a1, a2, a3, a4, a5, a6, a7, a8], np⟩))) hN ?_
          | refine oCw w hR ?_ (hf := flag9 (by omega))
          | (exact ⟨(j + 1, v), ⟨by omega, hgt⟩, by simp only; omega, (ti _ 0)⟩)
          | ((exfalso; simp only [decide_eq_true_eq, decide_eq_false_iff_not, beq_iff_eq, beq_eq_false_iff_ne, ne_eq, ge_iff_le] at *; omega))
          | fail)
      · rw [if_neg hin] at hgt
        rw [show goR T W = (0, 24) from by unfold goR; rw [goT_stop hgt]]
        rw [toT_not hin] at hx hR
        repeat' (first
          | refine zW ?_
          | refine zB ?_ ?_ <;> intro h <;> try exact zk h
          | refine zX ?_
          | refine zI w (.d (.ep [nI e])) he ?_
          | refine zI w (.d (.ep (ndC ⟨[a0, a1, a2, a3, a4, a5, a6, a7, a8], np⟩))) hN ?_
          | refine oCw w hR ?_ (hf := flag9 (by omega))
          | rfl
          | ((exfalso; simp only [decide_eq_true_eq, decide_eq_false_iff_not, beq_iff_eq, beq_eq_false_iff_ne, ne_eq, ge_iff_le] at *; omega))
          | fail)
    · have hje : j = W.length := by omega
      subst hje
      rw [List.take_length] at hg
      rw [show goR T W = if 0 ≤ T.v.getD n0 (-1) then (T.v.getD n0 (-1), 0) else (0, 24) from by unfold goR; rw [hg]]
      rw [← hp]
      generalize ndT T n0 = nn at *
      obtain ⟨nx, np⟩ := nn
      obtain ⟨a0, a1, a2, a3, a4, a5, a6, a7, a8, rfl⟩ := nine h9
      clear hp
      by_cases hnp : 0 ≤ np
      · rw [if_pos hnp]
        repeat' (first
          | refine zW ?_
          | refine zB ?_ ?_ <;> intro h <;> try exact zk h
          | refine zX ?_
          | refine zI w (.d (.ep (ndC ⟨[a0, a1, a2, a3, a4, a5, a6, a7, a8], np⟩))) hN ?_
          | rfl
          | ((exfalso; simp only [decide_eq_true_eq, decide_eq_false_iff_not, beq_iff_eq, beq_eq_false_iff_ne, ne_eq, ge_iff_le] at *; omega))
          | fail)
      · rw [if_neg hnp]
        repeat' (first
          | refine zW ?_
          | refine zB ?_ ?_ <;> intro h <;> try exact zk h
          | refine zX ?_
          | refine zI w (.d (.ep (ndC ⟨[a0, a1, a2, a3, a4, a5, a6, a7, a8], np⟩))) hN ?_
          | rfl
          | ((exfalso; simp only [decide_eq_true_eq, decide_eq_false_iff_not, beq_iff_eq, beq_eq_false_iff_ne, ne_eq, ge_iff_le] at *; omega))
          | fail)
def entV : Option (List (List Nat × Int) × Nat) → AV
  | some r => .tup [.d (.sl 6 (r.1.map lf)), .d (nI r.2), .d (.bool true)]
  | none => .tup [.d .nilsl, .d (nI 0), .d (.bool false)]
theorem entriesN (N : List Nd) (i : Int) (x : List Nat) (l : Nat) (h : nodeAt N i = none ∨ l = 0) : KnownCall Try.prog 96 [trD N, iI i, lk x, nI l] (entV none) := by
  have hnl : (N.map nd).length = N.length := by simp
  have h' : (i < 0 ∨ (N.length : Int) ≤ i) ∨ l = 0 := h.imp nodeAt_none id
  refine kF Try.func96 [4, 6] fun w => ?_
  repeat' (first
    | refine zW ?_
    | refine zB ?_ ?_ <;> intro h <;> try exact zk h
    | refine zX ?_
    | rfl
    | ((exfalso; simp only [List.length_map, decide_eq_true_eq, decide_eq_false_iff_not, ge_iff_le] at *; omega))
    | fail)
theorem ord9_le : ∀ o ∈ ord9, o ≤ 8 := by decide
theorem entS_cond {x : List Nat} {o : Nat} (h : ¬ (o < 8 ∧ x.length = 4)) (hx : x.length ≤ 4) (ho : o < 8) : x.length ≤ 3 := by
  have : x.length ≠ 4 := fun e => h ⟨ho, e⟩
  omega
set_option maxHeartbeats 8000000 in
theorem entriesS (N : List Nd) (h9 : N9 N) (hl : N.length ≤ 1000) (f : Nat) (hf : f ≤ 1000) (ih : ∀ (l : Nat) (i : Int) (x : List Nat), l ≤ f → x.length ≤ 4 → KnownCall Try.prog 96 [trD N, iI i, lk x, nI l] (entV (entF N f i x l)))
    (l : Nat) (hlf : l ≤ f) (j : Nat) (n : Nd) (hj : N[j]? = some n) (x : List Nat) (hx : x.length ≤ 4) (R : Option (List (List Nat × Int) × Nat)) (hR : entL (entF N f) n x ord9 (own0 n x) l = R) :
    KnownCall Try.prog 96 [trD N, nI j, lk x, nI (l + 1)] (entV R) := by
  have hnl : (N.map nd).length = N.length := by simp
  have hjl := (List.getElem?_eq_some_iff.1 hj).1
  have h9n := h9 n (List.mem_of_getElem? hj)
  obtain ⟨nx, np⟩ := n
  have hsub : AV.d (.int .i64 (IntKind.i64.wrap (((l + 1 : Nat) : Int) - 1))) = .d (nI l) := by
    congr 2
    rw [show ((l + 1 : Nat) : Int) - 1 = ((l : Nat) : Int) by omega]; exact wrap_nat (by omega)
  obtain ⟨W, hW⟩ : ∃ W, W = ord9 := ⟨_, rfl⟩
  obtain ⟨O0, hO0⟩ : ∃ O0, O0 = own0 ⟨nx, np⟩ x := ⟨_, rfl⟩
  rw [← hW, ← hO0] at hR
  have hO1 : O0.length ≤ 1 := by rw [hO0]; exact own0_le _ _
  have hO2 : (O0 = [] ∧ np = -1) ∨ (O0 = [(x, np)] ∧ np ≠ -1) := by
    by_cases h : np = -1
    · exact .inl ⟨by rw [hO0, own0, if_pos h], h⟩
    · exact .inr ⟨by rw [hO0, own0, if_neg h], h⟩
  clear hO0
  have hWl : W.length = 9 := by rw [hW]; rfl
  have hW8 : ∀ o ∈ W, o ≤ 8 := by rw [hW]; exact ord9_le
  refine kF Try.func96 [4, 6] fun w => ?_
  have w : Fz [4, 6] := trivial
  obtain ⟨a0, a1, a2, a3, a4, a5, a6, a7, a8, rfl⟩ := nine h9n
  refine RunJ.run ⟨PT.ofList [(3, .d (nI l)), (4, .d (.ep [.sl 10 (N.map nd)])), (6, .d (.ep (lkC x))), (11, .sr 0 6 (O0.map lf)), (12, .d (.ep (ndC ⟨[a0, a1, a2, a3, a4, a5, a6, a7, a8], np⟩)))], [.room (O0.map lf).length 6], []⟩ [_, _, _, _, _, _] ?_ ?_
  · repeat refine zS ?_
    iterate 5 refine zX ?_
    repeat refine zS ?_
    refine zX ?_
    refine zV (show AV.d (.bool (decide (((j : Nat) : Int) < 0))) = .d (.bool false) by congr 2) ?_
    iterate 5 refine zX ?_
    refine zV (show AV.d (.bool (decide (((j : Nat) : Int) ≥ (((N.map nd).length : Nat) : Int)))) = .d (.bool false) by congr 2; simp; omega) ?_
    iterate 3 refine zX ?_
    refine zV (show AV.d (.bool (decide (((l + 1 : Nat) : Int) ≤ 0))) = .d (.bool false) by congr 2) ?_
    refine zX ?_
    repeat refine zS ?_
    refine zX ?_
    refine RunOps.nil ?_
    refine Run.mkRoom 11 6 [(1, .d (nI j)), (3, .d (nI (l + 1))), (4, .d (.ep [.sl 10 (N.map nd)])), (6, .d (.ep (lkC x))), (11, .sr 0 6 [])] (by kernel_rfl) (ofList_cases (by intro p hp; simp only [List.mem_cons, List.not_mem_nil, or_false] at hp; rcases hp with rfl | rfl | rfl | rfl | rfl <;> first | exact .inl ⟨rfl, rfl⟩ | exact .inr (by kernel_rfl))) ?_
    repeat refine zS ?_
    refine zX ?_
    refine zV hsub ?_
    refine zX ?_
    repeat refine zS ?_
    iterate 3 refine zX ?_
    refine zI w (.d (.ep (ndC ⟨[a0, a1, a2, a3, a4, a5, a6, a7, a8], np⟩))) hj ?_
    iterate 3 refine zX ?_
    refine RunOps.nil ?_
    refine Run.dropLastD (O := [.room 0 6]) (ds := ndC ⟨[a0, a1, a2, a3, a4, a5, a6, a7, a8], np⟩) [(3, .d (nI l)), (4, .d (.ep [.sl 10 (N.map nd)])), (6, .d (.ep (lkC x))), (11, .sr 0 6 []), (12, .d (.ep (ndC ⟨[a0, a1, a2, a3, a4, a5, a6, a7, a8], np⟩)))] ?_ (by simp) rfl rfl (ofList_cases (by intro q hq; simp only [List.mem_cons, List.not_mem_nil, or_false] at hq; rcases hq with rfl | rfl | rfl | rfl | rfl; exact .inl (by kernel_rfl); exact .inl (by kernel_rfl); exact .inl (by kernel_rfl); exact .inl (by kernel_rfl); exact .inr ⟨0, Nat.zero_le _, by kernel_rfl, rfl⟩)) ⟨rfl, rfl, rfl, rfl, rfl, trivial⟩
    rcases hO2 with ⟨rfl, hp⟩ | ⟨rfl, hp⟩
    · repeat' (first
        | refine zW ?_
        | refine zB ?_ ?_ <;> intro h <;> try exact zk h
        | refine zX ?_
        | ((exfalso; simp [hp] at h <;> fail))
        | fail)
      refine (id ?_ : Tidy 0 _ _)
      exact (ti [(3, .d (nI l)), (4, .d (.ep [.sl 10 (N.map nd)])), (6, .d (.ep (lkC x))), (11, .sr 0 6 []), (12, .d (.ep (ndC ⟨[a0, a1, a2, a3, a4, a5, a6, a7, a8], np⟩)))] 1)
    · repeat' (first
        | refine zW ?_
        | refine zB ?_ ?_ <;> intro h <;> try exact zk h
        | refine zX ?_
        | refine zAp ?_
        | ((exfalso; simp [hp] at h <;> fail))
        | fail)
      refine (id ?_ : Tidy 0 _ _)
      exact (ti [(3, .d (nI l)), (4, .d (.ep [.sl 10 (N.map nd)])), (6, .d (.ep (lkC x))), (11, .sr 0 6 [lf (x, np)]), (12, .d (.ep (ndC ⟨[a0, a1, a2, a3, a4, a5, a6, a7, a8], np⟩)))] 1)
  · clear hO2 hsub hj
    repeat' (first
      | refine zW ?_
      | refine zB ?_ ?_ <;> intro h <;> try exact zk h
      | refine zX ?_
      | refine zAp ?_
      | (fail)
      | fail)
    refine Run.loopT (fun y : Nat × List (List Nat × Int) × Nat => ⟨PT.ofList [(3, .d (nI y.2.2)), (4, .d (.ep [.sl 10 (N.map nd)])), (6, .d (.ep (lkC x))), (11, .sr 0 6 (y.2.1.map lf)), (12, .d (.ep (ndC ⟨[a0, a1, a2, a3, a4, a5, a6, a7, a8], np⟩))), (13, .d (.sl 1 (W.map nI))), (14, .d (nI y.1))], [.room (y.2.1.map lf).length 6], []⟩)
      (fun y => y.1 ≤ 9 ∧ y.2.1.length + y.2.2 ≤ 1001 ∧ y.2.2 ≤ f ∧ entL (entF N f) ⟨[a0, a1, a2, a3, a4, a5, a6, a7, a8], np⟩ x (W.drop y.1) y.2.1 y.2.2 = R) (fun y => 9 - y.1) (0, O0, l) ⟨by omega, by simp only; omega, hlf, hR⟩ (ti _ 1 (h := ⟨.inl rfl, .inl rfl, .inl rfl, .inl rfl, .inl rfl, .inr (by rw [hW]; rfl), .inl rfl, trivial⟩)) (fun ⟨i, out, left⟩ ⟨hi, hol, hlf2, hR2⟩ => ?_)
    simp only at hi hol hlf2 hR2
    clear hR hlf hO1
    rcases Nat.lt_or_ge i 9 with hi9 | hi9
    · obtain ⟨o, ho⟩ := get_ok (show i < W.length by omega)
      have ho8 := hW8 o (List.mem_of_getElem? ho)
      have hdr : W.drop i = o :: W.drop (i + 1) := by
        rw [List.drop_eq_getElem_cons (show i < W.length by omega), (List.getElem?_eq_some_iff.1 ho).2]
      rw [hdr] at hR2
      unfold entL at hR2
      obtain ⟨v, hv⟩ := get_ok (l := [a0, a1, a2, a3, a4, a5, a6, a7, a8]) (show o < _ by simp; omega)
      have hvd : [a0, a1, a2, a3, a4, a5, a6, a7, a8].getD o 0 = v := by rw [List.getD_eq_getElem?_getD, hv]; rfl
      simp only [hvd] at hR2
      obtain ⟨V, hV⟩ := drop9 (n := ⟨[a0, a1, a2, a3, a4, a5, a6, a7, a8], np⟩) rfl hv
      have hWm : (W.map nI).length = 9 := by simp [hWl]
      by_cases hv0 : v = 0
      · rw [if_pos hv0] at hR2
        repeat' (first
          | refine zW ?_
          | refine zB ?_ ?_ <;> intro h <;> try exact zk h
          | refine zX ?_
          | refine zI w (.d (.ep [nI o])) ho ?_
          | refine oCw w hV ?_ (hf := flag9 (by omega))
          | (exact ⟨(i + 1, out, left), ⟨by omega, hol, hlf2, hR2⟩, by simp only; omega, (ti _ 1)⟩)
          | ((exfalso; first | (simp [hWm] at h <;> omega) | omega))
          | fail)
      · rw [if_neg hv0] at hR2
        by_cases hc : o < 8 ∧ x.length = 4
        · rw [if_pos hc] at hR2
          subst hR2
          repeat' (first
            | refine zW ?_
            | refine zB ?_ ?_ <;> intro h <;> try exact zk h
            | refine zX ?_
            | refine zI w (.d (.ep [nI o])) ho ?_
            | refine oCw w hV ?_ (hf := flag9 (by omega))
            | rfl
            | ((exfalso; first | (simp [hWm] at h <;> omega) | omega))
            | fail)
        · rw [if_neg hc] at hR2
          obtain ⟨y, hy⟩ : ∃ y, y = if o < 8 then x ++ [o] else x := ⟨_, rfl⟩
          rw [← hy] at hR2
          have hyl : y.length ≤ 4 := by
            rw [hy]
            split
            · have := entS_cond hc hx ‹_›
              simp; omega
            · exact hx
          have c := ih left v y hlf2 hyl
          repeat refine zS ?_
          iterate 3 refine zX ?_
          refine zV (lt_true (show i < (W.map nI).length by rw [hWm]; exact hi9)) ?_
          repeat refine zS ?_
          iterate 2 refine zX ?_
          refine zI w (.d (.ep [nI o])) ho ?_
          iterate 2 refine zX ?_
          refine oCw w hV ?_ (hf := flag9 (by omega))
          iterate 2 refine zX ?_
          repeat refine zS ?_
          refine zX ?_
          refine zV (show AV.d (.bool (v == 0)) = .d (.bool false) by simp [hv0]) ?_
          iterate 3 refine zS ?_
          refine RunJ.run ⟨PT.ofList [(3, .d (nI left)), (4, .d (.ep [.sl 10 (N.map nd)])), (6, .d (.ep (lkC x))), (11, .sr 0 6 (out.map lf)), (12, .d (.ep (ndC ⟨[a0, a1, a2, a3, a4, a5, a6, a7, a8], np⟩))), (13, .d (.sl 1 (W.map nI))), (14, .d (nI i)), (15, .d (iI v)), (16, .bp 1 0)], [.room (out.map lf).length 6, .box ((lkC y).map .d)], []⟩ [_, _] ?_ ?_
          · clear c hR2 hyl ih
            by_cases ho7 : o < 8
            · rw [if_pos ho7] at hy
              have hx3 := entS_cond hc hx ho7
              clear hc hx
              subst hy
              rcases x with _ | ⟨b0, x⟩
              focus
                repeat' (first
                  | refine zW ?_
                  | refine zB ?_ ?_ <;> intro h <;> try exact zk h
                  | refine zX ?_
                  | refine zI w (.d (.ep [nI o])) ho ?_
                  | ((exfalso; first | (simp at h <;> omega) | omega))
                  | fail)
                refine (id ?_ : Tidy 0 _ _)
                exact (ti [(3, .d (nI left)), (4, .d (.ep [.sl 10 (N.map nd)])), (6, .d (.ep (lkC []))), (11, .sr 0 6 (out.map lf)), (12, .d (.ep (ndC ⟨[a0, a1, a2, a3, a4, a5, a6, a7, a8], np⟩))), (13, .d (.sl 1 (W.map nI))), (14, .d (nI i)), (15, .d (iI v)), (16, .bp 1 0)] 2)
              rcases x with _ | ⟨b1, x⟩
              focus
                repeat' (first
                  | refine zW ?_
                  | refine zB ?_ ?_ <;> intro h <;> try exact zk h
                  | refine zX ?_
                  | refine zI w (.d (.ep [nI o])) ho ?_
                  | ((exfalso; first | (simp at h <;> omega) | omega))
                  | fail)
                refine (id ?_ : Tidy 0 _ _)
                exact (ti [(3, .d (nI left)), (4, .d (.ep [.sl 10 (N.map nd)])), (6, .d (.ep (lkC [b0]))), (11, .sr 0 6 (out.map lf)), (12, .d (.ep (ndC ⟨[a0, a1, a2, a3, a4, a5, a6, a7, a8], np⟩))), (13, .d (.sl 1 (W.map nI))), (14, .d (nI i)), (15, .d (iI v)), (16, .bp 1 0)] 2)
              rcases x with _ | ⟨b2, x⟩
              focus
                repeat' (first
                  | refine zW ?_
                  | refine zB ?_ ?_ <;> intro h <;> try exact zk h
                  | refine zX ?_
                  | refine zI w (.d (.ep [nI o])) ho ?_
                  | ((exfalso; first | (simp at h <;> omega) | omega))
                  | fail)
                refine (id ?_ : Tidy 0 _ _)
                exact (ti [(3, .d (nI left)), (4, .d (.ep [.sl 10 (N.map nd)])), (6, .d (.ep (lkC [b0, b1]))), (11, .sr 0 6 (out.map lf)), (12, .d (.ep (ndC ⟨[a0, a1, a2, a3, a4, a5, a6, a7, a8], np⟩))), (13, .d (.sl 1 (W.map nI))), (14, .d (nI i)), (15, .d (iI v)), (16, .bp 1 0)] 2)
              rcases x with _ | ⟨b3, x⟩
              focus
                repeat' (first
                  | refine zW ?_
                  | refine zB ?_ ?_ <;> intro h <;> try exact zk h
                  | refine zX ?_
                  | refine zI w (.d (.ep [nI o])) ho ?_
                  | ((exfalso; first | (simp at h <;> omega) | omega))
                  | fail)
                refine (id ?_ : Tidy 0 _ _)
                exact (ti [(3, .d (nI left)), (4, .d (.ep [.sl 10 (N.map nd)])), (6, .d (.ep (lkC [b0, b1, b2]))), (11, .sr 0 6 (out.map lf)), (12, .d (.ep (ndC ⟨[a0, a1, a2, a3, a4, a5, a6, a7, a8], np⟩))), (13, .d (.sl 1 (W.map nI))), (14, .d (nI i)), (15, .d (iI v)), (16, .bp 1 0)] 2)
              exfalso
              simp at hx3
            · rw [if_neg ho7] at hy
              subst hy
              repeat' (first
                | refine zW ?_
                | refine zB ?_ ?_ <;> intro h <;> try exact zk h
                | refine zX ?_
                | refine zI w (.d (.ep [nI o])) ho ?_
                | ((exfalso; first | (simp at h <;> omega) | omega))
                | fail)
              refine (id ?_ : Tidy 0 _ _)
              exact (ti [(3, .d (nI left)), (4, .d (.ep [.sl 10 (N.map nd)])), (6, .d (.ep (lkC y))), (11, .sr 0 6 (out.map lf)), (12, .d (.ep (ndC ⟨[a0, a1, a2, a3, a4, a5, a6, a7, a8], np⟩))), (13, .d (.sl 1 (W.map nI))), (14, .d (nI i)), (15, .d (iI v)), (16, .bp 1 0)] 2)
          · cases hE : entF N f v y left with
            | none =>
              rw [hE] at c hR2
              simp only at hR2
              subst hR2
              unfold entV at c
              repeat' (first
                | refine zW ?_
                | refine zB ?_ ?_ <;> intro h <;> try exact zk h
                | refine zX ?_
                | refine zC (c) ?_
                | rfl
                | (fail)
                | fail)
            | some r =>
              rw [hE] at c hR2
              have hle := entF_le hE
              simp only at hR2
              unfold entV at c
              repeat' (first
                | refine zW ?_
                | refine zB ?_ ?_ <;> intro h <;> try exact zk h
                | refine zX ?_
                | refine zC (c) ?_
                | refine zAp ?_
                | (exact ⟨(i + 1, out ++ r.1, r.2), ⟨by omega, by simp only [List.length_append]; omega, by simp only; omega, hR2⟩, by simp only; omega, (ti _ 1 (ho := Eq.trans (b := [.room ((out.map lf).length + (r.1.map lf).length) 6]) rfl (by simp)) (h := ⟨.inl rfl, .inl rfl, .inl rfl, .inl (Eq.trans (b := some (.sr 0 6 (out.map lf ++ r.1.map lf))) rfl (by rw [List.map_append])), .inl rfl, .inl rfl, .inl (inc_get rfl (by omega)), trivial⟩))⟩)
                | fail)
    · have hi9 : i = 9 := by omega
      subst hi9
      rw [List.drop_of_length_le (by omega)] at hR2
      unfold entL at hR2
      subst hR2
      have hWm : (W.map nI).length = 9 := by simp [hWl]
      repeat' (first
        | refine zW ?_
        | refine zB ?_ ?_ <;> intro h <;> try exact zk h
        | refine zX ?_
        | rfl
        | ((exfalso; simp [hWm] at h <;> fail))
        | fail)
def rfS (E : List (List Nat × Int)) (n : Nat) : List (List (List Nat)) := ((List.range n).filter (keepP E)).map fun q => grp E q
def rfP (E : List (List Nat × Int)) (n : Nat) : List Int := ((List.range n).filter (keepP E)).map fun (q : Nat) => (q : Int)
theorem rfS_succ {E : List (List Nat × Int)} {n : Nat} : rfS E (n + 1) = if keepP E n = true then rfS E n ++ [grp E n] else rfS E n := by
  unfold rfS
  rw [List.range_succ, List.filter_append, List.map_append]
  by_cases h : keepP E n = true
  · rw [if_pos h]; simp [h]
  · rw [if_neg h]; simp [h]
theorem rfP_succ {E : List (List Nat × Int)} {n : Nat} : rfP E (n + 1) = if keepP E n = true then rfP E n ++ [(n : Int)] else rfP E n := by
  unfold rfP
  rw [List.range_succ, List.filter_append, List.map_append]
  by_cases h : keepP E n = true
  · rw [if_pos h]; simp [h]
  · rw [if_neg h]; simp [h]
theorem keep_no {E : List (List Nat × Int)} {n q : Nat} (h : ∀ e ∈ E, e.2 < (n : Int)) (hq : n ≤ q) : ¬ keepP E q = true := by
  intro hk
  have hne : grp E q ≠ [] := by
    intro e
    unfold keepP at hk
    rw [e] at hk
    simp at hk
  obtain ⟨z, hz⟩ := List.exists_mem_of_ne_nil _ hne
  have := h _ (mem_grp.1 hz)
  simp only at this
  omega
theorem rfS_full {E : List (List Nat × Int)} {n : Nat} (h : ∀ e ∈ E, e.2 < (n : Int)) : ∀ m, rfS E (n + m) = rfS E n ∧ rfP E (n + m) = rfP E n
  | 0 => ⟨rfl, rfl⟩
  | m + 1 => by
    obtain ⟨h1, h2⟩ := rfS_full h m
    rw [← Nat.add_assoc, rfS_succ, rfP_succ, if_neg (keep_no h (by omega)), if_neg (keep_no h (by omega))]
    exact ⟨h1, h2⟩
theorem rfS_v {E : List (List Nat × Int)} {n : Nat} (h : ∀ e ∈ E, e.2 < (n : Int)) (hn : n ≤ 24) : rfS E n = vS E ∧ rfP E n = vP E := by
  obtain ⟨h1, h2⟩ := rfS_full h (24 - n)
  rw [show n + (24 - n) = 24 by omega] at h1 h2
  exact ⟨h1.symm, h2.symm⟩
theorem kids_le {f : Int → List Nat → List (List Nat × Int)} {b : Nat} {n : Nd} {x : List Nat} (hf : ∀ i s, ∀ e ∈ f i (x ++ [s]), e.1.length ≤ b) : ∀ {m : Nat}, ∀ e ∈ kidsF f n x m, e.1.length ≤ b
  | 0, e, h => by cases h
  | m + 1, e, h => by
    simp only [kidsF, List.mem_append] at h
    rcases h with h | h
    · split at h
      · cases h
      · exact hf _ _ e h
    · exact kids_le hf e h
theorem lv_le {N : List Nd} : ∀ (d : Nat) (i : Int) (x : List Nat), ∀ e ∈ lvF N d i x, e.1.length ≤ x.length + d
  | 0, i, x, e, h => by
    unfold lvF at h
    split at h <;> (simp only [List.mem_cons, List.not_mem_nil, or_false] at h; subst h; simp)
  | d + 1, i, x, e, h => by
    have hk : ∀ n : Nd, ∀ e ∈ kidsF (lvF N d) n x 8, e.1.length ≤ x.length + (d + 1) := fun n => kids_le (fun i s e he => by
      have := lv_le d i (x ++ [s]) e he
      simp at this; omega)
    unfold lvF at h
    split at h
    · simp only [List.mem_cons, List.not_mem_nil, or_false] at h; subst h; simp
    · split at h
      · exact hk _ e h
      · split at h
        · simp only [List.mem_cons, List.not_mem_nil, or_false] at h; subst h; simp
        · rcases List.mem_cons.1 h with rfl | h
          · simp only; omega
          · exact hk _ e h
theorem rfS_4 {E : List (List Nat × Int)} {n : Nat} (h : ∀ e ∈ E, e.1.length ≤ 4) : ∀ L ∈ rfS E n, ∀ x ∈ L, x.length ≤ 4 := fun L hL x hx => by
  obtain ⟨q, _, rfl⟩ := List.mem_map.1 hL
  exact h _ (mem_grp.1 hx)
theorem rfP_lt {E : List (List Nat × Int)} {n : Nat} : ∀ p ∈ rfP E n, p < (n : Int) := fun p hp => by
  obtain ⟨q, hq, rfl⟩ := List.mem_map.1 hp
  have := List.mem_range.1 (List.mem_filter.1 hq).1
  omega
def RightT (k t n : Nat) (N : List Nd) : Prop := ∃ S P, BackT k t S P ∧ (∀ p ∈ P, p < (n : Int)) ∧ N = rowT (madeAll k Tz0 S P)
def progV (k t n : Nat) (N : List Nd) : Prop := 0 < N.length ∧ fineE n N.length (lvF N k 0 []) ∧ chkAll k t (rawS (vS (lvF N k 0 []))) (vP (lvF N k 0 [])) = 0 ∧ trN k t (rawS (vS (lvF N k 0 []))) (vP (lvF N k 0 [])) = N
def refV (k t n : Nat) (N : List Nd) : Prop := ∃ E, entF N N.length 0 [] N.length = some (E, 0) ∧ chkAll k t (rawS (rfS E n)) (rfP E n) = 0 ∧ trN k t (rawS (rfS E n)) (rfP E n) = N
theorem fine_mem {pr : Int} {m : Nat} {E : List (List Nat × Int)} (h : fineE pr m E) : ∀ e ∈ E, e.2 < pr := fun e he => by
  obtain ⟨c, hc⟩ := List.getElem?_of_mem he
  exact (h c e hc).2.1
theorem BackT.prods {k t : Nat} {S : List (List (List Nat))} {P : List Int} (h : BackT k t S P) {n : Int} (hP : ∀ p ∈ P, p < n) : ∀ e ∈ lvT k S P, e.2 < n := fun e he => by
  obtain ⟨L, _, _, h4⟩ := entS_mem ((h.mem e.1 e.2).1 he)
  exact hP _ h4
theorem prog_right {k t n : Nat} (hk : k ≤ 4) (hn : n ≤ 24) {N : List Nd} : progV k t n N ↔ RightT k t n N := by
  constructor
  · rintro ⟨h0, h1, h2, h3⟩
    have hb := BackT.of h2 (rfS_4 (n := 24) fun e he => by have := lv_le k 0 [] e he; simp at this; omega)
    obtain ⟨e1, e2⟩ := rfS_v (fine_mem h1) hn
    exact ⟨_, _, hb, fun p hp => by rw [← e2] at hp; exact rfP_lt p hp, by rw [← hb.row]; exact h3.symm⟩
  · rintro ⟨S, P, hb, hP, rfl⟩
    have hf := hb.fine
    have hp := hb.prods hP
    refine ⟨by rw [rowT_len]; omega, fun c e he => ⟨(hf c e he).1, hp e (List.mem_of_getElem? he), (hf c e he).2.2⟩, ?_, ?_⟩
    · show chkAll k t (rawS (vS (lvT k S P))) (vP (lvT k S P)) = 0
      rw [hb.vS, hb.vP]; exact hb.chk
    · show trN k t (rawS (vS (lvT k S P))) (vP (lvT k S P)) = _
      rw [hb.vS, hb.vP]; exact hb.row
theorem ref_right {k t n : Nat} (hk : k ≤ 4) (hn : n ≤ 24) {N : List Nd} : refV k t n N ↔ RightT k t n N := by
  constructor
  · rintro ⟨E, h1, h2, h3⟩
    have hb := BackT.of h2 (rfS_4 fun e he => entF_lt (by simp) h1 e he)
    exact ⟨_, _, hb, rfP_lt, by rw [← hb.row]; exact h3.symm⟩
  · rintro ⟨S, P, hb, hP, rfl⟩
    obtain ⟨e1, e2⟩ := rfS_v (hb.prods hP) hn
    refine ⟨lvT k S P, hb.ent hk, ?_, ?_⟩
    · rw [e1, e2, hb.vS, hb.vP]; exact hb.chk
    · rw [e1, e2, hb.vS, hb.vP]; exact hb.row
theorem entriesK (N : List Nd) (h9 : N9 N) (hl : N.length ≤ 1000) : ∀ (f : Nat), f ≤ 1000 → ∀ (l : Nat) (i : Int) (x : List Nat), l ≤ f → x.length ≤ 4 → KnownCall Try.prog 96 [trD N, iI i, lk x, nI l] (entV (entF N f i x l))
  | 0, _, l, i, x, hlf, _ => entriesN N i x l (.inr (by omega))
  | f + 1, hf, l, i, x, hlf, hx => by
    unfold entF
    by_cases h0 : l = 0
    · rw [if_pos h0]; exact entriesN N i x l (.inr h0)
    · rw [if_neg h0]
      cases hn : nodeAt N i with
      | none => exact entriesN N i x l (.inl hn)
      | some n =>
        obtain ⟨j, rfl, hj⟩ := nodeAt_some hn
        obtain ⟨l, rfl⟩ : ∃ q, l = q + 1 := ⟨l - 1, by omega⟩
        exact entriesS N h9 hl f (by omega) (entriesK N h9 hl f (by omega)) l (by omega) j n hj x hx _ rfl
def belV : Option (List (List Nat × Int) × Nat) → AV
  | some r => .tup [.d (.sl 6 (r.1.map lf)), .d (.bool (decide (r.2 = 0)))]
  | none => .tup [.d .nilsl, .d (.bool false)]
theorem belowK (N : List Nd) (h9 : N9 N) (hl : N.length ≤ 1000) : KnownCall Try.prog 61 [trD N] (belV (entF N N.length 0 [] N.length)) := by
  have hnl : (N.map nd).length = N.length := by simp
  have c := entriesK N h9 hl N.length hl N.length 0 [] (Nat.le_refl _) (by simp)
  rw [← hnl] at c
  have e : entF N (N.map nd).length 0 [] (N.map nd).length = entF N N.length 0 [] N.length := by rw [hnl]
  rw [e] at c
  cases hE : entF N N.length 0 [] N.length with
  | none =>
    rw [hE] at c
    unfold entV at c
    refine kF Try.func61 [1] fun w => ?_
    repeat' (first
      | refine zW ?_
      | refine zB ?_ ?_ <;> intro h <;> try exact zk h
      | refine zC (c) ?_
      | rfl
      | (fail)
      | fail)
  | some r =>
    rw [hE] at c
    unfold entV at c
    unfold belV
    simp only
    by_cases h0 : r.2 = 0
    · rw [decide_eq_true h0]
      refine kF Try.func61 [1] fun w => ?_
      repeat' (first
        | refine zW ?_
        | refine zB ?_ ?_ <;> intro h <;> try exact zk h
        | refine zC (c) ?_
        | rfl
        | ((exfalso; simp [h0] at h <;> fail))
        | fail)
    · rw [decide_eq_false h0]
      refine kF Try.func61 [1] fun w => ?_
      repeat' (first
        | refine zW ?_
        | refine zB ?_ ?_ <;> intro h <;> try exact zk h
        | refine zC (c) ?_
        | rfl
        | ((exfalso; simp [h0] at h <;> fail))
        | fail)
theorem sameRefK (N M : List Nd) (hN : N9 N) (hM : N9 M) (hl : N.length ≤ 1048576) : KnownCall Try.prog 28 [trD N, trD M] (.d (.bool (decide (N = M)))) := by
  rw [← smL_dec]
  by_cases hlen : N.length = M.length
  · refine kF Try.func28 [2, 3] fun w => ?_
    repeat' (first
      | refine zW ?_
      | refine zB ?_ ?_ <;> intro h <;> try exact zk h
      | refine zX ?_
      | ((exfalso; first | (simp_all <;> fail) | (simp_all; omega)))
      | fail)
    refine Run.loopT (fun i : Nat => ⟨PT.ofList [(2, .d (.ep [.sl 10 (N.map nd)])), (3, .d (.ep [.sl 10 (M.map nd)])), (5, .d (.int .i64 i))], [], []⟩) (fun i => i ≤ N.length ∧ ∀ j : Nat, j < i → ∀ u v, N[j]? = some u → M[j]? = some v → (fun u v : Nd => decide (u = v)) u v = true) (fun i => N.length - i) 0 ⟨Nat.zero_le _, fun j hj => by omega⟩ (ti _ 0) (fun i hi => ?_)
    rcases Nat.lt_or_ge i N.length with hlt | hge
    · obtain ⟨x, hx⟩ := get_ok hlt
      obtain ⟨y, hy⟩ := get_ok (show i < M.length by omega)
      have hx9 := hN x (List.mem_of_getElem? hx)
      have hy9 := hM y (List.mem_of_getElem? hy)
      by_cases hxy : x = y
      · subst hxy
        have ht := upTo_succ hi.2 hx hy (by simp)
        obtain ⟨ax, ap⟩ := x
        obtain ⟨a0, a1, a2, a3, a4, a5, a6, a7, a8, rfl⟩ := nine hx9
        repeat' (first
          | refine zW ?_
          | refine zB ?_ ?_ <;> intro h <;> try exact zk h
          | refine zX ?_
          | refine oI (v := .d (.ep (ndC ⟨[a0, a1, a2, a3, a4, a5, a6, a7, a8], ap⟩))) ?_ (he := by first | (simp [gD, cellsD, hx, nd] <;> fail) | fail)
          | refine eI (v := .d (.ep (ndC ⟨[a0, a1, a2, a3, a4, a5, a6, a7, a8], ap⟩))) ?_ (he := by first | (simp [gD, cellsD, hx, nd] <;> fail) | fail)
          | refine oI (v := .d (.ep (ndC ⟨[a0, a1, a2, a3, a4, a5, a6, a7, a8], ap⟩))) ?_ (he := by first | (simp [gD, cellsD, hy, nd] <;> fail) | fail)
          | refine eI (v := .d (.ep (ndC ⟨[a0, a1, a2, a3, a4, a5, a6, a7, a8], ap⟩))) ?_ (he := by first | (simp [gD, cellsD, hy, nd] <;> fail) | fail)
          | (exact ⟨i + 1, ⟨hlt, ht⟩, by omega, (ti _ 0)⟩)
          | ((exfalso; first | (simp_all <;> fail) | (simp_all; omega)))
          | fail)
      · rw [smL_at (p := fun u v : Nd => decide (u = v)) hx hy (by simp [hxy])]
        obtain ⟨ax, ap⟩ := x
        obtain ⟨a0, a1, a2, a3, a4, a5, a6, a7, a8, rfl⟩ := nine hx9
        obtain ⟨bx, bp⟩ := y
        obtain ⟨b0, b1, b2, b3, b4, b5, b6, b7, b8, rfl⟩ := nine hy9
        repeat' (first
          | refine zW ?_
          | refine zB ?_ ?_ <;> intro h <;> try exact zk h
          | refine zX ?_
          | refine oI (v := .d (.ep (ndC ⟨[a0, a1, a2, a3, a4, a5, a6, a7, a8], ap⟩))) ?_ (he := by first | (simp [gD, cellsD, hx, nd] <;> fail) | fail)
          | refine eI (v := .d (.ep (ndC ⟨[a0, a1, a2, a3, a4, a5, a6, a7, a8], ap⟩))) ?_ (he := by first | (simp [gD, cellsD, hx, nd] <;> fail) | fail)
          | refine oI (v := .d (.ep (ndC ⟨[b0, b1, b2, b3, b4, b5, b6, b7, b8], bp⟩))) ?_ (he := by first | (simp [gD, cellsD, hy, nd] <;> fail) | fail)
          | refine eI (v := .d (.ep (ndC ⟨[b0, b1, b2, b3, b4, b5, b6, b7, b8], bp⟩))) ?_ (he := by first | (simp [gD, cellsD, hy, nd] <;> fail) | fail)
          | rfl
          | ((exfalso; first | (simp_all <;> fail) | (simp_all; omega)))
          | fail)
    · rw [upTo_all hlen hge hi.2]
      have hie : i = N.length := by have := hi.1; omega
      subst hie
      repeat' (first
        | refine zW ?_
        | refine zB ?_ ?_ <;> intro h <;> try exact zk h
        | refine zX ?_
        | rfl
        | ((exfalso; first | (simp_all <;> fail) | (simp_all; omega)))
        | fail)
  · rw [smL_len hlen]
    refine kF Try.func28 [2, 3] fun w => ?_
    repeat' (first
      | refine zW ?_
      | refine zB ?_ ?_ <;> intro h <;> try exact zk h
      | refine zX ?_
      | rfl
      | ((exfalso; first | (simp_all <;> fail) | (simp_all; omega)))
      | fail)
theorem own18 (N : List Nd) (hl : N.length ≤ 1048576) : KnownCall Try.prog 20 [trD N] (.d (trD N)) := by
  have hnl : (N.map nd).length = N.length := by simp
  refine kF Try.func20 [1] fun w => ?_
  repeat' (first
    | refine zW ?_
    | refine zB ?_ ?_ <;> intro h <;> try exact zk h
    | refine zAp ?_
    | rfl
    | fail)
theorem refCheck2 (N : List Nd) (k t pr : Int) (hb : sizE k t ≠ 0 ∨ pr < 0 ∨ 24 < pr) : KnownCall Try.prog 22 [iI k, iI t, iI pr, trD N] (.d (iI 2)) := by
  have c := numbers18 k t
  generalize sizE k t = z at *
  refine kF Try.func22 [7] fun w => ?_
  repeat' (first
    | refine zW ?_
    | refine zB ?_ ?_ <;> intro h <;> try exact zk h
    | refine zC (c) ?_
    | rfl
    | ((exfalso; simp only [decide_eq_true_eq, decide_eq_false_iff_not, gt_iff_lt, ne_eq, Bool.not_eq_false'] at *; omega))
    | fail)
theorem refCheck3 (N : List Nd) (h9 : N9 N) (hl : N.length ≤ 1000) (k t : Int) (hs : sizE k t = 0) (n : Nat) (hn : n ≤ 24) (hE : ∀ E, entF N N.length 0 [] N.length ≠ some (E, 0)) : KnownCall Try.prog 22 [iI k, iI t, nI n, trD N] (.d (iI 3)) := by
  have c := numbers18 k t
  rw [decide_eq_true hs] at c
  have cb := belowK N h9 hl
  cases hb : entF N N.length 0 [] N.length with
  | none =>
    rw [hb] at cb
    unfold belV at cb
    refine kF Try.func22 [7] fun w => ?_
    repeat' (first
      | refine zW ?_
      | refine zB ?_ ?_ <;> intro h <;> try exact zk h
      | refine zC (c) ?_
      | refine zC (cb) ?_
      | rfl
      | ((exfalso; simp only [decide_eq_true_eq, decide_eq_false_iff_not, gt_iff_lt] at *; omega))
      | fail)
  | some r =>
    have h0 : r.2 ≠ 0 := fun e => hE r.1 (by rw [hb, ← e])
    rw [hb] at cb
    unfold belV at cb
    simp only [decide_eq_false h0] at cb
    refine kF Try.func22 [7] fun w => ?_
    repeat' (first
      | refine zW ?_
      | refine zB ?_ ?_ <;> intro h <;> try exact zk h
      | refine zC (c) ?_
      | refine zC (cb) ?_
      | rfl
      | ((exfalso; simp only [decide_eq_true_eq, decide_eq_false_iff_not, gt_iff_lt] at *; omega))
      | fail)
theorem rfS_len (E : List (List Nat × Int)) (n : Nat) : (rfS E n).length ≤ n := by
  rw [rfS, List.length_map]
  exact Nat.le_trans (List.length_filter_le _ _) (by simp)
theorem rfP_len (E : List (List Nat × Int)) (n : Nat) : (rfP E n).length = (rfS E n).length := by simp [rfP, rfS]
theorem rfS_flat (E : List (List Nat × Int)) (n : Nat) : (rfS E n).flatten.length ≤ E.length := Nat.le_trans (flat_le E n) (List.length_filter_le _ _)
theorem grp_len (E : List (List Nat × Int)) (p : Nat) : (grp E p).length ≤ E.length := by
  rw [grp, List.length_map]; exact List.length_filter_le _ _
theorem grp_take {E : List (List Nat × Int)} {i p : Nat} {e : List Nat × Int} (h : E[i]? = some e) : grp (E.take (i + 1)) p = if e.2 = (p : Int) then grp (E.take i) p ++ [e.1] else grp (E.take i) p := by
  rw [List.take_add_one, h]
  exact grp_snoc
theorem keep_iff {E : List (List Nat × Int)} {p : Nat} : keepP E p = true ↔ grp E p ≠ [] := by
  unfold keepP
  cases grp E p <;> simp
set_option maxHeartbeats 8000000 in
theorem refCheckS (N : List Nd) (h9 : N9 N) (hl : N.length ≤ 1000) (k t : Int) (hs : sizE k t = 0) (n : Nat) (hn : n ≤ 24) (E : List (List Nat × Int)) (hE : entF N N.length 0 [] N.length = some (E, 0)) (v : Int)
    (hv : v = if chkAll k t (rawS (rfS E n)) (rfP E n) = 0 ∧ trN k t (rawS (rfS E n)) (rfP E n) = N then 0 else 3) : KnownCall Try.prog 22 [iI k, iI t, nI n, trD N] (.d (iI v)) := by
  have c := numbers18 k t
  rw [decide_eq_true hs] at c
  have cb := belowK N h9 hl
  rw [hE] at cb
  unfold belV at cb
  simp only [decide_true] at cb
  have hEl : E.length ≤ 1000 := by have := entF_le hE; simp only at this; omega
  have hSl := rfS_len E n
  have hPl := rfP_len E n
  have hfl := rfS_flat E n
  have co := refOfK k t (rawS (rfS E n)) (rfP E n) (by simp; omega) (by omega) (by
    have : (rawS (rfS E n)).flatten.length = (rfS E n).flatten.length := by simp [rawS, List.length_flatten, Function.comp_def]
    omega)
  rw [rws2_raw] at co
  have cs := sameRefK (trN k t (rawS (rfS E n)) (rfP E n)) N trN_9 h9 (by
    have := trN_len (k := k) (t := t) (S := rawS (rfS E n)) (P := rfP E n)
    have h2 : (rawS (rfS E n)).flatten.length = (rfS E n).flatten.length := by simp [rawS, List.length_flatten, Function.comp_def]
    omega)
  have hem : (E.map lf).length = E.length := by simp
  refine kF Try.func22 [7] fun w => ?_
  have w : Fz [7] := trivial
  repeat' (first
    | refine zW ?_
    | refine zB ?_ ?_ <;> intro h <;> try exact zk h
    | refine zC (c) ?_
    | refine zC (cb) ?_
    | ((exfalso; simp only [decide_eq_true_eq, decide_eq_false_iff_not, gt_iff_lt] at *; omega))
    | fail)
  refine Run.mkRoom 11 1 [(0, .d (iI k)), (1, .d (iI t)), (2, .d (nI n)), (7, .d (.ep [.sl 10 (N.map nd)])), (9, .d (.sl 6 (E.map lf))), (11, .sr 0 1 []), (12, .d .nilsl), (13, .d (nI 0))] (by kernel_rfl) (ofList_cases (by intro p hp; simp only [List.mem_cons, List.not_mem_nil, or_false] at hp; rcases hp with rfl | rfl | rfl | rfl | rfl | rfl | rfl | rfl <;> first | exact .inl ⟨rfl, rfl⟩ | exact .inr (by kernel_rfl))) ?_
  refine Run.mkRoom 12 1 [(0, .d (iI k)), (1, .d (iI t)), (2, .d (nI n)), (7, .d (.ep [.sl 10 (N.map nd)])), (9, .d (.sl 6 (E.map lf))), (11, .sr 0 1 []), (12, .sr 1 1 []), (13, .d (nI 0))] (by kernel_rfl) (ofList_cases (by intro p hp; simp only [List.mem_cons, List.not_mem_nil, or_false] at hp; rcases hp with rfl | rfl | rfl | rfl | rfl | rfl | rfl | rfl <;> first | exact .inl ⟨rfl, rfl⟩ | exact .inr (by kernel_rfl))) ?_
  refine Run.loopT (fun x : Nat × List DV × List DV => ⟨PT.ofList [(0, .d (iI k)), (1, .d (iI t)), (2, .d (nI n)), (7, .d (.ep [.sl 10 (N.map nd)])), (9, .d (.sl 6 (E.map lf))), (11, .sr 0 1 x.2.1), (12, .sr 1 1 x.2.2), (13, .d (nI x.1))], [.room x.2.1.length 1, .room x.2.2.length 1], []⟩) (fun x => x.1 ≤ n ∧ x.2.1 = (rfS E x.1).map lks ∧ x.2.2 = (rfP E x.1).map iI) (fun x => n - x.1) (0, [], []) ⟨Nat.zero_le _, rfl, rfl⟩ (ti _ 2) (fun ⟨p, A, C⟩ ⟨hp, hA, hC⟩ => ?_)
  simp only at hp hA hC
  have hal : A.length ≤ 24 := by rw [hA, List.length_map]; have := rfS_len E p; omega
  have hcl : C.length ≤ 24 := by rw [hC, List.length_map, rfP_len]; have := rfS_len E p; omega
  rcases Nat.lt_or_ge p n with hlt | hge
  · clear co cs hv
    repeat' (first
      | refine zW ?_
      | refine zB ?_ ?_ <;> intro h <;> try exact zk h
      | ((exfalso; first | (simp at h <;> omega) | omega))
      | fail)
    refine Run.mkRoom 14 5 [(0, .d (iI k)), (1, .d (iI t)), (2, .d (nI n)), (7, .d (.ep [.sl 10 (N.map nd)])), (9, .d (.sl 6 (E.map lf))), (11, .sr 0 1 A), (12, .sr 1 1 C), (13, .d (nI p)), (14, .sr 2 5 []), (15, .d (nI 0))] (by kernel_rfl) (ofList_cases (by intro p hp; simp only [List.mem_cons, List.not_mem_nil, or_false] at hp; rcases hp with rfl | rfl | rfl | rfl | rfl | rfl | rfl | rfl | rfl | rfl <;> first | exact .inl ⟨rfl, rfl⟩ | exact .inr (by kernel_rfl))) ?_
    refine Run.loopT (fun x : Nat × List DV => ⟨PT.ofList [(0, .d (iI k)), (1, .d (iI t)), (2, .d (nI n)), (7, .d (.ep [.sl 10 (N.map nd)])), (9, .d (.sl 6 (E.map lf))), (11, .sr 0 1 A), (12, .sr 1 1 C), (13, .d (nI p)), (14, .sr 2 5 x.2), (15, .d (nI x.1))], [.room A.length 1, .room C.length 1, .room x.2.length 5], []⟩) (fun x => x.1 ≤ E.length ∧ x.2 = (grp (E.take x.1) p).map lk) (fun x => E.length - x.1) (0, []) ⟨Nat.zero_le _, rfl⟩ (ti _ 3) (fun ⟨i, F⟩ ⟨hi, hF⟩ => ?_)
    simp only at hi hF
    have hF2 : F.length ≤ 1000 := by
      rw [hF, List.length_map]
      have := grp_len (E.take i) p
      rw [List.length_take] at this; omega
    rcases Nat.lt_or_ge i E.length with hil | hig
    · obtain ⟨e, he⟩ := get_ok hil
      have hnext := grp_take (p := p) he
      by_cases hep : e.2 = (p : Int)
      · rw [if_pos hep] at hnext
        have hn2 : F ++ [lk e.1] = (grp (E.take (i + 1)) p).map lk := by rw [hnext, hF]; simp
        repeat' (first
          | refine zW ?_
          | refine zB ?_ ?_ <;> intro h <;> try exact zk h
          | refine zI w (.d (.ep (lfC e))) he ?_
          | refine zAp ?_
          | (exact ⟨(i + 1, F ++ [lk e.1]), ⟨hil, hn2⟩, by simp only; omega, (ti _ 3 (Eq.trans (b := [.room A.length 1, .room C.length 1, .room (F.length + 1) 5]) rfl (by simp)))⟩)
          | ((exfalso; first | (simp [hem, hep] at h <;> omega) | omega))
          | fail)
      · rw [if_neg hep] at hnext
        have hn2 : F = (grp (E.take (i + 1)) p).map lk := by rw [hnext, hF]
        repeat' (first
          | refine zW ?_
          | refine zB ?_ ?_ <;> intro h <;> try exact zk h
          | refine zI w (.d (.ep (lfC e))) he ?_
          | (exact ⟨(i + 1, F), ⟨hil, hn2⟩, by simp only; omega, (ti _ 3)⟩)
          | ((exfalso; first | (simp [hem, hep] at h <;> omega) | omega))
          | fail)
    · have hie : i = E.length := by omega
      subst hie
      rw [List.take_length] at hF
      subst hF
      have e1 := rfS_succ (E := E) (n := p)
      have e2 := rfP_succ (E := E) (n := p)
      simp only [keep_iff] at e1 e2
      have hgl := grp_len E p
      generalize grp E p = Q at *
      have hw : AV.d (.int .i64 (IntKind.i64.wrap (((p : Nat) : Int) + 1))) = .d (nI (p + 1)) := by
        congr 2
        rw [show ((p : Nat) : Int) + 1 = ((p + 1 : Nat) : Int) by omega]; exact wrap_nat (by omega)
      repeat refine zS ?_
      iterate 3 refine zX ?_
      refine zV (lt_false (show (E.map lf).length ≤ E.length by rw [hem]; exact Nat.le_refl _)) ?_
      repeat refine zS ?_
      refine RunOps.tidy (s' := ⟨PT.ofList [(0, .d (iI k)), (1, .d (iI t)), (2, .d (nI n)), (7, .d (.ep [.sl 10 (N.map nd)])), (9, .d (.sl 6 (E.map lf))), (11, .sr 0 1 A), (12, .sr 1 1 C), (13, .d (nI p)), (14, .d (lks Q))], [.room A.length 1, .room C.length 1], []⟩) (ti _ 2) ?_
      by_cases hQ : Q = []
      · rw [if_neg (fun h => h hQ)] at e1 e2
        have hA2 : A = (rfS E (p + 1)).map lks := by rw [e1, hA]
        have hC2 : C = (rfP E (p + 1)).map iI := by rw [e2, hC]
        have hQl : (Q.map lk).length = 0 := by rw [hQ]; rfl
        repeat' (first
          | refine zV hw ?_
          | refine zW ?_
          | refine zB ?_ ?_ <;> intro h <;> try exact zk h
          | (exact ⟨(p + 1, A, C), ⟨hlt, hA2, hC2⟩, by simp only; omega, (ti _ 2)⟩)
          | ((exfalso; simp only [decide_eq_true_eq, decide_eq_false_iff_not, gt_iff_lt] at *; omega))
          | fail)
      · rw [if_pos hQ] at e1 e2
        have hQl : 0 < (Q.map lk).length := by rw [List.length_map]; exact List.length_pos_iff.2 hQ
        have hA2 : A ++ [lks Q] = (rfS E (p + 1)).map lks := by rw [e1, List.map_append, hA]; rfl
        have hC2 : C ++ [nI p] = (rfP E (p + 1)).map iI := by rw [e2, List.map_append, hC]; rfl
        repeat' (first
          | refine zV hw ?_
          | refine zW ?_
          | refine zB ?_ ?_ <;> intro h <;> try exact zk h
          | refine zAp ?_
          | (exact ⟨(p + 1, A ++ [lks Q], C ++ [nI p]), ⟨hlt, hA2, hC2⟩, by simp only; omega, (ti _ 2 (Eq.trans (b := [.room (A.length + 1) 1, .room (C.length + 1) 1]) rfl (by simp)))⟩)
          | ((exfalso; simp only [decide_eq_true_eq, decide_eq_false_iff_not, gt_iff_lt] at *; omega))
          | fail)
  · have hie : p = n := by omega
    subst hie
    subst hA hC
    generalize chkAll k t (rawS (rfS E p)) (rfP E p) = e0 at *
    generalize trN k t (rawS (rfS E p)) (rfP E p) = M at *
    repeat refine zS ?_
    iterate 2 refine zX ?_
    refine zV (lt_false (Nat.le_refl p)) ?_
    repeat refine zS ?_
    refine RunOps.tidy (s' := ⟨PT.ofList [(0, .d (iI k)), (1, .d (iI t)), (7, .d (.ep [.sl 10 (N.map nd)])), (11, .d (.sl 1 ((rfS E p).map lks))), (12, .d (.sl 1 ((rfP E p).map iI)))], [], []⟩) (ti _ 0) ?_
    by_cases h0 : e0 = 0
    · by_cases h1 : M = N
      · rw [if_pos ⟨h0, h1⟩] at hv
        subst hv
        rw [decide_eq_true h1] at cs
        repeat' (first
          | refine zW ?_
          | refine zB ?_ ?_ <;> intro h <;> try exact zk h
          | refine zC (co) ?_
          | refine zC (cs) ?_
          | rfl
          | ((exfalso; first | (simp [h0] at h <;> omega) | omega))
          | fail)
      · rw [if_neg (fun h => h1 h.2)] at hv
        subst hv
        rw [decide_eq_false h1] at cs
        repeat' (first
          | refine zW ?_
          | refine zB ?_ ?_ <;> intro h <;> try exact zk h
          | refine zC (co) ?_
          | refine zC (cs) ?_
          | rfl
          | ((exfalso; first | (simp [h0] at h <;> omega) | omega))
          | fail)
    · rw [if_neg (fun h => h0 h.1)] at hv
      subst hv
      repeat' (first
        | refine zW ?_
        | refine zB ?_ ?_ <;> intro h <;> try exact zk h
        | refine zC (co) ?_
        | refine zC (cs) ?_
        | rfl
        | ((exfalso; first | (simp [h0] at h <;> omega) | omega))
        | fail)
theorem refChooseE (N : List Nd) (k t e : Int) (he : e ≠ 0) (hcc : KnownCall Try.prog 22 [iI k, iI t, iI 24, trD N] (.d (iI e))) (l : List Int) (b : Bool) : KnownCall Try.prog 24 [iI k, iI t, trD N, .sl 1 (l.map iI), .bool b] (.tup [.d (iI 0), .d (iI e)]) := by
  refine kF Try.func24 [7] fun w => ?_
  have w : Fz [7] := trivial
  repeat' (first
    | refine zW ?_
    | refine zB ?_ ?_ <;> intro h <;> try exact zk h
    | refine zC (hcc) ?_
    | (fail)
    | fail)
  refine Run.loopT (fun i : Nat => ⟨PT.ofList [(0, .d (iI k)), (3, .d (.sl 1 (l.map iI))), (4, .d (.bool b)), (12, .d (iI e)), (13, .d (nI 0))], [], []⟩) (fun i => i = 0) (fun i => i) 0 rfl (ti _ 0) (fun i hi => ?_)
  repeat' (first
    | refine zW ?_
    | refine zB ?_ ?_ <;> intro h <;> try exact zk h
    | rfl
    | ((exfalso; simp only [List.length_cons, List.length_map, List.length_nil, decide_eq_true_eq, decide_eq_false_iff_not, beq_iff_eq, beq_eq_false_iff_ne, bne_iff_ne, bne_eq_false_iff_eq, ne_eq, ge_iff_le, Bool.not_eq_false', Bool.not_eq_true'] at *; omega))
    | fail)
def badT (t : Int) (x : Int) : Bool := decide (x < 0) || decide (t ≤ x)
theorem refChooseB (N : List Nd) (k t : Int) (hcc : KnownCall Try.prog 22 [iI k, iI t, iI 24, trD N] (.d (iI 0))) (l : List Int) (hln : l.length ≤ 1000) (hb : l.any (badT t) = true) (b : Bool) : KnownCall Try.prog 24 [iI k, iI t, trD N, .sl 1 (l.map iI), .bool b] (.tup [.d (iI 0), .d (iI 2)]) := by
  have hml : (l.map iI).length = l.length := by simp
  obtain ⟨x, hx, hxb⟩ := List.any_eq_true.1 hb
  have hn := List.findIdx_lt_length_of_exists (p := badT t) ⟨x, hx, hxb⟩
  have hnb := List.findIdx_getElem (w := hn)
  have hlo : ∀ j, j < l.findIdx (badT t) → ∀ u, l[j]? = some u → badT t u = false := fun j hj u hu => by
    have h5 := List.not_of_lt_findIdx hj
    rw [(List.getElem?_eq_some_iff.1 hu).2] at h5
    simpa using h5
  have hat : l[l.findIdx (badT t)]? = some l[l.findIdx (badT t)] := List.getElem?_eq_getElem hn
  generalize l[l.findIdx (badT t)] = y at *
  generalize l.findIdx (badT t) = n at *
  refine kF Try.func24 [7] fun w => ?_
  have w : Fz [7] := trivial
  repeat' (first
    | refine zW ?_
    | refine zB ?_ ?_ <;> intro h <;> try exact zk h
    | refine zC (hcc) ?_
    | (fail)
    | fail)
  refine Run.loopT (fun y : Nat × Int => ⟨PT.ofList [(0, .d (iI k)), (1, .d (iI t)), (3, .d (.sl 1 (l.map iI))), (4, .d (.bool b)), (12, .d (iI y.2)), (13, .d (nI y.1))], [], []⟩) (fun y => (y.1 ≤ n ∧ y.2 = 0) ∨ (y.1 = n + 1 ∧ y.2 = 2)) (fun y => n + 1 - y.1) (0, 0) (.inl ⟨Nat.zero_le _, rfl⟩) (ti _ 0) (fun ⟨i, e⟩ hy => ?_)
  simp only at hy
  rcases hy with ⟨hi, rfl⟩ | ⟨rfl, rfl⟩
  · rcases Nat.lt_or_eq_of_le hi with hlt | rfl
    · obtain ⟨u, hu⟩ := get_ok (show i < l.length by omega)
      have hub := hlo i hlt u hu
      simp only [badT, Bool.or_eq_false_iff, decide_eq_false_iff_not] at hub
      repeat' (first
        | refine zW ?_
        | refine zB ?_ ?_ <;> intro h <;> try exact zk h
        | refine zI w (.d (.ep [iI u])) hu ?_
        | (exact ⟨(i + 1, 0), .inl ⟨hlt, rfl⟩, by simp only; omega, (ti _ 0)⟩)
        | ((exfalso; simp only [List.length_cons, List.length_map, List.length_nil, decide_eq_true_eq, decide_eq_false_iff_not, beq_iff_eq, beq_eq_false_iff_ne, bne_iff_ne, bne_eq_false_iff_eq, ne_eq, ge_iff_le, Bool.not_eq_false', Bool.not_eq_true'] at *; omega))
        | fail)
    · simp only [badT, Bool.or_eq_true, decide_eq_true_eq] at hnb
      repeat' (first
        | refine zW ?_
        | refine zB ?_ ?_ <;> intro h <;> try exact zk h
        | refine zI w (.d (.ep [iI y])) hat ?_
        | (exact ⟨(i + 1, 2), .inr ⟨rfl, rfl⟩, by simp only; omega, (ti _ 0 (h := ⟨.inl rfl, .inl rfl, .inl rfl, .inl rfl, .inl rfl, .inl (inc_get rfl (by omega)), trivial⟩))⟩)
        | ((exfalso; simp only [List.length_cons, List.length_map, List.length_nil, decide_eq_true_eq, decide_eq_false_iff_not, beq_iff_eq, beq_eq_false_iff_ne, bne_iff_ne, bne_eq_false_iff_eq, ne_eq, ge_iff_le, Bool.not_eq_false', Bool.not_eq_true'] at *; omega))
        | fail)
  · repeat' (first
      | refine zW ?_
      | refine zB ?_ ?_ <;> intro h <;> try exact zk h
      | rfl
      | ((exfalso; simp only [List.length_cons, List.length_map, List.length_nil, decide_eq_true_eq, decide_eq_false_iff_not, beq_iff_eq, beq_eq_false_iff_ne, bne_iff_ne, bne_eq_false_iff_eq, ne_eq, ge_iff_le, Bool.not_eq_false', Bool.not_eq_true'] at *; omega))
      | fail)
set_option maxHeartbeats 20000000 in
theorem refChooseK (T : Trt) (hT : OkT T) (hl : (rowT T).length ≤ 1000) (m t : Nat) (h4 : m + 1 ≤ 4) (ht8 : t ≤ 8) (hcc : KnownCall Try.prog 22 [nI (m + 1), iI t, iI 24, trD (rowT T)] (.d (iI 0))) (l : List Nat) (hlt : ∀ u ∈ l, u < t) (hln : l.length ≤ 1000) (b : Bool) :
    KnownCall Try.prog 24 [nI (m + 1), iI t, trD (rowT T), .sl 1 (l.map nI), .bool b] (.tup [.d (iI (chR T (m + 1) l b).1), .d (iI (chR T (m + 1) l b).2)]) := by
  have hnl : ((rowT T).map nd).length = T.q.length + 1 := by simp [rowT_len]
  rw [rowT_len] at hl
  have hml : (l.map nI).length = l.length := by simp
  by_cases hsh : l.length < m + 1 ∧ b = false
  · obtain ⟨hsh, rfl⟩ := hsh
    rw [show chR T (m + 1) l false = (0, 5) from by unfold chR; rw [if_pos ⟨hsh, rfl⟩]]
    refine kF Try.func24 [7] fun w => ?_
    have w : Fz [7] := trivial
    repeat' (first
      | refine zW ?_
      | refine zB ?_ ?_ <;> intro h <;> try exact zk h
      | refine zC (hcc) ?_
      | (fail)
      | fail)
    refine Run.loopT (fun i : Nat => ⟨PT.ofList [(0, .d (nI (m + 1))), (1, .d (iI t)), (3, .d (.sl 1 (l.map nI))), (4, .d (.bool false)), (12, .d (iI 0)), (13, .d (nI i))], [], []⟩) (fun i => i ≤ l.length) (fun i => l.length - i) 0 (Nat.zero_le _) (ti _ 0) (fun i hi => ?_)
    rcases Nat.lt_or_ge i l.length with hil | hig
    · obtain ⟨u, hu⟩ := get_ok hil
      have hut := hlt u (List.mem_of_getElem? hu)
      repeat' (first
        | refine zW ?_
        | refine zB ?_ ?_ <;> intro h <;> try exact zk h
        | refine zI w (.d (.ep [nI u])) hu ?_
        | (exact ⟨i + 1, hil, by omega, (ti _ 0)⟩)
        | ((exfalso; simp only [List.length_cons, List.length_map, List.length_nil, decide_eq_true_eq, decide_eq_false_iff_not, beq_iff_eq, beq_eq_false_iff_ne, bne_iff_ne, bne_eq_false_iff_eq, ne_eq, ge_iff_le, Bool.not_eq_false', Bool.not_eq_true'] at *; omega))
        | fail)
    · repeat' (first
        | refine zW ?_
        | refine zB ?_ ?_ <;> intro h <;> try exact zk h
        | rfl
        | ((exfalso; simp only [List.length_cons, List.length_map, List.length_nil, decide_eq_true_eq, decide_eq_false_iff_not, beq_iff_eq, beq_eq_false_iff_ne, bne_iff_ne, bne_eq_false_iff_eq, ne_eq, ge_iff_le, Bool.not_eq_false', Bool.not_eq_true'] at *; omega))
        | fail)
  · obtain ⟨W, hW⟩ : ∃ W, W = edgesT (m + 1) (l.take (m + 1)) := ⟨_, rfl⟩
    rw [show chR T (m + 1) l b = goR T W from by unfold chR; rw [if_neg hsh, hW]]
    have hW8 : ∀ e ∈ W, e ≤ 8 := by
      rw [hW]
      exact edges8 fun e he => by have := hlt e (List.mem_of_mem_take he); omega
    have hWl : W.length ≤ 4 := by
      rw [hW]
      unfold edgesT
      split
      · rename_i hh; rw [List.length_append, List.length_cons, List.length_nil]; omega
      · rw [List.length_take]; omega
    refine kF Try.func24 [7] fun w => ?_
    have w : Fz [7] := trivial
    refine RunJ.run ⟨PT.ofList [(7, .d (.ep [.sl 10 ((rowT T).map nd)])), (14, .d (.sl 1 (W.map nI)))], [], []⟩ [_, _, _, _, _, _, _, _] ?_ ?_
    · repeat' (first
        | refine zW ?_
        | refine zB ?_ ?_ <;> intro h <;> try exact zk h
        | refine zC (hcc) ?_
        | (fail)
        | fail)
      refine Run.loopT (fun i : Nat => ⟨PT.ofList [(0, .d (nI (m + 1))), (1, .d (iI t)), (3, .d (.sl 1 (l.map nI))), (4, .d (.bool b)), (7, .d (.ep [.sl 10 ((rowT T).map nd)])), (12, .d (iI 0)), (13, .d (nI i))], [], []⟩) (fun i => i ≤ l.length) (fun i => l.length - i) 0 (Nat.zero_le _) (ti _ 0) (fun i hi => ?_)
      rcases Nat.lt_or_ge i l.length with hil | hig
      · obtain ⟨u, hu⟩ := get_ok hil
        have hut := hlt u (List.mem_of_getElem? hu)
        repeat' (first
          | refine zW ?_
          | refine zB ?_ ?_ <;> intro h <;> try exact zk h
          | refine zI w (.d (.ep [nI u])) hu ?_
          | (exact ⟨i + 1, hil, by omega, (ti _ 0)⟩)
          | ((exfalso; simp only [List.length_cons, List.length_map, List.length_nil, decide_eq_true_eq, decide_eq_false_iff_not, beq_iff_eq, beq_eq_false_iff_ne, bne_iff_ne, bne_eq_false_iff_eq, ne_eq, ge_iff_le, Bool.not_eq_false', Bool.not_eq_true'] at *; omega))
          | fail)
      · have hie : i = l.length := by omega
        subst hie
        by_cases hlk : l.length < m + 1
        focus
          have hbt : b = true := by
            cases b with
            | true => rfl
            | false => exact absurd ⟨hlk, rfl⟩ hsh
          subst hbt
          have hWe : W = l ++ [8] := by
            rw [hW, List.take_of_length_le (by omega)]
            unfold edgesT
            rw [if_pos hlk]
          repeat' (first
            | refine zW ?_
            | refine zB ?_ ?_ <;> intro h <;> try exact zk h
            | ((exfalso; simp only [List.length_cons, List.length_map, List.length_nil, decide_eq_true_eq, decide_eq_false_iff_not, beq_iff_eq, beq_eq_false_iff_ne, bne_iff_ne, bne_eq_false_iff_eq, ne_eq, ge_iff_le, Bool.not_eq_false', Bool.not_eq_true'] at *; omega))
            | fail)
          refine Run.mkRoom 14 1 [(0, .d (nI (m + 1))), (3, .d (.sl 1 (l.map nI))), (7, .d (.ep [.sl 10 ((rowT T).map nd)])), (14, .sr 0 1 []), (15, .d (nI 0))] (by kernel_rfl) (ofList_cases (by intro p hp; simp only [List.mem_cons, List.not_mem_nil, or_false] at hp; rcases hp with rfl | rfl | rfl | rfl | rfl <;> first | exact .inl ⟨rfl, rfl⟩ | exact .inr (by kernel_rfl))) ?_
          refine Run.loopT (fun y : Nat × List DV => ⟨PT.ofList [(0, .d (nI (m + 1))), (3, .d (.sl 1 (l.map nI))), (7, .d (.ep [.sl 10 ((rowT T).map nd)])), (14, .sr 0 1 y.2), (15, .d (nI y.1))], [.room y.2.length 1], []⟩) (fun y => y.1 ≤ l.length ∧ y.2 = (l.take y.1).map nI) (fun y => l.length - y.1) (0, []) ⟨Nat.zero_le _, rfl⟩ (ti _ 1) (fun ⟨j, A⟩ ⟨hj, hA⟩ => ?_)
          simp only at hj hA
          have hal : A.length ≤ 1000 := by rw [hA, List.length_map, List.length_take]; omega
          rcases Nat.lt_or_ge j (l.length) with hjl | hjg
          · obtain ⟨u, hu⟩ := get_ok (show j < l.length by omega)
            have hn2 : A ++ [nI u] = (l.take (j + 1)).map nI := by rw [hA, List.take_add_one, hu]; simp
            repeat' (first
              | refine zW ?_
              | refine zB ?_ ?_ <;> intro h <;> try exact zk h
              | refine zI w (.d (.ep [nI u])) hu ?_
              | refine zAp ?_
              | (exact ⟨(j + 1, A ++ [nI u]), ⟨hjl, hn2⟩, by simp only; omega, (ti _ 1 (Eq.trans (b := [.room (A.length + 1) 1]) rfl (by simp)))⟩)
              | ((exfalso; simp only [List.length_cons, List.length_map, List.length_nil, decide_eq_true_eq, decide_eq_false_iff_not, beq_iff_eq, beq_eq_false_iff_ne, bne_iff_ne, bne_eq_false_iff_eq, ne_eq, ge_iff_le, Bool.not_eq_false', Bool.not_eq_true'] at *; omega))
              | fail)
          · have hje : j = l.length := by omega
            subst hje
            subst hA
            repeat' (first
              | refine zW ?_
              | refine zB ?_ ?_ <;> intro h <;> try exact zk h
              | refine zAp ?_
              | ((exfalso; simp only [List.length_cons, List.length_map, List.length_nil, decide_eq_true_eq, decide_eq_false_iff_not, beq_iff_eq, beq_eq_false_iff_ne, bne_iff_ne, bne_eq_false_iff_eq, ne_eq, ge_iff_le, Bool.not_eq_false', Bool.not_eq_true'] at *; omega))
              | fail)
            refine (id ?_ : Tidy 0 _ _)
            exact (ti [(7, .d (.ep [.sl 10 ((rowT T).map nd)])), (14, .d (.sl 1 (W.map nI)))] 0 (h := ⟨.inl rfl, .inr (by rw [hWe, List.map_append, List.take_length]; rfl), trivial⟩))
        focus
          have hWe : W = l.take (m + 1) := by
            rw [hW]
            unfold edgesT
            rw [if_neg (by rw [List.length_take]; omega)]
          repeat' (first
            | refine zW ?_
            | refine zB ?_ ?_ <;> intro h <;> try exact zk h
            | ((exfalso; simp only [List.length_cons, List.length_map, List.length_nil, decide_eq_true_eq, decide_eq_false_iff_not, beq_iff_eq, beq_eq_false_iff_ne, bne_iff_ne, bne_eq_false_iff_eq, ne_eq, ge_iff_le, Bool.not_eq_false', Bool.not_eq_true'] at *; omega))
            | fail)
          refine Run.mkRoom 14 1 [(0, .d (nI (m + 1))), (3, .d (.sl 1 (l.map nI))), (7, .d (.ep [.sl 10 ((rowT T).map nd)])), (14, .sr 0 1 []), (15, .d (nI 0))] (by kernel_rfl) (ofList_cases (by intro p hp; simp only [List.mem_cons, List.not_mem_nil, or_false] at hp; rcases hp with rfl | rfl | rfl | rfl | rfl <;> first | exact .inl ⟨rfl, rfl⟩ | exact .inr (by kernel_rfl))) ?_
          refine Run.loopT (fun y : Nat × List DV => ⟨PT.ofList [(0, .d (nI (m + 1))), (3, .d (.sl 1 (l.map nI))), (7, .d (.ep [.sl 10 ((rowT T).map nd)])), (14, .sr 0 1 y.2), (15, .d (nI y.1))], [.room y.2.length 1], []⟩) (fun y => y.1 ≤ m + 1 ∧ y.2 = (l.take y.1).map nI) (fun y => m + 1 - y.1) (0, []) ⟨Nat.zero_le _, rfl⟩ (ti _ 1) (fun ⟨j, A⟩ ⟨hj, hA⟩ => ?_)
          simp only at hj hA
          have hal : A.length ≤ 1000 := by rw [hA, List.length_map, List.length_take]; omega
          rcases Nat.lt_or_ge j (m + 1) with hjl | hjg
          · obtain ⟨u, hu⟩ := get_ok (show j < l.length by omega)
            have hn2 : A ++ [nI u] = (l.take (j + 1)).map nI := by rw [hA, List.take_add_one, hu]; simp
            repeat' (first
              | refine zW ?_
              | refine zB ?_ ?_ <;> intro h <;> try exact zk h
              | refine zI w (.d (.ep [nI u])) hu ?_
              | refine zAp ?_
              | (exact ⟨(j + 1, A ++ [nI u]), ⟨hjl, hn2⟩, by simp only; omega, (ti _ 1 (Eq.trans (b := [.room (A.length + 1) 1]) rfl (by simp)))⟩)
              | ((exfalso; simp only [List.length_cons, List.length_map, List.length_nil, decide_eq_true_eq, decide_eq_false_iff_not, beq_iff_eq, beq_eq_false_iff_ne, bne_iff_ne, bne_eq_false_iff_eq, ne_eq, ge_iff_le, Bool.not_eq_false', Bool.not_eq_true'] at *; omega))
              | fail)
          · have hje : j = m + 1 := by omega
            subst hje
            subst hA
            repeat' (first
              | refine zW ?_
              | refine zB ?_ ?_ <;> intro h <;> try exact zk h
              | refine zAp ?_
              | ((exfalso; simp only [List.length_cons, List.length_map, List.length_nil, decide_eq_true_eq, decide_eq_false_iff_not, beq_iff_eq, beq_eq_false_iff_ne, bne_iff_ne, bne_eq_false_iff_eq, ne_eq, ge_iff_le, Bool.not_eq_false', Bool.not_eq_true'] at *; omega))
              | fail)
            refine (id ?_ : Tidy 0 _ _)
            exact (ti [(7, .d (.ep [.sl 10 ((rowT T).map nd)])), (14, .d (.sl 1 (W.map nI)))] 0 (h := ⟨.inl rfl, .inr (by rw [hWe]; rfl), trivial⟩))
    · clear hcc
      have hWm : (W.map nI).length = W.length := by simp
      repeat' (first
        | refine zW ?_
        | refine zB ?_ ?_ <;> intro h <;> try exact zk h
        | (fail)
        | fail)
      refine Run.loopT (fun x : Nat × Nat => ⟨PT.ofList [(7, .d (.ep [.sl 10 ((rowT T).map nd)])), (14, .d (.sl 1 (W.map nI))), (16, .d (nI x.2)), (17, .d (nI x.1))], [], []⟩) (fun x => x.1 ≤ W.length ∧ goT T.q 0 (W.take x.1) = some x.2) (fun x => W.length - x.1) (0, 0) ⟨Nat.zero_le _, rfl⟩ (ti _ 0) (fun ⟨j, n0⟩ ⟨hj, hg⟩ => ?_)
      simp only at hj hg
      have hn0 := goT_le (Nat.zero_le _) hg
      have hN := rowT_get (T := T) hn0
      have hrl := rowT_len T
      have h9 : (ndT T n0).x.length = 9 := by simp [ndT]
      have hp : (ndT T n0).p = T.v.getD n0 (-1) := rfl
      rcases Nat.lt_or_ge j W.length with hjl | hjg
      · obtain ⟨e, he⟩ := get_ok hjl
        have he8 := hW8 e (List.mem_of_getElem? he)
        have hx := ndT_x (T := T) (a := n0) (show e < 9 by omega)
        have hgt := goT_take hg he
        generalize ndT T n0 = nn at *
        obtain ⟨nx, np⟩ := nn
        obtain ⟨R, hR⟩ := drop9 (n := ⟨nx, np⟩) h9 hx
        obtain ⟨a0, a1, a2, a3, a4, a5, a6, a7, a8, rfl⟩ := nine h9
        by_cases hin : (n0, e) ∈ T.q
        · rw [if_pos hin] at hgt
          have hne := toT_ne.2 hin
          generalize toT T.q n0 e = v at *
          repeat' (first
            | refine zW ?_
            | refine zB ?_ ?_ <;> intro h <;> try exact zk h
            | refine zI w (.d (.ep [nI e])) he ?_
            | refine zI w (.d (.ep (ndC ⟨[a0, a1, a2, a3, a4, a5, a6, a7, a8], np⟩))) hN ?_
            | refine eCw hR ?_ (hf := flag9 (by omega))
            | (exact ⟨(j + 1, v), ⟨by omega, hgt⟩, by simp only; omega, (ti _ 0)⟩)
            | ((exfalso; simp only [List.length_cons, List.length_map, List.length_nil, decide_eq_true_eq, decide_eq_false_iff_not, beq_iff_eq, beq_eq_false_iff_ne, bne_iff_ne, bne_eq_false_iff_eq, ne_eq, ge_iff_le, Bool.not_eq_false', Bool.not_eq_true'] at *; omega))
            | fail)
        · rw [if_neg hin] at hgt
          rw [show goR T W = (0, 24) from by unfold goR; rw [goT_stop hgt]]
          rw [toT_not hin] at hx hR
          repeat' (first
            | refine zW ?_
            | refine zB ?_ ?_ <;> intro h <;> try exact zk h
            | refine zI w (.d (.ep [nI e])) he ?_
            | refine zI w (.d (.ep (ndC ⟨[a0, a1, a2, a3, a4, a5, a6, a7, a8], np⟩))) hN ?_
            | refine eCw hR ?_ (hf := flag9 (by omega))
            | rfl
            | ((exfalso; simp only [List.length_cons, List.length_map, List.length_nil, decide_eq_true_eq, decide_eq_false_iff_not, beq_iff_eq, beq_eq_false_iff_ne, bne_iff_ne, bne_eq_false_iff_eq, ne_eq, ge_iff_le, Bool.not_eq_false', Bool.not_eq_true'] at *; omega))
            | fail)
      · have hje : j = W.length := by omega
        subst hje
        rw [List.take_length] at hg
        rw [show goR T W = if 0 ≤ T.v.getD n0 (-1) then (T.v.getD n0 (-1), 0) else (0, 24) from by unfold goR; rw [hg]]
        rw [← hp]
        generalize ndT T n0 = nn at *
        obtain ⟨nx, np⟩ := nn
        obtain ⟨a0, a1, a2, a3, a4, a5, a6, a7, a8, rfl⟩ := nine h9
        clear hp
        by_cases hnp : 0 ≤ np
        · rw [if_pos hnp]
          repeat' (first
            | refine zW ?_
            | refine zB ?_ ?_ <;> intro h <;> try exact zk h
            | refine zI w (.d (.ep (ndC ⟨[a0, a1, a2, a3, a4, a5, a6, a7, a8], np⟩))) hN ?_
            | refine zI w (.d (.ep (ndC ⟨[a0, a1, a2, a3, a4, a5, a6, a7, a8], np⟩))) hN ?_
            | rfl
            | ((exfalso; simp only [List.length_cons, List.length_map, List.length_nil, decide_eq_true_eq, decide_eq_false_iff_not, beq_iff_eq, beq_eq_false_iff_ne, bne_iff_ne, bne_eq_false_iff_eq, ne_eq, ge_iff_le, Bool.not_eq_false', Bool.not_eq_true'] at *; omega))
            | fail)
        · rw [if_neg hnp]
          repeat' (first
            | refine zW ?_
            | refine zB ?_ ?_ <;> intro h <;> try exact zk h
            | refine zI w (.d (.ep (ndC ⟨[a0, a1, a2, a3, a4, a5, a6, a7, a8], np⟩))) hN ?_
            | refine zI w (.d (.ep (ndC ⟨[a0, a1, a2, a3, a4, a5, a6, a7, a8], np⟩))) hN ?_
            | rfl
            | ((exfalso; simp only [List.length_cons, List.length_map, List.length_nil, decide_eq_true_eq, decide_eq_false_iff_not, beq_iff_eq, beq_eq_false_iff_ne, bne_iff_ne, bne_eq_false_iff_eq, ne_eq, ge_iff_le, Bool.not_eq_false', Bool.not_eq_true'] at *; omega))
            | fail)
theorem validE (k t pr : Int) : KnownCall Try.prog 59 [iI k, iI t, iI pr, trD []] (.d (.bool false)) := by
  refine kF Try.func59 [6, 7] fun w => ?_
  repeat' (first
    | refine zW ?_
    | refine zB ?_ ?_ <;> intro h <;> try exact zk h
    | refine zX ?_
    | rfl
    | ((exfalso; simp at h <;> fail))
    | fail)
theorem trCheck2 (N : List Nd) (k t pr : Int) (hb : sizE k t ≠ 0 ∨ pr < 0 ∨ 24 < pr) : KnownCall Try.prog 21 [iI k, iI t, iI pr, trD N] (.d (iI 2)) := by
  have c0 := sizesK k t
  generalize sizE k t = z at *
  refine kF Try.func21 [7] fun w => ?_
  repeat' (first
    | refine zW ?_
    | refine zB ?_ ?_ <;> intro h <;> try exact zk h
    | refine zC (c0) ?_
    | rfl
    | ((exfalso; simp only [decide_eq_true_eq, decide_eq_false_iff_not, bne_iff_ne, ne_eq, bne_eq_false_iff_eq, gt_iff_lt] at *; omega))
    | fail)
theorem checkBoth (N : List Nd) (h9 : N9 N) (hl : N.length ≤ 1000) (k t pr : Int) : ∃ e : Int, KnownCall Try.prog 21 [iI k, iI t, iI pr, trD N] (.d (iI e)) ∧ KnownCall Try.prog 22 [iI k, iI t, iI pr, trD N] (.d (iI e)) ∧
    (e = 0 → ∃ kn tn n : Nat, k = kn ∧ t = tn ∧ pr = n ∧ sizE k t = 0 ∧ n ≤ 24 ∧ RightT kn tn n N) := by
  by_cases hb : sizE k t ≠ 0 ∨ pr < 0 ∨ 24 < pr
  · exact ⟨2, trCheck2 N k t pr hb, refCheck2 N k t pr hb, fun e => by cases e⟩
  · have hs : sizE k t = 0 := by
      by_cases h : sizE k t = 0
      · exact h
      · exact absurd (.inl h) hb
    have hk := sizE_ok hs
    have hp : 0 ≤ pr ∧ pr ≤ 24 := ⟨Int.not_lt.1 fun h => hb (.inr (.inl h)), Int.not_lt.1 fun h => hb (.inr (.inr h))⟩
    clear hb
    obtain ⟨kn, rfl⟩ : ∃ q : Nat, k = q := ⟨k.toNat, by omega⟩
    obtain ⟨tn, rfl⟩ : ∃ q : Nat, t = q := ⟨t.toNat, by omega⟩
    obtain ⟨n, rfl⟩ : ∃ q : Nat, pr = q := ⟨pr.toNat, by omega⟩
    have hk4 : kn ≤ 4 := by omega
    have hn24 : n ≤ 24 := by omega
    have hpr := prog_right (t := tn) hk4 hn24 (N := N)
    have hrr := ref_right (t := tn) hk4 hn24 (N := N)
    by_cases hr : RightT kn tn n N
    · refine ⟨0, ?_, ?_, fun _ => ⟨kn, tn, n, rfl, rfl, rfl, hs, hn24, hr⟩⟩
      · obtain ⟨h0, h1⟩ := hpr.2 hr
        have := trCheckK N kn tn hs n hp.1 hp.2 true (validA N h9 hl h0 kn tn hk4 n hp.2 true ⟨fun _ => h1, fun _ => rfl⟩)
        exact this
      · obtain ⟨E, h1, h2⟩ := hrr.2 hr
        exact refCheckS N h9 hl kn tn hs n hn24 E h1 0 (by rw [if_pos h2])
    · refine ⟨3, ?_, ?_, fun e => by cases e⟩
      · have hv : KnownCall Try.prog 59 [nI kn, nI tn, nI n, trD N] (.d (.bool false)) := by
          rcases Nat.eq_zero_or_pos N.length with h0 | h0
          · have : N = [] := List.length_eq_zero_iff.1 h0
            subst this
            exact validE kn tn n
          · exact validA N h9 hl h0 kn tn hk4 n hp.2 false ⟨fun h => (by cases h), fun h => absurd (hpr.1 ⟨h0, h⟩) hr⟩
        exact trCheckK N kn tn hs n hp.1 hp.2 false hv
      · by_cases hE : ∃ E, entF N N.length 0 [] N.length = some (E, 0)
        · obtain ⟨E, hE⟩ := hE
          exact refCheckS N h9 hl kn tn hs n hn24 E hE 3 (by rw [if_neg fun h => hr (hrr.1 ⟨E, hE, h⟩)])
        · exact refCheck3 N h9 hl kn tn hs n hn24 fun E h => hE ⟨E, h⟩
theorem trChooseE (N : List Nd) (k t e : Int) (he : e ≠ 0) (hcc : KnownCall Try.prog 21 [iI k, iI t, iI 24, trD N] (.d (iI e))) (ld : DV) (b : Bool) : KnownCall Try.prog 23 [iI k, iI t, trD N, ld, .bool b] (.tup [.d (iI 0), .d (iI e)]) := by
  refine kF Try.func23 [6, 7] fun w => ?_
  repeat' (first
    | refine zW ?_
    | refine zB ?_ ?_ <;> intro h <;> try exact zk h
    | refine zX ?_
    | refine zC (hcc) ?_
    | rfl
    | ((exfalso; simp [he] at h <;> fail))
    | fail)
theorem trChooseB (N : List Nd) (k : Int) (t : Nat) (hcc : KnownCall Try.prog 21 [iI k, iI t, iI 24, trD N] (.d (iI 0))) (l : List Int) (hl : l.length ≤ 1000) (hb : l.any (badT t) = true) (b : Bool) : KnownCall Try.prog 23 [iI k, iI t, trD N, .sl 1 (l.map iI), .bool b] (.tup [.d (iI 0), .d (iI 2)]) := by
  have c := containsFuncInts l (by omega) 63 [.ep [iI t]] (badT t) (fun x _ => badS t x)
  rw [hb] at c
  refine kF Try.func23 [6, 7] fun w => ?_
  repeat' (first
    | refine zW ?_
    | refine zB ?_ ?_ <;> intro h <;> try exact zk h
    | refine zX ?_
    | refine zC (hcc) ?_
    | refine zC (c) ?_
    | rfl
    | ((exfalso; simp at h <;> fail))
    | fail)
theorem chooseBoth (N : List Nd) (h9 : N9 N) (hl : N.length ≤ 1000) (k t : Int) (l : List Int) (hln : l.length ≤ 1000) (b : Bool) : ∃ x y : Int, KnownCall Try.prog 23 [iI k, iI t, trD N, .sl 1 (l.map iI), .bool b] (.tup [.d (iI x), .d (iI y)]) ∧ KnownCall Try.prog 24 [iI k, iI t, trD N, .sl 1 (l.map iI), .bool b] (.tup [.d (iI x), .d (iI y)]) := by
  obtain ⟨e, c1, c2, h0⟩ := checkBoth N h9 hl k t 24
  by_cases he : e = 0
  · obtain ⟨kn, tn, n, rfl, rfl, hn, hs, _, S, P, hb, _, rfl⟩ := h0 he
    subst he
    by_cases hbd : l.any (badT tn) = true
    · exact ⟨0, 2, trChooseB _ kn tn c1 l hln hbd b, refChooseB _ kn tn c2 l hln hbd b⟩
    · have hk := sizE_ok hs
      have hall : ∀ x ∈ l, ∃ u : Nat, x = u ∧ u < tn := fun x hx => by
        have : ¬ badT tn x = true := fun h => hbd (List.any_eq_true.2 ⟨x, hx, h⟩)
        simp only [badT, Bool.or_eq_true, decide_eq_true_eq] at this
        exact ⟨x.toNat, by omega, by omega⟩
      obtain ⟨m, rfl⟩ : ∃ q, kn = q + 1 := ⟨kn - 1, by omega⟩
      obtain ⟨l', rfl, hl'⟩ : ∃ l' : List Nat, l = l'.map (fun (u : Nat) => (u : Int)) ∧ ∀ u ∈ l', u < tn := by
        refine ⟨l.map Int.toNat, ?_, fun u hu => ?_⟩
        · rw [List.map_map]
          conv => lhs; rw [← List.map_id l]
          refine List.map_congr_left fun x hx => ?_
          obtain ⟨u, rfl, _⟩ := hall x hx
          simp
        · obtain ⟨x, hx, rfl⟩ := List.mem_map.1 hu
          obtain ⟨u, rfl, h⟩ := hall x hx
          simpa using h
      rw [List.length_map] at hln
      rw [List.map_map]
      refine ⟨_, _, chooseK3 _ hb.fin.ok hl m tn (by omega) (by omega) c1 _ l' ?_ hl' hln b, refChooseK _ hb.fin.ok hl m tn (by omega) (by omega) c2 l' hl' hln b⟩
      cases l' with
      | nil => exact .inr (.inr ⟨rfl, rfl⟩)
      | cons a l' => exact .inr (.inl ⟨a, l', rfl, rfl⟩)
  · exact ⟨0, e, trChooseE N k t e he c1 _ b, refChooseE N k t e he c2 l b⟩
abbrev ascL (L : List (List Nat)) : Prop := L.Pairwise fun x y => cmpL x y < 0
set_option maxHeartbeats 1000000 in
theorem mergeA (a b : List (List Nat)) (ha : ∀ x ∈ a, Rt x) (hb : ∀ x ∈ b, Rt x) (hs : ascL (a ++ b)) (hl : a.length + b.length ≤ 100000) : KnownCall Try.prog 78 [lks a, lks b] (.d (lks (a ++ b))) := by
  generalize hR : a ++ b = R
  rw [hR] at hs
  refine kF Try.func78 [34, 44] fun w => ?_
  repeat' (first
    | refine zW ?_
    | refine zB ?_ ?_ <;> intro h <;> try exact zk h
    | refine zX ?_
    | fail)
  refine Run.mkRoom 5 5 [(0, .d (lks a)), (1, .d (lks b)), (5, .sr 0 5 [])] rfl (ofList_cases (by intro p hp; simp at hp; rcases hp with rfl | rfl | rfl; exact .inr (by kernel_rfl); exact .inr (by kernel_rfl); exact .inl ⟨rfl, rfl⟩)) ?_
  refine Run.loopT (fun y : List (List Nat) × List (List Nat) × List DV => ⟨PT.ofList [(0, .d (lks y.1)), (1, .d (lks y.2.1)), (5, .sr 0 5 y.2.2)], [.room y.2.2.length 5], []⟩)
    (fun y => (∀ x ∈ y.1, Rt x) ∧ (∀ x ∈ y.2.1, Rt x) ∧ y.1.length + y.2.1.length + y.2.2.length ≤ 100000 ∧ ascL (y.1 ++ y.2.1) ∧ y.2.2 ++ (y.1 ++ y.2.1).map lk = R.map lk) (fun y => y.1.length + y.2.1.length) (a, b, []) ⟨ha, hb, by simpa using hl, by rw [hR]; exact hs, by rw [hR]; rfl⟩ (ti _ 1) (fun y hy => ?_)
  obtain ⟨a, b, acc⟩ := y
  obtain ⟨ha, hb, hal, hs, hacc⟩ := hy
  simp only at ha hb hal hs hacc ⊢
  match a, b, ha, hb, hal, hs, hacc with
  | [], [], ha, hb, hal, hs, hacc =>
    have he : acc = R.map lk := by simpa using hacc
    subst he
    repeat' (first
      | refine zW ?_
      | refine zB ?_ ?_ <;> intro h <;> try exact zk h
      | refine zX ?_
      | rfl
      | fail)
  | [], y :: b, ha, hb, hal, hs, hacc =>
    have hy0 : (y :: b)[0]? = some y := rfl
    have hb' : ∀ x ∈ b, Rt x := fun x hx => hb x (by simp [hx])
    simp only [List.length_nil, List.length_cons, Nat.zero_add] at hal
    have hs' : ascL ([] ++ b) := (List.pairwise_cons.1 hs).2
    have g1 : (acc ++ [lk y]) ++ ([] ++ b).map lk = R.map lk := by simpa using hacc
    repeat' (first
      | refine zW ?_
      | refine zB ?_ ?_ <;> intro h <;> try exact zk h
      | refine zX ?_
      | refine zI w (.d (.ep (lkC y))) hy0 ?_
      | refine zCut rfl ?_
      | refine zAp ?_
      | rfl
      | (exact ⟨([], b, acc ++ [lk y]), ⟨ha, hb', by simp only [List.length_append, List.length_cons, List.length_nil]; omega, hs', g1⟩, by simp, (ti _ 1 (Eq.trans (b := [.room (acc.length + 1) 5]) rfl (by simp)))⟩)
      | fail)
  | x :: a, [], ha, hb, hal, hs, hacc =>
    have hx0 : (x :: a)[0]? = some x := rfl
    have ha' : ∀ x ∈ a, Rt x := fun y hy => ha y (by simp [hy])
    simp only [List.length_nil, List.length_cons, Nat.add_zero] at hal
    have hs' : ascL (a ++ []) := (List.pairwise_cons.1 hs).2
    have g1 : (acc ++ [lk x]) ++ (a ++ []).map lk = R.map lk := by simpa using hacc
    repeat' (first
      | refine zW ?_
      | refine zB ?_ ?_ <;> intro h <;> try exact zk h
      | refine zX ?_
      | refine zI w (.d (.ep (lkC x))) hx0 ?_
      | refine zCut rfl ?_
      | refine zAp ?_
      | rfl
      | (exact ⟨(a, [], acc ++ [lk x]), ⟨ha', hb, by simp only [List.length_append, List.length_cons, List.length_nil]; omega, hs', g1⟩, by simp, (ti _ 1 (Eq.trans (b := [.room (acc.length + 1) 5]) rfl (by simp)))⟩)
      | fail)
  | x :: a, y :: b, ha, hb, hal, hs, hacc =>
    have hx0 : (x :: a)[0]? = some x := rfl
    have hy0 : (y :: b)[0]? = some y := rfl
    have ha' : ∀ x ∈ a, Rt x := fun y hy => ha y (by simp [hy])
    have hc := compareS14 x y (ha x (by simp)) (hb y (by simp))
    have hs' : ascL (a ++ y :: b) := (List.pairwise_cons.1 hs).2
    have hlt : cmpL x y < 0 := (List.pairwise_cons.1 hs).1 y (by simp)
    simp only [List.length_cons] at hal
    have g1 : (acc ++ [lk x]) ++ (a ++ y :: b).map lk = R.map lk := by simpa using hacc
    generalize cmpL x y = cv at hc hlt
    repeat' (first
      | refine zW ?_
      | refine zB ?_ ?_ <;> intro h <;> try exact zk h
      | refine zX ?_
      | refine zC (hc) ?_
      | refine zI w (.d (.ep (lkC x))) hx0 ?_
      | refine zI w (.d (.ep (lkC y))) hy0 ?_
      | refine zCut rfl ?_
      | refine zAp ?_
      | rfl
      | (exact ⟨(a, y :: b, acc ++ [lk x]), ⟨ha', hb, by simp only [List.length_append, List.length_cons, List.length_nil]; omega, hs', g1⟩, by simp, (ti _ 1 (Eq.trans (b := [.room (acc.length + 1) 5]) rfl (by simp)))⟩)
      | ((exfalso; simp only [decide_eq_true_eq, decide_eq_false_iff_not, ge_iff_le, gt_iff_lt] at *; omega))
      | fail)
theorem halfA (n : Nat) (h : n ≤ 1048576) : AV.d (.int .i64 (IntKind.i64.wrap (Int.tdiv (n : Int) 2))) = .d (nI (n / 2)) := by
  congr 2
  rw [show Int.tdiv (n : Int) 2 = ((n / 2 : Nat) : Int) by rw [Int.tdiv_eq_ediv_of_nonneg (by omega)]; omega]
  exact wrap_nat (by omega)
theorem sortedOneA (l : List (List Nat)) (h : l.length < 2) : KnownCall Try.prog 80 [lks l] (.d (lks l)) := by
  have w : Fz [] := trivial
  refine knownE2 Et_ok (fnB Try.func80 []) ?_
  repeat' (first
    | refine zW ?_
    | refine zB ?_ ?_ <;> intro h <;> try exact zk h
    | refine zAp ?_
    | (refine Run.ret ?_; refine r2 ?_; first | done | (exact .refl))
    | ((exfalso; simp only [List.length_map, decide_eq_true_eq, decide_eq_false_iff_not] at *; omega))
    | fail)
theorem sortedA : ∀ (n : Nat) (l : List (List Nat)), l.length ≤ n → n ≤ 100000 → (∀ x ∈ l, Rt x) → ascL l → KnownCall Try.prog 80 [lks l] (.d (lks l))
  | 0, l, h, _, _, _ => by
    have e : l = [] := List.length_eq_zero_iff.1 (by omega)
    subst e; exact sortedOneA [] (by simp)
  | n + 1, l, h, hn, hR, hs => by
    by_cases h2 : l.length < 2
    · exact sortedOneA l h2
    have ht := List.take_append_drop (l.length / 2) l
    have c1 := sortedA n (l.take (l.length / 2)) (by rw [List.length_take]; omega) (by omega) (fun x hx => hR x (List.mem_of_mem_take hx)) (hs.sublist (List.take_sublist _ _))
    have c2 := sortedA n (l.drop (l.length / 2)) (by rw [List.length_drop]; omega) (by omega) (fun x hx => hR x (List.mem_of_mem_drop hx)) (hs.sublist (List.drop_sublist _ _))
    have c3 := mergeA (l.take (l.length / 2)) (l.drop (l.length / 2)) (fun x hx => hR x (List.mem_of_mem_take hx)) (fun x hx => hR x (List.mem_of_mem_drop hx)) (by rw [ht]; exact hs) (by rw [List.length_take, List.length_drop]; omega)
    rw [ht] at c3
    have hv : AV.d (.int .i64 (IntKind.i64.wrap (Int.tdiv ((l.map lk).length : Nat) 2))) = .d (nI (l.length / 2)) := by rw [List.length_map]; exact halfA l.length (by omega)
    have k1 : AV.d (.sl 5 (cutL none (some ((l.length / 2 : Nat) : Int)) (l.map lk))) = .d (lks (l.take (l.length / 2))) := by simp only [cutL, Int.toNat_natCast]; rw [← List.map_take]
    have k2 : AV.d (.sl 5 (cutL (some ((l.length / 2 : Nat) : Int)) none (l.map lk))) = .d (lks (l.drop (l.length / 2))) := by simp only [cutL, Int.toNat_natCast]; rw [← List.map_drop]
    clear ht
    generalize l.take (l.length / 2) = A1 at *
    generalize l.drop (l.length / 2) = A2 at *
    have hm : l.length / 2 ≤ (l.map lk).length := by rw [List.length_map]; omega
    have hml : (l.map lk).length = l.length := List.length_map _
    generalize hmd : l.length / 2 = m at *
    refine kF Try.func80 [] fun w => ?_
    repeat' (first
      | refine zV hv ?_
      | refine zW ?_
      | refine zB ?_ ?_ <;> intro h <;> try exact zk h
      | refine zC (c1) ?_
      | refine zC (c2) ?_
      | refine zC (c3) ?_
      | refine zCut k1 ?_
      | refine zCut k2 ?_
      | rfl
      | ((exfalso; simp only [List.length_map, decide_eq_true_eq, decide_eq_false_iff_not] at *; omega))
      | fail)
theorem range8A (t : Nat) (h1 : 1 ≤ t) (h8 : t ≤ 8) : KnownCall Try.prog 99 [nI t] (.d (iI 0)) := by
  refine kF Try.func99 [] fun w => ?_
  repeat' (first
    | refine zW ?_
    | refine zB ?_ ?_ <;> intro h <;> try exact zk h
    | rfl
    | ((exfalso; simp only [decide_eq_true_eq, decide_eq_false_iff_not, gt_iff_lt] at *; omega))
    | fail)
theorem ofA (t : Nat) (h1 : 1 ≤ t) (h8 : t ≤ 8) (l : List (List Nat)) (hR : ∀ x ∈ l, Rt x ∧ ∀ u ∈ x, u < t) (hs : ascL l) (hl : l.length ≤ 10000) : KnownCall Try.prog 66 [nI t, lks l] (.tup [.d (lks l), .d (iI 0)]) := by
  have c1 := range8A t h1 h8
  have c2 := sortedA l.length l (Nat.le_refl _) (by omega) (fun x hx => (hR x hx).1) hs
  have hml : (l.map lk).length = l.length := List.length_map _
  refine kF Try.func66 [] fun w => ?_
  repeat' (first
    | refine zW ?_
    | refine zB ?_ ?_ <;> intro h <;> try exact zk h
    | refine zC (c1) ?_
    | ((exfalso; simp only [List.length_map, decide_eq_true_eq, decide_eq_false_iff_not, gt_iff_lt] at *; omega))
    | fail)
  refine Run.loopT (fun i : Nat => ⟨PT.ofList [(0, .d (nI t)), (1, .d (lks l)), (6, .d (iI 0)), (7, .d (nI i))], [], []⟩) (fun i => i ≤ l.length) (fun i => l.length - i) 0 (Nat.zero_le _) (ti _ 0) (fun i hi => ?_)
  rcases Nat.lt_or_ge i l.length with hlt | hge
  · obtain ⟨x, hx⟩ := get_ok hlt
    have hxm := hR x (List.mem_of_getElem? hx)
    have c3 := chkRef (rawOf x) t
    rw [chkR_lk hxm.1.len (by omega) (by omega) (fun u hu => by have := hxm.2 u hu; omega), rw5_of] at c3
    repeat' (first
      | refine zW ?_
      | refine zB ?_ ?_ <;> intro h <;> try exact zk h
      | refine zI w (.d (.ep (lkC x))) hx ?_
      | refine zC (c3) ?_
      | (exact ⟨i + 1, hlt, by omega, (ti _ 0)⟩)
      | ((exfalso; simp only [List.length_map, decide_eq_true_eq, decide_eq_false_iff_not, gt_iff_lt] at *; omega))
      | fail)
  · have hie : i = l.length := by omega
    subst hie
    repeat' (first
      | refine zW ?_
      | refine zB ?_ ?_ <;> intro h <;> try exact zk h
      | refine zC (c2) ?_
      | rfl
      | ((exfalso; simp only [List.length_map, decide_eq_true_eq, decide_eq_false_iff_not, gt_iff_lt] at *; omega))
      | fail)
end Go.Av
end

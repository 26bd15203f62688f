/-
  Parts of the way to the law, joined. Conditions stand at each.
-/
import Derived.Test.YtpcomlcjkdmggaaGreatMFA4
import Derived.Test.YtpcomlcjkdmggaaGreatMFA3
set_option linter.all false
noncomputable section
namespace Go.Av
open Go Go.Proofs
set_option maxRecDepth 10000
def mapsT (S : Sets) : Nat → List Ob
  | 0 => []
  | n + 1 => mapsT S n ++ [.gone, .pm (kvT (S n)), .gone]
theorem mapsT_len (S : Sets) : ∀ n, (mapsT S n).length = 3 * n
  | 0 => rfl
  | n + 1 => by simp [mapsT, mapsT_len S n]; omega
theorem mapsT_at {S : Sets} : ∀ {n a : Nat}, a < n → (mapsT S n)[3 * a + 1]? = some (.pm (kvT (S a)))
  | n + 1, a, h => by
    rcases Nat.lt_or_ge a n with h1 | h1
    · exact getO (mapsT_at h1)
    · have : a = n := by omega
      subst this
      have := get1 (M := mapsT S a) (X := [Ob.gone]) (a := .gone) (b := .pm (kvT (S a)))
      rwa [mapsT_len] at this
theorem mapsT_refs {S : Sets} {m : Nat} : ∀ n, (mapsT S n).all (refOb m) = true
  | 0 => rfl
  | n + 1 => by simp only [mapsT]; rw [List.all_append, mapsT_refs n]; rfl
theorem mapsT_far {S : Sets} {a : Nat} {X : List (List Nat)} : ∀ {n}, n ≤ a → mapsT (updT S a X) n = mapsT S n
  | 0, _ => rfl
  | n + 1, h => by
    simp only [mapsT]
    rw [mapsT_far (by omega), updT, if_neg (by omega)]
theorem mapsT_set {S : Sets} {a : Nat} {X : List (List Nat)} : ∀ {n}, a < n → (mapsT S n).set (3 * a + 1) (.pm (kvT X)) = mapsT (updT S a X) n
  | n + 1, h => by
    rcases Nat.lt_or_ge a n with h1 | h1
    · simp only [mapsT]
      rw [setO (by rw [mapsT_len]; omega), mapsT_set h1]
      simp only [updT, if_neg (show n ≠ a by omega)]
    · have : a = n := by omega
      subst this
      simp only [mapsT]
      have := setL1 (M := mapsT S a) (X := [Ob.gone]) (a := .gone) (b := .pm (kvT (S a))) (c := .pm (kvT X))
      rw [mapsT_len] at this
      rw [this, mapsT_far (Nat.le_refl _), updT, if_pos rfl]
def cellsT (n : Nat) : List AV := (List.range n).map fun a => .mp (3 * a + 3)
theorem cellsT_len (n : Nat) : (cellsT n).length = n := by simp [cellsT]
theorem cellsT_succ (n : Nat) : cellsT (n + 1) = cellsT n ++ [.mp (3 * n + 3)] := by simp [cellsT, List.range_succ]
theorem cellsT_at {n a : Nat} (h : a < n) : (cellsT n)[a]? = some (.mp (3 * a + 3)) := by simp [cellsT, h]
theorem cellsT_refs {n m : Nat} (h : 2 + 3 * n ≤ m) : (cellsT n).all (refA 8 m) = true := by
  simp only [cellsT, List.all_map, List.all_eq_true, List.mem_range]
  intro a ha
  simp [refA, Nat.blt_eq]; omega
def objT (x y : Ob) (S : Sets) (n : Nat) : List Ob := x :: y :: (mapsT S n ++ [.vec 62 false 1 n (cellsT n)])
theorem objT_len (x y : Ob) (S : Sets) (n : Nat) : (objT x y S n).length = 3 * n + 3 := by simp [objT, mapsT_len]
theorem objT_row {x y : Ob} {S : Sets} {n : Nat} {X : List Ob} : (objT x y S n ++ X)[2 + 3 * n]? = some (.vec 62 false 1 n (cellsT n)) := by
  refine getO ?_
  rw [show 2 + 3 * n = 3 * n + 1 + 1 by omega]
  have := get0 (M := mapsT S n) (X := []) (a := .vec 62 false 1 n (cellsT n))
  rwa [mapsT_len] at this
theorem objT_at {x y : Ob} {S : Sets} {n a : Nat} {X : List Ob} (h : a < n) : (objT x y S n ++ X)[3 * a + 3]? = some (.pm (kvT (S a))) := by
  refine getO ?_
  rw [show 3 * a + 3 = 3 * a + 1 + 1 + 1 by omega]
  exact getO (mapsT_at h)
theorem objT_refs {x y : Ob} {S : Sets} {n m : Nat} (hx : refOb m x = true) (hy : refOb m y = true) (h : 3 * n + 3 ≤ m) : (objT x y S n).all (refOb m) = true := by
  simp only [objT, List.all_cons, hx, hy, Bool.true_and]
  rw [List.all_append, mapsT_refs]
  simp only [List.all_cons, List.all_nil, Bool.and_true, Bool.true_and, refOb]
  exact cellsT_refs (by omega)
theorem objT_set {x y : Ob} {S : Sets} {n a : Nat} {X : List (List Nat)} (h : a < n) : (objT x y S n).set (3 * a + 3) (.pm (kvT X)) = objT x y (updT S a X) n := by
  unfold objT
  rw [show 3 * a + 3 = 3 * a + 1 + 1 + 1 by omega, List.set_cons_succ, List.set_cons_succ, setO (by rw [mapsT_len]; omega), mapsT_set h]
theorem objT_grow {x y L V : Ob} {S : Sets} {n : Nat} : ((objT x y S n ++ [Ob.map []]) ++ [L]).set (2 + 3 * n) .gone ++ [V] = x :: y :: (mapsT S n ++ [.gone, .map [], L, V]) := by
  have := setL0 (M := mapsT S n) (X := [Ob.map [], L]) (a := .vec 62 false 1 n (cellsT n)) (c := .gone)
  rw [mapsT_len] at this
  simp only [objT, List.cons_append, List.append_assoc, List.nil_append]
  rw [show 2 + 3 * n = 3 * n + 1 + 1 by omega, List.set_cons_succ, List.set_cons_succ, this]
  simp
theorem tbs_obj {x y : Ob} {k : Nat} {S : Sets} {n b : Nat} (hS : SOK k S) (hn : n ≤ 8) (hb : 3 * n + 3 ≤ b) : TbS (objT x y S n) (.vs (2 + 3 * n) 1 0 n) b n S :=
  ⟨by omega, ⟨2 + 3 * n, cellsT n, rfl, by have := objT_row (x := x) (y := y) (S := S) (n := n) (X := []); rwa [List.append_nil] at this, fun a ha => ⟨3 * a + 3, cellsT_at ha, by have := objT_at (x := x) (y := y) (S := S) (X := []) ha; rwa [List.append_nil] at this, by omega⟩⟩,
    fun a _ => ⟨fun x hx => (hS.rt a x hx).1, Nat.le_trans (rt_card (asc_nodup (hS.asc a)) fun x hx => (hS.rt a x hx).1) (by omega)⟩⟩
theorem getS {Z X : List Ob} {i : Nat} {a b : Ob} : (Z.set i a ++ b :: X)[Z.length]? = some b := by
  have := get0 (M := Z.set i a) (X := X) (a := b)
  rwa [List.length_set] at this
theorem setS {Z X : List Ob} {i : Nat} {a b c : Ob} : (Z.set i a ++ b :: X).set Z.length c = Z.set i a ++ c :: X := by
  have := setL0 (M := Z.set i a) (X := X) (a := b) (c := c)
  rwa [List.length_set] at this
theorem setI {Z X : List Ob} {i : Nat} {a c : Ob} (h : i < Z.length) : (Z.set i a ++ X).set i c = Z.set i c ++ X := by
  rw [setO (by rw [List.length_set]; exact h), List.set_set]
theorem RunOps.rowNew {P : Program} {nt m : Nat} {ro' : Option Nat} {K : Ex → S → Prop} {ops : Array Oper} {lo : List Oper} {tm : PT AV} {dl : List Dl} {x y y' L : Ob} {i : Nat} {cs : List AV} (h : RunOps P nt m ro' ops lo ⟨tm, objT x y (fun _ => []) (i + 1), dl⟩ K) (he : y' = y) (hcs : cs = cellsT (i + 1)) (hx : refOb (3 * (i + 1) + 3) x = true) (hy : refOb (3 * (i + 1) + 3) y = true) (hm : m ≤ 3 * (i + 1) + 3) :
    RunOps P nt m ro' ops lo ⟨tm, x :: y' :: (mapsT (fun _ => []) i ++ [.gone, .map [], L, .vec 62 false 1 (i + 1) cs]), dl⟩ K := by
  rw [he]
  subst hcs
  have e1 := get1 (M := mapsT (fun _ => []) i) (X := [L, .vec 62 false 1 (i + 1) (cellsT (i + 1))]) (a := .gone) (b := .map [])
  have e2 := setL1 (M := mapsT (fun _ => []) i) (X := [L, .vec 62 false 1 (i + 1) (cellsT (i + 1))]) (a := .gone) (b := .map []) (c := .pm (kvT []))
  rw [mapsT_len] at e1 e2
  refine RunOps.closePm (3 * i + 3) (l := []) (kvs := kvT []) (by rw [show 3 * i + 3 = 3 * i + 1 + 1 + 1 by omega]; exact e1) (.refl _) ?_
  rw [show 3 * i + 3 = 3 * i + 1 + 1 + 1 by omega, List.set_cons_succ, List.set_cons_succ, e2]
  have hw : WkObs (x :: y :: (mapsT (fun _ => []) i ++ [.gone, .pm (kvT []), L, .vec 62 false 1 (i + 1) (cellsT (i + 1))])) (objT x y (fun _ => []) (i + 1)) := by
    refine ⟨.refl, .refl, ?_⟩
    simp only [mapsT, List.append_assoc, List.cons_append, List.nil_append]
    generalize mapsT (fun _ => []) i = O
    induction O with
    | nil => exact ⟨.refl, .refl, .gone, .refl, trivial⟩
    | cons a O ih => exact ⟨.refl, ih⟩
  have hl : (x :: y :: (mapsT (fun _ => []) i ++ [.gone, .pm (kvT []), L, .vec 62 false 1 (i + 1) (cellsT (i + 1))])).length = 3 * (i + 1) + 3 := by simp [mapsT_len]; omega
  refine RunOps.wk h hw (by rw [objT_len, hl]) (by rw [hl]; exact hm) ?_
  rw [objT_len]
  exact objT_refs hx hy (Nat.le_refl _)
def encQ (p : Nat × List Nat) : DV := .agg [nI (16 + p.1), .sl 1 (p.2.map nI)]
abbrev bx0 : Ob := .box (List.map AV.d ty59.zero)
abbrev tbx (k : Nat) (g : DV × DV × DV × DV × DV) (n : Nat) : Ob := .box (tbC k g (.vs (2 + 3 * n) 1 0 n))
abbrev oT1 (k : Nat) (g : DV × DV × DV × DV × DV) (i : Nat) : List Ob := objT (.box (List.map AV.d ty59.zero)) (.box (tbC k g (.vs (2 + 3 * i) 1 0 i))) (fun _ => []) i
set_option maxHeartbeats 4000000 in
theorem setsA (k : Nat) (hk1 : 1 ≤ k) (hk : k ≤ 4) (ga gb gd : DV) (nms : List DV) (n : Nat) (hnl : nms.length = n) (hn : n ≤ 8) (ps : List (Nat × List Nat)) (hps : PrOK n ps) (hpl : ps.length ≤ 1000) :
    ACall Tryz.prog 27 [.d (.agg [nI k, ga, gb, .sl 1 nms, gd, .sl 2 (ps.map encQ)])] [] (.agg (tbC k (ga, gb, .sl 1 nms, gd, .sl 2 (ps.map encQ)) (.vs (2 + 3 * n) 1 0 n))) (objT .gone .gone (setsF k n ps) n) := by
  have w : Fz [1, 65555] := trivial
  refine acallG_of_run Et_ok (fnB Tryz.func27 [1, 65555]) rfl rfl (by simp) ?_ ?_ ?_
  · exact objT_refs rfl rfl (by rw [objT_len]; exact Nat.le_refl _)
  · simp [refA, tbC, Nat.blt_eq, objT_len]; omega
  have w : Fz [1, 65555] := trivial
  repeat refine zS ?_
  iterate 2 refine zX ?_
  repeat refine zS ?_
  refine Run.scope ?_
  repeat refine zS ?_
  iterate 4 refine zX ?_
  refine RunOps.nil ?_
  refine Run.cellVec 1 6 62 false 1 ?_
  repeat refine zS ?_
  iterate 4 refine zX ?_
  repeat refine zS ?_
  refine Run.loopT (fun i : Nat => ⟨PT.ofList [(1, .d (.ep [nI k, ga, gb, .sl 1 nms, gd, .sl 2 (ps.map encQ)])), (2, .bp 0 0), (3, .bp 1 0), (13, .d (nI nms.length)), (14, .d (nI i))], objT (.box (List.map AV.d ty59.zero)) (.box (tbC k (ga, gb, .sl 1 nms, gd, .sl 2 (ps.map encQ)) (.vs (2 + 3 * i) 1 0 i))) (fun _ => []) i, []⟩) (fun i => i ≤ n) (fun i => n - i) 0 (Nat.zero_le _) ?_ (fun i hi => ?_)
  · exact tidy_of _ 3 rfl rfl ⟨.inl rfl, .inl rfl, .inl rfl, .inl rfl, .inl rfl, trivial⟩ ⟨rfl, rfl, rfl, rfl, rfl, trivial⟩ rfl rfl
  · rcases Nat.lt_or_ge i n with hin | hin
    · repeat refine zS ?_
      refine zV (lt_true (show i < nms.length by omega)) ?_
      repeat refine zS ?_
      iterate 4 refine zX ?_
      have hmp : (oT1 k (ga, gb, .sl 1 nms, gd, .sl 2 (ps.map encQ)) i).length = 3 * i + 3 := objT_len _ _ _ _
      refine oAppV (i := 2 + 3 * i) (b := (oT1 k (ga, gb, .sl 1 nms, gd, .sl 2 (ps.map encQ)) i ++ [Ob.map []]).length) (len := i) (z := ty62) (c := .mp (oT1 k (ga, gb, .sl 1 nms, gd, .sl 2 (ps.map encQ)) i).length) Et_ok ?_ (by rw [List.append_assoc]; exact objT_row) get0 (Nat.le_refl _) (by show (i + 1) * 8 ≤ _; omega)
      rw [objT_grow]
      iterate 2 refine zX ?_
      refine RunOps.rowNew (x := Ob.box (List.map AV.d ty59.zero)) (y := .box (tbC k (ga, gb, .sl 1 nms, gd, .sl 2 (ps.map encQ)) (.vs (2 + 3 * (i + 1)) 1 0 (i + 1)))) (y' := .box (tbC k (ga, gb, .sl 1 nms, gd, .sl 2 (ps.map encQ)) (.vs _ 1 0 (i + 1)))) ?_ ?_ ?_ rfl ?_ (Nat.zero_le _)
      · repeat refine zS ?_
        iterate 2 refine zX ?_
        refine RunOps.nil ?_
        exact ⟨i + 1, hin, by omega, tidy_of _ (objT (Ob.box (List.map AV.d ty59.zero)) (.box (tbC k (ga, gb, .sl 1 nms, gd, .sl 2 (ps.map encQ)) (.vs (2 + 3 * (i + 1)) 1 0 (i + 1)))) (fun _ => []) (i + 1)).length (List.take_length) (Nat.ble_eq_true_of_le (Nat.zero_le _)) ⟨.inl rfl, .inl rfl, .inl rfl, .inl rfl, .inl (inc_get rfl (by omega)), trivial⟩ ⟨rfl, by simp [refA, Nat.blt_eq, objT_len], by simp [refA, Nat.blt_eq, objT_len], rfl, rfl, trivial⟩ (by rw [objT_len]; exact objT_refs rfl (by simp [refOb, tbC, refA, Nat.blt_eq]; omega) (Nat.le_refl _)) rfl⟩
      · congr 3
        simp only [List.length_append, List.length_cons, List.length_nil, objT_len]
        omega
      · rw [List.take_of_length_le (by rw [cellsT_len]; exact Nat.le_refl _), cellsT_succ]
        exact congrArg (fun z => cellsT i ++ [AV.mp z]) hmp
      · simp [refOb, tbC, refA, Nat.blt_eq]; omega
    · have hie : n = i := by omega
      subst hie
      repeat refine zS ?_
      refine zV (lt_false (show nms.length ≤ n by omega)) ?_
      repeat refine zS ?_
      refine Run.label ?_
      repeat refine zS ?_
      obtain ⟨g5, hg5⟩ : ∃ g5, g5 = (ga, gb, DV.sl 1 nms, gd, DV.sl 2 (ps.map encQ)) := ⟨_, rfl⟩
      have hsok := it_sok (k := k) hk hps.sy
      refine Run.loopT (fun m : Nat => ⟨PT.ofList [(1, .d (.ep [nI k, ga, gb, .sl 1 nms, gd, .sl 2 (ps.map encQ)])), (2, .bp 0 0), (3, .bp 1 0)], objT bx0 (tbx k (ga, gb, .sl 1 nms, gd, .sl 2 (ps.map encQ)) n) (itS k ps m) n, []⟩) (fun m => m ≤ tot (itS k ps m) n) (fun m => n * 6561 - m) 0 (Nat.zero_le _) ?_ (fun m hm => ?_)
      · exact tidy_of _ (objT bx0 (tbx k (ga, gb, .sl 1 nms, gd, .sl 2 (ps.map encQ)) n) (fun _ => []) n).length (List.take_length) (Nat.ble_eq_true_of_le (Nat.zero_le _)) ⟨.inl rfl, .inl rfl, .inl rfl, trivial⟩ ⟨rfl, by simp [refA, Nat.blt_eq, objT_len], by simp [refA, Nat.blt_eq, objT_len], trivial⟩ (by rw [objT_len]; exact objT_refs rfl (by simp [refOb, tbC, refA, Nat.blt_eq]; omega) (Nat.le_refl _)) rfl
      · have hml := tot_le (hsok m) n
        have hSm := hsok m
        have hrd : itS k ps (m + 1) = roundS k ps (itS k ps m) := rfl
        generalize hS : itS k ps m = S at hm hSm hrd hml
        repeat refine zS ?_
        refine zX ?_
        repeat refine zS ?_
        iterate 4 refine zX ?_
        repeat refine zS ?_
        refine Run.loopT (fun y : Nat × Bool => ⟨PT.ofList [(1, .d (.ep [nI k, ga, gb, .sl 1 nms, gd, .sl 2 (ps.map encQ)])), (2, .bp 0 0), (3, .bp 1 0), (4, .d (.bool y.2)), (24, .d (.sl 2 (ps.map encQ))), (25, .d (nI (ps.map encQ).length)), (26, .d (nI y.1))], objT bx0 (tbx k (ga, gb, .sl 1 nms, gd, .sl 2 (ps.map encQ)) n) (roundS k (ps.take y.1) S) n, []⟩)
          (fun y => y.1 ≤ ps.length ∧ (y.2 = true → tot S n < tot (roundS k (ps.take y.1) S) n) ∧ (y.2 = false → roundS k (ps.take y.1) S = S) ∧ tot S n ≤ tot (roundS k (ps.take y.1) S) n ∧ SOK k (roundS k (ps.take y.1) S)) (fun y => ps.length - y.1) (0, false) ⟨Nat.zero_le _, by simp, fun _ => rfl, Nat.le_refl _, hSm⟩ ?_ (fun ⟨j, gr⟩ ⟨i1, i2, i3, i4, i5⟩ => ?_)
        · exact tidy_of _ (objT bx0 (tbx k (ga, gb, .sl 1 nms, gd, .sl 2 (ps.map encQ)) n) S n).length (List.take_length) (Nat.ble_eq_true_of_le (Nat.zero_le _)) ⟨.inl rfl, .inl rfl, .inl rfl, .inl rfl, .inl rfl, .inl rfl, .inl rfl, trivial⟩ ⟨rfl, by simp [refA, Nat.blt_eq, objT_len], by simp [refA, Nat.blt_eq, objT_len], rfl, rfl, rfl, rfl, trivial⟩ (by rw [objT_len]; exact objT_refs rfl (by simp [refOb, tbC, refA, Nat.blt_eq]; omega) (Nat.le_refl _)) rfl
        · simp only at i1 i2 i3 i4 i5
          have hml : (ps.map encQ).length = ps.length := by simp
          rcases Nat.lt_or_ge j ps.length with hjl | hjg
          · obtain ⟨p, hp⟩ := get_ok hjl
            have hpm := List.mem_of_getElem? hp
            have hrn : roundS k (ps.take (j + 1)) S = stepS k (roundS k (ps.take j) S) p := by
              unfold roundS
              rw [List.take_add_one, hp, List.foldl_append]; rfl
            generalize hSj : roundS k (ps.take j) S = Sj at i2 i3 i4 i5 hrn
            repeat refine zS ?_
            refine zV (lt_true (show j < (ps.map encQ).length by omega)) ?_
            repeat refine zS ?_
            have hpe : (ps.map encQ)[j]? = some (encQ p) := by rw [List.getElem?_map, hp]; rfl
            refine oIv w (v := .d (.ep [nI (16 + p.1), .sl 1 (p.2.map nI)])) trivial ?_ (he := by simp [gD, cellsD, encQ, hp])
            iterate 2 refine zX ?_
            refine oV ?_ (hv := evAny_store_last)
            refine RunOps.nil ?_
            refine Run.dropLastD (m := 0) (dl := []) (O := objT bx0 (tbx k (ga, gb, .sl 1 nms, gd, .sl 2 (ps.map encQ)) n) Sj n) (ds := [nI (16 + p.1), .sl 1 (p.2.map nI)]) [(1, .d (.ep [nI k, ga, gb, .sl 1 nms, gd, .sl 2 (ps.map encQ)])), (2, .bp 0 0), (3, .bp 1 0), (4, .d (.bool gr)), (24, .d (.sl 2 (ps.map encQ))), (25, .d (nI (ps.map encQ).length)), (26, .d (nI j)), (6, .d (.ep [nI (16 + p.1), .sl 1 (p.2.map nI)]))] ?_ (Nat.zero_le _) (by rw [objT_len]; exact objT_refs rfl (by simp [refOb, tbC, refA, Nat.blt_eq]; omega) (Nat.le_refl _)) rfl (ofList_cases (by intro q hq; simp only [List.mem_cons, List.not_mem_nil, or_false] at hq; rcases hq with rfl | rfl | rfl | rfl | rfl | rfl | rfl | rfl; exact .inl (by kernel_rfl); exact .inl (by kernel_rfl); exact .inl (by kernel_rfl); exact .inl (by kernel_rfl); exact .inl (by kernel_rfl); exact .inl (by kernel_rfl); exact .inl (by kernel_rfl); exact .inr ⟨0, Nat.zero_le _, by kernel_rfl, rfl⟩)) ⟨rfl, by simp [refA, Nat.blt_eq, objT_len], by simp [refA, Nat.blt_eq, objT_len], rfl, rfl, rfl, rfl, rfl, trivial⟩
            repeat refine zS ?_
            iterate 4 refine zX ?_
            have hlt := hps.lt p hpm
            refine zV (show AV.d (.int .i64 (IntKind.i64.wrap (((16 + p.1 : Nat) : Int) - 16))) = .d (nI p.1) by congr 2; rw [show ((16 + p.1 : Nat) : Int) - 16 = ((p.1 : Nat) : Int) by omega]; exact wrap_nat (by omega)) ?_
            refine zCut (show AV.bp (2 + 3 * n) (0 + ((p.1 : Nat) : Int).toNat * 1) = .bp (2 + 3 * n) p.1 by simp) ?_
            refine oV (v := .mp (3 * p.1 + 3)) ?_ (hv := evAny_loadV rfl rfl rfl rfl (by have := objT_row (x := bx0) (y := tbx k (ga, gb, .sl 1 nms, gd, .sl 2 (ps.map encQ)) n) (S := Sj) (n := n) (X := []); rwa [List.append_nil] at this) (cellsT_at hlt))
            refine zX ?_
            repeat refine zS ?_
            refine oV (v := .agg (tbC k (ga, gb, .sl 1 nms, gd, .sl 2 (ps.map encQ)) (.vs (2 + 3 * n) 1 0 n))) ?_ (hv := evAny_loadAgg rfl rfl rfl rfl rfl rfl) (he := rfl)
            iterate 2 refine zX ?_
            have hol := objT_len bx0 (tbx k (ga, gb, .sl 1 nms, gd, .sl 2 (ps.map encQ)) n) Sj n
            have hor : (objT bx0 (tbx k (ga, gb, .sl 1 nms, gd, .sl 2 (ps.map encQ)) n) Sj n).all (refOb (objT bx0 (tbx k (ga, gb, .sl 1 nms, gd, .sl 2 (ps.map encQ)) n) Sj n).length) = true := by rw [hol]; exact objT_refs rfl (by simp [refOb, tbC, refA, Nat.blt_eq]; omega) (Nat.le_refl _)
            refine oA (ofTA (objT bx0 (tbx k (ga, gb, .sl 1 nms, gd, .sl 2 (ps.map encQ)) n) Sj n) hor k hk1 hk (ga, gb, .sl 1 nms, gd, .sl 2 (ps.map encQ)) (.vs (2 + 3 * n) 1 0 n) n Sj (tbs_obj i5 hn (by rw [hol]; exact Nat.le_refl _)) p.2 (hps.sy p hpm) (hps.len p hpm)) ?_
            have hFk := fst_rt hk (fun a x hx => (i5.rt a x hx).1) emp_rt (hps.sy p hpm) (B := [[]])
            have hFa := fst_asc (k := k) (S := Sj) (l := p.2) emp_asc
            obtain ⟨Z0, hZ0⟩ : ∃ Z0, Z0 = objT bx0 (tbx k (ga, gb, .sl 1 nms, gd, .sl 2 (ps.map encQ)) n) Sj n ++ [Ob.gone, .pm (kvT [[]])] ++ tlF p.2.length (fstF k Sj [[]] p.2) := ⟨_, rfl⟩
            obtain ⟨ix, hix⟩ : ∃ ix, ix = ixO (objT bx0 (tbx k (ga, gb, .sl 1 nms, gd, .sl 2 (ps.map encQ)) n) Sj n).length p.2.length := ⟨_, rfl⟩
            have hx1 : Z0[ix]? = some (.pm (kvT (fstF k Sj [[]] p.2))) := by
              rw [hZ0, hix]
              refine at_ix (by simp) fun h0 => ?_
              rw [List.length_eq_zero_iff.1 h0]
              exact get1
            have hx2 : 3 * n + 3 ≤ ix := by
              rw [hix, hol]; unfold ixO ixF; split <;> omega
            have hx3 : Z0.take (3 * n + 3) = objT bx0 (tbx k (ga, gb, .sl 1 nms, gd, .sl 2 (ps.map encQ)) n) Sj n := by
              rw [hZ0, List.append_assoc, ← hol, List.take_left]
            have hx4 : Z0.all (refOb Z0.length) = true := by
              rw [hZ0, List.all_append, List.all_append, refs_mono (by simp) hor, tlF_refs]; rfl
            have hx5 : ix < Z0.length := (List.getElem?_eq_some_iff.1 hx1).1
            have hx6 : Z0[3 * p.1 + 3]? = some (.pm (kvT (Sj p.1))) := by
              rw [hZ0, List.append_assoc]; exact objT_at hlt
            rw [← hix, ← hZ0]
            generalize hFF : fstF k Sj [[]] p.2 = F at hFk hFa hx1
            have hst : stepS k Sj p = updT Sj p.1 (ascOf (Sj p.1 ++ F)) := by unfold stepS; rw [hFF]
            refine RunOps.openPm ix hx1 fun lF hlF => ?_
            obtain ⟨F', rfl, hpF⟩ := perm_kvT hlF
            refine RunOps.openPm (3 * p.1 + 3) (by rw [List.getElem?_set_ne (by omega)]; exact hx6) fun lA hlA => ?_
            obtain ⟨A', rfl, hpA⟩ := perm_kvT hlA
            obtain ⟨Z, hZ⟩ : ∃ Z, Z = Z0.set ix (.map (kvT F')) := ⟨_, rfl⟩
            have hz1 : Z.length = Z0.length := by rw [hZ, List.length_set]
            have hz2 : Z.all (refOb Z.length) = true := by rw [hz1, hZ]; exact refs_set hx4 rfl
            have hz3 : ∀ a : Ob, (Z.set (3 * p.1 + 3) a)[ix]? = some (.map (kvT F')) := fun a => by
              rw [List.getElem?_set_ne (by omega), hZ, List.getElem?_set_self hx5]
            have hz4 : ∀ X, (Z.set (3 * p.1 + 3) (.pm (kvT X))).take (3 * n + 3) = objT bx0 (tbx k (ga, gb, .sl 1 nms, gd, .sl 2 (ps.map encQ)) n) (updT Sj p.1 X) n := fun X => by
              have e : (objT bx0 (tbx k (ga, gb, .sl 1 nms, gd, .sl 2 (ps.map encQ)) n) Sj n).set ix (.map (kvT F')) = objT bx0 (tbx k (ga, gb, .sl 1 nms, gd, .sl 2 (ps.map encQ)) n) Sj n := List.set_eq_of_length_le (by rw [hol]; exact hx2)
              rw [hZ, List.take_set, List.take_set, hx3, e, objT_set hlt]
            rw [← hZ]
            have hzl : 3 * n + 3 < Z.length := by omega
            have haZ : 3 * p.1 + 3 < Z.length := by omega
            clear hx1 hx3 hx4 hx6 hZ0 hix hZ
            have hkF : (kvT F').length = F'.length := by simp
            have hF' : ∀ x ∈ F', x.length ≤ 4 := fun x hx => ((hFk x (hpF.mem_iff.1 hx)).1).len
            have hA' : A'.Nodup := hpA.nodup_iff.2 (asc_nodup (i5.asc p.1))
            refine oRange Et_ok ?_ (hi := hz3 _)
            repeat refine zS ?_
            refine Run.loopT (fun y : (List (List Nat) × List Nat) × Bool => ⟨PT.ofList [(1, .d (.ep [nI k, ga, gb, .sl 1 nms, gd, .sl 2 (ps.map encQ)])), (2, .bp 0 0), (3, .bp 1 0), (4, .d (.bool y.2)), (24, .d (.sl 2 (ps.map encQ))), (25, .d (nI (ps.map encQ).length)), (26, .d (nI j)), (7, .mp (3 * p.1 + 3)), (41, .bp Z.length 0)], Z.set (3 * p.1 + 3) (.map (kvT y.1.1)) ++ [.mit ix (kvT F').length y.1.2], []⟩)
              (fun y => y.1.1.Nodup ∧ y.1.2.Nodup ∧ (∀ q ∈ y.1.2, q < F'.length) ∧ (∀ z, z ∈ y.1.1 ↔ z ∈ A' ∨ ∃ q ∈ y.1.2, F'[q]? = some z) ∧ (y.2 = true → gr = true ∨ ∃ z ∈ y.1.1, z ∉ A') ∧ (y.2 = false → gr = false ∧ ∀ z ∈ y.1.1, z ∈ A')) (fun y => F'.length - y.1.2.length) ((A', []), gr) ⟨hA', by simp, by simp, by simp, fun h => .inl h, fun h => ⟨h, fun z hz => hz⟩⟩ ?_ (fun ⟨⟨out, seen⟩, b⟩ ⟨o1, o2, o3, o4, o5, o6⟩ => ?_)
            · refine tidy_of _ (Z.length + 1) (List.take_of_length_le (by simp)) (Nat.ble_eq_true_of_le (Nat.zero_le _)) ⟨.inl rfl, .inl rfl, .inl rfl, .inl rfl, .inl rfl, .inl rfl, .inl rfl, .inl rfl, .inl (Eq.trans (b := some (.bp (Z.set (3 * p.1 + 3) (.map (kvT A'))).length 0)) rfl (by rw [List.length_set])), trivial⟩ ⟨rfl, by simp only [refA, Nat.blt_eq]; omega, by simp only [refA, Nat.blt_eq]; omega, rfl, rfl, rfl, rfl, by simp only [refA, Nat.blt_eq]; omega, by simp only [refA, Nat.blt_eq]; omega, trivial⟩ ?_ rfl
              rw [List.all_append, refs_mono (Nat.le_succ _) (refs_set hz2 rfl)]
              simp [refOb, Nat.blt_eq]; omega
            · simp only at o1 o2 o3 o4 o5 o6
              repeat refine zS ?_
              refine oNext (i := ix) (j := Z.length) (kvs := kvT F') (seen := seen) (fun q pp hq hns => ?_) (fun hall => ?_) (hj := getS) (hi := getO (hz3 _))
              · obtain ⟨x, hx, rfl⟩ : ∃ x, F'[q]? = some x ∧ pp = (lk x, .bool true) := by
                  rw [List.getElem?_map] at hq
                  cases e : F'[q]? with
                  | none => rw [e] at hq; cases hq
                  | some x => rw [e] at hq; exact ⟨x, rfl, (Option.some.inj hq).symm⟩
                have hql := (List.getElem?_eq_some_iff.1 hx).1
                have hx4 := hF' x (List.mem_of_getElem? hx)
                have j2 : (seen ++ [q]).Nodup := by
                  rw [List.nodup_append]
                  exact ⟨o2, by simp, fun a ha c hc e => by simp at hc; subst hc; exact hns (e ▸ ha)⟩
                have j3 : ∀ r ∈ seen ++ [q], r < F'.length := fun r hr => by
                  rcases List.mem_append.1 hr with h1 | h1
                  · exact o3 r h1
                  · simp at h1; omega
                have hsl2 := seen_le F'.length (seen ++ [q]) j2 j3
                simp only [List.length_append, List.length_cons, List.length_nil] at hsl2
                have j4 : ∀ out' : List (List Nat), (∀ z, z ∈ out' ↔ z ∈ out ∨ z = x) → ∀ z, z ∈ out' ↔ z ∈ A' ∨ ∃ q' ∈ seen ++ [q], F'[q']? = some z := fun out' ho z => by
                  rw [ho z, o4 z]
                  constructor
                  · rintro ((h1 | ⟨q', h1, h2⟩) | rfl)
                    · exact .inl h1
                    · exact .inr ⟨q', by simp [h1], h2⟩
                    · exact .inr ⟨q, by simp, hx⟩
                  · rintro (h1 | ⟨q', h1, h2⟩)
                    · exact .inl (.inl h1)
                    · rcases List.mem_append.1 h1 with h1 | h1
                      · exact .inl (.inr ⟨q', h1, h2⟩)
                      · simp at h1
                        subst h1
                        rw [hx] at h2; cases h2
                        exact .inr rfl
                have tdy : ∀ (tm : PT AV) (out' : List (List Nat)) (b' : Bool), tm.get? 1 = some (.d (.ep [nI k, ga, gb, .sl 1 nms, gd, .sl 2 (ps.map encQ)])) → tm.get? 2 = some (.bp 0 0) → tm.get? 3 = some (.bp 1 0) → tm.get? 4 = some (.d (.bool b')) → tm.get? 24 = some (.d (.sl 2 (ps.map encQ))) → tm.get? 25 = some (.d (nI (ps.map encQ).length)) → tm.get? 26 = some (.d (nI j)) → tm.get? 7 = some (.mp (3 * p.1 + 3)) → tm.get? 41 = some (.bp Z.length 0) →
                    Tidy 0 ⟨tm, Z.set (3 * p.1 + 3) (.map (kvT out')) ++ [.mit ix (kvT F').length (seen ++ [q])], []⟩ ⟨PT.ofList [(1, .d (.ep [nI k, ga, gb, .sl 1 nms, gd, .sl 2 (ps.map encQ)])), (2, .bp 0 0), (3, .bp 1 0), (4, .d (.bool b')), (24, .d (.sl 2 (ps.map encQ))), (25, .d (nI (ps.map encQ).length)), (26, .d (nI j)), (7, .mp (3 * p.1 + 3)), (41, .bp Z.length 0)], Z.set (3 * p.1 + 3) (.map (kvT out')) ++ [.mit ix (kvT F').length (seen ++ [q])], []⟩ := fun tm out' b' t1 t2 t3 t4 t5 t6 t7 t8 t9 => by
                  refine tidy_of _ (Z.length + 1) (List.take_of_length_le (by simp)) (Nat.ble_eq_true_of_le (Nat.zero_le _)) ⟨.inl t1, .inl t2, .inl t3, .inl t4, .inl t5, .inl t6, .inl t7, .inl t8, .inl t9, trivial⟩ ⟨rfl, by simp only [refA, Nat.blt_eq]; omega, by simp only [refA, Nat.blt_eq]; omega, rfl, rfl, rfl, rfl, by simp only [refA, Nat.blt_eq]; omega, by simp only [refA, Nat.blt_eq]; omega, trivial⟩ ?_ rfl
                  rw [List.all_append, refs_mono (Nat.le_succ _) (refs_set hz2 rfl)]
                  simp [refOb, Nat.blt_eq]; omega
                rw [setS]
                refine zX ?_
                repeat refine zS ?_
                refine oEntry (i := ix) (j := Z.length) (q := q) (kvs := kvT F') (seen := seen) ?_ hq (hj := getS) (hi := getO (hz3 _))
                iterate 2 refine zX ?_
                refine oV ?_ (hv := evAny_store_last)
                refine RunOps.nil ?_
                refine Run.dropLastD (m := 0) (dl := []) (O := Z.set (3 * p.1 + 3) (.map (kvT out)) ++ [.mit ix (kvT F').length (seen ++ [q])]) (ds := lkC x) [(1, .d (.ep [nI k, ga, gb, .sl 1 nms, gd, .sl 2 (ps.map encQ)])), (2, .bp 0 0), (3, .bp 1 0), (4, .d (.bool b)), (24, .d (.sl 2 (ps.map encQ))), (25, .d (nI (ps.map encQ).length)), (26, .d (nI j)), (7, .mp (3 * p.1 + 3)), (41, .bp Z.length 0), (8, .d (.ep (lkC x)))] ?_ (Nat.zero_le _) (by rw [List.all_append, refs_mono (by simp) (refs_set hz2 rfl)]; simp [refOb, Nat.blt_eq]; omega) rfl (ofList_cases (by intro q hq; simp only [List.mem_cons, List.not_mem_nil, or_false] at hq; rcases hq with rfl | rfl | rfl | rfl | rfl | rfl | rfl | rfl | rfl | rfl; exact .inl (by kernel_rfl); exact .inl (by kernel_rfl); exact .inl (by kernel_rfl); exact .inl (by kernel_rfl); exact .inl (by kernel_rfl); exact .inl (by kernel_rfl); exact .inl (by kernel_rfl); exact .inl (by kernel_rfl); exact .inl (by kernel_rfl); exact .inr ⟨0, Nat.zero_le _, by kernel_rfl, rfl⟩)) ⟨rfl, by simp [refA, Nat.blt_eq], by simp [refA, Nat.blt_eq]; omega, rfl, rfl, rfl, rfl, by simp [refA, Nat.blt_eq]; omega, by simp [refA, Nat.blt_eq], rfl, trivial⟩
                repeat refine zS ?_
                iterate 2 refine zX ?_
                by_cases hxo : x ∈ out
                · refine oV (v := .d (.bool true)) ?_ (hv := evAny_hasT (x := x) rfl rfl rfl (getO (by rw [List.getElem?_set_self haZ])) rfl hx4) (he := by rw [decide_eq_true hxo])
                  refine zX ?_
                  repeat refine zS ?_
                  exact ⟨((out, seen ++ [q]), b), ⟨o1, j2, j3, j4 out fun z => ⟨.inl, fun h => h.elim id fun h => h ▸ hxo⟩, o5, o6⟩, by simp only [List.length_append, List.length_cons, List.length_nil]; omega, tdy _ out b rfl rfl rfl rfl rfl rfl rfl rfl rfl⟩
                · refine oV (v := .d (.bool false)) ?_ (hv := evAny_hasT (x := x) rfl rfl rfl (getO (by rw [List.getElem?_set_self haZ])) rfl hx4) (he := by rw [decide_eq_false hxo])
                  refine zX ?_
                  repeat refine zS ?_
                  iterate 2 refine zX ?_
                  refine oV (v := .d .any) (objs' := Z.set (3 * p.1 + 3) (.map (kvT (insT1 out x))) ++ [.mit ix (kvT F').length (seen ++ [q])]) ?_ (hv := evAny_insT (x := x) rfl rfl rfl (getO (by rw [List.getElem?_set_self haZ])) rfl rfl hx4) (ho := by exact setI haZ)
                  refine zX ?_
                  repeat refine zS ?_
                  have hxA : x ∉ A' := fun h => hxo ((o4 x).2 (.inl h))
                  exact ⟨((insT1 out x, seen ++ [q]), true), ⟨nodup_insT1 o1, j2, j3, j4 _ fun z => mem_insT1, fun _ => .inr ⟨x, mem_insT1.2 (.inr rfl), hxA⟩, fun h => by cases h⟩, by simp only [List.length_append, List.length_cons, List.length_nil]; omega, tdy _ _ true rfl rfl rfl rfl rfl rfl rfl rfl rfl⟩
              · have hmem : ∀ z, z ∈ out ↔ z ∈ Sj p.1 ++ F := fun z => by
                  rw [o4 z, List.mem_append, hpA.mem_iff]
                  refine or_congr_right ⟨?_, fun h => ?_⟩
                  · rintro ⟨q, _, h⟩
                    exact hpF.mem_iff.1 (List.mem_of_getElem? h)
                  · obtain ⟨q, h1⟩ := List.getElem?_of_mem (hpF.mem_iff.2 h)
                    exact ⟨q, hall q (by rw [hkF]; exact (List.getElem?_eq_some_iff.1 h1).1), h1⟩
                have hAm : ∀ z, z ∈ A' ↔ z ∈ Sj p.1 := fun z => hpA.mem_iff
                have htt := tot_upd (S := Sj) (X := ascOf (Sj p.1 ++ F)) hlt
                have hle : (Sj p.1).length ≤ (ascOf (Sj p.1 ++ F)).length := nodup_le (asc_nodup (i5.asc p.1)) fun z hz => mem_asc.2 (List.mem_append.2 (.inl hz))
                refine RunOps.closePm (3 * p.1 + 3) (l := kvT out) (kvs := kvT (ascOf (Sj p.1 ++ F))) (getO (by rw [List.getElem?_set_self haZ])) (perm_asc o1 hmem) ?_
                rw [setI haZ]
                refine zX ?_
                repeat refine zS ?_
                iterate 2 refine zX ?_
                refine RunOps.nil ?_
                refine ⟨(j + 1, b), ⟨hjl, ?_, ?_, ?_, ?_⟩, by simp only; omega, ?_⟩
                · intro hb
                  rw [hrn, hst]
                  rcases o5 hb with h | ⟨z, h1, h2⟩
                  · have := i2 h; omega
                  · have h3 := (List.mem_append.1 ((hmem z).1 h1)).resolve_left fun h => h2 ((hAm z).2 h)
                    have h4 := asc_more (i5.asc p.1) h3 fun h => h2 ((hAm z).2 h)
                    omega
                · intro hb
                  obtain ⟨h1, h2⟩ := o6 hb
                  rw [hrn, hst, asc_same (i5.asc p.1) fun z hz => (hAm z).1 (h2 z ((hmem z).2 (List.mem_append.2 (.inr hz)))), upd_same]
                  exact i3 h1
                · rw [hrn, hst]; omega
                · rw [hrn]; exact step_sok hk i5 (hps.sy p hpm)
                · show Tidy 0 _ ⟨PT.ofList _, objT bx0 (tbx k (ga, gb, .sl 1 nms, gd, .sl 2 (ps.map encQ)) n) (roundS k (ps.take (j + 1)) S) n, []⟩
                  rw [hrn, hst]
                  refine tidy_of _ (3 * n + 3) ?_ (Nat.ble_eq_true_of_le (Nat.zero_le _)) ⟨.inl rfl, .inl rfl, .inl rfl, .inl rfl, .inl rfl, .inl rfl, .inl (inc_get rfl (by omega)), trivial⟩ ⟨rfl, by simp [refA, Nat.blt_eq], by simp [refA, Nat.blt_eq], rfl, rfl, rfl, rfl, trivial⟩ (objT_refs rfl (by simp [refOb, tbC, refA, Nat.blt_eq]; omega) (Nat.le_refl _)) rfl
                  rw [List.take_append_of_le_length (by rw [List.length_set]; omega)]
                  exact hz4 _
          · have hje : j = ps.length := by omega
            subst hje
            rw [List.take_length, ← hrd] at i2 i3 i4 i5
            repeat refine zS ?_
            refine zV (lt_false (show (ps.map encQ).length ≤ ps.length by omega)) ?_
            repeat refine zS ?_
            refine zX ?_
            cases gr with
            | true =>
              refine zX ?_
              repeat refine zS ?_
              have h1 := i2 rfl
              have h2 := tot_le (hsok (m + 1)) n
              refine ⟨m + 1, by omega, by omega, ?_⟩
              exact tidy_of _ (3 * n + 3) (by rw [List.take_length, ← hrd]; exact List.take_of_length_le (by rw [objT_len]; exact Nat.le_refl _)) (Nat.ble_eq_true_of_le (Nat.zero_le _)) ⟨.inl rfl, .inl rfl, .inl rfl, trivial⟩ ⟨rfl, by simp [refA, Nat.blt_eq], by simp [refA, Nat.blt_eq], trivial⟩ (objT_refs rfl (by simp [refOb, tbC, refA, Nat.blt_eq]; omega) (Nat.le_refl _)) rfl
            | false =>
              refine zX ?_
              repeat refine zS ?_
              have h1 : setsF k n ps = S := by
                rw [← hS]
                exact sets_of (by rw [i3 rfl, hS]) (by omega)
              rw [List.take_length, ← hrd, i3 rfl, h1]
              refine oV (v := .agg (tbC k (ga, gb, .sl 1 nms, gd, .sl 2 (ps.map encQ)) (.vs (2 + 3 * n) 1 0 n))) ?_ (hv := evAny_loadAgg rfl rfl rfl rfl rfl rfl) (he := rfl)
              refine zX ?_
              repeat refine zS ?_
              refine Run.ret ?_
              exact ⟨trivial, _, _, rfl, rfl, .refl, ⟨.gone, .gone, wk_refl _⟩⟩
theorem cmpFst : CmpFn 52 := fun x y hx hy => by
  have c := compareK x y hx hy
  refine kF Tryz.func52 [2, 3] fun w => ?_
  repeat' (first
    | refine zW ?_
    | refine zB ?_ ?_ <;> intro h <;> try exact zk h
    | refine zX ?_
    | refine zC (c) ?_
    | rfl
    | fail)
def outQ (b : Nat) : List (List Nat) → AV
  | [] => .d .nilsl
  | _ :: r => .vs (b + r.length) 5 0 (r.length + 1)
theorem outQ_ref {b n : Nat} {D : List (List Nat)} (h : b + D.length ≤ n) : refA 8 n (outQ b D) = true := by
  cases D with
  | nil => rfl
  | cons x r => simp only [outQ, refA, Nat.blt_eq, List.length_cons] at h ⊢; omega
theorem getX {Z : List Ob} {x : List Nat} {r : List (List Nat)} : (Z ++ outX (x :: r))[Z.length + r.length]? = some (vecL (x :: r)) := by
  rw [List.getElem?_append_right (by omega), show Z.length + r.length - Z.length = r.length by omega, outX, List.getElem?_append_right (by simp)]; simp
theorem setX {Z : List Ob} {x y : List Nat} {r : List (List Nat)} : (Z ++ outX (x :: r)).set (Z.length + r.length) .gone ++ [vecL (x :: (r ++ [y]))] = Z ++ outX (x :: (r ++ [y])) := by
  rw [List.set_append_right _ _ (by omega), show Z.length + r.length - Z.length = r.length by omega, List.append_assoc]
  congr 1
  rw [outX, outX, List.set_append_right _ _ (by simp)]
  simp only [List.length_replicate, Nat.sub_self, List.set_cons_zero, List.length_append, List.length_cons, List.length_nil, List.replicate_succ', List.append_assoc]
def IterQ (O : List Ob) (y : Nat) (fv : AV) (E : List (List Nat)) (Pm : List (List Nat) → Prop) : Prop :=
  (refA 8 O.length fv = true ∧ isPan fv = false) ∧ ∃ g a b, (∀ D β v, RepA D β fv v → ∃ u1 u2, v = .func (.func g) u1 u2 ∧ Reps D β a u1 ∧ Reps D β b u2) ∧
    ∀ (Rf Rg : List (List Nat) → List Ob), (∀ D, (Rf D).length = 3) → Rg [] = [] → (∀ D, (Rf D).all (refOb (O.length + 3 + y + (Rg D).length)) = true) → (∀ D, (Rg D).all (refOb (O.length + 3 + y + (Rg D).length)) = true) →
      (∀ O1 Y D x, O1.length = O.length → Y.length = y → O1.all (refOb O.length) = true → Y.all (refOb O.length) = true → x ∈ E → D.length < E.length → AYield Tryz.prog (O.length + 2) [.d (lk x)] (O1 ++ Rf D ++ Y ++ Rg D) (.d (.bool true)) (O1 ++ Rf (D ++ [x]) ++ Y ++ Rg (D ++ [x]))) →
      ACallQ Tryz.prog g (a ++ [.yl (O.length + 2)] ++ b) (O ++ Rf []) (fun o r => r = .tup [] ∧ ∃ D Y, Pm D ∧ Y.length = y ∧ Y.all (refOb O.length) = true ∧ o = O ++ Rf D ++ Y ++ Rg D)
theorem gtB {O1 W : List Ob} {a b c : Ob} {n : Nat} (h : O1.length = n) : ((O1 ++ [c]) ++ [a, b] ++ W)[n]? = some c := by
  subst h
  rw [List.append_assoc, List.append_assoc]; exact get0
theorem gtR {O W : List Ob} {c : Ob} {tm : PT AV} {nt : Nat} {frz : List Nat} {qs : Array Tmp} {assign body : Code} {st : LoopState} {pd : Option Code} : (rangeObs (O ++ [c]) tm nt frz qs assign body st pd ++ W)[O.length]? = some c := by
  have := get0 (M := O) (X := [.raw (.deferred (some [])), .loop tm nt frz qs assign body st pd] ++ W) (a := c)
  simpa [rangeObs] using this
theorem stB {O1 W : List Ob} {a b c c' : Ob} {n : Nat} (h : O1.length = n) : ((O1 ++ [c]) ++ [a, b] ++ W).set n c' = (O1 ++ [c']) ++ [a, b] ++ W := by
  subst h
  have := setL0 (M := O1) (X := [a, b] ++ W) (a := c) (c := c')
  simpa using this
theorem leaveR {O W : List Ob} {c : Ob} {tm : PT AV} {nt : Nat} {frz : List Nat} {qs : Array Tmp} {assign body : Code} {st : LoopState} {pd : Option Code} :
    evLeave H0 [.mark (O.length + 1)] none (rangeObs (O ++ [c]) tm nt frz qs assign body st pd ++ W) = some (none, O ++ [c, .raw (.deferred none), .loop tm nt frz qs assign body st pd] ++ W) := by
  have e : rangeObs (O ++ [c]) tm nt frz qs assign body st pd ++ W = O ++ c :: .raw (.deferred (some [])) :: ([.loop tm nt frz qs assign body st pd] ++ W) := by simp [rangeObs]
  rw [e]
  have h1 := get1 (M := O) (X := [.loop tm nt frz qs assign body st pd] ++ W) (a := c) (b := .raw (.deferred (some [])))
  have h2 := setL1 (M := O) (X := [.loop tm nt frz qs assign body st pd] ++ W) (a := c) (b := .raw (.deferred (some []))) (c := .raw (.deferred none))
  simp only [evLeave, h1, h2]
  simp
theorem Run.rangeIterQ {nt m : Nat} {frz : List Nat} {K : Ex → S → Prop} {tm : PT AV} {dl : List Dl} {f : Operand} {qs : Array Tmp} {assign body : Code} {O : List Ob} {y : Nat} {fv : AV} {E : List (List Nat)} {Pm : List (List Nat) → Prop} (hit : IterQ O y fv E Pm) (bx : List (List Nat) → Ob) (X : List (List Nat) → List Ob)
    (hf : rd tm f = fv) (hX0 : X [] = []) (hb : ∀ D, refOb (O.length + 3 + y + (X D).length) (bx D) = true) (hXr : ∀ D, (X D).all (refOb (O.length + 3 + y + (X D).length)) = true) (hT : ∀ n, ptAll (refA 8 (O.length + 3 + n)) tm = true)
    (hround : ∀ O1 Y D x, O1.length = O.length → Y.length = y → O1.all (refOb O.length) = true → Y.all (refOb O.length) = true → x ∈ E → D.length < E.length → AYield Tryz.prog (O.length + 2) [.d (lk x)] (rangeObs (O1 ++ [bx D]) tm nt frz qs assign body .ready none ++ (Y ++ X D)) (.d (.bool true)) (rangeObs (O1 ++ [bx (D ++ [x])]) tm nt frz qs assign body .ready none ++ (Y ++ X (D ++ [x]))))
    (hend : ∀ D Y, Pm D → Y.length = y → K .normal ⟨tm, rangeObs (O ++ [bx D]) tm nt frz qs assign body .exhausted none ++ (Y ++ X D), .mark (O.length + 1) :: dl⟩) :
    Run Tryz.prog nt m none (.rangeFunc f qs assign body) ⟨tm, O ++ [bx []], dl⟩ K := by
  obtain ⟨_, g, a, b, hfv, hA⟩ := hit
  have e : ∀ (O1 Y : List Ob) D st, O1 ++ [bx D, .raw (.deferred (some [])), .loop tm nt frz qs assign body st none] ++ Y ++ X D = rangeObs (O1 ++ [bx D]) tm nt frz qs assign body st none ++ (Y ++ X D) := fun O1 Y D st => by simp [rangeObs]
  have hA1 := hA (fun D => [bx D, .raw (.deferred (some [])), .loop tm nt frz qs assign body .ready none]) X (fun _ => rfl) hX0 (fun D => by
    simp only [List.all_cons, List.all_nil, Bool.and_true, hb D, Bool.true_and]
    have h1 := hT (y + (X D).length)
    rw [← Nat.add_assoc] at h1
    simp only [refOb, h1, Bool.and_true]) hXr (fun O1 Y D x h1 h2 h3 h4 h5 h6 => by rw [e, e]; exact hround O1 Y D x h1 h2 h3 h4 h5 h6)
  have hl : (O ++ [bx []]).length = O.length + 1 := by simp
  refine Run.rangeQ (frz := frz) (s := ⟨tm, O ++ [bx []], dl⟩) (G := fun o r => r = .tup [] ∧ ∃ D Y, Pm D ∧ Y.length = y ∧ Y.all (refOb O.length) = true ∧ o = O ++ [bx D, .raw (.deferred (some [])), .loop tm nt frz qs assign body .ready none] ++ Y ++ X D) (fun D β v hv => hfv D β v (by rw [← hf]; exact hv)) ?_ ?_
  · have e2 : rangeObs (O ++ [bx []]) tm nt frz qs assign body .ready none = O ++ [bx [], .raw (.deferred (some [])), .loop tm nt frz qs assign body .ready none] := by simp [rangeObs]
    show ACallQ _ _ (a ++ [.yl ((O ++ [bx []]).length + 1)] ++ b) (rangeObs (O ++ [bx []]) tm nt frz qs assign body .ready none) _
    rw [hl, e2]
    exact hA1
  · rintro o r ⟨_, D, Y, h1, h2, _, rfl⟩
    refine ⟨tm, nt, frz, qs, assign, body, .ready, ?_, by simp, ?_⟩
    · simp only [hl]
      rw [List.append_assoc, List.append_assoc, List.getElem?_append_right (by omega), show O.length + 1 + 1 - O.length = 2 by omega]; rfl
    · have e3 : (O ++ [bx D, .raw (.deferred (some [])), .loop tm nt frz qs assign body .ready none] ++ Y ++ X D).set (O.length + 1 + 1) (.loop tm nt frz qs assign body .exhausted none) = rangeObs (O ++ [bx D]) tm nt frz qs assign body .exhausted none ++ (Y ++ X D) := by
        rw [← e, List.append_assoc, List.append_assoc, List.set_append_right _ _ (by omega), show O.length + 1 + 1 - O.length = 2 by omega, List.append_assoc, List.append_assoc]; rfl
      simp only [hl]
      rw [e3]
      exact hend D Y h1 h2
set_option maxHeartbeats 4000000 in
theorem appSeqQ (O : List Ob) (hO : O.all (refOb O.length) = true) (y : Nat) (fv : AV) (E : List (List Nat)) (Pm : List (List Nat) → Prop) (hit : IterQ O y fv E Pm) (hE : ∀ x ∈ E, x.length ≤ 4) (hl : E.length ≤ 100000) :
    ACallQ Tryz.prog 49 [.d .nilsl, fv] O (fun o r => ∃ D, Pm D ∧ r = outQ (O.length + 3 + y) D ∧ o = O ++ List.replicate (3 + y) .gone ++ outX D) := by
  have w : Fz [10, 65547] := trivial
  have hit0 := hit
  obtain ⟨⟨hfr, hfp⟩, g, ga, gb, hf, hA⟩ := hit
  refine ACallQ.weak (G := fun o r => ∃ D Y a b c, Pm D ∧ Y.length = y ∧ r = outQ (O.length + 3 + y) D ∧ o = O ++ [a, b, c] ++ Y ++ outX D) ?_ ?_
  · refine acallQ_of_run Et_ok (fnB Tryz.func49 [10, 65547]) rfl rfl ?_
    have w : Fz [10, 65547] := trivial
    repeat refine zS ?_
    iterate 2 refine zX ?_
    repeat refine zS ?_
    refine oV (v := fv) ?_ (hp := hfp) (he := rfl)
    refine RunOps.nil ?_
    refine Run.tidy (s' := ⟨PT.ofList [(2, .bp O.length 0), (6, fv)], O ++ [.box [.d .nilsl]], []⟩) (tidy_of _ (O.length + 1) (List.take_of_length_le (by simp)) (Nat.ble_eq_true_of_le (Nat.le_succ _)) ⟨.inl rfl, .inl rfl, trivial⟩ ⟨by simp [refA, Nat.blt_eq], refA_mono (Nat.le_succ _) 8 hfr, trivial⟩ (by rw [List.all_append, refs_mono (Nat.le_succ _) hO]; rfl) rfl) ?_
    repeat refine zS ?_
    refine Run.rangeIterQ (frz := [10, 65547]) hit0 (fun D => .box [outQ (O.length + 3 + y) D]) outX rfl rfl (fun D => ?_) (fun D => outX_ref _ D) (fun n => ?_) (fun O1 Y D x h1 h2 h3 h4 h5 h6 => ?_) (fun D Y h1 h2 => ?_)
    · simp only [refOb, List.all_cons, List.all_nil, Bool.and_true]
      exact outQ_ref (by rw [outX_len]; exact Nat.le_refl _)
    · exact ptAll_ofList (l := [(2, .bp O.length 0), (6, fv)]) ⟨by simp only [refA, Nat.blt_eq]; omega, refA_mono (by omega) 8 hfr, trivial⟩
    · have hx4 := hE x h5
      refine ayield_box (L := O.length + 1) (lkC x) [(2, .bp O.length 0), (5, .d (.ep (lkC x)))] rfl rfl (by simp [h1]) (by simp [h1]) ?_ ?_ ?_ ⟨by simp only [refA, Nat.blt_eq]; omega, rfl, trivial⟩ ?_ (fun a b ha hb => ?_)
      · rw [List.all_append, refs_mono (by omega) h3]
        simp only [refOb, List.all_cons, List.all_nil, Bool.and_true, Bool.true_and]
        exact outQ_ref (by simp [outX_len, h2]; omega)
      · rw [List.all_append, refs_mono (by omega) h4, outX_ref]; rfl
      · exact ptAll_ofList (l := [(2, .bp O.length 0), (6, fv)]) ⟨by simp only [refA, Nat.blt_eq]; omega, refA_mono (by omega) 8 hfr, trivial⟩
      · repeat refine zS ?_
        refine zX ?_
        refine oV ?_ (hv := evAny_store_last)
        refine RunOps.nil ?_
        exact ⟨rfl, _, rfl, ofList_cases (by intro q hq; simp only [List.mem_cons, List.not_mem_nil, or_false] at hq; rcases hq with rfl | rfl; exact .inl (by kernel_rfl); exact .inr ⟨0, Nat.zero_le _, by kernel_rfl, rfl⟩)⟩
      · repeat refine zS ?_
        have hZ : ((O1 ++ [Ob.box [outQ (O.length + 3 + y) D]]) ++ [a, b] ++ Y).length = O.length + 3 + y := by simp [h1, h2]; omega
        cases D with
        | nil =>
          refine oV (v := .d .nilsl) ?_ (hv := evAny_loadB rfl rfl rfl rfl (gtB h1) rfl) (he := rfl)
          iterate 2 refine zX ?_
          refine oV (v := .vs (O.length + 3 + y) 5 0 1) (objs' := (O1 ++ [Ob.box [outQ (O.length + 3 + y) []]]) ++ [a, b] ++ (Y ++ [vecL [x]])) ?_ (hv := by rfl) (he := ?_) (ho := ?_)
          · refine oV (objs' := (O1 ++ [Ob.box [outQ (O.length + 3 + y) [x]]]) ++ [a, b] ++ (Y ++ [vecL [x]])) ?_ (hv := evAny_storeB (cs := [outQ (O.length + 3 + y) []]) rfl rfl rfl rfl rfl rfl rfl (gtB h1) Nat.zero_lt_one) (ho := by exact stB h1)
            repeat refine zS ?_
            exact ⟨rfl, rfl⟩
          · rw [← List.append_assoc]
            simp only [outX, List.append_nil]
            exact congrArg (fun n => AV.vs n 5 0 1) hZ
          · show (((O1 ++ [Ob.box [outQ (O.length + 3 + y) []]]) ++ [a, b]) ++ (Y ++ [])) ++ [vecL [x]] = _
            rw [List.append_nil, List.append_assoc]
        | cons z r =>
          refine oV (v := .vs (O.length + 3 + y + r.length) 5 0 (r.length + 1)) ?_ (hv := evAny_loadB rfl rfl rfl rfl (gtB h1) rfl) (he := rfl)
          iterate 2 refine zX ?_
          have hgx : ((O1 ++ [Ob.box [outQ (O.length + 3 + y) (z :: r)]]) ++ [a, b] ++ (Y ++ outX (z :: r)))[O.length + 3 + y + r.length]? = some (vecL (z :: r)) := by
            rw [← List.append_assoc]
            have := getX (Z := (O1 ++ [Ob.box [outQ (O.length + 3 + y) (z :: r)]]) ++ [a, b] ++ Y) (x := z) (r := r)
            rwa [hZ] at this
          have hsx : ((O1 ++ [Ob.box [outQ (O.length + 3 + y) (z :: r)]]) ++ [a, b] ++ (Y ++ outX (z :: r))).set (O.length + 3 + y + r.length) .gone ++ [vecL (z :: (r ++ [x]))] = (O1 ++ [Ob.box [outQ (O.length + 3 + y) (z :: r)]]) ++ [a, b] ++ (Y ++ outX (z :: (r ++ [x]))) := by
            rw [← List.append_assoc ((O1 ++ [Ob.box [outQ (O.length + 3 + y) (z :: r)]]) ++ [a, b]), ← List.append_assoc ((O1 ++ [Ob.box [outQ (O.length + 3 + y) (z :: r)]]) ++ [a, b])]
            have := setX (Z := (O1 ++ [Ob.box [outQ (O.length + 3 + y) (z :: r)]]) ++ [a, b] ++ Y) (x := z) (y := x) (r := r)
            rwa [hZ] at this
          refine oV (v := .vs (O.length + 3 + y + (r ++ [x]).length) 5 0 ((r ++ [x]).length + 1)) (objs' := (O1 ++ [Ob.box [outQ (O.length + 3 + y) (z :: r)]]) ++ [a, b] ++ (Y ++ outX (z :: (r ++ [x])))) ?_ (hv := evAny_appV (D := z :: r) (i := O.length + 3 + y + r.length) (by rfl) (by rfl) (by rfl) (by rfl) (by rfl) (by rfl) hgx (by simp only [List.length_cons] at h6 ⊢; omega)) (he := ?_) (ho := by exact hsx)
          · refine oV (objs' := (O1 ++ [Ob.box [outQ (O.length + 3 + y) (z :: (r ++ [x]))]]) ++ [a, b] ++ (Y ++ outX (z :: (r ++ [x])))) ?_ (hv := evAny_storeB (cs := [outQ (O.length + 3 + y) (z :: r)]) rfl rfl rfl rfl rfl rfl rfl (gtB h1) Nat.zero_lt_one) (ho := by exact stB h1)
            repeat refine zS ?_
            exact ⟨rfl, rfl⟩
          · have e : ((O1 ++ [Ob.box [outQ (O.length + 3 + y) (z :: r)]]) ++ [a, b] ++ (Y ++ outX (z :: r))).length = O.length + 3 + y + (r ++ [x]).length := by
              rw [← List.append_assoc, List.length_append, hZ, outX_len]; simp
            rw [e]; simp
    · repeat refine zS ?_
      have hm : ∀ W : List Ob, (O ++ W)[O.length]? = W[0]? := fun W => by rw [List.getElem?_append_right (Nat.le_refl _), Nat.sub_self]
      refine oV (v := outQ (O.length + 3 + y) D) ?_ (hv := evAny_loadB rfl rfl rfl rfl gtR rfl) (he := rfl) (hp := by cases D <;> rfl)
      refine oV (v := outQ (O.length + 3 + y) D) ?_ (he := rfl) (hp := by cases D <;> rfl)
      refine RunOps.nil ?_
      refine Run.ret ?_
      exact ⟨trivial, _, _, leaveR, rfl, ⟨D, Y, _, _, _, h1, h2, rfl, (List.append_assoc _ _ _).symm⟩, (by cases D <;> rfl)⟩
  · rintro o r ⟨D, Y, a, b, c, h1, h2, rfl, rfl⟩
    refine ⟨_, ⟨D, h1, rfl, rfl⟩, ?_, by simp, ?_, outQ_ref (by simp [outX_len]; omega)⟩
    · have key : ∀ (Y : List Ob) (W : List Ob), WkObs (Y ++ W) (List.replicate Y.length .gone ++ W) := fun Y W => by
        induction Y with
        | nil => exact wk_refl W
        | cons a Y ih => exact ⟨.gone, ih⟩
      have h3 := key ([a, b, c] ++ Y) (outX D)
      rw [show ([a, b, c] ++ Y).length = 3 + y by simp [h2]; omega] at h3
      have k2 : ∀ (O A B : List Ob), WkObs A B → WkObs (O ++ A) (O ++ B) := fun O A B h => by
        induction O with
        | nil => exact h
        | cons a O ih => exact ⟨.refl, ih⟩
      have h4 := k2 O _ _ h3
      simpa [List.append_assoc] using h4
    · rw [List.all_append, List.all_append, refs_mono (by simp) hO, outX_ref]
      simp only [Bool.true_and, Bool.and_true, List.all_eq_true]
      intro x hx
      rw [List.eq_of_mem_replicate hx]; rfl
theorem nodup_at {α : Type} {l : List α} (h : l.Nodup) {i j : Nat} {x : α} (hi : l[i]? = some x) (hj : l[j]? = some x) : i = j := by
  obtain ⟨h1, h2⟩ := List.getElem?_eq_some_iff.1 hi
  obtain ⟨h3, h4⟩ := List.getElem?_eq_some_iff.1 hj
  exact (List.getElem_inj h).1 (h2.trans h4.symm)
set_option maxHeartbeats 4000000 in
theorem keysIt (O : List Ob) (hO : O.all (refOb O.length) = true) (bx ia : Nat) (A : List (List Nat)) (hb : O[bx]? = some (.box [.mp ia])) (hia : O[ia]? = some (.pm (kvT A))) (hA : A.Nodup) (hA4 : ∀ x ∈ A, x.length ≤ 4) :
    IterQ O 1 (.fn (.func 75) [] [.bp bx 0]) A (fun D => D.Perm A) := by
  have w : Fz [] := trivial
  have hbl := (List.getElem?_eq_some_iff.1 hb).1
  have hil := (List.getElem?_eq_some_iff.1 hia).1
  have hne : bx ≠ ia := fun e => by subst e; rw [hb] at hia; cases hia
  refine ⟨⟨by simp [refA, Nat.blt_eq]; exact hbl, rfl⟩, _, _, _, fun D β v hv => fnA_rep hv, fun Rf Rg hRl hRg0 hRr hGr hy => ?_⟩
  refine acallQ_of_run Et_ok (fnB Tryz.func75 []) rfl rfl ?_
  have w : Fz [] := trivial
  refine Run.openPm ia (getO hia) fun lA hlA => ?_
  obtain ⟨A', rfl, hpA⟩ := perm_kvT hlA
  rw [setO hil]
  obtain ⟨O1, hO1⟩ : ∃ O1, O1 = O.set ia (.map (kvT A')) := ⟨_, rfl⟩
  have hl1 : O1.length = O.length := by rw [hO1, List.length_set]
  have hr1 : O1.all (refOb O.length) = true := by rw [hO1]; exact refs_set hO rfl
  have hb1 : O1[bx]? = some (.box [.mp ia]) := by rw [hO1, List.getElem?_set_ne (Ne.symm hne)]; exact hb
  have hi1 : O1[ia]? = some (.map (kvT A')) := by rw [hO1, List.getElem?_set_self hil]
  have hc1 : O1.set ia (.pm (kvT A)) = O := by rw [hO1, set_back hia]
  have hA' : A'.Nodup := hpA.nodup_iff.2 hA
  have hA4' : ∀ x ∈ A', x.length ≤ 4 := fun x hx => hA4 x (hpA.mem_iff.1 hx)
  have hkA : (kvT A').length = A'.length := by simp
  have hfr : ∀ (D seen : List _) , (O1 ++ Rf D ++ [Ob.mit ia (kvT A').length seen] ++ Rg D).all (refOb (O.length + 3 + 1 + (Rg D).length)) = true := fun D seen => by
    rw [List.all_append, List.all_append, List.all_append, refs_mono (by omega) hr1, hRr, hGr]
    simp [refOb, Nat.blt_eq]; omega
  rw [← hO1]
  clear hO1
  repeat refine zS ?_
  refine oV (v := .mp ia) ?_ (hv := evAny_loadB rfl rfl rfl rfl (getO hb1) rfl) (he := rfl)
  refine oRange Et_ok ?_ (hi := getO hi1)
  repeat refine zS ?_
  refine Run.loopT (fun y : List (List Nat) × List Nat => ⟨PT.ofList [(0, .yl (O.length + 2)), (5, .bp (O.length + 3) 0)], O1 ++ Rf y.1 ++ [.mit ia (kvT A').length y.2] ++ Rg y.1, []⟩)
    (fun y => y.1.Nodup ∧ y.1.length = y.2.length ∧ y.2.Nodup ∧ (∀ q ∈ y.2, q < A'.length) ∧ ∀ z, z ∈ y.1 ↔ ∃ q ∈ y.2, A'[q]? = some z) (fun y => A'.length - y.2.length) ([], []) ⟨by simp, rfl, by simp, by simp, by simp⟩ ?_ (fun ⟨D, seen⟩ ⟨i1, i2, i3, i4, i5⟩ => ?_)
  · have hle : (O1 ++ Rf []).length = O.length + 3 := by rw [List.length_append, hl1, hRl]
    refine tidy_of _ (O.length + 4) ?_ (Nat.ble_eq_true_of_le (by rw [List.length_append, hRl]; omega)) ⟨.inl rfl, .inl (Eq.trans (b := some (.bp (O1 ++ Rf []).length 0)) rfl (by rw [hle])), trivial⟩ ⟨by simp [refA, Nat.blt_eq], by simp [refA, Nat.blt_eq], trivial⟩ ?_ rfl
    · simp only [hRg0, List.append_nil]
      exact List.take_of_length_le (by rw [List.length_append, hle]; simp)
    · have := hfr [] []
      rw [hRg0] at this
      simpa [hRg0] using this
  · simp only at i1 i2 i3 i4 i5
    have hL : ∀ D s, (O1 ++ Rf D ++ [Ob.mit ia (kvT A').length s] ++ Rg D).length = O.length + 3 + 1 + (Rg D).length := fun D s => by simp [hl1, hRl]; omega
    have gM : ∀ D s, (O1 ++ Rf D ++ [Ob.mit ia (kvT A').length s] ++ Rg D)[O.length + 3]? = some (.mit ia (kvT A').length s) := fun D s => by
      have := get0 (M := O1 ++ Rf D) (X := Rg D) (a := Ob.mit ia (kvT A').length s)
      rw [List.length_append, hl1, hRl] at this
      simpa [List.append_assoc] using this
    have sM : ∀ D s s', (O1 ++ Rf D ++ [Ob.mit ia (kvT A').length s] ++ Rg D).set (O.length + 3) (.mit ia (kvT A').length s') = O1 ++ Rf D ++ [Ob.mit ia (kvT A').length s'] ++ Rg D := fun D s s' => by
      have := setL0 (M := O1 ++ Rf D) (X := Rg D) (a := Ob.mit ia (kvT A').length s) (c := Ob.mit ia (kvT A').length s')
      rw [List.length_append, hl1, hRl] at this
      simpa [List.append_assoc] using this
    have gI : ∀ D s, (O1 ++ Rf D ++ [Ob.mit ia (kvT A').length s] ++ Rg D)[ia]? = some (.map (kvT A')) := fun D s => by
      rw [List.append_assoc, List.append_assoc]; exact getO hi1
    repeat refine zS ?_
    refine oNext (i := ia) (j := O.length + 3) (kvs := kvT A') (seen := seen) (fun q pp hq hns => ?_) (fun hall => ?_) (hj := gM _ _) (hi := gI _ _)
    · obtain ⟨x, hx, rfl⟩ : ∃ x, A'[q]? = some x ∧ pp = (lk x, .bool true) := by
        rw [List.getElem?_map] at hq
        cases e : A'[q]? with
        | none => rw [e] at hq; cases hq
        | some x => rw [e] at hq; exact ⟨x, rfl, (Option.some.inj hq).symm⟩
      have hql := (List.getElem?_eq_some_iff.1 hx).1
      have hxm := List.mem_of_getElem? hx
      have j2 : (seen ++ [q]).Nodup := by
        rw [List.nodup_append]
        exact ⟨i3, by simp, fun a ha c hc e => by simp at hc; subst hc; exact hns (e ▸ ha)⟩
      have j3 : ∀ r ∈ seen ++ [q], r < A'.length := fun r hr => by
        rcases List.mem_append.1 hr with h1 | h1
        · exact i4 r h1
        · simp at h1; omega
      have hsl2 := seen_le A'.length (seen ++ [q]) j2 j3
      simp only [List.length_append, List.length_cons, List.length_nil] at hsl2
      have hxD : x ∉ D := fun h => by
        obtain ⟨q', h1, h2⟩ := (i5 x).1 h
        have := nodup_at hA' h2 hx
        subst this
        exact hns h1
      rw [sM]
      refine zX ?_
      repeat refine zS ?_
      refine oEntry (i := ia) (j := O.length + 3) (q := q) (kvs := kvT A') (seen := seen) ?_ hq (hj := gM _ _) (hi := gI _ _)
      iterate 2 refine zX ?_
      refine oV ?_ (hv := evAny_store_last)
      refine RunOps.nil ?_
      refine Run.dropLastD (m := (O ++ Rf []).length) (dl := []) (O := O1 ++ Rf D ++ [Ob.mit ia (kvT A').length (seen ++ [q])] ++ Rg D) (ds := lkC x) [(0, .yl (O.length + 2)), (5, .bp (O.length + 3) 0), (3, .d (.ep (lkC x)))] ?_ (by rw [hL, List.length_append, hRl]; omega) (by rw [hL]; exact hfr _ _) rfl (ofList_cases (by intro q hq; simp only [List.mem_cons, List.not_mem_nil, or_false] at hq; rcases hq with rfl | rfl | rfl; exact .inl (by kernel_rfl); exact .inl (by kernel_rfl); exact .inr ⟨0, Nat.zero_le _, by kernel_rfl, rfl⟩)) ⟨by rw [hL]; simp only [refA, Nat.blt_eq]; omega, by rw [hL]; simp only [refA, Nat.blt_eq]; omega, rfl, trivial⟩
      repeat refine zS ?_
      iterate 2 refine zX ?_
      refine oY (hy O1 [.mit ia (kvT A').length (seen ++ [q])] D x hl1 rfl hr1 (by simp [refOb, Nat.blt_eq]; exact hil) (hpA.mem_iff.1 hxm) (by rw [← hpA.length_eq]; omega)) ?_
      refine zX ?_
      repeat refine zS ?_
      refine ⟨(D ++ [x], seen ++ [q]), ⟨?_, by simp [i2], j2, j3, fun z => ?_⟩, by simp only [List.length_append, List.length_cons, List.length_nil]; omega, ?_⟩
      · rw [List.nodup_append]
        exact ⟨i1, by simp, fun a ha c hc e => by simp at hc; subst hc; exact hxD (e ▸ ha)⟩
      · rw [List.mem_append, i5 z]
        constructor
        · rintro (⟨q', h1, h2⟩ | h1)
          · exact ⟨q', by simp [h1], h2⟩
          · simp at h1; subst h1; exact ⟨q, by simp, hx⟩
        · rintro ⟨q', h1, h2⟩
          rcases List.mem_append.1 h1 with h1 | h1
          · exact .inl ⟨q', h1, h2⟩
          · simp at h1; subst h1
            rw [hx] at h2; cases h2
            exact .inr (by simp)
      · refine tidy_of _ (O.length + 3 + 1 + (Rg (D ++ [x])).length) (List.take_of_length_le (by rw [hL]; exact Nat.le_refl _)) (Nat.ble_eq_true_of_le (by rw [List.length_append, hRl]; omega)) ⟨.inl rfl, .inl rfl, trivial⟩ ⟨by simp only [refA, Nat.blt_eq]; omega, by simp only [refA, Nat.blt_eq]; omega, trivial⟩ (hfr _ _) rfl
    · have hper : D.Perm A := by
        refine (List.Perm.trans ?_ hpA)
        refine (List.perm_ext_iff_of_nodup i1 hA').2 fun z => ?_
        rw [i5 z]
        constructor
        · rintro ⟨q, _, h⟩
          exact List.mem_of_getElem? h
        · intro h
          obtain ⟨q, h1⟩ := List.getElem?_of_mem h
          exact ⟨q, hall q (by rw [hkA]; exact (List.getElem?_eq_some_iff.1 h1).1), h1⟩
      refine RunOps.closePm ia (l := kvT A') (kvs := kvT A) (gI _ _) (hpA.map _) ?_
      rw [List.append_assoc, List.append_assoc, setO (by rw [hl1]; exact hil), hc1]
      refine zX ?_
      repeat refine zS ?_
      refine ⟨trivial, _, _, rfl, rfl, ⟨rfl, D, [.mit ia (kvT A').length seen], hper, rfl, by simp [refOb, Nat.blt_eq]; exact hil, ?_⟩, rfl⟩
      simp [List.append_assoc]
theorem known_arg1 {P : Program} {f : FuncId} {x y : DV} {r : AV} (h : KnownCall P f [y] r) (hn : DvN x y) : KnownCall P f [x] r := by
  intro o
  refine ⟨(h o).1, fun D β w vs hp hv => (h o).2 D β w vs hp ⟨hv.1, fun j c v hc hw => ?_⟩⟩
  match j, hc with
  | 0, hc =>
    simp at hc
    subst hc
    have := hv.2 0 _ v rfl hw
    cases this with
    | d k => exact .d (hn.rep k)
  | j + 1, hc => simp at hc
abbrev valF (L : List (List Nat)) : DV := .fn (.func 79) [] [.ep [lks L]]
theorem valQ (O : List Ob) (L : List (List Nat)) (hO : O.all (refOb O.length) = true) (hl : L.length ≤ 1048576) : IterQ O 0 (.d (valF L)) L (fun D => D = L) := by
  obtain ⟨g, a, b, he, hA⟩ := valuesIt L hl
  refine ⟨⟨rfl, rfl⟩, g, a.map .d, b.map .d, fun D β v hv => fn_rep (show RepA D β (.d (.fn (.func g) a b)) v by rw [← he]; exact hv), fun Rf Rg hRl hRg0 hRr hGr hy => ?_⟩
  have hBl : ∀ k, (O ++ Rf (L.take k) ++ Rg (L.take k)).length = O.length + 3 + (Rg (L.take k)).length := fun k => by simp [hRl]; omega
  have h1 := hA (O.length + 2) (fun k => O ++ Rf (L.take k) ++ Rg (L.take k)) (fun k => by rw [hBl]; omega) (fun k => by rw [hBl, hBl]; simp [hRg0]) (fun k => by
    rw [hBl, List.all_append, List.all_append, refs_mono (by omega) hO]
    have r1 := hRr (L.take k)
    have r2 := hGr (L.take k)
    rw [Nat.add_zero] at r1 r2
    rw [r1, r2]; rfl) (fun k x hx => by
    have hk := (List.getElem?_eq_some_iff.1 hx).1
    have := hy O [] (L.take k) x rfl rfl hO rfl (List.mem_of_getElem? hx) (by simp; omega)
    rw [List.append_nil, List.append_nil] at this
    rw [List.take_add_one, hx]
    exact this)
  simp only [List.take_zero, hRg0, List.append_nil, List.take_length] at h1
  refine (ACallQ.of h1 rfl).mono fun o r ⟨e1, e2⟩ => ⟨e2, L, [], rfl, rfl, rfl, by rw [e1]; simp⟩
set_option maxHeartbeats 4000000 in
theorem collectQ (O : List Ob) (hO : O.all (refOb O.length) = true) (y : Nat) (fv : AV) (E : List (List Nat)) (Pm : List (List Nat) → Prop) (hit : IterQ O y fv E Pm) (hE : ∀ x ∈ E, x.length ≤ 4) (hl : E.length ≤ 100000) :
    ACallQ Tryz.prog 28 [fv] O (fun o r => ∃ D, Pm D ∧ r = outQ (O.length + 3 + y) D ∧ o = O ++ List.replicate (3 + y) .gone ++ outX D) := by
  have w : Fz [] := trivial
  refine acallQ_of_run Et_ok (fnB Tryz.func28 []) rfl rfl ?_
  have w : Fz [] := trivial
  repeat refine zS ?_
  refine zX ?_
  repeat refine zS ?_
  refine oV (v := fv) ?_ (hp := hit.1.2) (he := rfl)
  refine oQ (appSeqQ O hO y fv E Pm hit hE hl) fun o' r ⟨D, h1, h2, h3⟩ => ⟨_, rfl, ?_⟩
  subst h2 h3
  refine oV (v := outQ (O.length + 3 + y) D) ?_ (he := rfl) (hp := by cases D <;> rfl)
  refine RunOps.nil ?_
  refine Run.ret ?_
  exact ⟨trivial, _, _, rfl, rfl, ⟨D, h1, rfl, rfl⟩, (by cases D <;> rfl)⟩
theorem collectK (L : List (List Nat)) (hE : ∀ x ∈ L, x.length ≤ 4) (hl : L.length ≤ 100000) : KnownCall Tryz.prog 28 [valF L] (.d (lks L)) := by
  refine (collectQ [] rfl 0 (.d (valF L)) L _ (valQ [] L rfl (by omega)) hE hl).known fun o x ⟨D, h1, h2, h3⟩ => ?_
  subst h1 h2 h3
  cases D with
  | nil => exact ⟨_, rfl, .d .nil⟩
  | cons z r =>
    have h := getX (Z := ([] : List Ob) ++ List.replicate (3 + 0) .gone) (x := z) (r := r)
    exact ⟨_, close_vec (L := z :: r) h, .d .refl⟩
theorem keysA (O : List Ob) (hO : O.all (refOb O.length) = true) (ia : Nat) (hi : ia < O.length) : ACall Tryz.prog 50 [.mp ia] O (.fn (.func 75) [] [.bp O.length 0]) (O ++ [.box [.mp ia]]) := by
  have w : Fz [] := trivial
  refine acallG_of_run Et_ok (fnB Tryz.func50 []) rfl rfl (by simp) ?_ (by simp [refA, Nat.blt_eq]) ?_
  · rw [List.all_append, refs_mono (by simp) hO]; simp [refOb, refA, Nat.blt_eq]; omega
  have w : Fz [] := trivial
  repeat refine zS ?_
  iterate 2 refine zX ?_
  repeat refine zS ?_
  iterate 2 refine zX ?_
  repeat refine zS ?_
  refine Run.ret ?_
  exact ⟨trivial, _, _, rfl, rfl, .refl, wk_refl _⟩
theorem wk_pre : ∀ O W : List Ob, WkObs (O ++ W) O
  | [], W => by cases W <;> trivial
  | _ :: O, W => ⟨.refl, wk_pre O W⟩
set_option maxHeartbeats 4000000 in
theorem sortedA (O : List Ob) (hO : O.all (refOb O.length) = true) (ia : Nat) (A : List (List Nat)) (hia : O[ia]? = some (.pm (kvT A))) (hA : Asc A) (hR : ∀ x ∈ A, Rt x) :
    ACall Tryz.prog 29 [.mp ia] O (.d (valF A)) O := by
  have w : Fz [] := trivial
  have hil := (List.getElem?_eq_some_iff.1 hia).1
  have hnd := asc_nodup hA
  have hAl := rt_card hnd hR
  have hO1 : (O ++ [Ob.box [.mp ia]]).all (refOb (O ++ [Ob.box [.mp ia]]).length) = true := by
    rw [List.all_append, refs_mono (by simp) hO]; simp [refOb, refA, Nat.blt_eq]; omega
  have hit := keysIt (O ++ [Ob.box [.mp ia]]) hO1 O.length ia A get0 (getO hia) hnd fun x hx => (hR x hx).len
  refine acallG_of_run Et_ok (fnB Tryz.func29 []) rfl rfl (Nat.le_refl _) hO rfl ?_
  have w : Fz [] := trivial
  repeat refine zS ?_
  refine zX ?_
  repeat refine zS ?_
  refine zX ?_
  refine oA (keysA O hO ia hil) ?_
  refine oQ (collectQ (O ++ [Ob.box [.mp ia]]) hO1 1 _ A _ hit (fun x hx => (hR x hx).len) (by omega)) fun o' r ⟨D, h1, h2, h3⟩ => ⟨_, rfl, ?_⟩
  subst h2 h3
  refine oV (v := outQ ((O ++ [Ob.box [.mp ia]]).length + 3 + 1) D) ?_ (he := rfl) (hp := by cases D <;> rfl)
  repeat refine zS ?_
  cases D with
  | nil =>
    have hA0 : A = [] := h1.symm.eq_nil
    subst hA0
    refine zX ?_
    refine zC sortNil ?_
    repeat refine zS ?_
    refine zX ?_
    refine zC (known_arg1 (valuesK []) .nil) ?_
    refine zX ?_
    repeat refine zS ?_
    refine Run.ret ?_
    refine ⟨trivial, _, _, rfl, rfl, .refl, ?_⟩
    simp only [List.append_assoc]
    exact wk_pre _ _
  | cons z r =>
    obtain ⟨L', hp, hs, hS⟩ := sortA cmpFst (z :: r) (fun x hx => hR x (h1.mem_iff.1 hx)) (by rw [h1.length_eq]; omega)
    have hLA : L' = A := asc_ext (asc_of_sorted hs (hp.nodup_iff.2 (h1.nodup_iff.2 hnd))) hA fun x => (hp.mem_iff).trans h1.mem_iff
    subst hLA
    have hZl : ((O ++ [Ob.box [.mp ia]]) ++ List.replicate (3 + 1) Ob.gone).length = (O ++ [Ob.box [AV.mp ia]]).length + 3 + 1 := by simp
    have hgx := getX (Z := (O ++ [Ob.box [.mp ia]]) ++ List.replicate (3 + 1) Ob.gone) (x := z) (r := r)
    rw [hZl] at hgx
    refine zX ?_
    refine oA (hS _ ((O ++ [Ob.box [.mp ia]]).length + 3 + 1 + r.length) hgx) ?_
    refine RunOps.nil ?_
    have hln : L'.length = r.length + 1 := hp.length_eq
    have hgl := (List.getElem?_eq_some_iff.1 hgx).1
    refine Run.freezeVec ((O ++ [Ob.box [.mp ia]]).length + 3 + 1 + r.length) (es := L'.map lk) (n := r.length + 1) (sz := 5) (ag := true) (T := 44) (tm' := PT.ofList [(3, .d (lks L'))]) ?_ ?_ (by rw [List.length_map, hln]) (fun e he => by obtain ⟨x, _, rfl⟩ := List.mem_map.1 he; rfl) (ofList_cases (by intro q hq; simp only [List.mem_cons, List.not_mem_nil, or_false] at hq; rcases hq with rfl; exact .inr ⟨by kernel_rfl, rfl⟩))
    · repeat refine zS ?_
      refine zX ?_
      refine zC (valuesK L') ?_
      refine zX ?_
      repeat refine zS ?_
      refine Run.ret ?_
      refine ⟨trivial, _, _, rfl, rfl, .refl, ?_⟩
      rw [List.set_set]
      simp only [List.append_assoc]
      rw [List.set_append_right _ _ (by simp; omega)]
      exact wk_pre _ _
    · rw [List.getElem?_set_self hgl, vecL, hln]
theorem sameLq (a b : List (List Nat)) (ha : ∀ x ∈ a, x.length ≤ 4) (hl : a.length ≤ 1048576) : KnownCall Tryz.prog 15 [lks a, lks b] (.d (.bool (decide (a = b)))) := by
  by_cases hab : a.length = b.length
  · refine kF Tryz.func15 [] fun w => ?_
    repeat' (first
      | refine zW ?_
      | refine zB ?_ ?_ <;> intro h <;> try exact zk h
      | ((exfalso; first | (simp at h <;> fail) | (simp at h; omega)))
      | fail)
    refine Run.loop (fun i : Nat => ⟨PT.ofList [(0, .d (lks a)), (1, .d (lks b)), (5, .d (.int .i64 i))], [], []⟩) (fun i => i ≤ a.length ∧ a.take i = b.take i) (fun i => a.length - i) 0 ⟨Nat.zero_le _, rfl⟩ (weak_of (by repeat' (first | exact trivial | refine ⟨rfl, ?_⟩))) (fun i hi => ?_)
    rcases Nat.lt_or_ge i a.length with hlt | hge
    · obtain ⟨x, hx⟩ := get_ok hlt
      obtain ⟨y, hy⟩ := get_ok (show i < b.length by omega)
      have hxl := ha x (List.mem_of_getElem? hx)
      by_cases hxy : x = y
      · subst hxy
        have hnx : a.take (i + 1) = b.take (i + 1) := by rw [List.take_add_one, List.take_add_one, hi.2, hx, hy]
        repeat' (first
          | refine zW ?_
          | refine zB ?_ ?_ <;> intro h <;> try exact zk h
          | refine zI w (.d (.ep (lkC x))) hx ?_
          | refine zI w (.d (.ep (lkC x))) hy ?_
          | (exact ⟨i + 1, ⟨hlt, hnx⟩, by omega, weak_of (by repeat' (first | exact trivial | refine ⟨rfl, ?_⟩ | refine ⟨(inc_get (k := i) (by kernel_rfl) (by omega)), ?_⟩))⟩)
          | ((exfalso; first | (simp at h <;> fail) | (simp at h; omega)))
          | fail)
      · have hne : a ≠ b := fun e => by subst e; rw [hx] at hy; cases hy; exact hxy rfl
        rw [decide_eq_false hne]
        repeat' (first
          | refine zW ?_
          | refine zB ?_ ?_ <;> intro h <;> try exact zk h
          | refine zI w (.d (.ep (lkC x))) hx ?_
          | refine zI w (.d (.ep (lkC y))) hy ?_
          | rfl
          | ((exfalso; simp only [Bool.not_eq_eq_eq_not, Bool.not_false, bne, Bool.and_eq_true, beq_iff_eq] at h; exact hxy (lk_inj hxl (by omega) (by omega) (by omega) (by omega) (by omega))))
          | ((exfalso; first | (simp at h <;> fail) | (simp at h; omega)))
          | fail)
    · have hie : i = a.length := by have := hi.1; omega
      have he : a = b := by
        have := hi.2
        rwa [hie, List.take_length, hab, List.take_length] at this
      rw [decide_eq_true he]
      subst hie
      repeat' (first
        | refine zW ?_
        | refine zB ?_ ?_ <;> intro h <;> try exact zk h
        | rfl
        | ((exfalso; first | (simp at h <;> fail) | (simp at h; omega)))
        | fail)
  · have hne : a ≠ b := fun e => hab (by rw [e])
    rw [decide_eq_false hne]
    refine kF Tryz.func15 [] fun w => ?_
    repeat' (first
      | refine zW ?_
      | refine zB ?_ ?_ <;> intro h <;> try exact zk h
      | rfl
      | ((exfalso; first | (simp at h <;> fail) | (simp at h; omega)))
      | fail)
structure GProd where
  left : Int
  right : List Int
structure Gram where
  k : Int
  tokens : List (List Nat)
  sep : List Nat
  names : List (List Nat)
  start : Int
  prods : List GProd
def encP (p : GProd) : DV := .agg [.int .i64 p.left, ints p.right]
abbrev encG (g : Gram) : DV := .agg [.int .i64 g.k, strs g.tokens, .str g.sep, strs g.names, .int .i64 g.start, .sl 2 (g.prods.map encP)]
structure Fits (g : Gram) : Prop where
  tokens : g.tokens.length ≤ 1048576
  names : g.names.length ≤ 1048576
  prods : g.prods.length ≤ 1048576
  sep : g.sep.length ≤ 1048576
  tokenS : ∀ s ∈ g.tokens, s.length ≤ 1048576
  nameS : ∀ s ∈ g.names, s.length ≤ 1048576
  rights : ∀ p ∈ g.prods, p.right.length ≤ 1048576
def isTerm (g : Gram) (s : Int) : Bool := decide (0 ≤ s) && decide (s < g.tokens.length)
def isNonterm (g : Gram) (s : Int) : Bool := decide (16 ≤ s) && decide (s < 16 + g.names.length)
theorem refTerminal0 (g : Gram) (s : Int) : ACall Tryz.prog 84 [.d (encG g), .d (.int .i64 s)] [] (.d (.bool (isTerm g s))) [] := by
  have w : Fz [2] := trivial
  refine acall_of_run Et_ok (fnB Tryz.func84 [2]) rfl rfl ?_
  by_cases h : 0 ≤ s
  · refine Run.seq (Run.region ?_)
    iterate 2 refine zX ?_
    refine RunOps.nil ?_
    refine Run.seq (Run.region ?_)
    iterate 1 refine zX ?_
    first | refine oV (v := .d (.bool true)) ?_ (he := (by simp [h])) | refine eX (v := .d (.bool true)) ?_ (he := (by simp [h]))
    repeat refine zA ?_
    refine Run.ret ?_
    refine ⟨trivial, rfl, Eq.trans (b := some (.d (.bool (decide (s < ((g.tokens.map DV.str).length : Nat)))))) (by kernel_rfl) ?_⟩
    simp [isTerm, h]
  · refine Run.seq (Run.region ?_)
    iterate 2 refine zX ?_
    refine RunOps.nil ?_
    refine Run.seq (Run.region ?_)
    iterate 1 refine zX ?_
    first | refine oV (v := .d (.bool false)) ?_ (he := (by simp [h])) | refine eX (v := .d (.bool false)) ?_ (he := (by simp [h]))
    iterate 1 refine zX ?_
    iterate 5 refine RunOps.skip (by rfl) (by rfl) ?_
    repeat refine zA ?_
    refine Run.ret ?_
    refine ⟨trivial, rfl, Eq.trans (b := some (.d (.bool false))) (by kernel_rfl) ?_⟩
    simp [isTerm, h]
theorem refTerminal (g : Gram) (s : Int) : KnownCall Tryz.prog 84 [encG g, .int .i64 s] (.d (.bool (isTerm g s))) := fun o => pure_call (k := 8) rfl (refTerminal0 g s) rfl o
theorem terminal0 (g : Gram) (s : Int) : ACall Tryz.prog 72 [.d (encG g), .d (.int .i64 s)] [] (.d (.bool (isTerm g s))) [] := by
  have w : Fz [2] := trivial
  refine acall_of_run Et_ok (fnB Tryz.func72 [2]) rfl rfl ?_
  by_cases h : 0 ≤ s
  · refine Run.seq (Run.region ?_)
    iterate 2 refine zX ?_
    refine RunOps.nil ?_
    refine Run.seq (Run.region ?_)
    iterate 1 refine zX ?_
    first | refine oV (v := .d (.bool true)) ?_ (he := (by simp [h])) | refine eX (v := .d (.bool true)) ?_ (he := (by simp [h]))
    repeat refine zA ?_
    refine Run.ret ?_
    refine ⟨trivial, rfl, Eq.trans (b := some (.d (.bool (decide (s < ((g.tokens.map DV.str).length : Nat)))))) (by kernel_rfl) ?_⟩
    simp [isTerm, h]
  · refine Run.seq (Run.region ?_)
    iterate 2 refine zX ?_
    refine RunOps.nil ?_
    refine Run.seq (Run.region ?_)
    iterate 1 refine zX ?_
    first | refine oV (v := .d (.bool false)) ?_ (he := (by simp [h])) | refine eX (v := .d (.bool false)) ?_ (he := (by simp [h]))
    iterate 1 refine zX ?_
    iterate 5 refine RunOps.skip (by rfl) (by rfl) ?_
    repeat refine zA ?_
    refine Run.ret ?_
    refine ⟨trivial, rfl, Eq.trans (b := some (.d (.bool false))) (by kernel_rfl) ?_⟩
    simp [isTerm, h]
theorem terminal (g : Gram) (s : Int) : KnownCall Tryz.prog 72 [encG g, .int .i64 s] (.d (.bool (isTerm g s))) := fun o => pure_call (k := 8) rfl (terminal0 g s) rfl o
theorem allProds0 (ps : List GProd) (hl : ps.length ≤ 1099511627776) (yi L : Nat) (B : Nat → List Ob) (hyi : Nat.blt yi L = true) (hL : ∀ k, (B k).length = L) (hR : ∀ k, (B k).all (refOb L) = true) (n : Nat) (hn : n ≤ ps.length)
    (hy : ∀ k p, k < n → ps[k]? = some p → AYield Tryz.prog yi [.d (.int .i64 k), .d (encP p)] (B k) (.d (.bool true)) (B (k + 1))) (obs : List Ob)
    (hend : n = ps.length ∧ obs = B n ∨ ∃ p, ps[n]? = some p ∧ AYield Tryz.prog yi [.d (.int .i64 n), .d (encP p)] (B n) (.d (.bool false)) obs) :
    ACall Tryz.prog 121 [.yl yi, .d (.ep [.sl 2 (ps.map encP)])] (B 0) (.tup []) obs := by
  have w : Fz [] := trivial
  refine acall_of_run Et_ok (fnB Tryz.func121 []) rfl rfl ?_
  repeat refine zA ?_
  refine Run.loop (fun k : Nat => ⟨PT.ofList [(0, .yl yi), (5, .d (.sl 2 (ps.map encP))), (6, .d (.int .i64 (ps.map encP).length)), (7, .d (.int .i64 k))], B k, []⟩) (fun k => k ≤ n) (fun k => ps.length - k) 0 (Nat.zero_le _) (weak_of ⟨rfl, rfl, rfl, rfl, trivial⟩) (fun k hk => ?_)
  repeat refine zA ?_
  refine Run.cond (by rfl) (fun h => ?_) (fun h => ?_)
  · have hlt : k < ps.length := by simpa using h
    obtain ⟨p, hp⟩ := get_ok hlt
    repeat refine zA ?_
    first | refine oV (v := .d (.ep [.int .i64 p.left, ints p.right])) ?_ (hf := (by first | (simp [inB] <;> fail) | (simp [inB]; omega))) (he := (by first | (simp [List.getD_eq_getElem?_getD, cellsD, hp, encP] <;> fail) | fail)) | refine eX (v := .d (.ep [.int .i64 p.left, ints p.right])) ?_ (hf := (by first | (simp [inB] <;> fail) | (simp [inB]; omega))) (he := (by first | (simp [List.getD_eq_getElem?_getD, cellsD, hp, encP] <;> fail) | fail))
    repeat refine zA ?_
    refine RunOps.x (frz := []) (v := .d .any) (ob := some (B k ++ [.box [.d (.int .i64 p.left), .d (ints p.right)]])) (fl := true) Et_ok (by rfl)
      (Eq.trans (b := Option.map (fun (p : AV × List Ob × Bool) => (p.1, some p.2.1, p.2.2)) (storeR Et 54 (.bp (B k).length 0) (.d (.agg [.int .i64 p.left, ints p.right])) (B k ++ [.box [.d (.int .i64 0), .d .nilsl]]))) rfl (by rw [store_last (y := ty54) (by rfl) (B k) _ (by rfl) (by rfl) (by rfl)]; rfl)) rfl rfl rfl rfl (by rfl) ?_
    repeat refine zA ?_
    refine RunOps.x (frz := []) (v := .d (.agg [.int .i64 p.left, ints p.right])) (ob := none) (fl := true) Et_ok (by rfl)
      (Eq.trans (b := Option.map (fun (p : AV × List Ob × Bool) => (p.1, none, p.2.2)) (loadR Et 54 (.bp (B k).length 0) (B k ++ [.box [.d (.int .i64 p.left), .d (ints p.right)]]))) rfl (by rw [load_last (y := ty54) (by rfl) (by rfl) (B k) _ (by rfl)]; rfl)) rfl rfl rfl rfl (by rfl) ?_
    have hLk := hL k
    have hb : Nat.blt yi (B k).length = true := by rw [hLk]; exact hyi
    refine RunOps.less (less_of [(5, .d (.sl 2 (ps.map encP))), (6, .d (.int .i64 (ps.map encP).length)), (7, .d (.int .i64 k)), (12, .yl yi), (0, .yl yi), (13, .d (.int .i64 k)), (14, .d (encP p))] (B k).length (List.take_left) (by rw [hL, hL]; exact Nat.ble_eq_true_of_le (Nat.le_refl _))
      ⟨by kernel_rfl, by kernel_rfl, by kernel_rfl, by kernel_rfl, by kernel_rfl, by kernel_rfl, by kernel_rfl, trivial⟩ ⟨rfl, rfl, rfl, hb, hb, rfl, rfl, trivial⟩ (by rw [hLk]; exact hR k) rfl) ?_
    rcases Nat.lt_or_ge k n with hkn | hkn
    · refine RunOps.yield (by rfl) (by rfl) (hy k p hkn hp) (by rfl) (by rfl) ?_
      repeat refine zA ?_
      refine Run.cond (b := false) (by rfl) (fun h => by cases h) (fun _ => ?_)
      repeat refine zA ?_
      exact ⟨k + 1, hkn, by omega, weak_of ⟨(by kernel_rfl), (by kernel_rfl), (by kernel_rfl), (inc_get (k := k) (by kernel_rfl) (by omega)), trivial⟩⟩
    · have hkn : k = n := by omega
      subst hkn
      rcases hend with ⟨h1, _⟩ | ⟨p', hp', hA⟩
      · omega
      · rw [hp] at hp'; cases hp'
        refine RunOps.yield (by rfl) (by rfl) hA (by rfl) (by rfl) ?_
        repeat refine zA ?_
        refine Run.cond (b := true) (by rfl) (fun _ => ?_) (fun h => by cases h)
        refine Run.ret ?_
        exact ⟨trivial, rfl, by kernel_rfl⟩
  · have hge : ps.length ≤ k := by simpa using h
    have hkn : k = n := by omega
    subst hkn
    rcases hend with ⟨_, rfl⟩ | ⟨p', hp', _⟩
    · repeat refine zA ?_
      exact ⟨trivial, rfl, by kernel_rfl⟩
    · rw [List.getElem?_eq_none (by omega)] at hp'; cases hp'
abbrev allProdsF (ps : List GProd) : DV := .fn (.func 121) [] [.ep [.sl 2 (ps.map encP)]]
theorem Run.rangeProds {nt m : Nat} {frz : List Nat} {K : Ex → S → Prop} {tm : PT AV} {dl : List Dl} {f : Operand} {qs : Array Tmp} {assign body : Code} (L : Nat) (Bs : Nat → List Ob) (ps : List GProd) (hl : ps.length ≤ 1099511627776)
    (hf : rd tm f = .d (allProdsF ps)) (hBL : ∀ k, (Bs k).length = L) (hBr : ∀ k, (Bs k).all (refOb (L + 2)) = true) (hT : ptAll (refA 8 (L + 2)) tm = true) (n : Nat) (hn : n ≤ ps.length)
    (hround : ∀ k p, k < n → ps[k]? = some p → AYield Tryz.prog (L + 1) [.d (.int .i64 k), .d (encP p)] (rangeObs (Bs k) tm nt frz qs assign body .ready none) (.d (.bool true)) (rangeObs (Bs (k + 1)) tm nt frz qs assign body .ready none))
    (hend : (n = ps.length ∧ K .normal ⟨tm, rangeObs (Bs n) tm nt frz qs assign body .exhausted none, .mark L :: dl⟩) ∨
      ∃ p Be, ps[n]? = some p ∧ (Be.length = L) ∧ ((AYield Tryz.prog (L + 1) [.d (.int .i64 n), .d (encP p)] (rangeObs (Bs n) tm nt frz qs assign body .ready none) (.d (.bool false)) (rangeObs Be tm nt frz qs assign body .done (some .ret)) ∧
          K .ret ⟨tm, rangeObs Be tm nt frz qs assign body .exhausted (some .ret), .mark L :: dl⟩) ∨
        ∃ id, AYield Tryz.prog (L + 1) [.d (.int .i64 n), .d (encP p)] (rangeObs (Bs n) tm nt frz qs assign body .ready none) (.d (.bool false)) (rangeObs Be tm nt frz qs assign body .done (some (.exit id))) ∧
          K (.exit id) ⟨tm, rangeObs Be tm nt frz qs assign body .exhausted (some (.exit id)), .mark L :: dl⟩)) :
    Run Tryz.prog nt m none (.rangeFunc f qs assign body) ⟨tm, Bs 0, dl⟩ K := by
  have hlen : ∀ B : List Ob, B.length = L → ∀ st pend, (rangeObs B tm nt frz qs assign body st pend).length = L + 2 := fun B h st pend => by simp [rangeObs, h]
  have hrefs : ∀ k, (rangeObs (Bs k) tm nt frz qs assign body .ready none).all (refOb (L + 2)) = true := fun k => by
    simp only [rangeObs, List.all_append, hBr k, Bool.true_and, List.all_cons, List.all_nil, Bool.and_true]
    simp only [refOb, hT, Bool.and_self]
  have hget : ∀ B : List Ob, B.length = L → ∀ st pend, (rangeObs B tm nt frz qs assign body st pend)[L + 1]? = some (.loop tm nt frz qs assign body st pend) := fun B h st pend => by
    subst h; simp [rangeObs]
  have hset : ∀ B : List Ob, B.length = L → ∀ st pend st' pend', (rangeObs B tm nt frz qs assign body st pend).set (L + 1) (.loop tm nt frz qs assign body st' pend') = rangeObs B tm nt frz qs assign body st' pend' := fun B h st pend st' pend' => by
    subst h
    unfold rangeObs
    rw [List.set_append_right _ _ (by simp)]
    simp
  have hyi : Nat.blt (L + 1) (L + 2) = true := by rw [Nat.blt_eq]; omega
  have hm : Tryz.prog.follows .mixedOrders = true := by kernel_rfl
  rcases hend with ⟨h1, h2⟩ | ⟨p, Be, hp, hBe, ⟨h1, h2⟩ | ⟨id, h1, h2⟩⟩
  · have hA := allProds0 ps hl (L + 1) (L + 2) (fun k => rangeObs (Bs k) tm nt frz qs assign body .ready none) hyi (fun k => hlen _ (hBL k) _ _) hrefs n hn hround (rangeObs (Bs n) tm nt frz qs assign body .ready none) (.inl ⟨h1, rfl⟩)
    rw [← hBL 0] at hA
    have := Run.range (m := m) (s := ⟨tm, Bs 0, dl⟩) (K := K) Et_ok hm hf hA rfl (by rw [hBL 0]; exact hget _ (hBL n) _ _) (by simp) (by
      simp only [hBL 0]
      rw [hset _ (hBL n)]
      exact h2)
    exact this
  · have hA := allProds0 ps hl (L + 1) (L + 2) (fun k => rangeObs (Bs k) tm nt frz qs assign body .ready none) hyi (fun k => hlen _ (hBL k) _ _) hrefs n hn hround (rangeObs Be tm nt frz qs assign body .done (some .ret)) (.inr ⟨p, hp, h1⟩)
    rw [← hBL 0] at hA
    have := Run.range (m := m) (s := ⟨tm, Bs 0, dl⟩) (K := K) Et_ok hm hf hA rfl (by rw [hBL 0]; exact hget _ hBe _ _) (by simp) (by
      simp only [hBL 0]
      rw [hset _ hBe]
      exact h2)
    exact this
  · have hA := allProds0 ps hl (L + 1) (L + 2) (fun k => rangeObs (Bs k) tm nt frz qs assign body .ready none) hyi (fun k => hlen _ (hBL k) _ _) hrefs n hn hround (rangeObs Be tm nt frz qs assign body .done (some (.exit id))) (.inr ⟨p, hp, h1⟩)
    rw [← hBL 0] at hA
    have := Run.range (m := m) (s := ⟨tm, Bs 0, dl⟩) (K := K) Et_ok hm hf hA rfl (by rw [hBL 0]; exact hget _ hBe _ _) (by simp) (by
      simp only [hBL 0]
      rw [hset _ hBe]
      exact h2)
    exact this
theorem wrap64 {n : Int} (h1 : -9223372036854775808 ≤ n) (h2 : n ≤ 9223372036854775807) : IntKind.i64.wrap n = n := IntWalk.i64_in n ⟨h1, h2⟩
theorem refNonterm (g : Gram) (s : Int) (hf : Fits g) : KnownCall Tryz.prog 83 [encG g, .int .i64 s] (.d (.bool (isNonterm g s))) := by
  have hn := hf.names
  have hw : IntKind.i64.wrap (16 + (g.names.length : Int)) = 16 + g.names.length := wrap64 (by omega) (by omega)
  refine kF Tryz.func83 [2] fun w => ?_
  repeat' (first
    | refine zW ?_
    | refine zB ?_ ?_ <;> intro h <;> try exact zk h
    | (show _ = _; first | (simp_all [isNonterm]; done) | (simp_all [isNonterm]; omega))
    | fail)
theorem nonterminal (g : Gram) (s : Int) (hf : Fits g) : KnownCall Tryz.prog 69 [encG g, .int .i64 s] (.d (.bool (isNonterm g s))) := by
  have hn := hf.names
  have hw : IntKind.i64.wrap (16 + (g.names.length : Int)) = 16 + g.names.length := wrap64 (by omega) (by omega)
  refine kF Tryz.func69 [2] fun w => ?_
  repeat' (first
    | refine zW ?_
    | refine zB ?_ ?_ <;> intro h <;> try exact zk h
    | (show _ = _; first | (simp_all [isNonterm]; done) | (simp_all [isNonterm]; omega))
    | fail)
def letterF (c : Int) : Bool := (decide (97 ≤ c) && decide (c ≤ 122)) || (decide (65 ≤ c) && decide (c ≤ 90))
def digitF (c : Int) : Bool := decide (48 ≤ c) && decide (c ≤ 57)
def badAt (s : List Nat) (i : Nat) : Prop := ∃ c : Nat, s[i]? = some c ∧ letterF c = false ∧ (i = 0 ∨ (digitF c = false ∧ (c : Int) ≠ 95))
open Classical in
def wordF (s : List Nat) : Int := if s = [] then 5 else if ∃ i, badAt s i then 3 else if 12 < s.length then 4 else 0
def wLook : List Nat := [108, 111, 111, 107, 97, 104, 101, 97, 100]
def wToken : List Nat := [116, 111, 107, 101, 110]
def wSep : List Nat := [115, 101, 112, 97, 114, 97, 116, 111, 114]
def wStart : List Nat := [115, 116, 97, 114, 116]
def languageF (s : List Nat) : Bool := decide (s = wLook ∨ s = wToken ∨ s = wSep ∨ s = wStart)
def nameF (s : List Nat) : Int := if wordF s = 0 ∧ languageF s = true then 12 else wordF s
theorem refLetter (c : Int) : KnownCall Tryz.prog 137 [.int .u8 c] (.d (.bool (letterF c))) := by
  refine kF Tryz.func137 [] fun w => ?_
  repeat' (first
    | refine zW ?_
    | refine zB ?_ ?_ <;> intro h <;> try exact zk h
    | (show _ = _; first | (simp_all [letterF]; done) | (simp_all [letterF]; omega))
    | fail)
theorem letter (c : Int) : KnownCall Tryz.prog 133 [.int .i32 c] (.d (.bool (letterF c))) := by
  refine kF Tryz.func133 [] fun w => ?_
  repeat' (first
    | refine zW ?_
    | refine zB ?_ ?_ <;> intro h <;> try exact zk h
    | (show _ = _; first | (simp_all [letterF]; done) | (simp_all [letterF]; omega))
    | fail)
theorem refDigit (c : Int) : KnownCall Tryz.prog 138 [.int .u8 c] (.d (.bool (digitF c))) := by
  refine kF Tryz.func138 [] fun w => ?_
  repeat' (first
    | refine zW ?_
    | refine zB ?_ ?_ <;> intro h <;> try exact zk h
    | (show _ = _; first | (simp_all [digitF]; done) | (simp_all [digitF]; omega))
    | fail)
theorem digit (c : Int) : KnownCall Tryz.prog 134 [.int .i32 c] (.d (.bool (digitF c))) := by
  refine kF Tryz.func134 [] fun w => ?_
  repeat' (first
    | refine zW ?_
    | refine zB ?_ ?_ <;> intro h <;> try exact zk h
    | (show _ = _; first | (simp_all [digitF]; done) | (simp_all [digitF]; omega))
    | fail)
theorem refLanguage (s : List Nat) : KnownCall Tryz.prog 130 [.str s] (.d (.bool (languageF s))) := by
  refine kF Tryz.func130 [] fun w => ?_
  repeat' (first
    | refine zW ?_
    | refine zB ?_ ?_ <;> intro h <;> try exact zk h
    | (show _ = _; first | (simp_all [languageF, wLook, wToken, wSep, wStart]; done))
    | fail)
theorem wordF_bad {s : List Nat} (hs : s ≠ []) {i : Nat} (h : badAt s i) : wordF s = 3 := by
  unfold wordF
  rw [if_neg hs, if_pos ⟨i, h⟩]
theorem wordF_good {s : List Nat} (hs : s ≠ []) (h : ∀ i, ¬ badAt s i) : wordF s = if 12 < s.length then 4 else 0 := by
  unfold wordF
  rw [if_neg hs, if_neg (fun ⟨i, hi⟩ => h i hi)]
theorem refWord (s : List Nat) (hl : s.length ≤ 1099511627776) : KnownCall Tryz.prog 129 [.str s] (.d (.int .i64 (wordF s))) := by
  refine kF Tryz.func129 [] fun w => ?_
  repeat' (first
    | refine zW ?_
    | refine zB ?_ ?_ <;> intro h <;> try exact zk h
    | (show _ = _; simp_all [wordF])
    | fail)
  have hs : s ≠ [] := by simpa using h
  refine Run.loop (fun i : Nat => ⟨PT.ofList [(0, .d (.str s)), (3, .d (.int .i64 i))], [], []⟩) (fun i => i ≤ s.length ∧ ∀ j, j < i → ¬ badAt s j) (fun i => s.length - i) 0 ⟨Nat.zero_le _, fun j hj => by omega⟩ (weak_of ⟨rfl, rfl, trivial⟩) (fun i hi => ?_)
  obtain ⟨hi1, hi2⟩ := hi
  rcases Nat.lt_or_ge i s.length with hlt | hge
  · obtain ⟨c, hc⟩ := get_ok hlt
    have hbad : badAt s i ↔ letterF c = false ∧ (i = 0 ∨ (digitF c = false ∧ (c : Int) ≠ 95)) := ⟨fun ⟨c', h1, h2⟩ => by rw [hc] at h1; cases h1; exact h2, fun h => ⟨c, hc, h⟩⟩
    repeat' (first
      | refine zW ?_
      | refine zB ?_ ?_ <;> intro h <;> try exact zk h
      | refine zI w (.d (.int .u8 c)) hc ?_
      | refine zK (refLetter _) ?_ ?_ <;> intro h <;> try exact zk h
      | refine zC (refLetter _) ?_
      | refine zK (refDigit _) ?_ ?_ <;> intro h <;> try exact zk h
      | refine zC (refDigit _) ?_
      | (show _ = _; rw [wordF_bad hs (i := i) (hbad.2 (by simp_all))])
      | (exact ⟨i + 1, ⟨by omega, fun j hj => by rcases Nat.lt_succ_iff_lt_or_eq.1 hj with h | h; exact hi2 j h; subst h; rw [hbad]; simp_all⟩, by omega, weak_of ⟨(by kernel_rfl), (inc_get (k := i) (by kernel_rfl) (by omega)), trivial⟩⟩)
      | fail)
  · have hge : i = s.length := by omega
    have hall : ∀ j, ¬ badAt s j := fun j hj => by
      by_cases hlt : j < i
      · exact hi2 j hlt hj
      · obtain ⟨c, h1, _⟩ := hj
        rw [List.getElem?_eq_none (by omega)] at h1; cases h1
    repeat' (first
      | refine zW ?_
      | refine zB ?_ ?_ <;> intro h <;> try exact zk h
      | (show _ = _; rw [wordF_good hs hall]; first | (simp_all [] <;> fail) | (simp_all []; omega))
      | fail)
theorem word (s : List Nat) (hl : s.length ≤ 1099511627776) : KnownCall Tryz.prog 122 [.str s] (.d (.int .i64 (wordF s))) := by
  refine kF Tryz.func122 [] fun w => ?_
  repeat' (first
    | refine zW ?_
    | refine zB ?_ ?_ <;> intro h <;> try exact zk h
    | (show _ = _; simp_all [wordF])
    | fail)
  have hs : s ≠ [] := by simpa using h
  refine Run.loop (fun i : Nat => ⟨PT.ofList [(0, .d (.str s)), (8, .bp 0 0)], [.sit s i], []⟩) (fun i => i ≤ s.length ∧ ∀ j, j < i → ¬ badAt s j) (fun i => s.length - i) 0 ⟨Nat.zero_le _, fun j hj => by omega⟩ (weak_of ⟨rfl, rfl, trivial⟩) (fun i hi => ?_)
  obtain ⟨hi1, hi2⟩ := hi
  rcases Nat.lt_or_ge i s.length with hlt | hge
  · obtain ⟨c, hc⟩ := get_ok hlt
    have hbad : badAt s i ↔ letterF c = false ∧ (i = 0 ∨ (digitF c = false ∧ (c : Int) ≠ 95)) := ⟨fun ⟨c', h1, h2⟩ => by rw [hc] at h1; cases h1; exact h2, fun h => ⟨c, hc, h⟩⟩
    rcases Nat.lt_or_ge c 128 with h8 | h8
    · have hd := decL_ascii hc h8
      repeat' (first
        | refine zW ?_
        | refine zB ?_ ?_ <;> intro h <;> try exact zk h
        | refine RunOps.next Et_ok (by rfl) (by rfl) (by rfl) hlt hd (by rfl) (by rfl) (by rfl) ?_
        | refine zK (letter _) ?_ ?_ <;> intro h <;> try exact zk h
        | refine zC (letter _) ?_
        | refine zK (digit _) ?_ ?_ <;> intro h <;> try exact zk h
        | refine zC (digit _) ?_
        | (show _ = _; rw [wordF_bad hs (i := i) (hbad.2 (by simp_all))])
        | (exact ⟨i + 1, ⟨by omega, fun j hj => by rcases Nat.lt_succ_iff_lt_or_eq.1 hj with h | h; exact hi2 j h; subst h; rw [hbad]; simp_all⟩, by omega, weak_of' (by rfl) rfl ⟨(by kernel_rfl), (by kernel_rfl), trivial⟩⟩)
        | fail)
    · have hd := decL_high hc h8
      obtain ⟨r, n, hrn⟩ : ∃ r n, decL s i = (r, n) := ⟨_, _, rfl⟩
      rw [hrn] at hd
      have hb : badAt s i := hbad.2 ⟨by simp [letterF]; omega, .inr ⟨by simp [digitF]; omega, by omega⟩⟩
      have hr1 : letterF r = false := by simp [letterF]; simp at hd; omega
      have hr2 : digitF r = false := by simp [digitF]; simp at hd; omega
      have hr3 : (r : Int) ≠ 95 := by simp at hd; omega
      repeat' (first
        | refine zW ?_
        | refine zB ?_ ?_ <;> intro h <;> try exact zk h
        | refine RunOps.next Et_ok (by rfl) (by rfl) (by rfl) hlt hrn (by rfl) (by rfl) (by rfl) ?_
        | refine zK (letter _) ?_ ?_ <;> intro h <;> try exact zk h
        | refine zC (letter _) ?_
        | refine zK (digit _) ?_ ?_ <;> intro h <;> try exact zk h
        | refine zC (digit _) ?_
        | (show _ = _; rw [wordF_bad hs (i := i) hb])
        | (exfalso; simp_all)
        | fail)
  · have hge : i = s.length := by omega
    have hall : ∀ j, ¬ badAt s j := fun j hj => by
      by_cases hlt : j < i
      · exact hi2 j hlt hj
      · obtain ⟨c, h1, _⟩ := hj
        rw [List.getElem?_eq_none (by omega)] at h1; cases h1
    repeat' (first
      | refine zW ?_
      | refine zB ?_ ?_ <;> intro h <;> try exact zk h
      | refine RunOps.nextEnd Et_ok (by rfl) (by rfl) (by rfl) (Nat.le_of_eq hge.symm) (by rfl) (by rfl) ?_
      | (show _ = _; rw [wordF_good hs hall]; first | (simp_all [] <;> fail) | (simp_all []; omega))
      | fail)
theorem refCheck03 (s : List Nat) (hl : s.length ≤ 1099511627776) : KnownCall Tryz.prog 108 [.str s] (.d (.int .i64 (nameF s))) := by
  refine kF Tryz.func108 [] fun w => ?_
  repeat' (first
    | refine zW ?_
    | refine zB ?_ ?_ <;> intro h <;> try exact zk h
    | refine zK (refWord _ hl) ?_ ?_ <;> intro h <;> try exact zk h
    | refine zC (refWord _ hl) ?_
    | refine zK (refLanguage _) ?_ ?_ <;> intro h <;> try exact zk h
    | refine zC (refLanguage _) ?_
    | (show _ = _; first | (simp_all [nameF] <;> fail) | (simp_all [nameF]; omega))
    | fail)
theorem all_succ {p : Nat → Prop} {i : Nat} (h : ∀ j, j < i → p j) (h' : p i) : ∀ j, j < i + 1 → p j := fun j hj => by
  rcases Nat.lt_succ_iff_lt_or_eq.1 hj with h1 | h1
  · exact h j h1
  · exact h1 ▸ h'
def findF (l : List (List Nat)) (s : List Nat) : Int := if s ∈ l then (l.idxOf s : Nat) else -1
theorem findF_at {l : List (List Nat)} {s : List Nat} {i : Nat} (h : l[i]? = some s) (hb : ∀ j, j < i → l[j]? ≠ some s) : findF l s = i := by
  have hm : s ∈ l := List.mem_of_getElem? h
  have hi : i < l.length := (List.getElem?_eq_some_iff.1 h).1
  have h1 : l.idxOf s < l.length := List.idxOf_lt_length_iff.2 hm
  have h2 : l[l.idxOf s]? = some s := by rw [List.getElem?_eq_getElem h1, List.getElem_idxOf h1]
  have h3 : ¬ l.idxOf s < i := fun hlt => hb _ hlt h2
  have h4 : ¬ i < l.idxOf s := fun hlt => by
    have := List.not_of_lt_findIdx hlt
    have e : l[i] = s := (List.getElem?_eq_some_iff.1 h).2
    simp [e] at this
  rw [findF, if_pos hm]; omega
theorem findF_none {l : List (List Nat)} {s : List Nat} (hb : ∀ j, j < l.length → l[j]? ≠ some s) : findF l s = -1 := by
  rw [findF, if_neg]
  intro hm
  obtain ⟨i, hi, e⟩ := List.getElem_of_mem hm
  exact hb i hi (by rw [List.getElem?_eq_getElem hi, e])
theorem index (l : List (List Nat)) (s : List Nat) (hl : l.length ≤ 1099511627776) : KnownCall Tryz.prog 142 [strs l, .str s] (.d (.int .i64 (findF l s))) := by
  refine kF Tryz.func142 [] fun w => ?_
  repeat' (first
    | refine zW ?_
    | refine zB ?_ ?_ <;> intro h <;> try exact zk h
    | fail)
  refine Run.loop (fun i : Nat => ⟨PT.ofList [(7, .d (.int .i64 ((l.map DV.str).length : Nat))), (0, .d (strs l)), (1, .d (.str s)), (8, .d (.int .i64 i))], [], []⟩) (fun i => i ≤ l.length ∧ ∀ j, j < i → l[j]? ≠ some s) (fun i => l.length - i) 0 ⟨Nat.zero_le _, fun j hj => by omega⟩ (weak_of (by repeat' (first | exact trivial | refine ⟨rfl, ?_⟩))) (fun i hi => ?_)
  obtain ⟨hi1, hi2⟩ := hi
  rcases Nat.lt_or_ge i l.length with hlt | hge
  · obtain ⟨x, hx⟩ := get_ok hlt
    repeat' (first
      | refine zW ?_
      | refine zB ?_ ?_ <;> intro h <;> try exact zk h
      | refine zI w (.d (.ep [.str x])) hx ?_
      | (show _ = _; rw [findF_at (i := i) (by simp_all) hi2])
      | (exact ⟨i + 1, ⟨by omega, all_succ hi2 (by rw [hx]; intro e; simp_all)⟩, by omega, weak_of (by repeat' (first | exact trivial | refine ⟨rfl, ?_⟩ | refine ⟨(inc_get (k := i) (by kernel_rfl) (by omega)), ?_⟩))⟩)
      | fail)
  · have hge : i = l.length := by omega
    repeat' (first
      | refine zW ?_
      | refine zB ?_ ?_ <;> intro h <;> try exact zk h
      | (show _ = _; rw [findF_none (fun j hj => hi2 j (by omega))])
      | fail)
abbrev wordsA : List AV := [.d (.str wLook), .d (.str wToken), .d (.str wSep), .d (.str wStart)]
theorem indexW (s : List Nat) : ACall Tryz.prog 142 [.bs 0 0 4 4, .d (.str s)] [.box wordsA] (.d (.int .i64 (findF [wLook, wToken, wSep, wStart] s))) [.box wordsA] := by
  have w : Fz [] := trivial
  refine acall_of_run Et_ok (fnB Tryz.func142 []) rfl rfl ?_
  repeat' (first
    | refine zW ?_
    | refine zB ?_ ?_ <;> intro h <;> try exact zk h
    | fail)
  refine Run.loop (fun i : Nat => ⟨PT.ofList [(0, .bs 0 0 4 4), (1, .d (.str s)), (7, .d (.int .i64 4)), (8, .d (.int .i64 i))], [.box wordsA], []⟩) (fun i => i ≤ 4 ∧ ∀ j, j < i → [wLook, wToken, wSep, wStart][j]? ≠ some s) (fun i => 4 - i) 0 ⟨Nat.zero_le _, fun j hj => by omega⟩ (weak_of (by repeat' (first | exact trivial | refine ⟨rfl, ?_⟩))) (fun i hi => ?_)
  obtain ⟨hi1, hi2⟩ := hi
  have hcase : i = 0 ∨ i = 1 ∨ i = 2 ∨ i = 3 ∨ i = 4 := by omega
  rcases hcase with h | h | h | h | h <;> subst h
  · repeat' (first
      | refine zW ?_
      | refine zB ?_ ?_ <;> intro h <;> try exact zk h
      | (exact ⟨1, ⟨by omega, all_succ hi2 (fun e => by simp at e; subst e; simp at h)⟩, by omega, weak_of (by repeat' (first | exact trivial | refine ⟨rfl, ?_⟩))⟩)
      | fail)
    have hs : s = wLook := by simpa using h
    refine Run.ret ?_
    refine ⟨trivial, rfl, Eq.trans (b := some (.d (.int .i64 0))) (by rfl) ?_⟩
    rw [findF_at (i := 0) (by rw [hs]; rfl) hi2]; rfl
  · repeat' (first
      | refine zW ?_
      | refine zB ?_ ?_ <;> intro h <;> try exact zk h
      | (exact ⟨2, ⟨by omega, all_succ hi2 (fun e => by simp at e; subst e; simp at h)⟩, by omega, weak_of (by repeat' (first | exact trivial | refine ⟨rfl, ?_⟩))⟩)
      | fail)
    have hs : s = wToken := by simpa using h
    refine Run.ret ?_
    refine ⟨trivial, rfl, Eq.trans (b := some (.d (.int .i64 1))) (by rfl) ?_⟩
    rw [findF_at (i := 1) (by rw [hs]; rfl) hi2]; rfl
  · repeat' (first
      | refine zW ?_
      | refine zB ?_ ?_ <;> intro h <;> try exact zk h
      | (exact ⟨3, ⟨by omega, all_succ hi2 (fun e => by simp at e; subst e; simp at h)⟩, by omega, weak_of (by repeat' (first | exact trivial | refine ⟨rfl, ?_⟩))⟩)
      | fail)
    have hs : s = wSep := by simpa using h
    refine Run.ret ?_
    refine ⟨trivial, rfl, Eq.trans (b := some (.d (.int .i64 2))) (by rfl) ?_⟩
    rw [findF_at (i := 2) (by rw [hs]; rfl) hi2]; rfl
  · repeat' (first
      | refine zW ?_
      | refine zB ?_ ?_ <;> intro h <;> try exact zk h
      | (exact ⟨4, ⟨by omega, all_succ hi2 (fun e => by simp at e; subst e; simp at h)⟩, by omega, weak_of (by repeat' (first | exact trivial | refine ⟨rfl, ?_⟩))⟩)
      | fail)
    have hs : s = wStart := by simpa using h
    refine Run.ret ?_
    refine ⟨trivial, rfl, Eq.trans (b := some (.d (.int .i64 3))) (by rfl) ?_⟩
    rw [findF_at (i := 3) (by rw [hs]; rfl) hi2]; rfl
  · repeat' (first
      | refine zW ?_
      | refine zB ?_ ?_ <;> intro h <;> try exact zk h
      | fail)
    refine Run.ret ?_
    refine ⟨trivial, rfl, Eq.trans (b := some (.d (.int .i64 (-1)))) (by rfl) ?_⟩
    rw [findF_none (l := [wLook, wToken, wSep, wStart]) hi2]
theorem containsW (s : List Nat) : ACall Tryz.prog 135 [.bs 0 0 4 4, .d (.str s)] [.box wordsA] (.d (.bool (languageF s))) [.box wordsA] := by
  have w : Fz [] := trivial
  refine acall_of_run Et_ok (fnB Tryz.func135 []) rfl rfl ?_
  repeat refine zA ?_
  refine RunOps.call (by rfl) (by rfl) (indexW s) (by rfl) (by rfl) ?_
  repeat refine zA ?_
  refine Run.ret ?_
  refine ⟨trivial, rfl, Eq.trans (b := some (.d (.bool (decide (0 ≤ findF [wLook, wToken, wSep, wStart] s))))) (by kernel_rfl) ?_⟩
  by_cases hm : s ∈ [wLook, wToken, wSep, wStart]
  · simp only [findF, if_pos hm]; simp_all [languageF]
  · simp only [findF, if_neg hm]; simp_all [languageF]
theorem language (s : List Nat) : KnownCall Tryz.prog 123 [.str s] (.d (.bool (languageF s))) := by
  refine kF Tryz.func123 [] fun w => ?_
  repeat refine zA ?_
  refine RunOps.call (by rfl) (by rfl) (containsW s) (by rfl) (by rfl) ?_
  repeat' (first
    | refine zW ?_
    | refine zB ?_ ?_ <;> intro h <;> try exact zk h
    | rfl
    | fail)
theorem check03 (s : List Nat) (hl : s.length ≤ 1099511627776) : KnownCall Tryz.prog 95 [.str s] (.d (.int .i64 (nameF s))) := by
  refine kF Tryz.func95 [] fun w => ?_
  repeat' (first
    | refine zW ?_
    | refine zB ?_ ?_ <;> intro h <;> try exact zk h
    | refine zK (word _ hl) ?_ ?_ <;> intro h <;> try exact zk h
    | refine zC (word _ hl) ?_
    | refine zK (language _) ?_ ?_ <;> intro h <;> try exact zk h
    | refine zC (language _) ?_
    | (show _ = _; first | (simp_all [nameF] <;> fail) | (simp_all [nameF]; omega))
    | fail)
def smallF (s : List Nat) : Bool := decide (nameF s = 0) && decide (97 ≤ s.getD 0 0)
def capitalF (s : List Nat) : Bool := decide (nameF s = 0) && decide (s.getD 0 0 < 97)
theorem name_first {s : List Nat} (h : nameF s = 0) : ∃ c : Nat, s[0]? = some c ∧ letterF c = true := by
  have hw : wordF s = 0 := by
    unfold nameF at h
    split at h
    · omega
    · exact h
  have hs : s ≠ [] := fun e => by simp [wordF, e] at hw
  obtain ⟨c, hc⟩ := get_ok (l := s) (i := 0) (List.length_pos_iff.2 hs)
  refine ⟨c, hc, ?_⟩
  cases hl : letterF c with
  | true => rfl
  | false => rw [wordF_bad hs ⟨c, hc, hl, .inl rfl⟩] at hw; omega
theorem letter_range {c : Nat} (h : letterF c = true) : (97 ≤ c ∧ c ≤ 122) ∨ (65 ≤ c ∧ c ≤ 90) := by simp [letterF] at h; omega
theorem refSmall (s : List Nat) (hl : s.length ≤ 1099511627776) : KnownCall Tryz.prog 80 [.str s] (.d (.bool (smallF s))) := by
  refine kF Tryz.func80 [] fun w => ?_
  by_cases h0 : nameF s = 0
  · obtain ⟨c, hc, hlet⟩ := name_first h0
    have hr := letter_range hlet
    have hlt : 0 < s.length := (List.getElem?_eq_some_iff.1 hc).1
    have hg : s.getD 0 0 = c := by simp [List.getD_eq_getElem?_getD, hc]
    repeat' (first
      | refine zW ?_
      | refine zB ?_ ?_ <;> intro h <;> try exact zk h
      | refine zK (refCheck03 _ hl) ?_ ?_ <;> intro h <;> try exact zk h
      | refine zC (refCheck03 _ hl) ?_
      | refine zI w (.d (.int .u8 c)) hc ?_
      | (show _ = _; first | (simp_all [smallF] <;> fail) | (simp_all [smallF]; omega))
      | fail)
  · repeat' (first
      | refine zW ?_
      | refine zB ?_ ?_ <;> intro h <;> try exact zk h
      | refine zK (refCheck03 _ hl) ?_ ?_ <;> intro h <;> try exact zk h
      | refine zC (refCheck03 _ hl) ?_
      | (show _ = _; first | (simp_all [smallF] <;> fail) | (simp_all [smallF]; omega))
      | fail)
theorem small (s : List Nat) (hl : s.length ≤ 1099511627776) : KnownCall Tryz.prog 67 [.str s] (.d (.bool (smallF s))) := by
  refine kF Tryz.func67 [] fun w => ?_
  by_cases h0 : nameF s = 0
  · obtain ⟨c, hc, hlet⟩ := name_first h0
    have hr := letter_range hlet
    have hlt : 0 < s.length := (List.getElem?_eq_some_iff.1 hc).1
    have hg : s.getD 0 0 = c := by simp [List.getD_eq_getElem?_getD, hc]
    repeat' (first
      | refine zW ?_
      | refine zB ?_ ?_ <;> intro h <;> try exact zk h
      | refine zK (check03 _ hl) ?_ ?_ <;> intro h <;> try exact zk h
      | refine zC (check03 _ hl) ?_
      | refine zI w (.d (.int .u8 c)) hc ?_
      | (show _ = _; first | (simp_all [smallF] <;> fail) | (simp_all [smallF]; omega))
      | fail)
  · repeat' (first
      | refine zW ?_
      | refine zB ?_ ?_ <;> intro h <;> try exact zk h
      | refine zK (check03 _ hl) ?_ ?_ <;> intro h <;> try exact zk h
      | refine zC (check03 _ hl) ?_
      | (show _ = _; first | (simp_all [smallF] <;> fail) | (simp_all [smallF]; omega))
      | fail)
theorem refCapital (s : List Nat) (hl : s.length ≤ 1099511627776) : KnownCall Tryz.prog 81 [.str s] (.d (.bool (capitalF s))) := by
  refine kF Tryz.func81 [] fun w => ?_
  by_cases h0 : nameF s = 0
  · obtain ⟨c, hc, hlet⟩ := name_first h0
    have hr := letter_range hlet
    have hlt : 0 < s.length := (List.getElem?_eq_some_iff.1 hc).1
    have hg : s.getD 0 0 = c := by simp [List.getD_eq_getElem?_getD, hc]
    repeat' (first
      | refine zW ?_
      | refine zB ?_ ?_ <;> intro h <;> try exact zk h
      | refine zK (refCheck03 _ hl) ?_ ?_ <;> intro h <;> try exact zk h
      | refine zC (refCheck03 _ hl) ?_
      | refine zI w (.d (.int .u8 c)) hc ?_
      | (show _ = _; first | (simp_all [capitalF] <;> fail) | (simp_all [capitalF]; omega))
      | fail)
  · repeat' (first
      | refine zW ?_
      | refine zB ?_ ?_ <;> intro h <;> try exact zk h
      | refine zK (refCheck03 _ hl) ?_ ?_ <;> intro h <;> try exact zk h
      | refine zC (refCheck03 _ hl) ?_
      | (show _ = _; first | (simp_all [capitalF] <;> fail) | (simp_all [capitalF]; omega))
      | fail)
theorem capital (s : List Nat) (hl : s.length ≤ 1099511627776) : KnownCall Tryz.prog 68 [.str s] (.d (.bool (capitalF s))) := by
  refine kF Tryz.func68 [] fun w => ?_
  by_cases h0 : nameF s = 0
  · obtain ⟨c, hc, hlet⟩ := name_first h0
    have hr := letter_range hlet
    have hlt : 0 < s.length := (List.getElem?_eq_some_iff.1 hc).1
    have hg : s.getD 0 0 = c := by simp [List.getD_eq_getElem?_getD, hc]
    repeat' (first
      | refine zW ?_
      | refine zB ?_ ?_ <;> intro h <;> try exact zk h
      | refine zK (check03 _ hl) ?_ ?_ <;> intro h <;> try exact zk h
      | refine zC (check03 _ hl) ?_
      | refine zI w (.d (.int .u8 c)) hc ?_
      | (show _ = _; first | (simp_all [capitalF] <;> fail) | (simp_all [capitalF]; omega))
      | fail)
  · repeat' (first
      | refine zW ?_
      | refine zB ?_ ?_ <;> intro h <;> try exact zk h
      | refine zK (check03 _ hl) ?_ ?_ <;> intro h <;> try exact zk h
      | refine zC (check03 _ hl) ?_
      | (show _ = _; first | (simp_all [capitalF] <;> fail) | (simp_all [capitalF]; omega))
      | fail)
def smalls (g : Gram) : List (List Nat) := g.tokens ++ [g.sep]
open Classical in
def namedF (g : Gram) : Int := if (∃ s ∈ smalls g, smallF s = false) ∨ ∃ s ∈ g.names, capitalF s = false then 12 else 0
theorem smalls_map (g : Gram) : [] ++ g.tokens.map DV.str ++ [DV.str g.sep] = (smalls g).map .str := by simp [smalls]
theorem refTwice (l : List (List Nat)) (hl : l.length ≤ 1099511627776) : KnownCall Tryz.prog 82 [strs l] (.d (.bool (decide (¬ l.Nodup)))) := by
  refine kF Tryz.func82 [] fun w => ?_
  repeat' (first
    | refine zW ?_
    | refine zB ?_ ?_ <;> intro h <;> try exact zk h
    | fail)
  refine Run.loop (fun i : Nat => ⟨PT.ofList [(0, .d (strs l)), (3, .d (.int .i64 i))], [], []⟩) (fun i => i ≤ l.length ∧ (l.take i).Nodup) (fun i => l.length - i) 0 ⟨Nat.zero_le _, by simp⟩ (weak_of (by repeat' (first | exact trivial | refine ⟨rfl, ?_⟩))) (fun i hi => ?_)
  obtain ⟨hi1, hi2⟩ := hi
  rcases Nat.lt_or_ge i l.length with hlt | hge
  · obtain ⟨x, hx⟩ := get_ok hlt
    repeat' (first
      | refine zW ?_
      | refine zB ?_ ?_ <;> intro h <;> try exact zk h
      | fail)
    refine Run.loop (fun k : Nat => ⟨PT.ofList [(0, .d (strs l)), (3, .d (.int .i64 i)), (4, .d (.int .i64 k))], [], []⟩) (fun k => k ≤ i ∧ ∀ j, j < k → l[j]? ≠ some x) (fun k => i - k) 0 ⟨Nat.zero_le _, fun j hj => by omega⟩ (weak_of (by repeat' (first | exact trivial | refine ⟨rfl, ?_⟩))) (fun k hk => ?_)
    obtain ⟨hk1, hk2⟩ := hk
    rcases Nat.lt_or_ge k i with hkl | hkg
    · obtain ⟨y, hy⟩ := get_ok (show k < l.length by omega)
      repeat' (first
        | refine zW ?_
        | refine zB ?_ ?_ <;> intro h <;> try exact zk h
        | refine zI w (.d (.ep [.str x])) hx ?_
        | refine zI w (.d (.ep [.str y])) hy ?_
        | (exact ⟨k + 1, ⟨by omega, all_succ hk2 (by rw [hy]; intro e; simp_all)⟩, by omega, weak_of (by repeat' (first | exact trivial | refine ⟨rfl, ?_⟩ | refine ⟨(inc_get (k := k) (by kernel_rfl) (by omega)), ?_⟩))⟩)
        | fail)
      have hxy : x = y := by simpa using h
      have hnd : ¬ l.Nodup := fun hn => by
        refine List.pairwise_iff_getElem.1 hn k i (by omega) hlt hkl ?_
        rw [(List.getElem?_eq_some_iff.1 hx).2, (List.getElem?_eq_some_iff.1 hy).2, hxy]
      simp [hnd]
    · have hki : k = i := by omega
      subst hki
      repeat' (first
        | refine zW ?_
        | refine zB ?_ ?_ <;> intro h <;> try exact zk h
        | (refine ⟨k + 1, ⟨by omega, ?_⟩, by omega, weak_of (by repeat' (first | exact trivial | refine ⟨rfl, ?_⟩ | refine ⟨(inc_get (k := k) (by kernel_rfl) (by omega)), ?_⟩))⟩)
        | fail)
      rw [List.take_add_one, hx, List.nodup_append]
      refine ⟨hi2, by simp, fun a ha b hb => ?_⟩
      simp at hb
      subst hb
      intro e
      subst e
      obtain ⟨j, hj, e⟩ := List.getElem_of_mem ha
      have hj' : j < k := by simp at hj; omega
      exact hk2 j hj' (by simp at e; rw [List.getElem?_eq_getElem (by omega), e])
  · have hge : i = l.length := by omega
    have hnd : l.Nodup := by rw [hge, List.take_length] at hi2; exact hi2
    repeat' (first
      | refine zW ?_
      | refine zB ?_ ?_ <;> intro h <;> try exact zk h
      | (show _ = _; simp [hnd])
      | fail)
theorem slicesAll (ps : List GProd) : KnownCall Tryz.prog 94 [.sl 2 (ps.map encP)] (.d (allProdsF ps)) := by
  refine kF Tryz.func94 [1] fun w => ?_
  repeat refine zA ?_
  refine Run.ret ?_
  refine ⟨trivial, _, _, by rfl, by rfl, Eq.trans (b := some (.d (allProdsF ps))) (by kernel_rfl) ?_⟩
  rfl
theorem prodsOf (g : Gram) : KnownCall Tryz.prog 66 [encG g] (.d (allProdsF g.prods)) := by
  refine kF Tryz.func66 [1] fun w => ?_
  repeat refine zA ?_
  first | refine RunOps.call (by rfl) (by rfl) (slicesAll g.prods _) (by rfl) (by rfl) ?_ | refine EvD.call (by rfl) (by rfl) (by rfl) (slicesAll g.prods) (by rfl) (by rfl) ?_
  repeat refine zA ?_
  refine Run.ret ?_
  refine ⟨trivial, _, _, by rfl, by rfl, Eq.trans (b := some (.d (allProdsF g.prods))) (by kernel_rfl) ?_⟩
  rfl
def manyF (g : Gram) : Int := if 8 < g.tokens.length ∨ 8 < g.names.length ∨ 24 < g.prods.length ∨ ∃ p ∈ g.prods, 6 < p.right.length then 6 else 0
theorem many (g : Gram) (hf : Fits g) : KnownCall Tryz.prog 43 [encG g] (.d (.int .i64 (manyF g))) := by
  refine kF Tryz.func43 [1] fun w => ?_
  refine Run.seq (Run.region ?_)
  iterate 2 refine zX ?_
  refine RunOps.nil ?_
  refine Run.seq (Run.seq (Run.region ?_))
  iterate 3 refine zX ?_
  by_cases h1 : 8 < g.tokens.length
  · first | refine oV (v := .d (.bool true)) ?_ (he := (by simp; omega)) | refine eX (v := .d (.bool true)) ?_ (he := (by simp; omega))
    repeat refine zA ?_
    refine Run.cond (b := true) (by rfl) (fun _ => ?_) (fun h => by cases h)
    repeat refine zA ?_
    refine Run.ret ?_
    refine ⟨trivial, _, _, by rfl, by rfl, Eq.trans (b := some (.d (.int .i64 6))) (by kernel_rfl) ?_⟩
    simp [manyF, h1]
  · first | refine oV (v := .d (.bool false)) ?_ (he := (by simp; omega)) | refine eX (v := .d (.bool false)) ?_ (he := (by simp; omega))
    iterate 4 refine zX ?_
    by_cases h2 : 8 < g.names.length
    · first | refine oV (v := .d (.bool true)) ?_ (he := (by simp; omega)) | refine eX (v := .d (.bool true)) ?_ (he := (by simp; omega))
      repeat refine zA ?_
      refine Run.cond (b := true) (by rfl) (fun _ => ?_) (fun h => by cases h)
      repeat refine zA ?_
      refine Run.ret ?_
      refine ⟨trivial, _, _, by rfl, by rfl, Eq.trans (b := some (.d (.int .i64 6))) (by kernel_rfl) ?_⟩
      simp [manyF, h2]
    · first | refine oV (v := .d (.bool false)) ?_ (he := (by simp; omega)) | refine eX (v := .d (.bool false)) ?_ (he := (by simp; omega))
      iterate 5 refine zX ?_
      by_cases h3 : 24 < g.prods.length
      · first | refine oV (v := .d (.bool true)) ?_ (he := (by simp; omega)) | refine eX (v := .d (.bool true)) ?_ (he := (by simp; omega))
        repeat refine zA ?_
        refine Run.cond (b := true) (by rfl) (fun _ => ?_) (fun h => by cases h)
        repeat refine zA ?_
        refine Run.ret ?_
        refine ⟨trivial, _, _, by rfl, by rfl, Eq.trans (b := some (.d (.int .i64 6))) (by kernel_rfl) ?_⟩
        simp [manyF, h3]
      · first | refine oV (v := .d (.bool false)) ?_ (he := (by simp; omega)) | refine eX (v := .d (.bool false)) ?_ (he := (by simp; omega))
        repeat refine zA ?_
        refine Run.cond (b := false) (by rfl) (fun h => by cases h) (fun _ => ?_)
        repeat refine zA ?_
        first | refine RunOps.call (by rfl) (by rfl) (prodsOf g _) (by rfl) (by rfl) ?_ | refine EvD.call (by rfl) (by rfl) (by rfl) (prodsOf g) (by rfl) (by rfl) ?_
        repeat refine zA ?_
        obtain ⟨n, hn⟩ : ∃ n, n = g.prods.findIdx (fun p => decide (6 < p.right.length)) := ⟨_, rfl⟩
        have hidx : n ≤ g.prods.length := by rw [hn]; exact List.findIdx_le_length
        have hcase : n < g.prods.length ∨ n = g.prods.length := by omega
        refine Run.rangeProds (frz := [1]) 1 (fun _ => [.box [.d (.int .i64 0)]]) g.prods (Nat.le_trans hf.prods (by decide)) (by rfl) (fun _ => rfl) (fun _ => rfl) (by kernel_rfl) n hidx (fun k p hk hp => ?_) ?_
        · have hgood : ¬ 6 < p.right.length := by
            rw [hn] at hk
            have := List.not_of_lt_findIdx hk
            have e : g.prods[k] = p := by rw [List.getElem?_eq_some_iff] at hp; exact hp.2
            simpa [e] using this
          refine ayield_of_run (i := 2) (by rfl) (by rfl) (by rfl) ?_
          repeat refine zA ?_
          refine ⟨rfl, _, _, _, _, _, _, _, by rfl, ?_⟩
          refine Run.less ?_
          repeat refine zA ?_
          refine Run.cond (by rfl) (fun h => ?_) (fun h => ?_)
          · simp at h; omega
          · repeat refine zA ?_
            exact ⟨rfl, _, less_of [] 3 rfl (by rfl) trivial trivial (by kernel_rfl) rfl, _, _, _, _, _, _, _, _, by rfl, rfl, by rfl⟩
        · rcases hcase with hlt | hge
          · obtain ⟨p, hp⟩ := get_ok hlt
            have hbad : 6 < p.right.length := by
              rw [hn] at hp hlt
              have := List.findIdx_getElem (p := fun p : GProd => decide (6 < p.right.length)) (xs := g.prods) (w := hlt)
              have e : g.prods[g.prods.findIdx fun p => decide (6 < p.right.length)] = p := by rw [List.getElem?_eq_some_iff] at hp; exact hp.2
              rw [e] at this
              simpa using this
            refine .inr ⟨p, [.box [.d (.int .i64 6)]], hp, rfl, .inl ⟨?_, ?_⟩⟩
            · refine ayield_of_run (i := 2) (by rfl) (by rfl) (by rfl) ?_
              repeat refine zA ?_
              refine ⟨rfl, _, _, _, _, _, _, _, by rfl, ?_⟩
              refine Run.less ?_
              repeat refine zA ?_
              refine Run.cond (by rfl) (fun h => ?_) (fun h => ?_)
              · repeat refine zA ?_
                refine Run.ret ?_
                exact ⟨rfl, _, less_of [] 3 rfl (by rfl) trivial trivial (by kernel_rfl) rfl, _, _, _, _, _, _, _, _, by rfl, rfl, by rfl⟩
              · simp at h; omega
            · refine ⟨trivial, _, _, by rfl, by rfl, Eq.trans (b := some (.d (.int .i64 6))) (by kernel_rfl) ?_⟩
              have hm : manyF g = 6 := by
                unfold manyF
                rw [if_pos (.inr (.inr (.inr ⟨p, List.mem_of_getElem? hp, hbad⟩)))]
              rw [hm]
          · refine .inl ⟨hge, ?_⟩
            repeat refine zA ?_
            refine Run.ret ?_
            refine ⟨trivial, _, _, by rfl, by rfl, Eq.trans (b := some (.d (.int .i64 0))) (by kernel_rfl) ?_⟩
            have hm : manyF g = 0 := by
              unfold manyF
              rw [if_neg]
              rintro (h | h | h | ⟨p, hp, h⟩)
              · exact h1 h
              · exact h2 h
              · exact h3 h
              · have := List.findIdx_lt_length_of_exists (xs := g.prods) (p := fun p => decide (6 < p.right.length)) ⟨p, hp, by simpa using h⟩
                omega
            rw [hm]
theorem many_tok {g : Gram} (h : 8 < g.tokens.length) : manyF g = 6 := if_pos (.inl h)
theorem many_nam {g : Gram} (h : 8 < g.names.length) : manyF g = 6 := if_pos (.inr (.inl h))
theorem many_pro {g : Gram} (h : 24 < g.prods.length) : manyF g = 6 := if_pos (.inr (.inr (.inl h)))
theorem many_rig {g : Gram} {i : Nat} {p : GProd} (h : g.prods[i]? = some p) (h' : 6 < p.right.length) : manyF g = 6 := if_pos (.inr (.inr (.inr ⟨p, List.mem_of_getElem? h, h'⟩)))
theorem many_no {g : Gram} (h1 : ¬ 8 < g.tokens.length) (h2 : ¬ 8 < g.names.length) (h3 : ¬ 24 < g.prods.length) (h4 : ∀ (j : Nat) p, j < g.prods.length → g.prods[j]? = some p → ¬ 6 < p.right.length) : manyF g = 0 := by
  refine if_neg ?_
  rintro (h | h | h | ⟨p, hp, h⟩)
  · exact h1 h
  · exact h2 h
  · exact h3 h
  · obtain ⟨j, hj, e⟩ := List.getElem_of_mem hp
    exact h4 j p hj (by rw [List.getElem?_eq_getElem hj, e]) h
theorem refFull (g : Gram) (hf : Fits g) : KnownCall Tryz.prog 55 [encG g] (.d (.int .i64 (manyF g))) := by
  have hpl := hf.prods
  refine kF Tryz.func55 [1] fun w => ?_
  repeat' (first
    | refine zW ?_
    | refine zB ?_ ?_ <;> intro h <;> try exact zk h
    | (show _ = _; first | (rw [many_tok (by simp at h; omega)] <;> fail) | (rw [many_nam (by simp at h; omega)] <;> fail) | (rw [many_pro (by simp at h; omega)] <;> fail) | fail)
    | fail)
  rename_i ha hb
  refine Run.loop (fun i : Nat => ⟨PT.ofList [(1, .d (.ep [.int .i64 g.k, strs g.tokens, .str g.sep, strs g.names, .int .i64 g.start, .sl 2 (g.prods.map encP)])), (3, .d (.int .i64 i))], [], []⟩) (fun i => i ≤ g.prods.length ∧ ∀ j, j < i → ∀ p, g.prods[j]? = some p → ¬ 6 < p.right.length) (fun i => g.prods.length - i) 0 ⟨Nat.zero_le _, fun j hj => by omega⟩ (weak_of (by repeat' (first | exact trivial | refine ⟨rfl, ?_⟩))) (fun i hi => ?_)
  obtain ⟨hi1, hi2⟩ := hi
  rcases Nat.lt_or_ge i g.prods.length with hlt | hge
  · obtain ⟨p, hp⟩ := get_ok hlt
    repeat' (first
      | refine zW ?_
      | refine zB ?_ ?_ <;> intro h <;> try exact zk h
      | refine zIP w (.d (.ep [.int .i64 p.left, ints p.right])) hp ?_
      | (show _ = _; rw [many_rig hp (by simp at h; omega)])
      | (exact ⟨i + 1, ⟨by omega, all_succ hi2 (fun q hq => by rw [hp] at hq; cases hq; simp at h; omega)⟩, by omega, weak_of (by repeat' (first | exact trivial | refine ⟨rfl, ?_⟩ | refine ⟨(inc_get (k := i) (by kernel_rfl) (by omega)), ?_⟩))⟩)
      | fail)
  · repeat' (first
      | refine zW ?_
      | refine zB ?_ ?_ <;> intro h <;> try exact zk h
      | (show _ = _; rw [many_no (by simp at ha; omega) (by simp at hb; omega) (by simp_all; omega) (fun j p hj => hi2 j (by omega) p)])
      | fail)
theorem strs_smalls (g : Gram) : DV.sl 1 ([] ++ g.tokens.map DV.str ++ [DV.str g.sep]) = strs (smalls g) := by rw [smalls_map]
def namesF (g : Gram) : Int := if namedF g = 0 ∧ (¬ (smalls g).Nodup ∨ ¬ g.names.Nodup) then 8 else namedF g
theorem named_small {g : Gram} {i : Nat} {s : List Nat} (h : (smalls g)[i]? = some s) (h' : smallF s = false) : namedF g = 12 := if_pos (.inl ⟨s, List.mem_of_getElem? h, h'⟩)
theorem named_capital {g : Gram} {i : Nat} {s : List Nat} (h : g.names[i]? = some s) (h' : capitalF s = false) : namedF g = 12 := if_pos (.inr ⟨s, List.mem_of_getElem? h, h'⟩)
theorem named_no {g : Gram} (h1 : ∀ j : Nat, j < (smalls g).length → ∀ s, (smalls g)[j]? = some s → smallF s = true) (h2 : ∀ j : Nat, j < g.names.length → ∀ s, g.names[j]? = some s → capitalF s = true) : namedF g = 0 := by
  refine if_neg ?_
  rintro (⟨s, hs, h⟩ | ⟨s, hs, h⟩)
  · obtain ⟨j, hj, e⟩ := List.getElem_of_mem hs
    have := h1 j hj s (by rw [List.getElem?_eq_getElem hj, e])
    simp [this] at h
  · obtain ⟨j, hj, e⟩ := List.getElem_of_mem hs
    have := h2 j hj s (by rw [List.getElem?_eq_getElem hj, e])
    simp [this] at h
theorem namesF_12 {g : Gram} (h : namedF g = 12) : namesF g = 12 := by simp [namesF, h]
theorem Fits.small {g : Gram} (hf : Fits g) {i : Nat} {s : List Nat} (h : (smalls g)[i]? = some s) : s.length ≤ 1099511627776 := by
  have := List.mem_of_getElem? h
  simp only [smalls, List.mem_append, List.mem_singleton] at this
  rcases this with h | rfl
  · exact Nat.le_trans (hf.tokenS _ h) (by decide)
  · exact Nat.le_trans hf.sep (by decide)
theorem Fits.name {g : Gram} (hf : Fits g) {i : Nat} {s : List Nat} (h : g.names[i]? = some s) : s.length ≤ 1099511627776 := Nat.le_trans (hf.nameS _ (List.mem_of_getElem? h)) (by decide)
theorem refNamed (g : Gram) (hf : Fits g) : KnownCall Tryz.prog 56 [encG g] (.d (.int .i64 (namesF g))) := by
  have hft := hf.tokens
  have hfn := hf.names
  have hsl : (smalls g).length = g.tokens.length + 1 := by simp [smalls]
  refine kF Tryz.func56 [1, 12] fun w => ?_
  repeat' (first
    | refine zW ?_
    | refine zB ?_ ?_ <;> intro h <;> try exact zk h
    | refine zX ?_
    | refine zAp ?_
    | fail)
  first | refine Run.tidy (tidy_of (objs := _) [(1, (.d (.ep [.int .i64 g.k, strs g.tokens, .str g.sep, strs g.names, .int .i64 g.start, .sl 2 (g.prods.map encP)]))), (3, .d (strs (smalls g))), (4, .d (.int .i64 0))] 0 (Eq.trans (b := []) rfl rfl) rfl (by repeat' (first | exact trivial | refine ⟨(Or.inl rfl), ?_⟩ | refine ⟨(Or.inr rfl), ?_⟩ | refine ⟨rfl, ?_⟩ | refine ⟨(Or.inr (by rw [← strs_smalls]; rfl)), ?_⟩ | fail)) (by repeat' (first | exact trivial | refine ⟨(Or.inl rfl), ?_⟩ | refine ⟨(Or.inr rfl), ?_⟩ | refine ⟨rfl, ?_⟩ | refine ⟨(Or.inr (by rw [← strs_smalls]; rfl)), ?_⟩ | fail)) rfl rfl) ?_ | refine RunOps.tidy (tidy_of (objs := _) [(1, (.d (.ep [.int .i64 g.k, strs g.tokens, .str g.sep, strs g.names, .int .i64 g.start, .sl 2 (g.prods.map encP)]))), (3, .d (strs (smalls g))), (4, .d (.int .i64 0))] 0 (Eq.trans (b := []) rfl rfl) rfl (by repeat' (first | exact trivial | refine ⟨(Or.inl rfl), ?_⟩ | refine ⟨(Or.inr rfl), ?_⟩ | refine ⟨rfl, ?_⟩ | refine ⟨(Or.inr (by rw [← strs_smalls]; rfl)), ?_⟩ | fail)) (by repeat' (first | exact trivial | refine ⟨(Or.inl rfl), ?_⟩ | refine ⟨(Or.inr rfl), ?_⟩ | refine ⟨rfl, ?_⟩ | refine ⟨(Or.inr (by rw [← strs_smalls]; rfl)), ?_⟩ | fail)) rfl rfl) ?_
  refine Run.loop (fun i : Nat => ⟨PT.ofList [(1, (.d (.ep [.int .i64 g.k, strs g.tokens, .str g.sep, strs g.names, .int .i64 g.start, .sl 2 (g.prods.map encP)]))), (3, .d (strs (smalls g))), (4, .d (.int .i64 i))], [], []⟩) (fun i => i ≤ (smalls g).length ∧ ∀ j, j < i → ∀ s, (smalls g)[j]? = some s → smallF s = true) (fun i => (smalls g).length - i) 0 ⟨Nat.zero_le _, fun j hj => by omega⟩ (weak_of (by repeat' (first | exact trivial | refine ⟨rfl, ?_⟩))) (fun i hi => ?_)
  obtain ⟨hi1, hi2⟩ := hi
  rcases Nat.lt_or_ge i (smalls g).length with hlt | hge
  · obtain ⟨s, hs⟩ := get_ok hlt
    repeat' (first
      | refine zW ?_
      | refine zB ?_ ?_ <;> intro h <;> try exact zk h
      | refine zX ?_
      | refine zI w (.d (.ep [.str s])) hs ?_
      | refine zK (refSmall _ (hf.small hs)) ?_ ?_ <;> intro h <;> try exact zk h
      | refine zC (refSmall _ (hf.small hs)) ?_
      | (show _ = _; rw [namesF_12 (named_small hs (by simp_all))])
      | (exact ⟨i + 1, ⟨by omega, all_succ hi2 (fun q hq => by rw [hs] at hq; cases hq; simp_all)⟩, by omega, weak_of (by repeat' (first | exact trivial | refine ⟨rfl, ?_⟩ | refine ⟨(inc_get (k := i) (by kernel_rfl) (by omega)), ?_⟩))⟩)
      | fail)
  · repeat' (first
      | refine zW ?_
      | refine zB ?_ ?_ <;> intro h <;> try exact zk h
      | refine zX ?_
      | fail)
    refine Run.loop (fun i : Nat => ⟨PT.ofList [(1, (.d (.ep [.int .i64 g.k, strs g.tokens, .str g.sep, strs g.names, .int .i64 g.start, .sl 2 (g.prods.map encP)]))), (3, .d (strs (smalls g))), (5, .d (.int .i64 i))], [], []⟩) (fun i => i ≤ g.names.length ∧ ∀ j, j < i → ∀ s, g.names[j]? = some s → capitalF s = true) (fun i => g.names.length - i) 0 ⟨Nat.zero_le _, fun j hj => by omega⟩ (weak_of (by repeat' (first | exact trivial | refine ⟨rfl, ?_⟩))) (fun k hk => ?_)
    obtain ⟨hk1, hk2⟩ := hk
    rcases Nat.lt_or_ge k g.names.length with hklt | hkge
    · obtain ⟨s, hs⟩ := get_ok hklt
      repeat' (first
        | refine zW ?_
        | refine zB ?_ ?_ <;> intro h <;> try exact zk h
        | refine zX ?_
        | refine zI w (.d (.ep [.str s])) hs ?_
        | refine zK (refCapital _ (hf.name hs)) ?_ ?_ <;> intro h <;> try exact zk h
        | refine zC (refCapital _ (hf.name hs)) ?_
        | (show _ = _; rw [namesF_12 (named_capital hs (by simp_all))])
        | (exact ⟨k + 1, ⟨by omega, all_succ hk2 (fun q hq => by rw [hs] at hq; cases hq; simp_all)⟩, by omega, weak_of (by repeat' (first | exact trivial | refine ⟨rfl, ?_⟩ | refine ⟨(inc_get (k := k) (by kernel_rfl) (by omega)), ?_⟩))⟩)
        | fail)
    · have h0 : namedF g = 0 := named_no (fun j hj => hi2 j (by omega)) (fun j hj => hk2 j (by omega))
      repeat' (first
        | refine zW ?_
        | refine zB ?_ ?_ <;> intro h <;> try exact zk h
        | refine zX ?_
        | refine zK (refTwice (smalls g) (by omega)) ?_ ?_ <;> intro h <;> try exact zk h
        | refine zC (refTwice (smalls g) (by omega)) ?_
        | refine zK (refTwice g.names (by omega)) ?_ ?_ <;> intro h <;> try exact zk h
        | refine zC (refTwice g.names (by omega)) ?_
        | (show _ = _; simp_all [namesF])
        | fail)
def rowA (k sz : Nat) : List DV → AV
  | [] => .d .nilsl
  | a :: l => .sr k sz (a :: l)
def rowO (sz : Nat) : List DV → List Ob
  | [] => []
  | _ :: l => [.room (l.length + 1) sz]
def prodsTo (g : Gram) (s : Int) (i : Nat) : List Nat := ((g.prods.take i).zipIdx.filter (fun q => decide (q.1.left = s))).map (·.2)
def prodsF (g : Gram) (s : Int) : List Nat := prodsTo g s g.prods.length
abbrev natsD (l : List Nat) : List DV := l.map fun n : Nat => .int .i64 n
theorem natsD_append (a b : List Nat) : natsD (a ++ b) = natsD a ++ natsD b := List.map_append
theorem prodsTo_succ {g : Gram} {s : Int} {i : Nat} {p : GProd} (h : g.prods[i]? = some p) : prodsTo g s (i + 1) = prodsTo g s i ++ (if p.left = s then [i] else []) := by
  have hi := (List.getElem?_eq_some_iff.1 h).1
  have hl : (g.prods.take i).length = i := by simp; omega
  simp only [prodsTo]
  rw [List.take_add_one, h, List.zipIdx_append, List.filter_append, List.map_append, hl]
  congr 1
  by_cases hp : p.left = s <;> simp [hp]
theorem prodsTo_len (g : Gram) (s : Int) (i : Nat) : (prodsTo g s i).length ≤ i := by
  simp only [prodsTo, List.length_map]
  refine Nat.le_trans (List.length_filter_le _ _) ?_
  simp; omega
theorem refProds (g : Gram) (s : Int) (hf : Fits g) : KnownCall Tryz.prog 85 [encG g, .int .i64 s] (.d (.sl 1 (natsD (prodsF g s)))) := by
  have w : Fz [2, 24] := trivial
  have hfp := hf.prods
  refine knownE2 Et_ok (fnB Tryz.func85 [2, 24]) ?_
  repeat' (first
    | refine zW ?_
    | refine zB ?_ ?_ <;> intro h <;> try exact zk h
    | refine zX ?_
    | (refine Run.ret ?_; refine r2 ?_; first | done | (skip))
    | fail)
  refine Run.loop (fun x : Nat × List DV => ⟨PT.ofList [(1, .d (.int .i64 s)), (2, (.d (.ep [.int .i64 g.k, strs g.tokens, .str g.sep, strs g.names, .int .i64 g.start, .sl 2 (g.prods.map encP)]))), (5, rowA 0 1 x.2), (6, .d (.int .i64 x.1))], rowO 1 x.2, []⟩) (fun x => x.1 ≤ g.prods.length ∧ x.2 = natsD (prodsTo g s x.1)) (fun x => g.prods.length - x.1) (0, []) ⟨Nat.zero_le _, by simp [prodsTo]⟩ (weak_of (by repeat' (first | exact trivial | refine ⟨rfl, ?_⟩))) (fun x hx => ?_)
  obtain ⟨i, acc⟩ := x
  obtain ⟨hi1, hi2⟩ := hx
  simp only at hi1 hi2 ⊢
  have hal : acc.length ≤ i := by rw [hi2]; simpa using prodsTo_len g s i
  rcases Nat.lt_or_ge i g.prods.length with hlt | hge
  · obtain ⟨p, hp⟩ := get_ok hlt
    rcases acc with _ | ⟨a, l⟩
    · repeat' (first
        | refine zW ?_
        | refine zB ?_ ?_ <;> intro h <;> try exact zk h
        | refine zX ?_
        | refine zIP w (.d (.ep [.int .i64 p.left, ints p.right])) hp ?_
        | refine zAp ?_
        | (refine Run.ret ?_; refine r2 ?_; first | done | (skip))
        | (exact ⟨(i + 1, []), ⟨hlt, by rw [prodsTo_succ hp, if_neg (by simpa using h)]; simpa using hi2⟩, by simp only; omega, weak_of (by repeat' (first | exact trivial | refine ⟨rfl, ?_⟩ | refine ⟨(inc_get (k := i) (by kernel_rfl) (by omega)), ?_⟩))⟩)
        | (exact ⟨(i + 1, [.int .i64 i]), ⟨hlt, by rw [prodsTo_succ hp, if_pos (by simpa using h), natsD_append, ← hi2]; rfl⟩, by simp only; omega, weak_of' (by rfl) rfl (by repeat' (first | exact trivial | refine ⟨rfl, ?_⟩ | refine ⟨(inc_get (k := i) (by kernel_rfl) (by omega)), ?_⟩))⟩)
        | fail)
    · have hal' : l.length + 1 ≤ i := hal
      repeat' (first
        | refine zW ?_
        | refine zB ?_ ?_ <;> intro h <;> try exact zk h
        | refine zX ?_
        | refine zIP w (.d (.ep [.int .i64 p.left, ints p.right])) hp ?_
        | refine zAp ?_
        | (refine Run.ret ?_; refine r2 ?_; first | done | (skip))
        | (exact ⟨(i + 1, a :: l), ⟨hlt, by rw [prodsTo_succ hp, if_neg (by simpa using h)]; simpa using hi2⟩, by simp only; omega, weak_of (by repeat' (first | exact trivial | refine ⟨rfl, ?_⟩ | refine ⟨(inc_get (k := i) (by kernel_rfl) (by omega)), ?_⟩))⟩)
        | (exact ⟨(i + 1, a :: (l ++ [.int .i64 i])), ⟨hlt, by rw [prodsTo_succ hp, if_pos (by simpa using h), natsD_append, ← hi2]; rfl⟩, by simp only; omega, weak_of' (by show [Ob.room ((l ++ [_]).length + 1) 1] = [Ob.room (l.length + 1 + 1) 1]; rw [List.length_append]; rfl) rfl (by repeat' (first | exact trivial | refine ⟨rfl, ?_⟩ | refine ⟨(inc_get (k := i) (by kernel_rfl) (by omega)), ?_⟩))⟩)
        | fail)
  · have hge : i = g.prods.length := by omega
    have he : natsD (prodsF g s) = acc := by rw [hi2, hge]; rfl
    rw [he]
    rcases acc with _ | ⟨a, l⟩
    · repeat' (first
        | refine zW ?_
        | refine zB ?_ ?_ <;> intro h <;> try exact zk h
        | refine zX ?_
        | (refine Run.ret ?_; refine r2 ?_; first | done | (exact .d .nil))
        | fail)
    · repeat' (first
        | refine zW ?_
        | refine zB ?_ ?_ <;> intro h <;> try exact zk h
        | refine zX ?_
        | (refine Run.ret ?_; refine r2 ?_; first | done | (exact .refl))
        | fail)
def goodS (g : Gram) (s : Int) : Bool := isTerm g s || isNonterm g s
def goodP (g : Gram) (p : GProd) : Prop := isNonterm g p.left = true ∧ ∀ s ∈ p.right, goodS g s = true
def okTo (g : Gram) (i : Nat) : Prop := isNonterm g g.start = true ∧ ∀ j, j < i → ∀ p, g.prods[j]? = some p → goodP g p
def symbolsOK (g : Gram) : Prop := isNonterm g g.start = true ∧ ∀ p ∈ g.prods, goodP g p
def orderBad (g : Gram) : Prop := ∃ (i : Nat) (p q : GProd), g.prods[i]? = some p ∧ g.prods[i + 1]? = some q ∧ q.left < p.left
def missing (g : Gram) : Prop := ∃ i : Nat, i < g.names.length ∧ prodsF g (16 + i) = []
open Classical in
def symbolsF (g : Gram) : Int := if symbolsOK g then (if orderBad g then 9 else if missing g then 7 else 0) else 14
theorem okTo_all (g : Gram) : okTo g g.prods.length ↔ symbolsOK g := by
  refine ⟨fun ⟨h1, h2⟩ => ⟨h1, fun p hp => ?_⟩, fun ⟨h1, h2⟩ => ⟨h1, fun j _ p hp => h2 p (List.mem_of_getElem? hp)⟩⟩
  obtain ⟨j, hj, e⟩ := List.getElem_of_mem hp
  exact h2 j hj p (by rw [List.getElem?_eq_getElem hj, e])
theorem okTo_succ {g : Gram} {i : Nat} {p : GProd} (hp : g.prods[i]? = some p) : okTo g (i + 1) ↔ okTo g i ∧ goodP g p := by
  refine ⟨fun ⟨h1, h2⟩ => ⟨⟨h1, fun j hj => h2 j (by omega)⟩, h2 i (by omega) p hp⟩, fun ⟨⟨h1, h2⟩, h3⟩ => ⟨h1, fun j hj q hq => ?_⟩⟩
  rcases Nat.lt_succ_iff_lt_or_eq.1 hj with h | h
  · exact h2 j h q hq
  · subst h; rw [hp] at hq; cases hq; exact h3
def rightTo (g : Gram) (p : GProd) (k : Nat) : Prop := ∀ j, j < k → ∀ s, p.right[j]? = some s → goodS g s = true
theorem rightTo_succ {g : Gram} {p : GProd} {k : Nat} {s : Int} (hs : p.right[k]? = some s) : rightTo g p (k + 1) ↔ rightTo g p k ∧ goodS g s = true := by
  refine ⟨fun h => ⟨fun j hj => h j (by omega), h k (by omega) s hs⟩, fun ⟨h1, h2⟩ j hj q hq => ?_⟩
  rcases Nat.lt_succ_iff_lt_or_eq.1 hj with h | h
  · exact h1 j h q hq
  · subst h; rw [hs] at hq; cases hq; exact h2
theorem rightTo_all {g : Gram} {p : GProd} : rightTo g p p.right.length ↔ ∀ s ∈ p.right, goodS g s = true := by
  refine ⟨fun h s hs => ?_, fun h j _ s hs => h s (List.mem_of_getElem? hs)⟩
  obtain ⟨j, hj, e⟩ := List.getElem_of_mem hs
  exact h j hj s (by rw [List.getElem?_eq_getElem hj, e])
theorem refSymbols (g : Gram) (hf : Fits g) : KnownCall Tryz.prog 57 [encG g] (.d (.int .i64 (symbolsF g))) := by
  have hfp := hf.prods
  have hfn := hf.names
  refine kF Tryz.func57 [1] fun w => ?_
  repeat' (first
    | refine zW ?_
    | refine zB ?_ ?_ <;> intro h <;> try exact zk h
    | refine zC (refNonterm _ _ hf) ?_
    | fail)
  refine Run.loopT (fun x : Nat × Bool => ⟨PT.ofList [(1, (.d (.ep [.int .i64 g.k, strs g.tokens, .str g.sep, strs g.names, .int .i64 g.start, .sl 2 (g.prods.map encP)]))), (3, .d (.bool x.2)), (4, .d (.int .i64 x.1))], [], []⟩) (fun x => x.1 ≤ g.prods.length ∧ (x.2 = true ↔ okTo g x.1)) (fun x => g.prods.length - x.1) (0, isNonterm g g.start) ⟨Nat.zero_le _, ⟨fun h => ⟨h, fun j hj => by simp only at hj; omega⟩, fun h => h.1⟩⟩ (ti _ 0) (fun x hx => ?_)
  obtain ⟨i, b⟩ := x
  obtain ⟨hi1, hi2⟩ := hx
  simp only at hi1 hi2 ⊢
  rcases Nat.lt_or_ge i g.prods.length with hlt | hge
  · obtain ⟨p, hp⟩ := get_ok hlt
    have hpr := hf.rights p (List.mem_of_getElem? hp)
    rcases b
    · repeat' (first
        | refine zW ?_
        | refine zB ?_ ?_ <;> intro h <;> try exact zk h
        | refine zIP w (.d (.ep [.int .i64 p.left, ints p.right])) hp ?_
        | refine zK (refNonterm _ _ hf) ?_ ?_ <;> intro h <;> try exact zk h
        | refine zC (refNonterm _ _ hf) ?_
        | fail)
      refine Run.loop (fun k : Nat => ⟨PT.ofList [(1, (.d (.ep [.int .i64 g.k, strs g.tokens, .str g.sep, strs g.names, .int .i64 g.start, .sl 2 (g.prods.map encP)]))), (3, .d (.bool false)), (4, .d (.int .i64 i)), (5, .bp 0 0), (6, .d (.int .i64 k))], [.box [.d (.int .i64 p.left), .d (ints p.right)]], []⟩) (fun k => k ≤ p.right.length) (fun k => p.right.length - k) 0 (Nat.zero_le _) (weak_of' rfl rfl (by repeat' (first | exact trivial | refine ⟨rfl, ?_⟩))) (fun k hk => ?_)
      rcases Nat.lt_or_ge k p.right.length with hkl | hkg
      · obtain ⟨s, hs⟩ := get_ok hkl
        repeat' (first
          | refine zW ?_
          | refine zB ?_ ?_ <;> intro h <;> try exact zk h
          | refine zI w (.d (.ep [.int .i64 s])) hs ?_
          | (exact ⟨k + 1, hkl, by omega, weak_of (by repeat' (first | exact trivial | refine ⟨rfl, ?_⟩ | refine ⟨(inc_get (k := k) (by kernel_rfl) (by omega)), ?_⟩))⟩)
          | fail)
      · repeat' (first
          | refine zW ?_
          | refine zB ?_ ?_ <;> intro h <;> try exact zk h
          | (refine ⟨(i + 1, false), ⟨hlt, ?_⟩, by simp only; omega, (ti _ 0)⟩)
          | fail)
        simp only [okTo_succ hp]
        simp_all
    · repeat' (first
        | refine zW ?_
        | refine zB ?_ ?_ <;> intro h <;> try exact zk h
        | refine zIP w (.d (.ep [.int .i64 p.left, ints p.right])) hp ?_
        | refine zC (refNonterm _ _ hf) ?_
        | fail)
      refine Run.loop (fun x : Nat × Bool => ⟨PT.ofList [(1, (.d (.ep [.int .i64 g.k, strs g.tokens, .str g.sep, strs g.names, .int .i64 g.start, .sl 2 (g.prods.map encP)]))), (3, .d (.bool x.2)), (4, .d (.int .i64 i)), (5, .bp 0 0), (6, .d (.int .i64 x.1))], [.box [.d (.int .i64 p.left), .d (ints p.right)]], []⟩) (fun x => x.1 ≤ p.right.length ∧ (x.2 = true ↔ isNonterm g p.left = true ∧ rightTo g p x.1)) (fun x => p.right.length - x.1) (0, isNonterm g p.left) ⟨Nat.zero_le _, ⟨fun h => ⟨h, fun j hj => by simp only at hj; omega⟩, fun h => h.1⟩⟩ (weak_of' rfl rfl (by repeat' (first | exact trivial | refine ⟨rfl, ?_⟩))) (fun x hk => ?_)
      obtain ⟨k, c⟩ := x
      obtain ⟨hk1, hk2⟩ := hk
      simp only at hk1 hk2 ⊢
      rcases Nat.lt_or_ge k p.right.length with hkl | hkg
      · obtain ⟨s, hs⟩ := get_ok hkl
        rcases c
        · repeat' (first
            | refine zW ?_
            | refine zB ?_ ?_ <;> intro h <;> try exact zk h
            | refine zI w (.d (.ep [.int .i64 s])) hs ?_
            | (exact ⟨(k + 1, false), ⟨hkl, by simp only [rightTo_succ hs]; simp_all⟩, by simp only; omega, weak_of (by repeat' (first | exact trivial | refine ⟨rfl, ?_⟩ | refine ⟨(inc_get (k := k) (by kernel_rfl) (by omega)), ?_⟩))⟩)
            | fail)
        · repeat' (first
            | refine zW ?_
            | refine zB ?_ ?_ <;> intro h <;> try exact zk h
            | refine zI w (.d (.ep [.int .i64 s])) hs ?_
            | refine zK (refTerminal _ _) ?_ ?_ <;> intro h <;> try exact zk h
            | refine zC (refTerminal _ _) ?_
            | refine zK (refNonterm _ _ hf) ?_ ?_ <;> intro h <;> try exact zk h
            | refine zC (refNonterm _ _ hf) ?_
            | (exact ⟨(k + 1, true), ⟨hkl, (by first | (simp only [rightTo_succ hs, goodS]; simp_all <;> fail) | fail)⟩, by simp only; omega, weak_of (by repeat' (first | exact trivial | refine ⟨rfl, ?_⟩ | refine ⟨(inc_get (k := k) (by kernel_rfl) (by omega)), ?_⟩))⟩)
            | (exact ⟨(k + 1, false), ⟨hkl, (by first | (simp only [rightTo_succ hs, goodS]; simp_all <;> fail) | fail)⟩, by simp only; omega, weak_of (by repeat' (first | exact trivial | refine ⟨rfl, ?_⟩ | refine ⟨(inc_get (k := k) (by kernel_rfl) (by omega)), ?_⟩))⟩)
            | fail)
      · have hke : k = p.right.length := by omega
        subst hke
        repeat' (first
          | refine zW ?_
          | refine zB ?_ ?_ <;> intro h <;> try exact zk h
          | (refine ⟨(i + 1, c), ⟨hlt, ?_⟩, by simp only; omega, (ti _ 0)⟩)
          | fail)
        simp only [okTo_succ hp, goodP, ← rightTo_all]
        rw [← hi2, hk2]
        simp
  · have hge : i = g.prods.length := by omega
    subst hge
    rw [okTo_all] at hi2
    rcases b
    · have hno : ¬ symbolsOK g := fun h => by simpa using hi2.2 h
      repeat' (first
        | refine zW ?_
        | refine zB ?_ ?_ <;> intro h <;> try exact zk h
        | (show _ = _; rw [symbolsF, if_neg hno])
        | fail)
    · have hyes : symbolsOK g := hi2.1 rfl
      repeat' (first
        | refine zW ?_
        | refine zB ?_ ?_ <;> intro h <;> try exact zk h
        | fail)
      refine Run.loop (fun i : Nat => ⟨PT.ofList [(1, (.d (.ep [.int .i64 g.k, strs g.tokens, .str g.sep, strs g.names, .int .i64 g.start, .sl 2 (g.prods.map encP)]))), (7, .d (.int .i64 i))], [], []⟩) (fun i => 1 ≤ i ∧ ∀ j, j < i - 1 → ∀ p q, g.prods[j]? = some p → g.prods[j + 1]? = some q → ¬ q.left < p.left) (fun i => g.prods.length - i) 1 ⟨Nat.le_refl _, fun j hj => by omega⟩ (weak_of (by repeat' (first | exact trivial | refine ⟨rfl, ?_⟩))) (fun i hi => ?_)
      obtain ⟨hi1, hi2⟩ := hi
      rcases Nat.lt_or_ge i g.prods.length with hlt | hge
      · obtain ⟨q, hq⟩ := get_ok hlt
        obtain ⟨p, hp⟩ := get_ok (show i - 1 < g.prods.length by omega)
        have hw : IntKind.i64.wrap ((i : Int) - 1) = ((i - 1 : Nat) : Int) := by rw [wrap64 (by omega) (by omega)]; omega
        have hi' : i - 1 + 1 = i := by omega
        repeat' (first
          | refine zW ?_
          | refine zB ?_ ?_ <;> intro h <;> try exact zk h
          | refine zIP w (.d (.ep [.int .i64 q.left, ints q.right])) hq ?_
          | refine zIP w (.d (.ep [.int .i64 p.left, ints p.right])) (And.intro hp hw) ?_
          | (exact ⟨i + 1, ⟨by omega, (by first | (rw [show i + 1 - 1 = (i - 1) + 1 from by omega]; refine all_succ hi2 (fun p' q' hp' hq' => ?_); rw [hi'] at hq'; rw [hp] at hp'; rw [hq] at hq'; cases hp'; cases hq'; simp at h; omega <;> fail) | fail)⟩, by omega, weak_of (by repeat' (first | exact trivial | refine ⟨rfl, ?_⟩ | refine ⟨(inc_get (k := i) (by kernel_rfl) (by omega)), ?_⟩))⟩)
          | fail)
        have hb : orderBad g := ⟨i - 1, p, q, hp, by rw [hi']; exact hq, by simpa using h⟩
        rw [symbolsF, if_pos hyes, if_pos hb]
      · have hb : ¬ orderBad g := fun ⟨j, p, q, h1, h2, h3⟩ => by
          have := (List.getElem?_eq_some_iff.1 h2).1
          exact hi2 j (by omega) p q h1 h2 h3
        repeat' (first
          | refine zW ?_
          | refine zB ?_ ?_ <;> intro h <;> try exact zk h
          | fail)
        refine Run.loop (fun i : Nat => ⟨PT.ofList [(1, (.d (.ep [.int .i64 g.k, strs g.tokens, .str g.sep, strs g.names, .int .i64 g.start, .sl 2 (g.prods.map encP)]))), (8, .d (.int .i64 i))], [], []⟩) (fun i => i ≤ g.names.length ∧ ∀ j : Nat, j < i → prodsF g (16 + j) ≠ []) (fun i => g.names.length - i) 0 ⟨Nat.zero_le _, fun j hj => by omega⟩ (weak_of (by repeat' (first | exact trivial | refine ⟨rfl, ?_⟩))) (fun k hk => ?_)
        obtain ⟨hk1, hk2⟩ := hk
        rcases Nat.lt_or_ge k g.names.length with hkl | hkg
        · have hw : IntKind.i64.wrap (16 + (k : Int)) = 16 + k := wrap64 (by omega) (by omega)
          have hcall := refProds g (IntKind.i64.wrap (16 + (k : Int))) hf
          rw [hw] at hcall
          by_cases hnil : prodsF g (16 + k) = []
          · have hm : missing g := ⟨k, hkl, hnil⟩
            repeat' (first
              | refine oV (v := .d (.int .i64 (16 + k))) ?_ (he := (congrArg (fun n => AV.d (.int .i64 n)) hw))
              | refine eX (v := .d (.int .i64 (16 + k))) ?_ (he := (congrArg (fun n => AV.d (.int .i64 n)) hw))
              | refine zW ?_
              | refine zB ?_ ?_ <;> intro h <;> try exact zk h
              | refine zK (hcall) ?_ ?_ <;> intro h <;> try exact zk h
              | refine zC (hcall) ?_
              | (show _ = _; first | (rw [symbolsF, if_pos hyes, if_neg hb, if_pos hm] <;> fail) | fail)
              | (exfalso; simp [hnil] at h)
              | fail)
          · repeat' (first
              | refine oV (v := .d (.int .i64 (16 + k))) ?_ (he := (congrArg (fun n => AV.d (.int .i64 n)) hw))
              | refine eX (v := .d (.int .i64 (16 + k))) ?_ (he := (congrArg (fun n => AV.d (.int .i64 n)) hw))
              | refine zW ?_
              | refine zB ?_ ?_ <;> intro h <;> try exact zk h
              | refine zK (hcall) ?_ ?_ <;> intro h <;> try exact zk h
              | refine zC (hcall) ?_
              | (show _ = _; exfalso; simp [hnil] at h)
              | (exact ⟨k + 1, ⟨hkl, all_succ hk2 hnil⟩, by omega, weak_of (by repeat' (first | exact trivial | refine ⟨rfl, ?_⟩ | refine ⟨(inc_get (k := k) (by kernel_rfl) (by omega)), ?_⟩))⟩)
              | fail)
        · have hm : ¬ missing g := fun ⟨j, h1, h2⟩ => hk2 j (by omega) h2
          repeat' (first
            | refine zW ?_
            | refine zB ?_ ?_ <;> intro h <;> try exact zk h
            | (show _ = _; rw [symbolsF, if_pos hyes, if_neg hb, if_neg hm])
            | fail)
open Classical in
def checkF (g : Gram) : Int := if g.k < 1 ∨ 4 < g.k then 2 else if manyF g ≠ 0 then manyF g else if g.tokens = [] ∨ g.names = [] then 5 else if namesF g ≠ 0 then namesF g else symbolsF g
theorem check_k {g : Gram} (h : g.k < 1 ∨ 4 < g.k) : checkF g = 2 := by unfold checkF; rw [if_pos h]
theorem refCheck (g : Gram) (hf : Fits g) : KnownCall Tryz.prog 30 [encG g] (.d (.int .i64 (checkF g))) := by
  refine kF Tryz.func30 [1] fun w => ?_
  repeat' (first
    | refine zW ?_
    | refine zB ?_ ?_ <;> intro h <;> try exact zk h
    | refine zK (refFull _ hf) ?_ ?_ <;> intro h <;> try exact zk h
    | refine zC (refFull _ hf) ?_
    | refine zK (refNamed _ hf) ?_ ?_ <;> intro h <;> try exact zk h
    | refine zC (refNamed _ hf) ?_
    | refine zK (refSymbols _ hf) ?_ ?_ <;> intro h <;> try exact zk h
    | refine zC (refSymbols _ hf) ?_
    | (show _ = _; first | (simp_all [checkF] <;> fail) | (simp_all [checkF]; omega) | (rw [check_k (by simp_all; omega)] <;> fail) | fail)
    | (exfalso; (simp_all <;> fail))
    | fail)
def symName (g : Gram) (s : Int) : Option (List Nat) := if 16 ≤ s then g.names[(s - 16).toNat]? else if 0 ≤ s then g.tokens[s.toNat]? else none
theorem check_parts {g : Gram} (h : checkF g = 0) : manyF g = 0 ∧ g.tokens ≠ [] ∧ g.names ≠ [] ∧ namesF g = 0 ∧ symbolsF g = 0 := by
  unfold checkF at h
  split at h
  · omega
  · split at h
    · contradiction
    · split at h
      · omega
      · split at h
        · contradiction
        · rename_i h1 h2 h3 h4
          rw [not_or] at h3
          exact ⟨Classical.byContradiction h2, h3.1, h3.2, Classical.byContradiction h4, h⟩
theorem many_zero {g : Gram} (h : manyF g = 0) : g.tokens.length ≤ 8 ∧ g.names.length ≤ 8 ∧ g.prods.length ≤ 24 ∧ ∀ p ∈ g.prods, p.right.length ≤ 6 := by
  unfold manyF at h
  split at h
  · omega
  · rename_i hn
    simp only [not_or, not_exists, not_and] at hn
    exact ⟨by omega, by omega, by omega, fun p hp => by have := hn.2.2.2 p hp; omega⟩
theorem symbols_zero {g : Gram} (h : symbolsF g = 0) : symbolsOK g ∧ ¬ orderBad g ∧ ¬ missing g := by
  unfold symbolsF at h
  split at h
  · split at h
    · omega
    · split at h
      · omega
      · exact ⟨by assumption, by assumption, by assumption⟩
  · omega
theorem name_of_good {g : Gram} (ht : g.tokens.length ≤ 8) {s : Int} (h : goodS g s = true) : ∃ x, symName g s = some x := by
  simp only [goodS, isTerm, isNonterm, Bool.or_eq_true, Bool.and_eq_true, decide_eq_true_eq] at h
  unfold symName
  split
  · exact get_ok (by omega)
  · rw [if_pos (by omega)]
    exact get_ok (by omega)
def nameS (g : Gram) (s : Int) : List Nat := (symName g s).getD []
theorem nameS_of {g : Gram} {s : Int} {x : List Nat} (h : symName g s = some x) : nameS g s = x := by simp [nameS, h]
theorem cutL_all {α : Type} (l : List α) : cutL none (some (l.length : Int)) l = l := by simp [cutL]
def namedG (g : Gram) : Int := if g.tokens = [] ∨ g.names = [] then 5 else namedF g
theorem namedG_of {g : Gram} (h1 : g.tokens ≠ []) (h2 : g.names ≠ []) : namedG g = namedF g := if_neg (by simp [h1, h2])
theorem named (g : Gram) (hf : Fits g) : KnownCall Tryz.prog 44 [encG g] (.d (.int .i64 (namedG g))) := by
  have hft := hf.tokens
  have hfn := hf.names
  have hsl : (smalls g).length = g.tokens.length + 1 := by simp [smalls]
  by_cases h1 : g.tokens = []
  · have e : namedG g = 5 := if_pos (.inl h1)
    rw [e]
    refine kF Tryz.func44 [1, 28] fun w => ?_
    repeat' (first
      | refine zW ?_
      | refine zB ?_ ?_ <;> intro h <;> try exact zk h
      | refine zX ?_
      | rfl
      | (exfalso; (simp_all <;> fail))
      | fail)
  · by_cases h2 : g.names = []
    · have e : namedG g = 5 := if_pos (.inr h2)
      rw [e]
      have h1' : g.tokens.length ≠ 0 := by simpa using h1
      refine kF Tryz.func44 [1, 28] fun w => ?_
      repeat' (first
        | refine zW ?_
        | refine zB ?_ ?_ <;> intro h <;> try exact zk h
        | refine zX ?_
        | rfl
        | (exfalso; (simp_all <;> fail))
        | fail)
    · rw [namedG_of h1 h2]
      have h1' : g.tokens.length ≠ 0 := by simpa using h1
      have h2' : g.names.length ≠ 0 := by simpa using h2
      refine kF Tryz.func44 [1, 28] fun w => ?_
      repeat' (first
        | refine zW ?_
        | refine zB ?_ ?_ <;> intro h <;> try exact zk h
        | refine zX ?_
        | refine oV ?_ (hf := (by first | (simp [cutC] <;> fail) | (simp [cutC]; omega)))
        | refine eX ?_ (hf := (by first | (simp [cutC] <;> fail) | (simp [cutC]; omega)))
        | refine zAp ?_
        | (show _ = _; exfalso; (simp_all <;> fail))
        | fail)
      first | refine Run.tidy (tidy_of (objs := _) [(1, (.d (.ep [.int .i64 g.k, strs g.tokens, .str g.sep, strs g.names, .int .i64 g.start, .sl 2 (g.prods.map encP)]))), (29, .d (strs (smalls g))), (30, .d (.int .i64 (smalls g).length)), (31, .d (.int .i64 0))] 0 (Eq.trans (b := []) rfl rfl) rfl (by repeat' (first | exact trivial | refine ⟨(Or.inl rfl), ?_⟩ | refine ⟨(Or.inr rfl), ?_⟩ | refine ⟨rfl, ?_⟩ | refine ⟨(Or.inr (Eq.trans (b := some (.d (.sl 1 (cutL none (some ((g.tokens.map DV.str).length : Int)) (g.tokens.map DV.str) ++ [.str g.sep])))) rfl (by rw [cutL_all]; simp [smalls]))), ?_⟩ | refine ⟨(Or.inl (Eq.trans (b := some (.d (.int .i64 ((cutL none (some ((g.tokens.map DV.str).length : Int)) (g.tokens.map DV.str) ++ [DV.str g.sep]).length : Nat)))) rfl (by rw [cutL_all]; simp [smalls]))), ?_⟩ | fail)) (by repeat' (first | exact trivial | refine ⟨(Or.inl rfl), ?_⟩ | refine ⟨(Or.inr rfl), ?_⟩ | refine ⟨rfl, ?_⟩ | refine ⟨(Or.inr (Eq.trans (b := some (.d (.sl 1 (cutL none (some ((g.tokens.map DV.str).length : Int)) (g.tokens.map DV.str) ++ [.str g.sep])))) rfl (by rw [cutL_all]; simp [smalls]))), ?_⟩ | refine ⟨(Or.inl (Eq.trans (b := some (.d (.int .i64 ((cutL none (some ((g.tokens.map DV.str).length : Int)) (g.tokens.map DV.str) ++ [DV.str g.sep]).length : Nat)))) rfl (by rw [cutL_all]; simp [smalls]))), ?_⟩ | fail)) rfl rfl) ?_ | refine RunOps.tidy (tidy_of (objs := _) [(1, (.d (.ep [.int .i64 g.k, strs g.tokens, .str g.sep, strs g.names, .int .i64 g.start, .sl 2 (g.prods.map encP)]))), (29, .d (strs (smalls g))), (30, .d (.int .i64 (smalls g).length)), (31, .d (.int .i64 0))] 0 (Eq.trans (b := []) rfl rfl) rfl (by repeat' (first | exact trivial | refine ⟨(Or.inl rfl), ?_⟩ | refine ⟨(Or.inr rfl), ?_⟩ | refine ⟨rfl, ?_⟩ | refine ⟨(Or.inr (Eq.trans (b := some (.d (.sl 1 (cutL none (some ((g.tokens.map DV.str).length : Int)) (g.tokens.map DV.str) ++ [.str g.sep])))) rfl (by rw [cutL_all]; simp [smalls]))), ?_⟩ | refine ⟨(Or.inl (Eq.trans (b := some (.d (.int .i64 ((cutL none (some ((g.tokens.map DV.str).length : Int)) (g.tokens.map DV.str) ++ [DV.str g.sep]).length : Nat)))) rfl (by rw [cutL_all]; simp [smalls]))), ?_⟩ | fail)) (by repeat' (first | exact trivial | refine ⟨(Or.inl rfl), ?_⟩ | refine ⟨(Or.inr rfl), ?_⟩ | refine ⟨rfl, ?_⟩ | refine ⟨(Or.inr (Eq.trans (b := some (.d (.sl 1 (cutL none (some ((g.tokens.map DV.str).length : Int)) (g.tokens.map DV.str) ++ [.str g.sep])))) rfl (by rw [cutL_all]; simp [smalls]))), ?_⟩ | refine ⟨(Or.inl (Eq.trans (b := some (.d (.int .i64 ((cutL none (some ((g.tokens.map DV.str).length : Int)) (g.tokens.map DV.str) ++ [DV.str g.sep]).length : Nat)))) rfl (by rw [cutL_all]; simp [smalls]))), ?_⟩ | fail)) rfl rfl) ?_
      refine Run.loop (fun i : Nat => ⟨PT.ofList [(1, (.d (.ep [.int .i64 g.k, strs g.tokens, .str g.sep, strs g.names, .int .i64 g.start, .sl 2 (g.prods.map encP)]))), (29, .d (strs (smalls g))), (30, .d (.int .i64 (smalls g).length)), (31, .d (.int .i64 i))], [], []⟩) (fun i => i ≤ (smalls g).length ∧ ∀ j, j < i → ∀ s, (smalls g)[j]? = some s → smallF s = true) (fun i => (smalls g).length - i) 0 ⟨Nat.zero_le _, fun j hj => by omega⟩ (weak_of (by repeat' (first | exact trivial | refine ⟨rfl, ?_⟩))) (fun i hi => ?_)
      obtain ⟨hi1, hi2⟩ := hi
      rcases Nat.lt_or_ge i (smalls g).length with hlt | hge
      · obtain ⟨s, hs⟩ := get_ok hlt
        repeat' (first
          | refine zW ?_
          | refine zB ?_ ?_ <;> intro h <;> try exact zk h
          | refine zX ?_
          | refine zI w (.d (.ep [.str s])) hs ?_
          | refine zK (small _ (hf.small hs)) ?_ ?_ <;> intro h <;> try exact zk h
          | refine zC (small _ (hf.small hs)) ?_
          | (show _ = _; rw [named_small hs (by simp_all)])
          | (exact ⟨i + 1, ⟨by omega, all_succ hi2 (fun q hq => by rw [hs] at hq; cases hq; simp_all)⟩, by omega, weak_of (by repeat' (first | exact trivial | refine ⟨rfl, ?_⟩ | refine ⟨(inc_get (k := i) (by kernel_rfl) (by omega)), ?_⟩))⟩)
          | fail)
      · repeat' (first
          | refine zW ?_
          | refine zB ?_ ?_ <;> intro h <;> try exact zk h
          | refine zX ?_
          | fail)
        refine Run.loop (fun i : Nat => ⟨PT.ofList [(1, (.d (.ep [.int .i64 g.k, strs g.tokens, .str g.sep, strs g.names, .int .i64 g.start, .sl 2 (g.prods.map encP)]))), (40, .d (strs g.names)), (41, .d (.int .i64 (g.names.map DV.str).length)), (42, .d (.int .i64 i))], [], []⟩) (fun i => i ≤ g.names.length ∧ ∀ j, j < i → ∀ s, g.names[j]? = some s → capitalF s = true) (fun i => g.names.length - i) 0 ⟨Nat.zero_le _, fun j hj => by omega⟩ (weak_of (by repeat' (first | exact trivial | refine ⟨rfl, ?_⟩))) (fun k hk => ?_)
        obtain ⟨hk1, hk2⟩ := hk
        rcases Nat.lt_or_ge k g.names.length with hklt | hkge
        · obtain ⟨s, hs⟩ := get_ok hklt
          repeat' (first
            | refine zW ?_
            | refine zB ?_ ?_ <;> intro h <;> try exact zk h
            | refine zX ?_
            | refine zI w (.d (.ep [.str s])) hs ?_
            | refine zK (capital _ (hf.name hs)) ?_ ?_ <;> intro h <;> try exact zk h
            | refine zC (capital _ (hf.name hs)) ?_
            | (show _ = _; rw [named_capital hs (by simp_all)])
            | (exact ⟨k + 1, ⟨by omega, all_succ hk2 (fun q hq => by rw [hs] at hq; cases hq; simp_all)⟩, by omega, weak_of (by repeat' (first | exact trivial | refine ⟨rfl, ?_⟩ | refine ⟨(inc_get (k := k) (by kernel_rfl) (by omega)), ?_⟩))⟩)
            | fail)
        · have h0 : namedF g = 0 := named_no (fun j hj => hi2 j (by omega)) (fun j hj => hk2 j (by omega))
          repeat' (first
            | refine zW ?_
            | refine zB ?_ ?_ <;> intro h <;> try exact zk h
            | refine zX ?_
            | (show _ = _; rw [h0])
            | fail)
def allN (g : Gram) : List (List Nat) := smalls g ++ g.names
def diffF (g : Gram) : Int := if (allN g).Nodup then 0 else 8
def kvs (l : List (List Nat)) : List (DV × DV) := l.map fun s => (.str s, .bool true)
theorem kvs_pairs (l : List (List Nat)) : kvs l = (l.map fun s => ((s, DV.bool true) : List Nat × DV)).map fun p => (.str p.1, p.2) := by simp [kvs]
theorem find_not {E : PT Ty} {t : TypeId} {l : List (List Nat)} {s : List Nat} (h : s ∉ l) : findKV (eqKey E t) (.str s) (kvs l) = some none := by
  rw [kvs_pairs, findKV_str]
  have : (l.map fun s => ((s, DV.bool true) : List Nat × DV)).findIdx? (fun p => p.1 == s) = none := by
    rw [List.findIdx?_eq_none_iff]
    intro p hp
    simp only [List.mem_map] at hp
    obtain ⟨x, hx, rfl⟩ := hp
    simp
    exact fun e => h (e ▸ hx)
  rw [this]; rfl
theorem find_in {E : PT Ty} {t : TypeId} {l : List (List Nat)} {s : List Nat} (h : s ∈ l) : ∃ j, findKV (eqKey E t) (.str s) (kvs l) = some (some (j, .bool true)) := by
  rw [kvs_pairs, findKV_str]
  cases hf : (l.map fun s => ((s, DV.bool true) : List Nat × DV)).findIdx? (fun p => p.1 == s) with
  | none =>
    rw [List.findIdx?_eq_none_iff] at hf
    have := hf (s, .bool true) (by simp [h])
    simp at this
  | some j =>
    have hj : j < l.length := by
      rw [List.findIdx?_eq_some_iff_getElem] at hf
      obtain ⟨h1, _⟩ := hf
      simpa using h1
    exact ⟨j, by simp [hj]⟩
theorem kvs_app (l : List (List Nat)) (s : List Nat) : kvs l ++ [(.str s, .bool true)] = kvs (l ++ [s]) := by simp [kvs]
theorem nodup_take {l : List (List Nat)} {i : Nat} {s : List Nat} (h : l[i]? = some s) (hn : (l.take i).Nodup) (hs : s ∉ l.take i) : (l.take (i + 1)).Nodup := by
  rw [List.take_add_one, h, List.nodup_append]
  refine ⟨hn, by simp, fun a ha b hb => ?_⟩
  simp at hb
  subst hb
  exact fun e => hs (e ▸ ha)
theorem nodup_not {l : List (List Nat)} {i : Nat} {s : List Nat} (h : l[i]? = some s) (hs : s ∈ l.take i) : ¬ l.Nodup := fun hn => by
  obtain ⟨j, hj, e⟩ := List.getElem_of_mem hs
  have hji : j < i := by simp at hj; omega
  have hi := (List.getElem?_eq_some_iff.1 h).1
  refine List.pairwise_iff_getElem.1 hn j i (by omega) hi hji ?_
  rw [(List.getElem?_eq_some_iff.1 h).2]
  simpa using e
theorem different (g : Gram) (hf : Fits g) : KnownCall Tryz.prog 45 [encG g] (.d (.int .i64 (diffF g))) := by
  have hft := hf.tokens
  have hfn := hf.names
  have hal : (allN g).length = g.tokens.length + 1 + g.names.length := by simp [allN, smalls]; omega
  refine kF Tryz.func45 [1, 18] fun w => ?_
  repeat' (first
    | refine zW ?_
    | refine zB ?_ ?_ <;> intro h <;> try exact zk h
    | refine zX ?_
    | refine oV ?_ (hf := (by first | (simp [cutC] <;> fail) | (simp [cutC]; omega)))
    | refine eX ?_ (hf := (by first | (simp [cutC] <;> fail) | (simp [cutC]; omega)))
    | refine zAp ?_
    | fail)
  first | refine Run.tidy (tidy_of (objs := _) [(1, (.d (.ep [.int .i64 g.k, strs g.tokens, .str g.sep, strs g.names, .int .i64 g.start, .sl 2 (g.prods.map encP)]))), (3, .mp 0), (22, .d (strs (allN g))), (23, .d (.int .i64 (allN g).length)), (24, .d (.int .i64 0))] 1 (Eq.trans (b := [.map []]) rfl rfl) rfl (by repeat' (first | exact trivial | refine ⟨(Or.inl rfl), ?_⟩ | refine ⟨(Or.inr rfl), ?_⟩ | refine ⟨rfl, ?_⟩ | refine ⟨(Or.inr (Eq.trans (b := some (.d (.sl 1 (cutL none (some ((g.tokens.map DV.str).length : Int)) (g.tokens.map DV.str) ++ [.str g.sep] ++ g.names.map .str)))) rfl (by rw [cutL_all]; simp [allN, smalls]))), ?_⟩ | refine ⟨(Or.inl (Eq.trans (b := some (.d (.int .i64 ((cutL none (some ((g.tokens.map DV.str).length : Int)) (g.tokens.map DV.str) ++ [DV.str g.sep] ++ g.names.map DV.str).length : Nat)))) rfl (congrArg (fun n : Nat => some (AV.d (DV.int .i64 n))) (by rw [cutL_all, hal]; simp <;> omega)))), ?_⟩ | fail)) (by repeat' (first | exact trivial | refine ⟨(Or.inl rfl), ?_⟩ | refine ⟨(Or.inr rfl), ?_⟩ | refine ⟨rfl, ?_⟩ | refine ⟨(Or.inr (Eq.trans (b := some (.d (.sl 1 (cutL none (some ((g.tokens.map DV.str).length : Int)) (g.tokens.map DV.str) ++ [.str g.sep] ++ g.names.map .str)))) rfl (by rw [cutL_all]; simp [allN, smalls]))), ?_⟩ | refine ⟨(Or.inl (Eq.trans (b := some (.d (.int .i64 ((cutL none (some ((g.tokens.map DV.str).length : Int)) (g.tokens.map DV.str) ++ [DV.str g.sep] ++ g.names.map DV.str).length : Nat)))) rfl (congrArg (fun n : Nat => some (AV.d (DV.int .i64 n))) (by rw [cutL_all, hal]; simp <;> omega)))), ?_⟩ | fail)) rfl rfl) ?_ | refine RunOps.tidy (tidy_of (objs := _) [(1, (.d (.ep [.int .i64 g.k, strs g.tokens, .str g.sep, strs g.names, .int .i64 g.start, .sl 2 (g.prods.map encP)]))), (3, .mp 0), (22, .d (strs (allN g))), (23, .d (.int .i64 (allN g).length)), (24, .d (.int .i64 0))] 1 (Eq.trans (b := [.map []]) rfl rfl) rfl (by repeat' (first | exact trivial | refine ⟨(Or.inl rfl), ?_⟩ | refine ⟨(Or.inr rfl), ?_⟩ | refine ⟨rfl, ?_⟩ | refine ⟨(Or.inr (Eq.trans (b := some (.d (.sl 1 (cutL none (some ((g.tokens.map DV.str).length : Int)) (g.tokens.map DV.str) ++ [.str g.sep] ++ g.names.map .str)))) rfl (by rw [cutL_all]; simp [allN, smalls]))), ?_⟩ | refine ⟨(Or.inl (Eq.trans (b := some (.d (.int .i64 ((cutL none (some ((g.tokens.map DV.str).length : Int)) (g.tokens.map DV.str) ++ [DV.str g.sep] ++ g.names.map DV.str).length : Nat)))) rfl (congrArg (fun n : Nat => some (AV.d (DV.int .i64 n))) (by rw [cutL_all, hal]; simp <;> omega)))), ?_⟩ | fail)) (by repeat' (first | exact trivial | refine ⟨(Or.inl rfl), ?_⟩ | refine ⟨(Or.inr rfl), ?_⟩ | refine ⟨rfl, ?_⟩ | refine ⟨(Or.inr (Eq.trans (b := some (.d (.sl 1 (cutL none (some ((g.tokens.map DV.str).length : Int)) (g.tokens.map DV.str) ++ [.str g.sep] ++ g.names.map .str)))) rfl (by rw [cutL_all]; simp [allN, smalls]))), ?_⟩ | refine ⟨(Or.inl (Eq.trans (b := some (.d (.int .i64 ((cutL none (some ((g.tokens.map DV.str).length : Int)) (g.tokens.map DV.str) ++ [DV.str g.sep] ++ g.names.map DV.str).length : Nat)))) rfl (congrArg (fun n : Nat => some (AV.d (DV.int .i64 n))) (by rw [cutL_all, hal]; simp <;> omega)))), ?_⟩ | fail)) rfl rfl) ?_
  refine Run.loop (fun i : Nat => ⟨PT.ofList [(1, (.d (.ep [.int .i64 g.k, strs g.tokens, .str g.sep, strs g.names, .int .i64 g.start, .sl 2 (g.prods.map encP)]))), (3, .mp 0), (22, .d (strs (allN g))), (23, .d (.int .i64 (allN g).length)), (24, .d (.int .i64 i))], [.map (kvs ((allN g).take i))], []⟩) (fun i => i ≤ (allN g).length ∧ ((allN g).take i).Nodup) (fun i => (allN g).length - i) 0 ⟨Nat.zero_le _, by simp⟩ (weak_of' rfl rfl (by repeat' (first | exact trivial | refine ⟨rfl, ?_⟩))) (fun i hi => ?_)
  obtain ⟨hi1, hi2⟩ := hi
  rcases Nat.lt_or_ge i (allN g).length with hlt | hge
  · obtain ⟨s, hs⟩ := get_ok hlt
    by_cases hm : s ∈ (allN g).take i
    · obtain ⟨j, hj⟩ := find_in (E := Et) (t := 9) hm
      repeat' (first
        | refine zW ?_
        | refine zB ?_ ?_ <;> intro h <;> try exact zk h
        | refine zX ?_
        | refine zI w (.d (.ep [.str s])) hs ?_
        | refine RunOps.x (frz := [1, 18]) Et_ok (by rfl) (evAny_lookup (by rfl) (by rfl) (by rfl) (by rfl) (by rfl) (by rfl) (by rfl) (by rfl) (by rfl) hj (by rfl)) rfl (v := .d (.bool true)) rfl rfl (by rfl) (by rfl) ?_
        | (show _ = _; rw [diffF, if_neg (nodup_not hs hm)])
        | fail)
    · have hj := find_not (E := Et) (t := 9) hm
      repeat' (first
        | refine zW ?_
        | refine zB ?_ ?_ <;> intro h <;> try exact zk h
        | refine zX ?_
        | refine zI w (.d (.ep [.str s])) hs ?_
        | refine RunOps.x (frz := [1, 18]) Et_ok (by rfl) (evAny_lookup (by rfl) (by rfl) (by rfl) (by rfl) (by rfl) (by rfl) (by rfl) (by rfl) (by rfl) hj (by rfl)) rfl (v := .d (.bool false)) rfl rfl (by rfl) (by rfl) ?_
        | refine RunOps.x (frz := [1, 18]) Et_ok (by rfl) (evAny_mapUpdate (by rfl) (by rfl) (by rfl) (by rfl) (by rfl) (by rfl) (by rfl) (by rfl) (by rfl) hj) rfl rfl rfl (by rfl) (by rfl) ?_
        | (refine ⟨i + 1, ⟨by omega, nodup_take hs hi2 hm⟩, by omega, weak_of' (by rw [List.take_add_one, hs]; exact congrArg (fun q => [Ob.map q]) (kvs_app _ _).symm) rfl (by repeat' (first | exact trivial | refine ⟨rfl, ?_⟩ | refine ⟨(inc_get (k := i) (by kernel_rfl) (by omega)), ?_⟩))⟩)
        | fail)
  · have hnd : (allN g).Nodup := by rw [List.take_of_length_le hge] at hi2; exact hi2
    repeat' (first
      | refine zW ?_
      | refine zB ?_ ?_ <;> intro h <;> try exact zk h
      | refine zX ?_
      | (show _ = _; rw [diffF, if_pos hnd])
      | fail)
def idxP {α : Type} (l : List α) (p : α → Bool) : Int := if l.any p then (l.findIdx p : Nat) else -1
theorem idxP_at {α : Type} {l : List α} {p : α → Bool} {i : Nat} {x : α} (h : l[i]? = some x) (hx : p x = true) (hb : ∀ j, j < i → ∀ y, l[j]? = some y → p y = false) : idxP l p = i := by
  have hm := List.mem_of_getElem? h
  have ha : l.any p = true := List.any_eq_true.2 ⟨x, hm, hx⟩
  rw [idxP, if_pos ha]
  have h1 : l.findIdx p < l.length := List.findIdx_lt_length_of_exists ⟨x, hm, hx⟩
  have h2 := List.findIdx_getElem (w := h1)
  have h3 : ¬ l.findIdx p < i := fun hlt => by
    have := hb _ hlt _ (List.getElem?_eq_getElem h1)
    rw [this] at h2; cases h2
  have h4 : ¬ i < l.findIdx p := fun hlt => by
    have h5 := List.not_of_lt_findIdx hlt
    rw [(List.getElem?_eq_some_iff.1 h).2] at h5
    simp [hx] at h5
  omega
theorem idxP_none {α : Type} {l : List α} {p : α → Bool} (hb : ∀ j, j < l.length → ∀ y, l[j]? = some y → p y = false) : idxP l p = -1 := by
  rw [idxP, if_neg]
  intro ha
  obtain ⟨x, hx, hp⟩ := List.any_eq_true.1 ha
  obtain ⟨j, hj, e⟩ := List.getElem_of_mem hx
  have := hb j hj x (by rw [List.getElem?_eq_getElem hj, e])
  rw [this] at hp; cases hp
theorem idxP_any {α : Type} (l : List α) (p : α → Bool) : decide (0 ≤ idxP l p) = l.any p := by
  unfold idxP
  cases h : l.any p <;> simp
theorem indexFuncInts (l : List Int) (hl : l.length ≤ 1099511627776) (F : FuncId) (caps : List DV) (p : Int → Bool) (hp : ∀ x ∈ l, KnownCall Tryz.prog F ((.int .i64 x) :: caps) (.d (.bool (p x)))) :
    KnownCall Tryz.prog 96 [(.sl 1 (l.map (.int .i64))), .fn (.func F) [] caps] (.d (.int .i64 (idxP l p))) := by
  refine kF Tryz.func96 [] fun w => ?_
  repeat' (first
    | refine zW ?_
    | refine zB ?_ ?_ <;> intro h <;> try exact zk h
    | fail)
  refine Run.loop (fun i : Nat => ⟨PT.ofList [(0, .d (.sl 1 (l.map (.int .i64)))), (1, .d (.fn (.func F) [] caps)), (7, .d (.int .i64 l.length)), (8, .d (.int .i64 i))], [], []⟩) (fun i => i ≤ l.length ∧ ∀ j, j < i → ∀ y, l[j]? = some y → p y = false) (fun i => l.length - i) 0 ⟨Nat.zero_le _, fun j hj => by omega⟩ (weak_of (by repeat' (first | exact trivial | refine ⟨rfl, ?_⟩ | refine ⟨Eq.trans (b := some (.d (.int .i64 (l.map _).length))) rfl (by rw [List.length_map]), ?_⟩ | fail))) (fun i hi => ?_)
  obtain ⟨hi1, hi2⟩ := hi
  rcases Nat.lt_or_ge i l.length with hlt | hge
  · obtain ⟨x, hx⟩ := get_ok hlt
    have hc := hp x (List.mem_of_getElem? hx)
    repeat' (first
      | refine zW ?_
      | refine zB ?_ ?_ <;> intro h <;> try exact zk h
      | refine zI w (.d (.ep [.int .i64 x])) hx ?_
      | refine zK (hc) ?_ ?_ <;> intro h <;> try exact zk h
      | refine zC (hc) ?_
      | (show _ = _; rw [idxP_at hx (by simp_all) hi2])
      | (exact ⟨i + 1, ⟨by omega, all_succ hi2 (fun q hq => by rw [hx] at hq; cases hq; simp_all)⟩, by omega, weak_of (by repeat' (first | exact trivial | refine ⟨rfl, ?_⟩ | refine ⟨(inc_get (k := i) (by kernel_rfl) (by omega)), ?_⟩))⟩)
      | fail)
  · have hge : i = l.length := by omega
    repeat' (first
      | refine zW ?_
      | refine zB ?_ ?_ <;> intro h <;> try exact zk h
      | (show _ = _; rw [idxP_none (fun j hj => hi2 j (by omega))])
      | fail)
theorem containsFuncInts (l : List Int) (hl : l.length ≤ 1099511627776) (F : FuncId) (caps : List DV) (p : Int → Bool) (hp : ∀ x ∈ l, KnownCall Tryz.prog F ((.int .i64 x) :: caps) (.d (.bool (p x)))) :
    KnownCall Tryz.prog 70 [(.sl 1 (l.map (.int .i64))), .fn (.func F) [] caps] (.d (.bool (l.any p))) := by
  refine kF Tryz.func70 [] fun w => ?_
  have e := idxP_any l p
  repeat' (first
    | refine zW ?_
    | refine zB ?_ ?_ <;> intro h <;> try exact zk h
    | refine zK (indexFuncInts _ hl _ _ _ hp) ?_ ?_ <;> intro h <;> try exact zk h
    | refine zC (indexFuncInts _ hl _ _ _ hp) ?_
    | (show _ = _; first | (rw [← e] <;> simp_all <;> fail) | fail)
    | fail)
theorem prodsF_nil (g : Gram) (s : Int) : prodsF g s = [] ↔ g.prods.any (fun p => decide (p.left = s)) = false := by
  simp only [prodsF, prodsTo, List.take_length, List.map_eq_nil_iff, List.filter_eq_nil_iff, List.any_eq_false, decide_eq_true_eq]
  refine ⟨fun h p hp => ?_, fun h q hq => h q.1 (by have := List.fst_mem_of_mem_zipIdx hq; exact this)⟩
  obtain ⟨j, hj, e⟩ := List.getElem_of_mem hp
  exact h (p, j) (by rw [List.mem_zipIdx_iff_getElem?]; rw [List.getElem?_eq_getElem hj, e])
theorem indexFuncA (l : List GProd) (hl : l.length ≤ 1099511627776) (F : FuncId) (caps : List AV) (objs : List Ob) (p : GProd → Bool) (hp : ∀ x ∈ l, ACall Tryz.prog F (.d (encP x) :: caps) objs (.d (.bool (p x))) objs) :
    ACall Tryz.prog 97 [.d (.sl 2 (l.map encP)), .fn (.func F) [] caps] objs (.d (.int .i64 (idxP l p))) objs := by
  have w : Fz [] := trivial
  refine acall_of_run Et_ok (fnB Tryz.func97 []) rfl rfl ?_
  repeat' (first
    | refine zW ?_
    | refine zB ?_ ?_ <;> intro h <;> try exact zk h
    | fail)
  refine Run.loop (fun i : Nat => ⟨PT.ofList [(0, .d (.sl 2 (l.map encP))), (1, .fn (.func F) [] caps), (7, .d (.int .i64 l.length)), (8, .d (.int .i64 i))], objs, []⟩) (fun i => i ≤ l.length ∧ ∀ j, j < i → ∀ y, l[j]? = some y → p y = false) (fun i => l.length - i) 0 ⟨Nat.zero_le _, fun j hj => by omega⟩ (weak_of (by repeat' (first | exact trivial | refine ⟨rfl, ?_⟩ | refine ⟨Eq.trans (b := some (.d (.int .i64 (l.map _).length))) rfl (by rw [List.length_map]), ?_⟩ | fail))) (fun i hi => ?_)
  obtain ⟨hi1, hi2⟩ := hi
  rcases Nat.lt_or_ge i l.length with hlt | hge
  · obtain ⟨x, hx⟩ := get_ok hlt
    have hc := hp x (List.mem_of_getElem? hx)
    cases hpx : p x with
    | true =>
      rw [hpx] at hc
      repeat' (first
        | refine zW ?_
        | refine zB ?_ ?_ <;> intro h <;> try exact zk h
        | refine zIP w (.d (.ep [.int .i64 x.left, ints x.right])) hx ?_
        | refine RunOps.call (by rfl) (by rfl) hc (by rfl) (by rfl) ?_
        | fail)
      refine Run.ret ?_
      refine ⟨trivial, rfl, ?_⟩
      rw [idxP_at hx hpx hi2]; rfl
    | false =>
      rw [hpx] at hc
      repeat' (first
        | refine zW ?_
        | refine zB ?_ ?_ <;> intro h <;> try exact zk h
        | refine zIP w (.d (.ep [.int .i64 x.left, ints x.right])) hx ?_
        | refine RunOps.call (by rfl) (by rfl) hc (by rfl) (by rfl) ?_
        | (exact ⟨i + 1, ⟨by omega, all_succ hi2 (fun q hq => by rw [hx] at hq; cases hq; exact hpx)⟩, by omega, weak_of (by repeat' (first | exact trivial | refine ⟨rfl, ?_⟩ | refine ⟨(inc_get (k := i) (by kernel_rfl) (by omega)), ?_⟩))⟩)
        | fail)
  · have hge : i = l.length := by omega
    repeat' (first
      | refine zW ?_
      | refine zB ?_ ?_ <;> intro h <;> try exact zk h
      | fail)
    refine Run.ret ?_
    refine ⟨trivial, rfl, ?_⟩
    rw [idxP_none (fun j hj => hi2 j (by omega))]; rfl
theorem containsFuncA (l : List GProd) (hl : l.length ≤ 1099511627776) (F : FuncId) (caps : List AV) (objs : List Ob) (p : GProd → Bool) (hp : ∀ x ∈ l, ACall Tryz.prog F (.d (encP x) :: caps) objs (.d (.bool (p x))) objs) :
    ACall Tryz.prog 73 [.d (.sl 2 (l.map encP)), .fn (.func F) [] caps] objs (.d (.bool (l.any p))) objs := by
  have w : Fz [] := trivial
  refine acall_of_run Et_ok (fnB Tryz.func73 []) rfl rfl ?_
  repeat refine zA ?_
  refine RunOps.call (by rfl) (by rfl) (indexFuncA l hl F caps objs p hp) (by rfl) (by rfl) ?_
  repeat refine zA ?_
  refine Run.ret ?_
  refine ⟨trivial, rfl, Eq.trans (b := some (.d (.bool (decide (idxP l p ≥ 0))))) (by kernel_rfl) ?_⟩
  rw [show decide (idxP l p ≥ 0) = l.any p from idxP_any l p]
theorem complete1 (p : GProd) (i : Nat) (hi : i ≤ 1048576) : ACall Tryz.prog 74 [.d (encP p), .bp 0 0] [.box [.d (.int .i64 i)]] (.d (.bool (decide (p.left = 16 + (i : Int))))) [.box [.d (.int .i64 i)]] := by
  have w : Fz [2] := trivial
  have hw : IntKind.i64.wrap (16 + (i : Int)) = 16 + i := wrap64 (by omega) (by omega)
  refine acall_of_run Et_ok (fnB Tryz.func74 [2]) rfl rfl ?_
  repeat refine zA ?_
  refine Run.ret ?_
  refine ⟨trivial, rfl, Eq.trans (b := some (.d (.bool (p.left == IntKind.i64.wrap (16 + (i : Int)))))) (by kernel_rfl) ?_⟩
  rw [hw]
  congr 3
open Classical in
def completeF (g : Gram) : Int := if missing g then 7 else 0
theorem complete (g : Gram) (hf : Fits g) : KnownCall Tryz.prog 48 [encG g] (.d (.int .i64 (completeF g))) := by
  have hfp := hf.prods
  have hfn := hf.names
  refine kF Tryz.func48 [1] fun w => ?_
  repeat' (first
    | refine zW ?_
    | refine zB ?_ ?_ <;> intro h <;> try exact zk h
    | fail)
  refine Run.loopT (fun i : Nat => ⟨PT.ofList [(1, (.d (.ep [.int .i64 g.k, strs g.tokens, .str g.sep, strs g.names, .int .i64 g.start, .sl 2 (g.prods.map encP)]))), (6, .d (.int .i64 (g.names.map DV.str).length)), (7, .d (.int .i64 i))], [], []⟩) (fun i => i ≤ g.names.length ∧ ∀ j : Nat, j < i → prodsF g (16 + j) ≠ []) (fun i => g.names.length - i) 0 ⟨Nat.zero_le _, fun j hj => by omega⟩ (ti _ 0) (fun i hi => ?_)
  obtain ⟨hi1, hi2⟩ := hi
  rcases Nat.lt_or_ge i g.names.length with hlt | hge
  · have hc := containsFuncA g.prods (by omega) 74 [.bp 0 0] [.box [.d (.int .i64 i)]] (fun p => decide (p.left = 16 + (i : Int))) (fun x _ => complete1 x i (by omega))
    cases hpx : g.prods.any (fun p => decide (p.left = 16 + (i : Int))) with
    | true =>
      rw [hpx] at hc
      repeat' (first
        | refine zW ?_
        | refine zB ?_ ?_ <;> intro h <;> try exact zk h
        | refine RunOps.call (by rfl) (by rfl) hc (by rfl) (by rfl) ?_
        | (exact ⟨i + 1, ⟨by omega, all_succ hi2 (fun e => by rw [prodsF_nil, hpx] at e; cases e)⟩, by omega, (ti _ 0)⟩)
        | fail)
    | false =>
      rw [hpx] at hc
      have hm : missing g := ⟨i, hlt, by rw [prodsF_nil]; exact hpx⟩
      repeat' (first
        | refine zW ?_
        | refine zB ?_ ?_ <;> intro h <;> try exact zk h
        | refine RunOps.call (by rfl) (by rfl) hc (by rfl) (by rfl) ?_
        | (show _ = _; rw [completeF, if_pos hm])
        | fail)
  · have hm : ¬ missing g := fun ⟨j, h1, h2⟩ => hi2 j (by omega) h2
    repeat' (first
      | refine zW ?_
      | refine zB ?_ ?_ <;> intro h <;> try exact zk h
      | (show _ = _; rw [completeF, if_neg hm])
      | fail)
abbrev cellG (g : Gram) : DV := .ep [.int .i64 g.k, strs g.tokens, .str g.sep, strs g.names, .int .i64 g.start, .sl 2 (g.prods.map encP)]
theorem symbols1 (g : Gram) (s : Int) (hf : Fits g) : KnownCall Tryz.prog 71 [.int .i64 s, cellG g] (.d (.bool (!goodS g s))) := by
  refine kF Tryz.func71 [] fun w => ?_
  repeat' (first
    | refine zW ?_
    | refine zB ?_ ?_ <;> intro h <;> try exact zk h
    | refine zK (terminal g _) ?_ ?_ <;> intro h <;> try exact zk h
    | refine zC (terminal g _) ?_
    | refine zK (nonterminal g _ hf) ?_ ?_ <;> intro h <;> try exact zk h
    | refine zC (nonterminal g _ hf) ?_
    | (show _ = _; first | (simp_all [goodS] <;> fail) | (simp_all [goodS]; omega))
    | fail)
open Classical in
def badP (g : Gram) (p : GProd) : Bool := !isNonterm g p.left || p.right.any (fun s => !goodS g s)
theorem badP_iff (g : Gram) (p : GProd) : badP g p = false ↔ goodP g p := by
  simp only [badP, goodP, Bool.or_eq_false_iff, Bool.not_eq_false', List.any_eq_false]
  refine and_congr Iff.rfl (forall_congr' fun s => forall_congr' fun _ => ?_)
  simp
open Classical in
def symsG (g : Gram) : Int := if symbolsOK g then 0 else 14
theorem symbols (g : Gram) (hf : Fits g) : KnownCall Tryz.prog 46 [encG g] (.d (.int .i64 (symsG g))) := by
  have hfp := hf.prods
  cases hst : isNonterm g g.start with
  | false =>
    have e : symsG g = 14 := by unfold symsG; rw [if_neg]; exact fun h => by rw [h.1] at hst; cases hst
    rw [e]
    have hc := nonterminal g g.start hf
    rw [hst] at hc
    refine kF Tryz.func46 [1] fun w => ?_
    repeat' (first
      | refine zW ?_
      | refine zB ?_ ?_ <;> intro h <;> try exact zk h
      | refine zK (hc) ?_ ?_ <;> intro h <;> try exact zk h
      | refine zC (hc) ?_
      | rfl
      | fail)
  | true =>
    have hc := nonterminal g g.start hf
    rw [hst] at hc
    refine kF Tryz.func46 [1] fun w => ?_
    repeat' (first
      | refine zW ?_
      | refine zB ?_ ?_ <;> intro h <;> try exact zk h
      | refine zC (hc) ?_
      | refine zK (prodsOf g) ?_ ?_ <;> intro h <;> try exact zk h
      | refine zC (prodsOf g) ?_
      | rfl
      | fail)
    obtain ⟨n, hn⟩ : ∃ n, n = g.prods.findIdx (fun p => badP g p) := ⟨_, rfl⟩
    have hidx : n ≤ g.prods.length := by rw [hn]; exact List.findIdx_le_length
    have hcase : n < g.prods.length ∨ n = g.prods.length := by omega
    refine Run.rangeProds (frz := [1]) 1 (fun _ => [.box [.d (.int .i64 0)]]) g.prods (Nat.le_trans hf.prods (by decide)) (by rfl) (fun _ => rfl) (fun _ => rfl) (by kernel_rfl) n hidx (fun k p hk hp => ?_) ?_
    · have hgood : badP g p = false := by
        rw [hn] at hk
        have := List.not_of_lt_findIdx hk
        have e : g.prods[k] = p := by rw [List.getElem?_eq_some_iff] at hp; exact hp.2
        simpa [e] using this
      have hpr := hf.rights p (List.mem_of_getElem? hp)
      have hg := (badP_iff g p).1 hgood
      have hnt := nonterminal g p.left hf
      rw [hg.1] at hnt
      have hcf := containsFuncInts p.right (by omega) 71 [cellG g] (fun s => !goodS g s) (fun s _ => symbols1 g s hf)
      rw [show p.right.any (fun s => !goodS g s) = false from by simp only [badP, Bool.or_eq_false_iff] at hgood; exact hgood.2] at hcf
      refine ayield_of_run (i := 2) (by rfl) (by rfl) (by rfl) ?_
      repeat refine zA ?_
      refine ⟨rfl, _, _, _, _, _, _, _, by rfl, ?_⟩
      refine Run.less ?_
      repeat' (first
        | refine zW ?_
        | refine zB ?_ ?_ <;> intro h <;> try exact zk h
        | refine zC (hnt) ?_
        | refine zC (hcf) ?_
        | (exact ⟨rfl, _, less_of [] 3 rfl (by rfl) trivial trivial (by kernel_rfl) rfl, _, _, _, _, _, _, _, _, by rfl, rfl, by rfl⟩)
        | fail)
    · rcases hcase with hlt | hge
      · obtain ⟨p, hp⟩ := get_ok hlt
        have hbad : badP g p = true := by
          rw [hn] at hp hlt
          have := List.findIdx_getElem (p := fun p : GProd => badP g p) (xs := g.prods) (w := hlt)
          have e : g.prods[g.prods.findIdx fun p => badP g p] = p := by rw [List.getElem?_eq_some_iff] at hp; exact hp.2
          rw [e] at this
          simpa using this
        have hpr := hf.rights p (List.mem_of_getElem? hp)
        have e : symsG g = 14 := by
          unfold symsG
          rw [if_neg]
          intro h
          have := (badP_iff g p).2 (h.2 p (List.mem_of_getElem? hp))
          rw [hbad] at this; cases this
        rw [e]
        have hcf := containsFuncInts p.right (by omega) 71 [cellG g] (fun s => !goodS g s) (fun s _ => symbols1 g s hf)
        refine .inr ⟨p, [.box [.d (.int .i64 14)]], hp, rfl, .inl ⟨?_, ?_⟩⟩
        · cases hl : isNonterm g p.left with
          | false =>
            have hnt := nonterminal g p.left hf
            rw [hl] at hnt
            refine ayield_of_run (i := 2) (by rfl) (by rfl) (by rfl) ?_
            repeat refine zA ?_
            refine ⟨rfl, _, _, _, _, _, _, _, by rfl, ?_⟩
            refine Run.less ?_
            repeat' (first
              | refine zW ?_
              | refine zB ?_ ?_ <;> intro h <;> try exact zk h
              | refine zC (hnt) ?_
              | ((refine Run.ret ?_; exact ⟨rfl, _, less_of [] 3 rfl (by rfl) trivial trivial (by kernel_rfl) rfl, _, _, _, _, _, _, _, _, by rfl, rfl, by rfl⟩))
              | fail)
          | true =>
            have hnt := nonterminal g p.left hf
            rw [hl] at hnt
            rw [show p.right.any (fun s => !goodS g s) = true from by simpa [badP, hl] using hbad] at hcf
            refine ayield_of_run (i := 2) (by rfl) (by rfl) (by rfl) ?_
            repeat refine zA ?_
            refine ⟨rfl, _, _, _, _, _, _, _, by rfl, ?_⟩
            refine Run.less ?_
            repeat' (first
              | refine zW ?_
              | refine zB ?_ ?_ <;> intro h <;> try exact zk h
              | refine zC (hnt) ?_
              | refine zC (hcf) ?_
              | ((refine Run.ret ?_; exact ⟨rfl, _, less_of [] 3 rfl (by rfl) trivial trivial (by kernel_rfl) rfl, _, _, _, _, _, _, _, _, by rfl, rfl, by rfl⟩))
              | fail)
        · refine ⟨trivial, _, _, by rfl, by rfl, Eq.trans (b := some (.d (.int .i64 14))) (by kernel_rfl) ?_⟩
          rfl
      · have e : symsG g = 0 := by
          unfold symsG
          rw [if_pos]
          refine ⟨hst, fun p hp => (badP_iff g p).1 ?_⟩
          cases hb : badP g p with
          | false => rfl
          | true =>
            have := List.findIdx_lt_length_of_exists (xs := g.prods) (p := fun p => badP g p) ⟨p, hp, hb⟩
            omega
        rw [e]
        refine .inl ⟨hge, ?_⟩
        repeat' (first
          | refine zW ?_
          | refine zB ?_ ?_ <;> intro h <;> try exact zk h
          | rfl
          | fail)
theorem first_or (P : Nat → Bool) : ∀ N : Nat, ∃ n, n ≤ N ∧ (∀ k, k < n → P k = false) ∧ (n = N ∨ (n < N ∧ P n = true))
  | 0 => ⟨0, Nat.le_refl _, fun k hk => by omega, .inl rfl⟩
  | N + 1 => by
    obtain ⟨n, h1, h2, h3⟩ := first_or P N
    rcases h3 with rfl | ⟨h3, h4⟩
    · cases hp : P n with
      | true => exact ⟨n, by omega, h2, .inr ⟨by omega, hp⟩⟩
      | false => exact ⟨n + 1, by omega, all_succ h2 hp, .inl rfl⟩
    · exact ⟨n, by omega, h2, .inr ⟨by omega, h4⟩⟩
open Classical in
def ordBad (g : Gram) (k : Nat) : Bool := decide (0 < k ∧ ∃ p q, g.prods[k - 1]? = some p ∧ g.prods[k]? = some q ∧ q.left < p.left)
open Classical in
theorem ordBad_iff (g : Gram) (k : Nat) : ordBad g k = true ↔ (0 < k ∧ ∃ p q, g.prods[k - 1]? = some p ∧ g.prods[k]? = some q ∧ q.left < p.left) := by unfold ordBad; exact decide_eq_true_iff
open Classical in
def orderedG (g : Gram) : Int := if orderBad g then 9 else 0
theorem ordered (g : Gram) (hf : Fits g) : KnownCall Tryz.prog 47 [encG g] (.d (.int .i64 (orderedG g))) := by
  have hfp := hf.prods
  refine kF Tryz.func47 [1] fun w => ?_
  repeat' (first
    | refine zW ?_
    | refine zB ?_ ?_ <;> intro h <;> try exact zk h
    | refine zK (prodsOf g) ?_ ?_ <;> intro h <;> try exact zk h
    | refine zC (prodsOf g) ?_
    | fail)
  obtain ⟨n, hidx, hbefore, hcase⟩ := first_or (ordBad g) g.prods.length
  refine Run.rangeProds (frz := [1]) 1 (fun _ => [.box [.d (.int .i64 0)]]) g.prods (Nat.le_trans hf.prods (by decide)) (by rfl) (fun _ => rfl) (fun _ => rfl) (by kernel_rfl) n hidx (fun k p hk hp => ?_) ?_
  · have hgood := hbefore k hk
    have hkl := (List.getElem?_eq_some_iff.1 hp).1
    rcases k with _ | k
    · refine ayield_of_run (i := 2) (by rfl) (by rfl) (by rfl) ?_
      repeat refine zA ?_
      refine ⟨rfl, _, _, _, _, _, _, _, by rfl, ?_⟩
      refine Run.less ?_
      repeat' (first
        | refine zW ?_
        | refine zB ?_ ?_ <;> intro h <;> try exact zk h
        | (exact ⟨rfl, _, less_of [] 3 rfl (by rfl) trivial trivial (by kernel_rfl) rfl, _, _, _, _, _, _, _, _, by rfl, rfl, by rfl⟩)
        | fail)
    · obtain ⟨q, hq⟩ := get_ok (show k < g.prods.length by omega)
      have hno : ¬ p.left < q.left := fun h => by
        have : ordBad g (k + 1) = true := (ordBad_iff _ _).2 ⟨Nat.succ_pos _, q, p, hq, hp, h⟩
        rw [this] at hgood; cases hgood
      have hw : IntKind.i64.wrap (((k + 1 : Nat) : Int) - 1) = (k : Nat) := by rw [wrap64 (by omega) (by omega)]; omega
      refine ayield_of_run (i := 2) (by rfl) (by rfl) (by rfl) ?_
      repeat refine zA ?_
      refine ⟨rfl, _, _, _, _, _, _, _, by rfl, ?_⟩
      refine Run.less ?_
      repeat' (first
        | refine oV (v := .d (.int .i64 (k : Nat))) ?_ (he := (congrArg (fun n => AV.d (.int .i64 n)) hw))
        | refine eX (v := .d (.int .i64 (k : Nat))) ?_ (he := (congrArg (fun n => AV.d (.int .i64 n)) hw))
        | refine zW ?_
        | refine zB ?_ ?_ <;> intro h <;> try exact zk h
        | refine zIP w (.d (.ep [.int .i64 q.left, ints q.right])) hq ?_
        | (exact ⟨rfl, _, less_of [] 3 rfl (by rfl) trivial trivial (by kernel_rfl) rfl, _, _, _, _, _, _, _, _, by rfl, rfl, by rfl⟩)
        | ((exfalso; first | (simp_all <;> fail) | (simp_all; omega)))
        | fail)
  · rcases hcase with hge | ⟨hlt, hbad⟩
    · have e : orderedG g = 0 := by
        unfold orderedG
        rw [if_neg]
        rintro ⟨i, p, q, h1, h2, h3⟩
        have hi := (List.getElem?_eq_some_iff.1 h2).1
        have := hbefore (i + 1) (by omega)
        rw [show ordBad g (i + 1) = true from (ordBad_iff _ _).2 ⟨Nat.succ_pos _, p, q, h1, h2, h3⟩] at this
        cases this
      rw [e]
      refine .inl ⟨hge, ?_⟩
      repeat' (first
        | refine zW ?_
        | refine zB ?_ ?_ <;> intro h <;> try exact zk h
        | rfl
        | fail)
    · have hb := (ordBad_iff _ _).1 hbad
      obtain ⟨hn0, q, p, hq, hp, hlt2⟩ := hb
      rcases n with _ | k
      · omega
      · have hq : g.prods[k]? = some q := hq
        have e : orderedG g = 9 := by unfold orderedG; rw [if_pos ⟨k, q, p, hq, hp, hlt2⟩]
        rw [e]
        have hkl := (List.getElem?_eq_some_iff.1 hp).1
        have hw : IntKind.i64.wrap (((k + 1 : Nat) : Int) - 1) = (k : Nat) := by rw [wrap64 (by omega) (by omega)]; omega
        refine .inr ⟨p, [.box [.d (.int .i64 9)]], hp, rfl, .inl ⟨?_, ?_⟩⟩
        · refine ayield_of_run (i := 2) (by rfl) (by rfl) (by rfl) ?_
          repeat refine zA ?_
          refine ⟨rfl, _, _, _, _, _, _, _, by rfl, ?_⟩
          refine Run.less ?_
          repeat' (first
            | refine oV (v := .d (.int .i64 (k : Nat))) ?_ (he := (congrArg (fun n => AV.d (.int .i64 n)) hw))
            | refine eX (v := .d (.int .i64 (k : Nat))) ?_ (he := (congrArg (fun n => AV.d (.int .i64 n)) hw))
            | refine zW ?_
            | refine zB ?_ ?_ <;> intro h <;> try exact zk h
            | refine zIP w (.d (.ep [.int .i64 q.left, ints q.right])) hq ?_
            | ((refine Run.ret ?_; exact ⟨rfl, _, less_of [] 3 rfl (by rfl) trivial trivial (by kernel_rfl) rfl, _, _, _, _, _, _, _, _, by rfl, rfl, by rfl⟩))
            | ((exfalso; first | (simp_all <;> fail) | (simp_all; omega)))
            | fail)
        · refine ⟨trivial, _, _, by rfl, by rfl, Eq.trans (b := some (.d (.int .i64 9))) (by kernel_rfl) ?_⟩
          rfl
def checks (g : Gram) : List Int := [manyF g, namedG g, diffF g, symsG g, orderedG g, completeF g]
def firstErr : List Int → Int
  | [] => 0
  | e :: r => if e = 0 then firstErr r else e
def checkG (g : Gram) : Int := if g.k < 1 ∨ 4 < g.k then 2 else firstErr (checks g)
theorem firstErr_at : ∀ {l : List Int} {i : Nat} {e : Int}, l[i]? = some e → e ≠ 0 → (∀ j, j < i → l[j]? = some 0) → firstErr l = e
  | [], i, e, h, _, _ => by simp at h
  | a :: r, 0, e, h, he, _ => by simp at h; subst h; simp [firstErr, he]
  | a :: r, i + 1, e, h, he, hb => by
    have ha : a = 0 := by have := hb 0 (by omega); simpa using this
    subst ha
    simp only [firstErr, if_true]
    exact firstErr_at (i := i) (by simpa using h) he (fun j hj => by have := hb (j + 1) (by omega); simpa using this)
theorem firstErr_none : ∀ {l : List Int}, (∀ j, j < l.length → l[j]? = some 0) → firstErr l = 0
  | [], _ => rfl
  | a :: r, hb => by
    have ha : a = 0 := by have := hb 0 (by simp); simpa using this
    subst ha
    simp only [firstErr, if_true]
    exact firstErr_none (fun j hj => by have := hb (j + 1) (by simpa using hj); simpa using this)
abbrev looksD : List DV := [.fn (.func 43) [] [], .fn (.func 44) [] [], .fn (.func 45) [] [], .fn (.func 46) [] [], .fn (.func 47) [] [], .fn (.func 48) [] []]
theorem checkGr (g : Gram) (hf : Fits g) : KnownCall Tryz.prog 26 [encG g] (.d (.int .i64 (checkG g))) := by
  by_cases hk : g.k < 1 ∨ 4 < g.k
  · have e : checkG g = 2 := if_pos hk
    rw [e]
    refine kF Tryz.func26 [1, 13, 200001] fun w => ?_
    refine Run.seq ?_
    repeat' (first
      | refine zW ?_
      | refine zB ?_ ?_ <;> intro h <;> try exact zk h
      | refine zX ?_
      | fail)
    refine Run.scope ?_
    repeat' (first
      | refine zW ?_
      | refine zB ?_ ?_ <;> intro h <;> try exact zk h
      | refine zX ?_
      | rfl
      | ((exfalso; first | (simp_all <;> fail) | (simp_all; omega)))
      | fail)
  · have e : checkG g = firstErr (checks g) := if_neg hk
    rw [e]
    rw [not_or] at hk
    refine kF Tryz.func26 [1, 13, 200001] fun w => ?_
    repeat' (first
      | refine zW ?_
      | refine zB ?_ ?_ <;> intro h <;> try exact zk h
      | refine zX ?_
      | fail)
    refine Run.scope ?_
    repeat' (first
      | refine zW ?_
      | refine zB ?_ ?_ <;> intro h <;> try exact zk h
      | refine zX ?_
      | refine Run.label ?_
      | ((exfalso; first | (simp_all <;> fail) | (simp_all; omega)))
      | fail)
    refine Run.loop (fun i : Nat => ⟨PT.ofList [(1, (.d (.ep [.int .i64 g.k, strs g.tokens, .str g.sep, strs g.names, .int .i64 g.start, .sl 2 (g.prods.map encP)]))), (2, .d (.int .i64 0)), (13, .d (.sl 1 looksD)), (14, .d (.int .i64 6)), (15, .d (.int .i64 i))], [], []⟩) (fun i => i ≤ 6 ∧ ∀ j, j < i → (checks g)[j]? = some 0) (fun i => 6 - i) 0 ⟨Nat.zero_le _, fun j hj => by omega⟩ (weak_of (by repeat' (first | exact trivial | refine ⟨rfl, ?_⟩))) (fun i hi => ?_)
    obtain ⟨hi1, hi2⟩ := hi
    have hcs : i = 0 ∨ i = 1 ∨ i = 2 ∨ i = 3 ∨ i = 4 ∨ i = 5 ∨ i = 6 := by omega
    rcases hcs with h | h | h | h | h | h | h <;> subst h
    · have hc := many g hf
      by_cases he : manyF g = 0
      · have hnext : (checks g)[0]? = some 0 := by rw [← he]; rfl
        rw [he] at hc
        repeat' (first
          | refine zW ?_
          | refine zB ?_ ?_ <;> intro h <;> try exact zk h
          | refine zX ?_
          | refine zC (hc) ?_
          | (exact ⟨1, ⟨by omega, all_succ hi2 hnext⟩, by omega, weak_of (by repeat' (first | exact trivial | refine ⟨rfl, ?_⟩))⟩)
          | fail)
      · repeat' (first
          | refine zW ?_
          | refine zB ?_ ?_ <;> intro h <;> try exact zk h
          | refine zX ?_
          | refine zC (hc) ?_
          | (show _ = _; rw [firstErr_at (i := 0) (show (checks g)[0]? = some (manyF g) from rfl) he hi2])
          | ((exfalso; (simp_all <;> fail)))
          | fail)
    · have hc := named g hf
      by_cases he : namedG g = 0
      · have hnext : (checks g)[1]? = some 0 := by rw [← he]; rfl
        rw [he] at hc
        repeat' (first
          | refine zW ?_
          | refine zB ?_ ?_ <;> intro h <;> try exact zk h
          | refine zX ?_
          | refine zC (hc) ?_
          | (exact ⟨2, ⟨by omega, all_succ hi2 hnext⟩, by omega, weak_of (by repeat' (first | exact trivial | refine ⟨rfl, ?_⟩))⟩)
          | fail)
      · repeat' (first
          | refine zW ?_
          | refine zB ?_ ?_ <;> intro h <;> try exact zk h
          | refine zX ?_
          | refine zC (hc) ?_
          | (show _ = _; rw [firstErr_at (i := 1) (show (checks g)[1]? = some (namedG g) from rfl) he hi2])
          | ((exfalso; (simp_all <;> fail)))
          | fail)
    · have hc := different g hf
      by_cases he : diffF g = 0
      · have hnext : (checks g)[2]? = some 0 := by rw [← he]; rfl
        rw [he] at hc
        repeat' (first
          | refine zW ?_
          | refine zB ?_ ?_ <;> intro h <;> try exact zk h
          | refine zX ?_
          | refine zC (hc) ?_
          | (exact ⟨3, ⟨by omega, all_succ hi2 hnext⟩, by omega, weak_of (by repeat' (first | exact trivial | refine ⟨rfl, ?_⟩))⟩)
          | fail)
      · repeat' (first
          | refine zW ?_
          | refine zB ?_ ?_ <;> intro h <;> try exact zk h
          | refine zX ?_
          | refine zC (hc) ?_
          | (show _ = _; rw [firstErr_at (i := 2) (show (checks g)[2]? = some (diffF g) from rfl) he hi2])
          | ((exfalso; (simp_all <;> fail)))
          | fail)
    · have hc := symbols g hf
      by_cases he : symsG g = 0
      · have hnext : (checks g)[3]? = some 0 := by rw [← he]; rfl
        rw [he] at hc
        repeat' (first
          | refine zW ?_
          | refine zB ?_ ?_ <;> intro h <;> try exact zk h
          | refine zX ?_
          | refine zC (hc) ?_
          | (exact ⟨4, ⟨by omega, all_succ hi2 hnext⟩, by omega, weak_of (by repeat' (first | exact trivial | refine ⟨rfl, ?_⟩))⟩)
          | fail)
      · repeat' (first
          | refine zW ?_
          | refine zB ?_ ?_ <;> intro h <;> try exact zk h
          | refine zX ?_
          | refine zC (hc) ?_
          | (show _ = _; rw [firstErr_at (i := 3) (show (checks g)[3]? = some (symsG g) from rfl) he hi2])
          | ((exfalso; (simp_all <;> fail)))
          | fail)
    · have hc := ordered g hf
      by_cases he : orderedG g = 0
      · have hnext : (checks g)[4]? = some 0 := by rw [← he]; rfl
        rw [he] at hc
        repeat' (first
          | refine zW ?_
          | refine zB ?_ ?_ <;> intro h <;> try exact zk h
          | refine zX ?_
          | refine zC (hc) ?_
          | (exact ⟨5, ⟨by omega, all_succ hi2 hnext⟩, by omega, weak_of (by repeat' (first | exact trivial | refine ⟨rfl, ?_⟩))⟩)
          | fail)
      · repeat' (first
          | refine zW ?_
          | refine zB ?_ ?_ <;> intro h <;> try exact zk h
          | refine zX ?_
          | refine zC (hc) ?_
          | (show _ = _; rw [firstErr_at (i := 4) (show (checks g)[4]? = some (orderedG g) from rfl) he hi2])
          | ((exfalso; (simp_all <;> fail)))
          | fail)
    · have hc := complete g hf
      by_cases he : completeF g = 0
      · have hnext : (checks g)[5]? = some 0 := by rw [← he]; rfl
        rw [he] at hc
        repeat' (first
          | refine zW ?_
          | refine zB ?_ ?_ <;> intro h <;> try exact zk h
          | refine zX ?_
          | refine zC (hc) ?_
          | (exact ⟨6, ⟨by omega, all_succ hi2 hnext⟩, by omega, weak_of (by repeat' (first | exact trivial | refine ⟨rfl, ?_⟩))⟩)
          | fail)
      · repeat' (first
          | refine zW ?_
          | refine zB ?_ ?_ <;> intro h <;> try exact zk h
          | refine zX ?_
          | refine zC (hc) ?_
          | (show _ = _; rw [firstErr_at (i := 5) (show (checks g)[5]? = some (completeF g) from rfl) he hi2])
          | ((exfalso; (simp_all <;> fail)))
          | fail)
    · repeat' (first
        | refine zW ?_
        | refine zB ?_ ?_ <;> intro h <;> try exact zk h
        | refine zX ?_
        | (show _ = _; rw [firstErr_none (l := checks g) hi2])
        | fail)
theorem named_zero {g : Gram} (h : namedF g = 0) : (∀ s ∈ smalls g, smallF s = true) ∧ ∀ s ∈ g.names, capitalF s = true := by
  unfold namedF at h
  split at h
  · omega
  · rename_i hn
    simp only [not_or, not_exists, not_and, Bool.not_eq_false] at hn
    exact hn
theorem small_capital {s : List Nat} (h1 : smallF s = true) (h2 : capitalF s = true) : False := by
  simp only [smallF, capitalF, Bool.and_eq_true, decide_eq_true_eq] at h1 h2
  omega
theorem allN_nodup {g : Gram} (h : namedF g = 0) : (allN g).Nodup ↔ (smalls g).Nodup ∧ g.names.Nodup := by
  obtain ⟨h1, h2⟩ := named_zero h
  rw [allN, List.nodup_append]
  refine ⟨fun h => ⟨h.1, h.2.1⟩, fun h => ⟨h.1, h.2, fun a ha b hb e => small_capital (h1 a ha) (e ▸ h2 b hb)⟩⟩
theorem checkG_eq (g : Gram) : checkG g = checkF g := by
  unfold checkG checkF
  split
  · rfl
  · simp only [checks, firstErr]
    by_cases h1 : manyF g = 0
    · simp only [h1, ne_eq, not_true_eq_false, if_false, if_true]
      by_cases h2 : g.tokens = [] ∨ g.names = []
      · have : namedG g = 5 := if_pos h2
        simp [this, h2]
      · have : namedG g = namedF g := if_neg h2
        simp only [this, if_neg h2]
        by_cases h3 : namedF g = 0
        · simp only [h3, if_true]
          by_cases h4 : (allN g).Nodup
          · have h5 := (allN_nodup h3).1 h4
            have h6 : diffF g = 0 := if_pos h4
            have h7 : namesF g = 0 := by unfold namesF; rw [if_neg (by simp [h5.1, h5.2]), h3]
            simp only [h6, h7, ne_eq, not_true_eq_false, if_false, if_true]
            unfold symsG orderedG completeF symbolsF
            by_cases a : symbolsOK g <;> by_cases b : orderBad g <;> by_cases c : missing g <;> simp [a, b, c]
          · have h6 : diffF g = 8 := if_neg h4
            have h7 : namesF g = 8 := by
              unfold namesF
              rw [if_pos]
              refine ⟨h3, ?_⟩
              by_cases h5 : (smalls g).Nodup
              · exact .inr fun h8 => h4 ((allN_nodup h3).2 ⟨h5, h8⟩)
              · exact .inl h5
            simp [h6, h7]
        · have h7 : namesF g = namedF g := by unfold namesF; rw [if_neg (by simp [h3])]
          simp [h3, h7]
    · simp [h1]
theorem grCheck (g : Gram) (hf : Fits g) : KnownCall Tryz.prog 26 [encG g] (.d (.int .i64 (checkF g))) := by rw [← checkG_eq]; exact checkGr g hf
theorem called (g : Gram) (s : Int) (x : List Nat) (hf : Fits g) (ht : g.tokens.length ≤ 8) (h : symName g s = some x) : KnownCall Tryz.prog 90 [encG g, .int .i64 s] (.d (.str x)) := by
  have hfn := hf.names
  by_cases hs : 16 ≤ s
  · rw [symName, if_pos hs] at h
    have hlt := (List.getElem?_eq_some_iff.1 h).1
    have hw : IntKind.i64.wrap (s - 16) = s - 16 := wrap64 (by omega) (by omega)
    have hx := h
    have hc := terminal g s
    rw [show isTerm g s = false from by simp [isTerm]; omega] at hc
    refine kF Tryz.func90 [2] fun w => ?_
    repeat' (first
      | refine zW ?_
      | refine zB ?_ ?_ <;> intro h <;> try exact zk h
      | refine zC (hc) ?_
      | refine zI w (.d (.ep [.str x])) (And.intro hx hw) ?_
      | rfl
      | fail)
  · rw [symName, if_neg hs] at h
    by_cases hs0 : 0 ≤ s
    · rw [if_pos hs0] at h
      have hlt := (List.getElem?_eq_some_iff.1 h).1
      have hx := h
      have hc := terminal g s
      rw [show isTerm g s = true from by simp [isTerm]; omega] at hc
      refine kF Tryz.func90 [2] fun w => ?_
      repeat' (first
        | refine zW ?_
        | refine zB ?_ ?_ <;> intro h <;> try exact zk h
        | refine zC (hc) ?_
        | refine zI w (.d (.ep [.str x])) hx ?_
        | rfl
        | fail)
    · rw [if_neg hs0] at h; cases h
section
set_option maxRecDepth 10000
end
def askNameF (g : Gram) (s : Int) : List Nat × Int := if checkF g ≠ 0 then ([], checkF g) else if goodS g s = true then (nameS g s, 0) else ([], 14)
theorem askName (g : Gram) (s : Int) (hf : Fits g) : KnownCall Tryz.prog 60 [encG g, .int .i64 s] (.tup [.d (.str (askNameF g s).1), .d (.int .i64 (askNameF g s).2)]) := by
  by_cases h0 : checkF g = 0
  · obtain ⟨hm, _⟩ := check_parts h0
    have ht := (many_zero hm).1
    cases hg : goodS g s with
    | true =>
      obtain ⟨x, hx⟩ := name_of_good ht hg
      have e : askNameF g s = (x, 0) := by simp [askNameF, h0, hg, nameS_of hx]
      rw [e]
      simp only [goodS, Bool.or_eq_true] at hg
      refine kF Tryz.func60 [2] fun w => ?_
      repeat' (first
        | refine zW ?_
        | refine zB ?_ ?_ <;> intro h <;> try exact zk h
        | refine zK (grCheck _ hf) ?_ ?_ <;> intro h <;> try exact zk h
        | refine zC (grCheck _ hf) ?_
        | refine zK (terminal _ _) ?_ ?_ <;> intro h <;> try exact zk h
        | refine zC (terminal _ _) ?_
        | refine zK (nonterminal _ _ hf) ?_ ?_ <;> intro h <;> try exact zk h
        | refine zC (nonterminal _ _ hf) ?_
        | refine zK (called _ s _ hf ht hx) ?_ ?_ <;> intro h <;> try exact zk h
        | refine zC (called _ s _ hf ht hx) ?_
        | rfl
        | (exfalso; (simp_all <;> fail))
        | fail)
    | false =>
      have e : askNameF g s = ([], 14) := by simp [askNameF, h0, hg]
      rw [e]
      simp only [goodS, Bool.or_eq_false_iff] at hg
      refine kF Tryz.func60 [2] fun w => ?_
      repeat' (first
        | refine zW ?_
        | refine zB ?_ ?_ <;> intro h <;> try exact zk h
        | refine zK (grCheck _ hf) ?_ ?_ <;> intro h <;> try exact zk h
        | refine zC (grCheck _ hf) ?_
        | refine zK (terminal _ _) ?_ ?_ <;> intro h <;> try exact zk h
        | refine zC (terminal _ _) ?_
        | refine zK (nonterminal _ _ hf) ?_ ?_ <;> intro h <;> try exact zk h
        | refine zC (nonterminal _ _ hf) ?_
        | rfl
        | (exfalso; (simp_all <;> fail))
        | fail)
  · have e : askNameF g s = ([], checkF g) := by simp [askNameF, h0]
    rw [e]
    refine kF Tryz.func60 [2] fun w => ?_
    repeat' (first
      | refine zW ?_
      | refine zB ?_ ?_ <;> intro h <;> try exact zk h
      | refine zK (grCheck _ hf) ?_ ?_ <;> intro h <;> try exact zk h
      | refine zC (grCheck _ hf) ?_
      | rfl
      | (exfalso; (simp_all <;> fail))
      | fail)
section
set_option maxRecDepth 10000
end
theorem short (l : List (List Nat)) (most : Nat) (hl : l.length ≤ 1048576) : KnownCall Tryz.prog 65 [strs l, .int .i64 most] (.d (.bool (l.all fun s => decide (s.length ≤ most)))) := by
  refine kF Tryz.func65 [] fun w => ?_
  repeat' (first
    | refine zW ?_
    | refine zB ?_ ?_ <;> intro h <;> try exact zk h
    | fail)
  refine Run.loop (fun i : Nat => ⟨PT.ofList [(0, .d (strs l)), (1, .d (.int .i64 most)), (5, .d (.int .i64 i))], [], []⟩) (fun i => i ≤ l.length ∧ (l.take i).all (fun s => decide (s.length ≤ most)) = true) (fun i => l.length - i) 0 ⟨Nat.zero_le _, rfl⟩ (weak_of (by repeat' (first | exact trivial | refine ⟨rfl, ?_⟩))) (fun i hi => ?_)
  rcases Nat.lt_or_ge i l.length with hlt | hge
  · obtain ⟨x, hx⟩ := get_ok hlt
    by_cases hxl : x.length ≤ most
    · have ht : (l.take (i + 1)).all (fun s => decide (s.length ≤ most)) = true := by rw [List.take_add_one, hx]; simp only [Option.toList_some, List.all_append, hi.2]; simp [hxl]
      repeat' (first
        | refine zW ?_
        | refine zB ?_ ?_ <;> intro h <;> try exact zk h
        | refine zI w (.d (.ep [.str x])) hx ?_
        | (exact ⟨i + 1, ⟨hlt, ht⟩, by omega, weak_of (by repeat' (first | exact trivial | refine ⟨rfl, ?_⟩ | refine ⟨(inc_get (k := i) (by kernel_rfl) (by omega)), ?_⟩))⟩)
        | ((exfalso; first | (simp_all <;> fail) | (simp_all; omega)))
        | fail)
    · have hf : (l.all fun s => decide (s.length ≤ most)) = false := by
        rw [List.all_eq_false]; exact ⟨x, List.mem_of_getElem? hx, by simpa using hxl⟩
      rw [hf]
      repeat' (first
        | refine zW ?_
        | refine zB ?_ ?_ <;> intro h <;> try exact zk h
        | refine zI w (.d (.ep [.str x])) hx ?_
        | rfl
        | ((exfalso; first | (simp_all <;> fail) | (simp_all; omega)))
        | fail)
  · have hie : i = l.length := by omega
    subst hie
    have ht := hi.2
    rw [List.take_length] at ht
    rw [ht]
    repeat' (first
      | refine zW ?_
      | refine zB ?_ ?_ <;> intro h <;> try exact zk h
      | rfl
      | ((exfalso; first | (simp_all <;> fail) | (simp_all; omega)))
      | fail)
def shortS (n : Nat) (l : List (List Nat)) : Bool := l.all fun s => decide (s.length ≤ n)
def lightF (g : Gram) : Bool := decide (g.tokens.length ≤ 10) && decide (g.names.length ≤ 10) && decide (g.prods.length ≤ 30) && decide (g.sep.length ≤ 40) && shortS 40 g.tokens && shortS 40 g.names && g.prods.all (fun p => decide (p.right.length ≤ 8))
theorem light_fits {g : Gram} (h : lightF g = true) : Fits g := by
  simp only [lightF, shortS, Bool.and_eq_true, decide_eq_true_eq, List.all_eq_true] at h
  obtain ⟨⟨⟨⟨⟨⟨h1, h2⟩, h3⟩, h4⟩, h5⟩, h6⟩, h7⟩ := h
  exact ⟨by omega, by omega, by omega, by omega, fun s hs => by have := h5 s hs; omega, fun s hs => by have := h6 s hs; omega, fun p hp => by have := h7 p hp; omega⟩
theorem light (g : Gram) : KnownCall Tryz.prog 41 [encG g] (.d (.bool (lightF g))) := by
  by_cases h0 : g.tokens.length ≤ 10 ∧ g.names.length ≤ 10 ∧ g.prods.length ≤ 30 ∧ g.sep.length ≤ 40
  · obtain ⟨h1, h2, h3, h4⟩ := h0
    have hs1 := short g.tokens 40 (by omega)
    have hs2 := short g.names 40 (by omega)
    by_cases hb : shortS 40 g.tokens = true ∧ shortS 40 g.names = true
    · rw [show lightF g = g.prods.all (fun p => decide (p.right.length ≤ 8)) from by simp [lightF, h1, h2, h3, h4, hb.1, hb.2]]
      have hb1 := hb.1
      have hb2 := hb.2
      simp only [shortS] at hb1 hb2
      rw [hb1] at hs1
      rw [hb2] at hs2
      refine kF Tryz.func41 [1] fun w => ?_
      repeat' (first
        | refine zW ?_
        | refine zB ?_ ?_ <;> intro h <;> try exact zk h
        | refine zC (hs1) ?_
        | refine zC (hs2) ?_
        | ((exfalso; first | (simp_all <;> fail) | (simp_all; omega)))
        | fail)
      refine Run.loop (fun i : Nat => ⟨PT.ofList [(1, (.d (.ep [.int .i64 g.k, strs g.tokens, .str g.sep, strs g.names, .int .i64 g.start, .sl 2 (g.prods.map encP)]))), (3, .d (.int .i64 i))], [], []⟩) (fun i => i ≤ g.prods.length ∧ (g.prods.take i).all (fun p => decide (p.right.length ≤ 8)) = true) (fun i => g.prods.length - i) 0 ⟨Nat.zero_le _, rfl⟩ (weak_of (by repeat' (first | exact trivial | refine ⟨rfl, ?_⟩))) (fun i hi => ?_)
      rcases Nat.lt_or_ge i g.prods.length with hlt | hge
      · obtain ⟨p, hp⟩ := get_ok hlt
        by_cases hpl : p.right.length ≤ 8
        · have ht : (g.prods.take (i + 1)).all (fun p => decide (p.right.length ≤ 8)) = true := by rw [List.take_add_one, hp]; simp only [Option.toList_some, List.all_append, hi.2]; simp [hpl]
          repeat' (first
            | refine zW ?_
            | refine zB ?_ ?_ <;> intro h <;> try exact zk h
            | refine zIP w (.d (.ep [.int .i64 p.left, ints p.right])) hp ?_
            | (exact ⟨i + 1, ⟨hlt, ht⟩, by omega, weak_of (by repeat' (first | exact trivial | refine ⟨rfl, ?_⟩ | refine ⟨(inc_get (k := i) (by kernel_rfl) (by omega)), ?_⟩))⟩)
            | ((exfalso; first | (simp_all <;> fail) | (simp_all; omega)))
            | fail)
        · have hf : (g.prods.all fun p => decide (p.right.length ≤ 8)) = false := by
            rw [List.all_eq_false]; exact ⟨p, List.mem_of_getElem? hp, by simpa using hpl⟩
          rw [hf]
          repeat' (first
            | refine zW ?_
            | refine zB ?_ ?_ <;> intro h <;> try exact zk h
            | refine zIP w (.d (.ep [.int .i64 p.left, ints p.right])) hp ?_
            | rfl
            | ((exfalso; first | (simp_all <;> fail) | (simp_all; omega)))
            | fail)
      · have hie : i = g.prods.length := by omega
        subst hie
        have ht := hi.2
        rw [List.take_length] at ht
        rw [ht]
        repeat' (first
          | refine zW ?_
          | refine zB ?_ ?_ <;> intro h <;> try exact zk h
          | rfl
          | ((exfalso; first | (simp_all <;> fail) | (simp_all; omega)))
          | fail)
    · have hf : lightF g = false := by
        have : (shortS 40 g.tokens && shortS 40 g.names) = false := by cases ha : shortS 40 g.tokens <;> cases hc : shortS 40 g.names <;> simp_all
        simp only [lightF, Bool.and_assoc]
        cases ha : shortS 40 g.tokens <;> cases hc : shortS 40 g.names <;> simp_all
      rw [hf]
      rw [show (g.tokens.all fun s => decide (s.length ≤ 40)) = shortS 40 g.tokens from rfl] at hs1
      rw [show (g.names.all fun s => decide (s.length ≤ 40)) = shortS 40 g.names from rfl] at hs2
      generalize shortS 40 g.tokens = u at hb hs1
      generalize shortS 40 g.names = v at hb hs2
      cases u <;> cases v
      · refine kF Tryz.func41 [1] fun w => ?_
        repeat' (first
          | refine zW ?_
          | refine zB ?_ ?_ <;> intro h <;> try exact zk h
          | refine zC (hs1) ?_
          | refine zC (hs2) ?_
          | rfl
          | ((exfalso; first | (simp_all <;> fail) | (simp_all; omega)))
          | fail)
      · refine kF Tryz.func41 [1] fun w => ?_
        repeat' (first
          | refine zW ?_
          | refine zB ?_ ?_ <;> intro h <;> try exact zk h
          | refine zC (hs1) ?_
          | refine zC (hs2) ?_
          | rfl
          | ((exfalso; first | (simp_all <;> fail) | (simp_all; omega)))
          | fail)
      · refine kF Tryz.func41 [1] fun w => ?_
        repeat' (first
          | refine zW ?_
          | refine zB ?_ ?_ <;> intro h <;> try exact zk h
          | refine zC (hs1) ?_
          | refine zC (hs2) ?_
          | rfl
          | ((exfalso; first | (simp_all <;> fail) | (simp_all; omega)))
          | fail)
      · exact absurd ⟨rfl, rfl⟩ hb
  · have hf : lightF g = false := by
      cases hl : lightF g with
      | false => rfl
      | true =>
        simp only [lightF, Bool.and_eq_true, decide_eq_true_eq] at hl
        exact absurd ⟨hl.1.1.1.1.1.1, hl.1.1.1.1.1.2, hl.1.1.1.1.2, hl.1.1.1.2⟩ h0
    rw [hf]
    refine kF Tryz.func41 [1] fun w => ?_
    repeat' (first
      | refine zW ?_
      | refine zB ?_ ?_ <;> intro h <;> try exact zk h
      | rfl
      | ((exfalso; first | (simp_all <;> fail) | (simp_all; omega)))
      | fail)
section
set_option maxRecDepth 10000
end
section
set_option maxRecDepth 10000
end
def rowN : List Int → DV
  | [] => .nilsl
  | a :: l => ints (a :: l)
def encN (p : GProd) : DV := .agg [.int .i64 p.left, rowN p.right]
theorem encN_to (l : List GProd) : DvN (.sl 2 (l.map encN)) (.sl 2 (l.map encP)) := by
  refine DvN.map (f := encN) (g := encP) (n := 2) (fun _ => rfl) (fun _ => rfl) l fun a _ i x y hx hy => ?_
  match i with
  | 0 => simp [encN, encP, cellsD] at hx hy; subst hx hy; exact .refl
  | 1 =>
    simp [encN, encP, cellsD] at hx hy; subst hx hy
    cases a.right with
    | nil => exact .nil
    | cons r l => exact .refl
  | i + 2 => simp [encN, cellsD] at hx
section
set_option maxRecDepth 10000
end
section
set_option maxRecDepth 10000
end
def kN (g : Gram) : Nat := g.k.toNat
def psN (g : Gram) : List (Nat × List Nat) := g.prods.map fun p => ((p.left - 16).toNat, p.right.map Int.toNat)
theorem good_nat {g : Gram} {s : Int} (ht : g.tokens.length ≤ 8) (h : goodS g s = true) : s = (s.toNat : Int) ∧ SymN g.names.length s.toNat := by
  unfold goodS isTerm isNonterm at h
  simp only [Bool.or_eq_true, Bool.and_eq_true, decide_eq_true_eq] at h
  unfold SymN
  omega
theorem ints_nat {l : List Int} (h : ∀ s ∈ l, s = (s.toNat : Int)) : ints l = .sl 1 ((l.map Int.toNat).map nI) := by
  simp only [ints, List.map_map]
  congr 1
  refine List.map_congr_left fun s hs => ?_
  have := h s hs
  show DV.int .i64 s = .int .i64 ((s.toNat : Nat) : Int)
  rw [← this]
structure ValN (g : Gram) : Prop where
  k : g.k = (kN g : Int)
  k1 : 1 ≤ kN g
  k4 : kN g ≤ 4
  n8 : g.names.length ≤ 8
  t8 : g.tokens.length ≤ 8
  ok : PrOK g.names.length (psN g)
  len : (psN g).length ≤ 24
  enc : g.prods.map encP = (psN g).map encQ
theorem valN {g : Gram} (h : checkF g = 0) : ValN g := by
  have hc := h
  obtain ⟨hm, h1, h2, h3, h4⟩ := check_parts h
  obtain ⟨ht, hn, hp, hr⟩ := many_zero hm
  have hk : 1 ≤ g.k ∧ g.k ≤ 4 := by
    unfold checkF at hc
    split at hc
    · cases hc
    · omega
  have hs : symbolsOK g := (symbols_zero h4).1
  have hg : ∀ p ∈ g.prods, 16 ≤ p.left ∧ p.left < 16 + g.names.length ∧ ∀ s ∈ p.right, s = (s.toNat : Int) ∧ SymN g.names.length s.toNat := fun p hp => by
    obtain ⟨h5, h6⟩ := hs.2 p hp
    unfold isNonterm at h5
    simp only [Bool.and_eq_true, decide_eq_true_eq] at h5
    exact ⟨h5.1, h5.2, fun s hs => good_nat ht (h6 s hs)⟩
  refine ⟨?_, ?_, ?_, hn, ht, ⟨fun p hp => ?_, fun p hp s hs => ?_, fun p hp => ?_⟩, by simp [psN]; exact hp, ?_⟩
  · unfold kN; omega
  · unfold kN; omega
  · unfold kN; omega
  · obtain ⟨q, hq, rfl⟩ := List.mem_map.1 hp
    have := hg q hq
    simp only; omega
  · obtain ⟨q, hq, rfl⟩ := List.mem_map.1 hp
    obtain ⟨t, ht, rfl⟩ := List.mem_map.1 hs
    exact ((hg q hq).2.2 t ht).2
  · obtain ⟨q, hq, rfl⟩ := List.mem_map.1 hp
    have := hr q hq
    simp only [List.length_map]; omega
  · unfold psN
    rw [List.map_map]
    refine List.map_congr_left fun p hp => ?_
    obtain ⟨h5, h6, h7⟩ := hg p hp
    simp only [encP, encQ, Function.comp]
    rw [ints_nat fun s hs => (h7 s hs).1]
    have : p.left = ((16 + (p.left - 16).toNat : Nat) : Int) := by omega
    exact congrArg (fun n => DV.agg [DV.int .i64 n, .sl 1 ((p.right.map Int.toNat).map nI)]) this
def setsG (g : Gram) : Sets := setsF (kN g) g.names.length (psN g)
abbrev grmF (g : Gram) : DV × DV × DV × DV × DV := (strs g.tokens, .str g.sep, strs g.names, .int .i64 g.start, .sl 2 (g.prods.map encP))
theorem setsK {g : Gram} (h : checkF g = 0) : ACall Tryz.prog 27 [.d (encG g)] [] (.agg (tbC (kN g) (grmF g) (.vs (2 + 3 * g.names.length) 1 0 g.names.length))) (objT .gone .gone (setsG g) g.names.length) := by
  have v := valN h
  have := setsA (kN g) v.k1 v.k4 (strs g.tokens) (.str g.sep) (.int .i64 g.start) (g.names.map .str) g.names.length (by simp) v.n8 (psN g) v.ok (by have := v.len; omega)
  rw [← v.enc, show nI (kN g) = DV.int .i64 g.k from congrArg (DV.int .i64) v.k.symm] at this
  exact this
def chkFs (g : Gram) (l : List Int) : Int := if checkF g ≠ 0 then checkF g else if 100 < l.length then 6 else if l.all (goodS g) = true then 0 else 14
theorem checkFst (g : Gram) (hf : Fits g) (l : List Int) (hl : l.length ≤ 1048576) : KnownCall Tryz.prog 32 [encG g, ints l] (.d (.int .i64 (chkFs g l))) := by
  have c := grCheck g hf
  have hll : (l.map (DV.int .i64)).length = l.length := by simp
  by_cases h0 : checkF g = 0
  · by_cases h1 : 100 < l.length
    · have e : chkFs g l = 6 := by simp [chkFs, h0, h1]
      rw [e]
      refine kF Tryz.func32 [2] fun w => ?_
      repeat' (first
        | refine zW ?_
        | refine zB ?_ ?_ <;> intro h <;> try exact zk h
        | refine zC (c) ?_
        | rfl
        | (exfalso; (simp_all <;> omega))
        | fail)
    · refine kF Tryz.func32 [2] fun w => ?_
      repeat' (first
        | refine zW ?_
        | refine zB ?_ ?_ <;> intro h <;> try exact zk h
        | refine zC (c) ?_
        | (exfalso; (simp_all <;> omega))
        | fail)
      refine Run.loopT (fun i : Nat => ⟨PT.ofList [(2, .d (.ep [.int .i64 g.k, strs g.tokens, .str g.sep, strs g.names, .int .i64 g.start, .sl 2 (g.prods.map encP)])), (22, .d (ints l)), (23, .d (nI (l.map (DV.int .i64)).length)), (24, .d (nI i))], [], []⟩) (fun i => i ≤ l.length ∧ ∀ s ∈ l.take i, goodS g s = true) (fun i => l.length - i) 0 ⟨Nat.zero_le _, by simp⟩ (ti _ 0) (fun i hi => ?_)
      obtain ⟨hi1, hi2⟩ := hi
      rcases Nat.lt_or_ge i l.length with hlt | hge
      · obtain ⟨s, hs⟩ := get_ok hlt
        have ca := askName g s hf
        repeat refine zS ?_
        refine zV (lt_true (show i < (l.map (DV.int .i64)).length by omega)) ?_
        repeat refine zS ?_
        refine zI w (.d (.ep [.int .i64 s])) hs ?_
        iterate 2 refine zX ?_
        repeat refine zS ?_
        cases hg : goodS g s with
        | true =>
          rw [show askNameF g s = (nameS g s, 0) by simp [askNameF, h0, hg]] at ca
          repeat' (first
            | refine zW ?_
            | refine zB ?_ ?_ <;> intro h <;> try exact zk h
            | refine zC (ca) ?_
            | (fail)
            | fail)
          exact ⟨i + 1, ⟨hlt, fun t ht => by
            rw [List.take_add_one, hs] at ht
            rcases List.mem_append.1 ht with h | h
            · exact hi2 t h
            · simp at h; subst h; exact hg⟩, by omega, ti _ 0⟩
        | false =>
          rw [show askNameF g s = ([], 14) by simp [askNameF, h0, hg]] at ca
          have e : chkFs g l = 14 := by
            unfold chkFs
            rw [if_neg (by simp [h0]), if_neg h1, if_neg]
            rw [List.all_eq_true]
            exact fun h => by rw [h s (List.mem_of_getElem? hs)] at hg; cases hg
          rw [e]
          repeat' (first
            | refine zW ?_
            | refine zB ?_ ?_ <;> intro h <;> try exact zk h
            | refine zC (ca) ?_
            | rfl
            | (fail)
            | fail)
      · have hie : i = l.length := by omega
        subst hie
        rw [List.take_length] at hi2
        have e : chkFs g l = 0 := by
          unfold chkFs
          rw [if_neg (by simp [h0]), if_neg h1, if_pos (List.all_eq_true.2 hi2)]
        rw [e]
        repeat refine zS ?_
        refine zV (lt_false (show (l.map (DV.int .i64)).length ≤ l.length by omega)) ?_
        repeat' (first
          | refine zW ?_
          | refine zB ?_ ?_ <;> intro h <;> try exact zk h
          | rfl
          | (fail)
          | fail)
  · have e : chkFs g l = checkF g := by simp [chkFs, h0]
    rw [e]
    refine kF Tryz.func32 [2] fun w => ?_
    repeat' (first
      | refine zW ?_
      | refine zB ?_ ?_ <;> intro h <;> try exact zk h
      | refine zC (c) ?_
      | rfl
      | (exfalso; (simp_all <;> omega))
      | fail)
theorem chkG_set {n : Nat} (h1 : 1 ≤ n) (h8 : n ≤ 8) : ∀ {L : List (List Nat)} {p : Option (List Nat)}, (∀ x ∈ L, Rt x ∧ ∀ t ∈ x, t < n) → Asc L → (∀ y, p = some y → y.length ≤ 4 ∧ ∀ x ∈ L, cmpL y x < 0) → chkG n (p.map rawOf) (L.map rawOf) = 0
  | [], p, _, _, _ => chkG_nil _ _
  | x :: L, p, h, ha, hp => by
    obtain ⟨hx, hxt⟩ := h x (by simp)
    have hr : chkR (rawOf x) n = 0 := chkR_lk hx.len (by omega) (by omega) fun t ht => by have := hxt t ht; omega
    have hrec := chkG_set h1 h8 (L := L) (p := some x) (fun y hy => h y (by simp [hy])) (List.pairwise_cons.1 ha).2 fun y hy => by cases hy; exact ⟨hx.len, (List.pairwise_cons.1 ha).1⟩
    cases p with
    | none => show chkG n none (rawOf x :: L.map rawOf) = 0; rw [chkG, if_pos hr]; exact hrec
    | some y =>
      obtain ⟨h2, h3⟩ := hp y rfl
      have h4 := h3 x (by simp)
      show chkG n (some (rawOf y)) (rawOf x :: L.map rawOf) = 0
      rw [chkG, if_pos hr, dec_of h2, dec_of hx.len, if_neg (by omega)]
      exact hrec
theorem chkS_set {n : Nat} (h1 : 1 ≤ n) (h8 : n ≤ 8) {L : List (List Nat)} (h : SetOK n L) : chkS n (L.map rawOf) = 0 := by
  have := h.len
  unfold chkS
  rw [if_neg (by omega), if_neg (by rw [List.length_map]; omega)]
  exact chkG_set h1 h8 (p := none) (fun x hx => ⟨h.rt x hx, h.lt x hx⟩) h.asc (fun y hy => by cases hy)
theorem sumRef2 {n : Nat} (h1 : 1 ≤ n) (h8 : n ≤ 8) (k : Nat) (hk1 : 1 ≤ k) (hk : k ≤ 4) (a b : List (List Nat)) (hA : SetOK n a) (hB : SetOK n b) (hab : a.length * b.length ≤ 90000) :
    KnownCall Tryz.prog 89 [nI n, nI k, lks a, lks b] (.tup [.d (lks (sumS k a b)), .d (.int .i64 0)]) :=
  sumRef0 n k hk1 hk n a b hA hB hab (by unfold bothS; rw [if_pos (chkS_set h1 h8 hA)]; exact chkS_set h1 h8 hB)
set_option maxHeartbeats 1000000 in
theorem unionRef {n : Nat} (h1 : 1 ≤ n) (h8 : n ≤ 8) (a b : List (List Nat)) (hA : SetOK n a) (hB : SetOK n b) :
    KnownCall Tryz.prog 58 [nI n, .sl 1 [lks a, lks b]] (.tup [.d (lks (ascOf (a ++ b))), .d (.int .i64 0)]) := by
  have hal := hA.len
  have hbl := hB.len
  have c0 := range8 n
  rw [if_neg (by omega)] at c0
  have c1 := checkRef n (a.map rawOf) (by rw [List.length_map]; omega)
  have c2 := checkRef n (b.map rawOf) (by rw [List.length_map]; omega)
  rw [chkS_set h1 h8 hA, rws_of] at c1
  rw [chkS_set h1 h8 hB, rws_of] at c2
  have m1 := mergeAsc [] a (by simp) hA.rt (by simp; omega)
  have m2 := mergeAsc a b hA.rt hB.rt (by omega)
  rw [asc_self hA.asc, List.nil_append, asc_self hA.asc] at m1
  rw [asc_self hA.asc, asc_self hB.asc] at m2
  change KnownCall _ _ [lks [], lks a] _ at m1
  refine kF Tryz.func58 [] fun w => ?_
  repeat' (first
    | refine zW ?_
    | refine zB ?_ ?_ <;> intro h <;> try exact zk h
    | refine zC (c0) ?_
    | ((exfalso; simp at h; done))
    | fail)
  refine Run.loopT (fun i : Nat => ⟨PT.ofList [(0, .d (nI n)), (1, .d (.sl 1 [lks a, lks b])), (6, .d (.int .i64 0)), (7, .d (nI i))], [], []⟩) (fun i => i ≤ 2) (fun i => 2 - i) 0 (Nat.zero_le _) (ti _ 0) (fun i hi => ?_)
  have hc : i = 0 ∨ i = 1 ∨ i = 2 := by omega
  rcases hc with rfl | rfl | rfl
  · repeat' (first
      | refine zW ?_
      | refine zB ?_ ?_ <;> intro h <;> try exact zk h
      | refine zC (c1) ?_
      | ((exfalso; simp at h; done))
      | (exact ⟨1, by omega, by omega, ti _ 0⟩)
      | fail)
  · repeat' (first
      | refine zW ?_
      | refine zB ?_ ?_ <;> intro h <;> try exact zk h
      | refine zC (c2) ?_
      | ((exfalso; simp at h; done))
      | (exact ⟨2, by omega, by omega, ti _ 0⟩)
      | fail)
  · repeat' (first
      | refine zW ?_
      | refine zB ?_ ?_ <;> intro h <;> try exact zk h
      | ((exfalso; simp at h; done))
      | fail)
    refine Run.nilRow 8 5 [(1, .d (.sl 1 [lks a, lks b])), (8, .d (lks [])), (9, .d (.int .i64 0))] rfl (ofList_cases (by intro p hp; simp only [List.mem_cons, List.not_mem_nil, or_false] at hp; rcases hp with rfl | rfl | rfl; exact .inr (by kernel_rfl); exact .inl ⟨rfl, rfl⟩; exact .inr (by kernel_rfl))) ?_
    refine Run.loopT (fun i : Nat => ⟨PT.ofList [(1, .d (.sl 1 [lks a, lks b])), (8, .d (lks (match i with | 0 => [] | 1 => a | _ => ascOf (a ++ b)))), (9, .d (nI i))], [], []⟩) (fun i => i ≤ 2) (fun i => 2 - i) 0 (Nat.zero_le _) (ti _ 0) (fun i hi => ?_)
    have hc : i = 0 ∨ i = 1 ∨ i = 2 := by omega
    rcases hc with rfl | rfl | rfl
    · repeat' (first
        | refine zW ?_
        | refine zB ?_ ?_ <;> intro h <;> try exact zk h
        | refine zC (m1) ?_
        | ((exfalso; simp at h; done))
        | (exact ⟨1, by omega, by omega, ti _ 0⟩)
        | fail)
    · repeat' (first
        | refine zW ?_
        | refine zB ?_ ?_ <;> intro h <;> try exact zk h
        | refine zC (m2) ?_
        | ((exfalso; simp at h; done))
        | (exact ⟨2, by omega, by omega, ti _ 0⟩)
        | fail)
    · repeat' (first
        | refine zW ?_
        | refine zB ?_ ?_ <;> intro h <;> try exact zk h
        | rfl
        | ((exfalso; simp at h; done))
        | fail)
theorem oLenPm {nt m : Nat} {ro' : Option Nat} {K : Ex → S → Prop} {ops : Array Oper} {lo : List Oper} {o : Oper} {tm tm' : PT AV} {objs : List Ob} {dl : List Dl} {i : Nat} {L : List (List Nat)} {args : Array Operand} {tys : Array TypeId} {a : Operand} {t kt et : TypeId} {yt : Ty} (hi : objs[i]? = some (.pm (kvT L)))
    (k : RunOps Tryz.prog nt m ro' ops lo ⟨tm', objs, dl⟩ K) (hop : o.op = .call ⟨.builtin .len, args, tys⟩ := by rfl) (ha : args.toList = [a] := by rfl) (ht : tys.toList = [t] := by rfl) (h1 : Et.get? t = some yt := by rfl) (h2 : yt.desc = .map kt et := by rfl) (hm : rd tm a = .mp i := by rfl)
    (hg : guardA ops (rd tm) o = some true := by rfl) (hs : setD nt tm o.dst (.d (nI L.length)) = some tm' := by rfl) : RunOps Tryz.prog nt m ro' ops (o :: lo) ⟨tm, objs, dl⟩ K := by
  refine RunOps.openPm i hi fun lA hlA => ?_
  obtain ⟨L', rfl, hp⟩ := perm_kvT hlA
  have hil := (List.getElem?_eq_some_iff.1 hi).1
  have hx : (objs.set i (.map (kvT L')))[i]? = some (.map (kvT L')) := List.getElem?_set_self hil
  refine RunOps.x (frz := []) (v := .d (nI L.length)) Et_ok hg (evAny_lenM (frz := []) hop ha ht h1 h2 hm hx) rfl (by rw [List.length_map, hp.length_eq]) rfl rfl hs ?_
  refine RunOps.closePm i (l := kvT L') (kvs := kvT L) hx (hp.map _) ?_
  show RunOps _ _ _ _ _ _ ⟨tm', (objs.set i (.map (kvT L'))).set i (.pm (kvT L)), dl⟩ K
  rw [set_back hi]
  exact k
def foN (g : Gram) (l : List Nat) : List (List Nat) := fstF (kN g) (setsG g) [[]] l
theorem setsG_ok {g : Gram} (h : checkF g = 0) : SOK (kN g) (setsG g) := it_sok (valN h).k4 (valN h).ok.sy _
theorem fo_asc (g : Gram) (l : List Nat) : Asc (foN g l) := fst_asc emp_asc
theorem fo_rt {g : Gram} (h : checkF g = 0) {l : List Nat} (hl : ∀ s ∈ l, SymN g.names.length s) : ∀ x ∈ foN g l, Rt x ∧ x.length ≤ kN g := fst_rt (valN h).k4 (fun a x hx => ((setsG_ok h).rt a x hx).1) emp_rt hl
abbrev ofO (g : Gram) (l : List Nat) : List Ob := objT .gone .gone (setsG g) g.names.length ++ [.gone, .pm (kvT [[]])] ++ tlF l.length (foN g l)
abbrev ofIx (g : Gram) (l : List Nat) : Nat := ixO (objT .gone .gone (setsG g) g.names.length).length l.length
theorem objG_refs (g : Gram) : (objT .gone .gone (setsG g) g.names.length).all (refOb (objT .gone .gone (setsG g) g.names.length).length) = true := objT_refs rfl rfl (by rw [objT_len]; exact Nat.le_refl _)
theorem ofG {g : Gram} (h : checkF g = 0) (l : List Nat) (hl : ∀ s ∈ l, SymN g.names.length s) (hll : l.length ≤ 1000) :
    ACall Tryz.prog 33 [.agg (tbC (kN g) (grmF g) (.vs (2 + 3 * g.names.length) 1 0 g.names.length)), .d (.sl 1 (l.map nI))] (objT .gone .gone (setsG g) g.names.length) (.mp (ofIx g l)) (ofO g l) :=
  ofTA _ (objG_refs g) (kN g) (valN h).k1 (valN h).k4 (grmF g) _ g.names.length (setsG g) (tbs_obj (setsG_ok h) (valN h).n8 (by rw [objT_len]; exact Nat.le_refl _)) l hl hll
theorem ofO_at (g : Gram) (l : List Nat) : (ofO g l)[ofIx g l]? = some (.pm (kvT (foN g l))) := by
  refine at_ix (by simp) fun h0 => ?_
  rw [List.length_eq_zero_iff.1 h0]
  exact get1
theorem ofO_refs (g : Gram) (l : List Nat) : (ofO g l).all (refOb (ofO g l).length) = true := by
  rw [List.all_append, List.all_append, refs_mono (by simp) (objG_refs g), tlF_refs]; rfl
theorem chk_good {g : Gram} (h : checkF g = 0) {l : List Int} (hg : ∀ s ∈ l, goodS g s = true) (hl : l.length ≤ 100) : chkFs g l = 0 := by
  unfold chkFs
  rw [if_neg (by simp [h]), if_neg (by omega), if_pos (List.all_eq_true.2 hg)]
structure SyN (g : Gram) (l : List Int) : Prop where
  enc : ints l = .sl 1 ((l.map Int.toNat).map nI)
  sy : ∀ s ∈ l.map Int.toNat, SymN g.names.length s
theorem syN {g : Gram} (h : checkF g = 0) {l : List Int} (hg : ∀ s ∈ l, goodS g s = true) : SyN g l :=
  ⟨ints_nat fun s hs => (good_nat (valN h).t8 (hg s hs)).1, fun s hs => by
    obtain ⟨t, ht, rfl⟩ := List.mem_map.1 hs
    exact (good_nat (valN h).t8 (hg t ht)).2⟩
set_option maxHeartbeats 4000000 in
theorem fOfK {g : Gram} (h : checkF g = 0) (hf : Fits g) {l : List Int} (hg : ∀ s ∈ l, goodS g s = true) (hl : l.length ≤ 100) (hc : (foN g (l.map Int.toNat)).length ≤ 600) :
    KnownCall Tryz.prog 11 [encG g, ints l] (.tup [.d (lks (foN g (l.map Int.toNat))), .d (.int .i64 0)]) := by
  have c := checkFst g hf l (by omega)
  rw [chk_good h hg hl] at c
  have v := syN h hg
  rw [v.enc] at c ⊢
  have hO := ofG h (l.map Int.toNat) v.sy (by simp; omega)
  have hM := ofO_at g (l.map Int.toNat)
  have hR := ofO_refs g (l.map Int.toNat)
  have hrt := fo_rt h v.sy
  generalize hofo : ofO g (l.map Int.toNat) = Z at hO hM hR
  generalize hofi : ofIx g (l.map Int.toNat) = ix at hO hM
  have has := fo_asc g (l.map Int.toNat)
  generalize foN g (l.map Int.toNat) = A at *
  have hS := sortedA Z hR ix A hM has fun x hx => (hrt x hx).1
  have hK := collectK A (fun x hx => (hrt x hx).1.len) (by omega)
  refine kF Tryz.func11 [2] fun w => ?_
  repeat refine zS ?_
  iterate 3 refine zX ?_
  repeat refine zS ?_
  iterate 2 refine zX ?_
  refine zC c ?_
  refine zX ?_
  repeat refine zS ?_
  iterate 2 refine zX ?_
  repeat refine zS ?_
  refine zX ?_
  refine oA (setsK h) ?_
  refine zX ?_
  refine oA hO ?_
  refine zX ?_
  repeat refine zS ?_
  refine zX ?_
  refine oLenPm hM ?_
  refine zV (show AV.d (.bool (decide (((A.length : Nat) : Int) > 600))) = .d (.bool false) by rw [decide_eq_false (by omega)]) ?_
  repeat refine zS ?_
  refine zX ?_
  refine oA hS ?_
  refine zC hK ?_
  iterate 2 refine zX ?_
  repeat refine zS ?_
  exact zE rfl
def Sub (S S' : Sets) : Prop := ∀ a x, x ∈ S a → x ∈ S' a
def Clo (k : Nat) (ps : List (Nat × List Nat)) (S : Sets) : Prop := ∀ p ∈ ps, ∀ x ∈ fstF k S [[]] p.2, x ∈ S p.1
theorem fst_mono {k : Nat} {S S' : Sets} (h : Sub S S') : ∀ {l : List Nat} {B B' : List (List Nat)}, (∀ x ∈ B, x ∈ B') → ∀ x ∈ fstF k S B l, x ∈ fstF k S' B' l
  | [], _, _, hB, x, hx => hB x hx
  | s :: l, B, B', hB, x, hx => by
    refine fst_mono h (l := l) (fun y hy => ?_) x hx
    obtain ⟨u, hu, v, hv, rfl⟩ := mem_prs.1 (mem_asc.1 hy)
    refine mem_asc.2 (mem_prs.2 ⟨u, hB u hu, v, ?_, rfl⟩)
    unfold syF at hv ⊢
    split
    · rename_i h8; rw [if_pos h8] at hv; exact hv
    · rename_i h8; rw [if_neg h8] at hv; exact h _ _ hv
theorem sub_step {k : Nat} {S : Sets} {p : Nat × List Nat} : Sub S (stepS k S p) := fun a x hx => by
  unfold stepS updT
  split
  · rename_i h; subst h; exact mem_asc.2 (List.mem_append.2 (.inl hx))
  · exact hx
theorem sub_round {k : Nat} : ∀ {ps : List (Nat × List Nat)} {S : Sets}, Sub S (roundS k ps S)
  | [], _ => fun _ _ h => h
  | _ :: ps, _ => fun a x hx => sub_round (ps := ps) a x (sub_step a x hx)
theorem step_least {k : Nat} {S S' : Sets} {p : Nat × List Nat} (h : Sub S S') (hp : ∀ x ∈ fstF k S' [[]] p.2, x ∈ S' p.1) : Sub (stepS k S p) S' := fun a x hx => by
  unfold stepS updT at hx
  split at hx
  · rename_i h0; subst h0
    rcases List.mem_append.1 (mem_asc.1 hx) with h1 | h1
    · exact h _ _ h1
    · exact hp x (fst_mono h (fun _ h => h) x h1)
  · exact h _ _ hx
theorem round_least {k : Nat} : ∀ {ps : List (Nat × List Nat)} {S S' : Sets}, Sub S S' → Clo k ps S' → Sub (roundS k ps S) S'
  | [], _, _, h, _ => h
  | p :: ps, _, _, h, hc => round_least (ps := ps) (step_least h (hc p (by simp))) fun q hq => hc q (by simp [hq])
theorem it_least {k : Nat} {ps : List (Nat × List Nat)} {S' : Sets} (hc : Clo k ps S') : ∀ m, Sub (itS k ps m) S'
  | 0 => fun _ _ h => by simp [itS] at h
  | m + 1 => round_least (it_least hc m) hc
theorem sub_anti {k : Nat} {S S' : Sets} (h : SOK k S) (h' : SOK k S') (h1 : Sub S S') (h2 : Sub S' S) : S = S' := funext fun a => asc_ext (h.asc a) (h'.asc a) fun x => ⟨h1 a x, h2 a x⟩
theorem clo_of_fix {k n : Nat} (hk : k ≤ 4) : ∀ {ps : List (Nat × List Nat)} {S : Sets}, SOK k S → (∀ p ∈ ps, ∀ s ∈ p.2, SymN n s) → Sub (roundS k ps S) S → Clo k ps S
  | [], _, _, _, _ => fun p hp => by cases hp
  | q :: ps, S, hS, hp, h => by
    have h1 : Sub (stepS k S q) S := fun a x hx => h a x (sub_round (ps := ps) a x hx)
    have h2 : stepS k S q = S := sub_anti (step_sok hk hS (hp q (by simp))) hS h1 sub_step
    have h3 : Sub (roundS k ps S) S := fun a x hx => h a x (by show x ∈ roundS k ps (stepS k S q) a; rw [h2]; exact hx)
    intro p hpm
    rcases List.mem_cons.1 hpm with rfl | hpm
    · intro x hx
      refine h1 p.1 x ?_
      unfold stepS updT
      rw [if_pos rfl]
      exact mem_asc.2 (List.mem_append.2 (.inr hx))
    · exact clo_of_fix hk hS (fun q hq => hp q (by simp [hq])) h3 p hpm
theorem tot_sub {k : Nat} {S S' : Sets} (h : SOK k S) (h1 : Sub S S') : ∀ n, tot S n ≤ tot S' n
  | 0 => Nat.le_refl _
  | n + 1 => by
    have := tot_sub h h1 n
    have := nodup_le (asc_nodup (h.asc n)) (h1 n)
    simp only [tot]; omega
theorem tot_eq {k : Nat} {S S' : Sets} (h : SOK k S) (h1 : Sub S S') : ∀ n, tot S' n ≤ tot S n → ∀ a, a < n → ∀ x ∈ S' a, x ∈ S a
  | n + 1, he, a, ha, x, hx => by
    have h2 := tot_sub h h1 n
    have h3 := nodup_le (asc_nodup (h.asc n)) (h1 n)
    simp only [tot] at he
    rcases Nat.lt_or_ge a n with h4 | h4
    · exact tot_eq h h1 n (by omega) a h4 x hx
    · have : a = n := by omega
      subst this
      by_cases hc : x ∈ S a
      · exact hc
      · have hn : (x :: S a).Nodup := List.nodup_cons.2 ⟨hc, asc_nodup (h.asc a)⟩
        have := nodup_le hn (m := S' a) fun y hy => by
          rcases List.mem_cons.1 hy with rfl | hy
          · exact hx
          · exact h1 _ _ hy
        simp only [List.length_cons] at this
        omega
theorem round_far {k n : Nat} : ∀ {ps : List (Nat × List Nat)} {S : Sets} {a : Nat}, (∀ p ∈ ps, p.1 < n) → n ≤ a → roundS k ps S a = S a
  | [], _, _, _, _ => rfl
  | p :: ps, S, a, hp, ha => by
    show roundS k ps (stepS k S p) a = S a
    rw [round_far (ps := ps) (fun q hq => hp q (by simp [hq])) ha, stepS, updT, if_neg (by have := hp p (by simp); omega)]
theorem it_far {k n : Nat} {ps : List (Nat × List Nat)} (hp : ∀ p ∈ ps, p.1 < n) {a : Nat} (ha : n ≤ a) : ∀ m, itS k ps m a = []
  | 0 => rfl
  | m + 1 => by show roundS k ps (itS k ps m) a = []; rw [round_far hp ha, it_far hp ha m]
theorem it_fix {k n : Nat} (hk : k ≤ 4) {ps : List (Nat × List Nat)} (hp : PrOK n ps) : ∀ m, (∃ j, j ≤ m ∧ itS k ps (j + 1) = itS k ps j) ∨ m ≤ tot (itS k ps m) n
  | 0 => .inr (Nat.zero_le _)
  | m + 1 => by
    rcases it_fix hk hp m with ⟨j, h1, h2⟩ | h
    · exact .inl ⟨j, by omega, h2⟩
    · have hs := it_sok hk hp.sy (k := k)
      by_cases hl : tot (itS k ps (m + 1)) n ≤ tot (itS k ps m) n
      · refine .inl ⟨m, by omega, (sub_anti (hs m) (hs (m + 1)) sub_round fun a x hx => ?_).symm⟩
        rcases Nat.lt_or_ge a n with ha | ha
        · exact tot_eq (hs m) sub_round n hl a ha x hx
        · rw [it_far hp.lt ha] at hx; cases hx
      · exact .inr (by omega)
theorem sets_fix {k n : Nat} (hk : k ≤ 4) {ps : List (Nat × List Nat)} (hp : PrOK n ps) : ∃ m, itS k ps (m + 1) = itS k ps m ∧ setsF k n ps = itS k ps m := by
  rcases it_fix hk hp (6562 * (n + 1)) with ⟨j, h1, h2⟩ | h
  · exact ⟨j, h2, sets_of h2 h1⟩
  · have := tot_le (it_sok (k := k) hk hp.sy (6562 * (n + 1))) n
    omega
theorem sets_clo {k n : Nat} (hk : k ≤ 4) {ps : List (Nat × List Nat)} (hp : PrOK n ps) : Clo k ps (setsF k n ps) := by
  obtain ⟨m, h1, h2⟩ := sets_fix hk hp
  rw [h2]
  exact clo_of_fix hk (it_sok hk hp.sy m) hp.sy fun a x hx => by
    rw [show roundS k ps (itS k ps m) = itS k ps (m + 1) from rfl, h1] at hx; exact hx
theorem sets_least {k n : Nat} {ps : List (Nat × List Nat)} {S' : Sets} (hc : Clo k ps S') : Sub (setsF k n ps) S' := it_least hc _
def InT (T : Nat) (L : List (List Nat)) : Prop := ∀ x ∈ L, ∀ t ∈ x, t < T
theorem fst_in {k T : Nat} {S : Sets} (hS : ∀ a, InT T (S a)) : ∀ {l : List Nat} {B : List (List Nat)}, InT T B → (∀ s ∈ l, s < 8 → s < T) → InT T (fstF k S B l)
  | [], _, hB, _ => hB
  | s :: l, B, hB, hl => by
    refine fst_in hS (l := l) (fun y hy t ht => ?_) fun s hs => hl s (by simp [hs])
    obtain ⟨u, hu, v, hv, rfl⟩ := mem_prs.1 (mem_asc.1 hy)
    rcases List.mem_append.1 (List.mem_of_mem_take ht) with h | h
    · exact hB u hu t h
    · unfold syF at hv
      split at hv
      · rename_i h8
        simp at hv; subst hv
        simp at h; subst h
        exact hl t (by simp) h8
      · exact hS _ v hv t h
end Go.Av
end

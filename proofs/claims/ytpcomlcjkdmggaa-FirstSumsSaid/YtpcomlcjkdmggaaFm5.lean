/-
  Parts of the way to the law, joined. Conditions stand at each.
-/
import Derived.Test.YtpcomlcjkdmggaaFm4
import Derived.Test.YtpcomlcjkdmggaaFm2
import Derived.Test.YtpcomlcjkdmggaaFm3
set_option linter.all false
noncomputable section
namespace Go.Av
open Go Go.Proofs
set_option maxRecDepth 10000
theorem known_arg1 {P : Program} {f : FuncId} {x y : DV} {r : AV} (h : KnownCall P f [y] r) (hn : DvN x y) : KnownCall P f [x] r := by
  intro o
  refine ⟨(h o).1, fun D β w vs hp hv => (h o).2 D β w vs hp ⟨hv.1, fun j c v hc hw => ?_⟩⟩
  match j, hc with
  | 0, hc =>
    simp at hc
    subst hc
    have := hv.2 0 _ v rfl hw
    cases this with
    | d k => exact .d (hn.rep k)
  | j + 1, hc => simp at hc
abbrev valF (L : List (List Nat)) : DV := .fn (.func 73) [] [.ep [lks L]]
theorem valQ (O : List Ob) (L : List (List Nat)) (hO : O.all (refOb O.length) = true) (hl : L.length ≤ 1048576) : IterQ O 0 (.d (valF L)) L (fun D => D = L) := by
  obtain ⟨g, a, b, he, hA⟩ := valuesIt L hl
  refine ⟨⟨rfl, rfl⟩, g, a.map .d, b.map .d, fun D β v hv => fn_rep (show RepA D β (.d (.fn (.func g) a b)) v by rw [← he]; exact hv), fun Rf Rg hRl hRg0 hRr hGr hy => ?_⟩
  have hBl : ∀ k, (O ++ Rf (L.take k) ++ Rg (L.take k)).length = O.length + 3 + (Rg (L.take k)).length := fun k => by simp [hRl]; omega
  have h1 := hA (O.length + 2) (fun k => O ++ Rf (L.take k) ++ Rg (L.take k)) (fun k => by rw [hBl]; omega) (fun k => by rw [hBl, hBl]; simp [hRg0]) (fun k => by
    rw [hBl, List.all_append, List.all_append, refs_mono (by omega) hO]
    have r1 := hRr (L.take k)
    have r2 := hGr (L.take k)
    rw [Nat.add_zero] at r1 r2
    rw [r1, r2]; rfl) (fun k x hx => by
    have hk := (List.getElem?_eq_some_iff.1 hx).1
    have := hy O [] (L.take k) x rfl rfl hO rfl (List.mem_of_getElem? hx) (by simp; omega)
    rw [List.append_nil, List.append_nil] at this
    rw [List.take_add_one, hx]
    exact this)
  simp only [List.take_zero, hRg0, List.append_nil, List.take_length] at h1
  refine (ACallQ.of h1 rfl).mono fun o r ⟨e1, e2⟩ => ⟨e2, L, [], rfl, rfl, rfl, by rw [e1]; simp⟩
set_option maxHeartbeats 4000000 in
theorem collectQ (O : List Ob) (hO : O.all (refOb O.length) = true) (y : Nat) (fv : AV) (E : List (List Nat)) (Pm : List (List Nat) → Prop) (hit : IterQ O y fv E Pm) (hE : ∀ x ∈ E, x.length ≤ 4) (hl : E.length ≤ 100000) :
    ACallQ Try.prog 32 [fv] O (fun o r => ∃ D, Pm D ∧ r = outQ (O.length + 3 + y) D ∧ o = O ++ List.replicate (3 + y) .gone ++ outX D) := by
  have w : Fz [] := trivial
  refine acallQ_of_run Et_ok (fnB Try.func32 []) rfl rfl ?_
  have w : Fz [] := trivial
  repeat refine zS ?_
  refine zX ?_
  repeat refine zS ?_
  refine oV (v := fv) ?_ (hp := hit.1.2) (he := rfl)
  refine oQ (appSeqQ O hO y fv E Pm hit hE hl) fun o' r ⟨D, h1, h2, h3⟩ => ⟨_, rfl, ?_⟩
  subst h2 h3
  refine oV (v := outQ (O.length + 3 + y) D) ?_ (he := rfl) (hp := by cases D <;> rfl)
  refine RunOps.nil ?_
  refine Run.ret ?_
  exact ⟨trivial, _, _, rfl, rfl, ⟨D, h1, rfl, rfl⟩, (by cases D <;> rfl)⟩
theorem collectK (L : List (List Nat)) (hE : ∀ x ∈ L, x.length ≤ 4) (hl : L.length ≤ 100000) : KnownCall Try.prog 32 [valF L] (.d (lks L)) := by
  refine (collectQ [] rfl 0 (.d (valF L)) L _ (valQ [] L rfl (by omega)) hE hl).known fun o x ⟨D, h1, h2, h3⟩ => ?_
  subst h1 h2 h3
  cases D with
  | nil => exact ⟨_, rfl, .d .nil⟩
  | cons z r =>
    have h := getX (Z := ([] : List Ob) ++ List.replicate (3 + 0) .gone) (x := z) (r := r)
    exact ⟨_, close_vec (L := z :: r) h, .d .refl⟩
theorem keysA (O : List Ob) (hO : O.all (refOb O.length) = true) (ia : Nat) (hi : ia < O.length) : ACall Try.prog 52 [.mp ia] O (.fn (.func 70) [] [.bp O.length 0]) (O ++ [.box [.mp ia]]) := by
  have w : Fz [] := trivial
  refine acallG_of_run Et_ok (fnB Try.func52 []) rfl rfl (by simp) ?_ (by simp [refA, Nat.blt_eq]) ?_
  · rw [List.all_append, refs_mono (by simp) hO]; simp [refOb, refA, Nat.blt_eq]; omega
  have w : Fz [] := trivial
  repeat refine zS ?_
  iterate 2 refine zX ?_
  repeat refine zS ?_
  iterate 2 refine zX ?_
  repeat refine zS ?_
  refine Run.ret ?_
  exact ⟨trivial, _, _, rfl, rfl, .refl, wk_refl _⟩
theorem wk_pre : ∀ O W : List Ob, WkObs (O ++ W) O
  | [], W => by cases W <;> trivial
  | _ :: O, W => ⟨.refl, wk_pre O W⟩
set_option maxHeartbeats 4000000 in
theorem sortedA (O : List Ob) (hO : O.all (refOb O.length) = true) (ia : Nat) (A : List (List Nat)) (hia : O[ia]? = some (.pm (kvT A))) (hA : Asc A) (hR : ∀ x ∈ A, Rt x) :
    ACall Try.prog 33 [.mp ia] O (.d (valF A)) O := by
  have w : Fz [] := trivial
  have hil := (List.getElem?_eq_some_iff.1 hia).1
  have hnd := asc_nodup hA
  have hAl := rt_card hnd hR
  have hO1 : (O ++ [Ob.box [.mp ia]]).all (refOb (O ++ [Ob.box [.mp ia]]).length) = true := by
    rw [List.all_append, refs_mono (by simp) hO]; simp [refOb, refA, Nat.blt_eq]; omega
  have hit := keysIt (O ++ [Ob.box [.mp ia]]) hO1 O.length ia A get0 (getO hia) hnd fun x hx => (hR x hx).len
  refine acallG_of_run Et_ok (fnB Try.func33 []) rfl rfl (Nat.le_refl _) hO rfl ?_
  have w : Fz [] := trivial
  repeat refine zS ?_
  refine zX ?_
  repeat refine zS ?_
  refine zX ?_
  refine oA (keysA O hO ia hil) ?_
  refine oQ (collectQ (O ++ [Ob.box [.mp ia]]) hO1 1 _ A _ hit (fun x hx => (hR x hx).len) (by omega)) fun o' r ⟨D, h1, h2, h3⟩ => ⟨_, rfl, ?_⟩
  subst h2 h3
  refine oV (v := outQ ((O ++ [Ob.box [.mp ia]]).length + 3 + 1) D) ?_ (he := rfl) (hp := by cases D <;> rfl)
  repeat refine zS ?_
  cases D with
  | nil =>
    have hA0 : A = [] := h1.symm.eq_nil
    subst hA0
    refine zX ?_
    refine zC sortNil ?_
    repeat refine zS ?_
    refine zX ?_
    refine zC (known_arg1 (valuesK []) .nil) ?_
    refine zX ?_
    repeat refine zS ?_
    refine Run.ret ?_
    refine ⟨trivial, _, _, rfl, rfl, .refl, ?_⟩
    simp only [List.append_assoc]
    exact wk_pre _ _
  | cons z r =>
    obtain ⟨L', hp, hs, hS⟩ := sortA cmpFst (z :: r) (fun x hx => hR x (h1.mem_iff.1 hx)) (by rw [h1.length_eq]; omega)
    have hLA : L' = A := asc_ext (asc_of_sorted hs (hp.nodup_iff.2 (h1.nodup_iff.2 hnd))) hA fun x => (hp.mem_iff).trans h1.mem_iff
    subst hLA
    have hZl : ((O ++ [Ob.box [.mp ia]]) ++ List.replicate (3 + 1) Ob.gone).length = (O ++ [Ob.box [AV.mp ia]]).length + 3 + 1 := by simp
    have hgx := getX (Z := (O ++ [Ob.box [.mp ia]]) ++ List.replicate (3 + 1) Ob.gone) (x := z) (r := r)
    rw [hZl] at hgx
    refine zX ?_
    refine oA (hS _ ((O ++ [Ob.box [.mp ia]]).length + 3 + 1 + r.length) hgx) ?_
    refine RunOps.nil ?_
    have hln : L'.length = r.length + 1 := hp.length_eq
    have hgl := (List.getElem?_eq_some_iff.1 hgx).1
    refine Run.freezeVec ((O ++ [Ob.box [.mp ia]]).length + 3 + 1 + r.length) (es := L'.map lk) (n := r.length + 1) (sz := 5) (ag := true) (T := 38) (tm' := PT.ofList [(3, .d (lks L'))]) ?_ ?_ (by rw [List.length_map, hln]) (fun e he => by obtain ⟨x, _, rfl⟩ := List.mem_map.1 he; rfl) (ofList_cases (by intro q hq; simp only [List.mem_cons, List.not_mem_nil, or_false] at hq; rcases hq with rfl; exact .inr ⟨by kernel_rfl, rfl⟩))
    · repeat refine zS ?_
      refine zX ?_
      refine zC (valuesK L') ?_
      refine zX ?_
      repeat refine zS ?_
      refine Run.ret ?_
      refine ⟨trivial, _, _, rfl, rfl, .refl, ?_⟩
      rw [List.set_set]
      simp only [List.append_assoc]
      rw [List.set_append_right _ _ (by simp; omega)]
      exact wk_pre _ _
    · rw [List.getElem?_set_self hgl, vecL, hln]
theorem sameLq (a b : List (List Nat)) (ha : ∀ x ∈ a, x.length ≤ 4) (hl : a.length ≤ 1048576) : KnownCall Try.prog 14 [lks a, lks b] (.d (.bool (decide (a = b)))) := by
  by_cases hab : a.length = b.length
  · refine kF Try.func14 [] fun w => ?_
    repeat' (first
      | refine zW ?_
      | refine zB ?_ ?_ <;> intro h <;> try exact zk h
      | ((exfalso; first | (simp at h <;> fail) | (simp at h; omega)))
      | fail)
    refine Run.loop (fun i : Nat => ⟨PT.ofList [(0, .d (lks a)), (1, .d (lks b)), (5, .d (.int .i64 i))], [], []⟩) (fun i => i ≤ a.length ∧ a.take i = b.take i) (fun i => a.length - i) 0 ⟨Nat.zero_le _, rfl⟩ (weak_of (by repeat' (first | exact trivial | refine ⟨rfl, ?_⟩))) (fun i hi => ?_)
    rcases Nat.lt_or_ge i a.length with hlt | hge
    · obtain ⟨x, hx⟩ := get_ok hlt
      obtain ⟨y, hy⟩ := get_ok (show i < b.length by omega)
      have hxl := ha x (List.mem_of_getElem? hx)
      by_cases hxy : x = y
      · subst hxy
        have hnx : a.take (i + 1) = b.take (i + 1) := by rw [List.take_add_one, List.take_add_one, hi.2, hx, hy]
        repeat' (first
          | refine zW ?_
          | refine zB ?_ ?_ <;> intro h <;> try exact zk h
          | refine zI w (.d (.ep (lkC x))) hx ?_
          | refine zI w (.d (.ep (lkC x))) hy ?_
          | (exact ⟨i + 1, ⟨hlt, hnx⟩, by omega, weak_of (by repeat' (first | exact trivial | refine ⟨rfl, ?_⟩ | refine ⟨(inc_get (k := i) (by kernel_rfl) (by omega)), ?_⟩))⟩)
          | ((exfalso; first | (simp at h <;> fail) | (simp at h; omega)))
          | fail)
      · have hne : a ≠ b := fun e => by subst e; rw [hx] at hy; cases hy; exact hxy rfl
        rw [decide_eq_false hne]
        repeat' (first
          | refine zW ?_
          | refine zB ?_ ?_ <;> intro h <;> try exact zk h
          | refine zI w (.d (.ep (lkC x))) hx ?_
          | refine zI w (.d (.ep (lkC y))) hy ?_
          | rfl
          | ((exfalso; simp only [Bool.not_eq_eq_eq_not, Bool.not_false, bne, Bool.and_eq_true, beq_iff_eq] at h; exact hxy (lk_inj hxl (by omega) (by omega) (by omega) (by omega) (by omega))))
          | ((exfalso; first | (simp at h <;> fail) | (simp at h; omega)))
          | fail)
    · have hie : i = a.length := by have := hi.1; omega
      have he : a = b := by
        have := hi.2
        rwa [hie, List.take_length, hab, List.take_length] at this
      rw [decide_eq_true he]
      subst hie
      repeat' (first
        | refine zW ?_
        | refine zB ?_ ?_ <;> intro h <;> try exact zk h
        | rfl
        | ((exfalso; first | (simp at h <;> fail) | (simp at h; omega)))
        | fail)
  · have hne : a ≠ b := fun e => hab (by rw [e])
    rw [decide_eq_false hne]
    refine kF Try.func14 [] fun w => ?_
    repeat' (first
      | refine zW ?_
      | refine zB ?_ ?_ <;> intro h <;> try exact zk h
      | rfl
      | ((exfalso; first | (simp at h <;> fail) | (simp at h; omega)))
      | fail)
structure GProd where
  left : Int
  right : List Int
structure Gram where
  k : Int
  tokens : List (List Nat)
  sep : List Nat
  names : List (List Nat)
  start : Int
  prods : List GProd
def encP (p : GProd) : DV := .agg [.int .i64 p.left, ints p.right]
abbrev encG (g : Gram) : DV := .agg [.int .i64 g.k, strs g.tokens, .str g.sep, strs g.names, .int .i64 g.start, .sl 2 (g.prods.map encP)]
structure Fits (g : Gram) : Prop where
  tokens : g.tokens.length ≤ 1048576
  names : g.names.length ≤ 1048576
  prods : g.prods.length ≤ 1048576
  sep : g.sep.length ≤ 1048576
  tokenS : ∀ s ∈ g.tokens, s.length ≤ 1048576
  nameS : ∀ s ∈ g.names, s.length ≤ 1048576
  rights : ∀ p ∈ g.prods, p.right.length ≤ 1048576
def isTerm (g : Gram) (s : Int) : Bool := decide (0 ≤ s) && decide (s < g.tokens.length)
def isNonterm (g : Gram) (s : Int) : Bool := decide (16 ≤ s) && decide (s < 16 + g.names.length)
theorem terminal0 (g : Gram) (s : Int) : ACall Try.prog 67 [.d (encG g), .d (.int .i64 s)] [] (.d (.bool (isTerm g s))) [] := by
  have w : Fz [2] := trivial
  refine acall_of_run Et_ok (fnB Try.func67 [2]) rfl rfl ?_
  by_cases h : 0 ≤ s
  · refine Run.seq (Run.region ?_)
    iterate 2 refine zX ?_
    refine RunOps.nil ?_
    refine Run.seq (Run.region ?_)
    iterate 1 refine zX ?_
    first | refine oV (v := .d (.bool true)) ?_ (he := (by simp [h])) | refine eX (v := .d (.bool true)) ?_ (he := (by simp [h]))
    repeat refine zA ?_
    refine Run.ret ?_
    refine ⟨trivial, rfl, Eq.trans (b := some (.d (.bool (decide (s < ((g.tokens.map DV.str).length : Nat)))))) (by kernel_rfl) ?_⟩
    simp [isTerm, h]
  · refine Run.seq (Run.region ?_)
    iterate 2 refine zX ?_
    refine RunOps.nil ?_
    refine Run.seq (Run.region ?_)
    iterate 1 refine zX ?_
    first | refine oV (v := .d (.bool false)) ?_ (he := (by simp [h])) | refine eX (v := .d (.bool false)) ?_ (he := (by simp [h]))
    iterate 1 refine zX ?_
    iterate 5 refine RunOps.skip (by rfl) (by rfl) ?_
    repeat refine zA ?_
    refine Run.ret ?_
    refine ⟨trivial, rfl, Eq.trans (b := some (.d (.bool false))) (by kernel_rfl) ?_⟩
    simp [isTerm, h]
theorem terminal (g : Gram) (s : Int) : KnownCall Try.prog 67 [encG g, .int .i64 s] (.d (.bool (isTerm g s))) := fun o => pure_call (k := 8) rfl (terminal0 g s) rfl o
theorem allProds0 (ps : List GProd) (hl : ps.length ≤ 1099511627776) (yi L : Nat) (B : Nat → List Ob) (hyi : Nat.blt yi L = true) (hL : ∀ k, (B k).length = L) (hR : ∀ k, (B k).all (refOb L) = true) (n : Nat) (hn : n ≤ ps.length)
    (hy : ∀ k p, k < n → ps[k]? = some p → AYield Try.prog yi [.d (.int .i64 k), .d (encP p)] (B k) (.d (.bool true)) (B (k + 1))) (obs : List Ob)
    (hend : n = ps.length ∧ obs = B n ∨ ∃ p, ps[n]? = some p ∧ AYield Try.prog yi [.d (.int .i64 n), .d (encP p)] (B n) (.d (.bool false)) obs) :
    ACall Try.prog 108 [.yl yi, .d (.ep [.sl 2 (ps.map encP)])] (B 0) (.tup []) obs := by
  have w : Fz [] := trivial
  refine acall_of_run Et_ok (fnB Try.func108 []) rfl rfl ?_
  repeat refine zA ?_
  refine Run.loop (fun k : Nat => ⟨PT.ofList [(0, .yl yi), (5, .d (.sl 2 (ps.map encP))), (6, .d (.int .i64 (ps.map encP).length)), (7, .d (.int .i64 k))], B k, []⟩) (fun k => k ≤ n) (fun k => ps.length - k) 0 (Nat.zero_le _) (weak_of ⟨rfl, rfl, rfl, rfl, trivial⟩) (fun k hk => ?_)
  repeat refine zA ?_
  refine Run.cond (by rfl) (fun h => ?_) (fun h => ?_)
  · have hlt : k < ps.length := by simpa using h
    obtain ⟨p, hp⟩ := get_ok hlt
    repeat refine zA ?_
    first | refine oV (v := .d (.ep [.int .i64 p.left, ints p.right])) ?_ (hf := (by first | (simp [inB] <;> fail) | (simp [inB]; omega))) (he := (by first | (simp [List.getD_eq_getElem?_getD, cellsD, hp, encP] <;> fail) | fail)) | refine eX (v := .d (.ep [.int .i64 p.left, ints p.right])) ?_ (hf := (by first | (simp [inB] <;> fail) | (simp [inB]; omega))) (he := (by first | (simp [List.getD_eq_getElem?_getD, cellsD, hp, encP] <;> fail) | fail))
    repeat refine zA ?_
    refine RunOps.x (frz := []) (v := .d .any) (ob := some (B k ++ [.box [.d (.int .i64 p.left), .d (ints p.right)]])) (fl := true) Et_ok (by rfl)
      (Eq.trans (b := Option.map (fun (p : AV × List Ob × Bool) => (p.1, some p.2.1, p.2.2)) (storeR Et 48 (.bp (B k).length 0) (.d (.agg [.int .i64 p.left, ints p.right])) (B k ++ [.box [.d (.int .i64 0), .d .nilsl]]))) rfl (by rw [store_last (y := ty48) (by rfl) (B k) _ (by rfl) (by rfl) (by rfl)]; rfl)) rfl rfl rfl rfl (by rfl) ?_
    repeat refine zA ?_
    refine RunOps.x (frz := []) (v := .d (.agg [.int .i64 p.left, ints p.right])) (ob := none) (fl := true) Et_ok (by rfl)
      (Eq.trans (b := Option.map (fun (p : AV × List Ob × Bool) => (p.1, none, p.2.2)) (loadR Et 48 (.bp (B k).length 0) (B k ++ [.box [.d (.int .i64 p.left), .d (ints p.right)]]))) rfl (by rw [load_last (y := ty48) (by rfl) (by rfl) (B k) _ (by rfl)]; rfl)) rfl rfl rfl rfl (by rfl) ?_
    have hLk := hL k
    have hb : Nat.blt yi (B k).length = true := by rw [hLk]; exact hyi
    refine RunOps.less (less_of [(5, .d (.sl 2 (ps.map encP))), (6, .d (.int .i64 (ps.map encP).length)), (7, .d (.int .i64 k)), (12, .yl yi), (0, .yl yi), (13, .d (.int .i64 k)), (14, .d (encP p))] (B k).length (List.take_left) (by rw [hL, hL]; exact Nat.ble_eq_true_of_le (Nat.le_refl _))
      ⟨by kernel_rfl, by kernel_rfl, by kernel_rfl, by kernel_rfl, by kernel_rfl, by kernel_rfl, by kernel_rfl, trivial⟩ ⟨rfl, rfl, rfl, hb, hb, rfl, rfl, trivial⟩ (by rw [hLk]; exact hR k) rfl) ?_
    rcases Nat.lt_or_ge k n with hkn | hkn
    · refine RunOps.yield (by rfl) (by rfl) (hy k p hkn hp) (by rfl) (by rfl) ?_
      repeat refine zA ?_
      refine Run.cond (b := false) (by rfl) (fun h => by cases h) (fun _ => ?_)
      repeat refine zA ?_
      exact ⟨k + 1, hkn, by omega, weak_of ⟨(by kernel_rfl), (by kernel_rfl), (by kernel_rfl), (inc_get (k := k) (by kernel_rfl) (by omega)), trivial⟩⟩
    · have hkn : k = n := by omega
      subst hkn
      rcases hend with ⟨h1, _⟩ | ⟨p', hp', hA⟩
      · omega
      · rw [hp] at hp'; cases hp'
        refine RunOps.yield (by rfl) (by rfl) hA (by rfl) (by rfl) ?_
        repeat refine zA ?_
        refine Run.cond (b := true) (by rfl) (fun _ => ?_) (fun h => by cases h)
        refine Run.ret ?_
        exact ⟨trivial, rfl, by kernel_rfl⟩
  · have hge : ps.length ≤ k := by simpa using h
    have hkn : k = n := by omega
    subst hkn
    rcases hend with ⟨_, rfl⟩ | ⟨p', hp', _⟩
    · repeat refine zA ?_
      exact ⟨trivial, rfl, by kernel_rfl⟩
    · rw [List.getElem?_eq_none (by omega)] at hp'; cases hp'
abbrev allProdsF (ps : List GProd) : DV := .fn (.func 108) [] [.ep [.sl 2 (ps.map encP)]]
theorem Run.rangeProds {nt m : Nat} {frz : List Nat} {K : Ex → S → Prop} {tm : PT AV} {dl : List Dl} {f : Operand} {qs : Array Tmp} {assign body : Code} (L : Nat) (Bs : Nat → List Ob) (ps : List GProd) (hl : ps.length ≤ 1099511627776)
    (hf : rd tm f = .d (allProdsF ps)) (hBL : ∀ k, (Bs k).length = L) (hBr : ∀ k, (Bs k).all (refOb (L + 2)) = true) (hT : ptAll (refA 8 (L + 2)) tm = true) (n : Nat) (hn : n ≤ ps.length)
    (hround : ∀ k p, k < n → ps[k]? = some p → AYield Try.prog (L + 1) [.d (.int .i64 k), .d (encP p)] (rangeObs (Bs k) tm nt frz qs assign body .ready none) (.d (.bool true)) (rangeObs (Bs (k + 1)) tm nt frz qs assign body .ready none))
    (hend : (n = ps.length ∧ K .normal ⟨tm, rangeObs (Bs n) tm nt frz qs assign body .exhausted none, .mark L :: dl⟩) ∨
      ∃ p Be, ps[n]? = some p ∧ (Be.length = L) ∧ ((AYield Try.prog (L + 1) [.d (.int .i64 n), .d (encP p)] (rangeObs (Bs n) tm nt frz qs assign body .ready none) (.d (.bool false)) (rangeObs Be tm nt frz qs assign body .done (some .ret)) ∧
          K .ret ⟨tm, rangeObs Be tm nt frz qs assign body .exhausted (some .ret), .mark L :: dl⟩) ∨
        ∃ id, AYield Try.prog (L + 1) [.d (.int .i64 n), .d (encP p)] (rangeObs (Bs n) tm nt frz qs assign body .ready none) (.d (.bool false)) (rangeObs Be tm nt frz qs assign body .done (some (.exit id))) ∧
          K (.exit id) ⟨tm, rangeObs Be tm nt frz qs assign body .exhausted (some (.exit id)), .mark L :: dl⟩)) :
    Run Try.prog nt m none (.rangeFunc f qs assign body) ⟨tm, Bs 0, dl⟩ K := by
  have hlen : ∀ B : List Ob, B.length = L → ∀ st pend, (rangeObs B tm nt frz qs assign body st pend).length = L + 2 := fun B h st pend => by simp [rangeObs, h]
  have hrefs : ∀ k, (rangeObs (Bs k) tm nt frz qs assign body .ready none).all (refOb (L + 2)) = true := fun k => by
    simp only [rangeObs, List.all_append, hBr k, Bool.true_and, List.all_cons, List.all_nil, Bool.and_true]
    simp only [refOb, hT, Bool.and_self]
  have hget : ∀ B : List Ob, B.length = L → ∀ st pend, (rangeObs B tm nt frz qs assign body st pend)[L + 1]? = some (.loop tm nt frz qs assign body st pend) := fun B h st pend => by
    subst h; simp [rangeObs]
  have hset : ∀ B : List Ob, B.length = L → ∀ st pend st' pend', (rangeObs B tm nt frz qs assign body st pend).set (L + 1) (.loop tm nt frz qs assign body st' pend') = rangeObs B tm nt frz qs assign body st' pend' := fun B h st pend st' pend' => by
    subst h
    unfold rangeObs
    rw [List.set_append_right _ _ (by simp)]
    simp
  have hyi : Nat.blt (L + 1) (L + 2) = true := by rw [Nat.blt_eq]; omega
  have hm : Try.prog.follows .mixedOrders = true := by kernel_rfl
  rcases hend with ⟨h1, h2⟩ | ⟨p, Be, hp, hBe, ⟨h1, h2⟩ | ⟨id, h1, h2⟩⟩
  · have hA := allProds0 ps hl (L + 1) (L + 2) (fun k => rangeObs (Bs k) tm nt frz qs assign body .ready none) hyi (fun k => hlen _ (hBL k) _ _) hrefs n hn hround (rangeObs (Bs n) tm nt frz qs assign body .ready none) (.inl ⟨h1, rfl⟩)
    rw [← hBL 0] at hA
    have := Run.range (m := m) (s := ⟨tm, Bs 0, dl⟩) (K := K) Et_ok hm hf hA rfl (by rw [hBL 0]; exact hget _ (hBL n) _ _) (by simp) (by
      simp only [hBL 0]
      rw [hset _ (hBL n)]
      exact h2)
    exact this
  · have hA := allProds0 ps hl (L + 1) (L + 2) (fun k => rangeObs (Bs k) tm nt frz qs assign body .ready none) hyi (fun k => hlen _ (hBL k) _ _) hrefs n hn hround (rangeObs Be tm nt frz qs assign body .done (some .ret)) (.inr ⟨p, hp, h1⟩)
    rw [← hBL 0] at hA
    have := Run.range (m := m) (s := ⟨tm, Bs 0, dl⟩) (K := K) Et_ok hm hf hA rfl (by rw [hBL 0]; exact hget _ hBe _ _) (by simp) (by
      simp only [hBL 0]
      rw [hset _ hBe]
      exact h2)
    exact this
  · have hA := allProds0 ps hl (L + 1) (L + 2) (fun k => rangeObs (Bs k) tm nt frz qs assign body .ready none) hyi (fun k => hlen _ (hBL k) _ _) hrefs n hn hround (rangeObs Be tm nt frz qs assign body .done (some (.exit id))) (.inr ⟨p, hp, h1⟩)
    rw [← hBL 0] at hA
    have := Run.range (m := m) (s := ⟨tm, Bs 0, dl⟩) (K := K) Et_ok hm hf hA rfl (by rw [hBL 0]; exact hget _ hBe _ _) (by simp) (by
      simp only [hBL 0]
      rw [hset _ hBe]
      exact h2)
    exact this
theorem wrap64 {n : Int} (h1 : -9223372036854775808 ≤ n) (h2 : n ≤ 9223372036854775807) : IntKind.i64.wrap n = n := IntWalk.i64_in n ⟨h1, h2⟩
theorem nonterminal (g : Gram) (s : Int) (hf : Fits g) : KnownCall Try.prog 68 [encG g, .int .i64 s] (.d (.bool (isNonterm g s))) := by
  have hn := hf.names
  have hw : IntKind.i64.wrap (16 + (g.names.length : Int)) = 16 + g.names.length := wrap64 (by omega) (by omega)
  refine kF Try.func68 [2] fun w => ?_
  repeat' (first
    | refine zW ?_
    | refine zB ?_ ?_ <;> intro h <;> try exact zk h
    | (show _ = _; first | (simp_all [isNonterm]; done) | (simp_all [isNonterm]; omega))
    | fail)
def letterF (c : Int) : Bool := (decide (97 ≤ c) && decide (c ≤ 122)) || (decide (65 ≤ c) && decide (c ≤ 90))
def digitF (c : Int) : Bool := decide (48 ≤ c) && decide (c ≤ 57)
def badAt (s : List Nat) (i : Nat) : Prop := ∃ c : Nat, s[i]? = some c ∧ letterF c = false ∧ (i = 0 ∨ (digitF c = false ∧ (c : Int) ≠ 95))
open Classical in
def wordF (s : List Nat) : Int := if s = [] then 5 else if ∃ i, badAt s i then 3 else if 12 < s.length then 4 else 0
def wLook : List Nat := [108, 111, 111, 107, 97, 104, 101, 97, 100]
def wToken : List Nat := [116, 111, 107, 101, 110]
def wSep : List Nat := [115, 101, 112, 97, 114, 97, 116, 111, 114]
def wStart : List Nat := [115, 116, 97, 114, 116]
def languageF (s : List Nat) : Bool := decide (s = wLook ∨ s = wToken ∨ s = wSep ∨ s = wStart)
def nameF (s : List Nat) : Int := if wordF s = 0 ∧ languageF s = true then 12 else wordF s
theorem letter (c : Int) : KnownCall Try.prog 112 [.int .i32 c] (.d (.bool (letterF c))) := by
  refine kF Try.func112 [] fun w => ?_
  repeat' (first
    | refine zW ?_
    | refine zB ?_ ?_ <;> intro h <;> try exact zk h
    | (show _ = _; first | (simp_all [letterF]; done) | (simp_all [letterF]; omega))
    | fail)
theorem digit (c : Int) : KnownCall Try.prog 113 [.int .i32 c] (.d (.bool (digitF c))) := by
  refine kF Try.func113 [] fun w => ?_
  repeat' (first
    | refine zW ?_
    | refine zB ?_ ?_ <;> intro h <;> try exact zk h
    | (show _ = _; first | (simp_all [digitF]; done) | (simp_all [digitF]; omega))
    | fail)
theorem wordF_bad {s : List Nat} (hs : s ≠ []) {i : Nat} (h : badAt s i) : wordF s = 3 := by
  unfold wordF
  rw [if_neg hs, if_pos ⟨i, h⟩]
theorem wordF_good {s : List Nat} (hs : s ≠ []) (h : ∀ i, ¬ badAt s i) : wordF s = if 12 < s.length then 4 else 0 := by
  unfold wordF
  rw [if_neg hs, if_neg (fun ⟨i, hi⟩ => h i hi)]
theorem word (s : List Nat) (hl : s.length ≤ 1099511627776) : KnownCall Try.prog 109 [.str s] (.d (.int .i64 (wordF s))) := by
  refine kF Try.func109 [] fun w => ?_
  repeat' (first
    | refine zW ?_
    | refine zB ?_ ?_ <;> intro h <;> try exact zk h
    | (show _ = _; simp_all [wordF])
    | fail)
  have hs : s ≠ [] := by simpa using h
  refine Run.loop (fun i : Nat => ⟨PT.ofList [(0, .d (.str s)), (8, .bp 0 0)], [.sit s i], []⟩) (fun i => i ≤ s.length ∧ ∀ j, j < i → ¬ badAt s j) (fun i => s.length - i) 0 ⟨Nat.zero_le _, fun j hj => by omega⟩ (weak_of ⟨rfl, rfl, trivial⟩) (fun i hi => ?_)
  obtain ⟨hi1, hi2⟩ := hi
  rcases Nat.lt_or_ge i s.length with hlt | hge
  · obtain ⟨c, hc⟩ := get_ok hlt
    have hbad : badAt s i ↔ letterF c = false ∧ (i = 0 ∨ (digitF c = false ∧ (c : Int) ≠ 95)) := ⟨fun ⟨c', h1, h2⟩ => by rw [hc] at h1; cases h1; exact h2, fun h => ⟨c, hc, h⟩⟩
    rcases Nat.lt_or_ge c 128 with h8 | h8
    · have hd := decL_ascii hc h8
      repeat' (first
        | refine zW ?_
        | refine zB ?_ ?_ <;> intro h <;> try exact zk h
        | refine RunOps.next Et_ok (by rfl) (by rfl) (by rfl) hlt hd (by rfl) (by rfl) (by rfl) ?_
        | refine zK (letter _) ?_ ?_ <;> intro h <;> try exact zk h
        | refine zC (letter _) ?_
        | refine zK (digit _) ?_ ?_ <;> intro h <;> try exact zk h
        | refine zC (digit _) ?_
        | (show _ = _; rw [wordF_bad hs (i := i) (hbad.2 (by simp_all))])
        | (exact ⟨i + 1, ⟨by omega, fun j hj => by rcases Nat.lt_succ_iff_lt_or_eq.1 hj with h | h; exact hi2 j h; subst h; rw [hbad]; simp_all⟩, by omega, weak_of' (by rfl) rfl ⟨(by kernel_rfl), (by kernel_rfl), trivial⟩⟩)
        | fail)
    · have hd := decL_high hc h8
      obtain ⟨r, n, hrn⟩ : ∃ r n, decL s i = (r, n) := ⟨_, _, rfl⟩
      rw [hrn] at hd
      have hb : badAt s i := hbad.2 ⟨by simp [letterF]; omega, .inr ⟨by simp [digitF]; omega, by omega⟩⟩
      have hr1 : letterF r = false := by simp [letterF]; simp at hd; omega
      have hr2 : digitF r = false := by simp [digitF]; simp at hd; omega
      have hr3 : (r : Int) ≠ 95 := by simp at hd; omega
      repeat' (first
        | refine zW ?_
        | refine zB ?_ ?_ <;> intro h <;> try exact zk h
        | refine RunOps.next Et_ok (by rfl) (by rfl) (by rfl) hlt hrn (by rfl) (by rfl) (by rfl) ?_
        | refine zK (letter _) ?_ ?_ <;> intro h <;> try exact zk h
        | refine zC (letter _) ?_
        | refine zK (digit _) ?_ ?_ <;> intro h <;> try exact zk h
        | refine zC (digit _) ?_
        | (show _ = _; rw [wordF_bad hs (i := i) hb])
        | (exfalso; simp_all)
        | fail)
  · have hge : i = s.length := by omega
    have hall : ∀ j, ¬ badAt s j := fun j hj => by
      by_cases hlt : j < i
      · exact hi2 j hlt hj
      · obtain ⟨c, h1, _⟩ := hj
        rw [List.getElem?_eq_none (by omega)] at h1; cases h1
    repeat' (first
      | refine zW ?_
      | refine zB ?_ ?_ <;> intro h <;> try exact zk h
      | refine RunOps.nextEnd Et_ok (by rfl) (by rfl) (by rfl) (Nat.le_of_eq hge.symm) (by rfl) (by rfl) ?_
      | (show _ = _; rw [wordF_good hs hall]; first | (simp_all [] <;> fail) | (simp_all []; omega))
      | fail)
theorem all_succ {p : Nat → Prop} {i : Nat} (h : ∀ j, j < i → p j) (h' : p i) : ∀ j, j < i + 1 → p j := fun j hj => by
  rcases Nat.lt_succ_iff_lt_or_eq.1 hj with h1 | h1
  · exact h j h1
  · exact h1 ▸ h'
def findF (l : List (List Nat)) (s : List Nat) : Int := if s ∈ l then (l.idxOf s : Nat) else -1
theorem findF_at {l : List (List Nat)} {s : List Nat} {i : Nat} (h : l[i]? = some s) (hb : ∀ j, j < i → l[j]? ≠ some s) : findF l s = i := by
  have hm : s ∈ l := List.mem_of_getElem? h
  have hi : i < l.length := (List.getElem?_eq_some_iff.1 h).1
  have h1 : l.idxOf s < l.length := List.idxOf_lt_length_iff.2 hm
  have h2 : l[l.idxOf s]? = some s := by rw [List.getElem?_eq_getElem h1, List.getElem_idxOf h1]
  have h3 : ¬ l.idxOf s < i := fun hlt => hb _ hlt h2
  have h4 : ¬ i < l.idxOf s := fun hlt => by
    have := List.not_of_lt_findIdx hlt
    have e : l[i] = s := (List.getElem?_eq_some_iff.1 h).2
    simp [e] at this
  rw [findF, if_pos hm]; omega
theorem findF_none {l : List (List Nat)} {s : List Nat} (hb : ∀ j, j < l.length → l[j]? ≠ some s) : findF l s = -1 := by
  rw [findF, if_neg]
  intro hm
  obtain ⟨i, hi, e⟩ := List.getElem_of_mem hm
  exact hb i hi (by rw [List.getElem?_eq_getElem hi, e])
theorem index (l : List (List Nat)) (s : List Nat) (hl : l.length ≤ 1099511627776) : KnownCall Try.prog 115 [strs l, .str s] (.d (.int .i64 (findF l s))) := by
  refine kF Try.func115 [] fun w => ?_
  repeat' (first
    | refine zW ?_
    | refine zB ?_ ?_ <;> intro h <;> try exact zk h
    | fail)
  refine Run.loop (fun i : Nat => ⟨PT.ofList [(7, .d (.int .i64 ((l.map DV.str).length : Nat))), (0, .d (strs l)), (1, .d (.str s)), (8, .d (.int .i64 i))], [], []⟩) (fun i => i ≤ l.length ∧ ∀ j, j < i → l[j]? ≠ some s) (fun i => l.length - i) 0 ⟨Nat.zero_le _, fun j hj => by omega⟩ (weak_of (by repeat' (first | exact trivial | refine ⟨rfl, ?_⟩))) (fun i hi => ?_)
  obtain ⟨hi1, hi2⟩ := hi
  rcases Nat.lt_or_ge i l.length with hlt | hge
  · obtain ⟨x, hx⟩ := get_ok hlt
    repeat' (first
      | refine zW ?_
      | refine zB ?_ ?_ <;> intro h <;> try exact zk h
      | refine zI w (.d (.ep [.str x])) hx ?_
      | (show _ = _; rw [findF_at (i := i) (by simp_all) hi2])
      | (exact ⟨i + 1, ⟨by omega, all_succ hi2 (by rw [hx]; intro e; simp_all)⟩, by omega, weak_of (by repeat' (first | exact trivial | refine ⟨rfl, ?_⟩ | refine ⟨(inc_get (k := i) (by kernel_rfl) (by omega)), ?_⟩))⟩)
      | fail)
  · have hge : i = l.length := by omega
    repeat' (first
      | refine zW ?_
      | refine zB ?_ ?_ <;> intro h <;> try exact zk h
      | (show _ = _; rw [findF_none (fun j hj => hi2 j (by omega))])
      | fail)
abbrev wordsA : List AV := [.d (.str wLook), .d (.str wToken), .d (.str wSep), .d (.str wStart)]
theorem indexW (s : List Nat) : ACall Try.prog 115 [.bs 0 0 4 4, .d (.str s)] [.box wordsA] (.d (.int .i64 (findF [wLook, wToken, wSep, wStart] s))) [.box wordsA] := by
  have w : Fz [] := trivial
  refine acall_of_run Et_ok (fnB Try.func115 []) rfl rfl ?_
  repeat' (first
    | refine zW ?_
    | refine zB ?_ ?_ <;> intro h <;> try exact zk h
    | fail)
  refine Run.loop (fun i : Nat => ⟨PT.ofList [(0, .bs 0 0 4 4), (1, .d (.str s)), (7, .d (.int .i64 4)), (8, .d (.int .i64 i))], [.box wordsA], []⟩) (fun i => i ≤ 4 ∧ ∀ j, j < i → [wLook, wToken, wSep, wStart][j]? ≠ some s) (fun i => 4 - i) 0 ⟨Nat.zero_le _, fun j hj => by omega⟩ (weak_of (by repeat' (first | exact trivial | refine ⟨rfl, ?_⟩))) (fun i hi => ?_)
  obtain ⟨hi1, hi2⟩ := hi
  have hcase : i = 0 ∨ i = 1 ∨ i = 2 ∨ i = 3 ∨ i = 4 := by omega
  rcases hcase with h | h | h | h | h <;> subst h
  · repeat' (first
      | refine zW ?_
      | refine zB ?_ ?_ <;> intro h <;> try exact zk h
      | (exact ⟨1, ⟨by omega, all_succ hi2 (fun e => by simp at e; subst e; simp at h)⟩, by omega, weak_of (by repeat' (first | exact trivial | refine ⟨rfl, ?_⟩))⟩)
      | fail)
    have hs : s = wLook := by simpa using h
    refine Run.ret ?_
    refine ⟨trivial, rfl, Eq.trans (b := some (.d (.int .i64 0))) (by rfl) ?_⟩
    rw [findF_at (i := 0) (by rw [hs]; rfl) hi2]; rfl
  · repeat' (first
      | refine zW ?_
      | refine zB ?_ ?_ <;> intro h <;> try exact zk h
      | (exact ⟨2, ⟨by omega, all_succ hi2 (fun e => by simp at e; subst e; simp at h)⟩, by omega, weak_of (by repeat' (first | exact trivial | refine ⟨rfl, ?_⟩))⟩)
      | fail)
    have hs : s = wToken := by simpa using h
    refine Run.ret ?_
    refine ⟨trivial, rfl, Eq.trans (b := some (.d (.int .i64 1))) (by rfl) ?_⟩
    rw [findF_at (i := 1) (by rw [hs]; rfl) hi2]; rfl
  · repeat' (first
      | refine zW ?_
      | refine zB ?_ ?_ <;> intro h <;> try exact zk h
      | (exact ⟨3, ⟨by omega, all_succ hi2 (fun e => by simp at e; subst e; simp at h)⟩, by omega, weak_of (by repeat' (first | exact trivial | refine ⟨rfl, ?_⟩))⟩)
      | fail)
    have hs : s = wSep := by simpa using h
    refine Run.ret ?_
    refine ⟨trivial, rfl, Eq.trans (b := some (.d (.int .i64 2))) (by rfl) ?_⟩
    rw [findF_at (i := 2) (by rw [hs]; rfl) hi2]; rfl
  · repeat' (first
      | refine zW ?_
      | refine zB ?_ ?_ <;> intro h <;> try exact zk h
      | (exact ⟨4, ⟨by omega, all_succ hi2 (fun e => by simp at e; subst e; simp at h)⟩, by omega, weak_of (by repeat' (first | exact trivial | refine ⟨rfl, ?_⟩))⟩)
      | fail)
    have hs : s = wStart := by simpa using h
    refine Run.ret ?_
    refine ⟨trivial, rfl, Eq.trans (b := some (.d (.int .i64 3))) (by rfl) ?_⟩
    rw [findF_at (i := 3) (by rw [hs]; rfl) hi2]; rfl
  · repeat' (first
      | refine zW ?_
      | refine zB ?_ ?_ <;> intro h <;> try exact zk h
      | fail)
    refine Run.ret ?_
    refine ⟨trivial, rfl, Eq.trans (b := some (.d (.int .i64 (-1)))) (by rfl) ?_⟩
    rw [findF_none (l := [wLook, wToken, wSep, wStart]) hi2]
theorem containsW (s : List Nat) : ACall Try.prog 114 [.bs 0 0 4 4, .d (.str s)] [.box wordsA] (.d (.bool (languageF s))) [.box wordsA] := by
  have w : Fz [] := trivial
  refine acall_of_run Et_ok (fnB Try.func114 []) rfl rfl ?_
  repeat refine zA ?_
  refine RunOps.call (by rfl) (by rfl) (indexW s) (by rfl) (by rfl) ?_
  repeat refine zA ?_
  refine Run.ret ?_
  refine ⟨trivial, rfl, Eq.trans (b := some (.d (.bool (decide (0 ≤ findF [wLook, wToken, wSep, wStart] s))))) (by kernel_rfl) ?_⟩
  by_cases hm : s ∈ [wLook, wToken, wSep, wStart]
  · simp only [findF, if_pos hm]; simp_all [languageF]
  · simp only [findF, if_neg hm]; simp_all [languageF]
theorem language (s : List Nat) : KnownCall Try.prog 110 [.str s] (.d (.bool (languageF s))) := by
  refine kF Try.func110 [] fun w => ?_
  repeat refine zA ?_
  refine RunOps.call (by rfl) (by rfl) (containsW s) (by rfl) (by rfl) ?_
  repeat' (first
    | refine zW ?_
    | refine zB ?_ ?_ <;> intro h <;> try exact zk h
    | rfl
    | fail)
theorem check03 (s : List Nat) (hl : s.length ≤ 1099511627776) : KnownCall Try.prog 96 [.str s] (.d (.int .i64 (nameF s))) := by
  refine kF Try.func96 [] fun w => ?_
  repeat' (first
    | refine zW ?_
    | refine zB ?_ ?_ <;> intro h <;> try exact zk h
    | refine zK (word _ hl) ?_ ?_ <;> intro h <;> try exact zk h
    | refine zC (word _ hl) ?_
    | refine zK (language _) ?_ ?_ <;> intro h <;> try exact zk h
    | refine zC (language _) ?_
    | (show _ = _; first | (simp_all [nameF] <;> fail) | (simp_all [nameF]; omega))
    | fail)
def smallF (s : List Nat) : Bool := decide (nameF s = 0) && decide (97 ≤ s.getD 0 0)
def capitalF (s : List Nat) : Bool := decide (nameF s = 0) && decide (s.getD 0 0 < 97)
theorem name_first {s : List Nat} (h : nameF s = 0) : ∃ c : Nat, s[0]? = some c ∧ letterF c = true := by
  have hw : wordF s = 0 := by
    unfold nameF at h
    split at h
    · omega
    · exact h
  have hs : s ≠ [] := fun e => by simp [wordF, e] at hw
  obtain ⟨c, hc⟩ := get_ok (l := s) (i := 0) (List.length_pos_iff.2 hs)
  refine ⟨c, hc, ?_⟩
  cases hl : letterF c with
  | true => rfl
  | false => rw [wordF_bad hs ⟨c, hc, hl, .inl rfl⟩] at hw; omega
theorem letter_range {c : Nat} (h : letterF c = true) : (97 ≤ c ∧ c ≤ 122) ∨ (65 ≤ c ∧ c ≤ 90) := by simp [letterF] at h; omega
theorem small (s : List Nat) (hl : s.length ≤ 1099511627776) : KnownCall Try.prog 75 [.str s] (.d (.bool (smallF s))) := by
  refine kF Try.func75 [] fun w => ?_
  by_cases h0 : nameF s = 0
  · obtain ⟨c, hc, hlet⟩ := name_first h0
    have hr := letter_range hlet
    have hlt : 0 < s.length := (List.getElem?_eq_some_iff.1 hc).1
    have hg : s.getD 0 0 = c := by simp [List.getD_eq_getElem?_getD, hc]
    repeat' (first
      | refine zW ?_
      | refine zB ?_ ?_ <;> intro h <;> try exact zk h
      | refine zK (check03 _ hl) ?_ ?_ <;> intro h <;> try exact zk h
      | refine zC (check03 _ hl) ?_
      | refine zI w (.d (.int .u8 c)) hc ?_
      | (show _ = _; first | (simp_all [smallF] <;> fail) | (simp_all [smallF]; omega))
      | fail)
  · repeat' (first
      | refine zW ?_
      | refine zB ?_ ?_ <;> intro h <;> try exact zk h
      | refine zK (check03 _ hl) ?_ ?_ <;> intro h <;> try exact zk h
      | refine zC (check03 _ hl) ?_
      | (show _ = _; first | (simp_all [smallF] <;> fail) | (simp_all [smallF]; omega))
      | fail)
theorem capital (s : List Nat) (hl : s.length ≤ 1099511627776) : KnownCall Try.prog 76 [.str s] (.d (.bool (capitalF s))) := by
  refine kF Try.func76 [] fun w => ?_
  by_cases h0 : nameF s = 0
  · obtain ⟨c, hc, hlet⟩ := name_first h0
    have hr := letter_range hlet
    have hlt : 0 < s.length := (List.getElem?_eq_some_iff.1 hc).1
    have hg : s.getD 0 0 = c := by simp [List.getD_eq_getElem?_getD, hc]
    repeat' (first
      | refine zW ?_
      | refine zB ?_ ?_ <;> intro h <;> try exact zk h
      | refine zK (check03 _ hl) ?_ ?_ <;> intro h <;> try exact zk h
      | refine zC (check03 _ hl) ?_
      | refine zI w (.d (.int .u8 c)) hc ?_
      | (show _ = _; first | (simp_all [capitalF] <;> fail) | (simp_all [capitalF]; omega))
      | fail)
  · repeat' (first
      | refine zW ?_
      | refine zB ?_ ?_ <;> intro h <;> try exact zk h
      | refine zK (check03 _ hl) ?_ ?_ <;> intro h <;> try exact zk h
      | refine zC (check03 _ hl) ?_
      | (show _ = _; first | (simp_all [capitalF] <;> fail) | (simp_all [capitalF]; omega))
      | fail)
def smalls (g : Gram) : List (List Nat) := g.tokens ++ [g.sep]
open Classical in
def namedF (g : Gram) : Int := if (∃ s ∈ smalls g, smallF s = false) ∨ ∃ s ∈ g.names, capitalF s = false then 12 else 0
theorem slicesAll (ps : List GProd) : KnownCall Try.prog 95 [.sl 2 (ps.map encP)] (.d (allProdsF ps)) := by
  refine kF Try.func95 [1] fun w => ?_
  repeat refine zA ?_
  refine Run.ret ?_
  refine ⟨trivial, _, _, by rfl, by rfl, Eq.trans (b := some (.d (allProdsF ps))) (by kernel_rfl) ?_⟩
  rfl
theorem prodsOf (g : Gram) : KnownCall Try.prog 74 [encG g] (.d (allProdsF g.prods)) := by
  refine kF Try.func74 [1] fun w => ?_
  repeat refine zA ?_
  first | refine RunOps.call (by rfl) (by rfl) (slicesAll g.prods _) (by rfl) (by rfl) ?_ | refine EvD.call (by rfl) (by rfl) (by rfl) (slicesAll g.prods) (by rfl) (by rfl) ?_
  repeat refine zA ?_
  refine Run.ret ?_
  refine ⟨trivial, _, _, by rfl, by rfl, Eq.trans (b := some (.d (allProdsF g.prods))) (by kernel_rfl) ?_⟩
  rfl
def manyF (g : Gram) : Int := if 8 < g.tokens.length ∨ 8 < g.names.length ∨ 24 < g.prods.length ∨ ∃ p ∈ g.prods, 6 < p.right.length then 6 else 0
theorem many (g : Gram) (hf : Fits g) : KnownCall Try.prog 56 [encG g] (.d (.int .i64 (manyF g))) := by
  refine kF Try.func56 [1] fun w => ?_
  refine Run.seq (Run.region ?_)
  iterate 2 refine zX ?_
  refine RunOps.nil ?_
  refine Run.seq (Run.seq (Run.region ?_))
  iterate 3 refine zX ?_
  by_cases h1 : 8 < g.tokens.length
  · first | refine oV (v := .d (.bool true)) ?_ (he := (by simp; omega)) | refine eX (v := .d (.bool true)) ?_ (he := (by simp; omega))
    repeat refine zA ?_
    refine Run.cond (b := true) (by rfl) (fun _ => ?_) (fun h => by cases h)
    repeat refine zA ?_
    refine Run.ret ?_
    refine ⟨trivial, _, _, by rfl, by rfl, Eq.trans (b := some (.d (.int .i64 6))) (by kernel_rfl) ?_⟩
    simp [manyF, h1]
  · first | refine oV (v := .d (.bool false)) ?_ (he := (by simp; omega)) | refine eX (v := .d (.bool false)) ?_ (he := (by simp; omega))
    iterate 4 refine zX ?_
    by_cases h2 : 8 < g.names.length
    · first | refine oV (v := .d (.bool true)) ?_ (he := (by simp; omega)) | refine eX (v := .d (.bool true)) ?_ (he := (by simp; omega))
      repeat refine zA ?_
      refine Run.cond (b := true) (by rfl) (fun _ => ?_) (fun h => by cases h)
      repeat refine zA ?_
      refine Run.ret ?_
      refine ⟨trivial, _, _, by rfl, by rfl, Eq.trans (b := some (.d (.int .i64 6))) (by kernel_rfl) ?_⟩
      simp [manyF, h2]
    · first | refine oV (v := .d (.bool false)) ?_ (he := (by simp; omega)) | refine eX (v := .d (.bool false)) ?_ (he := (by simp; omega))
      iterate 5 refine zX ?_
      by_cases h3 : 24 < g.prods.length
      · first | refine oV (v := .d (.bool true)) ?_ (he := (by simp; omega)) | refine eX (v := .d (.bool true)) ?_ (he := (by simp; omega))
        repeat refine zA ?_
        refine Run.cond (b := true) (by rfl) (fun _ => ?_) (fun h => by cases h)
        repeat refine zA ?_
        refine Run.ret ?_
        refine ⟨trivial, _, _, by rfl, by rfl, Eq.trans (b := some (.d (.int .i64 6))) (by kernel_rfl) ?_⟩
        simp [manyF, h3]
      · first | refine oV (v := .d (.bool false)) ?_ (he := (by simp; omega)) | refine eX (v := .d (.bool false)) ?_ (he := (by simp; omega))
        repeat refine zA ?_
        refine Run.cond (b := false) (by rfl) (fun h => by cases h) (fun _ => ?_)
        repeat refine zA ?_
        first | refine RunOps.call (by rfl) (by rfl) (prodsOf g _) (by rfl) (by rfl) ?_ | refine EvD.call (by rfl) (by rfl) (by rfl) (prodsOf g) (by rfl) (by rfl) ?_
        repeat refine zA ?_
        obtain ⟨n, hn⟩ : ∃ n, n = g.prods.findIdx (fun p => decide (6 < p.right.length)) := ⟨_, rfl⟩
        have hidx : n ≤ g.prods.length := by rw [hn]; exact List.findIdx_le_length
        have hcase : n < g.prods.length ∨ n = g.prods.length := by omega
        refine Run.rangeProds (frz := [1]) 1 (fun _ => [.box [.d (.int .i64 0)]]) g.prods (Nat.le_trans hf.prods (by decide)) (by rfl) (fun _ => rfl) (fun _ => rfl) (by kernel_rfl) n hidx (fun k p hk hp => ?_) ?_
        · have hgood : ¬ 6 < p.right.length := by
            rw [hn] at hk
            have := List.not_of_lt_findIdx hk
            have e : g.prods[k] = p := by rw [List.getElem?_eq_some_iff] at hp; exact hp.2
            simpa [e] using this
          refine ayield_of_run (i := 2) (by rfl) (by rfl) (by rfl) ?_
          repeat refine zA ?_
          refine ⟨rfl, _, _, _, _, _, _, _, by rfl, ?_⟩
          refine Run.less ?_
          repeat refine zA ?_
          refine Run.cond (by rfl) (fun h => ?_) (fun h => ?_)
          · simp at h; omega
          · repeat refine zA ?_
            exact ⟨rfl, _, less_of [] 3 rfl (by rfl) trivial trivial (by kernel_rfl) rfl, _, _, _, _, _, _, _, _, by rfl, rfl, by rfl⟩
        · rcases hcase with hlt | hge
          · obtain ⟨p, hp⟩ := get_ok hlt
            have hbad : 6 < p.right.length := by
              rw [hn] at hp hlt
              have := List.findIdx_getElem (p := fun p : GProd => decide (6 < p.right.length)) (xs := g.prods) (w := hlt)
              have e : g.prods[g.prods.findIdx fun p => decide (6 < p.right.length)] = p := by rw [List.getElem?_eq_some_iff] at hp; exact hp.2
              rw [e] at this
              simpa using this
            refine .inr ⟨p, [.box [.d (.int .i64 6)]], hp, rfl, .inl ⟨?_, ?_⟩⟩
            · refine ayield_of_run (i := 2) (by rfl) (by rfl) (by rfl) ?_
              repeat refine zA ?_
              refine ⟨rfl, _, _, _, _, _, _, _, by rfl, ?_⟩
              refine Run.less ?_
              repeat refine zA ?_
              refine Run.cond (by rfl) (fun h => ?_) (fun h => ?_)
              · repeat refine zA ?_
                refine Run.ret ?_
                exact ⟨rfl, _, less_of [] 3 rfl (by rfl) trivial trivial (by kernel_rfl) rfl, _, _, _, _, _, _, _, _, by rfl, rfl, by rfl⟩
              · simp at h; omega
            · refine ⟨trivial, _, _, by rfl, by rfl, Eq.trans (b := some (.d (.int .i64 6))) (by kernel_rfl) ?_⟩
              have hm : manyF g = 6 := by
                unfold manyF
                rw [if_pos (.inr (.inr (.inr ⟨p, List.mem_of_getElem? hp, hbad⟩)))]
              rw [hm]
          · refine .inl ⟨hge, ?_⟩
            repeat refine zA ?_
            refine Run.ret ?_
            refine ⟨trivial, _, _, by rfl, by rfl, Eq.trans (b := some (.d (.int .i64 0))) (by kernel_rfl) ?_⟩
            have hm : manyF g = 0 := by
              unfold manyF
              rw [if_neg]
              rintro (h | h | h | ⟨p, hp, h⟩)
              · exact h1 h
              · exact h2 h
              · exact h3 h
              · have := List.findIdx_lt_length_of_exists (xs := g.prods) (p := fun p => decide (6 < p.right.length)) ⟨p, hp, by simpa using h⟩
                omega
            rw [hm]
theorem many_no {g : Gram} (h1 : ¬ 8 < g.tokens.length) (h2 : ¬ 8 < g.names.length) (h3 : ¬ 24 < g.prods.length) (h4 : ∀ (j : Nat) p, j < g.prods.length → g.prods[j]? = some p → ¬ 6 < p.right.length) : manyF g = 0 := by
  refine if_neg ?_
  rintro (h | h | h | ⟨p, hp, h⟩)
  · exact h1 h
  · exact h2 h
  · exact h3 h
  · obtain ⟨j, hj, e⟩ := List.getElem_of_mem hp
    exact h4 j p hj (by rw [List.getElem?_eq_getElem hj, e]) h
def namesF (g : Gram) : Int := if namedF g = 0 ∧ (¬ (smalls g).Nodup ∨ ¬ g.names.Nodup) then 8 else namedF g
theorem named_small {g : Gram} {i : Nat} {s : List Nat} (h : (smalls g)[i]? = some s) (h' : smallF s = false) : namedF g = 12 := if_pos (.inl ⟨s, List.mem_of_getElem? h, h'⟩)
theorem named_capital {g : Gram} {i : Nat} {s : List Nat} (h : g.names[i]? = some s) (h' : capitalF s = false) : namedF g = 12 := if_pos (.inr ⟨s, List.mem_of_getElem? h, h'⟩)
theorem named_no {g : Gram} (h1 : ∀ j : Nat, j < (smalls g).length → ∀ s, (smalls g)[j]? = some s → smallF s = true) (h2 : ∀ j : Nat, j < g.names.length → ∀ s, g.names[j]? = some s → capitalF s = true) : namedF g = 0 := by
  refine if_neg ?_
  rintro (⟨s, hs, h⟩ | ⟨s, hs, h⟩)
  · obtain ⟨j, hj, e⟩ := List.getElem_of_mem hs
    have := h1 j hj s (by rw [List.getElem?_eq_getElem hj, e])
    simp [this] at h
  · obtain ⟨j, hj, e⟩ := List.getElem_of_mem hs
    have := h2 j hj s (by rw [List.getElem?_eq_getElem hj, e])
    simp [this] at h
theorem Fits.small {g : Gram} (hf : Fits g) {i : Nat} {s : List Nat} (h : (smalls g)[i]? = some s) : s.length ≤ 1099511627776 := by
  have := List.mem_of_getElem? h
  simp only [smalls, List.mem_append, List.mem_singleton] at this
  rcases this with h | rfl
  · exact Nat.le_trans (hf.tokenS _ h) (by decide)
  · exact Nat.le_trans hf.sep (by decide)
theorem Fits.name {g : Gram} (hf : Fits g) {i : Nat} {s : List Nat} (h : g.names[i]? = some s) : s.length ≤ 1099511627776 := Nat.le_trans (hf.nameS _ (List.mem_of_getElem? h)) (by decide)
def prodsTo (g : Gram) (s : Int) (i : Nat) : List Nat := ((g.prods.take i).zipIdx.filter (fun q => decide (q.1.left = s))).map (·.2)
def prodsF (g : Gram) (s : Int) : List Nat := prodsTo g s g.prods.length
def goodS (g : Gram) (s : Int) : Bool := isTerm g s || isNonterm g s
def goodP (g : Gram) (p : GProd) : Prop := isNonterm g p.left = true ∧ ∀ s ∈ p.right, goodS g s = true
def symbolsOK (g : Gram) : Prop := isNonterm g g.start = true ∧ ∀ p ∈ g.prods, goodP g p
def orderBad (g : Gram) : Prop := ∃ (i : Nat) (p q : GProd), g.prods[i]? = some p ∧ g.prods[i + 1]? = some q ∧ q.left < p.left
def missing (g : Gram) : Prop := ∃ i : Nat, i < g.names.length ∧ prodsF g (16 + i) = []
open Classical in
def symbolsF (g : Gram) : Int := if symbolsOK g then (if orderBad g then 9 else if missing g then 7 else 0) else 14
open Classical in
def checkF (g : Gram) : Int := if g.k < 1 ∨ 4 < g.k then 2 else if manyF g ≠ 0 then manyF g else if g.tokens = [] ∨ g.names = [] then 5 else if namesF g ≠ 0 then namesF g else symbolsF g
def symName (g : Gram) (s : Int) : Option (List Nat) := if 16 ≤ s then g.names[(s - 16).toNat]? else if 0 ≤ s then g.tokens[s.toNat]? else none
theorem check_parts {g : Gram} (h : checkF g = 0) : manyF g = 0 ∧ g.tokens ≠ [] ∧ g.names ≠ [] ∧ namesF g = 0 ∧ symbolsF g = 0 := by
  unfold checkF at h
  split at h
  · omega
  · split at h
    · contradiction
    · split at h
      · omega
      · split at h
        · contradiction
        · rename_i h1 h2 h3 h4
          rw [not_or] at h3
          exact ⟨Classical.byContradiction h2, h3.1, h3.2, Classical.byContradiction h4, h⟩
theorem many_zero {g : Gram} (h : manyF g = 0) : g.tokens.length ≤ 8 ∧ g.names.length ≤ 8 ∧ g.prods.length ≤ 24 ∧ ∀ p ∈ g.prods, p.right.length ≤ 6 := by
  unfold manyF at h
  split at h
  · omega
  · rename_i hn
    simp only [not_or, not_exists, not_and] at hn
    exact ⟨by omega, by omega, by omega, fun p hp => by have := hn.2.2.2 p hp; omega⟩
theorem symbols_zero {g : Gram} (h : symbolsF g = 0) : symbolsOK g ∧ ¬ orderBad g ∧ ¬ missing g := by
  unfold symbolsF at h
  split at h
  · split at h
    · omega
    · split at h
      · omega
      · exact ⟨by assumption, by assumption, by assumption⟩
  · omega
theorem name_of_good {g : Gram} (ht : g.tokens.length ≤ 8) {s : Int} (h : goodS g s = true) : ∃ x, symName g s = some x := by
  simp only [goodS, isTerm, isNonterm, Bool.or_eq_true, Bool.and_eq_true, decide_eq_true_eq] at h
  unfold symName
  split
  · exact get_ok (by omega)
  · rw [if_pos (by omega)]
    exact get_ok (by omega)
def nameS (g : Gram) (s : Int) : List Nat := (symName g s).getD []
theorem nameS_of {g : Gram} {s : Int} {x : List Nat} (h : symName g s = some x) : nameS g s = x := by simp [nameS, h]
theorem cutL_all {α : Type} (l : List α) : cutL none (some (l.length : Int)) l = l := by simp [cutL]
def namedG (g : Gram) : Int := if g.tokens = [] ∨ g.names = [] then 5 else namedF g
theorem namedG_of {g : Gram} (h1 : g.tokens ≠ []) (h2 : g.names ≠ []) : namedG g = namedF g := if_neg (by simp [h1, h2])
theorem named (g : Gram) (hf : Fits g) : KnownCall Try.prog 57 [encG g] (.d (.int .i64 (namedG g))) := by
  have hft := hf.tokens
  have hfn := hf.names
  have hsl : (smalls g).length = g.tokens.length + 1 := by simp [smalls]
  by_cases h1 : g.tokens = []
  · have e : namedG g = 5 := if_pos (.inl h1)
    rw [e]
    refine kF Try.func57 [1, 28] fun w => ?_
    repeat' (first
      | refine zW ?_
      | refine zB ?_ ?_ <;> intro h <;> try exact zk h
      | refine zX ?_
      | rfl
      | (exfalso; (simp_all <;> fail))
      | fail)
  · by_cases h2 : g.names = []
    · have e : namedG g = 5 := if_pos (.inr h2)
      rw [e]
      have h1' : g.tokens.length ≠ 0 := by simpa using h1
      refine kF Try.func57 [1, 28] fun w => ?_
      repeat' (first
        | refine zW ?_
        | refine zB ?_ ?_ <;> intro h <;> try exact zk h
        | refine zX ?_
        | rfl
        | (exfalso; (simp_all <;> fail))
        | fail)
    · rw [namedG_of h1 h2]
      have h1' : g.tokens.length ≠ 0 := by simpa using h1
      have h2' : g.names.length ≠ 0 := by simpa using h2
      refine kF Try.func57 [1, 28] fun w => ?_
      repeat' (first
        | refine zW ?_
        | refine zB ?_ ?_ <;> intro h <;> try exact zk h
        | refine zX ?_
        | refine oV ?_ (hf := (by first | (simp [cutC] <;> fail) | (simp [cutC]; omega)))
        | refine eX ?_ (hf := (by first | (simp [cutC] <;> fail) | (simp [cutC]; omega)))
        | refine zAp ?_
        | (show _ = _; exfalso; (simp_all <;> fail))
        | fail)
      first | refine Run.tidy (tidy_of (objs := _) [(1, (.d (.ep [.int .i64 g.k, strs g.tokens, .str g.sep, strs g.names, .int .i64 g.start, .sl 2 (g.prods.map encP)]))), (29, .d (strs (smalls g))), (30, .d (.int .i64 (smalls g).length)), (31, .d (.int .i64 0))] 0 (Eq.trans (b := []) rfl rfl) rfl (by repeat' (first | exact trivial | refine ⟨(Or.inl rfl), ?_⟩ | refine ⟨(Or.inr rfl), ?_⟩ | refine ⟨rfl, ?_⟩ | refine ⟨(Or.inr (Eq.trans (b := some (.d (.sl 1 (cutL none (some ((g.tokens.map DV.str).length : Int)) (g.tokens.map DV.str) ++ [.str g.sep])))) rfl (by rw [cutL_all]; simp [smalls]))), ?_⟩ | refine ⟨(Or.inl (Eq.trans (b := some (.d (.int .i64 ((cutL none (some ((g.tokens.map DV.str).length : Int)) (g.tokens.map DV.str) ++ [DV.str g.sep]).length : Nat)))) rfl (by rw [cutL_all]; simp [smalls]))), ?_⟩ | fail)) (by repeat' (first | exact trivial | refine ⟨(Or.inl rfl), ?_⟩ | refine ⟨(Or.inr rfl), ?_⟩ | refine ⟨rfl, ?_⟩ | refine ⟨(Or.inr (Eq.trans (b := some (.d (.sl 1 (cutL none (some ((g.tokens.map DV.str).length : Int)) (g.tokens.map DV.str) ++ [.str g.sep])))) rfl (by rw [cutL_all]; simp [smalls]))), ?_⟩ | refine ⟨(Or.inl (Eq.trans (b := some (.d (.int .i64 ((cutL none (some ((g.tokens.map DV.str).length : Int)) (g.tokens.map DV.str) ++ [DV.str g.sep]).length : Nat)))) rfl (by rw [cutL_all]; simp [smalls]))), ?_⟩ | fail)) rfl rfl) ?_ | refine RunOps.tidy (tidy_of (objs := _) [(1, (.d (.ep [.int .i64 g.k, strs g.tokens, .str g.sep, strs g.names, .int .i64 g.start, .sl 2 (g.prods.map encP)]))), (29, .d (strs (smalls g))), (30, .d (.int .i64 (smalls g).length)), (31, .d (.int .i64 0))] 0 (Eq.trans (b := []) rfl rfl) rfl (by repeat' (first | exact trivial | refine ⟨(Or.inl rfl), ?_⟩ | refine ⟨(Or.inr rfl), ?_⟩ | refine ⟨rfl, ?_⟩ | refine ⟨(Or.inr (Eq.trans (b := some (.d (.sl 1 (cutL none (some ((g.tokens.map DV.str).length : Int)) (g.tokens.map DV.str) ++ [.str g.sep])))) rfl (by rw [cutL_all]; simp [smalls]))), ?_⟩ | refine ⟨(Or.inl (Eq.trans (b := some (.d (.int .i64 ((cutL none (some ((g.tokens.map DV.str).length : Int)) (g.tokens.map DV.str) ++ [DV.str g.sep]).length : Nat)))) rfl (by rw [cutL_all]; simp [smalls]))), ?_⟩ | fail)) (by repeat' (first | exact trivial | refine ⟨(Or.inl rfl), ?_⟩ | refine ⟨(Or.inr rfl), ?_⟩ | refine ⟨rfl, ?_⟩ | refine ⟨(Or.inr (Eq.trans (b := some (.d (.sl 1 (cutL none (some ((g.tokens.map DV.str).length : Int)) (g.tokens.map DV.str) ++ [.str g.sep])))) rfl (by rw [cutL_all]; simp [smalls]))), ?_⟩ | refine ⟨(Or.inl (Eq.trans (b := some (.d (.int .i64 ((cutL none (some ((g.tokens.map DV.str).length : Int)) (g.tokens.map DV.str) ++ [DV.str g.sep]).length : Nat)))) rfl (by rw [cutL_all]; simp [smalls]))), ?_⟩ | fail)) rfl rfl) ?_
      refine Run.loop (fun i : Nat => ⟨PT.ofList [(1, (.d (.ep [.int .i64 g.k, strs g.tokens, .str g.sep, strs g.names, .int .i64 g.start, .sl 2 (g.prods.map encP)]))), (29, .d (strs (smalls g))), (30, .d (.int .i64 (smalls g).length)), (31, .d (.int .i64 i))], [], []⟩) (fun i => i ≤ (smalls g).length ∧ ∀ j, j < i → ∀ s, (smalls g)[j]? = some s → smallF s = true) (fun i => (smalls g).length - i) 0 ⟨Nat.zero_le _, fun j hj => by omega⟩ (weak_of (by repeat' (first | exact trivial | refine ⟨rfl, ?_⟩))) (fun i hi => ?_)
      obtain ⟨hi1, hi2⟩ := hi
      rcases Nat.lt_or_ge i (smalls g).length with hlt | hge
      · obtain ⟨s, hs⟩ := get_ok hlt
        repeat' (first
          | refine zW ?_
          | refine zB ?_ ?_ <;> intro h <;> try exact zk h
          | refine zX ?_
          | refine zI w (.d (.ep [.str s])) hs ?_
          | refine zK (small _ (hf.small hs)) ?_ ?_ <;> intro h <;> try exact zk h
          | refine zC (small _ (hf.small hs)) ?_
          | (show _ = _; rw [named_small hs (by simp_all)])
          | (exact ⟨i + 1, ⟨by omega, all_succ hi2 (fun q hq => by rw [hs] at hq; cases hq; simp_all)⟩, by omega, weak_of (by repeat' (first | exact trivial | refine ⟨rfl, ?_⟩ | refine ⟨(inc_get (k := i) (by kernel_rfl) (by omega)), ?_⟩))⟩)
          | fail)
      · repeat' (first
          | refine zW ?_
          | refine zB ?_ ?_ <;> intro h <;> try exact zk h
          | refine zX ?_
          | fail)
        refine Run.loop (fun i : Nat => ⟨PT.ofList [(1, (.d (.ep [.int .i64 g.k, strs g.tokens, .str g.sep, strs g.names, .int .i64 g.start, .sl 2 (g.prods.map encP)]))), (40, .d (strs g.names)), (41, .d (.int .i64 (g.names.map DV.str).length)), (42, .d (.int .i64 i))], [], []⟩) (fun i => i ≤ g.names.length ∧ ∀ j, j < i → ∀ s, g.names[j]? = some s → capitalF s = true) (fun i => g.names.length - i) 0 ⟨Nat.zero_le _, fun j hj => by omega⟩ (weak_of (by repeat' (first | exact trivial | refine ⟨rfl, ?_⟩))) (fun k hk => ?_)
        obtain ⟨hk1, hk2⟩ := hk
        rcases Nat.lt_or_ge k g.names.length with hklt | hkge
        · obtain ⟨s, hs⟩ := get_ok hklt
          repeat' (first
            | refine zW ?_
            | refine zB ?_ ?_ <;> intro h <;> try exact zk h
            | refine zX ?_
            | refine zI w (.d (.ep [.str s])) hs ?_
            | refine zK (capital _ (hf.name hs)) ?_ ?_ <;> intro h <;> try exact zk h
            | refine zC (capital _ (hf.name hs)) ?_
            | (show _ = _; rw [named_capital hs (by simp_all)])
            | (exact ⟨k + 1, ⟨by omega, all_succ hk2 (fun q hq => by rw [hs] at hq; cases hq; simp_all)⟩, by omega, weak_of (by repeat' (first | exact trivial | refine ⟨rfl, ?_⟩ | refine ⟨(inc_get (k := k) (by kernel_rfl) (by omega)), ?_⟩))⟩)
            | fail)
        · have h0 : namedF g = 0 := named_no (fun j hj => hi2 j (by omega)) (fun j hj => hk2 j (by omega))
          repeat' (first
            | refine zW ?_
            | refine zB ?_ ?_ <;> intro h <;> try exact zk h
            | refine zX ?_
            | (show _ = _; rw [h0])
            | fail)
def allN (g : Gram) : List (List Nat) := smalls g ++ g.names
def diffF (g : Gram) : Int := if (allN g).Nodup then 0 else 8
def kvs (l : List (List Nat)) : List (DV × DV) := l.map fun s => (.str s, .bool true)
theorem kvs_pairs (l : List (List Nat)) : kvs l = (l.map fun s => ((s, DV.bool true) : List Nat × DV)).map fun p => (.str p.1, p.2) := by simp [kvs]
theorem find_not {E : PT Ty} {t : TypeId} {l : List (List Nat)} {s : List Nat} (h : s ∉ l) : findKV (eqKey E t) (.str s) (kvs l) = some none := by
  rw [kvs_pairs, findKV_str]
  have : (l.map fun s => ((s, DV.bool true) : List Nat × DV)).findIdx? (fun p => p.1 == s) = none := by
    rw [List.findIdx?_eq_none_iff]
    intro p hp
    simp only [List.mem_map] at hp
    obtain ⟨x, hx, rfl⟩ := hp
    simp
    exact fun e => h (e ▸ hx)
  rw [this]; rfl
theorem find_in {E : PT Ty} {t : TypeId} {l : List (List Nat)} {s : List Nat} (h : s ∈ l) : ∃ j, findKV (eqKey E t) (.str s) (kvs l) = some (some (j, .bool true)) := by
  rw [kvs_pairs, findKV_str]
  cases hf : (l.map fun s => ((s, DV.bool true) : List Nat × DV)).findIdx? (fun p => p.1 == s) with
  | none =>
    rw [List.findIdx?_eq_none_iff] at hf
    have := hf (s, .bool true) (by simp [h])
    simp at this
  | some j =>
    have hj : j < l.length := by
      rw [List.findIdx?_eq_some_iff_getElem] at hf
      obtain ⟨h1, _⟩ := hf
      simpa using h1
    exact ⟨j, by simp [hj]⟩
theorem kvs_app (l : List (List Nat)) (s : List Nat) : kvs l ++ [(.str s, .bool true)] = kvs (l ++ [s]) := by simp [kvs]
theorem nodup_take {l : List (List Nat)} {i : Nat} {s : List Nat} (h : l[i]? = some s) (hn : (l.take i).Nodup) (hs : s ∉ l.take i) : (l.take (i + 1)).Nodup := by
  rw [List.take_add_one, h, List.nodup_append]
  refine ⟨hn, by simp, fun a ha b hb => ?_⟩
  simp at hb
  subst hb
  exact fun e => hs (e ▸ ha)
theorem nodup_not {l : List (List Nat)} {i : Nat} {s : List Nat} (h : l[i]? = some s) (hs : s ∈ l.take i) : ¬ l.Nodup := fun hn => by
  obtain ⟨j, hj, e⟩ := List.getElem_of_mem hs
  have hji : j < i := by simp at hj; omega
  have hi := (List.getElem?_eq_some_iff.1 h).1
  refine List.pairwise_iff_getElem.1 hn j i (by omega) hi hji ?_
  rw [(List.getElem?_eq_some_iff.1 h).2]
  simpa using e
theorem different (g : Gram) (hf : Fits g) : KnownCall Try.prog 58 [encG g] (.d (.int .i64 (diffF g))) := by
  have hft := hf.tokens
  have hfn := hf.names
  have hal : (allN g).length = g.tokens.length + 1 + g.names.length := by simp [allN, smalls]; omega
  refine kF Try.func58 [1, 18] fun w => ?_
  repeat' (first
    | refine zW ?_
    | refine zB ?_ ?_ <;> intro h <;> try exact zk h
    | refine zX ?_
    | refine oV ?_ (hf := (by first | (simp [cutC] <;> fail) | (simp [cutC]; omega)))
    | refine eX ?_ (hf := (by first | (simp [cutC] <;> fail) | (simp [cutC]; omega)))
    | refine zAp ?_
    | fail)
  first | refine Run.tidy (tidy_of (objs := _) [(1, (.d (.ep [.int .i64 g.k, strs g.tokens, .str g.sep, strs g.names, .int .i64 g.start, .sl 2 (g.prods.map encP)]))), (3, .mp 0), (22, .d (strs (allN g))), (23, .d (.int .i64 (allN g).length)), (24, .d (.int .i64 0))] 1 (Eq.trans (b := [.map []]) rfl rfl) rfl (by repeat' (first | exact trivial | refine ⟨(Or.inl rfl), ?_⟩ | refine ⟨(Or.inr rfl), ?_⟩ | refine ⟨rfl, ?_⟩ | refine ⟨(Or.inr (Eq.trans (b := some (.d (.sl 1 (cutL none (some ((g.tokens.map DV.str).length : Int)) (g.tokens.map DV.str) ++ [.str g.sep] ++ g.names.map .str)))) rfl (by rw [cutL_all]; simp [allN, smalls]))), ?_⟩ | refine ⟨(Or.inl (Eq.trans (b := some (.d (.int .i64 ((cutL none (some ((g.tokens.map DV.str).length : Int)) (g.tokens.map DV.str) ++ [DV.str g.sep] ++ g.names.map DV.str).length : Nat)))) rfl (congrArg (fun n : Nat => some (AV.d (DV.int .i64 n))) (by rw [cutL_all, hal]; simp <;> omega)))), ?_⟩ | fail)) (by repeat' (first | exact trivial | refine ⟨(Or.inl rfl), ?_⟩ | refine ⟨(Or.inr rfl), ?_⟩ | refine ⟨rfl, ?_⟩ | refine ⟨(Or.inr (Eq.trans (b := some (.d (.sl 1 (cutL none (some ((g.tokens.map DV.str).length : Int)) (g.tokens.map DV.str) ++ [.str g.sep] ++ g.names.map .str)))) rfl (by rw [cutL_all]; simp [allN, smalls]))), ?_⟩ | refine ⟨(Or.inl (Eq.trans (b := some (.d (.int .i64 ((cutL none (some ((g.tokens.map DV.str).length : Int)) (g.tokens.map DV.str) ++ [DV.str g.sep] ++ g.names.map DV.str).length : Nat)))) rfl (congrArg (fun n : Nat => some (AV.d (DV.int .i64 n))) (by rw [cutL_all, hal]; simp <;> omega)))), ?_⟩ | fail)) rfl rfl) ?_ | refine RunOps.tidy (tidy_of (objs := _) [(1, (.d (.ep [.int .i64 g.k, strs g.tokens, .str g.sep, strs g.names, .int .i64 g.start, .sl 2 (g.prods.map encP)]))), (3, .mp 0), (22, .d (strs (allN g))), (23, .d (.int .i64 (allN g).length)), (24, .d (.int .i64 0))] 1 (Eq.trans (b := [.map []]) rfl rfl) rfl (by repeat' (first | exact trivial | refine ⟨(Or.inl rfl), ?_⟩ | refine ⟨(Or.inr rfl), ?_⟩ | refine ⟨rfl, ?_⟩ | refine ⟨(Or.inr (Eq.trans (b := some (.d (.sl 1 (cutL none (some ((g.tokens.map DV.str).length : Int)) (g.tokens.map DV.str) ++ [.str g.sep] ++ g.names.map .str)))) rfl (by rw [cutL_all]; simp [allN, smalls]))), ?_⟩ | refine ⟨(Or.inl (Eq.trans (b := some (.d (.int .i64 ((cutL none (some ((g.tokens.map DV.str).length : Int)) (g.tokens.map DV.str) ++ [DV.str g.sep] ++ g.names.map DV.str).length : Nat)))) rfl (congrArg (fun n : Nat => some (AV.d (DV.int .i64 n))) (by rw [cutL_all, hal]; simp <;> omega)))), ?_⟩ | fail)) (by repeat' (first | exact trivial | refine ⟨(Or.inl rfl), ?_⟩ | refine ⟨(Or.inr rfl), ?_⟩ | refine ⟨rfl, ?_⟩ | refine ⟨(Or.inr (Eq.trans (b := some (.d (.sl 1 (cutL none (some ((g.tokens.map DV.str).length : Int)) (g.tokens.map DV.str) ++ [.str g.sep] ++ g.names.map .str)))) rfl (by rw [cutL_all]; simp [allN, smalls]))), ?_⟩ | refine ⟨(Or.inl (Eq.trans (b := some (.d (.int .i64 ((cutL none (some ((g.tokens.map DV.str).length : Int)) (g.tokens.map DV.str) ++ [DV.str g.sep] ++ g.names.map DV.str).length : Nat)))) rfl (congrArg (fun n : Nat => some (AV.d (DV.int .i64 n))) (by rw [cutL_all, hal]; simp <;> omega)))), ?_⟩ | fail)) rfl rfl) ?_
  refine Run.loop (fun i : Nat => ⟨PT.ofList [(1, (.d (.ep [.int .i64 g.k, strs g.tokens, .str g.sep, strs g.names, .int .i64 g.start, .sl 2 (g.prods.map encP)]))), (3, .mp 0), (22, .d (strs (allN g))), (23, .d (.int .i64 (allN g).length)), (24, .d (.int .i64 i))], [.map (kvs ((allN g).take i))], []⟩) (fun i => i ≤ (allN g).length ∧ ((allN g).take i).Nodup) (fun i => (allN g).length - i) 0 ⟨Nat.zero_le _, by simp⟩ (weak_of' rfl rfl (by repeat' (first | exact trivial | refine ⟨rfl, ?_⟩))) (fun i hi => ?_)
  obtain ⟨hi1, hi2⟩ := hi
  rcases Nat.lt_or_ge i (allN g).length with hlt | hge
  · obtain ⟨s, hs⟩ := get_ok hlt
    by_cases hm : s ∈ (allN g).take i
    · obtain ⟨j, hj⟩ := find_in (E := Et) (t := 9) hm
      repeat' (first
        | refine zW ?_
        | refine zB ?_ ?_ <;> intro h <;> try exact zk h
        | refine zX ?_
        | refine zI w (.d (.ep [.str s])) hs ?_
        | refine RunOps.x (frz := [1, 18]) Et_ok (by rfl) (evAny_lookup (by rfl) (by rfl) (by rfl) (by rfl) (by rfl) (by rfl) (by rfl) (by rfl) (by rfl) hj (by rfl)) rfl (v := .d (.bool true)) rfl rfl (by rfl) (by rfl) ?_
        | (show _ = _; rw [diffF, if_neg (nodup_not hs hm)])
        | fail)
    · have hj := find_not (E := Et) (t := 9) hm
      repeat' (first
        | refine zW ?_
        | refine zB ?_ ?_ <;> intro h <;> try exact zk h
        | refine zX ?_
        | refine zI w (.d (.ep [.str s])) hs ?_
        | refine RunOps.x (frz := [1, 18]) Et_ok (by rfl) (evAny_lookup (by rfl) (by rfl) (by rfl) (by rfl) (by rfl) (by rfl) (by rfl) (by rfl) (by rfl) hj (by rfl)) rfl (v := .d (.bool false)) rfl rfl (by rfl) (by rfl) ?_
        | refine RunOps.x (frz := [1, 18]) Et_ok (by rfl) (evAny_mapUpdate (by rfl) (by rfl) (by rfl) (by rfl) (by rfl) (by rfl) (by rfl) (by rfl) (by rfl) hj) rfl rfl rfl (by rfl) (by rfl) ?_
        | (refine ⟨i + 1, ⟨by omega, nodup_take hs hi2 hm⟩, by omega, weak_of' (by rw [List.take_add_one, hs]; exact congrArg (fun q => [Ob.map q]) (kvs_app _ _).symm) rfl (by repeat' (first | exact trivial | refine ⟨rfl, ?_⟩ | refine ⟨(inc_get (k := i) (by kernel_rfl) (by omega)), ?_⟩))⟩)
        | fail)
  · have hnd : (allN g).Nodup := by rw [List.take_of_length_le hge] at hi2; exact hi2
    repeat' (first
      | refine zW ?_
      | refine zB ?_ ?_ <;> intro h <;> try exact zk h
      | refine zX ?_
      | (show _ = _; rw [diffF, if_pos hnd])
      | fail)
def idxP {α : Type} (l : List α) (p : α → Bool) : Int := if l.any p then (l.findIdx p : Nat) else -1
theorem idxP_at {α : Type} {l : List α} {p : α → Bool} {i : Nat} {x : α} (h : l[i]? = some x) (hx : p x = true) (hb : ∀ j, j < i → ∀ y, l[j]? = some y → p y = false) : idxP l p = i := by
  have hm := List.mem_of_getElem? h
  have ha : l.any p = true := List.any_eq_true.2 ⟨x, hm, hx⟩
  rw [idxP, if_pos ha]
  have h1 : l.findIdx p < l.length := List.findIdx_lt_length_of_exists ⟨x, hm, hx⟩
  have h2 := List.findIdx_getElem (w := h1)
  have h3 : ¬ l.findIdx p < i := fun hlt => by
    have := hb _ hlt _ (List.getElem?_eq_getElem h1)
    rw [this] at h2; cases h2
  have h4 : ¬ i < l.findIdx p := fun hlt => by
    have h5 := List.not_of_lt_findIdx hlt
    rw [(List.getElem?_eq_some_iff.1 h).2] at h5
    simp [hx] at h5
  omega
theorem idxP_none {α : Type} {l : List α} {p : α → Bool} (hb : ∀ j, j < l.length → ∀ y, l[j]? = some y → p y = false) : idxP l p = -1 := by
  rw [idxP, if_neg]
  intro ha
  obtain ⟨x, hx, hp⟩ := List.any_eq_true.1 ha
  obtain ⟨j, hj, e⟩ := List.getElem_of_mem hx
  have := hb j hj x (by rw [List.getElem?_eq_getElem hj, e])
  rw [this] at hp; cases hp
theorem idxP_any {α : Type} (l : List α) (p : α → Bool) : decide (0 ≤ idxP l p) = l.any p := by
  unfold idxP
  cases h : l.any p <;> simp
theorem indexFuncInts (l : List Int) (hl : l.length ≤ 1099511627776) (F : FuncId) (caps : List DV) (p : Int → Bool) (hp : ∀ x ∈ l, KnownCall Try.prog F ((.int .i64 x) :: caps) (.d (.bool (p x)))) :
    KnownCall Try.prog 97 [(.sl 1 (l.map (.int .i64))), .fn (.func F) [] caps] (.d (.int .i64 (idxP l p))) := by
  refine kF Try.func97 [] fun w => ?_
  repeat' (first
    | refine zW ?_
    | refine zB ?_ ?_ <;> intro h <;> try exact zk h
    | fail)
  refine Run.loop (fun i : Nat => ⟨PT.ofList [(0, .d (.sl 1 (l.map (.int .i64)))), (1, .d (.fn (.func F) [] caps)), (7, .d (.int .i64 l.length)), (8, .d (.int .i64 i))], [], []⟩) (fun i => i ≤ l.length ∧ ∀ j, j < i → ∀ y, l[j]? = some y → p y = false) (fun i => l.length - i) 0 ⟨Nat.zero_le _, fun j hj => by omega⟩ (weak_of (by repeat' (first | exact trivial | refine ⟨rfl, ?_⟩ | refine ⟨Eq.trans (b := some (.d (.int .i64 (l.map _).length))) rfl (by rw [List.length_map]), ?_⟩ | fail))) (fun i hi => ?_)
  obtain ⟨hi1, hi2⟩ := hi
  rcases Nat.lt_or_ge i l.length with hlt | hge
  · obtain ⟨x, hx⟩ := get_ok hlt
    have hc := hp x (List.mem_of_getElem? hx)
    repeat' (first
      | refine zW ?_
      | refine zB ?_ ?_ <;> intro h <;> try exact zk h
      | refine zI w (.d (.ep [.int .i64 x])) hx ?_
      | refine zK (hc) ?_ ?_ <;> intro h <;> try exact zk h
      | refine zC (hc) ?_
      | (show _ = _; rw [idxP_at hx (by simp_all) hi2])
      | (exact ⟨i + 1, ⟨by omega, all_succ hi2 (fun q hq => by rw [hx] at hq; cases hq; simp_all)⟩, by omega, weak_of (by repeat' (first | exact trivial | refine ⟨rfl, ?_⟩ | refine ⟨(inc_get (k := i) (by kernel_rfl) (by omega)), ?_⟩))⟩)
      | fail)
  · have hge : i = l.length := by omega
    repeat' (first
      | refine zW ?_
      | refine zB ?_ ?_ <;> intro h <;> try exact zk h
      | (show _ = _; rw [idxP_none (fun j hj => hi2 j (by omega))])
      | fail)
theorem containsFuncInts (l : List Int) (hl : l.length ≤ 1099511627776) (F : FuncId) (caps : List DV) (p : Int → Bool) (hp : ∀ x ∈ l, KnownCall Try.prog F ((.int .i64 x) :: caps) (.d (.bool (p x)))) :
    KnownCall Try.prog 77 [(.sl 1 (l.map (.int .i64))), .fn (.func F) [] caps] (.d (.bool (l.any p))) := by
  refine kF Try.func77 [] fun w => ?_
  have e := idxP_any l p
  repeat' (first
    | refine zW ?_
    | refine zB ?_ ?_ <;> intro h <;> try exact zk h
    | refine zK (indexFuncInts _ hl _ _ _ hp) ?_ ?_ <;> intro h <;> try exact zk h
    | refine zC (indexFuncInts _ hl _ _ _ hp) ?_
    | (show _ = _; first | (rw [← e] <;> simp_all <;> fail) | fail)
    | fail)
theorem prodsF_nil (g : Gram) (s : Int) : prodsF g s = [] ↔ g.prods.any (fun p => decide (p.left = s)) = false := by
  simp only [prodsF, prodsTo, List.take_length, List.map_eq_nil_iff, List.filter_eq_nil_iff, List.any_eq_false, decide_eq_true_eq]
  refine ⟨fun h p hp => ?_, fun h q hq => h q.1 (by have := List.fst_mem_of_mem_zipIdx hq; exact this)⟩
  obtain ⟨j, hj, e⟩ := List.getElem_of_mem hp
  exact h (p, j) (by rw [List.mem_zipIdx_iff_getElem?]; rw [List.getElem?_eq_getElem hj, e])
theorem indexFuncA (l : List GProd) (hl : l.length ≤ 1099511627776) (F : FuncId) (caps : List AV) (objs : List Ob) (p : GProd → Bool) (hp : ∀ x ∈ l, ACall Try.prog F (.d (encP x) :: caps) objs (.d (.bool (p x))) objs) :
    ACall Try.prog 98 [.d (.sl 2 (l.map encP)), .fn (.func F) [] caps] objs (.d (.int .i64 (idxP l p))) objs := by
  have w : Fz [] := trivial
  refine acall_of_run Et_ok (fnB Try.func98 []) rfl rfl ?_
  repeat' (first
    | refine zW ?_
    | refine zB ?_ ?_ <;> intro h <;> try exact zk h
    | fail)
  refine Run.loop (fun i : Nat => ⟨PT.ofList [(0, .d (.sl 2 (l.map encP))), (1, .fn (.func F) [] caps), (7, .d (.int .i64 l.length)), (8, .d (.int .i64 i))], objs, []⟩) (fun i => i ≤ l.length ∧ ∀ j, j < i → ∀ y, l[j]? = some y → p y = false) (fun i => l.length - i) 0 ⟨Nat.zero_le _, fun j hj => by omega⟩ (weak_of (by repeat' (first | exact trivial | refine ⟨rfl, ?_⟩ | refine ⟨Eq.trans (b := some (.d (.int .i64 (l.map _).length))) rfl (by rw [List.length_map]), ?_⟩ | fail))) (fun i hi => ?_)
  obtain ⟨hi1, hi2⟩ := hi
  rcases Nat.lt_or_ge i l.length with hlt | hge
  · obtain ⟨x, hx⟩ := get_ok hlt
    have hc := hp x (List.mem_of_getElem? hx)
    cases hpx : p x with
    | true =>
      rw [hpx] at hc
      repeat' (first
        | refine zW ?_
        | refine zB ?_ ?_ <;> intro h <;> try exact zk h
        | refine zIP w (.d (.ep [.int .i64 x.left, ints x.right])) hx ?_
        | refine RunOps.call (by rfl) (by rfl) hc (by rfl) (by rfl) ?_
        | fail)
      refine Run.ret ?_
      refine ⟨trivial, rfl, ?_⟩
      rw [idxP_at hx hpx hi2]; rfl
    | false =>
      rw [hpx] at hc
      repeat' (first
        | refine zW ?_
        | refine zB ?_ ?_ <;> intro h <;> try exact zk h
        | refine zIP w (.d (.ep [.int .i64 x.left, ints x.right])) hx ?_
        | refine RunOps.call (by rfl) (by rfl) hc (by rfl) (by rfl) ?_
        | (exact ⟨i + 1, ⟨by omega, all_succ hi2 (fun q hq => by rw [hx] at hq; cases hq; exact hpx)⟩, by omega, weak_of (by repeat' (first | exact trivial | refine ⟨rfl, ?_⟩ | refine ⟨(inc_get (k := i) (by kernel_rfl) (by omega)), ?_⟩))⟩)
        | fail)
  · have hge : i = l.length := by omega
    repeat' (first
      | refine zW ?_
      | refine zB ?_ ?_ <;> intro h <;> try exact zk h
      | fail)
    refine Run.ret ?_
    refine ⟨trivial, rfl, ?_⟩
    rw [idxP_none (fun j hj => hi2 j (by omega))]; rfl
theorem containsFuncA (l : List GProd) (hl : l.length ≤ 1099511627776) (F : FuncId) (caps : List AV) (objs : List Ob) (p : GProd → Bool) (hp : ∀ x ∈ l, ACall Try.prog F (.d (encP x) :: caps) objs (.d (.bool (p x))) objs) :
    ACall Try.prog 79 [.d (.sl 2 (l.map encP)), .fn (.func F) [] caps] objs (.d (.bool (l.any p))) objs := by
  have w : Fz [] := trivial
  refine acall_of_run Et_ok (fnB Try.func79 []) rfl rfl ?_
  repeat refine zA ?_
  refine RunOps.call (by rfl) (by rfl) (indexFuncA l hl F caps objs p hp) (by rfl) (by rfl) ?_
  repeat refine zA ?_
  refine Run.ret ?_
  refine ⟨trivial, rfl, Eq.trans (b := some (.d (.bool (decide (idxP l p ≥ 0))))) (by kernel_rfl) ?_⟩
  rw [show decide (idxP l p ≥ 0) = l.any p from idxP_any l p]
theorem complete1 (p : GProd) (i : Nat) (hi : i ≤ 1048576) : ACall Try.prog 80 [.d (encP p), .bp 0 0] [.box [.d (.int .i64 i)]] (.d (.bool (decide (p.left = 16 + (i : Int))))) [.box [.d (.int .i64 i)]] := by
  have w : Fz [2] := trivial
  have hw : IntKind.i64.wrap (16 + (i : Int)) = 16 + i := wrap64 (by omega) (by omega)
  refine acall_of_run Et_ok (fnB Try.func80 [2]) rfl rfl ?_
  repeat refine zA ?_
  refine Run.ret ?_
  refine ⟨trivial, rfl, Eq.trans (b := some (.d (.bool (p.left == IntKind.i64.wrap (16 + (i : Int)))))) (by kernel_rfl) ?_⟩
  rw [hw]
  congr 3
open Classical in
def completeF (g : Gram) : Int := if missing g then 7 else 0
theorem complete (g : Gram) (hf : Fits g) : KnownCall Try.prog 61 [encG g] (.d (.int .i64 (completeF g))) := by
  have hfp := hf.prods
  have hfn := hf.names
  refine kF Try.func61 [1] fun w => ?_
  repeat' (first
    | refine zW ?_
    | refine zB ?_ ?_ <;> intro h <;> try exact zk h
    | fail)
  refine Run.loopT (fun i : Nat => ⟨PT.ofList [(1, (.d (.ep [.int .i64 g.k, strs g.tokens, .str g.sep, strs g.names, .int .i64 g.start, .sl 2 (g.prods.map encP)]))), (6, .d (.int .i64 (g.names.map DV.str).length)), (7, .d (.int .i64 i))], [], []⟩) (fun i => i ≤ g.names.length ∧ ∀ j : Nat, j < i → prodsF g (16 + j) ≠ []) (fun i => g.names.length - i) 0 ⟨Nat.zero_le _, fun j hj => by omega⟩ (ti _ 0) (fun i hi => ?_)
  obtain ⟨hi1, hi2⟩ := hi
  rcases Nat.lt_or_ge i g.names.length with hlt | hge
  · have hc := containsFuncA g.prods (by omega) 80 [.bp 0 0] [.box [.d (.int .i64 i)]] (fun p => decide (p.left = 16 + (i : Int))) (fun x _ => complete1 x i (by omega))
    cases hpx : g.prods.any (fun p => decide (p.left = 16 + (i : Int))) with
    | true =>
      rw [hpx] at hc
      repeat' (first
        | refine zW ?_
        | refine zB ?_ ?_ <;> intro h <;> try exact zk h
        | refine RunOps.call (by rfl) (by rfl) hc (by rfl) (by rfl) ?_
        | (exact ⟨i + 1, ⟨by omega, all_succ hi2 (fun e => by rw [prodsF_nil, hpx] at e; cases e)⟩, by omega, (ti _ 0)⟩)
        | fail)
    | false =>
      rw [hpx] at hc
      have hm : missing g := ⟨i, hlt, by rw [prodsF_nil]; exact hpx⟩
      repeat' (first
        | refine zW ?_
        | refine zB ?_ ?_ <;> intro h <;> try exact zk h
        | refine RunOps.call (by rfl) (by rfl) hc (by rfl) (by rfl) ?_
        | (show _ = _; rw [completeF, if_pos hm])
        | fail)
  · have hm : ¬ missing g := fun ⟨j, h1, h2⟩ => hi2 j (by omega) h2
    repeat' (first
      | refine zW ?_
      | refine zB ?_ ?_ <;> intro h <;> try exact zk h
      | (show _ = _; rw [completeF, if_neg hm])
      | fail)
abbrev cellG (g : Gram) : DV := .ep [.int .i64 g.k, strs g.tokens, .str g.sep, strs g.names, .int .i64 g.start, .sl 2 (g.prods.map encP)]
theorem symbols1 (g : Gram) (s : Int) (hf : Fits g) : KnownCall Try.prog 78 [.int .i64 s, cellG g] (.d (.bool (!goodS g s))) := by
  refine kF Try.func78 [] fun w => ?_
  repeat' (first
    | refine zW ?_
    | refine zB ?_ ?_ <;> intro h <;> try exact zk h
    | refine zK (terminal g _) ?_ ?_ <;> intro h <;> try exact zk h
    | refine zC (terminal g _) ?_
    | refine zK (nonterminal g _ hf) ?_ ?_ <;> intro h <;> try exact zk h
    | refine zC (nonterminal g _ hf) ?_
    | (show _ = _; first | (simp_all [goodS] <;> fail) | (simp_all [goodS]; omega))
    | fail)
open Classical in
def badP (g : Gram) (p : GProd) : Bool := !isNonterm g p.left || p.right.any (fun s => !goodS g s)
theorem badP_iff (g : Gram) (p : GProd) : badP g p = false ↔ goodP g p := by
  simp only [badP, goodP, Bool.or_eq_false_iff, Bool.not_eq_false', List.any_eq_false]
  refine and_congr Iff.rfl (forall_congr' fun s => forall_congr' fun _ => ?_)
  simp
open Classical in
def symsG (g : Gram) : Int := if symbolsOK g then 0 else 14
theorem symbols (g : Gram) (hf : Fits g) : KnownCall Try.prog 59 [encG g] (.d (.int .i64 (symsG g))) := by
  have hfp := hf.prods
  cases hst : isNonterm g g.start with
  | false =>
    have e : symsG g = 14 := by unfold symsG; rw [if_neg]; exact fun h => by rw [h.1] at hst; cases hst
    rw [e]
    have hc := nonterminal g g.start hf
    rw [hst] at hc
    refine kF Try.func59 [1] fun w => ?_
    repeat' (first
      | refine zW ?_
      | refine zB ?_ ?_ <;> intro h <;> try exact zk h
      | refine zK (hc) ?_ ?_ <;> intro h <;> try exact zk h
      | refine zC (hc) ?_
      | rfl
      | fail)
  | true =>
    have hc := nonterminal g g.start hf
    rw [hst] at hc
    refine kF Try.func59 [1] fun w => ?_
    repeat' (first
      | refine zW ?_
      | refine zB ?_ ?_ <;> intro h <;> try exact zk h
      | refine zC (hc) ?_
      | refine zK (prodsOf g) ?_ ?_ <;> intro h <;> try exact zk h
      | refine zC (prodsOf g) ?_
      | rfl
      | fail)
    obtain ⟨n, hn⟩ : ∃ n, n = g.prods.findIdx (fun p => badP g p) := ⟨_, rfl⟩
    have hidx : n ≤ g.prods.length := by rw [hn]; exact List.findIdx_le_length
    have hcase : n < g.prods.length ∨ n = g.prods.length := by omega
    refine Run.rangeProds (frz := [1]) 1 (fun _ => [.box [.d (.int .i64 0)]]) g.prods (Nat.le_trans hf.prods (by decide)) (by rfl) (fun _ => rfl) (fun _ => rfl) (by kernel_rfl) n hidx (fun k p hk hp => ?_) ?_
    · have hgood : badP g p = false := by
        rw [hn] at hk
        have := List.not_of_lt_findIdx hk
        have e : g.prods[k] = p := by rw [List.getElem?_eq_some_iff] at hp; exact hp.2
        simpa [e] using this
      have hpr := hf.rights p (List.mem_of_getElem? hp)
      have hg := (badP_iff g p).1 hgood
      have hnt := nonterminal g p.left hf
      rw [hg.1] at hnt
      have hcf := containsFuncInts p.right (by omega) 78 [cellG g] (fun s => !goodS g s) (fun s _ => symbols1 g s hf)
      rw [show p.right.any (fun s => !goodS g s) = false from by simp only [badP, Bool.or_eq_false_iff] at hgood; exact hgood.2] at hcf
      refine ayield_of_run (i := 2) (by rfl) (by rfl) (by rfl) ?_
      repeat refine zA ?_
      refine ⟨rfl, _, _, _, _, _, _, _, by rfl, ?_⟩
      refine Run.less ?_
      repeat' (first
        | refine zW ?_
        | refine zB ?_ ?_ <;> intro h <;> try exact zk h
        | refine zC (hnt) ?_
        | refine zC (hcf) ?_
        | (exact ⟨rfl, _, less_of [] 3 rfl (by rfl) trivial trivial (by kernel_rfl) rfl, _, _, _, _, _, _, _, _, by rfl, rfl, by rfl⟩)
        | fail)
    · rcases hcase with hlt | hge
      · obtain ⟨p, hp⟩ := get_ok hlt
        have hbad : badP g p = true := by
          rw [hn] at hp hlt
          have := List.findIdx_getElem (p := fun p : GProd => badP g p) (xs := g.prods) (w := hlt)
          have e : g.prods[g.prods.findIdx fun p => badP g p] = p := by rw [List.getElem?_eq_some_iff] at hp; exact hp.2
          rw [e] at this
          simpa using this
        have hpr := hf.rights p (List.mem_of_getElem? hp)
        have e : symsG g = 14 := by
          unfold symsG
          rw [if_neg]
          intro h
          have := (badP_iff g p).2 (h.2 p (List.mem_of_getElem? hp))
          rw [hbad] at this; cases this
        rw [e]
        have hcf := containsFuncInts p.right (by omega) 78 [cellG g] (fun s => !goodS g s) (fun s _ => symbols1 g s hf)
        refine .inr ⟨p, [.box [.d (.int .i64 14)]], hp, rfl, .inl ⟨?_, ?_⟩⟩
        · cases hl : isNonterm g p.left with
          | false =>
            have hnt := nonterminal g p.left hf
            rw [hl] at hnt
            refine ayield_of_run (i := 2) (by rfl) (by rfl) (by rfl) ?_
            repeat refine zA ?_
            refine ⟨rfl, _, _, _, _, _, _, _, by rfl, ?_⟩
            refine Run.less ?_
            repeat' (first
              | refine zW ?_
              | refine zB ?_ ?_ <;> intro h <;> try exact zk h
              | refine zC (hnt) ?_
              | ((refine Run.ret ?_; exact ⟨rfl, _, less_of [] 3 rfl (by rfl) trivial trivial (by kernel_rfl) rfl, _, _, _, _, _, _, _, _, by rfl, rfl, by rfl⟩))
              | fail)
          | true =>
            have hnt := nonterminal g p.left hf
            rw [hl] at hnt
            rw [show p.right.any (fun s => !goodS g s) = true from by simpa [badP, hl] using hbad] at hcf
            refine ayield_of_run (i := 2) (by rfl) (by rfl) (by rfl) ?_
            repeat refine zA ?_
            refine ⟨rfl, _, _, _, _, _, _, _, by rfl, ?_⟩
            refine Run.less ?_
            repeat' (first
              | refine zW ?_
              | refine zB ?_ ?_ <;> intro h <;> try exact zk h
              | refine zC (hnt) ?_
              | refine zC (hcf) ?_
              | ((refine Run.ret ?_; exact ⟨rfl, _, less_of [] 3 rfl (by rfl) trivial trivial (by kernel_rfl) rfl, _, _, _, _, _, _, _, _, by rfl, rfl, by rfl⟩))
              | fail)
        · refine ⟨trivial, _, _, by rfl, by rfl, Eq.trans (b := some (.d (.int .i64 14))) (by kernel_rfl) ?_⟩
          rfl
      · have e : symsG g = 0 := by
          unfold symsG
          rw [if_pos]
          refine ⟨hst, fun p hp => (badP_iff g p).1 ?_⟩
          cases hb : badP g p with
          | false => rfl
          | true =>
            have := List.findIdx_lt_length_of_exists (xs := g.prods) (p := fun p => badP g p) ⟨p, hp, hb⟩
            omega
        rw [e]
        refine .inl ⟨hge, ?_⟩
        repeat' (first
          | refine zW ?_
          | refine zB ?_ ?_ <;> intro h <;> try exact zk h
          | rfl
          | fail)
theorem first_or (P : Nat → Bool) : ∀ N : Nat, ∃ n, n ≤ N ∧ (∀ k, k < n → P k = false) ∧ (n = N ∨ (n < N ∧ P n = true))
  | 0 => ⟨0, Nat.le_refl _, fun k hk => by omega, .inl rfl⟩
  | N + 1 => by
    obtain ⟨n, h1, h2, h3⟩ := first_or P N
    rcases h3 with rfl | ⟨h3, h4⟩
    · cases hp : P n with
      | true => exact ⟨n, by omega, h2, .inr ⟨by omega, hp⟩⟩
      | false => exact ⟨n + 1, by omega, all_succ h2 hp, .inl rfl⟩
    · exact ⟨n, by omega, h2, .inr ⟨by omega, h4⟩⟩
open Classical in
def ordBad (g : Gram) (k : Nat) : Bool := decide (0 < k ∧ ∃ p q, g.prods[k - 1]? = some p ∧ g.prods[k]? = some q ∧ q.left < p.left)
open Classical in
theorem ordBad_iff (g : Gram) (k : Nat) : ordBad g k = true ↔ (0 < k ∧ ∃ p q, g.prods[k - 1]? = some p ∧ g.prods[k]? = some q ∧ q.left < p.left) := by unfold ordBad; exact decide_eq_true_iff
open Classical in
def orderedG (g : Gram) : Int := if orderBad g then 9 else 0
theorem ordered (g : Gram) (hf : Fits g) : KnownCall Try.prog 60 [encG g] (.d (.int .i64 (orderedG g))) := by
  have hfp := hf.prods
  refine kF Try.func60 [1] fun w => ?_
  repeat' (first
    | refine zW ?_
    | refine zB ?_ ?_ <;> intro h <;> try exact zk h
    | refine zK (prodsOf g) ?_ ?_ <;> intro h <;> try exact zk h
    | refine zC (prodsOf g) ?_
    | fail)
  obtain ⟨n, hidx, hbefore, hcase⟩ := first_or (ordBad g) g.prods.length
  refine Run.rangeProds (frz := [1]) 1 (fun _ => [.box [.d (.int .i64 0)]]) g.prods (Nat.le_trans hf.prods (by decide)) (by rfl) (fun _ => rfl) (fun _ => rfl) (by kernel_rfl) n hidx (fun k p hk hp => ?_) ?_
  · have hgood := hbefore k hk
    have hkl := (List.getElem?_eq_some_iff.1 hp).1
    rcases k with _ | k
    · refine ayield_of_run (i := 2) (by rfl) (by rfl) (by rfl) ?_
      repeat refine zA ?_
      refine ⟨rfl, _, _, _, _, _, _, _, by rfl, ?_⟩
      refine Run.less ?_
      repeat' (first
        | refine zW ?_
        | refine zB ?_ ?_ <;> intro h <;> try exact zk h
        | (exact ⟨rfl, _, less_of [] 3 rfl (by rfl) trivial trivial (by kernel_rfl) rfl, _, _, _, _, _, _, _, _, by rfl, rfl, by rfl⟩)
        | fail)
    · obtain ⟨q, hq⟩ := get_ok (show k < g.prods.length by omega)
      have hno : ¬ p.left < q.left := fun h => by
        have : ordBad g (k + 1) = true := (ordBad_iff _ _).2 ⟨Nat.succ_pos _, q, p, hq, hp, h⟩
        rw [this] at hgood; cases hgood
      have hw : IntKind.i64.wrap (((k + 1 : Nat) : Int) - 1) = (k : Nat) := by rw [wrap64 (by omega) (by omega)]; omega
      refine ayield_of_run (i := 2) (by rfl) (by rfl) (by rfl) ?_
      repeat refine zA ?_
      refine ⟨rfl, _, _, _, _, _, _, _, by rfl, ?_⟩
      refine Run.less ?_
      repeat' (first
        | refine oV (v := .d (.int .i64 (k : Nat))) ?_ (he := (congrArg (fun n => AV.d (.int .i64 n)) hw))
        | refine eX (v := .d (.int .i64 (k : Nat))) ?_ (he := (congrArg (fun n => AV.d (.int .i64 n)) hw))
        | refine zW ?_
        | refine zB ?_ ?_ <;> intro h <;> try exact zk h
        | refine zIP w (.d (.ep [.int .i64 q.left, ints q.right])) hq ?_
        | (exact ⟨rfl, _, less_of [] 3 rfl (by rfl) trivial trivial (by kernel_rfl) rfl, _, _, _, _, _, _, _, _, by rfl, rfl, by rfl⟩)
        | ((exfalso; first | (simp_all <;> fail) | (simp_all; omega)))
        | fail)
  · rcases hcase with hge | ⟨hlt, hbad⟩
    · have e : orderedG g = 0 := by
        unfold orderedG
        rw [if_neg]
        rintro ⟨i, p, q, h1, h2, h3⟩
        have hi := (List.getElem?_eq_some_iff.1 h2).1
        have := hbefore (i + 1) (by omega)
        rw [show ordBad g (i + 1) = true from (ordBad_iff _ _).2 ⟨Nat.succ_pos _, p, q, h1, h2, h3⟩] at this
        cases this
      rw [e]
      refine .inl ⟨hge, ?_⟩
      repeat' (first
        | refine zW ?_
        | refine zB ?_ ?_ <;> intro h <;> try exact zk h
        | rfl
        | fail)
    · have hb := (ordBad_iff _ _).1 hbad
      obtain ⟨hn0, q, p, hq, hp, hlt2⟩ := hb
      rcases n with _ | k
      · omega
      · have hq : g.prods[k]? = some q := hq
        have e : orderedG g = 9 := by unfold orderedG; rw [if_pos ⟨k, q, p, hq, hp, hlt2⟩]
        rw [e]
        have hkl := (List.getElem?_eq_some_iff.1 hp).1
        have hw : IntKind.i64.wrap (((k + 1 : Nat) : Int) - 1) = (k : Nat) := by rw [wrap64 (by omega) (by omega)]; omega
        refine .inr ⟨p, [.box [.d (.int .i64 9)]], hp, rfl, .inl ⟨?_, ?_⟩⟩
        · refine ayield_of_run (i := 2) (by rfl) (by rfl) (by rfl) ?_
          repeat refine zA ?_
          refine ⟨rfl, _, _, _, _, _, _, _, by rfl, ?_⟩
          refine Run.less ?_
          repeat' (first
            | refine oV (v := .d (.int .i64 (k : Nat))) ?_ (he := (congrArg (fun n => AV.d (.int .i64 n)) hw))
            | refine eX (v := .d (.int .i64 (k : Nat))) ?_ (he := (congrArg (fun n => AV.d (.int .i64 n)) hw))
            | refine zW ?_
            | refine zB ?_ ?_ <;> intro h <;> try exact zk h
            | refine zIP w (.d (.ep [.int .i64 q.left, ints q.right])) hq ?_
            | ((refine Run.ret ?_; exact ⟨rfl, _, less_of [] 3 rfl (by rfl) trivial trivial (by kernel_rfl) rfl, _, _, _, _, _, _, _, _, by rfl, rfl, by rfl⟩))
            | ((exfalso; first | (simp_all <;> fail) | (simp_all; omega)))
            | fail)
        · refine ⟨trivial, _, _, by rfl, by rfl, Eq.trans (b := some (.d (.int .i64 9))) (by kernel_rfl) ?_⟩
          rfl
def checks (g : Gram) : List Int := [manyF g, namedG g, diffF g, symsG g, orderedG g, completeF g]
def firstErr : List Int → Int
  | [] => 0
  | e :: r => if e = 0 then firstErr r else e
def checkG (g : Gram) : Int := if g.k < 1 ∨ 4 < g.k then 2 else firstErr (checks g)
theorem firstErr_at : ∀ {l : List Int} {i : Nat} {e : Int}, l[i]? = some e → e ≠ 0 → (∀ j, j < i → l[j]? = some 0) → firstErr l = e
  | [], i, e, h, _, _ => by simp at h
  | a :: r, 0, e, h, he, _ => by simp at h; subst h; simp [firstErr, he]
  | a :: r, i + 1, e, h, he, hb => by
    have ha : a = 0 := by have := hb 0 (by omega); simpa using this
    subst ha
    simp only [firstErr, if_true]
    exact firstErr_at (i := i) (by simpa using h) he (fun j hj => by have := hb (j + 1) (by omega); simpa using this)
theorem firstErr_none : ∀ {l : List Int}, (∀ j, j < l.length → l[j]? = some 0) → firstErr l = 0
  | [], _ => rfl
  | a :: r, hb => by
    have ha : a = 0 := by have := hb 0 (by simp); simpa using this
    subst ha
    simp only [firstErr, if_true]
    exact firstErr_none (fun j hj => by have := hb (j + 1) (by simpa using hj); simpa using this)
abbrev looksD : List DV := [.fn (.func 56) [] [], .fn (.func 57) [] [], .fn (.func 58) [] [], .fn (.func 59) [] [], .fn (.func 60) [] [], .fn (.func 61) [] []]
theorem checkGr (g : Gram) (hf : Fits g) : KnownCall Try.prog 36 [encG g] (.d (.int .i64 (checkG g))) := by
  by_cases hk : g.k < 1 ∨ 4 < g.k
  · have e : checkG g = 2 := if_pos hk
    rw [e]
    refine kF Try.func36 [1, 13, 200001] fun w => ?_
    refine Run.seq ?_
    repeat' (first
      | refine zW ?_
      | refine zB ?_ ?_ <;> intro h <;> try exact zk h
      | refine zX ?_
      | fail)
    refine Run.scope ?_
    repeat' (first
      | refine zW ?_
      | refine zB ?_ ?_ <;> intro h <;> try exact zk h
      | refine zX ?_
      | rfl
      | ((exfalso; first | (simp_all <;> fail) | (simp_all; omega)))
      | fail)
  · have e : checkG g = firstErr (checks g) := if_neg hk
    rw [e]
    rw [not_or] at hk
    refine kF Try.func36 [1, 13, 200001] fun w => ?_
    repeat' (first
      | refine zW ?_
      | refine zB ?_ ?_ <;> intro h <;> try exact zk h
      | refine zX ?_
      | fail)
    refine Run.scope ?_
    repeat' (first
      | refine zW ?_
      | refine zB ?_ ?_ <;> intro h <;> try exact zk h
      | refine zX ?_
      | refine Run.label ?_
      | ((exfalso; first | (simp_all <;> fail) | (simp_all; omega)))
      | fail)
    refine Run.loop (fun i : Nat => ⟨PT.ofList [(1, (.d (.ep [.int .i64 g.k, strs g.tokens, .str g.sep, strs g.names, .int .i64 g.start, .sl 2 (g.prods.map encP)]))), (2, .d (.int .i64 0)), (13, .d (.sl 1 looksD)), (14, .d (.int .i64 6)), (15, .d (.int .i64 i))], [], []⟩) (fun i => i ≤ 6 ∧ ∀ j, j < i → (checks g)[j]? = some 0) (fun i => 6 - i) 0 ⟨Nat.zero_le _, fun j hj => by omega⟩ (weak_of (by repeat' (first | exact trivial | refine ⟨rfl, ?_⟩))) (fun i hi => ?_)
    obtain ⟨hi1, hi2⟩ := hi
    have hcs : i = 0 ∨ i = 1 ∨ i = 2 ∨ i = 3 ∨ i = 4 ∨ i = 5 ∨ i = 6 := by omega
    rcases hcs with h | h | h | h | h | h | h <;> subst h
    · have hc := many g hf
      by_cases he : manyF g = 0
      · have hnext : (checks g)[0]? = some 0 := by rw [← he]; rfl
        rw [he] at hc
        repeat' (first
          | refine zW ?_
          | refine zB ?_ ?_ <;> intro h <;> try exact zk h
          | refine zX ?_
          | refine zC (hc) ?_
          | (exact ⟨1, ⟨by omega, all_succ hi2 hnext⟩, by omega, weak_of (by repeat' (first | exact trivial | refine ⟨rfl, ?_⟩))⟩)
          | fail)
      · repeat' (first
          | refine zW ?_
          | refine zB ?_ ?_ <;> intro h <;> try exact zk h
          | refine zX ?_
          | refine zC (hc) ?_
          | (show _ = _; rw [firstErr_at (i := 0) (show (checks g)[0]? = some (manyF g) from rfl) he hi2])
          | ((exfalso; (simp_all <;> fail)))
          | fail)
    · have hc := named g hf
      by_cases he : namedG g = 0
      · have hnext : (checks g)[1]? = some 0 := by rw [← he]; rfl
        rw [he] at hc
        repeat' (first
          | refine zW ?_
          | refine zB ?_ ?_ <;> intro h <;> try exact zk h
          | refine zX ?_
          | refine zC (hc) ?_
          | (exact ⟨2, ⟨by omega, all_succ hi2 hnext⟩, by omega, weak_of (by repeat' (first | exact trivial | refine ⟨rfl, ?_⟩))⟩)
          | fail)
      · repeat' (first
          | refine zW ?_
          | refine zB ?_ ?_ <;> intro h <;> try exact zk h
          | refine zX ?_
          | refine zC (hc) ?_
          | (show _ = _; rw [firstErr_at (i := 1) (show (checks g)[1]? = some (namedG g) from rfl) he hi2])
          | ((exfalso; (simp_all <;> fail)))
          | fail)
    · have hc := different g hf
      by_cases he : diffF g = 0
      · have hnext : (checks g)[2]? = some 0 := by rw [← he]; rfl
        rw [he] at hc
        repeat' (first
          | refine zW ?_
          | refine zB ?_ ?_ <;> intro h <;> try exact zk h
          | refine zX ?_
          | refine zC (hc) ?_
          | (exact ⟨3, ⟨by omega, all_succ hi2 hnext⟩, by omega, weak_of (by repeat' (first | exact trivial | refine ⟨rfl, ?_⟩))⟩)
          | fail)
      · repeat' (first
          | refine zW ?_
          | refine zB ?_ ?_ <;> intro h <;> try exact zk h
          | refine zX ?_
          | refine zC (hc) ?_
          | (show _ = _; rw [firstErr_at (i := 2) (show (checks g)[2]? = some (diffF g) from rfl) he hi2])
          | ((exfalso; (simp_all <;> fail)))
          | fail)
    · have hc := symbols g hf
      by_cases he : symsG g = 0
      · have hnext : (checks g)[3]? = some 0 := by rw [← he]; rfl
        rw [he] at hc
        repeat' (first
          | refine zW ?_
          | refine zB ?_ ?_ <;> intro h <;> try exact zk h
          | refine zX ?_
          | refine zC (hc) ?_
          | (exact ⟨4, ⟨by omega, all_succ hi2 hnext⟩, by omega, weak_of (by repeat' (first | exact trivial | refine ⟨rfl, ?_⟩))⟩)
          | fail)
      · repeat' (first
          | refine zW ?_
          | refine zB ?_ ?_ <;> intro h <;> try exact zk h
          | refine zX ?_
          | refine zC (hc) ?_
          | (show _ = _; rw [firstErr_at (i := 3) (show (checks g)[3]? = some (symsG g) from rfl) he hi2])
          | ((exfalso; (simp_all <;> fail)))
          | fail)
    · have hc := ordered g hf
      by_cases he : orderedG g = 0
      · have hnext : (checks g)[4]? = some 0 := by rw [← he]; rfl
        rw [he] at hc
        repeat' (first
          | refine zW ?_
          | refine zB ?_ ?_ <;> intro h <;> try exact zk h
          | refine zX ?_
          | refine zC (hc) ?_
          | (exact ⟨5, ⟨by omega, all_succ hi2 hnext⟩, by omega, weak_of (by repeat' (first | exact trivial | refine ⟨rfl, ?_⟩))⟩)
          | fail)
      · repeat' (first
          | refine zW ?_
          | refine zB ?_ ?_ <;> intro h <;> try exact zk h
          | refine zX ?_
          | refine zC (hc) ?_
          | (show _ = _; rw [firstErr_at (i := 4) (show (checks g)[4]? = some (orderedG g) from rfl) he hi2])
          | ((exfalso; (simp_all <;> fail)))
          | fail)
    · have hc := complete g hf
      by_cases he : completeF g = 0
      · have hnext : (checks g)[5]? = some 0 := by rw [← he]; rfl
        rw [he] at hc
        repeat' (first
          | refine zW ?_
          | refine zB ?_ ?_ <;> intro h <;> try exact zk h
          | refine zX ?_
          | refine zC (hc) ?_
          | (exact ⟨6, ⟨by omega, all_succ hi2 hnext⟩, by omega, weak_of (by repeat' (first | exact trivial | refine ⟨rfl, ?_⟩))⟩)
          | fail)
      · repeat' (first
          | refine zW ?_
          | refine zB ?_ ?_ <;> intro h <;> try exact zk h
          | refine zX ?_
          | refine zC (hc) ?_
          | (show _ = _; rw [firstErr_at (i := 5) (show (checks g)[5]? = some (completeF g) from rfl) he hi2])
          | ((exfalso; (simp_all <;> fail)))
          | fail)
    · repeat' (first
        | refine zW ?_
        | refine zB ?_ ?_ <;> intro h <;> try exact zk h
        | refine zX ?_
        | (show _ = _; rw [firstErr_none (l := checks g) hi2])
        | fail)
theorem named_zero {g : Gram} (h : namedF g = 0) : (∀ s ∈ smalls g, smallF s = true) ∧ ∀ s ∈ g.names, capitalF s = true := by
  unfold namedF at h
  split at h
  · omega
  · rename_i hn
    simp only [not_or, not_exists, not_and, Bool.not_eq_false] at hn
    exact hn
theorem small_capital {s : List Nat} (h1 : smallF s = true) (h2 : capitalF s = true) : False := by
  simp only [smallF, capitalF, Bool.and_eq_true, decide_eq_true_eq] at h1 h2
  omega
theorem allN_nodup {g : Gram} (h : namedF g = 0) : (allN g).Nodup ↔ (smalls g).Nodup ∧ g.names.Nodup := by
  obtain ⟨h1, h2⟩ := named_zero h
  rw [allN, List.nodup_append]
  refine ⟨fun h => ⟨h.1, h.2.1⟩, fun h => ⟨h.1, h.2, fun a ha b hb e => small_capital (h1 a ha) (e ▸ h2 b hb)⟩⟩
theorem checkG_eq (g : Gram) : checkG g = checkF g := by
  unfold checkG checkF
  split
  · rfl
  · simp only [checks, firstErr]
    by_cases h1 : manyF g = 0
    · simp only [h1, ne_eq, not_true_eq_false, if_false, if_true]
      by_cases h2 : g.tokens = [] ∨ g.names = []
      · have : namedG g = 5 := if_pos h2
        simp [this, h2]
      · have : namedG g = namedF g := if_neg h2
        simp only [this, if_neg h2]
        by_cases h3 : namedF g = 0
        · simp only [h3, if_true]
          by_cases h4 : (allN g).Nodup
          · have h5 := (allN_nodup h3).1 h4
            have h6 : diffF g = 0 := if_pos h4
            have h7 : namesF g = 0 := by unfold namesF; rw [if_neg (by simp [h5.1, h5.2]), h3]
            simp only [h6, h7, ne_eq, not_true_eq_false, if_false, if_true]
            unfold symsG orderedG completeF symbolsF
            by_cases a : symbolsOK g <;> by_cases b : orderBad g <;> by_cases c : missing g <;> simp [a, b, c]
          · have h6 : diffF g = 8 := if_neg h4
            have h7 : namesF g = 8 := by
              unfold namesF
              rw [if_pos]
              refine ⟨h3, ?_⟩
              by_cases h5 : (smalls g).Nodup
              · exact .inr fun h8 => h4 ((allN_nodup h3).2 ⟨h5, h8⟩)
              · exact .inl h5
            simp [h6, h7]
        · have h7 : namesF g = namedF g := by unfold namesF; rw [if_neg (by simp [h3])]
          simp [h3, h7]
    · simp [h1]
theorem grCheck (g : Gram) (hf : Fits g) : KnownCall Try.prog 36 [encG g] (.d (.int .i64 (checkF g))) := by rw [← checkG_eq]; exact checkGr g hf
theorem called (g : Gram) (s : Int) (x : List Nat) (hf : Fits g) (ht : g.tokens.length ≤ 8) (h : symName g s = some x) : KnownCall Try.prog 69 [encG g, .int .i64 s] (.d (.str x)) := by
  have hfn := hf.names
  by_cases hs : 16 ≤ s
  · rw [symName, if_pos hs] at h
    have hlt := (List.getElem?_eq_some_iff.1 h).1
    have hw : IntKind.i64.wrap (s - 16) = s - 16 := wrap64 (by omega) (by omega)
    have hx := h
    have hc := terminal g s
    rw [show isTerm g s = false from by simp [isTerm]; omega] at hc
    refine kF Try.func69 [2] fun w => ?_
    repeat' (first
      | refine zW ?_
      | refine zB ?_ ?_ <;> intro h <;> try exact zk h
      | refine zC (hc) ?_
      | refine zI w (.d (.ep [.str x])) (And.intro hx hw) ?_
      | rfl
      | fail)
  · rw [symName, if_neg hs] at h
    by_cases hs0 : 0 ≤ s
    · rw [if_pos hs0] at h
      have hlt := (List.getElem?_eq_some_iff.1 h).1
      have hx := h
      have hc := terminal g s
      rw [show isTerm g s = true from by simp [isTerm]; omega] at hc
      refine kF Try.func69 [2] fun w => ?_
      repeat' (first
        | refine zW ?_
        | refine zB ?_ ?_ <;> intro h <;> try exact zk h
        | refine zC (hc) ?_
        | refine zI w (.d (.ep [.str x])) hx ?_
        | rfl
        | fail)
    · rw [if_neg hs0] at h; cases h
section
set_option maxRecDepth 10000
end
def askNameF (g : Gram) (s : Int) : List Nat × Int := if checkF g ≠ 0 then ([], checkF g) else if goodS g s = true then (nameS g s, 0) else ([], 14)
theorem askName (g : Gram) (s : Int) (hf : Fits g) : KnownCall Try.prog 48 [encG g, .int .i64 s] (.tup [.d (.str (askNameF g s).1), .d (.int .i64 (askNameF g s).2)]) := by
  by_cases h0 : checkF g = 0
  · obtain ⟨hm, _⟩ := check_parts h0
    have ht := (many_zero hm).1
    cases hg : goodS g s with
    | true =>
      obtain ⟨x, hx⟩ := name_of_good ht hg
      have e : askNameF g s = (x, 0) := by simp [askNameF, h0, hg, nameS_of hx]
      rw [e]
      simp only [goodS, Bool.or_eq_true] at hg
      refine kF Try.func48 [2] fun w => ?_
      repeat' (first
        | refine zW ?_
        | refine zB ?_ ?_ <;> intro h <;> try exact zk h
        | refine zK (grCheck _ hf) ?_ ?_ <;> intro h <;> try exact zk h
        | refine zC (grCheck _ hf) ?_
        | refine zK (terminal _ _) ?_ ?_ <;> intro h <;> try exact zk h
        | refine zC (terminal _ _) ?_
        | refine zK (nonterminal _ _ hf) ?_ ?_ <;> intro h <;> try exact zk h
        | refine zC (nonterminal _ _ hf) ?_
        | refine zK (called _ s _ hf ht hx) ?_ ?_ <;> intro h <;> try exact zk h
        | refine zC (called _ s _ hf ht hx) ?_
        | rfl
        | (exfalso; (simp_all <;> fail))
        | fail)
    | false =>
      have e : askNameF g s = ([], 14) := by simp [askNameF, h0, hg]
      rw [e]
      simp only [goodS, Bool.or_eq_false_iff] at hg
      refine kF Try.func48 [2] fun w => ?_
      repeat' (first
        | refine zW ?_
        | refine zB ?_ ?_ <;> intro h <;> try exact zk h
        | refine zK (grCheck _ hf) ?_ ?_ <;> intro h <;> try exact zk h
        | refine zC (grCheck _ hf) ?_
        | refine zK (terminal _ _) ?_ ?_ <;> intro h <;> try exact zk h
        | refine zC (terminal _ _) ?_
        | refine zK (nonterminal _ _ hf) ?_ ?_ <;> intro h <;> try exact zk h
        | refine zC (nonterminal _ _ hf) ?_
        | rfl
        | (exfalso; (simp_all <;> fail))
        | fail)
  · have e : askNameF g s = ([], checkF g) := by simp [askNameF, h0]
    rw [e]
    refine kF Try.func48 [2] fun w => ?_
    repeat' (first
      | refine zW ?_
      | refine zB ?_ ?_ <;> intro h <;> try exact zk h
      | refine zK (grCheck _ hf) ?_ ?_ <;> intro h <;> try exact zk h
      | refine zC (grCheck _ hf) ?_
      | rfl
      | (exfalso; (simp_all <;> fail))
      | fail)
section
set_option maxRecDepth 10000
end
section
set_option maxRecDepth 10000
end
abbrev boxG0 : Ob := .box [.d (.int .i64 0), .d .nilsl, .d (.str []), .d .nilsl, .d (.int .i64 0), .d .nilsl]
def W64 (n : Int) : Prop := -9223372036854775808 ≤ n ∧ n ≤ 9223372036854775807
def m30 (n : Int) : Nat := (n % 1073741824).toNat
theorem m30_lt (n : Int) : m30 n < 1073741824 := by unfold m30; omega
theorem mod30 (n : Int) (hn : W64 n) : KnownCall Try.prog 24 [.int .i64 n, .int .i64 1073741824] (.d (.int .i64 (m30 n : Nat))) := by
  have hw := hn
  unfold W64 at hw
  have hm : (m30 n : Int) = n % 1073741824 := by unfold m30; omega
  have ht : n.tmod 1073741824 = if 0 ≤ n ∨ (1073741824 : Int) ∣ n then n % 1073741824 else n % 1073741824 - 1073741824 := by
    rw [Int.tmod_eq_emod]
    by_cases h : 0 ≤ n ∨ (1073741824 : Int) ∣ n
    · rw [if_pos h, if_pos h]; simp
    · rw [if_neg h, if_neg h]; rfl
  by_cases h : 0 ≤ n ∨ (1073741824 : Int) ∣ n
  · rw [if_pos h] at ht
    rw [hm]
    refine kF Try.func24 [] fun w => ?_
    repeat' (first
      | refine oV (v := .d (.int .i64 (n % 1073741824))) ?_ (he := (congrArg (fun x => AV.d (.int .i64 x)) ht))
      | refine eX (v := .d (.int .i64 (n % 1073741824))) ?_ (he := (congrArg (fun x => AV.d (.int .i64 x)) ht))
      | refine zW ?_
      | refine zB ?_ ?_ <;> intro h <;> try exact zk h
      | rfl
      | ((exfalso; first | (simp at h <;> fail) | (simp at h; omega)))
      | fail)
  · rw [if_neg h] at ht
    rw [hm]
    have hneg : n % 1073741824 - 1073741824 < 0 := by omega
    refine kF Try.func24 [] fun w => ?_
    repeat' (first
      | refine oV (v := .d (.int .i64 (n % 1073741824))) ?_ (he := (congrArg (fun x => AV.d (.int .i64 x)) ((wrap64 (by omega) (by omega)).trans (by omega))))
      | refine eX (v := .d (.int .i64 (n % 1073741824))) ?_ (he := (congrArg (fun x => AV.d (.int .i64 x)) ((wrap64 (by omega) (by omega)).trans (by omega))))
      | refine oV (v := .d (.int .i64 (n % 1073741824 - 1073741824))) ?_ (he := (congrArg (fun x => AV.d (.int .i64 x)) ht))
      | refine eX (v := .d (.int .i64 (n % 1073741824 - 1073741824))) ?_ (he := (congrArg (fun x => AV.d (.int .i64 x)) ht))
      | refine zW ?_
      | refine zB ?_ ?_ <;> intro h <;> try exact zk h
      | rfl
      | ((exfalso; first | (simp at h <;> fail) | (simp at h; omega)))
      | fail)
def atF (l : List Int) (i : Nat) : Int := (l[i]?).getD 0
theorem atF_wf {l : List Int} (h : ∀ n ∈ l, W64 n) (i : Nat) : W64 (atF l i) := by
  unfold atF
  cases e : l[i]? with
  | none => exact ⟨by decide, by decide⟩
  | some x => exact h x (List.mem_of_getElem? e)
theorem atS (l : List Int) (i : Nat) : KnownCall Try.prog 28 [ints l, .int .i64 (i : Nat)] (.d (.int .i64 (atF l i))) := by
  rcases Nat.lt_or_ge i l.length with hlt | hge
  · obtain ⟨x, hx⟩ := get_ok hlt
    rw [show atF l i = x from by simp [atF, hx]]
    refine kF Try.func28 [] fun w => ?_
    repeat' (first
      | refine zW ?_
      | refine zB ?_ ?_ <;> intro h <;> try exact zk h
      | refine zI w (.d (.ep [.int .i64 x])) hx ?_
      | rfl
      | ((exfalso; first | (simp at h <;> fail) | (simp at h; omega)))
      | fail)
  · rw [show atF l i = 0 from by simp [atF, List.getElem?_eq_none hge]]
    refine kF Try.func28 [] fun w => ?_
    repeat' (first
      | refine zW ?_
      | refine zB ?_ ?_ <;> intro h <;> try exact zk h
      | rfl
      | ((exfalso; first | (simp at h <;> fail) | (simp at h; omega)))
      | fail)
def numF (l : List Int) (i : Nat) : Nat := m30 (atF l i)
theorem numF_lt (l : List Int) (i : Nat) : numF l i < 1073741824 := m30_lt _
theorem vN {x : Int} {n : Nat} (h : x = (n : Int)) (hn : n ≤ 1099511627776) : AV.d (.int .i64 (IntKind.i64.wrap x)) = .d (.int .i64 (n : Int)) := by
  subst h; exact congrArg (fun n => AV.d (.int .i64 n)) (wrap_nat hn)
theorem numS (l : List Int) (hl : ∀ n ∈ l, W64 n) (i : Nat) : KnownCall Try.prog 24 [.int .i64 (atF l i), .int .i64 1073741824] (.d (.int .i64 (numF l i : Nat))) := mod30 _ (atF_wf hl i)
theorem shrN {a b : Nat} (h : b ≤ 64) : Int.fdiv (a : Int) (2 ^ (min (b : Int).toNat 64)) = ((a / 2 ^ b : Nat) : Int) := by
  rw [Int.toNat_natCast, Nat.min_eq_left h, Int.fdiv_eq_ediv_of_nonneg _ (Int.pow_nonneg (by decide))]
  push_cast
  rfl
theorem shrF (n : Nat) : (!decide ((n : Int) < 0)) = true := by simp
def kTok (k : Nat) : List (List Nat) := [[97], [98]].take (1 + k / 2 % 2)
def kMany (k : Nat) : Nat := 1 + k / 4 % 3
def zF (y s : Nat) : Nat := y / 4 / 2 ^ (4 * s) % 16
def symN (T M z : Nat) : Nat := if z % 5 < 3 then z % T else 16 + z % M
def rgtTo (T M y s : Nat) : List Int := (List.range s).map fun s => ((symN T M (zF y s) : Nat) : Int)
def prodN (nums : List Int) (T M i j : Nat) : GProd := ⟨((16 + i : Nat) : Int), rgtTo T M (numF nums (4 + 3 * i + j)) (numF nums (4 + 3 * i + j) % 4)⟩
def rowTo (nums : List Int) (T M i j : Nat) : List GProd := (List.range j).map (prodN nums T M i)
def accTo (nums : List Int) (T M : Nat) : Nat → List GProd
  | 0 => []
  | i + 1 => (accTo nums T M i ++ rowTo nums T M i (numF nums (1 + i) % 3 + 1)).take 7
def namesTo (i : Nat) : List (List Nat) := (List.range i).map fun i => [83 + i]
def anyF (nums : List Int) : Gram :=
  ⟨((1 + numF nums 0 % 2 : Nat) : Int), kTok (numF nums 0), [122], namesTo (kMany (numF nums 0)), 16, accTo nums (kTok (numF nums 0)).length (kMany (numF nums 0)) (kMany (numF nums 0))⟩
theorem kTok_len (k : Nat) : (kTok k).length = 1 + k / 2 % 2 := by simp [kTok]; omega
theorem cutTokV (k : Nat) : AV.d (DV.sl 1 (cutL none (some ((1 + k / 2 % 2 : Nat) : Int)) [.str [97], .str [98]])) = AV.d (strs (kTok k)) := by
  rcases Nat.mod_two_eq_zero_or_one (k / 2) with h | h <;> simp only [kTok, h] <;> rfl
theorem cutTokF (k : Nat) : (cutC none (some ((1 + k / 2 % 2 : Nat) : Int)) 2 && true) = true := by
  rcases Nat.mod_two_eq_zero_or_one (k / 2) with h | h <;> rw [h] <;> rfl
abbrev fA : List Nat := [19, 40, 42, 96, 105, 111]
abbrev boxA (k : Int) (toks : List (List Nat)) (ns ps : AV) : Ob := .box [.d (.int .i64 k), .d (strs toks), .d (.str [122]), ns, .d (.int .i64 16), ps]
theorem vU8 {n : Nat} (h : n < 256) : AV.d (.int .u8 (IntKind.u8.wrap (n : Int))) = .d (.int .u8 (n : Int)) := by
  have : IntKind.u8.wrap (n : Int) = n := by unfold IntKind.wrap; simp [IntKind.bits, IntKind.signed]; omega
  rw [this]
theorem vU64 {n : Nat} (h : n < 1048576) : AV.d (.int .u64 (IntKind.u64.wrap (n : Int))) = .d (.int .u64 (n : Int)) := by
  have : IntKind.u64.wrap (n : Int) = n := by unfold IntKind.wrap; simp [IntKind.bits, IntKind.signed]; omega
  rw [this]
theorem vT {p : Prop} [Decidable p] (h : p) : AV.d (.bool (decide p)) = .d (.bool true) := by rw [decide_eq_true h]
theorem vF {p : Prop} [Decidable p] (h : ¬ p) : AV.d (.bool (decide p)) = .d (.bool false) := by rw [decide_eq_false h]
def nsD (i : Nat) : List DV := (namesTo i).map .str
def rgtD (l : List Int) : List DV := l.map (.int .i64)
def rowN : List Int → DV
  | [] => .nilsl
  | a :: l => ints (a :: l)
def encN (p : GProd) : DV := .agg [.int .i64 p.left, rowN p.right]
theorem encN_to (l : List GProd) : DvN (.sl 2 (l.map encN)) (.sl 2 (l.map encP)) := by
  refine DvN.map (f := encN) (g := encP) (n := 2) (fun _ => rfl) (fun _ => rfl) l fun a _ i x y hx hy => ?_
  match i with
  | 0 => simp [encN, encP, cellsD] at hx hy; subst hx hy; exact .refl
  | 1 =>
    simp [encN, encP, cellsD] at hx hy; subst hx hy
    cases a.right with
    | nil => exact .nil
    | cons r l => exact .refl
  | i + 2 => simp [encN, cellsD] at hx
theorem range_split (j d : Nat) : List.range (j + d) = List.range j ++ List.range' j d := by
  rw [List.range_eq_range', List.range_eq_range', ← List.range'_append_1, Nat.zero_add]
theorem nsD_succ (i : Nat) : nsD (i + 1) = nsD i ++ [.str [83 + i]] := by simp [nsD, namesTo, List.range_succ]
theorem accTo_len (nums : List Int) (T M i : Nat) : (accTo nums T M i).length ≤ 7 := by
  cases i with
  | zero => exact Nat.zero_le _
  | succ i => simp only [accTo, List.length_take]; omega
set_option maxHeartbeats 4000000 in
theorem anyS (nums : List Int) (hn : ∀ n ∈ nums, W64 n) : KnownCall Try.prog 8 [ints nums] (.d (encG (anyF nums))) := by
  obtain ⟨k, hk⟩ : ∃ k, k = numF nums 0 := ⟨_, rfl⟩
  have hkl := numF_lt nums 0
  have hm0 := numS nums hn 0
  rw [← hk] at hm0 hkl
  obtain ⟨M, hM⟩ : ∃ M, M = 1 + k / 4 % 3 := ⟨_, rfl⟩
  obtain ⟨T, hT⟩ : ∃ T, T = (kTok k).length := ⟨_, rfl⟩
  have hT2 : 1 ≤ T ∧ T ≤ 2 := by rw [hT, kTok_len]; omega
  rw [show encG (anyF nums) = .agg [.int .i64 ((1 + k % 2 : Nat) : Int), strs (kTok k), .str [122], .sl 1 (nsD M), .int .i64 16, .sl 2 ((accTo nums T M M).map encP)] from by simp only [encG, anyF, ← hk, hM, hT, kMany]; rfl]
  refine kF Try.func8 fA fun w => ?_
  show Run _ _ _ _ _ _ (EndK _ _ (.d (.agg [.int .i64 ((1 + k % 2 : Nat) : Int), strs (kTok k), .str [122], .sl 1 (nsD M), .int .i64 16, .sl 2 ((accTo nums T M M).map encP)])))
  repeat refine zG ?_
  iterate 1 refine zX ?_
  repeat refine zG ?_
  iterate 1 refine zX ?_
  refine oC (atS nums 0) ?_
  refine oC hm0 ?_
  iterate 1 refine zX ?_
  repeat refine zG ?_
  iterate 1 refine zX ?_
  first | refine oV (v := .d (.int .i64 ((k % 2 : Nat) : Int))) ?_ (he := (rfl)) | refine eX (v := .d (.int .i64 ((k % 2 : Nat) : Int))) ?_ (he := (rfl))
  first | refine oV (v := .d (.int .i64 ((1 + k % 2 : Nat) : Int))) ?_ (he := (vN (by omega) (by omega))) | refine eX (v := .d (.int .i64 ((1 + k % 2 : Nat) : Int))) ?_ (he := (vN (by omega) (by omega)))
  iterate 2 refine zX ?_
  first | refine oV (v := .d (.int .i64 ((k / 2 : Nat) : Int))) ?_ (he := (vN rfl (by omega))) | refine eX (v := .d (.int .i64 ((k / 2 : Nat) : Int))) ?_ (he := (vN rfl (by omega)))
  first | refine oV (v := .d (.int .i64 ((k / 2 % 2 : Nat) : Int))) ?_ (he := (rfl)) | refine eX (v := .d (.int .i64 ((k / 2 % 2 : Nat) : Int))) ?_ (he := (rfl))
  first | refine oV (v := .d (.int .i64 ((1 + k / 2 % 2 : Nat) : Int))) ?_ (he := (vN (by omega) (by omega))) | refine eX (v := .d (.int .i64 ((1 + k / 2 % 2 : Nat) : Int))) ?_ (he := (vN (by omega) (by omega)))
  refine oV (v := .d (strs (kTok k))) ?_ (hf := cutTokF k) (he := cutTokV k)
  iterate 3 refine zX ?_
  repeat refine zG ?_
  iterate 1 refine zX ?_
  first | refine oV (v := .d (.int .i64 ((k / 4 : Nat) : Int))) ?_ (he := (vN rfl (by omega))) | refine eX (v := .d (.int .i64 ((k / 4 : Nat) : Int))) ?_ (he := (vN rfl (by omega)))
  first | refine oV (v := .d (.int .i64 ((k / 4 % 3 : Nat) : Int))) ?_ (he := (rfl)) | refine eX (v := .d (.int .i64 ((k / 4 % 3 : Nat) : Int))) ?_ (he := (rfl))
  first | refine oV (v := .d (.int .i64 (M : Nat))) ?_ (he := (vN (by omega) (by omega))) | refine eX (v := .d (.int .i64 (M : Nat))) ?_ (he := (vN (by omega) (by omega)))
  iterate 1 refine zX ?_
  repeat refine zG ?_
  iterate 1 refine zX ?_
  repeat refine zG ?_
  refine Run.cellRoom 1 3 1 ?_
  refine Run.cellRoom 1 5 2 ?_
  refine Run.loopT (fun i : Nat => ⟨PT.ofList [(0, .d (ints nums)), (2, .bp 0 0), (4, .bp 1 0), (5, .d (.int .i64 (M : Nat))), (6, .d (.int .i64 i))], [boxG0, boxA ((1 + k % 2 : Nat) : Int) (kTok k) (.sr 2 1 (nsD i)) (.sr 3 2 ((accTo nums T M i).map encP)), .room i 1, .room (accTo nums T M i).length 2], []⟩) (fun i => i ≤ M) (fun i => M - i) 0 (Nat.zero_le _) (ti _ 4) (fun i hi => ?_)
  have hMl : M ≤ 3 := by omega
  have hL := accTo_len nums T M i
  rcases Nat.lt_or_ge i M with hlt | hge
  · have hx := numS nums hn (1 + i)
    have hxl := numF_lt nums (1 + i)
    obtain ⟨x, hxe⟩ : ∃ x, x = numF nums (1 + i) := ⟨_, rfl⟩
    rw [← hxe] at hx hxl
    have hnl : (nsD i).length = i := by simp [nsD, namesTo]
    repeat refine zS ?_
    iterate 2 refine zX ?_
    refine oV (v := .d (.bool true)) ?_ (he := vT (by omega))
    repeat refine zS ?_
    iterate 3 refine zX ?_
    refine oV (v := .d (.int .i64 (83 + i : Nat))) ?_ (he := vN (by omega) (by omega))
    refine oV (v := .d (.int .u8 (83 + i : Nat))) ?_ (he := vU8 (by omega))
    refine zX ?_
    refine oV (v := .d (.str [83 + i])) ?_ (he := congrArg (fun c => AV.d (.str [c])) (show ((83 + i : Nat) : Int).toNat % 256 = 83 + i by omega))
    refine zX ?_
    refine oV (v := .sr 2 1 (nsD (i + 1))) ?_ (hv := app1 (hn := hnl.symm) (hlen := by rw [hnl]; show i + 1 ≤ _; omega)) (hf := rfl) (he := by rw [nsD_succ]; rfl)
    iterate 2 refine zX ?_
    repeat refine zS ?_
    iterate 2 refine zX ?_
    refine oV (v := .d (.int .i64 (1 + i : Nat))) ?_ (he := vN (by omega) (by omega))
    refine oC (atS nums (1 + i)) ?_
    refine oC hx ?_
    refine zX ?_
    repeat refine zS ?_
    refine zX ?_
    repeat refine zS ?_
    refine Run.loopT (fun y : Nat × List GProd => ⟨PT.ofList [(0, .d (ints nums)), (2, .bp 0 0), (4, .bp 1 0), (5, .d (.int .i64 (M : Nat))), (6, .d (.int .i64 i)), (7, .d (.int .i64 x)), (8, .d (.int .i64 y.1))], [boxG0, boxA ((1 + k % 2 : Nat) : Int) (kTok k) (.sr 2 1 (nsD (i + 1))) (.sr 3 2 (y.2.map encP)), .room (i + 1) 1, .room y.2.length 2], []⟩)
      (fun y => y.1 ≤ x % 3 + 1 ∧ y.2 = accTo nums T M i ++ rowTo nums T M i y.1 ∧ y.2.length ≤ 7) (fun y => x % 3 + 1 - y.1) (0, accTo nums T M i) ⟨Nat.zero_le _, by simp [rowTo], hL⟩ (ti _ 4) (fun y hy => ?_)
    obtain ⟨j, acc⟩ := y
    obtain ⟨hj1, hj2, hj3⟩ := hy
    simp only at hj1 hj2 hj3 ⊢
    by_cases hj : j ≤ x % 3 ∧ acc.length < 7
    · obtain ⟨hja, hjb⟩ := hj
      have hy := numS nums hn (4 + 3 * i + j)
      have hyl := numF_lt nums (4 + 3 * i + j)
      have hyp : prodN nums T M i j = ⟨((16 + i : Nat) : Int), rgtTo T M (numF nums (4 + 3 * i + j)) (numF nums (4 + 3 * i + j) % 4)⟩ := rfl
      have hrow : rowTo nums T M i (j + 1) = rowTo nums T M i j ++ [prodN nums T M i j] := by simp [rowTo, List.range_succ]
      have hat := atS nums (4 + 3 * i + j)
      obtain ⟨v, hv⟩ : ∃ v, v = numF nums (4 + 3 * i + j) := ⟨_, rfl⟩
      rw [← hv] at hy hyl hyp
      have hnext : acc ++ [prodN nums T M i j] = accTo nums T M i ++ rowTo nums T M i (j + 1) := by rw [hj2, hrow, List.append_assoc]
      rw [hyp] at hnext
      repeat refine zS ?_
      iterate 2 refine zX ?_
      refine oV (v := .d (.int .i64 ((x % 3 : Nat) : Int))) ?_ (he := rfl)
      refine oV (v := .d (.bool true)) ?_ (he := vT (by omega))
      iterate 4 refine zX ?_
      refine oV (v := .d (.bool true)) ?_ (he := vT (by rw [List.length_map] <;> omega))
      refine zX ?_
      repeat refine zS ?_
      refine zX ?_
      refine oV (v := .d (.int .i64 ((16 + i : Nat) : Int))) ?_ (he := vN (by omega) (by omega))
      iterate 3 refine zX ?_
      repeat refine zS ?_
      iterate 2 refine zX ?_
      refine oV (v := .d (.int .i64 ((3 * i : Nat) : Int))) ?_ (he := vN (by omega) (by omega))
      refine oV (v := .d (.int .i64 ((4 + 3 * i : Nat) : Int))) ?_ (he := vN (by omega) (by omega))
      refine zX ?_
      refine oV (v := .d (.int .i64 ((4 + 3 * i + j : Nat) : Int))) ?_ (he := vN (by omega) (by omega))
      refine oC hat ?_
      refine oC hy ?_
      refine zX ?_
      repeat refine zS ?_
      refine zX ?_
      repeat refine zS ?_
      refine Run.cellRoom 4 1 1 ?_
      refine Run.loopT (fun s : Nat => ⟨PT.ofList [(0, .d (ints nums)), (2, .bp 0 0), (4, .bp 1 0), (5, .d (.int .i64 (M : Nat))), (6, .d (.int .i64 i)), (7, .d (.int .i64 x)), (8, .d (.int .i64 j)), (9, .bp 4 0), (10, .d (.int .i64 v)), (11, .d (.int .i64 s))], [boxG0, boxA ((1 + k % 2 : Nat) : Int) (kTok k) (.sr 2 1 (nsD (i + 1))) (.sr 3 2 (acc.map encP)), .room (i + 1) 1, .room acc.length 2, .box [.d (.int .i64 ((16 + i : Nat) : Int)), .sr 5 1 (rgtD (rgtTo T M v s))], .room s 1], []⟩)
        (fun s => s ≤ v % 4) (fun s => v % 4 - s) 0 (Nat.zero_le _) (ti _ 6) (fun s hs1 => ?_)
      have hrl : (rgtD (rgtTo T M v s)).length = s := by simp [rgtD, rgtTo]
      rcases Nat.lt_or_ge s (v % 4) with hsl | hsg
      · have hnx : rgtD (rgtTo T M v (s + 1)) = rgtD (rgtTo T M v s) ++ [.int .i64 ((symN T M (zF v s) : Nat) : Int)] := by simp [rgtD, rgtTo, List.range_succ]
        repeat refine zS ?_
        iterate 2 refine zX ?_
        refine oV (v := .d (.int .i64 ((v % 4 : Nat) : Int))) ?_ (he := rfl)
        refine oV (v := .d (.bool true)) ?_ (he := vT (by omega))
        repeat refine zS ?_
        refine zX ?_
        refine oV (v := .d (.int .i64 ((v / 4 : Nat) : Int))) ?_ (he := vN rfl (by omega))
        refine zX ?_
        refine oV (v := .d (.int .i64 ((4 * s : Nat) : Int))) ?_ (he := vN (by omega) (by omega))
        refine oV (v := .d (.int .u64 ((4 * s : Nat) : Int))) ?_ (he := vU64 (by omega))
        refine oV (v := .d (.int .i64 ((v / 4 / 2 ^ (4 * s) : Nat) : Int))) ?_ (hf := shrF (4 * s)) (he := congrArg (fun n => AV.d (.int .i64 n)) (shrN (by omega)))
        refine oV (v := .d (.int .i64 ((zF v s : Nat) : Int))) ?_ (he := rfl)
        refine zX ?_
        repeat refine zS ?_
        refine zX ?_
        refine oV (v := .d (.int .i64 ((zF v s % 5 : Nat) : Int))) ?_ (he := rfl)
        by_cases h5 : zF v s % 5 < 3
        · refine oV (v := .d (.bool true)) ?_ (he := vT (by omega))
          have hsy : symN T M (zF v s) = zF v s % T := if_pos h5
          rw [hsy] at hnx
          repeat refine zG ?_
          iterate 5 refine zX ?_
          first | refine oV (v := .d (.int .i64 (T : Nat))) ?_ (he := (by rw [hT, List.length_map])) | refine eX (v := .d (.int .i64 (T : Nat))) ?_ (he := (by rw [hT, List.length_map]))
          refine eX (v := .d (.int .i64 ((zF v s % T : Nat) : Int))) ?_ (hf := by simp <;> omega) (he := rfl)
          iterate 1 refine zX ?_
          refine eX (v := .sr 5 1 (rgtD (rgtTo T M v (s + 1)))) ?_ (hv := app1 (hn := hrl.symm) (hlen := by rw [hrl]; show s + 1 ≤ _; omega)) (hf := rfl) (he := by rw [hnx]; rfl)
          iterate 2 refine zX ?_
          repeat refine zG ?_
          refine zX ?_
          refine oV (v := .d (.int .i64 ((s + 1 : Nat) : Int))) ?_ (he := vN (by omega) (by omega))
          refine zX ?_
          repeat refine zS ?_
          exact ⟨s + 1, hsl, by omega, (ti _ 6)⟩
        · refine oV (v := .d (.bool false)) ?_ (he := vF (by omega))
          have hsy : symN T M (zF v s) = 16 + zF v s % M := if_neg h5
          rw [hsy] at hnx
          repeat refine zG ?_
          iterate 4 refine zX ?_
          refine eX (v := .d (.int .i64 ((zF v s % M : Nat) : Int))) ?_ (hf := by simp <;> omega) (he := rfl)
          first | refine oV (v := .d (.int .i64 ((16 + zF v s % M : Nat) : Int))) ?_ (he := (vN (by omega) (by have := Nat.mod_lt (zF v s) (show 0 < M by omega) <;> omega))) | refine eX (v := .d (.int .i64 ((16 + zF v s % M : Nat) : Int))) ?_ (he := (vN (by omega) (by have := Nat.mod_lt (zF v s) (show 0 < M by omega) <;> omega)))
          iterate 1 refine zX ?_
          refine eX (v := .sr 5 1 (rgtD (rgtTo T M v (s + 1)))) ?_ (hv := app1 (hn := hrl.symm) (hlen := by rw [hrl]; show s + 1 ≤ _; omega)) (hf := rfl) (he := by rw [hnx]; rfl)
          iterate 2 refine zX ?_
          repeat refine zG ?_
          refine zX ?_
          refine oV (v := .d (.int .i64 ((s + 1 : Nat) : Int))) ?_ (he := vN (by omega) (by omega))
          refine zX ?_
          repeat refine zS ?_
          exact ⟨s + 1, hsl, by omega, (ti _ 6)⟩
      · have hse : v % 4 = s := by omega
        rw [hse] at hnext
        repeat refine zS ?_
        iterate 2 refine zX ?_
        refine oV (v := .d (.int .i64 ((v % 4 : Nat) : Int))) ?_ (he := rfl)
        refine oV (v := .d (.bool false)) ?_ (he := vF (by omega))
        repeat refine zS ?_
        iterate 3 refine zX ?_
        first | refine Run.tidy (tidy_of (objs := _) [(0, .d (ints nums)), (2, .bp 0 0), (4, .bp 1 0), (5, .d (.int .i64 (M : Nat))), (6, .d (.int .i64 i)), (7, .d (.int .i64 x)), (8, .d (.int .i64 j)), (109, .sr 3 2 (acc.map encP)), (110, .d (encP ⟨((16 + i : Nat) : Int), rgtTo T M v s⟩))] 4 (Eq.trans (b := [boxG0, boxA ((1 + k % 2 : Nat) : Int) (kTok k) (.sr 2 1 (nsD (i + 1))) (.sr 3 2 (acc.map encP)), .room (i + 1) 1, .room acc.length 2]) rfl rfl) rfl (by repeat' (first | exact trivial | refine ⟨(Or.inl rfl), ?_⟩ | refine ⟨(Or.inr rfl), ?_⟩ | refine ⟨rfl, ?_⟩ | fail)) (by repeat' (first | exact trivial | refine ⟨(Or.inl rfl), ?_⟩ | refine ⟨(Or.inr rfl), ?_⟩ | refine ⟨rfl, ?_⟩ | fail)) rfl rfl) ?_ | refine RunOps.tidy (tidy_of (objs := _) [(0, .d (ints nums)), (2, .bp 0 0), (4, .bp 1 0), (5, .d (.int .i64 (M : Nat))), (6, .d (.int .i64 i)), (7, .d (.int .i64 x)), (8, .d (.int .i64 j)), (109, .sr 3 2 (acc.map encP)), (110, .d (encP ⟨((16 + i : Nat) : Int), rgtTo T M v s⟩))] 4 (Eq.trans (b := [boxG0, boxA ((1 + k % 2 : Nat) : Int) (kTok k) (.sr 2 1 (nsD (i + 1))) (.sr 3 2 (acc.map encP)), .room (i + 1) 1, .room acc.length 2]) rfl rfl) rfl (by repeat' (first | exact trivial | refine ⟨(Or.inl rfl), ?_⟩ | refine ⟨(Or.inr rfl), ?_⟩ | refine ⟨rfl, ?_⟩ | fail)) (by repeat' (first | exact trivial | refine ⟨(Or.inl rfl), ?_⟩ | refine ⟨(Or.inr rfl), ?_⟩ | refine ⟨rfl, ?_⟩ | fail)) rfl rfl) ?_
        refine zX ?_
        refine oV (v := .sr 3 2 ((acc ++ [(⟨((16 + i : Nat) : Int), rgtTo T M v s⟩ : GProd)]).map encP)) (objs' := [boxG0, boxA ((1 + k % 2 : Nat) : Int) (kTok k) (.sr 2 1 (nsD (i + 1))) (.sr 3 2 (acc.map encP)), .room (i + 1) 1, .room (acc ++ [(⟨((16 + i : Nat) : Int), rgtTo T M v s⟩ : GProd)]).length 2]) ?_ (hv := app1 (hn := (List.length_map ..).symm) (hlen := by rw [List.length_map]; show acc.length + 1 ≤ _; omega)) (hf := rfl) (he := by rw [List.map_append]; rfl) (ho := by rw [List.length_append]; rfl)
        iterate 2 refine zX ?_
        repeat refine zS ?_
        refine zX ?_
        refine oV (v := .d (.int .i64 ((j + 1 : Nat) : Int))) ?_ (he := vN (by omega) (by omega))
        refine zX ?_
        repeat refine zS ?_
        exact ⟨(j + 1, acc ++ [(⟨((16 + i : Nat) : Int), rgtTo T M v s⟩ : GProd)]), ⟨by simp only; omega, hnext, by simp; omega⟩, by simp only; omega, (ti _ 4)⟩
    · have hacc' : acc = accTo nums T M (i + 1) := by
        simp only [accTo, ← hxe]
        by_cases h7 : acc.length < 7
        · have hje : j = x % 3 + 1 := by have : ¬ j ≤ x % 3 := fun h => hj ⟨h, h7⟩; omega
          rw [← hje, ← hj2, List.take_of_length_le hj3]
        · have h7' : acc.length = 7 := by omega
          obtain ⟨d, hd⟩ : ∃ d, x % 3 + 1 = j + d := ⟨x % 3 + 1 - j, by omega⟩
          have hro : rowTo nums T M i (x % 3 + 1) = rowTo nums T M i j ++ (List.range' j d).map (prodN nums T M i) := by
            rw [hd, rowTo, rowTo, ← List.map_append, range_split]
          rw [hro, ← List.append_assoc, ← hj2, ← h7', List.take_left]
      by_cases hja : j ≤ x % 3
      · have h7 : ¬ acc.length < 7 := fun h => hj ⟨hja, h⟩
        repeat refine zS ?_
        iterate 2 refine zX ?_
        refine oV (v := .d (.int .i64 ((x % 3 : Nat) : Int))) ?_ (he := rfl)
        refine oV (v := .d (.bool true)) ?_ (he := vT (by omega))
        iterate 4 refine zX ?_
        refine oV (v := .d (.bool false)) ?_ (he := vF (by rw [List.length_map] <;> omega))
        refine zX ?_
        repeat refine zS ?_
        refine zX ?_
        refine oV (v := .d (.int .i64 ((i + 1 : Nat) : Int))) ?_ (he := vN (by omega) (by omega))
        refine zX ?_
        repeat refine zS ?_
        subst hacc'
        exact ⟨i + 1, hlt, by omega, (ti _ 4)⟩
      · repeat refine zS ?_
        iterate 2 refine zX ?_
        refine oV (v := .d (.int .i64 ((x % 3 : Nat) : Int))) ?_ (he := rfl)
        refine oV (v := .d (.bool false)) ?_ (he := vF (by omega))
        refine zX ?_
        refine oS ?_
        refine oS ?_
        refine oS ?_
        refine oS ?_
        refine zX ?_
        repeat refine zS ?_
        refine zX ?_
        refine oV (v := .d (.int .i64 ((i + 1 : Nat) : Int))) ?_ (he := vN (by omega) (by omega))
        refine zX ?_
        repeat refine zS ?_
        subst hacc'
        exact ⟨i + 1, hlt, by omega, (ti _ 4)⟩
  · have hie : i = M := by omega
    subst hie
    repeat refine zG ?_
    iterate 2 refine zX ?_
    refine oV (v := .d (.bool false)) ?_ (he := vF (by omega))
    repeat' (first
      | refine zW ?_
      | refine zB ?_ ?_ <;> intro h <;> try exact zk h
      | rfl
      | fail)
section
set_option maxRecDepth 10000
end
theorem word1 {c : Nat} (h : letterF c = true) : nameF [c] = 0 := by
  have hw : wordF [c] = 0 := by
    rw [wordF_good (by simp) (fun i hb => by
      obtain ⟨d, hd, hl, _⟩ := hb
      cases i with
      | zero => simp at hd; subst hd; rw [h] at hl; cases hl
      | succ i => simp at hd)]
    simp
  unfold nameF
  rw [hw, if_neg]
  rintro ⟨_, hl⟩
  simp [languageF, wLook, wToken, wSep, wStart] at hl
theorem small1 {c : Nat} (h1 : 97 ≤ c) (h2 : c ≤ 122) : smallF [c] = true := by
  have hl : letterF c = true := by simp [letterF]; omega
  simp [smallF, word1 hl, h1]
theorem capital1 {c : Nat} (h1 : 65 ≤ c) (h2 : c ≤ 90) : capitalF [c] = true := by
  have hl : letterF c = true := by simp [letterF]; omega
  simp [capitalF, word1 hl]; omega
theorem acc_mem {nums : List Int} {T M : Nat} : ∀ {i : Nat} {p : GProd}, p ∈ accTo nums T M i → ∃ a j, a < i ∧ p = prodN nums T M a j
  | 0, p, h => by cases h
  | i + 1, p, h => by
    simp only [accTo] at h
    rcases List.mem_append.1 (List.mem_of_mem_take h) with h | h
    · obtain ⟨a, j, ha, e⟩ := acc_mem h
      exact ⟨a, j, by omega, e⟩
    · simp only [rowTo, List.mem_map] at h
      obtain ⟨j, _, e⟩ := h
      exact ⟨i, j, by omega, e.symm⟩
theorem acc_sorted {nums : List Int} {T M : Nat} : ∀ i : Nat, (accTo nums T M i).Pairwise (fun a b => a.left ≤ b.left)
  | 0 => .nil
  | i + 1 => by
    simp only [accTo]
    refine List.Pairwise.sublist (List.take_sublist 7 _) ?_
    rw [List.pairwise_append]
    refine ⟨acc_sorted i, ?_, fun p hp q hq => ?_⟩
    · rw [rowTo, List.pairwise_map]
      exact List.pairwise_iff_getElem.2 fun _ _ _ _ _ => Int.le_refl _
    · obtain ⟨a, j, ha, rfl⟩ := acc_mem hp
      simp only [rowTo, List.mem_map] at hq
      obtain ⟨j', _, rfl⟩ := hq
      simp only [prodN]; omega
theorem acc_short {nums : List Int} {T M : Nat} : ∀ i : Nat, (accTo nums T M i).length ≤ 3 * i
  | 0 => Nat.le_refl _
  | i + 1 => by
    have := acc_short (nums := nums) (T := T) (M := M) i
    simp only [accTo, List.length_take, List.length_append, rowTo, List.length_map, List.length_range]
    omega
theorem acc_has {nums : List Int} {T M : Nat} : ∀ {i a : Nat}, a < i → i ≤ 3 → ∃ p ∈ accTo nums T M i, p.left = ((16 + a : Nat) : Int)
  | i + 1, a, h, hi => by
    have hs := acc_short (nums := nums) (T := T) (M := M) i
    simp only [accTo]
    rcases Nat.lt_or_ge a i with ha | ha
    · obtain ⟨p, hp, e⟩ := acc_has (nums := nums) (T := T) (M := M) ha (by omega)
      refine ⟨p, ?_, e⟩
      rw [List.take_append]
      exact List.mem_append_left _ (by rw [List.take_of_length_le (by omega)]; exact hp)
    · have ha : a = i := by omega
      subst ha
      refine ⟨prodN nums T M a 0, ?_, rfl⟩
      rw [List.take_append]
      refine List.mem_append_right _ ?_
      have : rowTo nums T M a (numF nums (1 + a) % 3 + 1) = prodN nums T M a 0 :: (List.range' 1 (numF nums (1 + a) % 3)).map (prodN nums T M a) := by
        rw [rowTo, List.range_eq_range', List.range'_succ]; rfl
      rw [this]
      have : 7 - (accTo nums T M a).length = (7 - (accTo nums T M a).length - 1) + 1 := by omega
      rw [this, List.take_succ_cons]
      exact List.mem_cons_self ..
theorem any_valid (nums : List Int) : checkF (anyF nums) = 0 := by
  obtain ⟨k, hk⟩ : ∃ k, k = numF nums 0 := ⟨_, rfl⟩
  obtain ⟨M, hM⟩ : ∃ M, M = 1 + k / 4 % 3 := ⟨_, rfl⟩
  obtain ⟨T, hT⟩ : ∃ T, T = (kTok k).length := ⟨_, rfl⟩
  have hT2 : T = 1 + k / 2 % 2 := by rw [hT, kTok_len]
  have e : anyF nums = ⟨((1 + k % 2 : Nat) : Int), kTok k, [122], namesTo M, 16, accTo nums T M M⟩ := by simp only [anyF, ← hk, hM, hT, kMany]
  rw [e]
  have hnl : (namesTo M).length = M := by simp [namesTo]
  have hpl : (accTo nums T M M).length ≤ 9 := Nat.le_trans (acc_short M) (by omega)
  generalize hg : (⟨((1 + k % 2 : Nat) : Int), kTok k, [122], namesTo M, 16, accTo nums T M M⟩ : Gram) = g
  have g1 : g.k = ((1 + k % 2 : Nat) : Int) := by rw [← hg]
  have g2 : g.tokens = kTok k := by rw [← hg]
  have g3 : g.sep = [122] := by rw [← hg]
  have g4 : g.names = namesTo M := by rw [← hg]
  have g5 : g.start = 16 := by rw [← hg]
  have g6 : g.prods = accTo nums T M M := by rw [← hg]
  have htl : g.tokens.length = T := by rw [g2, hT]
  have hnl' : g.names.length = M := by rw [g4, hnl]
  have htok : ∀ s ∈ g.tokens, s = [97] ∨ s = [98] := fun s hs => by
    rw [g2] at hs
    have := List.mem_of_mem_take hs
    simpa using this
  have hmany : manyF g = 0 := many_no (by omega) (by omega) (by rw [g6]; omega) (fun j p hj hp => by
    rw [g6] at hp
    obtain ⟨a, b, _, rfl⟩ := acc_mem (List.mem_of_getElem? hp)
    simp [prodN, rgtTo]; omega)
  have hnam : namedF g = 0 := by
    refine named_no (fun j hj s hs => ?_) (fun j hj s hs => ?_)
    · have hs := List.mem_of_getElem? hs
      simp only [smalls, List.mem_append, List.mem_singleton, g3] at hs
      rcases hs with hs | rfl
      · rcases htok s hs with rfl | rfl
        · exact small1 (by decide) (by decide)
        · exact small1 (by decide) (by decide)
      · exact small1 (by decide) (by decide)
    · have hs := List.mem_of_getElem? hs
      rw [g4] at hs
      simp only [namesTo, List.mem_map, List.mem_range] at hs
      obtain ⟨a, ha, rfl⟩ := hs
      exact capital1 (by omega) (by omega)
  have hnd1 : (smalls g).Nodup := by
    unfold smalls
    rw [g2, g3, kTok]
    rcases Nat.mod_two_eq_zero_or_one (k / 2) with h | h <;> rw [h] <;> decide
  have hnd2 : g.names.Nodup := by
    rw [g4, namesTo]
    refine List.Pairwise.map _ (fun a b (h : a ≠ b) => ?_) List.nodup_range
    simpa using h
  have hnames : namesF g = 0 := by
    unfold namesF
    rw [if_neg (by simp [hnd1, hnd2]), hnam]
  have hgood : ∀ p ∈ g.prods, goodP g p := fun p hp => by
    rw [g6] at hp
    obtain ⟨a, b, ha, rfl⟩ := acc_mem hp
    refine ⟨by simp only [isNonterm, prodN, Bool.and_eq_true, decide_eq_true_eq, hnl']; exact ⟨(by first | omega | exact decide_eq_true (by omega)), (by first | omega | exact decide_eq_true (by omega))⟩, fun s hs => ?_⟩
    simp only [prodN, rgtTo, List.mem_map] at hs
    obtain ⟨z, _, rfl⟩ := hs
    simp only [goodS, isTerm, isNonterm, Bool.or_eq_true, Bool.and_eq_true, decide_eq_true_eq, htl, hnl', symN]
    split
    · left
      have := Nat.mod_lt (zF (numF nums (4 + 3 * a + b)) z) (show 0 < T by omega)
      exact ⟨(by first | omega | exact decide_eq_true (by omega)), (by first | omega | exact decide_eq_true (by omega))⟩
    · right
      have := Nat.mod_lt (zF (numF nums (4 + 3 * a + b)) z) (show 0 < M by omega)
      exact ⟨(by first | omega | exact decide_eq_true (by omega)), (by first | omega | exact decide_eq_true (by omega))⟩
  have hsym : symbolsF g = 0 := by
    unfold symbolsF
    rw [if_pos ⟨by simp only [isNonterm, g5, Bool.and_eq_true, decide_eq_true_eq, hnl']; exact ⟨(by first | omega | exact decide_eq_true (by omega)), (by first | omega | exact decide_eq_true (by omega))⟩, hgood⟩, if_neg, if_neg]
    · rintro ⟨i, hi, hm⟩
      obtain ⟨p, hp, hl⟩ := acc_has (nums := nums) (T := T) (M := M) (show i < M by omega) (show M ≤ 3 by omega)
      rw [prodsF_nil, List.any_eq_false] at hm
      refine hm p (by rw [g6]; exact hp) ?_
      simp [hl]
    · rintro ⟨i, p, q, hp, hq, hlt⟩
      rw [g6] at hp hq
      have hsr := acc_sorted (nums := nums) (T := T) (M := M) M
      obtain ⟨h1, e1⟩ := List.getElem?_eq_some_iff.1 hp
      obtain ⟨h2, e2⟩ := List.getElem?_eq_some_iff.1 hq
      have := List.pairwise_iff_getElem.1 hsr i (i + 1) h1 h2 (by omega)
      rw [e1, e2] at this
      omega
  unfold checkF
  rw [if_neg (by rw [g1]; omega), if_neg (by simp [hmany]), if_neg, if_neg (by simp [hnames]), hsym]
  rintro (h | h)
  · rw [h] at htl; simp at htl; omega
  · rw [h] at hnl'; simp at hnl'; omega
theorem any_fits (nums : List Int) : Fits (anyF nums) := by
  obtain ⟨hm, _⟩ := check_parts (any_valid nums)
  obtain ⟨h1, h2, h3, h4⟩ := many_zero hm
  refine ⟨by omega, by omega, by omega, by simp [anyF], fun s hs => ?_, fun s hs => ?_, fun p hp => by have := h4 p hp; omega⟩
  · have : s ∈ kTok (numF nums 0) := hs
    have := List.mem_of_mem_take this
    rcases (by simpa using this : s = [97] ∨ s = [98]) with rfl | rfl <;> simp
  · have : s ∈ namesTo (kMany (numF nums 0)) := hs
    simp only [namesTo, List.mem_map] at this
    obtain ⟨a, _, rfl⟩ := this
    simp
def kN (g : Gram) : Nat := g.k.toNat
def psN (g : Gram) : List (Nat × List Nat) := g.prods.map fun p => ((p.left - 16).toNat, p.right.map Int.toNat)
theorem good_nat {g : Gram} {s : Int} (ht : g.tokens.length ≤ 8) (h : goodS g s = true) : s = (s.toNat : Int) ∧ SymN g.names.length s.toNat := by
  unfold goodS isTerm isNonterm at h
  simp only [Bool.or_eq_true, Bool.and_eq_true, decide_eq_true_eq] at h
  unfold SymN
  omega
theorem ints_nat {l : List Int} (h : ∀ s ∈ l, s = (s.toNat : Int)) : ints l = .sl 1 ((l.map Int.toNat).map nI) := by
  simp only [ints, List.map_map]
  congr 1
  refine List.map_congr_left fun s hs => ?_
  have := h s hs
  show DV.int .i64 s = .int .i64 ((s.toNat : Nat) : Int)
  rw [← this]
structure ValN (g : Gram) : Prop where
  k : g.k = (kN g : Int)
  k1 : 1 ≤ kN g
  k4 : kN g ≤ 4
  n8 : g.names.length ≤ 8
  t8 : g.tokens.length ≤ 8
  ok : PrOK g.names.length (psN g)
  len : (psN g).length ≤ 24
  enc : g.prods.map encP = (psN g).map encQ
theorem valN {g : Gram} (h : checkF g = 0) : ValN g := by
  have hc := h
  obtain ⟨hm, h1, h2, h3, h4⟩ := check_parts h
  obtain ⟨ht, hn, hp, hr⟩ := many_zero hm
  have hk : 1 ≤ g.k ∧ g.k ≤ 4 := by
    unfold checkF at hc
    split at hc
    · cases hc
    · omega
  have hs : symbolsOK g := (symbols_zero h4).1
  have hg : ∀ p ∈ g.prods, 16 ≤ p.left ∧ p.left < 16 + g.names.length ∧ ∀ s ∈ p.right, s = (s.toNat : Int) ∧ SymN g.names.length s.toNat := fun p hp => by
    obtain ⟨h5, h6⟩ := hs.2 p hp
    unfold isNonterm at h5
    simp only [Bool.and_eq_true, decide_eq_true_eq] at h5
    exact ⟨h5.1, h5.2, fun s hs => good_nat ht (h6 s hs)⟩
  refine ⟨?_, ?_, ?_, hn, ht, ⟨fun p hp => ?_, fun p hp s hs => ?_, fun p hp => ?_⟩, by simp [psN]; exact hp, ?_⟩
  · unfold kN; omega
  · unfold kN; omega
  · unfold kN; omega
  · obtain ⟨q, hq, rfl⟩ := List.mem_map.1 hp
    have := hg q hq
    simp only; omega
  · obtain ⟨q, hq, rfl⟩ := List.mem_map.1 hp
    obtain ⟨t, ht, rfl⟩ := List.mem_map.1 hs
    exact ((hg q hq).2.2 t ht).2
  · obtain ⟨q, hq, rfl⟩ := List.mem_map.1 hp
    have := hr q hq
    simp only [List.length_map]; omega
  · unfold psN
    rw [List.map_map]
    refine List.map_congr_left fun p hp => ?_
    obtain ⟨h5, h6, h7⟩ := hg p hp
    simp only [encP, encQ, Function.comp]
    rw [ints_nat fun s hs => (h7 s hs).1]
    have : p.left = ((16 + (p.left - 16).toNat : Nat) : Int) := by omega
    exact congrArg (fun n => DV.agg [DV.int .i64 n, .sl 1 ((p.right.map Int.toNat).map nI)]) this
def setsG (g : Gram) : Sets := setsF (kN g) g.names.length (psN g)
abbrev grmF (g : Gram) : DV × DV × DV × DV × DV := (strs g.tokens, .str g.sep, strs g.names, .int .i64 g.start, .sl 2 (g.prods.map encP))
theorem setsK {g : Gram} (h : checkF g = 0) : ACall Try.prog 30 [.d (encG g)] [] (.agg (tbC (kN g) (grmF g) (.vs (2 + 3 * g.names.length) 1 0 g.names.length))) (objT .gone .gone (setsG g) g.names.length) := by
  have v := valN h
  have := setsA (kN g) v.k1 v.k4 (strs g.tokens) (.str g.sep) (.int .i64 g.start) (g.names.map .str) g.names.length (by simp) v.n8 (psN g) v.ok (by have := v.len; omega)
  rw [← v.enc, show nI (kN g) = DV.int .i64 g.k from congrArg (DV.int .i64) v.k.symm] at this
  exact this
def chkFs (g : Gram) (l : List Int) : Int := if checkF g ≠ 0 then checkF g else if 100 < l.length then 6 else if l.all (goodS g) = true then 0 else 14
theorem checkFst (g : Gram) (hf : Fits g) (l : List Int) (hl : l.length ≤ 1048576) : KnownCall Try.prog 29 [encG g, ints l] (.d (.int .i64 (chkFs g l))) := by
  have c := grCheck g hf
  have hll : (l.map (DV.int .i64)).length = l.length := by simp
  by_cases h0 : checkF g = 0
  · by_cases h1 : 100 < l.length
    · have e : chkFs g l = 6 := by simp [chkFs, h0, h1]
      rw [e]
      refine kF Try.func29 [2] fun w => ?_
      repeat' (first
        | refine zW ?_
        | refine zB ?_ ?_ <;> intro h <;> try exact zk h
        | refine zC (c) ?_
        | rfl
        | (exfalso; (simp_all <;> omega))
        | fail)
    · refine kF Try.func29 [2] fun w => ?_
      repeat' (first
        | refine zW ?_
        | refine zB ?_ ?_ <;> intro h <;> try exact zk h
        | refine zC (c) ?_
        | (exfalso; (simp_all <;> omega))
        | fail)
      refine Run.loopT (fun i : Nat => ⟨PT.ofList [(2, .d (.ep [.int .i64 g.k, strs g.tokens, .str g.sep, strs g.names, .int .i64 g.start, .sl 2 (g.prods.map encP)])), (22, .d (ints l)), (23, .d (nI (l.map (DV.int .i64)).length)), (24, .d (nI i))], [], []⟩) (fun i => i ≤ l.length ∧ ∀ s ∈ l.take i, goodS g s = true) (fun i => l.length - i) 0 ⟨Nat.zero_le _, by simp⟩ (ti _ 0) (fun i hi => ?_)
      obtain ⟨hi1, hi2⟩ := hi
      rcases Nat.lt_or_ge i l.length with hlt | hge
      · obtain ⟨s, hs⟩ := get_ok hlt
        have ca := askName g s hf
        repeat refine zS ?_
        refine zV (lt_true (show i < (l.map (DV.int .i64)).length by omega)) ?_
        repeat refine zS ?_
        refine zI w (.d (.ep [.int .i64 s])) hs ?_
        iterate 2 refine zX ?_
        repeat refine zS ?_
        cases hg : goodS g s with
        | true =>
          rw [show askNameF g s = (nameS g s, 0) by simp [askNameF, h0, hg]] at ca
          repeat' (first
            | refine zW ?_
            | refine zB ?_ ?_ <;> intro h <;> try exact zk h
            | refine zC (ca) ?_
            | (fail)
            | fail)
          exact ⟨i + 1, ⟨hlt, fun t ht => by
            rw [List.take_add_one, hs] at ht
            rcases List.mem_append.1 ht with h | h
            · exact hi2 t h
            · simp at h; subst h; exact hg⟩, by omega, ti _ 0⟩
        | false =>
          rw [show askNameF g s = ([], 14) by simp [askNameF, h0, hg]] at ca
          have e : chkFs g l = 14 := by
            unfold chkFs
            rw [if_neg (by simp [h0]), if_neg h1, if_neg]
            rw [List.all_eq_true]
            exact fun h => by rw [h s (List.mem_of_getElem? hs)] at hg; cases hg
          rw [e]
          repeat' (first
            | refine zW ?_
            | refine zB ?_ ?_ <;> intro h <;> try exact zk h
            | refine zC (ca) ?_
            | rfl
            | (fail)
            | fail)
      · have hie : i = l.length := by omega
        subst hie
        rw [List.take_length] at hi2
        have e : chkFs g l = 0 := by
          unfold chkFs
          rw [if_neg (by simp [h0]), if_neg h1, if_pos (List.all_eq_true.2 hi2)]
        rw [e]
        repeat refine zS ?_
        refine zV (lt_false (show (l.map (DV.int .i64)).length ≤ l.length by omega)) ?_
        repeat' (first
          | refine zW ?_
          | refine zB ?_ ?_ <;> intro h <;> try exact zk h
          | rfl
          | (fail)
          | fail)
  · have e : chkFs g l = checkF g := by simp [chkFs, h0]
    rw [e]
    refine kF Try.func29 [2] fun w => ?_
    repeat' (first
      | refine zW ?_
      | refine zB ?_ ?_ <;> intro h <;> try exact zk h
      | refine zC (c) ?_
      | rfl
      | (exfalso; (simp_all <;> omega))
      | fail)
theorem oLenPm {nt m : Nat} {ro' : Option Nat} {K : Ex → S → Prop} {ops : Array Oper} {lo : List Oper} {o : Oper} {tm tm' : PT AV} {objs : List Ob} {dl : List Dl} {i : Nat} {L : List (List Nat)} {args : Array Operand} {tys : Array TypeId} {a : Operand} {t kt et : TypeId} {yt : Ty} (hi : objs[i]? = some (.pm (kvT L)))
    (k : RunOps Try.prog nt m ro' ops lo ⟨tm', objs, dl⟩ K) (hop : o.op = .call ⟨.builtin .len, args, tys⟩ := by rfl) (ha : args.toList = [a] := by rfl) (ht : tys.toList = [t] := by rfl) (h1 : Et.get? t = some yt := by rfl) (h2 : yt.desc = .map kt et := by rfl) (hm : rd tm a = .mp i := by rfl)
    (hg : guardA ops (rd tm) o = some true := by rfl) (hs : setD nt tm o.dst (.d (nI L.length)) = some tm' := by rfl) : RunOps Try.prog nt m ro' ops (o :: lo) ⟨tm, objs, dl⟩ K := by
  refine RunOps.openPm i hi fun lA hlA => ?_
  obtain ⟨L', rfl, hp⟩ := perm_kvT hlA
  have hil := (List.getElem?_eq_some_iff.1 hi).1
  have hx : (objs.set i (.map (kvT L')))[i]? = some (.map (kvT L')) := List.getElem?_set_self hil
  refine RunOps.x (frz := []) (v := .d (nI L.length)) Et_ok hg (evAny_lenM (frz := []) hop ha ht h1 h2 hm hx) rfl (by rw [List.length_map, hp.length_eq]) rfl rfl hs ?_
  refine RunOps.closePm i (l := kvT L') (kvs := kvT L) hx (hp.map _) ?_
  show RunOps _ _ _ _ _ _ ⟨tm', (objs.set i (.map (kvT L'))).set i (.pm (kvT L)), dl⟩ K
  rw [set_back hi]
  exact k
def foN (g : Gram) (l : List Nat) : List (List Nat) := fstF (kN g) (setsG g) [[]] l
theorem setsG_ok {g : Gram} (h : checkF g = 0) : SOK (kN g) (setsG g) := it_sok (valN h).k4 (valN h).ok.sy _
theorem fo_asc (g : Gram) (l : List Nat) : Asc (foN g l) := fst_asc emp_asc
theorem fo_rt {g : Gram} (h : checkF g = 0) {l : List Nat} (hl : ∀ s ∈ l, SymN g.names.length s) : ∀ x ∈ foN g l, Rt x ∧ x.length ≤ kN g := fst_rt (valN h).k4 (fun a x hx => ((setsG_ok h).rt a x hx).1) emp_rt hl
abbrev ofO (g : Gram) (l : List Nat) : List Ob := objT .gone .gone (setsG g) g.names.length ++ [.gone, .pm (kvT [[]])] ++ tlF l.length (foN g l)
abbrev ofI (g : Gram) (l : List Nat) : Nat := ixO (objT .gone .gone (setsG g) g.names.length).length l.length
theorem objG_refs (g : Gram) : (objT .gone .gone (setsG g) g.names.length).all (refOb (objT .gone .gone (setsG g) g.names.length).length) = true := objT_refs rfl rfl (by rw [objT_len]; exact Nat.le_refl _)
theorem ofG {g : Gram} (h : checkF g = 0) (l : List Nat) (hl : ∀ s ∈ l, SymN g.names.length s) (hll : l.length ≤ 1000) :
    ACall Try.prog 31 [.agg (tbC (kN g) (grmF g) (.vs (2 + 3 * g.names.length) 1 0 g.names.length)), .d (.sl 1 (l.map nI))] (objT .gone .gone (setsG g) g.names.length) (.mp (ofI g l)) (ofO g l) :=
  ofTA _ (objG_refs g) (kN g) (valN h).k1 (valN h).k4 (grmF g) _ g.names.length (setsG g) (tbs_obj (setsG_ok h) (valN h).n8 (by rw [objT_len]; exact Nat.le_refl _)) l hl hll
theorem ofO_at (g : Gram) (l : List Nat) : (ofO g l)[ofI g l]? = some (.pm (kvT (foN g l))) := by
  refine at_ix (by simp) fun h0 => ?_
  rw [List.length_eq_zero_iff.1 h0]
  exact get1
theorem ofO_refs (g : Gram) (l : List Nat) : (ofO g l).all (refOb (ofO g l).length) = true := by
  rw [List.all_append, List.all_append, refs_mono (by simp) (objG_refs g), tlF_refs]; rfl
theorem chk_good {g : Gram} (h : checkF g = 0) {l : List Int} (hg : ∀ s ∈ l, goodS g s = true) (hl : l.length ≤ 100) : chkFs g l = 0 := by
  unfold chkFs
  rw [if_neg (by simp [h]), if_neg (by omega), if_pos (List.all_eq_true.2 hg)]
structure SyN (g : Gram) (l : List Int) : Prop where
  enc : ints l = .sl 1 ((l.map Int.toNat).map nI)
  sy : ∀ s ∈ l.map Int.toNat, SymN g.names.length s
theorem syN {g : Gram} (h : checkF g = 0) {l : List Int} (hg : ∀ s ∈ l, goodS g s = true) : SyN g l :=
  ⟨ints_nat fun s hs => (good_nat (valN h).t8 (hg s hs)).1, fun s hs => by
    obtain ⟨t, ht, rfl⟩ := List.mem_map.1 hs
    exact (good_nat (valN h).t8 (hg t ht)).2⟩
set_option maxHeartbeats 4000000 in
theorem fOfK {g : Gram} (h : checkF g = 0) (hf : Fits g) {l : List Int} (hg : ∀ s ∈ l, goodS g s = true) (hl : l.length ≤ 100) (hc : (foN g (l.map Int.toNat)).length ≤ 600) :
    KnownCall Try.prog 9 [encG g, ints l] (.tup [.d (lks (foN g (l.map Int.toNat))), .d (.int .i64 0)]) := by
  have c := checkFst g hf l (by omega)
  rw [chk_good h hg hl] at c
  have v := syN h hg
  rw [v.enc] at c ⊢
  have hO := ofG h (l.map Int.toNat) v.sy (by simp; omega)
  have hM := ofO_at g (l.map Int.toNat)
  have hR := ofO_refs g (l.map Int.toNat)
  have hrt := fo_rt h v.sy
  generalize hofo : ofO g (l.map Int.toNat) = Z at hO hM hR
  generalize hofi : ofI g (l.map Int.toNat) = ix at hO hM
  have has := fo_asc g (l.map Int.toNat)
  generalize foN g (l.map Int.toNat) = A at *
  have hS := sortedA Z hR ix A hM has fun x hx => (hrt x hx).1
  have hK := collectK A (fun x hx => (hrt x hx).1.len) (by omega)
  refine kF Try.func9 [2] fun w => ?_
  repeat refine zS ?_
  iterate 3 refine zX ?_
  repeat refine zS ?_
  iterate 2 refine zX ?_
  refine zC c ?_
  refine zX ?_
  repeat refine zS ?_
  iterate 2 refine zX ?_
  repeat refine zS ?_
  refine zX ?_
  refine oA (setsK h) ?_
  refine zX ?_
  refine oA hO ?_
  refine zX ?_
  repeat refine zS ?_
  refine zX ?_
  refine oLenPm hM ?_
  refine zV (show AV.d (.bool (decide (((A.length : Nat) : Int) > 600))) = .d (.bool false) by rw [decide_eq_false (by omega)]) ?_
  repeat refine zS ?_
  refine zX ?_
  refine oA hS ?_
  refine zC hK ?_
  iterate 2 refine zX ?_
  repeat refine zS ?_
  exact zE rfl
section
set_option maxRecDepth 10000
end
def Sub (S S' : Sets) : Prop := ∀ a x, x ∈ S a → x ∈ S' a
def Clo (k : Nat) (ps : List (Nat × List Nat)) (S : Sets) : Prop := ∀ p ∈ ps, ∀ x ∈ fstF k S [[]] p.2, x ∈ S p.1
theorem mem_fst_cons {k : Nat} {S : Sets} {B : List (List Nat)} {s : Nat} {l : List Nat} {x : List Nat} : x ∈ fstF k S B (s :: l) ↔ x ∈ fstF k S (ascOf (prs k B (syF S s))) l := Iff.rfl
theorem fst_mono {k : Nat} {S S' : Sets} (h : Sub S S') : ∀ {l : List Nat} {B B' : List (List Nat)}, (∀ x ∈ B, x ∈ B') → ∀ x ∈ fstF k S B l, x ∈ fstF k S' B' l
  | [], _, _, hB, x, hx => hB x hx
  | s :: l, B, B', hB, x, hx => by
    refine fst_mono h (l := l) (fun y hy => ?_) x hx
    obtain ⟨u, hu, v, hv, rfl⟩ := mem_prs.1 (mem_asc.1 hy)
    refine mem_asc.2 (mem_prs.2 ⟨u, hB u hu, v, ?_, rfl⟩)
    unfold syF at hv ⊢
    split
    · rename_i h8; rw [if_pos h8] at hv; exact hv
    · rename_i h8; rw [if_neg h8] at hv; exact h _ _ hv
theorem sub_step {k : Nat} {S : Sets} {p : Nat × List Nat} : Sub S (stepS k S p) := fun a x hx => by
  unfold stepS updT
  split
  · rename_i h; subst h; exact mem_asc.2 (List.mem_append.2 (.inl hx))
  · exact hx
theorem sub_round {k : Nat} : ∀ {ps : List (Nat × List Nat)} {S : Sets}, Sub S (roundS k ps S)
  | [], _ => fun _ _ h => h
  | _ :: ps, _ => fun a x hx => sub_round (ps := ps) a x (sub_step a x hx)
theorem step_least {k : Nat} {S S' : Sets} {p : Nat × List Nat} (h : Sub S S') (hp : ∀ x ∈ fstF k S' [[]] p.2, x ∈ S' p.1) : Sub (stepS k S p) S' := fun a x hx => by
  unfold stepS updT at hx
  split at hx
  · rename_i h0; subst h0
    rcases List.mem_append.1 (mem_asc.1 hx) with h1 | h1
    · exact h _ _ h1
    · exact hp x (fst_mono h (fun _ h => h) x h1)
  · exact h _ _ hx
theorem round_least {k : Nat} : ∀ {ps : List (Nat × List Nat)} {S S' : Sets}, Sub S S' → Clo k ps S' → Sub (roundS k ps S) S'
  | [], _, _, h, _ => h
  | p :: ps, _, _, h, hc => round_least (ps := ps) (step_least h (hc p (by simp))) fun q hq => hc q (by simp [hq])
theorem it_least {k : Nat} {ps : List (Nat × List Nat)} {S' : Sets} (hc : Clo k ps S') : ∀ m, Sub (itS k ps m) S'
  | 0 => fun _ _ h => by simp [itS] at h
  | m + 1 => round_least (it_least hc m) hc
theorem sub_anti {k : Nat} {S S' : Sets} (h : SOK k S) (h' : SOK k S') (h1 : Sub S S') (h2 : Sub S' S) : S = S' := funext fun a => asc_ext (h.asc a) (h'.asc a) fun x => ⟨h1 a x, h2 a x⟩
theorem clo_of_fix {k n : Nat} (hk : k ≤ 4) : ∀ {ps : List (Nat × List Nat)} {S : Sets}, SOK k S → (∀ p ∈ ps, ∀ s ∈ p.2, SymN n s) → Sub (roundS k ps S) S → Clo k ps S
  | [], _, _, _, _ => fun p hp => by cases hp
  | q :: ps, S, hS, hp, h => by
    have h1 : Sub (stepS k S q) S := fun a x hx => h a x (sub_round (ps := ps) a x hx)
    have h2 : stepS k S q = S := sub_anti (step_sok hk hS (hp q (by simp))) hS h1 sub_step
    have h3 : Sub (roundS k ps S) S := fun a x hx => h a x (by show x ∈ roundS k ps (stepS k S q) a; rw [h2]; exact hx)
    intro p hpm
    rcases List.mem_cons.1 hpm with rfl | hpm
    · intro x hx
      refine h1 p.1 x ?_
      unfold stepS updT
      rw [if_pos rfl]
      exact mem_asc.2 (List.mem_append.2 (.inr hx))
    · exact clo_of_fix hk hS (fun q hq => hp q (by simp [hq])) h3 p hpm
theorem tot_sub {k : Nat} {S S' : Sets} (h : SOK k S) (h1 : Sub S S') : ∀ n, tot S n ≤ tot S' n
  | 0 => Nat.le_refl _
  | n + 1 => by
    have := tot_sub h h1 n
    have := nodup_le (asc_nodup (h.asc n)) (h1 n)
    simp only [tot]; omega
theorem tot_eq {k : Nat} {S S' : Sets} (h : SOK k S) (h1 : Sub S S') : ∀ n, tot S' n ≤ tot S n → ∀ a, a < n → ∀ x ∈ S' a, x ∈ S a
  | n + 1, he, a, ha, x, hx => by
    have h2 := tot_sub h h1 n
    have h3 := nodup_le (asc_nodup (h.asc n)) (h1 n)
    simp only [tot] at he
    rcases Nat.lt_or_ge a n with h4 | h4
    · exact tot_eq h h1 n (by omega) a h4 x hx
    · have : a = n := by omega
      subst this
      by_cases hc : x ∈ S a
      · exact hc
      · have hn : (x :: S a).Nodup := List.nodup_cons.2 ⟨hc, asc_nodup (h.asc a)⟩
        have := nodup_le hn (m := S' a) fun y hy => by
          rcases List.mem_cons.1 hy with rfl | hy
          · exact hx
          · exact h1 _ _ hy
        simp only [List.length_cons] at this
        omega
theorem round_far {k n : Nat} : ∀ {ps : List (Nat × List Nat)} {S : Sets} {a : Nat}, (∀ p ∈ ps, p.1 < n) → n ≤ a → roundS k ps S a = S a
  | [], _, _, _, _ => rfl
  | p :: ps, S, a, hp, ha => by
    show roundS k ps (stepS k S p) a = S a
    rw [round_far (ps := ps) (fun q hq => hp q (by simp [hq])) ha, stepS, updT, if_neg (by have := hp p (by simp); omega)]
theorem it_far {k n : Nat} {ps : List (Nat × List Nat)} (hp : ∀ p ∈ ps, p.1 < n) {a : Nat} (ha : n ≤ a) : ∀ m, itS k ps m a = []
  | 0 => rfl
  | m + 1 => by show roundS k ps (itS k ps m) a = []; rw [round_far hp ha, it_far hp ha m]
theorem it_fix {k n : Nat} (hk : k ≤ 4) {ps : List (Nat × List Nat)} (hp : PrOK n ps) : ∀ m, (∃ j, j ≤ m ∧ itS k ps (j + 1) = itS k ps j) ∨ m ≤ tot (itS k ps m) n
  | 0 => .inr (Nat.zero_le _)
  | m + 1 => by
    rcases it_fix hk hp m with ⟨j, h1, h2⟩ | h
    · exact .inl ⟨j, by omega, h2⟩
    · have hs := it_sok hk hp.sy (k := k)
      by_cases hl : tot (itS k ps (m + 1)) n ≤ tot (itS k ps m) n
      · refine .inl ⟨m, by omega, (sub_anti (hs m) (hs (m + 1)) sub_round fun a x hx => ?_).symm⟩
        rcases Nat.lt_or_ge a n with ha | ha
        · exact tot_eq (hs m) sub_round n hl a ha x hx
        · rw [it_far hp.lt ha] at hx; cases hx
      · exact .inr (by omega)
theorem sets_fix {k n : Nat} (hk : k ≤ 4) {ps : List (Nat × List Nat)} (hp : PrOK n ps) : ∃ m, itS k ps (m + 1) = itS k ps m ∧ setsF k n ps = itS k ps m := by
  rcases it_fix hk hp (6562 * (n + 1)) with ⟨j, h1, h2⟩ | h
  · exact ⟨j, h2, sets_of h2 h1⟩
  · have := tot_le (it_sok (k := k) hk hp.sy (6562 * (n + 1))) n
    omega
theorem sets_clo {k n : Nat} (hk : k ≤ 4) {ps : List (Nat × List Nat)} (hp : PrOK n ps) : Clo k ps (setsF k n ps) := by
  obtain ⟨m, h1, h2⟩ := sets_fix hk hp
  rw [h2]
  exact clo_of_fix hk (it_sok hk hp.sy m) hp.sy fun a x hx => by
    rw [show roundS k ps (itS k ps m) = itS k ps (m + 1) from rfl, h1] at hx; exact hx
theorem sets_least {k n : Nat} {ps : List (Nat × List Nat)} {S' : Sets} (hc : Clo k ps S') : Sub (setsF k n ps) S' := it_least hc _
def InT (T : Nat) (L : List (List Nat)) : Prop := ∀ x ∈ L, ∀ t ∈ x, t < T
theorem fst_in {k T : Nat} {S : Sets} (hS : ∀ a, InT T (S a)) : ∀ {l : List Nat} {B : List (List Nat)}, InT T B → (∀ s ∈ l, s < 8 → s < T) → InT T (fstF k S B l)
  | [], _, hB, _ => hB
  | s :: l, B, hB, hl => by
    refine fst_in hS (l := l) (fun y hy t ht => ?_) fun s hs => hl s (by simp [hs])
    obtain ⟨u, hu, v, hv, rfl⟩ := mem_prs.1 (mem_asc.1 hy)
    rcases List.mem_append.1 (List.mem_of_mem_take ht) with h | h
    · exact hB u hu t h
    · unfold syF at hv
      split at hv
      · rename_i h8
        simp at hv; subst hv
        simp at h; subst h
        exact hl t (by simp) h8
      · exact hS _ v hv t h
theorem it_in {k T : Nat} {ps : List (Nat × List Nat)} (hp : ∀ p ∈ ps, ∀ s ∈ p.2, s < 8 → s < T) (m : Nat) (a : Nat) : InT T (itS k ps m a) := by
  have hc : ∀ n, InT T (itS k ps n a) := fun n => by
    have := it_least (k := k) (ps := ps) (S' := fun a => itS k ps n a)
    clear this
    suffices h : ∀ n a, InT T (itS k ps n a) from h n a
    intro n
    induction n with
    | zero => intro a x hx; simp [itS] at hx
    | succ n ih =>
      have key : ∀ (qs : List (Nat × List Nat)) (S : Sets), (∀ p ∈ qs, ∀ s ∈ p.2, s < 8 → s < T) → (∀ a, InT T (S a)) → ∀ a, InT T (roundS k qs S a) := by
        intro qs
        induction qs with
        | nil => intro S _ h; exact h
        | cons q qs ihq =>
          intro S hq h
          refine ihq (stepS k S q) (fun p hp => hq p (by simp [hp])) fun a x hx => ?_
          unfold stepS updT at hx
          split at hx
          · rcases List.mem_append.1 (mem_asc.1 hx) with h1 | h1
            · exact h _ x h1
            · exact fst_in h (fun y hy t ht => by simp at hy; subst hy; cases ht) (hq q (by simp)) x h1
          · exact h _ x hx
      exact key ps _ hp ih
  exact hc m
def tabL (L : List (List (List Nat))) : Sets := fun a => L.getD a []
def stepL (k : Nat) (L : List (List (List Nat))) (p : Nat × List Nat) : List (List (List Nat)) := L.set p.1 (ascOf (L.getD p.1 [] ++ fstF k (tabL L) [[]] p.2))
theorem tab_set {L : List (List (List Nat))} {a : Nat} (h : a < L.length) (X : List (List Nat)) : updT (tabL L) a X = tabL (L.set a X) := by
  funext c
  unfold updT tabL
  by_cases hc : c = a
  · subst hc; simp [List.getD_eq_getElem?_getD, h]
  · rw [if_neg hc]
    simp only [List.getD_eq_getElem?_getD]
    rw [List.getElem?_set_ne (Ne.symm hc)]
theorem round_tab {k : Nat} : ∀ {ps : List (Nat × List Nat)} {L : List (List (List Nat))}, (∀ p ∈ ps, p.1 < L.length) → roundS k ps (tabL L) = tabL (ps.foldl (stepL k) L)
  | [], _, _ => rfl
  | p :: ps, L, h => by
    show roundS k ps (stepS k (tabL L) p) = tabL (ps.foldl (stepL k) (stepL k L p))
    have e : stepS k (tabL L) p = tabL (stepL k L p) := tab_set (h p (by simp)) _
    rw [e]
    refine round_tab (ps := ps) fun q hq => ?_
    simp only [stepL, List.length_set]
    exact h q (by simp [hq])
def psE : List (Nat × List Nat) := [(0, [0, 16, 1]), (0, []), (1, [16, 17, 0]), (1, [1])]
def exL : List (List (List Nat)) := [[[], [0, 0], [0, 1]], [[0, 0], [0, 1], [1], [1, 0]]]
def itL (k : Nat) (ps : List (Nat × List Nat)) : Nat → List (List (List Nat)) → List (List (List Nat))
  | 0, L => L
  | m + 1, L => ps.foldl (stepL k) (itL k ps m L)
theorem stepL_len {k : Nat} : ∀ {ps : List (Nat × List Nat)} {L : List (List (List Nat))}, (ps.foldl (stepL k) L).length = L.length
  | [], _ => rfl
  | p :: ps, L => by
    show (ps.foldl (stepL k) (stepL k L p)).length = _
    rw [stepL_len (ps := ps)]; simp [stepL]
theorem it_tab {k : Nat} {ps : List (Nat × List Nat)} {L : List (List (List Nat))} (h0 : tabL L = fun _ => []) (h : ∀ p ∈ ps, p.1 < L.length) : ∀ m, itS k ps m = tabL (itL k ps m L) ∧ (itL k ps m L).length = L.length
  | 0 => ⟨h0.symm, rfl⟩
  | m + 1 => by
    obtain ⟨h1, h2⟩ := it_tab h0 h m
    refine ⟨?_, by simp only [itL]; rw [stepL_len, h2]⟩
    show roundS k ps (itS k ps m) = _
    rw [h1, round_tab fun p hp => by rw [h2]; exact h p hp]; rfl
theorem ex4 : itL 2 psE 4 [[], []] = exL := by decide
theorem ex5 : psE.foldl (stepL 2) exL = exL := by decide
theorem setsE : setsF 2 2 psE = tabL exL := by
  have h0 : tabL [[], []] = fun _ => [] := by
    funext a
    match a with
    | 0 | 1 => rfl
    | a + 2 => rfl
  have h := it_tab (k := 2) (ps := psE) h0 (by decide)
  have h4 := (h 4).1
  have h5 := (h 5).1
  rw [ex4] at h4
  rw [show itL 2 psE 5 [[], []] = exL from (by show psE.foldl (stepL 2) (itL 2 psE 4 [[], []]) = exL; rw [ex4, ex5])] at h5
  rw [sets_of (m := 4) (by rw [h5, h4]) (by decide), h4]
def exG : Gram := ⟨2, [[97], [98]], [110, 108], [[83], [84]], 16, [⟨16, [0, 16, 1]⟩, ⟨16, []⟩, ⟨17, [16, 17, 0]⟩, ⟨17, [1]⟩]⟩
theorem name_letters {s : List Nat} (hs : s ≠ []) (hl : s.length ≤ 12) (h : ∀ c ∈ s, letterF (c : Int) = true) (hn : languageF s = false) : nameF s = 0 := by
  have hw : wordF s = 0 := by
    rw [wordF_good hs (fun i ⟨c, h1, h2, _⟩ => by rw [h c (List.mem_of_getElem? h1)] at h2; cases h2), if_neg (by omega)]
  unfold nameF
  rw [if_neg (by rw [hn]; simp), hw]
theorem exV : checkF exG = 0 := by
  have n1 : ∀ s ∈ smalls exG, smallF s = true := by
    intro s hs
    have : s = [97] ∨ s = [98] ∨ s = [110, 108] := by simpa [smalls, exG] using hs
    rcases this with rfl | rfl | rfl <;>
    · simp only [smallF, Bool.and_eq_true, decide_eq_true_eq]
      exact ⟨name_letters (by simp) (by simp) (by decide) (by decide), by decide⟩
  have n2 : ∀ s ∈ exG.names, capitalF s = true := by
    intro s hs
    have : s = [83] ∨ s = [84] := by simpa [exG] using hs
    rcases this with rfl | rfl <;>
    · simp only [capitalF, Bool.and_eq_true, decide_eq_true_eq]
      exact ⟨name_letters (by simp) (by simp) (by decide) (by decide), by decide⟩
  have hm : manyF exG = 0 := by
    unfold manyF
    rw [if_neg]
    rintro (h | h | h | ⟨p, hp, h⟩)
    · simp [exG] at h
    · simp [exG] at h
    · simp [exG] at h
    · simp only [exG, List.mem_cons, List.not_mem_nil, or_false] at hp
      rcases hp with rfl | rfl | rfl | rfl <;> simp at h
  have hn : namedF exG = 0 := by
    unfold namedF
    rw [if_neg]
    rintro (⟨s, hs, h⟩ | ⟨s, hs, h⟩)
    · rw [n1 s hs] at h; cases h
    · rw [n2 s hs] at h; cases h
  have hns : namesF exG = 0 := by
    unfold namesF
    rw [if_neg, hn]
    rintro ⟨_, h | h⟩
    · exact h (by decide)
    · exact h (by decide)
  have hs : symbolsF exG = 0 := by
    unfold symbolsF
    rw [if_pos, if_neg, if_neg]
    · rintro ⟨i, hi, h⟩
      have : i = 0 ∨ i = 1 := by simp [exG] at hi; omega
      rcases this with rfl | rfl
      · have : prodsF exG (16 + (0 : Nat)) = [0, 1] := by decide
        rw [this] at h; cases h
      · have : prodsF exG (16 + (1 : Nat)) = [2, 3] := by decide
        rw [this] at h; cases h
    · rintro ⟨i, p, q, hp, hq, hlt⟩
      match i, hp, hq with
      | 0, hp, hq | 1, hp, hq | 2, hp, hq => simp [exG] at hp hq; subst hp hq; simp at hlt
      | i + 3, hp, hq => simp [exG] at hq
    · refine ⟨by decide, fun p hp => ?_⟩
      simp only [exG, List.mem_cons, List.not_mem_nil, or_false] at hp
      rcases hp with rfl | rfl | rfl | rfl <;> exact ⟨by decide, by decide⟩
  unfold checkF
  rw [if_neg (by simp [exG]), if_neg (by simp [hm]), if_neg (by simp [exG]), if_neg (by simp [hns]), hs]
theorem setsGE : setsG exG = tabL exL := setsE
theorem foE (l : List Nat) : foN exG l = fstF 2 (tabL exL) [[]] l := by unfold foN; rw [setsGE]; rfl
theorem modM (n M : Int) (hn : W64 n) (h1 : 1 ≤ M) (h2 : M ≤ 1073741824) : KnownCall Try.prog 24 [.int .i64 n, .int .i64 M] (.d (.int .i64 (n % M))) := by
  have hw := hn
  unfold W64 at hw
  have b1 := Int.emod_nonneg n (show M ≠ 0 by omega)
  have b2 := Int.emod_lt_of_pos n (show 0 < M by omega)
  have hM : ((M.natAbs : Nat) : Int) = M := by omega
  have ht : n.tmod M = if 0 ≤ n ∨ M ∣ n then n % M else n % M - M := by
    rw [Int.tmod_eq_emod]
    by_cases h : 0 ≤ n ∨ M ∣ n
    · rw [if_pos h, if_pos h]; simp
    · rw [if_neg h, if_neg h, hM]
  by_cases h : 0 ≤ n ∨ M ∣ n
  · rw [if_pos h] at ht
    generalize n % M = q at ht b1 b2 ⊢
    refine kF Try.func24 [] fun w => ?_
    repeat' (first
      | refine zW ?_
      | refine zB ?_ ?_ <;> intro h <;> try exact zk h
      | refine oV (v := .d (.int .i64 q)) ?_ (hf := (by simp; omega)) (he := (congrArg (fun x => AV.d (.int .i64 x)) ht))
      | rfl
      | ((exfalso; first | (simp at h <;> fail) | (simp at h; omega)))
      | fail)
  · rw [if_neg h] at ht
    generalize n % M = q at ht b1 b2 ⊢
    have hq : AV.d (.int .i64 (IntKind.i64.wrap (q - M + M))) = .d (.int .i64 q) := congrArg (fun x => AV.d (.int .i64 x)) ((wrap64 (by omega) (by omega)).trans (by omega))
    refine kF Try.func24 [] fun w => ?_
    repeat' (first
      | refine zV hq ?_
      | refine zW ?_
      | refine zB ?_ ?_ <;> intro h <;> try exact zk h
      | refine oV (v := .d (.int .i64 (q - M))) ?_ (hf := (by simp; omega)) (he := (congrArg (fun x => AV.d (.int .i64 x)) ht))
      | rfl
      | ((exfalso; first | (simp at h <;> fail) | (simp at h; omega)))
      | fail)
def isBx : List Nat → Nat → List AV
  | _, 0 => [.d (nI 0), .d (nI 0), .d (nI 0), .d (nI 0), .d (nI 0)]
  | a :: _, 1 => [.d (nI 1), .d (nI a), .d (nI 0), .d (nI 0), .d (nI 0)]
  | a :: b :: _, 2 => [.d (nI 2), .d (nI a), .d (nI b), .d (nI 0), .d (nI 0)]
  | _, _ => []
theorem is0 : KnownCall Try.prog 15 [.nilsl] (.d (lk [])) := by
  refine kF Try.func15 [] fun w => ?_
  repeat' (first
    | refine zW ?_
    | refine zB ?_ ?_ <;> intro h <;> try exact zk h
    | ((exfalso; (simp at h <;> fail)))
    | fail)
  refine Run.loop (fun i : Nat => ⟨PT.ofList [(0, .d .nilsl), (2, .bp 0 0), (3, .bp 1 0), (4, .d (nI i))], [.box (isBx [] 0), .box (isBx [] i)], []⟩) (fun i => i ≤ 0) (fun i => 0 - i) 0 (Nat.le_refl _) (weak_of (by repeat' (first | exact trivial | refine ⟨rfl, ?_⟩))) (fun i hi => ?_)
  obtain rfl : i = 0 := by omega
  repeat' (first
    | refine zW ?_
    | refine zB ?_ ?_ <;> intro h <;> try exact zk h
    | rfl
    | ((exfalso; (simp at h <;> fail)))
    | fail)
theorem is1 (a : Nat) : KnownCall Try.prog 15 [.sl 1 [nI a]] (.d (lk [a])) := by
  refine kF Try.func15 [] fun w => ?_
  repeat' (first
    | refine zW ?_
    | refine zB ?_ ?_ <;> intro h <;> try exact zk h
    | ((exfalso; (simp at h <;> fail)))
    | fail)
  refine Run.loop (fun i : Nat => ⟨PT.ofList [(0, .d (.sl 1 [nI a])), (2, .bp 0 0), (3, .bp 1 0), (4, .d (nI i))], [.box (isBx [] 0), .box (isBx [a] i)], []⟩) (fun i => i ≤ 1) (fun i => 1 - i) 0 (Nat.zero_le _) (weak_of (by repeat' (first | exact trivial | refine ⟨rfl, ?_⟩))) (fun i hi => ?_)
  have hc : i = 0 ∨ i = 1 := by omega
  rcases hc with rfl | rfl
  · repeat' (first
      | refine zW ?_
      | refine zB ?_ ?_ <;> intro h <;> try exact zk h
      | ((exfalso; (simp at h <;> fail)))
      | (exact ⟨1, by omega, by omega, weak_of (by repeat' (first | exact trivial | refine ⟨rfl, ?_⟩ | refine ⟨(inc_get (k := 0) (by kernel_rfl) (by omega)), ?_⟩))⟩)
      | fail)
  · repeat' (first
      | refine zW ?_
      | refine zB ?_ ?_ <;> intro h <;> try exact zk h
      | rfl
      | ((exfalso; (simp at h <;> fail)))
      | fail)
theorem is2 (a b : Nat) : KnownCall Try.prog 15 [.sl 1 [nI a, nI b]] (.d (lk [a, b])) := by
  refine kF Try.func15 [] fun w => ?_
  repeat' (first
    | refine zW ?_
    | refine zB ?_ ?_ <;> intro h <;> try exact zk h
    | ((exfalso; (simp at h <;> fail)))
    | fail)
  refine Run.loop (fun i : Nat => ⟨PT.ofList [(0, .d (.sl 1 [nI a, nI b])), (2, .bp 0 0), (3, .bp 1 0), (4, .d (nI i))], [.box (isBx [] 0), .box (isBx [a, b] i)], []⟩) (fun i => i ≤ 2) (fun i => 2 - i) 0 (Nat.zero_le _) (weak_of (by repeat' (first | exact trivial | refine ⟨rfl, ?_⟩))) (fun i hi => ?_)
  have hc : i = 0 ∨ i = 1 ∨ i = 2 := by omega
  rcases hc with rfl | rfl | rfl
  · repeat' (first
      | refine zW ?_
      | refine zB ?_ ?_ <;> intro h <;> try exact zk h
      | ((exfalso; (simp at h <;> fail)))
      | (exact ⟨1, by omega, by omega, weak_of (by repeat' (first | exact trivial | refine ⟨rfl, ?_⟩ | refine ⟨(inc_get (k := 0) (by kernel_rfl) (by omega)), ?_⟩))⟩)
      | fail)
  · repeat' (first
      | refine zW ?_
      | refine zB ?_ ?_ <;> intro h <;> try exact zk h
      | ((exfalso; (simp at h <;> fail)))
      | (exact ⟨2, by omega, by omega, weak_of (by repeat' (first | exact trivial | refine ⟨rfl, ?_⟩ | refine ⟨(inc_get (k := 1) (by kernel_rfl) (by omega)), ?_⟩))⟩)
      | fail)
  · repeat' (first
      | refine zW ?_
      | refine zB ?_ ?_ <;> intro h <;> try exact zk h
      | rfl
      | ((exfalso; (simp at h <;> fail)))
      | fail)
theorem exampleK : KnownCall Try.prog 19 [] (.d (encG exG)) := by
  refine known_toN (x := .agg [.int .i64 2, strs [[97], [98]], .str [110, 108], strs [[83], [84]], .int .i64 16, .sl 2 (exG.prods.map encN)]) ?_ (.agg rfl fun j x y hx hy => ?_)
  · refine kF Try.func19 [1, 2, 3, 6, 8, 10] fun w => ?_
    repeat' (first
      | refine zW ?_
      | refine zB ?_ ?_ <;> intro h <;> try exact zk h
      | refine zX ?_
      | rfl
      | (fail)
      | fail)
  · match j, hx, hy with
    | 0, hx, hy | 1, hx, hy | 2, hx, hy | 3, hx, hy | 4, hx, hy => simp at hx hy; subst hx hy; exact .refl
    | 5, hx, hy => simp at hx hy; subst hx hy; exact encN_to _
    | j + 6, hx, hy => simp at hx
theorem ex_fits : Fits exG := ⟨by decide, by decide, by decide, by decide, by decide, by decide, by decide⟩
theorem hasE (l : List Int) (hg : ∀ s ∈ l, goodS exG s = true) (hl : l.length ≤ 100) (hc : (foN exG (l.map Int.toNat)).length ≤ 600) (want : List (List Nat)) : KnownCall Try.prog 21 [ints l, lks want] (.d (.bool (decide (foN exG (l.map Int.toNat) = want)))) := by
  have c1 := fOfK exV ex_fits hg hl hc
  have c2 := sameLq (foN exG (l.map Int.toNat)) want (fun x hx => (fo_rt exV (syN exV hg).sy x hx).1.len) (by omega)
  have c0 := exampleK
  refine kF Try.func21 [] fun w => ?_
  repeat' (first
    | refine zW ?_
    | refine zB ?_ ?_ <;> intro h <;> try exact zk h
    | refine zC (c0) ?_
    | refine zK (c1) ?_ ?_ <;> intro h <;> try exact zk h
    | refine zC (c1) ?_
    | refine zC (c2) ?_
    | rfl
    | ((exfalso; (simp at h <;> fail)))
    | fail)
theorem awakeK : KnownCall Try.prog 16 [] (.d (.bool true)) := by
  have h1 := hasE [16] (by decide) (by decide) (by rw [foE]; decide) [[], [0, 0], [0, 1]]
  have h2 := hasE [17] (by decide) (by decide) (by rw [foE]; decide) [[0, 0], [0, 1], [1], [1, 0]]
  rw [foE, decide_eq_true (by decide)] at h1 h2
  have i0 := is0
  have i1 := is2 0 0
  have i2 := is2 0 1
  have i3 := is1 1
  have i4 := is2 1 0
  refine kF Try.func16 [1, 3, 5, 7, 10, 11, 13, 15, 17, 19] fun w => ?_
  repeat' (first
    | refine zW ?_
    | refine zB ?_ ?_ <;> intro h <;> try exact zk h
    | refine zX ?_
    | refine zC (i0) ?_
    | refine zC (i1) ?_
    | refine zC (i2) ?_
    | refine zC (h1) ?_
    | refine zC (i1) ?_
    | refine zC (i2) ?_
    | refine zC (i3) ?_
    | refine zC (i4) ?_
    | refine zC (h2) ?_
    | rfl
    | ((exfalso; (simp at h <;> fail)))
    | fail)
theorem modN (n : Int) (M : Nat) (hn : W64 n) (h1 : 1 ≤ M) (h2 : M ≤ 1073741824) : KnownCall Try.prog 24 [.int .i64 n, nI M] (.d (nI (n % M).toNat)) := by
  have h := modM n M hn (by omega) (by omega)
  have := Int.emod_nonneg n (show (M : Int) ≠ 0 by omega)
  rw [show n % (M : Int) = ((n % (M : Int)).toNat : Int) by omega] at h
  exact h
def symK (T k : Nat) : Nat := if T ≤ k then 16 + k - T else k
def syL (g : Gram) (nums : List Int) : List Nat := (nums.take 4).map fun n => symK g.tokens.length (n % ((g.tokens.length + g.names.length : Nat) : Int)).toNat
theorem syL_len (g : Gram) (nums : List Int) : (syL g nums).length ≤ 4 := by unfold syL; rw [List.length_map, List.length_take]; omega
set_option maxHeartbeats 4000000 in
theorem symsK {g : Gram} (h : checkF g = 0) (nums : List Int) (hn : ∀ n ∈ nums, W64 n) : KnownCall Try.prog 10 [encG g, ints nums] (.d (.sl 1 ((syL g nums).map nI))) := by
  have v := valN h
  have hT := v.t8
  have hN := v.n8
  have hT1 : 1 ≤ g.tokens.length := by
    obtain ⟨_, h1, _⟩ := check_parts h
    cases e : g.tokens with
    | nil => exact absurd e h1
    | cons a l => simp
  obtain ⟨A, hA⟩ : ∃ A, A = g.tokens.length + g.names.length := ⟨_, rfl⟩
  have hwr : ∀ k : Nat, k ≤ 100 → IntKind.i64.wrap (k : Int) = (k : Int) := fun k hk => wrap_nat (by omega)
  have hlm : (nums.map (DV.int .i64)).length = nums.length := by simp
  have htk : (g.tokens.map DV.str).length = g.tokens.length := by simp
  have hnk : (g.names.map DV.str).length = g.names.length := by simp
  refine kF Try.func10 [2, 45] fun w => ?_
  repeat refine zS ?_
  iterate 2 refine zX ?_
  repeat refine zS ?_
  refine zX ?_
  repeat refine zS ?_
  iterate 6 refine zX ?_
  refine zV (show AV.d (.int .i64 (IntKind.i64.wrap ((((g.tokens.map DV.str).length : Nat) : Int) + (((g.names.map DV.str).length : Nat) : Int)))) = .d (nI A) by congr 2; rw [htk, hnk, ← Int.natCast_add, hwr _ (by omega), hA]) ?_
  refine zX ?_
  repeat refine zS ?_
  refine zX ?_
  refine RunOps.nil ?_
  refine Run.mkRoom 5 1 [(1, .d (ints nums)), (2, .d (.ep [.int .i64 g.k, strs g.tokens, .str g.sep, strs g.names, .int .i64 g.start, .sl 2 (g.prods.map encP)])), (5, .sr 0 1 []), (6, .d (nI A)), (7, .d (nI 0))] rfl (ofList_cases (by intro q hq; simp only [List.mem_cons, List.not_mem_nil, or_false] at hq; rcases hq with rfl | rfl | rfl | rfl | rfl; exact .inr (by kernel_rfl); exact .inr (by kernel_rfl); exact .inl ⟨rfl, rfl⟩; exact .inr (by kernel_rfl); exact .inr (by kernel_rfl))) ?_
  repeat refine zS ?_
  refine Run.loopT (fun i : Nat => ⟨PT.ofList [(1, .d (ints nums)), (2, .d (.ep [.int .i64 g.k, strs g.tokens, .str g.sep, strs g.names, .int .i64 g.start, .sl 2 (g.prods.map encP)])), (5, .sr 0 1 (((syL g nums).take i).map nI)), (6, .d (nI A)), (7, .d (nI i))], [.room i 1], []⟩) (fun i => i ≤ nums.length ∧ i ≤ 4) (fun i => 4 - i) 0 ⟨Nat.zero_le _, Nat.zero_le _⟩ (ti _ 1) (fun i hi => ?_)
  obtain ⟨hi1, hi2⟩ := hi
  have hgo : ∀ n, nums[i]? = some n → i < 4 → (syL g nums).take (i + 1) = (syL g nums).take i ++ [symK g.tokens.length (n % (A : Int)).toNat] := fun n hn h4 => by
    rw [List.take_add_one, syL, List.getElem?_map, List.getElem?_take, if_pos h4, hn, hA]; rfl
  by_cases hc : i < nums.length ∧ i < 4
  · obtain ⟨n, hs⟩ := get_ok hc.1
    have hnW := hn n (List.mem_of_getElem? hs)
    have cm := modN n A hnW (by omega) (by omega)
    have hgo := hgo n hs hc.2
    have hr : (n % (A : Int)).toNat < A := by have := Int.emod_lt_of_pos n (show (0 : Int) < A by omega); omega
    generalize (n % (A : Int)).toNat = k at cm hgo hr
    repeat refine zS ?_
    iterate 3 refine zX ?_
    refine zV (lt_true (show i < (nums.map (DV.int .i64)).length by omega)) ?_
    iterate 2 refine zX ?_
    refine zV (show AV.d (.bool (decide (((i : Nat) : Int) < 4))) = .d (.bool true) by rw [decide_eq_true (by omega)]) ?_
    refine zX ?_
    repeat refine zS ?_
    have hll : i ≤ (syL g nums).length := by unfold syL; rw [List.length_map, List.length_take]; omega
    iterate 2 refine zX ?_
    refine zI w (.d (.ep [.int .i64 n])) hs ?_
    iterate 2 refine zX ?_
    refine zC cm ?_
    refine zX ?_
    repeat refine zS ?_
    iterate 4 refine zX ?_
    by_cases hk : g.tokens.length ≤ k
    · refine zV (show AV.d (.bool (decide (((k : Nat) : Int) ≥ (((g.tokens.map DV.str).length : Nat) : Int)))) = .d (.bool true) by rw [htk, decide_eq_true (by omega)]) ?_
      repeat refine zS ?_
      refine zX ?_
      refine zV (show AV.d (.int .i64 (IntKind.i64.wrap (16 + ((k : Nat) : Int)))) = .d (nI (16 + k)) by congr 2; rw [show (16 : Int) + ((k : Nat) : Int) = ((16 + k : Nat) : Int) by omega]; exact hwr _ (by omega)) ?_
      iterate 3 refine zX ?_
      refine zV (show AV.d (.int .i64 (IntKind.i64.wrap (((16 + k : Nat) : Int) - (((g.tokens.map DV.str).length : Nat) : Int)))) = .d (nI (16 + k - g.tokens.length)) by congr 2; rw [htk, show ((16 + k : Nat) : Int) - (g.tokens.length : Int) = ((16 + k - g.tokens.length : Nat) : Int) by omega]; exact hwr _ (by omega)) ?_
      refine zX ?_
      repeat refine zS ?_
      iterate 3 refine zX ?_
      refine oV (v := .sr 0 1 (((syL g nums).take (i + 1)).map nI)) (objs' := [.room (i + 1) 1]) ?_ (hv := app1 (i := 0) (sz := 1) (k := 1) (es := ((syL g nums).take i).map nI) (ys := [nI (16 + k - g.tokens.length)]) (n := i) (hn := by rw [List.length_map, List.length_take]; have := hll; omega) (hlen := by rw [List.length_map, List.length_take]; simp; omega)) (he := by rw [hgo]; simp [symK, hk]) (ho := rfl)
      refine zX ?_
      repeat refine zS ?_
      iterate 3 refine zX ?_
      refine RunOps.nil ?_
      exact ⟨i + 1, ⟨hc.1, hc.2⟩, by omega, ti _ 1⟩
    · refine zV (show AV.d (.bool (decide (((k : Nat) : Int) ≥ (((g.tokens.map DV.str).length : Nat) : Int)))) = .d (.bool false) by rw [htk, decide_eq_false (by omega)]) ?_
      repeat refine zS ?_
      iterate 3 refine zX ?_
      refine oV (v := .sr 0 1 (((syL g nums).take (i + 1)).map nI)) (objs' := [.room (i + 1) 1]) ?_ (hv := app1 (i := 0) (sz := 1) (k := 1) (es := ((syL g nums).take i).map nI) (ys := [nI k]) (n := i) (hn := by rw [List.length_map, List.length_take]; have := hll; omega) (hlen := by rw [List.length_map, List.length_take]; simp; omega)) (he := by rw [hgo]; simp [symK, hk]) (ho := rfl)
      refine zX ?_
      repeat refine zS ?_
      iterate 3 refine zX ?_
      refine RunOps.nil ?_
      exact ⟨i + 1, ⟨hc.1, hc.2⟩, by omega, ti _ 1⟩
  · have he : (syL g nums).take i = syL g nums := List.take_of_length_le (by unfold syL; rw [List.length_map, List.length_take]; omega)
    by_cases h4 : i < nums.length
    · repeat refine zS ?_
      iterate 3 refine zX ?_
      refine zV (lt_true (show i < (nums.map (DV.int .i64)).length by omega)) ?_
      iterate 2 refine zX ?_
      refine zV (show AV.d (.bool (decide (((i : Nat) : Int) < 4))) = .d (.bool false) by rw [decide_eq_false (by omega)]) ?_
      refine zX ?_
      repeat refine zS ?_
      iterate 2 refine zX ?_
      repeat refine zS ?_
      rw [he]
      refine Run.ret ?_
      exact ⟨trivial, _, _, rfl, rfl, rfl⟩
    · repeat refine zS ?_
      iterate 3 refine zX ?_
      refine zV (lt_false (show (nums.map (DV.int .i64)).length ≤ i by omega)) ?_
      refine zX ?_
      refine oS ?_
      refine oS ?_
      refine zX ?_
      repeat refine zS ?_
      iterate 2 refine zX ?_
      repeat refine zS ?_
      rw [he]
      refine Run.ret ?_
      exact ⟨trivial, _, _, rfl, rfl, rfl⟩
theorem ints_cast (l : List Nat) : ints (l.map fun s : Nat => (s : Int)) = .sl 1 (l.map nI) := by simp only [ints, List.map_map]; rfl
theorem nat_cast (l : List Nat) : (l.map fun s : Nat => (s : Int)).map Int.toNat = l := by
  rw [List.map_map]
  exact (List.map_congr_left fun s _ => rfl).trans (List.map_id' l)
structure SmG (g : Gram) : Prop where
  ok : checkF g = 0
  fits : Fits g
  k2 : g.k ≤ 2
def GdN (g : Gram) (l : List Nat) : Prop := l.length ≤ 100 ∧ ∀ s ∈ l, goodS g (s : Int) = true
theorem GdN.good {g : Gram} {l : List Nat} (h : GdN g l) : ∀ s ∈ l.map (fun s : Nat => (s : Int)), goodS g s = true := fun s hs => by
  obtain ⟨t, ht, rfl⟩ := List.mem_map.1 hs
  exact h.2 t ht
theorem GdN.sy {g : Gram} (hv : checkF g = 0) {l : List Nat} (h : GdN g l) : ∀ s ∈ l, SymN g.names.length s := by
  have := (syN hv h.good).sy
  rwa [nat_cast] at this
theorem rt_card2 {L : List (List Nat)} (hn : L.Nodup) (h : ∀ x ∈ L, Rt x ∧ x.length ≤ 2) : L.length ≤ 81 := by
  have h1 := seen_le 81 (L.map codeT) (by
    rw [List.Nodup, List.pairwise_map]
    exact hn.imp_of_mem fun ha hb hab e => hab (codeT_inj (h _ ha).1.lt (h _ hb).1.lt e)) fun c hc => by
      obtain ⟨x, hx, rfl⟩ := List.mem_map.1 hc
      have h2 := codeT_lt (h x hx).1.lt
      have h3 := (h x hx).2
      exact Nat.lt_of_lt_of_le h2 (Nat.pow_le_pow_right (n := 9) (by omega) h3)
  simpa using h1
theorem SmG.kk {g : Gram} (h : SmG g) : kN g ≤ 2 := by have := h.k2; unfold kN; omega
theorem SmG.len {g : Gram} (h : SmG g) {l : List Nat} (hl : GdN g l) : (foN g l).length ≤ 81 :=
  rt_card2 (asc_nodup (fo_asc g l)) fun x hx => ⟨(fo_rt h.ok (hl.sy h.ok) x hx).1, Nat.le_trans (fo_rt h.ok (hl.sy h.ok) x hx).2 h.kk⟩
theorem fOfN {g : Gram} (h : SmG g) {l : List Nat} (hl : GdN g l) : KnownCall Try.prog 9 [encG g, .sl 1 (l.map nI)] (.tup [.d (lks (foN g l)), .d (.int .i64 0)]) := by
  have := fOfK h.ok h.fits hl.good (by rw [List.length_map]; exact hl.1) (by rw [nat_cast]; have := h.len hl; omega)
  rwa [nat_cast, ints_cast] at this
theorem anySm (nums : List Int) : SmG (anyF nums) := ⟨any_valid nums, any_fits nums, by simp only [anyF]; omega⟩
theorem good_tok {g : Gram} {t : Nat} (h : t < g.tokens.length) : goodS g (t : Int) = true := by
  simp only [goodS, isTerm, Bool.or_eq_true, Bool.and_eq_true, decide_eq_true_eq]; omega
theorem good_nam {g : Gram} {a : Nat} (h : a < g.names.length) : goodS g ((16 + a : Nat) : Int) = true := by
  simp only [goodS, isNonterm, Bool.or_eq_true, Bool.and_eq_true, decide_eq_true_eq]; omega
theorem syL_good {g : Gram} (hv : checkF g = 0) (x : List Int) : GdN g (syL g x) := by
  refine ⟨by have := syL_len g x; omega, fun s hs => ?_⟩
  obtain ⟨n, _, rfl⟩ := List.mem_map.1 hs
  have hT1 : 1 ≤ g.tokens.length := by
    obtain ⟨_, h1, _⟩ := check_parts hv
    cases e : g.tokens with
    | nil => exact absurd e h1
    | cons a l => simp
  have hr : (n % ((g.tokens.length + g.names.length : Nat) : Int)).toNat < g.tokens.length + g.names.length := by
    have := Int.emod_lt_of_pos n (show (0 : Int) < ((g.tokens.length + g.names.length : Nat) : Int) by omega); omega
  generalize (n % ((g.tokens.length + g.names.length : Nat) : Int)).toNat = k at hr
  unfold symK
  split
  · have := good_nam (g := g) (a := k - g.tokens.length) (by omega)
    rwa [show 16 + (k - g.tokens.length) = 16 + k - g.tokens.length by omega] at this
  · exact good_tok (by omega)
theorem fo_in {g : Gram} (hv : checkF g = 0) {l : List Nat} (hl : GdN g l) : InT g.tokens.length (foN g l) := by
  have hs := (symbols_zero (check_parts hv).2.2.2.2).1
  have key : ∀ s : Nat, goodS g (s : Int) = true → s < 8 → s < g.tokens.length := fun s h h8 => by
    simp only [goodS, isTerm, isNonterm, Bool.or_eq_true, Bool.and_eq_true, decide_eq_true_eq] at h; omega
  have hps : ∀ p ∈ psN g, ∀ s ∈ p.2, s < 8 → s < g.tokens.length := fun p hp s hs' h8 => by
    obtain ⟨q, hq, rfl⟩ := List.mem_map.1 hp
    obtain ⟨t, ht, rfl⟩ := List.mem_map.1 hs'
    have h1 := (hs.2 q hq).2 t ht
    rw [(good_nat (valN hv).t8 h1).1] at h1
    exact key _ h1 h8
  exact fst_in (fun a => it_in hps _ a) (fun y hy t ht => by simp at hy; subst hy; cases ht) fun s hs' h8 => key s (hl.2 s hs') h8
section
variable {H : Type} {enc : TypeId × Value → H} {w : World} {spare : Nat → Bool} {held : Bool} {fuel : Nat} {cs : List Value} {x : DataW H × List MemPlace}
abbrev Wf64 (n : Int) : Prop := (Lit.int .i64 n).wf = true
theorem cr_ints (hsp : ∀ b, spare b = true) (h : DataW.trod enc Try.prog w 0 spare held fuel 22 cs = some x) : ∃ l : List Int, CellsRep (heapD w) (ints l) cs ∧ l.length ≤ maxLen ∧ ∀ n ∈ l, Wf64 n :=
  cr_slice (DV.int .i64) Wf64 Try.underlying22 (by kernel_rfl) (Nat.le_refl _) hsp (fun n cs' y _ hy => cr_int Try.underlying3 hy) h
theorem arg_ints {r : Reach} {b0 : Nat} {v : Value} {d : DataW H} {ps : List MemPlace} (hsp : ∀ b, spare b = true) (hval : Value.okWide Try.prog w r b0 22 v) (h : DataW.Trod enc Try.prog w 0 spare held 22 v d ps) :
    ∃ l : List Int, RepD (heapD w) (ints l) v ∧ l.length ≤ maxLen ∧ ∀ n ∈ l, Wf64 n := by
  obtain ⟨es, he, l, rfl, hl⟩ := arg_slice (sz := 1) (R := fun es => ∃ l : List Int, es = l.map (DV.int .i64) ∧ l.length ≤ maxLen ∧ ∀ n ∈ l, Wf64 n) Try.underlying22 hval h (fun n x hx => by
    obtain ⟨l, h1, h2⟩ := cr_ints hsp hx
    exact ⟨_, h1, l, rfl, h2⟩)
  exact ⟨l, he, hl⟩
end
theorem w64_f {n : Int} (h : Wf64 n) : W64 n := by
  simp only [Wf64, Lit.wf, Bool.and_eq_true, decide_eq_true_eq] at h
  exact h
theorem set_fo {g : Gram} (hg : SmG g) {l : List Nat} (hl : GdN g l) : SetOK g.tokens.length (foN g l) :=
  ⟨by have := hg.len hl; omega, fun x hx => (fo_rt hg.ok (hl.sy hg.ok) x hx).1, fo_in hg.ok hl, fo_asc g l⟩
def cM : Nat := 9223372036854775807
def sumC (a b : Nat) : Nat := if a = cM ∨ b = cM ∨ cM - b < a then cM else a + b
theorem sumC_le {a b : Nat} (hb : b ≤ cM) : sumC a b ≤ cM := by unfold sumC; split <;> omega
theorem sumK (a b : Nat) (ha : a ≤ cM) (hb : b ≤ cM) : KnownCall Try.prog 102 [nI a, nI b] (.d (nI (sumC a b))) := by
  unfold cM at ha hb
  have hs : AV.d (.int .i64 (IntKind.i64.wrap (9223372036854775807 - ((b : Nat) : Int)))) = .d (nI (9223372036854775807 - b)) := by
    congr 2
    rw [show (9223372036854775807 : Int) - ((b : Nat) : Int) = ((9223372036854775807 - b : Nat) : Int) by omega]
    exact wrap64 (by omega) (by omega)
  by_cases h1 : a = 9223372036854775807
  · have e : sumC a b = cM := by unfold sumC cM; rw [if_pos (.inl h1)]
    rw [e]
    refine kF Try.func102 [] fun w => ?_
    repeat' (first
      | refine zW ?_
      | refine zB ?_ ?_ <;> intro h <;> try exact zk h
      | rfl
      | ((exfalso; simp at h; omega))
      | fail)
  · by_cases h2 : b = 9223372036854775807
    · have e : sumC a b = cM := by unfold sumC cM; rw [if_pos (.inr (.inl h2))]
      rw [e]
      refine kF Try.func102 [] fun w => ?_
      repeat' (first
        | refine zW ?_
        | refine zB ?_ ?_ <;> intro h <;> try exact zk h
        | rfl
        | ((exfalso; simp at h; omega))
        | fail)
    · by_cases h3 : 9223372036854775807 - b < a
      · have e : sumC a b = cM := by unfold sumC cM; rw [if_pos (.inr (.inr h3))]
        rw [e]
        refine kF Try.func102 [] fun w => ?_
        repeat' (first
          | refine zV hs ?_
          | refine zW ?_
          | refine zB ?_ ?_ <;> intro h <;> try exact zk h
          | rfl
          | ((exfalso; simp at h; omega))
          | fail)
      · have e : sumC a b = a + b := by unfold sumC cM; rw [if_neg (by omega)]
        have hp : AV.d (.int .i64 (IntKind.i64.wrap (((a : Nat) : Int) + ((b : Nat) : Int)))) = .d (nI (a + b)) := by
          congr 2
          rw [show ((a : Nat) : Int) + ((b : Nat) : Int) = ((a + b : Nat) : Int) by omega]
          exact wrap64 (by omega) (by omega)
        rw [e]
        refine kF Try.func102 [] fun w => ?_
        repeat' (first
          | refine zV hp ?_
          | refine zV hs ?_
          | refine zW ?_
          | refine zB ?_ ?_ <;> intro h <;> try exact zk h
          | rfl
          | ((exfalso; simp at h; omega))
          | fail)
def vecF (T : Nat) (n : Nat) (x z : DV) (i : Nat) : Ob := .vec T false 1 n (List.replicate i (.d x) ++ List.replicate (n - i) (.d z))
theorem repL {n : Nat} {z : DV} : repeatL n ([z].map AV.d) = List.replicate n (.d z) := by
  induction n with
  | zero => rfl
  | succ n ih => rw [List.replicate_succ, ← ih]; rfl
theorem vecF_0 (T n : Nat) (x z : DV) : Ob.vec T false 1 n (List.replicate n (.d z)) = vecF T n x z 0 := by simp [vecF]
theorem vecF_n (T n : Nat) (x z : DV) : vecF T n x z n = Ob.vec T false 1 n (List.replicate n (.d x)) := by simp [vecF]
theorem vecF_s {T n : Nat} {x z : DV} {i : Nat} (h : i < n) : Ob.vec T false 1 n ((List.replicate i (AV.d x) ++ List.replicate (n - i) (AV.d z)).take i ++ [AV.d x] ++ (List.replicate i (AV.d x) ++ List.replicate (n - i) (AV.d z)).drop (i + 1)) = vecF T n x z (i + 1) := by
  unfold vecF
  congr 1
  rw [List.take_left' (by simp), List.drop_append, List.drop_of_length_le (by simp), List.length_replicate, List.drop_replicate, List.replicate_succ']
  simp
  omega
theorem filledI (n : Nat) (hn : n ≤ 1000) (x : DV) (hx : knownA (.d x) = true) (hc : AV.cells (.d x) = [.d x]) : ACall Try.prog 100 [.d (nI n), .d x] [] (.vs 0 1 0 n) [.vec 2 false 1 n (List.replicate n (.d x))] := by
  have w : Fz [] := trivial
  refine acallG_of_run Et_ok (fnB Try.func100 []) rfl rfl (by simp) ?_ (by simp [refA]) ?_
  · simp [refOb, List.all_eq_true, refA]
  have w : Fz [] := trivial
  repeat refine zS ?_
  refine zX ?_
  repeat refine zS ?_
  refine zX ?_
  refine oV (v := .vs 0 1 0 n) (objs' := [vecF 2 n x (nI 0) 0]) ?_ (hf := by simp [Nat.ble_eq, ty2]; omega) (he := by simp [ty2]) (ho := by rw [← vecF_0]; simp only [Option.getD, Int.toNat_natCast, List.nil_append]; exact congrArg (fun z => [Ob.vec 2 false 1 n z]) repL)
  refine zX ?_
  repeat refine zS ?_
  iterate 3 refine zX ?_
  repeat refine zS ?_
  refine Run.loopT (fun i : Nat => ⟨PT.ofList [(1, .d x), (5, .vs 0 1 0 n), (10, .d (nI n)), (11, .d (nI i))], [vecF 2 n x (nI 0) i], []⟩) (fun i => i ≤ n) (fun i => n - i) 0 (Nat.zero_le _) ?_ (fun i hi => ?_)
  · exact tidy_of _ 1 rfl rfl ⟨.inl rfl, .inl rfl, .inl rfl, .inl rfl, trivial⟩ ⟨rfl, rfl, rfl, rfl, trivial⟩ (by simp [vecF, refOb, List.all_eq_true, refA]) rfl
  · rcases Nat.lt_or_ge i n with hin | hin
    · repeat refine zS ?_
      refine zV (lt_true (show i < n by omega)) ?_
      repeat refine zS ?_
      iterate 2 refine zX ?_
      repeat refine zS ?_
      iterate 3 refine zX ?_
      refine zCut (show AV.bp 0 (0 + ((i : Nat) : Int).toNat * 1) = .bp 0 i by simp) ?_
      refine oV (v := .d .any) (objs' := [vecF 2 n x (nI 0) (i + 1)]) ?_ (hv := evAny_storeV (c := .d x) rfl rfl rfl rfl rfl hx hc rfl (by simp; omega)) (ho := by rw [← vecF_s hin]; rfl)
      repeat refine zS ?_
      iterate 2 refine zX ?_
      refine RunOps.nil ?_
      refine ⟨i + 1, hin, by omega, ?_⟩
      exact tidy_of _ 1 rfl rfl ⟨.inl rfl, .inl rfl, .inl rfl, .inl (inc_get rfl (by omega)), trivial⟩ ⟨rfl, rfl, rfl, rfl, trivial⟩ (by simp [vecF, refOb, List.all_eq_true, refA]) rfl
    · have hie : i = n := by omega
      subst hie
      repeat refine zS ?_
      refine zV (lt_false (show i ≤ i by omega)) ?_
      repeat refine zS ?_
      iterate 2 refine zX ?_
      repeat refine zS ?_
      refine Run.ret ?_
      refine ⟨trivial, _, _, rfl, rfl, .refl, ?_⟩
      rw [vecF_n]
      exact wk_refl _
theorem filledB (n : Nat) (hn : n ≤ 1000) (x : DV) (hx : knownA (.d x) = true) (hc : AV.cells (.d x) = [.d x]) : ACall Try.prog 99 [.d (nI n), .d x] [] (.vs 0 1 0 n) [.vec 4 false 1 n (List.replicate n (.d x))] := by
  have w : Fz [] := trivial
  refine acallG_of_run Et_ok (fnB Try.func99 []) rfl rfl (by simp) ?_ (by simp [refA]) ?_
  · simp [refOb, List.all_eq_true, refA]
  have w : Fz [] := trivial
  repeat refine zS ?_
  refine zX ?_
  repeat refine zS ?_
  refine zX ?_
  refine oV (v := .vs 0 1 0 n) (objs' := [vecF 4 n x (.bool false) 0]) ?_ (hf := by simp [Nat.ble_eq, ty4]; omega) (he := by simp [ty4]) (ho := by rw [← vecF_0]; simp only [Option.getD, Int.toNat_natCast, List.nil_append]; exact congrArg (fun z => [Ob.vec 4 false 1 n z]) repL)
  refine zX ?_
  repeat refine zS ?_
  iterate 3 refine zX ?_
  repeat refine zS ?_
  refine Run.loopT (fun i : Nat => ⟨PT.ofList [(1, .d x), (5, .vs 0 1 0 n), (10, .d (nI n)), (11, .d (nI i))], [vecF 4 n x (.bool false) i], []⟩) (fun i => i ≤ n) (fun i => n - i) 0 (Nat.zero_le _) ?_ (fun i hi => ?_)
  · exact tidy_of _ 1 rfl rfl ⟨.inl rfl, .inl rfl, .inl rfl, .inl rfl, trivial⟩ ⟨rfl, rfl, rfl, rfl, trivial⟩ (by simp [vecF, refOb, List.all_eq_true, refA]) rfl
  · rcases Nat.lt_or_ge i n with hin | hin
    · repeat refine zS ?_
      refine zV (lt_true (show i < n by omega)) ?_
      repeat refine zS ?_
      iterate 2 refine zX ?_
      repeat refine zS ?_
      iterate 3 refine zX ?_
      refine zCut (show AV.bp 0 (0 + ((i : Nat) : Int).toNat * 1) = .bp 0 i by simp) ?_
      refine oV (v := .d .any) (objs' := [vecF 4 n x (.bool false) (i + 1)]) ?_ (hv := evAny_storeV (c := .d x) rfl rfl rfl rfl rfl hx hc rfl (by simp; omega)) (ho := by rw [← vecF_s hin]; rfl)
      repeat refine zS ?_
      iterate 2 refine zX ?_
      refine RunOps.nil ?_
      refine ⟨i + 1, hin, by omega, ?_⟩
      exact tidy_of _ 1 rfl rfl ⟨.inl rfl, .inl rfl, .inl rfl, .inl (inc_get rfl (by omega)), trivial⟩ ⟨rfl, rfl, rfl, rfl, trivial⟩ (by simp [vecF, refOb, List.all_eq_true, refA]) rfl
    · have hie : i = n := by omega
      subst hie
      repeat refine zS ?_
      refine zV (lt_false (show i ≤ i by omega)) ?_
      repeat refine zS ?_
      iterate 2 refine zX ?_
      repeat refine zS ?_
      refine Run.ret ?_
      refine ⟨trivial, _, _, rfl, rfl, .refl, ?_⟩
      rw [vecF_n]
      exact wk_refl _
def costP (it te : Nat) (cs : List Nat) (r : List Nat) : Nat := r.foldl (fun c s => sumC c (if s < 16 then te else cs.getD (s - 16) 0)) it
theorem costP_succ {it te : Nat} {cs r : List Nat} {i s : Nat} (h : r[i]? = some s) : costP it te cs (r.take (i + 1)) = sumC (costP it te cs (r.take i)) (if s < 16 then te else cs.getD (s - 16) 0) := by
  unfold costP
  rw [List.take_add_one, h, List.foldl_append]; rfl
theorem costP_le {it te : Nat} {cs : List Nat} (hi : it ≤ cM) (ht : te ≤ cM) (hc : ∀ c ∈ cs, c ≤ cM) : ∀ {r : List Nat}, costP it te cs r ≤ cM := by
  intro r
  unfold costP
  induction r generalizing it with
  | nil => exact hi
  | cons s r ih =>
    refine ih (sumC_le ?_)
    split
    · exact ht
    · rw [List.getD_eq_getElem?_getD]
      cases e : cs[s - 16]? with
      | none => exact Nat.zero_le _
      | some c => exact hc c (List.mem_of_getElem? e)
def vecC (cs : List Nat) : Ob := .vec 2 false 1 cs.length (cs.map fun c => AV.d (nI c))
def obC (cs : List Nat) : List Ob := [vecC cs, .box [.vs 0 1 0 cs.length]]
set_option maxHeartbeats 1000000 in
theorem costA (it te : Nat) (hit : it ≤ cM) (hte : te ≤ cM) (cs : List Nat) (hcs : cs.length ≤ 8) (hle : ∀ c ∈ cs, c ≤ cM) (x : DV) (r : List Nat) (hr : ∀ s ∈ r, SymN cs.length s) (hl : r.length ≤ 1000) :
    ACall Try.prog 101 [.d (.agg [x, .sl 1 (r.map nI)]), .d (.ep [nI it]), .d (.ep [nI te]), .bp 1 0] (obC cs) (.d (nI (costP it te cs r))) (obC cs) := by
  have w : Fz [4] := trivial
  have hrl : (r.map nI).length = r.length := by simp
  refine acallG_of_run Et_ok (fnB Try.func101 [4]) rfl rfl (by simp [obC]) ?_ rfl ?_
  · simp [obC, vecC, refOb, List.all_eq_true, refA]
  have w : Fz [4] := trivial
  repeat refine zS ?_
  iterate 2 refine zX ?_
  repeat refine zS ?_
  iterate 2 refine zX ?_
  repeat refine zS ?_
  iterate 4 refine zX ?_
  repeat refine zS ?_
  refine Run.loopT (fun i : Nat => ⟨PT.ofList [(1, .d (.ep [nI it])), (2, .d (.ep [nI te])), (3, .bp 1 0), (6, .d (nI (costP it te cs (r.take i)))), (11, .d (.sl 1 (r.map nI))), (12, .d (nI (r.map nI).length)), (13, .d (nI i))], obC cs, []⟩) (fun i => i ≤ r.length) (fun i => r.length - i) 0 (Nat.zero_le _) ?_ (fun i hi => ?_)
  · exact tidy_of _ 2 rfl rfl ⟨.inl rfl, .inl rfl, .inl rfl, .inl rfl, .inl rfl, .inl rfl, .inl rfl, trivial⟩ ⟨rfl, rfl, rfl, rfl, rfl, rfl, rfl, trivial⟩ (by simp [obC, vecC, refOb, List.all_eq_true, refA]) rfl
  · have hcl := costP_le (te := te) (cs := cs) hit hte hle (r := r.take i)
    rcases Nat.lt_or_ge i r.length with hil | hig
    · obtain ⟨s, hs⟩ := get_ok hil
      have hsy := hr s (List.mem_of_getElem? hs)
      have hce := costP_succ (it := it) (te := te) (cs := cs) hs
      obtain ⟨c2, hc2⟩ : ∃ c2, c2 = costP it te cs (r.take (i + 1)) := ⟨_, rfl⟩
      rw [← hc2] at hce
      have tdy : ∀ tm : PT AV, tm.get? 1 = some (.d (.ep [nI it])) → tm.get? 2 = some (.d (.ep [nI te])) → tm.get? 3 = some (.bp 1 0) → tm.get? 6 = some (.d (nI c2)) → tm.get? 11 = some (.d (.sl 1 (r.map nI))) → tm.get? 12 = some (.d (nI (r.map nI).length)) → tm.get? 13 = some (.d (.int .i64 (IntKind.i64.wrap (((i : Nat) : Int) + 1)))) → Tidy 2 ⟨tm, obC cs, []⟩ ⟨PT.ofList [(1, .d (.ep [nI it])), (2, .d (.ep [nI te])), (3, .bp 1 0), (6, .d (nI (costP it te cs (r.take (i + 1))))), (11, .d (.sl 1 (r.map nI))), (12, .d (nI (r.map nI).length)), (13, .d (nI (i + 1)))], obC cs, []⟩ := fun tm h1 h2 h3 h4 h5 h6 h7 => by
        rw [← hc2]
        exact tidy_of _ 2 rfl rfl ⟨.inl h1, .inl h2, .inl h3, .inl h4, .inl h5, .inl h6, .inl (inc_get h7 (by omega)), trivial⟩ ⟨rfl, rfl, rfl, rfl, rfl, rfl, rfl, trivial⟩ (by simp [obC, vecC, refOb, List.all_eq_true, refA]) rfl
      repeat refine zS ?_
      refine zV (lt_true (show i < (r.map nI).length by omega)) ?_
      repeat refine zS ?_
      refine zI w (.d (.ep [nI s])) hs ?_
      iterate 2 refine zX ?_
      repeat refine zS ?_
      refine zX ?_
      by_cases h16 : s < 16
      · rw [if_pos h16] at hce
        have hk := sumK (costP it te cs (r.take i)) te hcl hte
        rw [← hce] at hk
        refine zV (lt_true h16) ?_
        repeat refine zS ?_
        iterate 2 refine zX ?_
        refine oC hk ?_
        refine zX ?_
        repeat refine zS ?_
        iterate 2 refine zX ?_
        refine RunOps.nil ?_
        exact ⟨i + 1, hil, by omega, tdy _ rfl rfl rfl rfl rfl rfl rfl⟩
      · rw [if_neg h16] at hce
        have ha : s - 16 < cs.length := by rcases hsy with h | ⟨_, h⟩ <;> omega
        obtain ⟨c, hc⟩ := get_ok ha
        rw [List.getD_eq_getElem?_getD, hc, Option.getD_some] at hce
        have hk := sumK (costP it te cs (r.take i)) c hcl (hle c (List.mem_of_getElem? hc))
        rw [← hce] at hk
        refine zV (lt_false (show 16 ≤ s by omega)) ?_
        repeat refine zS ?_
        iterate 3 refine zX ?_
        refine zV (show AV.d (.int .i64 (IntKind.i64.wrap (((s : Nat) : Int) - 16))) = .d (nI (s - 16)) by congr 2; rw [show ((s : Nat) : Int) - 16 = ((s - 16 : Nat) : Int) by omega]; exact wrap_nat (by omega)) ?_
        refine zCut (show AV.bp 0 (0 + ((s - 16 : Nat) : Int).toNat * 1) = .bp 0 (s - 16) by rw [Int.toNat_natCast, Nat.zero_add, Nat.mul_one]) ?_
        refine oV (v := .d (nI c)) ?_ (hv := evAny_loadV (c := .d (nI c)) rfl rfl rfl rfl rfl (by simp [hc]))
        refine oC hk ?_
        refine zX ?_
        repeat refine zS ?_
        iterate 2 refine zX ?_
        refine RunOps.nil ?_
        exact ⟨i + 1, hil, by omega, tdy _ rfl rfl rfl rfl rfl rfl rfl⟩
    · have hie : i = r.length := by omega
      subst hie
      rw [List.take_length]
      repeat refine zS ?_
      refine zV (lt_false (show (r.map nI).length ≤ r.length by omega)) ?_
      repeat refine zS ?_
      iterate 2 refine zX ?_
      repeat refine zS ?_
      refine Run.ret ?_
      exact ⟨trivial, _, _, rfl, rfl, .refl, wk_refl _⟩
def stepC (it te : Nat) (ps : List (Nat × List Nat)) (cs : List Nat) : Option (List Nat) :=
  match ps.find? fun p => decide (costP it te cs p.2 < cs.getD p.1 0) with
  | none => none
  | some p => some (cs.set p.1 (costP it te cs p.2))
def costsF (it te : Nat) (ps : List (Nat × List Nat)) : Nat → List Nat → List Nat
  | 0, cs => cs
  | f + 1, cs => match stepC it te ps cs with
    | none => cs
    | some cs' => costsF it te ps f cs'
theorem set_sum : ∀ {l : List Nat} {i a : Nat}, i < l.length → (l.set i a).sum + l.getD i 0 = l.sum + a
  | [], i, a, h => by simp at h
  | x :: l, 0, a, _ => by simp; omega
  | x :: l, i + 1, a, h => by
    have := set_sum (l := l) (i := i) (a := a) (by simpa using h)
    simp only [List.set_cons_succ, List.sum_cons, List.getD_cons_succ]; omega
structure CsOK (n : Nat) (cs : List Nat) : Prop where
  len : cs.length = n
  le : ∀ c ∈ cs, c ≤ cM
theorem step_ok {it te n : Nat} (hi : it ≤ cM) (ht : te ≤ cM) {ps : List (Nat × List Nat)} {cs cs' : List Nat} (h : CsOK n cs) (hs : stepC it te ps cs = some cs') : CsOK n cs' ∧ cs'.sum < cs.sum ∧ ∃ p ∈ ps, cs' = cs.set p.1 (costP it te cs p.2) ∧ costP it te cs p.2 < cs.getD p.1 0 := by
  unfold stepC at hs
  split at hs
  · cases hs
  · rename_i p hp
    have h1 := List.find?_some hp
    simp only [decide_eq_true_eq] at h1
    cases hs
    have h2 : p.1 < cs.length := by
      rcases Nat.lt_or_ge p.1 cs.length with h2 | h2
      · exact h2
      · rw [List.getD_eq_getElem?_getD, List.getElem?_eq_none h2, Option.getD_none] at h1; omega
    have h3 := set_sum (a := costP it te cs p.2) h2
    refine ⟨⟨by rw [List.length_set]; exact h.len, fun c hc => ?_⟩, by omega, p, List.mem_of_find?_eq_some hp, rfl, h1⟩
    rcases List.mem_or_eq_of_mem_set hc with h4 | rfl
    · exact h.le c h4
    · exact costP_le hi ht h.le
theorem costs_fuel {it te n : Nat} (hi : it ≤ cM) (ht : te ≤ cM) {ps : List (Nat × List Nat)} : ∀ (f f' : Nat) {cs : List Nat}, CsOK n cs → cs.sum < f → cs.sum < f' → costsF it te ps f cs = costsF it te ps f' cs
  | 0, _, _, _, h, _ => absurd h (Nat.not_lt_zero _)
  | _ + 1, 0, _, _, _, h => absurd h (Nat.not_lt_zero _)
  | f + 1, f' + 1, cs, hc, h1, h2 => by
    simp only [costsF]
    cases hs : stepC it te ps cs with
    | none => rfl
    | some cs' =>
      obtain ⟨g1, g2, _⟩ := step_ok hi ht hc hs
      exact costs_fuel hi ht f f' g1 (by omega) (by omega)
theorem costs_ind {it te n : Nat} (hi : it ≤ cM) (ht : te ≤ cM) {ps : List (Nat × List Nat)} (Q : List Nat → Prop) (hq : ∀ cs cs', CsOK n cs → Q cs → stepC it te ps cs = some cs' → Q cs') : ∀ (f : Nat) {cs : List Nat}, CsOK n cs → cs.sum < f → Q cs → CsOK n (costsF it te ps f cs) ∧ Q (costsF it te ps f cs) ∧ stepC it te ps (costsF it te ps f cs) = none
  | 0, _, _, h, _ => absurd h (Nat.not_lt_zero _)
  | f + 1, cs, hc, h, h0 => by
    simp only [costsF]
    cases hs : stepC it te ps cs with
    | none => exact ⟨hc, h0, hs⟩
    | some cs' =>
      obtain ⟨g1, g2, _⟩ := step_ok hi ht hc hs
      exact costs_ind hi ht Q hq f g1 (by omega) (hq cs cs' hc h0 hs)
def costsN (it te n : Nat) (ps : List (Nat × List Nat)) : List Nat := costsF it te ps ((List.replicate n cM).sum + 1) (List.replicate n cM)
theorem cs0 (n : Nat) : CsOK n (List.replicate n cM) := ⟨by simp, fun c hc => by rw [List.eq_of_mem_replicate hc]; exact Nat.le_refl _⟩
theorem obC_refs (cs : List Nat) (m : Nat) (h : 2 ≤ m) : (obC cs).all (refOb m) = true := by
  simp only [obC, vecC, List.all_cons, List.all_nil, refOb, Bool.and_true, Bool.and_eq_true, List.all_eq_true]
  exact ⟨fun x hx => by obtain ⟨c, _, rfl⟩ := List.mem_map.1 hx; rfl, by simp [refA, Nat.blt_eq]; omega⟩
theorem vecC_rep (n : Nat) : Ob.vec 2 false 1 n (List.replicate n (AV.d (nI cM))) = vecC (List.replicate n cM) := by simp [vecC]
theorem vecC_set {cs : List Nat} {a c : Nat} (h : a < cs.length) : Ob.vec 2 false 1 cs.length ((cs.map fun c => AV.d (nI c)).take a ++ [AV.d (nI c)] ++ (cs.map fun c => AV.d (nI c)).drop (a + 1)) = vecC (cs.set a c) := by
  unfold vecC
  rw [List.length_set, List.set_eq_take_append_cons_drop, if_pos h]
  simp
theorem obC_set {cs : List Nat} {a c : Nat} (h : a < cs.length) : obC (cs.set a c) = [Ob.vec 2 false 1 cs.length ((cs.map fun c => AV.d (nI c)).take a ++ [AV.d (nI c)] ++ (cs.map fun c => AV.d (nI c)).drop (a + 1)), .box [.vs 0 1 0 cs.length]] := by
  rw [vecC_set h, obC, List.length_set]
abbrev fnC (it te : Nat) : AV := .fn (.func 101) [] [.d (.ep [nI it]), .d (.ep [nI te]), .bp 1 0]
abbrev gC (k ga gb gc gd : DV) (ps : List (Nat × List Nat)) : AV := .d (.ep [k, ga, gb, gc, gd, .sl 2 (ps.map encQ)])
theorem fnd_some {ps : List (Nat × List Nat)} {f : Nat × List Nat → Bool} {j : Nat} {p : Nat × List Nat} (h : (ps.take j).find? f = none) (hp : ps[j]? = some p) (hf : f p = true) : ps.find? f = some p := by
  have e : ps = ps.take j ++ p :: ps.drop (j + 1) := by
    obtain ⟨h1, h2⟩ := List.getElem?_eq_some_iff.1 hp
    rw [← h2, ← List.drop_eq_getElem_cons h1, List.take_append_drop]
  rw [e, List.find?_append, h]
  simp [hf]
theorem fnd_none {ps : List (Nat × List Nat)} {f : Nat × List Nat → Bool} {j : Nat} {p : Nat × List Nat} (h : (ps.take j).find? f = none) (hp : ps[j]? = some p) (hf : f p = false) : (ps.take (j + 1)).find? f = none := by
  rw [List.take_add_one, hp, List.find?_append, h]
  simp [hf]
section
variable {E : PT Ty} {rd : Operand → AV} {objs : List Ob} {t : TypeId} {x : Operand} {y : Ty} {i off sz n : Nat} {T : TypeId} {ag : Bool} {cs : List AV} {c : AV}
theorem evOp_loadV (h1 : E.get? t = some y) (ha : isAggT y.desc = false) (hx : rd x = .bp i off) (hi : objs[i]? = some (.vec T ag sz n cs)) (hc : cs[off]? = some c) : evOp E rd objs (.load t x) = some (c, objs, true) := by
  cases cs with
  | nil => simp at hc
  | cons a l => simp only [evOp, loadR, h1, hx, hi, obCells, ha, hc, pureR, if_true]
end
set_option maxHeartbeats 4000000 in
theorem costsA (it te : Nat) (hit : it ≤ cM) (hte : te ≤ cM) (k ga gb gd : DV) (nms : List DV) (n : Nat) (hnl : nms.length = n) (hn : n ≤ 8) (ps : List (Nat × List Nat)) (hps : PrOK n ps) (hpl : ps.length ≤ 1000) :
    ACall Try.prog 82 [.d (.agg [k, ga, gb, .sl 1 nms, gd, .sl 2 (ps.map encQ)]), .d (nI it), .d (nI te)] [] (.vs 0 1 0 n) (obC (costsN it te n ps)) := by
  have w : Fz [3, 4, 5] := trivial
  have hend := costs_ind hit hte (ps := ps) (n := n) (te := te) (fun _ => True) (fun _ _ _ _ _ => trivial) ((List.replicate n cM).sum + 1) (cs0 n) (Nat.lt_succ_self _) trivial
  have hpm : (ps.map encQ).length = ps.length := by simp
  refine acallG_of_run Et_ok (fnB Try.func82 [3, 4, 5]) rfl rfl (by simp) ?_ (by simp [refA, obC]) ?_
  · exact obC_refs _ _ (Nat.le_refl _)
  have w : Fz [3, 4, 5] := trivial
  have hf := filledI n (by omega) (nI cM) rfl rfl
  repeat refine zS ?_
  iterate 4 refine zX ?_
  repeat refine zS ?_
  refine Run.scope ?_
  repeat refine zS ?_
  iterate 3 refine zX ?_
  subst hnl
  refine oA hf ?_
  rw [vecC_rep]
  iterate 2 refine zX ?_
  repeat refine zS ?_
  iterate 2 refine zX ?_
  repeat refine zS ?_
  refine Run.label ?_
  repeat refine zS ?_
  refine Run.loopT (fun cs : List Nat => ⟨PT.ofList [(3, gC k ga gb (.sl 1 nms) gd ps), (7, .bp 1 0), (8, fnC it te)], obC cs, []⟩) (fun cs => CsOK nms.length cs ∧ costsF it te ps (cs.sum + 1) cs = costsN it te nms.length ps) (fun cs => cs.sum) (List.replicate nms.length cM) ⟨cs0 _, rfl⟩ ?_ (fun cs hcs => ?_)
  · refine tidy_of _ 2 ?_ rfl ⟨.inl rfl, .inl rfl, .inl rfl, trivial⟩ ⟨rfl, rfl, rfl, trivial⟩ (obC_refs _ _ (Nat.le_refl _)) rfl
    have e : obC (List.replicate nms.length cM) = [vecC (List.replicate nms.length cM), .box [.vs 0 1 0 nms.length]] := by simp [obC]
    rw [e]; rfl
  · obtain ⟨hc, he⟩ := hcs
    have hcl := hc.len
    repeat refine zS ?_
    iterate 4 refine zX ?_
    repeat refine zS ?_
    refine Run.loopT (fun j : Nat => ⟨PT.ofList [(3, gC k ga gb (.sl 1 nms) gd ps), (7, .bp 1 0), (8, fnC it te), (18, .d (.sl 2 (ps.map encQ))), (19, .d (nI (ps.map encQ).length)), (20, .d (nI j))], obC cs, []⟩) (fun j => j ≤ ps.length ∧ (ps.take j).find? (fun p => decide (costP it te cs p.2 < cs.getD p.1 0)) = none) (fun j => ps.length - j) 0 ⟨Nat.zero_le _, by simp⟩ ?_ (fun j hj => ?_)
    · exact tidy_of _ 2 rfl rfl ⟨.inl rfl, .inl rfl, .inl rfl, .inl rfl, .inl rfl, .inl rfl, trivial⟩ ⟨rfl, rfl, rfl, rfl, rfl, rfl, trivial⟩ (obC_refs _ _ (Nat.le_refl _)) rfl
    · obtain ⟨hj1, hj2⟩ := hj
      rcases Nat.lt_or_ge j ps.length with hjl | hjg
      · obtain ⟨p, hp⟩ := get_ok hjl
        have hpmem := List.mem_of_getElem? hp
        have hlt := hps.lt p hpmem
        have hpe : (ps.map encQ)[j]? = some (encQ p) := by rw [List.getElem?_map, hp]; rfl
        have hcA := costA it te hit hte cs (by omega) hc.le (nI (16 + p.1)) p.2 (by rw [hcl]; exact hps.sy p hpmem) (hps.len p hpmem)
        obtain ⟨c, hcg⟩ := get_ok (show p.1 < cs.length by omega)
        have hcd : cs.getD p.1 0 = c := by rw [List.getD_eq_getElem?_getD, hcg]; rfl
        repeat refine zS ?_
        refine zV (lt_true (show j < (ps.map encQ).length by omega)) ?_
        repeat refine zS ?_
        refine oIv w (v := .d (.ep [nI (16 + p.1), .sl 1 (p.2.map nI)])) trivial ?_ (he := by simp [gD, cellsD, encQ, hp])
        iterate 2 refine zX ?_
        refine oV ?_ (hv := evAny_store_last)
        refine RunOps.nil ?_
        refine Run.dropLastD (m := 0) (dl := []) (O := obC cs) (ds := [nI (16 + p.1), .sl 1 (p.2.map nI)]) [(3, gC k ga gb (.sl 1 nms) gd ps), (7, .bp 1 0), (8, fnC it te), (18, .d (.sl 2 (ps.map encQ))), (19, .d (nI (ps.map encQ).length)), (20, .d (nI j)), (10, .d (.ep [nI (16 + p.1), .sl 1 (p.2.map nI)]))] ?_ (Nat.zero_le _) (obC_refs _ _ (Nat.le_refl _)) rfl (ofList_cases (by intro q hq; simp only [List.mem_cons, List.not_mem_nil, or_false] at hq; rcases hq with rfl | rfl | rfl | rfl | rfl | rfl | rfl; exact .inl (by kernel_rfl); exact .inl (by kernel_rfl); exact .inl (by kernel_rfl); exact .inl (by kernel_rfl); exact .inl (by kernel_rfl); exact .inl (by kernel_rfl); exact .inr ⟨0, Nat.zero_le _, by kernel_rfl, rfl⟩)) ⟨rfl, rfl, rfl, rfl, rfl, rfl, rfl, trivial⟩
        repeat refine zS ?_
        iterate 2 refine zX ?_
        refine zV (show AV.d (.int .i64 (IntKind.i64.wrap (((16 + p.1 : Nat) : Int) - 16))) = .d (nI p.1) by congr 2; rw [show ((16 + p.1 : Nat) : Int) - 16 = ((p.1 : Nat) : Int) by omega]; exact wrap_nat (by omega)) ?_
        refine zX ?_
        repeat refine zS ?_
        refine Run.drawC (frz := [3, 4, 5]) Et_ok (by kernel_rfl) [(3, 2), (6, 2)] ?_
        refine cX ?_
        refine cX ?_
        refine cAll hcA ?_
        refine cX ?_
        refine cX ?_
        refine cX (v := .bp 0 p.1) ?_ (hf := by simp [inB]; omega) (he := show AV.bp 0 (0 + ((p.1 : Nat) : Int).toNat * 1) = .bp 0 p.1 by rw [Int.toNat_natCast, Nat.zero_add, Nat.mul_one])
        refine cX (v := .d (nI c)) ?_ (hv := evAny_loadV (c := .d (nI c)) rfl rfl rfl rfl rfl (by simp [hcg]))
        by_cases hlc : costP it te cs p.2 < c
        · refine cX (v := .d (.bool true)) ?_ (he := lt_true hlc)
          refine EvC.nil ⟨draw2 (by kernel_rfl), ⟨⟨_, _, _, _, _, _, _, rfl, rfl, rfl, rfl, rfl, rfl⟩, ⟨_, _, _, _, _, _, _, rfl, rfl, rfl, rfl, evOp_loadV (c := .d (nI c)) rfl rfl rfl rfl (by simp [hcg]), evOp_loadV (c := .d (nI c)) rfl rfl rfl rfl (by simp [hcg])⟩, trivial⟩, ?_⟩
          repeat refine zS ?_
          refine Run.drawC (frz := [3, 4, 5]) Et_ok (by kernel_rfl) [(0, 4)] ?_
          refine cX ?_
          refine cX ?_
          refine cX ?_
          refine cX ?_
          refine cAll hcA ?_
          refine cX (v := .bp 0 p.1) ?_ (hf := by simp [inB]; omega) (he := show AV.bp 0 (0 + ((p.1 : Nat) : Int).toNat * 1) = .bp 0 p.1 by rw [Int.toNat_natCast, Nat.zero_add, Nat.mul_one])
          refine cX (v := .d .any) (objs' := obC (cs.set p.1 (costP it te cs p.2))) ?_ (hv := evAny_storeV (c := .d (nI (costP it te cs p.2))) rfl rfl rfl rfl rfl rfl rfl rfl (by simp; omega)) (ho := by rw [obC_set (by omega)]; rfl)
          refine EvC.nil ⟨draw2 (by kernel_rfl), ⟨⟨_, _, _, _, _, _, _, rfl, rfl, rfl, rfl, rfl, rfl⟩, trivial⟩, ?_⟩
          repeat refine zS ?_
          have hst : stepC it te ps cs = some (cs.set p.1 (costP it te cs p.2)) := by
            unfold stepC
            rw [fnd_some hj2 hp (decide_eq_true (by rw [hcd]; exact hlc))]
          obtain ⟨g1, g2, _⟩ := step_ok hit hte hc hst
          refine ⟨cs.set p.1 (costP it te cs p.2), ⟨g1, ?_⟩, g2, ?_⟩
          · rw [← he]
            have e : costsF it te ps (cs.sum + 1) cs = costsF it te ps cs.sum (cs.set p.1 (costP it te cs p.2)) := by simp only [costsF, hst]
            rw [e]
            exact costs_fuel hit hte _ _ g1 (Nat.lt_succ_self _) g2
          · exact tidy_of _ 2 rfl rfl ⟨.inl rfl, .inl rfl, .inl rfl, trivial⟩ ⟨rfl, rfl, rfl, trivial⟩ (obC_refs _ _ (Nat.le_refl _)) rfl
        · refine cX (v := .d (.bool false)) ?_ (he := lt_false (by omega))
          refine EvC.nil ⟨draw2 (by kernel_rfl), ⟨⟨_, _, _, _, _, _, _, rfl, rfl, rfl, rfl, rfl, rfl⟩, ⟨_, _, _, _, _, _, _, rfl, rfl, rfl, rfl, evOp_loadV (c := .d (nI c)) rfl rfl rfl rfl (by simp [hcg]), evOp_loadV (c := .d (nI c)) rfl rfl rfl rfl (by simp [hcg])⟩, trivial⟩, ?_⟩
          repeat refine zS ?_
          iterate 2 refine zX ?_
          refine RunOps.nil ?_
          refine ⟨j + 1, ⟨hjl, fnd_none hj2 hp (decide_eq_false (by rw [hcd]; exact hlc))⟩, by omega, ?_⟩
          exact tidy_of _ 2 rfl rfl ⟨.inl rfl, .inl rfl, .inl rfl, .inl rfl, .inl rfl, .inl (inc_get rfl (by omega)), trivial⟩ ⟨rfl, rfl, rfl, rfl, rfl, rfl, trivial⟩ (obC_refs _ _ (Nat.le_refl _)) rfl
      · have hje : j = ps.length := by omega
        subst hje
        rw [List.take_length] at hj2
        have hst : stepC it te ps cs = none := by unfold stepC; rw [hj2]
        have e : costsN it te nms.length ps = cs := by rw [← he]; simp only [costsF, hst]
        repeat refine zS ?_
        refine zV (lt_false (show (ps.map encQ).length ≤ ps.length by omega)) ?_
        repeat refine zS ?_
        iterate 2 refine zX ?_
        repeat refine zS ?_
        refine Run.ret ?_
        refine ⟨trivial, _, _, rfl, rfl, (by rw [hcl]; exact .refl), ?_⟩
        rw [e]
        exact wk_refl _
section
variable {H : Hd} {frz : List Nat} {rd : Operand → AV} {objs : List Ob} {o : Oper} {t : TypeId} {m k : Operand} {i : Nat} {L : List (List Nat)} {x : List Nat}
theorem pmFind_T (hx : x.length ≤ 4) : pmFind (eqKey Et 38) (lk x) (kvT L) = findKV (eqKey Et 38) (lk x) (kvT L) := by
  unfold pmFind
  rw [List.all_eq_true.2 (fun p hp => ?_)]
  obtain ⟨y, _, rfl⟩ := List.mem_map.1 hp
  simp only [eqKeyL x y hx]
  rfl
theorem evAny_hasPm (hop : o.op = .lookup t m k false) (h1 : Et.get? t = some ⟨.map 38 4, 1, 8, [.nilmap]⟩) (hm : rd m = .mp i) (hi : objs[i]? = some (.pm (kvT L))) (hk : rd k = .d (lk x)) (hx : x.length ≤ 4) :
    evAny Et H frz rd objs o = some (.d (.bool (decide (x ∈ L))), none, true) := by
  obtain ⟨dst, op, ty, pos, after, guard⟩ := o
  simp only at hop
  subst hop
  have h3 : Et.get? 4 = some ty4 := rfl
  have hp := pmFind_T (L := L) hx
  by_cases h : x ∈ L
  · obtain ⟨j, h2, _⟩ := findT_at hx h
    rw [h2] at hp
    simp only [evAny, quiet, evOp, lookupR, h1, hk, h3, keyTL x, kvsOf, pmOf, hm, hi, hp, pureR, Option.map_some, decide_eq_true h]
  · rw [findT_none hx h] at hp
    have hz : zeroD ty4 = some (.bool false) := rfl
    simp only [evAny, quiet, evOp, lookupR, h1, hk, h3, keyTL x, kvsOf, pmOf, hm, hi, hp, hz, pureR, Option.map_some, decide_eq_false h]
end
def neC (c : Nat) : Bool := !decide (c = cM)
def vecW (cs : List Nat) (i : Nat) : Ob := .vec 4 false 1 cs.length ((cs.take i).map (fun c => AV.d (.bool (neC c))) ++ List.replicate (cs.length - i) (.d (.bool false)))
theorem vecW_0 (cs : List Nat) : Ob.vec 4 false 1 cs.length (List.replicate cs.length (.d (.bool false))) = vecW cs 0 := by simp [vecW]
theorem vecW_n (cs : List Nat) : vecW cs cs.length = .vec 4 false 1 cs.length (cs.map fun c => AV.d (.bool (neC c))) := by simp [vecW]
theorem vecW_s {cs : List Nat} {i c : Nat} (h : cs[i]? = some c) : Ob.vec 4 false 1 cs.length (((cs.take i).map (fun c => AV.d (.bool (neC c))) ++ List.replicate (cs.length - i) (AV.d (.bool false))).take i ++ [AV.d (.bool (neC c))] ++ ((cs.take i).map (fun c => AV.d (.bool (neC c))) ++ List.replicate (cs.length - i) (AV.d (.bool false))).drop (i + 1)) = vecW cs (i + 1) := by
  have hi := (List.getElem?_eq_some_iff.1 h).1
  have hl : ((cs.take i).map (fun c => AV.d (.bool (neC c)))).length = i := by simp; omega
  unfold vecW
  congr 1
  rw [List.take_left' hl, List.drop_append, List.drop_of_length_le (by omega), hl, List.drop_replicate, List.take_add_one, h]
  simp
  omega
theorem vecW_refs (cs : List Nat) (i m : Nat) : refOb m (vecW cs i) = true := by
  simp only [vecW, refOb, List.all_eq_true]
  intro x hx
  rcases List.mem_append.1 hx with h | h
  · obtain ⟨c, _, rfl⟩ := List.mem_map.1 h; rfl
  · rw [List.eq_of_mem_replicate h]; rfl
theorem obW_refs (cs : List Nat) (i m : Nat) (h : 2 ≤ m) : (obC cs ++ [vecW cs i]).all (refOb m) = true := by
  rw [List.all_append, obC_refs cs m h]
  simp [vecW_refs]
set_option maxHeartbeats 1000000 in
theorem whichA (cs : List Nat) (hcs : cs.length ≤ 1000) :
    ACall Try.prog 81 [.vs 0 1 0 cs.length] (obC cs) (.vs 2 1 0 cs.length) (obC cs ++ [vecW cs cs.length]) := by
  have w : Fz [] := trivial
  refine acallG_of_run Et_ok (fnB Try.func81 []) rfl rfl (by simp [obC]) ?_ (by simp [refA, obC]) ?_
  · exact obW_refs _ _ _ (by simp [obC])
  have w : Fz [] := trivial
  have hf := filledB cs.length hcs (.bool false) rfl rfl
  have hg := hf.grow [] (Big := obC cs) rfl (Nat.zero_le _) (by simp) trivial rfl rfl
  have hgl : growL (obC cs) [] ([] : List Nat).length [Ob.vec 4 false 1 cs.length (List.replicate cs.length (AV.d (.bool false)))] = obC cs ++ [vecW cs 0] := by
    rw [← vecW_0]
    unfold growL
    simp [putL, reO, reA]
  rw [hgl] at hg
  repeat refine zS ?_
  refine zX ?_
  repeat refine zS ?_
  iterate 2 refine zX ?_
  refine oA hg ?_
  refine zX ?_
  repeat refine zS ?_
  iterate 3 refine zX ?_
  repeat refine zS ?_
  refine Run.loopT (fun i : Nat => ⟨PT.ofList [(3, .vs 2 1 0 cs.length), (9, .vs 0 1 0 cs.length), (10, .d (nI cs.length)), (11, .d (nI i))], obC cs ++ [vecW cs i], []⟩) (fun i => i ≤ cs.length) (fun i => cs.length - i) 0 (Nat.zero_le _) ?_ (fun i hi => ?_)
  · exact tidy_of _ 3 rfl rfl ⟨.inl rfl, .inl rfl, .inl rfl, .inl rfl, trivial⟩ ⟨rfl, rfl, rfl, rfl, trivial⟩ (obW_refs _ _ _ (by omega)) rfl
  · rcases Nat.lt_or_ge i cs.length with hil | hig
    · obtain ⟨c, hc⟩ := get_ok hil
      repeat refine zS ?_
      refine zV (lt_true hil) ?_
      repeat refine zS ?_
      refine zX ?_
      refine zCut (show AV.bp 0 (0 + ((i : Nat) : Int).toNat * 1) = .bp 0 i by rw [Int.toNat_natCast, Nat.zero_add, Nat.mul_one]) ?_
      refine oV (v := .d (nI c)) ?_ (hv := evAny_loadV (c := .d (nI c)) rfl rfl rfl rfl rfl (by simp [hc]))
      iterate 2 refine zX ?_
      repeat refine zS ?_
      iterate 3 refine zX ?_
      have hb : AV.d (.bool (decide (((c : Nat) : Int) ≠ 9223372036854775807))) = .d (.bool (neC c)) := by
        unfold neC cM
        congr 2
        by_cases h : c = 9223372036854775807
        · subst h; rfl
        · rw [decide_eq_true (by omega), decide_eq_false h]; rfl
      refine oV (v := .d (.bool (neC c))) ?_ (he := by
        unfold neC cM
        congr 2
        by_cases h : c = 9223372036854775807
        · subst h; rfl
        · rw [decide_eq_false h]; simp; omega)
      refine zCut (show AV.bp 2 (0 + ((i : Nat) : Int).toNat * 1) = .bp 2 i by rw [Int.toNat_natCast, Nat.zero_add, Nat.mul_one]) ?_
      refine oV (v := .d .any) (objs' := obC cs ++ [vecW cs (i + 1)]) ?_ (hv := evAny_storeV (c := .d (.bool (neC c))) rfl rfl rfl rfl rfl rfl rfl rfl (by simp; omega)) (ho := by rw [← vecW_s hc]; rfl)
      repeat refine zS ?_
      iterate 2 refine zX ?_
      refine RunOps.nil ?_
      exact ⟨i + 1, hil, by omega, tidy_of _ 3 rfl rfl ⟨.inl rfl, .inl rfl, .inl rfl, .inl (inc_get rfl (by omega)), trivial⟩ ⟨rfl, rfl, rfl, rfl, trivial⟩ (obW_refs _ _ _ (by omega)) rfl⟩
    · have hie : i = cs.length := by omega
      subst hie
      repeat refine zS ?_
      refine zV (lt_false (Nat.le_refl _)) ?_
      repeat refine zS ?_
      iterate 2 refine zX ?_
      repeat refine zS ?_
      refine Run.ret ?_
      exact ⟨trivial, _, _, rfl, rfl, .refl, wk_refl _⟩
theorem flat_bools : ∀ cs : List Nat, (flatD (cs.map fun c => DV.bool (neC c))).map AV.d = cs.map fun c => AV.d (.bool (neC c))
  | [] => rfl
  | c :: cs => congrArg (AV.d (.bool (neC c)) :: ·) (flat_bools cs)
def nulC (g : Gram) : List Nat := costsN 1 cM g.names.length (psN g)
theorem nulC_len {g : Gram} (h : checkF g = 0) : (nulC g).length = g.names.length :=
  (costs_ind (by decide) (Nat.le_refl _) (ps := psN g) (n := g.names.length) (fun _ => True) (fun _ _ _ _ _ => trivial) _ (cs0 _) (Nat.lt_succ_self _) trivial).1.len
theorem reachNullK {g : Gram} (h : checkF g = 0) (hf : Fits g) : KnownCall Try.prog 64 [encG g] (.tup [.d (.sl 1 ((nulC g).map fun c => .bool (neC c))), .d (.int .i64 0)]) := by
  have c := grCheck g hf
  rw [h] at c
  have v := valN h
  have hcl := nulC_len h
  have hA := costsA 1 cM (by decide) (Nat.le_refl _) (.int .i64 g.k) (strs g.tokens) (.str g.sep) (.int .i64 g.start) (g.names.map .str) g.names.length (by simp) v.n8 (psN g) v.ok (by have := v.len; omega)
  rw [← v.enc] at hA
  change ACall _ _ [.d (encG g), _, _] [] (.vs 0 1 0 g.names.length) (obC (nulC g)) at hA
  rw [← hcl] at hA
  have hW := whichA (nulC g) (by have := v.n8; omega)
  generalize nulC g = cs at *
  refine kF Try.func64 [1] fun w => ?_
  repeat refine zS ?_
  iterate 3 refine zX ?_
  repeat refine zS ?_
  refine zX ?_
  refine zC c ?_
  refine zX ?_
  repeat refine zS ?_
  iterate 2 refine zX ?_
  repeat refine zS ?_
  refine zX ?_
  refine oA hA ?_
  refine oA hW ?_
  iterate 2 refine zX ?_
  refine RunOps.nil ?_
  rw [vecW_n]
  refine Run.freezeVec 2 (es := cs.map fun c => .bool (neC c)) (n := cs.length) (sz := 1) (ag := false) (T := 4) (tm' := PT.ofList [(2, .d (.sl 1 (cs.map fun c => .bool (neC c)))), (3, .d (.int .i64 0))]) ?_ ?_ (by simp) (fun e he => by obtain ⟨x, _, rfl⟩ := List.mem_map.1 he; rfl) (ofList_cases (by intro q hq; simp only [List.mem_cons, List.not_mem_nil, or_false] at hq; rcases hq with rfl | rfl; exact .inr ⟨by kernel_rfl, rfl⟩; exact .inl (by kernel_rfl)))
  · repeat refine zS ?_
    exact zE rfl
  · rw [flat_bools]; rfl
theorem sumC_top {b : Nat} : sumC cM b = cM := by unfold sumC; rw [if_pos (.inl rfl)]
theorem sumC_top2 {a : Nat} : sumC a cM = cM := by unfold sumC; rw [if_pos (.inr (.inl rfl))]
theorem costP_top {te : Nat} {cs : List Nat} : ∀ {r : List Nat}, costP cM te cs r = cM
  | [] => rfl
  | s :: r => by
    show costP (sumC cM _) te cs r = cM
    rw [sumC_top]; exact costP_top
theorem costP_fin {cs : List Nat} : ∀ {r : List Nat} {it : Nat}, costP it cM cs r ≠ cM → ∀ s ∈ r, 16 ≤ s ∧ cs.getD (s - 16) 0 ≠ cM
  | [], _, _, s, hs => by cases hs
  | t :: r, it, h, s, hs => by
    change costP (sumC it (if t < 16 then cM else cs.getD (t - 16) 0)) cM cs r ≠ cM at h
    have key : 16 ≤ t ∧ cs.getD (t - 16) 0 ≠ cM := by
      rcases Nat.lt_or_ge t 16 with h1 | h1
      · rw [if_pos h1, sumC_top2, costP_top] at h; exact absurd rfl h
      · refine ⟨h1, fun e => ?_⟩
        rw [if_neg (by omega), e, sumC_top2, costP_top] at h; exact absurd rfl h
    rcases List.mem_cons.1 hs with rfl | hs
    · exact key
    · exact costP_fin h s hs
theorem costP_bd {cs : List Nat} {B : Nat} : ∀ {r : List Nat} {it : Nat}, (∀ s ∈ r, 16 ≤ s ∧ cs.getD (s - 16) 0 ≤ B) → it + r.length * B < cM → costP it cM cs r ≤ it + r.length * B
  | [], _, _, _ => by simp [costP]
  | t :: r, it, h, hb => by
    obtain ⟨h1, h2⟩ := h t (by simp)
    have e : (t :: r).length * B = B + r.length * B := by rw [List.length_cons, Nat.add_mul, Nat.one_mul, Nat.add_comm]
    rw [e] at hb ⊢
    have e2 : sumC it (if t < 16 then cM else cs.getD (t - 16) 0) = it + cs.getD (t - 16) 0 := by
      rw [if_neg (by omega)]
      unfold sumC
      rw [if_neg (by omega)]
    show costP (sumC it (if t < 16 then cM else cs.getD (t - 16) 0)) cM cs r ≤ _
    rw [e2]
    have := costP_bd (r := r) (it := it + cs.getD (t - 16) 0) (fun s hs => h s (by simp [hs])) (by omega)
    omega
def cntF : List Nat → Nat
  | [] => 0
  | c :: l => (if c = cM then 0 else 1) + cntF l
theorem cntF_le : ∀ l : List Nat, cntF l ≤ l.length
  | [] => Nat.le_refl _
  | c :: l => by have := cntF_le l; simp only [cntF, List.length_cons]; split <;> omega
theorem cntF_set : ∀ {l : List Nat} {i a : Nat}, i < l.length → cntF (l.set i a) + (if l.getD i 0 = cM then 0 else 1) = cntF l + (if a = cM then 0 else 1)
  | [], _, _, h => by simp at h
  | c :: l, 0, a, _ => by simp only [List.set_cons_zero, cntF, List.getD_cons_zero]; omega
  | c :: l, i + 1, a, h => by
    have := cntF_set (l := l) (i := i) (a := a) (by simpa using h)
    simp only [List.set_cons_succ, cntF, List.getD_cons_succ]; omega
theorem getDsetN {l : List Nat} {i j a : Nat} (h : i < l.length) : (l.set i a).getD j 0 = if j = i then a else l.getD j 0 := by
  rw [List.getD_eq_getElem?_getD, List.getD_eq_getElem?_getD]
  by_cases e : j = i
  · subst e; rw [List.getElem?_set_self h, if_pos rfl]; rfl
  · rw [List.getElem?_set_ne (Ne.symm e), if_neg e]
def SmC (cs : List Nat) : Prop := ∀ a, cs.getD a 0 ≠ cM → cs.getD a 0 ≤ 7 ^ cntF cs
theorem pow7 {m : Nat} (h : m ≤ 8) : 7 ^ (m + 1) < cM := by
  have : 7 ^ (m + 1) ≤ 7 ^ 9 := Nat.pow_le_pow_right (by omega) (by omega)
  have e : 7 ^ 9 < cM := by decide
  omega
theorem cost_small {cs : List Nat} (hc : SmC cs) (hl : cs.length ≤ 8) {r : List Nat} (hr : r.length ≤ 6) (h : ∀ s ∈ r, 16 ≤ s ∧ cs.getD (s - 16) 0 ≠ cM) : costP 1 cM cs r ≤ 7 ^ (cntF cs + 1) := by
  have h1 := Nat.pow_le_pow_right (n := 7) (by omega) (Nat.zero_le (cntF cs))
  have h2 : r.length * 7 ^ cntF cs ≤ 6 * 7 ^ cntF cs := Nat.mul_le_mul_right _ hr
  have h3 := pow7 (m := cntF cs) (Nat.le_trans (cntF_le cs) hl)
  rw [Nat.pow_succ] at h3 ⊢
  have := costP_bd (cs := cs) (B := 7 ^ cntF cs) (it := 1) (r := r) (fun s hs => ⟨(h s hs).1, hc _ (h s hs).2⟩) (by omega)
  omega
theorem sm_step {n : Nat} (hn : n ≤ 8) {ps : List (Nat × List Nat)} (hp : ∀ p ∈ ps, p.1 < n ∧ p.2.length ≤ 6) {cs cs' : List Nat} (hc : CsOK n cs) (h : SmC cs) (hs : stepC 1 cM ps cs = some cs') : SmC cs' := by
  obtain ⟨g1, _, p, hpm, rfl, hlt⟩ := step_ok (by decide) (Nat.le_refl _) hc hs
  obtain ⟨h1, h2⟩ := hp p hpm
  have hl := hc.len
  have hi : p.1 < cs.length := by omega
  have hv := hc.le cs[p.1] (List.getElem_mem hi)
  have hv2 : cs.getD p.1 0 = cs[p.1] := by rw [List.getD_eq_getElem?_getD, List.getElem?_eq_getElem hi]; rfl
  have hne : costP 1 cM cs p.2 ≠ cM := by omega
  have hct := cntF_set (a := costP 1 cM cs p.2) hi
  rw [if_neg hne] at hct
  intro a ha
  rw [getDsetN hi] at ha ⊢
  have hsm := cost_small h (by omega) h2 (costP_fin hne)
  by_cases e : a = p.1
  · rw [if_pos e]
    by_cases e2 : cs.getD p.1 0 = cM
    · rw [if_pos e2] at hct
      rw [show cntF (cs.set p.1 (costP 1 cM cs p.2)) = cntF cs + 1 by omega]
      exact hsm
    · rw [if_neg e2] at hct
      rw [show cntF (cs.set p.1 (costP 1 cM cs p.2)) = cntF cs by omega]
      have := h _ e2
      omega
  · rw [if_neg e] at ha ⊢
    exact Nat.le_trans (h a ha) (Nat.pow_le_pow_right (by omega) (by split at hct <;> omega))
theorem nil_fst {k : Nat} {S : Sets} : ∀ {r : List Nat} {B : List (List Nat)}, [] ∈ B → (∀ s ∈ r, 16 ≤ s ∧ [] ∈ S (s - 16)) → [] ∈ fstF k S B r
  | [], _, hb, _ => hb
  | s :: r, B, hb, h => by
    refine nil_fst (r := r) (B := ascOf (prs k B (syF S s))) (mem_asc.2 (mem_prs.2 ⟨[], hb, [], ?_, by simp⟩)) fun t ht => h t (by simp [ht])
    obtain ⟨h1, h2⟩ := h s (by simp)
    unfold syF
    rw [if_neg (by omega)]
    exact h2
theorem fst_nil {k : Nat} (hk : 1 ≤ k) {S : Sets} : ∀ {r : List Nat} {B : List (List Nat)}, (∀ s ∈ r, s < 8 ∨ 16 ≤ s) → [] ∈ fstF k S B r → [] ∈ B ∧ ∀ s ∈ r, 16 ≤ s ∧ [] ∈ S (s - 16)
  | [], _, _, h => ⟨h, by simp⟩
  | s :: r, B, hs, h => by
    obtain ⟨h1, h2⟩ := fst_nil hk (r := r) (fun t ht => hs t (by simp [ht])) h
    obtain ⟨x, hx, y, hy, e⟩ := mem_prs.1 (mem_asc.1 h1)
    have e1 : x = [] ∧ y = [] := by
      have : (x ++ y).take k = [] := e.symm
      rcases List.take_eq_nil_iff.1 this with h | h
      · omega
      · exact List.append_eq_nil_iff.1 h
    obtain ⟨rfl, rfl⟩ := e1
    refine ⟨hx, fun t ht => ?_⟩
    rcases List.mem_cons.1 ht with rfl | ht
    · unfold syF at hy
      split at hy
      · simp at hy
      · rename_i h8
        exact ⟨by rcases hs t (by simp) with h | h <;> omega, hy⟩
    · exact h2 t ht
theorem psN_len {g : Gram} (h : checkF g = 0) : ∀ p ∈ psN g, p.1 < g.names.length ∧ p.2.length ≤ 6 := fun p hp => by
  refine ⟨(valN h).ok.lt p hp, ?_⟩
  obtain ⟨q, hq, rfl⟩ := List.mem_map.1 hp
  rw [List.length_map]
  exact (many_zero (check_parts h).1).2.2.2 q hq
theorem nul_iff {g : Gram} (h : checkF g = 0) {a : Nat} (ha : a < g.names.length) : (nulC g).getD a 0 ≠ cM ↔ [] ∈ setsG g a := by
  have v := valN h
  have hpl := psN_len h
  have hclo := sets_clo v.k4 v.ok
  obtain ⟨h1, ⟨h2, h3⟩, h4⟩ := costs_ind (it := 1) (te := cM) (by decide) (Nat.le_refl _) (ps := psN g) (n := g.names.length) (fun cs => (∀ a, a < g.names.length → cs.getD a 0 ≠ cM → [] ∈ setsG g a) ∧ SmC cs) (fun cs cs' hc hq hs => by
    refine ⟨fun a ha hne => ?_, sm_step v.n8 hpl hc hq.2 hs⟩
    obtain ⟨_, _, p, hp, rfl, hlt⟩ := step_ok (by decide) (Nat.le_refl _) hc hs
    have hi : p.1 < cs.length := by have := hc.len; have := (hpl p hp).1; omega
    rw [getDsetN hi] at hne
    split at hne
    · rename_i e
      subst e
      refine hclo p hp [] (nil_fst (by simp) fun s hs => ?_)
      obtain ⟨g1, g2⟩ := costP_fin hne s hs
      refine ⟨g1, hq.1 _ ?_ g2⟩
      rcases v.ok.sy p hp s hs with h | h <;> omega
    · exact hq.1 a ha hne) _ (cs0 _) (Nat.lt_succ_self _) ⟨fun a ha hne => by
      rw [List.getD_eq_getElem?_getD, List.getElem?_eq_getElem (by simpa using ha)] at hne
      simp at hne, fun a hne => by
      rw [List.getD_eq_getElem?_getD] at hne ⊢
      cases e : (List.replicate g.names.length cM)[a]? with
      | none => simp
      | some c =>
        rw [e] at hne
        exact absurd (List.eq_of_mem_replicate (List.mem_of_getElem? e)) hne⟩
  change CsOK _ (nulC g) at h1
  change ∀ a, a < g.names.length → (nulC g).getD a 0 ≠ cM → [] ∈ setsG g a at h2
  change SmC (nulC g) at h3
  change stepC 1 cM (psN g) (nulC g) = none at h4
  refine ⟨h2 a ha, fun hm => ?_⟩
  have hsub : Sub (setsG g) (fun a => (setsG g a).filter fun x => decide (x ≠ [] ∨ (nulC g).getD a 0 ≠ cM)) := sets_least fun p hp x hx => by
    refine List.mem_filter.2 ⟨hclo p hp x (fst_mono (fun a x hx => (List.mem_filter.1 hx).1) (fun _ h => h) x hx), decide_eq_true ?_⟩
    by_cases hx0 : x = []
    · subst hx0
      right
      obtain ⟨_, h5⟩ := fst_nil v.k1 (fun s hs => by rcases v.ok.sy p hp s hs with h | h <;> omega) hx
      have h6 : ∀ s ∈ p.2, 16 ≤ s ∧ (nulC g).getD (s - 16) 0 ≠ cM := fun s hs => by
        obtain ⟨g1, g2⟩ := h5 s hs
        refine ⟨g1, ?_⟩
        have := (List.mem_filter.1 g2).2
        simpa using this
      have h7 := cost_small h3 (by rw [h1.len]; exact v.n8) (hpl p hp).2 h6
      have h8 := pow7 (m := cntF (nulC g)) (Nat.le_trans (cntF_le _) (by rw [h1.len]; exact v.n8))
      have h9 : ¬ costP 1 cM (nulC g) p.2 < (nulC g).getD p.1 0 := fun hlt => by
        unfold stepC at h4
        split at h4
        · rename_i hf
          have := List.find?_eq_none.1 hf p hp
          simp only [decide_eq_true_eq] at this
          exact this hlt
        · cases h4
      omega
    · exact .inl hx0
  have := (List.mem_filter.1 (hsub a [] hm)).2
  simpa using this
def empF (g : Gram) (l : List Nat) : Bool := l.all fun s => decide (16 ≤ s) && neC ((nulC g).getD (s - 16) 0)
theorem emp_iff {g : Gram} (h : checkF g = 0) {l : List Nat} (hl : ∀ s ∈ l, SymN g.names.length s) : empF g l = decide ([] ∈ foN g l) := by
  have v := valN h
  have key : empF g l = true ↔ [] ∈ foN g l := by
    unfold empF foN
    rw [List.all_eq_true]
    constructor
    · intro hh
      refine nil_fst (by simp) fun s hs => ?_
      have h1 := hh s hs
      simp only [Bool.and_eq_true, decide_eq_true_eq, neC, Bool.not_eq_true', decide_eq_false_iff_not] at h1
      refine ⟨h1.1, (nul_iff h ?_).1 h1.2⟩
      rcases hl s hs with h | h <;> omega
    · intro hh s hs
      obtain ⟨_, h5⟩ := fst_nil v.k1 (fun s hs => by rcases hl s hs with h | h <;> omega) hh
      obtain ⟨g1, g2⟩ := h5 s hs
      simp only [Bool.and_eq_true, decide_eq_true_eq, neC, Bool.not_eq_true', decide_eq_false_iff_not]
      exact ⟨g1, (nul_iff h (by rcases hl s hs with h | h <;> omega)).2 g2⟩
  cases e : empF g l with
  | true => rw [decide_eq_true (key.1 e)]
  | false => rw [decide_eq_false fun h => by rw [key.2 h] at e; cases e]
set_option maxHeartbeats 1000000 in
theorem reachEmptyK {g : Gram} (h : checkF g = 0) (hf : Fits g) {l : List Nat} (hl : GdN g l) : KnownCall Try.prog 41 [encG g, .sl 1 (l.map nI)] (.tup [.d (.bool (empF g l)), .d (.int .i64 0)]) := by
  have c := reachNullK h hf
  have hcl := nulC_len h
  have v := valN h
  have hn8 := v.n8
  have ht8 := v.t8
  have hll : (l.map nI).length = l.length := by simp
  have hbl : ((nulC g).map fun c => DV.bool (neC c)).length = g.names.length := by simp [hcl]
  have htk : (g.tokens.map DV.str).length = g.tokens.length := by simp
  have hl100 := hl.1
  refine kF Try.func41 [2] fun w => ?_
  repeat' (first
    | refine zW ?_
    | refine zB ?_ ?_ <;> intro h <;> try exact zk h
    | refine zC (c) ?_
    | ((exfalso; simp at h; done))
    | fail)
  refine Run.loopT (fun i : Nat => ⟨PT.ofList [(2, .d (.ep [.int .i64 g.k, strs g.tokens, .str g.sep, strs g.names, .int .i64 g.start, .sl 2 (g.prods.map encP)])), (6, .d (.sl 1 ((nulC g).map fun c => DV.bool (neC c)))), (8, .d (.bool (empF g (l.take i)))), (20, .d (.sl 1 (l.map nI))), (21, .d (nI (l.map nI).length)), (22, .d (nI i))], [], []⟩) (fun i => i ≤ l.length) (fun i => l.length - i) 0 (Nat.zero_le _) (ti _ 0) (fun i hi => ?_)
  rcases Nat.lt_or_ge i l.length with hil | hig
  · obtain ⟨s, hs⟩ := get_ok hil
    have hgs := hl.2 s (List.mem_of_getElem? hs)
    have hemp : empF g (l.take (i + 1)) = (empF g (l.take i) && (decide (16 ≤ s) && neC ((nulC g).getD (s - 16) 0))) := by
      unfold empF
      rw [List.take_add_one, hs, List.all_append]
      simp
    have hgood : s < g.tokens.length ∧ s < 16 ∨ 16 ≤ s ∧ s - 16 < g.names.length := by
      simp only [goodS, isTerm, isNonterm, Bool.or_eq_true, Bool.and_eq_true, decide_eq_true_eq] at hgs
      omega
    generalize hbb : empF g (l.take i) = b0
    rw [hbb] at hemp
    have tdy : ∀ (tm : PT AV), tm.get? 2 = some (.d (.ep [.int .i64 g.k, strs g.tokens, .str g.sep, strs g.names, .int .i64 g.start, .sl 2 (g.prods.map encP)])) → tm.get? 6 = some (.d (.sl 1 ((nulC g).map fun c => DV.bool (neC c)))) → tm.get? 8 = some (.d (.bool (empF g (l.take (i + 1))))) → tm.get? 20 = some (.d (.sl 1 (l.map nI))) → tm.get? 21 = some (.d (nI (l.map nI).length)) → tm.get? 22 = some (.d (.int .i64 (IntKind.i64.wrap (((i : Nat) : Int) + 1)))) → Tidy 0 ⟨tm, [], []⟩ ⟨PT.ofList [(2, .d (.ep [.int .i64 g.k, strs g.tokens, .str g.sep, strs g.names, .int .i64 g.start, .sl 2 (g.prods.map encP)])), (6, .d (.sl 1 ((nulC g).map fun c => DV.bool (neC c)))), (8, .d (.bool (empF g (l.take (i + 1))))), (20, .d (.sl 1 (l.map nI))), (21, .d (nI (l.map nI).length)), (22, .d (nI (i + 1)))], [], []⟩ := fun tm h1 h2 h3 h4 h5 h6 =>
      tidy_of _ 0 rfl rfl ⟨.inl h1, .inl h2, .inl h3, .inl h4, .inl h5, .inl (inc_get h6 (by omega)), trivial⟩ ⟨rfl, rfl, rfl, rfl, rfl, rfl, trivial⟩ rfl rfl
    repeat refine zS ?_
    refine zV (lt_true (show i < (l.map nI).length by omega)) ?_
    repeat refine zS ?_
    refine zI w (.d (.ep [nI s])) hs ?_
    iterate 2 refine zX ?_
    repeat refine zS ?_
    refine zX ?_
    rcases hgood with ⟨g1, g3⟩ | ⟨g1, g2⟩
    · have hw : AV.d (.int .i64 (IntKind.i64.wrap (((s : Nat) : Int) - 16))) = .d (.int .i64 ((s : Int) - 16)) := by
        rw [wrap64 (by omega) (by omega)]
      refine zV hw ?_
      refine zX ?_
      repeat refine zS ?_
      refine zX ?_
      refine zV (show AV.d (.bool (decide ((s : Int) - 16 ≥ 0))) = .d (.bool false) by rw [decide_eq_false (by omega)]) ?_
      repeat' (first
        | refine zW ?_
        | refine zB ?_ ?_ <;> intro h <;> try exact zk h
        | ((exfalso; simp at h'; omega))
        | ((exfalso; simp at h; omega))
        | fail)
      have e : empF g (l.take (i + 1)) = false := by rw [hemp, decide_eq_false (by omega)]; simp
      exact ⟨i + 1, hil, by omega, tdy _ rfl rfl (by rw [e]; rfl) rfl rfl rfl⟩
    · have hw : AV.d (.int .i64 (IntKind.i64.wrap (((s : Nat) : Int) - 16))) = .d (nI (s - 16)) := by
        congr 2; rw [show ((s : Nat) : Int) - 16 = ((s - 16 : Nat) : Int) by omega]; exact wrap_nat (by omega)
      obtain ⟨c, hc⟩ := get_ok (show s - 16 < (nulC g).length by omega)
      have hcd : (nulC g).getD (s - 16) 0 = c := by rw [List.getD_eq_getElem?_getD, hc]; rfl
      rw [hcd, decide_eq_true g1, Bool.true_and] at hemp
      refine zV hw ?_
      refine zX ?_
      repeat refine zS ?_
      refine zX ?_
      refine zV (show AV.d (.bool (decide (((s - 16 : Nat) : Int) ≥ 0))) = .d (.bool true) by rw [decide_eq_true (by omega)]) ?_
      iterate 4 refine zX ?_
      refine zV (lt_true (show s - 16 < ((nulC g).map fun c => DV.bool (neC c)).length by omega)) ?_
      iterate 2 refine zX ?_
      repeat refine zS ?_
      cases b0 with
      | true =>
        rw [Bool.true_and] at hemp
        iterate 4 refine zX ?_
        refine zI w (.d (.ep [.bool (neC c)])) hc ?_
        iterate 3 refine zX ?_
        repeat refine zS ?_
        iterate 2 refine zX ?_
        refine RunOps.nil ?_
        exact ⟨i + 1, hil, by omega, tdy _ rfl rfl (by rw [hemp]; rfl) rfl rfl rfl⟩
      | false =>
        rw [Bool.false_and] at hemp
        repeat' (first
          | refine zW ?_
          | refine zB ?_ ?_ <;> intro h <;> try exact zk h
          | (fail)
          | fail)
        exact ⟨i + 1, hil, by omega, tdy _ rfl rfl (by rw [hemp]; rfl) rfl rfl rfl⟩
  · have hie : i = l.length := by omega
    subst hie
    rw [List.take_length]
    repeat refine zS ?_
    refine zV (lt_false (show (l.map nI).length ≤ l.length by omega)) ?_
    repeat' (first
      | refine zW ?_
      | refine zB ?_ ?_ <;> intro h <;> try exact zk h
      | rfl
      | (fail)
      | fail)
theorem fNullK {g : Gram} (h : checkF g = 0) (hf : Fits g) {l : List Nat} (hl : GdN g l) : KnownCall Try.prog 20 [encG g, .sl 1 (l.map nI)] (.tup [.d (.bool (decide ([] ∈ foN g l))), .d (.int .i64 0)]) := by
  have c := checkFst g hf (l.map fun s : Nat => (s : Int)) (by rw [List.length_map]; have := hl.1; omega)
  rw [chk_good h hl.good (by rw [List.length_map]; exact hl.1), ints_cast] at c
  have e := reachEmptyK h hf hl
  rw [emp_iff h (hl.sy h)] at e
  refine kF Try.func20 [2] fun w => ?_
  repeat' (first
    | refine zW ?_
    | refine zB ?_ ?_ <;> intro h <;> try exact zk h
    | refine zC (c) ?_
    | refine zC (e) ?_
    | rfl
    | ((exfalso; simp at h'; done))
    | fail)
set_option maxHeartbeats 1000000 in
theorem fHasK {g : Gram} (h : checkF g = 0) (hf : Fits g) {l : List Nat} (hl : GdN g l) (x : List Nat) (hx : x.length ≤ 4) (hc : chkL x g.tokens.length = 0) :
    KnownCall Try.prog 22 [encG g, .sl 1 (l.map nI), lk x] (.tup [.d (.bool (decide (x ∈ foN g l))), .d (.int .i64 0)]) := by
  have c := checkFst g hf (l.map fun s : Nat => (s : Int)) (by rw [List.length_map]; have := hl.1; omega)
  rw [chk_good h hl.good (by rw [List.length_map]; exact hl.1), ints_cast] at c
  have hO := ofG h l (hl.sy h) (by have := hl.1; omega)
  have hM := ofO_at g l
  have c2 := checkK x hx g.tokens.length
  rw [hc] at c2
  generalize hofo : ofO g l = Z at hO hM
  generalize hofi : ofI g l = ix at hO hM
  generalize foN g l = A at *
  refine kF Try.func22 [3, 5] fun w => ?_
  repeat refine zS ?_
  iterate 4 refine zX ?_
  repeat refine zS ?_
  iterate 2 refine zX ?_
  refine zC c ?_
  refine zX ?_
  repeat refine zS ?_
  iterate 2 refine zX ?_
  repeat refine zS ?_
  iterate 3 refine zX ?_
  refine zV (show AV.d (.int .i64 (((g.tokens.map DV.str).length : Nat) : Int)) = .d (.int .i64 (g.tokens.length : Int)) by rw [List.length_map]) ?_
  refine zC c2 ?_
  refine zX ?_
  repeat refine zS ?_
  iterate 2 refine zX ?_
  repeat refine zS ?_
  refine Run.drawC (frz := [3, 5]) Et_ok (by kernel_rfl) [] ?_
  refine cX ?_
  refine cAll (setsK h) ?_
  refine cX ?_
  refine cAll hO ?_
  refine cX ?_
  refine cX (v := .d (.bool (decide (x ∈ A)))) ?_ (hv := evAny_hasPm rfl rfl rfl hM rfl hx)
  refine cX ?_
  refine cX ?_
  refine EvC.nil ⟨draw2 (by kernel_rfl), trivial, ?_⟩
  repeat refine zS ?_
  exact zE rfl
end Go.Av
end

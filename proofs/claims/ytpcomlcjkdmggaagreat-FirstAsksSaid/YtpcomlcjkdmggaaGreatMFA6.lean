/-
  Parts of the way to the law, joined. Conditions stand at each.
-/
import Derived.Test.YtpcomlcjkdmggaaGreatMFA4
import Derived.Test.YtpcomlcjkdmggaaGreatMFA5
import Derived.Test.YtpcomlcjkdmggaaGreatMFA3
import Derived.OpenShut
set_option linter.all false
noncomputable section
namespace Go.Av
open Go Go.Proofs
set_option maxRecDepth 10000
theorem sum_prs {k : Nat} {a b : List (List Nat)} (ha : ∀ z ∈ a, z.length ≤ k) (hb : ∀ z ∈ b, z.length ≤ k) : sumS k a b = ascOf (prs k a b) := by
  have cut : ∀ {L : List (List Nat)}, (∀ z ∈ L, z.length ≤ k) → ∀ z, z ∈ cutS k L ↔ z ∈ L := fun {L} hL z => by
    unfold cutS
    rw [mem_asc, mem_prs]
    constructor
    · rintro ⟨u, hu, w, hw, rfl⟩
      simp at hw
      subst hw
      rw [List.append_nil, List.take_of_length_le (hL u hu)]; exact hu
    · intro hz
      exact ⟨z, hz, [], by simp, by rw [List.append_nil, List.take_of_length_le (hL z hz)]⟩
  refine asc_ext (asc_asc _) (asc_asc _) fun x => ?_
  unfold sumS
  rw [mem_asc, mem_asc, mem_prs, mem_prs]
  constructor
  · rintro ⟨u, hu, v, hv, rfl⟩; exact ⟨u, (cut ha u).1 hu, v, (cut hb v).1 hv, rfl⟩
  · rintro ⟨u, hu, v, hv, rfl⟩; exact ⟨u, (cut ha u).2 hu, v, (cut hb v).2 hv, rfl⟩
structure SmS (k n m : Nat) (S : Sets) : Prop where
  rt : ∀ a, ∀ x ∈ S a, Rt x ∧ x.length ≤ k
  lt : ∀ a, InT n (S a)
  asc : ∀ a, Asc (S a)
  len : ∀ a, (S a).length ≤ m
def codeB (b : Nat) (x : List Nat) : Nat := x.foldr (fun d r => (d + 1) + b * r) 0
theorem codeB_lt {b : Nat} : ∀ {x : List Nat}, (∀ d ∈ x, d + 1 < b) → codeB b x < b ^ x.length
  | [], _ => by simp [codeB]
  | d :: x, h => by
    have h1 := codeB_lt (b := b) (x := x) fun d hd => h d (by simp [hd])
    have h2 := h d (by simp)
    show (d + 1) + b * codeB b x < b ^ (x.length + 1)
    rw [Nat.pow_succ, Nat.mul_comm _ b]
    have : b * codeB b x + b ≤ b * b ^ x.length := by
      rw [show b * codeB b x + b = b * (codeB b x + 1) by rw [Nat.mul_add, Nat.mul_one]]
      exact Nat.mul_le_mul_left b h1
    omega
theorem codeB_inj {b : Nat} : ∀ {x y : List Nat}, (∀ d ∈ x, d + 1 < b) → (∀ d ∈ y, d + 1 < b) → codeB b x = codeB b y → x = y
  | [], [], _, _, _ => rfl
  | [], d :: y, _, _, h => by exfalso; change 0 = (d + 1) + b * codeB b y at h; omega
  | d :: x, [], _, _, h => by exfalso; change (d + 1) + b * codeB b x = 0 at h; omega
  | d :: x, e :: y, hx, hy, h => by
    have h1 := hx d (by simp)
    have h2 := hy e (by simp)
    change (d + 1) + b * codeB b x = (e + 1) + b * codeB b y at h
    have h3 : (d + 1 + b * codeB b x) % b = (e + 1 + b * codeB b y) % b := by rw [h]
    rw [Nat.add_mul_mod_self_left, Nat.add_mul_mod_self_left, Nat.mod_eq_of_lt h1, Nat.mod_eq_of_lt h2] at h3
    have h4 : d = e := by omega
    subst h4
    have h5 : b * codeB b x = b * codeB b y := by omega
    rw [codeB_inj (fun d hd => hx d (by simp [hd])) (fun d hd => hy d (by simp [hd])) (Nat.eq_of_mul_eq_mul_left (by omega) h5)]
theorem cardB {k n : Nat} {L : List (List Nat)} (hn : L.Nodup) (h : ∀ x ∈ L, x.length ≤ k ∧ ∀ t ∈ x, t < n) : L.length ≤ (n + 1) ^ k := by
  have h1 := seen_le ((n + 1) ^ k) (L.map (codeB (n + 1))) (by
    rw [List.Nodup, List.pairwise_map]
    exact hn.imp_of_mem fun ha hb hab e => hab (codeB_inj (fun d hd => by have := (h _ ha).2 d hd; omega) (fun d hd => by have := (h _ hb).2 d hd; omega) e)) fun c hc => by
      obtain ⟨x, hx, rfl⟩ := List.mem_map.1 hc
      exact Nat.lt_of_lt_of_le (codeB_lt fun d hd => by have := (h x hx).2 d hd; omega) (Nat.pow_le_pow_right (by omega) (h x hx).1)
  simpa using h1
theorem setOK_sm {k n m : Nat} (hm : m ≤ 4681) {L : List (List Nat)} (hr : ∀ x ∈ L, Rt x ∧ x.length ≤ k) (hl : InT n L) (ha : Asc L) (hc : L.length ≤ m) : SetOK n L := ⟨by omega, fun x hx => (hr x hx).1, hl, ha⟩
def SymT (T n s : Nat) : Prop := s < T ∨ (16 ≤ s ∧ s < 16 + n)
theorem SymT.n {T n s : Nat} (h : SymT T n s) (hT : T ≤ 8) : SymN n s := by rcases h with h | h; exact .inl (by omega); exact .inr h
theorem fst_sm {k T n : Nat} (hk : k ≤ 4) (hT : T ≤ 8) {m : Nat} {S : Sets} (hS : SmS k T m S) {l : List Nat} {B : List (List Nat)} (hB : ∀ x ∈ B, Rt x ∧ x.length ≤ k) (hB2 : InT T B) (hB3 : Asc B) (hl : ∀ s ∈ l, SymT T n s) :
    (∀ x ∈ fstF k S B l, Rt x ∧ x.length ≤ k) ∧ InT T (fstF k S B l) ∧ Asc (fstF k S B l) ∧ (fstF k S B l).length ≤ (T + 1) ^ k := by
  have h1 := fst_rt hk (fun a x hx => (hS.rt a x hx).1) hB (fun s hs => (hl s hs).n hT)
  have h2 := fst_in (k := k) hS.lt hB2 (l := l) fun s hs h8 => by rcases hl s hs with h | h <;> omega
  have h3 := fst_asc (k := k) (S := S) (l := l) hB3
  exact ⟨h1, h2, h3, cardB (asc_nodup h3) fun x hx => ⟨(h1 x hx).2, h2 x hx⟩⟩
def vecS (S : Sets) (n : Nat) : Ob := .vec 35 false 1 n ((List.range n).map fun a => AV.d (lks (S a)))
theorem vecS_refs (S : Sets) (n m : Nat) : [vecS S n].all (refOb m) = true := by
  simp only [vecS, List.all_cons, List.all_nil, refOb, Bool.and_true, List.all_eq_true]
  intro x hx
  obtain ⟨c, _, rfl⟩ := List.mem_map.1 hx; rfl
set_option maxHeartbeats 2000000 in
theorem ofRef {g : Gram} {k T n : Nat} (hgk : g.k = (k : Int)) (hk1 : 1 ≤ k) (hk : k ≤ 4) (hT : g.tokens.length = T) (hT1 : 1 ≤ T) (hT8 : T ≤ 8) (hM : (T + 1) ^ k ≤ 150) (S : Sets) (hS : SmS k T ((T + 1) ^ k) S) (l : List Nat) (hl : ∀ s ∈ l, SymT T n s) (hn : n ≤ 8) (hll : l.length ≤ 1000) :
    ACall Tryz.prog 59 [.d (encG g), .d (.sl 1 (l.map nI)), .vs 0 1 0 n] [vecS S n] (.d (lks (fstF k S [[]] l))) [vecS S n] := by
  have w : Fz [3, 11, 24] := trivial
  have hml : (l.map nI).length = l.length := by simp
  have htk : (g.tokens.map DV.str).length = T := by simp [hT]
  have hM2 : (T + 1) ^ k * (T + 1) ^ k ≤ 150 * 150 := Nat.mul_le_mul hM hM
  have h1M : 1 ≤ (T + 1) ^ k := Nat.one_le_pow _ _ (by omega)
  refine acallG_of_run Et_ok (fnB Tryz.func59 [3, 11, 24]) rfl rfl (Nat.le_refl _) (vecS_refs _ _ _) rfl ?_
  have w : Fz [3, 11, 24] := trivial
  repeat' (first
    | refine zW ?_
    | refine zB ?_ ?_ <;> intro h <;> try exact zk h
    | refine zX ?_
    | ((exfalso; simp at h; done))
    | fail)
  refine Run.loopT (fun i : Nat => ⟨PT.ofList [(1, .d (.sl 1 (l.map nI))), (2, .vs 0 1 0 n), (3, .d (.ep [.int .i64 g.k, strs g.tokens, .str g.sep, strs g.names, .int .i64 g.start, .sl 2 (g.prods.map encP)])), (7, .d (lks (fstF k S [[]] (l.take i)))), (8, .d (nI i))], [vecS S n], []⟩) (fun i => i ≤ l.length) (fun i => l.length - i) 0 (Nat.zero_le _) (tidy_of _ 1 rfl rfl ⟨.inl rfl, .inl rfl, .inl rfl, .inl rfl, .inl rfl, trivial⟩ ⟨rfl, rfl, rfl, rfl, rfl, trivial⟩ (vecS_refs _ _ _) rfl) (fun i hi => ?_)
  rcases Nat.lt_or_ge i l.length with hil | hig
  · obtain ⟨s, hs⟩ := get_ok hil
    have hsy := hl s (List.mem_of_getElem? hs)
    obtain ⟨f1, f2, f3, f4⟩ := fst_sm hk hT8 hS (B := [[]]) emp_rt (fun x hx => by simp at hx; subst hx; simp) emp_asc (l := l.take i) fun s hs => hl s (List.mem_of_mem_take hs)
    have hFs := fstF_succ (k := k) (sets := S) (B := [[]]) hs
    generalize hF : fstF k S [[]] (l.take i) = F at *
    have hsy1 : (∀ x ∈ syF S s, Rt x ∧ x.length ≤ k) ∧ InT T (syF S s) ∧ Asc (syF S s) ∧ (syF S s).length ≤ (T + 1) ^ k := by
      unfold syF
      split
      · rename_i h8
        have hsT : s < T := by rcases hsy with h | h <;> omega
        exact ⟨fun x hx => by simp at hx; subst hx; exact ⟨⟨by simp, by simpa using h8⟩, by simpa using hk1⟩, fun x hx => by simp at hx; subst hx; simpa using hsT, by simp [Asc], by simpa using h1M⟩
      · exact ⟨hS.rt _, hS.lt _, hS.asc _, hS.len _⟩
    obtain ⟨s1, s2, s3, s4⟩ := hsy1
    have cs := sumRef2 hT1 hT8 k hk1 hk F (syF S s) (setOK_sm (m := 150) (by omega) f1 f2 f3 (by omega)) (setOK_sm (m := 150) (by omega) s1 s2 s3 (by omega)) (Nat.le_trans (Nat.mul_le_mul f4 s4) (by omega))
    rw [sum_prs (fun z hz => (f1 z hz).2) (fun z hz => (s1 z hz).2), ← hFs, ← htk, show nI k = DV.int .i64 g.k from congrArg (DV.int .i64) hgk.symm] at cs
    obtain ⟨F', hF'⟩ : ∃ F', F' = fstF k S [[]] (l.take (i + 1)) := ⟨_, rfl⟩
    rw [← hF'] at cs
    have tdy : ∀ tm : PT AV, tm.get? 1 = some (.d (.sl 1 (l.map nI))) → tm.get? 2 = some (.vs 0 1 0 n) → tm.get? 3 = some (.d (.ep [.int .i64 g.k, strs g.tokens, .str g.sep, strs g.names, .int .i64 g.start, .sl 2 (g.prods.map encP)])) → tm.get? 7 = some (.d (lks F')) → tm.get? 8 = some (.d (.int .i64 (IntKind.i64.wrap (((i : Nat) : Int) + 1)))) → Tidy 1 ⟨tm, [vecS S n], []⟩ ⟨PT.ofList [(1, .d (.sl 1 (l.map nI))), (2, .vs 0 1 0 n), (3, .d (.ep [.int .i64 g.k, strs g.tokens, .str g.sep, strs g.names, .int .i64 g.start, .sl 2 (g.prods.map encP)])), (7, .d (lks (fstF k S [[]] (l.take (i + 1))))), (8, .d (nI (i + 1)))], [vecS S n], []⟩ := fun tm h1 h2 h3 h4 h5 => by
      rw [← hF']
      exact tidy_of _ 1 rfl rfl ⟨.inl h1, .inl h2, .inl h3, .inl h4, .inl (inc_get h5 (by omega)), trivial⟩ ⟨rfl, rfl, rfl, rfl, rfl, trivial⟩ (vecS_refs _ _ _) rfl
    by_cases h8 : s < 8
    · rw [syF, if_pos h8] at cs
      repeat' (first
        | refine zW ?_
        | refine zB ?_ ?_ <;> intro h <;> try exact zk h
        | refine zX ?_
        | refine zI w (.d (.ep [nI s])) hs ?_
        | refine zI w (.d (.ep [nI s])) hs ?_
        | refine zC (cs) ?_
        | ((exfalso; simp at h; omega))
        | (exact ⟨i + 1, hil, by omega, tdy _ rfl rfl rfl rfl rfl⟩)
        | fail)
    · rw [syF, if_neg h8] at cs
      have hs16 : 16 ≤ s ∧ s - 16 < n := by rcases hsy with h | h <;> omega
      have hw : AV.d (.int .i64 (IntKind.i64.wrap (((s : Nat) : Int) - 16))) = .d (nI (s - 16)) := by
        congr 2; rw [show ((s : Nat) : Int) - 16 = ((s - 16 : Nat) : Int) by omega]; exact wrap_nat (by omega)
      have hcut : AV.bp 0 (0 + ((s - 16 : Nat) : Int).toNat * 1) = .bp 0 (s - 16) := by rw [Int.toNat_natCast, Nat.zero_add, Nat.mul_one]
      repeat' (first
        | refine zV hw ?_
        | refine zW ?_
        | refine zB ?_ ?_ <;> intro h <;> try exact zk h
        | refine zX ?_
        | refine zI w (.d (.ep [nI s])) hs ?_
        | refine zCut hcut ?_
        | refine oV (v := .d (lks (S (s - 16)))) ?_ (hv := evAny_loadV (c := .d (lks (S (s - 16)))) rfl rfl rfl rfl rfl (by simp [hs16.2]))
        | refine zC (cs) ?_
        | ((exfalso; simp at h; omega))
        | (exact ⟨i + 1, hil, by omega, tdy _ rfl rfl rfl rfl rfl⟩)
        | fail)
  · have hie : i = l.length := by omega
    subst hie
    rw [List.take_length]
    repeat' (first
      | refine zW ?_
      | refine zB ?_ ?_ <;> intro h <;> try exact zk h
      | refine zX ?_
      | ((exfalso; simp at h; omega))
      | fail)
    refine Run.ret ?_
    exact ⟨trivial, _, _, rfl, rfl, .refl, wk_refl _⟩
def cM : Nat := 9223372036854775807
def sumC (a b : Nat) : Nat := if a = cM ∨ b = cM ∨ cM - b < a then cM else a + b
theorem sumC_le {a b : Nat} (hb : b ≤ cM) : sumC a b ≤ cM := by unfold sumC; split <;> omega
theorem sumK (a b : Nat) (ha : a ≤ cM) (hb : b ≤ cM) : KnownCall Tryz.prog 120 [nI a, nI b] (.d (nI (sumC a b))) := by
  unfold cM at ha hb
  have hs : AV.d (.int .i64 (IntKind.i64.wrap (9223372036854775807 - ((b : Nat) : Int)))) = .d (nI (9223372036854775807 - b)) := by
    congr 2
    rw [show (9223372036854775807 : Int) - ((b : Nat) : Int) = ((9223372036854775807 - b : Nat) : Int) by omega]
    exact wrap64 (by omega) (by omega)
  by_cases h1 : a = 9223372036854775807
  · have e : sumC a b = cM := by unfold sumC cM; rw [if_pos (.inl h1)]
    rw [e]
    refine kF Tryz.func120 [] fun w => ?_
    repeat' (first
      | refine zW ?_
      | refine zB ?_ ?_ <;> intro h <;> try exact zk h
      | rfl
      | ((exfalso; simp at h; omega))
      | fail)
  · by_cases h2 : b = 9223372036854775807
    · have e : sumC a b = cM := by unfold sumC cM; rw [if_pos (.inr (.inl h2))]
      rw [e]
      refine kF Tryz.func120 [] fun w => ?_
      repeat' (first
        | refine zW ?_
        | refine zB ?_ ?_ <;> intro h <;> try exact zk h
        | rfl
        | ((exfalso; simp at h; omega))
        | fail)
    · by_cases h3 : 9223372036854775807 - b < a
      · have e : sumC a b = cM := by unfold sumC cM; rw [if_pos (.inr (.inr h3))]
        rw [e]
        refine kF Tryz.func120 [] fun w => ?_
        repeat' (first
          | refine zV hs ?_
          | refine zW ?_
          | refine zB ?_ ?_ <;> intro h <;> try exact zk h
          | rfl
          | ((exfalso; simp at h; omega))
          | fail)
      · have e : sumC a b = a + b := by unfold sumC cM; rw [if_neg (by omega)]
        have hp : AV.d (.int .i64 (IntKind.i64.wrap (((a : Nat) : Int) + ((b : Nat) : Int)))) = .d (nI (a + b)) := by
          congr 2
          rw [show ((a : Nat) : Int) + ((b : Nat) : Int) = ((a + b : Nat) : Int) by omega]
          exact wrap64 (by omega) (by omega)
        rw [e]
        refine kF Tryz.func120 [] fun w => ?_
        repeat' (first
          | refine zV hp ?_
          | refine zV hs ?_
          | refine zW ?_
          | refine zB ?_ ?_ <;> intro h <;> try exact zk h
          | rfl
          | ((exfalso; simp at h; omega))
          | fail)
def vecF (T : Nat) (n : Nat) (x z : DV) (i : Nat) : Ob := .vec T false 1 n (List.replicate i (.d x) ++ List.replicate (n - i) (.d z))
theorem repL {n : Nat} {z : DV} : repeatL n ([z].map AV.d) = List.replicate n (.d z) := by
  induction n with
  | zero => rfl
  | succ n ih => rw [List.replicate_succ, ← ih]; rfl
theorem vecF_0 (T n : Nat) (x z : DV) : Ob.vec T false 1 n (List.replicate n (.d z)) = vecF T n x z 0 := by simp [vecF]
theorem vecF_n (T n : Nat) (x z : DV) : vecF T n x z n = Ob.vec T false 1 n (List.replicate n (.d x)) := by simp [vecF]
theorem vecF_s {T n : Nat} {x z : DV} {i : Nat} (h : i < n) : Ob.vec T false 1 n ((List.replicate i (AV.d x) ++ List.replicate (n - i) (AV.d z)).take i ++ [AV.d x] ++ (List.replicate i (AV.d x) ++ List.replicate (n - i) (AV.d z)).drop (i + 1)) = vecF T n x z (i + 1) := by
  unfold vecF
  congr 1
  rw [List.take_left' (by simp), List.drop_append, List.drop_of_length_le (by simp), List.length_replicate, List.drop_replicate, List.replicate_succ']
  simp
  omega
theorem filledI (n : Nat) (hn : n ≤ 1000) (x : DV) (hx : knownA (.d x) = true) (hc : AV.cells (.d x) = [.d x]) : ACall Tryz.prog 118 [.d (nI n), .d x] [] (.vs 0 1 0 n) [.vec 2 false 1 n (List.replicate n (.d x))] := by
  have w : Fz [] := trivial
  refine acallG_of_run Et_ok (fnB Tryz.func118 []) rfl rfl (by simp) ?_ (by simp [refA]) ?_
  · simp [refOb, List.all_eq_true, refA]
  have w : Fz [] := trivial
  repeat refine zS ?_
  refine zX ?_
  repeat refine zS ?_
  refine zX ?_
  refine oV (v := .vs 0 1 0 n) (objs' := [vecF 2 n x (nI 0) 0]) ?_ (hf := by simp [Nat.ble_eq, ty2]; omega) (he := by simp [ty2]) (ho := by rw [← vecF_0]; simp only [Option.getD, Int.toNat_natCast, List.nil_append]; exact congrArg (fun z => [Ob.vec 2 false 1 n z]) repL)
  refine zX ?_
  repeat refine zS ?_
  iterate 3 refine zX ?_
  repeat refine zS ?_
  refine Run.loopT (fun i : Nat => ⟨PT.ofList [(1, .d x), (5, .vs 0 1 0 n), (10, .d (nI n)), (11, .d (nI i))], [vecF 2 n x (nI 0) i], []⟩) (fun i => i ≤ n) (fun i => n - i) 0 (Nat.zero_le _) ?_ (fun i hi => ?_)
  · exact tidy_of _ 1 rfl rfl ⟨.inl rfl, .inl rfl, .inl rfl, .inl rfl, trivial⟩ ⟨rfl, rfl, rfl, rfl, trivial⟩ (by simp [vecF, refOb, List.all_eq_true, refA]) rfl
  · rcases Nat.lt_or_ge i n with hin | hin
    · repeat refine zS ?_
      refine zV (lt_true (show i < n by omega)) ?_
      repeat refine zS ?_
      iterate 2 refine zX ?_
      repeat refine zS ?_
      iterate 3 refine zX ?_
      refine zCut (show AV.bp 0 (0 + ((i : Nat) : Int).toNat * 1) = .bp 0 i by simp) ?_
      refine oV (v := .d .any) (objs' := [vecF 2 n x (nI 0) (i + 1)]) ?_ (hv := evAny_storeV (c := .d x) rfl rfl rfl rfl rfl hx hc rfl (by simp; omega)) (ho := by rw [← vecF_s hin]; rfl)
      repeat refine zS ?_
      iterate 2 refine zX ?_
      refine RunOps.nil ?_
      refine ⟨i + 1, hin, by omega, ?_⟩
      exact tidy_of _ 1 rfl rfl ⟨.inl rfl, .inl rfl, .inl rfl, .inl (inc_get rfl (by omega)), trivial⟩ ⟨rfl, rfl, rfl, rfl, trivial⟩ (by simp [vecF, refOb, List.all_eq_true, refA]) rfl
    · have hie : i = n := by omega
      subst hie
      repeat refine zS ?_
      refine zV (lt_false (show i ≤ i by omega)) ?_
      repeat refine zS ?_
      iterate 2 refine zX ?_
      repeat refine zS ?_
      refine Run.ret ?_
      refine ⟨trivial, _, _, rfl, rfl, .refl, ?_⟩
      rw [vecF_n]
      exact wk_refl _
theorem filledB (n : Nat) (hn : n ≤ 1000) (x : DV) (hx : knownA (.d x) = true) (hc : AV.cells (.d x) = [.d x]) : ACall Tryz.prog 117 [.d (nI n), .d x] [] (.vs 0 1 0 n) [.vec 4 false 1 n (List.replicate n (.d x))] := by
  have w : Fz [] := trivial
  refine acallG_of_run Et_ok (fnB Tryz.func117 []) rfl rfl (by simp) ?_ (by simp [refA]) ?_
  · simp [refOb, List.all_eq_true, refA]
  have w : Fz [] := trivial
  repeat refine zS ?_
  refine zX ?_
  repeat refine zS ?_
  refine zX ?_
  refine oV (v := .vs 0 1 0 n) (objs' := [vecF 4 n x (.bool false) 0]) ?_ (hf := by simp [Nat.ble_eq, ty4]; omega) (he := by simp [ty4]) (ho := by rw [← vecF_0]; simp only [Option.getD, Int.toNat_natCast, List.nil_append]; exact congrArg (fun z => [Ob.vec 4 false 1 n z]) repL)
  refine zX ?_
  repeat refine zS ?_
  iterate 3 refine zX ?_
  repeat refine zS ?_
  refine Run.loopT (fun i : Nat => ⟨PT.ofList [(1, .d x), (5, .vs 0 1 0 n), (10, .d (nI n)), (11, .d (nI i))], [vecF 4 n x (.bool false) i], []⟩) (fun i => i ≤ n) (fun i => n - i) 0 (Nat.zero_le _) ?_ (fun i hi => ?_)
  · exact tidy_of _ 1 rfl rfl ⟨.inl rfl, .inl rfl, .inl rfl, .inl rfl, trivial⟩ ⟨rfl, rfl, rfl, rfl, trivial⟩ (by simp [vecF, refOb, List.all_eq_true, refA]) rfl
  · rcases Nat.lt_or_ge i n with hin | hin
    · repeat refine zS ?_
      refine zV (lt_true (show i < n by omega)) ?_
      repeat refine zS ?_
      iterate 2 refine zX ?_
      repeat refine zS ?_
      iterate 3 refine zX ?_
      refine zCut (show AV.bp 0 (0 + ((i : Nat) : Int).toNat * 1) = .bp 0 i by simp) ?_
      refine oV (v := .d .any) (objs' := [vecF 4 n x (.bool false) (i + 1)]) ?_ (hv := evAny_storeV (c := .d x) rfl rfl rfl rfl rfl hx hc rfl (by simp; omega)) (ho := by rw [← vecF_s hin]; rfl)
      repeat refine zS ?_
      iterate 2 refine zX ?_
      refine RunOps.nil ?_
      refine ⟨i + 1, hin, by omega, ?_⟩
      exact tidy_of _ 1 rfl rfl ⟨.inl rfl, .inl rfl, .inl rfl, .inl (inc_get rfl (by omega)), trivial⟩ ⟨rfl, rfl, rfl, rfl, trivial⟩ (by simp [vecF, refOb, List.all_eq_true, refA]) rfl
    · have hie : i = n := by omega
      subst hie
      repeat refine zS ?_
      refine zV (lt_false (show i ≤ i by omega)) ?_
      repeat refine zS ?_
      iterate 2 refine zX ?_
      repeat refine zS ?_
      refine Run.ret ?_
      refine ⟨trivial, _, _, rfl, rfl, .refl, ?_⟩
      rw [vecF_n]
      exact wk_refl _
def costP (it te : Nat) (cs : List Nat) (r : List Nat) : Nat := r.foldl (fun c s => sumC c (if s < 16 then te else cs.getD (s - 16) 0)) it
theorem costP_succ {it te : Nat} {cs r : List Nat} {i s : Nat} (h : r[i]? = some s) : costP it te cs (r.take (i + 1)) = sumC (costP it te cs (r.take i)) (if s < 16 then te else cs.getD (s - 16) 0) := by
  unfold costP
  rw [List.take_add_one, h, List.foldl_append]; rfl
theorem costP_le {it te : Nat} {cs : List Nat} (hi : it ≤ cM) (ht : te ≤ cM) (hc : ∀ c ∈ cs, c ≤ cM) : ∀ {r : List Nat}, costP it te cs r ≤ cM := by
  intro r
  unfold costP
  induction r generalizing it with
  | nil => exact hi
  | cons s r ih =>
    refine ih (sumC_le ?_)
    split
    · exact ht
    · rw [List.getD_eq_getElem?_getD]
      cases e : cs[s - 16]? with
      | none => exact Nat.zero_le _
      | some c => exact hc c (List.mem_of_getElem? e)
def vecC (cs : List Nat) : Ob := .vec 2 false 1 cs.length (cs.map fun c => AV.d (nI c))
def obC (cs : List Nat) : List Ob := [vecC cs, .box [.vs 0 1 0 cs.length]]
set_option maxHeartbeats 1000000 in
theorem costA (it te : Nat) (hit : it ≤ cM) (hte : te ≤ cM) (cs : List Nat) (hcs : cs.length ≤ 8) (hle : ∀ c ∈ cs, c ≤ cM) (x : DV) (r : List Nat) (hr : ∀ s ∈ r, SymN cs.length s) (hl : r.length ≤ 1000) :
    ACall Tryz.prog 119 [.d (.agg [x, .sl 1 (r.map nI)]), .d (.ep [nI it]), .d (.ep [nI te]), .bp 1 0] (obC cs) (.d (nI (costP it te cs r))) (obC cs) := by
  have w : Fz [4] := trivial
  have hrl : (r.map nI).length = r.length := by simp
  refine acallG_of_run Et_ok (fnB Tryz.func119 [4]) rfl rfl (by simp [obC]) ?_ rfl ?_
  · simp [obC, vecC, refOb, List.all_eq_true, refA]
  have w : Fz [4] := trivial
  repeat refine zS ?_
  iterate 2 refine zX ?_
  repeat refine zS ?_
  iterate 2 refine zX ?_
  repeat refine zS ?_
  iterate 4 refine zX ?_
  repeat refine zS ?_
  refine Run.loopT (fun i : Nat => ⟨PT.ofList [(1, .d (.ep [nI it])), (2, .d (.ep [nI te])), (3, .bp 1 0), (6, .d (nI (costP it te cs (r.take i)))), (11, .d (.sl 1 (r.map nI))), (12, .d (nI (r.map nI).length)), (13, .d (nI i))], obC cs, []⟩) (fun i => i ≤ r.length) (fun i => r.length - i) 0 (Nat.zero_le _) ?_ (fun i hi => ?_)
  · exact tidy_of _ 2 rfl rfl ⟨.inl rfl, .inl rfl, .inl rfl, .inl rfl, .inl rfl, .inl rfl, .inl rfl, trivial⟩ ⟨rfl, rfl, rfl, rfl, rfl, rfl, rfl, trivial⟩ (by simp [obC, vecC, refOb, List.all_eq_true, refA]) rfl
  · have hcl := costP_le (te := te) (cs := cs) hit hte hle (r := r.take i)
    rcases Nat.lt_or_ge i r.length with hil | hig
    · obtain ⟨s, hs⟩ := get_ok hil
      have hsy := hr s (List.mem_of_getElem? hs)
      have hce := costP_succ (it := it) (te := te) (cs := cs) hs
      obtain ⟨c2, hc2⟩ : ∃ c2, c2 = costP it te cs (r.take (i + 1)) := ⟨_, rfl⟩
      rw [← hc2] at hce
      have tdy : ∀ tm : PT AV, tm.get? 1 = some (.d (.ep [nI it])) → tm.get? 2 = some (.d (.ep [nI te])) → tm.get? 3 = some (.bp 1 0) → tm.get? 6 = some (.d (nI c2)) → tm.get? 11 = some (.d (.sl 1 (r.map nI))) → tm.get? 12 = some (.d (nI (r.map nI).length)) → tm.get? 13 = some (.d (.int .i64 (IntKind.i64.wrap (((i : Nat) : Int) + 1)))) → Tidy 2 ⟨tm, obC cs, []⟩ ⟨PT.ofList [(1, .d (.ep [nI it])), (2, .d (.ep [nI te])), (3, .bp 1 0), (6, .d (nI (costP it te cs (r.take (i + 1))))), (11, .d (.sl 1 (r.map nI))), (12, .d (nI (r.map nI).length)), (13, .d (nI (i + 1)))], obC cs, []⟩ := fun tm h1 h2 h3 h4 h5 h6 h7 => by
        rw [← hc2]
        exact tidy_of _ 2 rfl rfl ⟨.inl h1, .inl h2, .inl h3, .inl h4, .inl h5, .inl h6, .inl (inc_get h7 (by omega)), trivial⟩ ⟨rfl, rfl, rfl, rfl, rfl, rfl, rfl, trivial⟩ (by simp [obC, vecC, refOb, List.all_eq_true, refA]) rfl
      repeat refine zS ?_
      refine zV (lt_true (show i < (r.map nI).length by omega)) ?_
      repeat refine zS ?_
      refine zI w (.d (.ep [nI s])) hs ?_
      iterate 2 refine zX ?_
      repeat refine zS ?_
      refine zX ?_
      by_cases h16 : s < 16
      · rw [if_pos h16] at hce
        have hk := sumK (costP it te cs (r.take i)) te hcl hte
        rw [← hce] at hk
        refine zV (lt_true h16) ?_
        repeat refine zS ?_
        iterate 2 refine zX ?_
        refine oC hk ?_
        refine zX ?_
        repeat refine zS ?_
        iterate 2 refine zX ?_
        refine RunOps.nil ?_
        exact ⟨i + 1, hil, by omega, tdy _ rfl rfl rfl rfl rfl rfl rfl⟩
      · rw [if_neg h16] at hce
        have ha : s - 16 < cs.length := by rcases hsy with h | ⟨_, h⟩ <;> omega
        obtain ⟨c, hc⟩ := get_ok ha
        rw [List.getD_eq_getElem?_getD, hc, Option.getD_some] at hce
        have hk := sumK (costP it te cs (r.take i)) c hcl (hle c (List.mem_of_getElem? hc))
        rw [← hce] at hk
        refine zV (lt_false (show 16 ≤ s by omega)) ?_
        repeat refine zS ?_
        iterate 3 refine zX ?_
        refine zV (show AV.d (.int .i64 (IntKind.i64.wrap (((s : Nat) : Int) - 16))) = .d (nI (s - 16)) by congr 2; rw [show ((s : Nat) : Int) - 16 = ((s - 16 : Nat) : Int) by omega]; exact wrap_nat (by omega)) ?_
        refine zCut (show AV.bp 0 (0 + ((s - 16 : Nat) : Int).toNat * 1) = .bp 0 (s - 16) by rw [Int.toNat_natCast, Nat.zero_add, Nat.mul_one]) ?_
        refine oV (v := .d (nI c)) ?_ (hv := evAny_loadV (c := .d (nI c)) rfl rfl rfl rfl rfl (by simp [hc]))
        refine oC hk ?_
        refine zX ?_
        repeat refine zS ?_
        iterate 2 refine zX ?_
        refine RunOps.nil ?_
        exact ⟨i + 1, hil, by omega, tdy _ rfl rfl rfl rfl rfl rfl rfl⟩
    · have hie : i = r.length := by omega
      subst hie
      rw [List.take_length]
      repeat refine zS ?_
      refine zV (lt_false (show (r.map nI).length ≤ r.length by omega)) ?_
      repeat refine zS ?_
      iterate 2 refine zX ?_
      repeat refine zS ?_
      refine Run.ret ?_
      exact ⟨trivial, _, _, rfl, rfl, .refl, wk_refl _⟩
def stepC (it te : Nat) (ps : List (Nat × List Nat)) (cs : List Nat) : Option (List Nat) :=
  match ps.find? fun p => decide (costP it te cs p.2 < cs.getD p.1 0) with
  | none => none
  | some p => some (cs.set p.1 (costP it te cs p.2))
def costsF (it te : Nat) (ps : List (Nat × List Nat)) : Nat → List Nat → List Nat
  | 0, cs => cs
  | f + 1, cs => match stepC it te ps cs with
    | none => cs
    | some cs' => costsF it te ps f cs'
theorem set_sum : ∀ {l : List Nat} {i a : Nat}, i < l.length → (l.set i a).sum + l.getD i 0 = l.sum + a
  | [], i, a, h => by simp at h
  | x :: l, 0, a, _ => by simp; omega
  | x :: l, i + 1, a, h => by
    have := set_sum (l := l) (i := i) (a := a) (by simpa using h)
    simp only [List.set_cons_succ, List.sum_cons, List.getD_cons_succ]; omega
structure CsOK (n : Nat) (cs : List Nat) : Prop where
  len : cs.length = n
  le : ∀ c ∈ cs, c ≤ cM
theorem step_ok {it te n : Nat} (hi : it ≤ cM) (ht : te ≤ cM) {ps : List (Nat × List Nat)} {cs cs' : List Nat} (h : CsOK n cs) (hs : stepC it te ps cs = some cs') : CsOK n cs' ∧ cs'.sum < cs.sum ∧ ∃ p ∈ ps, cs' = cs.set p.1 (costP it te cs p.2) ∧ costP it te cs p.2 < cs.getD p.1 0 := by
  unfold stepC at hs
  split at hs
  · cases hs
  · rename_i p hp
    have h1 := List.find?_some hp
    simp only [decide_eq_true_eq] at h1
    cases hs
    have h2 : p.1 < cs.length := by
      rcases Nat.lt_or_ge p.1 cs.length with h2 | h2
      · exact h2
      · rw [List.getD_eq_getElem?_getD, List.getElem?_eq_none h2, Option.getD_none] at h1; omega
    have h3 := set_sum (a := costP it te cs p.2) h2
    refine ⟨⟨by rw [List.length_set]; exact h.len, fun c hc => ?_⟩, by omega, p, List.mem_of_find?_eq_some hp, rfl, h1⟩
    rcases List.mem_or_eq_of_mem_set hc with h4 | rfl
    · exact h.le c h4
    · exact costP_le hi ht h.le
theorem costs_fuel {it te n : Nat} (hi : it ≤ cM) (ht : te ≤ cM) {ps : List (Nat × List Nat)} : ∀ (f f' : Nat) {cs : List Nat}, CsOK n cs → cs.sum < f → cs.sum < f' → costsF it te ps f cs = costsF it te ps f' cs
  | 0, _, _, _, h, _ => absurd h (Nat.not_lt_zero _)
  | _ + 1, 0, _, _, _, h => absurd h (Nat.not_lt_zero _)
  | f + 1, f' + 1, cs, hc, h1, h2 => by
    simp only [costsF]
    cases hs : stepC it te ps cs with
    | none => rfl
    | some cs' =>
      obtain ⟨g1, g2, _⟩ := step_ok hi ht hc hs
      exact costs_fuel hi ht f f' g1 (by omega) (by omega)
theorem costs_ind {it te n : Nat} (hi : it ≤ cM) (ht : te ≤ cM) {ps : List (Nat × List Nat)} (Q : List Nat → Prop) (hq : ∀ cs cs', CsOK n cs → Q cs → stepC it te ps cs = some cs' → Q cs') : ∀ (f : Nat) {cs : List Nat}, CsOK n cs → cs.sum < f → Q cs → CsOK n (costsF it te ps f cs) ∧ Q (costsF it te ps f cs) ∧ stepC it te ps (costsF it te ps f cs) = none
  | 0, _, _, h, _ => absurd h (Nat.not_lt_zero _)
  | f + 1, cs, hc, h, h0 => by
    simp only [costsF]
    cases hs : stepC it te ps cs with
    | none => exact ⟨hc, h0, hs⟩
    | some cs' =>
      obtain ⟨g1, g2, _⟩ := step_ok hi ht hc hs
      exact costs_ind hi ht Q hq f g1 (by omega) (hq cs cs' hc h0 hs)
def costsN (it te n : Nat) (ps : List (Nat × List Nat)) : List Nat := costsF it te ps ((List.replicate n cM).sum + 1) (List.replicate n cM)
theorem cs0 (n : Nat) : CsOK n (List.replicate n cM) := ⟨by simp, fun c hc => by rw [List.eq_of_mem_replicate hc]; exact Nat.le_refl _⟩
theorem obC_refs (cs : List Nat) (m : Nat) (h : 2 ≤ m) : (obC cs).all (refOb m) = true := by
  simp only [obC, vecC, List.all_cons, List.all_nil, refOb, Bool.and_true, Bool.and_eq_true, List.all_eq_true]
  exact ⟨fun x hx => by obtain ⟨c, _, rfl⟩ := List.mem_map.1 hx; rfl, by simp [refA, Nat.blt_eq]; omega⟩
theorem vecC_rep (n : Nat) : Ob.vec 2 false 1 n (List.replicate n (AV.d (nI cM))) = vecC (List.replicate n cM) := by simp [vecC]
theorem vecC_set {cs : List Nat} {a c : Nat} (h : a < cs.length) : Ob.vec 2 false 1 cs.length ((cs.map fun c => AV.d (nI c)).take a ++ [AV.d (nI c)] ++ (cs.map fun c => AV.d (nI c)).drop (a + 1)) = vecC (cs.set a c) := by
  unfold vecC
  rw [List.length_set, List.set_eq_take_append_cons_drop, if_pos h]
  simp
theorem obC_set {cs : List Nat} {a c : Nat} (h : a < cs.length) : obC (cs.set a c) = [Ob.vec 2 false 1 cs.length ((cs.map fun c => AV.d (nI c)).take a ++ [AV.d (nI c)] ++ (cs.map fun c => AV.d (nI c)).drop (a + 1)), .box [.vs 0 1 0 cs.length]] := by
  rw [vecC_set h, obC, List.length_set]
abbrev fnC (it te : Nat) : AV := .fn (.func 119) [] [.d (.ep [nI it]), .d (.ep [nI te]), .bp 1 0]
abbrev gC (k ga gb gc gd : DV) (ps : List (Nat × List Nat)) : AV := .d (.ep [k, ga, gb, gc, gd, .sl 2 (ps.map encQ)])
theorem fnd_some {ps : List (Nat × List Nat)} {f : Nat × List Nat → Bool} {j : Nat} {p : Nat × List Nat} (h : (ps.take j).find? f = none) (hp : ps[j]? = some p) (hf : f p = true) : ps.find? f = some p := by
  have e : ps = ps.take j ++ p :: ps.drop (j + 1) := by
    obtain ⟨h1, h2⟩ := List.getElem?_eq_some_iff.1 hp
    rw [← h2, ← List.drop_eq_getElem_cons h1, List.take_append_drop]
  rw [e, List.find?_append, h]
  simp [hf]
theorem fnd_none {ps : List (Nat × List Nat)} {f : Nat × List Nat → Bool} {j : Nat} {p : Nat × List Nat} (h : (ps.take j).find? f = none) (hp : ps[j]? = some p) (hf : f p = false) : (ps.take (j + 1)).find? f = none := by
  rw [List.take_add_one, hp, List.find?_append, h]
  simp [hf]
section
variable {E : PT Ty} {rd : Operand → AV} {objs : List Ob} {t : TypeId} {x : Operand} {y : Ty} {i off sz n : Nat} {T : TypeId} {ag : Bool} {cs : List AV} {c : AV}
theorem evOp_loadV (h1 : E.get? t = some y) (ha : isAggT y.desc = false) (hx : rd x = .bp i off) (hi : objs[i]? = some (.vec T ag sz n cs)) (hc : cs[off]? = some c) : evOp E rd objs (.load t x) = some (c, objs, true) := by
  cases cs with
  | nil => simp at hc
  | cons a l => simp only [evOp, loadR, h1, hx, hi, obCells, ha, hc, pureR, if_true]
end
set_option maxHeartbeats 4000000 in
theorem costsA (it te : Nat) (hit : it ≤ cM) (hte : te ≤ cM) (k ga gb gd : DV) (nms : List DV) (n : Nat) (hnl : nms.length = n) (hn : n ≤ 8) (ps : List (Nat × List Nat)) (hps : PrOK n ps) (hpl : ps.length ≤ 1000) :
    ACall Tryz.prog 93 [.d (.agg [k, ga, gb, .sl 1 nms, gd, .sl 2 (ps.map encQ)]), .d (nI it), .d (nI te)] [] (.vs 0 1 0 n) (obC (costsN it te n ps)) := by
  have w : Fz [3, 4, 5] := trivial
  have hend := costs_ind hit hte (ps := ps) (n := n) (te := te) (fun _ => True) (fun _ _ _ _ _ => trivial) ((List.replicate n cM).sum + 1) (cs0 n) (Nat.lt_succ_self _) trivial
  have hpm : (ps.map encQ).length = ps.length := by simp
  refine acallG_of_run Et_ok (fnB Tryz.func93 [3, 4, 5]) rfl rfl (by simp) ?_ (by simp [refA, obC]) ?_
  · exact obC_refs _ _ (Nat.le_refl _)
  have w : Fz [3, 4, 5] := trivial
  have hf := filledI n (by omega) (nI cM) rfl rfl
  repeat refine zS ?_
  iterate 4 refine zX ?_
  repeat refine zS ?_
  refine Run.scope ?_
  repeat refine zS ?_
  iterate 3 refine zX ?_
  subst hnl
  refine oA hf ?_
  rw [vecC_rep]
  iterate 2 refine zX ?_
  repeat refine zS ?_
  iterate 2 refine zX ?_
  repeat refine zS ?_
  refine Run.label ?_
  repeat refine zS ?_
  refine Run.loopT (fun cs : List Nat => ⟨PT.ofList [(3, gC k ga gb (.sl 1 nms) gd ps), (7, .bp 1 0), (8, fnC it te)], obC cs, []⟩) (fun cs => CsOK nms.length cs ∧ costsF it te ps (cs.sum + 1) cs = costsN it te nms.length ps) (fun cs => cs.sum) (List.replicate nms.length cM) ⟨cs0 _, rfl⟩ ?_ (fun cs hcs => ?_)
  · refine tidy_of _ 2 ?_ rfl ⟨.inl rfl, .inl rfl, .inl rfl, trivial⟩ ⟨rfl, rfl, rfl, trivial⟩ (obC_refs _ _ (Nat.le_refl _)) rfl
    have e : obC (List.replicate nms.length cM) = [vecC (List.replicate nms.length cM), .box [.vs 0 1 0 nms.length]] := by simp [obC]
    rw [e]; rfl
  · obtain ⟨hc, he⟩ := hcs
    have hcl := hc.len
    repeat refine zS ?_
    iterate 4 refine zX ?_
    repeat refine zS ?_
    refine Run.loopT (fun j : Nat => ⟨PT.ofList [(3, gC k ga gb (.sl 1 nms) gd ps), (7, .bp 1 0), (8, fnC it te), (18, .d (.sl 2 (ps.map encQ))), (19, .d (nI (ps.map encQ).length)), (20, .d (nI j))], obC cs, []⟩) (fun j => j ≤ ps.length ∧ (ps.take j).find? (fun p => decide (costP it te cs p.2 < cs.getD p.1 0)) = none) (fun j => ps.length - j) 0 ⟨Nat.zero_le _, by simp⟩ ?_ (fun j hj => ?_)
    · exact tidy_of _ 2 rfl rfl ⟨.inl rfl, .inl rfl, .inl rfl, .inl rfl, .inl rfl, .inl rfl, trivial⟩ ⟨rfl, rfl, rfl, rfl, rfl, rfl, trivial⟩ (obC_refs _ _ (Nat.le_refl _)) rfl
    · obtain ⟨hj1, hj2⟩ := hj
      rcases Nat.lt_or_ge j ps.length with hjl | hjg
      · obtain ⟨p, hp⟩ := get_ok hjl
        have hpmem := List.mem_of_getElem? hp
        have hlt := hps.lt p hpmem
        have hpe : (ps.map encQ)[j]? = some (encQ p) := by rw [List.getElem?_map, hp]; rfl
        have hcA := costA it te hit hte cs (by omega) hc.le (nI (16 + p.1)) p.2 (by rw [hcl]; exact hps.sy p hpmem) (hps.len p hpmem)
        obtain ⟨c, hcg⟩ := get_ok (show p.1 < cs.length by omega)
        have hcd : cs.getD p.1 0 = c := by rw [List.getD_eq_getElem?_getD, hcg]; rfl
        repeat refine zS ?_
        refine zV (lt_true (show j < (ps.map encQ).length by omega)) ?_
        repeat refine zS ?_
        refine oIv w (v := .d (.ep [nI (16 + p.1), .sl 1 (p.2.map nI)])) trivial ?_ (he := by simp [gD, cellsD, encQ, hp])
        iterate 2 refine zX ?_
        refine oV ?_ (hv := evAny_store_last)
        refine RunOps.nil ?_
        refine Run.dropLastD (m := 0) (dl := []) (O := obC cs) (ds := [nI (16 + p.1), .sl 1 (p.2.map nI)]) [(3, gC k ga gb (.sl 1 nms) gd ps), (7, .bp 1 0), (8, fnC it te), (18, .d (.sl 2 (ps.map encQ))), (19, .d (nI (ps.map encQ).length)), (20, .d (nI j)), (10, .d (.ep [nI (16 + p.1), .sl 1 (p.2.map nI)]))] ?_ (Nat.zero_le _) (obC_refs _ _ (Nat.le_refl _)) rfl (ofList_cases (by intro q hq; simp only [List.mem_cons, List.not_mem_nil, or_false] at hq; rcases hq with rfl | rfl | rfl | rfl | rfl | rfl | rfl; exact .inl (by kernel_rfl); exact .inl (by kernel_rfl); exact .inl (by kernel_rfl); exact .inl (by kernel_rfl); exact .inl (by kernel_rfl); exact .inl (by kernel_rfl); exact .inr ⟨0, Nat.zero_le _, by kernel_rfl, rfl⟩)) ⟨rfl, rfl, rfl, rfl, rfl, rfl, rfl, trivial⟩
        repeat refine zS ?_
        iterate 2 refine zX ?_
        refine zV (show AV.d (.int .i64 (IntKind.i64.wrap (((16 + p.1 : Nat) : Int) - 16))) = .d (nI p.1) by congr 2; rw [show ((16 + p.1 : Nat) : Int) - 16 = ((p.1 : Nat) : Int) by omega]; exact wrap_nat (by omega)) ?_
        refine zX ?_
        repeat refine zS ?_
        refine Run.drawC (frz := [3, 4, 5]) Et_ok (by kernel_rfl) [(3, 2), (6, 2)] ?_
        refine cX ?_
        refine cX ?_
        refine cAll hcA ?_
        refine cX ?_
        refine cX ?_
        refine cX (v := .bp 0 p.1) ?_ (hf := by simp [inB]; omega) (he := show AV.bp 0 (0 + ((p.1 : Nat) : Int).toNat * 1) = .bp 0 p.1 by rw [Int.toNat_natCast, Nat.zero_add, Nat.mul_one])
        refine cX (v := .d (nI c)) ?_ (hv := evAny_loadV (c := .d (nI c)) rfl rfl rfl rfl rfl (by simp [hcg]))
        by_cases hlc : costP it te cs p.2 < c
        · refine cX (v := .d (.bool true)) ?_ (he := lt_true hlc)
          refine EvC.nil ⟨draw2 (by kernel_rfl), ⟨⟨_, _, _, _, _, _, _, rfl, rfl, rfl, rfl, rfl, rfl⟩, ⟨_, _, _, _, _, _, _, rfl, rfl, rfl, rfl, evOp_loadV (c := .d (nI c)) rfl rfl rfl rfl (by simp [hcg]), evOp_loadV (c := .d (nI c)) rfl rfl rfl rfl (by simp [hcg])⟩, trivial⟩, ?_⟩
          repeat refine zS ?_
          refine Run.drawC (frz := [3, 4, 5]) Et_ok (by kernel_rfl) [(0, 4)] ?_
          refine cX ?_
          refine cX ?_
          refine cX ?_
          refine cX ?_
          refine cAll hcA ?_
          refine cX (v := .bp 0 p.1) ?_ (hf := by simp [inB]; omega) (he := show AV.bp 0 (0 + ((p.1 : Nat) : Int).toNat * 1) = .bp 0 p.1 by rw [Int.toNat_natCast, Nat.zero_add, Nat.mul_one])
          refine cX (v := .d .any) (objs' := obC (cs.set p.1 (costP it te cs p.2))) ?_ (hv := evAny_storeV (c := .d (nI (costP it te cs p.2))) rfl rfl rfl rfl rfl rfl rfl rfl (by simp; omega)) (ho := by rw [obC_set (by omega)]; rfl)
          refine EvC.nil ⟨draw2 (by kernel_rfl), ⟨⟨_, _, _, _, _, _, _, rfl, rfl, rfl, rfl, rfl, rfl⟩, trivial⟩, ?_⟩
          repeat refine zS ?_
          have hst : stepC it te ps cs = some (cs.set p.1 (costP it te cs p.2)) := by
            unfold stepC
            rw [fnd_some hj2 hp (decide_eq_true (by rw [hcd]; exact hlc))]
          obtain ⟨g1, g2, _⟩ := step_ok hit hte hc hst
          refine ⟨cs.set p.1 (costP it te cs p.2), ⟨g1, ?_⟩, g2, ?_⟩
          · rw [← he]
            have e : costsF it te ps (cs.sum + 1) cs = costsF it te ps cs.sum (cs.set p.1 (costP it te cs p.2)) := by simp only [costsF, hst]
            rw [e]
            exact costs_fuel hit hte _ _ g1 (Nat.lt_succ_self _) g2
          · exact tidy_of _ 2 rfl rfl ⟨.inl rfl, .inl rfl, .inl rfl, trivial⟩ ⟨rfl, rfl, rfl, trivial⟩ (obC_refs _ _ (Nat.le_refl _)) rfl
        · refine cX (v := .d (.bool false)) ?_ (he := lt_false (by omega))
          refine EvC.nil ⟨draw2 (by kernel_rfl), ⟨⟨_, _, _, _, _, _, _, rfl, rfl, rfl, rfl, rfl, rfl⟩, ⟨_, _, _, _, _, _, _, rfl, rfl, rfl, rfl, evOp_loadV (c := .d (nI c)) rfl rfl rfl rfl (by simp [hcg]), evOp_loadV (c := .d (nI c)) rfl rfl rfl rfl (by simp [hcg])⟩, trivial⟩, ?_⟩
          repeat refine zS ?_
          iterate 2 refine zX ?_
          refine RunOps.nil ?_
          refine ⟨j + 1, ⟨hjl, fnd_none hj2 hp (decide_eq_false (by rw [hcd]; exact hlc))⟩, by omega, ?_⟩
          exact tidy_of _ 2 rfl rfl ⟨.inl rfl, .inl rfl, .inl rfl, .inl rfl, .inl rfl, .inl (inc_get rfl (by omega)), trivial⟩ ⟨rfl, rfl, rfl, rfl, rfl, rfl, trivial⟩ (obC_refs _ _ (Nat.le_refl _)) rfl
      · have hje : j = ps.length := by omega
        subst hje
        rw [List.take_length] at hj2
        have hst : stepC it te ps cs = none := by unfold stepC; rw [hj2]
        have e : costsN it te nms.length ps = cs := by rw [← he]; simp only [costsF, hst]
        repeat refine zS ?_
        refine zV (lt_false (show (ps.map encQ).length ≤ ps.length by omega)) ?_
        repeat refine zS ?_
        iterate 2 refine zX ?_
        repeat refine zS ?_
        refine Run.ret ?_
        refine ⟨trivial, _, _, rfl, rfl, (by rw [hcl]; exact .refl), ?_⟩
        rw [e]
        exact wk_refl _
theorem Run.vecNil {P : Program} {nt m : Nat} {ro' : Option Nat} {K : Ex → S → Prop} {c : Code} {tm : PT AV} {objs objs' : List Ob} {dl : List Dl} (i : Nat) {T : TypeId} {ag : Bool} {sz n : Nat} {cs cs' : List AV} (h : Run P nt m ro' c ⟨tm, objs', dl⟩ K) (hi : objs[i]? = some (.vec T ag sz n cs)) (he : objs.set i (.vec T ag sz n cs') = objs')
    (hl : cs'.length = cs.length) (hn : ∀ (j : Nat) c c', cs[j]? = some c → cs'[j]? = some c' → c' = c ∨ ∃ x y, c = .d x ∧ c' = .d y ∧ DvN x y) : Run P nt m ro' c ⟨tm, objs, dl⟩ K := by
  subst he
  intro D0 β0 o0 w0 hb0 ro Q a w hro hK hs
  obtain ⟨D, β, h1, h2, h3⟩ := hs
  have hil := (List.getElem?_eq_some_iff.1 hi).1
  obtain ⟨bi, hb⟩ : ∃ bi, β[i]? = some bi := ⟨β[i]'(by rw [h1.heap.len]; exact hil), by simp [h1.heap.len, hil]⟩
  obtain ⟨a', cap, g1, g2, g3, g4, g5, g6⟩ := h1.heap.hold i _ _ hb hi
  have st := Step.retell h1.heap (ob' := .vec T ag sz n cs') hb hi (fun b hb => hb) ⟨a', cap, g1, g2, g3, by rw [hl]; exact g4, g5, fun ad e => by
    obtain ⟨k1, vs, U, k2, k3, k4, k5, k6⟩ := g6 ad e
    refine ⟨k1, vs, U, k2, k3, fun j c v hc hv => ?_, k5, k6⟩
    have hj : j < cs.length := by rw [← hl]; exact (List.getElem?_eq_some_iff.1 hc).1
    obtain ⟨c0, hc0⟩ := get_ok hj
    have hr := k4 j c0 v hc0 hv
    rcases hn j c0 c hc0 hc with rfl | ⟨x, y, rfl, rfl, hxy⟩
    · exact hr
    · cases hr with
      | d k => exact .d (hxy.rep k)⟩
  exact h D0 β0 o0 w0 hb0 ro Q a w hro hK ⟨D, β, h1.trans st, h2.mono st.dsub st.bext, h3.mono st.dsub st.bext⟩
theorem sm_emp {k n m : Nat} : SmS k n m (fun _ => []) := ⟨fun a x hx => (nomatch hx), fun a x hx => (nomatch hx), fun a => List.Pairwise.nil, fun a => Nat.zero_le _⟩
structure PrT (T n : Nat) (ps : List (Nat × List Nat)) : Prop where
  lt : ∀ p ∈ ps, p.1 < n
  len : ∀ p ∈ ps, p.2.length ≤ 1000
  sy : ∀ p ∈ ps, ∀ s ∈ p.2, SymT T n s
theorem smS_step {k T n : Nat} (hk : k ≤ 4) (hT : T ≤ 8) {S : Sets} (hS : SmS k T ((T + 1) ^ k) S) {p : Nat × List Nat} (hp : ∀ s ∈ p.2, SymT T n s) : SmS k T ((T + 1) ^ k) (stepS k S p) := by
  obtain ⟨f1, f2, f3, _⟩ := fst_sm hk hT hS (B := [[]]) emp_rt (fun x hx => by simp at hx; subst hx; simp) emp_asc hp
  have key : ∀ x ∈ ascOf (S p.1 ++ fstF k S [[]] p.2), (Rt x ∧ x.length ≤ k) ∧ ∀ t ∈ x, t < T := fun x hx => by
    rcases List.mem_append.1 (mem_asc.1 hx) with h | h
    · exact ⟨hS.rt _ x h, hS.lt _ x h⟩
    · exact ⟨f1 x h, f2 x h⟩
  refine ⟨fun a x hx => ?_, fun a x hx => ?_, fun a => ?_, fun a => ?_⟩
  · unfold stepS updT at hx
    split at hx
    · exact (key x hx).1
    · exact hS.rt a x hx
  · unfold stepS updT at hx
    split at hx
    · exact (key x hx).2
    · exact hS.lt a x hx
  · unfold stepS updT
    split
    · exact asc_asc _
    · exact hS.asc a
  · unfold stepS updT
    split
    · exact cardB (asc_nodup (asc_asc _)) fun x hx => ⟨(key x hx).1.2, (key x hx).2⟩
    · exact hS.len a
theorem sm_round {k T n : Nat} (hk : k ≤ 4) (hT : T ≤ 8) : ∀ {ps : List (Nat × List Nat)} {S : Sets}, SmS k T ((T + 1) ^ k) S → (∀ p ∈ ps, ∀ s ∈ p.2, SymT T n s) → SmS k T ((T + 1) ^ k) (roundS k ps S)
  | [], _, h, _ => h
  | p :: ps, S, h, hp => sm_round hk hT (ps := ps) (S := stepS k S p) (smS_step hk hT h (hp p (by simp))) fun q hq => hp q (by simp [hq])
theorem sm_it {k T n : Nat} (hk : k ≤ 4) (hT : T ≤ 8) {ps : List (Nat × List Nat)} (hp : ∀ p ∈ ps, ∀ s ∈ p.2, SymT T n s) : ∀ m, SmS k T ((T + 1) ^ k) (itS k ps m)
  | 0 => sm_emp
  | m + 1 => sm_round hk hT (sm_it hk hT hp m) hp
theorem asc_full2 {A F : List (List Nat)} (hA : Asc A) (h : ¬ A.length < (ascOf (A ++ F)).length) : ascOf (A ++ F) = A :=
  asc_same hA fun z hz => Classical.byContradiction fun hn => h (asc_more hA hz hn)
theorem vecS_set {S : Sets} {n a : Nat} {X : List (List Nat)} (h : a < n) : Ob.vec 35 false 1 n (((List.range n).map fun a => AV.d (lks (S a))).take a ++ [AV.d (lks X)] ++ ((List.range n).map fun a => AV.d (lks (S a))).drop (a + 1)) = vecS (updT S a X) n := by
  unfold vecS
  congr 1
  refine List.ext_getElem? fun j => ?_
  have hl : (((List.range n).map fun a => AV.d (lks (S a))).take a).length = a := by simp; omega
  rcases Nat.lt_trichotomy j a with h1 | h1 | h1
  · rw [List.append_assoc, List.getElem?_append_left (by omega), List.getElem?_take_of_lt h1]
    simp [show j < n by omega, updT, show j ≠ a by omega]
  · subst h1
    rw [List.append_assoc, List.getElem?_append_right (by omega), hl]
    simp [h, updT]
  · rw [List.append_assoc, List.getElem?_append_right (by omega), hl, List.getElem?_append_right (by simp; omega)]
    simp only [List.length_cons, List.length_nil, List.getElem?_drop]
    rw [show a + 1 + (j - a - (0 + 1)) = j by omega]
    simp only [List.getElem?_map]
    by_cases hj : j < n
    · simp [hj, updT, show j ≠ a by omega]
    · simp [hj]
theorem vecS_0 (n : Nat) : ∀ (j : Nat) (c c' : AV), (List.replicate n (AV.d .nilsl))[j]? = some c → ((List.range n).map fun _ => AV.d (lks []))[j]? = some c' → c' = c ∨ ∃ x y, c = .d x ∧ c' = .d y ∧ DvN x y := fun j c c' h1 h2 => by
  have e1 := List.eq_of_mem_replicate (List.mem_of_getElem? h1)
  obtain ⟨_, _, e2⟩ := List.mem_map.1 (List.mem_of_getElem? h2)
  subst e1 e2
  exact .inr ⟨_, _, rfl, rfl, .nil⟩
theorem gS {α : Type} {l : List α} {a x : α} {i : Nat} (h : l[i]? = some x) : (l ++ [a])[i]? = some x := by rw [List.getElem?_append_left (List.getElem?_eq_some_iff.1 h).1]; exact h
theorem gL {α : Type} {l : List α} {a : α} {i : Nat} (h : l.length = i) : (l ++ [a])[i]? = some a := by subst h; simp
theorem ansMk {E : PT Ty} {ops : Array Oper} {ss : List S} {i j : Nat} {o : Oper} {si sj sk : S} {v : AV} {u1 u2 : List Ob} (e0 : ops[i]? = some o) (e1 : ss[i]? = some si) (e2 : ss[j]? = some sj) (e3 : ss[j + 1]? = some sk) (e4 : evOp E (rd si.tm) sj.objs o.op = some (v, u1, true)) (e5 : evOp E (rd si.tm) sk.objs o.op = some (v, u2, true)) : AnsAt E ops ss (i, j) :=
  ⟨o, si, sj, sk, v, u1, u2, e0, e1, e2, e3, e4, e5⟩
abbrev gE (g : Gram) : AV := .d (.ep [.int .i64 g.k, strs g.tokens, .str g.sep, strs g.names, .int .i64 g.start, .sl 2 (g.prods.map encP)])
set_option maxHeartbeats 4000000 in
theorem setsRef {g : Gram} {k T n : Nat} (hgk : g.k = (k : Int)) (hk1 : 1 ≤ k) (hk : k ≤ 4) (hT : g.tokens.length = T) (hT1 : 1 ≤ T) (hT8 : T ≤ 8) (hM : (T + 1) ^ k ≤ 150) (hN : g.names.length = n) (hn : n ≤ 8) (ps : List (Nat × List Nat)) (henc : g.prods.map encP = ps.map encQ) (hps : PrT T n ps) (hpl : ps.length ≤ 1000) :
    ACall Tryz.prog 31 [.d (encG g)] [] (.vs 0 1 0 n) [vecS (setsF k n ps) n] := by
  have w : Fz [1, 45] := trivial
  have htk : (g.tokens.map DV.str).length = T := by simp [hT]
  have hnk : (g.names.map DV.str).length = n := by simp [hN]
  have hpk : (g.prods.map encP).length = ps.length := by rw [henc]; simp
  have hgl : g.prods.length = ps.length := by have := hpk; rwa [List.length_map] at this
  have hsok := it_sok (k := k) hk (n := n) (ps := ps) fun p hp s hs => (hps.sy p hp s hs).n hT8
  refine acallG_of_run Et_ok (fnB Tryz.func31 [1, 45]) rfl rfl (Nat.zero_le _) (vecS_refs _ _ _) rfl ?_
  have w : Fz [1, 45] := trivial
  repeat refine zS ?_
  iterate 2 refine zX ?_
  repeat refine zS ?_
  iterate 2 refine zX ?_
  refine zV (show AV.d (.int .i64 (((g.names.map DV.str).length : Nat) : Int)) = .d (nI n) by rw [hnk]) ?_
  refine oV (v := .vs 0 1 0 n) (objs' := [.vec 35 false 1 n (List.replicate n (.d .nilsl))]) ?_ (hf := by simp [Nat.ble_eq, ty35]; omega) (he := by simp [ty35]) (ho := by simp only [Option.getD, Int.toNat_natCast, List.nil_append]; exact congrArg (fun z => [Ob.vec 35 false 1 n z]) repL)
  refine zX ?_
  refine RunOps.nil ?_
  refine Run.vecNil 0 (objs' := [vecS (fun _ => []) n]) (T := 35) (ag := false) (sz := 1) (n := n) (cs := List.replicate n (.d .nilsl)) (cs' := (List.range n).map fun _ => AV.d (lks [])) ?_ rfl rfl (by simp) (vecS_0 n)
  repeat refine zS ?_
  refine zX ?_
  repeat refine zS ?_
  refine Run.loopT (fun y : Nat × Bool => ⟨PT.ofList [(1, gE g), (3, .vs 0 1 0 n), (4, .d (.bool y.2))], [vecS (itS k ps y.1) n], []⟩) (fun y => (y.2 = true → y.1 ≤ tot (itS k ps y.1) n) ∧ (y.2 = false → itS k ps y.1 = setsF k n ps)) (fun y => if y.2 then n * 6561 + 2 - y.1 else 0) (0, true) ⟨fun _ => Nat.zero_le _, fun h => by cases h⟩ ?_ (fun ⟨m, ch⟩ ⟨hm1, hm2⟩ => ?_)
  · exact tidy_of _ 1 rfl rfl ⟨.inl rfl, .inl rfl, .inl rfl, trivial⟩ ⟨rfl, rfl, rfl, trivial⟩ (vecS_refs _ _ _) rfl
  simp only at hm1 hm2
  cases ch with
  | false =>
    rw [hm2 rfl]
    repeat refine zS ?_
    refine zX ?_
    repeat refine zS ?_
    iterate 2 refine zX ?_
    refine RunOps.nil ?_
    refine Run.ret ?_
    exact ⟨trivial, _, _, rfl, rfl, .refl, wk_refl _⟩
  | true =>
    have hmt := hm1 rfl
    have hml := tot_le (hsok m) n
    have hSm := sm_it (k := k) hk hT8 hps.sy m
    have hrd : itS k ps (m + 1) = roundS k ps (itS k ps m) := rfl
    generalize hS : itS k ps m = S at hmt hml hSm hrd
    repeat refine zS ?_
    refine zX ?_
    repeat refine zS ?_
    refine zX ?_
    repeat refine zS ?_
    refine zX ?_
    repeat refine zS ?_
    refine Run.loopT (fun y : Nat × Bool => ⟨PT.ofList [(1, gE g), (3, .vs 0 1 0 n), (4, .d (.bool y.2)), (5, .d (nI y.1))], [vecS (roundS k (ps.take y.1) S) n], []⟩)
      (fun y => y.1 ≤ ps.length ∧ (y.2 = true → tot S n < tot (roundS k (ps.take y.1) S) n) ∧ (y.2 = false → roundS k (ps.take y.1) S = S) ∧ tot S n ≤ tot (roundS k (ps.take y.1) S) n ∧ SmS k T ((T + 1) ^ k) (roundS k (ps.take y.1) S)) (fun y => ps.length - y.1) (0, false) ⟨Nat.zero_le _, by simp, fun _ => rfl, Nat.le_refl _, hSm⟩ ?_ (fun ⟨j, gr⟩ ⟨i1, i2, i3, i4, i5⟩ => ?_)
    · exact tidy_of _ 1 rfl rfl ⟨.inl rfl, .inl rfl, .inl rfl, .inl rfl, trivial⟩ ⟨rfl, rfl, rfl, rfl, trivial⟩ (vecS_refs _ _ _) rfl
    simp only at i1 i2 i3 i4 i5
    rcases Nat.lt_or_ge j ps.length with hjl | hjg
    · obtain ⟨p, hp⟩ := get_ok hjl
      have hpm := List.mem_of_getElem? hp
      have hlt := hps.lt p hpm
      have hrn : roundS k (ps.take (j + 1)) S = stepS k (roundS k (ps.take j) S) p := by
        unfold roundS
        rw [List.take_add_one, hp, List.foldl_append]; rfl
      generalize hSj : roundS k (ps.take j) S = Sj at i2 i3 i4 i5 hrn
      have hOf := ofRef (n := n) hgk hk1 hk hT hT1 hT8 hM Sj i5 p.2 (hps.sy p hpm) hn (hps.len p hpm)
      obtain ⟨f1, f2, f3, f4⟩ := fst_sm hk hT8 i5 (B := [[]]) emp_rt (fun x hx => by simp at hx; subst hx; simp) emp_asc (hps.sy p hpm)
      have hst : stepS k Sj p = updT Sj p.1 (ascOf (Sj p.1 ++ fstF k Sj [[]] p.2)) := rfl
      generalize hFF : fstF k Sj [[]] p.2 = F at hOf f1 f2 f3 f4 hst
      have hU := unionRef hT1 hT8 (Sj p.1) F (setOK_sm (m := 150) (by omega) (i5.rt _) (i5.lt _) (i5.asc _) (Nat.le_trans (i5.len _) hM)) (setOK_sm (m := 150) (by omega) f1 f2 f3 (by omega))
      rw [← htk] at hU
      have hpe : (g.prods.map encP)[j]? = some (encQ p) := by rw [henc, List.getElem?_map, hp]; rfl
      have hlen : (Sj p.1).length ≤ (ascOf (Sj p.1 ++ F)).length := nodup_le (asc_nodup (i5.asc p.1)) fun z hz => mem_asc.2 (List.mem_append.2 (.inl hz))
      have htt := tot_upd (S := Sj) (X := ascOf (Sj p.1 ++ F)) hlt
      repeat refine zS ?_
      iterate 4 refine zX ?_
      refine zV (lt_true (show j < (g.prods.map encP).length by omega)) ?_
      repeat refine zS ?_
      iterate 3 refine zX ?_
      refine oIv w (v := .d (.ep [nI (16 + p.1), .sl 1 (p.2.map nI)])) trivial ?_ (he := by simp [gD, cellsD, encQ, hpe])
      iterate 2 refine zX ?_
      refine zV (show AV.d (.int .i64 (IntKind.i64.wrap (((16 + p.1 : Nat) : Int) - 16))) = .d (nI p.1) by congr 2; rw [show ((16 + p.1 : Nat) : Int) - 16 = ((p.1 : Nat) : Int) by omega]; exact wrap_nat (by omega)) ?_
      refine zX ?_
      repeat refine zS ?_
      refine Run.drawC (frz := [1, 45]) Et_ok (by kernel_rfl) [(6, 15)] ?_
      refine cX ?_
      refine cX ?_
      refine cX ?_
      refine cX ?_
      refine cX ?_
      refine cX (v := .bp 0 p.1) ?_ (hf := by simp [inB]; omega) (he := show AV.bp 0 (0 + ((p.1 : Nat) : Int).toNat * 1) = .bp 0 p.1 by rw [Int.toNat_natCast, Nat.zero_add, Nat.mul_one])
      refine cX (v := .d (lks (Sj p.1))) ?_ (hv := evAny_loadV (c := .d (lks (Sj p.1))) rfl rfl rfl rfl rfl (by simp [hlt]))
      refine cX ?_
      refine cX ?_
      refine cX ?_
      refine cX ?_
      refine cX (v := .d (.ep [nI (16 + p.1), .sl 1 (p.2.map nI)])) ?_ (hf := by simp [inB]; omega) (he := by simp [gD, cellsD, encQ, hpe])
      refine cX ?_
      refine cX ?_
      refine cX ?_
      refine cAll hOf ?_
      refine cX ?_
      refine cAll (hU _) ?_
      refine cX ?_
      refine cX ?_
      refine cX ?_
      refine cX ?_
      refine cX ?_
      refine EvC.nil ⟨draw2 (by kernel_rfl), ⟨ansMk rfl (gS (gS (gS (gS (gS (gS (gS (gS (gS (gS (gS (gS (gS (gS (gS (gS (gL rfl))))))))))))))))) (gS (gS (gS (gS (gS (gS (gS (gL rfl)))))))) (gS (gS (gS (gS (gS (gS (gL rfl))))))) (evOp_loadV (c := .d (lks (Sj p.1))) rfl rfl rfl rfl (by simp [hlt])) (evOp_loadV (c := .d (lks (Sj p.1))) rfl rfl rfl rfl (by simp [hlt])), trivial⟩, ?_⟩
      have hX : SmS k T ((T + 1) ^ k) (updT Sj p.1 (ascOf (Sj p.1 ++ F))) := by rw [← hst]; exact smS_step hk hT8 i5 (hps.sy p hpm)
      have hsame := asc_full2 (F := F) (i5.asc p.1)
      clear hU hOf
      generalize ascOf (Sj p.1 ++ F) = X at *
      refine Run.tidy (tidy_of [(1, gE g), (3, .vs 0 1 0 n), (4, .d (.bool gr)), (5, .d (nI j)), (6, .d (nI p.1)), (7, .d (lks X))] 1 rfl rfl ⟨.inl rfl, .inl rfl, .inl rfl, .inl rfl, .inl rfl, .inl rfl, trivial⟩ ⟨rfl, rfl, rfl, rfl, rfl, rfl, trivial⟩ (vecS_refs _ _ _) rfl) ?_
      have hcut : AV.bp 0 (0 + ((p.1 : Nat) : Int).toNat * 1) = .bp 0 p.1 := by rw [Int.toNat_natCast, Nat.zero_add, Nat.mul_one]
      have hXl : (X.map lk).length = X.length := by simp
      have hSl : ((Sj p.1).map lk).length = (Sj p.1).length := by simp
      cases gr with
      | true =>
        have h1 := i2 rfl
        repeat' (first
          | refine zW ?_
          | refine zB ?_ ?_ <;> intro h <;> try exact zk h
          | refine zX ?_
          | refine zCut hcut ?_
          | (fail)
          | fail)
        refine oV (v := .d .any) (objs' := [vecS (updT Sj p.1 X) n]) ?_ (hv := evAny_storeV (c := .d (lks X)) rfl rfl rfl rfl rfl rfl rfl rfl (by simp; omega)) (ho := by rw [← vecS_set hlt]; rfl)
        repeat refine zS ?_
        iterate 3 refine zX ?_
        refine RunOps.nil ?_
        refine ⟨(j + 1, true), ⟨hjl, fun _ => by rw [hrn, hst]; omega, fun h => by (cases h), by rw [hrn, hst]; omega, by rw [hrn, hst]; exact hX⟩, by simp only; omega, ?_⟩
        show Tidy 0 _ ⟨PT.ofList _, [vecS (roundS k (ps.take (j + 1)) S) n], []⟩
        rw [hrn, hst]
        exact tidy_of _ 1 rfl rfl ⟨.inl rfl, .inl rfl, .inl rfl, .inl (inc_get rfl (by omega)), trivial⟩ ⟨rfl, rfl, rfl, rfl, trivial⟩ (vecS_refs _ _ _) rfl
      | false =>
        have h1 := i3 rfl
        by_cases hgt : (Sj p.1).length < X.length
        · repeat' (first
            | refine zW ?_
            | refine zB ?_ ?_ <;> intro h <;> try exact zk h
            | refine zX ?_
            | refine zCut hcut ?_
            | refine oV (v := .d (lks (Sj p.1))) ?_ (hv := evAny_loadV (c := .d (lks (Sj p.1))) rfl rfl rfl rfl rfl (by simp [hlt]))
            | ((exfalso; simp at h; omega))
            | fail)
          refine oV (v := .d .any) (objs' := [vecS (updT Sj p.1 X) n]) ?_ (hv := evAny_storeV (c := .d (lks X)) rfl rfl rfl rfl rfl rfl rfl rfl (by simp; omega)) (ho := by rw [← vecS_set hlt]; rfl)
          repeat refine zS ?_
          iterate 3 refine zX ?_
          refine RunOps.nil ?_
          refine ⟨(j + 1, true), ⟨hjl, fun _ => by rw [hrn, hst]; omega, fun h => by (cases h), by rw [hrn, hst]; omega, by rw [hrn, hst]; exact hX⟩, by simp only; omega, ?_⟩
          show Tidy 0 _ ⟨PT.ofList _, [vecS (roundS k (ps.take (j + 1)) S) n], []⟩
          rw [hrn, hst]
          exact tidy_of _ 1 rfl rfl ⟨.inl rfl, .inl rfl, .inl rfl, .inl (inc_get rfl (by omega)), trivial⟩ ⟨rfl, rfl, rfl, rfl, trivial⟩ (vecS_refs _ _ _) rfl
        · have h2 := hsame hgt
          repeat' (first
            | refine zW ?_
            | refine zB ?_ ?_ <;> intro h <;> try exact zk h
            | refine zX ?_
            | refine zCut hcut ?_
            | refine oV (v := .d (lks (Sj p.1))) ?_ (hv := evAny_loadV (c := .d (lks (Sj p.1))) rfl rfl rfl rfl rfl (by simp [hlt]))
            | ((exfalso; simp at h; omega))
            | fail)
          refine oV (v := .d .any) (objs' := [vecS (updT Sj p.1 X) n]) ?_ (hv := evAny_storeV (c := .d (lks X)) rfl rfl rfl rfl rfl rfl rfl rfl (by simp; omega)) (ho := by rw [← vecS_set hlt]; rfl)
          repeat refine zS ?_
          iterate 3 refine zX ?_
          refine RunOps.nil ?_
          have h3 : updT Sj p.1 X = S := by rw [h2, upd_same]; exact h1
          refine ⟨(j + 1, false), ⟨hjl, fun h => by (cases h), fun _ => by rw [hrn, hst]; exact h3, by rw [hrn, hst]; omega, by rw [hrn, hst]; exact hX⟩, by simp only; omega, ?_⟩
          show Tidy 0 _ ⟨PT.ofList _, [vecS (roundS k (ps.take (j + 1)) S) n], []⟩
          rw [hrn, hst]
          exact tidy_of _ 1 rfl rfl ⟨.inl rfl, .inl rfl, .inl rfl, .inl (inc_get rfl (by omega)), trivial⟩ ⟨rfl, rfl, rfl, rfl, trivial⟩ (vecS_refs _ _ _) rfl
    · have hje : j = ps.length := by omega
      subst hje
      rw [List.take_length, ← hrd] at i2 i3 i4 i5
      have h2 := tot_le (hsok (m + 1)) n
      repeat refine zS ?_
      iterate 4 refine zX ?_
      refine zV (lt_false (show (g.prods.map encP).length ≤ ps.length by omega)) ?_
      repeat refine zS ?_
      refine ⟨(m + 1, gr), ⟨fun h => ?_, fun h => ?_⟩, ?_, ?_⟩
      · have := i2 h; simp only at this ⊢; omega
      · have h1 := i3 h
        simp only
        rw [h1, ← hS]
        exact (sets_of (by rw [h1, hS]) (by omega)).symm
      · cases gr <;> simp <;> omega
      · show Tidy 0 _ ⟨PT.ofList _, [vecS (itS k ps (m + 1)) n], []⟩
        have e : itS k ps (m + 1) = roundS k (ps.take ps.length) S := by rw [List.take_length, ← hrd]
        rw [e]
        exact tidy_of _ 1 rfl rfl ⟨.inl rfl, .inl rfl, .inl rfl, trivial⟩ ⟨rfl, rfl, rfl, trivial⟩ (vecS_refs _ _ _) rfl
section
set_option maxRecDepth 10000
end
def tabL (L : List (List (List Nat))) : Sets := fun a => L.getD a []
def stepL (k : Nat) (L : List (List (List Nat))) (p : Nat × List Nat) : List (List (List Nat)) := L.set p.1 (ascOf (L.getD p.1 [] ++ fstF k (tabL L) [[]] p.2))
theorem tab_set {L : List (List (List Nat))} {a : Nat} (h : a < L.length) (X : List (List Nat)) : updT (tabL L) a X = tabL (L.set a X) := by
  funext c
  unfold updT tabL
  by_cases hc : c = a
  · subst hc; simp [List.getD_eq_getElem?_getD, h]
  · rw [if_neg hc]
    simp only [List.getD_eq_getElem?_getD]
    rw [List.getElem?_set_ne (Ne.symm hc)]
theorem round_tab {k : Nat} : ∀ {ps : List (Nat × List Nat)} {L : List (List (List Nat))}, (∀ p ∈ ps, p.1 < L.length) → roundS k ps (tabL L) = tabL (ps.foldl (stepL k) L)
  | [], _, _ => rfl
  | p :: ps, L, h => by
    show roundS k ps (stepS k (tabL L) p) = tabL (ps.foldl (stepL k) (stepL k L p))
    have e : stepS k (tabL L) p = tabL (stepL k L p) := tab_set (h p (by simp)) _
    rw [e]
    refine round_tab (ps := ps) fun q hq => ?_
    simp only [stepL, List.length_set]
    exact h q (by simp [hq])
def psE : List (Nat × List Nat) := [(0, [0, 16, 1]), (0, []), (1, [16, 17, 0]), (1, [1])]
def exL : List (List (List Nat)) := [[[], [0, 0], [0, 1]], [[0, 0], [0, 1], [1], [1, 0]]]
def itL (k : Nat) (ps : List (Nat × List Nat)) : Nat → List (List (List Nat)) → List (List (List Nat))
  | 0, L => L
  | m + 1, L => ps.foldl (stepL k) (itL k ps m L)
theorem stepL_len {k : Nat} : ∀ {ps : List (Nat × List Nat)} {L : List (List (List Nat))}, (ps.foldl (stepL k) L).length = L.length
  | [], _ => rfl
  | p :: ps, L => by
    show (ps.foldl (stepL k) (stepL k L p)).length = _
    rw [stepL_len (ps := ps)]; simp [stepL]
theorem it_tab {k : Nat} {ps : List (Nat × List Nat)} {L : List (List (List Nat))} (h0 : tabL L = fun _ => []) (h : ∀ p ∈ ps, p.1 < L.length) : ∀ m, itS k ps m = tabL (itL k ps m L) ∧ (itL k ps m L).length = L.length
  | 0 => ⟨h0.symm, rfl⟩
  | m + 1 => by
    obtain ⟨h1, h2⟩ := it_tab h0 h m
    refine ⟨?_, by simp only [itL]; rw [stepL_len, h2]⟩
    show roundS k ps (itS k ps m) = _
    rw [h1, round_tab fun p hp => by rw [h2]; exact h p hp]; rfl
theorem ex4 : itL 2 psE 4 [[], []] = exL := by decide
theorem ex5 : psE.foldl (stepL 2) exL = exL := by decide
theorem setsE : setsF 2 2 psE = tabL exL := by
  have h0 : tabL [[], []] = fun _ => [] := by
    funext a
    match a with
    | 0 | 1 => rfl
    | a + 2 => rfl
  have h := it_tab (k := 2) (ps := psE) h0 (by decide)
  have h4 := (h 4).1
  have h5 := (h 5).1
  rw [ex4] at h4
  rw [show itL 2 psE 5 [[], []] = exL from (by show psE.foldl (stepL 2) (itL 2 psE 4 [[], []]) = exL; rw [ex4, ex5])] at h5
  rw [sets_of (m := 4) (by rw [h5, h4]) (by decide), h4]
def exG : Gram := ⟨2, [[97], [98]], [110, 108], [[83], [84]], 16, [⟨16, [0, 16, 1]⟩, ⟨16, []⟩, ⟨17, [16, 17, 0]⟩, ⟨17, [1]⟩]⟩
theorem name_letters {s : List Nat} (hs : s ≠ []) (hl : s.length ≤ 12) (h : ∀ c ∈ s, letterF (c : Int) = true) (hn : languageF s = false) : nameF s = 0 := by
  have hw : wordF s = 0 := by
    rw [wordF_good hs (fun i ⟨c, h1, h2, _⟩ => by rw [h c (List.mem_of_getElem? h1)] at h2; cases h2), if_neg (by omega)]
  unfold nameF
  rw [if_neg (by rw [hn]; simp), hw]
theorem exV : checkF exG = 0 := by
  have n1 : ∀ s ∈ smalls exG, smallF s = true := by
    intro s hs
    have : s = [97] ∨ s = [98] ∨ s = [110, 108] := by simpa [smalls, exG] using hs
    rcases this with rfl | rfl | rfl <;>
    · simp only [smallF, Bool.and_eq_true, decide_eq_true_eq]
      exact ⟨name_letters (by simp) (by simp) (by decide) (by decide), by decide⟩
  have n2 : ∀ s ∈ exG.names, capitalF s = true := by
    intro s hs
    have : s = [83] ∨ s = [84] := by simpa [exG] using hs
    rcases this with rfl | rfl <;>
    · simp only [capitalF, Bool.and_eq_true, decide_eq_true_eq]
      exact ⟨name_letters (by simp) (by simp) (by decide) (by decide), by decide⟩
  have hm : manyF exG = 0 := by
    unfold manyF
    rw [if_neg]
    rintro (h | h | h | ⟨p, hp, h⟩)
    · simp [exG] at h
    · simp [exG] at h
    · simp [exG] at h
    · simp only [exG, List.mem_cons, List.not_mem_nil, or_false] at hp
      rcases hp with rfl | rfl | rfl | rfl <;> simp at h
  have hn : namedF exG = 0 := by
    unfold namedF
    rw [if_neg]
    rintro (⟨s, hs, h⟩ | ⟨s, hs, h⟩)
    · rw [n1 s hs] at h; cases h
    · rw [n2 s hs] at h; cases h
  have hns : namesF exG = 0 := by
    unfold namesF
    rw [if_neg, hn]
    rintro ⟨_, h | h⟩
    · exact h (by decide)
    · exact h (by decide)
  have hs : symbolsF exG = 0 := by
    unfold symbolsF
    rw [if_pos, if_neg, if_neg]
    · rintro ⟨i, hi, h⟩
      have : i = 0 ∨ i = 1 := by simp [exG] at hi; omega
      rcases this with rfl | rfl
      · have : prodsF exG (16 + (0 : Nat)) = [0, 1] := by decide
        rw [this] at h; cases h
      · have : prodsF exG (16 + (1 : Nat)) = [2, 3] := by decide
        rw [this] at h; cases h
    · rintro ⟨i, p, q, hp, hq, hlt⟩
      match i, hp, hq with
      | 0, hp, hq | 1, hp, hq | 2, hp, hq => simp [exG] at hp hq; subst hp hq; simp at hlt
      | i + 3, hp, hq => simp [exG] at hq
    · refine ⟨by decide, fun p hp => ?_⟩
      simp only [exG, List.mem_cons, List.not_mem_nil, or_false] at hp
      rcases hp with rfl | rfl | rfl | rfl <;> exact ⟨by decide, by decide⟩
  unfold checkF
  rw [if_neg (by simp [exG]), if_neg (by simp [hm]), if_neg (by simp [exG]), if_neg (by simp [hns]), hs]
theorem setsGE : setsG exG = tabL exL := setsE
theorem foE (l : List Nat) : foN exG l = fstF 2 (tabL exL) [[]] l := by unfold foN; rw [setsGE]; rfl
def isBx : List Nat → Nat → List AV
  | _, 0 => [.d (nI 0), .d (nI 0), .d (nI 0), .d (nI 0), .d (nI 0)]
  | a :: _, 1 => [.d (nI 1), .d (nI a), .d (nI 0), .d (nI 0), .d (nI 0)]
  | a :: b :: _, 2 => [.d (nI 2), .d (nI a), .d (nI b), .d (nI 0), .d (nI 0)]
  | _, _ => []
theorem is0 : KnownCall Tryz.prog 23 [.nilsl] (.d (lk [])) := by
  refine kF Tryz.func23 [] fun w => ?_
  repeat' (first
    | refine zW ?_
    | refine zB ?_ ?_ <;> intro h <;> try exact zk h
    | ((exfalso; (simp at h <;> fail)))
    | fail)
  refine Run.loop (fun i : Nat => ⟨PT.ofList [(0, .d .nilsl), (2, .bp 0 0), (3, .bp 1 0), (4, .d (nI i))], [.box (isBx [] 0), .box (isBx [] i)], []⟩) (fun i => i ≤ 0) (fun i => 0 - i) 0 (Nat.le_refl _) (weak_of (by repeat' (first | exact trivial | refine ⟨rfl, ?_⟩))) (fun i hi => ?_)
  obtain rfl : i = 0 := by omega
  repeat' (first
    | refine zW ?_
    | refine zB ?_ ?_ <;> intro h <;> try exact zk h
    | rfl
    | ((exfalso; (simp at h <;> fail)))
    | fail)
theorem is1 (a : Nat) : KnownCall Tryz.prog 23 [.sl 1 [nI a]] (.d (lk [a])) := by
  refine kF Tryz.func23 [] fun w => ?_
  repeat' (first
    | refine zW ?_
    | refine zB ?_ ?_ <;> intro h <;> try exact zk h
    | ((exfalso; (simp at h <;> fail)))
    | fail)
  refine Run.loop (fun i : Nat => ⟨PT.ofList [(0, .d (.sl 1 [nI a])), (2, .bp 0 0), (3, .bp 1 0), (4, .d (nI i))], [.box (isBx [] 0), .box (isBx [a] i)], []⟩) (fun i => i ≤ 1) (fun i => 1 - i) 0 (Nat.zero_le _) (weak_of (by repeat' (first | exact trivial | refine ⟨rfl, ?_⟩))) (fun i hi => ?_)
  have hc : i = 0 ∨ i = 1 := by omega
  rcases hc with rfl | rfl
  · repeat' (first
      | refine zW ?_
      | refine zB ?_ ?_ <;> intro h <;> try exact zk h
      | ((exfalso; (simp at h <;> fail)))
      | (exact ⟨1, by omega, by omega, weak_of (by repeat' (first | exact trivial | refine ⟨rfl, ?_⟩ | refine ⟨(inc_get (k := 0) (by kernel_rfl) (by omega)), ?_⟩))⟩)
      | fail)
  · repeat' (first
      | refine zW ?_
      | refine zB ?_ ?_ <;> intro h <;> try exact zk h
      | rfl
      | ((exfalso; (simp at h <;> fail)))
      | fail)
theorem is2 (a b : Nat) : KnownCall Tryz.prog 23 [.sl 1 [nI a, nI b]] (.d (lk [a, b])) := by
  refine kF Tryz.func23 [] fun w => ?_
  repeat' (first
    | refine zW ?_
    | refine zB ?_ ?_ <;> intro h <;> try exact zk h
    | ((exfalso; (simp at h <;> fail)))
    | fail)
  refine Run.loop (fun i : Nat => ⟨PT.ofList [(0, .d (.sl 1 [nI a, nI b])), (2, .bp 0 0), (3, .bp 1 0), (4, .d (nI i))], [.box (isBx [] 0), .box (isBx [a, b] i)], []⟩) (fun i => i ≤ 2) (fun i => 2 - i) 0 (Nat.zero_le _) (weak_of (by repeat' (first | exact trivial | refine ⟨rfl, ?_⟩))) (fun i hi => ?_)
  have hc : i = 0 ∨ i = 1 ∨ i = 2 := by omega
  rcases hc with rfl | rfl | rfl
  · repeat' (first
      | refine zW ?_
      | refine zB ?_ ?_ <;> intro h <;> try exact zk h
      | ((exfalso; (simp at h <;> fail)))
      | (exact ⟨1, by omega, by omega, weak_of (by repeat' (first | exact trivial | refine ⟨rfl, ?_⟩ | refine ⟨(inc_get (k := 0) (by kernel_rfl) (by omega)), ?_⟩))⟩)
      | fail)
  · repeat' (first
      | refine zW ?_
      | refine zB ?_ ?_ <;> intro h <;> try exact zk h
      | ((exfalso; (simp at h <;> fail)))
      | (exact ⟨2, by omega, by omega, weak_of (by repeat' (first | exact trivial | refine ⟨rfl, ?_⟩ | refine ⟨(inc_get (k := 1) (by kernel_rfl) (by omega)), ?_⟩))⟩)
      | fail)
  · repeat' (first
      | refine zW ?_
      | refine zB ?_ ?_ <;> intro h <;> try exact zk h
      | rfl
      | ((exfalso; (simp at h <;> fail)))
      | fail)
theorem exampleK : KnownCall Tryz.prog 42 [] (.d (encG exG)) := by
  refine known_toN (x := .agg [.int .i64 2, strs [[97], [98]], .str [110, 108], strs [[83], [84]], .int .i64 16, .sl 2 (exG.prods.map encN)]) ?_ (.agg rfl fun j x y hx hy => ?_)
  · refine kF Tryz.func42 [1, 2, 3, 6, 8, 10] fun w => ?_
    repeat' (first
      | refine zW ?_
      | refine zB ?_ ?_ <;> intro h <;> try exact zk h
      | refine zX ?_
      | rfl
      | (fail)
      | fail)
  · match j, hx, hy with
    | 0, hx, hy | 1, hx, hy | 2, hx, hy | 3, hx, hy | 4, hx, hy => simp at hx hy; subst hx hy; exact .refl
    | 5, hx, hy => simp at hx hy; subst hx hy; exact encN_to _
    | j + 6, hx, hy => simp at hx
theorem ex_fits : Fits exG := ⟨by decide, by decide, by decide, by decide, by decide, by decide, by decide⟩
theorem hasE (l : List Int) (hg : ∀ s ∈ l, goodS exG s = true) (hl : l.length ≤ 100) (hc : (foN exG (l.map Int.toNat)).length ≤ 600) (want : List (List Nat)) : KnownCall Tryz.prog 22 [ints l, lks want] (.d (.bool (decide (foN exG (l.map Int.toNat) = want)))) := by
  have c1 := fOfK exV ex_fits hg hl hc
  have c2 := sameLq (foN exG (l.map Int.toNat)) want (fun x hx => (fo_rt exV (syN exV hg).sy x hx).1.len) (by omega)
  have c0 := exampleK
  refine kF Tryz.func22 [] fun w => ?_
  repeat' (first
    | refine zW ?_
    | refine zB ?_ ?_ <;> intro h <;> try exact zk h
    | refine zC (c0) ?_
    | refine zK (c1) ?_ ?_ <;> intro h <;> try exact zk h
    | refine zC (c1) ?_
    | refine zC (c2) ?_
    | rfl
    | ((exfalso; (simp at h <;> fail)))
    | fail)
theorem awakeK : KnownCall Tryz.prog 6 [] (.d (.bool true)) := by
  have h1 := hasE [16] (by decide) (by decide) (by rw [foE]; decide) [[], [0, 0], [0, 1]]
  have h2 := hasE [17] (by decide) (by decide) (by rw [foE]; decide) [[0, 0], [0, 1], [1], [1, 0]]
  rw [foE, decide_eq_true (by decide)] at h1 h2
  have i0 := is0
  have i1 := is2 0 0
  have i2 := is2 0 1
  have i3 := is1 1
  have i4 := is2 1 0
  refine kF Tryz.func6 [1, 3, 5, 7, 10, 11, 13, 15, 17, 19] fun w => ?_
  repeat' (first
    | refine zW ?_
    | refine zB ?_ ?_ <;> intro h <;> try exact zk h
    | refine zX ?_
    | refine zC (i0) ?_
    | refine zC (i1) ?_
    | refine zC (i2) ?_
    | refine zC (h1) ?_
    | refine zC (i1) ?_
    | refine zC (i2) ?_
    | refine zC (i3) ?_
    | refine zC (i4) ?_
    | refine zC (h2) ?_
    | rfl
    | ((exfalso; (simp at h <;> fail)))
    | fail)
section
set_option maxRecDepth 10000
end
theorem ints_cast (l : List Nat) : ints (l.map fun s : Nat => (s : Int)) = .sl 1 (l.map nI) := by simp only [ints, List.map_map]; rfl
theorem nat_cast (l : List Nat) : (l.map fun s : Nat => (s : Int)).map Int.toNat = l := by
  rw [List.map_map]
  exact (List.map_congr_left fun s _ => rfl).trans (List.map_id' l)
structure SmG (g : Gram) : Prop where
  ok : checkF g = 0
  fits : Fits g
  k2 : g.k ≤ 2
def GdN (g : Gram) (l : List Nat) : Prop := l.length ≤ 100 ∧ ∀ s ∈ l, goodS g (s : Int) = true
theorem GdN.good {g : Gram} {l : List Nat} (h : GdN g l) : ∀ s ∈ l.map (fun s : Nat => (s : Int)), goodS g s = true := fun s hs => by
  obtain ⟨t, ht, rfl⟩ := List.mem_map.1 hs
  exact h.2 t ht
theorem GdN.sy {g : Gram} (hv : checkF g = 0) {l : List Nat} (h : GdN g l) : ∀ s ∈ l, SymN g.names.length s := by
  have := (syN hv h.good).sy
  rwa [nat_cast] at this
theorem rt_card2 {L : List (List Nat)} (hn : L.Nodup) (h : ∀ x ∈ L, Rt x ∧ x.length ≤ 2) : L.length ≤ 81 := by
  have h1 := seen_le 81 (L.map codeT) (by
    rw [List.Nodup, List.pairwise_map]
    exact hn.imp_of_mem fun ha hb hab e => hab (codeT_inj (h _ ha).1.lt (h _ hb).1.lt e)) fun c hc => by
      obtain ⟨x, hx, rfl⟩ := List.mem_map.1 hc
      have h2 := codeT_lt (h x hx).1.lt
      have h3 := (h x hx).2
      exact Nat.lt_of_lt_of_le h2 (Nat.pow_le_pow_right (n := 9) (by omega) h3)
  simpa using h1
theorem SmG.kk {g : Gram} (h : SmG g) : kN g ≤ 2 := by have := h.k2; unfold kN; omega
theorem SmG.len {g : Gram} (h : SmG g) {l : List Nat} (hl : GdN g l) : (foN g l).length ≤ 81 :=
  rt_card2 (asc_nodup (fo_asc g l)) fun x hx => ⟨(fo_rt h.ok (hl.sy h.ok) x hx).1, Nat.le_trans (fo_rt h.ok (hl.sy h.ok) x hx).2 h.kk⟩
section
variable {H : Hd} {frz : List Nat} {rd : Operand → AV} {objs : List Ob} {o : Oper} {t : TypeId} {m k : Operand} {i : Nat} {L : List (List Nat)} {x : List Nat}
theorem pmFind_T (hx : x.length ≤ 4) : pmFind (eqKey Et 44) (lk x) (kvT L) = findKV (eqKey Et 44) (lk x) (kvT L) := by
  unfold pmFind
  rw [List.all_eq_true.2 (fun p hp => ?_)]
  obtain ⟨y, _, rfl⟩ := List.mem_map.1 hp
  simp only [eqKeyL x y hx]
  rfl
theorem evAny_hasPm (hop : o.op = .lookup t m k false) (h1 : Et.get? t = some ⟨.map 44 4, 1, 8, [.nilmap]⟩) (hm : rd m = .mp i) (hi : objs[i]? = some (.pm (kvT L))) (hk : rd k = .d (lk x)) (hx : x.length ≤ 4) :
    evAny Et H frz rd objs o = some (.d (.bool (decide (x ∈ L))), none, true) := by
  obtain ⟨dst, op, ty, pos, after, guard⟩ := o
  simp only at hop
  subst hop
  have h3 : Et.get? 4 = some ty4 := rfl
  have hp := pmFind_T (L := L) hx
  by_cases h : x ∈ L
  · obtain ⟨j, h2, _⟩ := findT_at hx h
    rw [h2] at hp
    simp only [evAny, quiet, evOp, lookupR, h1, hk, h3, keyTL x, kvsOf, pmOf, hm, hi, hp, pureR, Option.map_some, decide_eq_true h]
  · rw [findT_none hx h] at hp
    have hz : zeroD ty4 = some (.bool false) := rfl
    simp only [evAny, quiet, evOp, lookupR, h1, hk, h3, keyTL x, kvsOf, pmOf, hm, hi, hp, hz, pureR, Option.map_some, decide_eq_false h]
end
def neC (c : Nat) : Bool := !decide (c = cM)
def vecW (cs : List Nat) (i : Nat) : Ob := .vec 4 false 1 cs.length ((cs.take i).map (fun c => AV.d (.bool (neC c))) ++ List.replicate (cs.length - i) (.d (.bool false)))
theorem vecW_0 (cs : List Nat) : Ob.vec 4 false 1 cs.length (List.replicate cs.length (.d (.bool false))) = vecW cs 0 := by simp [vecW]
theorem vecW_n (cs : List Nat) : vecW cs cs.length = .vec 4 false 1 cs.length (cs.map fun c => AV.d (.bool (neC c))) := by simp [vecW]
theorem vecW_s {cs : List Nat} {i c : Nat} (h : cs[i]? = some c) : Ob.vec 4 false 1 cs.length (((cs.take i).map (fun c => AV.d (.bool (neC c))) ++ List.replicate (cs.length - i) (AV.d (.bool false))).take i ++ [AV.d (.bool (neC c))] ++ ((cs.take i).map (fun c => AV.d (.bool (neC c))) ++ List.replicate (cs.length - i) (AV.d (.bool false))).drop (i + 1)) = vecW cs (i + 1) := by
  have hi := (List.getElem?_eq_some_iff.1 h).1
  have hl : ((cs.take i).map (fun c => AV.d (.bool (neC c)))).length = i := by simp; omega
  unfold vecW
  congr 1
  rw [List.take_left' hl, List.drop_append, List.drop_of_length_le (by omega), hl, List.drop_replicate, List.take_add_one, h]
  simp
  omega
theorem vecW_refs (cs : List Nat) (i m : Nat) : refOb m (vecW cs i) = true := by
  simp only [vecW, refOb, List.all_eq_true]
  intro x hx
  rcases List.mem_append.1 hx with h | h
  · obtain ⟨c, _, rfl⟩ := List.mem_map.1 h; rfl
  · rw [List.eq_of_mem_replicate h]; rfl
theorem obW_refs (cs : List Nat) (i m : Nat) (h : 2 ≤ m) : (obC cs ++ [vecW cs i]).all (refOb m) = true := by
  rw [List.all_append, obC_refs cs m h]
  simp [vecW_refs]
set_option maxHeartbeats 1000000 in
theorem whichA (cs : List Nat) (hcs : cs.length ≤ 1000) :
    ACall Tryz.prog 92 [.vs 0 1 0 cs.length] (obC cs) (.vs 2 1 0 cs.length) (obC cs ++ [vecW cs cs.length]) := by
  have w : Fz [] := trivial
  refine acallG_of_run Et_ok (fnB Tryz.func92 []) rfl rfl (by simp [obC]) ?_ (by simp [refA, obC]) ?_
  · exact obW_refs _ _ _ (by simp [obC])
  have w : Fz [] := trivial
  have hf := filledB cs.length hcs (.bool false) rfl rfl
  have hg := hf.grow [] (Big := obC cs) rfl (Nat.zero_le _) (by simp) trivial rfl rfl
  have hgl : growL (obC cs) [] ([] : List Nat).length [Ob.vec 4 false 1 cs.length (List.replicate cs.length (AV.d (.bool false)))] = obC cs ++ [vecW cs 0] := by
    rw [← vecW_0]
    unfold growL
    simp [putL, reO, reA]
  rw [hgl] at hg
  repeat refine zS ?_
  refine zX ?_
  repeat refine zS ?_
  iterate 2 refine zX ?_
  refine oA hg ?_
  refine zX ?_
  repeat refine zS ?_
  iterate 3 refine zX ?_
  repeat refine zS ?_
  refine Run.loopT (fun i : Nat => ⟨PT.ofList [(3, .vs 2 1 0 cs.length), (9, .vs 0 1 0 cs.length), (10, .d (nI cs.length)), (11, .d (nI i))], obC cs ++ [vecW cs i], []⟩) (fun i => i ≤ cs.length) (fun i => cs.length - i) 0 (Nat.zero_le _) ?_ (fun i hi => ?_)
  · exact tidy_of _ 3 rfl rfl ⟨.inl rfl, .inl rfl, .inl rfl, .inl rfl, trivial⟩ ⟨rfl, rfl, rfl, rfl, trivial⟩ (obW_refs _ _ _ (by omega)) rfl
  · rcases Nat.lt_or_ge i cs.length with hil | hig
    · obtain ⟨c, hc⟩ := get_ok hil
      repeat refine zS ?_
      refine zV (lt_true hil) ?_
      repeat refine zS ?_
      refine zX ?_
      refine zCut (show AV.bp 0 (0 + ((i : Nat) : Int).toNat * 1) = .bp 0 i by rw [Int.toNat_natCast, Nat.zero_add, Nat.mul_one]) ?_
      refine oV (v := .d (nI c)) ?_ (hv := evAny_loadV (c := .d (nI c)) rfl rfl rfl rfl rfl (by simp [hc]))
      iterate 2 refine zX ?_
      repeat refine zS ?_
      iterate 3 refine zX ?_
      have hb : AV.d (.bool (decide (((c : Nat) : Int) ≠ 9223372036854775807))) = .d (.bool (neC c)) := by
        unfold neC cM
        congr 2
        by_cases h : c = 9223372036854775807
        · subst h; rfl
        · rw [decide_eq_true (by omega), decide_eq_false h]; rfl
      refine oV (v := .d (.bool (neC c))) ?_ (he := by
        unfold neC cM
        congr 2
        by_cases h : c = 9223372036854775807
        · subst h; rfl
        · rw [decide_eq_false h]; simp; omega)
      refine zCut (show AV.bp 2 (0 + ((i : Nat) : Int).toNat * 1) = .bp 2 i by rw [Int.toNat_natCast, Nat.zero_add, Nat.mul_one]) ?_
      refine oV (v := .d .any) (objs' := obC cs ++ [vecW cs (i + 1)]) ?_ (hv := evAny_storeV (c := .d (.bool (neC c))) rfl rfl rfl rfl rfl rfl rfl rfl (by simp; omega)) (ho := by rw [← vecW_s hc]; rfl)
      repeat refine zS ?_
      iterate 2 refine zX ?_
      refine RunOps.nil ?_
      exact ⟨i + 1, hil, by omega, tidy_of _ 3 rfl rfl ⟨.inl rfl, .inl rfl, .inl rfl, .inl (inc_get rfl (by omega)), trivial⟩ ⟨rfl, rfl, rfl, rfl, trivial⟩ (obW_refs _ _ _ (by omega)) rfl⟩
    · have hie : i = cs.length := by omega
      subst hie
      repeat refine zS ?_
      refine zV (lt_false (Nat.le_refl _)) ?_
      repeat refine zS ?_
      iterate 2 refine zX ?_
      repeat refine zS ?_
      refine Run.ret ?_
      exact ⟨trivial, _, _, rfl, rfl, .refl, wk_refl _⟩
theorem flat_bools : ∀ cs : List Nat, (flatD (cs.map fun c => DV.bool (neC c))).map AV.d = cs.map fun c => AV.d (.bool (neC c))
  | [] => rfl
  | c :: cs => congrArg (AV.d (.bool (neC c)) :: ·) (flat_bools cs)
def nulC (g : Gram) : List Nat := costsN 1 cM g.names.length (psN g)
theorem nulC_len {g : Gram} (h : checkF g = 0) : (nulC g).length = g.names.length :=
  (costs_ind (by decide) (Nat.le_refl _) (ps := psN g) (n := g.names.length) (fun _ => True) (fun _ _ _ _ _ => trivial) _ (cs0 _) (Nat.lt_succ_self _) trivial).1.len
theorem reachNullK {g : Gram} (h : checkF g = 0) (hf : Fits g) : KnownCall Tryz.prog 64 [encG g] (.tup [.d (.sl 1 ((nulC g).map fun c => .bool (neC c))), .d (.int .i64 0)]) := by
  have c := grCheck g hf
  rw [h] at c
  have v := valN h
  have hcl := nulC_len h
  have hA := costsA 1 cM (by decide) (Nat.le_refl _) (.int .i64 g.k) (strs g.tokens) (.str g.sep) (.int .i64 g.start) (g.names.map .str) g.names.length (by simp) v.n8 (psN g) v.ok (by have := v.len; omega)
  rw [← v.enc] at hA
  change ACall _ _ [.d (encG g), _, _] [] (.vs 0 1 0 g.names.length) (obC (nulC g)) at hA
  rw [← hcl] at hA
  have hW := whichA (nulC g) (by have := v.n8; omega)
  generalize nulC g = cs at *
  refine kF Tryz.func64 [1] fun w => ?_
  repeat refine zS ?_
  iterate 3 refine zX ?_
  repeat refine zS ?_
  refine zX ?_
  refine zC c ?_
  refine zX ?_
  repeat refine zS ?_
  iterate 2 refine zX ?_
  repeat refine zS ?_
  refine zX ?_
  refine oA hA ?_
  refine oA hW ?_
  iterate 2 refine zX ?_
  refine RunOps.nil ?_
  rw [vecW_n]
  refine Run.freezeVec 2 (es := cs.map fun c => .bool (neC c)) (n := cs.length) (sz := 1) (ag := false) (T := 4) (tm' := PT.ofList [(2, .d (.sl 1 (cs.map fun c => .bool (neC c)))), (3, .d (.int .i64 0))]) ?_ ?_ (by simp) (fun e he => by obtain ⟨x, _, rfl⟩ := List.mem_map.1 he; rfl) (ofList_cases (by intro q hq; simp only [List.mem_cons, List.not_mem_nil, or_false] at hq; rcases hq with rfl | rfl; exact .inr ⟨by kernel_rfl, rfl⟩; exact .inl (by kernel_rfl)))
  · repeat refine zS ?_
    exact zE rfl
  · rw [flat_bools]; rfl
theorem sumC_top {b : Nat} : sumC cM b = cM := by unfold sumC; rw [if_pos (.inl rfl)]
theorem sumC_top2 {a : Nat} : sumC a cM = cM := by unfold sumC; rw [if_pos (.inr (.inl rfl))]
theorem costP_top {te : Nat} {cs : List Nat} : ∀ {r : List Nat}, costP cM te cs r = cM
  | [] => rfl
  | s :: r => by
    show costP (sumC cM _) te cs r = cM
    rw [sumC_top]; exact costP_top
theorem costP_fin {cs : List Nat} : ∀ {r : List Nat} {it : Nat}, costP it cM cs r ≠ cM → ∀ s ∈ r, 16 ≤ s ∧ cs.getD (s - 16) 0 ≠ cM
  | [], _, _, s, hs => by cases hs
  | t :: r, it, h, s, hs => by
    change costP (sumC it (if t < 16 then cM else cs.getD (t - 16) 0)) cM cs r ≠ cM at h
    have key : 16 ≤ t ∧ cs.getD (t - 16) 0 ≠ cM := by
      rcases Nat.lt_or_ge t 16 with h1 | h1
      · rw [if_pos h1, sumC_top2, costP_top] at h; exact absurd rfl h
      · refine ⟨h1, fun e => ?_⟩
        rw [if_neg (by omega), e, sumC_top2, costP_top] at h; exact absurd rfl h
    rcases List.mem_cons.1 hs with rfl | hs
    · exact key
    · exact costP_fin h s hs
theorem costP_bd {cs : List Nat} {B : Nat} : ∀ {r : List Nat} {it : Nat}, (∀ s ∈ r, 16 ≤ s ∧ cs.getD (s - 16) 0 ≤ B) → it + r.length * B < cM → costP it cM cs r ≤ it + r.length * B
  | [], _, _, _ => by simp [costP]
  | t :: r, it, h, hb => by
    obtain ⟨h1, h2⟩ := h t (by simp)
    have e : (t :: r).length * B = B + r.length * B := by rw [List.length_cons, Nat.add_mul, Nat.one_mul, Nat.add_comm]
    rw [e] at hb ⊢
    have e2 : sumC it (if t < 16 then cM else cs.getD (t - 16) 0) = it + cs.getD (t - 16) 0 := by
      rw [if_neg (by omega)]
      unfold sumC
      rw [if_neg (by omega)]
    show costP (sumC it (if t < 16 then cM else cs.getD (t - 16) 0)) cM cs r ≤ _
    rw [e2]
    have := costP_bd (r := r) (it := it + cs.getD (t - 16) 0) (fun s hs => h s (by simp [hs])) (by omega)
    omega
def cntF : List Nat → Nat
  | [] => 0
  | c :: l => (if c = cM then 0 else 1) + cntF l
theorem cntF_le : ∀ l : List Nat, cntF l ≤ l.length
  | [] => Nat.le_refl _
  | c :: l => by have := cntF_le l; simp only [cntF, List.length_cons]; split <;> omega
theorem cntF_set : ∀ {l : List Nat} {i a : Nat}, i < l.length → cntF (l.set i a) + (if l.getD i 0 = cM then 0 else 1) = cntF l + (if a = cM then 0 else 1)
  | [], _, _, h => by simp at h
  | c :: l, 0, a, _ => by simp only [List.set_cons_zero, cntF, List.getD_cons_zero]; omega
  | c :: l, i + 1, a, h => by
    have := cntF_set (l := l) (i := i) (a := a) (by simpa using h)
    simp only [List.set_cons_succ, cntF, List.getD_cons_succ]; omega
theorem getDsetN {l : List Nat} {i j a : Nat} (h : i < l.length) : (l.set i a).getD j 0 = if j = i then a else l.getD j 0 := by
  rw [List.getD_eq_getElem?_getD, List.getD_eq_getElem?_getD]
  by_cases e : j = i
  · subst e; rw [List.getElem?_set_self h, if_pos rfl]; rfl
  · rw [List.getElem?_set_ne (Ne.symm e), if_neg e]
def SmC (cs : List Nat) : Prop := ∀ a, cs.getD a 0 ≠ cM → cs.getD a 0 ≤ 7 ^ cntF cs
theorem pow7 {m : Nat} (h : m ≤ 8) : 7 ^ (m + 1) < cM := by
  have : 7 ^ (m + 1) ≤ 7 ^ 9 := Nat.pow_le_pow_right (by omega) (by omega)
  have e : 7 ^ 9 < cM := by decide
  omega
theorem cost_small {cs : List Nat} (hc : SmC cs) (hl : cs.length ≤ 8) {r : List Nat} (hr : r.length ≤ 6) (h : ∀ s ∈ r, 16 ≤ s ∧ cs.getD (s - 16) 0 ≠ cM) : costP 1 cM cs r ≤ 7 ^ (cntF cs + 1) := by
  have h1 := Nat.pow_le_pow_right (n := 7) (by omega) (Nat.zero_le (cntF cs))
  have h2 : r.length * 7 ^ cntF cs ≤ 6 * 7 ^ cntF cs := Nat.mul_le_mul_right _ hr
  have h3 := pow7 (m := cntF cs) (Nat.le_trans (cntF_le cs) hl)
  rw [Nat.pow_succ] at h3 ⊢
  have := costP_bd (cs := cs) (B := 7 ^ cntF cs) (it := 1) (r := r) (fun s hs => ⟨(h s hs).1, hc _ (h s hs).2⟩) (by omega)
  omega
theorem sm_step {n : Nat} (hn : n ≤ 8) {ps : List (Nat × List Nat)} (hp : ∀ p ∈ ps, p.1 < n ∧ p.2.length ≤ 6) {cs cs' : List Nat} (hc : CsOK n cs) (h : SmC cs) (hs : stepC 1 cM ps cs = some cs') : SmC cs' := by
  obtain ⟨g1, _, p, hpm, rfl, hlt⟩ := step_ok (by decide) (Nat.le_refl _) hc hs
  obtain ⟨h1, h2⟩ := hp p hpm
  have hl := hc.len
  have hi : p.1 < cs.length := by omega
  have hv := hc.le cs[p.1] (List.getElem_mem hi)
  have hv2 : cs.getD p.1 0 = cs[p.1] := by rw [List.getD_eq_getElem?_getD, List.getElem?_eq_getElem hi]; rfl
  have hne : costP 1 cM cs p.2 ≠ cM := by omega
  have hct := cntF_set (a := costP 1 cM cs p.2) hi
  rw [if_neg hne] at hct
  intro a ha
  rw [getDsetN hi] at ha ⊢
  have hsm := cost_small h (by omega) h2 (costP_fin hne)
  by_cases e : a = p.1
  · rw [if_pos e]
    by_cases e2 : cs.getD p.1 0 = cM
    · rw [if_pos e2] at hct
      rw [show cntF (cs.set p.1 (costP 1 cM cs p.2)) = cntF cs + 1 by omega]
      exact hsm
    · rw [if_neg e2] at hct
      rw [show cntF (cs.set p.1 (costP 1 cM cs p.2)) = cntF cs by omega]
      have := h _ e2
      omega
  · rw [if_neg e] at ha ⊢
    exact Nat.le_trans (h a ha) (Nat.pow_le_pow_right (by omega) (by split at hct <;> omega))
theorem nil_fst {k : Nat} {S : Sets} : ∀ {r : List Nat} {B : List (List Nat)}, [] ∈ B → (∀ s ∈ r, 16 ≤ s ∧ [] ∈ S (s - 16)) → [] ∈ fstF k S B r
  | [], _, hb, _ => hb
  | s :: r, B, hb, h => by
    refine nil_fst (r := r) (B := ascOf (prs k B (syF S s))) (mem_asc.2 (mem_prs.2 ⟨[], hb, [], ?_, by simp⟩)) fun t ht => h t (by simp [ht])
    obtain ⟨h1, h2⟩ := h s (by simp)
    unfold syF
    rw [if_neg (by omega)]
    exact h2
theorem fst_nil {k : Nat} (hk : 1 ≤ k) {S : Sets} : ∀ {r : List Nat} {B : List (List Nat)}, (∀ s ∈ r, s < 8 ∨ 16 ≤ s) → [] ∈ fstF k S B r → [] ∈ B ∧ ∀ s ∈ r, 16 ≤ s ∧ [] ∈ S (s - 16)
  | [], _, _, h => ⟨h, by simp⟩
  | s :: r, B, hs, h => by
    obtain ⟨h1, h2⟩ := fst_nil hk (r := r) (fun t ht => hs t (by simp [ht])) h
    obtain ⟨x, hx, y, hy, e⟩ := mem_prs.1 (mem_asc.1 h1)
    have e1 : x = [] ∧ y = [] := by
      have : (x ++ y).take k = [] := e.symm
      rcases List.take_eq_nil_iff.1 this with h | h
      · omega
      · exact List.append_eq_nil_iff.1 h
    obtain ⟨rfl, rfl⟩ := e1
    refine ⟨hx, fun t ht => ?_⟩
    rcases List.mem_cons.1 ht with rfl | ht
    · unfold syF at hy
      split at hy
      · simp at hy
      · rename_i h8
        exact ⟨by rcases hs t (by simp) with h | h <;> omega, hy⟩
    · exact h2 t ht
theorem psN_len {g : Gram} (h : checkF g = 0) : ∀ p ∈ psN g, p.1 < g.names.length ∧ p.2.length ≤ 6 := fun p hp => by
  refine ⟨(valN h).ok.lt p hp, ?_⟩
  obtain ⟨q, hq, rfl⟩ := List.mem_map.1 hp
  rw [List.length_map]
  exact (many_zero (check_parts h).1).2.2.2 q hq
theorem nul_iff {g : Gram} (h : checkF g = 0) {a : Nat} (ha : a < g.names.length) : (nulC g).getD a 0 ≠ cM ↔ [] ∈ setsG g a := by
  have v := valN h
  have hpl := psN_len h
  have hclo := sets_clo v.k4 v.ok
  obtain ⟨h1, ⟨h2, h3⟩, h4⟩ := costs_ind (it := 1) (te := cM) (by decide) (Nat.le_refl _) (ps := psN g) (n := g.names.length) (fun cs => (∀ a, a < g.names.length → cs.getD a 0 ≠ cM → [] ∈ setsG g a) ∧ SmC cs) (fun cs cs' hc hq hs => by
    refine ⟨fun a ha hne => ?_, sm_step v.n8 hpl hc hq.2 hs⟩
    obtain ⟨_, _, p, hp, rfl, hlt⟩ := step_ok (by decide) (Nat.le_refl _) hc hs
    have hi : p.1 < cs.length := by have := hc.len; have := (hpl p hp).1; omega
    rw [getDsetN hi] at hne
    split at hne
    · rename_i e
      subst e
      refine hclo p hp [] (nil_fst (by simp) fun s hs => ?_)
      obtain ⟨g1, g2⟩ := costP_fin hne s hs
      refine ⟨g1, hq.1 _ ?_ g2⟩
      rcases v.ok.sy p hp s hs with h | h <;> omega
    · exact hq.1 a ha hne) _ (cs0 _) (Nat.lt_succ_self _) ⟨fun a ha hne => by
      rw [List.getD_eq_getElem?_getD, List.getElem?_eq_getElem (by simpa using ha)] at hne
      simp at hne, fun a hne => by
      rw [List.getD_eq_getElem?_getD] at hne ⊢
      cases e : (List.replicate g.names.length cM)[a]? with
      | none => simp
      | some c =>
        rw [e] at hne
        exact absurd (List.eq_of_mem_replicate (List.mem_of_getElem? e)) hne⟩
  change CsOK _ (nulC g) at h1
  change ∀ a, a < g.names.length → (nulC g).getD a 0 ≠ cM → [] ∈ setsG g a at h2
  change SmC (nulC g) at h3
  change stepC 1 cM (psN g) (nulC g) = none at h4
  refine ⟨h2 a ha, fun hm => ?_⟩
  have hsub : Sub (setsG g) (fun a => (setsG g a).filter fun x => decide (x ≠ [] ∨ (nulC g).getD a 0 ≠ cM)) := sets_least fun p hp x hx => by
    refine List.mem_filter.2 ⟨hclo p hp x (fst_mono (fun a x hx => (List.mem_filter.1 hx).1) (fun _ h => h) x hx), decide_eq_true ?_⟩
    by_cases hx0 : x = []
    · subst hx0
      right
      obtain ⟨_, h5⟩ := fst_nil v.k1 (fun s hs => by rcases v.ok.sy p hp s hs with h | h <;> omega) hx
      have h6 : ∀ s ∈ p.2, 16 ≤ s ∧ (nulC g).getD (s - 16) 0 ≠ cM := fun s hs => by
        obtain ⟨g1, g2⟩ := h5 s hs
        refine ⟨g1, ?_⟩
        have := (List.mem_filter.1 g2).2
        simpa using this
      have h7 := cost_small h3 (by rw [h1.len]; exact v.n8) (hpl p hp).2 h6
      have h8 := pow7 (m := cntF (nulC g)) (Nat.le_trans (cntF_le _) (by rw [h1.len]; exact v.n8))
      have h9 : ¬ costP 1 cM (nulC g) p.2 < (nulC g).getD p.1 0 := fun hlt => by
        unfold stepC at h4
        split at h4
        · rename_i hf
          have := List.find?_eq_none.1 hf p hp
          simp only [decide_eq_true_eq] at this
          exact this hlt
        · cases h4
      omega
    · exact .inl hx0
  have := (List.mem_filter.1 (hsub a [] hm)).2
  simpa using this
def empF (g : Gram) (l : List Nat) : Bool := l.all fun s => decide (16 ≤ s) && neC ((nulC g).getD (s - 16) 0)
theorem emp_iff {g : Gram} (h : checkF g = 0) {l : List Nat} (hl : ∀ s ∈ l, SymN g.names.length s) : empF g l = decide ([] ∈ foN g l) := by
  have v := valN h
  have key : empF g l = true ↔ [] ∈ foN g l := by
    unfold empF foN
    rw [List.all_eq_true]
    constructor
    · intro hh
      refine nil_fst (by simp) fun s hs => ?_
      have h1 := hh s hs
      simp only [Bool.and_eq_true, decide_eq_true_eq, neC, Bool.not_eq_true', decide_eq_false_iff_not] at h1
      refine ⟨h1.1, (nul_iff h ?_).1 h1.2⟩
      rcases hl s hs with h | h <;> omega
    · intro hh s hs
      obtain ⟨_, h5⟩ := fst_nil v.k1 (fun s hs => by rcases hl s hs with h | h <;> omega) hh
      obtain ⟨g1, g2⟩ := h5 s hs
      simp only [Bool.and_eq_true, decide_eq_true_eq, neC, Bool.not_eq_true', decide_eq_false_iff_not]
      exact ⟨g1, (nul_iff h (by rcases hl s hs with h | h <;> omega)).2 g2⟩
  cases e : empF g l with
  | true => rw [decide_eq_true (key.1 e)]
  | false => rw [decide_eq_false fun h => by rw [key.2 h] at e; cases e]
set_option maxHeartbeats 1000000 in
theorem reachEmptyK {g : Gram} (h : checkF g = 0) (hf : Fits g) {l : List Nat} (hl : GdN g l) : KnownCall Tryz.prog 40 [encG g, .sl 1 (l.map nI)] (.tup [.d (.bool (empF g l)), .d (.int .i64 0)]) := by
  have c := reachNullK h hf
  have hcl := nulC_len h
  have v := valN h
  have hn8 := v.n8
  have ht8 := v.t8
  have hll : (l.map nI).length = l.length := by simp
  have hbl : ((nulC g).map fun c => DV.bool (neC c)).length = g.names.length := by simp [hcl]
  have htk : (g.tokens.map DV.str).length = g.tokens.length := by simp
  have hl100 := hl.1
  refine kF Tryz.func40 [2] fun w => ?_
  repeat' (first
    | refine zW ?_
    | refine zB ?_ ?_ <;> intro h <;> try exact zk h
    | refine zC (c) ?_
    | ((exfalso; simp at h; done))
    | fail)
  refine Run.loopT (fun i : Nat => ⟨PT.ofList [(2, .d (.ep [.int .i64 g.k, strs g.tokens, .str g.sep, strs g.names, .int .i64 g.start, .sl 2 (g.prods.map encP)])), (6, .d (.sl 1 ((nulC g).map fun c => DV.bool (neC c)))), (8, .d (.bool (empF g (l.take i)))), (20, .d (.sl 1 (l.map nI))), (21, .d (nI (l.map nI).length)), (22, .d (nI i))], [], []⟩) (fun i => i ≤ l.length) (fun i => l.length - i) 0 (Nat.zero_le _) (ti _ 0) (fun i hi => ?_)
  rcases Nat.lt_or_ge i l.length with hil | hig
  · obtain ⟨s, hs⟩ := get_ok hil
    have hgs := hl.2 s (List.mem_of_getElem? hs)
    have hemp : empF g (l.take (i + 1)) = (empF g (l.take i) && (decide (16 ≤ s) && neC ((nulC g).getD (s - 16) 0))) := by
      unfold empF
      rw [List.take_add_one, hs, List.all_append]
      simp
    have hgood : s < g.tokens.length ∧ s < 16 ∨ 16 ≤ s ∧ s - 16 < g.names.length := by
      simp only [goodS, isTerm, isNonterm, Bool.or_eq_true, Bool.and_eq_true, decide_eq_true_eq] at hgs
      omega
    generalize hbb : empF g (l.take i) = b0
    rw [hbb] at hemp
    have tdy : ∀ (tm : PT AV), tm.get? 2 = some (.d (.ep [.int .i64 g.k, strs g.tokens, .str g.sep, strs g.names, .int .i64 g.start, .sl 2 (g.prods.map encP)])) → tm.get? 6 = some (.d (.sl 1 ((nulC g).map fun c => DV.bool (neC c)))) → tm.get? 8 = some (.d (.bool (empF g (l.take (i + 1))))) → tm.get? 20 = some (.d (.sl 1 (l.map nI))) → tm.get? 21 = some (.d (nI (l.map nI).length)) → tm.get? 22 = some (.d (.int .i64 (IntKind.i64.wrap (((i : Nat) : Int) + 1)))) → Tidy 0 ⟨tm, [], []⟩ ⟨PT.ofList [(2, .d (.ep [.int .i64 g.k, strs g.tokens, .str g.sep, strs g.names, .int .i64 g.start, .sl 2 (g.prods.map encP)])), (6, .d (.sl 1 ((nulC g).map fun c => DV.bool (neC c)))), (8, .d (.bool (empF g (l.take (i + 1))))), (20, .d (.sl 1 (l.map nI))), (21, .d (nI (l.map nI).length)), (22, .d (nI (i + 1)))], [], []⟩ := fun tm h1 h2 h3 h4 h5 h6 =>
      tidy_of _ 0 rfl rfl ⟨.inl h1, .inl h2, .inl h3, .inl h4, .inl h5, .inl (inc_get h6 (by omega)), trivial⟩ ⟨rfl, rfl, rfl, rfl, rfl, rfl, trivial⟩ rfl rfl
    repeat refine zS ?_
    refine zV (lt_true (show i < (l.map nI).length by omega)) ?_
    repeat refine zS ?_
    refine zI w (.d (.ep [nI s])) hs ?_
    iterate 2 refine zX ?_
    repeat refine zS ?_
    refine zX ?_
    rcases hgood with ⟨g1, g3⟩ | ⟨g1, g2⟩
    · have hw : AV.d (.int .i64 (IntKind.i64.wrap (((s : Nat) : Int) - 16))) = .d (.int .i64 ((s : Int) - 16)) := by
        rw [wrap64 (by omega) (by omega)]
      refine zV hw ?_
      refine zX ?_
      repeat refine zS ?_
      refine zX ?_
      refine zV (show AV.d (.bool (decide ((s : Int) - 16 ≥ 0))) = .d (.bool false) by rw [decide_eq_false (by omega)]) ?_
      repeat' (first
        | refine zW ?_
        | refine zB ?_ ?_ <;> intro h <;> try exact zk h
        | ((exfalso; simp at h'; omega))
        | ((exfalso; simp at h; omega))
        | fail)
      have e : empF g (l.take (i + 1)) = false := by rw [hemp, decide_eq_false (by omega)]; simp
      exact ⟨i + 1, hil, by omega, tdy _ rfl rfl (by rw [e]; rfl) rfl rfl rfl⟩
    · have hw : AV.d (.int .i64 (IntKind.i64.wrap (((s : Nat) : Int) - 16))) = .d (nI (s - 16)) := by
        congr 2; rw [show ((s : Nat) : Int) - 16 = ((s - 16 : Nat) : Int) by omega]; exact wrap_nat (by omega)
      obtain ⟨c, hc⟩ := get_ok (show s - 16 < (nulC g).length by omega)
      have hcd : (nulC g).getD (s - 16) 0 = c := by rw [List.getD_eq_getElem?_getD, hc]; rfl
      rw [hcd, decide_eq_true g1, Bool.true_and] at hemp
      refine zV hw ?_
      refine zX ?_
      repeat refine zS ?_
      refine zX ?_
      refine zV (show AV.d (.bool (decide (((s - 16 : Nat) : Int) ≥ 0))) = .d (.bool true) by rw [decide_eq_true (by omega)]) ?_
      iterate 4 refine zX ?_
      refine zV (lt_true (show s - 16 < ((nulC g).map fun c => DV.bool (neC c)).length by omega)) ?_
      iterate 2 refine zX ?_
      repeat refine zS ?_
      cases b0 with
      | true =>
        rw [Bool.true_and] at hemp
        iterate 4 refine zX ?_
        refine zI w (.d (.ep [.bool (neC c)])) hc ?_
        iterate 3 refine zX ?_
        repeat refine zS ?_
        iterate 2 refine zX ?_
        refine RunOps.nil ?_
        exact ⟨i + 1, hil, by omega, tdy _ rfl rfl (by rw [hemp]; rfl) rfl rfl rfl⟩
      | false =>
        rw [Bool.false_and] at hemp
        repeat' (first
          | refine zW ?_
          | refine zB ?_ ?_ <;> intro h <;> try exact zk h
          | (fail)
          | fail)
        exact ⟨i + 1, hil, by omega, tdy _ rfl rfl (by rw [hemp]; rfl) rfl rfl rfl⟩
  · have hie : i = l.length := by omega
    subst hie
    rw [List.take_length]
    repeat refine zS ?_
    refine zV (lt_false (show (l.map nI).length ≤ l.length by omega)) ?_
    repeat' (first
      | refine zW ?_
      | refine zB ?_ ?_ <;> intro h <;> try exact zk h
      | rfl
      | (fail)
      | fail)
theorem fNullK {g : Gram} (h : checkF g = 0) (hf : Fits g) {l : List Nat} (hl : GdN g l) : KnownCall Tryz.prog 19 [encG g, .sl 1 (l.map nI)] (.tup [.d (.bool (decide ([] ∈ foN g l))), .d (.int .i64 0)]) := by
  have c := checkFst g hf (l.map fun s : Nat => (s : Int)) (by rw [List.length_map]; have := hl.1; omega)
  rw [chk_good h hl.good (by rw [List.length_map]; exact hl.1), ints_cast] at c
  have e := reachEmptyK h hf hl
  rw [emp_iff h (hl.sy h)] at e
  refine kF Tryz.func19 [2] fun w => ?_
  repeat' (first
    | refine zW ?_
    | refine zB ?_ ?_ <;> intro h <;> try exact zk h
    | refine zC (c) ?_
    | refine zC (e) ?_
    | rfl
    | ((exfalso; simp at h'; done))
    | fail)
set_option maxHeartbeats 1000000 in
theorem fHasK {g : Gram} (h : checkF g = 0) (hf : Fits g) {l : List Nat} (hl : GdN g l) (x : List Nat) (hx : x.length ≤ 4) (hc : chkL x g.tokens.length = 0) :
    KnownCall Tryz.prog 17 [encG g, .sl 1 (l.map nI), lk x] (.tup [.d (.bool (decide (x ∈ foN g l))), .d (.int .i64 0)]) := by
  have c := checkFst g hf (l.map fun s : Nat => (s : Int)) (by rw [List.length_map]; have := hl.1; omega)
  rw [chk_good h hl.good (by rw [List.length_map]; exact hl.1), ints_cast] at c
  have hO := ofG h l (hl.sy h) (by have := hl.1; omega)
  have hM := ofO_at g l
  have c2 := checkK x hx g.tokens.length
  rw [hc] at c2
  generalize hofo : ofO g l = Z at hO hM
  generalize hofi : ofIx g l = ix at hO hM
  generalize foN g l = A at *
  refine kF Tryz.func17 [3, 5] fun w => ?_
  repeat refine zS ?_
  iterate 4 refine zX ?_
  repeat refine zS ?_
  iterate 2 refine zX ?_
  refine zC c ?_
  refine zX ?_
  repeat refine zS ?_
  iterate 2 refine zX ?_
  repeat refine zS ?_
  iterate 3 refine zX ?_
  refine zV (show AV.d (.int .i64 (((g.tokens.map DV.str).length : Nat) : Int)) = .d (.int .i64 (g.tokens.length : Int)) by rw [List.length_map]) ?_
  refine zC c2 ?_
  refine zX ?_
  repeat refine zS ?_
  iterate 2 refine zX ?_
  repeat refine zS ?_
  refine Run.drawC (frz := [3, 5]) Et_ok (by kernel_rfl) [] ?_
  refine cX ?_
  refine cAll (setsK h) ?_
  refine cX ?_
  refine cAll hO ?_
  refine cX ?_
  refine cX (v := .d (.bool (decide (x ∈ A)))) ?_ (hv := evAny_hasPm rfl rfl rfl hM rfl hx)
  refine cX ?_
  refine cX ?_
  refine EvC.nil ⟨draw2 (by kernel_rfl), trivial, ?_⟩
  repeat refine zS ?_
  exact zE rfl
theorem prT {g : Gram} (h : checkF g = 0) : PrT g.tokens.length g.names.length (psN g) := by
  have v := valN h
  have hs := (symbols_zero (check_parts h).2.2.2.2).1
  refine ⟨v.ok.lt, fun p hp => ?_, fun p hp s hs' => ?_⟩
  · exact v.ok.len p hp
  · obtain ⟨q, hq, rfl⟩ := List.mem_map.1 hp
    obtain ⟨t, ht, rfl⟩ := List.mem_map.1 hs'
    have h1 := (hs.2 q hq).2 t ht
    have h2 := (good_nat v.t8 h1).1
    simp only [goodS, isTerm, isNonterm, Bool.or_eq_true, Bool.and_eq_true, decide_eq_true_eq] at h1
    unfold SymT; omega
def SmGr (g : Gram) : Prop := (g.tokens.length + 1) ^ kN g ≤ 150
theorem setsG_sm {g : Gram} (h : checkF g = 0) : SmS (kN g) g.tokens.length ((g.tokens.length + 1) ^ kN g) (setsG g) := sm_it (valN h).k4 (valN h).t8 (prT h).sy _
theorem tok1 {g : Gram} (h : checkF g = 0) : 1 ≤ g.tokens.length := by
  obtain ⟨_, h1, _⟩ := check_parts h
  cases e : g.tokens with
  | nil => exact absurd e h1
  | cons a l => simp
theorem setsRefG {g : Gram} (h : checkF g = 0) (hm : SmGr g) : ACall Tryz.prog 31 [.d (encG g)] [] (.vs 0 1 0 g.names.length) [vecS (setsG g) g.names.length] := by
  have v := valN h
  exact setsRef v.k v.k1 v.k4 rfl (tok1 h) v.t8 hm rfl v.n8 (psN g) v.enc (prT h) (by have := v.len; omega)
theorem good_T {g : Gram} (h : checkF g = 0) {l : List Nat} (hl : ∀ s ∈ l, goodS g (s : Int) = true) : ∀ s ∈ l, SymT g.tokens.length g.names.length s := fun s hs => by
  have h1 := hl s hs
  simp only [goodS, isTerm, isNonterm, Bool.or_eq_true, Bool.and_eq_true, decide_eq_true_eq] at h1
  unfold SymT; omega
theorem ofRefG {g : Gram} (h : checkF g = 0) (hm : SmGr g) {l : List Nat} (hl : GdN g l) : ACall Tryz.prog 59 [.d (encG g), .d (.sl 1 (l.map nI)), .vs 0 1 0 g.names.length] [vecS (setsG g) g.names.length] (.d (lks (foN g l))) [vecS (setsG g) g.names.length] := by
  have v := valN h
  exact ofRef v.k v.k1 v.k4 rfl (tok1 h) v.t8 hm (setsG g) (setsG_sm h) l (good_T h hl.2) v.n8 (by have := hl.1; omega)
theorem firstRefE {g : Gram} (hf : Fits g) {l : List Int} (hl : l.length ≤ 1048576) (hne : chkFs g l ≠ 0) : KnownCall Tryz.prog 34 [encG g, ints l] (.tup [.d .nilsl, .d (.int .i64 (chkFs g l))]) := by
  have c := refCheck g hf
  have hll : (l.map (DV.int .i64)).length = l.length := by simp
  have htk : (g.tokens.map DV.str).length = g.tokens.length := by simp
  have hnk : (g.names.map DV.str).length = g.names.length := by simp
  by_cases h0 : checkF g = 0
  · have hn8 := (valN h0).n8
    have ht8 := (valN h0).t8
    by_cases h1 : 100 < l.length
    · have e : chkFs g l = 6 := by simp [chkFs, h0, h1]
      rw [e]
      rw [h0] at c
      refine kF Tryz.func34 [2] fun w => ?_
      repeat' (first
        | refine zW ?_
        | refine zB ?_ ?_ <;> intro h <;> try exact zk h
        | refine zC (c) ?_
        | rfl
        | ((exfalso; simp at h'; omega))
        | ((exfalso; simp at h; omega))
        | fail)
    · rw [h0] at c
      refine kF Tryz.func34 [2] fun w => ?_
      repeat' (first
        | refine zW ?_
        | refine zB ?_ ?_ <;> intro h <;> try exact zk h
        | refine zC (c) ?_
        | ((exfalso; simp at h; omega))
        | fail)
      refine Run.loopT (fun i : Nat => ⟨PT.ofList [(1, .d (ints l)), (2, gE g), (7, .d (nI i))], [], []⟩) (fun i => i ≤ l.length ∧ ∀ s ∈ l.take i, goodS g s = true) (fun i => l.length - i) 0 ⟨Nat.zero_le _, by simp⟩ (ti _ 0) (fun i hi => ?_)
      obtain ⟨hi1, hi2⟩ := hi
      rcases Nat.lt_or_ge i l.length with hlt | hge
      · obtain ⟨s, hs⟩ := get_ok hlt
        have hw : AV.d (.int .i64 (IntKind.i64.wrap (16 + (((g.names.map DV.str).length : Nat) : Int)))) = .d (nI (16 + g.names.length)) := by
          congr 2; rw [hnk, show (16 : Int) + ((g.names.length : Nat) : Int) = ((16 + g.names.length : Nat) : Int) by omega]; exact wrap_nat (by omega)
        cases hg : goodS g s with
        | true =>
          have hg' := hg
          simp only [goodS, isTerm, isNonterm, Bool.or_eq_true, Bool.and_eq_true, decide_eq_true_eq] at hg'
          have fin : ∀ t ∈ l.take (i + 1), goodS g t = true := fun t ht => by
            rw [List.take_add_one, hs] at ht
            rcases List.mem_append.1 ht with h | h
            · exact hi2 t h
            · simp at h; subst h; exact hg
          repeat' (first
            | refine zV hw ?_
            | refine zW ?_
            | refine zB ?_ ?_ <;> intro h <;> try exact zk h
            | refine zI w (.d (.ep [.int .i64 s])) hs ?_
            | (exact ⟨i + 1, ⟨hlt, fin⟩, by omega, ti _ 0⟩)
            | ((exfalso; simp at *; omega))
            | fail)
        | false =>
          have hg' := hg
          simp only [goodS, isTerm, isNonterm, Bool.or_eq_false_iff, Bool.and_eq_false_iff, decide_eq_false_iff_not] at hg'
          have e : chkFs g l = 14 := by
            unfold chkFs
            rw [if_neg (by simp [h0]), if_neg h1, if_neg]
            rw [List.all_eq_true]
            exact fun h => by rw [h s (List.mem_of_getElem? hs)] at hg; cases hg
          rw [e]
          repeat' (first
            | refine zV hw ?_
            | refine zW ?_
            | refine zB ?_ ?_ <;> intro h <;> try exact zk h
            | refine zI w (.d (.ep [.int .i64 s])) hs ?_
            | rfl
            | ((exfalso; simp at *; omega))
            | fail)
      · have hie : i = l.length := by omega
        subst hie
        rw [List.take_length] at hi2
        refine absurd ?_ hne
        unfold chkFs
        rw [if_neg (by simp [h0]), if_neg h1, if_pos (List.all_eq_true.2 hi2)]
  · have e : chkFs g l = checkF g := by simp [chkFs, h0]
    rw [e]
    generalize checkF g = x at *
    refine kF Tryz.func34 [2] fun w => ?_
    repeat refine zS ?_
    iterate 3 refine zX ?_
    repeat refine zS ?_
    refine zX ?_
    refine zC c ?_
    refine zX ?_
    repeat refine zS ?_
    refine zX ?_
    refine zV (show AV.d (.bool (x != 0)) = .d (.bool true) by simp [h0]) ?_
    repeat' (first
      | refine zW ?_
      | refine zB ?_ ?_ <;> intro h <;> try exact zk h
      | rfl
      | (fail)
      | fail)
set_option maxHeartbeats 1000000 in
theorem firstRefK {g : Gram} (hv : checkF g = 0) (hf : Fits g) (hm : SmGr g) {l : List Nat} (hl : GdN g l) : KnownCall Tryz.prog 34 [encG g, .sl 1 (l.map nI)] (.tup [.d (lks (foN g l)), .d (.int .i64 0)]) := by
  have c := refCheck g hf
  rw [hv] at c
  have hll : (l.map nI).length = l.length := by simp
  have htk : (g.tokens.map DV.str).length = g.tokens.length := by simp
  have hnk : (g.names.map DV.str).length = g.names.length := by simp
  have hn8 := (valN hv).n8
  have ht8 := (valN hv).t8
  have h100 := hl.1
  have hS := setsRefG hv hm
  have hO := ofRefG hv hm hl
  refine kF Tryz.func34 [2] fun w => ?_
  repeat' (first
    | refine zW ?_
    | refine zB ?_ ?_ <;> intro h <;> try exact zk h
    | refine zC (c) ?_
    | ((exfalso; simp at h; omega))
    | fail)
  refine Run.loopT (fun i : Nat => ⟨PT.ofList [(1, .d (.sl 1 (l.map nI))), (2, gE g), (7, .d (nI i))], [], []⟩) (fun i => i ≤ l.length) (fun i => l.length - i) 0 (Nat.zero_le _) (ti _ 0) (fun i hi => ?_)
  rcases Nat.lt_or_ge i l.length with hlt | hge
  · obtain ⟨s, hs⟩ := get_ok hlt
    have hw : AV.d (.int .i64 (IntKind.i64.wrap (16 + (((g.names.map DV.str).length : Nat) : Int)))) = .d (nI (16 + g.names.length)) := by
      congr 2; rw [hnk, show (16 : Int) + ((g.names.length : Nat) : Int) = ((16 + g.names.length : Nat) : Int) by omega]; exact wrap_nat (by omega)
    have hg' := hl.2 s (List.mem_of_getElem? hs)
    simp only [goodS, isTerm, isNonterm, Bool.or_eq_true, Bool.and_eq_true, decide_eq_true_eq] at hg'
    repeat' (first
      | refine zV hw ?_
      | refine zW ?_
      | refine zB ?_ ?_ <;> intro h <;> try exact zk h
      | refine zI w (.d (.ep [nI s])) hs ?_
      | (exact ⟨i + 1, hlt, by omega, ti _ 0⟩)
      | ((exfalso; simp at *; omega))
      | fail)
  · have hie : i = l.length := by omega
    subst hie
    repeat refine zS ?_
    iterate 3 refine zX ?_
    refine zV (lt_false (show (l.map nI).length ≤ l.length by omega)) ?_
    repeat refine zS ?_
    refine Run.drawC (frz := [2]) Et_ok (by kernel_rfl) [] ?_
    refine cX ?_
    refine cX ?_
    refine cX ?_
    refine cAll hS ?_
    refine cAll hO ?_
    refine cX ?_
    refine cX ?_
    refine EvC.nil ⟨draw2 (by kernel_rfl), trivial, ?_⟩
    repeat refine zS ?_
    exact zE rfl
abbrev rawI (l : List Int) : Raw := ⟨(l.length : Nat), l.getD 0 0, l.getD 1 0, l.getD 2 0, l.getD 3 0⟩
abbrev intL (l : List Int) : DV := .sl 1 (l.map iI)
theorem ofI (l : List Int) (h : l.length ≤ 4) : KnownCall Tryz.prog 63 [intL l] (.d (rw5 (rawI l))) := by
  match l, h with
  | [], _ =>
    refine kF Tryz.func63 [] fun w => ?_
    repeat' (first
      | refine zW ?_
      | refine zB ?_ ?_ <;> intro h <;> try exact zk h
      | rfl
      | fail)
  | [a], _ =>
    refine kF Tryz.func63 [] fun w => ?_
    repeat' (first
      | refine zW ?_
      | refine zB ?_ ?_ <;> intro h <;> try exact zk h
      | rfl
      | fail)
  | [a, b], _ =>
    refine kF Tryz.func63 [] fun w => ?_
    repeat' (first
      | refine zW ?_
      | refine zB ?_ ?_ <;> intro h <;> try exact zk h
      | rfl
      | fail)
  | [a, b, c], _ =>
    refine kF Tryz.func63 [] fun w => ?_
    repeat' (first
      | refine zW ?_
      | refine zB ?_ ?_ <;> intro h <;> try exact zk h
      | rfl
      | fail)
  | [a, b, c, d], _ =>
    refine kF Tryz.func63 [] fun w => ?_
    repeat' (first
      | refine zW ?_
      | refine zB ?_ ?_ <;> intro h <;> try exact zk h
      | rfl
      | fail)
theorem cut4I (l : List Int) (hl : l.length ≤ 4) : AV.d (.sl 1 (cutL none (some (l.length : Int)) [iI (l.getD 0 0), iI (l.getD 1 0), iI (l.getD 2 0), iI (l.getD 3 0)])) = .d (intL l) := by
  match l, hl with
  | [], _ => rfl
  | [a], _ => rfl
  | [a, b], _ => rfl
  | [a, b, c], _ => rfl
  | [a, b, c, d], _ => rfl
theorem chkR_I {l : List Int} (hl : l.length ≤ 4) {t : Int} (ht : ¬ (t < 1 ∨ 8 < t)) : chkR (rawI l) t = if l.all (fun v => decide (0 ≤ v ∧ v < t)) then 0 else 14 := by
  unfold chkR
  rw [if_neg (by omega), if_neg (by omega), if_neg (by simp only []; omega), if_neg (by simp only []; omega)]
  match l, hl with
  | [], _ => simp
  | [a], _ => simp
  | [a, b], _ => simp
  | [a, b, c], _ => simp
  | [a, b, c, d], _ => simp
theorem checkRawI (l : List Int) (hl : l.length ≤ 4) (t : Int) (ht : ¬ (t < 1 ∨ 8 < t)) : KnownCall Tryz.prog 37 [rw5 (rawI l), iI t] (.d (iI (chkR (rawI l) t))) := by
  have h4 := cut4I l hl
  have hu := chkR_I hl ht
  generalize chkR (rawI l) t = R at *
  refine kF Tryz.func37 [2] fun w => ?_
  repeat' (first
    | refine zW ?_
    | refine zB ?_ ?_ <;> intro h <;> try exact zk h
    | refine zCut h4 ?_
    | refine zK (ofI l hl) ?_ ?_ <;> intro h <;> try exact zk h
    | refine zC (ofI l hl) ?_
    | ((exfalso; first | (simp at h <;> fail) | (simp only [decide_eq_true_eq, decide_eq_false_iff_not] at *; omega)))
    | fail)
  refine Run.loop (fun i : Nat => ⟨PT.ofList [(1, .d (iI t)), (35, .d (intL l)), (36, .d (nI (l.map iI).length)), (37, .d (.int .i64 i))], [], []⟩) (fun i => i ≤ l.length ∧ ∀ x ∈ l.take i, 0 ≤ x ∧ x < t) (fun i => l.length - i) 0 ⟨Nat.zero_le _, by simp⟩ (weak_of (by repeat' (first | exact trivial | refine ⟨rfl, ?_⟩))) (fun i hi => ?_)
  rcases Nat.lt_or_ge i l.length with hlt | hge
  · obtain ⟨x, hx⟩ := get_ok hlt
    have hgo : 0 ≤ x ∧ x < t → ∀ y ∈ l.take (i + 1), 0 ≤ y ∧ y < t := fun h => by
      rw [List.take_add_one, hx]; intro y hy
      rcases List.mem_append.1 hy with h1 | h1
      · exact hi.2 y h1
      · simp at h1; subst h1; exact h
    have hbad : ¬ (0 ≤ x ∧ x < t) → R = 14 := fun h => by
      rw [hu, if_neg]
      intro ha
      exact h (by simpa using List.all_eq_true.1 ha x (List.mem_of_getElem? hx))
    repeat' (first
      | refine zW ?_
      | refine zB ?_ ?_ <;> intro h <;> try exact zk h
      | refine zI w (.d (.ep [iI x])) hx ?_
      | (show _ = _; rw [hbad (by simp only [decide_eq_true_eq, decide_eq_false_iff_not] at *; omega)])
      | (exact ⟨i + 1, ⟨hlt, hgo (by simp only [decide_eq_true_eq, decide_eq_false_iff_not] at *; omega)⟩, by omega, weak_of (by repeat' (first | exact trivial | refine ⟨rfl, ?_⟩ | refine ⟨(inc_get (k := i) (by kernel_rfl) (by omega)), ?_⟩))⟩)
      | ((exfalso; simp only [List.length_map, decide_eq_true_eq, decide_eq_false_iff_not] at *; omega))
      | fail)
  · have hie : i = l.length := by have := hi.1; omega
    have hok : R = 0 := by
      rw [hu, if_pos]
      have := hi.2; rw [hie, List.take_length] at this
      exact List.all_eq_true.2 fun v hv => by simpa using this v hv
    subst hie
    repeat' (first
      | refine zW ?_
      | refine zB ?_ ?_ <;> intro h <;> try exact zk h
      | (show _ = _; rw [hok])
      | ((exfalso; simp only [List.length_map, decide_eq_true_eq, decide_eq_false_iff_not] at *; omega))
      | fail)
theorem checkRaw (r : Raw) (t : Int) : KnownCall Tryz.prog 37 [rw5 r, iI t] (.d (iI (chkR r t))) := by
  by_cases h1 : t < 1 ∨ 8 < t
  · have he : chkR r t = 2 := by
      unfold chkR; rcases h1 with h | h
      · rw [if_pos h]
      · rw [if_neg (by omega), if_pos h]
    rw [he]
    refine kF Tryz.func37 [2] fun w => ?_
    repeat' (first
      | refine zW ?_
      | refine zB ?_ ?_ <;> intro h <;> try exact zk h
      | rfl
      | ((exfalso; simp only [decide_eq_true_eq, decide_eq_false_iff_not] at *; omega))
      | fail)
  by_cases h2 : r.n < 0 ∨ 4 < r.n
  · have he : chkR r t = 3 := by
      unfold chkR; rw [if_neg (by omega), if_neg (by omega)]; rcases h2 with h | h
      · rw [if_pos h]
      · rw [if_neg (by omega), if_pos h]
    rw [he]
    refine kF Tryz.func37 [2] fun w => ?_
    repeat' (first
      | refine zW ?_
      | refine zB ?_ ?_ <;> intro h <;> try exact zk h
      | rfl
      | ((exfalso; simp only [decide_eq_true_eq, decide_eq_false_iff_not] at *; omega))
      | fail)
  obtain ⟨n, a, b, c, d⟩ := r
  simp only at h2
  obtain ⟨m, hm⟩ : ∃ m : Nat, n = m := ⟨n.toNat, by omega⟩
  subst hm
  have hbd : ¬ (([a, b, c, d] : List Int).drop m).all (fun v => decide (v = 0)) = true → chkR ⟨(m : Nat), a, b, c, d⟩ t = 3 := fun h => by
    unfold chkR; rw [if_neg (by omega), if_neg (by omega), if_neg (by simp only []; omega), if_neg (by simp only []; omega)]
    exact if_neg h
  rcases (show m = 0 ∨ m = 1 ∨ m = 2 ∨ m = 3 ∨ m = 4 by omega) with rfl | rfl | rfl | rfl | rfl
  · by_cases hz : a = 0 ∧ b = 0 ∧ c = 0 ∧ d = 0
    · obtain ⟨rfl, rfl, rfl, rfl⟩ := hz
      exact checkRawI [] (by simp) t h1
    · have he := hbd (by simpa using hz)
      rw [he]
      have c := ofI [] (by simp)
      refine kF Tryz.func37 [2] fun w => ?_
      repeat' (first
        | refine zW ?_
        | refine zB ?_ ?_ <;> intro h <;> try exact zk h
        | refine zC (c) ?_
        | rfl
        | ((exfalso; first | (simp only [decide_eq_true_eq, decide_eq_false_iff_not] at *; omega) | (simp at h; exact hz (by omega)) | (simp at *; omega)))
        | fail)
  · by_cases hz : b = 0 ∧ c = 0 ∧ d = 0
    · obtain ⟨rfl, rfl, rfl⟩ := hz
      exact checkRawI [a] (by simp) t h1
    · have he := hbd (by simpa using hz)
      rw [he]
      have c := ofI [a] (by simp)
      refine kF Tryz.func37 [2] fun w => ?_
      repeat' (first
        | refine zW ?_
        | refine zB ?_ ?_ <;> intro h <;> try exact zk h
        | refine zC (c) ?_
        | rfl
        | ((exfalso; first | (simp only [decide_eq_true_eq, decide_eq_false_iff_not] at *; omega) | (simp at h; exact hz (by omega)) | (simp at *; omega)))
        | fail)
  · by_cases hz : c = 0 ∧ d = 0
    · obtain ⟨rfl, rfl⟩ := hz
      exact checkRawI [a, b] (by simp) t h1
    · have he := hbd (by simpa using hz)
      rw [he]
      have c := ofI [a, b] (by simp)
      refine kF Tryz.func37 [2] fun w => ?_
      repeat' (first
        | refine zW ?_
        | refine zB ?_ ?_ <;> intro h <;> try exact zk h
        | refine zC (c) ?_
        | rfl
        | ((exfalso; first | (simp only [decide_eq_true_eq, decide_eq_false_iff_not] at *; omega) | (simp at h; exact hz (by omega)) | (simp at *; omega)))
        | fail)
  · by_cases hz : d = 0
    · obtain ⟨rfl⟩ := hz
      exact checkRawI [a, b, c] (by simp) t h1
    · have he := hbd (by simpa using hz)
      rw [he]
      have c := ofI [a, b, c] (by simp)
      refine kF Tryz.func37 [2] fun w => ?_
      repeat' (first
        | refine zW ?_
        | refine zB ?_ ?_ <;> intro h <;> try exact zk h
        | refine zC (c) ?_
        | rfl
        | ((exfalso; first | (simp only [decide_eq_true_eq, decide_eq_false_iff_not] at *; omega) | (simp at h; exact hz (by omega)) | (simp at *; omega)))
        | fail)
  · exact checkRawI [a, b, c, d] (by simp) t h1
theorem hasRefN : KnownCall Tryz.prog 39 [.nilsl, lk []] (.d (.bool false)) := by
  refine kF Tryz.func39 [3] fun w => ?_
  repeat' (first
    | refine zW ?_
    | refine zB ?_ ?_ <;> intro h <;> try exact zk h
    | (fail)
    | fail)
  refine Run.loopT (fun i : Nat => ⟨PT.ofList [(0, .d .nilsl), (3, .d (.ep (lkC []))), (5, .d (nI i))], [], []⟩) (fun i => i ≤ 0) (fun i => 0 - i) 0 (Nat.le_refl _) (ti _ 0) (fun i hi => ?_)
  obtain rfl : i = 0 := by omega
  repeat' (first
    | refine zW ?_
    | refine zB ?_ ?_ <;> intro h <;> try exact zk h
    | rfl
    | ((exfalso; simp at h; done))
    | fail)
theorem hasRefK (L : List (List Nat)) (x : List Nat) (hL : ∀ y ∈ L, y.length ≤ 4) (hx : x.length ≤ 4) (hl : L.length ≤ 1000) : KnownCall Tryz.prog 39 [lks L, lk x] (.d (.bool (decide (x ∈ L)))) := by
  have hml : (L.map lk).length = L.length := by simp
  refine kF Tryz.func39 [3] fun w => ?_
  repeat' (first
    | refine zW ?_
    | refine zB ?_ ?_ <;> intro h <;> try exact zk h
    | (fail)
    | fail)
  refine Run.loopT (fun i : Nat => ⟨PT.ofList [(0, .d (lks L)), (3, .d (.ep (lkC x))), (5, .d (nI i))], [], []⟩) (fun i => i ≤ L.length ∧ x ∉ L.take i) (fun i => L.length - i) 0 ⟨Nat.zero_le _, by simp⟩ (ti _ 0) (fun i hi => ?_)
  obtain ⟨hi1, hi2⟩ := hi
  rcases Nat.lt_or_ge i L.length with hlt | hge
  · obtain ⟨y, hy⟩ := get_ok hlt
    have hym := List.mem_of_getElem? hy
    by_cases hxy : y = x
    · subst hxy
      rw [decide_eq_true hym]
      repeat refine zS ?_
      iterate 3 refine zX ?_
      refine zV (lt_true (show i < (L.map lk).length by omega)) ?_
      repeat' (first
        | refine zW ?_
        | refine zB ?_ ?_ <;> intro h <;> try exact zk h
        | refine zI w (.d (.ep (lkC y))) hy ?_
        | rfl
        | ((exfalso; first | (simp at h <;> fail) | (simp at h; omega)))
        | fail)
    · have hn2 : x ∉ L.take (i + 1) := fun h => by
        rw [List.take_add_one, hy] at h
        rcases List.mem_append.1 h with h | h
        · exact hi2 h
        · simp at h; exact hxy h.symm
      repeat refine zS ?_
      iterate 3 refine zX ?_
      refine zV (lt_true (show i < (L.map lk).length by omega)) ?_
      repeat' (first
        | refine zW ?_
        | refine zB ?_ ?_ <;> intro h <;> try exact zk h
        | refine zI w (.d (.ep (lkC y))) hy ?_
        | (exact ⟨i + 1, ⟨hlt, hn2⟩, by omega, ti _ 0⟩)
        | ((exfalso; simp only [Bool.not_eq_eq_eq_not, Bool.not_false, bne, Bool.and_eq_true, beq_iff_eq] at h; exact hxy (lk_inj (hL y hym) (by omega) (by omega) (by omega) (by omega) (by omega))))
        | fail)
  · have hie : i = L.length := by omega
    subst hie
    rw [List.take_length] at hi2
    rw [decide_eq_false hi2]
    repeat refine zS ?_
    iterate 3 refine zX ?_
    refine zV (lt_false (show (L.map lk).length ≤ L.length by omega)) ?_
    repeat' (first
      | refine zW ?_
      | refine zB ?_ ?_ <;> intro h <;> try exact zk h
      | rfl
      | (fail)
      | fail)
theorem nullRefK {g : Gram} (hv : checkF g = 0) (hf : Fits g) (hm : SmGr g) {l : List Nat} (hl : GdN g l) (hc : (foN g l).length ≤ 600) : KnownCall Tryz.prog 20 [encG g, .sl 1 (l.map nI)] (.tup [.d (.bool (decide ([] ∈ foN g l))), .d (.int .i64 0)]) := by
  have c := firstRefK hv hf hm hl
  have c2 := hasRefK (foN g l) [] (fun y hy => (fo_rt hv (hl.sy hv) y hy).1.len) (by simp) (by omega)
  refine kF Tryz.func20 [2] fun w => ?_
  repeat' (first
    | refine zW ?_
    | refine zB ?_ ?_ <;> intro h <;> try exact zk h
    | refine zC (c) ?_
    | refine zC (c2) ?_
    | rfl
    | (fail)
    | fail)
theorem nullRefE {g : Gram} (hf : Fits g) {l : List Int} (hl : l.length ≤ 1048576) (hne : chkFs g l ≠ 0) : KnownCall Tryz.prog 20 [encG g, ints l] (.tup [.d (.bool false), .d (.int .i64 (chkFs g l))]) := by
  have c := firstRefE hf hl hne
  have c2 := hasRefN
  generalize chkFs g l = x at *
  refine kF Tryz.func20 [2] fun w => ?_
  repeat' (first
    | refine zW ?_
    | refine zB ?_ ?_ <;> intro h <;> try exact zk h
    | refine zC (c) ?_
    | refine zC (c2) ?_
    | rfl
    | (fail)
    | fail)
theorem hasRfK {g : Gram} (hv : checkF g = 0) (hf : Fits g) (hm : SmGr g) {l : List Nat} (hl : GdN g l) (hc : (foN g l).length ≤ 600) (x : List Nat) (hx : Rt x) (h0 : chkR (rawOf x) g.tokens.length = 0) : KnownCall Tryz.prog 18 [encG g, .sl 1 (l.map nI), lk x] (.tup [.d (.bool (decide (x ∈ foN g l))), .d (.int .i64 0)]) := by
  have c := firstRefK hv hf hm hl
  have c2 := hasRefK (foN g l) x (fun y hy => (fo_rt hv (hl.sy hv) y hy).1.len) hx.len (by omega)
  have c3 := chkRef (rawOf x) g.tokens.length
  rw [h0, rw5_of, show iI ((g.tokens.length : Nat) : Int) = nI (g.tokens.map DV.str).length by simp] at c3
  generalize decide (x ∈ foN g l) = b at *
  refine kF Tryz.func18 [3, 5] fun w => ?_
  cases b with
  | true => repeat' (first
              | refine zW ?_
              | refine zB ?_ ?_ <;> intro h <;> try exact zk h
              | refine zX ?_
              | refine zC (c) ?_
              | refine zC (c3) ?_
              | refine zK (c2) ?_ ?_ <;> intro h <;> try exact zk h
              | refine zC (c2) ?_
              | rfl
              | ((exfalso; simp at h; done))
              | fail)
  | false => repeat' (first
               | refine zW ?_
               | refine zB ?_ ?_ <;> intro h <;> try exact zk h
               | refine zX ?_
               | refine zC (c) ?_
               | refine zC (c3) ?_
               | refine zK (c2) ?_ ?_ <;> intro h <;> try exact zk h
               | refine zC (c2) ?_
               | rfl
               | ((exfalso; simp at h; done))
               | fail)
theorem hasRfR {g : Gram} (hv : checkF g = 0) (hf : Fits g) (hm : SmGr g) {l : List Nat} (hl : GdN g l) (r : Raw) (h0 : chkR r g.tokens.length ≠ 0) : KnownCall Tryz.prog 18 [encG g, .sl 1 (l.map nI), rw5 r] (.tup [.d (.bool false), .d (.int .i64 (chkR r g.tokens.length))]) := by
  have c := firstRefK hv hf hm hl
  have c3 := chkRef r g.tokens.length
  rw [show iI ((g.tokens.length : Nat) : Int) = nI (g.tokens.map DV.str).length by simp] at c3
  generalize chkR r g.tokens.length = e at *
  refine kF Tryz.func18 [3, 5] fun w => ?_
  repeat' (first
    | refine zW ?_
    | refine zB ?_ ?_ <;> intro h <;> try exact zk h
    | refine zX ?_
    | refine zC (c) ?_
    | refine zC (c3) ?_
    | rfl
    | ((exfalso; simp at h; done))
    | ((exfalso; simp at h; exact h0 h))
    | fail)
theorem hasRfE {g : Gram} (hf : Fits g) {l : List Int} (hl : l.length ≤ 1048576) (hne : chkFs g l ≠ 0) (r : Raw) : KnownCall Tryz.prog 18 [encG g, ints l, rw5 r] (.tup [.d (.bool false), .d (.int .i64 (chkFs g l))]) := by
  have c := firstRefE hf hl hne
  generalize chkFs g l = x at *
  refine kF Tryz.func18 [3, 5] fun w => ?_
  repeat' (first
    | refine zW ?_
    | refine zB ?_ ?_ <;> intro h <;> try exact zk h
    | refine zX ?_
    | refine zC (c) ?_
    | rfl
    | ((exfalso; simp at h; exact hne h))
    | fail)
theorem fHasRaw {g : Gram} (hv : checkF g = 0) (hf : Fits g) {l : List Nat} (hl : GdN g l) (r : Raw) (h0 : chkR r g.tokens.length ≠ 0) : KnownCall Tryz.prog 17 [encG g, .sl 1 (l.map nI), rw5 r] (.tup [.d (.bool false), .d (.int .i64 (chkR r g.tokens.length))]) := by
  have c := checkFst g hf (l.map fun s : Nat => (s : Int)) (by rw [List.length_map]; have := hl.1; omega)
  rw [chk_good hv hl.good (by rw [List.length_map]; exact hl.1), ints_cast] at c
  have c3 := checkRaw r g.tokens.length
  rw [show iI ((g.tokens.length : Nat) : Int) = nI (g.tokens.map DV.str).length by simp] at c3
  generalize chkR r g.tokens.length = e at *
  refine kF Tryz.func17 [3, 5] fun w => ?_
  repeat' (first
    | refine zW ?_
    | refine zB ?_ ?_ <;> intro h <;> try exact zk h
    | refine zX ?_
    | refine zC (c) ?_
    | refine zC (c3) ?_
    | rfl
    | ((exfalso; simp at h; done))
    | ((exfalso; simp at h; exact h0 h))
    | fail)
theorem fHasE {g : Gram} (hf : Fits g) {l : List Int} (hl : l.length ≤ 1048576) (hne : chkFs g l ≠ 0) (r : Raw) : KnownCall Tryz.prog 17 [encG g, ints l, rw5 r] (.tup [.d (.bool false), .d (.int .i64 (chkFs g l))]) := by
  have c := checkFst g hf l hl
  generalize chkFs g l = x at *
  refine kF Tryz.func17 [3, 5] fun w => ?_
  repeat' (first
    | refine zW ?_
    | refine zB ?_ ?_ <;> intro h <;> try exact zk h
    | refine zX ?_
    | refine zC (c) ?_
    | rfl
    | ((exfalso; simp at h; exact hne h))
    | fail)
theorem fNullE {g : Gram} (hf : Fits g) {l : List Int} (hl : l.length ≤ 1048576) (hne : chkFs g l ≠ 0) : KnownCall Tryz.prog 19 [encG g, ints l] (.tup [.d (.bool false), .d (.int .i64 (chkFs g l))]) := by
  have c := checkFst g hf l hl
  generalize chkFs g l = x at *
  refine kF Tryz.func19 [2] fun w => ?_
  repeat' (first
    | refine zW ?_
    | refine zB ?_ ?_ <;> intro h <;> try exact zk h
    | refine zC (c) ?_
    | rfl
    | ((exfalso; simp at h; exact hne h))
    | fail)
def smlGF (g : Gram) : Bool := lightF g && decide (g.k < 1 ∨ 4 < g.k ∨ (g.k = 1 ∧ g.tokens.length ≤ 8) ∨ (g.k = 2 ∧ g.tokens.length ≤ 3) ∨ (g.k = 3 ∧ g.tokens.length ≤ 2))
set_option maxHeartbeats 4000000 in
theorem smallK (g : Gram) : KnownCall Tryz.prog 21 [encG g] (.d (.bool (smlGF g))) := by
  have hl := light g
  have htk : (g.tokens.map DV.str).length = g.tokens.length := by simp
  cases h1 : lightF g with
  | false =>
    rw [h1] at hl
    rw [show smlGF g = false by simp [smlGF, h1]]
    refine kF Tryz.func21 [1] fun w => ?_
    repeat' (first
      | refine zW ?_
      | refine zB ?_ ?_ <;> intro h <;> try exact zk h
      | refine zK (hl) ?_ ?_ <;> intro h <;> try exact zk h
      | refine zC (hl) ?_
      | rfl
      | ((exfalso; simp at h; done))
      | fail)
  | true =>
    rw [h1] at hl
    by_cases hc : g.k < 1 ∨ 4 < g.k ∨ (g.k = 1 ∧ g.tokens.length ≤ 8) ∨ (g.k = 2 ∧ g.tokens.length ≤ 3) ∨ (g.k = 3 ∧ g.tokens.length ≤ 2)
    · rw [show smlGF g = true by simp only [smlGF, h1, decide_eq_true hc, Bool.and_self]]
      refine kF Tryz.func21 [1] fun w => ?_
      repeat' (first
        | refine zW ?_
        | refine zB ?_ ?_ <;> intro h <;> try exact zk h
        | refine zK (hl) ?_ ?_ <;> intro h <;> try exact zk h
        | refine zC (hl) ?_
        | rfl
        | ((exfalso; simp only [List.length_map, gt_iff_lt, decide_eq_true_eq, decide_eq_false_iff_not, beq_iff_eq, beq_eq_false_iff_ne, ne_eq] at *; omega))
        | fail)
    · rw [show smlGF g = false by simp only [smlGF, h1, decide_eq_false hc, Bool.and_false]]
      refine kF Tryz.func21 [1] fun w => ?_
      repeat' (first
        | refine zW ?_
        | refine zB ?_ ?_ <;> intro h <;> try exact zk h
        | refine zK (hl) ?_ ?_ <;> intro h <;> try exact zk h
        | refine zC (hl) ?_
        | rfl
        | ((exfalso; simp only [List.length_map, gt_iff_lt, decide_eq_true_eq, decide_eq_false_iff_not, beq_iff_eq, beq_eq_false_iff_ne, ne_eq] at *; omega))
        | fail)
section
variable {H : Type} {enc : TypeId × Value → H} {w : World} {spare : Nat → Bool} {held : Bool} {fuel : Nat} {cs : List Value} {x : DataW H × List MemPlace}
abbrev Wf64 (n : Int) : Prop := (Lit.int .i64 n).wf = true
def wfStr (s : List Nat) : Prop := s.length ≤ maxLen ∧ ∀ c ∈ s, c < 256
structure WfProd (p : GProd) : Prop where
  left : Wf64 p.left
  len : p.right.length ≤ maxLen
  right : ∀ n ∈ p.right, Wf64 n
structure WfGram (g : Gram) : Prop where
  k : Wf64 g.k
  tokensL : g.tokens.length ≤ maxLen
  tokens : ∀ s ∈ g.tokens, wfStr s
  sep : wfStr g.sep
  namesL : g.names.length ≤ maxLen
  names : ∀ s ∈ g.names, wfStr s
  start : Wf64 g.start
  prodsL : g.prods.length ≤ maxLen
  prods : ∀ p ∈ g.prods, WfProd p
theorem cr_ints (hsp : ∀ b, spare b = true) (h : DataW.trod enc Tryz.prog w 0 spare held fuel 26 cs = some x) : ∃ l : List Int, CellsRep (heapD w) (ints l) cs ∧ l.length ≤ maxLen ∧ ∀ n ∈ l, Wf64 n :=
  cr_slice (DV.int .i64) Wf64 Tryz.underlying26 (by kernel_rfl) (Nat.le_refl _) hsp (fun n cs' y _ hy => cr_int Tryz.underlying3 hy) h
theorem cr_strs (hsp : ∀ b, spare b = true) (h : DataW.trod enc Tryz.prog w 0 spare held fuel 22 cs = some x) : ∃ l : List (List Nat), CellsRep (heapD w) (strs l) cs ∧ l.length ≤ maxLen ∧ ∀ s ∈ l, wfStr s :=
  cr_slice DV.str wfStr Tryz.underlying22 (by kernel_rfl) (Nat.le_refl _) hsp (fun n cs' y _ hy => cr_str Tryz.underlying9 hy) h
theorem cr_prod (hsp : ∀ b, spare b = true) (hl : cs.length = 2) (h : DataW.trod enc Tryz.prog w 0 spare held fuel 54 cs = some x) : ∃ p : GProd, CellsRep (heapD w) (encP p) cs ∧ WfProd p := by
  match cs, hl, h with
  | [v0, v1], _, h =>
    obtain ⟨n0, y0, e0⟩ := trod_field Tryz.underlying54 h 0 rfl (by kernel_rfl) rfl
    obtain ⟨n1, y1, e1⟩ := trod_field Tryz.underlying54 h 1 rfl (by kernel_rfl) rfl
    obtain ⟨a, ha, wa⟩ := cr_int Tryz.underlying3 e0
    obtain ⟨l, hl, wl, wr⟩ := cr_ints hsp e1
    exact ⟨⟨a, l⟩, cr_all ⟨⟨rfl, ha⟩, ⟨rfl, hl⟩, trivial⟩, ⟨wa, wl, wr⟩⟩
theorem cr_gram (hsp : ∀ b, spare b = true) (hl : cs.length = 6) (h : DataW.trod enc Tryz.prog w 0 spare held fuel 25 cs = some x) : ∃ g : Gram, CellsRep (heapD w) (encG g) cs ∧ WfGram g := by
  match cs, hl, h with
  | [v0, v1, v2, v3, v4, v5], _, h =>
    obtain ⟨n0, y0, e0⟩ := trod_field Tryz.underlying25 h 0 rfl (by kernel_rfl) rfl
    obtain ⟨n1, y1, e1⟩ := trod_field Tryz.underlying25 h 1 rfl (by kernel_rfl) rfl
    obtain ⟨n2, y2, e2⟩ := trod_field Tryz.underlying25 h 2 rfl (by kernel_rfl) rfl
    obtain ⟨n3, y3, e3⟩ := trod_field Tryz.underlying25 h 3 rfl (by kernel_rfl) rfl
    obtain ⟨n4, y4, e4⟩ := trod_field Tryz.underlying25 h 4 rfl (by kernel_rfl) rfl
    obtain ⟨n5, y5, e5⟩ := trod_field Tryz.underlying25 h 5 rfl (by kernel_rfl) rfl
    obtain ⟨k, hk, wk⟩ := cr_int Tryz.underlying3 e0
    obtain ⟨ts, hts, wt1, wt2⟩ := cr_strs hsp e1
    obtain ⟨sep, hsep, ws1, ws2⟩ := cr_str Tryz.underlying9 e2
    obtain ⟨ns, hns, wn1, wn2⟩ := cr_strs hsp e3
    obtain ⟨st, hst, wst⟩ := cr_int Tryz.underlying3 e4
    obtain ⟨ps, hps, wp1, wp2⟩ := cr_slice encP WfProd (sz := 2) Tryz.underlying23 (by kernel_rfl) (by omega) hsp (fun n cs' y hn hy => cr_prod hsp hn hy) e5
    exact ⟨⟨k, ts, sep, ns, st, ps⟩, cr_all ⟨⟨rfl, hk⟩, ⟨rfl, hts⟩, ⟨rfl, hsep⟩, ⟨rfl, hns⟩, ⟨rfl, hst⟩, ⟨rfl, hps⟩, trivial⟩, ⟨wk, wt1, wt2, ⟨ws1, ws2⟩, wn1, wn2, wst, wp1, wp2⟩⟩
theorem arg_ints {r : Reach} {b0 : Nat} {v : Value} {d : DataW H} {ps : List MemPlace} (hsp : ∀ b, spare b = true) (hval : Value.okWide Tryz.prog w r b0 26 v) (h : DataW.Trod enc Tryz.prog w 0 spare held 26 v d ps) :
    ∃ l : List Int, RepD (heapD w) (ints l) v ∧ l.length ≤ maxLen ∧ ∀ n ∈ l, Wf64 n := by
  obtain ⟨es, he, l, rfl, hl⟩ := arg_slice (sz := 1) (R := fun es => ∃ l : List Int, es = l.map (DV.int .i64) ∧ l.length ≤ maxLen ∧ ∀ n ∈ l, Wf64 n) Tryz.underlying26 hval h (fun n x hx => by
    obtain ⟨l, h1, h2⟩ := cr_ints hsp hx
    exact ⟨_, h1, l, rfl, h2⟩)
  exact ⟨l, he, hl⟩
theorem arg_gram {r : Reach} {b0 : Nat} {v : Value} {d : DataW H} {ps : List MemPlace} (hsp : ∀ b, spare b = true) (hval : Value.okWide Tryz.prog w r b0 25 v) (h : DataW.Trod enc Tryz.prog w 0 spare held 25 v d ps) :
    ∃ g : Gram, RepD (heapD w) (encG g) v ∧ WfGram g :=
  arg_agg (f := fun g : Gram => [.int .i64 g.k, strs g.tokens, .str g.sep, strs g.names, .int .i64 g.start, .sl 2 (g.prods.map encP)]) Tryz.underlying25 hval h (fun n cs x hl hx => cr_gram hsp (hl.trans (by kernel_rfl)) hx)
end
def litF (g : Gram) (l : List Int) : Bool := smlGF g && (decide (l.length ≤ 8) || (decide (100 < l.length) && decide (l.length ≤ 103)))
theorem litK (g : Gram) (l : List Int) : KnownCall Tryz.prog 5 [encG g, ints l] (.d (.bool (litF g l))) := by
  have c := smallK g
  have hl : (l.map (DV.int .i64)).length = l.length := by simp
  cases h1 : smlGF g with
  | false =>
    rw [h1] at c
    rw [show litF g l = false by simp [litF, h1]]
    refine kF Tryz.func5 [2] fun w => ?_
    repeat' (first
      | refine zW ?_
      | refine zB ?_ ?_ <;> intro h <;> try exact zk h
      | refine zK (c) ?_ ?_ <;> intro h <;> try exact zk h
      | refine zC (c) ?_
      | rfl
      | ((exfalso; simp at h; done))
      | fail)
  | true =>
    rw [h1] at c
    by_cases h8 : l.length ≤ 8
    · rw [show litF g l = true by simp [litF, h1, h8]]
      refine kF Tryz.func5 [2] fun w => ?_
      repeat' (first
        | refine zW ?_
        | refine zB ?_ ?_ <;> intro h <;> try exact zk h
        | refine zK (c) ?_ ?_ <;> intro h <;> try exact zk h
        | refine zC (c) ?_
        | rfl
        | ((exfalso; simp at h; omega))
        | fail)
    · by_cases h9 : 100 < l.length
      · by_cases h10 : l.length ≤ 103
        · rw [show litF g l = true by simp [litF, h1, h9, h10]]
          refine kF Tryz.func5 [2] fun w => ?_
          repeat' (first
            | refine zW ?_
            | refine zB ?_ ?_ <;> intro h <;> try exact zk h
            | refine zK (c) ?_ ?_ <;> intro h <;> try exact zk h
            | refine zC (c) ?_
            | rfl
            | ((exfalso; simp at h; omega))
            | fail)
        · rw [show litF g l = false by simp [litF, h1, h8, h10]]
          refine kF Tryz.func5 [2] fun w => ?_
          repeat' (first
            | refine zW ?_
            | refine zB ?_ ?_ <;> intro h <;> try exact zk h
            | refine zK (c) ?_ ?_ <;> intro h <;> try exact zk h
            | refine zC (c) ?_
            | rfl
            | ((exfalso; simp at h; omega))
            | fail)
      · rw [show litF g l = false by simp [litF, h1, h8, h9]]
        refine kF Tryz.func5 [2] fun w => ?_
        repeat' (first
          | refine zW ?_
          | refine zB ?_ ?_ <;> intro h <;> try exact zk h
          | refine zK (c) ?_ ?_ <;> intro h <;> try exact zk h
          | refine zC (c) ?_
          | rfl
          | ((exfalso; simp at h; omega))
          | fail)
theorem lit_parts {g : Gram} {l : List Int} (h : litF g l = true) : Fits g ∧ l.length ≤ 103 ∧ (checkF g = 0 → SmGr g) := by
  simp only [litF, smlGF, Bool.and_eq_true, Bool.or_eq_true, decide_eq_true_eq] at h
  obtain ⟨⟨h1, h2⟩, h3⟩ := h
  refine ⟨light_fits h1, by omega, fun hv => ?_⟩
  have v := valN hv
  have hk := v.k
  have k1 := v.k1
  have k4 := v.k4
  have t8 := v.t8
  unfold SmGr
  have hc : kN g = 1 ∨ (kN g = 2 ∧ g.tokens.length ≤ 3) ∨ (kN g = 3 ∧ g.tokens.length ≤ 2) := by omega
  rcases hc with e | ⟨e, ht⟩ | ⟨e, ht⟩
  · rw [e, Nat.pow_one]; omega
  · rw [e]; exact Nat.le_trans (Nat.pow_le_pow_left (show g.tokens.length + 1 ≤ 4 by omega) 2) (by decide)
  · rw [e]; exact Nat.le_trans (Nat.pow_le_pow_left (show g.tokens.length + 1 ≤ 3 by omega) 3) (by decide)
theorem chk_zero {g : Gram} {l : List Int} (h : chkFs g l = 0) : checkF g = 0 ∧ l.length ≤ 100 ∧ ∀ s ∈ l, goodS g s = true := by
  unfold chkFs at h
  split at h
  · exact absurd h (by assumption)
  · rename_i h0
    split at h
    · omega
    · split at h
      · rename_i h1 h2
        exact ⟨by omega, by omega, List.all_eq_true.1 h2⟩
      · omega
theorem good_GdN {g : Gram} {l : List Int} (hv : checkF g = 0) (hl : l.length ≤ 100) (h : ∀ s ∈ l, goodS g s = true) : GdN g (l.map Int.toNat) ∧ ints l = .sl 1 ((l.map Int.toNat).map nI) := by
  have t8 := (valN hv).t8
  refine ⟨⟨by rw [List.length_map]; exact hl, fun s hs => ?_⟩, ints_nat fun s hs => (good_nat t8 (h s hs)).1⟩
  obtain ⟨t, ht, rfl⟩ := List.mem_map.1 hs
  rw [← (good_nat t8 (h t ht)).1]
  exact h t ht
theorem fo_few {g : Gram} (hv : checkF g = 0) (hm : SmGr g) {l : List Nat} (hl : GdN g l) : (foN g l).length ≤ 150 :=
  Nat.le_trans (fst_sm (valN hv).k4 (valN hv).t8 (setsG_sm hv) (B := [[]]) emp_rt (fun x hx => by simp at hx; subst hx; simp) emp_asc (good_T hv hl.2)).2.2.2 hm
set_option maxHeartbeats 4000000 in
theorem lawFA0 (g : Gram) (l : List Int) (r : Raw) : KnownCall Tryz.prog 4 [encG g, ints l, rw5 r] (.d (.bool true)) := by
  have hw := awakeK
  have hl := litK g l
  cases h1 : litF g l with
  | false =>
    rw [h1] at hl
    refine kF Tryz.func4 [3, 5] fun w => ?_
    repeat' (first
      | refine zW ?_
      | refine zB ?_ ?_ <;> intro h <;> try exact zk h
      | refine zX ?_
      | refine zK (hl) ?_ ?_ <;> intro h <;> try exact zk h
      | refine zC (hl) ?_
      | refine zK (hw) ?_ ?_ <;> intro h <;> try exact zk h
      | refine zC (hw) ?_
      | rfl
      | ((exfalso; simp at h; done))
      | fail)
  | true =>
    rw [h1] at hl
    obtain ⟨hf, hl3, hm⟩ := lit_parts h1
    by_cases hc : chkFs g l = 0
    · obtain ⟨hv, h100, hgs⟩ := chk_zero hc
      obtain ⟨hgd, henc⟩ := good_GdN hv h100 hgs
      have hM := hm hv
      have hfew := fo_few hv hM hgd
      have n1 := fNullK hv hf hgd
      have n2 := nullRefK hv hf hM hgd (by omega)
      rw [henc] at hl ⊢
      generalize decide ([] ∈ foN g (l.map Int.toNat)) = bn at *
      by_cases hr : chkR r g.tokens.length = 0
      · obtain ⟨_, _, x, hx, rfl, hxt⟩ := chkR_raw hr
        rw [rw5_of]
        have a1 := fHasK hv hf hgd x hx.len (by unfold chkL; rw [if_neg (by have := (valN hv).t8; have := tok1 hv; omega), if_neg (by have := hx.len; omega), if_pos (List.all_eq_true.2 fun t ht => decide_eq_true (hxt t ht))])
        have a2 := hasRfK hv hf hM hgd (by omega) x hx hr
        generalize decide (x ∈ foN g (l.map Int.toNat)) = bx at *
        refine kF Tryz.func4 [3, 5] fun w => ?_
        cases bn <;> cases bx
        all_goals repeat' (first
                    | refine zW ?_
                    | refine zB ?_ ?_ <;> intro h <;> try exact zk h
                    | refine zX ?_
                    | refine zK (hl) ?_ ?_ <;> intro h <;> try exact zk h
                    | refine zC (hl) ?_
                    | refine zC (a1) ?_
                    | refine zC (a2) ?_
                    | refine zC (n1) ?_
                    | refine zC (n2) ?_
                    | refine zK (hw) ?_ ?_ <;> intro h <;> try exact zk h
                    | refine zC (hw) ?_
                    | rfl
                    | ((exfalso; simp at h; done))
                    | fail)
      · have a1 := fHasRaw hv hf hgd r hr
        have a2 := hasRfR hv hf hM hgd r hr
        generalize chkR r g.tokens.length = e at *
        refine kF Tryz.func4 [3, 5] fun w => ?_
        cases bn
        all_goals repeat' (first
                    | refine zW ?_
                    | refine zB ?_ ?_ <;> intro h <;> try exact zk h
                    | refine zX ?_
                    | refine zK (hl) ?_ ?_ <;> intro h <;> try exact zk h
                    | refine zC (hl) ?_
                    | refine zC (a1) ?_
                    | refine zC (a2) ?_
                    | refine zC (n1) ?_
                    | refine zC (n2) ?_
                    | refine zK (hw) ?_ ?_ <;> intro h <;> try exact zk h
                    | refine zC (hw) ?_
                    | rfl
                    | ((exfalso; simp at h; done))
                    | fail)
    · have n1 := fNullE hf (by omega) hc
      have n2 := nullRefE hf (by omega) hc
      have a1 := fHasE hf (by omega) hc r
      have a2 := hasRfE hf (by omega) hc r
      generalize chkFs g l = e at *
      refine kF Tryz.func4 [3, 5] fun w => ?_
      repeat' (first
        | refine zW ?_
        | refine zB ?_ ?_ <;> intro h <;> try exact zk h
        | refine zX ?_
        | refine zK (hl) ?_ ?_ <;> intro h <;> try exact zk h
        | refine zC (hl) ?_
        | refine zC (a1) ?_
        | refine zC (a2) ?_
        | refine zC (n1) ?_
        | refine zC (n2) ?_
        | refine zK (hw) ?_ ?_ <;> intro h <;> try exact zk h
        | refine zC (hw) ?_
        | rfl
        | ((exfalso; simp at h; done))
        | fail)
theorem lawFAA (g : Gram) (_ : WfGram g) (l : List Int) (_ : l.length ≤ maxLen ∧ ∀ n ∈ l, Wf64 n) (r : Raw) (_ : True) : KnownCall Tryz.prog 4 [encG g, ints l, rw5 r] (.d (.bool true)) := lawFA0 g l r
section
variable {H : Type} {enc : TypeId × Value → H} {w : World} {spare : Nat → Bool} {held : Bool} {fuel : Nat} {cs : List Value} {x : DataW H × List MemPlace}
theorem cr_look (hl : cs.length = 5) (h : DataW.trod enc Tryz.prog w 0 spare held fuel 44 cs = some x) : ∃ r : Raw, CellsRep (heapD w) (rw5 r) cs ∧ True := by
  match cs, hl, h with
  | [v0, v1, v2, v3, v4], _, h =>
    obtain ⟨n0, y0, e0⟩ := trod_field Tryz.underlying44 h 0 rfl (by kernel_rfl) rfl
    obtain ⟨xs, n, _, _, _, hxl, hff⟩ := DataW.trod_struct Tryz.underlying44 h
    have h1 := hff 1 { name := "S", type := 42, offset := 1, embedded := false, tag := "", pkgPath := "", byteOffset := 8 } rfl
    have c4 : (Tryz.prog).cellsOf 42 = 4 := by kernel_rfl
    have c1 : (Tryz.prog).cellsOf 3 = 1 := by kernel_rfl
    dsimp only at h1
    rw [c4] at h1
    change DataW.trod enc Tryz.prog w 0 spare held n 42 [v1, v2, v3, v4] = _ at h1
    have hi : 1 < xs.length := by rw [hxl]; decide
    rw [List.getElem?_eq_getElem hi] at h1
    obtain ⟨ys, m, _, _, _, hyl, hy⟩ := DataW.trod_array Tryz.underlying42 h1
    have g : ∀ (i : Nat) (v : Value), i < 4 → [v1, v2, v3, v4][i]? = some v → ∃ a, CellsRep (heapD w) (iI a) [v] := fun i v hi4 hv => by
      have h2 := hy i hi4
      rw [c1, List.getElem?_eq_getElem (show i < ys.length by omega), Nat.mul_one, drop_at hv] at h2
      obtain ⟨a, ha, _⟩ := cr_int Tryz.underlying3 h2
      exact ⟨a, ha⟩
    obtain ⟨n, hn, _⟩ := cr_int Tryz.underlying3 e0
    obtain ⟨a, ha⟩ := g 0 v1 (by omega) rfl
    obtain ⟨b, hb⟩ := g 1 v2 (by omega) rfl
    obtain ⟨c, hc⟩ := g 2 v3 (by omega) rfl
    obtain ⟨d, hd⟩ := g 3 v4 (by omega) rfl
    exact ⟨⟨n, a, b, c, d⟩, cr_all ⟨⟨rfl, hn⟩, ⟨rfl, ha⟩, ⟨rfl, hb⟩, ⟨rfl, hc⟩, ⟨rfl, hd⟩, trivial⟩, trivial⟩
end
section
variable {H : Type} {enc : TypeId × Value → H} {w : World} {spare : Nat → Bool} {held : Bool}
theorem arg_look {r : Reach} {b0 : Nat} {v : Value} {d : DataW H} {ps : List MemPlace} (_ : ∀ b, spare b = true) (hval : Value.okWide Tryz.prog w r b0 44 v) (h : DataW.Trod enc Tryz.prog w 0 spare held 44 v d ps) :
    ∃ r : Raw, RepD (heapD w) (rw5 r) v ∧ True :=
  arg_agg (f := fun r : Raw => rwC r) Tryz.underlying44 hval h (fun n cs x hl hx => cr_look (hl.trans (by kernel_rfl)) hx)
end
end Go.Av
end

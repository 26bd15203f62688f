/-
  Parts of the way to the law, joined. Conditions stand at each.
-/
import Derived.Test.YtpcomlcjkdmggaaGreatMFT4
import Derived.Test.YtpcomlcjkdmggaaGreatMFT5
import Derived.Test.YtpcomlcjkdmggaaGreatMFT3
import Derived.OpenShut
set_option linter.all false
noncomputable section
namespace Go.Av
open Go Go.Proofs
set_option maxRecDepth 10000
theorem sum_prs {k : Nat} {a b : List (List Nat)} (ha : ∀ z ∈ a, z.length ≤ k) (hb : ∀ z ∈ b, z.length ≤ k) : sumS k a b = ascOf (prs k a b) := by
  have cut : ∀ {L : List (List Nat)}, (∀ z ∈ L, z.length ≤ k) → ∀ z, z ∈ cutS k L ↔ z ∈ L := fun {L} hL z => by
    unfold cutS
    rw [mem_asc, mem_prs]
    constructor
    · rintro ⟨u, hu, w, hw, rfl⟩
      simp at hw
      subst hw
      rw [List.append_nil, List.take_of_length_le (hL u hu)]; exact hu
    · intro hz
      exact ⟨z, hz, [], by simp, by rw [List.append_nil, List.take_of_length_le (hL z hz)]⟩
  refine asc_ext (asc_asc _) (asc_asc _) fun x => ?_
  unfold sumS
  rw [mem_asc, mem_asc, mem_prs, mem_prs]
  constructor
  · rintro ⟨u, hu, v, hv, rfl⟩; exact ⟨u, (cut ha u).1 hu, v, (cut hb v).1 hv, rfl⟩
  · rintro ⟨u, hu, v, hv, rfl⟩; exact ⟨u, (cut ha u).2 hu, v, (cut hb v).2 hv, rfl⟩
structure SmS (k n m : Nat) (S : Sets) : Prop where
  rt : ∀ a, ∀ x ∈ S a, Rt x ∧ x.length ≤ k
  lt : ∀ a, InT n (S a)
  asc : ∀ a, Asc (S a)
  len : ∀ a, (S a).length ≤ m
def codeB (b : Nat) (x : List Nat) : Nat := x.foldr (fun d r => (d + 1) + b * r) 0
theorem codeB_lt {b : Nat} : ∀ {x : List Nat}, (∀ d ∈ x, d + 1 < b) → codeB b x < b ^ x.length
  | [], _ => by simp [codeB]
  | d :: x, h => by
    have h1 := codeB_lt (b := b) (x := x) fun d hd => h d (by simp [hd])
    have h2 := h d (by simp)
    show (d + 1) + b * codeB b x < b ^ (x.length + 1)
    rw [Nat.pow_succ, Nat.mul_comm _ b]
    have : b * codeB b x + b ≤ b * b ^ x.length := by
      rw [show b * codeB b x + b = b * (codeB b x + 1) by rw [Nat.mul_add, Nat.mul_one]]
      exact Nat.mul_le_mul_left b h1
    omega
theorem codeB_inj {b : Nat} : ∀ {x y : List Nat}, (∀ d ∈ x, d + 1 < b) → (∀ d ∈ y, d + 1 < b) → codeB b x = codeB b y → x = y
  | [], [], _, _, _ => rfl
  | [], d :: y, _, _, h => by exfalso; change 0 = (d + 1) + b * codeB b y at h; omega
  | d :: x, [], _, _, h => by exfalso; change (d + 1) + b * codeB b x = 0 at h; omega
  | d :: x, e :: y, hx, hy, h => by
    have h1 := hx d (by simp)
    have h2 := hy e (by simp)
    change (d + 1) + b * codeB b x = (e + 1) + b * codeB b y at h
    have h3 : (d + 1 + b * codeB b x) % b = (e + 1 + b * codeB b y) % b := by rw [h]
    rw [Nat.add_mul_mod_self_left, Nat.add_mul_mod_self_left, Nat.mod_eq_of_lt h1, Nat.mod_eq_of_lt h2] at h3
    have h4 : d = e := by omega
    subst h4
    have h5 : b * codeB b x = b * codeB b y := by omega
    rw [codeB_inj (fun d hd => hx d (by simp [hd])) (fun d hd => hy d (by simp [hd])) (Nat.eq_of_mul_eq_mul_left (by omega) h5)]
theorem cardB {k n : Nat} {L : List (List Nat)} (hn : L.Nodup) (h : ∀ x ∈ L, x.length ≤ k ∧ ∀ t ∈ x, t < n) : L.length ≤ (n + 1) ^ k := by
  have h1 := seen_le ((n + 1) ^ k) (L.map (codeB (n + 1))) (by
    rw [List.Nodup, List.pairwise_map]
    exact hn.imp_of_mem fun ha hb hab e => hab (codeB_inj (fun d hd => by have := (h _ ha).2 d hd; omega) (fun d hd => by have := (h _ hb).2 d hd; omega) e)) fun c hc => by
      obtain ⟨x, hx, rfl⟩ := List.mem_map.1 hc
      exact Nat.lt_of_lt_of_le (codeB_lt fun d hd => by have := (h x hx).2 d hd; omega) (Nat.pow_le_pow_right (by omega) (h x hx).1)
  simpa using h1
theorem setOK_sm {k n m : Nat} (hm : m ≤ 4681) {L : List (List Nat)} (hr : ∀ x ∈ L, Rt x ∧ x.length ≤ k) (hl : InT n L) (ha : Asc L) (hc : L.length ≤ m) : SetOK n L := ⟨by omega, fun x hx => (hr x hx).1, hl, ha⟩
def SymT (T n s : Nat) : Prop := s < T ∨ (16 ≤ s ∧ s < 16 + n)
theorem SymT.n {T n s : Nat} (h : SymT T n s) (hT : T ≤ 8) : SymN n s := by rcases h with h | h; exact .inl (by omega); exact .inr h
theorem fst_sm {k T n : Nat} (hk : k ≤ 4) (hT : T ≤ 8) {m : Nat} {S : Sets} (hS : SmS k T m S) {l : List Nat} {B : List (List Nat)} (hB : ∀ x ∈ B, Rt x ∧ x.length ≤ k) (hB2 : InT T B) (hB3 : Asc B) (hl : ∀ s ∈ l, SymT T n s) :
    (∀ x ∈ fstF k S B l, Rt x ∧ x.length ≤ k) ∧ InT T (fstF k S B l) ∧ Asc (fstF k S B l) ∧ (fstF k S B l).length ≤ (T + 1) ^ k := by
  have h1 := fst_rt hk (fun a x hx => (hS.rt a x hx).1) hB (fun s hs => (hl s hs).n hT)
  have h2 := fst_in (k := k) hS.lt hB2 (l := l) fun s hs h8 => by rcases hl s hs with h | h <;> omega
  have h3 := fst_asc (k := k) (S := S) (l := l) hB3
  exact ⟨h1, h2, h3, cardB (asc_nodup h3) fun x hx => ⟨(h1 x hx).2, h2 x hx⟩⟩
def vecS (S : Sets) (n : Nat) : Ob := .vec 35 false 1 n ((List.range n).map fun a => AV.d (lks (S a)))
theorem vecS_refs (S : Sets) (n m : Nat) : [vecS S n].all (refOb m) = true := by
  simp only [vecS, List.all_cons, List.all_nil, refOb, Bool.and_true, List.all_eq_true]
  intro x hx
  obtain ⟨c, _, rfl⟩ := List.mem_map.1 hx; rfl
set_option maxHeartbeats 2000000 in
theorem ofRef {g : Gram} {k T n : Nat} (hgk : g.k = (k : Int)) (hk1 : 1 ≤ k) (hk : k ≤ 4) (hT : g.tokens.length = T) (hT1 : 1 ≤ T) (hT8 : T ≤ 8) (hM : (T + 1) ^ k ≤ 150) (S : Sets) (hS : SmS k T ((T + 1) ^ k) S) (l : List Nat) (hl : ∀ s ∈ l, SymT T n s) (hn : n ≤ 8) (hll : l.length ≤ 1000) :
    ACall Tryz.prog 59 [.d (encG g), .d (.sl 1 (l.map nI)), .vs 0 1 0 n] [vecS S n] (.d (lks (fstF k S [[]] l))) [vecS S n] := by
  have w : Fz [3, 11, 24] := trivial
  have hml : (l.map nI).length = l.length := by simp
  have htk : (g.tokens.map DV.str).length = T := by simp [hT]
  have hM2 : (T + 1) ^ k * (T + 1) ^ k ≤ 150 * 150 := Nat.mul_le_mul hM hM
  have h1M : 1 ≤ (T + 1) ^ k := Nat.one_le_pow _ _ (by omega)
  refine acallG_of_run Et_ok (fnB Tryz.func59 [3, 11, 24]) rfl rfl (Nat.le_refl _) (vecS_refs _ _ _) rfl ?_
  have w : Fz [3, 11, 24] := trivial
  repeat' (first
    | refine zW ?_
    | refine zB ?_ ?_ <;> intro h <;> try exact zk h
    | refine zX ?_
    | ((exfalso; simp at h; done))
    | fail)
  refine Run.loopT (fun i : Nat => ⟨PT.ofList [(1, .d (.sl 1 (l.map nI))), (2, .vs 0 1 0 n), (3, .d (.ep [.int .i64 g.k, strs g.tokens, .str g.sep, strs g.names, .int .i64 g.start, .sl 2 (g.prods.map encP)])), (7, .d (lks (fstF k S [[]] (l.take i)))), (8, .d (nI i))], [vecS S n], []⟩) (fun i => i ≤ l.length) (fun i => l.length - i) 0 (Nat.zero_le _) (tidy_of _ 1 rfl rfl ⟨.inl rfl, .inl rfl, .inl rfl, .inl rfl, .inl rfl, trivial⟩ ⟨rfl, rfl, rfl, rfl, rfl, trivial⟩ (vecS_refs _ _ _) rfl) (fun i hi => ?_)
  rcases Nat.lt_or_ge i l.length with hil | hig
  · obtain ⟨s, hs⟩ := get_ok hil
    have hsy := hl s (List.mem_of_getElem? hs)
    obtain ⟨f1, f2, f3, f4⟩ := fst_sm hk hT8 hS (B := [[]]) emp_rt (fun x hx => by simp at hx; subst hx; simp) emp_asc (l := l.take i) fun s hs => hl s (List.mem_of_mem_take hs)
    have hFs := fstF_succ (k := k) (sets := S) (B := [[]]) hs
    generalize hF : fstF k S [[]] (l.take i) = F at *
    have hsy1 : (∀ x ∈ syF S s, Rt x ∧ x.length ≤ k) ∧ InT T (syF S s) ∧ Asc (syF S s) ∧ (syF S s).length ≤ (T + 1) ^ k := by
      unfold syF
      split
      · rename_i h8
        have hsT : s < T := by rcases hsy with h | h <;> omega
        exact ⟨fun x hx => by simp at hx; subst hx; exact ⟨⟨by simp, by simpa using h8⟩, by simpa using hk1⟩, fun x hx => by simp at hx; subst hx; simpa using hsT, by simp [Asc], by simpa using h1M⟩
      · exact ⟨hS.rt _, hS.lt _, hS.asc _, hS.len _⟩
    obtain ⟨s1, s2, s3, s4⟩ := hsy1
    have cs := sumRef2 hT1 hT8 k hk1 hk F (syF S s) (setOK_sm (m := 150) (by omega) f1 f2 f3 (by omega)) (setOK_sm (m := 150) (by omega) s1 s2 s3 (by omega)) (Nat.le_trans (Nat.mul_le_mul f4 s4) (by omega))
    rw [sum_prs (fun z hz => (f1 z hz).2) (fun z hz => (s1 z hz).2), ← hFs, ← htk, show nI k = DV.int .i64 g.k from congrArg (DV.int .i64) hgk.symm] at cs
    obtain ⟨F', hF'⟩ : ∃ F', F' = fstF k S [[]] (l.take (i + 1)) := ⟨_, rfl⟩
    rw [← hF'] at cs
    have tdy : ∀ tm : PT AV, tm.get? 1 = some (.d (.sl 1 (l.map nI))) → tm.get? 2 = some (.vs 0 1 0 n) → tm.get? 3 = some (.d (.ep [.int .i64 g.k, strs g.tokens, .str g.sep, strs g.names, .int .i64 g.start, .sl 2 (g.prods.map encP)])) → tm.get? 7 = some (.d (lks F')) → tm.get? 8 = some (.d (.int .i64 (IntKind.i64.wrap (((i : Nat) : Int) + 1)))) → Tidy 1 ⟨tm, [vecS S n], []⟩ ⟨PT.ofList [(1, .d (.sl 1 (l.map nI))), (2, .vs 0 1 0 n), (3, .d (.ep [.int .i64 g.k, strs g.tokens, .str g.sep, strs g.names, .int .i64 g.start, .sl 2 (g.prods.map encP)])), (7, .d (lks (fstF k S [[]] (l.take (i + 1))))), (8, .d (nI (i + 1)))], [vecS S n], []⟩ := fun tm h1 h2 h3 h4 h5 => by
      rw [← hF']
      exact tidy_of _ 1 rfl rfl ⟨.inl h1, .inl h2, .inl h3, .inl h4, .inl (inc_get h5 (by omega)), trivial⟩ ⟨rfl, rfl, rfl, rfl, rfl, trivial⟩ (vecS_refs _ _ _) rfl
    by_cases h8 : s < 8
    · rw [syF, if_pos h8] at cs
      repeat' (first
        | refine zW ?_
        | refine zB ?_ ?_ <;> intro h <;> try exact zk h
        | refine zX ?_
        | refine zI w (.d (.ep [nI s])) hs ?_
        | refine zI w (.d (.ep [nI s])) hs ?_
        | refine zC (cs) ?_
        | ((exfalso; simp at h; omega))
        | (exact ⟨i + 1, hil, by omega, tdy _ rfl rfl rfl rfl rfl⟩)
        | fail)
    · rw [syF, if_neg h8] at cs
      have hs16 : 16 ≤ s ∧ s - 16 < n := by rcases hsy with h | h <;> omega
      have hw : AV.d (.int .i64 (IntKind.i64.wrap (((s : Nat) : Int) - 16))) = .d (nI (s - 16)) := by
        congr 2; rw [show ((s : Nat) : Int) - 16 = ((s - 16 : Nat) : Int) by omega]; exact wrap_nat (by omega)
      have hcut : AV.bp 0 (0 + ((s - 16 : Nat) : Int).toNat * 1) = .bp 0 (s - 16) := by rw [Int.toNat_natCast, Nat.zero_add, Nat.mul_one]
      repeat' (first
        | refine zV hw ?_
        | refine zW ?_
        | refine zB ?_ ?_ <;> intro h <;> try exact zk h
        | refine zX ?_
        | refine zI w (.d (.ep [nI s])) hs ?_
        | refine zCut hcut ?_
        | refine oV (v := .d (lks (S (s - 16)))) ?_ (hv := evAny_loadV (c := .d (lks (S (s - 16)))) rfl rfl rfl rfl rfl (by simp [hs16.2]))
        | refine zC (cs) ?_
        | ((exfalso; simp at h; omega))
        | (exact ⟨i + 1, hil, by omega, tdy _ rfl rfl rfl rfl rfl⟩)
        | fail)
  · have hie : i = l.length := by omega
    subst hie
    rw [List.take_length]
    repeat' (first
      | refine zW ?_
      | refine zB ?_ ?_ <;> intro h <;> try exact zk h
      | refine zX ?_
      | ((exfalso; simp at h; omega))
      | fail)
    refine Run.ret ?_
    exact ⟨trivial, _, _, rfl, rfl, .refl, wk_refl _⟩
def cM : Nat := 9223372036854775807
theorem repL {n : Nat} {z : DV} : repeatL n ([z].map AV.d) = List.replicate n (.d z) := by
  induction n with
  | zero => rfl
  | succ n ih => rw [List.replicate_succ, ← ih]; rfl
structure CsOK (n : Nat) (cs : List Nat) : Prop where
  len : cs.length = n
  le : ∀ c ∈ cs, c ≤ cM
section
variable {E : PT Ty} {rd : Operand → AV} {objs : List Ob} {t : TypeId} {x : Operand} {y : Ty} {i off sz n : Nat} {T : TypeId} {ag : Bool} {cs : List AV} {c : AV}
theorem evOp_loadV (h1 : E.get? t = some y) (ha : isAggT y.desc = false) (hx : rd x = .bp i off) (hi : objs[i]? = some (.vec T ag sz n cs)) (hc : cs[off]? = some c) : evOp E rd objs (.load t x) = some (c, objs, true) := by
  cases cs with
  | nil => simp at hc
  | cons a l => simp only [evOp, loadR, h1, hx, hi, obCells, ha, hc, pureR, if_true]
end
theorem Run.vecNil {P : Program} {nt m : Nat} {ro' : Option Nat} {K : Ex → S → Prop} {c : Code} {tm : PT AV} {objs objs' : List Ob} {dl : List Dl} (i : Nat) {T : TypeId} {ag : Bool} {sz n : Nat} {cs cs' : List AV} (h : Run P nt m ro' c ⟨tm, objs', dl⟩ K) (hi : objs[i]? = some (.vec T ag sz n cs)) (he : objs.set i (.vec T ag sz n cs') = objs')
    (hl : cs'.length = cs.length) (hn : ∀ (j : Nat) c c', cs[j]? = some c → cs'[j]? = some c' → c' = c ∨ ∃ x y, c = .d x ∧ c' = .d y ∧ DvN x y) : Run P nt m ro' c ⟨tm, objs, dl⟩ K := by
  subst he
  intro D0 β0 o0 w0 hb0 ro Q a w hro hK hs
  obtain ⟨D, β, h1, h2, h3⟩ := hs
  have hil := (List.getElem?_eq_some_iff.1 hi).1
  obtain ⟨bi, hb⟩ : ∃ bi, β[i]? = some bi := ⟨β[i]'(by rw [h1.heap.len]; exact hil), by simp [h1.heap.len, hil]⟩
  obtain ⟨a', cap, g1, g2, g3, g4, g5, g6⟩ := h1.heap.hold i _ _ hb hi
  have st := Step.retell h1.heap (ob' := .vec T ag sz n cs') hb hi (fun b hb => hb) ⟨a', cap, g1, g2, g3, by rw [hl]; exact g4, g5, fun ad e => by
    obtain ⟨k1, vs, U, k2, k3, k4, k5, k6⟩ := g6 ad e
    refine ⟨k1, vs, U, k2, k3, fun j c v hc hv => ?_, k5, k6⟩
    have hj : j < cs.length := by rw [← hl]; exact (List.getElem?_eq_some_iff.1 hc).1
    obtain ⟨c0, hc0⟩ := get_ok hj
    have hr := k4 j c0 v hc0 hv
    rcases hn j c0 c hc0 hc with rfl | ⟨x, y, rfl, rfl, hxy⟩
    · exact hr
    · cases hr with
      | d k => exact .d (hxy.rep k)⟩
  exact h D0 β0 o0 w0 hb0 ro Q a w hro hK ⟨D, β, h1.trans st, h2.mono st.dsub st.bext, h3.mono st.dsub st.bext⟩
theorem sm_emp {k n m : Nat} : SmS k n m (fun _ => []) := ⟨fun a x hx => (nomatch hx), fun a x hx => (nomatch hx), fun a => List.Pairwise.nil, fun a => Nat.zero_le _⟩
structure PrT (T n : Nat) (ps : List (Nat × List Nat)) : Prop where
  lt : ∀ p ∈ ps, p.1 < n
  len : ∀ p ∈ ps, p.2.length ≤ 1000
  sy : ∀ p ∈ ps, ∀ s ∈ p.2, SymT T n s
theorem smS_step {k T n : Nat} (hk : k ≤ 4) (hT : T ≤ 8) {S : Sets} (hS : SmS k T ((T + 1) ^ k) S) {p : Nat × List Nat} (hp : ∀ s ∈ p.2, SymT T n s) : SmS k T ((T + 1) ^ k) (stepS k S p) := by
  obtain ⟨f1, f2, f3, _⟩ := fst_sm hk hT hS (B := [[]]) emp_rt (fun x hx => by simp at hx; subst hx; simp) emp_asc hp
  have key : ∀ x ∈ ascOf (S p.1 ++ fstF k S [[]] p.2), (Rt x ∧ x.length ≤ k) ∧ ∀ t ∈ x, t < T := fun x hx => by
    rcases List.mem_append.1 (mem_asc.1 hx) with h | h
    · exact ⟨hS.rt _ x h, hS.lt _ x h⟩
    · exact ⟨f1 x h, f2 x h⟩
  refine ⟨fun a x hx => ?_, fun a x hx => ?_, fun a => ?_, fun a => ?_⟩
  · unfold stepS updT at hx
    split at hx
    · exact (key x hx).1
    · exact hS.rt a x hx
  · unfold stepS updT at hx
    split at hx
    · exact (key x hx).2
    · exact hS.lt a x hx
  · unfold stepS updT
    split
    · exact asc_asc _
    · exact hS.asc a
  · unfold stepS updT
    split
    · exact cardB (asc_nodup (asc_asc _)) fun x hx => ⟨(key x hx).1.2, (key x hx).2⟩
    · exact hS.len a
theorem sm_round {k T n : Nat} (hk : k ≤ 4) (hT : T ≤ 8) : ∀ {ps : List (Nat × List Nat)} {S : Sets}, SmS k T ((T + 1) ^ k) S → (∀ p ∈ ps, ∀ s ∈ p.2, SymT T n s) → SmS k T ((T + 1) ^ k) (roundS k ps S)
  | [], _, h, _ => h
  | p :: ps, S, h, hp => sm_round hk hT (ps := ps) (S := stepS k S p) (smS_step hk hT h (hp p (by simp))) fun q hq => hp q (by simp [hq])
theorem sm_it {k T n : Nat} (hk : k ≤ 4) (hT : T ≤ 8) {ps : List (Nat × List Nat)} (hp : ∀ p ∈ ps, ∀ s ∈ p.2, SymT T n s) : ∀ m, SmS k T ((T + 1) ^ k) (itS k ps m)
  | 0 => sm_emp
  | m + 1 => sm_round hk hT (sm_it hk hT hp m) hp
theorem asc_full2 {A F : List (List Nat)} (hA : Asc A) (h : ¬ A.length < (ascOf (A ++ F)).length) : ascOf (A ++ F) = A :=
  asc_same hA fun z hz => Classical.byContradiction fun hn => h (asc_more hA hz hn)
theorem vecS_set {S : Sets} {n a : Nat} {X : List (List Nat)} (h : a < n) : Ob.vec 35 false 1 n (((List.range n).map fun a => AV.d (lks (S a))).take a ++ [AV.d (lks X)] ++ ((List.range n).map fun a => AV.d (lks (S a))).drop (a + 1)) = vecS (updT S a X) n := by
  unfold vecS
  congr 1
  refine List.ext_getElem? fun j => ?_
  have hl : (((List.range n).map fun a => AV.d (lks (S a))).take a).length = a := by simp; omega
  rcases Nat.lt_trichotomy j a with h1 | h1 | h1
  · rw [List.append_assoc, List.getElem?_append_left (by omega), List.getElem?_take_of_lt h1]
    simp [show j < n by omega, updT, show j ≠ a by omega]
  · subst h1
    rw [List.append_assoc, List.getElem?_append_right (by omega), hl]
    simp [h, updT]
  · rw [List.append_assoc, List.getElem?_append_right (by omega), hl, List.getElem?_append_right (by simp; omega)]
    simp only [List.length_cons, List.length_nil, List.getElem?_drop]
    rw [show a + 1 + (j - a - (0 + 1)) = j by omega]
    simp only [List.getElem?_map]
    by_cases hj : j < n
    · simp [hj, updT, show j ≠ a by omega]
    · simp [hj]
theorem vecS_0 (n : Nat) : ∀ (j : Nat) (c c' : AV), (List.replicate n (AV.d .nilsl))[j]? = some c → ((List.range n).map fun _ => AV.d (lks []))[j]? = some c' → c' = c ∨ ∃ x y, c = .d x ∧ c' = .d y ∧ DvN x y := fun j c c' h1 h2 => by
  have e1 := List.eq_of_mem_replicate (List.mem_of_getElem? h1)
  obtain ⟨_, _, e2⟩ := List.mem_map.1 (List.mem_of_getElem? h2)
  subst e1 e2
  exact .inr ⟨_, _, rfl, rfl, .nil⟩
theorem gS {α : Type} {l : List α} {a x : α} {i : Nat} (h : l[i]? = some x) : (l ++ [a])[i]? = some x := by rw [List.getElem?_append_left (List.getElem?_eq_some_iff.1 h).1]; exact h
theorem gL {α : Type} {l : List α} {a : α} {i : Nat} (h : l.length = i) : (l ++ [a])[i]? = some a := by subst h; simp
theorem ansMk {E : PT Ty} {ops : Array Oper} {ss : List S} {i j : Nat} {o : Oper} {si sj sk : S} {v : AV} {u1 u2 : List Ob} (e0 : ops[i]? = some o) (e1 : ss[i]? = some si) (e2 : ss[j]? = some sj) (e3 : ss[j + 1]? = some sk) (e4 : evOp E (rd si.tm) sj.objs o.op = some (v, u1, true)) (e5 : evOp E (rd si.tm) sk.objs o.op = some (v, u2, true)) : AnsAt E ops ss (i, j) :=
  ⟨o, si, sj, sk, v, u1, u2, e0, e1, e2, e3, e4, e5⟩
abbrev gE (g : Gram) : AV := .d (.ep [.int .i64 g.k, strs g.tokens, .str g.sep, strs g.names, .int .i64 g.start, .sl 2 (g.prods.map encP)])
set_option maxHeartbeats 4000000 in
theorem setsRef {g : Gram} {k T n : Nat} (hgk : g.k = (k : Int)) (hk1 : 1 ≤ k) (hk : k ≤ 4) (hT : g.tokens.length = T) (hT1 : 1 ≤ T) (hT8 : T ≤ 8) (hM : (T + 1) ^ k ≤ 150) (hN : g.names.length = n) (hn : n ≤ 8) (ps : List (Nat × List Nat)) (henc : g.prods.map encP = ps.map encQ) (hps : PrT T n ps) (hpl : ps.length ≤ 1000) :
    ACall Tryz.prog 31 [.d (encG g)] [] (.vs 0 1 0 n) [vecS (setsF k n ps) n] := by
  have w : Fz [1, 45] := trivial
  have htk : (g.tokens.map DV.str).length = T := by simp [hT]
  have hnk : (g.names.map DV.str).length = n := by simp [hN]
  have hpk : (g.prods.map encP).length = ps.length := by rw [henc]; simp
  have hgl : g.prods.length = ps.length := by have := hpk; rwa [List.length_map] at this
  have hsok := it_sok (k := k) hk (n := n) (ps := ps) fun p hp s hs => (hps.sy p hp s hs).n hT8
  refine acallG_of_run Et_ok (fnB Tryz.func31 [1, 45]) rfl rfl (Nat.zero_le _) (vecS_refs _ _ _) rfl ?_
  have w : Fz [1, 45] := trivial
  repeat refine zS ?_
  iterate 2 refine zX ?_
  repeat refine zS ?_
  iterate 2 refine zX ?_
  refine zV (show AV.d (.int .i64 (((g.names.map DV.str).length : Nat) : Int)) = .d (nI n) by rw [hnk]) ?_
  refine oV (v := .vs 0 1 0 n) (objs' := [.vec 35 false 1 n (List.replicate n (.d .nilsl))]) ?_ (hf := by simp [Nat.ble_eq, ty35]; omega) (he := by simp [ty35]) (ho := by simp only [Option.getD, Int.toNat_natCast, List.nil_append]; exact congrArg (fun z => [Ob.vec 35 false 1 n z]) repL)
  refine zX ?_
  refine RunOps.nil ?_
  refine Run.vecNil 0 (objs' := [vecS (fun _ => []) n]) (T := 35) (ag := false) (sz := 1) (n := n) (cs := List.replicate n (.d .nilsl)) (cs' := (List.range n).map fun _ => AV.d (lks [])) ?_ rfl rfl (by simp) (vecS_0 n)
  repeat refine zS ?_
  refine zX ?_
  repeat refine zS ?_
  refine Run.loopT (fun y : Nat × Bool => ⟨PT.ofList [(1, gE g), (3, .vs 0 1 0 n), (4, .d (.bool y.2))], [vecS (itS k ps y.1) n], []⟩) (fun y => (y.2 = true → y.1 ≤ tot (itS k ps y.1) n) ∧ (y.2 = false → itS k ps y.1 = setsF k n ps)) (fun y => if y.2 then n * 6561 + 2 - y.1 else 0) (0, true) ⟨fun _ => Nat.zero_le _, fun h => by cases h⟩ ?_ (fun ⟨m, ch⟩ ⟨hm1, hm2⟩ => ?_)
  · exact tidy_of _ 1 rfl rfl ⟨.inl rfl, .inl rfl, .inl rfl, trivial⟩ ⟨rfl, rfl, rfl, trivial⟩ (vecS_refs _ _ _) rfl
  simp only at hm1 hm2
  cases ch with
  | false =>
    rw [hm2 rfl]
    repeat refine zS ?_
    refine zX ?_
    repeat refine zS ?_
    iterate 2 refine zX ?_
    refine RunOps.nil ?_
    refine Run.ret ?_
    exact ⟨trivial, _, _, rfl, rfl, .refl, wk_refl _⟩
  | true =>
    have hmt := hm1 rfl
    have hml := tot_le (hsok m) n
    have hSm := sm_it (k := k) hk hT8 hps.sy m
    have hrd : itS k ps (m + 1) = roundS k ps (itS k ps m) := rfl
    generalize hS : itS k ps m = S at hmt hml hSm hrd
    repeat refine zS ?_
    refine zX ?_
    repeat refine zS ?_
    refine zX ?_
    repeat refine zS ?_
    refine zX ?_
    repeat refine zS ?_
    refine Run.loopT (fun y : Nat × Bool => ⟨PT.ofList [(1, gE g), (3, .vs 0 1 0 n), (4, .d (.bool y.2)), (5, .d (nI y.1))], [vecS (roundS k (ps.take y.1) S) n], []⟩)
      (fun y => y.1 ≤ ps.length ∧ (y.2 = true → tot S n < tot (roundS k (ps.take y.1) S) n) ∧ (y.2 = false → roundS k (ps.take y.1) S = S) ∧ tot S n ≤ tot (roundS k (ps.take y.1) S) n ∧ SmS k T ((T + 1) ^ k) (roundS k (ps.take y.1) S)) (fun y => ps.length - y.1) (0, false) ⟨Nat.zero_le _, by simp, fun _ => rfl, Nat.le_refl _, hSm⟩ ?_ (fun ⟨j, gr⟩ ⟨i1, i2, i3, i4, i5⟩ => ?_)
    · exact tidy_of _ 1 rfl rfl ⟨.inl rfl, .inl rfl, .inl rfl, .inl rfl, trivial⟩ ⟨rfl, rfl, rfl, rfl, trivial⟩ (vecS_refs _ _ _) rfl
    simp only at i1 i2 i3 i4 i5
    rcases Nat.lt_or_ge j ps.length with hjl | hjg
    · obtain ⟨p, hp⟩ := get_ok hjl
      have hpm := List.mem_of_getElem? hp
      have hlt := hps.lt p hpm
      have hrn : roundS k (ps.take (j + 1)) S = stepS k (roundS k (ps.take j) S) p := by
        unfold roundS
        rw [List.take_add_one, hp, List.foldl_append]; rfl
      generalize hSj : roundS k (ps.take j) S = Sj at i2 i3 i4 i5 hrn
      have hOf := ofRef (n := n) hgk hk1 hk hT hT1 hT8 hM Sj i5 p.2 (hps.sy p hpm) hn (hps.len p hpm)
      obtain ⟨f1, f2, f3, f4⟩ := fst_sm hk hT8 i5 (B := [[]]) emp_rt (fun x hx => by simp at hx; subst hx; simp) emp_asc (hps.sy p hpm)
      have hst : stepS k Sj p = updT Sj p.1 (ascOf (Sj p.1 ++ fstF k Sj [[]] p.2)) := rfl
      generalize hFF : fstF k Sj [[]] p.2 = F at hOf f1 f2 f3 f4 hst
      have hU := unionRef hT1 hT8 (Sj p.1) F (setOK_sm (m := 150) (by omega) (i5.rt _) (i5.lt _) (i5.asc _) (Nat.le_trans (i5.len _) hM)) (setOK_sm (m := 150) (by omega) f1 f2 f3 (by omega))
      rw [← htk] at hU
      have hpe : (g.prods.map encP)[j]? = some (encQ p) := by rw [henc, List.getElem?_map, hp]; rfl
      have hlen : (Sj p.1).length ≤ (ascOf (Sj p.1 ++ F)).length := nodup_le (asc_nodup (i5.asc p.1)) fun z hz => mem_asc.2 (List.mem_append.2 (.inl hz))
      have htt := tot_upd (S := Sj) (X := ascOf (Sj p.1 ++ F)) hlt
      repeat refine zS ?_
      iterate 4 refine zX ?_
      refine zV (lt_true (show j < (g.prods.map encP).length by omega)) ?_
      repeat refine zS ?_
      iterate 3 refine zX ?_
      refine oIv w (v := .d (.ep [nI (16 + p.1), .sl 1 (p.2.map nI)])) trivial ?_ (he := by simp [gD, cellsD, encQ, hpe])
      iterate 2 refine zX ?_
      refine zV (show AV.d (.int .i64 (IntKind.i64.wrap (((16 + p.1 : Nat) : Int) - 16))) = .d (nI p.1) by congr 2; rw [show ((16 + p.1 : Nat) : Int) - 16 = ((p.1 : Nat) : Int) by omega]; exact wrap_nat (by omega)) ?_
      refine zX ?_
      repeat refine zS ?_
      refine Run.drawC (frz := [1, 45]) Et_ok (by kernel_rfl) [(6, 15)] ?_
      refine cX ?_
      refine cX ?_
      refine cX ?_
      refine cX ?_
      refine cX ?_
      refine cX (v := .bp 0 p.1) ?_ (hf := by simp [inB]; omega) (he := show AV.bp 0 (0 + ((p.1 : Nat) : Int).toNat * 1) = .bp 0 p.1 by rw [Int.toNat_natCast, Nat.zero_add, Nat.mul_one])
      refine cX (v := .d (lks (Sj p.1))) ?_ (hv := evAny_loadV (c := .d (lks (Sj p.1))) rfl rfl rfl rfl rfl (by simp [hlt]))
      refine cX ?_
      refine cX ?_
      refine cX ?_
      refine cX ?_
      refine cX (v := .d (.ep [nI (16 + p.1), .sl 1 (p.2.map nI)])) ?_ (hf := by simp [inB]; omega) (he := by simp [gD, cellsD, encQ, hpe])
      refine cX ?_
      refine cX ?_
      refine cX ?_
      refine cAll hOf ?_
      refine cX ?_
      refine cAll (hU _) ?_
      refine cX ?_
      refine cX ?_
      refine cX ?_
      refine cX ?_
      refine cX ?_
      refine EvC.nil ⟨draw2 (by kernel_rfl), ⟨ansMk rfl (gS (gS (gS (gS (gS (gS (gS (gS (gS (gS (gS (gS (gS (gS (gS (gS (gL rfl))))))))))))))))) (gS (gS (gS (gS (gS (gS (gS (gL rfl)))))))) (gS (gS (gS (gS (gS (gS (gL rfl))))))) (evOp_loadV (c := .d (lks (Sj p.1))) rfl rfl rfl rfl (by simp [hlt])) (evOp_loadV (c := .d (lks (Sj p.1))) rfl rfl rfl rfl (by simp [hlt])), trivial⟩, ?_⟩
      have hX : SmS k T ((T + 1) ^ k) (updT Sj p.1 (ascOf (Sj p.1 ++ F))) := by rw [← hst]; exact smS_step hk hT8 i5 (hps.sy p hpm)
      have hsame := asc_full2 (F := F) (i5.asc p.1)
      clear hU hOf
      generalize ascOf (Sj p.1 ++ F) = X at *
      refine Run.tidy (tidy_of [(1, gE g), (3, .vs 0 1 0 n), (4, .d (.bool gr)), (5, .d (nI j)), (6, .d (nI p.1)), (7, .d (lks X))] 1 rfl rfl ⟨.inl rfl, .inl rfl, .inl rfl, .inl rfl, .inl rfl, .inl rfl, trivial⟩ ⟨rfl, rfl, rfl, rfl, rfl, rfl, trivial⟩ (vecS_refs _ _ _) rfl) ?_
      have hcut : AV.bp 0 (0 + ((p.1 : Nat) : Int).toNat * 1) = .bp 0 p.1 := by rw [Int.toNat_natCast, Nat.zero_add, Nat.mul_one]
      have hXl : (X.map lk).length = X.length := by simp
      have hSl : ((Sj p.1).map lk).length = (Sj p.1).length := by simp
      cases gr with
      | true =>
        have h1 := i2 rfl
        repeat' (first
          | refine zW ?_
          | refine zB ?_ ?_ <;> intro h <;> try exact zk h
          | refine zX ?_
          | refine zCut hcut ?_
          | (fail)
          | fail)
        refine oV (v := .d .any) (objs' := [vecS (updT Sj p.1 X) n]) ?_ (hv := evAny_storeV (c := .d (lks X)) rfl rfl rfl rfl rfl rfl rfl rfl (by simp; omega)) (ho := by rw [← vecS_set hlt]; rfl)
        repeat refine zS ?_
        iterate 3 refine zX ?_
        refine RunOps.nil ?_
        refine ⟨(j + 1, true), ⟨hjl, fun _ => by rw [hrn, hst]; omega, fun h => by (cases h), by rw [hrn, hst]; omega, by rw [hrn, hst]; exact hX⟩, by simp only; omega, ?_⟩
        show Tidy 0 _ ⟨PT.ofList _, [vecS (roundS k (ps.take (j + 1)) S) n], []⟩
        rw [hrn, hst]
        exact tidy_of _ 1 rfl rfl ⟨.inl rfl, .inl rfl, .inl rfl, .inl (inc_get rfl (by omega)), trivial⟩ ⟨rfl, rfl, rfl, rfl, trivial⟩ (vecS_refs _ _ _) rfl
      | false =>
        have h1 := i3 rfl
        by_cases hgt : (Sj p.1).length < X.length
        · repeat' (first
            | refine zW ?_
            | refine zB ?_ ?_ <;> intro h <;> try exact zk h
            | refine zX ?_
            | refine zCut hcut ?_
            | refine oV (v := .d (lks (Sj p.1))) ?_ (hv := evAny_loadV (c := .d (lks (Sj p.1))) rfl rfl rfl rfl rfl (by simp [hlt]))
            | ((exfalso; simp at h; omega))
            | fail)
          refine oV (v := .d .any) (objs' := [vecS (updT Sj p.1 X) n]) ?_ (hv := evAny_storeV (c := .d (lks X)) rfl rfl rfl rfl rfl rfl rfl rfl (by simp; omega)) (ho := by rw [← vecS_set hlt]; rfl)
          repeat refine zS ?_
          iterate 3 refine zX ?_
          refine RunOps.nil ?_
          refine ⟨(j + 1, true), ⟨hjl, fun _ => by rw [hrn, hst]; omega, fun h => by (cases h), by rw [hrn, hst]; omega, by rw [hrn, hst]; exact hX⟩, by simp only; omega, ?_⟩
          show Tidy 0 _ ⟨PT.ofList _, [vecS (roundS k (ps.take (j + 1)) S) n], []⟩
          rw [hrn, hst]
          exact tidy_of _ 1 rfl rfl ⟨.inl rfl, .inl rfl, .inl rfl, .inl (inc_get rfl (by omega)), trivial⟩ ⟨rfl, rfl, rfl, rfl, trivial⟩ (vecS_refs _ _ _) rfl
        · have h2 := hsame hgt
          repeat' (first
            | refine zW ?_
            | refine zB ?_ ?_ <;> intro h <;> try exact zk h
            | refine zX ?_
            | refine zCut hcut ?_
            | refine oV (v := .d (lks (Sj p.1))) ?_ (hv := evAny_loadV (c := .d (lks (Sj p.1))) rfl rfl rfl rfl rfl (by simp [hlt]))
            | ((exfalso; simp at h; omega))
            | fail)
          refine oV (v := .d .any) (objs' := [vecS (updT Sj p.1 X) n]) ?_ (hv := evAny_storeV (c := .d (lks X)) rfl rfl rfl rfl rfl rfl rfl rfl (by simp; omega)) (ho := by rw [← vecS_set hlt]; rfl)
          repeat refine zS ?_
          iterate 3 refine zX ?_
          refine RunOps.nil ?_
          have h3 : updT Sj p.1 X = S := by rw [h2, upd_same]; exact h1
          refine ⟨(j + 1, false), ⟨hjl, fun h => by (cases h), fun _ => by rw [hrn, hst]; exact h3, by rw [hrn, hst]; omega, by rw [hrn, hst]; exact hX⟩, by simp only; omega, ?_⟩
          show Tidy 0 _ ⟨PT.ofList _, [vecS (roundS k (ps.take (j + 1)) S) n], []⟩
          rw [hrn, hst]
          exact tidy_of _ 1 rfl rfl ⟨.inl rfl, .inl rfl, .inl rfl, .inl (inc_get rfl (by omega)), trivial⟩ ⟨rfl, rfl, rfl, rfl, trivial⟩ (vecS_refs _ _ _) rfl
    · have hje : j = ps.length := by omega
      subst hje
      rw [List.take_length, ← hrd] at i2 i3 i4 i5
      have h2 := tot_le (hsok (m + 1)) n
      repeat refine zS ?_
      iterate 4 refine zX ?_
      refine zV (lt_false (show (g.prods.map encP).length ≤ ps.length by omega)) ?_
      repeat refine zS ?_
      refine ⟨(m + 1, gr), ⟨fun h => ?_, fun h => ?_⟩, ?_, ?_⟩
      · have := i2 h; simp only at this ⊢; omega
      · have h1 := i3 h
        simp only
        rw [h1, ← hS]
        exact (sets_of (by rw [h1, hS]) (by omega)).symm
      · cases gr <;> simp <;> omega
      · show Tidy 0 _ ⟨PT.ofList _, [vecS (itS k ps (m + 1)) n], []⟩
        have e : itS k ps (m + 1) = roundS k (ps.take ps.length) S := by rw [List.take_length, ← hrd]
        rw [e]
        exact tidy_of _ 1 rfl rfl ⟨.inl rfl, .inl rfl, .inl rfl, trivial⟩ ⟨rfl, rfl, rfl, trivial⟩ (vecS_refs _ _ _) rfl
def fallN (g : Gram) : List (List (List Nat)) := (List.range g.names.length).map (setsG g)
set_option maxHeartbeats 4000000 in
theorem fAllK {g : Gram} (h : checkF g = 0) (hf : Fits g) (hc : ∀ a, (setsG g a).length ≤ 600) :
    KnownCall Tryz.prog 8 [encG g] (.tup [.d (.sl 1 ((fallN g).map lks)), .d (.int .i64 0), .d (.int .i64 0)]) := by
  have c := grCheck g hf
  rw [h] at c
  have v := valN h
  have hS := setsG_ok h
  have hR := objG_refs g
  have hol := objT_len .gone .gone (setsG g) g.names.length
  have hn8 := v.n8
  refine kF Tryz.func8 [1, 31] fun w => ?_
  repeat refine zS ?_
  iterate 4 refine zX ?_
  repeat refine zS ?_
  refine zX ?_
  refine zC c ?_
  refine zX ?_
  repeat refine zS ?_
  iterate 2 refine zX ?_
  repeat refine zS ?_
  refine zX ?_
  repeat refine zS ?_
  refine zX ?_
  refine oA (setsK h) ?_
  refine oV (v := .vs (2 + 3 * g.names.length) 1 0 g.names.length) ?_ (he := rfl)
  iterate 2 refine zX ?_
  refine RunOps.nil ?_
  obtain ⟨n, hn⟩ : ∃ n, n = g.names.length := ⟨_, rfl⟩
  have hal : ∀ a, a < n → (setsG g a).length ≤ 600 := fun a _ => hc a
  have hfa : fallN g = (List.range n).map (setsG g) := by rw [hn]; rfl
  rw [← hn] at hR hol hn8 ⊢
  rw [hfa]
  obtain ⟨O, hOd⟩ : ∃ O, O = objT .gone .gone (setsG g) n := ⟨_, rfl⟩
  have hat : ∀ a, a < n → ∀ X, (O ++ X)[3 * a + 3]? = some (.pm (kvT (setsG g a))) := fun a ha X => by rw [hOd]; exact objT_at ha
  have hrow : ∀ X, (O ++ X)[2 + 3 * n]? = some (.vec 62 false 1 n (cellsT n)) := fun X => by rw [hOd]; exact objT_row
  rw [← hOd] at hR hol ⊢
  clear hOd
  refine Run.mkRoom 6 1 [(6, .sr O.length 1 []), (16, .vs (2 + 3 * n) 1 0 n), (17, .d (nI n)), (18, .d (nI 0))] rfl (ofList_cases (by intro q hq; simp only [List.mem_cons, List.not_mem_nil, or_false] at hq; rcases hq with rfl | rfl | rfl | rfl; exact .inl ⟨rfl, rfl⟩; exact .inr (by kernel_rfl); exact .inr (by kernel_rfl); exact .inr (by kernel_rfl))) ?_
  repeat refine zS ?_
  have tdy : ∀ (tm : PT AV) (i : Nat), tm.get? 6 = some (.sr O.length 1 (((List.range i).map (setsG g)).map lks)) → tm.get? 16 = some (.vs (2 + 3 * n) 1 0 n) → tm.get? 17 = some (.d (nI n)) → tm.get? 18 = some (.d (nI i)) →
      Tidy 0 ⟨tm, O ++ [.room i 1], []⟩ ⟨PT.ofList [(6, .sr O.length 1 (((List.range i).map (setsG g)).map lks)), (16, .vs (2 + 3 * n) 1 0 n), (17, .d (nI n)), (18, .d (nI i))], O ++ [.room i 1], []⟩ := fun tm i t1 t2 t3 t4 => by
    refine tidy_of _ (O.length + 1) (List.take_of_length_le (by simp)) (Nat.ble_eq_true_of_le (Nat.zero_le _)) ⟨.inl t1, .inl t2, .inl t3, .inl t4, trivial⟩ ⟨by simp only [refA, Nat.blt_eq]; omega, by simp only [refA, Nat.blt_eq]; omega, rfl, rfl, trivial⟩ ?_ rfl
    rw [List.all_append, refs_mono (Nat.le_succ _) hR]; rfl
  refine Run.loopT (fun i : Nat => ⟨PT.ofList [(6, .sr O.length 1 (((List.range i).map (setsG g)).map lks)), (16, .vs (2 + 3 * n) 1 0 n), (17, .d (nI n)), (18, .d (nI i))], O ++ [.room i 1], []⟩) (fun i => i ≤ n) (fun i => n - i) 0 (Nat.zero_le _) ?_ (fun i hi => ?_)
  · exact tdy _ 0 rfl rfl rfl rfl
  · rcases Nat.lt_or_ge i n with hin | hin
    · repeat refine zS ?_
      refine zV (lt_true hin) ?_
      repeat refine zS ?_
      refine zX ?_
      refine zCut (show AV.bp (2 + 3 * n) (0 + ((i : Nat) : Int).toNat * 1) = .bp (2 + 3 * n) i by simp) ?_
      refine oV (v := .mp (3 * i + 3)) ?_ (hv := evAny_loadV rfl rfl rfl rfl (hrow _) (cellsT_at hin))
      iterate 2 refine zX ?_
      repeat refine zS ?_
      refine zX ?_
      refine oLenPm (hat i hin _) ?_
      have := hal i hin
      refine zV (show AV.d (.bool (decide ((((setsG g i).length : Nat) : Int) > 600))) = .d (.bool false) by rw [decide_eq_false (by omega)]) ?_
      repeat refine zS ?_
      iterate 2 refine zX ?_
      refine oA (sortedA (O ++ [.room i 1]) (by rw [List.all_append, refs_mono (by simp) hR]; rfl) (3 * i + 3) (setsG g i) (hat i hin _) (hS.asc i) fun x hx => (hS.rt i x hx).1) ?_
      refine zC (collectK (setsG g i) (fun x hx => (hS.rt i x hx).1.len) (by omega)) ?_
      refine zX ?_
      refine oV (v := .sr O.length 1 (((List.range (i + 1)).map (setsG g)).map lks)) (objs' := O ++ [.room (i + 1) 1]) ?_ (hv := app1 (i := O.length) (sz := 1) (k := 1) (es := ((List.range i).map (setsG g)).map lks) (ys := [lks (setsG g i)]) (n := i) (h8 := get0) (hn := by simp) (hlen := by simp; omega)) (he := by simp [List.range_succ]) (ho := by exact setL0)
      refine zX ?_
      repeat refine zS ?_
      iterate 2 refine zX ?_
      refine RunOps.nil ?_
      exact ⟨i + 1, hin, by omega, tdy _ (i + 1) rfl rfl rfl (inc_get rfl (by omega))⟩
    · have hie : i = n := by omega
      subst hie
      repeat refine zS ?_
      refine zV (lt_false (Nat.le_refl _)) ?_
      repeat refine zS ?_
      iterate 4 refine zX ?_
      repeat refine zS ?_
      refine Run.ret ?_
      exact ⟨trivial, _, _, rfl, rfl, rfl⟩
def tabL (L : List (List (List Nat))) : Sets := fun a => L.getD a []
def stepL (k : Nat) (L : List (List (List Nat))) (p : Nat × List Nat) : List (List (List Nat)) := L.set p.1 (ascOf (L.getD p.1 [] ++ fstF k (tabL L) [[]] p.2))
theorem tab_set {L : List (List (List Nat))} {a : Nat} (h : a < L.length) (X : List (List Nat)) : updT (tabL L) a X = tabL (L.set a X) := by
  funext c
  unfold updT tabL
  by_cases hc : c = a
  · subst hc; simp [List.getD_eq_getElem?_getD, h]
  · rw [if_neg hc]
    simp only [List.getD_eq_getElem?_getD]
    rw [List.getElem?_set_ne (Ne.symm hc)]
theorem round_tab {k : Nat} : ∀ {ps : List (Nat × List Nat)} {L : List (List (List Nat))}, (∀ p ∈ ps, p.1 < L.length) → roundS k ps (tabL L) = tabL (ps.foldl (stepL k) L)
  | [], _, _ => rfl
  | p :: ps, L, h => by
    show roundS k ps (stepS k (tabL L) p) = tabL (ps.foldl (stepL k) (stepL k L p))
    have e : stepS k (tabL L) p = tabL (stepL k L p) := tab_set (h p (by simp)) _
    rw [e]
    refine round_tab (ps := ps) fun q hq => ?_
    simp only [stepL, List.length_set]
    exact h q (by simp [hq])
def psE : List (Nat × List Nat) := [(0, [0, 16, 1]), (0, []), (1, [16, 17, 0]), (1, [1])]
def exL : List (List (List Nat)) := [[[], [0, 0], [0, 1]], [[0, 0], [0, 1], [1], [1, 0]]]
def itL (k : Nat) (ps : List (Nat × List Nat)) : Nat → List (List (List Nat)) → List (List (List Nat))
  | 0, L => L
  | m + 1, L => ps.foldl (stepL k) (itL k ps m L)
theorem stepL_len {k : Nat} : ∀ {ps : List (Nat × List Nat)} {L : List (List (List Nat))}, (ps.foldl (stepL k) L).length = L.length
  | [], _ => rfl
  | p :: ps, L => by
    show (ps.foldl (stepL k) (stepL k L p)).length = _
    rw [stepL_len (ps := ps)]; simp [stepL]
theorem it_tab {k : Nat} {ps : List (Nat × List Nat)} {L : List (List (List Nat))} (h0 : tabL L = fun _ => []) (h : ∀ p ∈ ps, p.1 < L.length) : ∀ m, itS k ps m = tabL (itL k ps m L) ∧ (itL k ps m L).length = L.length
  | 0 => ⟨h0.symm, rfl⟩
  | m + 1 => by
    obtain ⟨h1, h2⟩ := it_tab h0 h m
    refine ⟨?_, by simp only [itL]; rw [stepL_len, h2]⟩
    show roundS k ps (itS k ps m) = _
    rw [h1, round_tab fun p hp => by rw [h2]; exact h p hp]; rfl
theorem ex4 : itL 2 psE 4 [[], []] = exL := by decide
theorem ex5 : psE.foldl (stepL 2) exL = exL := by decide
theorem setsE : setsF 2 2 psE = tabL exL := by
  have h0 : tabL [[], []] = fun _ => [] := by
    funext a
    match a with
    | 0 | 1 => rfl
    | a + 2 => rfl
  have h := it_tab (k := 2) (ps := psE) h0 (by decide)
  have h4 := (h 4).1
  have h5 := (h 5).1
  rw [ex4] at h4
  rw [show itL 2 psE 5 [[], []] = exL from (by show psE.foldl (stepL 2) (itL 2 psE 4 [[], []]) = exL; rw [ex4, ex5])] at h5
  rw [sets_of (m := 4) (by rw [h5, h4]) (by decide), h4]
def exG : Gram := ⟨2, [[97], [98]], [110, 108], [[83], [84]], 16, [⟨16, [0, 16, 1]⟩, ⟨16, []⟩, ⟨17, [16, 17, 0]⟩, ⟨17, [1]⟩]⟩
theorem name_letters {s : List Nat} (hs : s ≠ []) (hl : s.length ≤ 12) (h : ∀ c ∈ s, letterF (c : Int) = true) (hn : languageF s = false) : nameF s = 0 := by
  have hw : wordF s = 0 := by
    rw [wordF_good hs (fun i ⟨c, h1, h2, _⟩ => by rw [h c (List.mem_of_getElem? h1)] at h2; cases h2), if_neg (by omega)]
  unfold nameF
  rw [if_neg (by rw [hn]; simp), hw]
theorem exV : checkF exG = 0 := by
  have n1 : ∀ s ∈ smalls exG, smallF s = true := by
    intro s hs
    have : s = [97] ∨ s = [98] ∨ s = [110, 108] := by simpa [smalls, exG] using hs
    rcases this with rfl | rfl | rfl <;>
    · simp only [smallF, Bool.and_eq_true, decide_eq_true_eq]
      exact ⟨name_letters (by simp) (by simp) (by decide) (by decide), by decide⟩
  have n2 : ∀ s ∈ exG.names, capitalF s = true := by
    intro s hs
    have : s = [83] ∨ s = [84] := by simpa [exG] using hs
    rcases this with rfl | rfl <;>
    · simp only [capitalF, Bool.and_eq_true, decide_eq_true_eq]
      exact ⟨name_letters (by simp) (by simp) (by decide) (by decide), by decide⟩
  have hm : manyF exG = 0 := by
    unfold manyF
    rw [if_neg]
    rintro (h | h | h | ⟨p, hp, h⟩)
    · simp [exG] at h
    · simp [exG] at h
    · simp [exG] at h
    · simp only [exG, List.mem_cons, List.not_mem_nil, or_false] at hp
      rcases hp with rfl | rfl | rfl | rfl <;> simp at h
  have hn : namedF exG = 0 := by
    unfold namedF
    rw [if_neg]
    rintro (⟨s, hs, h⟩ | ⟨s, hs, h⟩)
    · rw [n1 s hs] at h; cases h
    · rw [n2 s hs] at h; cases h
  have hns : namesF exG = 0 := by
    unfold namesF
    rw [if_neg, hn]
    rintro ⟨_, h | h⟩
    · exact h (by decide)
    · exact h (by decide)
  have hs : symbolsF exG = 0 := by
    unfold symbolsF
    rw [if_pos, if_neg, if_neg]
    · rintro ⟨i, hi, h⟩
      have : i = 0 ∨ i = 1 := by simp [exG] at hi; omega
      rcases this with rfl | rfl
      · have : prodsF exG (16 + (0 : Nat)) = [0, 1] := by decide
        rw [this] at h; cases h
      · have : prodsF exG (16 + (1 : Nat)) = [2, 3] := by decide
        rw [this] at h; cases h
    · rintro ⟨i, p, q, hp, hq, hlt⟩
      match i, hp, hq with
      | 0, hp, hq | 1, hp, hq | 2, hp, hq => simp [exG] at hp hq; subst hp hq; simp at hlt
      | i + 3, hp, hq => simp [exG] at hq
    · refine ⟨by decide, fun p hp => ?_⟩
      simp only [exG, List.mem_cons, List.not_mem_nil, or_false] at hp
      rcases hp with rfl | rfl | rfl | rfl <;> exact ⟨by decide, by decide⟩
  unfold checkF
  rw [if_neg (by simp [exG]), if_neg (by simp [hm]), if_neg (by simp [exG]), if_neg (by simp [hns]), hs]
theorem setsGE : setsG exG = tabL exL := setsE
theorem foE (l : List Nat) : foN exG l = fstF 2 (tabL exL) [[]] l := by unfold foN; rw [setsGE]; rfl
def isBx : List Nat → Nat → List AV
  | _, 0 => [.d (nI 0), .d (nI 0), .d (nI 0), .d (nI 0), .d (nI 0)]
  | a :: _, 1 => [.d (nI 1), .d (nI a), .d (nI 0), .d (nI 0), .d (nI 0)]
  | a :: b :: _, 2 => [.d (nI 2), .d (nI a), .d (nI b), .d (nI 0), .d (nI 0)]
  | _, _ => []
theorem is0 : KnownCall Tryz.prog 23 [.nilsl] (.d (lk [])) := by
  refine kF Tryz.func23 [] fun w => ?_
  repeat' (first
    | refine zW ?_
    | refine zB ?_ ?_ <;> intro h <;> try exact zk h
    | ((exfalso; (simp at h <;> fail)))
    | fail)
  refine Run.loop (fun i : Nat => ⟨PT.ofList [(0, .d .nilsl), (2, .bp 0 0), (3, .bp 1 0), (4, .d (nI i))], [.box (isBx [] 0), .box (isBx [] i)], []⟩) (fun i => i ≤ 0) (fun i => 0 - i) 0 (Nat.le_refl _) (weak_of (by repeat' (first | exact trivial | refine ⟨rfl, ?_⟩))) (fun i hi => ?_)
  obtain rfl : i = 0 := by omega
  repeat' (first
    | refine zW ?_
    | refine zB ?_ ?_ <;> intro h <;> try exact zk h
    | rfl
    | ((exfalso; (simp at h <;> fail)))
    | fail)
theorem is1 (a : Nat) : KnownCall Tryz.prog 23 [.sl 1 [nI a]] (.d (lk [a])) := by
  refine kF Tryz.func23 [] fun w => ?_
  repeat' (first
    | refine zW ?_
    | refine zB ?_ ?_ <;> intro h <;> try exact zk h
    | ((exfalso; (simp at h <;> fail)))
    | fail)
  refine Run.loop (fun i : Nat => ⟨PT.ofList [(0, .d (.sl 1 [nI a])), (2, .bp 0 0), (3, .bp 1 0), (4, .d (nI i))], [.box (isBx [] 0), .box (isBx [a] i)], []⟩) (fun i => i ≤ 1) (fun i => 1 - i) 0 (Nat.zero_le _) (weak_of (by repeat' (first | exact trivial | refine ⟨rfl, ?_⟩))) (fun i hi => ?_)
  have hc : i = 0 ∨ i = 1 := by omega
  rcases hc with rfl | rfl
  · repeat' (first
      | refine zW ?_
      | refine zB ?_ ?_ <;> intro h <;> try exact zk h
      | ((exfalso; (simp at h <;> fail)))
      | (exact ⟨1, by omega, by omega, weak_of (by repeat' (first | exact trivial | refine ⟨rfl, ?_⟩ | refine ⟨(inc_get (k := 0) (by kernel_rfl) (by omega)), ?_⟩))⟩)
      | fail)
  · repeat' (first
      | refine zW ?_
      | refine zB ?_ ?_ <;> intro h <;> try exact zk h
      | rfl
      | ((exfalso; (simp at h <;> fail)))
      | fail)
theorem is2 (a b : Nat) : KnownCall Tryz.prog 23 [.sl 1 [nI a, nI b]] (.d (lk [a, b])) := by
  refine kF Tryz.func23 [] fun w => ?_
  repeat' (first
    | refine zW ?_
    | refine zB ?_ ?_ <;> intro h <;> try exact zk h
    | ((exfalso; (simp at h <;> fail)))
    | fail)
  refine Run.loop (fun i : Nat => ⟨PT.ofList [(0, .d (.sl 1 [nI a, nI b])), (2, .bp 0 0), (3, .bp 1 0), (4, .d (nI i))], [.box (isBx [] 0), .box (isBx [a, b] i)], []⟩) (fun i => i ≤ 2) (fun i => 2 - i) 0 (Nat.zero_le _) (weak_of (by repeat' (first | exact trivial | refine ⟨rfl, ?_⟩))) (fun i hi => ?_)
  have hc : i = 0 ∨ i = 1 ∨ i = 2 := by omega
  rcases hc with rfl | rfl | rfl
  · repeat' (first
      | refine zW ?_
      | refine zB ?_ ?_ <;> intro h <;> try exact zk h
      | ((exfalso; (simp at h <;> fail)))
      | (exact ⟨1, by omega, by omega, weak_of (by repeat' (first | exact trivial | refine ⟨rfl, ?_⟩ | refine ⟨(inc_get (k := 0) (by kernel_rfl) (by omega)), ?_⟩))⟩)
      | fail)
  · repeat' (first
      | refine zW ?_
      | refine zB ?_ ?_ <;> intro h <;> try exact zk h
      | ((exfalso; (simp at h <;> fail)))
      | (exact ⟨2, by omega, by omega, weak_of (by repeat' (first | exact trivial | refine ⟨rfl, ?_⟩ | refine ⟨(inc_get (k := 1) (by kernel_rfl) (by omega)), ?_⟩))⟩)
      | fail)
  · repeat' (first
      | refine zW ?_
      | refine zB ?_ ?_ <;> intro h <;> try exact zk h
      | rfl
      | ((exfalso; (simp at h <;> fail)))
      | fail)
theorem exampleK : KnownCall Tryz.prog 42 [] (.d (encG exG)) := by
  refine known_toN (x := .agg [.int .i64 2, strs [[97], [98]], .str [110, 108], strs [[83], [84]], .int .i64 16, .sl 2 (exG.prods.map encN)]) ?_ (.agg rfl fun j x y hx hy => ?_)
  · refine kF Tryz.func42 [1, 2, 3, 6, 8, 10] fun w => ?_
    repeat' (first
      | refine zW ?_
      | refine zB ?_ ?_ <;> intro h <;> try exact zk h
      | refine zX ?_
      | rfl
      | (fail)
      | fail)
  · match j, hx, hy with
    | 0, hx, hy | 1, hx, hy | 2, hx, hy | 3, hx, hy | 4, hx, hy => simp at hx hy; subst hx hy; exact .refl
    | 5, hx, hy => simp at hx hy; subst hx hy; exact encN_to _
    | j + 6, hx, hy => simp at hx
theorem ex_fits : Fits exG := ⟨by decide, by decide, by decide, by decide, by decide, by decide, by decide⟩
theorem hasE (l : List Int) (hg : ∀ s ∈ l, goodS exG s = true) (hl : l.length ≤ 100) (hc : (foN exG (l.map Int.toNat)).length ≤ 600) (want : List (List Nat)) : KnownCall Tryz.prog 22 [ints l, lks want] (.d (.bool (decide (foN exG (l.map Int.toNat) = want)))) := by
  have c1 := fOfK exV ex_fits hg hl hc
  have c2 := sameLq (foN exG (l.map Int.toNat)) want (fun x hx => (fo_rt exV (syN exV hg).sy x hx).1.len) (by omega)
  have c0 := exampleK
  refine kF Tryz.func22 [] fun w => ?_
  repeat' (first
    | refine zW ?_
    | refine zB ?_ ?_ <;> intro h <;> try exact zk h
    | refine zC (c0) ?_
    | refine zK (c1) ?_ ?_ <;> intro h <;> try exact zk h
    | refine zC (c1) ?_
    | refine zC (c2) ?_
    | rfl
    | ((exfalso; (simp at h <;> fail)))
    | fail)
theorem awakeK : KnownCall Tryz.prog 6 [] (.d (.bool true)) := by
  have h1 := hasE [16] (by decide) (by decide) (by rw [foE]; decide) [[], [0, 0], [0, 1]]
  have h2 := hasE [17] (by decide) (by decide) (by rw [foE]; decide) [[0, 0], [0, 1], [1], [1, 0]]
  rw [foE, decide_eq_true (by decide)] at h1 h2
  have i0 := is0
  have i1 := is2 0 0
  have i2 := is2 0 1
  have i3 := is1 1
  have i4 := is2 1 0
  refine kF Tryz.func6 [1, 3, 5, 7, 10, 11, 13, 15, 17, 19] fun w => ?_
  repeat' (first
    | refine zW ?_
    | refine zB ?_ ?_ <;> intro h <;> try exact zk h
    | refine zX ?_
    | refine zC (i0) ?_
    | refine zC (i1) ?_
    | refine zC (i2) ?_
    | refine zC (h1) ?_
    | refine zC (i1) ?_
    | refine zC (i2) ?_
    | refine zC (i3) ?_
    | refine zC (i4) ?_
    | refine zC (h2) ?_
    | rfl
    | ((exfalso; (simp at h <;> fail)))
    | fail)
section
set_option maxRecDepth 10000
end
theorem nat_cast (l : List Nat) : (l.map fun s : Nat => (s : Int)).map Int.toNat = l := by
  rw [List.map_map]
  exact (List.map_congr_left fun s _ => rfl).trans (List.map_id' l)
structure SmG (g : Gram) : Prop where
  ok : checkF g = 0
  fits : Fits g
  k2 : g.k ≤ 2
def GdN (g : Gram) (l : List Nat) : Prop := l.length ≤ 100 ∧ ∀ s ∈ l, goodS g (s : Int) = true
theorem GdN.good {g : Gram} {l : List Nat} (h : GdN g l) : ∀ s ∈ l.map (fun s : Nat => (s : Int)), goodS g s = true := fun s hs => by
  obtain ⟨t, ht, rfl⟩ := List.mem_map.1 hs
  exact h.2 t ht
theorem GdN.sy {g : Gram} (hv : checkF g = 0) {l : List Nat} (h : GdN g l) : ∀ s ∈ l, SymN g.names.length s := by
  have := (syN hv h.good).sy
  rwa [nat_cast] at this
theorem rt_card2 {L : List (List Nat)} (hn : L.Nodup) (h : ∀ x ∈ L, Rt x ∧ x.length ≤ 2) : L.length ≤ 81 := by
  have h1 := seen_le 81 (L.map codeT) (by
    rw [List.Nodup, List.pairwise_map]
    exact hn.imp_of_mem fun ha hb hab e => hab (codeT_inj (h _ ha).1.lt (h _ hb).1.lt e)) fun c hc => by
      obtain ⟨x, hx, rfl⟩ := List.mem_map.1 hc
      have h2 := codeT_lt (h x hx).1.lt
      have h3 := (h x hx).2
      exact Nat.lt_of_lt_of_le h2 (Nat.pow_le_pow_right (n := 9) (by omega) h3)
  simpa using h1
theorem SmG.kk {g : Gram} (h : SmG g) : kN g ≤ 2 := by have := h.k2; unfold kN; omega
theorem SmG.len {g : Gram} (h : SmG g) {l : List Nat} (hl : GdN g l) : (foN g l).length ≤ 81 :=
  rt_card2 (asc_nodup (fo_asc g l)) fun x hx => ⟨(fo_rt h.ok (hl.sy h.ok) x hx).1, Nat.le_trans (fo_rt h.ok (hl.sy h.ok) x hx).2 h.kk⟩
section
variable {H : Hd} {frz : List Nat} {rd : Operand → AV} {objs : List Ob} {o : Oper} {t : TypeId} {m k : Operand} {i : Nat} {L : List (List Nat)} {x : List Nat}
end
section
set_option maxRecDepth 10000
end
section
set_option maxRecDepth 10000
end
theorem prT {g : Gram} (h : checkF g = 0) : PrT g.tokens.length g.names.length (psN g) := by
  have v := valN h
  have hs := (symbols_zero (check_parts h).2.2.2.2).1
  refine ⟨v.ok.lt, fun p hp => ?_, fun p hp s hs' => ?_⟩
  · exact v.ok.len p hp
  · obtain ⟨q, hq, rfl⟩ := List.mem_map.1 hp
    obtain ⟨t, ht, rfl⟩ := List.mem_map.1 hs'
    have h1 := (hs.2 q hq).2 t ht
    have h2 := (good_nat v.t8 h1).1
    simp only [goodS, isTerm, isNonterm, Bool.or_eq_true, Bool.and_eq_true, decide_eq_true_eq] at h1
    unfold SymT; omega
def SmGr (g : Gram) : Prop := (g.tokens.length + 1) ^ kN g ≤ 150
theorem setsG_sm {g : Gram} (h : checkF g = 0) : SmS (kN g) g.tokens.length ((g.tokens.length + 1) ^ kN g) (setsG g) := sm_it (valN h).k4 (valN h).t8 (prT h).sy _
theorem tok1 {g : Gram} (h : checkF g = 0) : 1 ≤ g.tokens.length := by
  obtain ⟨_, h1, _⟩ := check_parts h
  cases e : g.tokens with
  | nil => exact absurd e h1
  | cons a l => simp
theorem setsRefG {g : Gram} (h : checkF g = 0) (hm : SmGr g) : ACall Tryz.prog 31 [.d (encG g)] [] (.vs 0 1 0 g.names.length) [vecS (setsG g) g.names.length] := by
  have v := valN h
  exact setsRef v.k v.k1 v.k4 rfl (tok1 h) v.t8 hm rfl v.n8 (psN g) v.enc (prT h) (by have := v.len; omega)
theorem good_T {g : Gram} (h : checkF g = 0) {l : List Nat} (hl : ∀ s ∈ l, goodS g (s : Int) = true) : ∀ s ∈ l, SymT g.tokens.length g.names.length s := fun s hs => by
  have h1 := hl s hs
  simp only [goodS, isTerm, isNonterm, Bool.or_eq_true, Bool.and_eq_true, decide_eq_true_eq] at h1
  unfold SymT; omega
theorem ofRefG {g : Gram} (h : checkF g = 0) (hm : SmGr g) {l : List Nat} (hl : GdN g l) : ACall Tryz.prog 59 [.d (encG g), .d (.sl 1 (l.map nI)), .vs 0 1 0 g.names.length] [vecS (setsG g) g.names.length] (.d (lks (foN g l))) [vecS (setsG g) g.names.length] := by
  have v := valN h
  exact ofRef v.k v.k1 v.k4 rfl (tok1 h) v.t8 hm (setsG g) (setsG_sm h) l (good_T h hl.2) v.n8 (by have := hl.1; omega)
theorem firstRefE {g : Gram} (hf : Fits g) {l : List Int} (hl : l.length ≤ 1048576) (hne : chkFs g l ≠ 0) : KnownCall Tryz.prog 34 [encG g, ints l] (.tup [.d .nilsl, .d (.int .i64 (chkFs g l))]) := by
  have c := refCheck g hf
  have hll : (l.map (DV.int .i64)).length = l.length := by simp
  have htk : (g.tokens.map DV.str).length = g.tokens.length := by simp
  have hnk : (g.names.map DV.str).length = g.names.length := by simp
  by_cases h0 : checkF g = 0
  · have hn8 := (valN h0).n8
    have ht8 := (valN h0).t8
    by_cases h1 : 100 < l.length
    · have e : chkFs g l = 6 := by simp [chkFs, h0, h1]
      rw [e]
      rw [h0] at c
      refine kF Tryz.func34 [2] fun w => ?_
      repeat' (first
        | refine zW ?_
        | refine zB ?_ ?_ <;> intro h <;> try exact zk h
        | refine zC (c) ?_
        | rfl
        | ((exfalso; simp at h'; omega))
        | ((exfalso; simp at h; omega))
        | fail)
    · rw [h0] at c
      refine kF Tryz.func34 [2] fun w => ?_
      repeat' (first
        | refine zW ?_
        | refine zB ?_ ?_ <;> intro h <;> try exact zk h
        | refine zC (c) ?_
        | ((exfalso; simp at h; omega))
        | fail)
      refine Run.loopT (fun i : Nat => ⟨PT.ofList [(1, .d (ints l)), (2, gE g), (7, .d (nI i))], [], []⟩) (fun i => i ≤ l.length ∧ ∀ s ∈ l.take i, goodS g s = true) (fun i => l.length - i) 0 ⟨Nat.zero_le _, by simp⟩ (ti _ 0) (fun i hi => ?_)
      obtain ⟨hi1, hi2⟩ := hi
      rcases Nat.lt_or_ge i l.length with hlt | hge
      · obtain ⟨s, hs⟩ := get_ok hlt
        have hw : AV.d (.int .i64 (IntKind.i64.wrap (16 + (((g.names.map DV.str).length : Nat) : Int)))) = .d (nI (16 + g.names.length)) := by
          congr 2; rw [hnk, show (16 : Int) + ((g.names.length : Nat) : Int) = ((16 + g.names.length : Nat) : Int) by omega]; exact wrap_nat (by omega)
        cases hg : goodS g s with
        | true =>
          have hg' := hg
          simp only [goodS, isTerm, isNonterm, Bool.or_eq_true, Bool.and_eq_true, decide_eq_true_eq] at hg'
          have fin : ∀ t ∈ l.take (i + 1), goodS g t = true := fun t ht => by
            rw [List.take_add_one, hs] at ht
            rcases List.mem_append.1 ht with h | h
            · exact hi2 t h
            · simp at h; subst h; exact hg
          repeat' (first
            | refine zV hw ?_
            | refine zW ?_
            | refine zB ?_ ?_ <;> intro h <;> try exact zk h
            | refine zI w (.d (.ep [.int .i64 s])) hs ?_
            | (exact ⟨i + 1, ⟨hlt, fin⟩, by omega, ti _ 0⟩)
            | ((exfalso; simp at *; omega))
            | fail)
        | false =>
          have hg' := hg
          simp only [goodS, isTerm, isNonterm, Bool.or_eq_false_iff, Bool.and_eq_false_iff, decide_eq_false_iff_not] at hg'
          have e : chkFs g l = 14 := by
            unfold chkFs
            rw [if_neg (by simp [h0]), if_neg h1, if_neg]
            rw [List.all_eq_true]
            exact fun h => by rw [h s (List.mem_of_getElem? hs)] at hg; cases hg
          rw [e]
          repeat' (first
            | refine zV hw ?_
            | refine zW ?_
            | refine zB ?_ ?_ <;> intro h <;> try exact zk h
            | refine zI w (.d (.ep [.int .i64 s])) hs ?_
            | rfl
            | ((exfalso; simp at *; omega))
            | fail)
      · have hie : i = l.length := by omega
        subst hie
        rw [List.take_length] at hi2
        refine absurd ?_ hne
        unfold chkFs
        rw [if_neg (by simp [h0]), if_neg h1, if_pos (List.all_eq_true.2 hi2)]
  · have e : chkFs g l = checkF g := by simp [chkFs, h0]
    rw [e]
    generalize checkF g = x at *
    refine kF Tryz.func34 [2] fun w => ?_
    repeat refine zS ?_
    iterate 3 refine zX ?_
    repeat refine zS ?_
    refine zX ?_
    refine zC c ?_
    refine zX ?_
    repeat refine zS ?_
    refine zX ?_
    refine zV (show AV.d (.bool (x != 0)) = .d (.bool true) by simp [h0]) ?_
    repeat' (first
      | refine zW ?_
      | refine zB ?_ ?_ <;> intro h <;> try exact zk h
      | rfl
      | (fail)
      | fail)
set_option maxHeartbeats 1000000 in
theorem firstRefK {g : Gram} (hv : checkF g = 0) (hf : Fits g) (hm : SmGr g) {l : List Nat} (hl : GdN g l) : KnownCall Tryz.prog 34 [encG g, .sl 1 (l.map nI)] (.tup [.d (lks (foN g l)), .d (.int .i64 0)]) := by
  have c := refCheck g hf
  rw [hv] at c
  have hll : (l.map nI).length = l.length := by simp
  have htk : (g.tokens.map DV.str).length = g.tokens.length := by simp
  have hnk : (g.names.map DV.str).length = g.names.length := by simp
  have hn8 := (valN hv).n8
  have ht8 := (valN hv).t8
  have h100 := hl.1
  have hS := setsRefG hv hm
  have hO := ofRefG hv hm hl
  refine kF Tryz.func34 [2] fun w => ?_
  repeat' (first
    | refine zW ?_
    | refine zB ?_ ?_ <;> intro h <;> try exact zk h
    | refine zC (c) ?_
    | ((exfalso; simp at h; omega))
    | fail)
  refine Run.loopT (fun i : Nat => ⟨PT.ofList [(1, .d (.sl 1 (l.map nI))), (2, gE g), (7, .d (nI i))], [], []⟩) (fun i => i ≤ l.length) (fun i => l.length - i) 0 (Nat.zero_le _) (ti _ 0) (fun i hi => ?_)
  rcases Nat.lt_or_ge i l.length with hlt | hge
  · obtain ⟨s, hs⟩ := get_ok hlt
    have hw : AV.d (.int .i64 (IntKind.i64.wrap (16 + (((g.names.map DV.str).length : Nat) : Int)))) = .d (nI (16 + g.names.length)) := by
      congr 2; rw [hnk, show (16 : Int) + ((g.names.length : Nat) : Int) = ((16 + g.names.length : Nat) : Int) by omega]; exact wrap_nat (by omega)
    have hg' := hl.2 s (List.mem_of_getElem? hs)
    simp only [goodS, isTerm, isNonterm, Bool.or_eq_true, Bool.and_eq_true, decide_eq_true_eq] at hg'
    repeat' (first
      | refine zV hw ?_
      | refine zW ?_
      | refine zB ?_ ?_ <;> intro h <;> try exact zk h
      | refine zI w (.d (.ep [nI s])) hs ?_
      | (exact ⟨i + 1, hlt, by omega, ti _ 0⟩)
      | ((exfalso; simp at *; omega))
      | fail)
  · have hie : i = l.length := by omega
    subst hie
    repeat refine zS ?_
    iterate 3 refine zX ?_
    refine zV (lt_false (show (l.map nI).length ≤ l.length by omega)) ?_
    repeat refine zS ?_
    refine Run.drawC (frz := [2]) Et_ok (by kernel_rfl) [] ?_
    refine cX ?_
    refine cX ?_
    refine cX ?_
    refine cAll hS ?_
    refine cAll hO ?_
    refine cX ?_
    refine cX ?_
    refine EvC.nil ⟨draw2 (by kernel_rfl), trivial, ?_⟩
    repeat refine zS ?_
    exact zE rfl
set_option maxHeartbeats 1000000 in
theorem allRefK {g : Gram} (hv : checkF g = 0) (hf : Fits g) (hm : SmGr g) : KnownCall Tryz.prog 9 [encG g] (.tup [.d (.sl 1 ((fallN g).map lks)), .d (.int .i64 0), .d (.int .i64 0)]) := by
  have c := refCheck g hf
  rw [hv] at c
  have hS := setsRefG hv hm
  have hsm := setsG_sm hv
  have hM : ∀ a, (setsG g a).length ≤ 150 := fun a => Nat.le_trans (hsm.len a) hm
  have hn8 := (valN hv).n8
  refine kF Tryz.func9 [1] fun w => ?_
  repeat refine zS ?_
  iterate 4 refine zX ?_
  repeat refine zS ?_
  refine zX ?_
  refine zC c ?_
  refine zX ?_
  repeat refine zS ?_
  iterate 2 refine zX ?_
  repeat refine zS ?_
  refine zX ?_
  refine oA hS ?_
  refine zX ?_
  repeat refine zS ?_
  refine zX ?_
  repeat refine zS ?_
  refine Run.loopT (fun i : Nat => ⟨PT.ofList [(6, .vs 0 1 0 g.names.length), (7, .d (nI i))], [vecS (setsG g) g.names.length], []⟩) (fun i => i ≤ g.names.length) (fun i => g.names.length - i) 0 (Nat.zero_le _) (tidy_of _ 1 rfl rfl ⟨.inl rfl, .inl rfl, trivial⟩ ⟨rfl, rfl, trivial⟩ (vecS_refs _ _ _) rfl) (fun i hi => ?_)
  rcases Nat.lt_or_ge i g.names.length with hlt | hge
  · have hcut : AV.bp 0 (0 + ((i : Nat) : Int).toNat * 1) = .bp 0 i := by rw [Int.toNat_natCast, Nat.zero_add, Nat.mul_one]
    have hMi := hM i
    repeat' (first
      | refine zW ?_
      | refine zB ?_ ?_ <;> intro h <;> try exact zk h
      | refine zCut hcut ?_
      | refine oV (v := .d (lks (setsG g i))) ?_ (hv := evAny_loadV (c := .d (lks (setsG g i))) rfl rfl rfl rfl rfl (by simp [hlt]))
      | (exact ⟨i + 1, hlt, by omega, tidy_of _ 1 rfl rfl ⟨.inl rfl, .inl (inc_get rfl (by omega)), trivial⟩ ⟨rfl, rfl, trivial⟩ (vecS_refs _ _ _) rfl⟩)
      | ((exfalso; simp at h; omega))
      | fail)
  · have hie : i = g.names.length := by omega
    subst hie
    repeat refine zS ?_
    iterate 3 refine zX ?_
    refine zV (lt_false (Nat.le_refl _)) ?_
    repeat refine zS ?_
    iterate 4 refine zX ?_
    refine RunOps.nil ?_
    have e : (flatD ((fallN g).map lks)).map AV.d = (List.range g.names.length).map fun a => AV.d (lks (setsG g a)) := by
      unfold fallN
      generalize List.range g.names.length = r
      induction r with
      | nil => rfl
      | cons a r ih => exact congrArg (AV.d (lks (setsG g a)) :: ·) ih
    refine Run.freezeVec 0 (es := (fallN g).map lks) (n := g.names.length) (sz := 1) (ag := false) (T := 35) (tm' := PT.ofList [(2, .d (.sl 1 ((fallN g).map lks))), (3, .d (.int .i64 0)), (4, .d (.int .i64 0))]) ?_ (by rw [e]; rfl) (by simp [fallN]) (fun e he => by obtain ⟨x, _, rfl⟩ := List.mem_map.1 he; rfl) (ofList_cases (by intro q hq; simp only [List.mem_cons, List.not_mem_nil, or_false] at hq; rcases hq with rfl | rfl | rfl; exact .inr ⟨by kernel_rfl, rfl⟩; exact .inl (by kernel_rfl); exact .inl (by kernel_rfl)))
    repeat refine zS ?_
    exact zE rfl
theorem allRefE {g : Gram} (hf : Fits g) (hv : checkF g ≠ 0) : KnownCall Tryz.prog 9 [encG g] (.tup [.d .nilsl, .d (.int .i64 0), .d (.int .i64 (checkF g))]) := by
  have c := refCheck g hf
  generalize checkF g = x at *
  refine kF Tryz.func9 [1] fun w => ?_
  repeat refine zS ?_
  iterate 4 refine zX ?_
  repeat refine zS ?_
  refine zX ?_
  refine zC c ?_
  refine zX ?_
  repeat refine zS ?_
  refine zX ?_
  refine zV (show AV.d (.bool (x != 0)) = .d (.bool true) by simp [hv]) ?_
  repeat' (first
    | refine zW ?_
    | refine zB ?_ ?_ <;> intro h <;> try exact zk h
    | rfl
    | (fail)
    | fail)
section
set_option maxRecDepth 10000
end
theorem ofRefK {g : Gram} (hv : checkF g = 0) (hf : Fits g) (hm : SmGr g) {l : List Nat} (hl : GdN g l) (hc : (foN g l).length ≤ 600) : KnownCall Tryz.prog 12 [encG g, .sl 1 (l.map nI)] (.tup [.d (lks (foN g l)), .d (.int .i64 0)]) := by
  have c := firstRefK hv hf hm hl
  refine kF Tryz.func12 [2] fun w => ?_
  repeat' (first
    | refine zW ?_
    | refine zB ?_ ?_ <;> intro h <;> try exact zk h
    | refine zC (c) ?_
    | rfl
    | ((exfalso; simp at *; omega))
    | fail)
theorem ofRefE {g : Gram} (hf : Fits g) {l : List Int} (hl : l.length ≤ 1048576) (hne : chkFs g l ≠ 0) : KnownCall Tryz.prog 12 [encG g, ints l] (.tup [.d .nilsl, .d (.int .i64 (chkFs g l))]) := by
  have c := firstRefE hf hl hne
  generalize chkFs g l = x at *
  refine kF Tryz.func12 [2] fun w => ?_
  repeat' (first
    | refine zW ?_
    | refine zB ?_ ?_ <;> intro h <;> try exact zk h
    | refine zC (c) ?_
    | rfl
    | ((exfalso; simp at *; omega))
    | fail)
theorem countRefK {g : Gram} (hv : checkF g = 0) (hf : Fits g) (hm : SmGr g) {l : List Nat} (hl : GdN g l) : KnownCall Tryz.prog 14 [encG g, .sl 1 (l.map nI)] (.tup [.d (nI (foN g l).length), .d (.int .i64 0)]) := by
  have c := firstRefK hv hf hm hl
  rw [show (foN g l).length = ((foN g l).map lk).length by simp]
  refine kF Tryz.func14 [2] fun w => ?_
  repeat' (first
    | refine zW ?_
    | refine zB ?_ ?_ <;> intro h <;> try exact zk h
    | refine zC (c) ?_
    | rfl
    | (fail)
    | fail)
theorem countRefE {g : Gram} (hf : Fits g) {l : List Int} (hl : l.length ≤ 1048576) (hne : chkFs g l ≠ 0) : KnownCall Tryz.prog 14 [encG g, ints l] (.tup [.d (.int .i64 0), .d (.int .i64 (chkFs g l))]) := by
  have c := firstRefE hf hl hne
  generalize chkFs g l = x at *
  refine kF Tryz.func14 [2] fun w => ?_
  repeat' (first
    | refine zW ?_
    | refine zB ?_ ?_ <;> intro h <;> try exact zk h
    | refine zC (c) ?_
    | rfl
    | (fail)
    | fail)
theorem fCountE {g : Gram} (hf : Fits g) {l : List Int} (hl : l.length ≤ 1048576) (hne : chkFs g l ≠ 0) : KnownCall Tryz.prog 13 [encG g, ints l] (.tup [.d (.int .i64 0), .d (.int .i64 (chkFs g l))]) := by
  have c := checkFst g hf l hl
  generalize chkFs g l = x at *
  refine kF Tryz.func13 [2] fun w => ?_
  repeat' (first
    | refine zW ?_
    | refine zB ?_ ?_ <;> intro h <;> try exact zk h
    | refine zC (c) ?_
    | rfl
    | ((exfalso; simp at h; exact hne h))
    | fail)
theorem fOfE {g : Gram} (hf : Fits g) {l : List Int} (hl : l.length ≤ 1048576) (hne : chkFs g l ≠ 0) : KnownCall Tryz.prog 11 [encG g, ints l] (.tup [.d .nilsl, .d (.int .i64 (chkFs g l))]) := by
  have c := checkFst g hf l hl
  generalize chkFs g l = x at *
  refine kF Tryz.func11 [2] fun w => ?_
  repeat' (first
    | refine zW ?_
    | refine zB ?_ ?_ <;> intro h <;> try exact zk h
    | refine zC (c) ?_
    | rfl
    | ((exfalso; simp at h; exact hne h))
    | fail)
theorem fAllE {g : Gram} (hf : Fits g) (hne : checkF g ≠ 0) : KnownCall Tryz.prog 8 [encG g] (.tup [.d .nilsl, .d (.int .i64 0), .d (.int .i64 (checkF g))]) := by
  have c := grCheck g hf
  generalize checkF g = x at *
  refine kF Tryz.func8 [1] fun w => ?_
  repeat' (first
    | refine zW ?_
    | refine zB ?_ ?_ <;> intro h <;> try exact zk h
    | refine zC (c) ?_
    | rfl
    | ((exfalso; simp at h; exact hne h))
    | fail)
def smlGF (g : Gram) : Bool := lightF g && decide (g.k < 1 ∨ 4 < g.k ∨ (g.k = 1 ∧ g.tokens.length ≤ 8) ∨ (g.k = 2 ∧ g.tokens.length ≤ 3) ∨ (g.k = 3 ∧ g.tokens.length ≤ 2))
set_option maxHeartbeats 4000000 in
theorem smallK (g : Gram) : KnownCall Tryz.prog 21 [encG g] (.d (.bool (smlGF g))) := by
  have hl := light g
  have htk : (g.tokens.map DV.str).length = g.tokens.length := by simp
  cases h1 : lightF g with
  | false =>
    rw [h1] at hl
    rw [show smlGF g = false by simp [smlGF, h1]]
    refine kF Tryz.func21 [1] fun w => ?_
    repeat' (first
      | refine zW ?_
      | refine zB ?_ ?_ <;> intro h <;> try exact zk h
      | refine zK (hl) ?_ ?_ <;> intro h <;> try exact zk h
      | refine zC (hl) ?_
      | rfl
      | ((exfalso; simp at h; done))
      | fail)
  | true =>
    rw [h1] at hl
    by_cases hc : g.k < 1 ∨ 4 < g.k ∨ (g.k = 1 ∧ g.tokens.length ≤ 8) ∨ (g.k = 2 ∧ g.tokens.length ≤ 3) ∨ (g.k = 3 ∧ g.tokens.length ≤ 2)
    · rw [show smlGF g = true by simp only [smlGF, h1, decide_eq_true hc, Bool.and_self]]
      refine kF Tryz.func21 [1] fun w => ?_
      repeat' (first
        | refine zW ?_
        | refine zB ?_ ?_ <;> intro h <;> try exact zk h
        | refine zK (hl) ?_ ?_ <;> intro h <;> try exact zk h
        | refine zC (hl) ?_
        | rfl
        | ((exfalso; simp only [List.length_map, gt_iff_lt, decide_eq_true_eq, decide_eq_false_iff_not, beq_iff_eq, beq_eq_false_iff_ne, ne_eq] at *; omega))
        | fail)
    · rw [show smlGF g = false by simp only [smlGF, h1, decide_eq_false hc, Bool.and_false]]
      refine kF Tryz.func21 [1] fun w => ?_
      repeat' (first
        | refine zW ?_
        | refine zB ?_ ?_ <;> intro h <;> try exact zk h
        | refine zK (hl) ?_ ?_ <;> intro h <;> try exact zk h
        | refine zC (hl) ?_
        | rfl
        | ((exfalso; simp only [List.length_map, gt_iff_lt, decide_eq_true_eq, decide_eq_false_iff_not, beq_iff_eq, beq_eq_false_iff_ne, ne_eq] at *; omega))
        | fail)
theorem sameSetsK (A : List (List (List Nat))) (hA : ∀ L ∈ A, (∀ x ∈ L, x.length ≤ 4) ∧ L.length ≤ 1048576) (hl : A.length ≤ 1048576) : KnownCall Tryz.prog 10 [.sl 1 (A.map lks), .sl 1 (A.map lks)] (.d (.bool true)) := by
  have hml : (A.map lks).length = A.length := by simp
  refine kF Tryz.func10 [] fun w => ?_
  repeat' (first
    | refine zW ?_
    | refine zB ?_ ?_ <;> intro h <;> try exact zk h
    | ((exfalso; simp at h; done))
    | fail)
  refine Run.loopT (fun i : Nat => ⟨PT.ofList [(0, .d (.sl 1 (A.map lks))), (1, .d (.sl 1 (A.map lks))), (5, .d (nI i))], [], []⟩) (fun i => i ≤ A.length) (fun i => A.length - i) 0 (Nat.zero_le _) (ti _ 0) (fun i hi => ?_)
  rcases Nat.lt_or_ge i A.length with hlt | hge
  · obtain ⟨L, hL⟩ := get_ok hlt
    obtain ⟨h4, h5⟩ := hA L (List.mem_of_getElem? hL)
    have c := sameLq L L h4 h5
    rw [decide_eq_true rfl] at c
    repeat' (first
      | refine zW ?_
      | refine zB ?_ ?_ <;> intro h <;> try exact zk h
      | refine zI w (.d (.ep [lks L])) hL ?_
      | refine zI w (.d (.ep [lks L])) hL ?_
      | refine zK (c) ?_ ?_ <;> intro h <;> try exact zk h
      | refine zC (c) ?_
      | (exact ⟨i + 1, hlt, by omega, ti _ 0⟩)
      | ((exfalso; first | (simp at h <;> fail) | (simp at h; omega)))
      | fail)
  · have hie : i = A.length := by omega
    subst hie
    repeat' (first
      | refine zW ?_
      | refine zB ?_ ?_ <;> intro h <;> try exact zk h
      | rfl
      | ((exfalso; first | (simp at h <;> fail) | (simp at h; omega)))
      | fail)
theorem sameSetsN : KnownCall Tryz.prog 10 [.nilsl, .nilsl] (.d (.bool true)) := by
  refine kF Tryz.func10 [] fun w => ?_
  repeat' (first
    | refine zW ?_
    | refine zB ?_ ?_ <;> intro h <;> try exact zk h
    | ((exfalso; simp at h; done))
    | fail)
  refine Run.loopT (fun i : Nat => ⟨PT.ofList [(0, .d .nilsl), (1, .d .nilsl), (5, .d (nI i))], [], []⟩) (fun i => i ≤ 0) (fun i => 0 - i) 0 (Nat.le_refl _) (ti _ 0) (fun i hi => ?_)
  obtain rfl : i = 0 := by omega
  repeat' (first
    | refine zW ?_
    | refine zB ?_ ?_ <;> intro h <;> try exact zk h
    | rfl
    | ((exfalso; simp at h; done))
    | fail)
theorem sameLN : KnownCall Tryz.prog 15 [.nilsl, .nilsl] (.d (.bool true)) := by
  refine kF Tryz.func15 [] fun w => ?_
  repeat' (first
    | refine zW ?_
    | refine zB ?_ ?_ <;> intro h <;> try exact zk h
    | ((exfalso; simp at h; done))
    | fail)
  refine Run.loopT (fun i : Nat => ⟨PT.ofList [(0, .d .nilsl), (1, .d .nilsl), (5, .d (nI i))], [], []⟩) (fun i => i ≤ 0) (fun i => 0 - i) 0 (Nat.le_refl _) (ti _ 0) (fun i hi => ?_)
  obtain rfl : i = 0 := by omega
  repeat' (first
    | refine zW ?_
    | refine zB ?_ ?_ <;> intro h <;> try exact zk h
    | rfl
    | ((exfalso; simp at h; done))
    | fail)
section
variable {H : Type} {enc : TypeId × Value → H} {w : World} {spare : Nat → Bool} {held : Bool} {fuel : Nat} {cs : List Value} {x : DataW H × List MemPlace}
abbrev Wf64 (n : Int) : Prop := (Lit.int .i64 n).wf = true
def wfStr (s : List Nat) : Prop := s.length ≤ maxLen ∧ ∀ c ∈ s, c < 256
structure WfProd (p : GProd) : Prop where
  left : Wf64 p.left
  len : p.right.length ≤ maxLen
  right : ∀ n ∈ p.right, Wf64 n
structure WfGram (g : Gram) : Prop where
  k : Wf64 g.k
  tokensL : g.tokens.length ≤ maxLen
  tokens : ∀ s ∈ g.tokens, wfStr s
  sep : wfStr g.sep
  namesL : g.names.length ≤ maxLen
  names : ∀ s ∈ g.names, wfStr s
  start : Wf64 g.start
  prodsL : g.prods.length ≤ maxLen
  prods : ∀ p ∈ g.prods, WfProd p
theorem cr_ints (hsp : ∀ b, spare b = true) (h : DataW.trod enc Tryz.prog w 0 spare held fuel 26 cs = some x) : ∃ l : List Int, CellsRep (heapD w) (ints l) cs ∧ l.length ≤ maxLen ∧ ∀ n ∈ l, Wf64 n :=
  cr_slice (DV.int .i64) Wf64 Tryz.underlying26 (by kernel_rfl) (Nat.le_refl _) hsp (fun n cs' y _ hy => cr_int Tryz.underlying3 hy) h
theorem cr_strs (hsp : ∀ b, spare b = true) (h : DataW.trod enc Tryz.prog w 0 spare held fuel 22 cs = some x) : ∃ l : List (List Nat), CellsRep (heapD w) (strs l) cs ∧ l.length ≤ maxLen ∧ ∀ s ∈ l, wfStr s :=
  cr_slice DV.str wfStr Tryz.underlying22 (by kernel_rfl) (Nat.le_refl _) hsp (fun n cs' y _ hy => cr_str Tryz.underlying9 hy) h
theorem cr_prod (hsp : ∀ b, spare b = true) (hl : cs.length = 2) (h : DataW.trod enc Tryz.prog w 0 spare held fuel 54 cs = some x) : ∃ p : GProd, CellsRep (heapD w) (encP p) cs ∧ WfProd p := by
  match cs, hl, h with
  | [v0, v1], _, h =>
    obtain ⟨n0, y0, e0⟩ := trod_field Tryz.underlying54 h 0 rfl (by kernel_rfl) rfl
    obtain ⟨n1, y1, e1⟩ := trod_field Tryz.underlying54 h 1 rfl (by kernel_rfl) rfl
    obtain ⟨a, ha, wa⟩ := cr_int Tryz.underlying3 e0
    obtain ⟨l, hl, wl, wr⟩ := cr_ints hsp e1
    exact ⟨⟨a, l⟩, cr_all ⟨⟨rfl, ha⟩, ⟨rfl, hl⟩, trivial⟩, ⟨wa, wl, wr⟩⟩
theorem cr_gram (hsp : ∀ b, spare b = true) (hl : cs.length = 6) (h : DataW.trod enc Tryz.prog w 0 spare held fuel 25 cs = some x) : ∃ g : Gram, CellsRep (heapD w) (encG g) cs ∧ WfGram g := by
  match cs, hl, h with
  | [v0, v1, v2, v3, v4, v5], _, h =>
    obtain ⟨n0, y0, e0⟩ := trod_field Tryz.underlying25 h 0 rfl (by kernel_rfl) rfl
    obtain ⟨n1, y1, e1⟩ := trod_field Tryz.underlying25 h 1 rfl (by kernel_rfl) rfl
    obtain ⟨n2, y2, e2⟩ := trod_field Tryz.underlying25 h 2 rfl (by kernel_rfl) rfl
    obtain ⟨n3, y3, e3⟩ := trod_field Tryz.underlying25 h 3 rfl (by kernel_rfl) rfl
    obtain ⟨n4, y4, e4⟩ := trod_field Tryz.underlying25 h 4 rfl (by kernel_rfl) rfl
    obtain ⟨n5, y5, e5⟩ := trod_field Tryz.underlying25 h 5 rfl (by kernel_rfl) rfl
    obtain ⟨k, hk, wk⟩ := cr_int Tryz.underlying3 e0
    obtain ⟨ts, hts, wt1, wt2⟩ := cr_strs hsp e1
    obtain ⟨sep, hsep, ws1, ws2⟩ := cr_str Tryz.underlying9 e2
    obtain ⟨ns, hns, wn1, wn2⟩ := cr_strs hsp e3
    obtain ⟨st, hst, wst⟩ := cr_int Tryz.underlying3 e4
    obtain ⟨ps, hps, wp1, wp2⟩ := cr_slice encP WfProd (sz := 2) Tryz.underlying23 (by kernel_rfl) (by omega) hsp (fun n cs' y hn hy => cr_prod hsp hn hy) e5
    exact ⟨⟨k, ts, sep, ns, st, ps⟩, cr_all ⟨⟨rfl, hk⟩, ⟨rfl, hts⟩, ⟨rfl, hsep⟩, ⟨rfl, hns⟩, ⟨rfl, hst⟩, ⟨rfl, hps⟩, trivial⟩, ⟨wk, wt1, wt2, ⟨ws1, ws2⟩, wn1, wn2, wst, wp1, wp2⟩⟩
theorem arg_ints {r : Reach} {b0 : Nat} {v : Value} {d : DataW H} {ps : List MemPlace} (hsp : ∀ b, spare b = true) (hval : Value.okWide Tryz.prog w r b0 26 v) (h : DataW.Trod enc Tryz.prog w 0 spare held 26 v d ps) :
    ∃ l : List Int, RepD (heapD w) (ints l) v ∧ l.length ≤ maxLen ∧ ∀ n ∈ l, Wf64 n := by
  obtain ⟨es, he, l, rfl, hl⟩ := arg_slice (sz := 1) (R := fun es => ∃ l : List Int, es = l.map (DV.int .i64) ∧ l.length ≤ maxLen ∧ ∀ n ∈ l, Wf64 n) Tryz.underlying26 hval h (fun n x hx => by
    obtain ⟨l, h1, h2⟩ := cr_ints hsp hx
    exact ⟨_, h1, l, rfl, h2⟩)
  exact ⟨l, he, hl⟩
theorem arg_gram {r : Reach} {b0 : Nat} {v : Value} {d : DataW H} {ps : List MemPlace} (hsp : ∀ b, spare b = true) (hval : Value.okWide Tryz.prog w r b0 25 v) (h : DataW.Trod enc Tryz.prog w 0 spare held 25 v d ps) :
    ∃ g : Gram, RepD (heapD w) (encG g) v ∧ WfGram g :=
  arg_agg (f := fun g : Gram => [.int .i64 g.k, strs g.tokens, .str g.sep, strs g.names, .int .i64 g.start, .sl 2 (g.prods.map encP)]) Tryz.underlying25 hval h (fun n cs x hl hx => cr_gram hsp (hl.trans (by kernel_rfl)) hx)
end
def litF (g : Gram) (l : List Int) : Bool := smlGF g && (decide (l.length ≤ 8) || (decide (100 < l.length) && decide (l.length ≤ 103)))
theorem litK (g : Gram) (l : List Int) : KnownCall Tryz.prog 5 [encG g, ints l] (.d (.bool (litF g l))) := by
  have c := smallK g
  have hl : (l.map (DV.int .i64)).length = l.length := by simp
  cases h1 : smlGF g with
  | false =>
    rw [h1] at c
    rw [show litF g l = false by simp [litF, h1]]
    refine kF Tryz.func5 [2] fun w => ?_
    repeat' (first
      | refine zW ?_
      | refine zB ?_ ?_ <;> intro h <;> try exact zk h
      | refine zK (c) ?_ ?_ <;> intro h <;> try exact zk h
      | refine zC (c) ?_
      | rfl
      | ((exfalso; simp at h; done))
      | fail)
  | true =>
    rw [h1] at c
    by_cases h8 : l.length ≤ 8
    · rw [show litF g l = true by simp [litF, h1, h8]]
      refine kF Tryz.func5 [2] fun w => ?_
      repeat' (first
        | refine zW ?_
        | refine zB ?_ ?_ <;> intro h <;> try exact zk h
        | refine zK (c) ?_ ?_ <;> intro h <;> try exact zk h
        | refine zC (c) ?_
        | rfl
        | ((exfalso; simp at h; omega))
        | fail)
    · by_cases h9 : 100 < l.length
      · by_cases h10 : l.length ≤ 103
        · rw [show litF g l = true by simp [litF, h1, h9, h10]]
          refine kF Tryz.func5 [2] fun w => ?_
          repeat' (first
            | refine zW ?_
            | refine zB ?_ ?_ <;> intro h <;> try exact zk h
            | refine zK (c) ?_ ?_ <;> intro h <;> try exact zk h
            | refine zC (c) ?_
            | rfl
            | ((exfalso; simp at h; omega))
            | fail)
        · rw [show litF g l = false by simp [litF, h1, h8, h10]]
          refine kF Tryz.func5 [2] fun w => ?_
          repeat' (first
            | refine zW ?_
            | refine zB ?_ ?_ <;> intro h <;> try exact zk h
            | refine zK (c) ?_ ?_ <;> intro h <;> try exact zk h
            | refine zC (c) ?_
            | rfl
            | ((exfalso; simp at h; omega))
            | fail)
      · rw [show litF g l = false by simp [litF, h1, h8, h9]]
        refine kF Tryz.func5 [2] fun w => ?_
        repeat' (first
          | refine zW ?_
          | refine zB ?_ ?_ <;> intro h <;> try exact zk h
          | refine zK (c) ?_ ?_ <;> intro h <;> try exact zk h
          | refine zC (c) ?_
          | rfl
          | ((exfalso; simp at h; omega))
          | fail)
theorem lit_parts {g : Gram} {l : List Int} (h : litF g l = true) : Fits g ∧ l.length ≤ 103 ∧ (checkF g = 0 → SmGr g) := by
  simp only [litF, smlGF, Bool.and_eq_true, Bool.or_eq_true, decide_eq_true_eq] at h
  obtain ⟨⟨h1, h2⟩, h3⟩ := h
  refine ⟨light_fits h1, by omega, fun hv => ?_⟩
  have v := valN hv
  have hk := v.k
  have k1 := v.k1
  have k4 := v.k4
  have t8 := v.t8
  unfold SmGr
  have hc : kN g = 1 ∨ (kN g = 2 ∧ g.tokens.length ≤ 3) ∨ (kN g = 3 ∧ g.tokens.length ≤ 2) := by omega
  rcases hc with e | ⟨e, ht⟩ | ⟨e, ht⟩
  · rw [e, Nat.pow_one]; omega
  · rw [e]; exact Nat.le_trans (Nat.pow_le_pow_left (show g.tokens.length + 1 ≤ 4 by omega) 2) (by decide)
  · rw [e]; exact Nat.le_trans (Nat.pow_le_pow_left (show g.tokens.length + 1 ≤ 3 by omega) 3) (by decide)
theorem chk_zero {g : Gram} {l : List Int} (h : chkFs g l = 0) : checkF g = 0 ∧ l.length ≤ 100 ∧ ∀ s ∈ l, goodS g s = true := by
  unfold chkFs at h
  split at h
  · exact absurd h (by assumption)
  · rename_i h0
    split at h
    · omega
    · split at h
      · rename_i h1 h2
        exact ⟨by omega, by omega, List.all_eq_true.1 h2⟩
      · omega
theorem good_GdN {g : Gram} {l : List Int} (hv : checkF g = 0) (hl : l.length ≤ 100) (h : ∀ s ∈ l, goodS g s = true) : GdN g (l.map Int.toNat) ∧ ints l = .sl 1 ((l.map Int.toNat).map nI) := by
  have t8 := (valN hv).t8
  refine ⟨⟨by rw [List.length_map]; exact hl, fun s hs => ?_⟩, ints_nat fun s hs => (good_nat t8 (h s hs)).1⟩
  obtain ⟨t, ht, rfl⟩ := List.mem_map.1 hs
  rw [← (good_nat t8 (h t ht)).1]
  exact h t ht
theorem fo_few {g : Gram} (hv : checkF g = 0) (hm : SmGr g) {l : List Nat} (hl : GdN g l) : (foN g l).length ≤ 150 :=
  Nat.le_trans (fst_sm (valN hv).k4 (valN hv).t8 (setsG_sm hv) (B := [[]]) emp_rt (fun x hx => by simp at hx; subst hx; simp) emp_asc (good_T hv hl.2)).2.2.2 hm
set_option maxHeartbeats 4000000 in
theorem lawFT0 (g : Gram) (l : List Int) : KnownCall Tryz.prog 3 [encG g, ints l] (.d (.bool true)) := by
  have hw := awakeK
  have hl := litK g l
  cases h1 : litF g l with
  | false =>
    rw [h1] at hl
    refine kF Tryz.func3 [2] fun w => ?_
    repeat' (first
      | refine zW ?_
      | refine zB ?_ ?_ <;> intro h <;> try exact zk h
      | refine zK (hl) ?_ ?_ <;> intro h <;> try exact zk h
      | refine zC (hl) ?_
      | refine zK (hw) ?_ ?_ <;> intro h <;> try exact zk h
      | refine zC (hw) ?_
      | rfl
      | ((exfalso; simp at h; done))
      | fail)
  | true =>
    rw [h1] at hl
    obtain ⟨hf, hl3, hm⟩ := lit_parts h1
    have how := ownGrammar g hf
    have hsame := sameSelf g hf
    have key : ∀ (A : DV) (e0 : Int) (L : DV) (n e1 : Int), KnownCall Tryz.prog 8 [encG g] (.tup [.d A, .d (.int .i64 0), .d (.int .i64 e0)]) → KnownCall Tryz.prog 9 [encG g] (.tup [.d A, .d (.int .i64 0), .d (.int .i64 e0)]) → KnownCall Tryz.prog 10 [A, A] (.d (.bool true)) →
        KnownCall Tryz.prog 11 [encG g, ints l] (.tup [.d L, .d (.int .i64 e1)]) → KnownCall Tryz.prog 12 [encG g, ints l] (.tup [.d L, .d (.int .i64 e1)]) → KnownCall Tryz.prog 15 [L, L] (.d (.bool true)) →
        KnownCall Tryz.prog 13 [encG g, ints l] (.tup [.d (.int .i64 n), .d (.int .i64 e1)]) → KnownCall Tryz.prog 14 [encG g, ints l] (.tup [.d (.int .i64 n), .d (.int .i64 e1)]) → KnownCall Tryz.prog 3 [encG g, ints l] (.d (.bool true)) := by
      intro A e0 L n e1 a1 a2 a3 o1 o2 o3 c1 c2
      refine kF Tryz.func3 [2] fun w => ?_
      repeat refine zS ?_
      iterate 2 refine zX ?_
      repeat refine zS ?_
      iterate 2 refine zX ?_
      refine zC hl ?_
      refine zX ?_
      repeat refine zS ?_
      refine zX ?_
      refine zC how ?_
      iterate 2 refine zX ?_
      refine RunOps.nil ?_
      refine Run.dropLastD (m := 0) (dl := []) (O := []) (ds := [.int .i64 g.k, strs g.tokens, .str g.sep, strs g.names, .int .i64 g.start, .sl 2 (g.prods.map encP)]) [(1, .d (ints l)), (2, gE g), (5, gE g)] ?_ (Nat.zero_le _) rfl rfl (ofList_cases (by intro q hq; simp only [List.mem_cons, List.not_mem_nil, or_false] at hq; rcases hq with rfl | rfl | rfl; exact .inl (by kernel_rfl); exact .inl (by kernel_rfl); exact .inr ⟨0, Nat.zero_le _, by kernel_rfl, rfl⟩)) ⟨rfl, rfl, rfl, trivial⟩
      repeat' (first
        | refine zW ?_
        | refine zB ?_ ?_ <;> intro h <;> try exact zk h
        | refine zC (a1) ?_
        | refine zC (a2) ?_
        | refine zK (a3) ?_ ?_ <;> intro h <;> try exact zk h
        | refine zC (a3) ?_
        | refine zC (o1) ?_
        | refine zC (o2) ?_
        | refine zK (o3) ?_ ?_ <;> intro h <;> try exact zk h
        | refine zC (o3) ?_
        | refine zC (c1) ?_
        | refine zC (c2) ?_
        | refine zK (hsame) ?_ ?_ <;> intro h <;> try exact zk h
        | refine zC (hsame) ?_
        | refine zK (hw) ?_ ?_ <;> intro h <;> try exact zk h
        | refine zC (hw) ?_
        | rfl
        | ((exfalso; simp at h; done))
        | fail)
    by_cases hc : chkFs g l = 0
    · obtain ⟨hv, h100, hgs⟩ := chk_zero hc
      obtain ⟨hgd, henc⟩ := good_GdN hv h100 hgs
      have hM := hm hv
      have hfew := fo_few hv hM hgd
      have hsm := setsG_sm hv
      have o1 := fOfK hv hf hgs h100 (by omega)
      have o2 := ofRefK hv hf hM hgd (by omega)
      have c1 := fCountK hv hf hgs h100
      have c2 := countRefK hv hf hM hgd
      rw [← henc] at o2 c2
      refine key _ _ _ _ _ (fAllK hv hf fun a => Nat.le_trans (hsm.len a) (Nat.le_trans hM (by omega))) (allRefK hv hf hM) (sameSetsK _ (fun L hL => ?_) (by have := (valN hv).n8; simp [fallN]; omega)) o1 o2 (by
        have := sameLq (foN g (l.map Int.toNat)) (foN g (l.map Int.toNat)) (fun x hx => (fo_rt hv (hgd.sy hv) x hx).1.len) (by omega)
        rwa [decide_eq_true rfl] at this) c1 c2
      obtain ⟨a, _, rfl⟩ := List.mem_map.1 hL
      exact ⟨fun x hx => (hsm.rt a x hx).1.len, by have := hsm.len a; have : (setsG g a).length ≤ 150 := Nat.le_trans this hM; omega⟩
    · have o1 := fOfE hf (by omega) hc
      have o2 := ofRefE hf (by omega) hc
      have c1 := fCountE hf (by omega) hc
      have c2 := countRefE hf (by omega) hc
      by_cases hv : checkF g = 0
      · have hM := hm hv
        have hsm := setsG_sm hv
        refine key _ _ _ _ _ (fAllK hv hf fun a => Nat.le_trans (hsm.len a) (Nat.le_trans hM (by omega))) (allRefK hv hf hM) (sameSetsK _ (fun L hL => ?_) (by have := (valN hv).n8; simp [fallN]; omega)) o1 o2 sameLN c1 c2
        obtain ⟨a, _, rfl⟩ := List.mem_map.1 hL
        exact ⟨fun x hx => (hsm.rt a x hx).1.len, by have := hsm.len a; have : (setsG g a).length ≤ 150 := Nat.le_trans this hM; omega⟩
      · exact key _ _ _ _ _ (fAllE hf hv) (allRefE hf hv) sameSetsN o1 o2 sameLN c1 c2
theorem lawFTA (g : Gram) (_ : WfGram g) (l : List Int) (_ : l.length ≤ maxLen ∧ ∀ n ∈ l, Wf64 n) : KnownCall Tryz.prog 3 [encG g, ints l] (.d (.bool true)) := lawFT0 g l
section
variable {H : Type} {enc : TypeId × Value → H} {w : World} {spare : Nat → Bool} {held : Bool} {fuel : Nat} {cs : List Value} {x : DataW H × List MemPlace}
end
section
variable {H : Type} {enc : TypeId × Value → H} {w : World} {spare : Nat → Bool} {held : Bool}
end
end Go.Av
end

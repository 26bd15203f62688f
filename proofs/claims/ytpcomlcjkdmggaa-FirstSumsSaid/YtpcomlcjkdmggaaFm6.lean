/-
  Parts of the way to the law, joined. Conditions stand at each.
-/
import Derived.Test.YtpcomlcjkdmggaaFm4
import Derived.Test.YtpcomlcjkdmggaaFm5
set_option linter.all false
noncomputable section
namespace Go.Av
open Go Go.Proofs
set_option maxRecDepth 10000
theorem take_app (k : Nat) (x y : List Nat) : (x ++ y.take k).take k = (x ++ y).take k := by
  rw [List.take_append, List.take_append, List.take_take]
  congr 2
  omega
theorem take_app2 (k : Nat) (x y : List Nat) : (x.take k ++ y).take k = (x ++ y).take k := by
  rw [List.take_append, List.take_append, List.take_take, Nat.min_self, List.length_take]
  congr 1
  by_cases h : k ≤ x.length
  · rw [Nat.min_eq_left h, Nat.sub_self, Nat.sub_eq_zero_of_le h]
  · rw [Nat.min_eq_right (by omega)]
theorem fst_shift {k : Nat} {S : Sets} : ∀ {l : List Nat} {B : List (List Nat)} {x : List Nat}, x ∈ fstF k S (ascOf B) l ↔ ∃ u ∈ B, ∃ v ∈ fstF k S [[]] l, (l = [] ∧ x = u) ∨ (l ≠ [] ∧ x = (u ++ v).take k)
  | [], B, x => by
    constructor
    · intro h
      exact ⟨x, mem_asc.1 h, [], by simp [fstF], .inl ⟨rfl, rfl⟩⟩
    · rintro ⟨u, hu, v, hv, ⟨_, rfl⟩ | ⟨h, _⟩⟩
      · exact mem_asc.2 hu
      · exact absurd rfl h
  | s :: l, B, x => by
    rw [mem_fst_cons, fst_shift]
    constructor
    · rintro ⟨z, hz, v, hv, h⟩
      obtain ⟨u, hu, y, hy, rfl⟩ := mem_prs.1 hz
      have hu' := mem_asc.1 hu
      rcases h with ⟨rfl, rfl⟩ | ⟨hl, rfl⟩
      · refine ⟨u, hu', y.take k, ?_, .inr ⟨by simp, (take_app k u y).symm⟩⟩
        rw [mem_fst_cons]
        exact mem_asc.2 (mem_prs.2 ⟨[], by simp, y, hy, by simp⟩)
      · refine ⟨u, hu', (y ++ v).take k, ?_, .inr ⟨by simp, ?_⟩⟩
        · rw [mem_fst_cons, fst_shift]
          exact ⟨y.take k, mem_prs.2 ⟨[], by simp, y, hy, by simp⟩, v, hv, .inr ⟨hl, (take_app2 k y v).symm⟩⟩
        · rw [take_app2, take_app, List.append_assoc]
    · rintro ⟨u, hu, w, hw, ⟨h, _⟩ | ⟨_, rfl⟩⟩
      · cases h
      · rw [mem_fst_cons, fst_shift] at hw
        obtain ⟨z, hz, v, hv, h⟩ := hw
        obtain ⟨e, he, y, hy, rfl⟩ := mem_prs.1 hz
        simp at he
        subst he
        refine ⟨(u ++ y).take k, mem_prs.2 ⟨u, mem_asc.2 hu, y, hy, rfl⟩, v, hv, ?_⟩
        rcases h with ⟨rfl, rfl⟩ | ⟨hl, rfl⟩
        · exact .inl ⟨rfl, by simp [take_app]⟩
        · exact .inr ⟨hl, by rw [List.nil_append, take_app2 k y v, take_app k u (y ++ v), take_app2 k (u ++ y) v, List.append_assoc]⟩
theorem fo_sum {g : Gram} (hv : checkF g = 0) {a b : List Nat} (ha : ∀ s ∈ a, SymN g.names.length s) (hb : ∀ s ∈ b, SymN g.names.length s) : foN g (a ++ b) = sumS (kN g) (foN g a) (foN g b) := by
  refine asc_ext (fo_asc _ _) (asc_asc _) fun x => ?_
  have e : foN g (a ++ b) = fstF (kN g) (setsG g) (foN g a) b := by unfold foN fstF; rw [List.foldl_append]
  have e2 : fstF (kN g) (setsG g) (foN g a) b = fstF (kN g) (setsG g) (ascOf (foN g a)) b := by rw [asc_self (fo_asc g a)]
  have hka := fun z hz => (fo_rt hv ha z hz).2
  have hkb := fun z hz => (fo_rt hv hb z hz).2
  have cut : ∀ {L : List (List Nat)}, (∀ z ∈ L, z.length ≤ kN g) → ∀ z, z ∈ cutS (kN g) L ↔ z ∈ L := fun {L} hL z => by
    unfold cutS
    rw [mem_asc, mem_prs]
    constructor
    · rintro ⟨u, hu, w, hw, rfl⟩
      simp at hw
      subst hw
      rw [List.append_nil, List.take_of_length_le (hL u hu)]; exact hu
    · intro hz
      exact ⟨z, hz, [], by simp, by rw [List.append_nil, List.take_of_length_le (hL z hz)]⟩
  rw [e, e2, fst_shift]
  unfold sumS
  rw [mem_asc, mem_prs]
  constructor
  · rintro ⟨u, hu, v, hv', h⟩
    refine ⟨u, (cut hka u).2 hu, v, (cut hkb v).2 hv', ?_⟩
    rcases h with ⟨rfl, rfl⟩ | ⟨_, h⟩
    · simp [fstF] at hv'
      subst hv'
      rw [List.append_nil, List.take_of_length_le (hka x hu)]
    · exact h
  · rintro ⟨u, hu, v, hv', rfl⟩
    have hu' := (cut hka u).1 hu
    have hv2 := (cut hkb v).1 hv'
    refine ⟨u, hu', v, hv2, ?_⟩
    by_cases hbn : b = []
    · subst hbn
      have : v = [] := by have := hv2; simp [foN, fstF] at this; exact this
      subst this
      exact .inl ⟨rfl, by rw [List.append_nil, List.take_of_length_le (hka u hu')]⟩
    · exact .inr ⟨hbn, rfl⟩
theorem RunOps.srTo {P : Program} {nt m : Nat} {ro' : Option Nat} {K : Ex → S → Prop} {ops : Array Oper} {lo : List Oper} {tm : PT AV} {objs : List Ob} {dl : List Dl} (tm' : PT AV) (h : RunOps P nt m ro' ops lo ⟨tm', objs, dl⟩ K) (ht : ∀ t v, tm'.get? t = some v → tm.get? t = some v ∨ ∃ i sz es, tm.get? t = some (.sr i sz es) ∧ v = .d (.sl sz es)) : RunOps P nt m ro' ops lo ⟨tm, objs, dl⟩ K := by
  intro D0 β0 o0 w0 hb0 ro Q a w i hro hlo hK hs
  obtain ⟨D, β, h1, h2, h3⟩ := hs
  refine h D0 β0 o0 w0 hb0 ro Q a w i hro hlo hK ⟨D, β, h1, ⟨h2.1, fun t => ?_⟩, h3⟩
  cases hv : tm'.get? t with
  | none => exact .d .any
  | some v =>
    have h4 := h2.2 t
    rcases ht t v hv with e | ⟨i, sz, es, e, rfl⟩
    · rw [e] at h4; exact h4
    · rw [e] at h4
      exact sr_data h4
set_option maxHeartbeats 4000000 in
theorem lawFM0 {g : Gram} (hg : SmG g) (nums x y : List Int) (hA : KnownCall Try.prog 8 [ints nums] (.d (encG g))) (hx : ∀ n ∈ x, W64 n) (hy : ∀ n ∈ y, W64 n) : KnownCall Try.prog 7 [ints nums, ints x, ints y] (.d (.bool true)) := by
  have hSa := symsK hg.ok x hx
  have hSb := symsK hg.ok y hy
  have hga := syL_good hg.ok x
  have hgb := syL_good hg.ok y
  have hla := syL_len g x
  have hlb := syL_len g y
  generalize syL g x = a at *
  generalize syL g y = b at *
  have hgab : GdN g (a ++ b) := ⟨by rw [List.length_append]; omega, fun s hs => (List.mem_append.1 hs).elim (hga.2 s) (hgb.2 s)⟩
  have hO1 := fOfN hg hga
  have hO2 := fOfN hg hgb
  have hO3 := fOfN hg hgab
  have hN := fNullK hg.ok hg.fits hgab
  have hv := valN hg.ok
  have hT := hv.t8
  have hT1 : 1 ≤ g.tokens.length := by
    obtain ⟨_, h1, _⟩ := check_parts hg.ok
    cases e : g.tokens with
    | nil => exact absurd e h1
    | cons a l => simp
  have hH := fHasK hg.ok hg.fits hgab [] (by simp) (by unfold chkL; rw [if_neg (by omega)]; simp; omega)
  have htk : (g.tokens.map DV.str).length = g.tokens.length := by simp
  have hSum := sumSet g.tokens.length hT1 hT (kN g) hv.k1 hv.k4 (foN g a) (foN g b) (set_fo hg hga) (set_fo hg hgb) (Nat.le_trans (Nat.mul_le_mul (hg.len hga) (hg.len hgb)) (by omega))
  rw [← fo_sum hg.ok (hga.sy hg.ok) (hgb.sy hg.ok), ← htk, show nI (kN g) = DV.int .i64 g.k from congrArg (DV.int .i64) hv.k.symm] at hSum
  have hs1 := sameLq (foN g (a ++ b)) (foN g (a ++ b)) (fun z hz => (fo_rt hg.ok (hgab.sy hg.ok) z hz).1.len) (by have := hg.len hgab; omega)
  rw [decide_eq_true rfl] at hs1
  have hw := awakeK
  refine kF Try.func7 [] fun w => ?_
  repeat refine zS ?_
  refine zX ?_
  repeat refine zS ?_
  refine zX ?_
  refine zC hA ?_
  iterate 2 refine zX ?_
  refine RunOps.nil ?_
  refine Run.dropLastD (m := 0) (dl := []) (O := []) (ds := [.int .i64 g.k, strs g.tokens, .str g.sep, strs g.names, .int .i64 g.start, .sl 2 (g.prods.map encP)]) [(1, .d (ints x)), (2, .d (ints y)), (7, .d (.ep [.int .i64 g.k, strs g.tokens, .str g.sep, strs g.names, .int .i64 g.start, .sl 2 (g.prods.map encP)]))] ?_ (Nat.zero_le _) rfl rfl (ofList_cases (by intro q hq; simp only [List.mem_cons, List.not_mem_nil, or_false] at hq; rcases hq with rfl | rfl | rfl; exact .inl (by kernel_rfl); exact .inl (by kernel_rfl); exact .inr ⟨0, Nat.zero_le _, by kernel_rfl, rfl⟩)) ⟨rfl, rfl, rfl, trivial⟩
  repeat' (first
    | refine zR ?_
    | refine zC (hSa) ?_
    | refine zC (hSb) ?_
    | refine zAp ?_
    | fail)
  refine RunOps.srTo (PT.ofList [(7, .d (.ep [.int .i64 g.k, strs g.tokens, .str g.sep, strs g.names, .int .i64 g.start, .sl 2 (g.prods.map encP)])), (8, .d (.sl 1 (a.map nI))), (9, .d (.sl 1 (b.map nI))), (10, .d (.sl 1 ((a ++ b).map nI))), (37, .d (encG g)), (38, .d (.sl 1 (a.map nI)))]) ?_ (ofList_cases (by intro q hq; simp only [List.mem_cons, List.not_mem_nil, or_false] at hq; rcases hq with rfl | rfl | rfl | rfl | rfl | rfl; exact .inl (by kernel_rfl); exact .inl (by kernel_rfl); exact .inl (by kernel_rfl); exact .inr ⟨0, 1, _, by kernel_rfl, by rw [List.map_append]⟩; exact .inl (by kernel_rfl); exact .inl (by kernel_rfl)))
  repeat' (first
    | refine zW ?_
    | refine zB ?_ ?_ <;> intro h <;> try exact zk h
    | refine zC (hO1) ?_
    | refine zC (hO2) ?_
    | refine zC (hO3) ?_
    | refine zC (hSum) ?_
    | refine zC (hN) ?_
    | refine zC (hH) ?_
    | refine zC (hs1) ?_
    | refine zC (hw) ?_
    | rfl
    | ((exfalso; simp at h; done))
    | fail)
theorem lawFMA (nums : List Int) (hn : nums.length ≤ maxLen ∧ ∀ n ∈ nums, Wf64 n) (x : List Int) (hx : x.length ≤ maxLen ∧ ∀ n ∈ x, Wf64 n) (y : List Int) (hy : y.length ≤ maxLen ∧ ∀ n ∈ y, Wf64 n) : KnownCall Try.prog 7 [ints nums, ints x, ints y] (.d (.bool true)) := lawFM0 (anySm nums) nums x y (anyS nums fun n h => w64_f (hn.2 n h)) (fun n h => w64_f (hx.2 n h)) fun n h => w64_f (hy.2 n h)
end Go.Av
end

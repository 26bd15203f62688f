/-
  Parts of the way to the law, joined: rules for code over data, and what the functions return. Conditions stand at each.
-/
import Derived.Test.YtchoocpngfhkpaaN4
import Derived.Test.YtchoocpngfhkpaaN3
import Derived.Test.YtchoocpngfhkpaaN2
noncomputable section
namespace Go.Av
open Go Go.Proofs
set_option maxRecDepth 10000
theorem word1 {c : Nat} (h : letterF c = true) : nameF [c] = 0 := by
  have hw : wordF [c] = 0 := by
    rw [wordF_good (by simp) (fun i hb => by
      obtain ⟨d, hd, hl, _⟩ := hb
      cases i with
      | zero => simp at hd; subst hd; rw [h] at hl; cases hl
      | succ i => simp at hd)]
    simp
  unfold nameF
  rw [hw, if_neg]
  rintro ⟨_, hl⟩
  simp [languageF, wLook, wToken, wSep, wStart] at hl
theorem small1 {c : Nat} (h1 : 97 ≤ c) (h2 : c ≤ 122) : smallF [c] = true := by
  have hl : letterF c = true := by simp [letterF]; omega
  simp [smallF, word1 hl, h1]
theorem capital1 {c : Nat} (h1 : 65 ≤ c) (h2 : c ≤ 90) : capitalF [c] = true := by
  have hl : letterF c = true := by simp [letterF]; omega
  simp [capitalF, word1 hl]; omega
theorem acc_mem {nums : List Int} {T M : Nat} : ∀ {i : Nat} {p : GProd}, p ∈ accTo nums T M i → ∃ a j, a < i ∧ p = prodN nums T M a j
  | 0, p, h => by cases h
  | i + 1, p, h => by
    simp only [accTo] at h
    rcases List.mem_append.1 (List.mem_of_mem_take h) with h | h
    · obtain ⟨a, j, ha, e⟩ := acc_mem h
      exact ⟨a, j, by omega, e⟩
    · simp only [rowTo, List.mem_map] at h
      obtain ⟨j, _, e⟩ := h
      exact ⟨i, j, by omega, e.symm⟩
theorem acc_sorted {nums : List Int} {T M : Nat} : ∀ i : Nat, (accTo nums T M i).Pairwise (fun a b => a.left ≤ b.left)
  | 0 => .nil
  | i + 1 => by
    simp only [accTo]
    refine List.Pairwise.sublist (List.take_sublist 7 _) ?_
    rw [List.pairwise_append]
    refine ⟨acc_sorted i, ?_, fun p hp q hq => ?_⟩
    · rw [rowTo, List.pairwise_map]
      exact List.pairwise_iff_getElem.2 fun _ _ _ _ _ => Int.le_refl _
    · obtain ⟨a, j, ha, rfl⟩ := acc_mem hp
      simp only [rowTo, List.mem_map] at hq
      obtain ⟨j', _, rfl⟩ := hq
      simp only [prodN]; omega
theorem acc_short {nums : List Int} {T M : Nat} : ∀ i : Nat, (accTo nums T M i).length ≤ 3 * i
  | 0 => Nat.le_refl _
  | i + 1 => by
    have := acc_short (nums := nums) (T := T) (M := M) i
    simp only [accTo, List.length_take, List.length_append, rowTo, List.length_map, List.length_range]
    omega
theorem acc_has {nums : List Int} {T M : Nat} : ∀ {i a : Nat}, a < i → i ≤ 3 → ∃ p ∈ accTo nums T M i, p.left = ((16 + a : Nat) : Int)
  | i + 1, a, h, hi => by
    have hs := acc_short (nums := nums) (T := T) (M := M) i
    simp only [accTo]
    rcases Nat.lt_or_ge a i with ha | ha
    · obtain ⟨p, hp, e⟩ := acc_has (nums := nums) (T := T) (M := M) ha (by omega)
      refine ⟨p, ?_, e⟩
      rw [List.take_append]
      exact List.mem_append_left _ (by rw [List.take_of_length_le (by omega)]; exact hp)
    · have ha : a = i := by omega
      subst ha
      refine ⟨prodN nums T M a 0, ?_, rfl⟩
      rw [List.take_append]
      refine List.mem_append_right _ ?_
      have : rowTo nums T M a (numF nums (1 + a) % 3 + 1) = prodN nums T M a 0 :: (List.range' 1 (numF nums (1 + a) % 3)).map (prodN nums T M a) := by
        rw [rowTo, List.range_eq_range', List.range'_succ]; rfl
      rw [this]
      have : 7 - (accTo nums T M a).length = (7 - (accTo nums T M a).length - 1) + 1 := by omega
      rw [this, List.take_succ_cons]
      exact List.mem_cons_self ..
theorem any_valid (nums : List Int) : checkF (anyF nums) = 0 := by
  obtain ⟨k, hk⟩ : ∃ k, k = numF nums 0 := ⟨_, rfl⟩
  obtain ⟨M, hM⟩ : ∃ M, M = 1 + k / 4 % 3 := ⟨_, rfl⟩
  obtain ⟨T, hT⟩ : ∃ T, T = (kTok k).length := ⟨_, rfl⟩
  have hT2 : T = 1 + k / 2 % 2 := by rw [hT, kTok_len]
  have e : anyF nums = ⟨((1 + k % 2 : Nat) : Int), kTok k, [122], namesTo M, 16, accTo nums T M M⟩ := by simp only [anyF, ← hk, hM, hT, kMany]
  rw [e]
  have hnl : (namesTo M).length = M := by simp [namesTo]
  have hpl : (accTo nums T M M).length ≤ 9 := Nat.le_trans (acc_short M) (by omega)
  generalize hg : (⟨((1 + k % 2 : Nat) : Int), kTok k, [122], namesTo M, 16, accTo nums T M M⟩ : Gram) = g
  have g1 : g.k = ((1 + k % 2 : Nat) : Int) := by rw [← hg]
  have g2 : g.tokens = kTok k := by rw [← hg]
  have g3 : g.sep = [122] := by rw [← hg]
  have g4 : g.names = namesTo M := by rw [← hg]
  have g5 : g.start = 16 := by rw [← hg]
  have g6 : g.prods = accTo nums T M M := by rw [← hg]
  have htl : g.tokens.length = T := by rw [g2, hT]
  have hnl' : g.names.length = M := by rw [g4, hnl]
  have htok : ∀ s ∈ g.tokens, s = [97] ∨ s = [98] := fun s hs => by
    rw [g2] at hs
    have := List.mem_of_mem_take hs
    simpa using this
  have hmany : manyF g = 0 := many_no (by omega) (by omega) (by rw [g6]; omega) (fun j p hj hp => by
    rw [g6] at hp
    obtain ⟨a, b, _, rfl⟩ := acc_mem (List.mem_of_getElem? hp)
    simp [prodN, rgtTo]; omega)
  have hnam : namedF g = 0 := by
    refine named_no (fun j hj s hs => ?_) (fun j hj s hs => ?_)
    · have hs := List.mem_of_getElem? hs
      simp only [smalls, List.mem_append, List.mem_singleton, g3] at hs
      rcases hs with hs | rfl
      · rcases htok s hs with rfl | rfl
        · exact small1 (by decide) (by decide)
        · exact small1 (by decide) (by decide)
      · exact small1 (by decide) (by decide)
    · have hs := List.mem_of_getElem? hs
      rw [g4] at hs
      simp only [namesTo, List.mem_map, List.mem_range] at hs
      obtain ⟨a, ha, rfl⟩ := hs
      exact capital1 (by omega) (by omega)
  have hnd1 : (smalls g).Nodup := by
    unfold smalls
    rw [g2, g3, kTok]
    rcases Nat.mod_two_eq_zero_or_one (k / 2) with h | h <;> rw [h] <;> decide
  have hnd2 : g.names.Nodup := by
    rw [g4, namesTo]
    refine List.Pairwise.map _ (fun a b (h : a ≠ b) => ?_) List.nodup_range
    simpa using h
  have hnames : namesF g = 0 := by
    unfold namesF
    rw [if_neg (by simp [hnd1, hnd2]), hnam]
  have hgood : ∀ p ∈ g.prods, goodP g p := fun p hp => by
    rw [g6] at hp
    obtain ⟨a, b, ha, rfl⟩ := acc_mem hp
    refine ⟨by simp only [isNonterm, prodN, Bool.and_eq_true, decide_eq_true_eq, hnl']; exact ⟨(by first | omega | exact decide_eq_true (by omega)), (by first | omega | exact decide_eq_true (by omega))⟩, fun s hs => ?_⟩
    simp only [prodN, rgtTo, List.mem_map] at hs
    obtain ⟨z, _, rfl⟩ := hs
    simp only [goodS, isTerm, isNonterm, Bool.or_eq_true, Bool.and_eq_true, decide_eq_true_eq, htl, hnl', symN]
    split
    · left
      have := Nat.mod_lt (zF (numF nums (4 + 3 * a + b)) z) (show 0 < T by omega)
      exact ⟨(by first | omega | exact decide_eq_true (by omega)), (by first | omega | exact decide_eq_true (by omega))⟩
    · right
      have := Nat.mod_lt (zF (numF nums (4 + 3 * a + b)) z) (show 0 < M by omega)
      exact ⟨(by first | omega | exact decide_eq_true (by omega)), (by first | omega | exact decide_eq_true (by omega))⟩
  have hsym : symbolsF g = 0 := by
    unfold symbolsF
    rw [if_pos ⟨by simp only [isNonterm, g5, Bool.and_eq_true, decide_eq_true_eq, hnl']; exact ⟨(by first | omega | exact decide_eq_true (by omega)), (by first | omega | exact decide_eq_true (by omega))⟩, hgood⟩, if_neg, if_neg]
    · rintro ⟨i, hi, hm⟩
      obtain ⟨p, hp, hl⟩ := acc_has (nums := nums) (T := T) (M := M) (show i < M by omega) (show M ≤ 3 by omega)
      rw [prodsF_nil, List.any_eq_false] at hm
      refine hm p (by rw [g6]; exact hp) ?_
      simp [hl]
    · rintro ⟨i, p, q, hp, hq, hlt⟩
      rw [g6] at hp hq
      have hsr := acc_sorted (nums := nums) (T := T) (M := M) M
      obtain ⟨h1, e1⟩ := List.getElem?_eq_some_iff.1 hp
      obtain ⟨h2, e2⟩ := List.getElem?_eq_some_iff.1 hq
      have := List.pairwise_iff_getElem.1 hsr i (i + 1) h1 h2 (by omega)
      rw [e1, e2] at this
      omega
  unfold checkF
  rw [if_neg (by rw [g1]; omega), if_neg (by simp [hmany]), if_neg, if_neg (by simp [hnames]), hsym]
  rintro (h | h)
  · rw [h] at htl; simp at htl; omega
  · rw [h] at hnl'; simp at hnl'; omega
theorem any_fits (nums : List Int) : Fits (anyF nums) := by
  obtain ⟨hm, _⟩ := check_parts (any_valid nums)
  obtain ⟨h1, h2, h3, h4⟩ := many_zero hm
  refine ⟨by omega, by omega, by omega, by simp [anyF], fun s hs => ?_, fun s hs => ?_, fun p hp => by have := h4 p hp; omega⟩
  · have : s ∈ kTok (numF nums 0) := hs
    have := List.mem_of_mem_take this
    rcases (by simpa using this : s = [97] ∨ s = [98]) with rfl | rfl <;> simp
  · have : s ∈ namesTo (kMany (numF nums 0)) := hs
    simp only [namesTo, List.mem_map] at this
    obtain ⟨a, _, rfl⟩ := this
    simp
end Go.Av
end
noncomputable section
namespace Go.Av
open Go Go.Proofs
def e0 : List DV × AV := ([(.agg [(.int .i64 2), (.sl 1 [(.str [97]), (.str [98])]), (.str [110, 108]), (.sl 1 [(.str [83]), (.str [84])]), (.int .i64 16), (.sl 2 [(.agg [(.int .i64 16), (.sl 1 [(.int .i64 0), (.int .i64 17)])]), (.agg [(.int .i64 16), .nilsl]), (.agg [(.int .i64 17), (.sl 1 [(.int .i64 1), (.int .i64 16)])])])])], (.d (.int .i64 0)))
theorem k0 : KnownCall Try.prog 43 e0.1 e0.2 := known T0_ok Et_ok (by kernel_rfl) Ft_ok (k := 100000) (n := 60) (by kernel_rfl)
def e1 : List DV × AV := ([(.str [97])], (.d (.int .i64 0)))
theorem k1 : KnownCall Try.prog 86 e1.1 e1.2 := known T0_ok Et_ok (by kernel_rfl) Ft_ok (k := 100000) (n := 60) (by kernel_rfl)
def e2 : List DV × AV := ([(.str [98])], (.d (.int .i64 0)))
theorem k2 : KnownCall Try.prog 86 e2.1 e2.2 := known T0_ok Et_ok (by kernel_rfl) Ft_ok (k := 100000) (n := 60) (by kernel_rfl)
def e3 : List DV × AV := ([(.str [110, 108])], (.d (.int .i64 0)))
theorem k3 : KnownCall Try.prog 95 e3.1 e3.2 := known T0_ok Et_ok (by kernel_rfl) Ft_ok (k := 100000) (n := 60) (by kernel_rfl)
def e5 : List DV × AV := ([(.str [83])], (.d (.int .i64 0)))
theorem k5 : KnownCall Try.prog 86 e5.1 e5.2 := known T0_ok Et_ok (by kernel_rfl) Ft_ok (k := 100000) (n := 60) (by kernel_rfl)
def e6 : List DV × AV := ([(.str [84])], (.d (.int .i64 0)))
theorem k6 : KnownCall Try.prog 86 e6.1 e6.2 := known T0_ok Et_ok (by kernel_rfl) Ft_ok (k := 100000) (n := 60) (by kernel_rfl)
def e8 : List DV × AV := ([(.agg [(.int .i64 2), (.sl 1 [(.str [97]), (.str [98])]), (.str [110, 108]), (.sl 1 [(.str [83]), (.str [84])]), (.int .i64 16), (.sl 2 [(.agg [(.int .i64 16), (.sl 1 [(.int .i64 0), (.int .i64 17)])]), (.agg [(.int .i64 16), .nilsl]), (.agg [(.int .i64 17), (.sl 1 [(.int .i64 1), (.int .i64 16)])])])])], (.d (.int .i64 0)))
theorem k8 : KnownCall Try.prog 45 e8.1 e8.2 := known T0_ok Et_ok (by kernel_rfl) Ft_ok (k := 100000) (n := 60) (by kernel_rfl)
def e9 : List DV × AV := ([(.sl 1 [(.int .i64 0), (.int .i64 17)]), (.fn (.func 62) [] [(.ep [(.int .i64 2), (.sl 1 [(.str [97]), (.str [98])]), (.str [110, 108]), (.sl 1 [(.str [83]), (.str [84])]), (.int .i64 16), (.sl 2 [(.agg [(.int .i64 16), (.sl 1 [(.int .i64 0), (.int .i64 17)])]), (.agg [(.int .i64 16), .nilsl]), (.agg [(.int .i64 17), (.sl 1 [(.int .i64 1), (.int .i64 16)])])])])])], (.d (.int .i64 (-1))))
theorem k9 : KnownCall Try.prog 87 e9.1 e9.2 := known T0_ok Et_ok (by kernel_rfl) Ft_ok (k := 100000) (n := 60) (by kernel_rfl)
def e10 : List DV × AV := ([(.sl 1 [(.int .i64 1), (.int .i64 16)]), (.fn (.func 62) [] [(.ep [(.int .i64 2), (.sl 1 [(.str [97]), (.str [98])]), (.str [110, 108]), (.sl 1 [(.str [83]), (.str [84])]), (.int .i64 16), (.sl 2 [(.agg [(.int .i64 16), (.sl 1 [(.int .i64 0), (.int .i64 17)])]), (.agg [(.int .i64 16), .nilsl]), (.agg [(.int .i64 17), (.sl 1 [(.int .i64 1), (.int .i64 16)])])])])])], (.d (.int .i64 (-1))))
theorem k10 : KnownCall Try.prog 87 e10.1 e10.2 := known T0_ok Et_ok (by kernel_rfl) Ft_ok (k := 100000) (n := 60) (by kernel_rfl)
def e12 : List DV × AV := ([(.agg [(.int .i64 2), (.sl 1 [(.str [97]), (.str [98])]), (.str [110, 108]), (.sl 1 [(.str [83]), (.str [84])]), (.int .i64 16), (.sl 2 [(.agg [(.int .i64 16), (.sl 1 [(.int .i64 0), (.int .i64 17)])]), (.agg [(.int .i64 16), .nilsl]), (.agg [(.int .i64 17), (.sl 1 [(.int .i64 1), (.int .i64 16)])])])])], (.d (.int .i64 0)))
theorem k12 : KnownCall Try.prog 47 e12.1 e12.2 := known T0_ok Et_ok (by kernel_rfl) Ft_ok (k := 100000) (n := 60) (by kernel_rfl)
def e13 : List DV × AV := ([(.agg [(.int .i64 2), (.sl 1 [(.str [97]), (.str [98])]), (.str [110, 108]), (.sl 1 [(.str [83]), (.str [84])]), (.int .i64 16), (.sl 2 [(.agg [(.int .i64 16), (.sl 1 [(.int .i64 0), (.int .i64 17)])]), (.agg [(.int .i64 16), .nilsl]), (.agg [(.int .i64 17), (.sl 1 [(.int .i64 1), (.int .i64 16)])])])])], (.d (.int .i64 0)))
theorem k13 : KnownCall Try.prog 48 e13.1 e13.2 := known T0_ok Et_ok (by kernel_rfl) Ft_ok (k := 100000) (n := 60) (by kernel_rfl)
end Go.Av
end
noncomputable section
namespace Go.Av
open Go Go.Proofs
def T1 : Memo := (.node (.node (.node (.node (.node (.node .nil none (.node .nil (some [e3]) .nil)) none (.node .nil (some [e12]) .nil)) none (.node .nil none (.node (.node .nil (some [e9, e10]) .nil) none .nil))) none (.node .nil none (.node (.node .nil (some [e0]) .nil) none .nil))) none (.node .nil none (.node .nil none (.node (.node .nil (some [e8]) .nil) none .nil)))) none (.node (.node (.node (.node .nil none (.node .nil (some [e13]) .nil)) none .nil) none .nil) none (.node .nil none (.node (.node .nil none (.node (.node .nil (some [e1, e2, e5, e6]) .nil) none .nil)) none .nil))))
theorem T1_ok : MemoOK Try.prog T1 := ⟨trivial, ⟨trivial, ⟨trivial, ⟨trivial, ⟨trivial, ⟨trivial, trivial, ⟨⟨k3, trivial⟩, trivial, trivial⟩⟩, ⟨⟨k12, trivial⟩, trivial, trivial⟩⟩, ⟨trivial, trivial, ⟨trivial, ⟨⟨k9, k10, trivial⟩, trivial, trivial⟩, trivial⟩⟩⟩, ⟨trivial, trivial, ⟨trivial, ⟨⟨k0, trivial⟩, trivial, trivial⟩, trivial⟩⟩⟩, ⟨trivial, trivial, ⟨trivial, trivial, ⟨trivial, ⟨⟨k8, trivial⟩, trivial, trivial⟩, trivial⟩⟩⟩⟩, ⟨trivial, ⟨trivial, ⟨trivial, ⟨trivial, trivial, ⟨⟨k13, trivial⟩, trivial, trivial⟩⟩, trivial⟩, trivial⟩, ⟨trivial, trivial, ⟨trivial, ⟨trivial, trivial, ⟨trivial, ⟨⟨k1, k2, k5, k6, trivial⟩, trivial, trivial⟩, trivial⟩⟩, trivial⟩⟩⟩⟩
end Go.Av
end
noncomputable section
namespace Go.Av
open Go Go.Proofs
def e4 : List DV × AV := ([(.str [110, 108])], (.d (.int .i64 0)))
theorem k4 : KnownCall Try.prog 86 e4.1 e4.2 := known T1_ok Et_ok (by kernel_rfl) Ft_ok (k := 100000) (n := 60) (by kernel_rfl)
def e11 : List DV × AV := ([(.agg [(.int .i64 2), (.sl 1 [(.str [97]), (.str [98])]), (.str [110, 108]), (.sl 1 [(.str [83]), (.str [84])]), (.int .i64 16), (.sl 2 [(.agg [(.int .i64 16), (.sl 1 [(.int .i64 0), (.int .i64 17)])]), (.agg [(.int .i64 16), .nilsl]), (.agg [(.int .i64 17), (.sl 1 [(.int .i64 1), (.int .i64 16)])])])])], (.d (.int .i64 0)))
theorem k11 : KnownCall Try.prog 46 e11.1 e11.2 := known T1_ok Et_ok (by kernel_rfl) Ft_ok (k := 100000) (n := 60) (by kernel_rfl)
end Go.Av
end
noncomputable section
namespace Go.Av
open Go Go.Proofs
def T2 : Memo := (.node (.node (.node (.node (.node (.node .nil none (.node .nil (some [e3]) .nil)) none (.node .nil (some [e12]) .nil)) none (.node .nil none (.node (.node .nil (some [e9, e10]) .nil) none .nil))) none (.node .nil none (.node (.node .nil (some [e0]) .nil) none .nil))) none (.node .nil none (.node .nil none (.node (.node .nil (some [e8]) .nil) none .nil)))) none (.node (.node (.node (.node .nil none (.node .nil (some [e13]) .nil)) none .nil) none .nil) none (.node .nil none (.node (.node .nil none (.node (.node .nil (some [e1, e2, e5, e6, e4]) .nil) none .nil)) none (.node (.node .nil (some [e11]) .nil) none .nil)))))
theorem T2_ok : MemoOK Try.prog T2 := ⟨trivial, ⟨trivial, ⟨trivial, ⟨trivial, ⟨trivial, ⟨trivial, trivial, ⟨⟨k3, trivial⟩, trivial, trivial⟩⟩, ⟨⟨k12, trivial⟩, trivial, trivial⟩⟩, ⟨trivial, trivial, ⟨trivial, ⟨⟨k9, k10, trivial⟩, trivial, trivial⟩, trivial⟩⟩⟩, ⟨trivial, trivial, ⟨trivial, ⟨⟨k0, trivial⟩, trivial, trivial⟩, trivial⟩⟩⟩, ⟨trivial, trivial, ⟨trivial, trivial, ⟨trivial, ⟨⟨k8, trivial⟩, trivial, trivial⟩, trivial⟩⟩⟩⟩, ⟨trivial, ⟨trivial, ⟨trivial, ⟨trivial, trivial, ⟨⟨k13, trivial⟩, trivial, trivial⟩⟩, trivial⟩, trivial⟩, ⟨trivial, trivial, ⟨trivial, ⟨trivial, trivial, ⟨trivial, ⟨⟨k1, k2, k5, k6, k4, trivial⟩, trivial, trivial⟩, trivial⟩⟩, ⟨trivial, ⟨⟨k11, trivial⟩, trivial, trivial⟩, trivial⟩⟩⟩⟩⟩
end Go.Av
end
noncomputable section
namespace Go.Av
open Go Go.Proofs
def e7 : List DV × AV := ([(.agg [(.int .i64 2), (.sl 1 [(.str [97]), (.str [98])]), (.str [110, 108]), (.sl 1 [(.str [83]), (.str [84])]), (.int .i64 16), (.sl 2 [(.agg [(.int .i64 16), (.sl 1 [(.int .i64 0), (.int .i64 17)])]), (.agg [(.int .i64 16), .nilsl]), (.agg [(.int .i64 17), (.sl 1 [(.int .i64 1), (.int .i64 16)])])])])], (.d (.int .i64 0)))
theorem k7 : KnownCall Try.prog 44 e7.1 e7.2 := known T2_ok Et_ok (by kernel_rfl) Ft_ok (k := 100000) (n := 60) (by kernel_rfl)
def e16 : List DV × AV := ([(.agg [(.int .i64 2), (.sl 1 [(.str [97]), (.str [98])]), (.str [110, 108]), (.sl 1 [(.str [83]), (.str [84])]), (.int .i64 16), (.sl 2 [(.agg [(.int .i64 17), (.sl 1 [(.int .i64 1), (.int .i64 16)])]), (.agg [(.int .i64 16), (.sl 1 [(.int .i64 0), (.int .i64 17)])]), (.agg [(.int .i64 16), .nilsl])])])], (.d (.int .i64 9)))
theorem k16 : KnownCall Try.prog 23 e16.1 e16.2 := known T2_ok Et_ok (by kernel_rfl) Ft_ok (k := 100000) (n := 60) (by kernel_rfl)
def e17 : List DV × AV := ([(.agg [(.int .i64 2), (.sl 1 [(.str [97]), (.str [98])]), (.str [110, 108]), (.sl 1 [(.str [83]), (.str [84])]), (.int .i64 16), (.sl 2 [(.agg [(.int .i64 16), (.sl 1 [(.int .i64 0), (.int .i64 17)])]), (.agg [(.int .i64 16), .nilsl])])])], (.d (.int .i64 7)))
theorem k17 : KnownCall Try.prog 23 e17.1 e17.2 := known T2_ok Et_ok (by kernel_rfl) Ft_ok (k := 100000) (n := 60) (by kernel_rfl)
end Go.Av
end
noncomputable section
namespace Go.Av
open Go Go.Proofs
def T3 : Memo := (.node (.node (.node (.node (.node (.node .nil none (.node .nil (some [e3]) .nil)) none (.node .nil (some [e12]) .nil)) none (.node .nil (some [e16, e17]) (.node (.node .nil (some [e9, e10]) .nil) none .nil))) none (.node .nil none (.node (.node .nil (some [e0]) .nil) none .nil))) none (.node .nil none (.node .nil none (.node (.node .nil (some [e8]) .nil) none .nil)))) none (.node (.node (.node (.node .nil none (.node .nil (some [e13]) .nil)) none .nil) none (.node .nil none (.node (.node .nil (some [e7]) .nil) none .nil))) none (.node .nil none (.node (.node .nil none (.node (.node .nil (some [e1, e2, e5, e6, e4]) .nil) none .nil)) none (.node (.node .nil (some [e11]) .nil) none .nil)))))
theorem T3_ok : MemoOK Try.prog T3 := ⟨trivial, ⟨trivial, ⟨trivial, ⟨trivial, ⟨trivial, ⟨trivial, trivial, ⟨⟨k3, trivial⟩, trivial, trivial⟩⟩, ⟨⟨k12, trivial⟩, trivial, trivial⟩⟩, ⟨⟨k16, k17, trivial⟩, trivial, ⟨trivial, ⟨⟨k9, k10, trivial⟩, trivial, trivial⟩, trivial⟩⟩⟩, ⟨trivial, trivial, ⟨trivial, ⟨⟨k0, trivial⟩, trivial, trivial⟩, trivial⟩⟩⟩, ⟨trivial, trivial, ⟨trivial, trivial, ⟨trivial, ⟨⟨k8, trivial⟩, trivial, trivial⟩, trivial⟩⟩⟩⟩, ⟨trivial, ⟨trivial, ⟨trivial, ⟨trivial, trivial, ⟨⟨k13, trivial⟩, trivial, trivial⟩⟩, trivial⟩, ⟨trivial, trivial, ⟨trivial, ⟨⟨k7, trivial⟩, trivial, trivial⟩, trivial⟩⟩⟩, ⟨trivial, trivial, ⟨trivial, ⟨trivial, trivial, ⟨trivial, ⟨⟨k1, k2, k5, k6, k4, trivial⟩, trivial, trivial⟩, trivial⟩⟩, ⟨trivial, ⟨⟨k11, trivial⟩, trivial, trivial⟩, trivial⟩⟩⟩⟩⟩
end Go.Av
end
noncomputable section
namespace Go.Av
open Go Go.Proofs
def e14 : List DV × AV := ([(.agg [(.int .i64 2), (.sl 1 [(.str [97]), (.str [98])]), (.str [110, 108]), (.sl 1 [(.str [83]), (.str [84])]), (.int .i64 16), (.sl 2 [(.agg [(.int .i64 16), (.sl 1 [(.int .i64 0), (.int .i64 17)])]), (.agg [(.int .i64 16), .nilsl]), (.agg [(.int .i64 17), (.sl 1 [(.int .i64 1), (.int .i64 16)])])])])], (.d (.int .i64 0)))
theorem k14 : KnownCall Try.prog 23 e14.1 e14.2 := known T3_ok Et_ok (by kernel_rfl) Ft_ok (k := 100000) (n := 60) (by kernel_rfl)
end Go.Av
end
noncomputable section
namespace Go.Av
open Go Go.Proofs
def T4 : Memo := (.node (.node (.node (.node (.node (.node .nil none (.node .nil (some [e3]) .nil)) none (.node .nil (some [e12]) .nil)) none (.node .nil (some [e16, e17, e14]) (.node (.node .nil (some [e9, e10]) .nil) none .nil))) none (.node .nil none (.node (.node .nil (some [e0]) .nil) none .nil))) none (.node .nil none (.node .nil none (.node (.node .nil (some [e8]) .nil) none .nil)))) none (.node (.node (.node (.node .nil none (.node .nil (some [e13]) .nil)) none .nil) none (.node .nil none (.node (.node .nil (some [e7]) .nil) none .nil))) none (.node .nil none (.node (.node .nil none (.node (.node .nil (some [e1, e2, e5, e6, e4]) .nil) none .nil)) none (.node (.node .nil (some [e11]) .nil) none .nil)))))
theorem T4_ok : MemoOK Try.prog T4 := ⟨trivial, ⟨trivial, ⟨trivial, ⟨trivial, ⟨trivial, ⟨trivial, trivial, ⟨⟨k3, trivial⟩, trivial, trivial⟩⟩, ⟨⟨k12, trivial⟩, trivial, trivial⟩⟩, ⟨⟨k16, k17, k14, trivial⟩, trivial, ⟨trivial, ⟨⟨k9, k10, trivial⟩, trivial, trivial⟩, trivial⟩⟩⟩, ⟨trivial, trivial, ⟨trivial, ⟨⟨k0, trivial⟩, trivial, trivial⟩, trivial⟩⟩⟩, ⟨trivial, trivial, ⟨trivial, trivial, ⟨trivial, ⟨⟨k8, trivial⟩, trivial, trivial⟩, trivial⟩⟩⟩⟩, ⟨trivial, ⟨trivial, ⟨trivial, ⟨trivial, trivial, ⟨⟨k13, trivial⟩, trivial, trivial⟩⟩, trivial⟩, ⟨trivial, trivial, ⟨trivial, ⟨⟨k7, trivial⟩, trivial, trivial⟩, trivial⟩⟩⟩, ⟨trivial, trivial, ⟨trivial, ⟨trivial, trivial, ⟨trivial, ⟨⟨k1, k2, k5, k6, k4, trivial⟩, trivial, trivial⟩, trivial⟩⟩, ⟨trivial, ⟨⟨k11, trivial⟩, trivial, trivial⟩, trivial⟩⟩⟩⟩⟩
end Go.Av
end
noncomputable section
namespace Go.Av
open Go Go.Proofs
def e15 : List DV × AV := ([], (.d (.bool true)))
theorem k15 : KnownCall Try.prog 8 e15.1 e15.2 := known T4_ok Et_ok (by kernel_rfl) Ft_ok (k := 100000) (n := 60) (by kernel_rfl)
end Go.Av
end
noncomputable section
namespace Go.Av
open Go Go.Proofs
def T5 : Memo := (.node (.node (.node (.node (.node (.node .nil none (.node .nil (some [e3]) .nil)) none (.node .nil (some [e12]) .nil)) none (.node .nil (some [e16, e17, e14]) (.node (.node .nil (some [e9, e10]) .nil) none .nil))) none (.node .nil none (.node (.node .nil (some [e0]) .nil) none .nil))) none (.node .nil none (.node .nil none (.node (.node .nil (some [e8]) .nil) none .nil)))) none (.node (.node (.node (.node .nil none (.node .nil (some [e13]) .nil)) (some [e15]) .nil) none (.node .nil none (.node (.node .nil (some [e7]) .nil) none .nil))) none (.node .nil none (.node (.node .nil none (.node (.node .nil (some [e1, e2, e5, e6, e4]) .nil) none .nil)) none (.node (.node .nil (some [e11]) .nil) none .nil)))))
theorem T5_ok : MemoOK Try.prog T5 := ⟨trivial, ⟨trivial, ⟨trivial, ⟨trivial, ⟨trivial, ⟨trivial, trivial, ⟨⟨k3, trivial⟩, trivial, trivial⟩⟩, ⟨⟨k12, trivial⟩, trivial, trivial⟩⟩, ⟨⟨k16, k17, k14, trivial⟩, trivial, ⟨trivial, ⟨⟨k9, k10, trivial⟩, trivial, trivial⟩, trivial⟩⟩⟩, ⟨trivial, trivial, ⟨trivial, ⟨⟨k0, trivial⟩, trivial, trivial⟩, trivial⟩⟩⟩, ⟨trivial, trivial, ⟨trivial, trivial, ⟨trivial, ⟨⟨k8, trivial⟩, trivial, trivial⟩, trivial⟩⟩⟩⟩, ⟨trivial, ⟨trivial, ⟨⟨k15, trivial⟩, ⟨trivial, trivial, ⟨⟨k13, trivial⟩, trivial, trivial⟩⟩, trivial⟩, ⟨trivial, trivial, ⟨trivial, ⟨⟨k7, trivial⟩, trivial, trivial⟩, trivial⟩⟩⟩, ⟨trivial, trivial, ⟨trivial, ⟨trivial, trivial, ⟨trivial, ⟨⟨k1, k2, k5, k6, k4, trivial⟩, trivial, trivial⟩, trivial⟩⟩, ⟨trivial, ⟨⟨k11, trivial⟩, trivial, trivial⟩, trivial⟩⟩⟩⟩⟩
end Go.Av
end
noncomputable section
namespace Go.Av
open Go Go.Proofs
def e18 : List DV × AV := ([], (.d (.bool true)))
theorem k18 : KnownCall Try.prog 4 e18.1 e18.2 := known T5_ok Et_ok (by kernel_rfl) Ft_ok (k := 100000) (n := 60) (by kernel_rfl)
end Go.Av
end
noncomputable section
namespace Go.Av
open Go Go.Proofs
set_option maxRecDepth 10000
theorem known9 : KnownCall Try.prog 4 [] (.d (.bool true)) := k18
theorem there_iff (g : Gram) (s : Nat) : goodS g s = (decide (s < g.tokens.length) || (decide (16 ≤ s) && decide (s < 16 + g.names.length))) := by
  rw [Bool.eq_iff_iff]
  simp only [goodS, isTerm, isNonterm, Bool.or_eq_true, Bool.and_eq_true, decide_eq_true_eq]
  omega
set_option maxHeartbeats 4000000 in
theorem lawParts (nums : List Int) (hn : ∀ n ∈ nums, W64 n) : KnownCall Try.prog 5 [ints nums] (.d (.bool true)) := by
  have hA := anyS nums hn
  have hK := known9
  have h0 := any_valid nums
  have hf := any_fits nums
  generalize anyF nums = g at hA h0 hf
  have hfp := hf.prods
  have hfn := hf.names
  have hft := hf.tokens
  obtain ⟨hm, htk, _⟩ := check_parts h0
  obtain ⟨ht8, hn8, hp24, _⟩ := many_zero hm
  refine knownE Et_ok (fnAt Try.func5 (by kernel_rfl) (by kernel_rfl) : FnAt _ _ (mkFn Try.f5 [])) ?_
  repeat' (first
    | refine Run.region ?_
    | refine Run.seq ?_
    | ((refine oB (frz := []) Et_ok (fun h => ?_) (fun h => ?_)) <;> (first | (exfalso; simp at h <;> fail) | (exfalso; simp at h; omega) | skip))
    | ((refine eB (fun h => ?_) (fun h => ?_)) <;> (first | (exfalso; simp at h <;> fail) | (exfalso; simp at h; omega) | skip))
    | refine oX (frz := []) Et_ok ?_
    | refine oS ?_
    | refine RunOps.nil ?_
    | refine Run.skip ?_
    | refine cT ?_
    | refine cF ?_
    | refine Run.block ?_
    | refine Run.exit ?_
    | refine Run.draw (frz := []) Et_ok (by kernel_rfl) ?_
    | refine eX ?_
    | refine eS ?_
    | refine eN ?_
    | refine oC (hK) ?_
    | refine eC (hK) ?_
    | ((refine oK (hA) (fun h => ?_) (fun h => ?_)) <;> (first | (exfalso; simp at h <;> fail) | (exfalso; simp at h; omega) | skip))
    | refine oC (hA) ?_
    | ((refine eK (hA) (fun h => ?_) (fun h => ?_)) <;> (first | (exfalso; simp at h <;> fail) | (exfalso; simp at h; omega) | skip))
    | refine eC (hA) ?_
    | (refine Run.ret ?_; (first | refine rB ?_ | refine rI ?_ | refine rA ?_ | refine rII ?_ | refine rSI ?_ | refine rT ?_ | refine rS ?_); first | done | (skip))
    | fail)
  refine Run.loopT (fun i : Nat => ⟨PT.ofList [(3, .d (.bool true)), (4, .bp 0 0), (5, .d (.int .i64 (cntL g.prods (16 + i) : Nat))), (6, .d (.int .i64 i))], [boxG g], []⟩) (fun i => i ≤ g.names.length) (fun i => g.names.length - i) 0 (Nat.zero_le _) (tidy_of (objs := _) _ 1 rfl rfl (by repeat' (first | exact trivial | refine ⟨(Or.inl rfl), ?_⟩ | refine ⟨(Or.inl (by rw [show ((0 : Nat) : Int) = 0 from rfl, Int.add_zero, valid_first h0]; rfl)), ?_⟩ | fail)) (by repeat' (first | exact trivial | refine ⟨rfl, ?_⟩ | fail)) rfl rfl) (fun i hi => ?_)
  rcases Nat.lt_or_ge i g.names.length with hlt | hge
  · have hso := valid_sorted h0
    have hsm := valid_some h0 hlt
    have hcl : cntL g.prods (16 + i + 1) ≤ g.prods.length := List.countP_le_length
    have hnt : isNonterm g (16 + (i : Int)) = true := by simp only [isNonterm, Bool.and_eq_true]; exact ⟨decide_eq_true (by omega), decide_eq_true (by omega)⟩
    have e1 : ntermF g (16 + (i : Int)) = ((i : Int), 0) := by
      unfold ntermF
      rw [if_neg (by simp [h0]), if_pos hnt]
      congr 1; omega
    have e2 : askProdsF g (16 + (i : Int)) = (prodsF g (16 + i), 0) := by unfold askProdsF; rw [e1]; simp
    have c1 := askProds g (16 + (i : Int)) hf
    have c2 := askNonterm g (16 + (i : Int)) hf
    rw [e2] at c1
    rw [e1] at c2
    rw [prodsF_range hso] at c1
    obtain ⟨a, ha⟩ : ∃ a, a = cntL g.prods (16 + i) := ⟨_, rfl⟩
    obtain ⟨d, hd⟩ : ∃ d, cntL g.prods (16 + i + 1) = a + d := ⟨cntL g.prods (16 + i + 1) - a, by omega⟩
    have hd1 : 1 ≤ d := by omega
    rw [← ha] at c1 hsm ⊢
    rw [show cntL g.prods (16 + (i : Int) + 1) - a = d by omega] at c1
    simp only at c1 c2
    have hw : AV.d (.int .i64 (IntKind.i64.wrap (16 + (i : Int)))) = .d (.int .i64 (16 + (i : Int))) := congrArg (fun n => AV.d (.int .i64 n)) (wrap64 (by omega) (by omega))
    repeat (first | refine Run.region ?_ | refine Run.seq ?_ | refine RunOps.nil ?_ | refine Run.skip ?_ | refine cT ?_ | refine cF ?_ | refine Run.block ?_ | refine Run.exit ?_ | refine eN ?_ | refine Run.draw (frz := []) Et_ok (by kernel_rfl) ?_)
    iterate 4 (first | refine oX (frz := []) Et_ok ?_ | refine eX ?_)
    first | refine oX (frz := []) (v := .d (.bool true)) Et_ok ?_ (he := (vT (by simp <;> omega))) | refine eX (v := .d (.bool true)) ?_ (he := (vT (by simp <;> omega)))
    repeat (first | refine Run.region ?_ | refine Run.seq ?_ | refine RunOps.nil ?_ | refine Run.skip ?_ | refine cT ?_ | refine cF ?_ | refine Run.block ?_ | refine Run.exit ?_ | refine eN ?_ | refine Run.draw (frz := []) Et_ok (by kernel_rfl) ?_)
    iterate 2 (first | refine oX (frz := []) Et_ok ?_ | refine eX ?_)
    first | refine oX (frz := []) (v := .d (.int .i64 (16 + (i : Int)))) Et_ok ?_ (he := (hw)) | refine eX (v := .d (.int .i64 (16 + (i : Int)))) ?_ (he := (hw))
    refine oC c1 ?_
    iterate 5 (first | refine oX (frz := []) Et_ok ?_ | refine eX ?_)
    repeat (first | refine Run.region ?_ | refine Run.seq ?_ | refine RunOps.nil ?_ | refine Run.skip ?_ | refine cT ?_ | refine cF ?_ | refine Run.block ?_ | refine Run.exit ?_ | refine eN ?_ | refine Run.draw (frz := []) Et_ok (by kernel_rfl) ?_)
    iterate 2 (first | refine oX (frz := []) Et_ok ?_ | refine eX ?_)
    first | refine oX (frz := []) (v := .d (.int .i64 (16 + (i : Int)))) Et_ok ?_ (he := (hw)) | refine eX (v := .d (.int .i64 (16 + (i : Int)))) ?_ (he := (hw))
    refine oC c2 ?_
    iterate 5 (first | refine oX (frz := []) Et_ok ?_ | refine eX ?_)
    repeat (first | refine Run.region ?_ | refine Run.seq ?_ | refine RunOps.nil ?_ | refine Run.skip ?_ | refine cT ?_ | refine cF ?_ | refine Run.block ?_ | refine Run.exit ?_ | refine eN ?_ | refine Run.draw (frz := []) Et_ok (by kernel_rfl) ?_)
    repeat' (first
      | refine Run.region ?_
      | refine Run.seq ?_
      | ((refine oB (frz := []) Et_ok (fun h => ?_) (fun h => ?_)) <;> (first | (exfalso; simp at h <;> fail) | (exfalso; simp at h; omega) | skip))
      | ((refine eB (fun h => ?_) (fun h => ?_)) <;> (first | (exfalso; simp at h <;> fail) | (exfalso; simp at h; omega) | skip))
      | refine oX (frz := []) Et_ok ?_
      | refine oS ?_
      | refine RunOps.nil ?_
      | refine Run.skip ?_
      | refine cT ?_
      | refine cF ?_
      | refine Run.block ?_
      | refine Run.exit ?_
      | refine Run.draw (frz := []) Et_ok (by kernel_rfl) ?_
      | refine eX ?_
      | refine eS ?_
      | refine eN ?_
      | (refine Run.ret ?_; (first | refine rB ?_ | refine rI ?_ | refine rA ?_ | refine rII ?_ | refine rSI ?_ | refine rT ?_ | refine rS ?_); first | done | (skip))
      | (exfalso; (simp at h <;> omega))
      | fail)
    refine Run.loopT (fun k : Nat => ⟨PT.ofList [(3, .d (.bool true)), (4, .bp 0 0), (5, .d (.int .i64 (a + k : Nat))), (6, .d (.int .i64 i)), (7, .d (.sl 1 (natsD (List.range' a d)))), (11, .d (.int .i64 k))], [boxG g], []⟩) (fun k => k ≤ d) (fun k => d - k) 0 (Nat.zero_le _) (tidy_of (objs := _) _ 1 (by rfl) rfl (by repeat' (first | exact trivial | refine ⟨(Or.inl rfl), ?_⟩ | refine ⟨(Or.inr rfl), ?_⟩ | fail)) (by repeat' (first | exact trivial | refine ⟨rfl, ?_⟩ | fail)) rfl rfl) (fun k hk => ?_)
    rcases Nat.lt_or_ge k d with hkl | hkg
    · have hx : (natsD (List.range' a d))[k]? = some (.int .i64 (a + k : Nat)) := by simp [natsD, hkl]
      repeat (first | refine Run.region ?_ | refine Run.seq ?_ | refine RunOps.nil ?_ | refine Run.skip ?_ | refine cT ?_ | refine cF ?_ | refine Run.block ?_ | refine Run.exit ?_ | refine eN ?_ | refine Run.draw (frz := []) Et_ok (by kernel_rfl) ?_)
      iterate 3 (first | refine oX (frz := []) Et_ok ?_ | refine eX ?_)
      first | refine oX (frz := []) (v := .d (.bool true)) Et_ok ?_ (he := (vT (by simp <;> omega))) | refine eX (v := .d (.bool true)) ?_ (he := (vT (by simp <;> omega)))
      repeat (first | refine Run.region ?_ | refine Run.seq ?_ | refine RunOps.nil ?_ | refine Run.skip ?_ | refine cT ?_ | refine cF ?_ | refine Run.block ?_ | refine Run.exit ?_ | refine eN ?_ | refine Run.draw (frz := []) Et_ok (by kernel_rfl) ?_)
      iterate 2 (first | refine oX (frz := []) Et_ok ?_ | refine eX ?_)
      refine oX (frz := []) (v := .d (.ep [.int .i64 (a + k : Nat)])) Et_ok ?_ (hf := by simp [inB] <;> omega) (he := by simp only [List.getD_eq_getElem?_getD, Int.toNat_natCast, hx]; rfl)
      iterate 2 (first | refine oX (frz := []) Et_ok ?_ | refine eX ?_)
      first | refine oX (frz := []) (v := .d (.bool false)) Et_ok ?_ (he := (congrArg (fun b => AV.d (.bool b)) (by simp))) | refine eX (v := .d (.bool false)) ?_ (he := (congrArg (fun b => AV.d (.bool b)) (by simp)))
      repeat (first | refine Run.region ?_ | refine Run.seq ?_ | refine RunOps.nil ?_ | refine Run.skip ?_ | refine cT ?_ | refine cF ?_ | refine Run.block ?_ | refine Run.exit ?_ | refine eN ?_ | refine Run.draw (frz := []) Et_ok (by kernel_rfl) ?_)
      iterate 1 (first | refine oX (frz := []) Et_ok ?_ | refine eX ?_)
      first | refine oX (frz := []) (v := .d (.int .i64 (a + (k + 1) : Nat))) Et_ok ?_ (he := (vN (by omega) (by omega))) | refine eX (v := .d (.int .i64 (a + (k + 1) : Nat))) ?_ (he := (vN (by omega) (by omega)))
      iterate 1 (first | refine oX (frz := []) Et_ok ?_ | refine eX ?_)
      repeat (first | refine Run.region ?_ | refine Run.seq ?_ | refine RunOps.nil ?_ | refine Run.skip ?_ | refine cT ?_ | refine cF ?_ | refine Run.block ?_ | refine Run.exit ?_ | refine eN ?_ | refine Run.draw (frz := []) Et_ok (by kernel_rfl) ?_)
      iterate 1 (first | refine oX (frz := []) Et_ok ?_ | refine eX ?_)
      first | refine oX (frz := []) (v := .d (.int .i64 (k + 1 : Nat))) Et_ok ?_ (he := (vN (by omega) (by omega))) | refine eX (v := .d (.int .i64 (k + 1 : Nat))) ?_ (he := (vN (by omega) (by omega)))
      iterate 1 (first | refine oX (frz := []) Et_ok ?_ | refine eX ?_)
      repeat (first | refine Run.region ?_ | refine Run.seq ?_ | refine RunOps.nil ?_ | refine Run.skip ?_ | refine cT ?_ | refine cF ?_ | refine Run.block ?_ | refine Run.exit ?_ | refine eN ?_ | refine Run.draw (frz := []) Et_ok (by kernel_rfl) ?_)
      exact ⟨k + 1, hkl, by omega, (tidy_of (objs := _) _ 1 (by rfl) rfl (by repeat' (first | exact trivial | refine ⟨(Or.inl rfl), ?_⟩ | refine ⟨(Or.inr rfl), ?_⟩ | fail)) (by repeat' (first | exact trivial | refine ⟨rfl, ?_⟩ | fail)) rfl rfl)⟩
    · have hke : k = d := by omega
      subst hke
      repeat (first | refine Run.region ?_ | refine Run.seq ?_ | refine RunOps.nil ?_ | refine Run.skip ?_ | refine cT ?_ | refine cF ?_ | refine Run.block ?_ | refine Run.exit ?_ | refine eN ?_ | refine Run.draw (frz := []) Et_ok (by kernel_rfl) ?_)
      iterate 3 (first | refine oX (frz := []) Et_ok ?_ | refine eX ?_)
      first | refine oX (frz := []) (v := .d (.bool false)) Et_ok ?_ (he := (vF (by simp))) | refine eX (v := .d (.bool false)) ?_ (he := (vF (by simp)))
      repeat (first | refine Run.region ?_ | refine Run.seq ?_ | refine RunOps.nil ?_ | refine Run.skip ?_ | refine cT ?_ | refine cF ?_ | refine Run.block ?_ | refine Run.exit ?_ | refine eN ?_ | refine Run.draw (frz := []) Et_ok (by kernel_rfl) ?_)
      iterate 1 (first | refine oX (frz := []) Et_ok ?_ | refine eX ?_)
      first | refine oX (frz := []) (v := .d (.int .i64 (i + 1 : Nat))) Et_ok ?_ (he := (vN (by omega) (by omega))) | refine eX (v := .d (.int .i64 (i + 1 : Nat))) ?_ (he := (vN (by omega) (by omega)))
      iterate 1 (first | refine oX (frz := []) Et_ok ?_ | refine eX ?_)
      repeat (first | refine Run.region ?_ | refine Run.seq ?_ | refine RunOps.nil ?_ | refine Run.skip ?_ | refine cT ?_ | refine cF ?_ | refine Run.block ?_ | refine Run.exit ?_ | refine eN ?_ | refine Run.draw (frz := []) Et_ok (by kernel_rfl) ?_)
      have hc : cntL g.prods (16 + ((i + 1 : Nat) : Int)) = a + k := by rw [← hd]; congr 1 <;> omega
      exact ⟨i + 1, hlt, by omega, tidy_of (objs := _) _ 1 rfl rfl (by repeat' (first | exact trivial | refine ⟨(Or.inl rfl), ?_⟩ | refine ⟨(Or.inl (by rw [hc]; rfl)), ?_⟩ | fail)) (by repeat' (first | exact trivial | refine ⟨rfl, ?_⟩ | fail)) rfl rfl⟩
  · have hie : i = g.names.length := by omega
    subst hie
    have hl := valid_last h0
    rw [hl]
    repeat (first | refine Run.region ?_ | refine Run.seq ?_ | refine RunOps.nil ?_ | refine Run.skip ?_ | refine cT ?_ | refine cF ?_ | refine Run.block ?_ | refine Run.exit ?_ | refine eN ?_ | refine Run.draw (frz := []) Et_ok (by kernel_rfl) ?_)
    iterate 4 (first | refine oX (frz := []) Et_ok ?_ | refine eX ?_)
    first | refine oX (frz := []) (v := .d (.bool false)) Et_ok ?_ (he := (vF (by simp))) | refine eX (v := .d (.bool false)) ?_ (he := (vF (by simp)))
    repeat (first | refine Run.region ?_ | refine Run.seq ?_ | refine RunOps.nil ?_ | refine Run.skip ?_ | refine cT ?_ | refine cF ?_ | refine Run.block ?_ | refine Run.exit ?_ | refine eN ?_ | refine Run.draw (frz := []) Et_ok (by kernel_rfl) ?_)
    iterate 1 (first | refine oX (frz := []) Et_ok ?_ | refine eX ?_)
    repeat (first | refine Run.region ?_ | refine Run.seq ?_ | refine RunOps.nil ?_ | refine Run.skip ?_ | refine cT ?_ | refine cF ?_ | refine Run.block ?_ | refine Run.exit ?_ | refine eN ?_ | refine Run.draw (frz := []) Et_ok (by kernel_rfl) ?_)
    refine Run.loopT (fun s : Nat => ⟨PT.ofList [(3, .d (.bool true)), (4, .bp 0 0), (5, .d (.int .i64 (g.prods.length : Nat))), (12, .d (.int .i64 s))], [boxG g], []⟩) (fun s => s ≤ 30) (fun s => 30 - s) 0 (Nat.zero_le _) (tidy_of (objs := _) _ 1 (by rfl) rfl (by repeat' (first | exact trivial | refine ⟨(Or.inl rfl), ?_⟩ | refine ⟨(Or.inr rfl), ?_⟩ | fail)) (by repeat' (first | exact trivial | refine ⟨rfl, ?_⟩ | fail)) rfl rfl) (fun s hs => ?_)
    have hwn : AV.d (.int .i64 (IntKind.i64.wrap (16 + ((g.names.map DV.str).length : Int)))) = .d (.int .i64 ((16 + g.names.length : Nat) : Int)) := vN (by simp) (by omega)
    rcases Nat.lt_or_ge s 30 with hsl | hsg
    · have c1 := askName g s hf
      have hth := there_iff g s
      cases hg : goodS g s with
      | true =>
        have e1 : askNameF g s = (nameS g s, 0) := by unfold askNameF; rw [if_neg (by simp [h0]), if_pos hg]
        have c2 := askSym g (nameS g s) hf
        rw [valid_back h0 hg] at c2
        rw [e1] at c1
        simp only at c1 c2
        rw [hg] at hth
        generalize nameS g s = nm at c1 c2
        by_cases ht : s < g.tokens.length
        · repeat' (first
            | refine Run.region ?_
            | refine Run.seq ?_
            | ((refine oB (frz := []) Et_ok (fun h => ?_) (fun h => ?_)) <;> (first | (exfalso; simp at h <;> fail) | (exfalso; simp at h; omega) | skip))
            | ((refine eB (fun h => ?_) (fun h => ?_)) <;> (first | (exfalso; simp at h <;> fail) | (exfalso; simp at h; omega) | skip))
            | refine oX (frz := []) Et_ok ?_
            | refine oS ?_
            | refine RunOps.nil ?_
            | refine Run.skip ?_
            | refine cT ?_
            | refine cF ?_
            | refine Run.block ?_
            | refine Run.exit ?_
            | refine Run.draw (frz := []) Et_ok (by kernel_rfl) ?_
            | refine eX ?_
            | refine eS ?_
            | refine eN ?_
            | ((refine oK (c1) (fun h => ?_) (fun h => ?_)) <;> (first | (exfalso; simp at h <;> fail) | (exfalso; simp at h; omega) | skip))
            | refine oC (c1) ?_
            | ((refine eK (c1) (fun h => ?_) (fun h => ?_)) <;> (first | (exfalso; simp at h <;> fail) | (exfalso; simp at h; omega) | skip))
            | refine eC (c1) ?_
            | ((refine oK (c2) (fun h => ?_) (fun h => ?_)) <;> (first | (exfalso; simp at h <;> fail) | (exfalso; simp at h; omega) | skip))
            | refine oC (c2) ?_
            | ((refine eK (c2) (fun h => ?_) (fun h => ?_)) <;> (first | (exfalso; simp at h <;> fail) | (exfalso; simp at h; omega) | skip))
            | refine eC (c2) ?_
            | (refine Run.ret ?_; (first | refine rB ?_ | refine rI ?_ | refine rA ?_ | refine rII ?_ | refine rSI ?_ | refine rT ?_ | refine rS ?_); first | done | (skip))
            | (exact ⟨s + 1, hsl, by omega, (tidy_of (objs := _) _ 1 (by rfl) rfl (by repeat' (first | exact trivial | refine ⟨(Or.inl rfl), ?_⟩ | refine ⟨(Or.inl (inc_get (k := s) (by kernel_rfl) (by omega))), ?_⟩ | refine ⟨(Or.inr rfl), ?_⟩ | fail)) (by repeat' (first | exact trivial | refine ⟨rfl, ?_⟩ | fail)) rfl rfl)⟩)
            | ((exfalso; (simp at h <;> omega)))
            | fail)
        · have hr : 16 ≤ s ∧ s < 16 + g.names.length := by simp [ht] at hth; exact hth
          obtain ⟨hr1, hr2⟩ := hr
          repeat' (first
            | refine oX (frz := []) (v := .d (.int .i64 ((16 + g.names.length : Nat) : Int))) Et_ok ?_ (he := (hwn))
            | refine eX (v := .d (.int .i64 ((16 + g.names.length : Nat) : Int))) ?_ (he := (hwn))
            | refine Run.region ?_
            | refine Run.seq ?_
            | ((refine oB (frz := []) Et_ok (fun h => ?_) (fun h => ?_)) <;> (first | (exfalso; simp at h <;> fail) | (exfalso; simp at h; omega) | skip))
            | ((refine eB (fun h => ?_) (fun h => ?_)) <;> (first | (exfalso; simp at h <;> fail) | (exfalso; simp at h; omega) | skip))
            | refine oX (frz := []) Et_ok ?_
            | refine oS ?_
            | refine RunOps.nil ?_
            | refine Run.skip ?_
            | refine cT ?_
            | refine cF ?_
            | refine Run.block ?_
            | refine Run.exit ?_
            | refine Run.draw (frz := []) Et_ok (by kernel_rfl) ?_
            | refine eX ?_
            | refine eS ?_
            | refine eN ?_
            | ((refine oK (c1) (fun h => ?_) (fun h => ?_)) <;> (first | (exfalso; simp at h <;> fail) | (exfalso; simp at h; omega) | skip))
            | refine oC (c1) ?_
            | ((refine eK (c1) (fun h => ?_) (fun h => ?_)) <;> (first | (exfalso; simp at h <;> fail) | (exfalso; simp at h; omega) | skip))
            | refine eC (c1) ?_
            | ((refine oK (c2) (fun h => ?_) (fun h => ?_)) <;> (first | (exfalso; simp at h <;> fail) | (exfalso; simp at h; omega) | skip))
            | refine oC (c2) ?_
            | ((refine eK (c2) (fun h => ?_) (fun h => ?_)) <;> (first | (exfalso; simp at h <;> fail) | (exfalso; simp at h; omega) | skip))
            | refine eC (c2) ?_
            | (refine Run.ret ?_; (first | refine rB ?_ | refine rI ?_ | refine rA ?_ | refine rII ?_ | refine rSI ?_ | refine rT ?_ | refine rS ?_); first | done | (skip))
            | (exact ⟨s + 1, hsl, by omega, (tidy_of (objs := _) _ 1 (by rfl) rfl (by repeat' (first | exact trivial | refine ⟨(Or.inl rfl), ?_⟩ | refine ⟨(Or.inl (inc_get (k := s) (by kernel_rfl) (by omega))), ?_⟩ | refine ⟨(Or.inr rfl), ?_⟩ | fail)) (by repeat' (first | exact trivial | refine ⟨rfl, ?_⟩ | fail)) rfl rfl)⟩)
            | ((exfalso; (simp at h <;> omega)))
            | fail)
      | false =>
        have e1 : askNameF g s = ([], 14) := by unfold askNameF; rw [if_neg (by simp [h0]), if_neg (by simp [hg])]
        have c2 := askSym g [] hf
        rw [e1] at c1
        simp only at c1
        rw [hg] at hth
        generalize askSymF g [] = r at c2
        have ht : ¬ s < g.tokens.length := fun e => by simp [e] at hth
        by_cases hr1 : 16 ≤ s
        · have hr2 : ¬ s < 16 + g.names.length := fun e => by simp [ht, hr1, e] at hth
          repeat' (first
            | refine oX (frz := []) (v := .d (.int .i64 ((16 + g.names.length : Nat) : Int))) Et_ok ?_ (he := (hwn))
            | refine eX (v := .d (.int .i64 ((16 + g.names.length : Nat) : Int))) ?_ (he := (hwn))
            | refine Run.region ?_
            | refine Run.seq ?_
            | ((refine oB (frz := []) Et_ok (fun h => ?_) (fun h => ?_)) <;> (first | (exfalso; simp at h <;> fail) | (exfalso; simp at h; omega) | skip))
            | ((refine eB (fun h => ?_) (fun h => ?_)) <;> (first | (exfalso; simp at h <;> fail) | (exfalso; simp at h; omega) | skip))
            | refine oX (frz := []) Et_ok ?_
            | refine oS ?_
            | refine RunOps.nil ?_
            | refine Run.skip ?_
            | refine cT ?_
            | refine cF ?_
            | refine Run.block ?_
            | refine Run.exit ?_
            | refine Run.draw (frz := []) Et_ok (by kernel_rfl) ?_
            | refine eX ?_
            | refine eS ?_
            | refine eN ?_
            | ((refine oK (c1) (fun h => ?_) (fun h => ?_)) <;> (first | (exfalso; simp at h <;> fail) | (exfalso; simp at h; omega) | skip))
            | refine oC (c1) ?_
            | ((refine eK (c1) (fun h => ?_) (fun h => ?_)) <;> (first | (exfalso; simp at h <;> fail) | (exfalso; simp at h; omega) | skip))
            | refine eC (c1) ?_
            | ((refine oK (c2) (fun h => ?_) (fun h => ?_)) <;> (first | (exfalso; simp at h <;> fail) | (exfalso; simp at h; omega) | skip))
            | refine oC (c2) ?_
            | ((refine eK (c2) (fun h => ?_) (fun h => ?_)) <;> (first | (exfalso; simp at h <;> fail) | (exfalso; simp at h; omega) | skip))
            | refine eC (c2) ?_
            | (refine Run.ret ?_; (first | refine rB ?_ | refine rI ?_ | refine rA ?_ | refine rII ?_ | refine rSI ?_ | refine rT ?_ | refine rS ?_); first | done | (skip))
            | (exact ⟨s + 1, hsl, by omega, (tidy_of (objs := _) _ 1 (by rfl) rfl (by repeat' (first | exact trivial | refine ⟨(Or.inl rfl), ?_⟩ | refine ⟨(Or.inl (inc_get (k := s) (by kernel_rfl) (by omega))), ?_⟩ | refine ⟨(Or.inr rfl), ?_⟩ | fail)) (by repeat' (first | exact trivial | refine ⟨rfl, ?_⟩ | fail)) rfl rfl)⟩)
            | ((exfalso; (simp at h <;> omega)))
            | fail)
        · repeat' (first
            | refine oX (frz := []) (v := .d (.int .i64 ((16 + g.names.length : Nat) : Int))) Et_ok ?_ (he := (hwn))
            | refine eX (v := .d (.int .i64 ((16 + g.names.length : Nat) : Int))) ?_ (he := (hwn))
            | refine Run.region ?_
            | refine Run.seq ?_
            | ((refine oB (frz := []) Et_ok (fun h => ?_) (fun h => ?_)) <;> (first | (exfalso; simp at h <;> fail) | (exfalso; simp at h; omega) | skip))
            | ((refine eB (fun h => ?_) (fun h => ?_)) <;> (first | (exfalso; simp at h <;> fail) | (exfalso; simp at h; omega) | skip))
            | refine oX (frz := []) Et_ok ?_
            | refine oS ?_
            | refine RunOps.nil ?_
            | refine Run.skip ?_
            | refine cT ?_
            | refine cF ?_
            | refine Run.block ?_
            | refine Run.exit ?_
            | refine Run.draw (frz := []) Et_ok (by kernel_rfl) ?_
            | refine eX ?_
            | refine eS ?_
            | refine eN ?_
            | ((refine oK (c1) (fun h => ?_) (fun h => ?_)) <;> (first | (exfalso; simp at h <;> fail) | (exfalso; simp at h; omega) | skip))
            | refine oC (c1) ?_
            | ((refine eK (c1) (fun h => ?_) (fun h => ?_)) <;> (first | (exfalso; simp at h <;> fail) | (exfalso; simp at h; omega) | skip))
            | refine eC (c1) ?_
            | ((refine oK (c2) (fun h => ?_) (fun h => ?_)) <;> (first | (exfalso; simp at h <;> fail) | (exfalso; simp at h; omega) | skip))
            | refine oC (c2) ?_
            | ((refine eK (c2) (fun h => ?_) (fun h => ?_)) <;> (first | (exfalso; simp at h <;> fail) | (exfalso; simp at h; omega) | skip))
            | refine eC (c2) ?_
            | (refine Run.ret ?_; (first | refine rB ?_ | refine rI ?_ | refine rA ?_ | refine rII ?_ | refine rSI ?_ | refine rT ?_ | refine rS ?_); first | done | (skip))
            | (exact ⟨s + 1, hsl, by omega, (tidy_of (objs := _) _ 1 (by rfl) rfl (by repeat' (first | exact trivial | refine ⟨(Or.inl rfl), ?_⟩ | refine ⟨(Or.inl (inc_get (k := s) (by kernel_rfl) (by omega))), ?_⟩ | refine ⟨(Or.inr rfl), ?_⟩ | fail)) (by repeat' (first | exact trivial | refine ⟨rfl, ?_⟩ | fail)) rfl rfl)⟩)
            | ((exfalso; (simp at h <;> omega)))
            | fail)
    · have hse : s = 30 := by omega
      subst hse
      repeat' (first
        | refine Run.region ?_
        | refine Run.seq ?_
        | ((refine oB (frz := []) Et_ok (fun h => ?_) (fun h => ?_)) <;> (first | (exfalso; simp at h <;> fail) | (exfalso; simp at h; omega) | skip))
        | ((refine eB (fun h => ?_) (fun h => ?_)) <;> (first | (exfalso; simp at h <;> fail) | (exfalso; simp at h; omega) | skip))
        | refine oX (frz := []) Et_ok ?_
        | refine oS ?_
        | refine RunOps.nil ?_
        | refine Run.skip ?_
        | refine cT ?_
        | refine cF ?_
        | refine Run.block ?_
        | refine Run.exit ?_
        | refine Run.draw (frz := []) Et_ok (by kernel_rfl) ?_
        | refine eX ?_
        | refine eS ?_
        | refine eN ?_
        | (refine Run.ret ?_; (first | refine rB ?_ | refine rI ?_ | refine rA ?_ | refine rII ?_ | refine rSI ?_ | refine rT ?_ | refine rS ?_); first | done | (rfl))
        | (exfalso; (simp at h <;> omega))
        | fail)
end Go.Av
end
noncomputable section
namespace Go.Av
open Go Go.Proofs
set_option maxRecDepth 10000
section
variable {H : Type} {enc : TypeId × Value → H} {w : World} {spare : Nat → Bool} {held : Bool} {fuel : Nat} {cs : List Value} {x : DataW H × List MemPlace}
abbrev Wf64 (n : Int) : Prop := (Lit.int .i64 n).wf = true
def wfStr (s : List Nat) : Prop := s.length ≤ maxLen ∧ ∀ c ∈ s, c < 256
structure WfProd (p : GProd) : Prop where
  left : Wf64 p.left
  len : p.right.length ≤ maxLen
  right : ∀ n ∈ p.right, Wf64 n
structure WfGram (g : Gram) : Prop where
  k : Wf64 g.k
  tokensL : g.tokens.length ≤ maxLen
  tokens : ∀ s ∈ g.tokens, wfStr s
  sep : wfStr g.sep
  namesL : g.names.length ≤ maxLen
  names : ∀ s ∈ g.names, wfStr s
  start : Wf64 g.start
  prodsL : g.prods.length ≤ maxLen
  prods : ∀ p ∈ g.prods, WfProd p
theorem cr_ints (hsp : ∀ b, spare b = true) (h : DataW.trod enc Try.prog w 0 spare held fuel 32 cs = some x) : ∃ l : List Int, CellsRep (heapD w) (ints l) cs ∧ l.length ≤ maxLen ∧ ∀ n ∈ l, Wf64 n :=
  cr_slice (DV.int .i64) Wf64 Try.underlying32 (by kernel_rfl) (Nat.le_refl _) hsp (fun n cs' y _ hy => cr_int Try.underlying3 hy) h
theorem arg_ints {r : Reach} {b0 : Nat} {v : Value} {d : DataW H} {ps : List MemPlace} (hsp : ∀ b, spare b = true) (hval : Value.okWide Try.prog w r b0 32 v) (h : DataW.Trod enc Try.prog w 0 spare held 32 v d ps) :
    ∃ l : List Int, RepD (heapD w) (ints l) v ∧ l.length ≤ maxLen ∧ ∀ n ∈ l, Wf64 n := by
  obtain ⟨es, he, l, rfl, hl⟩ := arg_slice (sz := 1) (R := fun es => ∃ l : List Int, es = l.map (DV.int .i64) ∧ l.length ≤ maxLen ∧ ∀ n ∈ l, Wf64 n) Try.underlying32 hval h (fun n x hx => by
    obtain ⟨l, h1, h2⟩ := cr_ints hsp hx
    exact ⟨_, h1, l, rfl, h2⟩)
  exact ⟨l, he, hl⟩
end
end Go.Av
end
noncomputable section
namespace Go.Av
open Go Go.Proofs
theorem w64_of {n : Int} (h : Wf64 n) : W64 n := Go.bounds_i64 h
theorem lawPartsA (nums : List Int) (w : nums.length ≤ maxLen ∧ ∀ n ∈ nums, Wf64 n) : KnownCall Try.prog 5 [ints nums] (.d (.bool true)) :=
  lawParts nums fun n hn => w64_of (w.2 n hn)
end Go.Av
end

/-
  Parts of the way to the law, joined: rules for code over data, and what the functions return. Conditions stand at each.
-/
import Derived.Test.YtchoocpngfhkpaaN3
import Derived.Test.YtchoocpngfhkpaaN2
noncomputable section
namespace Go.Av
open Go Go.Proofs
set_option maxRecDepth 10000
theorem vN {x : Int} {n : Nat} (h : x = (n : Int)) (hn : n ≤ 1099511627776) : AV.d (.int .i64 (IntKind.i64.wrap x)) = .d (.int .i64 (n : Int)) := by
  subst h; exact congrArg (fun n => AV.d (.int .i64 n)) (wrap_nat hn)
theorem numS (l : List Int) (hl : ∀ n ∈ l, W64 n) (i : Nat) : KnownCall Try.prog 49 [.int .i64 (atF l i), .int .i64 1073741824] (.d (.int .i64 (numF l i : Nat))) := mod30 _ (atF_wf hl i)
theorem shrN {a b : Nat} (h : b ≤ 64) : Int.fdiv (a : Int) (2 ^ (min (b : Int).toNat 64)) = ((a / 2 ^ b : Nat) : Int) := by
  rw [Int.toNat_natCast, Nat.min_eq_left h, Int.fdiv_eq_ediv_of_nonneg _ (Int.pow_nonneg (by decide))]
  push_cast
  rfl
theorem shrF (n : Nat) : (!decide ((n : Int) < 0)) = true := by simp
def kTok (k : Nat) : List (List Nat) := [[97], [98]].take (1 + k / 2 % 2)
def kMany (k : Nat) : Nat := 1 + k / 4 % 3
def zF (y s : Nat) : Nat := y / 4 / 2 ^ (4 * s) % 16
def symN (T M z : Nat) : Nat := if z % 5 < 3 then z % T else 16 + z % M
def rgtTo (T M y s : Nat) : List Int := (List.range s).map fun s => ((symN T M (zF y s) : Nat) : Int)
def prodN (nums : List Int) (T M i j : Nat) : GProd := ⟨((16 + i : Nat) : Int), rgtTo T M (numF nums (4 + 3 * i + j)) (numF nums (4 + 3 * i + j) % 4)⟩
def rowTo (nums : List Int) (T M i j : Nat) : List GProd := (List.range j).map (prodN nums T M i)
def accTo (nums : List Int) (T M : Nat) : Nat → List GProd
  | 0 => []
  | i + 1 => (accTo nums T M i ++ rowTo nums T M i (numF nums (1 + i) % 3 + 1)).take 7
def namesTo (i : Nat) : List (List Nat) := (List.range i).map fun i => [83 + i]
def anyF (nums : List Int) : Gram :=
  ⟨((1 + numF nums 0 % 2 : Nat) : Int), kTok (numF nums 0), [122], namesTo (kMany (numF nums 0)), 16, accTo nums (kTok (numF nums 0)).length (kMany (numF nums 0)) (kMany (numF nums 0))⟩
theorem kTok_len (k : Nat) : (kTok k).length = 1 + k / 2 % 2 := by simp [kTok]; omega
theorem cutTokV (k : Nat) : AV.d (DV.sl 1 (cutL none (some ((1 + k / 2 % 2 : Nat) : Int)) [.str [97], .str [98]])) = AV.d (strs (kTok k)) := by
  rcases Nat.mod_two_eq_zero_or_one (k / 2) with h | h <;> simp only [kTok, h] <;> rfl
theorem cutTokF (k : Nat) : (cutC none (some ((1 + k / 2 % 2 : Nat) : Int)) 2 && true) = true := by
  rcases Nat.mod_two_eq_zero_or_one (k / 2) with h | h <;> rw [h] <;> rfl
abbrev fA : List Nat := [19, 40, 42, 96, 105, 111]
abbrev boxA (k : Int) (toks : List (List Nat)) (ns ps : AV) : Ob := .box [.d (.int .i64 k), .d (strs toks), .d (.str [122]), ns, .d (.int .i64 16), ps]
theorem vU8 {n : Nat} (h : n < 256) : AV.d (.int .u8 (IntKind.u8.wrap (n : Int))) = .d (.int .u8 (n : Int)) := by
  have : IntKind.u8.wrap (n : Int) = n := by unfold IntKind.wrap; simp [IntKind.bits, IntKind.signed]; omega
  rw [this]
theorem vU64 {n : Nat} (h : n < 1048576) : AV.d (.int .u64 (IntKind.u64.wrap (n : Int))) = .d (.int .u64 (n : Int)) := by
  have : IntKind.u64.wrap (n : Int) = n := by unfold IntKind.wrap; simp [IntKind.bits, IntKind.signed]; omega
  rw [this]
theorem vT {p : Prop} [Decidable p] (h : p) : AV.d (.bool (decide p)) = .d (.bool true) := by rw [decide_eq_true h]
theorem vF {p : Prop} [Decidable p] (h : ¬ p) : AV.d (.bool (decide p)) = .d (.bool false) := by rw [decide_eq_false h]
def nsD (i : Nat) : List DV := (namesTo i).map .str
def rgtD (l : List Int) : List DV := l.map (.int .i64)
def rowN : List Int → DV
  | [] => .nilsl
  | a :: l => ints (a :: l)
def encN (p : GProd) : DV := .agg [.int .i64 p.left, rowN p.right]
theorem encN_to (l : List GProd) : DvN (.sl 2 (l.map encN)) (.sl 2 (l.map encP)) := by
  refine DvN.map (f := encN) (g := encP) (n := 2) (fun _ => rfl) (fun _ => rfl) l fun a _ i x y hx hy => ?_
  match i with
  | 0 => simp [encN, encP, cellsD] at hx hy; subst hx hy; exact .refl
  | 1 =>
    simp [encN, encP, cellsD] at hx hy; subst hx hy
    cases a.right with
    | nil => exact .nil
    | cons r l => exact .refl
  | i + 2 => simp [encN, cellsD] at hx
theorem range_split (j d : Nat) : List.range (j + d) = List.range j ++ List.range' j d := by
  rw [List.range_eq_range', List.range_eq_range', ← List.range'_append_1, Nat.zero_add]
theorem nsD_succ (i : Nat) : nsD (i + 1) = nsD i ++ [.str [83 + i]] := by simp [nsD, namesTo, List.range_succ]
def psI (p : GProd) : Nat := match p.right with | [] => 4 | _ :: _ => 5
def psA : List GProd → AV
  | [] => .d .nilsl
  | p :: l => .sr (psI p) 2 (encN p :: l.map encN)
def psO : List GProd → List Ob
  | [] => []
  | p :: l => .box [.d (.int .i64 p.left), rowA 4 1 (rgtD p.right)] :: (rowO 1 (rgtD p.right) ++ [.room (l.length + 1) 2])
theorem accTo_len (nums : List Int) (T M i : Nat) : (accTo nums T M i).length ≤ 7 := by
  cases i with
  | zero => exact Nat.zero_le _
  | succ i => simp only [accTo, List.length_take]; omega
theorem acc_ne (nums : List Int) (T M i : Nat) : accTo nums T M (i + 1) ≠ [] := fun h => by
  have h := congrArg List.length h
  simp [accTo, rowTo] at h
set_option maxHeartbeats 4000000 in
theorem anyS0 (nums : List Int) (hn : ∀ n ∈ nums, W64 n) : KnownCall Try.prog 24 [ints nums] (.d (.agg [.int .i64 (anyF nums).k, strs (anyF nums).tokens, .str (anyF nums).sep, strs (anyF nums).names, .int .i64 (anyF nums).start, .sl 2 ((anyF nums).prods.map encN)])) := by
  obtain ⟨k, hk⟩ : ∃ k, k = numF nums 0 := ⟨_, rfl⟩
  have hkl := numF_lt nums 0
  have hm0 := numS nums hn 0
  rw [← hk] at hm0 hkl
  obtain ⟨M, hM⟩ : ∃ M, M = 1 + k / 4 % 3 := ⟨_, rfl⟩
  obtain ⟨T, hT⟩ : ∃ T, T = (kTok k).length := ⟨_, rfl⟩
  have hT2 : 1 ≤ T ∧ T ≤ 2 := by rw [hT, kTok_len]; omega
  rw [show anyF nums = ⟨((1 + k % 2 : Nat) : Int), kTok k, [122], namesTo M, 16, accTo nums T M M⟩ from by simp only [anyF, ← hk, hM, hT, kMany]]
  refine knownE Et_ok (fnAt Try.func24 (by kernel_rfl) (by kernel_rfl) : FnAt _ _ (mkFn Try.f24 fA)) ?_
  show Run _ _ _ _ _ _ (EndK _ _ (.d (.agg [.int .i64 ((1 + k % 2 : Nat) : Int), strs (kTok k), .str [122], strs (namesTo M), .int .i64 16, .sl 2 ((accTo nums T M M).map encN)])))
  repeat (first | refine Run.region ?_ | refine Run.seq ?_ | refine RunOps.nil ?_ | refine Run.skip ?_ | refine cT ?_ | refine cF ?_ | refine Run.block ?_ | refine Run.exit ?_ | refine eN ?_ | refine Run.draw (frz := fA) Et_ok (by kernel_rfl) ?_)
  iterate 1 (first | refine oX (frz := fA) Et_ok ?_ | refine eX ?_)
  repeat (first | refine Run.region ?_ | refine Run.seq ?_ | refine RunOps.nil ?_ | refine Run.skip ?_ | refine cT ?_ | refine cF ?_ | refine Run.block ?_ | refine Run.exit ?_ | refine eN ?_ | refine Run.draw (frz := fA) Et_ok (by kernel_rfl) ?_)
  iterate 1 (first | refine oX (frz := fA) Et_ok ?_ | refine eX ?_)
  refine oC (atS nums 0) ?_
  refine oC hm0 ?_
  iterate 1 (first | refine oX (frz := fA) Et_ok ?_ | refine eX ?_)
  repeat (first | refine Run.region ?_ | refine Run.seq ?_ | refine RunOps.nil ?_ | refine Run.skip ?_ | refine cT ?_ | refine cF ?_ | refine Run.block ?_ | refine Run.exit ?_ | refine eN ?_ | refine Run.draw (frz := fA) Et_ok (by kernel_rfl) ?_)
  iterate 1 (first | refine oX (frz := fA) Et_ok ?_ | refine eX ?_)
  first | refine oX (frz := fA) (v := .d (.int .i64 ((k % 2 : Nat) : Int))) Et_ok ?_ (he := (rfl)) | refine eX (v := .d (.int .i64 ((k % 2 : Nat) : Int))) ?_ (he := (rfl))
  first | refine oX (frz := fA) (v := .d (.int .i64 ((1 + k % 2 : Nat) : Int))) Et_ok ?_ (he := (vN (by omega) (by omega))) | refine eX (v := .d (.int .i64 ((1 + k % 2 : Nat) : Int))) ?_ (he := (vN (by omega) (by omega)))
  iterate 2 (first | refine oX (frz := fA) Et_ok ?_ | refine eX ?_)
  first | refine oX (frz := fA) (v := .d (.int .i64 ((k / 2 : Nat) : Int))) Et_ok ?_ (he := (vN rfl (by omega))) | refine eX (v := .d (.int .i64 ((k / 2 : Nat) : Int))) ?_ (he := (vN rfl (by omega)))
  first | refine oX (frz := fA) (v := .d (.int .i64 ((k / 2 % 2 : Nat) : Int))) Et_ok ?_ (he := (rfl)) | refine eX (v := .d (.int .i64 ((k / 2 % 2 : Nat) : Int))) ?_ (he := (rfl))
  first | refine oX (frz := fA) (v := .d (.int .i64 ((1 + k / 2 % 2 : Nat) : Int))) Et_ok ?_ (he := (vN (by omega) (by omega))) | refine eX (v := .d (.int .i64 ((1 + k / 2 % 2 : Nat) : Int))) ?_ (he := (vN (by omega) (by omega)))
  refine oX (frz := fA) (v := .d (strs (kTok k))) Et_ok ?_ (hf := cutTokF k) (he := cutTokV k)
  iterate 3 (first | refine oX (frz := fA) Et_ok ?_ | refine eX ?_)
  repeat (first | refine Run.region ?_ | refine Run.seq ?_ | refine RunOps.nil ?_ | refine Run.skip ?_ | refine cT ?_ | refine cF ?_ | refine Run.block ?_ | refine Run.exit ?_ | refine eN ?_ | refine Run.draw (frz := fA) Et_ok (by kernel_rfl) ?_)
  iterate 1 (first | refine oX (frz := fA) Et_ok ?_ | refine eX ?_)
  first | refine oX (frz := fA) (v := .d (.int .i64 ((k / 4 : Nat) : Int))) Et_ok ?_ (he := (vN rfl (by omega))) | refine eX (v := .d (.int .i64 ((k / 4 : Nat) : Int))) ?_ (he := (vN rfl (by omega)))
  first | refine oX (frz := fA) (v := .d (.int .i64 ((k / 4 % 3 : Nat) : Int))) Et_ok ?_ (he := (rfl)) | refine eX (v := .d (.int .i64 ((k / 4 % 3 : Nat) : Int))) ?_ (he := (rfl))
  first | refine oX (frz := fA) (v := .d (.int .i64 (M : Nat))) Et_ok ?_ (he := (vN (by omega) (by omega))) | refine eX (v := .d (.int .i64 (M : Nat))) ?_ (he := (vN (by omega) (by omega)))
  iterate 1 (first | refine oX (frz := fA) Et_ok ?_ | refine eX ?_)
  repeat (first | refine Run.region ?_ | refine Run.seq ?_ | refine RunOps.nil ?_ | refine Run.skip ?_ | refine cT ?_ | refine cF ?_ | refine Run.block ?_ | refine Run.exit ?_ | refine eN ?_ | refine Run.draw (frz := fA) Et_ok (by kernel_rfl) ?_)
  iterate 1 (first | refine oX (frz := fA) Et_ok ?_ | refine eX ?_)
  repeat (first | refine Run.region ?_ | refine Run.seq ?_ | refine RunOps.nil ?_ | refine Run.skip ?_ | refine cT ?_ | refine cF ?_ | refine Run.block ?_ | refine Run.exit ?_ | refine eN ?_ | refine Run.draw (frz := fA) Et_ok (by kernel_rfl) ?_)
  refine Run.loopT (fun x : Nat × List DV × List GProd => ⟨PT.ofList [(0, .d (ints nums)), (2, .bp 0 0), (4, .bp 1 0), (5, .d (.int .i64 (M : Nat))), (6, .d (.int .i64 x.1))], boxG0 :: boxA ((1 + k % 2 : Nat) : Int) (kTok k) (rowA 2 1 x.2.1) (psA x.2.2) :: (rowO 1 x.2.1 ++ psO x.2.2), []⟩)
    (fun x => x.1 ≤ M ∧ x.2.1 = nsD x.1 ∧ x.2.2 = accTo nums T M x.1) (fun x => M - x.1) (0, [], []) ⟨Nat.zero_le _, rfl, rfl⟩ (tidy_of (objs := _) _ 2 (by rfl) rfl (by repeat' (first | exact trivial | refine ⟨(Or.inl rfl), ?_⟩ | refine ⟨(Or.inr rfl), ?_⟩ | fail)) (by repeat' (first | exact trivial | refine ⟨rfl, ?_⟩ | fail)) rfl rfl) (fun x hx => ?_)
  obtain ⟨i, ns, acc⟩ := x
  obtain ⟨hi, hns, hacc⟩ := hx
  simp only at hi hns hacc ⊢
  have hMl : M ≤ 3 := by omega
  rcases Nat.lt_or_ge i M with hlt | hge
  · have hx := numS nums hn (1 + i)
    have hxl := numF_lt nums (1 + i)
    obtain ⟨x, hxe⟩ : ∃ x, x = numF nums (1 + i) := ⟨_, rfl⟩
    rw [← hxe] at hx hxl
    have hmod : IntKind.i64.wrap = IntKind.i64.wrap := rfl
    rcases ns with _ | ⟨m0, ml⟩
    · rcases acc with _ | ⟨p0, pl⟩
      · have hi0 : i = 0 := by cases i with | zero => rfl | succ i => simp [nsD, namesTo, List.range_succ] at hns
        have hns' : [DV.str [83 + i]] = nsD (i + 1) := by subst hi0; rfl
        repeat (first | refine Run.seq ?_ | refine Run.region ?_ | refine RunOps.nil ?_ | refine Run.skip ?_ | refine cT ?_ | refine cF ?_ | refine Run.block ?_ | refine Run.exit ?_)
        iterate 2 refine oX (frz := fA) Et_ok ?_
        refine oX (frz := fA) (v := .d (.bool true)) Et_ok ?_ (he := vT (by omega))
        repeat (first | refine Run.seq ?_ | refine Run.region ?_ | refine RunOps.nil ?_ | refine Run.skip ?_ | refine cT ?_ | refine cF ?_ | refine Run.block ?_ | refine Run.exit ?_)
        iterate 3 refine oX (frz := fA) Et_ok ?_
        refine oX (frz := fA) (v := .d (.int .i64 (83 + i : Nat))) Et_ok ?_ (he := vN (by omega) (by omega))
        refine oX (frz := fA) (v := .d (.int .u8 (83 + i : Nat))) Et_ok ?_ (he := vU8 (by omega))
        refine oX (frz := fA) Et_ok ?_
        refine oX (frz := fA) (v := .d (.str [83 + i])) Et_ok ?_ (he := congrArg (fun c => AV.d (.str [c])) (show ((83 + i : Nat) : Int).toNat % 256 = 83 + i by omega))
        refine oX (frz := fA) Et_ok ?_
        refine oX (frz := fA) Et_ok ?_ (hv := app0) (hf := rfl) (he := rfl)
        iterate 2 refine oX (frz := fA) Et_ok ?_
        repeat (first | refine Run.seq ?_ | refine Run.region ?_ | refine RunOps.nil ?_ | refine Run.skip ?_ | refine cT ?_ | refine cF ?_ | refine Run.block ?_ | refine Run.exit ?_)
        iterate 2 refine oX (frz := fA) Et_ok ?_
        refine oX (frz := fA) (v := .d (.int .i64 (1 + i : Nat))) Et_ok ?_ (he := vN (by omega) (by omega))
        refine oC (atS nums (1 + i)) ?_
        refine oC hx ?_
        refine oX (frz := fA) Et_ok ?_
        repeat (first | refine Run.seq ?_ | refine Run.region ?_ | refine RunOps.nil ?_ | refine Run.skip ?_ | refine cT ?_ | refine cF ?_ | refine Run.block ?_ | refine Run.exit ?_)
        refine oX (frz := fA) Et_ok ?_
        repeat (first | refine Run.seq ?_ | refine Run.region ?_ | refine RunOps.nil ?_ | refine Run.skip ?_ | refine cT ?_ | refine cF ?_ | refine Run.block ?_ | refine Run.exit ?_)
        refine Run.loopT (fun y : Nat × List GProd => ⟨PT.ofList [(0, .d (ints nums)), (2, .bp 0 0), (4, .bp 1 0), (5, .d (.int .i64 (M : Nat))), (6, .d (.int .i64 i)), (7, .d (.int .i64 x)), (8, .d (.int .i64 y.1))], boxG0 :: boxA ((1 + k % 2 : Nat) : Int) (kTok k) (.sr 2 1 ([DV.str [83 + i]])) (psA y.2) :: .room (1) 1 :: psO y.2, []⟩)
          (fun y => y.1 ≤ x % 3 + 1 ∧ y.2 = accTo nums T M i ++ rowTo nums T M i y.1 ∧ y.2.length ≤ 7) (fun y => x % 3 + 1 - y.1) (0, []) ⟨Nat.zero_le _, by rw [← hacc]; simp [rowTo], Nat.zero_le _⟩ (tidy_of (objs := _) _ 3 (by rfl) rfl (by repeat' (first | exact trivial | refine ⟨(Or.inl rfl), ?_⟩ | refine ⟨(Or.inr rfl), ?_⟩ | fail)) (by repeat' (first | exact trivial | refine ⟨rfl, ?_⟩ | fail)) rfl rfl) (fun y hy => ?_)
        obtain ⟨j, acc⟩ := y
        obtain ⟨hj1, hj2, hj3⟩ := hy
        simp only at hj1 hj2 hj3 ⊢
        by_cases hj : j ≤ x % 3 ∧ acc.length < 7
        · obtain ⟨hja, hjb⟩ := hj
          have hy := numS nums hn (4 + 3 * i + j)
          have hyl := numF_lt nums (4 + 3 * i + j)
          have hyp : prodN nums T M i j = ⟨((16 + i : Nat) : Int), rgtTo T M (numF nums (4 + 3 * i + j)) (numF nums (4 + 3 * i + j) % 4)⟩ := rfl
          have hrow : rowTo nums T M i (j + 1) = rowTo nums T M i j ++ [prodN nums T M i j] := by simp [rowTo, List.range_succ]
          have hat := atS nums (4 + 3 * i + j)
          obtain ⟨v, hv⟩ : ∃ v, v = numF nums (4 + 3 * i + j) := ⟨_, rfl⟩
          rw [← hv] at hy hyl hyp
          have hnext : acc ++ [prodN nums T M i j] = accTo nums T M i ++ rowTo nums T M i (j + 1) := by rw [hj2, hrow, List.append_assoc]
          rw [hyp] at hnext
          rcases acc with _ | ⟨⟨pl, pr⟩, ps⟩
          · repeat (first | refine Run.seq ?_ | refine Run.region ?_ | refine RunOps.nil ?_ | refine Run.skip ?_ | refine cT ?_ | refine cF ?_ | refine Run.block ?_ | refine Run.exit ?_)
            iterate 2 refine oX (frz := fA) Et_ok ?_
            refine oX (frz := fA) (v := .d (.int .i64 ((x % 3 : Nat) : Int))) Et_ok ?_ (he := rfl)
            refine oX (frz := fA) (v := .d (.bool true)) Et_ok ?_ (he := vT (by omega))
            iterate 4 refine oX (frz := fA) Et_ok ?_
            refine oX (frz := fA) Et_ok ?_
            refine oX (frz := fA) Et_ok ?_
            repeat (first | refine Run.seq ?_ | refine Run.region ?_ | refine RunOps.nil ?_ | refine Run.skip ?_ | refine cT ?_ | refine cF ?_ | refine Run.block ?_ | refine Run.exit ?_)
            refine oX (frz := fA) Et_ok ?_
            refine oX (frz := fA) (v := .d (.int .i64 ((16 + i : Nat) : Int))) Et_ok ?_ (he := vN (by omega) (by omega))
            iterate 3 refine oX (frz := fA) Et_ok ?_
            repeat (first | refine Run.seq ?_ | refine Run.region ?_ | refine RunOps.nil ?_ | refine Run.skip ?_ | refine cT ?_ | refine cF ?_ | refine Run.block ?_ | refine Run.exit ?_)
            iterate 2 refine oX (frz := fA) Et_ok ?_
            refine oX (frz := fA) (v := .d (.int .i64 ((3 * i : Nat) : Int))) Et_ok ?_ (he := vN (by omega) (by omega))
            refine oX (frz := fA) (v := .d (.int .i64 ((4 + 3 * i : Nat) : Int))) Et_ok ?_ (he := vN (by omega) (by omega))
            refine oX (frz := fA) Et_ok ?_
            refine oX (frz := fA) (v := .d (.int .i64 ((4 + 3 * i + j : Nat) : Int))) Et_ok ?_ (he := vN (by omega) (by omega))
            refine oC hat ?_
            refine oC hy ?_
            refine oX (frz := fA) Et_ok ?_
            repeat (first | refine Run.seq ?_ | refine Run.region ?_ | refine RunOps.nil ?_ | refine Run.skip ?_ | refine cT ?_ | refine cF ?_ | refine Run.block ?_ | refine Run.exit ?_)
            refine oX (frz := fA) Et_ok ?_
            repeat (first | refine Run.seq ?_ | refine Run.region ?_ | refine RunOps.nil ?_ | refine Run.skip ?_ | refine cT ?_ | refine cF ?_ | refine Run.block ?_ | refine Run.exit ?_)
            refine Run.loopT (fun z : Nat × List Int => ⟨PT.ofList [(0, .d (ints nums)), (2, .bp 0 0), (4, .bp 1 0), (5, .d (.int .i64 (M : Nat))), (6, .d (.int .i64 i)), (7, .d (.int .i64 x)), (8, .d (.int .i64 j)), (9, .bp 3 0), (10, .d (.int .i64 v)), (11, .d (.int .i64 z.1))], boxG0 :: boxA ((1 + k % 2 : Nat) : Int) (kTok k) (.sr 2 1 ([DV.str [83 + i]])) (.d .nilsl) :: .room (1) 1 :: .box [.d (.int .i64 ((16 + i : Nat) : Int)), rowA 4 1 (rgtD z.2)] :: rowO 1 (rgtD z.2), []⟩)
              (fun z => z.1 ≤ v % 4 ∧ z.2 = rgtTo T M v z.1) (fun z => v % 4 - z.1) (0, []) ⟨Nat.zero_le _, rfl⟩ (tidy_of (objs := _) _ 4 (by rfl) rfl (by repeat' (first | exact trivial | refine ⟨(Or.inl rfl), ?_⟩ | refine ⟨(Or.inr rfl), ?_⟩ | fail)) (by repeat' (first | exact trivial | refine ⟨rfl, ?_⟩ | fail)) rfl rfl) (fun z hz => ?_)
            obtain ⟨s, r⟩ := z
            obtain ⟨hs1, hs2⟩ := hz
            simp only at hs1 hs2 ⊢
            have hrl : r.length = s := by rw [hs2]; simp [rgtTo]
            rcases Nat.lt_or_ge s (v % 4) with hsl | hsg
            · have hnx : r ++ [((symN T M (zF v s) : Nat) : Int)] = rgtTo T M v (s + 1) := by rw [hs2]; simp [rgtTo, List.range_succ]
              rcases r with _ | ⟨r1, rr⟩
              · have hrl' := hrl
                simp only [List.length_cons, List.length_nil] at hrl'
                repeat (first | refine Run.seq ?_ | refine Run.region ?_ | refine RunOps.nil ?_ | refine Run.skip ?_ | refine cT ?_ | refine cF ?_ | refine Run.block ?_ | refine Run.exit ?_)
                iterate 2 refine oX (frz := fA) Et_ok ?_
                refine oX (frz := fA) (v := .d (.int .i64 ((v % 4 : Nat) : Int))) Et_ok ?_ (he := rfl)
                refine oX (frz := fA) (v := .d (.bool true)) Et_ok ?_ (he := vT (by omega))
                repeat (first | refine Run.seq ?_ | refine Run.region ?_ | refine RunOps.nil ?_ | refine Run.skip ?_ | refine cT ?_ | refine cF ?_ | refine Run.block ?_ | refine Run.exit ?_)
                refine oX (frz := fA) Et_ok ?_
                refine oX (frz := fA) (v := .d (.int .i64 ((v / 4 : Nat) : Int))) Et_ok ?_ (he := vN rfl (by omega))
                refine oX (frz := fA) Et_ok ?_
                refine oX (frz := fA) (v := .d (.int .i64 ((4 * s : Nat) : Int))) Et_ok ?_ (he := vN (by omega) (by omega))
                refine oX (frz := fA) (v := .d (.int .u64 ((4 * s : Nat) : Int))) Et_ok ?_ (he := vU64 (by omega))
                refine oX (frz := fA) (v := .d (.int .i64 ((v / 4 / 2 ^ (4 * s) : Nat) : Int))) Et_ok ?_ (hf := shrF (4 * s)) (he := congrArg (fun n => AV.d (.int .i64 n)) (shrN (by omega)))
                refine oX (frz := fA) (v := .d (.int .i64 ((zF v s : Nat) : Int))) Et_ok ?_ (he := rfl)
                refine oX (frz := fA) Et_ok ?_
                repeat (first | refine Run.seq ?_ | refine Run.region ?_ | refine RunOps.nil ?_ | refine Run.skip ?_ | refine cT ?_ | refine cF ?_ | refine Run.block ?_ | refine Run.exit ?_)
                refine oX (frz := fA) Et_ok ?_
                refine oX (frz := fA) (v := .d (.int .i64 ((zF v s % 5 : Nat) : Int))) Et_ok ?_ (he := rfl)
                by_cases h5 : zF v s % 5 < 3
                · refine oX (frz := fA) (v := .d (.bool true)) Et_ok ?_ (he := vT (by omega))
                  have hsy : symN T M (zF v s) = zF v s % T := if_pos h5
                  rw [hsy] at hnx
                  repeat (first | refine Run.region ?_ | refine Run.seq ?_ | refine RunOps.nil ?_ | refine Run.skip ?_ | refine cT ?_ | refine cF ?_ | refine Run.block ?_ | refine Run.exit ?_ | refine eN ?_ | refine Run.draw (frz := fA) Et_ok (by kernel_rfl) ?_)
                  iterate 5 (first | refine oX (frz := fA) Et_ok ?_ | refine eX ?_)
                  first | refine oX (frz := fA) (v := .d (.int .i64 (T : Nat))) Et_ok ?_ (he := (by rw [hT, List.length_map])) | refine eX (v := .d (.int .i64 (T : Nat))) ?_ (he := (by rw [hT, List.length_map]))
                  refine eX (v := .d (.int .i64 ((zF v s % T : Nat) : Int))) ?_ (hf := by simp <;> omega) (he := rfl)
                  iterate 1 (first | refine oX (frz := fA) Et_ok ?_ | refine eX ?_)
                  first | refine oX (frz := fA) Et_ok ?_ (hv := app0) (hf := rfl) (he := rfl) | refine eX ?_ (hv := app0) (hf := rfl) (he := rfl)
                  iterate 2 (first | refine oX (frz := fA) Et_ok ?_ | refine eX ?_)
                  repeat (first | refine Run.region ?_ | refine Run.seq ?_ | refine RunOps.nil ?_ | refine Run.skip ?_ | refine cT ?_ | refine cF ?_ | refine Run.block ?_ | refine Run.exit ?_ | refine eN ?_ | refine Run.draw (frz := fA) Et_ok (by kernel_rfl) ?_)
                  refine oX (frz := fA) Et_ok ?_
                  refine oX (frz := fA) (v := .d (.int .i64 ((s + 1 : Nat) : Int))) Et_ok ?_ (he := vN (by omega) (by omega))
                  refine oX (frz := fA) Et_ok ?_
                  repeat (first | refine Run.seq ?_ | refine Run.region ?_ | refine RunOps.nil ?_ | refine Run.skip ?_ | refine cT ?_ | refine cF ?_ | refine Run.block ?_ | refine Run.exit ?_)
                  exact ⟨(s + 1, _), ⟨hsl, hnx⟩, by simp only <;> omega, (tidy_of (objs := _) _ 5 (by rfl) rfl (by repeat' (first | exact trivial | refine ⟨(Or.inl rfl), ?_⟩ | refine ⟨(Or.inr rfl), ?_⟩ | fail)) (by repeat' (first | exact trivial | refine ⟨rfl, ?_⟩ | fail)) rfl rfl)⟩
                · refine oX (frz := fA) (v := .d (.bool false)) Et_ok ?_ (he := vF (by omega))
                  have hsy : symN T M (zF v s) = 16 + zF v s % M := if_neg h5
                  rw [hsy] at hnx
                  repeat (first | refine Run.region ?_ | refine Run.seq ?_ | refine RunOps.nil ?_ | refine Run.skip ?_ | refine cT ?_ | refine cF ?_ | refine Run.block ?_ | refine Run.exit ?_ | refine eN ?_ | refine Run.draw (frz := fA) Et_ok (by kernel_rfl) ?_)
                  iterate 4 (first | refine oX (frz := fA) Et_ok ?_ | refine eX ?_)
                  refine eX (v := .d (.int .i64 ((zF v s % M : Nat) : Int))) ?_ (hf := by simp <;> omega) (he := rfl)
                  first | refine oX (frz := fA) (v := .d (.int .i64 ((16 + zF v s % M : Nat) : Int))) Et_ok ?_ (he := (vN (by omega) (by have := Nat.mod_lt (zF v s) (show 0 < M by omega) <;> omega))) | refine eX (v := .d (.int .i64 ((16 + zF v s % M : Nat) : Int))) ?_ (he := (vN (by omega) (by have := Nat.mod_lt (zF v s) (show 0 < M by omega) <;> omega)))
                  iterate 1 (first | refine oX (frz := fA) Et_ok ?_ | refine eX ?_)
                  first | refine oX (frz := fA) Et_ok ?_ (hv := app0) (hf := rfl) (he := rfl) | refine eX ?_ (hv := app0) (hf := rfl) (he := rfl)
                  iterate 2 (first | refine oX (frz := fA) Et_ok ?_ | refine eX ?_)
                  repeat (first | refine Run.region ?_ | refine Run.seq ?_ | refine RunOps.nil ?_ | refine Run.skip ?_ | refine cT ?_ | refine cF ?_ | refine Run.block ?_ | refine Run.exit ?_ | refine eN ?_ | refine Run.draw (frz := fA) Et_ok (by kernel_rfl) ?_)
                  refine oX (frz := fA) Et_ok ?_
                  refine oX (frz := fA) (v := .d (.int .i64 ((s + 1 : Nat) : Int))) Et_ok ?_ (he := vN (by omega) (by omega))
                  refine oX (frz := fA) Et_ok ?_
                  repeat (first | refine Run.seq ?_ | refine Run.region ?_ | refine RunOps.nil ?_ | refine Run.skip ?_ | refine cT ?_ | refine cF ?_ | refine Run.block ?_ | refine Run.exit ?_)
                  exact ⟨(s + 1, _), ⟨hsl, hnx⟩, by simp only <;> omega, (tidy_of (objs := _) _ 5 (by rfl) rfl (by repeat' (first | exact trivial | refine ⟨(Or.inl rfl), ?_⟩ | refine ⟨(Or.inr rfl), ?_⟩ | fail)) (by repeat' (first | exact trivial | refine ⟨rfl, ?_⟩ | fail)) rfl rfl)⟩
              · have hrl' := hrl
                simp only [List.length_cons, List.length_nil] at hrl'
                repeat (first | refine Run.seq ?_ | refine Run.region ?_ | refine RunOps.nil ?_ | refine Run.skip ?_ | refine cT ?_ | refine cF ?_ | refine Run.block ?_ | refine Run.exit ?_)
                iterate 2 refine oX (frz := fA) Et_ok ?_
                refine oX (frz := fA) (v := .d (.int .i64 ((v % 4 : Nat) : Int))) Et_ok ?_ (he := rfl)
                refine oX (frz := fA) (v := .d (.bool true)) Et_ok ?_ (he := vT (by omega))
                repeat (first | refine Run.seq ?_ | refine Run.region ?_ | refine RunOps.nil ?_ | refine Run.skip ?_ | refine cT ?_ | refine cF ?_ | refine Run.block ?_ | refine Run.exit ?_)
                refine oX (frz := fA) Et_ok ?_
                refine oX (frz := fA) (v := .d (.int .i64 ((v / 4 : Nat) : Int))) Et_ok ?_ (he := vN rfl (by omega))
                refine oX (frz := fA) Et_ok ?_
                refine oX (frz := fA) (v := .d (.int .i64 ((4 * s : Nat) : Int))) Et_ok ?_ (he := vN (by omega) (by omega))
                refine oX (frz := fA) (v := .d (.int .u64 ((4 * s : Nat) : Int))) Et_ok ?_ (he := vU64 (by omega))
                refine oX (frz := fA) (v := .d (.int .i64 ((v / 4 / 2 ^ (4 * s) : Nat) : Int))) Et_ok ?_ (hf := shrF (4 * s)) (he := congrArg (fun n => AV.d (.int .i64 n)) (shrN (by omega)))
                refine oX (frz := fA) (v := .d (.int .i64 ((zF v s : Nat) : Int))) Et_ok ?_ (he := rfl)
                refine oX (frz := fA) Et_ok ?_
                repeat (first | refine Run.seq ?_ | refine Run.region ?_ | refine RunOps.nil ?_ | refine Run.skip ?_ | refine cT ?_ | refine cF ?_ | refine Run.block ?_ | refine Run.exit ?_)
                refine oX (frz := fA) Et_ok ?_
                refine oX (frz := fA) (v := .d (.int .i64 ((zF v s % 5 : Nat) : Int))) Et_ok ?_ (he := rfl)
                by_cases h5 : zF v s % 5 < 3
                · refine oX (frz := fA) (v := .d (.bool true)) Et_ok ?_ (he := vT (by omega))
                  have hsy : symN T M (zF v s) = zF v s % T := if_pos h5
                  rw [hsy] at hnx
                  repeat (first | refine Run.region ?_ | refine Run.seq ?_ | refine RunOps.nil ?_ | refine Run.skip ?_ | refine cT ?_ | refine cF ?_ | refine Run.block ?_ | refine Run.exit ?_ | refine eN ?_ | refine Run.draw (frz := fA) Et_ok (by kernel_rfl) ?_)
                  iterate 5 (first | refine oX (frz := fA) Et_ok ?_ | refine eX ?_)
                  first | refine oX (frz := fA) (v := .d (.int .i64 (T : Nat))) Et_ok ?_ (he := (by rw [hT, List.length_map])) | refine eX (v := .d (.int .i64 (T : Nat))) ?_ (he := (by rw [hT, List.length_map]))
                  refine eX (v := .d (.int .i64 ((zF v s % T : Nat) : Int))) ?_ (hf := by simp <;> omega) (he := rfl)
                  iterate 1 (first | refine oX (frz := fA) Et_ok ?_ | refine eX ?_)
                  first | refine oX (frz := fA) Et_ok ?_ (hv := app1) (hf := rfl) (he := rfl) | refine eX ?_ (hv := app1) (hf := rfl) (he := rfl)
                  iterate 2 (first | refine oX (frz := fA) Et_ok ?_ | refine eX ?_)
                  repeat (first | refine Run.region ?_ | refine Run.seq ?_ | refine RunOps.nil ?_ | refine Run.skip ?_ | refine cT ?_ | refine cF ?_ | refine Run.block ?_ | refine Run.exit ?_ | refine eN ?_ | refine Run.draw (frz := fA) Et_ok (by kernel_rfl) ?_)
                  refine oX (frz := fA) Et_ok ?_
                  refine oX (frz := fA) (v := .d (.int .i64 ((s + 1 : Nat) : Int))) Et_ok ?_ (he := vN (by omega) (by omega))
                  refine oX (frz := fA) Et_ok ?_
                  repeat (first | refine Run.seq ?_ | refine Run.region ?_ | refine RunOps.nil ?_ | refine Run.skip ?_ | refine cT ?_ | refine cF ?_ | refine Run.block ?_ | refine Run.exit ?_)
                  exact ⟨(s + 1, _), ⟨hsl, hnx⟩, by simp only <;> omega, (tidy_of (objs := _) _ 5 (by first | rfl | (simp only [rowO, rgtD, List.map_append, List.map_cons, List.map_nil, List.cons_append, List.length_append, List.length_cons, List.length_nil] <;> rfl)) rfl (by repeat' (first | exact trivial | refine ⟨(Or.inl rfl), ?_⟩ | refine ⟨(Or.inr rfl), ?_⟩ | fail)) (by repeat' (first | exact trivial | refine ⟨rfl, ?_⟩ | fail)) rfl rfl)⟩
                · refine oX (frz := fA) (v := .d (.bool false)) Et_ok ?_ (he := vF (by omega))
                  have hsy : symN T M (zF v s) = 16 + zF v s % M := if_neg h5
                  rw [hsy] at hnx
                  repeat (first | refine Run.region ?_ | refine Run.seq ?_ | refine RunOps.nil ?_ | refine Run.skip ?_ | refine cT ?_ | refine cF ?_ | refine Run.block ?_ | refine Run.exit ?_ | refine eN ?_ | refine Run.draw (frz := fA) Et_ok (by kernel_rfl) ?_)
                  iterate 4 (first | refine oX (frz := fA) Et_ok ?_ | refine eX ?_)
                  refine eX (v := .d (.int .i64 ((zF v s % M : Nat) : Int))) ?_ (hf := by simp <;> omega) (he := rfl)
                  first | refine oX (frz := fA) (v := .d (.int .i64 ((16 + zF v s % M : Nat) : Int))) Et_ok ?_ (he := (vN (by omega) (by have := Nat.mod_lt (zF v s) (show 0 < M by omega) <;> omega))) | refine eX (v := .d (.int .i64 ((16 + zF v s % M : Nat) : Int))) ?_ (he := (vN (by omega) (by have := Nat.mod_lt (zF v s) (show 0 < M by omega) <;> omega)))
                  iterate 1 (first | refine oX (frz := fA) Et_ok ?_ | refine eX ?_)
                  first | refine oX (frz := fA) Et_ok ?_ (hv := app1) (hf := rfl) (he := rfl) | refine eX ?_ (hv := app1) (hf := rfl) (he := rfl)
                  iterate 2 (first | refine oX (frz := fA) Et_ok ?_ | refine eX ?_)
                  repeat (first | refine Run.region ?_ | refine Run.seq ?_ | refine RunOps.nil ?_ | refine Run.skip ?_ | refine cT ?_ | refine cF ?_ | refine Run.block ?_ | refine Run.exit ?_ | refine eN ?_ | refine Run.draw (frz := fA) Et_ok (by kernel_rfl) ?_)
                  refine oX (frz := fA) Et_ok ?_
                  refine oX (frz := fA) (v := .d (.int .i64 ((s + 1 : Nat) : Int))) Et_ok ?_ (he := vN (by omega) (by omega))
                  refine oX (frz := fA) Et_ok ?_
                  repeat (first | refine Run.seq ?_ | refine Run.region ?_ | refine RunOps.nil ?_ | refine Run.skip ?_ | refine cT ?_ | refine cF ?_ | refine Run.block ?_ | refine Run.exit ?_)
                  exact ⟨(s + 1, _), ⟨hsl, hnx⟩, by simp only <;> omega, (tidy_of (objs := _) _ 5 (by first | rfl | (simp only [rowO, rgtD, List.map_append, List.map_cons, List.map_nil, List.cons_append, List.length_append, List.length_cons, List.length_nil] <;> rfl)) rfl (by repeat' (first | exact trivial | refine ⟨(Or.inl rfl), ?_⟩ | refine ⟨(Or.inr rfl), ?_⟩ | fail)) (by repeat' (first | exact trivial | refine ⟨rfl, ?_⟩ | fail)) rfl rfl)⟩
            · have hse : s = v % 4 := by omega
              rw [hse] at hs2
              rw [← hs2] at hnext
              rcases r with _ | ⟨r1, rr⟩
              · repeat (first | refine Run.seq ?_ | refine Run.region ?_ | refine RunOps.nil ?_ | refine Run.skip ?_ | refine cT ?_ | refine cF ?_ | refine Run.block ?_ | refine Run.exit ?_)
                iterate 2 refine oX (frz := fA) Et_ok ?_
                refine oX (frz := fA) (v := .d (.int .i64 ((v % 4 : Nat) : Int))) Et_ok ?_ (he := rfl)
                refine oX (frz := fA) (v := .d (.bool false)) Et_ok ?_ (he := vF (by omega))
                repeat (first | refine Run.seq ?_ | refine Run.region ?_ | refine RunOps.nil ?_ | refine Run.skip ?_ | refine cT ?_ | refine cF ?_ | refine Run.block ?_ | refine Run.exit ?_)
                iterate 3 refine oX (frz := fA) Et_ok ?_
                first | refine Run.tidy (tidy_of (objs := _) [(0, .d (ints nums)), (2, .bp 0 0), (4, .bp 1 0), (5, .d (.int .i64 (M : Nat))), (6, .d (.int .i64 i)), (7, .d (.int .i64 x)), (8, .d (.int .i64 j)), (109, .d .nilsl), (110, .d (encN (⟨((16 + i : Nat) : Int), []⟩ : GProd)))] 4 (Eq.trans (b := boxG0 :: boxA ((1 + k % 2 : Nat) : Int) (kTok k) (.sr 2 1 ([DV.str [83 + i]])) (.d .nilsl) :: .room (1) 1 :: [.box [.d (.int .i64 ((16 + i : Nat) : Int)), .d .nilsl]]) rfl rfl) rfl (by repeat' (first | exact trivial | refine ⟨(Or.inl rfl), ?_⟩ | refine ⟨(Or.inr rfl), ?_⟩ | refine ⟨rfl, ?_⟩ | fail)) (by repeat' (first | exact trivial | refine ⟨(Or.inl rfl), ?_⟩ | refine ⟨(Or.inr rfl), ?_⟩ | refine ⟨rfl, ?_⟩ | fail)) rfl rfl) ?_ | refine RunOps.tidy (tidy_of (objs := _) [(0, .d (ints nums)), (2, .bp 0 0), (4, .bp 1 0), (5, .d (.int .i64 (M : Nat))), (6, .d (.int .i64 i)), (7, .d (.int .i64 x)), (8, .d (.int .i64 j)), (109, .d .nilsl), (110, .d (encN (⟨((16 + i : Nat) : Int), []⟩ : GProd)))] 4 (Eq.trans (b := boxG0 :: boxA ((1 + k % 2 : Nat) : Int) (kTok k) (.sr 2 1 ([DV.str [83 + i]])) (.d .nilsl) :: .room (1) 1 :: [.box [.d (.int .i64 ((16 + i : Nat) : Int)), .d .nilsl]]) rfl rfl) rfl (by repeat' (first | exact trivial | refine ⟨(Or.inl rfl), ?_⟩ | refine ⟨(Or.inr rfl), ?_⟩ | refine ⟨rfl, ?_⟩ | fail)) (by repeat' (first | exact trivial | refine ⟨(Or.inl rfl), ?_⟩ | refine ⟨(Or.inr rfl), ?_⟩ | refine ⟨rfl, ?_⟩ | fail)) rfl rfl) ?_
                refine oX (frz := fA) Et_ok ?_
                first | refine oX (frz := fA) Et_ok ?_ (hv := app0) (hf := rfl) (he := rfl) | refine eX ?_ (hv := app0) (hf := rfl) (he := rfl)
                iterate 2 refine oX (frz := fA) Et_ok ?_
                repeat (first | refine Run.seq ?_ | refine Run.region ?_ | refine RunOps.nil ?_ | refine Run.skip ?_ | refine cT ?_ | refine cF ?_ | refine Run.block ?_ | refine Run.exit ?_)
                refine oX (frz := fA) Et_ok ?_
                refine oX (frz := fA) (v := .d (.int .i64 ((j + 1 : Nat) : Int))) Et_ok ?_ (he := vN (by omega) (by omega))
                refine oX (frz := fA) Et_ok ?_
                repeat (first | refine Run.seq ?_ | refine Run.region ?_ | refine RunOps.nil ?_ | refine Run.skip ?_ | refine cT ?_ | refine cF ?_ | refine Run.block ?_ | refine Run.exit ?_)
                exact ⟨(j + 1, [(⟨((16 + i : Nat) : Int), []⟩ : GProd)]), ⟨by simp only <;> omega, hnext, by simp at hjb ⊢ <;> omega⟩, by simp only <;> omega, (tidy_of (objs := _) _ 5 (Eq.trans (b := boxG0 :: boxA ((1 + k % 2 : Nat) : Int) (kTok k) (.sr 2 1 ([DV.str [83 + i]])) (.sr 4 2 [encN (⟨((16 + i : Nat) : Int), []⟩ : GProd)]) :: .room (1) 1 :: [.box [.d (.int .i64 ((16 + i : Nat) : Int)), .d .nilsl], .room 1 2]) rfl (by first | rfl | (simp [psA, psO, psI, rowA, rowO, rgtD] <;> fail))) rfl (by repeat' (first | exact trivial | refine ⟨(Or.inl rfl), ?_⟩ | refine ⟨(Or.inr rfl), ?_⟩ | fail)) (by repeat' (first | exact trivial | refine ⟨rfl, ?_⟩ | fail)) rfl rfl)⟩
              · repeat (first | refine Run.seq ?_ | refine Run.region ?_ | refine RunOps.nil ?_ | refine Run.skip ?_ | refine cT ?_ | refine cF ?_ | refine Run.block ?_ | refine Run.exit ?_)
                iterate 2 refine oX (frz := fA) Et_ok ?_
                refine oX (frz := fA) (v := .d (.int .i64 ((v % 4 : Nat) : Int))) Et_ok ?_ (he := rfl)
                refine oX (frz := fA) (v := .d (.bool false)) Et_ok ?_ (he := vF (by omega))
                repeat (first | refine Run.seq ?_ | refine Run.region ?_ | refine RunOps.nil ?_ | refine Run.skip ?_ | refine cT ?_ | refine cF ?_ | refine Run.block ?_ | refine Run.exit ?_)
                iterate 3 refine oX (frz := fA) Et_ok ?_
                first | refine Run.tidy (tidy_of (objs := _) [(0, .d (ints nums)), (2, .bp 0 0), (4, .bp 1 0), (5, .d (.int .i64 (M : Nat))), (6, .d (.int .i64 i)), (7, .d (.int .i64 x)), (8, .d (.int .i64 j)), (109, .d .nilsl), (110, .d (encN (⟨((16 + i : Nat) : Int), r1 :: rr⟩ : GProd)))] 5 (Eq.trans (b := boxG0 :: boxA ((1 + k % 2 : Nat) : Int) (kTok k) (.sr 2 1 ([DV.str [83 + i]])) (.d .nilsl) :: .room (1) 1 :: .box [.d (.int .i64 ((16 + i : Nat) : Int)), .sr 4 1 (rgtD (r1 :: rr))] :: [.room ((rgtD rr).length + 1) 1]) rfl rfl) rfl (by repeat' (first | exact trivial | refine ⟨(Or.inl rfl), ?_⟩ | refine ⟨(Or.inr rfl), ?_⟩ | refine ⟨rfl, ?_⟩ | fail)) (by repeat' (first | exact trivial | refine ⟨(Or.inl rfl), ?_⟩ | refine ⟨(Or.inr rfl), ?_⟩ | refine ⟨rfl, ?_⟩ | fail)) rfl rfl) ?_ | refine RunOps.tidy (tidy_of (objs := _) [(0, .d (ints nums)), (2, .bp 0 0), (4, .bp 1 0), (5, .d (.int .i64 (M : Nat))), (6, .d (.int .i64 i)), (7, .d (.int .i64 x)), (8, .d (.int .i64 j)), (109, .d .nilsl), (110, .d (encN (⟨((16 + i : Nat) : Int), r1 :: rr⟩ : GProd)))] 5 (Eq.trans (b := boxG0 :: boxA ((1 + k % 2 : Nat) : Int) (kTok k) (.sr 2 1 ([DV.str [83 + i]])) (.d .nilsl) :: .room (1) 1 :: .box [.d (.int .i64 ((16 + i : Nat) : Int)), .sr 4 1 (rgtD (r1 :: rr))] :: [.room ((rgtD rr).length + 1) 1]) rfl rfl) rfl (by repeat' (first | exact trivial | refine ⟨(Or.inl rfl), ?_⟩ | refine ⟨(Or.inr rfl), ?_⟩ | refine ⟨rfl, ?_⟩ | fail)) (by repeat' (first | exact trivial | refine ⟨(Or.inl rfl), ?_⟩ | refine ⟨(Or.inr rfl), ?_⟩ | refine ⟨rfl, ?_⟩ | fail)) rfl rfl) ?_
                refine oX (frz := fA) Et_ok ?_
                first | refine oX (frz := fA) Et_ok ?_ (hv := app0) (hf := rfl) (he := rfl) | refine eX ?_ (hv := app0) (hf := rfl) (he := rfl)
                iterate 2 refine oX (frz := fA) Et_ok ?_
                repeat (first | refine Run.seq ?_ | refine Run.region ?_ | refine RunOps.nil ?_ | refine Run.skip ?_ | refine cT ?_ | refine cF ?_ | refine Run.block ?_ | refine Run.exit ?_)
                refine oX (frz := fA) Et_ok ?_
                refine oX (frz := fA) (v := .d (.int .i64 ((j + 1 : Nat) : Int))) Et_ok ?_ (he := vN (by omega) (by omega))
                refine oX (frz := fA) Et_ok ?_
                repeat (first | refine Run.seq ?_ | refine Run.region ?_ | refine RunOps.nil ?_ | refine Run.skip ?_ | refine cT ?_ | refine cF ?_ | refine Run.block ?_ | refine Run.exit ?_)
                exact ⟨(j + 1, [(⟨((16 + i : Nat) : Int), r1 :: rr⟩ : GProd)]), ⟨by simp only <;> omega, hnext, by simp at hjb ⊢ <;> omega⟩, by simp only <;> omega, (tidy_of (objs := _) _ 6 (Eq.trans (b := boxG0 :: boxA ((1 + k % 2 : Nat) : Int) (kTok k) (.sr 2 1 ([DV.str [83 + i]])) (.sr 5 2 [encN (⟨((16 + i : Nat) : Int), r1 :: rr⟩ : GProd)]) :: .room (1) 1 :: .box [.d (.int .i64 ((16 + i : Nat) : Int)), .sr 4 1 (rgtD (r1 :: rr))] :: [.room ((rgtD rr).length + 1) 1, .room 1 2]) rfl (by first | rfl | (simp [psA, psO, psI, rowA, rowO, rgtD] <;> fail))) rfl (by repeat' (first | exact trivial | refine ⟨(Or.inl rfl), ?_⟩ | refine ⟨(Or.inr rfl), ?_⟩ | fail)) (by repeat' (first | exact trivial | refine ⟨rfl, ?_⟩ | fail)) rfl rfl)⟩
          · rcases pr with _ | ⟨r0, rl⟩
            · have hjc : ps.length + 1 < 7 := by simpa using hjb
              repeat (first | refine Run.seq ?_ | refine Run.region ?_ | refine RunOps.nil ?_ | refine Run.skip ?_ | refine cT ?_ | refine cF ?_ | refine Run.block ?_ | refine Run.exit ?_)
              iterate 2 refine oX (frz := fA) Et_ok ?_
              refine oX (frz := fA) (v := .d (.int .i64 ((x % 3 : Nat) : Int))) Et_ok ?_ (he := rfl)
              refine oX (frz := fA) (v := .d (.bool true)) Et_ok ?_ (he := vT (by omega))
              iterate 4 refine oX (frz := fA) Et_ok ?_
              refine oX (frz := fA) (v := .d (.bool true)) Et_ok ?_ (he := vT (by simp at hjb ⊢ <;> omega))
              refine oX (frz := fA) Et_ok ?_
              repeat (first | refine Run.seq ?_ | refine Run.region ?_ | refine RunOps.nil ?_ | refine Run.skip ?_ | refine cT ?_ | refine cF ?_ | refine Run.block ?_ | refine Run.exit ?_)
              refine oX (frz := fA) Et_ok ?_
              refine oX (frz := fA) (v := .d (.int .i64 ((16 + i : Nat) : Int))) Et_ok ?_ (he := vN (by omega) (by omega))
              iterate 3 refine oX (frz := fA) Et_ok ?_
              repeat (first | refine Run.seq ?_ | refine Run.region ?_ | refine RunOps.nil ?_ | refine Run.skip ?_ | refine cT ?_ | refine cF ?_ | refine Run.block ?_ | refine Run.exit ?_)
              iterate 2 refine oX (frz := fA) Et_ok ?_
              refine oX (frz := fA) (v := .d (.int .i64 ((3 * i : Nat) : Int))) Et_ok ?_ (he := vN (by omega) (by omega))
              refine oX (frz := fA) (v := .d (.int .i64 ((4 + 3 * i : Nat) : Int))) Et_ok ?_ (he := vN (by omega) (by omega))
              refine oX (frz := fA) Et_ok ?_
              refine oX (frz := fA) (v := .d (.int .i64 ((4 + 3 * i + j : Nat) : Int))) Et_ok ?_ (he := vN (by omega) (by omega))
              refine oC hat ?_
              refine oC hy ?_
              refine oX (frz := fA) Et_ok ?_
              repeat (first | refine Run.seq ?_ | refine Run.region ?_ | refine RunOps.nil ?_ | refine Run.skip ?_ | refine cT ?_ | refine cF ?_ | refine Run.block ?_ | refine Run.exit ?_)
              refine oX (frz := fA) Et_ok ?_
              repeat (first | refine Run.seq ?_ | refine Run.region ?_ | refine RunOps.nil ?_ | refine Run.skip ?_ | refine cT ?_ | refine cF ?_ | refine Run.block ?_ | refine Run.exit ?_)
              refine Run.loopT (fun z : Nat × List Int => ⟨PT.ofList [(0, .d (ints nums)), (2, .bp 0 0), (4, .bp 1 0), (5, .d (.int .i64 (M : Nat))), (6, .d (.int .i64 i)), (7, .d (.int .i64 x)), (8, .d (.int .i64 j)), (9, .bp 5 0), (10, .d (.int .i64 v)), (11, .d (.int .i64 z.1))], boxG0 :: boxA ((1 + k % 2 : Nat) : Int) (kTok k) (.sr 2 1 ([DV.str [83 + i]])) (.sr 4 2 (encN ⟨pl, []⟩ :: ps.map encN)) :: .room (1) 1 :: .box [.d (.int .i64 pl), .d .nilsl] :: .room (ps.length + 1) 2 :: .box [.d (.int .i64 ((16 + i : Nat) : Int)), rowA 6 1 (rgtD z.2)] :: rowO 1 (rgtD z.2), []⟩)
                (fun z => z.1 ≤ v % 4 ∧ z.2 = rgtTo T M v z.1) (fun z => v % 4 - z.1) (0, []) ⟨Nat.zero_le _, rfl⟩ (tidy_of (objs := _) _ 6 (by rfl) rfl (by repeat' (first | exact trivial | refine ⟨(Or.inl rfl), ?_⟩ | refine ⟨(Or.inr rfl), ?_⟩ | fail)) (by repeat' (first | exact trivial | refine ⟨rfl, ?_⟩ | fail)) rfl rfl) (fun z hz => ?_)
              obtain ⟨s, r⟩ := z
              obtain ⟨hs1, hs2⟩ := hz
              simp only at hs1 hs2 ⊢
              have hrl : r.length = s := by rw [hs2]; simp [rgtTo]
              rcases Nat.lt_or_ge s (v % 4) with hsl | hsg
              · have hnx : r ++ [((symN T M (zF v s) : Nat) : Int)] = rgtTo T M v (s + 1) := by rw [hs2]; simp [rgtTo, List.range_succ]
                rcases r with _ | ⟨r1, rr⟩
                · have hrl' := hrl
                  simp only [List.length_cons, List.length_nil] at hrl'
                  repeat (first | refine Run.seq ?_ | refine Run.region ?_ | refine RunOps.nil ?_ | refine Run.skip ?_ | refine cT ?_ | refine cF ?_ | refine Run.block ?_ | refine Run.exit ?_)
                  iterate 2 refine oX (frz := fA) Et_ok ?_
                  refine oX (frz := fA) (v := .d (.int .i64 ((v % 4 : Nat) : Int))) Et_ok ?_ (he := rfl)
                  refine oX (frz := fA) (v := .d (.bool true)) Et_ok ?_ (he := vT (by omega))
                  repeat (first | refine Run.seq ?_ | refine Run.region ?_ | refine RunOps.nil ?_ | refine Run.skip ?_ | refine cT ?_ | refine cF ?_ | refine Run.block ?_ | refine Run.exit ?_)
                  refine oX (frz := fA) Et_ok ?_
                  refine oX (frz := fA) (v := .d (.int .i64 ((v / 4 : Nat) : Int))) Et_ok ?_ (he := vN rfl (by omega))
                  refine oX (frz := fA) Et_ok ?_
                  refine oX (frz := fA) (v := .d (.int .i64 ((4 * s : Nat) : Int))) Et_ok ?_ (he := vN (by omega) (by omega))
                  refine oX (frz := fA) (v := .d (.int .u64 ((4 * s : Nat) : Int))) Et_ok ?_ (he := vU64 (by omega))
                  refine oX (frz := fA) (v := .d (.int .i64 ((v / 4 / 2 ^ (4 * s) : Nat) : Int))) Et_ok ?_ (hf := shrF (4 * s)) (he := congrArg (fun n => AV.d (.int .i64 n)) (shrN (by omega)))
                  refine oX (frz := fA) (v := .d (.int .i64 ((zF v s : Nat) : Int))) Et_ok ?_ (he := rfl)
                  refine oX (frz := fA) Et_ok ?_
                  repeat (first | refine Run.seq ?_ | refine Run.region ?_ | refine RunOps.nil ?_ | refine Run.skip ?_ | refine cT ?_ | refine cF ?_ | refine Run.block ?_ | refine Run.exit ?_)
                  refine oX (frz := fA) Et_ok ?_
                  refine oX (frz := fA) (v := .d (.int .i64 ((zF v s % 5 : Nat) : Int))) Et_ok ?_ (he := rfl)
                  by_cases h5 : zF v s % 5 < 3
                  · refine oX (frz := fA) (v := .d (.bool true)) Et_ok ?_ (he := vT (by omega))
                    have hsy : symN T M (zF v s) = zF v s % T := if_pos h5
                    rw [hsy] at hnx
                    repeat (first | refine Run.region ?_ | refine Run.seq ?_ | refine RunOps.nil ?_ | refine Run.skip ?_ | refine cT ?_ | refine cF ?_ | refine Run.block ?_ | refine Run.exit ?_ | refine eN ?_ | refine Run.draw (frz := fA) Et_ok (by kernel_rfl) ?_)
                    iterate 5 (first | refine oX (frz := fA) Et_ok ?_ | refine eX ?_)
                    first | refine oX (frz := fA) (v := .d (.int .i64 (T : Nat))) Et_ok ?_ (he := (by rw [hT, List.length_map])) | refine eX (v := .d (.int .i64 (T : Nat))) ?_ (he := (by rw [hT, List.length_map]))
                    refine eX (v := .d (.int .i64 ((zF v s % T : Nat) : Int))) ?_ (hf := by simp <;> omega) (he := rfl)
                    iterate 1 (first | refine oX (frz := fA) Et_ok ?_ | refine eX ?_)
                    first | refine oX (frz := fA) Et_ok ?_ (hv := app0) (hf := rfl) (he := rfl) | refine eX ?_ (hv := app0) (hf := rfl) (he := rfl)
                    iterate 2 (first | refine oX (frz := fA) Et_ok ?_ | refine eX ?_)
                    repeat (first | refine Run.region ?_ | refine Run.seq ?_ | refine RunOps.nil ?_ | refine Run.skip ?_ | refine cT ?_ | refine cF ?_ | refine Run.block ?_ | refine Run.exit ?_ | refine eN ?_ | refine Run.draw (frz := fA) Et_ok (by kernel_rfl) ?_)
                    refine oX (frz := fA) Et_ok ?_
                    refine oX (frz := fA) (v := .d (.int .i64 ((s + 1 : Nat) : Int))) Et_ok ?_ (he := vN (by omega) (by omega))
                    refine oX (frz := fA) Et_ok ?_
                    repeat (first | refine Run.seq ?_ | refine Run.region ?_ | refine RunOps.nil ?_ | refine Run.skip ?_ | refine cT ?_ | refine cF ?_ | refine Run.block ?_ | refine Run.exit ?_)
                    exact ⟨(s + 1, _), ⟨hsl, hnx⟩, by simp only <;> omega, (tidy_of (objs := _) _ 7 (by rfl) rfl (by repeat' (first | exact trivial | refine ⟨(Or.inl rfl), ?_⟩ | refine ⟨(Or.inr rfl), ?_⟩ | fail)) (by repeat' (first | exact trivial | refine ⟨rfl, ?_⟩ | fail)) rfl rfl)⟩
                  · refine oX (frz := fA) (v := .d (.bool false)) Et_ok ?_ (he := vF (by omega))
                    have hsy : symN T M (zF v s) = 16 + zF v s % M := if_neg h5
                    rw [hsy] at hnx
                    repeat (first | refine Run.region ?_ | refine Run.seq ?_ | refine RunOps.nil ?_ | refine Run.skip ?_ | refine cT ?_ | refine cF ?_ | refine Run.block ?_ | refine Run.exit ?_ | refine eN ?_ | refine Run.draw (frz := fA) Et_ok (by kernel_rfl) ?_)
                    iterate 4 (first | refine oX (frz := fA) Et_ok ?_ | refine eX ?_)
                    refine eX (v := .d (.int .i64 ((zF v s % M : Nat) : Int))) ?_ (hf := by simp <;> omega) (he := rfl)
                    first | refine oX (frz := fA) (v := .d (.int .i64 ((16 + zF v s % M : Nat) : Int))) Et_ok ?_ (he := (vN (by omega) (by have := Nat.mod_lt (zF v s) (show 0 < M by omega) <;> omega))) | refine eX (v := .d (.int .i64 ((16 + zF v s % M : Nat) : Int))) ?_ (he := (vN (by omega) (by have := Nat.mod_lt (zF v s) (show 0 < M by omega) <;> omega)))
                    iterate 1 (first | refine oX (frz := fA) Et_ok ?_ | refine eX ?_)
                    first | refine oX (frz := fA) Et_ok ?_ (hv := app0) (hf := rfl) (he := rfl) | refine eX ?_ (hv := app0) (hf := rfl) (he := rfl)
                    iterate 2 (first | refine oX (frz := fA) Et_ok ?_ | refine eX ?_)
                    repeat (first | refine Run.region ?_ | refine Run.seq ?_ | refine RunOps.nil ?_ | refine Run.skip ?_ | refine cT ?_ | refine cF ?_ | refine Run.block ?_ | refine Run.exit ?_ | refine eN ?_ | refine Run.draw (frz := fA) Et_ok (by kernel_rfl) ?_)
                    refine oX (frz := fA) Et_ok ?_
                    refine oX (frz := fA) (v := .d (.int .i64 ((s + 1 : Nat) : Int))) Et_ok ?_ (he := vN (by omega) (by omega))
                    refine oX (frz := fA) Et_ok ?_
                    repeat (first | refine Run.seq ?_ | refine Run.region ?_ | refine RunOps.nil ?_ | refine Run.skip ?_ | refine cT ?_ | refine cF ?_ | refine Run.block ?_ | refine Run.exit ?_)
                    exact ⟨(s + 1, _), ⟨hsl, hnx⟩, by simp only <;> omega, (tidy_of (objs := _) _ 7 (by rfl) rfl (by repeat' (first | exact trivial | refine ⟨(Or.inl rfl), ?_⟩ | refine ⟨(Or.inr rfl), ?_⟩ | fail)) (by repeat' (first | exact trivial | refine ⟨rfl, ?_⟩ | fail)) rfl rfl)⟩
                · have hrl' := hrl
                  simp only [List.length_cons, List.length_nil] at hrl'
                  repeat (first | refine Run.seq ?_ | refine Run.region ?_ | refine RunOps.nil ?_ | refine Run.skip ?_ | refine cT ?_ | refine cF ?_ | refine Run.block ?_ | refine Run.exit ?_)
                  iterate 2 refine oX (frz := fA) Et_ok ?_
                  refine oX (frz := fA) (v := .d (.int .i64 ((v % 4 : Nat) : Int))) Et_ok ?_ (he := rfl)
                  refine oX (frz := fA) (v := .d (.bool true)) Et_ok ?_ (he := vT (by omega))
                  repeat (first | refine Run.seq ?_ | refine Run.region ?_ | refine RunOps.nil ?_ | refine Run.skip ?_ | refine cT ?_ | refine cF ?_ | refine Run.block ?_ | refine Run.exit ?_)
                  refine oX (frz := fA) Et_ok ?_
                  refine oX (frz := fA) (v := .d (.int .i64 ((v / 4 : Nat) : Int))) Et_ok ?_ (he := vN rfl (by omega))
                  refine oX (frz := fA) Et_ok ?_
                  refine oX (frz := fA) (v := .d (.int .i64 ((4 * s : Nat) : Int))) Et_ok ?_ (he := vN (by omega) (by omega))
                  refine oX (frz := fA) (v := .d (.int .u64 ((4 * s : Nat) : Int))) Et_ok ?_ (he := vU64 (by omega))
                  refine oX (frz := fA) (v := .d (.int .i64 ((v / 4 / 2 ^ (4 * s) : Nat) : Int))) Et_ok ?_ (hf := shrF (4 * s)) (he := congrArg (fun n => AV.d (.int .i64 n)) (shrN (by omega)))
                  refine oX (frz := fA) (v := .d (.int .i64 ((zF v s : Nat) : Int))) Et_ok ?_ (he := rfl)
                  refine oX (frz := fA) Et_ok ?_
                  repeat (first | refine Run.seq ?_ | refine Run.region ?_ | refine RunOps.nil ?_ | refine Run.skip ?_ | refine cT ?_ | refine cF ?_ | refine Run.block ?_ | refine Run.exit ?_)
                  refine oX (frz := fA) Et_ok ?_
                  refine oX (frz := fA) (v := .d (.int .i64 ((zF v s % 5 : Nat) : Int))) Et_ok ?_ (he := rfl)
                  by_cases h5 : zF v s % 5 < 3
                  · refine oX (frz := fA) (v := .d (.bool true)) Et_ok ?_ (he := vT (by omega))
                    have hsy : symN T M (zF v s) = zF v s % T := if_pos h5
                    rw [hsy] at hnx
                    repeat (first | refine Run.region ?_ | refine Run.seq ?_ | refine RunOps.nil ?_ | refine Run.skip ?_ | refine cT ?_ | refine cF ?_ | refine Run.block ?_ | refine Run.exit ?_ | refine eN ?_ | refine Run.draw (frz := fA) Et_ok (by kernel_rfl) ?_)
                    iterate 5 (first | refine oX (frz := fA) Et_ok ?_ | refine eX ?_)
                    first | refine oX (frz := fA) (v := .d (.int .i64 (T : Nat))) Et_ok ?_ (he := (by rw [hT, List.length_map])) | refine eX (v := .d (.int .i64 (T : Nat))) ?_ (he := (by rw [hT, List.length_map]))
                    refine eX (v := .d (.int .i64 ((zF v s % T : Nat) : Int))) ?_ (hf := by simp <;> omega) (he := rfl)
                    iterate 1 (first | refine oX (frz := fA) Et_ok ?_ | refine eX ?_)
                    first | refine oX (frz := fA) Et_ok ?_ (hv := app1) (hf := rfl) (he := rfl) | refine eX ?_ (hv := app1) (hf := rfl) (he := rfl)
                    iterate 2 (first | refine oX (frz := fA) Et_ok ?_ | refine eX ?_)
                    repeat (first | refine Run.region ?_ | refine Run.seq ?_ | refine RunOps.nil ?_ | refine Run.skip ?_ | refine cT ?_ | refine cF ?_ | refine Run.block ?_ | refine Run.exit ?_ | refine eN ?_ | refine Run.draw (frz := fA) Et_ok (by kernel_rfl) ?_)
                    refine oX (frz := fA) Et_ok ?_
                    refine oX (frz := fA) (v := .d (.int .i64 ((s + 1 : Nat) : Int))) Et_ok ?_ (he := vN (by omega) (by omega))
                    refine oX (frz := fA) Et_ok ?_
                    repeat (first | refine Run.seq ?_ | refine Run.region ?_ | refine RunOps.nil ?_ | refine Run.skip ?_ | refine cT ?_ | refine cF ?_ | refine Run.block ?_ | refine Run.exit ?_)
                    exact ⟨(s + 1, _), ⟨hsl, hnx⟩, by simp only <;> omega, (tidy_of (objs := _) _ 7 (by first | rfl | (simp only [rowO, rgtD, List.map_append, List.map_cons, List.map_nil, List.cons_append, List.length_append, List.length_cons, List.length_nil] <;> rfl)) rfl (by repeat' (first | exact trivial | refine ⟨(Or.inl rfl), ?_⟩ | refine ⟨(Or.inr rfl), ?_⟩ | fail)) (by repeat' (first | exact trivial | refine ⟨rfl, ?_⟩ | fail)) rfl rfl)⟩
                  · refine oX (frz := fA) (v := .d (.bool false)) Et_ok ?_ (he := vF (by omega))
                    have hsy : symN T M (zF v s) = 16 + zF v s % M := if_neg h5
                    rw [hsy] at hnx
                    repeat (first | refine Run.region ?_ | refine Run.seq ?_ | refine RunOps.nil ?_ | refine Run.skip ?_ | refine cT ?_ | refine cF ?_ | refine Run.block ?_ | refine Run.exit ?_ | refine eN ?_ | refine Run.draw (frz := fA) Et_ok (by kernel_rfl) ?_)
                    iterate 4 (first | refine oX (frz := fA) Et_ok ?_ | refine eX ?_)
                    refine eX (v := .d (.int .i64 ((zF v s % M : Nat) : Int))) ?_ (hf := by simp <;> omega) (he := rfl)
                    first | refine oX (frz := fA) (v := .d (.int .i64 ((16 + zF v s % M : Nat) : Int))) Et_ok ?_ (he := (vN (by omega) (by have := Nat.mod_lt (zF v s) (show 0 < M by omega) <;> omega))) | refine eX (v := .d (.int .i64 ((16 + zF v s % M : Nat) : Int))) ?_ (he := (vN (by omega) (by have := Nat.mod_lt (zF v s) (show 0 < M by omega) <;> omega)))
                    iterate 1 (first | refine oX (frz := fA) Et_ok ?_ | refine eX ?_)
                    first | refine oX (frz := fA) Et_ok ?_ (hv := app1) (hf := rfl) (he := rfl) | refine eX ?_ (hv := app1) (hf := rfl) (he := rfl)
                    iterate 2 (first | refine oX (frz := fA) Et_ok ?_ | refine eX ?_)
                    repeat (first | refine Run.region ?_ | refine Run.seq ?_ | refine RunOps.nil ?_ | refine Run.skip ?_ | refine cT ?_ | refine cF ?_ | refine Run.block ?_ | refine Run.exit ?_ | refine eN ?_ | refine Run.draw (frz := fA) Et_ok (by kernel_rfl) ?_)
                    refine oX (frz := fA) Et_ok ?_
                    refine oX (frz := fA) (v := .d (.int .i64 ((s + 1 : Nat) : Int))) Et_ok ?_ (he := vN (by omega) (by omega))
                    refine oX (frz := fA) Et_ok ?_
                    repeat (first | refine Run.seq ?_ | refine Run.region ?_ | refine RunOps.nil ?_ | refine Run.skip ?_ | refine cT ?_ | refine cF ?_ | refine Run.block ?_ | refine Run.exit ?_)
                    exact ⟨(s + 1, _), ⟨hsl, hnx⟩, by simp only <;> omega, (tidy_of (objs := _) _ 7 (by first | rfl | (simp only [rowO, rgtD, List.map_append, List.map_cons, List.map_nil, List.cons_append, List.length_append, List.length_cons, List.length_nil] <;> rfl)) rfl (by repeat' (first | exact trivial | refine ⟨(Or.inl rfl), ?_⟩ | refine ⟨(Or.inr rfl), ?_⟩ | fail)) (by repeat' (first | exact trivial | refine ⟨rfl, ?_⟩ | fail)) rfl rfl)⟩
              · have hse : s = v % 4 := by omega
                rw [hse] at hs2
                rw [← hs2] at hnext
                rcases r with _ | ⟨r1, rr⟩
                · repeat (first | refine Run.seq ?_ | refine Run.region ?_ | refine RunOps.nil ?_ | refine Run.skip ?_ | refine cT ?_ | refine cF ?_ | refine Run.block ?_ | refine Run.exit ?_)
                  iterate 2 refine oX (frz := fA) Et_ok ?_
                  refine oX (frz := fA) (v := .d (.int .i64 ((v % 4 : Nat) : Int))) Et_ok ?_ (he := rfl)
                  refine oX (frz := fA) (v := .d (.bool false)) Et_ok ?_ (he := vF (by omega))
                  repeat (first | refine Run.seq ?_ | refine Run.region ?_ | refine RunOps.nil ?_ | refine Run.skip ?_ | refine cT ?_ | refine cF ?_ | refine Run.block ?_ | refine Run.exit ?_)
                  iterate 3 refine oX (frz := fA) Et_ok ?_
                  first | refine Run.tidy (tidy_of (objs := _) [(0, .d (ints nums)), (2, .bp 0 0), (4, .bp 1 0), (5, .d (.int .i64 (M : Nat))), (6, .d (.int .i64 i)), (7, .d (.int .i64 x)), (8, .d (.int .i64 j)), (109, .sr 4 2 (encN ⟨pl, []⟩ :: ps.map encN)), (110, .d (encN (⟨((16 + i : Nat) : Int), []⟩ : GProd)))] 6 (Eq.trans (b := boxG0 :: boxA ((1 + k % 2 : Nat) : Int) (kTok k) (.sr 2 1 ([DV.str [83 + i]])) (.sr 4 2 (encN ⟨pl, []⟩ :: ps.map encN)) :: .room (1) 1 :: .box [.d (.int .i64 pl), .d .nilsl] :: .room (ps.length + 1) 2 :: [.box [.d (.int .i64 ((16 + i : Nat) : Int)), .d .nilsl]]) rfl rfl) rfl (by repeat' (first | exact trivial | refine ⟨(Or.inl rfl), ?_⟩ | refine ⟨(Or.inr rfl), ?_⟩ | refine ⟨rfl, ?_⟩ | fail)) (by repeat' (first | exact trivial | refine ⟨(Or.inl rfl), ?_⟩ | refine ⟨(Or.inr rfl), ?_⟩ | refine ⟨rfl, ?_⟩ | fail)) rfl rfl) ?_ | refine RunOps.tidy (tidy_of (objs := _) [(0, .d (ints nums)), (2, .bp 0 0), (4, .bp 1 0), (5, .d (.int .i64 (M : Nat))), (6, .d (.int .i64 i)), (7, .d (.int .i64 x)), (8, .d (.int .i64 j)), (109, .sr 4 2 (encN ⟨pl, []⟩ :: ps.map encN)), (110, .d (encN (⟨((16 + i : Nat) : Int), []⟩ : GProd)))] 6 (Eq.trans (b := boxG0 :: boxA ((1 + k % 2 : Nat) : Int) (kTok k) (.sr 2 1 ([DV.str [83 + i]])) (.sr 4 2 (encN ⟨pl, []⟩ :: ps.map encN)) :: .room (1) 1 :: .box [.d (.int .i64 pl), .d .nilsl] :: .room (ps.length + 1) 2 :: [.box [.d (.int .i64 ((16 + i : Nat) : Int)), .d .nilsl]]) rfl rfl) rfl (by repeat' (first | exact trivial | refine ⟨(Or.inl rfl), ?_⟩ | refine ⟨(Or.inr rfl), ?_⟩ | refine ⟨rfl, ?_⟩ | fail)) (by repeat' (first | exact trivial | refine ⟨(Or.inl rfl), ?_⟩ | refine ⟨(Or.inr rfl), ?_⟩ | refine ⟨rfl, ?_⟩ | fail)) rfl rfl) ?_
                  refine oX (frz := fA) Et_ok ?_
                  first | refine oX (frz := fA) Et_ok ?_ (hv := app1) (hf := rfl) (he := rfl) | refine eX ?_ (hv := app1) (hf := rfl) (he := rfl)
                  iterate 2 refine oX (frz := fA) Et_ok ?_
                  repeat (first | refine Run.seq ?_ | refine Run.region ?_ | refine RunOps.nil ?_ | refine Run.skip ?_ | refine cT ?_ | refine cF ?_ | refine Run.block ?_ | refine Run.exit ?_)
                  refine oX (frz := fA) Et_ok ?_
                  refine oX (frz := fA) (v := .d (.int .i64 ((j + 1 : Nat) : Int))) Et_ok ?_ (he := vN (by omega) (by omega))
                  refine oX (frz := fA) Et_ok ?_
                  repeat (first | refine Run.seq ?_ | refine Run.region ?_ | refine RunOps.nil ?_ | refine Run.skip ?_ | refine cT ?_ | refine cF ?_ | refine Run.block ?_ | refine Run.exit ?_)
                  exact ⟨(j + 1, ⟨pl, []⟩ :: (ps ++ [(⟨((16 + i : Nat) : Int), []⟩ : GProd)])), ⟨by simp only <;> omega, hnext, by simp at hjb ⊢ <;> omega⟩, by simp only <;> omega, (tidy_of (objs := _) _ 5 (Eq.trans (b := boxG0 :: boxA ((1 + k % 2 : Nat) : Int) (kTok k) (.sr 2 1 ([DV.str [83 + i]])) (.sr 4 2 (encN ⟨pl, []⟩ :: (ps.map encN ++ [encN (⟨((16 + i : Nat) : Int), []⟩ : GProd)]))) :: .room (1) 1 :: .box [.d (.int .i64 pl), .d .nilsl] :: [.room (ps.length + 1 + 1) 2]) rfl (by first | rfl | (simp [psA, psO, psI, rowA, rowO, rgtD] <;> fail))) rfl (by repeat' (first | exact trivial | refine ⟨(Or.inl rfl), ?_⟩ | refine ⟨(Or.inr rfl), ?_⟩ | fail)) (by repeat' (first | exact trivial | refine ⟨rfl, ?_⟩ | fail)) rfl rfl)⟩
                · repeat (first | refine Run.seq ?_ | refine Run.region ?_ | refine RunOps.nil ?_ | refine Run.skip ?_ | refine cT ?_ | refine cF ?_ | refine Run.block ?_ | refine Run.exit ?_)
                  iterate 2 refine oX (frz := fA) Et_ok ?_
                  refine oX (frz := fA) (v := .d (.int .i64 ((v % 4 : Nat) : Int))) Et_ok ?_ (he := rfl)
                  refine oX (frz := fA) (v := .d (.bool false)) Et_ok ?_ (he := vF (by omega))
                  repeat (first | refine Run.seq ?_ | refine Run.region ?_ | refine RunOps.nil ?_ | refine Run.skip ?_ | refine cT ?_ | refine cF ?_ | refine Run.block ?_ | refine Run.exit ?_)
                  iterate 3 refine oX (frz := fA) Et_ok ?_
                  first | refine Run.tidy (tidy_of (objs := _) [(0, .d (ints nums)), (2, .bp 0 0), (4, .bp 1 0), (5, .d (.int .i64 (M : Nat))), (6, .d (.int .i64 i)), (7, .d (.int .i64 x)), (8, .d (.int .i64 j)), (109, .sr 4 2 (encN ⟨pl, []⟩ :: ps.map encN)), (110, .d (encN (⟨((16 + i : Nat) : Int), r1 :: rr⟩ : GProd)))] 7 (Eq.trans (b := boxG0 :: boxA ((1 + k % 2 : Nat) : Int) (kTok k) (.sr 2 1 ([DV.str [83 + i]])) (.sr 4 2 (encN ⟨pl, []⟩ :: ps.map encN)) :: .room (1) 1 :: .box [.d (.int .i64 pl), .d .nilsl] :: .room (ps.length + 1) 2 :: .box [.d (.int .i64 ((16 + i : Nat) : Int)), .sr 6 1 (rgtD (r1 :: rr))] :: [.room ((rgtD rr).length + 1) 1]) rfl rfl) rfl (by repeat' (first | exact trivial | refine ⟨(Or.inl rfl), ?_⟩ | refine ⟨(Or.inr rfl), ?_⟩ | refine ⟨rfl, ?_⟩ | fail)) (by repeat' (first | exact trivial | refine ⟨(Or.inl rfl), ?_⟩ | refine ⟨(Or.inr rfl), ?_⟩ | refine ⟨rfl, ?_⟩ | fail)) rfl rfl) ?_ | refine RunOps.tidy (tidy_of (objs := _) [(0, .d (ints nums)), (2, .bp 0 0), (4, .bp 1 0), (5, .d (.int .i64 (M : Nat))), (6, .d (.int .i64 i)), (7, .d (.int .i64 x)), (8, .d (.int .i64 j)), (109, .sr 4 2 (encN ⟨pl, []⟩ :: ps.map encN)), (110, .d (encN (⟨((16 + i : Nat) : Int), r1 :: rr⟩ : GProd)))] 7 (Eq.trans (b := boxG0 :: boxA ((1 + k % 2 : Nat) : Int) (kTok k) (.sr 2 1 ([DV.str [83 + i]])) (.sr 4 2 (encN ⟨pl, []⟩ :: ps.map encN)) :: .room (1) 1 :: .box [.d (.int .i64 pl), .d .nilsl] :: .room (ps.length + 1) 2 :: .box [.d (.int .i64 ((16 + i : Nat) : Int)), .sr 6 1 (rgtD (r1 :: rr))] :: [.room ((rgtD rr).length + 1) 1]) rfl rfl) rfl (by repeat' (first | exact trivial | refine ⟨(Or.inl rfl), ?_⟩ | refine ⟨(Or.inr rfl), ?_⟩ | refine ⟨rfl, ?_⟩ | fail)) (by repeat' (first | exact trivial | refine ⟨(Or.inl rfl), ?_⟩ | refine ⟨(Or.inr rfl), ?_⟩ | refine ⟨rfl, ?_⟩ | fail)) rfl rfl) ?_
                  refine oX (frz := fA) Et_ok ?_
                  first | refine oX (frz := fA) Et_ok ?_ (hv := app1) (hf := rfl) (he := rfl) | refine eX ?_ (hv := app1) (hf := rfl) (he := rfl)
                  iterate 2 refine oX (frz := fA) Et_ok ?_
                  repeat (first | refine Run.seq ?_ | refine Run.region ?_ | refine RunOps.nil ?_ | refine Run.skip ?_ | refine cT ?_ | refine cF ?_ | refine Run.block ?_ | refine Run.exit ?_)
                  refine oX (frz := fA) Et_ok ?_
                  refine oX (frz := fA) (v := .d (.int .i64 ((j + 1 : Nat) : Int))) Et_ok ?_ (he := vN (by omega) (by omega))
                  refine oX (frz := fA) Et_ok ?_
                  repeat (first | refine Run.seq ?_ | refine Run.region ?_ | refine RunOps.nil ?_ | refine Run.skip ?_ | refine cT ?_ | refine cF ?_ | refine Run.block ?_ | refine Run.exit ?_)
                  exact ⟨(j + 1, ⟨pl, []⟩ :: (ps ++ [(⟨((16 + i : Nat) : Int), r1 :: rr⟩ : GProd)])), ⟨by simp only <;> omega, hnext, by simp at hjb ⊢ <;> omega⟩, by simp only <;> omega, (tidy_of (objs := _) _ 5 (Eq.trans (b := boxG0 :: boxA ((1 + k % 2 : Nat) : Int) (kTok k) (.sr 2 1 ([DV.str [83 + i]])) (.sr 4 2 (encN ⟨pl, []⟩ :: (ps.map encN ++ [encN (⟨((16 + i : Nat) : Int), r1 :: rr⟩ : GProd)]))) :: .room (1) 1 :: .box [.d (.int .i64 pl), .d .nilsl] :: [.room (ps.length + 1 + 1) 2]) rfl (by first | rfl | (simp [psA, psO, psI, rowA, rowO, rgtD] <;> fail))) rfl (by repeat' (first | exact trivial | refine ⟨(Or.inl rfl), ?_⟩ | refine ⟨(Or.inr rfl), ?_⟩ | fail)) (by repeat' (first | exact trivial | refine ⟨rfl, ?_⟩ | fail)) rfl rfl)⟩
            · have hjc : ps.length + 1 < 7 := by simpa using hjb
              repeat (first | refine Run.seq ?_ | refine Run.region ?_ | refine RunOps.nil ?_ | refine Run.skip ?_ | refine cT ?_ | refine cF ?_ | refine Run.block ?_ | refine Run.exit ?_)
              iterate 2 refine oX (frz := fA) Et_ok ?_
              refine oX (frz := fA) (v := .d (.int .i64 ((x % 3 : Nat) : Int))) Et_ok ?_ (he := rfl)
              refine oX (frz := fA) (v := .d (.bool true)) Et_ok ?_ (he := vT (by omega))
              iterate 4 refine oX (frz := fA) Et_ok ?_
              refine oX (frz := fA) (v := .d (.bool true)) Et_ok ?_ (he := vT (by simp at hjb ⊢ <;> omega))
              refine oX (frz := fA) Et_ok ?_
              repeat (first | refine Run.seq ?_ | refine Run.region ?_ | refine RunOps.nil ?_ | refine Run.skip ?_ | refine cT ?_ | refine cF ?_ | refine Run.block ?_ | refine Run.exit ?_)
              refine oX (frz := fA) Et_ok ?_
              refine oX (frz := fA) (v := .d (.int .i64 ((16 + i : Nat) : Int))) Et_ok ?_ (he := vN (by omega) (by omega))
              iterate 3 refine oX (frz := fA) Et_ok ?_
              repeat (first | refine Run.seq ?_ | refine Run.region ?_ | refine RunOps.nil ?_ | refine Run.skip ?_ | refine cT ?_ | refine cF ?_ | refine Run.block ?_ | refine Run.exit ?_)
              iterate 2 refine oX (frz := fA) Et_ok ?_
              refine oX (frz := fA) (v := .d (.int .i64 ((3 * i : Nat) : Int))) Et_ok ?_ (he := vN (by omega) (by omega))
              refine oX (frz := fA) (v := .d (.int .i64 ((4 + 3 * i : Nat) : Int))) Et_ok ?_ (he := vN (by omega) (by omega))
              refine oX (frz := fA) Et_ok ?_
              refine oX (frz := fA) (v := .d (.int .i64 ((4 + 3 * i + j : Nat) : Int))) Et_ok ?_ (he := vN (by omega) (by omega))
              refine oC hat ?_
              refine oC hy ?_
              refine oX (frz := fA) Et_ok ?_
              repeat (first | refine Run.seq ?_ | refine Run.region ?_ | refine RunOps.nil ?_ | refine Run.skip ?_ | refine cT ?_ | refine cF ?_ | refine Run.block ?_ | refine Run.exit ?_)
              refine oX (frz := fA) Et_ok ?_
              repeat (first | refine Run.seq ?_ | refine Run.region ?_ | refine RunOps.nil ?_ | refine Run.skip ?_ | refine cT ?_ | refine cF ?_ | refine Run.block ?_ | refine Run.exit ?_)
              refine Run.loopT (fun z : Nat × List Int => ⟨PT.ofList [(0, .d (ints nums)), (2, .bp 0 0), (4, .bp 1 0), (5, .d (.int .i64 (M : Nat))), (6, .d (.int .i64 i)), (7, .d (.int .i64 x)), (8, .d (.int .i64 j)), (9, .bp 6 0), (10, .d (.int .i64 v)), (11, .d (.int .i64 z.1))], boxG0 :: boxA ((1 + k % 2 : Nat) : Int) (kTok k) (.sr 2 1 ([DV.str [83 + i]])) (.sr 5 2 (encN ⟨pl, r0 :: rl⟩ :: ps.map encN)) :: .room (1) 1 :: .box [.d (.int .i64 pl), .sr 4 1 (rgtD (r0 :: rl))] :: .room ((rgtD rl).length + 1) 1 :: .room (ps.length + 1) 2 :: .box [.d (.int .i64 ((16 + i : Nat) : Int)), rowA 7 1 (rgtD z.2)] :: rowO 1 (rgtD z.2), []⟩)
                (fun z => z.1 ≤ v % 4 ∧ z.2 = rgtTo T M v z.1) (fun z => v % 4 - z.1) (0, []) ⟨Nat.zero_le _, rfl⟩ (tidy_of (objs := _) _ 7 (by rfl) rfl (by repeat' (first | exact trivial | refine ⟨(Or.inl rfl), ?_⟩ | refine ⟨(Or.inr rfl), ?_⟩ | fail)) (by repeat' (first | exact trivial | refine ⟨rfl, ?_⟩ | fail)) rfl rfl) (fun z hz => ?_)
              obtain ⟨s, r⟩ := z
              obtain ⟨hs1, hs2⟩ := hz
              simp only at hs1 hs2 ⊢
              have hrl : r.length = s := by rw [hs2]; simp [rgtTo]
              rcases Nat.lt_or_ge s (v % 4) with hsl | hsg
              · have hnx : r ++ [((symN T M (zF v s) : Nat) : Int)] = rgtTo T M v (s + 1) := by rw [hs2]; simp [rgtTo, List.range_succ]
                rcases r with _ | ⟨r1, rr⟩
                · have hrl' := hrl
                  simp only [List.length_cons, List.length_nil] at hrl'
                  repeat (first | refine Run.seq ?_ | refine Run.region ?_ | refine RunOps.nil ?_ | refine Run.skip ?_ | refine cT ?_ | refine cF ?_ | refine Run.block ?_ | refine Run.exit ?_)
                  iterate 2 refine oX (frz := fA) Et_ok ?_
                  refine oX (frz := fA) (v := .d (.int .i64 ((v % 4 : Nat) : Int))) Et_ok ?_ (he := rfl)
                  refine oX (frz := fA) (v := .d (.bool true)) Et_ok ?_ (he := vT (by omega))
                  repeat (first | refine Run.seq ?_ | refine Run.region ?_ | refine RunOps.nil ?_ | refine Run.skip ?_ | refine cT ?_ | refine cF ?_ | refine Run.block ?_ | refine Run.exit ?_)
                  refine oX (frz := fA) Et_ok ?_
                  refine oX (frz := fA) (v := .d (.int .i64 ((v / 4 : Nat) : Int))) Et_ok ?_ (he := vN rfl (by omega))
                  refine oX (frz := fA) Et_ok ?_
                  refine oX (frz := fA) (v := .d (.int .i64 ((4 * s : Nat) : Int))) Et_ok ?_ (he := vN (by omega) (by omega))
                  refine oX (frz := fA) (v := .d (.int .u64 ((4 * s : Nat) : Int))) Et_ok ?_ (he := vU64 (by omega))
                  refine oX (frz := fA) (v := .d (.int .i64 ((v / 4 / 2 ^ (4 * s) : Nat) : Int))) Et_ok ?_ (hf := shrF (4 * s)) (he := congrArg (fun n => AV.d (.int .i64 n)) (shrN (by omega)))
                  refine oX (frz := fA) (v := .d (.int .i64 ((zF v s : Nat) : Int))) Et_ok ?_ (he := rfl)
                  refine oX (frz := fA) Et_ok ?_
                  repeat (first | refine Run.seq ?_ | refine Run.region ?_ | refine RunOps.nil ?_ | refine Run.skip ?_ | refine cT ?_ | refine cF ?_ | refine Run.block ?_ | refine Run.exit ?_)
                  refine oX (frz := fA) Et_ok ?_
                  refine oX (frz := fA) (v := .d (.int .i64 ((zF v s % 5 : Nat) : Int))) Et_ok ?_ (he := rfl)
                  by_cases h5 : zF v s % 5 < 3
                  · refine oX (frz := fA) (v := .d (.bool true)) Et_ok ?_ (he := vT (by omega))
                    have hsy : symN T M (zF v s) = zF v s % T := if_pos h5
                    rw [hsy] at hnx
                    repeat (first | refine Run.region ?_ | refine Run.seq ?_ | refine RunOps.nil ?_ | refine Run.skip ?_ | refine cT ?_ | refine cF ?_ | refine Run.block ?_ | refine Run.exit ?_ | refine eN ?_ | refine Run.draw (frz := fA) Et_ok (by kernel_rfl) ?_)
                    iterate 5 (first | refine oX (frz := fA) Et_ok ?_ | refine eX ?_)
                    first | refine oX (frz := fA) (v := .d (.int .i64 (T : Nat))) Et_ok ?_ (he := (by rw [hT, List.length_map])) | refine eX (v := .d (.int .i64 (T : Nat))) ?_ (he := (by rw [hT, List.length_map]))
                    refine eX (v := .d (.int .i64 ((zF v s % T : Nat) : Int))) ?_ (hf := by simp <;> omega) (he := rfl)
                    iterate 1 (first | refine oX (frz := fA) Et_ok ?_ | refine eX ?_)
                    first | refine oX (frz := fA) Et_ok ?_ (hv := app0) (hf := rfl) (he := rfl) | refine eX ?_ (hv := app0) (hf := rfl) (he := rfl)
                    iterate 2 (first | refine oX (frz := fA) Et_ok ?_ | refine eX ?_)
                    repeat (first | refine Run.region ?_ | refine Run.seq ?_ | refine RunOps.nil ?_ | refine Run.skip ?_ | refine cT ?_ | refine cF ?_ | refine Run.block ?_ | refine Run.exit ?_ | refine eN ?_ | refine Run.draw (frz := fA) Et_ok (by kernel_rfl) ?_)
                    refine oX (frz := fA) Et_ok ?_
                    refine oX (frz := fA) (v := .d (.int .i64 ((s + 1 : Nat) : Int))) Et_ok ?_ (he := vN (by omega) (by omega))
                    refine oX (frz := fA) Et_ok ?_
                    repeat (first | refine Run.seq ?_ | refine Run.region ?_ | refine RunOps.nil ?_ | refine Run.skip ?_ | refine cT ?_ | refine cF ?_ | refine Run.block ?_ | refine Run.exit ?_)
                    exact ⟨(s + 1, _), ⟨hsl, hnx⟩, by simp only <;> omega, (tidy_of (objs := _) _ 8 (by rfl) rfl (by repeat' (first | exact trivial | refine ⟨(Or.inl rfl), ?_⟩ | refine ⟨(Or.inr rfl), ?_⟩ | fail)) (by repeat' (first | exact trivial | refine ⟨rfl, ?_⟩ | fail)) rfl rfl)⟩
                  · refine oX (frz := fA) (v := .d (.bool false)) Et_ok ?_ (he := vF (by omega))
                    have hsy : symN T M (zF v s) = 16 + zF v s % M := if_neg h5
                    rw [hsy] at hnx
                    repeat (first | refine Run.region ?_ | refine Run.seq ?_ | refine RunOps.nil ?_ | refine Run.skip ?_ | refine cT ?_ | refine cF ?_ | refine Run.block ?_ | refine Run.exit ?_ | refine eN ?_ | refine Run.draw (frz := fA) Et_ok (by kernel_rfl) ?_)
                    iterate 4 (first | refine oX (frz := fA) Et_ok ?_ | refine eX ?_)
                    refine eX (v := .d (.int .i64 ((zF v s % M : Nat) : Int))) ?_ (hf := by simp <;> omega) (he := rfl)
                    first | refine oX (frz := fA) (v := .d (.int .i64 ((16 + zF v s % M : Nat) : Int))) Et_ok ?_ (he := (vN (by omega) (by have := Nat.mod_lt (zF v s) (show 0 < M by omega) <;> omega))) | refine eX (v := .d (.int .i64 ((16 + zF v s % M : Nat) : Int))) ?_ (he := (vN (by omega) (by have := Nat.mod_lt (zF v s) (show 0 < M by omega) <;> omega)))
                    iterate 1 (first | refine oX (frz := fA) Et_ok ?_ | refine eX ?_)
                    first | refine oX (frz := fA) Et_ok ?_ (hv := app0) (hf := rfl) (he := rfl) | refine eX ?_ (hv := app0) (hf := rfl) (he := rfl)
                    iterate 2 (first | refine oX (frz := fA) Et_ok ?_ | refine eX ?_)
                    repeat (first | refine Run.region ?_ | refine Run.seq ?_ | refine RunOps.nil ?_ | refine Run.skip ?_ | refine cT ?_ | refine cF ?_ | refine Run.block ?_ | refine Run.exit ?_ | refine eN ?_ | refine Run.draw (frz := fA) Et_ok (by kernel_rfl) ?_)
                    refine oX (frz := fA) Et_ok ?_
                    refine oX (frz := fA) (v := .d (.int .i64 ((s + 1 : Nat) : Int))) Et_ok ?_ (he := vN (by omega) (by omega))
                    refine oX (frz := fA) Et_ok ?_
                    repeat (first | refine Run.seq ?_ | refine Run.region ?_ | refine RunOps.nil ?_ | refine Run.skip ?_ | refine cT ?_ | refine cF ?_ | refine Run.block ?_ | refine Run.exit ?_)
                    exact ⟨(s + 1, _), ⟨hsl, hnx⟩, by simp only <;> omega, (tidy_of (objs := _) _ 8 (by rfl) rfl (by repeat' (first | exact trivial | refine ⟨(Or.inl rfl), ?_⟩ | refine ⟨(Or.inr rfl), ?_⟩ | fail)) (by repeat' (first | exact trivial | refine ⟨rfl, ?_⟩ | fail)) rfl rfl)⟩
                · have hrl' := hrl
                  simp only [List.length_cons, List.length_nil] at hrl'
                  repeat (first | refine Run.seq ?_ | refine Run.region ?_ | refine RunOps.nil ?_ | refine Run.skip ?_ | refine cT ?_ | refine cF ?_ | refine Run.block ?_ | refine Run.exit ?_)
                  iterate 2 refine oX (frz := fA) Et_ok ?_
                  refine oX (frz := fA) (v := .d (.int .i64 ((v % 4 : Nat) : Int))) Et_ok ?_ (he := rfl)
                  refine oX (frz := fA) (v := .d (.bool true)) Et_ok ?_ (he := vT (by omega))
                  repeat (first | refine Run.seq ?_ | refine Run.region ?_ | refine RunOps.nil ?_ | refine Run.skip ?_ | refine cT ?_ | refine cF ?_ | refine Run.block ?_ | refine Run.exit ?_)
                  refine oX (frz := fA) Et_ok ?_
                  refine oX (frz := fA) (v := .d (.int .i64 ((v / 4 : Nat) : Int))) Et_ok ?_ (he := vN rfl (by omega))
                  refine oX (frz := fA) Et_ok ?_
                  refine oX (frz := fA) (v := .d (.int .i64 ((4 * s : Nat) : Int))) Et_ok ?_ (he := vN (by omega) (by omega))
                  refine oX (frz := fA) (v := .d (.int .u64 ((4 * s : Nat) : Int))) Et_ok ?_ (he := vU64 (by omega))
                  refine oX (frz := fA) (v := .d (.int .i64 ((v / 4 / 2 ^ (4 * s) : Nat) : Int))) Et_ok ?_ (hf := shrF (4 * s)) (he := congrArg (fun n => AV.d (.int .i64 n)) (shrN (by omega)))
                  refine oX (frz := fA) (v := .d (.int .i64 ((zF v s : Nat) : Int))) Et_ok ?_ (he := rfl)
                  refine oX (frz := fA) Et_ok ?_
                  repeat (first | refine Run.seq ?_ | refine Run.region ?_ | refine RunOps.nil ?_ | refine Run.skip ?_ | refine cT ?_ | refine cF ?_ | refine Run.block ?_ | refine Run.exit ?_)
                  refine oX (frz := fA) Et_ok ?_
                  refine oX (frz := fA) (v := .d (.int .i64 ((zF v s % 5 : Nat) : Int))) Et_ok ?_ (he := rfl)
                  by_cases h5 : zF v s % 5 < 3
                  · refine oX (frz := fA) (v := .d (.bool true)) Et_ok ?_ (he := vT (by omega))
                    have hsy : symN T M (zF v s) = zF v s % T := if_pos h5
                    rw [hsy] at hnx
                    repeat (first | refine Run.region ?_ | refine Run.seq ?_ | refine RunOps.nil ?_ | refine Run.skip ?_ | refine cT ?_ | refine cF ?_ | refine Run.block ?_ | refine Run.exit ?_ | refine eN ?_ | refine Run.draw (frz := fA) Et_ok (by kernel_rfl) ?_)
                    iterate 5 (first | refine oX (frz := fA) Et_ok ?_ | refine eX ?_)
                    first | refine oX (frz := fA) (v := .d (.int .i64 (T : Nat))) Et_ok ?_ (he := (by rw [hT, List.length_map])) | refine eX (v := .d (.int .i64 (T : Nat))) ?_ (he := (by rw [hT, List.length_map]))
                    refine eX (v := .d (.int .i64 ((zF v s % T : Nat) : Int))) ?_ (hf := by simp <;> omega) (he := rfl)
                    iterate 1 (first | refine oX (frz := fA) Et_ok ?_ | refine eX ?_)
                    first | refine oX (frz := fA) Et_ok ?_ (hv := app1) (hf := rfl) (he := rfl) | refine eX ?_ (hv := app1) (hf := rfl) (he := rfl)
                    iterate 2 (first | refine oX (frz := fA) Et_ok ?_ | refine eX ?_)
                    repeat (first | refine Run.region ?_ | refine Run.seq ?_ | refine RunOps.nil ?_ | refine Run.skip ?_ | refine cT ?_ | refine cF ?_ | refine Run.block ?_ | refine Run.exit ?_ | refine eN ?_ | refine Run.draw (frz := fA) Et_ok (by kernel_rfl) ?_)
                    refine oX (frz := fA) Et_ok ?_
                    refine oX (frz := fA) (v := .d (.int .i64 ((s + 1 : Nat) : Int))) Et_ok ?_ (he := vN (by omega) (by omega))
                    refine oX (frz := fA) Et_ok ?_
                    repeat (first | refine Run.seq ?_ | refine Run.region ?_ | refine RunOps.nil ?_ | refine Run.skip ?_ | refine cT ?_ | refine cF ?_ | refine Run.block ?_ | refine Run.exit ?_)
                    exact ⟨(s + 1, _), ⟨hsl, hnx⟩, by simp only <;> omega, (tidy_of (objs := _) _ 8 (by first | rfl | (simp only [rowO, rgtD, List.map_append, List.map_cons, List.map_nil, List.cons_append, List.length_append, List.length_cons, List.length_nil] <;> rfl)) rfl (by repeat' (first | exact trivial | refine ⟨(Or.inl rfl), ?_⟩ | refine ⟨(Or.inr rfl), ?_⟩ | fail)) (by repeat' (first | exact trivial | refine ⟨rfl, ?_⟩ | fail)) rfl rfl)⟩
                  · refine oX (frz := fA) (v := .d (.bool false)) Et_ok ?_ (he := vF (by omega))
                    have hsy : symN T M (zF v s) = 16 + zF v s % M := if_neg h5
                    rw [hsy] at hnx
                    repeat (first | refine Run.region ?_ | refine Run.seq ?_ | refine RunOps.nil ?_ | refine Run.skip ?_ | refine cT ?_ | refine cF ?_ | refine Run.block ?_ | refine Run.exit ?_ | refine eN ?_ | refine Run.draw (frz := fA) Et_ok (by kernel_rfl) ?_)
                    iterate 4 (first | refine oX (frz := fA) Et_ok ?_ | refine eX ?_)
                    refine eX (v := .d (.int .i64 ((zF v s % M : Nat) : Int))) ?_ (hf := by simp <;> omega) (he := rfl)
                    first | refine oX (frz := fA) (v := .d (.int .i64 ((16 + zF v s % M : Nat) : Int))) Et_ok ?_ (he := (vN (by omega) (by have := Nat.mod_lt (zF v s) (show 0 < M by omega) <;> omega))) | refine eX (v := .d (.int .i64 ((16 + zF v s % M : Nat) : Int))) ?_ (he := (vN (by omega) (by have := Nat.mod_lt (zF v s) (show 0 < M by omega) <;> omega)))
                    iterate 1 (first | refine oX (frz := fA) Et_ok ?_ | refine eX ?_)
                    first | refine oX (frz := fA) Et_ok ?_ (hv := app1) (hf := rfl) (he := rfl) | refine eX ?_ (hv := app1) (hf := rfl) (he := rfl)
                    iterate 2 (first | refine oX (frz := fA) Et_ok ?_ | refine eX ?_)
                    repeat (first | refine Run.region ?_ | refine Run.seq ?_ | refine RunOps.nil ?_ | refine Run.skip ?_ | refine cT ?_ | refine cF ?_ | refine Run.block ?_ | refine Run.exit ?_ | refine eN ?_ | refine Run.draw (frz := fA) Et_ok (by kernel_rfl) ?_)
                    refine oX (frz := fA) Et_ok ?_
                    refine oX (frz := fA) (v := .d (.int .i64 ((s + 1 : Nat) : Int))) Et_ok ?_ (he := vN (by omega) (by omega))
                    refine oX (frz := fA) Et_ok ?_
                    repeat (first | refine Run.seq ?_ | refine Run.region ?_ | refine RunOps.nil ?_ | refine Run.skip ?_ | refine cT ?_ | refine cF ?_ | refine Run.block ?_ | refine Run.exit ?_)
                    exact ⟨(s + 1, _), ⟨hsl, hnx⟩, by simp only <;> omega, (tidy_of (objs := _) _ 8 (by first | rfl | (simp only [rowO, rgtD, List.map_append, List.map_cons, List.map_nil, List.cons_append, List.length_append, List.length_cons, List.length_nil] <;> rfl)) rfl (by repeat' (first | exact trivial | refine ⟨(Or.inl rfl), ?_⟩ | refine ⟨(Or.inr rfl), ?_⟩ | fail)) (by repeat' (first | exact trivial | refine ⟨rfl, ?_⟩ | fail)) rfl rfl)⟩
              · have hse : s = v % 4 := by omega
                rw [hse] at hs2
                rw [← hs2] at hnext
                rcases r with _ | ⟨r1, rr⟩
                · repeat (first | refine Run.seq ?_ | refine Run.region ?_ | refine RunOps.nil ?_ | refine Run.skip ?_ | refine cT ?_ | refine cF ?_ | refine Run.block ?_ | refine Run.exit ?_)
                  iterate 2 refine oX (frz := fA) Et_ok ?_
                  refine oX (frz := fA) (v := .d (.int .i64 ((v % 4 : Nat) : Int))) Et_ok ?_ (he := rfl)
                  refine oX (frz := fA) (v := .d (.bool false)) Et_ok ?_ (he := vF (by omega))
                  repeat (first | refine Run.seq ?_ | refine Run.region ?_ | refine RunOps.nil ?_ | refine Run.skip ?_ | refine cT ?_ | refine cF ?_ | refine Run.block ?_ | refine Run.exit ?_)
                  iterate 3 refine oX (frz := fA) Et_ok ?_
                  first | refine Run.tidy (tidy_of (objs := _) [(0, .d (ints nums)), (2, .bp 0 0), (4, .bp 1 0), (5, .d (.int .i64 (M : Nat))), (6, .d (.int .i64 i)), (7, .d (.int .i64 x)), (8, .d (.int .i64 j)), (109, .sr 5 2 (encN ⟨pl, r0 :: rl⟩ :: ps.map encN)), (110, .d (encN (⟨((16 + i : Nat) : Int), []⟩ : GProd)))] 7 (Eq.trans (b := boxG0 :: boxA ((1 + k % 2 : Nat) : Int) (kTok k) (.sr 2 1 ([DV.str [83 + i]])) (.sr 5 2 (encN ⟨pl, r0 :: rl⟩ :: ps.map encN)) :: .room (1) 1 :: .box [.d (.int .i64 pl), .sr 4 1 (rgtD (r0 :: rl))] :: .room ((rgtD rl).length + 1) 1 :: .room (ps.length + 1) 2 :: [.box [.d (.int .i64 ((16 + i : Nat) : Int)), .d .nilsl]]) rfl rfl) rfl (by repeat' (first | exact trivial | refine ⟨(Or.inl rfl), ?_⟩ | refine ⟨(Or.inr rfl), ?_⟩ | refine ⟨rfl, ?_⟩ | fail)) (by repeat' (first | exact trivial | refine ⟨(Or.inl rfl), ?_⟩ | refine ⟨(Or.inr rfl), ?_⟩ | refine ⟨rfl, ?_⟩ | fail)) rfl rfl) ?_ | refine RunOps.tidy (tidy_of (objs := _) [(0, .d (ints nums)), (2, .bp 0 0), (4, .bp 1 0), (5, .d (.int .i64 (M : Nat))), (6, .d (.int .i64 i)), (7, .d (.int .i64 x)), (8, .d (.int .i64 j)), (109, .sr 5 2 (encN ⟨pl, r0 :: rl⟩ :: ps.map encN)), (110, .d (encN (⟨((16 + i : Nat) : Int), []⟩ : GProd)))] 7 (Eq.trans (b := boxG0 :: boxA ((1 + k % 2 : Nat) : Int) (kTok k) (.sr 2 1 ([DV.str [83 + i]])) (.sr 5 2 (encN ⟨pl, r0 :: rl⟩ :: ps.map encN)) :: .room (1) 1 :: .box [.d (.int .i64 pl), .sr 4 1 (rgtD (r0 :: rl))] :: .room ((rgtD rl).length + 1) 1 :: .room (ps.length + 1) 2 :: [.box [.d (.int .i64 ((16 + i : Nat) : Int)), .d .nilsl]]) rfl rfl) rfl (by repeat' (first | exact trivial | refine ⟨(Or.inl rfl), ?_⟩ | refine ⟨(Or.inr rfl), ?_⟩ | refine ⟨rfl, ?_⟩ | fail)) (by repeat' (first | exact trivial | refine ⟨(Or.inl rfl), ?_⟩ | refine ⟨(Or.inr rfl), ?_⟩ | refine ⟨rfl, ?_⟩ | fail)) rfl rfl) ?_
                  refine oX (frz := fA) Et_ok ?_
                  first | refine oX (frz := fA) Et_ok ?_ (hv := app1) (hf := rfl) (he := rfl) | refine eX ?_ (hv := app1) (hf := rfl) (he := rfl)
                  iterate 2 refine oX (frz := fA) Et_ok ?_
                  repeat (first | refine Run.seq ?_ | refine Run.region ?_ | refine RunOps.nil ?_ | refine Run.skip ?_ | refine cT ?_ | refine cF ?_ | refine Run.block ?_ | refine Run.exit ?_)
                  refine oX (frz := fA) Et_ok ?_
                  refine oX (frz := fA) (v := .d (.int .i64 ((j + 1 : Nat) : Int))) Et_ok ?_ (he := vN (by omega) (by omega))
                  refine oX (frz := fA) Et_ok ?_
                  repeat (first | refine Run.seq ?_ | refine Run.region ?_ | refine RunOps.nil ?_ | refine Run.skip ?_ | refine cT ?_ | refine cF ?_ | refine Run.block ?_ | refine Run.exit ?_)
                  exact ⟨(j + 1, ⟨pl, r0 :: rl⟩ :: (ps ++ [(⟨((16 + i : Nat) : Int), []⟩ : GProd)])), ⟨by simp only <;> omega, hnext, by simp at hjb ⊢ <;> omega⟩, by simp only <;> omega, (tidy_of (objs := _) _ 6 (Eq.trans (b := boxG0 :: boxA ((1 + k % 2 : Nat) : Int) (kTok k) (.sr 2 1 ([DV.str [83 + i]])) (.sr 5 2 (encN ⟨pl, r0 :: rl⟩ :: (ps.map encN ++ [encN (⟨((16 + i : Nat) : Int), []⟩ : GProd)]))) :: .room (1) 1 :: .box [.d (.int .i64 pl), .sr 4 1 (rgtD (r0 :: rl))] :: .room ((rgtD rl).length + 1) 1 :: [.room (ps.length + 1 + 1) 2]) rfl (by first | rfl | (simp [psA, psO, psI, rowA, rowO, rgtD] <;> fail))) rfl (by repeat' (first | exact trivial | refine ⟨(Or.inl rfl), ?_⟩ | refine ⟨(Or.inr rfl), ?_⟩ | fail)) (by repeat' (first | exact trivial | refine ⟨rfl, ?_⟩ | fail)) rfl rfl)⟩
                · repeat (first | refine Run.seq ?_ | refine Run.region ?_ | refine RunOps.nil ?_ | refine Run.skip ?_ | refine cT ?_ | refine cF ?_ | refine Run.block ?_ | refine Run.exit ?_)
                  iterate 2 refine oX (frz := fA) Et_ok ?_
                  refine oX (frz := fA) (v := .d (.int .i64 ((v % 4 : Nat) : Int))) Et_ok ?_ (he := rfl)
                  refine oX (frz := fA) (v := .d (.bool false)) Et_ok ?_ (he := vF (by omega))
                  repeat (first | refine Run.seq ?_ | refine Run.region ?_ | refine RunOps.nil ?_ | refine Run.skip ?_ | refine cT ?_ | refine cF ?_ | refine Run.block ?_ | refine Run.exit ?_)
                  iterate 3 refine oX (frz := fA) Et_ok ?_
                  first | refine Run.tidy (tidy_of (objs := _) [(0, .d (ints nums)), (2, .bp 0 0), (4, .bp 1 0), (5, .d (.int .i64 (M : Nat))), (6, .d (.int .i64 i)), (7, .d (.int .i64 x)), (8, .d (.int .i64 j)), (109, .sr 5 2 (encN ⟨pl, r0 :: rl⟩ :: ps.map encN)), (110, .d (encN (⟨((16 + i : Nat) : Int), r1 :: rr⟩ : GProd)))] 8 (Eq.trans (b := boxG0 :: boxA ((1 + k % 2 : Nat) : Int) (kTok k) (.sr 2 1 ([DV.str [83 + i]])) (.sr 5 2 (encN ⟨pl, r0 :: rl⟩ :: ps.map encN)) :: .room (1) 1 :: .box [.d (.int .i64 pl), .sr 4 1 (rgtD (r0 :: rl))] :: .room ((rgtD rl).length + 1) 1 :: .room (ps.length + 1) 2 :: .box [.d (.int .i64 ((16 + i : Nat) : Int)), .sr 7 1 (rgtD (r1 :: rr))] :: [.room ((rgtD rr).length + 1) 1]) rfl rfl) rfl (by repeat' (first | exact trivial | refine ⟨(Or.inl rfl), ?_⟩ | refine ⟨(Or.inr rfl), ?_⟩ | refine ⟨rfl, ?_⟩ | fail)) (by repeat' (first | exact trivial | refine ⟨(Or.inl rfl), ?_⟩ | refine ⟨(Or.inr rfl), ?_⟩ | refine ⟨rfl, ?_⟩ | fail)) rfl rfl) ?_ | refine RunOps.tidy (tidy_of (objs := _) [(0, .d (ints nums)), (2, .bp 0 0), (4, .bp 1 0), (5, .d (.int .i64 (M : Nat))), (6, .d (.int .i64 i)), (7, .d (.int .i64 x)), (8, .d (.int .i64 j)), (109, .sr 5 2 (encN ⟨pl, r0 :: rl⟩ :: ps.map encN)), (110, .d (encN (⟨((16 + i : Nat) : Int), r1 :: rr⟩ : GProd)))] 8 (Eq.trans (b := boxG0 :: boxA ((1 + k % 2 : Nat) : Int) (kTok k) (.sr 2 1 ([DV.str [83 + i]])) (.sr 5 2 (encN ⟨pl, r0 :: rl⟩ :: ps.map encN)) :: .room (1) 1 :: .box [.d (.int .i64 pl), .sr 4 1 (rgtD (r0 :: rl))] :: .room ((rgtD rl).length + 1) 1 :: .room (ps.length + 1) 2 :: .box [.d (.int .i64 ((16 + i : Nat) : Int)), .sr 7 1 (rgtD (r1 :: rr))] :: [.room ((rgtD rr).length + 1) 1]) rfl rfl) rfl (by repeat' (first | exact trivial | refine ⟨(Or.inl rfl), ?_⟩ | refine ⟨(Or.inr rfl), ?_⟩ | refine ⟨rfl, ?_⟩ | fail)) (by repeat' (first | exact trivial | refine ⟨(Or.inl rfl), ?_⟩ | refine ⟨(Or.inr rfl), ?_⟩ | refine ⟨rfl, ?_⟩ | fail)) rfl rfl) ?_
                  refine oX (frz := fA) Et_ok ?_
                  first | refine oX (frz := fA) Et_ok ?_ (hv := app1) (hf := rfl) (he := rfl) | refine eX ?_ (hv := app1) (hf := rfl) (he := rfl)
                  iterate 2 refine oX (frz := fA) Et_ok ?_
                  repeat (first | refine Run.seq ?_ | refine Run.region ?_ | refine RunOps.nil ?_ | refine Run.skip ?_ | refine cT ?_ | refine cF ?_ | refine Run.block ?_ | refine Run.exit ?_)
                  refine oX (frz := fA) Et_ok ?_
                  refine oX (frz := fA) (v := .d (.int .i64 ((j + 1 : Nat) : Int))) Et_ok ?_ (he := vN (by omega) (by omega))
                  refine oX (frz := fA) Et_ok ?_
                  repeat (first | refine Run.seq ?_ | refine Run.region ?_ | refine RunOps.nil ?_ | refine Run.skip ?_ | refine cT ?_ | refine cF ?_ | refine Run.block ?_ | refine Run.exit ?_)
                  exact ⟨(j + 1, ⟨pl, r0 :: rl⟩ :: (ps ++ [(⟨((16 + i : Nat) : Int), r1 :: rr⟩ : GProd)])), ⟨by simp only <;> omega, hnext, by simp at hjb ⊢ <;> omega⟩, by simp only <;> omega, (tidy_of (objs := _) _ 6 (Eq.trans (b := boxG0 :: boxA ((1 + k % 2 : Nat) : Int) (kTok k) (.sr 2 1 ([DV.str [83 + i]])) (.sr 5 2 (encN ⟨pl, r0 :: rl⟩ :: (ps.map encN ++ [encN (⟨((16 + i : Nat) : Int), r1 :: rr⟩ : GProd)]))) :: .room (1) 1 :: .box [.d (.int .i64 pl), .sr 4 1 (rgtD (r0 :: rl))] :: .room ((rgtD rl).length + 1) 1 :: [.room (ps.length + 1 + 1) 2]) rfl (by first | rfl | (simp [psA, psO, psI, rowA, rowO, rgtD] <;> fail))) rfl (by repeat' (first | exact trivial | refine ⟨(Or.inl rfl), ?_⟩ | refine ⟨(Or.inr rfl), ?_⟩ | fail)) (by repeat' (first | exact trivial | refine ⟨rfl, ?_⟩ | fail)) rfl rfl)⟩
        · have hz : acc ≠ [] := fun hz => by
            rw [hz] at hj2 hj
            have hr0 := (List.append_eq_nil_iff.1 hj2.symm).2
            have : j = 0 := by simpa [rowTo] using hr0
            exact hj ⟨by omega, by simp⟩
          have hacc' : acc = accTo nums T M (i + 1) := by
            simp only [accTo, ← hxe]
            by_cases h7 : acc.length < 7
            · have hje : j = x % 3 + 1 := by have : ¬ j ≤ x % 3 := fun h => hj ⟨h, h7⟩; omega
              rw [← hje, ← hj2, List.take_of_length_le hj3]
            · have h7' : acc.length = 7 := by omega
              obtain ⟨d, hd⟩ : ∃ d, x % 3 + 1 = j + d := ⟨x % 3 + 1 - j, by omega⟩
              have hro : rowTo nums T M i (x % 3 + 1) = rowTo nums T M i j ++ (List.range' j d).map (prodN nums T M i) := by
                rw [hd, rowTo, rowTo, ← List.map_append, range_split]
              rw [hro, ← List.append_assoc, ← hj2, ← h7', List.take_left]
          rcases acc with _ | ⟨⟨pl, pr⟩, ps⟩
          · exact absurd rfl hz
          · rcases pr with _ | ⟨r0, rl⟩
            · by_cases hja : j ≤ x % 3
              · have h7 : ¬ (ps.length + 1 < 7) := fun h => hj ⟨hja, by simpa using h⟩
                repeat (first | refine Run.seq ?_ | refine Run.region ?_ | refine RunOps.nil ?_ | refine Run.skip ?_ | refine cT ?_ | refine cF ?_ | refine Run.block ?_ | refine Run.exit ?_)
                iterate 2 refine oX (frz := fA) Et_ok ?_
                refine oX (frz := fA) (v := .d (.int .i64 ((x % 3 : Nat) : Int))) Et_ok ?_ (he := rfl)
                refine oX (frz := fA) (v := .d (.bool true)) Et_ok ?_ (he := vT (by omega))
                iterate 4 refine oX (frz := fA) Et_ok ?_
                refine oX (frz := fA) (v := .d (.bool false)) Et_ok ?_ (he := vF (by simp <;> omega))
                refine oX (frz := fA) Et_ok ?_
                repeat (first | refine Run.seq ?_ | refine Run.region ?_ | refine RunOps.nil ?_ | refine Run.skip ?_ | refine cT ?_ | refine cF ?_ | refine Run.block ?_ | refine Run.exit ?_)
                refine oX (frz := fA) Et_ok ?_
                refine oX (frz := fA) (v := .d (.int .i64 ((i + 1 : Nat) : Int))) Et_ok ?_ (he := vN (by omega) (by omega))
                refine oX (frz := fA) Et_ok ?_
                repeat (first | refine Run.seq ?_ | refine Run.region ?_ | refine RunOps.nil ?_ | refine Run.skip ?_ | refine cT ?_ | refine cF ?_ | refine Run.block ?_ | refine Run.exit ?_)
                exact ⟨(i + 1, [DV.str [83 + i]], ⟨pl, []⟩ :: ps), ⟨hlt, hns', hacc'⟩, by simp only <;> omega, (tidy_of (objs := _) _ 5 (Eq.trans (b := boxG0 :: boxA ((1 + k % 2 : Nat) : Int) (kTok k) (.sr 2 1 ([DV.str [83 + i]])) (.sr 4 2 (encN ⟨pl, []⟩ :: ps.map encN)) :: .room (1) 1 :: .box [.d (.int .i64 pl), .d .nilsl] :: [.room (ps.length + 1) 2]) rfl (by first | rfl | (simp [psA, psO, psI, rowA, rowO, rgtD] <;> fail))) rfl (by repeat' (first | exact trivial | refine ⟨(Or.inl rfl), ?_⟩ | refine ⟨(Or.inr rfl), ?_⟩ | fail)) (by repeat' (first | exact trivial | refine ⟨rfl, ?_⟩ | fail)) rfl rfl)⟩
              · repeat (first | refine Run.seq ?_ | refine Run.region ?_ | refine RunOps.nil ?_ | refine Run.skip ?_ | refine cT ?_ | refine cF ?_ | refine Run.block ?_ | refine Run.exit ?_)
                iterate 2 refine oX (frz := fA) Et_ok ?_
                refine oX (frz := fA) (v := .d (.int .i64 ((x % 3 : Nat) : Int))) Et_ok ?_ (he := rfl)
                refine oX (frz := fA) (v := .d (.bool false)) Et_ok ?_ (he := vF (by omega))
                refine oX (frz := fA) Et_ok ?_
                refine oS ?_
                refine oS ?_
                refine oS ?_
                refine oS ?_
                refine oX (frz := fA) Et_ok ?_
                repeat (first | refine Run.seq ?_ | refine Run.region ?_ | refine RunOps.nil ?_ | refine Run.skip ?_ | refine cT ?_ | refine cF ?_ | refine Run.block ?_ | refine Run.exit ?_)
                refine oX (frz := fA) Et_ok ?_
                refine oX (frz := fA) (v := .d (.int .i64 ((i + 1 : Nat) : Int))) Et_ok ?_ (he := vN (by omega) (by omega))
                refine oX (frz := fA) Et_ok ?_
                repeat (first | refine Run.seq ?_ | refine Run.region ?_ | refine RunOps.nil ?_ | refine Run.skip ?_ | refine cT ?_ | refine cF ?_ | refine Run.block ?_ | refine Run.exit ?_)
                exact ⟨(i + 1, [DV.str [83 + i]], ⟨pl, []⟩ :: ps), ⟨hlt, hns', hacc'⟩, by simp only <;> omega, (tidy_of (objs := _) _ 5 (Eq.trans (b := boxG0 :: boxA ((1 + k % 2 : Nat) : Int) (kTok k) (.sr 2 1 ([DV.str [83 + i]])) (.sr 4 2 (encN ⟨pl, []⟩ :: ps.map encN)) :: .room (1) 1 :: .box [.d (.int .i64 pl), .d .nilsl] :: [.room (ps.length + 1) 2]) rfl (by first | rfl | (simp [psA, psO, psI, rowA, rowO, rgtD] <;> fail))) rfl (by repeat' (first | exact trivial | refine ⟨(Or.inl rfl), ?_⟩ | refine ⟨(Or.inr rfl), ?_⟩ | fail)) (by repeat' (first | exact trivial | refine ⟨rfl, ?_⟩ | fail)) rfl rfl)⟩
            · by_cases hja : j ≤ x % 3
              · have h7 : ¬ (ps.length + 1 < 7) := fun h => hj ⟨hja, by simpa using h⟩
                repeat (first | refine Run.seq ?_ | refine Run.region ?_ | refine RunOps.nil ?_ | refine Run.skip ?_ | refine cT ?_ | refine cF ?_ | refine Run.block ?_ | refine Run.exit ?_)
                iterate 2 refine oX (frz := fA) Et_ok ?_
                refine oX (frz := fA) (v := .d (.int .i64 ((x % 3 : Nat) : Int))) Et_ok ?_ (he := rfl)
                refine oX (frz := fA) (v := .d (.bool true)) Et_ok ?_ (he := vT (by omega))
                iterate 4 refine oX (frz := fA) Et_ok ?_
                refine oX (frz := fA) (v := .d (.bool false)) Et_ok ?_ (he := vF (by simp <;> omega))
                refine oX (frz := fA) Et_ok ?_
                repeat (first | refine Run.seq ?_ | refine Run.region ?_ | refine RunOps.nil ?_ | refine Run.skip ?_ | refine cT ?_ | refine cF ?_ | refine Run.block ?_ | refine Run.exit ?_)
                refine oX (frz := fA) Et_ok ?_
                refine oX (frz := fA) (v := .d (.int .i64 ((i + 1 : Nat) : Int))) Et_ok ?_ (he := vN (by omega) (by omega))
                refine oX (frz := fA) Et_ok ?_
                repeat (first | refine Run.seq ?_ | refine Run.region ?_ | refine RunOps.nil ?_ | refine Run.skip ?_ | refine cT ?_ | refine cF ?_ | refine Run.block ?_ | refine Run.exit ?_)
                exact ⟨(i + 1, [DV.str [83 + i]], ⟨pl, r0 :: rl⟩ :: ps), ⟨hlt, hns', hacc'⟩, by simp only <;> omega, (tidy_of (objs := _) _ 6 (Eq.trans (b := boxG0 :: boxA ((1 + k % 2 : Nat) : Int) (kTok k) (.sr 2 1 ([DV.str [83 + i]])) (.sr 5 2 (encN ⟨pl, r0 :: rl⟩ :: ps.map encN)) :: .room (1) 1 :: .box [.d (.int .i64 pl), .sr 4 1 (rgtD (r0 :: rl))] :: .room ((rgtD rl).length + 1) 1 :: [.room (ps.length + 1) 2]) rfl (by first | rfl | (simp [psA, psO, psI, rowA, rowO, rgtD] <;> fail))) rfl (by repeat' (first | exact trivial | refine ⟨(Or.inl rfl), ?_⟩ | refine ⟨(Or.inr rfl), ?_⟩ | fail)) (by repeat' (first | exact trivial | refine ⟨rfl, ?_⟩ | fail)) rfl rfl)⟩
              · repeat (first | refine Run.seq ?_ | refine Run.region ?_ | refine RunOps.nil ?_ | refine Run.skip ?_ | refine cT ?_ | refine cF ?_ | refine Run.block ?_ | refine Run.exit ?_)
                iterate 2 refine oX (frz := fA) Et_ok ?_
                refine oX (frz := fA) (v := .d (.int .i64 ((x % 3 : Nat) : Int))) Et_ok ?_ (he := rfl)
                refine oX (frz := fA) (v := .d (.bool false)) Et_ok ?_ (he := vF (by omega))
                refine oX (frz := fA) Et_ok ?_
                refine oS ?_
                refine oS ?_
                refine oS ?_
                refine oS ?_
                refine oX (frz := fA) Et_ok ?_
                repeat (first | refine Run.seq ?_ | refine Run.region ?_ | refine RunOps.nil ?_ | refine Run.skip ?_ | refine cT ?_ | refine cF ?_ | refine Run.block ?_ | refine Run.exit ?_)
                refine oX (frz := fA) Et_ok ?_
                refine oX (frz := fA) (v := .d (.int .i64 ((i + 1 : Nat) : Int))) Et_ok ?_ (he := vN (by omega) (by omega))
                refine oX (frz := fA) Et_ok ?_
                repeat (first | refine Run.seq ?_ | refine Run.region ?_ | refine RunOps.nil ?_ | refine Run.skip ?_ | refine cT ?_ | refine cF ?_ | refine Run.block ?_ | refine Run.exit ?_)
                exact ⟨(i + 1, [DV.str [83 + i]], ⟨pl, r0 :: rl⟩ :: ps), ⟨hlt, hns', hacc'⟩, by simp only <;> omega, (tidy_of (objs := _) _ 6 (Eq.trans (b := boxG0 :: boxA ((1 + k % 2 : Nat) : Int) (kTok k) (.sr 2 1 ([DV.str [83 + i]])) (.sr 5 2 (encN ⟨pl, r0 :: rl⟩ :: ps.map encN)) :: .room (1) 1 :: .box [.d (.int .i64 pl), .sr 4 1 (rgtD (r0 :: rl))] :: .room ((rgtD rl).length + 1) 1 :: [.room (ps.length + 1) 2]) rfl (by first | rfl | (simp [psA, psO, psI, rowA, rowO, rgtD] <;> fail))) rfl (by repeat' (first | exact trivial | refine ⟨(Or.inl rfl), ?_⟩ | refine ⟨(Or.inr rfl), ?_⟩ | fail)) (by repeat' (first | exact trivial | refine ⟨rfl, ?_⟩ | fail)) rfl rfl)⟩
      · exfalso
        cases i with | zero => cases hacc | succ i => simp [nsD, namesTo, List.range_succ] at hns
    · rcases acc with _ | ⟨⟨ql, qr⟩, qs⟩
      · exfalso
        cases i with | zero => simp [nsD, namesTo] at hns | succ i => exact acc_ne nums T M i hacc.symm
      · have hns' : m0 :: (ml ++ [DV.str [83 + i]]) = nsD (i + 1) := by rw [nsD_succ, ← hns]; rfl
        have hq3 : qs.length + 1 ≤ 7 := by have := accTo_len nums T M i; rw [← hacc] at this; simpa using this
        have hml : ml.length + 1 = i := by have := congrArg List.length hns; simpa [nsD, namesTo] using this
        rcases qr with _ | ⟨u0, ul⟩
        · repeat (first | refine Run.seq ?_ | refine Run.region ?_ | refine RunOps.nil ?_ | refine Run.skip ?_ | refine cT ?_ | refine cF ?_ | refine Run.block ?_ | refine Run.exit ?_)
          iterate 2 refine oX (frz := fA) Et_ok ?_
          refine oX (frz := fA) (v := .d (.bool true)) Et_ok ?_ (he := vT (by omega))
          repeat (first | refine Run.seq ?_ | refine Run.region ?_ | refine RunOps.nil ?_ | refine Run.skip ?_ | refine cT ?_ | refine cF ?_ | refine Run.block ?_ | refine Run.exit ?_)
          iterate 3 refine oX (frz := fA) Et_ok ?_
          refine oX (frz := fA) (v := .d (.int .i64 (83 + i : Nat))) Et_ok ?_ (he := vN (by omega) (by omega))
          refine oX (frz := fA) (v := .d (.int .u8 (83 + i : Nat))) Et_ok ?_ (he := vU8 (by omega))
          refine oX (frz := fA) Et_ok ?_
          refine oX (frz := fA) (v := .d (.str [83 + i])) Et_ok ?_ (he := congrArg (fun c => AV.d (.str [c])) (show ((83 + i : Nat) : Int).toNat % 256 = 83 + i by omega))
          refine oX (frz := fA) Et_ok ?_
          refine oX (frz := fA) Et_ok ?_ (hv := app1) (hf := rfl) (he := rfl)
          iterate 2 refine oX (frz := fA) Et_ok ?_
          repeat (first | refine Run.seq ?_ | refine Run.region ?_ | refine RunOps.nil ?_ | refine Run.skip ?_ | refine cT ?_ | refine cF ?_ | refine Run.block ?_ | refine Run.exit ?_)
          iterate 2 refine oX (frz := fA) Et_ok ?_
          refine oX (frz := fA) (v := .d (.int .i64 (1 + i : Nat))) Et_ok ?_ (he := vN (by omega) (by omega))
          refine oC (atS nums (1 + i)) ?_
          refine oC hx ?_
          refine oX (frz := fA) Et_ok ?_
          repeat (first | refine Run.seq ?_ | refine Run.region ?_ | refine RunOps.nil ?_ | refine Run.skip ?_ | refine cT ?_ | refine cF ?_ | refine Run.block ?_ | refine Run.exit ?_)
          refine oX (frz := fA) Et_ok ?_
          repeat (first | refine Run.seq ?_ | refine Run.region ?_ | refine RunOps.nil ?_ | refine Run.skip ?_ | refine cT ?_ | refine cF ?_ | refine Run.block ?_ | refine Run.exit ?_)
          refine Run.loopT (fun y : Nat × List GProd => ⟨PT.ofList [(0, .d (ints nums)), (2, .bp 0 0), (4, .bp 1 0), (5, .d (.int .i64 (M : Nat))), (6, .d (.int .i64 i)), (7, .d (.int .i64 x)), (8, .d (.int .i64 y.1))], boxG0 :: boxA ((1 + k % 2 : Nat) : Int) (kTok k) (.sr 2 1 (m0 :: (ml ++ [DV.str [83 + i]]))) (psA y.2) :: .room (ml.length + 1 + 1) 1 :: psO y.2, []⟩)
            (fun y => y.1 ≤ x % 3 + 1 ∧ y.2 = accTo nums T M i ++ rowTo nums T M i y.1 ∧ y.2.length ≤ 7) (fun y => x % 3 + 1 - y.1) (0, (⟨ql, []⟩ :: qs)) ⟨Nat.zero_le _, by rw [← hacc]; simp [rowTo], hq3⟩ (tidy_of (objs := _) _ 5 (by rfl) rfl (by repeat' (first | exact trivial | refine ⟨(Or.inl rfl), ?_⟩ | refine ⟨(Or.inr rfl), ?_⟩ | fail)) (by repeat' (first | exact trivial | refine ⟨rfl, ?_⟩ | fail)) rfl rfl) (fun y hy => ?_)
          obtain ⟨j, acc⟩ := y
          obtain ⟨hj1, hj2, hj3⟩ := hy
          simp only at hj1 hj2 hj3 ⊢
          by_cases hj : j ≤ x % 3 ∧ acc.length < 7
          · obtain ⟨hja, hjb⟩ := hj
            have hy := numS nums hn (4 + 3 * i + j)
            have hyl := numF_lt nums (4 + 3 * i + j)
            have hyp : prodN nums T M i j = ⟨((16 + i : Nat) : Int), rgtTo T M (numF nums (4 + 3 * i + j)) (numF nums (4 + 3 * i + j) % 4)⟩ := rfl
            have hrow : rowTo nums T M i (j + 1) = rowTo nums T M i j ++ [prodN nums T M i j] := by simp [rowTo, List.range_succ]
            have hat := atS nums (4 + 3 * i + j)
            obtain ⟨v, hv⟩ : ∃ v, v = numF nums (4 + 3 * i + j) := ⟨_, rfl⟩
            rw [← hv] at hy hyl hyp
            have hnext : acc ++ [prodN nums T M i j] = accTo nums T M i ++ rowTo nums T M i (j + 1) := by rw [hj2, hrow, List.append_assoc]
            rw [hyp] at hnext
            rcases acc with _ | ⟨⟨pl, pr⟩, ps⟩
            · repeat (first | refine Run.seq ?_ | refine Run.region ?_ | refine RunOps.nil ?_ | refine Run.skip ?_ | refine cT ?_ | refine cF ?_ | refine Run.block ?_ | refine Run.exit ?_)
              iterate 2 refine oX (frz := fA) Et_ok ?_
              refine oX (frz := fA) (v := .d (.int .i64 ((x % 3 : Nat) : Int))) Et_ok ?_ (he := rfl)
              refine oX (frz := fA) (v := .d (.bool true)) Et_ok ?_ (he := vT (by omega))
              iterate 4 refine oX (frz := fA) Et_ok ?_
              refine oX (frz := fA) Et_ok ?_
              refine oX (frz := fA) Et_ok ?_
              repeat (first | refine Run.seq ?_ | refine Run.region ?_ | refine RunOps.nil ?_ | refine Run.skip ?_ | refine cT ?_ | refine cF ?_ | refine Run.block ?_ | refine Run.exit ?_)
              refine oX (frz := fA) Et_ok ?_
              refine oX (frz := fA) (v := .d (.int .i64 ((16 + i : Nat) : Int))) Et_ok ?_ (he := vN (by omega) (by omega))
              iterate 3 refine oX (frz := fA) Et_ok ?_
              repeat (first | refine Run.seq ?_ | refine Run.region ?_ | refine RunOps.nil ?_ | refine Run.skip ?_ | refine cT ?_ | refine cF ?_ | refine Run.block ?_ | refine Run.exit ?_)
              iterate 2 refine oX (frz := fA) Et_ok ?_
              refine oX (frz := fA) (v := .d (.int .i64 ((3 * i : Nat) : Int))) Et_ok ?_ (he := vN (by omega) (by omega))
              refine oX (frz := fA) (v := .d (.int .i64 ((4 + 3 * i : Nat) : Int))) Et_ok ?_ (he := vN (by omega) (by omega))
              refine oX (frz := fA) Et_ok ?_
              refine oX (frz := fA) (v := .d (.int .i64 ((4 + 3 * i + j : Nat) : Int))) Et_ok ?_ (he := vN (by omega) (by omega))
              refine oC hat ?_
              refine oC hy ?_
              refine oX (frz := fA) Et_ok ?_
              repeat (first | refine Run.seq ?_ | refine Run.region ?_ | refine RunOps.nil ?_ | refine Run.skip ?_ | refine cT ?_ | refine cF ?_ | refine Run.block ?_ | refine Run.exit ?_)
              refine oX (frz := fA) Et_ok ?_
              repeat (first | refine Run.seq ?_ | refine Run.region ?_ | refine RunOps.nil ?_ | refine Run.skip ?_ | refine cT ?_ | refine cF ?_ | refine Run.block ?_ | refine Run.exit ?_)
              refine Run.loopT (fun z : Nat × List Int => ⟨PT.ofList [(0, .d (ints nums)), (2, .bp 0 0), (4, .bp 1 0), (5, .d (.int .i64 (M : Nat))), (6, .d (.int .i64 i)), (7, .d (.int .i64 x)), (8, .d (.int .i64 j)), (9, .bp 3 0), (10, .d (.int .i64 v)), (11, .d (.int .i64 z.1))], boxG0 :: boxA ((1 + k % 2 : Nat) : Int) (kTok k) (.sr 2 1 (m0 :: (ml ++ [DV.str [83 + i]]))) (.d .nilsl) :: .room (ml.length + 1 + 1) 1 :: .box [.d (.int .i64 ((16 + i : Nat) : Int)), rowA 4 1 (rgtD z.2)] :: rowO 1 (rgtD z.2), []⟩)
                (fun z => z.1 ≤ v % 4 ∧ z.2 = rgtTo T M v z.1) (fun z => v % 4 - z.1) (0, []) ⟨Nat.zero_le _, rfl⟩ (tidy_of (objs := _) _ 4 (by rfl) rfl (by repeat' (first | exact trivial | refine ⟨(Or.inl rfl), ?_⟩ | refine ⟨(Or.inr rfl), ?_⟩ | fail)) (by repeat' (first | exact trivial | refine ⟨rfl, ?_⟩ | fail)) rfl rfl) (fun z hz => ?_)
              obtain ⟨s, r⟩ := z
              obtain ⟨hs1, hs2⟩ := hz
              simp only at hs1 hs2 ⊢
              have hrl : r.length = s := by rw [hs2]; simp [rgtTo]
              rcases Nat.lt_or_ge s (v % 4) with hsl | hsg
              · have hnx : r ++ [((symN T M (zF v s) : Nat) : Int)] = rgtTo T M v (s + 1) := by rw [hs2]; simp [rgtTo, List.range_succ]
                rcases r with _ | ⟨r1, rr⟩
                · have hrl' := hrl
                  simp only [List.length_cons, List.length_nil] at hrl'
                  repeat (first | refine Run.seq ?_ | refine Run.region ?_ | refine RunOps.nil ?_ | refine Run.skip ?_ | refine cT ?_ | refine cF ?_ | refine Run.block ?_ | refine Run.exit ?_)
                  iterate 2 refine oX (frz := fA) Et_ok ?_
                  refine oX (frz := fA) (v := .d (.int .i64 ((v % 4 : Nat) : Int))) Et_ok ?_ (he := rfl)
                  refine oX (frz := fA) (v := .d (.bool true)) Et_ok ?_ (he := vT (by omega))
                  repeat (first | refine Run.seq ?_ | refine Run.region ?_ | refine RunOps.nil ?_ | refine Run.skip ?_ | refine cT ?_ | refine cF ?_ | refine Run.block ?_ | refine Run.exit ?_)
                  refine oX (frz := fA) Et_ok ?_
                  refine oX (frz := fA) (v := .d (.int .i64 ((v / 4 : Nat) : Int))) Et_ok ?_ (he := vN rfl (by omega))
                  refine oX (frz := fA) Et_ok ?_
                  refine oX (frz := fA) (v := .d (.int .i64 ((4 * s : Nat) : Int))) Et_ok ?_ (he := vN (by omega) (by omega))
                  refine oX (frz := fA) (v := .d (.int .u64 ((4 * s : Nat) : Int))) Et_ok ?_ (he := vU64 (by omega))
                  refine oX (frz := fA) (v := .d (.int .i64 ((v / 4 / 2 ^ (4 * s) : Nat) : Int))) Et_ok ?_ (hf := shrF (4 * s)) (he := congrArg (fun n => AV.d (.int .i64 n)) (shrN (by omega)))
                  refine oX (frz := fA) (v := .d (.int .i64 ((zF v s : Nat) : Int))) Et_ok ?_ (he := rfl)
                  refine oX (frz := fA) Et_ok ?_
                  repeat (first | refine Run.seq ?_ | refine Run.region ?_ | refine RunOps.nil ?_ | refine Run.skip ?_ | refine cT ?_ | refine cF ?_ | refine Run.block ?_ | refine Run.exit ?_)
                  refine oX (frz := fA) Et_ok ?_
                  refine oX (frz := fA) (v := .d (.int .i64 ((zF v s % 5 : Nat) : Int))) Et_ok ?_ (he := rfl)
                  by_cases h5 : zF v s % 5 < 3
                  · refine oX (frz := fA) (v := .d (.bool true)) Et_ok ?_ (he := vT (by omega))
                    have hsy : symN T M (zF v s) = zF v s % T := if_pos h5
                    rw [hsy] at hnx
                    repeat (first | refine Run.region ?_ | refine Run.seq ?_ | refine RunOps.nil ?_ | refine Run.skip ?_ | refine cT ?_ | refine cF ?_ | refine Run.block ?_ | refine Run.exit ?_ | refine eN ?_ | refine Run.draw (frz := fA) Et_ok (by kernel_rfl) ?_)
                    iterate 5 (first | refine oX (frz := fA) Et_ok ?_ | refine eX ?_)
                    first | refine oX (frz := fA) (v := .d (.int .i64 (T : Nat))) Et_ok ?_ (he := (by rw [hT, List.length_map])) | refine eX (v := .d (.int .i64 (T : Nat))) ?_ (he := (by rw [hT, List.length_map]))
                    refine eX (v := .d (.int .i64 ((zF v s % T : Nat) : Int))) ?_ (hf := by simp <;> omega) (he := rfl)
                    iterate 1 (first | refine oX (frz := fA) Et_ok ?_ | refine eX ?_)
                    first | refine oX (frz := fA) Et_ok ?_ (hv := app0) (hf := rfl) (he := rfl) | refine eX ?_ (hv := app0) (hf := rfl) (he := rfl)
                    iterate 2 (first | refine oX (frz := fA) Et_ok ?_ | refine eX ?_)
                    repeat (first | refine Run.region ?_ | refine Run.seq ?_ | refine RunOps.nil ?_ | refine Run.skip ?_ | refine cT ?_ | refine cF ?_ | refine Run.block ?_ | refine Run.exit ?_ | refine eN ?_ | refine Run.draw (frz := fA) Et_ok (by kernel_rfl) ?_)
                    refine oX (frz := fA) Et_ok ?_
                    refine oX (frz := fA) (v := .d (.int .i64 ((s + 1 : Nat) : Int))) Et_ok ?_ (he := vN (by omega) (by omega))
                    refine oX (frz := fA) Et_ok ?_
                    repeat (first | refine Run.seq ?_ | refine Run.region ?_ | refine RunOps.nil ?_ | refine Run.skip ?_ | refine cT ?_ | refine cF ?_ | refine Run.block ?_ | refine Run.exit ?_)
                    exact ⟨(s + 1, _), ⟨hsl, hnx⟩, by simp only <;> omega, (tidy_of (objs := _) _ 5 (by rfl) rfl (by repeat' (first | exact trivial | refine ⟨(Or.inl rfl), ?_⟩ | refine ⟨(Or.inr rfl), ?_⟩ | fail)) (by repeat' (first | exact trivial | refine ⟨rfl, ?_⟩ | fail)) rfl rfl)⟩
                  · refine oX (frz := fA) (v := .d (.bool false)) Et_ok ?_ (he := vF (by omega))
                    have hsy : symN T M (zF v s) = 16 + zF v s % M := if_neg h5
                    rw [hsy] at hnx
                    repeat (first | refine Run.region ?_ | refine Run.seq ?_ | refine RunOps.nil ?_ | refine Run.skip ?_ | refine cT ?_ | refine cF ?_ | refine Run.block ?_ | refine Run.exit ?_ | refine eN ?_ | refine Run.draw (frz := fA) Et_ok (by kernel_rfl) ?_)
                    iterate 4 (first | refine oX (frz := fA) Et_ok ?_ | refine eX ?_)
                    refine eX (v := .d (.int .i64 ((zF v s % M : Nat) : Int))) ?_ (hf := by simp <;> omega) (he := rfl)
                    first | refine oX (frz := fA) (v := .d (.int .i64 ((16 + zF v s % M : Nat) : Int))) Et_ok ?_ (he := (vN (by omega) (by have := Nat.mod_lt (zF v s) (show 0 < M by omega) <;> omega))) | refine eX (v := .d (.int .i64 ((16 + zF v s % M : Nat) : Int))) ?_ (he := (vN (by omega) (by have := Nat.mod_lt (zF v s) (show 0 < M by omega) <;> omega)))
                    iterate 1 (first | refine oX (frz := fA) Et_ok ?_ | refine eX ?_)
                    first | refine oX (frz := fA) Et_ok ?_ (hv := app0) (hf := rfl) (he := rfl) | refine eX ?_ (hv := app0) (hf := rfl) (he := rfl)
                    iterate 2 (first | refine oX (frz := fA) Et_ok ?_ | refine eX ?_)
                    repeat (first | refine Run.region ?_ | refine Run.seq ?_ | refine RunOps.nil ?_ | refine Run.skip ?_ | refine cT ?_ | refine cF ?_ | refine Run.block ?_ | refine Run.exit ?_ | refine eN ?_ | refine Run.draw (frz := fA) Et_ok (by kernel_rfl) ?_)
                    refine oX (frz := fA) Et_ok ?_
                    refine oX (frz := fA) (v := .d (.int .i64 ((s + 1 : Nat) : Int))) Et_ok ?_ (he := vN (by omega) (by omega))
                    refine oX (frz := fA) Et_ok ?_
                    repeat (first | refine Run.seq ?_ | refine Run.region ?_ | refine RunOps.nil ?_ | refine Run.skip ?_ | refine cT ?_ | refine cF ?_ | refine Run.block ?_ | refine Run.exit ?_)
                    exact ⟨(s + 1, _), ⟨hsl, hnx⟩, by simp only <;> omega, (tidy_of (objs := _) _ 5 (by rfl) rfl (by repeat' (first | exact trivial | refine ⟨(Or.inl rfl), ?_⟩ | refine ⟨(Or.inr rfl), ?_⟩ | fail)) (by repeat' (first | exact trivial | refine ⟨rfl, ?_⟩ | fail)) rfl rfl)⟩
                · have hrl' := hrl
                  simp only [List.length_cons, List.length_nil] at hrl'
                  repeat (first | refine Run.seq ?_ | refine Run.region ?_ | refine RunOps.nil ?_ | refine Run.skip ?_ | refine cT ?_ | refine cF ?_ | refine Run.block ?_ | refine Run.exit ?_)
                  iterate 2 refine oX (frz := fA) Et_ok ?_
                  refine oX (frz := fA) (v := .d (.int .i64 ((v % 4 : Nat) : Int))) Et_ok ?_ (he := rfl)
                  refine oX (frz := fA) (v := .d (.bool true)) Et_ok ?_ (he := vT (by omega))
                  repeat (first | refine Run.seq ?_ | refine Run.region ?_ | refine RunOps.nil ?_ | refine Run.skip ?_ | refine cT ?_ | refine cF ?_ | refine Run.block ?_ | refine Run.exit ?_)
                  refine oX (frz := fA) Et_ok ?_
                  refine oX (frz := fA) (v := .d (.int .i64 ((v / 4 : Nat) : Int))) Et_ok ?_ (he := vN rfl (by omega))
                  refine oX (frz := fA) Et_ok ?_
                  refine oX (frz := fA) (v := .d (.int .i64 ((4 * s : Nat) : Int))) Et_ok ?_ (he := vN (by omega) (by omega))
                  refine oX (frz := fA) (v := .d (.int .u64 ((4 * s : Nat) : Int))) Et_ok ?_ (he := vU64 (by omega))
                  refine oX (frz := fA) (v := .d (.int .i64 ((v / 4 / 2 ^ (4 * s) : Nat) : Int))) Et_ok ?_ (hf := shrF (4 * s)) (he := congrArg (fun n => AV.d (.int .i64 n)) (shrN (by omega)))
                  refine oX (frz := fA) (v := .d (.int .i64 ((zF v s : Nat) : Int))) Et_ok ?_ (he := rfl)
                  refine oX (frz := fA) Et_ok ?_
                  repeat (first | refine Run.seq ?_ | refine Run.region ?_ | refine RunOps.nil ?_ | refine Run.skip ?_ | refine cT ?_ | refine cF ?_ | refine Run.block ?_ | refine Run.exit ?_)
                  refine oX (frz := fA) Et_ok ?_
                  refine oX (frz := fA) (v := .d (.int .i64 ((zF v s % 5 : Nat) : Int))) Et_ok ?_ (he := rfl)
                  by_cases h5 : zF v s % 5 < 3
                  · refine oX (frz := fA) (v := .d (.bool true)) Et_ok ?_ (he := vT (by omega))
                    have hsy : symN T M (zF v s) = zF v s % T := if_pos h5
                    rw [hsy] at hnx
                    repeat (first | refine Run.region ?_ | refine Run.seq ?_ | refine RunOps.nil ?_ | refine Run.skip ?_ | refine cT ?_ | refine cF ?_ | refine Run.block ?_ | refine Run.exit ?_ | refine eN ?_ | refine Run.draw (frz := fA) Et_ok (by kernel_rfl) ?_)
                    iterate 5 (first | refine oX (frz := fA) Et_ok ?_ | refine eX ?_)
                    first | refine oX (frz := fA) (v := .d (.int .i64 (T : Nat))) Et_ok ?_ (he := (by rw [hT, List.length_map])) | refine eX (v := .d (.int .i64 (T : Nat))) ?_ (he := (by rw [hT, List.length_map]))
                    refine eX (v := .d (.int .i64 ((zF v s % T : Nat) : Int))) ?_ (hf := by simp <;> omega) (he := rfl)
                    iterate 1 (first | refine oX (frz := fA) Et_ok ?_ | refine eX ?_)
                    first | refine oX (frz := fA) Et_ok ?_ (hv := app1) (hf := rfl) (he := rfl) | refine eX ?_ (hv := app1) (hf := rfl) (he := rfl)
                    iterate 2 (first | refine oX (frz := fA) Et_ok ?_ | refine eX ?_)
                    repeat (first | refine Run.region ?_ | refine Run.seq ?_ | refine RunOps.nil ?_ | refine Run.skip ?_ | refine cT ?_ | refine cF ?_ | refine Run.block ?_ | refine Run.exit ?_ | refine eN ?_ | refine Run.draw (frz := fA) Et_ok (by kernel_rfl) ?_)
                    refine oX (frz := fA) Et_ok ?_
                    refine oX (frz := fA) (v := .d (.int .i64 ((s + 1 : Nat) : Int))) Et_ok ?_ (he := vN (by omega) (by omega))
                    refine oX (frz := fA) Et_ok ?_
                    repeat (first | refine Run.seq ?_ | refine Run.region ?_ | refine RunOps.nil ?_ | refine Run.skip ?_ | refine cT ?_ | refine cF ?_ | refine Run.block ?_ | refine Run.exit ?_)
                    exact ⟨(s + 1, _), ⟨hsl, hnx⟩, by simp only <;> omega, (tidy_of (objs := _) _ 5 (by first | rfl | (simp only [rowO, rgtD, List.map_append, List.map_cons, List.map_nil, List.cons_append, List.length_append, List.length_cons, List.length_nil] <;> rfl)) rfl (by repeat' (first | exact trivial | refine ⟨(Or.inl rfl), ?_⟩ | refine ⟨(Or.inr rfl), ?_⟩ | fail)) (by repeat' (first | exact trivial | refine ⟨rfl, ?_⟩ | fail)) rfl rfl)⟩
                  · refine oX (frz := fA) (v := .d (.bool false)) Et_ok ?_ (he := vF (by omega))
                    have hsy : symN T M (zF v s) = 16 + zF v s % M := if_neg h5
                    rw [hsy] at hnx
                    repeat (first | refine Run.region ?_ | refine Run.seq ?_ | refine RunOps.nil ?_ | refine Run.skip ?_ | refine cT ?_ | refine cF ?_ | refine Run.block ?_ | refine Run.exit ?_ | refine eN ?_ | refine Run.draw (frz := fA) Et_ok (by kernel_rfl) ?_)
                    iterate 4 (first | refine oX (frz := fA) Et_ok ?_ | refine eX ?_)
                    refine eX (v := .d (.int .i64 ((zF v s % M : Nat) : Int))) ?_ (hf := by simp <;> omega) (he := rfl)
                    first | refine oX (frz := fA) (v := .d (.int .i64 ((16 + zF v s % M : Nat) : Int))) Et_ok ?_ (he := (vN (by omega) (by have := Nat.mod_lt (zF v s) (show 0 < M by omega) <;> omega))) | refine eX (v := .d (.int .i64 ((16 + zF v s % M : Nat) : Int))) ?_ (he := (vN (by omega) (by have := Nat.mod_lt (zF v s) (show 0 < M by omega) <;> omega)))
                    iterate 1 (first | refine oX (frz := fA) Et_ok ?_ | refine eX ?_)
                    first | refine oX (frz := fA) Et_ok ?_ (hv := app1) (hf := rfl) (he := rfl) | refine eX ?_ (hv := app1) (hf := rfl) (he := rfl)
                    iterate 2 (first | refine oX (frz := fA) Et_ok ?_ | refine eX ?_)
                    repeat (first | refine Run.region ?_ | refine Run.seq ?_ | refine RunOps.nil ?_ | refine Run.skip ?_ | refine cT ?_ | refine cF ?_ | refine Run.block ?_ | refine Run.exit ?_ | refine eN ?_ | refine Run.draw (frz := fA) Et_ok (by kernel_rfl) ?_)
                    refine oX (frz := fA) Et_ok ?_
                    refine oX (frz := fA) (v := .d (.int .i64 ((s + 1 : Nat) : Int))) Et_ok ?_ (he := vN (by omega) (by omega))
                    refine oX (frz := fA) Et_ok ?_
                    repeat (first | refine Run.seq ?_ | refine Run.region ?_ | refine RunOps.nil ?_ | refine Run.skip ?_ | refine cT ?_ | refine cF ?_ | refine Run.block ?_ | refine Run.exit ?_)
                    exact ⟨(s + 1, _), ⟨hsl, hnx⟩, by simp only <;> omega, (tidy_of (objs := _) _ 5 (by first | rfl | (simp only [rowO, rgtD, List.map_append, List.map_cons, List.map_nil, List.cons_append, List.length_append, List.length_cons, List.length_nil] <;> rfl)) rfl (by repeat' (first | exact trivial | refine ⟨(Or.inl rfl), ?_⟩ | refine ⟨(Or.inr rfl), ?_⟩ | fail)) (by repeat' (first | exact trivial | refine ⟨rfl, ?_⟩ | fail)) rfl rfl)⟩
              · have hse : s = v % 4 := by omega
                rw [hse] at hs2
                rw [← hs2] at hnext
                rcases r with _ | ⟨r1, rr⟩
                · repeat (first | refine Run.seq ?_ | refine Run.region ?_ | refine RunOps.nil ?_ | refine Run.skip ?_ | refine cT ?_ | refine cF ?_ | refine Run.block ?_ | refine Run.exit ?_)
                  iterate 2 refine oX (frz := fA) Et_ok ?_
                  refine oX (frz := fA) (v := .d (.int .i64 ((v % 4 : Nat) : Int))) Et_ok ?_ (he := rfl)
                  refine oX (frz := fA) (v := .d (.bool false)) Et_ok ?_ (he := vF (by omega))
                  repeat (first | refine Run.seq ?_ | refine Run.region ?_ | refine RunOps.nil ?_ | refine Run.skip ?_ | refine cT ?_ | refine cF ?_ | refine Run.block ?_ | refine Run.exit ?_)
                  iterate 3 refine oX (frz := fA) Et_ok ?_
                  first | refine Run.tidy (tidy_of (objs := _) [(0, .d (ints nums)), (2, .bp 0 0), (4, .bp 1 0), (5, .d (.int .i64 (M : Nat))), (6, .d (.int .i64 i)), (7, .d (.int .i64 x)), (8, .d (.int .i64 j)), (109, .d .nilsl), (110, .d (encN (⟨((16 + i : Nat) : Int), []⟩ : GProd)))] 4 (Eq.trans (b := boxG0 :: boxA ((1 + k % 2 : Nat) : Int) (kTok k) (.sr 2 1 (m0 :: (ml ++ [DV.str [83 + i]]))) (.d .nilsl) :: .room (ml.length + 1 + 1) 1 :: [.box [.d (.int .i64 ((16 + i : Nat) : Int)), .d .nilsl]]) rfl rfl) rfl (by repeat' (first | exact trivial | refine ⟨(Or.inl rfl), ?_⟩ | refine ⟨(Or.inr rfl), ?_⟩ | refine ⟨rfl, ?_⟩ | fail)) (by repeat' (first | exact trivial | refine ⟨(Or.inl rfl), ?_⟩ | refine ⟨(Or.inr rfl), ?_⟩ | refine ⟨rfl, ?_⟩ | fail)) rfl rfl) ?_ | refine RunOps.tidy (tidy_of (objs := _) [(0, .d (ints nums)), (2, .bp 0 0), (4, .bp 1 0), (5, .d (.int .i64 (M : Nat))), (6, .d (.int .i64 i)), (7, .d (.int .i64 x)), (8, .d (.int .i64 j)), (109, .d .nilsl), (110, .d (encN (⟨((16 + i : Nat) : Int), []⟩ : GProd)))] 4 (Eq.trans (b := boxG0 :: boxA ((1 + k % 2 : Nat) : Int) (kTok k) (.sr 2 1 (m0 :: (ml ++ [DV.str [83 + i]]))) (.d .nilsl) :: .room (ml.length + 1 + 1) 1 :: [.box [.d (.int .i64 ((16 + i : Nat) : Int)), .d .nilsl]]) rfl rfl) rfl (by repeat' (first | exact trivial | refine ⟨(Or.inl rfl), ?_⟩ | refine ⟨(Or.inr rfl), ?_⟩ | refine ⟨rfl, ?_⟩ | fail)) (by repeat' (first | exact trivial | refine ⟨(Or.inl rfl), ?_⟩ | refine ⟨(Or.inr rfl), ?_⟩ | refine ⟨rfl, ?_⟩ | fail)) rfl rfl) ?_
                  refine oX (frz := fA) Et_ok ?_
                  first | refine oX (frz := fA) Et_ok ?_ (hv := app0) (hf := rfl) (he := rfl) | refine eX ?_ (hv := app0) (hf := rfl) (he := rfl)
                  iterate 2 refine oX (frz := fA) Et_ok ?_
                  repeat (first | refine Run.seq ?_ | refine Run.region ?_ | refine RunOps.nil ?_ | refine Run.skip ?_ | refine cT ?_ | refine cF ?_ | refine Run.block ?_ | refine Run.exit ?_)
                  refine oX (frz := fA) Et_ok ?_
                  refine oX (frz := fA) (v := .d (.int .i64 ((j + 1 : Nat) : Int))) Et_ok ?_ (he := vN (by omega) (by omega))
                  refine oX (frz := fA) Et_ok ?_
                  repeat (first | refine Run.seq ?_ | refine Run.region ?_ | refine RunOps.nil ?_ | refine Run.skip ?_ | refine cT ?_ | refine cF ?_ | refine Run.block ?_ | refine Run.exit ?_)
                  exact ⟨(j + 1, [(⟨((16 + i : Nat) : Int), []⟩ : GProd)]), ⟨by simp only <;> omega, hnext, by simp at hjb ⊢ <;> omega⟩, by simp only <;> omega, (tidy_of (objs := _) _ 5 (Eq.trans (b := boxG0 :: boxA ((1 + k % 2 : Nat) : Int) (kTok k) (.sr 2 1 (m0 :: (ml ++ [DV.str [83 + i]]))) (.sr 4 2 [encN (⟨((16 + i : Nat) : Int), []⟩ : GProd)]) :: .room (ml.length + 1 + 1) 1 :: [.box [.d (.int .i64 ((16 + i : Nat) : Int)), .d .nilsl], .room 1 2]) rfl (by first | rfl | (simp [psA, psO, psI, rowA, rowO, rgtD] <;> fail))) rfl (by repeat' (first | exact trivial | refine ⟨(Or.inl rfl), ?_⟩ | refine ⟨(Or.inr rfl), ?_⟩ | fail)) (by repeat' (first | exact trivial | refine ⟨rfl, ?_⟩ | fail)) rfl rfl)⟩
                · repeat (first | refine Run.seq ?_ | refine Run.region ?_ | refine RunOps.nil ?_ | refine Run.skip ?_ | refine cT ?_ | refine cF ?_ | refine Run.block ?_ | refine Run.exit ?_)
                  iterate 2 refine oX (frz := fA) Et_ok ?_
                  refine oX (frz := fA) (v := .d (.int .i64 ((v % 4 : Nat) : Int))) Et_ok ?_ (he := rfl)
                  refine oX (frz := fA) (v := .d (.bool false)) Et_ok ?_ (he := vF (by omega))
                  repeat (first | refine Run.seq ?_ | refine Run.region ?_ | refine RunOps.nil ?_ | refine Run.skip ?_ | refine cT ?_ | refine cF ?_ | refine Run.block ?_ | refine Run.exit ?_)
                  iterate 3 refine oX (frz := fA) Et_ok ?_
                  first | refine Run.tidy (tidy_of (objs := _) [(0, .d (ints nums)), (2, .bp 0 0), (4, .bp 1 0), (5, .d (.int .i64 (M : Nat))), (6, .d (.int .i64 i)), (7, .d (.int .i64 x)), (8, .d (.int .i64 j)), (109, .d .nilsl), (110, .d (encN (⟨((16 + i : Nat) : Int), r1 :: rr⟩ : GProd)))] 5 (Eq.trans (b := boxG0 :: boxA ((1 + k % 2 : Nat) : Int) (kTok k) (.sr 2 1 (m0 :: (ml ++ [DV.str [83 + i]]))) (.d .nilsl) :: .room (ml.length + 1 + 1) 1 :: .box [.d (.int .i64 ((16 + i : Nat) : Int)), .sr 4 1 (rgtD (r1 :: rr))] :: [.room ((rgtD rr).length + 1) 1]) rfl rfl) rfl (by repeat' (first | exact trivial | refine ⟨(Or.inl rfl), ?_⟩ | refine ⟨(Or.inr rfl), ?_⟩ | refine ⟨rfl, ?_⟩ | fail)) (by repeat' (first | exact trivial | refine ⟨(Or.inl rfl), ?_⟩ | refine ⟨(Or.inr rfl), ?_⟩ | refine ⟨rfl, ?_⟩ | fail)) rfl rfl) ?_ | refine RunOps.tidy (tidy_of (objs := _) [(0, .d (ints nums)), (2, .bp 0 0), (4, .bp 1 0), (5, .d (.int .i64 (M : Nat))), (6, .d (.int .i64 i)), (7, .d (.int .i64 x)), (8, .d (.int .i64 j)), (109, .d .nilsl), (110, .d (encN (⟨((16 + i : Nat) : Int), r1 :: rr⟩ : GProd)))] 5 (Eq.trans (b := boxG0 :: boxA ((1 + k % 2 : Nat) : Int) (kTok k) (.sr 2 1 (m0 :: (ml ++ [DV.str [83 + i]]))) (.d .nilsl) :: .room (ml.length + 1 + 1) 1 :: .box [.d (.int .i64 ((16 + i : Nat) : Int)), .sr 4 1 (rgtD (r1 :: rr))] :: [.room ((rgtD rr).length + 1) 1]) rfl rfl) rfl (by repeat' (first | exact trivial | refine ⟨(Or.inl rfl), ?_⟩ | refine ⟨(Or.inr rfl), ?_⟩ | refine ⟨rfl, ?_⟩ | fail)) (by repeat' (first | exact trivial | refine ⟨(Or.inl rfl), ?_⟩ | refine ⟨(Or.inr rfl), ?_⟩ | refine ⟨rfl, ?_⟩ | fail)) rfl rfl) ?_
                  refine oX (frz := fA) Et_ok ?_
                  first | refine oX (frz := fA) Et_ok ?_ (hv := app0) (hf := rfl) (he := rfl) | refine eX ?_ (hv := app0) (hf := rfl) (he := rfl)
                  iterate 2 refine oX (frz := fA) Et_ok ?_
                  repeat (first | refine Run.seq ?_ | refine Run.region ?_ | refine RunOps.nil ?_ | refine Run.skip ?_ | refine cT ?_ | refine cF ?_ | refine Run.block ?_ | refine Run.exit ?_)
                  refine oX (frz := fA) Et_ok ?_
                  refine oX (frz := fA) (v := .d (.int .i64 ((j + 1 : Nat) : Int))) Et_ok ?_ (he := vN (by omega) (by omega))
                  refine oX (frz := fA) Et_ok ?_
                  repeat (first | refine Run.seq ?_ | refine Run.region ?_ | refine RunOps.nil ?_ | refine Run.skip ?_ | refine cT ?_ | refine cF ?_ | refine Run.block ?_ | refine Run.exit ?_)
                  exact ⟨(j + 1, [(⟨((16 + i : Nat) : Int), r1 :: rr⟩ : GProd)]), ⟨by simp only <;> omega, hnext, by simp at hjb ⊢ <;> omega⟩, by simp only <;> omega, (tidy_of (objs := _) _ 6 (Eq.trans (b := boxG0 :: boxA ((1 + k % 2 : Nat) : Int) (kTok k) (.sr 2 1 (m0 :: (ml ++ [DV.str [83 + i]]))) (.sr 5 2 [encN (⟨((16 + i : Nat) : Int), r1 :: rr⟩ : GProd)]) :: .room (ml.length + 1 + 1) 1 :: .box [.d (.int .i64 ((16 + i : Nat) : Int)), .sr 4 1 (rgtD (r1 :: rr))] :: [.room ((rgtD rr).length + 1) 1, .room 1 2]) rfl (by first | rfl | (simp [psA, psO, psI, rowA, rowO, rgtD] <;> fail))) rfl (by repeat' (first | exact trivial | refine ⟨(Or.inl rfl), ?_⟩ | refine ⟨(Or.inr rfl), ?_⟩ | fail)) (by repeat' (first | exact trivial | refine ⟨rfl, ?_⟩ | fail)) rfl rfl)⟩
            · rcases pr with _ | ⟨r0, rl⟩
              · have hjc : ps.length + 1 < 7 := by simpa using hjb
                repeat (first | refine Run.seq ?_ | refine Run.region ?_ | refine RunOps.nil ?_ | refine Run.skip ?_ | refine cT ?_ | refine cF ?_ | refine Run.block ?_ | refine Run.exit ?_)
                iterate 2 refine oX (frz := fA) Et_ok ?_
                refine oX (frz := fA) (v := .d (.int .i64 ((x % 3 : Nat) : Int))) Et_ok ?_ (he := rfl)
                refine oX (frz := fA) (v := .d (.bool true)) Et_ok ?_ (he := vT (by omega))
                iterate 4 refine oX (frz := fA) Et_ok ?_
                refine oX (frz := fA) (v := .d (.bool true)) Et_ok ?_ (he := vT (by simp at hjb ⊢ <;> omega))
                refine oX (frz := fA) Et_ok ?_
                repeat (first | refine Run.seq ?_ | refine Run.region ?_ | refine RunOps.nil ?_ | refine Run.skip ?_ | refine cT ?_ | refine cF ?_ | refine Run.block ?_ | refine Run.exit ?_)
                refine oX (frz := fA) Et_ok ?_
                refine oX (frz := fA) (v := .d (.int .i64 ((16 + i : Nat) : Int))) Et_ok ?_ (he := vN (by omega) (by omega))
                iterate 3 refine oX (frz := fA) Et_ok ?_
                repeat (first | refine Run.seq ?_ | refine Run.region ?_ | refine RunOps.nil ?_ | refine Run.skip ?_ | refine cT ?_ | refine cF ?_ | refine Run.block ?_ | refine Run.exit ?_)
                iterate 2 refine oX (frz := fA) Et_ok ?_
                refine oX (frz := fA) (v := .d (.int .i64 ((3 * i : Nat) : Int))) Et_ok ?_ (he := vN (by omega) (by omega))
                refine oX (frz := fA) (v := .d (.int .i64 ((4 + 3 * i : Nat) : Int))) Et_ok ?_ (he := vN (by omega) (by omega))
                refine oX (frz := fA) Et_ok ?_
                refine oX (frz := fA) (v := .d (.int .i64 ((4 + 3 * i + j : Nat) : Int))) Et_ok ?_ (he := vN (by omega) (by omega))
                refine oC hat ?_
                refine oC hy ?_
                refine oX (frz := fA) Et_ok ?_
                repeat (first | refine Run.seq ?_ | refine Run.region ?_ | refine RunOps.nil ?_ | refine Run.skip ?_ | refine cT ?_ | refine cF ?_ | refine Run.block ?_ | refine Run.exit ?_)
                refine oX (frz := fA) Et_ok ?_
                repeat (first | refine Run.seq ?_ | refine Run.region ?_ | refine RunOps.nil ?_ | refine Run.skip ?_ | refine cT ?_ | refine cF ?_ | refine Run.block ?_ | refine Run.exit ?_)
                refine Run.loopT (fun z : Nat × List Int => ⟨PT.ofList [(0, .d (ints nums)), (2, .bp 0 0), (4, .bp 1 0), (5, .d (.int .i64 (M : Nat))), (6, .d (.int .i64 i)), (7, .d (.int .i64 x)), (8, .d (.int .i64 j)), (9, .bp 5 0), (10, .d (.int .i64 v)), (11, .d (.int .i64 z.1))], boxG0 :: boxA ((1 + k % 2 : Nat) : Int) (kTok k) (.sr 2 1 (m0 :: (ml ++ [DV.str [83 + i]]))) (.sr 4 2 (encN ⟨pl, []⟩ :: ps.map encN)) :: .room (ml.length + 1 + 1) 1 :: .box [.d (.int .i64 pl), .d .nilsl] :: .room (ps.length + 1) 2 :: .box [.d (.int .i64 ((16 + i : Nat) : Int)), rowA 6 1 (rgtD z.2)] :: rowO 1 (rgtD z.2), []⟩)
                  (fun z => z.1 ≤ v % 4 ∧ z.2 = rgtTo T M v z.1) (fun z => v % 4 - z.1) (0, []) ⟨Nat.zero_le _, rfl⟩ (tidy_of (objs := _) _ 6 (by rfl) rfl (by repeat' (first | exact trivial | refine ⟨(Or.inl rfl), ?_⟩ | refine ⟨(Or.inr rfl), ?_⟩ | fail)) (by repeat' (first | exact trivial | refine ⟨rfl, ?_⟩ | fail)) rfl rfl) (fun z hz => ?_)
                obtain ⟨s, r⟩ := z
                obtain ⟨hs1, hs2⟩ := hz
                simp only at hs1 hs2 ⊢
                have hrl : r.length = s := by rw [hs2]; simp [rgtTo]
                rcases Nat.lt_or_ge s (v % 4) with hsl | hsg
                · have hnx : r ++ [((symN T M (zF v s) : Nat) : Int)] = rgtTo T M v (s + 1) := by rw [hs2]; simp [rgtTo, List.range_succ]
                  rcases r with _ | ⟨r1, rr⟩
                  · have hrl' := hrl
                    simp only [List.length_cons, List.length_nil] at hrl'
                    repeat (first | refine Run.seq ?_ | refine Run.region ?_ | refine RunOps.nil ?_ | refine Run.skip ?_ | refine cT ?_ | refine cF ?_ | refine Run.block ?_ | refine Run.exit ?_)
                    iterate 2 refine oX (frz := fA) Et_ok ?_
                    refine oX (frz := fA) (v := .d (.int .i64 ((v % 4 : Nat) : Int))) Et_ok ?_ (he := rfl)
                    refine oX (frz := fA) (v := .d (.bool true)) Et_ok ?_ (he := vT (by omega))
                    repeat (first | refine Run.seq ?_ | refine Run.region ?_ | refine RunOps.nil ?_ | refine Run.skip ?_ | refine cT ?_ | refine cF ?_ | refine Run.block ?_ | refine Run.exit ?_)
                    refine oX (frz := fA) Et_ok ?_
                    refine oX (frz := fA) (v := .d (.int .i64 ((v / 4 : Nat) : Int))) Et_ok ?_ (he := vN rfl (by omega))
                    refine oX (frz := fA) Et_ok ?_
                    refine oX (frz := fA) (v := .d (.int .i64 ((4 * s : Nat) : Int))) Et_ok ?_ (he := vN (by omega) (by omega))
                    refine oX (frz := fA) (v := .d (.int .u64 ((4 * s : Nat) : Int))) Et_ok ?_ (he := vU64 (by omega))
                    refine oX (frz := fA) (v := .d (.int .i64 ((v / 4 / 2 ^ (4 * s) : Nat) : Int))) Et_ok ?_ (hf := shrF (4 * s)) (he := congrArg (fun n => AV.d (.int .i64 n)) (shrN (by omega)))
                    refine oX (frz := fA) (v := .d (.int .i64 ((zF v s : Nat) : Int))) Et_ok ?_ (he := rfl)
                    refine oX (frz := fA) Et_ok ?_
                    repeat (first | refine Run.seq ?_ | refine Run.region ?_ | refine RunOps.nil ?_ | refine Run.skip ?_ | refine cT ?_ | refine cF ?_ | refine Run.block ?_ | refine Run.exit ?_)
                    refine oX (frz := fA) Et_ok ?_
                    refine oX (frz := fA) (v := .d (.int .i64 ((zF v s % 5 : Nat) : Int))) Et_ok ?_ (he := rfl)
                    by_cases h5 : zF v s % 5 < 3
                    · refine oX (frz := fA) (v := .d (.bool true)) Et_ok ?_ (he := vT (by omega))
                      have hsy : symN T M (zF v s) = zF v s % T := if_pos h5
                      rw [hsy] at hnx
                      repeat (first | refine Run.region ?_ | refine Run.seq ?_ | refine RunOps.nil ?_ | refine Run.skip ?_ | refine cT ?_ | refine cF ?_ | refine Run.block ?_ | refine Run.exit ?_ | refine eN ?_ | refine Run.draw (frz := fA) Et_ok (by kernel_rfl) ?_)
                      iterate 5 (first | refine oX (frz := fA) Et_ok ?_ | refine eX ?_)
                      first | refine oX (frz := fA) (v := .d (.int .i64 (T : Nat))) Et_ok ?_ (he := (by rw [hT, List.length_map])) | refine eX (v := .d (.int .i64 (T : Nat))) ?_ (he := (by rw [hT, List.length_map]))
                      refine eX (v := .d (.int .i64 ((zF v s % T : Nat) : Int))) ?_ (hf := by simp <;> omega) (he := rfl)
                      iterate 1 (first | refine oX (frz := fA) Et_ok ?_ | refine eX ?_)
                      first | refine oX (frz := fA) Et_ok ?_ (hv := app0) (hf := rfl) (he := rfl) | refine eX ?_ (hv := app0) (hf := rfl) (he := rfl)
                      iterate 2 (first | refine oX (frz := fA) Et_ok ?_ | refine eX ?_)
                      repeat (first | refine Run.region ?_ | refine Run.seq ?_ | refine RunOps.nil ?_ | refine Run.skip ?_ | refine cT ?_ | refine cF ?_ | refine Run.block ?_ | refine Run.exit ?_ | refine eN ?_ | refine Run.draw (frz := fA) Et_ok (by kernel_rfl) ?_)
                      refine oX (frz := fA) Et_ok ?_
                      refine oX (frz := fA) (v := .d (.int .i64 ((s + 1 : Nat) : Int))) Et_ok ?_ (he := vN (by omega) (by omega))
                      refine oX (frz := fA) Et_ok ?_
                      repeat (first | refine Run.seq ?_ | refine Run.region ?_ | refine RunOps.nil ?_ | refine Run.skip ?_ | refine cT ?_ | refine cF ?_ | refine Run.block ?_ | refine Run.exit ?_)
                      exact ⟨(s + 1, _), ⟨hsl, hnx⟩, by simp only <;> omega, (tidy_of (objs := _) _ 7 (by rfl) rfl (by repeat' (first | exact trivial | refine ⟨(Or.inl rfl), ?_⟩ | refine ⟨(Or.inr rfl), ?_⟩ | fail)) (by repeat' (first | exact trivial | refine ⟨rfl, ?_⟩ | fail)) rfl rfl)⟩
                    · refine oX (frz := fA) (v := .d (.bool false)) Et_ok ?_ (he := vF (by omega))
                      have hsy : symN T M (zF v s) = 16 + zF v s % M := if_neg h5
                      rw [hsy] at hnx
                      repeat (first | refine Run.region ?_ | refine Run.seq ?_ | refine RunOps.nil ?_ | refine Run.skip ?_ | refine cT ?_ | refine cF ?_ | refine Run.block ?_ | refine Run.exit ?_ | refine eN ?_ | refine Run.draw (frz := fA) Et_ok (by kernel_rfl) ?_)
                      iterate 4 (first | refine oX (frz := fA) Et_ok ?_ | refine eX ?_)
                      refine eX (v := .d (.int .i64 ((zF v s % M : Nat) : Int))) ?_ (hf := by simp <;> omega) (he := rfl)
                      first | refine oX (frz := fA) (v := .d (.int .i64 ((16 + zF v s % M : Nat) : Int))) Et_ok ?_ (he := (vN (by omega) (by have := Nat.mod_lt (zF v s) (show 0 < M by omega) <;> omega))) | refine eX (v := .d (.int .i64 ((16 + zF v s % M : Nat) : Int))) ?_ (he := (vN (by omega) (by have := Nat.mod_lt (zF v s) (show 0 < M by omega) <;> omega)))
                      iterate 1 (first | refine oX (frz := fA) Et_ok ?_ | refine eX ?_)
                      first | refine oX (frz := fA) Et_ok ?_ (hv := app0) (hf := rfl) (he := rfl) | refine eX ?_ (hv := app0) (hf := rfl) (he := rfl)
                      iterate 2 (first | refine oX (frz := fA) Et_ok ?_ | refine eX ?_)
                      repeat (first | refine Run.region ?_ | refine Run.seq ?_ | refine RunOps.nil ?_ | refine Run.skip ?_ | refine cT ?_ | refine cF ?_ | refine Run.block ?_ | refine Run.exit ?_ | refine eN ?_ | refine Run.draw (frz := fA) Et_ok (by kernel_rfl) ?_)
                      refine oX (frz := fA) Et_ok ?_
                      refine oX (frz := fA) (v := .d (.int .i64 ((s + 1 : Nat) : Int))) Et_ok ?_ (he := vN (by omega) (by omega))
                      refine oX (frz := fA) Et_ok ?_
                      repeat (first | refine Run.seq ?_ | refine Run.region ?_ | refine RunOps.nil ?_ | refine Run.skip ?_ | refine cT ?_ | refine cF ?_ | refine Run.block ?_ | refine Run.exit ?_)
                      exact ⟨(s + 1, _), ⟨hsl, hnx⟩, by simp only <;> omega, (tidy_of (objs := _) _ 7 (by rfl) rfl (by repeat' (first | exact trivial | refine ⟨(Or.inl rfl), ?_⟩ | refine ⟨(Or.inr rfl), ?_⟩ | fail)) (by repeat' (first | exact trivial | refine ⟨rfl, ?_⟩ | fail)) rfl rfl)⟩
                  · have hrl' := hrl
                    simp only [List.length_cons, List.length_nil] at hrl'
                    repeat (first | refine Run.seq ?_ | refine Run.region ?_ | refine RunOps.nil ?_ | refine Run.skip ?_ | refine cT ?_ | refine cF ?_ | refine Run.block ?_ | refine Run.exit ?_)
                    iterate 2 refine oX (frz := fA) Et_ok ?_
                    refine oX (frz := fA) (v := .d (.int .i64 ((v % 4 : Nat) : Int))) Et_ok ?_ (he := rfl)
                    refine oX (frz := fA) (v := .d (.bool true)) Et_ok ?_ (he := vT (by omega))
                    repeat (first | refine Run.seq ?_ | refine Run.region ?_ | refine RunOps.nil ?_ | refine Run.skip ?_ | refine cT ?_ | refine cF ?_ | refine Run.block ?_ | refine Run.exit ?_)
                    refine oX (frz := fA) Et_ok ?_
                    refine oX (frz := fA) (v := .d (.int .i64 ((v / 4 : Nat) : Int))) Et_ok ?_ (he := vN rfl (by omega))
                    refine oX (frz := fA) Et_ok ?_
                    refine oX (frz := fA) (v := .d (.int .i64 ((4 * s : Nat) : Int))) Et_ok ?_ (he := vN (by omega) (by omega))
                    refine oX (frz := fA) (v := .d (.int .u64 ((4 * s : Nat) : Int))) Et_ok ?_ (he := vU64 (by omega))
                    refine oX (frz := fA) (v := .d (.int .i64 ((v / 4 / 2 ^ (4 * s) : Nat) : Int))) Et_ok ?_ (hf := shrF (4 * s)) (he := congrArg (fun n => AV.d (.int .i64 n)) (shrN (by omega)))
                    refine oX (frz := fA) (v := .d (.int .i64 ((zF v s : Nat) : Int))) Et_ok ?_ (he := rfl)
                    refine oX (frz := fA) Et_ok ?_
                    repeat (first | refine Run.seq ?_ | refine Run.region ?_ | refine RunOps.nil ?_ | refine Run.skip ?_ | refine cT ?_ | refine cF ?_ | refine Run.block ?_ | refine Run.exit ?_)
                    refine oX (frz := fA) Et_ok ?_
                    refine oX (frz := fA) (v := .d (.int .i64 ((zF v s % 5 : Nat) : Int))) Et_ok ?_ (he := rfl)
                    by_cases h5 : zF v s % 5 < 3
                    · refine oX (frz := fA) (v := .d (.bool true)) Et_ok ?_ (he := vT (by omega))
                      have hsy : symN T M (zF v s) = zF v s % T := if_pos h5
                      rw [hsy] at hnx
                      repeat (first | refine Run.region ?_ | refine Run.seq ?_ | refine RunOps.nil ?_ | refine Run.skip ?_ | refine cT ?_ | refine cF ?_ | refine Run.block ?_ | refine Run.exit ?_ | refine eN ?_ | refine Run.draw (frz := fA) Et_ok (by kernel_rfl) ?_)
                      iterate 5 (first | refine oX (frz := fA) Et_ok ?_ | refine eX ?_)
                      first | refine oX (frz := fA) (v := .d (.int .i64 (T : Nat))) Et_ok ?_ (he := (by rw [hT, List.length_map])) | refine eX (v := .d (.int .i64 (T : Nat))) ?_ (he := (by rw [hT, List.length_map]))
                      refine eX (v := .d (.int .i64 ((zF v s % T : Nat) : Int))) ?_ (hf := by simp <;> omega) (he := rfl)
                      iterate 1 (first | refine oX (frz := fA) Et_ok ?_ | refine eX ?_)
                      first | refine oX (frz := fA) Et_ok ?_ (hv := app1) (hf := rfl) (he := rfl) | refine eX ?_ (hv := app1) (hf := rfl) (he := rfl)
                      iterate 2 (first | refine oX (frz := fA) Et_ok ?_ | refine eX ?_)
                      repeat (first | refine Run.region ?_ | refine Run.seq ?_ | refine RunOps.nil ?_ | refine Run.skip ?_ | refine cT ?_ | refine cF ?_ | refine Run.block ?_ | refine Run.exit ?_ | refine eN ?_ | refine Run.draw (frz := fA) Et_ok (by kernel_rfl) ?_)
                      refine oX (frz := fA) Et_ok ?_
                      refine oX (frz := fA) (v := .d (.int .i64 ((s + 1 : Nat) : Int))) Et_ok ?_ (he := vN (by omega) (by omega))
                      refine oX (frz := fA) Et_ok ?_
                      repeat (first | refine Run.seq ?_ | refine Run.region ?_ | refine RunOps.nil ?_ | refine Run.skip ?_ | refine cT ?_ | refine cF ?_ | refine Run.block ?_ | refine Run.exit ?_)
                      exact ⟨(s + 1, _), ⟨hsl, hnx⟩, by simp only <;> omega, (tidy_of (objs := _) _ 7 (by first | rfl | (simp only [rowO, rgtD, List.map_append, List.map_cons, List.map_nil, List.cons_append, List.length_append, List.length_cons, List.length_nil] <;> rfl)) rfl (by repeat' (first | exact trivial | refine ⟨(Or.inl rfl), ?_⟩ | refine ⟨(Or.inr rfl), ?_⟩ | fail)) (by repeat' (first | exact trivial | refine ⟨rfl, ?_⟩ | fail)) rfl rfl)⟩
                    · refine oX (frz := fA) (v := .d (.bool false)) Et_ok ?_ (he := vF (by omega))
                      have hsy : symN T M (zF v s) = 16 + zF v s % M := if_neg h5
                      rw [hsy] at hnx
                      repeat (first | refine Run.region ?_ | refine Run.seq ?_ | refine RunOps.nil ?_ | refine Run.skip ?_ | refine cT ?_ | refine cF ?_ | refine Run.block ?_ | refine Run.exit ?_ | refine eN ?_ | refine Run.draw (frz := fA) Et_ok (by kernel_rfl) ?_)
                      iterate 4 (first | refine oX (frz := fA) Et_ok ?_ | refine eX ?_)
                      refine eX (v := .d (.int .i64 ((zF v s % M : Nat) : Int))) ?_ (hf := by simp <;> omega) (he := rfl)
                      first | refine oX (frz := fA) (v := .d (.int .i64 ((16 + zF v s % M : Nat) : Int))) Et_ok ?_ (he := (vN (by omega) (by have := Nat.mod_lt (zF v s) (show 0 < M by omega) <;> omega))) | refine eX (v := .d (.int .i64 ((16 + zF v s % M : Nat) : Int))) ?_ (he := (vN (by omega) (by have := Nat.mod_lt (zF v s) (show 0 < M by omega) <;> omega)))
                      iterate 1 (first | refine oX (frz := fA) Et_ok ?_ | refine eX ?_)
                      first | refine oX (frz := fA) Et_ok ?_ (hv := app1) (hf := rfl) (he := rfl) | refine eX ?_ (hv := app1) (hf := rfl) (he := rfl)
                      iterate 2 (first | refine oX (frz := fA) Et_ok ?_ | refine eX ?_)
                      repeat (first | refine Run.region ?_ | refine Run.seq ?_ | refine RunOps.nil ?_ | refine Run.skip ?_ | refine cT ?_ | refine cF ?_ | refine Run.block ?_ | refine Run.exit ?_ | refine eN ?_ | refine Run.draw (frz := fA) Et_ok (by kernel_rfl) ?_)
                      refine oX (frz := fA) Et_ok ?_
                      refine oX (frz := fA) (v := .d (.int .i64 ((s + 1 : Nat) : Int))) Et_ok ?_ (he := vN (by omega) (by omega))
                      refine oX (frz := fA) Et_ok ?_
                      repeat (first | refine Run.seq ?_ | refine Run.region ?_ | refine RunOps.nil ?_ | refine Run.skip ?_ | refine cT ?_ | refine cF ?_ | refine Run.block ?_ | refine Run.exit ?_)
                      exact ⟨(s + 1, _), ⟨hsl, hnx⟩, by simp only <;> omega, (tidy_of (objs := _) _ 7 (by first | rfl | (simp only [rowO, rgtD, List.map_append, List.map_cons, List.map_nil, List.cons_append, List.length_append, List.length_cons, List.length_nil] <;> rfl)) rfl (by repeat' (first | exact trivial | refine ⟨(Or.inl rfl), ?_⟩ | refine ⟨(Or.inr rfl), ?_⟩ | fail)) (by repeat' (first | exact trivial | refine ⟨rfl, ?_⟩ | fail)) rfl rfl)⟩
                · have hse : s = v % 4 := by omega
                  rw [hse] at hs2
                  rw [← hs2] at hnext
                  rcases r with _ | ⟨r1, rr⟩
                  · repeat (first | refine Run.seq ?_ | refine Run.region ?_ | refine RunOps.nil ?_ | refine Run.skip ?_ | refine cT ?_ | refine cF ?_ | refine Run.block ?_ | refine Run.exit ?_)
                    iterate 2 refine oX (frz := fA) Et_ok ?_
                    refine oX (frz := fA) (v := .d (.int .i64 ((v % 4 : Nat) : Int))) Et_ok ?_ (he := rfl)
                    refine oX (frz := fA) (v := .d (.bool false)) Et_ok ?_ (he := vF (by omega))
                    repeat (first | refine Run.seq ?_ | refine Run.region ?_ | refine RunOps.nil ?_ | refine Run.skip ?_ | refine cT ?_ | refine cF ?_ | refine Run.block ?_ | refine Run.exit ?_)
                    iterate 3 refine oX (frz := fA) Et_ok ?_
                    first | refine Run.tidy (tidy_of (objs := _) [(0, .d (ints nums)), (2, .bp 0 0), (4, .bp 1 0), (5, .d (.int .i64 (M : Nat))), (6, .d (.int .i64 i)), (7, .d (.int .i64 x)), (8, .d (.int .i64 j)), (109, .sr 4 2 (encN ⟨pl, []⟩ :: ps.map encN)), (110, .d (encN (⟨((16 + i : Nat) : Int), []⟩ : GProd)))] 6 (Eq.trans (b := boxG0 :: boxA ((1 + k % 2 : Nat) : Int) (kTok k) (.sr 2 1 (m0 :: (ml ++ [DV.str [83 + i]]))) (.sr 4 2 (encN ⟨pl, []⟩ :: ps.map encN)) :: .room (ml.length + 1 + 1) 1 :: .box [.d (.int .i64 pl), .d .nilsl] :: .room (ps.length + 1) 2 :: [.box [.d (.int .i64 ((16 + i : Nat) : Int)), .d .nilsl]]) rfl rfl) rfl (by repeat' (first | exact trivial | refine ⟨(Or.inl rfl), ?_⟩ | refine ⟨(Or.inr rfl), ?_⟩ | refine ⟨rfl, ?_⟩ | fail)) (by repeat' (first | exact trivial | refine ⟨(Or.inl rfl), ?_⟩ | refine ⟨(Or.inr rfl), ?_⟩ | refine ⟨rfl, ?_⟩ | fail)) rfl rfl) ?_ | refine RunOps.tidy (tidy_of (objs := _) [(0, .d (ints nums)), (2, .bp 0 0), (4, .bp 1 0), (5, .d (.int .i64 (M : Nat))), (6, .d (.int .i64 i)), (7, .d (.int .i64 x)), (8, .d (.int .i64 j)), (109, .sr 4 2 (encN ⟨pl, []⟩ :: ps.map encN)), (110, .d (encN (⟨((16 + i : Nat) : Int), []⟩ : GProd)))] 6 (Eq.trans (b := boxG0 :: boxA ((1 + k % 2 : Nat) : Int) (kTok k) (.sr 2 1 (m0 :: (ml ++ [DV.str [83 + i]]))) (.sr 4 2 (encN ⟨pl, []⟩ :: ps.map encN)) :: .room (ml.length + 1 + 1) 1 :: .box [.d (.int .i64 pl), .d .nilsl] :: .room (ps.length + 1) 2 :: [.box [.d (.int .i64 ((16 + i : Nat) : Int)), .d .nilsl]]) rfl rfl) rfl (by repeat' (first | exact trivial | refine ⟨(Or.inl rfl), ?_⟩ | refine ⟨(Or.inr rfl), ?_⟩ | refine ⟨rfl, ?_⟩ | fail)) (by repeat' (first | exact trivial | refine ⟨(Or.inl rfl), ?_⟩ | refine ⟨(Or.inr rfl), ?_⟩ | refine ⟨rfl, ?_⟩ | fail)) rfl rfl) ?_
                    refine oX (frz := fA) Et_ok ?_
                    first | refine oX (frz := fA) Et_ok ?_ (hv := app1) (hf := rfl) (he := rfl) | refine eX ?_ (hv := app1) (hf := rfl) (he := rfl)
                    iterate 2 refine oX (frz := fA) Et_ok ?_
                    repeat (first | refine Run.seq ?_ | refine Run.region ?_ | refine RunOps.nil ?_ | refine Run.skip ?_ | refine cT ?_ | refine cF ?_ | refine Run.block ?_ | refine Run.exit ?_)
                    refine oX (frz := fA) Et_ok ?_
                    refine oX (frz := fA) (v := .d (.int .i64 ((j + 1 : Nat) : Int))) Et_ok ?_ (he := vN (by omega) (by omega))
                    refine oX (frz := fA) Et_ok ?_
                    repeat (first | refine Run.seq ?_ | refine Run.region ?_ | refine RunOps.nil ?_ | refine Run.skip ?_ | refine cT ?_ | refine cF ?_ | refine Run.block ?_ | refine Run.exit ?_)
                    exact ⟨(j + 1, ⟨pl, []⟩ :: (ps ++ [(⟨((16 + i : Nat) : Int), []⟩ : GProd)])), ⟨by simp only <;> omega, hnext, by simp at hjb ⊢ <;> omega⟩, by simp only <;> omega, (tidy_of (objs := _) _ 5 (Eq.trans (b := boxG0 :: boxA ((1 + k % 2 : Nat) : Int) (kTok k) (.sr 2 1 (m0 :: (ml ++ [DV.str [83 + i]]))) (.sr 4 2 (encN ⟨pl, []⟩ :: (ps.map encN ++ [encN (⟨((16 + i : Nat) : Int), []⟩ : GProd)]))) :: .room (ml.length + 1 + 1) 1 :: .box [.d (.int .i64 pl), .d .nilsl] :: [.room (ps.length + 1 + 1) 2]) rfl (by first | rfl | (simp [psA, psO, psI, rowA, rowO, rgtD] <;> fail))) rfl (by repeat' (first | exact trivial | refine ⟨(Or.inl rfl), ?_⟩ | refine ⟨(Or.inr rfl), ?_⟩ | fail)) (by repeat' (first | exact trivial | refine ⟨rfl, ?_⟩ | fail)) rfl rfl)⟩
                  · repeat (first | refine Run.seq ?_ | refine Run.region ?_ | refine RunOps.nil ?_ | refine Run.skip ?_ | refine cT ?_ | refine cF ?_ | refine Run.block ?_ | refine Run.exit ?_)
                    iterate 2 refine oX (frz := fA) Et_ok ?_
                    refine oX (frz := fA) (v := .d (.int .i64 ((v % 4 : Nat) : Int))) Et_ok ?_ (he := rfl)
                    refine oX (frz := fA) (v := .d (.bool false)) Et_ok ?_ (he := vF (by omega))
                    repeat (first | refine Run.seq ?_ | refine Run.region ?_ | refine RunOps.nil ?_ | refine Run.skip ?_ | refine cT ?_ | refine cF ?_ | refine Run.block ?_ | refine Run.exit ?_)
                    iterate 3 refine oX (frz := fA) Et_ok ?_
                    first | refine Run.tidy (tidy_of (objs := _) [(0, .d (ints nums)), (2, .bp 0 0), (4, .bp 1 0), (5, .d (.int .i64 (M : Nat))), (6, .d (.int .i64 i)), (7, .d (.int .i64 x)), (8, .d (.int .i64 j)), (109, .sr 4 2 (encN ⟨pl, []⟩ :: ps.map encN)), (110, .d (encN (⟨((16 + i : Nat) : Int), r1 :: rr⟩ : GProd)))] 7 (Eq.trans (b := boxG0 :: boxA ((1 + k % 2 : Nat) : Int) (kTok k) (.sr 2 1 (m0 :: (ml ++ [DV.str [83 + i]]))) (.sr 4 2 (encN ⟨pl, []⟩ :: ps.map encN)) :: .room (ml.length + 1 + 1) 1 :: .box [.d (.int .i64 pl), .d .nilsl] :: .room (ps.length + 1) 2 :: .box [.d (.int .i64 ((16 + i : Nat) : Int)), .sr 6 1 (rgtD (r1 :: rr))] :: [.room ((rgtD rr).length + 1) 1]) rfl rfl) rfl (by repeat' (first | exact trivial | refine ⟨(Or.inl rfl), ?_⟩ | refine ⟨(Or.inr rfl), ?_⟩ | refine ⟨rfl, ?_⟩ | fail)) (by repeat' (first | exact trivial | refine ⟨(Or.inl rfl), ?_⟩ | refine ⟨(Or.inr rfl), ?_⟩ | refine ⟨rfl, ?_⟩ | fail)) rfl rfl) ?_ | refine RunOps.tidy (tidy_of (objs := _) [(0, .d (ints nums)), (2, .bp 0 0), (4, .bp 1 0), (5, .d (.int .i64 (M : Nat))), (6, .d (.int .i64 i)), (7, .d (.int .i64 x)), (8, .d (.int .i64 j)), (109, .sr 4 2 (encN ⟨pl, []⟩ :: ps.map encN)), (110, .d (encN (⟨((16 + i : Nat) : Int), r1 :: rr⟩ : GProd)))] 7 (Eq.trans (b := boxG0 :: boxA ((1 + k % 2 : Nat) : Int) (kTok k) (.sr 2 1 (m0 :: (ml ++ [DV.str [83 + i]]))) (.sr 4 2 (encN ⟨pl, []⟩ :: ps.map encN)) :: .room (ml.length + 1 + 1) 1 :: .box [.d (.int .i64 pl), .d .nilsl] :: .room (ps.length + 1) 2 :: .box [.d (.int .i64 ((16 + i : Nat) : Int)), .sr 6 1 (rgtD (r1 :: rr))] :: [.room ((rgtD rr).length + 1) 1]) rfl rfl) rfl (by repeat' (first | exact trivial | refine ⟨(Or.inl rfl), ?_⟩ | refine ⟨(Or.inr rfl), ?_⟩ | refine ⟨rfl, ?_⟩ | fail)) (by repeat' (first | exact trivial | refine ⟨(Or.inl rfl), ?_⟩ | refine ⟨(Or.inr rfl), ?_⟩ | refine ⟨rfl, ?_⟩ | fail)) rfl rfl) ?_
                    refine oX (frz := fA) Et_ok ?_
                    first | refine oX (frz := fA) Et_ok ?_ (hv := app1) (hf := rfl) (he := rfl) | refine eX ?_ (hv := app1) (hf := rfl) (he := rfl)
                    iterate 2 refine oX (frz := fA) Et_ok ?_
                    repeat (first | refine Run.seq ?_ | refine Run.region ?_ | refine RunOps.nil ?_ | refine Run.skip ?_ | refine cT ?_ | refine cF ?_ | refine Run.block ?_ | refine Run.exit ?_)
                    refine oX (frz := fA) Et_ok ?_
                    refine oX (frz := fA) (v := .d (.int .i64 ((j + 1 : Nat) : Int))) Et_ok ?_ (he := vN (by omega) (by omega))
                    refine oX (frz := fA) Et_ok ?_
                    repeat (first | refine Run.seq ?_ | refine Run.region ?_ | refine RunOps.nil ?_ | refine Run.skip ?_ | refine cT ?_ | refine cF ?_ | refine Run.block ?_ | refine Run.exit ?_)
                    exact ⟨(j + 1, ⟨pl, []⟩ :: (ps ++ [(⟨((16 + i : Nat) : Int), r1 :: rr⟩ : GProd)])), ⟨by simp only <;> omega, hnext, by simp at hjb ⊢ <;> omega⟩, by simp only <;> omega, (tidy_of (objs := _) _ 5 (Eq.trans (b := boxG0 :: boxA ((1 + k % 2 : Nat) : Int) (kTok k) (.sr 2 1 (m0 :: (ml ++ [DV.str [83 + i]]))) (.sr 4 2 (encN ⟨pl, []⟩ :: (ps.map encN ++ [encN (⟨((16 + i : Nat) : Int), r1 :: rr⟩ : GProd)]))) :: .room (ml.length + 1 + 1) 1 :: .box [.d (.int .i64 pl), .d .nilsl] :: [.room (ps.length + 1 + 1) 2]) rfl (by first | rfl | (simp [psA, psO, psI, rowA, rowO, rgtD] <;> fail))) rfl (by repeat' (first | exact trivial | refine ⟨(Or.inl rfl), ?_⟩ | refine ⟨(Or.inr rfl), ?_⟩ | fail)) (by repeat' (first | exact trivial | refine ⟨rfl, ?_⟩ | fail)) rfl rfl)⟩
              · have hjc : ps.length + 1 < 7 := by simpa using hjb
                repeat (first | refine Run.seq ?_ | refine Run.region ?_ | refine RunOps.nil ?_ | refine Run.skip ?_ | refine cT ?_ | refine cF ?_ | refine Run.block ?_ | refine Run.exit ?_)
                iterate 2 refine oX (frz := fA) Et_ok ?_
                refine oX (frz := fA) (v := .d (.int .i64 ((x % 3 : Nat) : Int))) Et_ok ?_ (he := rfl)
                refine oX (frz := fA) (v := .d (.bool true)) Et_ok ?_ (he := vT (by omega))
                iterate 4 refine oX (frz := fA) Et_ok ?_
                refine oX (frz := fA) (v := .d (.bool true)) Et_ok ?_ (he := vT (by simp at hjb ⊢ <;> omega))
                refine oX (frz := fA) Et_ok ?_
                repeat (first | refine Run.seq ?_ | refine Run.region ?_ | refine RunOps.nil ?_ | refine Run.skip ?_ | refine cT ?_ | refine cF ?_ | refine Run.block ?_ | refine Run.exit ?_)
                refine oX (frz := fA) Et_ok ?_
                refine oX (frz := fA) (v := .d (.int .i64 ((16 + i : Nat) : Int))) Et_ok ?_ (he := vN (by omega) (by omega))
                iterate 3 refine oX (frz := fA) Et_ok ?_
                repeat (first | refine Run.seq ?_ | refine Run.region ?_ | refine RunOps.nil ?_ | refine Run.skip ?_ | refine cT ?_ | refine cF ?_ | refine Run.block ?_ | refine Run.exit ?_)
                iterate 2 refine oX (frz := fA) Et_ok ?_
                refine oX (frz := fA) (v := .d (.int .i64 ((3 * i : Nat) : Int))) Et_ok ?_ (he := vN (by omega) (by omega))
                refine oX (frz := fA) (v := .d (.int .i64 ((4 + 3 * i : Nat) : Int))) Et_ok ?_ (he := vN (by omega) (by omega))
                refine oX (frz := fA) Et_ok ?_
                refine oX (frz := fA) (v := .d (.int .i64 ((4 + 3 * i + j : Nat) : Int))) Et_ok ?_ (he := vN (by omega) (by omega))
                refine oC hat ?_
                refine oC hy ?_
                refine oX (frz := fA) Et_ok ?_
                repeat (first | refine Run.seq ?_ | refine Run.region ?_ | refine RunOps.nil ?_ | refine Run.skip ?_ | refine cT ?_ | refine cF ?_ | refine Run.block ?_ | refine Run.exit ?_)
                refine oX (frz := fA) Et_ok ?_
                repeat (first | refine Run.seq ?_ | refine Run.region ?_ | refine RunOps.nil ?_ | refine Run.skip ?_ | refine cT ?_ | refine cF ?_ | refine Run.block ?_ | refine Run.exit ?_)
                refine Run.loopT (fun z : Nat × List Int => ⟨PT.ofList [(0, .d (ints nums)), (2, .bp 0 0), (4, .bp 1 0), (5, .d (.int .i64 (M : Nat))), (6, .d (.int .i64 i)), (7, .d (.int .i64 x)), (8, .d (.int .i64 j)), (9, .bp 6 0), (10, .d (.int .i64 v)), (11, .d (.int .i64 z.1))], boxG0 :: boxA ((1 + k % 2 : Nat) : Int) (kTok k) (.sr 2 1 (m0 :: (ml ++ [DV.str [83 + i]]))) (.sr 5 2 (encN ⟨pl, r0 :: rl⟩ :: ps.map encN)) :: .room (ml.length + 1 + 1) 1 :: .box [.d (.int .i64 pl), .sr 4 1 (rgtD (r0 :: rl))] :: .room ((rgtD rl).length + 1) 1 :: .room (ps.length + 1) 2 :: .box [.d (.int .i64 ((16 + i : Nat) : Int)), rowA 7 1 (rgtD z.2)] :: rowO 1 (rgtD z.2), []⟩)
                  (fun z => z.1 ≤ v % 4 ∧ z.2 = rgtTo T M v z.1) (fun z => v % 4 - z.1) (0, []) ⟨Nat.zero_le _, rfl⟩ (tidy_of (objs := _) _ 7 (by rfl) rfl (by repeat' (first | exact trivial | refine ⟨(Or.inl rfl), ?_⟩ | refine ⟨(Or.inr rfl), ?_⟩ | fail)) (by repeat' (first | exact trivial | refine ⟨rfl, ?_⟩ | fail)) rfl rfl) (fun z hz => ?_)
                obtain ⟨s, r⟩ := z
                obtain ⟨hs1, hs2⟩ := hz
                simp only at hs1 hs2 ⊢
                have hrl : r.length = s := by rw [hs2]; simp [rgtTo]
                rcases Nat.lt_or_ge s (v % 4) with hsl | hsg
                · have hnx : r ++ [((symN T M (zF v s) : Nat) : Int)] = rgtTo T M v (s + 1) := by rw [hs2]; simp [rgtTo, List.range_succ]
                  rcases r with _ | ⟨r1, rr⟩
                  · have hrl' := hrl
                    simp only [List.length_cons, List.length_nil] at hrl'
                    repeat (first | refine Run.seq ?_ | refine Run.region ?_ | refine RunOps.nil ?_ | refine Run.skip ?_ | refine cT ?_ | refine cF ?_ | refine Run.block ?_ | refine Run.exit ?_)
                    iterate 2 refine oX (frz := fA) Et_ok ?_
                    refine oX (frz := fA) (v := .d (.int .i64 ((v % 4 : Nat) : Int))) Et_ok ?_ (he := rfl)
                    refine oX (frz := fA) (v := .d (.bool true)) Et_ok ?_ (he := vT (by omega))
                    repeat (first | refine Run.seq ?_ | refine Run.region ?_ | refine RunOps.nil ?_ | refine Run.skip ?_ | refine cT ?_ | refine cF ?_ | refine Run.block ?_ | refine Run.exit ?_)
                    refine oX (frz := fA) Et_ok ?_
                    refine oX (frz := fA) (v := .d (.int .i64 ((v / 4 : Nat) : Int))) Et_ok ?_ (he := vN rfl (by omega))
                    refine oX (frz := fA) Et_ok ?_
                    refine oX (frz := fA) (v := .d (.int .i64 ((4 * s : Nat) : Int))) Et_ok ?_ (he := vN (by omega) (by omega))
                    refine oX (frz := fA) (v := .d (.int .u64 ((4 * s : Nat) : Int))) Et_ok ?_ (he := vU64 (by omega))
                    refine oX (frz := fA) (v := .d (.int .i64 ((v / 4 / 2 ^ (4 * s) : Nat) : Int))) Et_ok ?_ (hf := shrF (4 * s)) (he := congrArg (fun n => AV.d (.int .i64 n)) (shrN (by omega)))
                    refine oX (frz := fA) (v := .d (.int .i64 ((zF v s : Nat) : Int))) Et_ok ?_ (he := rfl)
                    refine oX (frz := fA) Et_ok ?_
                    repeat (first | refine Run.seq ?_ | refine Run.region ?_ | refine RunOps.nil ?_ | refine Run.skip ?_ | refine cT ?_ | refine cF ?_ | refine Run.block ?_ | refine Run.exit ?_)
                    refine oX (frz := fA) Et_ok ?_
                    refine oX (frz := fA) (v := .d (.int .i64 ((zF v s % 5 : Nat) : Int))) Et_ok ?_ (he := rfl)
                    by_cases h5 : zF v s % 5 < 3
                    · refine oX (frz := fA) (v := .d (.bool true)) Et_ok ?_ (he := vT (by omega))
                      have hsy : symN T M (zF v s) = zF v s % T := if_pos h5
                      rw [hsy] at hnx
                      repeat (first | refine Run.region ?_ | refine Run.seq ?_ | refine RunOps.nil ?_ | refine Run.skip ?_ | refine cT ?_ | refine cF ?_ | refine Run.block ?_ | refine Run.exit ?_ | refine eN ?_ | refine Run.draw (frz := fA) Et_ok (by kernel_rfl) ?_)
                      iterate 5 (first | refine oX (frz := fA) Et_ok ?_ | refine eX ?_)
                      first | refine oX (frz := fA) (v := .d (.int .i64 (T : Nat))) Et_ok ?_ (he := (by rw [hT, List.length_map])) | refine eX (v := .d (.int .i64 (T : Nat))) ?_ (he := (by rw [hT, List.length_map]))
                      refine eX (v := .d (.int .i64 ((zF v s % T : Nat) : Int))) ?_ (hf := by simp <;> omega) (he := rfl)
                      iterate 1 (first | refine oX (frz := fA) Et_ok ?_ | refine eX ?_)
                      first | refine oX (frz := fA) Et_ok ?_ (hv := app0) (hf := rfl) (he := rfl) | refine eX ?_ (hv := app0) (hf := rfl) (he := rfl)
                      iterate 2 (first | refine oX (frz := fA) Et_ok ?_ | refine eX ?_)
                      repeat (first | refine Run.region ?_ | refine Run.seq ?_ | refine RunOps.nil ?_ | refine Run.skip ?_ | refine cT ?_ | refine cF ?_ | refine Run.block ?_ | refine Run.exit ?_ | refine eN ?_ | refine Run.draw (frz := fA) Et_ok (by kernel_rfl) ?_)
                      refine oX (frz := fA) Et_ok ?_
                      refine oX (frz := fA) (v := .d (.int .i64 ((s + 1 : Nat) : Int))) Et_ok ?_ (he := vN (by omega) (by omega))
                      refine oX (frz := fA) Et_ok ?_
                      repeat (first | refine Run.seq ?_ | refine Run.region ?_ | refine RunOps.nil ?_ | refine Run.skip ?_ | refine cT ?_ | refine cF ?_ | refine Run.block ?_ | refine Run.exit ?_)
                      exact ⟨(s + 1, _), ⟨hsl, hnx⟩, by simp only <;> omega, (tidy_of (objs := _) _ 8 (by rfl) rfl (by repeat' (first | exact trivial | refine ⟨(Or.inl rfl), ?_⟩ | refine ⟨(Or.inr rfl), ?_⟩ | fail)) (by repeat' (first | exact trivial | refine ⟨rfl, ?_⟩ | fail)) rfl rfl)⟩
                    · refine oX (frz := fA) (v := .d (.bool false)) Et_ok ?_ (he := vF (by omega))
                      have hsy : symN T M (zF v s) = 16 + zF v s % M := if_neg h5
                      rw [hsy] at hnx
                      repeat (first | refine Run.region ?_ | refine Run.seq ?_ | refine RunOps.nil ?_ | refine Run.skip ?_ | refine cT ?_ | refine cF ?_ | refine Run.block ?_ | refine Run.exit ?_ | refine eN ?_ | refine Run.draw (frz := fA) Et_ok (by kernel_rfl) ?_)
                      iterate 4 (first | refine oX (frz := fA) Et_ok ?_ | refine eX ?_)
                      refine eX (v := .d (.int .i64 ((zF v s % M : Nat) : Int))) ?_ (hf := by simp <;> omega) (he := rfl)
                      first | refine oX (frz := fA) (v := .d (.int .i64 ((16 + zF v s % M : Nat) : Int))) Et_ok ?_ (he := (vN (by omega) (by have := Nat.mod_lt (zF v s) (show 0 < M by omega) <;> omega))) | refine eX (v := .d (.int .i64 ((16 + zF v s % M : Nat) : Int))) ?_ (he := (vN (by omega) (by have := Nat.mod_lt (zF v s) (show 0 < M by omega) <;> omega)))
                      iterate 1 (first | refine oX (frz := fA) Et_ok ?_ | refine eX ?_)
                      first | refine oX (frz := fA) Et_ok ?_ (hv := app0) (hf := rfl) (he := rfl) | refine eX ?_ (hv := app0) (hf := rfl) (he := rfl)
                      iterate 2 (first | refine oX (frz := fA) Et_ok ?_ | refine eX ?_)
                      repeat (first | refine Run.region ?_ | refine Run.seq ?_ | refine RunOps.nil ?_ | refine Run.skip ?_ | refine cT ?_ | refine cF ?_ | refine Run.block ?_ | refine Run.exit ?_ | refine eN ?_ | refine Run.draw (frz := fA) Et_ok (by kernel_rfl) ?_)
                      refine oX (frz := fA) Et_ok ?_
                      refine oX (frz := fA) (v := .d (.int .i64 ((s + 1 : Nat) : Int))) Et_ok ?_ (he := vN (by omega) (by omega))
                      refine oX (frz := fA) Et_ok ?_
                      repeat (first | refine Run.seq ?_ | refine Run.region ?_ | refine RunOps.nil ?_ | refine Run.skip ?_ | refine cT ?_ | refine cF ?_ | refine Run.block ?_ | refine Run.exit ?_)
                      exact ⟨(s + 1, _), ⟨hsl, hnx⟩, by simp only <;> omega, (tidy_of (objs := _) _ 8 (by rfl) rfl (by repeat' (first | exact trivial | refine ⟨(Or.inl rfl), ?_⟩ | refine ⟨(Or.inr rfl), ?_⟩ | fail)) (by repeat' (first | exact trivial | refine ⟨rfl, ?_⟩ | fail)) rfl rfl)⟩
                  · have hrl' := hrl
                    simp only [List.length_cons, List.length_nil] at hrl'
                    repeat (first | refine Run.seq ?_ | refine Run.region ?_ | refine RunOps.nil ?_ | refine Run.skip ?_ | refine cT ?_ | refine cF ?_ | refine Run.block ?_ | refine Run.exit ?_)
                    iterate 2 refine oX (frz := fA) Et_ok ?_
                    refine oX (frz := fA) (v := .d (.int .i64 ((v % 4 : Nat) : Int))) Et_ok ?_ (he := rfl)
                    refine oX (frz := fA) (v := .d (.bool true)) Et_ok ?_ (he := vT (by omega))
                    repeat (first | refine Run.seq ?_ | refine Run.region ?_ | refine RunOps.nil ?_ | refine Run.skip ?_ | refine cT ?_ | refine cF ?_ | refine Run.block ?_ | refine Run.exit ?_)
                    refine oX (frz := fA) Et_ok ?_
                    refine oX (frz := fA) (v := .d (.int .i64 ((v / 4 : Nat) : Int))) Et_ok ?_ (he := vN rfl (by omega))
                    refine oX (frz := fA) Et_ok ?_
                    refine oX (frz := fA) (v := .d (.int .i64 ((4 * s : Nat) : Int))) Et_ok ?_ (he := vN (by omega) (by omega))
                    refine oX (frz := fA) (v := .d (.int .u64 ((4 * s : Nat) : Int))) Et_ok ?_ (he := vU64 (by omega))
                    refine oX (frz := fA) (v := .d (.int .i64 ((v / 4 / 2 ^ (4 * s) : Nat) : Int))) Et_ok ?_ (hf := shrF (4 * s)) (he := congrArg (fun n => AV.d (.int .i64 n)) (shrN (by omega)))
                    refine oX (frz := fA) (v := .d (.int .i64 ((zF v s : Nat) : Int))) Et_ok ?_ (he := rfl)
                    refine oX (frz := fA) Et_ok ?_
                    repeat (first | refine Run.seq ?_ | refine Run.region ?_ | refine RunOps.nil ?_ | refine Run.skip ?_ | refine cT ?_ | refine cF ?_ | refine Run.block ?_ | refine Run.exit ?_)
                    refine oX (frz := fA) Et_ok ?_
                    refine oX (frz := fA) (v := .d (.int .i64 ((zF v s % 5 : Nat) : Int))) Et_ok ?_ (he := rfl)
                    by_cases h5 : zF v s % 5 < 3
                    · refine oX (frz := fA) (v := .d (.bool true)) Et_ok ?_ (he := vT (by omega))
                      have hsy : symN T M (zF v s) = zF v s % T := if_pos h5
                      rw [hsy] at hnx
                      repeat (first | refine Run.region ?_ | refine Run.seq ?_ | refine RunOps.nil ?_ | refine Run.skip ?_ | refine cT ?_ | refine cF ?_ | refine Run.block ?_ | refine Run.exit ?_ | refine eN ?_ | refine Run.draw (frz := fA) Et_ok (by kernel_rfl) ?_)
                      iterate 5 (first | refine oX (frz := fA) Et_ok ?_ | refine eX ?_)
                      first | refine oX (frz := fA) (v := .d (.int .i64 (T : Nat))) Et_ok ?_ (he := (by rw [hT, List.length_map])) | refine eX (v := .d (.int .i64 (T : Nat))) ?_ (he := (by rw [hT, List.length_map]))
                      refine eX (v := .d (.int .i64 ((zF v s % T : Nat) : Int))) ?_ (hf := by simp <;> omega) (he := rfl)
                      iterate 1 (first | refine oX (frz := fA) Et_ok ?_ | refine eX ?_)
                      first | refine oX (frz := fA) Et_ok ?_ (hv := app1) (hf := rfl) (he := rfl) | refine eX ?_ (hv := app1) (hf := rfl) (he := rfl)
                      iterate 2 (first | refine oX (frz := fA) Et_ok ?_ | refine eX ?_)
                      repeat (first | refine Run.region ?_ | refine Run.seq ?_ | refine RunOps.nil ?_ | refine Run.skip ?_ | refine cT ?_ | refine cF ?_ | refine Run.block ?_ | refine Run.exit ?_ | refine eN ?_ | refine Run.draw (frz := fA) Et_ok (by kernel_rfl) ?_)
                      refine oX (frz := fA) Et_ok ?_
                      refine oX (frz := fA) (v := .d (.int .i64 ((s + 1 : Nat) : Int))) Et_ok ?_ (he := vN (by omega) (by omega))
                      refine oX (frz := fA) Et_ok ?_
                      repeat (first | refine Run.seq ?_ | refine Run.region ?_ | refine RunOps.nil ?_ | refine Run.skip ?_ | refine cT ?_ | refine cF ?_ | refine Run.block ?_ | refine Run.exit ?_)
                      exact ⟨(s + 1, _), ⟨hsl, hnx⟩, by simp only <;> omega, (tidy_of (objs := _) _ 8 (by first | rfl | (simp only [rowO, rgtD, List.map_append, List.map_cons, List.map_nil, List.cons_append, List.length_append, List.length_cons, List.length_nil] <;> rfl)) rfl (by repeat' (first | exact trivial | refine ⟨(Or.inl rfl), ?_⟩ | refine ⟨(Or.inr rfl), ?_⟩ | fail)) (by repeat' (first | exact trivial | refine ⟨rfl, ?_⟩ | fail)) rfl rfl)⟩
                    · refine oX (frz := fA) (v := .d (.bool false)) Et_ok ?_ (he := vF (by omega))
                      have hsy : symN T M (zF v s) = 16 + zF v s % M := if_neg h5
                      rw [hsy] at hnx
                      repeat (first | refine Run.region ?_ | refine Run.seq ?_ | refine RunOps.nil ?_ | refine Run.skip ?_ | refine cT ?_ | refine cF ?_ | refine Run.block ?_ | refine Run.exit ?_ | refine eN ?_ | refine Run.draw (frz := fA) Et_ok (by kernel_rfl) ?_)
                      iterate 4 (first | refine oX (frz := fA) Et_ok ?_ | refine eX ?_)
                      refine eX (v := .d (.int .i64 ((zF v s % M : Nat) : Int))) ?_ (hf := by simp <;> omega) (he := rfl)
                      first | refine oX (frz := fA) (v := .d (.int .i64 ((16 + zF v s % M : Nat) : Int))) Et_ok ?_ (he := (vN (by omega) (by have := Nat.mod_lt (zF v s) (show 0 < M by omega) <;> omega))) | refine eX (v := .d (.int .i64 ((16 + zF v s % M : Nat) : Int))) ?_ (he := (vN (by omega) (by have := Nat.mod_lt (zF v s) (show 0 < M by omega) <;> omega)))
                      iterate 1 (first | refine oX (frz := fA) Et_ok ?_ | refine eX ?_)
                      first | refine oX (frz := fA) Et_ok ?_ (hv := app1) (hf := rfl) (he := rfl) | refine eX ?_ (hv := app1) (hf := rfl) (he := rfl)
                      iterate 2 (first | refine oX (frz := fA) Et_ok ?_ | refine eX ?_)
                      repeat (first | refine Run.region ?_ | refine Run.seq ?_ | refine RunOps.nil ?_ | refine Run.skip ?_ | refine cT ?_ | refine cF ?_ | refine Run.block ?_ | refine Run.exit ?_ | refine eN ?_ | refine Run.draw (frz := fA) Et_ok (by kernel_rfl) ?_)
                      refine oX (frz := fA) Et_ok ?_
                      refine oX (frz := fA) (v := .d (.int .i64 ((s + 1 : Nat) : Int))) Et_ok ?_ (he := vN (by omega) (by omega))
                      refine oX (frz := fA) Et_ok ?_
                      repeat (first | refine Run.seq ?_ | refine Run.region ?_ | refine RunOps.nil ?_ | refine Run.skip ?_ | refine cT ?_ | refine cF ?_ | refine Run.block ?_ | refine Run.exit ?_)
                      exact ⟨(s + 1, _), ⟨hsl, hnx⟩, by simp only <;> omega, (tidy_of (objs := _) _ 8 (by first | rfl | (simp only [rowO, rgtD, List.map_append, List.map_cons, List.map_nil, List.cons_append, List.length_append, List.length_cons, List.length_nil] <;> rfl)) rfl (by repeat' (first | exact trivial | refine ⟨(Or.inl rfl), ?_⟩ | refine ⟨(Or.inr rfl), ?_⟩ | fail)) (by repeat' (first | exact trivial | refine ⟨rfl, ?_⟩ | fail)) rfl rfl)⟩
                · have hse : s = v % 4 := by omega
                  rw [hse] at hs2
                  rw [← hs2] at hnext
                  rcases r with _ | ⟨r1, rr⟩
                  · repeat (first | refine Run.seq ?_ | refine Run.region ?_ | refine RunOps.nil ?_ | refine Run.skip ?_ | refine cT ?_ | refine cF ?_ | refine Run.block ?_ | refine Run.exit ?_)
                    iterate 2 refine oX (frz := fA) Et_ok ?_
                    refine oX (frz := fA) (v := .d (.int .i64 ((v % 4 : Nat) : Int))) Et_ok ?_ (he := rfl)
                    refine oX (frz := fA) (v := .d (.bool false)) Et_ok ?_ (he := vF (by omega))
                    repeat (first | refine Run.seq ?_ | refine Run.region ?_ | refine RunOps.nil ?_ | refine Run.skip ?_ | refine cT ?_ | refine cF ?_ | refine Run.block ?_ | refine Run.exit ?_)
                    iterate 3 refine oX (frz := fA) Et_ok ?_
                    first | refine Run.tidy (tidy_of (objs := _) [(0, .d (ints nums)), (2, .bp 0 0), (4, .bp 1 0), (5, .d (.int .i64 (M : Nat))), (6, .d (.int .i64 i)), (7, .d (.int .i64 x)), (8, .d (.int .i64 j)), (109, .sr 5 2 (encN ⟨pl, r0 :: rl⟩ :: ps.map encN)), (110, .d (encN (⟨((16 + i : Nat) : Int), []⟩ : GProd)))] 7 (Eq.trans (b := boxG0 :: boxA ((1 + k % 2 : Nat) : Int) (kTok k) (.sr 2 1 (m0 :: (ml ++ [DV.str [83 + i]]))) (.sr 5 2 (encN ⟨pl, r0 :: rl⟩ :: ps.map encN)) :: .room (ml.length + 1 + 1) 1 :: .box [.d (.int .i64 pl), .sr 4 1 (rgtD (r0 :: rl))] :: .room ((rgtD rl).length + 1) 1 :: .room (ps.length + 1) 2 :: [.box [.d (.int .i64 ((16 + i : Nat) : Int)), .d .nilsl]]) rfl rfl) rfl (by repeat' (first | exact trivial | refine ⟨(Or.inl rfl), ?_⟩ | refine ⟨(Or.inr rfl), ?_⟩ | refine ⟨rfl, ?_⟩ | fail)) (by repeat' (first | exact trivial | refine ⟨(Or.inl rfl), ?_⟩ | refine ⟨(Or.inr rfl), ?_⟩ | refine ⟨rfl, ?_⟩ | fail)) rfl rfl) ?_ | refine RunOps.tidy (tidy_of (objs := _) [(0, .d (ints nums)), (2, .bp 0 0), (4, .bp 1 0), (5, .d (.int .i64 (M : Nat))), (6, .d (.int .i64 i)), (7, .d (.int .i64 x)), (8, .d (.int .i64 j)), (109, .sr 5 2 (encN ⟨pl, r0 :: rl⟩ :: ps.map encN)), (110, .d (encN (⟨((16 + i : Nat) : Int), []⟩ : GProd)))] 7 (Eq.trans (b := boxG0 :: boxA ((1 + k % 2 : Nat) : Int) (kTok k) (.sr 2 1 (m0 :: (ml ++ [DV.str [83 + i]]))) (.sr 5 2 (encN ⟨pl, r0 :: rl⟩ :: ps.map encN)) :: .room (ml.length + 1 + 1) 1 :: .box [.d (.int .i64 pl), .sr 4 1 (rgtD (r0 :: rl))] :: .room ((rgtD rl).length + 1) 1 :: .room (ps.length + 1) 2 :: [.box [.d (.int .i64 ((16 + i : Nat) : Int)), .d .nilsl]]) rfl rfl) rfl (by repeat' (first | exact trivial | refine ⟨(Or.inl rfl), ?_⟩ | refine ⟨(Or.inr rfl), ?_⟩ | refine ⟨rfl, ?_⟩ | fail)) (by repeat' (first | exact trivial | refine ⟨(Or.inl rfl), ?_⟩ | refine ⟨(Or.inr rfl), ?_⟩ | refine ⟨rfl, ?_⟩ | fail)) rfl rfl) ?_
                    refine oX (frz := fA) Et_ok ?_
                    first | refine oX (frz := fA) Et_ok ?_ (hv := app1) (hf := rfl) (he := rfl) | refine eX ?_ (hv := app1) (hf := rfl) (he := rfl)
                    iterate 2 refine oX (frz := fA) Et_ok ?_
                    repeat (first | refine Run.seq ?_ | refine Run.region ?_ | refine RunOps.nil ?_ | refine Run.skip ?_ | refine cT ?_ | refine cF ?_ | refine Run.block ?_ | refine Run.exit ?_)
                    refine oX (frz := fA) Et_ok ?_
                    refine oX (frz := fA) (v := .d (.int .i64 ((j + 1 : Nat) : Int))) Et_ok ?_ (he := vN (by omega) (by omega))
                    refine oX (frz := fA) Et_ok ?_
                    repeat (first | refine Run.seq ?_ | refine Run.region ?_ | refine RunOps.nil ?_ | refine Run.skip ?_ | refine cT ?_ | refine cF ?_ | refine Run.block ?_ | refine Run.exit ?_)
                    exact ⟨(j + 1, ⟨pl, r0 :: rl⟩ :: (ps ++ [(⟨((16 + i : Nat) : Int), []⟩ : GProd)])), ⟨by simp only <;> omega, hnext, by simp at hjb ⊢ <;> omega⟩, by simp only <;> omega, (tidy_of (objs := _) _ 6 (Eq.trans (b := boxG0 :: boxA ((1 + k % 2 : Nat) : Int) (kTok k) (.sr 2 1 (m0 :: (ml ++ [DV.str [83 + i]]))) (.sr 5 2 (encN ⟨pl, r0 :: rl⟩ :: (ps.map encN ++ [encN (⟨((16 + i : Nat) : Int), []⟩ : GProd)]))) :: .room (ml.length + 1 + 1) 1 :: .box [.d (.int .i64 pl), .sr 4 1 (rgtD (r0 :: rl))] :: .room ((rgtD rl).length + 1) 1 :: [.room (ps.length + 1 + 1) 2]) rfl (by first | rfl | (simp [psA, psO, psI, rowA, rowO, rgtD] <;> fail))) rfl (by repeat' (first | exact trivial | refine ⟨(Or.inl rfl), ?_⟩ | refine ⟨(Or.inr rfl), ?_⟩ | fail)) (by repeat' (first | exact trivial | refine ⟨rfl, ?_⟩ | fail)) rfl rfl)⟩
                  · repeat (first | refine Run.seq ?_ | refine Run.region ?_ | refine RunOps.nil ?_ | refine Run.skip ?_ | refine cT ?_ | refine cF ?_ | refine Run.block ?_ | refine Run.exit ?_)
                    iterate 2 refine oX (frz := fA) Et_ok ?_
                    refine oX (frz := fA) (v := .d (.int .i64 ((v % 4 : Nat) : Int))) Et_ok ?_ (he := rfl)
                    refine oX (frz := fA) (v := .d (.bool false)) Et_ok ?_ (he := vF (by omega))
                    repeat (first | refine Run.seq ?_ | refine Run.region ?_ | refine RunOps.nil ?_ | refine Run.skip ?_ | refine cT ?_ | refine cF ?_ | refine Run.block ?_ | refine Run.exit ?_)
                    iterate 3 refine oX (frz := fA) Et_ok ?_
                    first | refine Run.tidy (tidy_of (objs := _) [(0, .d (ints nums)), (2, .bp 0 0), (4, .bp 1 0), (5, .d (.int .i64 (M : Nat))), (6, .d (.int .i64 i)), (7, .d (.int .i64 x)), (8, .d (.int .i64 j)), (109, .sr 5 2 (encN ⟨pl, r0 :: rl⟩ :: ps.map encN)), (110, .d (encN (⟨((16 + i : Nat) : Int), r1 :: rr⟩ : GProd)))] 8 (Eq.trans (b := boxG0 :: boxA ((1 + k % 2 : Nat) : Int) (kTok k) (.sr 2 1 (m0 :: (ml ++ [DV.str [83 + i]]))) (.sr 5 2 (encN ⟨pl, r0 :: rl⟩ :: ps.map encN)) :: .room (ml.length + 1 + 1) 1 :: .box [.d (.int .i64 pl), .sr 4 1 (rgtD (r0 :: rl))] :: .room ((rgtD rl).length + 1) 1 :: .room (ps.length + 1) 2 :: .box [.d (.int .i64 ((16 + i : Nat) : Int)), .sr 7 1 (rgtD (r1 :: rr))] :: [.room ((rgtD rr).length + 1) 1]) rfl rfl) rfl (by repeat' (first | exact trivial | refine ⟨(Or.inl rfl), ?_⟩ | refine ⟨(Or.inr rfl), ?_⟩ | refine ⟨rfl, ?_⟩ | fail)) (by repeat' (first | exact trivial | refine ⟨(Or.inl rfl), ?_⟩ | refine ⟨(Or.inr rfl), ?_⟩ | refine ⟨rfl, ?_⟩ | fail)) rfl rfl) ?_ | refine RunOps.tidy (tidy_of (objs := _) [(0, .d (ints nums)), (2, .bp 0 0), (4, .bp 1 0), (5, .d (.int .i64 (M : Nat))), (6, .d (.int .i64 i)), (7, .d (.int .i64 x)), (8, .d (.int .i64 j)), (109, .sr 5 2 (encN ⟨pl, r0 :: rl⟩ :: ps.map encN)), (110, .d (encN (⟨((16 + i : Nat) : Int), r1 :: rr⟩ : GProd)))] 8 (Eq.trans (b := boxG0 :: boxA ((1 + k % 2 : Nat) : Int) (kTok k) (.sr 2 1 (m0 :: (ml ++ [DV.str [83 + i]]))) (.sr 5 2 (encN ⟨pl, r0 :: rl⟩ :: ps.map encN)) :: .room (ml.length + 1 + 1) 1 :: .box [.d (.int .i64 pl), .sr 4 1 (rgtD (r0 :: rl))] :: .room ((rgtD rl).length + 1) 1 :: .room (ps.length + 1) 2 :: .box [.d (.int .i64 ((16 + i : Nat) : Int)), .sr 7 1 (rgtD (r1 :: rr))] :: [.room ((rgtD rr).length + 1) 1]) rfl rfl) rfl (by repeat' (first | exact trivial | refine ⟨(Or.inl rfl), ?_⟩ | refine ⟨(Or.inr rfl), ?_⟩ | refine ⟨rfl, ?_⟩ | fail)) (by repeat' (first | exact trivial | refine ⟨(Or.inl rfl), ?_⟩ | refine ⟨(Or.inr rfl), ?_⟩ | refine ⟨rfl, ?_⟩ | fail)) rfl rfl) ?_
                    refine oX (frz := fA) Et_ok ?_
                    first | refine oX (frz := fA) Et_ok ?_ (hv := app1) (hf := rfl) (he := rfl) | refine eX ?_ (hv := app1) (hf := rfl) (he := rfl)
                    iterate 2 refine oX (frz := fA) Et_ok ?_
                    repeat (first | refine Run.seq ?_ | refine Run.region ?_ | refine RunOps.nil ?_ | refine Run.skip ?_ | refine cT ?_ | refine cF ?_ | refine Run.block ?_ | refine Run.exit ?_)
                    refine oX (frz := fA) Et_ok ?_
                    refine oX (frz := fA) (v := .d (.int .i64 ((j + 1 : Nat) : Int))) Et_ok ?_ (he := vN (by omega) (by omega))
                    refine oX (frz := fA) Et_ok ?_
                    repeat (first | refine Run.seq ?_ | refine Run.region ?_ | refine RunOps.nil ?_ | refine Run.skip ?_ | refine cT ?_ | refine cF ?_ | refine Run.block ?_ | refine Run.exit ?_)
                    exact ⟨(j + 1, ⟨pl, r0 :: rl⟩ :: (ps ++ [(⟨((16 + i : Nat) : Int), r1 :: rr⟩ : GProd)])), ⟨by simp only <;> omega, hnext, by simp at hjb ⊢ <;> omega⟩, by simp only <;> omega, (tidy_of (objs := _) _ 6 (Eq.trans (b := boxG0 :: boxA ((1 + k % 2 : Nat) : Int) (kTok k) (.sr 2 1 (m0 :: (ml ++ [DV.str [83 + i]]))) (.sr 5 2 (encN ⟨pl, r0 :: rl⟩ :: (ps.map encN ++ [encN (⟨((16 + i : Nat) : Int), r1 :: rr⟩ : GProd)]))) :: .room (ml.length + 1 + 1) 1 :: .box [.d (.int .i64 pl), .sr 4 1 (rgtD (r0 :: rl))] :: .room ((rgtD rl).length + 1) 1 :: [.room (ps.length + 1 + 1) 2]) rfl (by first | rfl | (simp [psA, psO, psI, rowA, rowO, rgtD] <;> fail))) rfl (by repeat' (first | exact trivial | refine ⟨(Or.inl rfl), ?_⟩ | refine ⟨(Or.inr rfl), ?_⟩ | fail)) (by repeat' (first | exact trivial | refine ⟨rfl, ?_⟩ | fail)) rfl rfl)⟩
          · have hz : acc ≠ [] := fun hz => by
              rw [hz] at hj2 hj
              have hr0 := (List.append_eq_nil_iff.1 hj2.symm).2
              have : j = 0 := by simpa [rowTo] using hr0
              exact hj ⟨by omega, by simp⟩
            have hacc' : acc = accTo nums T M (i + 1) := by
              simp only [accTo, ← hxe]
              by_cases h7 : acc.length < 7
              · have hje : j = x % 3 + 1 := by have : ¬ j ≤ x % 3 := fun h => hj ⟨h, h7⟩; omega
                rw [← hje, ← hj2, List.take_of_length_le hj3]
              · have h7' : acc.length = 7 := by omega
                obtain ⟨d, hd⟩ : ∃ d, x % 3 + 1 = j + d := ⟨x % 3 + 1 - j, by omega⟩
                have hro : rowTo nums T M i (x % 3 + 1) = rowTo nums T M i j ++ (List.range' j d).map (prodN nums T M i) := by
                  rw [hd, rowTo, rowTo, ← List.map_append, range_split]
                rw [hro, ← List.append_assoc, ← hj2, ← h7', List.take_left]
            rcases acc with _ | ⟨⟨pl, pr⟩, ps⟩
            · exact absurd rfl hz
            · rcases pr with _ | ⟨r0, rl⟩
              · by_cases hja : j ≤ x % 3
                · have h7 : ¬ (ps.length + 1 < 7) := fun h => hj ⟨hja, by simpa using h⟩
                  repeat (first | refine Run.seq ?_ | refine Run.region ?_ | refine RunOps.nil ?_ | refine Run.skip ?_ | refine cT ?_ | refine cF ?_ | refine Run.block ?_ | refine Run.exit ?_)
                  iterate 2 refine oX (frz := fA) Et_ok ?_
                  refine oX (frz := fA) (v := .d (.int .i64 ((x % 3 : Nat) : Int))) Et_ok ?_ (he := rfl)
                  refine oX (frz := fA) (v := .d (.bool true)) Et_ok ?_ (he := vT (by omega))
                  iterate 4 refine oX (frz := fA) Et_ok ?_
                  refine oX (frz := fA) (v := .d (.bool false)) Et_ok ?_ (he := vF (by simp <;> omega))
                  refine oX (frz := fA) Et_ok ?_
                  repeat (first | refine Run.seq ?_ | refine Run.region ?_ | refine RunOps.nil ?_ | refine Run.skip ?_ | refine cT ?_ | refine cF ?_ | refine Run.block ?_ | refine Run.exit ?_)
                  refine oX (frz := fA) Et_ok ?_
                  refine oX (frz := fA) (v := .d (.int .i64 ((i + 1 : Nat) : Int))) Et_ok ?_ (he := vN (by omega) (by omega))
                  refine oX (frz := fA) Et_ok ?_
                  repeat (first | refine Run.seq ?_ | refine Run.region ?_ | refine RunOps.nil ?_ | refine Run.skip ?_ | refine cT ?_ | refine cF ?_ | refine Run.block ?_ | refine Run.exit ?_)
                  exact ⟨(i + 1, m0 :: (ml ++ [DV.str [83 + i]]), ⟨pl, []⟩ :: ps), ⟨hlt, hns', hacc'⟩, by simp only <;> omega, (tidy_of (objs := _) _ 5 (Eq.trans (b := boxG0 :: boxA ((1 + k % 2 : Nat) : Int) (kTok k) (.sr 2 1 (m0 :: (ml ++ [DV.str [83 + i]]))) (.sr 4 2 (encN ⟨pl, []⟩ :: ps.map encN)) :: .room (ml.length + 1 + 1) 1 :: .box [.d (.int .i64 pl), .d .nilsl] :: [.room (ps.length + 1) 2]) rfl (by first | rfl | (simp [psA, psO, psI, rowA, rowO, rgtD] <;> fail))) rfl (by repeat' (first | exact trivial | refine ⟨(Or.inl rfl), ?_⟩ | refine ⟨(Or.inr rfl), ?_⟩ | fail)) (by repeat' (first | exact trivial | refine ⟨rfl, ?_⟩ | fail)) rfl rfl)⟩
                · repeat (first | refine Run.seq ?_ | refine Run.region ?_ | refine RunOps.nil ?_ | refine Run.skip ?_ | refine cT ?_ | refine cF ?_ | refine Run.block ?_ | refine Run.exit ?_)
                  iterate 2 refine oX (frz := fA) Et_ok ?_
                  refine oX (frz := fA) (v := .d (.int .i64 ((x % 3 : Nat) : Int))) Et_ok ?_ (he := rfl)
                  refine oX (frz := fA) (v := .d (.bool false)) Et_ok ?_ (he := vF (by omega))
                  refine oX (frz := fA) Et_ok ?_
                  refine oS ?_
                  refine oS ?_
                  refine oS ?_
                  refine oS ?_
                  refine oX (frz := fA) Et_ok ?_
                  repeat (first | refine Run.seq ?_ | refine Run.region ?_ | refine RunOps.nil ?_ | refine Run.skip ?_ | refine cT ?_ | refine cF ?_ | refine Run.block ?_ | refine Run.exit ?_)
                  refine oX (frz := fA) Et_ok ?_
                  refine oX (frz := fA) (v := .d (.int .i64 ((i + 1 : Nat) : Int))) Et_ok ?_ (he := vN (by omega) (by omega))
                  refine oX (frz := fA) Et_ok ?_
                  repeat (first | refine Run.seq ?_ | refine Run.region ?_ | refine RunOps.nil ?_ | refine Run.skip ?_ | refine cT ?_ | refine cF ?_ | refine Run.block ?_ | refine Run.exit ?_)
                  exact ⟨(i + 1, m0 :: (ml ++ [DV.str [83 + i]]), ⟨pl, []⟩ :: ps), ⟨hlt, hns', hacc'⟩, by simp only <;> omega, (tidy_of (objs := _) _ 5 (Eq.trans (b := boxG0 :: boxA ((1 + k % 2 : Nat) : Int) (kTok k) (.sr 2 1 (m0 :: (ml ++ [DV.str [83 + i]]))) (.sr 4 2 (encN ⟨pl, []⟩ :: ps.map encN)) :: .room (ml.length + 1 + 1) 1 :: .box [.d (.int .i64 pl), .d .nilsl] :: [.room (ps.length + 1) 2]) rfl (by first | rfl | (simp [psA, psO, psI, rowA, rowO, rgtD] <;> fail))) rfl (by repeat' (first | exact trivial | refine ⟨(Or.inl rfl), ?_⟩ | refine ⟨(Or.inr rfl), ?_⟩ | fail)) (by repeat' (first | exact trivial | refine ⟨rfl, ?_⟩ | fail)) rfl rfl)⟩
              · by_cases hja : j ≤ x % 3
                · have h7 : ¬ (ps.length + 1 < 7) := fun h => hj ⟨hja, by simpa using h⟩
                  repeat (first | refine Run.seq ?_ | refine Run.region ?_ | refine RunOps.nil ?_ | refine Run.skip ?_ | refine cT ?_ | refine cF ?_ | refine Run.block ?_ | refine Run.exit ?_)
                  iterate 2 refine oX (frz := fA) Et_ok ?_
                  refine oX (frz := fA) (v := .d (.int .i64 ((x % 3 : Nat) : Int))) Et_ok ?_ (he := rfl)
                  refine oX (frz := fA) (v := .d (.bool true)) Et_ok ?_ (he := vT (by omega))
                  iterate 4 refine oX (frz := fA) Et_ok ?_
                  refine oX (frz := fA) (v := .d (.bool false)) Et_ok ?_ (he := vF (by simp <;> omega))
                  refine oX (frz := fA) Et_ok ?_
                  repeat (first | refine Run.seq ?_ | refine Run.region ?_ | refine RunOps.nil ?_ | refine Run.skip ?_ | refine cT ?_ | refine cF ?_ | refine Run.block ?_ | refine Run.exit ?_)
                  refine oX (frz := fA) Et_ok ?_
                  refine oX (frz := fA) (v := .d (.int .i64 ((i + 1 : Nat) : Int))) Et_ok ?_ (he := vN (by omega) (by omega))
                  refine oX (frz := fA) Et_ok ?_
                  repeat (first | refine Run.seq ?_ | refine Run.region ?_ | refine RunOps.nil ?_ | refine Run.skip ?_ | refine cT ?_ | refine cF ?_ | refine Run.block ?_ | refine Run.exit ?_)
                  exact ⟨(i + 1, m0 :: (ml ++ [DV.str [83 + i]]), ⟨pl, r0 :: rl⟩ :: ps), ⟨hlt, hns', hacc'⟩, by simp only <;> omega, (tidy_of (objs := _) _ 6 (Eq.trans (b := boxG0 :: boxA ((1 + k % 2 : Nat) : Int) (kTok k) (.sr 2 1 (m0 :: (ml ++ [DV.str [83 + i]]))) (.sr 5 2 (encN ⟨pl, r0 :: rl⟩ :: ps.map encN)) :: .room (ml.length + 1 + 1) 1 :: .box [.d (.int .i64 pl), .sr 4 1 (rgtD (r0 :: rl))] :: .room ((rgtD rl).length + 1) 1 :: [.room (ps.length + 1) 2]) rfl (by first | rfl | (simp [psA, psO, psI, rowA, rowO, rgtD] <;> fail))) rfl (by repeat' (first | exact trivial | refine ⟨(Or.inl rfl), ?_⟩ | refine ⟨(Or.inr rfl), ?_⟩ | fail)) (by repeat' (first | exact trivial | refine ⟨rfl, ?_⟩ | fail)) rfl rfl)⟩
                · repeat (first | refine Run.seq ?_ | refine Run.region ?_ | refine RunOps.nil ?_ | refine Run.skip ?_ | refine cT ?_ | refine cF ?_ | refine Run.block ?_ | refine Run.exit ?_)
                  iterate 2 refine oX (frz := fA) Et_ok ?_
                  refine oX (frz := fA) (v := .d (.int .i64 ((x % 3 : Nat) : Int))) Et_ok ?_ (he := rfl)
                  refine oX (frz := fA) (v := .d (.bool false)) Et_ok ?_ (he := vF (by omega))
                  refine oX (frz := fA) Et_ok ?_
                  refine oS ?_
                  refine oS ?_
                  refine oS ?_
                  refine oS ?_
                  refine oX (frz := fA) Et_ok ?_
                  repeat (first | refine Run.seq ?_ | refine Run.region ?_ | refine RunOps.nil ?_ | refine Run.skip ?_ | refine cT ?_ | refine cF ?_ | refine Run.block ?_ | refine Run.exit ?_)
                  refine oX (frz := fA) Et_ok ?_
                  refine oX (frz := fA) (v := .d (.int .i64 ((i + 1 : Nat) : Int))) Et_ok ?_ (he := vN (by omega) (by omega))
                  refine oX (frz := fA) Et_ok ?_
                  repeat (first | refine Run.seq ?_ | refine Run.region ?_ | refine RunOps.nil ?_ | refine Run.skip ?_ | refine cT ?_ | refine cF ?_ | refine Run.block ?_ | refine Run.exit ?_)
                  exact ⟨(i + 1, m0 :: (ml ++ [DV.str [83 + i]]), ⟨pl, r0 :: rl⟩ :: ps), ⟨hlt, hns', hacc'⟩, by simp only <;> omega, (tidy_of (objs := _) _ 6 (Eq.trans (b := boxG0 :: boxA ((1 + k % 2 : Nat) : Int) (kTok k) (.sr 2 1 (m0 :: (ml ++ [DV.str [83 + i]]))) (.sr 5 2 (encN ⟨pl, r0 :: rl⟩ :: ps.map encN)) :: .room (ml.length + 1 + 1) 1 :: .box [.d (.int .i64 pl), .sr 4 1 (rgtD (r0 :: rl))] :: .room ((rgtD rl).length + 1) 1 :: [.room (ps.length + 1) 2]) rfl (by first | rfl | (simp [psA, psO, psI, rowA, rowO, rgtD] <;> fail))) rfl (by repeat' (first | exact trivial | refine ⟨(Or.inl rfl), ?_⟩ | refine ⟨(Or.inr rfl), ?_⟩ | fail)) (by repeat' (first | exact trivial | refine ⟨rfl, ?_⟩ | fail)) rfl rfl)⟩
        · repeat (first | refine Run.seq ?_ | refine Run.region ?_ | refine RunOps.nil ?_ | refine Run.skip ?_ | refine cT ?_ | refine cF ?_ | refine Run.block ?_ | refine Run.exit ?_)
          iterate 2 refine oX (frz := fA) Et_ok ?_
          refine oX (frz := fA) (v := .d (.bool true)) Et_ok ?_ (he := vT (by omega))
          repeat (first | refine Run.seq ?_ | refine Run.region ?_ | refine RunOps.nil ?_ | refine Run.skip ?_ | refine cT ?_ | refine cF ?_ | refine Run.block ?_ | refine Run.exit ?_)
          iterate 3 refine oX (frz := fA) Et_ok ?_
          refine oX (frz := fA) (v := .d (.int .i64 (83 + i : Nat))) Et_ok ?_ (he := vN (by omega) (by omega))
          refine oX (frz := fA) (v := .d (.int .u8 (83 + i : Nat))) Et_ok ?_ (he := vU8 (by omega))
          refine oX (frz := fA) Et_ok ?_
          refine oX (frz := fA) (v := .d (.str [83 + i])) Et_ok ?_ (he := congrArg (fun c => AV.d (.str [c])) (show ((83 + i : Nat) : Int).toNat % 256 = 83 + i by omega))
          refine oX (frz := fA) Et_ok ?_
          refine oX (frz := fA) Et_ok ?_ (hv := app1) (hf := rfl) (he := rfl)
          iterate 2 refine oX (frz := fA) Et_ok ?_
          repeat (first | refine Run.seq ?_ | refine Run.region ?_ | refine RunOps.nil ?_ | refine Run.skip ?_ | refine cT ?_ | refine cF ?_ | refine Run.block ?_ | refine Run.exit ?_)
          iterate 2 refine oX (frz := fA) Et_ok ?_
          refine oX (frz := fA) (v := .d (.int .i64 (1 + i : Nat))) Et_ok ?_ (he := vN (by omega) (by omega))
          refine oC (atS nums (1 + i)) ?_
          refine oC hx ?_
          refine oX (frz := fA) Et_ok ?_
          repeat (first | refine Run.seq ?_ | refine Run.region ?_ | refine RunOps.nil ?_ | refine Run.skip ?_ | refine cT ?_ | refine cF ?_ | refine Run.block ?_ | refine Run.exit ?_)
          refine oX (frz := fA) Et_ok ?_
          repeat (first | refine Run.seq ?_ | refine Run.region ?_ | refine RunOps.nil ?_ | refine Run.skip ?_ | refine cT ?_ | refine cF ?_ | refine Run.block ?_ | refine Run.exit ?_)
          refine Run.loopT (fun y : Nat × List GProd => ⟨PT.ofList [(0, .d (ints nums)), (2, .bp 0 0), (4, .bp 1 0), (5, .d (.int .i64 (M : Nat))), (6, .d (.int .i64 i)), (7, .d (.int .i64 x)), (8, .d (.int .i64 y.1))], boxG0 :: boxA ((1 + k % 2 : Nat) : Int) (kTok k) (.sr 2 1 (m0 :: (ml ++ [DV.str [83 + i]]))) (psA y.2) :: .room (ml.length + 1 + 1) 1 :: psO y.2, []⟩)
            (fun y => y.1 ≤ x % 3 + 1 ∧ y.2 = accTo nums T M i ++ rowTo nums T M i y.1 ∧ y.2.length ≤ 7) (fun y => x % 3 + 1 - y.1) (0, (⟨ql, u0 :: ul⟩ :: qs)) ⟨Nat.zero_le _, by rw [← hacc]; simp [rowTo], hq3⟩ (tidy_of (objs := _) _ 6 (by rfl) rfl (by repeat' (first | exact trivial | refine ⟨(Or.inl rfl), ?_⟩ | refine ⟨(Or.inr rfl), ?_⟩ | fail)) (by repeat' (first | exact trivial | refine ⟨rfl, ?_⟩ | fail)) rfl rfl) (fun y hy => ?_)
          obtain ⟨j, acc⟩ := y
          obtain ⟨hj1, hj2, hj3⟩ := hy
          simp only at hj1 hj2 hj3 ⊢
          by_cases hj : j ≤ x % 3 ∧ acc.length < 7
          · obtain ⟨hja, hjb⟩ := hj
            have hy := numS nums hn (4 + 3 * i + j)
            have hyl := numF_lt nums (4 + 3 * i + j)
            have hyp : prodN nums T M i j = ⟨((16 + i : Nat) : Int), rgtTo T M (numF nums (4 + 3 * i + j)) (numF nums (4 + 3 * i + j) % 4)⟩ := rfl
            have hrow : rowTo nums T M i (j + 1) = rowTo nums T M i j ++ [prodN nums T M i j] := by simp [rowTo, List.range_succ]
            have hat := atS nums (4 + 3 * i + j)
            obtain ⟨v, hv⟩ : ∃ v, v = numF nums (4 + 3 * i + j) := ⟨_, rfl⟩
            rw [← hv] at hy hyl hyp
            have hnext : acc ++ [prodN nums T M i j] = accTo nums T M i ++ rowTo nums T M i (j + 1) := by rw [hj2, hrow, List.append_assoc]
            rw [hyp] at hnext
            rcases acc with _ | ⟨⟨pl, pr⟩, ps⟩
            · repeat (first | refine Run.seq ?_ | refine Run.region ?_ | refine RunOps.nil ?_ | refine Run.skip ?_ | refine cT ?_ | refine cF ?_ | refine Run.block ?_ | refine Run.exit ?_)
              iterate 2 refine oX (frz := fA) Et_ok ?_
              refine oX (frz := fA) (v := .d (.int .i64 ((x % 3 : Nat) : Int))) Et_ok ?_ (he := rfl)
              refine oX (frz := fA) (v := .d (.bool true)) Et_ok ?_ (he := vT (by omega))
              iterate 4 refine oX (frz := fA) Et_ok ?_
              refine oX (frz := fA) Et_ok ?_
              refine oX (frz := fA) Et_ok ?_
              repeat (first | refine Run.seq ?_ | refine Run.region ?_ | refine RunOps.nil ?_ | refine Run.skip ?_ | refine cT ?_ | refine cF ?_ | refine Run.block ?_ | refine Run.exit ?_)
              refine oX (frz := fA) Et_ok ?_
              refine oX (frz := fA) (v := .d (.int .i64 ((16 + i : Nat) : Int))) Et_ok ?_ (he := vN (by omega) (by omega))
              iterate 3 refine oX (frz := fA) Et_ok ?_
              repeat (first | refine Run.seq ?_ | refine Run.region ?_ | refine RunOps.nil ?_ | refine Run.skip ?_ | refine cT ?_ | refine cF ?_ | refine Run.block ?_ | refine Run.exit ?_)
              iterate 2 refine oX (frz := fA) Et_ok ?_
              refine oX (frz := fA) (v := .d (.int .i64 ((3 * i : Nat) : Int))) Et_ok ?_ (he := vN (by omega) (by omega))
              refine oX (frz := fA) (v := .d (.int .i64 ((4 + 3 * i : Nat) : Int))) Et_ok ?_ (he := vN (by omega) (by omega))
              refine oX (frz := fA) Et_ok ?_
              refine oX (frz := fA) (v := .d (.int .i64 ((4 + 3 * i + j : Nat) : Int))) Et_ok ?_ (he := vN (by omega) (by omega))
              refine oC hat ?_
              refine oC hy ?_
              refine oX (frz := fA) Et_ok ?_
              repeat (first | refine Run.seq ?_ | refine Run.region ?_ | refine RunOps.nil ?_ | refine Run.skip ?_ | refine cT ?_ | refine cF ?_ | refine Run.block ?_ | refine Run.exit ?_)
              refine oX (frz := fA) Et_ok ?_
              repeat (first | refine Run.seq ?_ | refine Run.region ?_ | refine RunOps.nil ?_ | refine Run.skip ?_ | refine cT ?_ | refine cF ?_ | refine Run.block ?_ | refine Run.exit ?_)
              refine Run.loopT (fun z : Nat × List Int => ⟨PT.ofList [(0, .d (ints nums)), (2, .bp 0 0), (4, .bp 1 0), (5, .d (.int .i64 (M : Nat))), (6, .d (.int .i64 i)), (7, .d (.int .i64 x)), (8, .d (.int .i64 j)), (9, .bp 3 0), (10, .d (.int .i64 v)), (11, .d (.int .i64 z.1))], boxG0 :: boxA ((1 + k % 2 : Nat) : Int) (kTok k) (.sr 2 1 (m0 :: (ml ++ [DV.str [83 + i]]))) (.d .nilsl) :: .room (ml.length + 1 + 1) 1 :: .box [.d (.int .i64 ((16 + i : Nat) : Int)), rowA 4 1 (rgtD z.2)] :: rowO 1 (rgtD z.2), []⟩)
                (fun z => z.1 ≤ v % 4 ∧ z.2 = rgtTo T M v z.1) (fun z => v % 4 - z.1) (0, []) ⟨Nat.zero_le _, rfl⟩ (tidy_of (objs := _) _ 4 (by rfl) rfl (by repeat' (first | exact trivial | refine ⟨(Or.inl rfl), ?_⟩ | refine ⟨(Or.inr rfl), ?_⟩ | fail)) (by repeat' (first | exact trivial | refine ⟨rfl, ?_⟩ | fail)) rfl rfl) (fun z hz => ?_)
              obtain ⟨s, r⟩ := z
              obtain ⟨hs1, hs2⟩ := hz
              simp only at hs1 hs2 ⊢
              have hrl : r.length = s := by rw [hs2]; simp [rgtTo]
              rcases Nat.lt_or_ge s (v % 4) with hsl | hsg
              · have hnx : r ++ [((symN T M (zF v s) : Nat) : Int)] = rgtTo T M v (s + 1) := by rw [hs2]; simp [rgtTo, List.range_succ]
                rcases r with _ | ⟨r1, rr⟩
                · have hrl' := hrl
                  simp only [List.length_cons, List.length_nil] at hrl'
                  repeat (first | refine Run.seq ?_ | refine Run.region ?_ | refine RunOps.nil ?_ | refine Run.skip ?_ | refine cT ?_ | refine cF ?_ | refine Run.block ?_ | refine Run.exit ?_)
                  iterate 2 refine oX (frz := fA) Et_ok ?_
                  refine oX (frz := fA) (v := .d (.int .i64 ((v % 4 : Nat) : Int))) Et_ok ?_ (he := rfl)
                  refine oX (frz := fA) (v := .d (.bool true)) Et_ok ?_ (he := vT (by omega))
                  repeat (first | refine Run.seq ?_ | refine Run.region ?_ | refine RunOps.nil ?_ | refine Run.skip ?_ | refine cT ?_ | refine cF ?_ | refine Run.block ?_ | refine Run.exit ?_)
                  refine oX (frz := fA) Et_ok ?_
                  refine oX (frz := fA) (v := .d (.int .i64 ((v / 4 : Nat) : Int))) Et_ok ?_ (he := vN rfl (by omega))
                  refine oX (frz := fA) Et_ok ?_
                  refine oX (frz := fA) (v := .d (.int .i64 ((4 * s : Nat) : Int))) Et_ok ?_ (he := vN (by omega) (by omega))
                  refine oX (frz := fA) (v := .d (.int .u64 ((4 * s : Nat) : Int))) Et_ok ?_ (he := vU64 (by omega))
                  refine oX (frz := fA) (v := .d (.int .i64 ((v / 4 / 2 ^ (4 * s) : Nat) : Int))) Et_ok ?_ (hf := shrF (4 * s)) (he := congrArg (fun n => AV.d (.int .i64 n)) (shrN (by omega)))
                  refine oX (frz := fA) (v := .d (.int .i64 ((zF v s : Nat) : Int))) Et_ok ?_ (he := rfl)
                  refine oX (frz := fA) Et_ok ?_
                  repeat (first | refine Run.seq ?_ | refine Run.region ?_ | refine RunOps.nil ?_ | refine Run.skip ?_ | refine cT ?_ | refine cF ?_ | refine Run.block ?_ | refine Run.exit ?_)
                  refine oX (frz := fA) Et_ok ?_
                  refine oX (frz := fA) (v := .d (.int .i64 ((zF v s % 5 : Nat) : Int))) Et_ok ?_ (he := rfl)
                  by_cases h5 : zF v s % 5 < 3
                  · refine oX (frz := fA) (v := .d (.bool true)) Et_ok ?_ (he := vT (by omega))
                    have hsy : symN T M (zF v s) = zF v s % T := if_pos h5
                    rw [hsy] at hnx
                    repeat (first | refine Run.region ?_ | refine Run.seq ?_ | refine RunOps.nil ?_ | refine Run.skip ?_ | refine cT ?_ | refine cF ?_ | refine Run.block ?_ | refine Run.exit ?_ | refine eN ?_ | refine Run.draw (frz := fA) Et_ok (by kernel_rfl) ?_)
                    iterate 5 (first | refine oX (frz := fA) Et_ok ?_ | refine eX ?_)
                    first | refine oX (frz := fA) (v := .d (.int .i64 (T : Nat))) Et_ok ?_ (he := (by rw [hT, List.length_map])) | refine eX (v := .d (.int .i64 (T : Nat))) ?_ (he := (by rw [hT, List.length_map]))
                    refine eX (v := .d (.int .i64 ((zF v s % T : Nat) : Int))) ?_ (hf := by simp <;> omega) (he := rfl)
                    iterate 1 (first | refine oX (frz := fA) Et_ok ?_ | refine eX ?_)
                    first | refine oX (frz := fA) Et_ok ?_ (hv := app0) (hf := rfl) (he := rfl) | refine eX ?_ (hv := app0) (hf := rfl) (he := rfl)
                    iterate 2 (first | refine oX (frz := fA) Et_ok ?_ | refine eX ?_)
                    repeat (first | refine Run.region ?_ | refine Run.seq ?_ | refine RunOps.nil ?_ | refine Run.skip ?_ | refine cT ?_ | refine cF ?_ | refine Run.block ?_ | refine Run.exit ?_ | refine eN ?_ | refine Run.draw (frz := fA) Et_ok (by kernel_rfl) ?_)
                    refine oX (frz := fA) Et_ok ?_
                    refine oX (frz := fA) (v := .d (.int .i64 ((s + 1 : Nat) : Int))) Et_ok ?_ (he := vN (by omega) (by omega))
                    refine oX (frz := fA) Et_ok ?_
                    repeat (first | refine Run.seq ?_ | refine Run.region ?_ | refine RunOps.nil ?_ | refine Run.skip ?_ | refine cT ?_ | refine cF ?_ | refine Run.block ?_ | refine Run.exit ?_)
                    exact ⟨(s + 1, _), ⟨hsl, hnx⟩, by simp only <;> omega, (tidy_of (objs := _) _ 5 (by rfl) rfl (by repeat' (first | exact trivial | refine ⟨(Or.inl rfl), ?_⟩ | refine ⟨(Or.inr rfl), ?_⟩ | fail)) (by repeat' (first | exact trivial | refine ⟨rfl, ?_⟩ | fail)) rfl rfl)⟩
                  · refine oX (frz := fA) (v := .d (.bool false)) Et_ok ?_ (he := vF (by omega))
                    have hsy : symN T M (zF v s) = 16 + zF v s % M := if_neg h5
                    rw [hsy] at hnx
                    repeat (first | refine Run.region ?_ | refine Run.seq ?_ | refine RunOps.nil ?_ | refine Run.skip ?_ | refine cT ?_ | refine cF ?_ | refine Run.block ?_ | refine Run.exit ?_ | refine eN ?_ | refine Run.draw (frz := fA) Et_ok (by kernel_rfl) ?_)
                    iterate 4 (first | refine oX (frz := fA) Et_ok ?_ | refine eX ?_)
                    refine eX (v := .d (.int .i64 ((zF v s % M : Nat) : Int))) ?_ (hf := by simp <;> omega) (he := rfl)
                    first | refine oX (frz := fA) (v := .d (.int .i64 ((16 + zF v s % M : Nat) : Int))) Et_ok ?_ (he := (vN (by omega) (by have := Nat.mod_lt (zF v s) (show 0 < M by omega) <;> omega))) | refine eX (v := .d (.int .i64 ((16 + zF v s % M : Nat) : Int))) ?_ (he := (vN (by omega) (by have := Nat.mod_lt (zF v s) (show 0 < M by omega) <;> omega)))
                    iterate 1 (first | refine oX (frz := fA) Et_ok ?_ | refine eX ?_)
                    first | refine oX (frz := fA) Et_ok ?_ (hv := app0) (hf := rfl) (he := rfl) | refine eX ?_ (hv := app0) (hf := rfl) (he := rfl)
                    iterate 2 (first | refine oX (frz := fA) Et_ok ?_ | refine eX ?_)
                    repeat (first | refine Run.region ?_ | refine Run.seq ?_ | refine RunOps.nil ?_ | refine Run.skip ?_ | refine cT ?_ | refine cF ?_ | refine Run.block ?_ | refine Run.exit ?_ | refine eN ?_ | refine Run.draw (frz := fA) Et_ok (by kernel_rfl) ?_)
                    refine oX (frz := fA) Et_ok ?_
                    refine oX (frz := fA) (v := .d (.int .i64 ((s + 1 : Nat) : Int))) Et_ok ?_ (he := vN (by omega) (by omega))
                    refine oX (frz := fA) Et_ok ?_
                    repeat (first | refine Run.seq ?_ | refine Run.region ?_ | refine RunOps.nil ?_ | refine Run.skip ?_ | refine cT ?_ | refine cF ?_ | refine Run.block ?_ | refine Run.exit ?_)
                    exact ⟨(s + 1, _), ⟨hsl, hnx⟩, by simp only <;> omega, (tidy_of (objs := _) _ 5 (by rfl) rfl (by repeat' (first | exact trivial | refine ⟨(Or.inl rfl), ?_⟩ | refine ⟨(Or.inr rfl), ?_⟩ | fail)) (by repeat' (first | exact trivial | refine ⟨rfl, ?_⟩ | fail)) rfl rfl)⟩
                · have hrl' := hrl
                  simp only [List.length_cons, List.length_nil] at hrl'
                  repeat (first | refine Run.seq ?_ | refine Run.region ?_ | refine RunOps.nil ?_ | refine Run.skip ?_ | refine cT ?_ | refine cF ?_ | refine Run.block ?_ | refine Run.exit ?_)
                  iterate 2 refine oX (frz := fA) Et_ok ?_
                  refine oX (frz := fA) (v := .d (.int .i64 ((v % 4 : Nat) : Int))) Et_ok ?_ (he := rfl)
                  refine oX (frz := fA) (v := .d (.bool true)) Et_ok ?_ (he := vT (by omega))
                  repeat (first | refine Run.seq ?_ | refine Run.region ?_ | refine RunOps.nil ?_ | refine Run.skip ?_ | refine cT ?_ | refine cF ?_ | refine Run.block ?_ | refine Run.exit ?_)
                  refine oX (frz := fA) Et_ok ?_
                  refine oX (frz := fA) (v := .d (.int .i64 ((v / 4 : Nat) : Int))) Et_ok ?_ (he := vN rfl (by omega))
                  refine oX (frz := fA) Et_ok ?_
                  refine oX (frz := fA) (v := .d (.int .i64 ((4 * s : Nat) : Int))) Et_ok ?_ (he := vN (by omega) (by omega))
                  refine oX (frz := fA) (v := .d (.int .u64 ((4 * s : Nat) : Int))) Et_ok ?_ (he := vU64 (by omega))
                  refine oX (frz := fA) (v := .d (.int .i64 ((v / 4 / 2 ^ (4 * s) : Nat) : Int))) Et_ok ?_ (hf := shrF (4 * s)) (he := congrArg (fun n => AV.d (.int .i64 n)) (shrN (by omega)))
                  refine oX (frz := fA) (v := .d (.int .i64 ((zF v s : Nat) : Int))) Et_ok ?_ (he := rfl)
                  refine oX (frz := fA) Et_ok ?_
                  repeat (first | refine Run.seq ?_ | refine Run.region ?_ | refine RunOps.nil ?_ | refine Run.skip ?_ | refine cT ?_ | refine cF ?_ | refine Run.block ?_ | refine Run.exit ?_)
                  refine oX (frz := fA) Et_ok ?_
                  refine oX (frz := fA) (v := .d (.int .i64 ((zF v s % 5 : Nat) : Int))) Et_ok ?_ (he := rfl)
                  by_cases h5 : zF v s % 5 < 3
                  · refine oX (frz := fA) (v := .d (.bool true)) Et_ok ?_ (he := vT (by omega))
                    have hsy : symN T M (zF v s) = zF v s % T := if_pos h5
                    rw [hsy] at hnx
                    repeat (first | refine Run.region ?_ | refine Run.seq ?_ | refine RunOps.nil ?_ | refine Run.skip ?_ | refine cT ?_ | refine cF ?_ | refine Run.block ?_ | refine Run.exit ?_ | refine eN ?_ | refine Run.draw (frz := fA) Et_ok (by kernel_rfl) ?_)
                    iterate 5 (first | refine oX (frz := fA) Et_ok ?_ | refine eX ?_)
                    first | refine oX (frz := fA) (v := .d (.int .i64 (T : Nat))) Et_ok ?_ (he := (by rw [hT, List.length_map])) | refine eX (v := .d (.int .i64 (T : Nat))) ?_ (he := (by rw [hT, List.length_map]))
                    refine eX (v := .d (.int .i64 ((zF v s % T : Nat) : Int))) ?_ (hf := by simp <;> omega) (he := rfl)
                    iterate 1 (first | refine oX (frz := fA) Et_ok ?_ | refine eX ?_)
                    first | refine oX (frz := fA) Et_ok ?_ (hv := app1) (hf := rfl) (he := rfl) | refine eX ?_ (hv := app1) (hf := rfl) (he := rfl)
                    iterate 2 (first | refine oX (frz := fA) Et_ok ?_ | refine eX ?_)
                    repeat (first | refine Run.region ?_ | refine Run.seq ?_ | refine RunOps.nil ?_ | refine Run.skip ?_ | refine cT ?_ | refine cF ?_ | refine Run.block ?_ | refine Run.exit ?_ | refine eN ?_ | refine Run.draw (frz := fA) Et_ok (by kernel_rfl) ?_)
                    refine oX (frz := fA) Et_ok ?_
                    refine oX (frz := fA) (v := .d (.int .i64 ((s + 1 : Nat) : Int))) Et_ok ?_ (he := vN (by omega) (by omega))
                    refine oX (frz := fA) Et_ok ?_
                    repeat (first | refine Run.seq ?_ | refine Run.region ?_ | refine RunOps.nil ?_ | refine Run.skip ?_ | refine cT ?_ | refine cF ?_ | refine Run.block ?_ | refine Run.exit ?_)
                    exact ⟨(s + 1, _), ⟨hsl, hnx⟩, by simp only <;> omega, (tidy_of (objs := _) _ 5 (by first | rfl | (simp only [rowO, rgtD, List.map_append, List.map_cons, List.map_nil, List.cons_append, List.length_append, List.length_cons, List.length_nil] <;> rfl)) rfl (by repeat' (first | exact trivial | refine ⟨(Or.inl rfl), ?_⟩ | refine ⟨(Or.inr rfl), ?_⟩ | fail)) (by repeat' (first | exact trivial | refine ⟨rfl, ?_⟩ | fail)) rfl rfl)⟩
                  · refine oX (frz := fA) (v := .d (.bool false)) Et_ok ?_ (he := vF (by omega))
                    have hsy : symN T M (zF v s) = 16 + zF v s % M := if_neg h5
                    rw [hsy] at hnx
                    repeat (first | refine Run.region ?_ | refine Run.seq ?_ | refine RunOps.nil ?_ | refine Run.skip ?_ | refine cT ?_ | refine cF ?_ | refine Run.block ?_ | refine Run.exit ?_ | refine eN ?_ | refine Run.draw (frz := fA) Et_ok (by kernel_rfl) ?_)
                    iterate 4 (first | refine oX (frz := fA) Et_ok ?_ | refine eX ?_)
                    refine eX (v := .d (.int .i64 ((zF v s % M : Nat) : Int))) ?_ (hf := by simp <;> omega) (he := rfl)
                    first | refine oX (frz := fA) (v := .d (.int .i64 ((16 + zF v s % M : Nat) : Int))) Et_ok ?_ (he := (vN (by omega) (by have := Nat.mod_lt (zF v s) (show 0 < M by omega) <;> omega))) | refine eX (v := .d (.int .i64 ((16 + zF v s % M : Nat) : Int))) ?_ (he := (vN (by omega) (by have := Nat.mod_lt (zF v s) (show 0 < M by omega) <;> omega)))
                    iterate 1 (first | refine oX (frz := fA) Et_ok ?_ | refine eX ?_)
                    first | refine oX (frz := fA) Et_ok ?_ (hv := app1) (hf := rfl) (he := rfl) | refine eX ?_ (hv := app1) (hf := rfl) (he := rfl)
                    iterate 2 (first | refine oX (frz := fA) Et_ok ?_ | refine eX ?_)
                    repeat (first | refine Run.region ?_ | refine Run.seq ?_ | refine RunOps.nil ?_ | refine Run.skip ?_ | refine cT ?_ | refine cF ?_ | refine Run.block ?_ | refine Run.exit ?_ | refine eN ?_ | refine Run.draw (frz := fA) Et_ok (by kernel_rfl) ?_)
                    refine oX (frz := fA) Et_ok ?_
                    refine oX (frz := fA) (v := .d (.int .i64 ((s + 1 : Nat) : Int))) Et_ok ?_ (he := vN (by omega) (by omega))
                    refine oX (frz := fA) Et_ok ?_
                    repeat (first | refine Run.seq ?_ | refine Run.region ?_ | refine RunOps.nil ?_ | refine Run.skip ?_ | refine cT ?_ | refine cF ?_ | refine Run.block ?_ | refine Run.exit ?_)
                    exact ⟨(s + 1, _), ⟨hsl, hnx⟩, by simp only <;> omega, (tidy_of (objs := _) _ 5 (by first | rfl | (simp only [rowO, rgtD, List.map_append, List.map_cons, List.map_nil, List.cons_append, List.length_append, List.length_cons, List.length_nil] <;> rfl)) rfl (by repeat' (first | exact trivial | refine ⟨(Or.inl rfl), ?_⟩ | refine ⟨(Or.inr rfl), ?_⟩ | fail)) (by repeat' (first | exact trivial | refine ⟨rfl, ?_⟩ | fail)) rfl rfl)⟩
              · have hse : s = v % 4 := by omega
                rw [hse] at hs2
                rw [← hs2] at hnext
                rcases r with _ | ⟨r1, rr⟩
                · repeat (first | refine Run.seq ?_ | refine Run.region ?_ | refine RunOps.nil ?_ | refine Run.skip ?_ | refine cT ?_ | refine cF ?_ | refine Run.block ?_ | refine Run.exit ?_)
                  iterate 2 refine oX (frz := fA) Et_ok ?_
                  refine oX (frz := fA) (v := .d (.int .i64 ((v % 4 : Nat) : Int))) Et_ok ?_ (he := rfl)
                  refine oX (frz := fA) (v := .d (.bool false)) Et_ok ?_ (he := vF (by omega))
                  repeat (first | refine Run.seq ?_ | refine Run.region ?_ | refine RunOps.nil ?_ | refine Run.skip ?_ | refine cT ?_ | refine cF ?_ | refine Run.block ?_ | refine Run.exit ?_)
                  iterate 3 refine oX (frz := fA) Et_ok ?_
                  first | refine Run.tidy (tidy_of (objs := _) [(0, .d (ints nums)), (2, .bp 0 0), (4, .bp 1 0), (5, .d (.int .i64 (M : Nat))), (6, .d (.int .i64 i)), (7, .d (.int .i64 x)), (8, .d (.int .i64 j)), (109, .d .nilsl), (110, .d (encN (⟨((16 + i : Nat) : Int), []⟩ : GProd)))] 4 (Eq.trans (b := boxG0 :: boxA ((1 + k % 2 : Nat) : Int) (kTok k) (.sr 2 1 (m0 :: (ml ++ [DV.str [83 + i]]))) (.d .nilsl) :: .room (ml.length + 1 + 1) 1 :: [.box [.d (.int .i64 ((16 + i : Nat) : Int)), .d .nilsl]]) rfl rfl) rfl (by repeat' (first | exact trivial | refine ⟨(Or.inl rfl), ?_⟩ | refine ⟨(Or.inr rfl), ?_⟩ | refine ⟨rfl, ?_⟩ | fail)) (by repeat' (first | exact trivial | refine ⟨(Or.inl rfl), ?_⟩ | refine ⟨(Or.inr rfl), ?_⟩ | refine ⟨rfl, ?_⟩ | fail)) rfl rfl) ?_ | refine RunOps.tidy (tidy_of (objs := _) [(0, .d (ints nums)), (2, .bp 0 0), (4, .bp 1 0), (5, .d (.int .i64 (M : Nat))), (6, .d (.int .i64 i)), (7, .d (.int .i64 x)), (8, .d (.int .i64 j)), (109, .d .nilsl), (110, .d (encN (⟨((16 + i : Nat) : Int), []⟩ : GProd)))] 4 (Eq.trans (b := boxG0 :: boxA ((1 + k % 2 : Nat) : Int) (kTok k) (.sr 2 1 (m0 :: (ml ++ [DV.str [83 + i]]))) (.d .nilsl) :: .room (ml.length + 1 + 1) 1 :: [.box [.d (.int .i64 ((16 + i : Nat) : Int)), .d .nilsl]]) rfl rfl) rfl (by repeat' (first | exact trivial | refine ⟨(Or.inl rfl), ?_⟩ | refine ⟨(Or.inr rfl), ?_⟩ | refine ⟨rfl, ?_⟩ | fail)) (by repeat' (first | exact trivial | refine ⟨(Or.inl rfl), ?_⟩ | refine ⟨(Or.inr rfl), ?_⟩ | refine ⟨rfl, ?_⟩ | fail)) rfl rfl) ?_
                  refine oX (frz := fA) Et_ok ?_
                  first | refine oX (frz := fA) Et_ok ?_ (hv := app0) (hf := rfl) (he := rfl) | refine eX ?_ (hv := app0) (hf := rfl) (he := rfl)
                  iterate 2 refine oX (frz := fA) Et_ok ?_
                  repeat (first | refine Run.seq ?_ | refine Run.region ?_ | refine RunOps.nil ?_ | refine Run.skip ?_ | refine cT ?_ | refine cF ?_ | refine Run.block ?_ | refine Run.exit ?_)
                  refine oX (frz := fA) Et_ok ?_
                  refine oX (frz := fA) (v := .d (.int .i64 ((j + 1 : Nat) : Int))) Et_ok ?_ (he := vN (by omega) (by omega))
                  refine oX (frz := fA) Et_ok ?_
                  repeat (first | refine Run.seq ?_ | refine Run.region ?_ | refine RunOps.nil ?_ | refine Run.skip ?_ | refine cT ?_ | refine cF ?_ | refine Run.block ?_ | refine Run.exit ?_)
                  exact ⟨(j + 1, [(⟨((16 + i : Nat) : Int), []⟩ : GProd)]), ⟨by simp only <;> omega, hnext, by simp at hjb ⊢ <;> omega⟩, by simp only <;> omega, (tidy_of (objs := _) _ 5 (Eq.trans (b := boxG0 :: boxA ((1 + k % 2 : Nat) : Int) (kTok k) (.sr 2 1 (m0 :: (ml ++ [DV.str [83 + i]]))) (.sr 4 2 [encN (⟨((16 + i : Nat) : Int), []⟩ : GProd)]) :: .room (ml.length + 1 + 1) 1 :: [.box [.d (.int .i64 ((16 + i : Nat) : Int)), .d .nilsl], .room 1 2]) rfl (by first | rfl | (simp [psA, psO, psI, rowA, rowO, rgtD] <;> fail))) rfl (by repeat' (first | exact trivial | refine ⟨(Or.inl rfl), ?_⟩ | refine ⟨(Or.inr rfl), ?_⟩ | fail)) (by repeat' (first | exact trivial | refine ⟨rfl, ?_⟩ | fail)) rfl rfl)⟩
                · repeat (first | refine Run.seq ?_ | refine Run.region ?_ | refine RunOps.nil ?_ | refine Run.skip ?_ | refine cT ?_ | refine cF ?_ | refine Run.block ?_ | refine Run.exit ?_)
                  iterate 2 refine oX (frz := fA) Et_ok ?_
                  refine oX (frz := fA) (v := .d (.int .i64 ((v % 4 : Nat) : Int))) Et_ok ?_ (he := rfl)
                  refine oX (frz := fA) (v := .d (.bool false)) Et_ok ?_ (he := vF (by omega))
                  repeat (first | refine Run.seq ?_ | refine Run.region ?_ | refine RunOps.nil ?_ | refine Run.skip ?_ | refine cT ?_ | refine cF ?_ | refine Run.block ?_ | refine Run.exit ?_)
                  iterate 3 refine oX (frz := fA) Et_ok ?_
                  first | refine Run.tidy (tidy_of (objs := _) [(0, .d (ints nums)), (2, .bp 0 0), (4, .bp 1 0), (5, .d (.int .i64 (M : Nat))), (6, .d (.int .i64 i)), (7, .d (.int .i64 x)), (8, .d (.int .i64 j)), (109, .d .nilsl), (110, .d (encN (⟨((16 + i : Nat) : Int), r1 :: rr⟩ : GProd)))] 5 (Eq.trans (b := boxG0 :: boxA ((1 + k % 2 : Nat) : Int) (kTok k) (.sr 2 1 (m0 :: (ml ++ [DV.str [83 + i]]))) (.d .nilsl) :: .room (ml.length + 1 + 1) 1 :: .box [.d (.int .i64 ((16 + i : Nat) : Int)), .sr 4 1 (rgtD (r1 :: rr))] :: [.room ((rgtD rr).length + 1) 1]) rfl rfl) rfl (by repeat' (first | exact trivial | refine ⟨(Or.inl rfl), ?_⟩ | refine ⟨(Or.inr rfl), ?_⟩ | refine ⟨rfl, ?_⟩ | fail)) (by repeat' (first | exact trivial | refine ⟨(Or.inl rfl), ?_⟩ | refine ⟨(Or.inr rfl), ?_⟩ | refine ⟨rfl, ?_⟩ | fail)) rfl rfl) ?_ | refine RunOps.tidy (tidy_of (objs := _) [(0, .d (ints nums)), (2, .bp 0 0), (4, .bp 1 0), (5, .d (.int .i64 (M : Nat))), (6, .d (.int .i64 i)), (7, .d (.int .i64 x)), (8, .d (.int .i64 j)), (109, .d .nilsl), (110, .d (encN (⟨((16 + i : Nat) : Int), r1 :: rr⟩ : GProd)))] 5 (Eq.trans (b := boxG0 :: boxA ((1 + k % 2 : Nat) : Int) (kTok k) (.sr 2 1 (m0 :: (ml ++ [DV.str [83 + i]]))) (.d .nilsl) :: .room (ml.length + 1 + 1) 1 :: .box [.d (.int .i64 ((16 + i : Nat) : Int)), .sr 4 1 (rgtD (r1 :: rr))] :: [.room ((rgtD rr).length + 1) 1]) rfl rfl) rfl (by repeat' (first | exact trivial | refine ⟨(Or.inl rfl), ?_⟩ | refine ⟨(Or.inr rfl), ?_⟩ | refine ⟨rfl, ?_⟩ | fail)) (by repeat' (first | exact trivial | refine ⟨(Or.inl rfl), ?_⟩ | refine ⟨(Or.inr rfl), ?_⟩ | refine ⟨rfl, ?_⟩ | fail)) rfl rfl) ?_
                  refine oX (frz := fA) Et_ok ?_
                  first | refine oX (frz := fA) Et_ok ?_ (hv := app0) (hf := rfl) (he := rfl) | refine eX ?_ (hv := app0) (hf := rfl) (he := rfl)
                  iterate 2 refine oX (frz := fA) Et_ok ?_
                  repeat (first | refine Run.seq ?_ | refine Run.region ?_ | refine RunOps.nil ?_ | refine Run.skip ?_ | refine cT ?_ | refine cF ?_ | refine Run.block ?_ | refine Run.exit ?_)
                  refine oX (frz := fA) Et_ok ?_
                  refine oX (frz := fA) (v := .d (.int .i64 ((j + 1 : Nat) : Int))) Et_ok ?_ (he := vN (by omega) (by omega))
                  refine oX (frz := fA) Et_ok ?_
                  repeat (first | refine Run.seq ?_ | refine Run.region ?_ | refine RunOps.nil ?_ | refine Run.skip ?_ | refine cT ?_ | refine cF ?_ | refine Run.block ?_ | refine Run.exit ?_)
                  exact ⟨(j + 1, [(⟨((16 + i : Nat) : Int), r1 :: rr⟩ : GProd)]), ⟨by simp only <;> omega, hnext, by simp at hjb ⊢ <;> omega⟩, by simp only <;> omega, (tidy_of (objs := _) _ 6 (Eq.trans (b := boxG0 :: boxA ((1 + k % 2 : Nat) : Int) (kTok k) (.sr 2 1 (m0 :: (ml ++ [DV.str [83 + i]]))) (.sr 5 2 [encN (⟨((16 + i : Nat) : Int), r1 :: rr⟩ : GProd)]) :: .room (ml.length + 1 + 1) 1 :: .box [.d (.int .i64 ((16 + i : Nat) : Int)), .sr 4 1 (rgtD (r1 :: rr))] :: [.room ((rgtD rr).length + 1) 1, .room 1 2]) rfl (by first | rfl | (simp [psA, psO, psI, rowA, rowO, rgtD] <;> fail))) rfl (by repeat' (first | exact trivial | refine ⟨(Or.inl rfl), ?_⟩ | refine ⟨(Or.inr rfl), ?_⟩ | fail)) (by repeat' (first | exact trivial | refine ⟨rfl, ?_⟩ | fail)) rfl rfl)⟩
            · rcases pr with _ | ⟨r0, rl⟩
              · have hjc : ps.length + 1 < 7 := by simpa using hjb
                repeat (first | refine Run.seq ?_ | refine Run.region ?_ | refine RunOps.nil ?_ | refine Run.skip ?_ | refine cT ?_ | refine cF ?_ | refine Run.block ?_ | refine Run.exit ?_)
                iterate 2 refine oX (frz := fA) Et_ok ?_
                refine oX (frz := fA) (v := .d (.int .i64 ((x % 3 : Nat) : Int))) Et_ok ?_ (he := rfl)
                refine oX (frz := fA) (v := .d (.bool true)) Et_ok ?_ (he := vT (by omega))
                iterate 4 refine oX (frz := fA) Et_ok ?_
                refine oX (frz := fA) (v := .d (.bool true)) Et_ok ?_ (he := vT (by simp at hjb ⊢ <;> omega))
                refine oX (frz := fA) Et_ok ?_
                repeat (first | refine Run.seq ?_ | refine Run.region ?_ | refine RunOps.nil ?_ | refine Run.skip ?_ | refine cT ?_ | refine cF ?_ | refine Run.block ?_ | refine Run.exit ?_)
                refine oX (frz := fA) Et_ok ?_
                refine oX (frz := fA) (v := .d (.int .i64 ((16 + i : Nat) : Int))) Et_ok ?_ (he := vN (by omega) (by omega))
                iterate 3 refine oX (frz := fA) Et_ok ?_
                repeat (first | refine Run.seq ?_ | refine Run.region ?_ | refine RunOps.nil ?_ | refine Run.skip ?_ | refine cT ?_ | refine cF ?_ | refine Run.block ?_ | refine Run.exit ?_)
                iterate 2 refine oX (frz := fA) Et_ok ?_
                refine oX (frz := fA) (v := .d (.int .i64 ((3 * i : Nat) : Int))) Et_ok ?_ (he := vN (by omega) (by omega))
                refine oX (frz := fA) (v := .d (.int .i64 ((4 + 3 * i : Nat) : Int))) Et_ok ?_ (he := vN (by omega) (by omega))
                refine oX (frz := fA) Et_ok ?_
                refine oX (frz := fA) (v := .d (.int .i64 ((4 + 3 * i + j : Nat) : Int))) Et_ok ?_ (he := vN (by omega) (by omega))
                refine oC hat ?_
                refine oC hy ?_
                refine oX (frz := fA) Et_ok ?_
                repeat (first | refine Run.seq ?_ | refine Run.region ?_ | refine RunOps.nil ?_ | refine Run.skip ?_ | refine cT ?_ | refine cF ?_ | refine Run.block ?_ | refine Run.exit ?_)
                refine oX (frz := fA) Et_ok ?_
                repeat (first | refine Run.seq ?_ | refine Run.region ?_ | refine RunOps.nil ?_ | refine Run.skip ?_ | refine cT ?_ | refine cF ?_ | refine Run.block ?_ | refine Run.exit ?_)
                refine Run.loopT (fun z : Nat × List Int => ⟨PT.ofList [(0, .d (ints nums)), (2, .bp 0 0), (4, .bp 1 0), (5, .d (.int .i64 (M : Nat))), (6, .d (.int .i64 i)), (7, .d (.int .i64 x)), (8, .d (.int .i64 j)), (9, .bp 5 0), (10, .d (.int .i64 v)), (11, .d (.int .i64 z.1))], boxG0 :: boxA ((1 + k % 2 : Nat) : Int) (kTok k) (.sr 2 1 (m0 :: (ml ++ [DV.str [83 + i]]))) (.sr 4 2 (encN ⟨pl, []⟩ :: ps.map encN)) :: .room (ml.length + 1 + 1) 1 :: .box [.d (.int .i64 pl), .d .nilsl] :: .room (ps.length + 1) 2 :: .box [.d (.int .i64 ((16 + i : Nat) : Int)), rowA 6 1 (rgtD z.2)] :: rowO 1 (rgtD z.2), []⟩)
                  (fun z => z.1 ≤ v % 4 ∧ z.2 = rgtTo T M v z.1) (fun z => v % 4 - z.1) (0, []) ⟨Nat.zero_le _, rfl⟩ (tidy_of (objs := _) _ 6 (by rfl) rfl (by repeat' (first | exact trivial | refine ⟨(Or.inl rfl), ?_⟩ | refine ⟨(Or.inr rfl), ?_⟩ | fail)) (by repeat' (first | exact trivial | refine ⟨rfl, ?_⟩ | fail)) rfl rfl) (fun z hz => ?_)
                obtain ⟨s, r⟩ := z
                obtain ⟨hs1, hs2⟩ := hz
                simp only at hs1 hs2 ⊢
                have hrl : r.length = s := by rw [hs2]; simp [rgtTo]
                rcases Nat.lt_or_ge s (v % 4) with hsl | hsg
                · have hnx : r ++ [((symN T M (zF v s) : Nat) : Int)] = rgtTo T M v (s + 1) := by rw [hs2]; simp [rgtTo, List.range_succ]
                  rcases r with _ | ⟨r1, rr⟩
                  · have hrl' := hrl
                    simp only [List.length_cons, List.length_nil] at hrl'
                    repeat (first | refine Run.seq ?_ | refine Run.region ?_ | refine RunOps.nil ?_ | refine Run.skip ?_ | refine cT ?_ | refine cF ?_ | refine Run.block ?_ | refine Run.exit ?_)
                    iterate 2 refine oX (frz := fA) Et_ok ?_
                    refine oX (frz := fA) (v := .d (.int .i64 ((v % 4 : Nat) : Int))) Et_ok ?_ (he := rfl)
                    refine oX (frz := fA) (v := .d (.bool true)) Et_ok ?_ (he := vT (by omega))
                    repeat (first | refine Run.seq ?_ | refine Run.region ?_ | refine RunOps.nil ?_ | refine Run.skip ?_ | refine cT ?_ | refine cF ?_ | refine Run.block ?_ | refine Run.exit ?_)
                    refine oX (frz := fA) Et_ok ?_
                    refine oX (frz := fA) (v := .d (.int .i64 ((v / 4 : Nat) : Int))) Et_ok ?_ (he := vN rfl (by omega))
                    refine oX (frz := fA) Et_ok ?_
                    refine oX (frz := fA) (v := .d (.int .i64 ((4 * s : Nat) : Int))) Et_ok ?_ (he := vN (by omega) (by omega))
                    refine oX (frz := fA) (v := .d (.int .u64 ((4 * s : Nat) : Int))) Et_ok ?_ (he := vU64 (by omega))
                    refine oX (frz := fA) (v := .d (.int .i64 ((v / 4 / 2 ^ (4 * s) : Nat) : Int))) Et_ok ?_ (hf := shrF (4 * s)) (he := congrArg (fun n => AV.d (.int .i64 n)) (shrN (by omega)))
                    refine oX (frz := fA) (v := .d (.int .i64 ((zF v s : Nat) : Int))) Et_ok ?_ (he := rfl)
                    refine oX (frz := fA) Et_ok ?_
                    repeat (first | refine Run.seq ?_ | refine Run.region ?_ | refine RunOps.nil ?_ | refine Run.skip ?_ | refine cT ?_ | refine cF ?_ | refine Run.block ?_ | refine Run.exit ?_)
                    refine oX (frz := fA) Et_ok ?_
                    refine oX (frz := fA) (v := .d (.int .i64 ((zF v s % 5 : Nat) : Int))) Et_ok ?_ (he := rfl)
                    by_cases h5 : zF v s % 5 < 3
                    · refine oX (frz := fA) (v := .d (.bool true)) Et_ok ?_ (he := vT (by omega))
                      have hsy : symN T M (zF v s) = zF v s % T := if_pos h5
                      rw [hsy] at hnx
                      repeat (first | refine Run.region ?_ | refine Run.seq ?_ | refine RunOps.nil ?_ | refine Run.skip ?_ | refine cT ?_ | refine cF ?_ | refine Run.block ?_ | refine Run.exit ?_ | refine eN ?_ | refine Run.draw (frz := fA) Et_ok (by kernel_rfl) ?_)
                      iterate 5 (first | refine oX (frz := fA) Et_ok ?_ | refine eX ?_)
                      first | refine oX (frz := fA) (v := .d (.int .i64 (T : Nat))) Et_ok ?_ (he := (by rw [hT, List.length_map])) | refine eX (v := .d (.int .i64 (T : Nat))) ?_ (he := (by rw [hT, List.length_map]))
                      refine eX (v := .d (.int .i64 ((zF v s % T : Nat) : Int))) ?_ (hf := by simp <;> omega) (he := rfl)
                      iterate 1 (first | refine oX (frz := fA) Et_ok ?_ | refine eX ?_)
                      first | refine oX (frz := fA) Et_ok ?_ (hv := app0) (hf := rfl) (he := rfl) | refine eX ?_ (hv := app0) (hf := rfl) (he := rfl)
                      iterate 2 (first | refine oX (frz := fA) Et_ok ?_ | refine eX ?_)
                      repeat (first | refine Run.region ?_ | refine Run.seq ?_ | refine RunOps.nil ?_ | refine Run.skip ?_ | refine cT ?_ | refine cF ?_ | refine Run.block ?_ | refine Run.exit ?_ | refine eN ?_ | refine Run.draw (frz := fA) Et_ok (by kernel_rfl) ?_)
                      refine oX (frz := fA) Et_ok ?_
                      refine oX (frz := fA) (v := .d (.int .i64 ((s + 1 : Nat) : Int))) Et_ok ?_ (he := vN (by omega) (by omega))
                      refine oX (frz := fA) Et_ok ?_
                      repeat (first | refine Run.seq ?_ | refine Run.region ?_ | refine RunOps.nil ?_ | refine Run.skip ?_ | refine cT ?_ | refine cF ?_ | refine Run.block ?_ | refine Run.exit ?_)
                      exact ⟨(s + 1, _), ⟨hsl, hnx⟩, by simp only <;> omega, (tidy_of (objs := _) _ 7 (by rfl) rfl (by repeat' (first | exact trivial | refine ⟨(Or.inl rfl), ?_⟩ | refine ⟨(Or.inr rfl), ?_⟩ | fail)) (by repeat' (first | exact trivial | refine ⟨rfl, ?_⟩ | fail)) rfl rfl)⟩
                    · refine oX (frz := fA) (v := .d (.bool false)) Et_ok ?_ (he := vF (by omega))
                      have hsy : symN T M (zF v s) = 16 + zF v s % M := if_neg h5
                      rw [hsy] at hnx
                      repeat (first | refine Run.region ?_ | refine Run.seq ?_ | refine RunOps.nil ?_ | refine Run.skip ?_ | refine cT ?_ | refine cF ?_ | refine Run.block ?_ | refine Run.exit ?_ | refine eN ?_ | refine Run.draw (frz := fA) Et_ok (by kernel_rfl) ?_)
                      iterate 4 (first | refine oX (frz := fA) Et_ok ?_ | refine eX ?_)
                      refine eX (v := .d (.int .i64 ((zF v s % M : Nat) : Int))) ?_ (hf := by simp <;> omega) (he := rfl)
                      first | refine oX (frz := fA) (v := .d (.int .i64 ((16 + zF v s % M : Nat) : Int))) Et_ok ?_ (he := (vN (by omega) (by have := Nat.mod_lt (zF v s) (show 0 < M by omega) <;> omega))) | refine eX (v := .d (.int .i64 ((16 + zF v s % M : Nat) : Int))) ?_ (he := (vN (by omega) (by have := Nat.mod_lt (zF v s) (show 0 < M by omega) <;> omega)))
                      iterate 1 (first | refine oX (frz := fA) Et_ok ?_ | refine eX ?_)
                      first | refine oX (frz := fA) Et_ok ?_ (hv := app0) (hf := rfl) (he := rfl) | refine eX ?_ (hv := app0) (hf := rfl) (he := rfl)
                      iterate 2 (first | refine oX (frz := fA) Et_ok ?_ | refine eX ?_)
                      repeat (first | refine Run.region ?_ | refine Run.seq ?_ | refine RunOps.nil ?_ | refine Run.skip ?_ | refine cT ?_ | refine cF ?_ | refine Run.block ?_ | refine Run.exit ?_ | refine eN ?_ | refine Run.draw (frz := fA) Et_ok (by kernel_rfl) ?_)
                      refine oX (frz := fA) Et_ok ?_
                      refine oX (frz := fA) (v := .d (.int .i64 ((s + 1 : Nat) : Int))) Et_ok ?_ (he := vN (by omega) (by omega))
                      refine oX (frz := fA) Et_ok ?_
                      repeat (first | refine Run.seq ?_ | refine Run.region ?_ | refine RunOps.nil ?_ | refine Run.skip ?_ | refine cT ?_ | refine cF ?_ | refine Run.block ?_ | refine Run.exit ?_)
                      exact ⟨(s + 1, _), ⟨hsl, hnx⟩, by simp only <;> omega, (tidy_of (objs := _) _ 7 (by rfl) rfl (by repeat' (first | exact trivial | refine ⟨(Or.inl rfl), ?_⟩ | refine ⟨(Or.inr rfl), ?_⟩ | fail)) (by repeat' (first | exact trivial | refine ⟨rfl, ?_⟩ | fail)) rfl rfl)⟩
                  · have hrl' := hrl
                    simp only [List.length_cons, List.length_nil] at hrl'
                    repeat (first | refine Run.seq ?_ | refine Run.region ?_ | refine RunOps.nil ?_ | refine Run.skip ?_ | refine cT ?_ | refine cF ?_ | refine Run.block ?_ | refine Run.exit ?_)
                    iterate 2 refine oX (frz := fA) Et_ok ?_
                    refine oX (frz := fA) (v := .d (.int .i64 ((v % 4 : Nat) : Int))) Et_ok ?_ (he := rfl)
                    refine oX (frz := fA) (v := .d (.bool true)) Et_ok ?_ (he := vT (by omega))
                    repeat (first | refine Run.seq ?_ | refine Run.region ?_ | refine RunOps.nil ?_ | refine Run.skip ?_ | refine cT ?_ | refine cF ?_ | refine Run.block ?_ | refine Run.exit ?_)
                    refine oX (frz := fA) Et_ok ?_
                    refine oX (frz := fA) (v := .d (.int .i64 ((v / 4 : Nat) : Int))) Et_ok ?_ (he := vN rfl (by omega))
                    refine oX (frz := fA) Et_ok ?_
                    refine oX (frz := fA) (v := .d (.int .i64 ((4 * s : Nat) : Int))) Et_ok ?_ (he := vN (by omega) (by omega))
                    refine oX (frz := fA) (v := .d (.int .u64 ((4 * s : Nat) : Int))) Et_ok ?_ (he := vU64 (by omega))
                    refine oX (frz := fA) (v := .d (.int .i64 ((v / 4 / 2 ^ (4 * s) : Nat) : Int))) Et_ok ?_ (hf := shrF (4 * s)) (he := congrArg (fun n => AV.d (.int .i64 n)) (shrN (by omega)))
                    refine oX (frz := fA) (v := .d (.int .i64 ((zF v s : Nat) : Int))) Et_ok ?_ (he := rfl)
                    refine oX (frz := fA) Et_ok ?_
                    repeat (first | refine Run.seq ?_ | refine Run.region ?_ | refine RunOps.nil ?_ | refine Run.skip ?_ | refine cT ?_ | refine cF ?_ | refine Run.block ?_ | refine Run.exit ?_)
                    refine oX (frz := fA) Et_ok ?_
                    refine oX (frz := fA) (v := .d (.int .i64 ((zF v s % 5 : Nat) : Int))) Et_ok ?_ (he := rfl)
                    by_cases h5 : zF v s % 5 < 3
                    · refine oX (frz := fA) (v := .d (.bool true)) Et_ok ?_ (he := vT (by omega))
                      have hsy : symN T M (zF v s) = zF v s % T := if_pos h5
                      rw [hsy] at hnx
                      repeat (first | refine Run.region ?_ | refine Run.seq ?_ | refine RunOps.nil ?_ | refine Run.skip ?_ | refine cT ?_ | refine cF ?_ | refine Run.block ?_ | refine Run.exit ?_ | refine eN ?_ | refine Run.draw (frz := fA) Et_ok (by kernel_rfl) ?_)
                      iterate 5 (first | refine oX (frz := fA) Et_ok ?_ | refine eX ?_)
                      first | refine oX (frz := fA) (v := .d (.int .i64 (T : Nat))) Et_ok ?_ (he := (by rw [hT, List.length_map])) | refine eX (v := .d (.int .i64 (T : Nat))) ?_ (he := (by rw [hT, List.length_map]))
                      refine eX (v := .d (.int .i64 ((zF v s % T : Nat) : Int))) ?_ (hf := by simp <;> omega) (he := rfl)
                      iterate 1 (first | refine oX (frz := fA) Et_ok ?_ | refine eX ?_)
                      first | refine oX (frz := fA) Et_ok ?_ (hv := app1) (hf := rfl) (he := rfl) | refine eX ?_ (hv := app1) (hf := rfl) (he := rfl)
                      iterate 2 (first | refine oX (frz := fA) Et_ok ?_ | refine eX ?_)
                      repeat (first | refine Run.region ?_ | refine Run.seq ?_ | refine RunOps.nil ?_ | refine Run.skip ?_ | refine cT ?_ | refine cF ?_ | refine Run.block ?_ | refine Run.exit ?_ | refine eN ?_ | refine Run.draw (frz := fA) Et_ok (by kernel_rfl) ?_)
                      refine oX (frz := fA) Et_ok ?_
                      refine oX (frz := fA) (v := .d (.int .i64 ((s + 1 : Nat) : Int))) Et_ok ?_ (he := vN (by omega) (by omega))
                      refine oX (frz := fA) Et_ok ?_
                      repeat (first | refine Run.seq ?_ | refine Run.region ?_ | refine RunOps.nil ?_ | refine Run.skip ?_ | refine cT ?_ | refine cF ?_ | refine Run.block ?_ | refine Run.exit ?_)
                      exact ⟨(s + 1, _), ⟨hsl, hnx⟩, by simp only <;> omega, (tidy_of (objs := _) _ 7 (by first | rfl | (simp only [rowO, rgtD, List.map_append, List.map_cons, List.map_nil, List.cons_append, List.length_append, List.length_cons, List.length_nil] <;> rfl)) rfl (by repeat' (first | exact trivial | refine ⟨(Or.inl rfl), ?_⟩ | refine ⟨(Or.inr rfl), ?_⟩ | fail)) (by repeat' (first | exact trivial | refine ⟨rfl, ?_⟩ | fail)) rfl rfl)⟩
                    · refine oX (frz := fA) (v := .d (.bool false)) Et_ok ?_ (he := vF (by omega))
                      have hsy : symN T M (zF v s) = 16 + zF v s % M := if_neg h5
                      rw [hsy] at hnx
                      repeat (first | refine Run.region ?_ | refine Run.seq ?_ | refine RunOps.nil ?_ | refine Run.skip ?_ | refine cT ?_ | refine cF ?_ | refine Run.block ?_ | refine Run.exit ?_ | refine eN ?_ | refine Run.draw (frz := fA) Et_ok (by kernel_rfl) ?_)
                      iterate 4 (first | refine oX (frz := fA) Et_ok ?_ | refine eX ?_)
                      refine eX (v := .d (.int .i64 ((zF v s % M : Nat) : Int))) ?_ (hf := by simp <;> omega) (he := rfl)
                      first | refine oX (frz := fA) (v := .d (.int .i64 ((16 + zF v s % M : Nat) : Int))) Et_ok ?_ (he := (vN (by omega) (by have := Nat.mod_lt (zF v s) (show 0 < M by omega) <;> omega))) | refine eX (v := .d (.int .i64 ((16 + zF v s % M : Nat) : Int))) ?_ (he := (vN (by omega) (by have := Nat.mod_lt (zF v s) (show 0 < M by omega) <;> omega)))
                      iterate 1 (first | refine oX (frz := fA) Et_ok ?_ | refine eX ?_)
                      first | refine oX (frz := fA) Et_ok ?_ (hv := app1) (hf := rfl) (he := rfl) | refine eX ?_ (hv := app1) (hf := rfl) (he := rfl)
                      iterate 2 (first | refine oX (frz := fA) Et_ok ?_ | refine eX ?_)
                      repeat (first | refine Run.region ?_ | refine Run.seq ?_ | refine RunOps.nil ?_ | refine Run.skip ?_ | refine cT ?_ | refine cF ?_ | refine Run.block ?_ | refine Run.exit ?_ | refine eN ?_ | refine Run.draw (frz := fA) Et_ok (by kernel_rfl) ?_)
                      refine oX (frz := fA) Et_ok ?_
                      refine oX (frz := fA) (v := .d (.int .i64 ((s + 1 : Nat) : Int))) Et_ok ?_ (he := vN (by omega) (by omega))
                      refine oX (frz := fA) Et_ok ?_
                      repeat (first | refine Run.seq ?_ | refine Run.region ?_ | refine RunOps.nil ?_ | refine Run.skip ?_ | refine cT ?_ | refine cF ?_ | refine Run.block ?_ | refine Run.exit ?_)
                      exact ⟨(s + 1, _), ⟨hsl, hnx⟩, by simp only <;> omega, (tidy_of (objs := _) _ 7 (by first | rfl | (simp only [rowO, rgtD, List.map_append, List.map_cons, List.map_nil, List.cons_append, List.length_append, List.length_cons, List.length_nil] <;> rfl)) rfl (by repeat' (first | exact trivial | refine ⟨(Or.inl rfl), ?_⟩ | refine ⟨(Or.inr rfl), ?_⟩ | fail)) (by repeat' (first | exact trivial | refine ⟨rfl, ?_⟩ | fail)) rfl rfl)⟩
                · have hse : s = v % 4 := by omega
                  rw [hse] at hs2
                  rw [← hs2] at hnext
                  rcases r with _ | ⟨r1, rr⟩
                  · repeat (first | refine Run.seq ?_ | refine Run.region ?_ | refine RunOps.nil ?_ | refine Run.skip ?_ | refine cT ?_ | refine cF ?_ | refine Run.block ?_ | refine Run.exit ?_)
                    iterate 2 refine oX (frz := fA) Et_ok ?_
                    refine oX (frz := fA) (v := .d (.int .i64 ((v % 4 : Nat) : Int))) Et_ok ?_ (he := rfl)
                    refine oX (frz := fA) (v := .d (.bool false)) Et_ok ?_ (he := vF (by omega))
                    repeat (first | refine Run.seq ?_ | refine Run.region ?_ | refine RunOps.nil ?_ | refine Run.skip ?_ | refine cT ?_ | refine cF ?_ | refine Run.block ?_ | refine Run.exit ?_)
                    iterate 3 refine oX (frz := fA) Et_ok ?_
                    first | refine Run.tidy (tidy_of (objs := _) [(0, .d (ints nums)), (2, .bp 0 0), (4, .bp 1 0), (5, .d (.int .i64 (M : Nat))), (6, .d (.int .i64 i)), (7, .d (.int .i64 x)), (8, .d (.int .i64 j)), (109, .sr 4 2 (encN ⟨pl, []⟩ :: ps.map encN)), (110, .d (encN (⟨((16 + i : Nat) : Int), []⟩ : GProd)))] 6 (Eq.trans (b := boxG0 :: boxA ((1 + k % 2 : Nat) : Int) (kTok k) (.sr 2 1 (m0 :: (ml ++ [DV.str [83 + i]]))) (.sr 4 2 (encN ⟨pl, []⟩ :: ps.map encN)) :: .room (ml.length + 1 + 1) 1 :: .box [.d (.int .i64 pl), .d .nilsl] :: .room (ps.length + 1) 2 :: [.box [.d (.int .i64 ((16 + i : Nat) : Int)), .d .nilsl]]) rfl rfl) rfl (by repeat' (first | exact trivial | refine ⟨(Or.inl rfl), ?_⟩ | refine ⟨(Or.inr rfl), ?_⟩ | refine ⟨rfl, ?_⟩ | fail)) (by repeat' (first | exact trivial | refine ⟨(Or.inl rfl), ?_⟩ | refine ⟨(Or.inr rfl), ?_⟩ | refine ⟨rfl, ?_⟩ | fail)) rfl rfl) ?_ | refine RunOps.tidy (tidy_of (objs := _) [(0, .d (ints nums)), (2, .bp 0 0), (4, .bp 1 0), (5, .d (.int .i64 (M : Nat))), (6, .d (.int .i64 i)), (7, .d (.int .i64 x)), (8, .d (.int .i64 j)), (109, .sr 4 2 (encN ⟨pl, []⟩ :: ps.map encN)), (110, .d (encN (⟨((16 + i : Nat) : Int), []⟩ : GProd)))] 6 (Eq.trans (b := boxG0 :: boxA ((1 + k % 2 : Nat) : Int) (kTok k) (.sr 2 1 (m0 :: (ml ++ [DV.str [83 + i]]))) (.sr 4 2 (encN ⟨pl, []⟩ :: ps.map encN)) :: .room (ml.length + 1 + 1) 1 :: .box [.d (.int .i64 pl), .d .nilsl] :: .room (ps.length + 1) 2 :: [.box [.d (.int .i64 ((16 + i : Nat) : Int)), .d .nilsl]]) rfl rfl) rfl (by repeat' (first | exact trivial | refine ⟨(Or.inl rfl), ?_⟩ | refine ⟨(Or.inr rfl), ?_⟩ | refine ⟨rfl, ?_⟩ | fail)) (by repeat' (first | exact trivial | refine ⟨(Or.inl rfl), ?_⟩ | refine ⟨(Or.inr rfl), ?_⟩ | refine ⟨rfl, ?_⟩ | fail)) rfl rfl) ?_
                    refine oX (frz := fA) Et_ok ?_
                    first | refine oX (frz := fA) Et_ok ?_ (hv := app1) (hf := rfl) (he := rfl) | refine eX ?_ (hv := app1) (hf := rfl) (he := rfl)
                    iterate 2 refine oX (frz := fA) Et_ok ?_
                    repeat (first | refine Run.seq ?_ | refine Run.region ?_ | refine RunOps.nil ?_ | refine Run.skip ?_ | refine cT ?_ | refine cF ?_ | refine Run.block ?_ | refine Run.exit ?_)
                    refine oX (frz := fA) Et_ok ?_
                    refine oX (frz := fA) (v := .d (.int .i64 ((j + 1 : Nat) : Int))) Et_ok ?_ (he := vN (by omega) (by omega))
                    refine oX (frz := fA) Et_ok ?_
                    repeat (first | refine Run.seq ?_ | refine Run.region ?_ | refine RunOps.nil ?_ | refine Run.skip ?_ | refine cT ?_ | refine cF ?_ | refine Run.block ?_ | refine Run.exit ?_)
                    exact ⟨(j + 1, ⟨pl, []⟩ :: (ps ++ [(⟨((16 + i : Nat) : Int), []⟩ : GProd)])), ⟨by simp only <;> omega, hnext, by simp at hjb ⊢ <;> omega⟩, by simp only <;> omega, (tidy_of (objs := _) _ 5 (Eq.trans (b := boxG0 :: boxA ((1 + k % 2 : Nat) : Int) (kTok k) (.sr 2 1 (m0 :: (ml ++ [DV.str [83 + i]]))) (.sr 4 2 (encN ⟨pl, []⟩ :: (ps.map encN ++ [encN (⟨((16 + i : Nat) : Int), []⟩ : GProd)]))) :: .room (ml.length + 1 + 1) 1 :: .box [.d (.int .i64 pl), .d .nilsl] :: [.room (ps.length + 1 + 1) 2]) rfl (by first | rfl | (simp [psA, psO, psI, rowA, rowO, rgtD] <;> fail))) rfl (by repeat' (first | exact trivial | refine ⟨(Or.inl rfl), ?_⟩ | refine ⟨(Or.inr rfl), ?_⟩ | fail)) (by repeat' (first | exact trivial | refine ⟨rfl, ?_⟩ | fail)) rfl rfl)⟩
                  · repeat (first | refine Run.seq ?_ | refine Run.region ?_ | refine RunOps.nil ?_ | refine Run.skip ?_ | refine cT ?_ | refine cF ?_ | refine Run.block ?_ | refine Run.exit ?_)
                    iterate 2 refine oX (frz := fA) Et_ok ?_
                    refine oX (frz := fA) (v := .d (.int .i64 ((v % 4 : Nat) : Int))) Et_ok ?_ (he := rfl)
                    refine oX (frz := fA) (v := .d (.bool false)) Et_ok ?_ (he := vF (by omega))
                    repeat (first | refine Run.seq ?_ | refine Run.region ?_ | refine RunOps.nil ?_ | refine Run.skip ?_ | refine cT ?_ | refine cF ?_ | refine Run.block ?_ | refine Run.exit ?_)
                    iterate 3 refine oX (frz := fA) Et_ok ?_
                    first | refine Run.tidy (tidy_of (objs := _) [(0, .d (ints nums)), (2, .bp 0 0), (4, .bp 1 0), (5, .d (.int .i64 (M : Nat))), (6, .d (.int .i64 i)), (7, .d (.int .i64 x)), (8, .d (.int .i64 j)), (109, .sr 4 2 (encN ⟨pl, []⟩ :: ps.map encN)), (110, .d (encN (⟨((16 + i : Nat) : Int), r1 :: rr⟩ : GProd)))] 7 (Eq.trans (b := boxG0 :: boxA ((1 + k % 2 : Nat) : Int) (kTok k) (.sr 2 1 (m0 :: (ml ++ [DV.str [83 + i]]))) (.sr 4 2 (encN ⟨pl, []⟩ :: ps.map encN)) :: .room (ml.length + 1 + 1) 1 :: .box [.d (.int .i64 pl), .d .nilsl] :: .room (ps.length + 1) 2 :: .box [.d (.int .i64 ((16 + i : Nat) : Int)), .sr 6 1 (rgtD (r1 :: rr))] :: [.room ((rgtD rr).length + 1) 1]) rfl rfl) rfl (by repeat' (first | exact trivial | refine ⟨(Or.inl rfl), ?_⟩ | refine ⟨(Or.inr rfl), ?_⟩ | refine ⟨rfl, ?_⟩ | fail)) (by repeat' (first | exact trivial | refine ⟨(Or.inl rfl), ?_⟩ | refine ⟨(Or.inr rfl), ?_⟩ | refine ⟨rfl, ?_⟩ | fail)) rfl rfl) ?_ | refine RunOps.tidy (tidy_of (objs := _) [(0, .d (ints nums)), (2, .bp 0 0), (4, .bp 1 0), (5, .d (.int .i64 (M : Nat))), (6, .d (.int .i64 i)), (7, .d (.int .i64 x)), (8, .d (.int .i64 j)), (109, .sr 4 2 (encN ⟨pl, []⟩ :: ps.map encN)), (110, .d (encN (⟨((16 + i : Nat) : Int), r1 :: rr⟩ : GProd)))] 7 (Eq.trans (b := boxG0 :: boxA ((1 + k % 2 : Nat) : Int) (kTok k) (.sr 2 1 (m0 :: (ml ++ [DV.str [83 + i]]))) (.sr 4 2 (encN ⟨pl, []⟩ :: ps.map encN)) :: .room (ml.length + 1 + 1) 1 :: .box [.d (.int .i64 pl), .d .nilsl] :: .room (ps.length + 1) 2 :: .box [.d (.int .i64 ((16 + i : Nat) : Int)), .sr 6 1 (rgtD (r1 :: rr))] :: [.room ((rgtD rr).length + 1) 1]) rfl rfl) rfl (by repeat' (first | exact trivial | refine ⟨(Or.inl rfl), ?_⟩ | refine ⟨(Or.inr rfl), ?_⟩ | refine ⟨rfl, ?_⟩ | fail)) (by repeat' (first | exact trivial | refine ⟨(Or.inl rfl), ?_⟩ | refine ⟨(Or.inr rfl), ?_⟩ | refine ⟨rfl, ?_⟩ | fail)) rfl rfl) ?_
                    refine oX (frz := fA) Et_ok ?_
                    first | refine oX (frz := fA) Et_ok ?_ (hv := app1) (hf := rfl) (he := rfl) | refine eX ?_ (hv := app1) (hf := rfl) (he := rfl)
                    iterate 2 refine oX (frz := fA) Et_ok ?_
                    repeat (first | refine Run.seq ?_ | refine Run.region ?_ | refine RunOps.nil ?_ | refine Run.skip ?_ | refine cT ?_ | refine cF ?_ | refine Run.block ?_ | refine Run.exit ?_)
                    refine oX (frz := fA) Et_ok ?_
                    refine oX (frz := fA) (v := .d (.int .i64 ((j + 1 : Nat) : Int))) Et_ok ?_ (he := vN (by omega) (by omega))
                    refine oX (frz := fA) Et_ok ?_
                    repeat (first | refine Run.seq ?_ | refine Run.region ?_ | refine RunOps.nil ?_ | refine Run.skip ?_ | refine cT ?_ | refine cF ?_ | refine Run.block ?_ | refine Run.exit ?_)
                    exact ⟨(j + 1, ⟨pl, []⟩ :: (ps ++ [(⟨((16 + i : Nat) : Int), r1 :: rr⟩ : GProd)])), ⟨by simp only <;> omega, hnext, by simp at hjb ⊢ <;> omega⟩, by simp only <;> omega, (tidy_of (objs := _) _ 5 (Eq.trans (b := boxG0 :: boxA ((1 + k % 2 : Nat) : Int) (kTok k) (.sr 2 1 (m0 :: (ml ++ [DV.str [83 + i]]))) (.sr 4 2 (encN ⟨pl, []⟩ :: (ps.map encN ++ [encN (⟨((16 + i : Nat) : Int), r1 :: rr⟩ : GProd)]))) :: .room (ml.length + 1 + 1) 1 :: .box [.d (.int .i64 pl), .d .nilsl] :: [.room (ps.length + 1 + 1) 2]) rfl (by first | rfl | (simp [psA, psO, psI, rowA, rowO, rgtD] <;> fail))) rfl (by repeat' (first | exact trivial | refine ⟨(Or.inl rfl), ?_⟩ | refine ⟨(Or.inr rfl), ?_⟩ | fail)) (by repeat' (first | exact trivial | refine ⟨rfl, ?_⟩ | fail)) rfl rfl)⟩
              · have hjc : ps.length + 1 < 7 := by simpa using hjb
                repeat (first | refine Run.seq ?_ | refine Run.region ?_ | refine RunOps.nil ?_ | refine Run.skip ?_ | refine cT ?_ | refine cF ?_ | refine Run.block ?_ | refine Run.exit ?_)
                iterate 2 refine oX (frz := fA) Et_ok ?_
                refine oX (frz := fA) (v := .d (.int .i64 ((x % 3 : Nat) : Int))) Et_ok ?_ (he := rfl)
                refine oX (frz := fA) (v := .d (.bool true)) Et_ok ?_ (he := vT (by omega))
                iterate 4 refine oX (frz := fA) Et_ok ?_
                refine oX (frz := fA) (v := .d (.bool true)) Et_ok ?_ (he := vT (by simp at hjb ⊢ <;> omega))
                refine oX (frz := fA) Et_ok ?_
                repeat (first | refine Run.seq ?_ | refine Run.region ?_ | refine RunOps.nil ?_ | refine Run.skip ?_ | refine cT ?_ | refine cF ?_ | refine Run.block ?_ | refine Run.exit ?_)
                refine oX (frz := fA) Et_ok ?_
                refine oX (frz := fA) (v := .d (.int .i64 ((16 + i : Nat) : Int))) Et_ok ?_ (he := vN (by omega) (by omega))
                iterate 3 refine oX (frz := fA) Et_ok ?_
                repeat (first | refine Run.seq ?_ | refine Run.region ?_ | refine RunOps.nil ?_ | refine Run.skip ?_ | refine cT ?_ | refine cF ?_ | refine Run.block ?_ | refine Run.exit ?_)
                iterate 2 refine oX (frz := fA) Et_ok ?_
                refine oX (frz := fA) (v := .d (.int .i64 ((3 * i : Nat) : Int))) Et_ok ?_ (he := vN (by omega) (by omega))
                refine oX (frz := fA) (v := .d (.int .i64 ((4 + 3 * i : Nat) : Int))) Et_ok ?_ (he := vN (by omega) (by omega))
                refine oX (frz := fA) Et_ok ?_
                refine oX (frz := fA) (v := .d (.int .i64 ((4 + 3 * i + j : Nat) : Int))) Et_ok ?_ (he := vN (by omega) (by omega))
                refine oC hat ?_
                refine oC hy ?_
                refine oX (frz := fA) Et_ok ?_
                repeat (first | refine Run.seq ?_ | refine Run.region ?_ | refine RunOps.nil ?_ | refine Run.skip ?_ | refine cT ?_ | refine cF ?_ | refine Run.block ?_ | refine Run.exit ?_)
                refine oX (frz := fA) Et_ok ?_
                repeat (first | refine Run.seq ?_ | refine Run.region ?_ | refine RunOps.nil ?_ | refine Run.skip ?_ | refine cT ?_ | refine cF ?_ | refine Run.block ?_ | refine Run.exit ?_)
                refine Run.loopT (fun z : Nat × List Int => ⟨PT.ofList [(0, .d (ints nums)), (2, .bp 0 0), (4, .bp 1 0), (5, .d (.int .i64 (M : Nat))), (6, .d (.int .i64 i)), (7, .d (.int .i64 x)), (8, .d (.int .i64 j)), (9, .bp 6 0), (10, .d (.int .i64 v)), (11, .d (.int .i64 z.1))], boxG0 :: boxA ((1 + k % 2 : Nat) : Int) (kTok k) (.sr 2 1 (m0 :: (ml ++ [DV.str [83 + i]]))) (.sr 5 2 (encN ⟨pl, r0 :: rl⟩ :: ps.map encN)) :: .room (ml.length + 1 + 1) 1 :: .box [.d (.int .i64 pl), .sr 4 1 (rgtD (r0 :: rl))] :: .room ((rgtD rl).length + 1) 1 :: .room (ps.length + 1) 2 :: .box [.d (.int .i64 ((16 + i : Nat) : Int)), rowA 7 1 (rgtD z.2)] :: rowO 1 (rgtD z.2), []⟩)
                  (fun z => z.1 ≤ v % 4 ∧ z.2 = rgtTo T M v z.1) (fun z => v % 4 - z.1) (0, []) ⟨Nat.zero_le _, rfl⟩ (tidy_of (objs := _) _ 7 (by rfl) rfl (by repeat' (first | exact trivial | refine ⟨(Or.inl rfl), ?_⟩ | refine ⟨(Or.inr rfl), ?_⟩ | fail)) (by repeat' (first | exact trivial | refine ⟨rfl, ?_⟩ | fail)) rfl rfl) (fun z hz => ?_)
                obtain ⟨s, r⟩ := z
                obtain ⟨hs1, hs2⟩ := hz
                simp only at hs1 hs2 ⊢
                have hrl : r.length = s := by rw [hs2]; simp [rgtTo]
                rcases Nat.lt_or_ge s (v % 4) with hsl | hsg
                · have hnx : r ++ [((symN T M (zF v s) : Nat) : Int)] = rgtTo T M v (s + 1) := by rw [hs2]; simp [rgtTo, List.range_succ]
                  rcases r with _ | ⟨r1, rr⟩
                  · have hrl' := hrl
                    simp only [List.length_cons, List.length_nil] at hrl'
                    repeat (first | refine Run.seq ?_ | refine Run.region ?_ | refine RunOps.nil ?_ | refine Run.skip ?_ | refine cT ?_ | refine cF ?_ | refine Run.block ?_ | refine Run.exit ?_)
                    iterate 2 refine oX (frz := fA) Et_ok ?_
                    refine oX (frz := fA) (v := .d (.int .i64 ((v % 4 : Nat) : Int))) Et_ok ?_ (he := rfl)
                    refine oX (frz := fA) (v := .d (.bool true)) Et_ok ?_ (he := vT (by omega))
                    repeat (first | refine Run.seq ?_ | refine Run.region ?_ | refine RunOps.nil ?_ | refine Run.skip ?_ | refine cT ?_ | refine cF ?_ | refine Run.block ?_ | refine Run.exit ?_)
                    refine oX (frz := fA) Et_ok ?_
                    refine oX (frz := fA) (v := .d (.int .i64 ((v / 4 : Nat) : Int))) Et_ok ?_ (he := vN rfl (by omega))
                    refine oX (frz := fA) Et_ok ?_
                    refine oX (frz := fA) (v := .d (.int .i64 ((4 * s : Nat) : Int))) Et_ok ?_ (he := vN (by omega) (by omega))
                    refine oX (frz := fA) (v := .d (.int .u64 ((4 * s : Nat) : Int))) Et_ok ?_ (he := vU64 (by omega))
                    refine oX (frz := fA) (v := .d (.int .i64 ((v / 4 / 2 ^ (4 * s) : Nat) : Int))) Et_ok ?_ (hf := shrF (4 * s)) (he := congrArg (fun n => AV.d (.int .i64 n)) (shrN (by omega)))
                    refine oX (frz := fA) (v := .d (.int .i64 ((zF v s : Nat) : Int))) Et_ok ?_ (he := rfl)
                    refine oX (frz := fA) Et_ok ?_
                    repeat (first | refine Run.seq ?_ | refine Run.region ?_ | refine RunOps.nil ?_ | refine Run.skip ?_ | refine cT ?_ | refine cF ?_ | refine Run.block ?_ | refine Run.exit ?_)
                    refine oX (frz := fA) Et_ok ?_
                    refine oX (frz := fA) (v := .d (.int .i64 ((zF v s % 5 : Nat) : Int))) Et_ok ?_ (he := rfl)
                    by_cases h5 : zF v s % 5 < 3
                    · refine oX (frz := fA) (v := .d (.bool true)) Et_ok ?_ (he := vT (by omega))
                      have hsy : symN T M (zF v s) = zF v s % T := if_pos h5
                      rw [hsy] at hnx
                      repeat (first | refine Run.region ?_ | refine Run.seq ?_ | refine RunOps.nil ?_ | refine Run.skip ?_ | refine cT ?_ | refine cF ?_ | refine Run.block ?_ | refine Run.exit ?_ | refine eN ?_ | refine Run.draw (frz := fA) Et_ok (by kernel_rfl) ?_)
                      iterate 5 (first | refine oX (frz := fA) Et_ok ?_ | refine eX ?_)
                      first | refine oX (frz := fA) (v := .d (.int .i64 (T : Nat))) Et_ok ?_ (he := (by rw [hT, List.length_map])) | refine eX (v := .d (.int .i64 (T : Nat))) ?_ (he := (by rw [hT, List.length_map]))
                      refine eX (v := .d (.int .i64 ((zF v s % T : Nat) : Int))) ?_ (hf := by simp <;> omega) (he := rfl)
                      iterate 1 (first | refine oX (frz := fA) Et_ok ?_ | refine eX ?_)
                      first | refine oX (frz := fA) Et_ok ?_ (hv := app0) (hf := rfl) (he := rfl) | refine eX ?_ (hv := app0) (hf := rfl) (he := rfl)
                      iterate 2 (first | refine oX (frz := fA) Et_ok ?_ | refine eX ?_)
                      repeat (first | refine Run.region ?_ | refine Run.seq ?_ | refine RunOps.nil ?_ | refine Run.skip ?_ | refine cT ?_ | refine cF ?_ | refine Run.block ?_ | refine Run.exit ?_ | refine eN ?_ | refine Run.draw (frz := fA) Et_ok (by kernel_rfl) ?_)
                      refine oX (frz := fA) Et_ok ?_
                      refine oX (frz := fA) (v := .d (.int .i64 ((s + 1 : Nat) : Int))) Et_ok ?_ (he := vN (by omega) (by omega))
                      refine oX (frz := fA) Et_ok ?_
                      repeat (first | refine Run.seq ?_ | refine Run.region ?_ | refine RunOps.nil ?_ | refine Run.skip ?_ | refine cT ?_ | refine cF ?_ | refine Run.block ?_ | refine Run.exit ?_)
                      exact ⟨(s + 1, _), ⟨hsl, hnx⟩, by simp only <;> omega, (tidy_of (objs := _) _ 8 (by rfl) rfl (by repeat' (first | exact trivial | refine ⟨(Or.inl rfl), ?_⟩ | refine ⟨(Or.inr rfl), ?_⟩ | fail)) (by repeat' (first | exact trivial | refine ⟨rfl, ?_⟩ | fail)) rfl rfl)⟩
                    · refine oX (frz := fA) (v := .d (.bool false)) Et_ok ?_ (he := vF (by omega))
                      have hsy : symN T M (zF v s) = 16 + zF v s % M := if_neg h5
                      rw [hsy] at hnx
                      repeat (first | refine Run.region ?_ | refine Run.seq ?_ | refine RunOps.nil ?_ | refine Run.skip ?_ | refine cT ?_ | refine cF ?_ | refine Run.block ?_ | refine Run.exit ?_ | refine eN ?_ | refine Run.draw (frz := fA) Et_ok (by kernel_rfl) ?_)
                      iterate 4 (first | refine oX (frz := fA) Et_ok ?_ | refine eX ?_)
                      refine eX (v := .d (.int .i64 ((zF v s % M : Nat) : Int))) ?_ (hf := by simp <;> omega) (he := rfl)
                      first | refine oX (frz := fA) (v := .d (.int .i64 ((16 + zF v s % M : Nat) : Int))) Et_ok ?_ (he := (vN (by omega) (by have := Nat.mod_lt (zF v s) (show 0 < M by omega) <;> omega))) | refine eX (v := .d (.int .i64 ((16 + zF v s % M : Nat) : Int))) ?_ (he := (vN (by omega) (by have := Nat.mod_lt (zF v s) (show 0 < M by omega) <;> omega)))
                      iterate 1 (first | refine oX (frz := fA) Et_ok ?_ | refine eX ?_)
                      first | refine oX (frz := fA) Et_ok ?_ (hv := app0) (hf := rfl) (he := rfl) | refine eX ?_ (hv := app0) (hf := rfl) (he := rfl)
                      iterate 2 (first | refine oX (frz := fA) Et_ok ?_ | refine eX ?_)
                      repeat (first | refine Run.region ?_ | refine Run.seq ?_ | refine RunOps.nil ?_ | refine Run.skip ?_ | refine cT ?_ | refine cF ?_ | refine Run.block ?_ | refine Run.exit ?_ | refine eN ?_ | refine Run.draw (frz := fA) Et_ok (by kernel_rfl) ?_)
                      refine oX (frz := fA) Et_ok ?_
                      refine oX (frz := fA) (v := .d (.int .i64 ((s + 1 : Nat) : Int))) Et_ok ?_ (he := vN (by omega) (by omega))
                      refine oX (frz := fA) Et_ok ?_
                      repeat (first | refine Run.seq ?_ | refine Run.region ?_ | refine RunOps.nil ?_ | refine Run.skip ?_ | refine cT ?_ | refine cF ?_ | refine Run.block ?_ | refine Run.exit ?_)
                      exact ⟨(s + 1, _), ⟨hsl, hnx⟩, by simp only <;> omega, (tidy_of (objs := _) _ 8 (by rfl) rfl (by repeat' (first | exact trivial | refine ⟨(Or.inl rfl), ?_⟩ | refine ⟨(Or.inr rfl), ?_⟩ | fail)) (by repeat' (first | exact trivial | refine ⟨rfl, ?_⟩ | fail)) rfl rfl)⟩
                  · have hrl' := hrl
                    simp only [List.length_cons, List.length_nil] at hrl'
                    repeat (first | refine Run.seq ?_ | refine Run.region ?_ | refine RunOps.nil ?_ | refine Run.skip ?_ | refine cT ?_ | refine cF ?_ | refine Run.block ?_ | refine Run.exit ?_)
                    iterate 2 refine oX (frz := fA) Et_ok ?_
                    refine oX (frz := fA) (v := .d (.int .i64 ((v % 4 : Nat) : Int))) Et_ok ?_ (he := rfl)
                    refine oX (frz := fA) (v := .d (.bool true)) Et_ok ?_ (he := vT (by omega))
                    repeat (first | refine Run.seq ?_ | refine Run.region ?_ | refine RunOps.nil ?_ | refine Run.skip ?_ | refine cT ?_ | refine cF ?_ | refine Run.block ?_ | refine Run.exit ?_)
                    refine oX (frz := fA) Et_ok ?_
                    refine oX (frz := fA) (v := .d (.int .i64 ((v / 4 : Nat) : Int))) Et_ok ?_ (he := vN rfl (by omega))
                    refine oX (frz := fA) Et_ok ?_
                    refine oX (frz := fA) (v := .d (.int .i64 ((4 * s : Nat) : Int))) Et_ok ?_ (he := vN (by omega) (by omega))
                    refine oX (frz := fA) (v := .d (.int .u64 ((4 * s : Nat) : Int))) Et_ok ?_ (he := vU64 (by omega))
                    refine oX (frz := fA) (v := .d (.int .i64 ((v / 4 / 2 ^ (4 * s) : Nat) : Int))) Et_ok ?_ (hf := shrF (4 * s)) (he := congrArg (fun n => AV.d (.int .i64 n)) (shrN (by omega)))
                    refine oX (frz := fA) (v := .d (.int .i64 ((zF v s : Nat) : Int))) Et_ok ?_ (he := rfl)
                    refine oX (frz := fA) Et_ok ?_
                    repeat (first | refine Run.seq ?_ | refine Run.region ?_ | refine RunOps.nil ?_ | refine Run.skip ?_ | refine cT ?_ | refine cF ?_ | refine Run.block ?_ | refine Run.exit ?_)
                    refine oX (frz := fA) Et_ok ?_
                    refine oX (frz := fA) (v := .d (.int .i64 ((zF v s % 5 : Nat) : Int))) Et_ok ?_ (he := rfl)
                    by_cases h5 : zF v s % 5 < 3
                    · refine oX (frz := fA) (v := .d (.bool true)) Et_ok ?_ (he := vT (by omega))
                      have hsy : symN T M (zF v s) = zF v s % T := if_pos h5
                      rw [hsy] at hnx
                      repeat (first | refine Run.region ?_ | refine Run.seq ?_ | refine RunOps.nil ?_ | refine Run.skip ?_ | refine cT ?_ | refine cF ?_ | refine Run.block ?_ | refine Run.exit ?_ | refine eN ?_ | refine Run.draw (frz := fA) Et_ok (by kernel_rfl) ?_)
                      iterate 5 (first | refine oX (frz := fA) Et_ok ?_ | refine eX ?_)
                      first | refine oX (frz := fA) (v := .d (.int .i64 (T : Nat))) Et_ok ?_ (he := (by rw [hT, List.length_map])) | refine eX (v := .d (.int .i64 (T : Nat))) ?_ (he := (by rw [hT, List.length_map]))
                      refine eX (v := .d (.int .i64 ((zF v s % T : Nat) : Int))) ?_ (hf := by simp <;> omega) (he := rfl)
                      iterate 1 (first | refine oX (frz := fA) Et_ok ?_ | refine eX ?_)
                      first | refine oX (frz := fA) Et_ok ?_ (hv := app1) (hf := rfl) (he := rfl) | refine eX ?_ (hv := app1) (hf := rfl) (he := rfl)
                      iterate 2 (first | refine oX (frz := fA) Et_ok ?_ | refine eX ?_)
                      repeat (first | refine Run.region ?_ | refine Run.seq ?_ | refine RunOps.nil ?_ | refine Run.skip ?_ | refine cT ?_ | refine cF ?_ | refine Run.block ?_ | refine Run.exit ?_ | refine eN ?_ | refine Run.draw (frz := fA) Et_ok (by kernel_rfl) ?_)
                      refine oX (frz := fA) Et_ok ?_
                      refine oX (frz := fA) (v := .d (.int .i64 ((s + 1 : Nat) : Int))) Et_ok ?_ (he := vN (by omega) (by omega))
                      refine oX (frz := fA) Et_ok ?_
                      repeat (first | refine Run.seq ?_ | refine Run.region ?_ | refine RunOps.nil ?_ | refine Run.skip ?_ | refine cT ?_ | refine cF ?_ | refine Run.block ?_ | refine Run.exit ?_)
                      exact ⟨(s + 1, _), ⟨hsl, hnx⟩, by simp only <;> omega, (tidy_of (objs := _) _ 8 (by first | rfl | (simp only [rowO, rgtD, List.map_append, List.map_cons, List.map_nil, List.cons_append, List.length_append, List.length_cons, List.length_nil] <;> rfl)) rfl (by repeat' (first | exact trivial | refine ⟨(Or.inl rfl), ?_⟩ | refine ⟨(Or.inr rfl), ?_⟩ | fail)) (by repeat' (first | exact trivial | refine ⟨rfl, ?_⟩ | fail)) rfl rfl)⟩
                    · refine oX (frz := fA) (v := .d (.bool false)) Et_ok ?_ (he := vF (by omega))
                      have hsy : symN T M (zF v s) = 16 + zF v s % M := if_neg h5
                      rw [hsy] at hnx
                      repeat (first | refine Run.region ?_ | refine Run.seq ?_ | refine RunOps.nil ?_ | refine Run.skip ?_ | refine cT ?_ | refine cF ?_ | refine Run.block ?_ | refine Run.exit ?_ | refine eN ?_ | refine Run.draw (frz := fA) Et_ok (by kernel_rfl) ?_)
                      iterate 4 (first | refine oX (frz := fA) Et_ok ?_ | refine eX ?_)
                      refine eX (v := .d (.int .i64 ((zF v s % M : Nat) : Int))) ?_ (hf := by simp <;> omega) (he := rfl)
                      first | refine oX (frz := fA) (v := .d (.int .i64 ((16 + zF v s % M : Nat) : Int))) Et_ok ?_ (he := (vN (by omega) (by have := Nat.mod_lt (zF v s) (show 0 < M by omega) <;> omega))) | refine eX (v := .d (.int .i64 ((16 + zF v s % M : Nat) : Int))) ?_ (he := (vN (by omega) (by have := Nat.mod_lt (zF v s) (show 0 < M by omega) <;> omega)))
                      iterate 1 (first | refine oX (frz := fA) Et_ok ?_ | refine eX ?_)
                      first | refine oX (frz := fA) Et_ok ?_ (hv := app1) (hf := rfl) (he := rfl) | refine eX ?_ (hv := app1) (hf := rfl) (he := rfl)
                      iterate 2 (first | refine oX (frz := fA) Et_ok ?_ | refine eX ?_)
                      repeat (first | refine Run.region ?_ | refine Run.seq ?_ | refine RunOps.nil ?_ | refine Run.skip ?_ | refine cT ?_ | refine cF ?_ | refine Run.block ?_ | refine Run.exit ?_ | refine eN ?_ | refine Run.draw (frz := fA) Et_ok (by kernel_rfl) ?_)
                      refine oX (frz := fA) Et_ok ?_
                      refine oX (frz := fA) (v := .d (.int .i64 ((s + 1 : Nat) : Int))) Et_ok ?_ (he := vN (by omega) (by omega))
                      refine oX (frz := fA) Et_ok ?_
                      repeat (first | refine Run.seq ?_ | refine Run.region ?_ | refine RunOps.nil ?_ | refine Run.skip ?_ | refine cT ?_ | refine cF ?_ | refine Run.block ?_ | refine Run.exit ?_)
                      exact ⟨(s + 1, _), ⟨hsl, hnx⟩, by simp only <;> omega, (tidy_of (objs := _) _ 8 (by first | rfl | (simp only [rowO, rgtD, List.map_append, List.map_cons, List.map_nil, List.cons_append, List.length_append, List.length_cons, List.length_nil] <;> rfl)) rfl (by repeat' (first | exact trivial | refine ⟨(Or.inl rfl), ?_⟩ | refine ⟨(Or.inr rfl), ?_⟩ | fail)) (by repeat' (first | exact trivial | refine ⟨rfl, ?_⟩ | fail)) rfl rfl)⟩
                · have hse : s = v % 4 := by omega
                  rw [hse] at hs2
                  rw [← hs2] at hnext
                  rcases r with _ | ⟨r1, rr⟩
                  · repeat (first | refine Run.seq ?_ | refine Run.region ?_ | refine RunOps.nil ?_ | refine Run.skip ?_ | refine cT ?_ | refine cF ?_ | refine Run.block ?_ | refine Run.exit ?_)
                    iterate 2 refine oX (frz := fA) Et_ok ?_
                    refine oX (frz := fA) (v := .d (.int .i64 ((v % 4 : Nat) : Int))) Et_ok ?_ (he := rfl)
                    refine oX (frz := fA) (v := .d (.bool false)) Et_ok ?_ (he := vF (by omega))
                    repeat (first | refine Run.seq ?_ | refine Run.region ?_ | refine RunOps.nil ?_ | refine Run.skip ?_ | refine cT ?_ | refine cF ?_ | refine Run.block ?_ | refine Run.exit ?_)
                    iterate 3 refine oX (frz := fA) Et_ok ?_
                    first | refine Run.tidy (tidy_of (objs := _) [(0, .d (ints nums)), (2, .bp 0 0), (4, .bp 1 0), (5, .d (.int .i64 (M : Nat))), (6, .d (.int .i64 i)), (7, .d (.int .i64 x)), (8, .d (.int .i64 j)), (109, .sr 5 2 (encN ⟨pl, r0 :: rl⟩ :: ps.map encN)), (110, .d (encN (⟨((16 + i : Nat) : Int), []⟩ : GProd)))] 7 (Eq.trans (b := boxG0 :: boxA ((1 + k % 2 : Nat) : Int) (kTok k) (.sr 2 1 (m0 :: (ml ++ [DV.str [83 + i]]))) (.sr 5 2 (encN ⟨pl, r0 :: rl⟩ :: ps.map encN)) :: .room (ml.length + 1 + 1) 1 :: .box [.d (.int .i64 pl), .sr 4 1 (rgtD (r0 :: rl))] :: .room ((rgtD rl).length + 1) 1 :: .room (ps.length + 1) 2 :: [.box [.d (.int .i64 ((16 + i : Nat) : Int)), .d .nilsl]]) rfl rfl) rfl (by repeat' (first | exact trivial | refine ⟨(Or.inl rfl), ?_⟩ | refine ⟨(Or.inr rfl), ?_⟩ | refine ⟨rfl, ?_⟩ | fail)) (by repeat' (first | exact trivial | refine ⟨(Or.inl rfl), ?_⟩ | refine ⟨(Or.inr rfl), ?_⟩ | refine ⟨rfl, ?_⟩ | fail)) rfl rfl) ?_ | refine RunOps.tidy (tidy_of (objs := _) [(0, .d (ints nums)), (2, .bp 0 0), (4, .bp 1 0), (5, .d (.int .i64 (M : Nat))), (6, .d (.int .i64 i)), (7, .d (.int .i64 x)), (8, .d (.int .i64 j)), (109, .sr 5 2 (encN ⟨pl, r0 :: rl⟩ :: ps.map encN)), (110, .d (encN (⟨((16 + i : Nat) : Int), []⟩ : GProd)))] 7 (Eq.trans (b := boxG0 :: boxA ((1 + k % 2 : Nat) : Int) (kTok k) (.sr 2 1 (m0 :: (ml ++ [DV.str [83 + i]]))) (.sr 5 2 (encN ⟨pl, r0 :: rl⟩ :: ps.map encN)) :: .room (ml.length + 1 + 1) 1 :: .box [.d (.int .i64 pl), .sr 4 1 (rgtD (r0 :: rl))] :: .room ((rgtD rl).length + 1) 1 :: .room (ps.length + 1) 2 :: [.box [.d (.int .i64 ((16 + i : Nat) : Int)), .d .nilsl]]) rfl rfl) rfl (by repeat' (first | exact trivial | refine ⟨(Or.inl rfl), ?_⟩ | refine ⟨(Or.inr rfl), ?_⟩ | refine ⟨rfl, ?_⟩ | fail)) (by repeat' (first | exact trivial | refine ⟨(Or.inl rfl), ?_⟩ | refine ⟨(Or.inr rfl), ?_⟩ | refine ⟨rfl, ?_⟩ | fail)) rfl rfl) ?_
                    refine oX (frz := fA) Et_ok ?_
                    first | refine oX (frz := fA) Et_ok ?_ (hv := app1) (hf := rfl) (he := rfl) | refine eX ?_ (hv := app1) (hf := rfl) (he := rfl)
                    iterate 2 refine oX (frz := fA) Et_ok ?_
                    repeat (first | refine Run.seq ?_ | refine Run.region ?_ | refine RunOps.nil ?_ | refine Run.skip ?_ | refine cT ?_ | refine cF ?_ | refine Run.block ?_ | refine Run.exit ?_)
                    refine oX (frz := fA) Et_ok ?_
                    refine oX (frz := fA) (v := .d (.int .i64 ((j + 1 : Nat) : Int))) Et_ok ?_ (he := vN (by omega) (by omega))
                    refine oX (frz := fA) Et_ok ?_
                    repeat (first | refine Run.seq ?_ | refine Run.region ?_ | refine RunOps.nil ?_ | refine Run.skip ?_ | refine cT ?_ | refine cF ?_ | refine Run.block ?_ | refine Run.exit ?_)
                    exact ⟨(j + 1, ⟨pl, r0 :: rl⟩ :: (ps ++ [(⟨((16 + i : Nat) : Int), []⟩ : GProd)])), ⟨by simp only <;> omega, hnext, by simp at hjb ⊢ <;> omega⟩, by simp only <;> omega, (tidy_of (objs := _) _ 6 (Eq.trans (b := boxG0 :: boxA ((1 + k % 2 : Nat) : Int) (kTok k) (.sr 2 1 (m0 :: (ml ++ [DV.str [83 + i]]))) (.sr 5 2 (encN ⟨pl, r0 :: rl⟩ :: (ps.map encN ++ [encN (⟨((16 + i : Nat) : Int), []⟩ : GProd)]))) :: .room (ml.length + 1 + 1) 1 :: .box [.d (.int .i64 pl), .sr 4 1 (rgtD (r0 :: rl))] :: .room ((rgtD rl).length + 1) 1 :: [.room (ps.length + 1 + 1) 2]) rfl (by first | rfl | (simp [psA, psO, psI, rowA, rowO, rgtD] <;> fail))) rfl (by repeat' (first | exact trivial | refine ⟨(Or.inl rfl), ?_⟩ | refine ⟨(Or.inr rfl), ?_⟩ | fail)) (by repeat' (first | exact trivial | refine ⟨rfl, ?_⟩ | fail)) rfl rfl)⟩
                  · repeat (first | refine Run.seq ?_ | refine Run.region ?_ | refine RunOps.nil ?_ | refine Run.skip ?_ | refine cT ?_ | refine cF ?_ | refine Run.block ?_ | refine Run.exit ?_)
                    iterate 2 refine oX (frz := fA) Et_ok ?_
                    refine oX (frz := fA) (v := .d (.int .i64 ((v % 4 : Nat) : Int))) Et_ok ?_ (he := rfl)
                    refine oX (frz := fA) (v := .d (.bool false)) Et_ok ?_ (he := vF (by omega))
                    repeat (first | refine Run.seq ?_ | refine Run.region ?_ | refine RunOps.nil ?_ | refine Run.skip ?_ | refine cT ?_ | refine cF ?_ | refine Run.block ?_ | refine Run.exit ?_)
                    iterate 3 refine oX (frz := fA) Et_ok ?_
                    first | refine Run.tidy (tidy_of (objs := _) [(0, .d (ints nums)), (2, .bp 0 0), (4, .bp 1 0), (5, .d (.int .i64 (M : Nat))), (6, .d (.int .i64 i)), (7, .d (.int .i64 x)), (8, .d (.int .i64 j)), (109, .sr 5 2 (encN ⟨pl, r0 :: rl⟩ :: ps.map encN)), (110, .d (encN (⟨((16 + i : Nat) : Int), r1 :: rr⟩ : GProd)))] 8 (Eq.trans (b := boxG0 :: boxA ((1 + k % 2 : Nat) : Int) (kTok k) (.sr 2 1 (m0 :: (ml ++ [DV.str [83 + i]]))) (.sr 5 2 (encN ⟨pl, r0 :: rl⟩ :: ps.map encN)) :: .room (ml.length + 1 + 1) 1 :: .box [.d (.int .i64 pl), .sr 4 1 (rgtD (r0 :: rl))] :: .room ((rgtD rl).length + 1) 1 :: .room (ps.length + 1) 2 :: .box [.d (.int .i64 ((16 + i : Nat) : Int)), .sr 7 1 (rgtD (r1 :: rr))] :: [.room ((rgtD rr).length + 1) 1]) rfl rfl) rfl (by repeat' (first | exact trivial | refine ⟨(Or.inl rfl), ?_⟩ | refine ⟨(Or.inr rfl), ?_⟩ | refine ⟨rfl, ?_⟩ | fail)) (by repeat' (first | exact trivial | refine ⟨(Or.inl rfl), ?_⟩ | refine ⟨(Or.inr rfl), ?_⟩ | refine ⟨rfl, ?_⟩ | fail)) rfl rfl) ?_ | refine RunOps.tidy (tidy_of (objs := _) [(0, .d (ints nums)), (2, .bp 0 0), (4, .bp 1 0), (5, .d (.int .i64 (M : Nat))), (6, .d (.int .i64 i)), (7, .d (.int .i64 x)), (8, .d (.int .i64 j)), (109, .sr 5 2 (encN ⟨pl, r0 :: rl⟩ :: ps.map encN)), (110, .d (encN (⟨((16 + i : Nat) : Int), r1 :: rr⟩ : GProd)))] 8 (Eq.trans (b := boxG0 :: boxA ((1 + k % 2 : Nat) : Int) (kTok k) (.sr 2 1 (m0 :: (ml ++ [DV.str [83 + i]]))) (.sr 5 2 (encN ⟨pl, r0 :: rl⟩ :: ps.map encN)) :: .room (ml.length + 1 + 1) 1 :: .box [.d (.int .i64 pl), .sr 4 1 (rgtD (r0 :: rl))] :: .room ((rgtD rl).length + 1) 1 :: .room (ps.length + 1) 2 :: .box [.d (.int .i64 ((16 + i : Nat) : Int)), .sr 7 1 (rgtD (r1 :: rr))] :: [.room ((rgtD rr).length + 1) 1]) rfl rfl) rfl (by repeat' (first | exact trivial | refine ⟨(Or.inl rfl), ?_⟩ | refine ⟨(Or.inr rfl), ?_⟩ | refine ⟨rfl, ?_⟩ | fail)) (by repeat' (first | exact trivial | refine ⟨(Or.inl rfl), ?_⟩ | refine ⟨(Or.inr rfl), ?_⟩ | refine ⟨rfl, ?_⟩ | fail)) rfl rfl) ?_
                    refine oX (frz := fA) Et_ok ?_
                    first | refine oX (frz := fA) Et_ok ?_ (hv := app1) (hf := rfl) (he := rfl) | refine eX ?_ (hv := app1) (hf := rfl) (he := rfl)
                    iterate 2 refine oX (frz := fA) Et_ok ?_
                    repeat (first | refine Run.seq ?_ | refine Run.region ?_ | refine RunOps.nil ?_ | refine Run.skip ?_ | refine cT ?_ | refine cF ?_ | refine Run.block ?_ | refine Run.exit ?_)
                    refine oX (frz := fA) Et_ok ?_
                    refine oX (frz := fA) (v := .d (.int .i64 ((j + 1 : Nat) : Int))) Et_ok ?_ (he := vN (by omega) (by omega))
                    refine oX (frz := fA) Et_ok ?_
                    repeat (first | refine Run.seq ?_ | refine Run.region ?_ | refine RunOps.nil ?_ | refine Run.skip ?_ | refine cT ?_ | refine cF ?_ | refine Run.block ?_ | refine Run.exit ?_)
                    exact ⟨(j + 1, ⟨pl, r0 :: rl⟩ :: (ps ++ [(⟨((16 + i : Nat) : Int), r1 :: rr⟩ : GProd)])), ⟨by simp only <;> omega, hnext, by simp at hjb ⊢ <;> omega⟩, by simp only <;> omega, (tidy_of (objs := _) _ 6 (Eq.trans (b := boxG0 :: boxA ((1 + k % 2 : Nat) : Int) (kTok k) (.sr 2 1 (m0 :: (ml ++ [DV.str [83 + i]]))) (.sr 5 2 (encN ⟨pl, r0 :: rl⟩ :: (ps.map encN ++ [encN (⟨((16 + i : Nat) : Int), r1 :: rr⟩ : GProd)]))) :: .room (ml.length + 1 + 1) 1 :: .box [.d (.int .i64 pl), .sr 4 1 (rgtD (r0 :: rl))] :: .room ((rgtD rl).length + 1) 1 :: [.room (ps.length + 1 + 1) 2]) rfl (by first | rfl | (simp [psA, psO, psI, rowA, rowO, rgtD] <;> fail))) rfl (by repeat' (first | exact trivial | refine ⟨(Or.inl rfl), ?_⟩ | refine ⟨(Or.inr rfl), ?_⟩ | fail)) (by repeat' (first | exact trivial | refine ⟨rfl, ?_⟩ | fail)) rfl rfl)⟩
          · have hz : acc ≠ [] := fun hz => by
              rw [hz] at hj2 hj
              have hr0 := (List.append_eq_nil_iff.1 hj2.symm).2
              have : j = 0 := by simpa [rowTo] using hr0
              exact hj ⟨by omega, by simp⟩
            have hacc' : acc = accTo nums T M (i + 1) := by
              simp only [accTo, ← hxe]
              by_cases h7 : acc.length < 7
              · have hje : j = x % 3 + 1 := by have : ¬ j ≤ x % 3 := fun h => hj ⟨h, h7⟩; omega
                rw [← hje, ← hj2, List.take_of_length_le hj3]
              · have h7' : acc.length = 7 := by omega
                obtain ⟨d, hd⟩ : ∃ d, x % 3 + 1 = j + d := ⟨x % 3 + 1 - j, by omega⟩
                have hro : rowTo nums T M i (x % 3 + 1) = rowTo nums T M i j ++ (List.range' j d).map (prodN nums T M i) := by
                  rw [hd, rowTo, rowTo, ← List.map_append, range_split]
                rw [hro, ← List.append_assoc, ← hj2, ← h7', List.take_left]
            rcases acc with _ | ⟨⟨pl, pr⟩, ps⟩
            · exact absurd rfl hz
            · rcases pr with _ | ⟨r0, rl⟩
              · by_cases hja : j ≤ x % 3
                · have h7 : ¬ (ps.length + 1 < 7) := fun h => hj ⟨hja, by simpa using h⟩
                  repeat (first | refine Run.seq ?_ | refine Run.region ?_ | refine RunOps.nil ?_ | refine Run.skip ?_ | refine cT ?_ | refine cF ?_ | refine Run.block ?_ | refine Run.exit ?_)
                  iterate 2 refine oX (frz := fA) Et_ok ?_
                  refine oX (frz := fA) (v := .d (.int .i64 ((x % 3 : Nat) : Int))) Et_ok ?_ (he := rfl)
                  refine oX (frz := fA) (v := .d (.bool true)) Et_ok ?_ (he := vT (by omega))
                  iterate 4 refine oX (frz := fA) Et_ok ?_
                  refine oX (frz := fA) (v := .d (.bool false)) Et_ok ?_ (he := vF (by simp <;> omega))
                  refine oX (frz := fA) Et_ok ?_
                  repeat (first | refine Run.seq ?_ | refine Run.region ?_ | refine RunOps.nil ?_ | refine Run.skip ?_ | refine cT ?_ | refine cF ?_ | refine Run.block ?_ | refine Run.exit ?_)
                  refine oX (frz := fA) Et_ok ?_
                  refine oX (frz := fA) (v := .d (.int .i64 ((i + 1 : Nat) : Int))) Et_ok ?_ (he := vN (by omega) (by omega))
                  refine oX (frz := fA) Et_ok ?_
                  repeat (first | refine Run.seq ?_ | refine Run.region ?_ | refine RunOps.nil ?_ | refine Run.skip ?_ | refine cT ?_ | refine cF ?_ | refine Run.block ?_ | refine Run.exit ?_)
                  exact ⟨(i + 1, m0 :: (ml ++ [DV.str [83 + i]]), ⟨pl, []⟩ :: ps), ⟨hlt, hns', hacc'⟩, by simp only <;> omega, (tidy_of (objs := _) _ 5 (Eq.trans (b := boxG0 :: boxA ((1 + k % 2 : Nat) : Int) (kTok k) (.sr 2 1 (m0 :: (ml ++ [DV.str [83 + i]]))) (.sr 4 2 (encN ⟨pl, []⟩ :: ps.map encN)) :: .room (ml.length + 1 + 1) 1 :: .box [.d (.int .i64 pl), .d .nilsl] :: [.room (ps.length + 1) 2]) rfl (by first | rfl | (simp [psA, psO, psI, rowA, rowO, rgtD] <;> fail))) rfl (by repeat' (first | exact trivial | refine ⟨(Or.inl rfl), ?_⟩ | refine ⟨(Or.inr rfl), ?_⟩ | fail)) (by repeat' (first | exact trivial | refine ⟨rfl, ?_⟩ | fail)) rfl rfl)⟩
                · repeat (first | refine Run.seq ?_ | refine Run.region ?_ | refine RunOps.nil ?_ | refine Run.skip ?_ | refine cT ?_ | refine cF ?_ | refine Run.block ?_ | refine Run.exit ?_)
                  iterate 2 refine oX (frz := fA) Et_ok ?_
                  refine oX (frz := fA) (v := .d (.int .i64 ((x % 3 : Nat) : Int))) Et_ok ?_ (he := rfl)
                  refine oX (frz := fA) (v := .d (.bool false)) Et_ok ?_ (he := vF (by omega))
                  refine oX (frz := fA) Et_ok ?_
                  refine oS ?_
                  refine oS ?_
                  refine oS ?_
                  refine oS ?_
                  refine oX (frz := fA) Et_ok ?_
                  repeat (first | refine Run.seq ?_ | refine Run.region ?_ | refine RunOps.nil ?_ | refine Run.skip ?_ | refine cT ?_ | refine cF ?_ | refine Run.block ?_ | refine Run.exit ?_)
                  refine oX (frz := fA) Et_ok ?_
                  refine oX (frz := fA) (v := .d (.int .i64 ((i + 1 : Nat) : Int))) Et_ok ?_ (he := vN (by omega) (by omega))
                  refine oX (frz := fA) Et_ok ?_
                  repeat (first | refine Run.seq ?_ | refine Run.region ?_ | refine RunOps.nil ?_ | refine Run.skip ?_ | refine cT ?_ | refine cF ?_ | refine Run.block ?_ | refine Run.exit ?_)
                  exact ⟨(i + 1, m0 :: (ml ++ [DV.str [83 + i]]), ⟨pl, []⟩ :: ps), ⟨hlt, hns', hacc'⟩, by simp only <;> omega, (tidy_of (objs := _) _ 5 (Eq.trans (b := boxG0 :: boxA ((1 + k % 2 : Nat) : Int) (kTok k) (.sr 2 1 (m0 :: (ml ++ [DV.str [83 + i]]))) (.sr 4 2 (encN ⟨pl, []⟩ :: ps.map encN)) :: .room (ml.length + 1 + 1) 1 :: .box [.d (.int .i64 pl), .d .nilsl] :: [.room (ps.length + 1) 2]) rfl (by first | rfl | (simp [psA, psO, psI, rowA, rowO, rgtD] <;> fail))) rfl (by repeat' (first | exact trivial | refine ⟨(Or.inl rfl), ?_⟩ | refine ⟨(Or.inr rfl), ?_⟩ | fail)) (by repeat' (first | exact trivial | refine ⟨rfl, ?_⟩ | fail)) rfl rfl)⟩
              · by_cases hja : j ≤ x % 3
                · have h7 : ¬ (ps.length + 1 < 7) := fun h => hj ⟨hja, by simpa using h⟩
                  repeat (first | refine Run.seq ?_ | refine Run.region ?_ | refine RunOps.nil ?_ | refine Run.skip ?_ | refine cT ?_ | refine cF ?_ | refine Run.block ?_ | refine Run.exit ?_)
                  iterate 2 refine oX (frz := fA) Et_ok ?_
                  refine oX (frz := fA) (v := .d (.int .i64 ((x % 3 : Nat) : Int))) Et_ok ?_ (he := rfl)
                  refine oX (frz := fA) (v := .d (.bool true)) Et_ok ?_ (he := vT (by omega))
                  iterate 4 refine oX (frz := fA) Et_ok ?_
                  refine oX (frz := fA) (v := .d (.bool false)) Et_ok ?_ (he := vF (by simp <;> omega))
                  refine oX (frz := fA) Et_ok ?_
                  repeat (first | refine Run.seq ?_ | refine Run.region ?_ | refine RunOps.nil ?_ | refine Run.skip ?_ | refine cT ?_ | refine cF ?_ | refine Run.block ?_ | refine Run.exit ?_)
                  refine oX (frz := fA) Et_ok ?_
                  refine oX (frz := fA) (v := .d (.int .i64 ((i + 1 : Nat) : Int))) Et_ok ?_ (he := vN (by omega) (by omega))
                  refine oX (frz := fA) Et_ok ?_
                  repeat (first | refine Run.seq ?_ | refine Run.region ?_ | refine RunOps.nil ?_ | refine Run.skip ?_ | refine cT ?_ | refine cF ?_ | refine Run.block ?_ | refine Run.exit ?_)
                  exact ⟨(i + 1, m0 :: (ml ++ [DV.str [83 + i]]), ⟨pl, r0 :: rl⟩ :: ps), ⟨hlt, hns', hacc'⟩, by simp only <;> omega, (tidy_of (objs := _) _ 6 (Eq.trans (b := boxG0 :: boxA ((1 + k % 2 : Nat) : Int) (kTok k) (.sr 2 1 (m0 :: (ml ++ [DV.str [83 + i]]))) (.sr 5 2 (encN ⟨pl, r0 :: rl⟩ :: ps.map encN)) :: .room (ml.length + 1 + 1) 1 :: .box [.d (.int .i64 pl), .sr 4 1 (rgtD (r0 :: rl))] :: .room ((rgtD rl).length + 1) 1 :: [.room (ps.length + 1) 2]) rfl (by first | rfl | (simp [psA, psO, psI, rowA, rowO, rgtD] <;> fail))) rfl (by repeat' (first | exact trivial | refine ⟨(Or.inl rfl), ?_⟩ | refine ⟨(Or.inr rfl), ?_⟩ | fail)) (by repeat' (first | exact trivial | refine ⟨rfl, ?_⟩ | fail)) rfl rfl)⟩
                · repeat (first | refine Run.seq ?_ | refine Run.region ?_ | refine RunOps.nil ?_ | refine Run.skip ?_ | refine cT ?_ | refine cF ?_ | refine Run.block ?_ | refine Run.exit ?_)
                  iterate 2 refine oX (frz := fA) Et_ok ?_
                  refine oX (frz := fA) (v := .d (.int .i64 ((x % 3 : Nat) : Int))) Et_ok ?_ (he := rfl)
                  refine oX (frz := fA) (v := .d (.bool false)) Et_ok ?_ (he := vF (by omega))
                  refine oX (frz := fA) Et_ok ?_
                  refine oS ?_
                  refine oS ?_
                  refine oS ?_
                  refine oS ?_
                  refine oX (frz := fA) Et_ok ?_
                  repeat (first | refine Run.seq ?_ | refine Run.region ?_ | refine RunOps.nil ?_ | refine Run.skip ?_ | refine cT ?_ | refine cF ?_ | refine Run.block ?_ | refine Run.exit ?_)
                  refine oX (frz := fA) Et_ok ?_
                  refine oX (frz := fA) (v := .d (.int .i64 ((i + 1 : Nat) : Int))) Et_ok ?_ (he := vN (by omega) (by omega))
                  refine oX (frz := fA) Et_ok ?_
                  repeat (first | refine Run.seq ?_ | refine Run.region ?_ | refine RunOps.nil ?_ | refine Run.skip ?_ | refine cT ?_ | refine cF ?_ | refine Run.block ?_ | refine Run.exit ?_)
                  exact ⟨(i + 1, m0 :: (ml ++ [DV.str [83 + i]]), ⟨pl, r0 :: rl⟩ :: ps), ⟨hlt, hns', hacc'⟩, by simp only <;> omega, (tidy_of (objs := _) _ 6 (Eq.trans (b := boxG0 :: boxA ((1 + k % 2 : Nat) : Int) (kTok k) (.sr 2 1 (m0 :: (ml ++ [DV.str [83 + i]]))) (.sr 5 2 (encN ⟨pl, r0 :: rl⟩ :: ps.map encN)) :: .room (ml.length + 1 + 1) 1 :: .box [.d (.int .i64 pl), .sr 4 1 (rgtD (r0 :: rl))] :: .room ((rgtD rl).length + 1) 1 :: [.room (ps.length + 1) 2]) rfl (by first | rfl | (simp [psA, psO, psI, rowA, rowO, rgtD] <;> fail))) rfl (by repeat' (first | exact trivial | refine ⟨(Or.inl rfl), ?_⟩ | refine ⟨(Or.inr rfl), ?_⟩ | fail)) (by repeat' (first | exact trivial | refine ⟨rfl, ?_⟩ | fail)) rfl rfl)⟩
  · have hie : i = M := by omega
    subst hie
    rcases ns with _ | ⟨m0, ml⟩
    · exfalso
      cases i with | zero => omega | succ i => simp [nsD, namesTo, List.range_succ] at hns
    · rcases acc with _ | ⟨⟨ql, qr⟩, qs⟩
      · exfalso
        cases i with | zero => omega | succ i => exact acc_ne nums T i.succ i hacc.symm
      · rw [show strs (namesTo i) = .sl 1 (m0 :: ml) from congrArg (DV.sl 1) hns.symm, ← hacc]
        rcases qr with _ | ⟨u0, ul⟩
        · repeat (first | refine Run.region ?_ | refine Run.seq ?_ | refine RunOps.nil ?_ | refine Run.skip ?_ | refine cT ?_ | refine cF ?_ | refine Run.block ?_ | refine Run.exit ?_ | refine eN ?_ | refine Run.draw (frz := fA) Et_ok (by kernel_rfl) ?_)
          iterate 2 refine oX (frz := fA) Et_ok ?_
          refine oX (frz := fA) (v := .d (.bool false)) Et_ok ?_ (he := vF (by omega))
          repeat' (first
            | refine Run.region ?_
            | refine Run.seq ?_
            | ((refine oB (frz := fA) Et_ok (fun h => ?_) (fun h => ?_)) <;> (first | (exfalso; simp at h <;> fail) | (exfalso; simp at h; omega) | skip))
            | ((refine eB (fun h => ?_) (fun h => ?_)) <;> (first | (exfalso; simp at h <;> fail) | (exfalso; simp at h; omega) | skip))
            | refine oX (frz := fA) Et_ok ?_
            | refine oS ?_
            | refine RunOps.nil ?_
            | refine Run.skip ?_
            | refine cT ?_
            | refine cF ?_
            | refine Run.block ?_
            | refine Run.exit ?_
            | refine Run.draw (frz := fA) Et_ok (by kernel_rfl) ?_
            | refine eX ?_
            | refine eS ?_
            | refine eN ?_
            | (refine Run.ret ?_; (first | refine rB ?_ | refine rI ?_ | refine rA ?_ | refine rII ?_ | refine rSI ?_ | refine rT ?_ | refine rS ?_); first | done | (rfl))
            | fail)
        · repeat (first | refine Run.region ?_ | refine Run.seq ?_ | refine RunOps.nil ?_ | refine Run.skip ?_ | refine cT ?_ | refine cF ?_ | refine Run.block ?_ | refine Run.exit ?_ | refine eN ?_ | refine Run.draw (frz := fA) Et_ok (by kernel_rfl) ?_)
          iterate 2 refine oX (frz := fA) Et_ok ?_
          refine oX (frz := fA) (v := .d (.bool false)) Et_ok ?_ (he := vF (by omega))
          repeat' (first
            | refine Run.region ?_
            | refine Run.seq ?_
            | ((refine oB (frz := fA) Et_ok (fun h => ?_) (fun h => ?_)) <;> (first | (exfalso; simp at h <;> fail) | (exfalso; simp at h; omega) | skip))
            | ((refine eB (fun h => ?_) (fun h => ?_)) <;> (first | (exfalso; simp at h <;> fail) | (exfalso; simp at h; omega) | skip))
            | refine oX (frz := fA) Et_ok ?_
            | refine oS ?_
            | refine RunOps.nil ?_
            | refine Run.skip ?_
            | refine cT ?_
            | refine cF ?_
            | refine Run.block ?_
            | refine Run.exit ?_
            | refine Run.draw (frz := fA) Et_ok (by kernel_rfl) ?_
            | refine eX ?_
            | refine eS ?_
            | refine eN ?_
            | (refine Run.ret ?_; (first | refine rB ?_ | refine rI ?_ | refine rA ?_ | refine rII ?_ | refine rSI ?_ | refine rT ?_ | refine rS ?_); first | done | (rfl))
            | fail)
theorem anyS (nums : List Int) (hn : ∀ n ∈ nums, W64 n) : KnownCall Try.prog 24 [ints nums] (.d (encG (anyF nums))) := by
  refine known_toN (anyS0 nums hn) (.agg rfl fun j x y hx hy => ?_)
  match j with
  | 0 | 1 | 2 | 3 | 4 => simp at hx hy; subst hx hy; exact .refl
  | 5 => simp at hx hy; subst hx hy; exact encN_to _
  | j + 6 => simp at hx
end Go.Av
end
noncomputable section
namespace Go.Av
open Go Go.Proofs
set_option maxRecDepth 10000
def cntL (l : List GProd) (v : Int) : Nat := l.countP fun p => decide (p.left < v)
theorem cntL_mono (l : List GProd) (v : Int) : cntL l v ≤ cntL l (v + 1) := by
  refine List.countP_mono_left fun p _ h => ?_
  simp only [decide_eq_true_eq] at h ⊢
  omega
theorem sorted_iff : ∀ {l : List GProd}, l.Pairwise (fun a b => a.left ≤ b.left) → ∀ (v : Int) (k : Nat) (p : GProd), l[k]? = some p → (p.left < v ↔ k < cntL l v)
  | [], _, v, k, p, h => by simp at h
  | a :: l, hs, v, k, p, h => by
    rw [List.pairwise_cons] at hs
    have ih := sorted_iff hs.2 v
    unfold cntL at ih ⊢
    rw [List.countP_cons]
    by_cases ha : a.left < v
    · rw [if_pos (by simpa using ha)]
      cases k with
      | zero => simp at h; subst h; simp [ha]
      | succ k => rw [ih k p (by simpa using h)]; omega
    · have hz : l.countP (fun p => decide (p.left < v)) = 0 := by
        rw [List.countP_eq_zero]
        intro q hq
        have := hs.1 q hq
        simp only [decide_eq_true_eq]; omega
      rw [if_neg (by simpa using ha), hz]
      cases k with
      | zero => simp at h; subst h; simp [ha]
      | succ k =>
        have := hs.1 p (List.mem_of_getElem? (show l[k]? = some p by simpa using h))
        omega
theorem prodsTo_range {g : Gram} (hs : g.prods.Pairwise (fun a b => a.left ≤ b.left)) (s : Int) : ∀ i : Nat, i ≤ g.prods.length → prodsTo g s i = List.range' (min i (cntL g.prods s)) (min i (cntL g.prods (s + 1)) - min i (cntL g.prods s))
  | 0, _ => by simp [prodsTo]
  | i + 1, hi => by
    obtain ⟨p, hp⟩ := get_ok (show i < g.prods.length by omega)
    have ih := prodsTo_range hs s i (by omega)
    have h1 := sorted_iff hs s i p hp
    have h2 := sorted_iff hs (s + 1) i p hp
    have hm := cntL_mono g.prods s
    rw [prodsTo_succ hp, ih]
    generalize cntL g.prods s = a at *
    generalize cntL g.prods (s + 1) = b at *
    by_cases he : p.left = s
    · rw [if_pos he]
      have ha : a ≤ i := by omega
      have hb : i < b := by omega
      rw [show min i a = a by omega, show min (i + 1) a = a by omega, show min i b = i by omega, show min (i + 1) b = i + 1 by omega, show i + 1 - a = (i - a) + 1 by omega, List.range'_concat]
      congr 1
      simp; omega
    · rw [if_neg he, List.append_nil]
      rcases Nat.lt_or_ge i a with ha | ha
      · rw [show min i b - min i a = 0 by omega, show min (i + 1) b - min (i + 1) a = 0 by omega]; rfl
      · have hb : b ≤ i := by omega
        rw [show min (i + 1) a = min i a by omega, show min (i + 1) b = min i b by omega]
theorem prodsF_range {g : Gram} (hs : g.prods.Pairwise (fun a b => a.left ≤ b.left)) (s : Int) : prodsF g s = List.range' (cntL g.prods s) (cntL g.prods (s + 1) - cntL g.prods s) := by
  have h1 : cntL g.prods s ≤ g.prods.length := List.countP_le_length
  have h2 : cntL g.prods (s + 1) ≤ g.prods.length := List.countP_le_length
  rw [show prodsF g s = prodsTo g s g.prods.length from rfl, prodsTo_range hs s _ (Nat.le_refl _), Nat.min_eq_right h1, Nat.min_eq_right h2]
theorem sorted_of {l : List GProd} (h : ∀ (i : Nat) (p q : GProd), l[i]? = some p → l[i + 1]? = some q → p.left ≤ q.left) : l.Pairwise (fun a b => a.left ≤ b.left) := by
  induction l with
  | nil => exact .nil
  | cons a l ih =>
    have ht : l.Pairwise (fun a b => a.left ≤ b.left) := ih fun i p q hp hq => h (i + 1) p q (by simpa using hp) (by simpa using hq)
    refine List.pairwise_cons.2 ⟨fun q hq => ?_, ht⟩
    cases l with
    | nil => cases hq
    | cons b l =>
      have hab := h 0 a b rfl rfl
      rcases List.mem_cons.1 hq with rfl | hq
      · exact hab
      · have := (List.pairwise_cons.1 ht).1 q hq
        omega
theorem valid_sorted {g : Gram} (h : checkF g = 0) : g.prods.Pairwise (fun a b => a.left ≤ b.left) := by
  obtain ⟨_, ho, _⟩ := symbols_zero (check_parts h).2.2.2.2
  refine sorted_of fun i p q hp hq => ?_
  rcases Int.lt_or_le q.left p.left with hl | hl
  · exact absurd ⟨i, p, q, hp, hq, hl⟩ ho
  · exact hl
theorem valid_first {g : Gram} (h : checkF g = 0) : cntL g.prods 16 = 0 := by
  obtain ⟨hs, _, _⟩ := symbols_zero (check_parts h).2.2.2.2
  rw [cntL, List.countP_eq_zero]
  intro p hp
  have := (hs.2 p hp).1
  simp only [isNonterm, Bool.and_eq_true, decide_eq_true_eq] at this ⊢
  omega
theorem valid_last {g : Gram} (h : checkF g = 0) : cntL g.prods (16 + g.names.length) = g.prods.length := by
  obtain ⟨hs, _, _⟩ := symbols_zero (check_parts h).2.2.2.2
  rw [cntL, List.countP_eq_length]
  intro p hp
  have := (hs.2 p hp).1
  simp only [isNonterm, Bool.and_eq_true, decide_eq_true_eq] at this ⊢
  omega
theorem valid_some {g : Gram} (h : checkF g = 0) {i : Nat} (hi : i < g.names.length) : cntL g.prods (16 + i) < cntL g.prods (16 + i + 1) := by
  obtain ⟨_, _, hm⟩ := symbols_zero (check_parts h).2.2.2.2
  have hne : prodsF g (16 + i) ≠ [] := fun e => hm ⟨i, hi, e⟩
  rw [prodsF_range (valid_sorted h)] at hne
  rcases Nat.lt_or_ge (cntL g.prods (16 + i)) (cntL g.prods (16 + i + 1)) with hl | hl
  · exact hl
  · exact absurd (by rw [Nat.sub_eq_zero_of_le hl]; rfl) hne
theorem nodup_idx {α : Type} [DecidableEq α] [BEq α] [LawfulBEq α] {l : List α} (hn : l.Nodup) {i : Nat} {x : α} (h : l[i]? = some x) : l.idxOf x = i := by
  obtain ⟨hi, rfl⟩ := List.getElem?_eq_some_iff.1 h
  exact hn.idxOf_getElem i hi
theorem valid_back {g : Gram} (h : checkF g = 0) {s : Int} (hg : goodS g s = true) : askSymF g (nameS g s) = (s, 0) := by
  obtain ⟨hm, _, _, hn, _⟩ := check_parts h
  obtain ⟨ht, _⟩ := many_zero hm
  have hn0 : namedF g = 0 := by
    unfold namesF at hn
    split at hn
    · omega
    · exact hn
  have hnd : (smalls g).Nodup ∧ g.names.Nodup := by
    unfold namesF at hn
    rw [hn0] at hn
    by_cases h1 : (smalls g).Nodup <;> by_cases h2 : g.names.Nodup <;> simp_all
  have htn : g.tokens.Nodup := by
    have := hnd.1
    unfold smalls at this
    exact (List.nodup_append.1 this).1
  obtain ⟨x, hx⟩ := name_of_good ht hg
  rw [nameS_of hx]
  have hsym : symF g x = s := by
    unfold symName at hx
    by_cases h16 : 16 ≤ s
    · rw [if_pos h16] at hx
      have hmem := List.mem_of_getElem? hx
      have hf : findF g.names x = ((s - 16).toNat : Int) := by
        unfold findF
        rw [if_pos hmem, nodup_idx hnd.2 hx]
      unfold symF
      rw [hf, if_pos (by omega)]; omega
    · rw [if_neg h16] at hx
      by_cases h0 : 0 ≤ s
      · rw [if_pos h0] at hx
        have hmem := List.mem_of_getElem? hx
        have hno : x ∉ g.names := fun hc => names_apart h x hmem hc
        have hf : findF g.tokens x = (s.toNat : Int) := by
          unfold findF
          rw [if_pos hmem, nodup_idx htn hx]
        unfold symF
        rw [show findF g.names x = -1 from by unfold findF; rw [if_neg hno], if_neg (by omega), hf]; omega
      · rw [if_neg h0] at hx; cases hx
  have hs0 : 0 ≤ s := by
    simp only [goodS, isTerm, isNonterm, Bool.or_eq_true, Bool.and_eq_true, decide_eq_true_eq] at hg
    omega
  unfold askSymF
  rw [if_neg (by simp [h]), hsym, if_neg (by omega)]
end Go.Av
end

/-
  Parts of the way to the law, joined: rules for code over data, and what the functions return. Conditions stand at each.
-/
import Derived.Test.YtbhonjkfkdeneaaGreatQ5
import Derived.Test.YtbhonjkfkdeneaaGreatQ3
import Derived.Test.YtbhonjkfkdeneaaGreatQ4
import Derived.Test.YtbhonjkfkdeneaaGreatQ2
noncomputable section
namespace Go.Av
open Go Go.Proofs
set_option maxRecDepth 10000
def altQ (a : List (List Nat)) : List Nat := a.flatMap fun s => 32 :: s
def barP : Nat → List Nat
  | 0 => []
  | _ + 1 => [32, 124]
def altsTo (al : List (List (List Nat))) : Nat → List Nat
  | 0 => []
  | n + 1 => altsTo al n ++ barP n ++ altQ (al.getD n [])
def ruleP (r : SRule) : List Nat := r.name ++ [32, 61] ++ altsTo r.alts r.alts.length ++ [32, 59, 10]
def headP (x : Src) : List Nat := [108, 111, 111, 107, 97, 104, 101, 97, 100, 32] ++ [48 + x.k.toNat] ++ [59, 10, 116, 111, 107, 101, 110, 32] ++ List.intercalate [44, 32] x.tokens ++ [59, 10, 115, 101, 112, 97, 114, 97, 116, 111, 114, 32] ++ x.sep ++ [59, 10, 115, 116, 97, 114, 116, 32] ++ x.start ++ [59, 10]
def rulesTo (x : Src) (n : Nat) : List Nat := (x.rules.take n).flatMap ruleP
def printX (x : Src) : List Nat := headP x ++ rulesTo x x.rules.length
theorem rulesTo_succ {x : Src} {i : Nat} {r : SRule} (h : x.rules[i]? = some r) : rulesTo x (i + 1) = rulesTo x i ++ ruleP r := by
  unfold rulesTo; rw [List.take_add_one, h]; simp
theorem rulesTo_le (x : Src) {i j : Nat} (h : i ≤ j) : (rulesTo x i).length ≤ (rulesTo x j).length := by
  unfold rulesTo
  obtain ⟨d, rfl⟩ : ∃ d, j = i + d := ⟨j - i, by omega⟩
  rw [List.take_add, List.flatMap_append, List.length_append]; omega
theorem altsTo_le (al : List (List (List Nat))) {i j : Nat} (h : i ≤ j) : (altsTo al i).length ≤ (altsTo al j).length := by
  induction j with
  | zero => have : i = 0 := by omega
            subst this; exact Nat.le_refl _
  | succ j ih =>
    rcases Nat.lt_or_ge i (j + 1) with h1 | h1
    · have := ih (by omega)
      simp only [altsTo, List.length_append]; omega
    · have : i = j + 1 := by omega
      subst this; exact Nat.le_refl _
def altTo (a : List (List Nat)) (n : Nat) : List Nat := altQ (a.take n)
theorem altTo_succ {a : List (List Nat)} {i : Nat} {s : List Nat} (h : a[i]? = some s) : altTo a (i + 1) = altTo a i ++ (32 :: s) := by
  unfold altTo altQ; rw [List.take_add_one, h]; simp
theorem altTo_le (a : List (List Nat)) (i : Nat) : (altTo a i).length ≤ (altQ a).length := by
  unfold altTo altQ
  conv => rhs; rw [← List.take_append_drop i a, List.flatMap_append, List.length_append]
  omega
def firstP (x : Src) : List (List Nat) := [[108, 111, 111, 107, 97, 104, 101, 97, 100, 32], [48 + x.k.toNat], [59, 10, 116, 111, 107, 101, 110, 32], List.intercalate [44, 32] x.tokens, [59, 10, 115, 101, 112, 97, 114, 97, 116, 111, 114, 32], x.sep, [59, 10, 115, 116, 97, 114, 116, 32], x.start, [59, 10]]
theorem firstP_head (x : Src) : (firstP x).flatten = headP x := by simp [firstP, headP]
theorem putE {l l' : List Nat} (ss : List (List Nat)) (q : Nat) (rest : List Ob) (he : l ++ ss.flatten = l') (hq : ss.length = q + 1) (hs : l'.length ≤ 1099511627776) (hl : q ≤ 1000) :
    ACall Tryz.prog 111 [.bp 0 0, .d (strs ss)] (prB l rest) (.tup []) (prO q l' rest) := by
  subst he; exact putR l ss q rest hq hs hl
theorem printS (x : Src) (hf : FitsX x) (ht : (innerX x).length ≤ 1048576) (h0 : checkX x = 0) (hp : (printX x).length ≤ 1099511627776) (hb : ∀ c ∈ printX x, c < 256) :
    KnownCall Tryz.prog 31 [encX x] (.tup [.d (.str (printX x)), .d (.int .i64 0)]) := by
  have hk : x.k = 1 ∨ x.k = 2 ∨ x.k = 3 ∨ x.k = 4 := by
    have hn : ¬ (x.k < 1 ∨ 4 < x.k) := fun h => by rw [checkX_k h] at h0; cases h0
    omega
  have e1 : AV.d (.int .i64 (IntKind.i64.wrap (48 + x.k))) = .d (.int .i64 (48 + x.k)) := by rcases hk with h | h | h | h <;> rw [h] <;> rfl
  have e2 : AV.d (.int .u8 (IntKind.u8.wrap (48 + x.k))) = .d (.int .u8 (48 + x.k)) := by rcases hk with h | h | h | h <;> rw [h] <;> rfl
  have e3 : AV.d (.str [(48 + x.k).toNat % 256]) = .d (.str [48 + x.k.toNat]) := by rcases hk with h | h | h | h <;> rw [h] <;> rfl
  have hc := checkS x hf ht
  rw [h0] at hc
  have hpl : (printX x).length = (headP x).length + (rulesTo x x.rules.length).length := by simp [printX]
  have hjl : (List.intercalate [44, 32] x.tokens).length ≤ 1099511627776 := by
    simp only [headP, List.length_append] at hpl; omega
  have htl := hf.tokens
  have hrls := hf.rules
  refine knownE Et_ok (fnAt Tryz.func31 (by kernel_rfl) (by kernel_rfl) : FnAt _ _ (mkFn Tryz.f31 [1, 24, 33, 45, 58, 68, 73])) ?_
  repeat (first | refine Run.region ?_ | refine Run.seq ?_ | refine RunOps.nil ?_ | refine Run.skip ?_ | refine cT ?_ | refine cF ?_ | refine Run.block ?_ | refine Run.exit ?_ | refine eN ?_ | refine Run.draw (frz := [1, 24, 33, 45, 58, 68, 73]) Et_ok (by kernel_rfl) ?_)
  iterate 3 refine oX (frz := [1, 24, 33, 45, 58, 68, 73]) Et_ok ?_
  repeat (first | refine Run.region ?_ | refine Run.seq ?_ | refine RunOps.nil ?_ | refine Run.skip ?_ | refine cT ?_ | refine cF ?_ | refine Run.block ?_ | refine Run.exit ?_ | refine eN ?_ | refine Run.draw (frz := [1, 24, 33, 45, 58, 68, 73]) Et_ok (by kernel_rfl) ?_)
  refine oX (frz := [1, 24, 33, 45, 58, 68, 73]) Et_ok ?_
  refine oC hc ?_
  refine oX (frz := [1, 24, 33, 45, 58, 68, 73]) Et_ok ?_
  repeat (first | refine Run.region ?_ | refine Run.seq ?_ | refine RunOps.nil ?_ | refine Run.skip ?_ | refine cT ?_ | refine cF ?_ | refine Run.block ?_ | refine Run.exit ?_ | refine eN ?_ | refine Run.draw (frz := [1, 24, 33, 45, 58, 68, 73]) Et_ok (by kernel_rfl) ?_)
  iterate 2 refine oX (frz := [1, 24, 33, 45, 58, 68, 73]) Et_ok ?_
  repeat (first | refine Run.region ?_ | refine Run.seq ?_ | refine RunOps.nil ?_ | refine Run.skip ?_ | refine cT ?_ | refine cF ?_ | refine Run.block ?_ | refine Run.exit ?_ | refine eN ?_ | refine Run.draw (frz := [1, 24, 33, 45, 58, 68, 73]) Et_ok (by kernel_rfl) ?_)
  iterate 3 refine oX (frz := [1, 24, 33, 45, 58, 68, 73]) Et_ok ?_
  repeat (first | refine Run.region ?_ | refine Run.seq ?_ | refine RunOps.nil ?_ | refine Run.skip ?_ | refine cT ?_ | refine cF ?_ | refine Run.block ?_ | refine Run.exit ?_ | refine eN ?_ | refine Run.draw (frz := [1, 24, 33, 45, 58, 68, 73]) Et_ok (by kernel_rfl) ?_)
  iterate 3 refine eX ?_
  refine eX (v := .d (.int .i64 (48 + x.k))) ?_ (he := e1)
  refine eX (v := .d (.int .u8 (48 + x.k))) ?_ (he := e2)
  refine eX ?_
  refine eX (v := .d (.str [48 + x.k.toNat])) ?_ (he := e3)
  iterate 2 refine eX ?_
  refine eC (joinK x.tokens [44, 32] (by omega) hjl) ?_
  iterate 4 refine eX ?_
  refine eX (v := .d (strs (firstP x))) (v' := .d (strs (firstP x))) (ob := none) (fl := true) ?_ (hv := by kernel_rfl) (he := rfl)
  refine EvD.callO (by rfl) (by rfl) (by rfl) (put0 _ (firstP x).tail ?_ (by simp [firstP])) (by rfl) (by rfl) ?_
  · show ((firstP x).flatten).length ≤ _
    rw [firstP_head]; omega
  refine eN ?_
  repeat (first | refine Run.region ?_ | refine Run.seq ?_ | refine RunOps.nil ?_ | refine Run.skip ?_ | refine cT ?_ | refine cF ?_ | refine Run.block ?_ | refine Run.exit ?_ | refine eN ?_ | refine Run.draw (frz := [1, 24, 33, 45, 58, 68, 73]) Et_ok (by kernel_rfl) ?_)
  iterate 4 refine oX (frz := [1, 24, 33, 45, 58, 68, 73]) Et_ok ?_
  repeat (first | refine Run.region ?_ | refine Run.seq ?_ | refine RunOps.nil ?_ | refine Run.skip ?_ | refine cT ?_ | refine cF ?_ | refine Run.block ?_ | refine Run.exit ?_ | refine eN ?_ | refine Run.draw (frz := [1, 24, 33, 45, 58, 68, 73]) Et_ok (by kernel_rfl) ?_)
  refine Run.loopR (fun i : Nat => ⟨PT.ofList [(1, cellX x), (5, .bp 0 0), (36, .d (.sl 2 (x.rules.map encR))), (37, .d (.int .i64 (x.rules.map encR).length)), (38, .d (.int .i64 i))], prB (headP x ++ rulesTo x i) [], []⟩) (fun i => i ≤ x.rules.length) (fun i => x.rules.length - i) 0 (Nat.zero_le _) (prR3 _ (show (firstP x).flatten = _ by rw [firstP_head]; simp [rulesTo]) ⟨⟨rfl, rfl⟩, ⟨rfl, rfl⟩, ⟨rfl, rfl⟩, ⟨rfl, rfl⟩, ⟨rfl, rfl⟩, trivial⟩) (fun i hi => ?_)
  repeat (first | refine Run.region ?_ | refine Run.seq ?_ | refine RunOps.nil ?_ | refine Run.skip ?_ | refine cT ?_ | refine cF ?_ | refine Run.block ?_ | refine Run.exit ?_ | refine eN ?_ | refine Run.draw (frz := [1, 24, 33, 45, 58, 68, 73]) Et_ok (by kernel_rfl) ?_)
  refine oX (frz := [1, 24, 33, 45, 58, 68, 73]) Et_ok ?_
  repeat (first | refine Run.region ?_ | refine Run.seq ?_ | refine RunOps.nil ?_ | refine Run.skip ?_ | refine cT ?_ | refine cF ?_ | refine Run.block ?_ | refine Run.exit ?_ | refine eN ?_ | refine Run.draw (frz := [1, 24, 33, 45, 58, 68, 73]) Et_ok (by kernel_rfl) ?_)
  refine Run.cond (by rfl) (fun h => ?_) (fun h => ?_)
  · have hlt : i < x.rules.length := by simpa using h
    obtain ⟨r, hr⟩ := get_ok hlt
    repeat (first | refine Run.region ?_ | refine Run.seq ?_ | refine RunOps.nil ?_ | refine Run.skip ?_ | refine cT ?_ | refine cF ?_ | refine Run.block ?_ | refine Run.exit ?_ | refine eN ?_ | refine Run.draw (frz := [1, 24, 33, 45, 58, 68, 73]) Et_ok (by kernel_rfl) ?_)
    first | refine oX (frz := [1, 24, 33, 45, 58, 68, 73]) (v := .d (.ep [.str r.name, alts r.alts])) Et_ok ?_ (hf := (by first | (simp [inB] <;> fail) | (simp [inB]; omega))) (he := (by first | (simp [List.getD_eq_getElem?_getD, cellsD, hr, encR] <;> fail) | fail)) | refine eX (v := .d (.ep [.str r.name, alts r.alts])) ?_ (hf := (by first | (simp [inB] <;> fail) | (simp [inB]; omega))) (he := (by first | (simp [List.getD_eq_getElem?_getD, cellsD, hr, encR] <;> fail) | fail))
    iterate 3 refine oX (frz := [1, 24, 33, 45, 58, 68, 73]) Et_ok ?_
    repeat (first | refine Run.region ?_ | refine Run.seq ?_ | refine RunOps.nil ?_ | refine Run.skip ?_ | refine cT ?_ | refine cF ?_ | refine Run.block ?_ | refine Run.exit ?_ | refine eN ?_ | refine Run.draw (frz := [1, 24, 33, 45, 58, 68, 73]) Et_ok (by kernel_rfl) ?_)
    iterate 4 refine oX (frz := [1, 24, 33, 45, 58, 68, 73]) Et_ok ?_
    have hRL : (headP x ++ rulesTo x i ++ ruleP r).length ≤ 1099511627776 := by
      have h1 := rulesTo_succ hr
      have h2 := rulesTo_le x (i := i + 1) (j := x.rules.length) hlt
      rw [List.append_assoc, ← h1, List.length_append]; omega
    have hrm := List.mem_of_getElem? hr
    have hal := hf.alts r hrm
    have hRl : (ruleP r).length = r.name.length + 2 + (altsTo r.alts r.alts.length).length + 3 := by simp [ruleP]; omega
    rw [List.length_append] at hRL
    generalize hB : headP x ++ rulesTo x i = B at *
    refine RunOps.call (by rfl) (by rfl) (putE (l := B) (l' := B ++ r.name ++ [32, 61]) [r.name, [32, 61]] 1 [.box ([.str r.name, alts r.alts].map .d)] (by simp) rfl (by simp only [List.length_append, List.length_cons, List.length_nil]; omega) (by omega)) (by rfl) (by rfl) ?_
    refine RunOps.relab (prR1 [.str r.name, alts r.alts] [(1, cellX x), (5, .bp 0 0), (36, .d (.sl 2 (x.rules.map encR))), (37, .d (.int .i64 (x.rules.map encR).length)), (38, .d (.int .i64 i)), (7, .bp 2 0)] rfl ⟨⟨rfl, rfl⟩, ⟨rfl, rfl⟩, ⟨rfl, rfl⟩, ⟨rfl, rfl⟩, ⟨rfl, rfl⟩, ⟨rfl, rfl⟩, trivial⟩) ?_
    repeat (first | refine Run.region ?_ | refine Run.seq ?_ | refine RunOps.nil ?_ | refine Run.skip ?_ | refine cT ?_ | refine cF ?_ | refine Run.block ?_ | refine Run.exit ?_ | refine eN ?_ | refine Run.draw (frz := [1, 24, 33, 45, 58, 68, 73]) Et_ok (by kernel_rfl) ?_)
    iterate 4 refine oX (frz := [1, 24, 33, 45, 58, 68, 73]) Et_ok ?_
    repeat (first | refine Run.region ?_ | refine Run.seq ?_ | refine RunOps.nil ?_ | refine Run.skip ?_ | refine cT ?_ | refine cF ?_ | refine Run.block ?_ | refine Run.exit ?_ | refine eN ?_ | refine Run.draw (frz := [1, 24, 33, 45, 58, 68, 73]) Et_ok (by kernel_rfl) ?_)
    refine Run.loopR (fun k : Nat => ⟨PT.ofList [(1, cellX x), (5, .bp 0 0), (36, .d (.sl 2 (x.rules.map encR))), (37, .d (.int .i64 (x.rules.map encR).length)), (38, .d (.int .i64 i)), (7, .bp 2 0), (48, .d (alts r.alts)), (49, .d (.int .i64 (r.alts.map strs).length)), (50, .d (.int .i64 k))], prB (B ++ r.name ++ [32, 61] ++ altsTo r.alts k) [.box ([.str r.name, alts r.alts].map .d)], []⟩) (fun k => k ≤ r.alts.length) (fun k => r.alts.length - k) 0 (Nat.zero_le _) (prI1 [.str r.name, alts r.alts] _ (by simp [altsTo]) ⟨⟨rfl, rfl⟩, ⟨rfl, rfl⟩, ⟨rfl, rfl⟩, ⟨rfl, rfl⟩, ⟨rfl, rfl⟩, ⟨rfl, rfl⟩, ⟨rfl, rfl⟩, ⟨rfl, rfl⟩, ⟨rfl, rfl⟩, trivial⟩) (fun k hk => ?_)
    repeat (first | refine Run.region ?_ | refine Run.seq ?_ | refine RunOps.nil ?_ | refine Run.skip ?_ | refine cT ?_ | refine cF ?_ | refine Run.block ?_ | refine Run.exit ?_ | refine eN ?_ | refine Run.draw (frz := [1, 24, 33, 45, 58, 68, 73]) Et_ok (by kernel_rfl) ?_)
    refine oX (frz := [1, 24, 33, 45, 58, 68, 73]) Et_ok ?_
    repeat (first | refine Run.region ?_ | refine Run.seq ?_ | refine RunOps.nil ?_ | refine Run.skip ?_ | refine cT ?_ | refine cF ?_ | refine Run.block ?_ | refine Run.exit ?_ | refine eN ?_ | refine Run.draw (frz := [1, 24, 33, 45, 58, 68, 73]) Et_ok (by kernel_rfl) ?_)
    refine Run.cond (by rfl) (fun h => ?_) (fun h => ?_)
    · have hklt : k < r.alts.length := by simpa using h
      obtain ⟨a, ha⟩ := get_ok hklt
      have ham := List.mem_of_getElem? ha
      have hanl := hf.names r hrm a ham
      have hgd : r.alts.getD k [] = a := by rw [List.getD_eq_getElem?_getD, ha]; rfl
      have hnext : altsTo r.alts (k + 1) = altsTo r.alts k ++ barP k ++ altQ a := by rw [← hgd]; rfl
      have hkl := altsTo_le r.alts (i := k + 1) (j := r.alts.length) hklt
      rw [hnext] at hkl
      simp only [List.length_append] at hkl
      repeat (first | refine Run.region ?_ | refine Run.seq ?_ | refine RunOps.nil ?_ | refine Run.skip ?_ | refine cT ?_ | refine cF ?_ | refine Run.block ?_ | refine Run.exit ?_ | refine eN ?_ | refine Run.draw (frz := [1, 24, 33, 45, 58, 68, 73]) Et_ok (by kernel_rfl) ?_)
      refine oX (frz := [1, 24, 33, 45, 58, 68, 73]) Et_ok ?_
      first | refine oX (frz := [1, 24, 33, 45, 58, 68, 73]) (v := .d (.ep [strs a])) Et_ok ?_ (hf := (by first | (simp [inB] <;> fail) | (simp [inB]; omega))) (he := (by first | (simp [List.getD_eq_getElem?_getD, cellsD, ha] <;> fail) | fail)) | refine eX (v := .d (.ep [strs a])) ?_ (hf := (by first | (simp [inB] <;> fail) | (simp [inB]; omega))) (he := (by first | (simp [List.getD_eq_getElem?_getD, cellsD, ha] <;> fail) | fail))
      iterate 3 refine oX (frz := [1, 24, 33, 45, 58, 68, 73]) Et_ok ?_
      repeat (first | refine Run.region ?_ | refine Run.seq ?_ | refine RunOps.nil ?_ | refine Run.skip ?_ | refine cT ?_ | refine cF ?_ | refine Run.block ?_ | refine Run.exit ?_ | refine eN ?_ | refine Run.draw (frz := [1, 24, 33, 45, 58, 68, 73]) Et_ok (by kernel_rfl) ?_)
      iterate 2 refine oX (frz := [1, 24, 33, 45, 58, 68, 73]) Et_ok ?_
      repeat (first | refine Run.region ?_ | refine Run.seq ?_ | refine RunOps.nil ?_ | refine Run.skip ?_ | refine cT ?_ | refine cF ?_ | refine Run.block ?_ | refine Run.exit ?_ | refine eN ?_ | refine Run.draw (frz := [1, 24, 33, 45, 58, 68, 73]) Et_ok (by kernel_rfl) ?_)
      refine Run.mono (K := fun e s1 => e = .normal ∧ Relab 0 s1 ⟨PT.ofList [(1, cellX x), (5, .bp 0 0), (36, .d (.sl 2 (x.rules.map encR))), (37, .d (.int .i64 (x.rules.map encR).length)), (38, .d (.int .i64 i)), (7, .bp 2 0), (48, .d (alts r.alts)), (49, .d (.int .i64 (r.alts.map strs).length)), (50, .d (.int .i64 k)), (9, .d (strs a))], prB (B ++ r.name ++ [32, 61] ++ altsTo r.alts k ++ barP k) [.box ([.str r.name, alts r.alts].map .d)], []⟩) ?_ (fun e s1 hk1 => ?_)
      · rcases k with _ | k
        · repeat (first | refine Run.region ?_ | refine Run.seq ?_ | refine RunOps.nil ?_ | refine Run.skip ?_ | refine cT ?_ | refine cF ?_ | refine Run.block ?_ | refine Run.exit ?_ | refine eN ?_ | refine Run.draw (frz := [1, 24, 33, 45, 58, 68, 73]) Et_ok (by kernel_rfl) ?_)
          exact ⟨rfl, prI1 [.str r.name, alts r.alts] _ (by simp [barP]) ⟨⟨rfl, rfl⟩, ⟨rfl, rfl⟩, ⟨rfl, rfl⟩, ⟨rfl, rfl⟩, ⟨rfl, rfl⟩, ⟨rfl, rfl⟩, ⟨rfl, rfl⟩, ⟨rfl, rfl⟩, ⟨rfl, rfl⟩, ⟨rfl, rfl⟩, trivial⟩⟩
        · have hb2 : (barP (k + 1)).length = 2 := rfl
          refine Run.cond (by rfl) (fun h1 => ?_) (fun h1 => ?_)
          · repeat (first | refine Run.region ?_ | refine Run.seq ?_ | refine RunOps.nil ?_ | refine Run.skip ?_ | refine cT ?_ | refine cF ?_ | refine Run.block ?_ | refine Run.exit ?_ | refine eN ?_ | refine Run.draw (frz := [1, 24, 33, 45, 58, 68, 73]) Et_ok (by kernel_rfl) ?_)
            iterate 2 refine oX (frz := [1, 24, 33, 45, 58, 68, 73]) Et_ok ?_
            refine RunOps.call (by rfl) (by rfl) (putE (l' := B ++ r.name ++ [32, 61] ++ altsTo r.alts (k + 1) ++ barP (k + 1)) [[32, 124]] 0 [.box ([.str r.name, alts r.alts].map .d)] (by simp [barP]) rfl (by simp only [List.length_append, List.length_cons, List.length_nil]; omega) (by omega)) (by rfl) (by rfl) ?_
            repeat (first | refine Run.region ?_ | refine Run.seq ?_ | refine RunOps.nil ?_ | refine Run.skip ?_ | refine cT ?_ | refine cF ?_ | refine Run.block ?_ | refine Run.exit ?_ | refine eN ?_ | refine Run.draw (frz := [1, 24, 33, 45, 58, 68, 73]) Et_ok (by kernel_rfl) ?_)
            exact ⟨rfl, prR1 [.str r.name, alts r.alts] _ rfl ⟨⟨rfl, rfl⟩, ⟨rfl, rfl⟩, ⟨rfl, rfl⟩, ⟨rfl, rfl⟩, ⟨rfl, rfl⟩, ⟨rfl, rfl⟩, ⟨rfl, rfl⟩, ⟨rfl, rfl⟩, ⟨rfl, rfl⟩, ⟨rfl, rfl⟩, trivial⟩⟩
          · exfalso; simp at h1
      · obtain ⟨rfl, hk1⟩ := hk1
        refine Run.relab hk1 ?_
        repeat (first | refine Run.region ?_ | refine Run.seq ?_ | refine RunOps.nil ?_ | refine Run.skip ?_ | refine cT ?_ | refine cF ?_ | refine Run.block ?_ | refine Run.exit ?_ | refine eN ?_ | refine Run.draw (frz := [1, 24, 33, 45, 58, 68, 73]) Et_ok (by kernel_rfl) ?_)
        iterate 3 refine oX (frz := [1, 24, 33, 45, 58, 68, 73]) Et_ok ?_
        repeat (first | refine Run.region ?_ | refine Run.seq ?_ | refine RunOps.nil ?_ | refine Run.skip ?_ | refine cT ?_ | refine cF ?_ | refine Run.block ?_ | refine Run.exit ?_ | refine eN ?_ | refine Run.draw (frz := [1, 24, 33, 45, 58, 68, 73]) Et_ok (by kernel_rfl) ?_)
        refine Run.loopR (fun j : Nat => ⟨PT.ofList [(1, cellX x), (5, .bp 0 0), (36, .d (.sl 2 (x.rules.map encR))), (37, .d (.int .i64 (x.rules.map encR).length)), (38, .d (.int .i64 i)), (7, .bp 2 0), (48, .d (alts r.alts)), (49, .d (.int .i64 (r.alts.map strs).length)), (50, .d (.int .i64 k)), (9, .d (strs a)), (60, .d (strs a)), (61, .d (.int .i64 (a.map DV.str).length)), (62, .d (.int .i64 j))], prB (B ++ r.name ++ [32, 61] ++ altsTo r.alts k ++ barP k ++ altTo a j) [.box ([.str r.name, alts r.alts].map .d)], []⟩) (fun j => j ≤ a.length) (fun j => a.length - j) 0 (Nat.zero_le _) (prI1 [.str r.name, alts r.alts] _ (by simp [altTo, altQ]) ⟨⟨rfl, rfl⟩, ⟨rfl, rfl⟩, ⟨rfl, rfl⟩, ⟨rfl, rfl⟩, ⟨rfl, rfl⟩, ⟨rfl, rfl⟩, ⟨rfl, rfl⟩, ⟨rfl, rfl⟩, ⟨rfl, rfl⟩, ⟨rfl, rfl⟩, ⟨rfl, rfl⟩, ⟨rfl, rfl⟩, ⟨rfl, rfl⟩, trivial⟩) (fun j hj => ?_)
        repeat (first | refine Run.region ?_ | refine Run.seq ?_ | refine RunOps.nil ?_ | refine Run.skip ?_ | refine cT ?_ | refine cF ?_ | refine Run.block ?_ | refine Run.exit ?_ | refine eN ?_ | refine Run.draw (frz := [1, 24, 33, 45, 58, 68, 73]) Et_ok (by kernel_rfl) ?_)
        refine oX (frz := [1, 24, 33, 45, 58, 68, 73]) Et_ok ?_
        repeat (first | refine Run.region ?_ | refine Run.seq ?_ | refine RunOps.nil ?_ | refine Run.skip ?_ | refine cT ?_ | refine cF ?_ | refine Run.block ?_ | refine Run.exit ?_ | refine eN ?_ | refine Run.draw (frz := [1, 24, 33, 45, 58, 68, 73]) Et_ok (by kernel_rfl) ?_)
        refine Run.cond (by rfl) (fun h => ?_) (fun h => ?_)
        · have hjlt : j < a.length := by simpa using h
          obtain ⟨s, hsj⟩ := get_ok hjlt
          have hsu := altTo_succ hsj
          have hjl := altTo_le a (j + 1)
          rw [hsu, List.length_append] at hjl
          repeat (first | refine Run.region ?_ | refine Run.seq ?_ | refine RunOps.nil ?_ | refine Run.skip ?_ | refine cT ?_ | refine cF ?_ | refine Run.block ?_ | refine Run.exit ?_ | refine eN ?_ | refine Run.draw (frz := [1, 24, 33, 45, 58, 68, 73]) Et_ok (by kernel_rfl) ?_)
          first | refine oX (frz := [1, 24, 33, 45, 58, 68, 73]) (v := .d (.ep [.str s])) Et_ok ?_ (hf := (by first | (simp [inB] <;> fail) | (simp [inB]; omega))) (he := (by first | (simp [List.getD_eq_getElem?_getD, cellsD, hsj] <;> fail) | fail)) | refine eX (v := .d (.ep [.str s])) ?_ (hf := (by first | (simp [inB] <;> fail) | (simp [inB]; omega))) (he := (by first | (simp [List.getD_eq_getElem?_getD, cellsD, hsj] <;> fail) | fail))
          iterate 2 refine oX (frz := [1, 24, 33, 45, 58, 68, 73]) Et_ok ?_
          repeat (first | refine Run.region ?_ | refine Run.seq ?_ | refine RunOps.nil ?_ | refine Run.skip ?_ | refine cT ?_ | refine cF ?_ | refine Run.block ?_ | refine Run.exit ?_ | refine eN ?_ | refine Run.draw (frz := [1, 24, 33, 45, 58, 68, 73]) Et_ok (by kernel_rfl) ?_)
          iterate 3 refine oX (frz := [1, 24, 33, 45, 58, 68, 73]) Et_ok ?_
          refine RunOps.call (by rfl) (by rfl) (putE (l' := B ++ r.name ++ [32, 61] ++ altsTo r.alts k ++ barP k ++ altTo a j ++ (32 :: s)) [[32], s] 1 [.box ([.str r.name, alts r.alts].map .d)] (by simp) rfl (by simp only [List.length_append, List.length_cons, List.length_nil] at hjl ⊢; omega) (by omega)) (by rfl) (by rfl) ?_
          refine RunOps.relab (prR1 [.str r.name, alts r.alts] [(1, cellX x), (5, .bp 0 0), (36, .d (.sl 2 (x.rules.map encR))), (37, .d (.int .i64 (x.rules.map encR).length)), (38, .d (.int .i64 i)), (7, .bp 2 0), (48, .d (alts r.alts)), (49, .d (.int .i64 (r.alts.map strs).length)), (50, .d (.int .i64 k)), (9, .d (strs a)), (60, .d (strs a)), (61, .d (.int .i64 (a.map DV.str).length)), (62, .d (.int .i64 j))] (by rw [List.append_assoc _ (altTo a j), ← hsu]) ⟨⟨rfl, rfl⟩, ⟨rfl, rfl⟩, ⟨rfl, rfl⟩, ⟨rfl, rfl⟩, ⟨rfl, rfl⟩, ⟨rfl, rfl⟩, ⟨rfl, rfl⟩, ⟨rfl, rfl⟩, ⟨rfl, rfl⟩, ⟨rfl, rfl⟩, ⟨rfl, rfl⟩, ⟨rfl, rfl⟩, ⟨rfl, rfl⟩, trivial⟩) ?_
          repeat (first | refine Run.region ?_ | refine Run.seq ?_ | refine RunOps.nil ?_ | refine Run.skip ?_ | refine cT ?_ | refine cF ?_ | refine Run.block ?_ | refine Run.exit ?_ | refine eN ?_ | refine Run.draw (frz := [1, 24, 33, 45, 58, 68, 73]) Et_ok (by kernel_rfl) ?_)
          refine oX (frz := [1, 24, 33, 45, 58, 68, 73]) Et_ok ?_
          refine oX (frz := [1, 24, 33, 45, 58, 68, 73]) (v := .d (.int .i64 (j + 1 : Nat))) Et_ok ?_ (he := congrArg (fun n => AV.d (.int .i64 n)) (wrap_nat (n := j + 1) (by omega)))
          repeat (first | refine Run.region ?_ | refine Run.seq ?_ | refine RunOps.nil ?_ | refine Run.skip ?_ | refine cT ?_ | refine cF ?_ | refine Run.block ?_ | refine Run.exit ?_ | refine eN ?_ | refine Run.draw (frz := [1, 24, 33, 45, 58, 68, 73]) Et_ok (by kernel_rfl) ?_)
          exact ⟨j + 1, hjlt, by omega, prI1 [.str r.name, alts r.alts] _ rfl ⟨⟨rfl, rfl⟩, ⟨rfl, rfl⟩, ⟨rfl, rfl⟩, ⟨rfl, rfl⟩, ⟨rfl, rfl⟩, ⟨rfl, rfl⟩, ⟨rfl, rfl⟩, ⟨rfl, rfl⟩, ⟨rfl, rfl⟩, ⟨rfl, rfl⟩, ⟨rfl, rfl⟩, ⟨rfl, rfl⟩, ⟨rfl, rfl⟩, trivial⟩⟩
        · have hge : j = a.length := by simp at h; omega
          subst hge
          have hta : altTo a a.length = altQ a := by rw [altTo, List.take_length]
          repeat (first | refine Run.region ?_ | refine Run.seq ?_ | refine RunOps.nil ?_ | refine Run.skip ?_ | refine cT ?_ | refine cF ?_ | refine Run.block ?_ | refine Run.exit ?_ | refine eN ?_ | refine Run.draw (frz := [1, 24, 33, 45, 58, 68, 73]) Et_ok (by kernel_rfl) ?_)
          refine oX (frz := [1, 24, 33, 45, 58, 68, 73]) Et_ok ?_
          refine oX (frz := [1, 24, 33, 45, 58, 68, 73]) (v := .d (.int .i64 (k + 1 : Nat))) Et_ok ?_ (he := congrArg (fun n => AV.d (.int .i64 n)) (wrap_nat (n := k + 1) (by omega)))
          repeat (first | refine Run.region ?_ | refine Run.seq ?_ | refine RunOps.nil ?_ | refine Run.skip ?_ | refine cT ?_ | refine cF ?_ | refine Run.block ?_ | refine Run.exit ?_ | refine eN ?_ | refine Run.draw (frz := [1, 24, 33, 45, 58, 68, 73]) Et_ok (by kernel_rfl) ?_)
          exact ⟨k + 1, hklt, by omega, prI1 [.str r.name, alts r.alts] _ (by rw [hta, hnext]; simp only [List.append_assoc]) ⟨⟨rfl, rfl⟩, ⟨rfl, rfl⟩, ⟨rfl, rfl⟩, ⟨rfl, rfl⟩, ⟨rfl, rfl⟩, ⟨rfl, rfl⟩, ⟨rfl, rfl⟩, ⟨rfl, rfl⟩, ⟨rfl, rfl⟩, trivial⟩⟩
    · have hge : k = r.alts.length := by simp at h; omega
      subst hge
      have hru : B ++ ruleP r = headP x ++ rulesTo x (i + 1) := by rw [rulesTo_succ hr, ← hB, List.append_assoc]
      repeat (first | refine Run.region ?_ | refine Run.seq ?_ | refine RunOps.nil ?_ | refine Run.skip ?_ | refine cT ?_ | refine cF ?_ | refine Run.block ?_ | refine Run.exit ?_ | refine eN ?_ | refine Run.draw (frz := [1, 24, 33, 45, 58, 68, 73]) Et_ok (by kernel_rfl) ?_)
      iterate 2 refine oX (frz := [1, 24, 33, 45, 58, 68, 73]) Et_ok ?_
      refine RunOps.call (by rfl) (by rfl) (putE (l' := B ++ ruleP r) [[32, 59, 10]] 0 [.box ([.str r.name, alts r.alts].map .d)] (by simp [ruleP]) rfl (by rw [List.length_append]; omega) (by omega)) (by rfl) (by rfl) ?_
      repeat (first | refine Run.region ?_ | refine Run.seq ?_ | refine RunOps.nil ?_ | refine Run.skip ?_ | refine cT ?_ | refine cF ?_ | refine Run.block ?_ | refine Run.exit ?_ | refine eN ?_ | refine Run.draw (frz := [1, 24, 33, 45, 58, 68, 73]) Et_ok (by kernel_rfl) ?_)
      refine oX (frz := [1, 24, 33, 45, 58, 68, 73]) Et_ok ?_
      refine oX (frz := [1, 24, 33, 45, 58, 68, 73]) (v := .d (.int .i64 (i + 1 : Nat))) Et_ok ?_ (he := congrArg (fun n => AV.d (.int .i64 n)) (wrap_nat (n := i + 1) (by omega)))
      repeat (first | refine Run.region ?_ | refine Run.seq ?_ | refine RunOps.nil ?_ | refine Run.skip ?_ | refine cT ?_ | refine cF ?_ | refine Run.block ?_ | refine Run.exit ?_ | refine eN ?_ | refine Run.draw (frz := [1, 24, 33, 45, 58, 68, 73]) Et_ok (by kernel_rfl) ?_)
      exact ⟨i + 1, hlt, by omega, prR2 _ hru ⟨⟨rfl, rfl⟩, ⟨rfl, rfl⟩, ⟨rfl, rfl⟩, ⟨rfl, rfl⟩, ⟨rfl, rfl⟩, trivial⟩⟩
  · have hge : i = x.rules.length := by simp at h; omega
    subst hge
    repeat (first | refine Run.region ?_ | refine Run.seq ?_ | refine RunOps.nil ?_ | refine Run.skip ?_ | refine cT ?_ | refine cF ?_ | refine Run.block ?_ | refine Run.exit ?_ | refine eN ?_ | refine Run.draw (frz := [1, 24, 33, 45, 58, 68, 73]) Et_ok (by kernel_rfl) ?_)
    iterate 3 refine oX (frz := [1, 24, 33, 45, 58, 68, 73]) Et_ok ?_
    refine RunOps.call (by rfl) (by rfl) (strSP 0 (printX x) (by simp [printX, headP]) hb) (by rfl) (by rfl) ?_
    iterate 2 refine oX (frz := [1, 24, 33, 45, 58, 68, 73]) Et_ok ?_
    repeat (first | refine Run.region ?_ | refine Run.seq ?_ | refine RunOps.nil ?_ | refine Run.skip ?_ | refine cT ?_ | refine cF ?_ | refine Run.block ?_ | refine Run.exit ?_ | refine eN ?_ | refine Run.draw (frz := [1, 24, 33, 45, 58, 68, 73]) Et_ok (by kernel_rfl) ?_)
    refine Run.ret ?_
    exact rT rfl
end Go.Av
end
noncomputable section
namespace Go.Av
open Go Go.Proofs
set_option maxRecDepth 10000
def sepP : Nat → List Nat
  | 0 => []
  | _ + 1 => [44, 32]
def joinTo (l : List (List Nat)) : Nat → List Nat
  | 0 => []
  | n + 1 => joinTo l n ++ sepP n ++ l.getD n []
theorem inter_snoc (sep a : List Nat) : ∀ l : List (List Nat), l ≠ [] → List.intercalate sep (l ++ [a]) = List.intercalate sep l ++ sep ++ a
  | [], h => absurd rfl h
  | [x], _ => by simp [List.intercalate, List.intersperse]
  | x :: y :: l, _ => by
    have ih := inter_snoc sep a (y :: l) (by simp)
    simp only [List.intercalate, List.cons_append, List.intersperse, List.flatten_cons, List.append_assoc] at ih ⊢
    rw [ih]
theorem joinTo_inter (l : List (List Nat)) : ∀ n, n ≤ l.length → joinTo l n = List.intercalate [44, 32] (l.take n)
  | 0, _ => by simp [joinTo, List.intercalate]
  | n + 1, h => by
    have ih := joinTo_inter l n (by omega)
    have hg : l[n]? = some l[n] := by simp [h]
    have hd : l.getD n [] = l[n] := by rw [List.getD_eq_getElem?_getD, hg]; rfl
    rw [joinTo, ih, hd, List.take_add_one, hg]
    cases n with
    | zero => simp [List.intercalate, sepP]
    | succ n =>
      have hne : l.take (n + 1) ≠ [] := by
        intro e; have hl := congrArg List.length e; rw [List.length_take] at hl; simp only [List.length_nil] at hl; omega
      rw [show (some l[n + 1]).toList = [l[n + 1]] from rfl, inter_snoc _ _ _ hne]; rfl
theorem joinTo_z {l : List (List Nat)} {s : List Nat} (h : l[0]? = some s) : joinTo l (0 + 1) = joinTo l 0 ++ s := by
  have hd : l.getD 0 [] = s := by rw [List.getD_eq_getElem?_getD, h]; rfl
  show [] ++ [] ++ l.getD 0 [] = [] ++ s
  rw [hd]; rfl
theorem joinTo_p {l : List (List Nat)} {n : Nat} {s : List Nat} (h0 : 0 < n) (h : l[n]? = some s) : joinTo l (n + 1) = joinTo l n ++ [44, 32] ++ s := by
  have hd : l.getD n [] = s := by rw [List.getD_eq_getElem?_getD, h]; rfl
  obtain ⟨m, rfl⟩ : ∃ m, n = m + 1 := ⟨n - 1, by omega⟩
  rw [joinTo, hd]; rfl
theorem joinTo_le (l : List (List Nat)) {i j : Nat} (h : i ≤ j) : (joinTo l i).length ≤ (joinTo l j).length := by
  induction j with
  | zero => have : i = 0 := by omega
            subst this; exact Nat.le_refl _
  | succ j ih =>
    rcases Nat.lt_or_ge i (j + 1) with h1 | h1
    · have := ih (by omega)
      simp only [joinTo, List.length_append]; omega
    · have : i = j + 1 := by omega
      subst this; exact Nat.le_refl _
set_option maxHeartbeats 4000000 in
theorem printR (x : Src) (hf : FitsX x) (h0 : checkX x = 0) (hp : (printX x).length ≤ 1099511627776) :
    KnownCall Tryz.prog 34 [encX x] (.tup [.d (.str (printX x)), .d (.int .i64 0)]) := by
  have hk : x.k = 1 ∨ x.k = 2 ∨ x.k = 3 ∨ x.k = 4 := by
    have hn : ¬ (x.k < 1 ∨ 4 < x.k) := fun h => by rw [checkX_k h] at h0; cases h0
    omega
  have e1 : AV.d (.int .i64 (IntKind.i64.wrap (x.k + 1))) = .d (.int .i64 (x.k + 1)) := by rcases hk with h | h | h | h <;> rw [h] <;> rfl
  have e2 : AV.d (.str (cutL (some x.k) (some (x.k + 1)) [48, 49, 50, 51, 52])) = .d (.str [48 + x.k.toNat]) := by rcases hk with h | h | h | h <;> rw [h] <;> rfl
  have e3 : (cutC (some x.k) (some (x.k + 1)) 5) = true := by rcases hk with h | h | h | h <;> rw [h] <;> rfl
  have hc := check08 x hf
  rw [h0] at hc
  have hpl : (printX x).length = (headP x).length + (rulesTo x x.rules.length).length := by simp [printX]
  have hji := joinTo_inter x.tokens x.tokens.length (Nat.le_refl _)
  rw [List.take_length] at hji
  have hhl : (headP x).length = 10 + 1 + 8 + (joinTo x.tokens x.tokens.length).length + 12 + x.sep.length + 8 + x.start.length + 2 := by
    rw [hji]; simp only [headP, List.length_append, List.length_cons, List.length_nil]
  have htl := hf.tokens
  have hrls := hf.rules
  refine knownE Et_ok (fnAt Tryz.func34 (by kernel_rfl) (by kernel_rfl) : FnAt _ _ (mkFn Tryz.f34 [1])) ?_
  repeat (first | refine Run.region ?_ | refine Run.seq ?_ | refine RunOps.nil ?_ | refine Run.skip ?_ | refine cT ?_ | refine cF ?_ | refine Run.block ?_ | refine Run.exit ?_ | refine eN ?_ | refine Run.draw (frz := [1]) Et_ok (by kernel_rfl) ?_)
  iterate 3 refine oX (frz := [1]) Et_ok ?_
  repeat (first | refine Run.region ?_ | refine Run.seq ?_ | refine RunOps.nil ?_ | refine Run.skip ?_ | refine cT ?_ | refine cF ?_ | refine Run.block ?_ | refine Run.exit ?_ | refine eN ?_ | refine Run.draw (frz := [1]) Et_ok (by kernel_rfl) ?_)
  refine oX (frz := [1]) Et_ok ?_
  refine oC hc ?_
  refine oX (frz := [1]) Et_ok ?_
  repeat (first | refine Run.region ?_ | refine Run.seq ?_ | refine RunOps.nil ?_ | refine Run.skip ?_ | refine cT ?_ | refine cF ?_ | refine Run.block ?_ | refine Run.exit ?_ | refine eN ?_ | refine Run.draw (frz := [1]) Et_ok (by kernel_rfl) ?_)
  iterate 2 refine oX (frz := [1]) Et_ok ?_
  repeat (first | refine Run.region ?_ | refine Run.seq ?_ | refine RunOps.nil ?_ | refine Run.skip ?_ | refine cT ?_ | refine cF ?_ | refine Run.block ?_ | refine Run.exit ?_ | refine eN ?_ | refine Run.draw (frz := [1]) Et_ok (by kernel_rfl) ?_)
  iterate 4 refine oX (frz := [1]) Et_ok ?_
  refine oX (frz := [1]) (v := .d (.int .i64 (x.k + 1))) Et_ok ?_ (he := e1)
  refine oX (frz := [1]) (v := .d (.str [48 + x.k.toNat])) Et_ok ?_ (hf := e3) (he := e2)
  iterate 3 refine oX (frz := [1]) Et_ok ?_
  repeat (first | refine Run.region ?_ | refine Run.seq ?_ | refine RunOps.nil ?_ | refine Run.skip ?_ | refine cT ?_ | refine cF ?_ | refine Run.block ?_ | refine Run.exit ?_ | refine eN ?_ | refine Run.draw (frz := [1]) Et_ok (by kernel_rfl) ?_)
  refine oX (frz := [1]) Et_ok ?_
  repeat (first | refine Run.region ?_ | refine Run.seq ?_ | refine RunOps.nil ?_ | refine Run.skip ?_ | refine cT ?_ | refine cF ?_ | refine Run.block ?_ | refine Run.exit ?_ | refine eN ?_ | refine Run.draw (frz := [1]) Et_ok (by kernel_rfl) ?_)
  refine Run.loop (fun i : Nat => ⟨PT.ofList [(1, cellX x), (5, .d (.str ([108, 111, 111, 107, 97, 104, 101, 97, 100, 32] ++ [48 + x.k.toNat] ++ [59, 10, 116, 111, 107, 101, 110, 32] ++ joinTo x.tokens i))), (6, .d (.int .i64 i))], [], []⟩) (fun i => i ≤ x.tokens.length) (fun i => x.tokens.length - i) 0 (Nat.zero_le _) (weak_of ⟨rfl, by rw [joinTo, List.append_nil]; rfl, rfl, trivial⟩) (fun i hi => ?_)
  rcases Nat.lt_or_ge i x.tokens.length with hlt | hge
  · obtain ⟨s, hs⟩ := get_ok hlt
    have hle := joinTo_le x.tokens (i := i + 1) (j := x.tokens.length) hlt
    rcases Nat.eq_zero_or_pos i with hz | hz
    · subst hz
      have hn := joinTo_z hs
      rw [hn, List.length_append] at hle
      repeat' (first
        | refine Run.region ?_
        | refine Run.seq ?_
        | ((refine oB (frz := [1]) Et_ok (fun h => ?_) (fun h => ?_)) <;> (first | (exfalso; simp at h <;> fail) | (exfalso; simp at h; omega) | skip))
        | ((refine eB (fun h => ?_) (fun h => ?_)) <;> (first | (exfalso; simp at h <;> fail) | (exfalso; simp at h; omega) | skip))
        | refine oX (frz := [1]) Et_ok ?_
        | refine oS ?_
        | refine RunOps.nil ?_
        | refine Run.skip ?_
        | refine cT ?_
        | refine cF ?_
        | refine Run.block ?_
        | refine Run.exit ?_
        | refine Run.draw (frz := [1]) Et_ok (by kernel_rfl) ?_
        | refine eX ?_
        | refine eS ?_
        | refine eN ?_
        | refine oX (frz := [1]) (v := .d (.ep [.str s])) Et_ok ?_ (hf := (by first | (simp [inB] <;> fail) | (simp [inB]; omega))) (he := (by first | (simp [List.getD_eq_getElem?_getD, cellsD, hs] <;> fail) | fail))
        | refine eX (v := .d (.ep [.str s])) ?_ (hf := (by first | (simp [inB] <;> fail) | (simp [inB]; omega))) (he := (by first | (simp [List.getD_eq_getElem?_getD, cellsD, hs] <;> fail) | fail))
        | refine oX (frz := [1]) Et_ok ?_ (hf := (by first | (simp [Nat.ble_eq] <;> fail) | (simp [Nat.ble_eq]; omega)))
        | refine eX ?_ (hf := (by first | (simp [Nat.ble_eq] <;> fail) | (simp [Nat.ble_eq]; omega)))
        | (refine Run.ret ?_; (first | refine rB ?_ | refine rI ?_ | refine rA ?_ | refine rII ?_ | refine rSI ?_ | refine rT ?_ | refine rS ?_); first | done | (skip))
        | (exact ⟨0 + 1, hlt, by omega, weak_of (by repeat' (first | exact trivial | refine ⟨rfl, ?_⟩ | refine ⟨(inc_get (k := 0) (by kernel_rfl) (by omega)), ?_⟩ | refine ⟨(by rw [hn, ← List.append_assoc]; rfl), ?_⟩ | fail))⟩)
        | fail)
      all_goals (exfalso; simp only [List.length_map, decide_eq_false_iff_not] at h; omega)
    · have hn := joinTo_p hz hs
      rw [hn, List.length_append, List.length_append] at hle
      repeat' (first
        | refine Run.region ?_
        | refine Run.seq ?_
        | ((refine oB (frz := [1]) Et_ok (fun h => ?_) (fun h => ?_)) <;> (first | (exfalso; simp at h <;> fail) | (exfalso; simp at h; omega) | skip))
        | ((refine eB (fun h => ?_) (fun h => ?_)) <;> (first | (exfalso; simp at h <;> fail) | (exfalso; simp at h; omega) | skip))
        | refine oX (frz := [1]) Et_ok ?_
        | refine oS ?_
        | refine RunOps.nil ?_
        | refine Run.skip ?_
        | refine cT ?_
        | refine cF ?_
        | refine Run.block ?_
        | refine Run.exit ?_
        | refine Run.draw (frz := [1]) Et_ok (by kernel_rfl) ?_
        | refine eX ?_
        | refine eS ?_
        | refine eN ?_
        | refine oX (frz := [1]) (v := .d (.ep [.str s])) Et_ok ?_ (hf := (by first | (simp [inB] <;> fail) | (simp [inB]; omega))) (he := (by first | (simp [List.getD_eq_getElem?_getD, cellsD, hs] <;> fail) | fail))
        | refine eX (v := .d (.ep [.str s])) ?_ (hf := (by first | (simp [inB] <;> fail) | (simp [inB]; omega))) (he := (by first | (simp [List.getD_eq_getElem?_getD, cellsD, hs] <;> fail) | fail))
        | refine oX (frz := [1]) Et_ok ?_ (hf := (by first | (simp [Nat.ble_eq] <;> fail) | (simp [Nat.ble_eq]; omega)))
        | refine eX ?_ (hf := (by first | (simp [Nat.ble_eq] <;> fail) | (simp [Nat.ble_eq]; omega)))
        | (refine Run.ret ?_; (first | refine rB ?_ | refine rI ?_ | refine rA ?_ | refine rII ?_ | refine rSI ?_ | refine rT ?_ | refine rS ?_); first | done | (skip))
        | (exact ⟨i + 1, hlt, by omega, weak_of (by repeat' (first | exact trivial | refine ⟨rfl, ?_⟩ | refine ⟨(inc_get (k := i) (by kernel_rfl) (by omega)), ?_⟩ | refine ⟨(by rw [hn, ← List.append_assoc, ← List.append_assoc]; rfl), ?_⟩ | fail))⟩)
        | fail)
      all_goals (exfalso; simp only [List.length_map, decide_eq_false_iff_not] at h; omega)
  · have hge2 : i = x.tokens.length := by omega
    subst hge2
    have hh : [108, 111, 111, 107, 97, 104, 101, 97, 100, 32] ++ [48 + x.k.toNat] ++ [59, 10, 116, 111, 107, 101, 110, 32] ++ joinTo x.tokens x.tokens.length ++ [59, 10, 115, 101, 112, 97, 114, 97, 116, 111, 114, 32] ++ x.sep ++ [59, 10, 115, 116, 97, 114, 116, 32] ++ x.start ++ [59, 10] = headP x := by rw [hji, headP]
    repeat' (first
      | refine Run.region ?_
      | refine Run.seq ?_
      | ((refine oB (frz := [1]) Et_ok (fun h => ?_) (fun h => ?_)) <;> (first | (exfalso; simp at h <;> fail) | (exfalso; simp at h; omega) | skip))
      | ((refine eB (fun h => ?_) (fun h => ?_)) <;> (first | (exfalso; simp at h <;> fail) | (exfalso; simp at h; omega) | skip))
      | refine oX (frz := [1]) Et_ok ?_
      | refine oS ?_
      | refine RunOps.nil ?_
      | refine Run.skip ?_
      | refine cT ?_
      | refine cF ?_
      | refine Run.block ?_
      | refine Run.exit ?_
      | refine Run.draw (frz := [1]) Et_ok (by kernel_rfl) ?_
      | refine eX ?_
      | refine eS ?_
      | refine eN ?_
      | refine oX (frz := [1]) Et_ok ?_ (hf := (by first | (simp [Nat.ble_eq] <;> fail) | (simp [Nat.ble_eq]; omega)))
      | refine eX ?_ (hf := (by first | (simp [Nat.ble_eq] <;> fail) | (simp [Nat.ble_eq]; omega)))
      | (refine Run.ret ?_; (first | refine rB ?_ | refine rI ?_ | refine rA ?_ | refine rII ?_ | refine rSI ?_ | refine rT ?_ | refine rS ?_); first | done | (skip))
      | (exfalso; simp only [List.length_map, decide_eq_true_eq] at h; omega)
      | fail)
    have hhb : (headP x ++ rulesTo x 0).length ≤ (printX x).length := by rw [List.length_append, hpl]; have := rulesTo_le x (Nat.zero_le x.rules.length); omega
    refine Run.loop (fun i : Nat => ⟨PT.ofList [(1, cellX x), (5, .d (.str (headP x ++ rulesTo x i))), (7, .d (.int .i64 i))], [], []⟩) (fun i => i ≤ x.rules.length) (fun i => x.rules.length - i) 0 (Nat.zero_le _) (weak_of ⟨rfl, by rw [rulesTo, List.take_zero, List.flatMap_nil, List.append_nil, ← hh]; rfl, rfl, trivial⟩) (fun i hi => ?_)
    rcases Nat.lt_or_ge i x.rules.length with hlt | hge
    · obtain ⟨r, hr⟩ := get_ok hlt
      have hru := rulesTo_succ hr
      have hrl := rulesTo_le x (i := i + 1) (j := x.rules.length) hlt
      rw [hru, List.length_append] at hrl
      have hrm := List.mem_of_getElem? hr
      have hal := hf.alts r hrm
      have hRl : (ruleP r).length = r.name.length + 2 + (altsTo r.alts r.alts.length).length + 3 := by simp [ruleP]; omega
      have hnB : (headP x ++ rulesTo x i) ++ ruleP r = headP x ++ rulesTo x (i + 1) := by rw [hru, List.append_assoc]
      have hBl : (headP x ++ rulesTo x i).length = (headP x).length + (rulesTo x i).length := List.length_append
      generalize headP x ++ rulesTo x i = B at *
      repeat (first | refine Run.region ?_ | refine Run.seq ?_ | refine RunOps.nil ?_ | refine Run.skip ?_ | refine cT ?_ | refine cF ?_ | refine Run.block ?_ | refine Run.exit ?_ | refine eN ?_ | refine Run.draw (frz := [1]) Et_ok (by kernel_rfl) ?_)
      iterate 4 refine oX (frz := [1]) Et_ok ?_
      repeat (first | refine Run.region ?_ | refine Run.seq ?_ | refine RunOps.nil ?_ | refine Run.skip ?_ | refine cT ?_ | refine cF ?_ | refine Run.block ?_ | refine Run.exit ?_ | refine eN ?_ | refine Run.draw (frz := [1]) Et_ok (by kernel_rfl) ?_)
      refine oX (frz := [1]) Et_ok ?_
      repeat (first | refine Run.region ?_ | refine Run.seq ?_ | refine RunOps.nil ?_ | refine Run.skip ?_ | refine cT ?_ | refine cF ?_ | refine Run.block ?_ | refine Run.exit ?_ | refine eN ?_ | refine Run.draw (frz := [1]) Et_ok (by kernel_rfl) ?_)
      refine Run.cond (by rfl) (fun h => ?_) (fun h => ?_)
      · repeat (first | refine Run.region ?_ | refine Run.seq ?_ | refine RunOps.nil ?_ | refine Run.skip ?_ | refine cT ?_ | refine cF ?_ | refine Run.block ?_ | refine Run.exit ?_ | refine eN ?_ | refine Run.draw (frz := [1]) Et_ok (by kernel_rfl) ?_)
        iterate 4 refine oX (frz := [1]) Et_ok ?_
        first | refine oX (frz := [1]) (v := .d (.ep [.str r.name, alts r.alts])) Et_ok ?_ (hf := (by first | (simp [inB] <;> fail) | (simp [inB]; omega))) (he := (by first | (simp [List.getD_eq_getElem?_getD, cellsD, hr, encR] <;> fail) | fail)) | refine eX (v := .d (.ep [.str r.name, alts r.alts])) ?_ (hf := (by first | (simp [inB] <;> fail) | (simp [inB]; omega))) (he := (by first | (simp [List.getD_eq_getElem?_getD, cellsD, hr, encR] <;> fail) | fail))
        iterate 2 refine oX (frz := [1]) Et_ok ?_
        repeat' (first
          | refine Run.region ?_
          | refine Run.seq ?_
          | ((refine oB (frz := [1]) Et_ok (fun h => ?_) (fun h => ?_)) <;> (first | (exfalso; simp at h <;> fail) | (exfalso; simp at h; omega) | skip))
          | ((refine eB (fun h => ?_) (fun h => ?_)) <;> (first | (exfalso; simp at h <;> fail) | (exfalso; simp at h; omega) | skip))
          | refine oX (frz := [1]) Et_ok ?_
          | refine oS ?_
          | refine RunOps.nil ?_
          | refine Run.skip ?_
          | refine cT ?_
          | refine cF ?_
          | refine Run.block ?_
          | refine Run.exit ?_
          | refine Run.draw (frz := [1]) Et_ok (by kernel_rfl) ?_
          | refine eX ?_
          | refine eS ?_
          | refine eN ?_
          | refine oX (frz := [1]) Et_ok ?_ (hf := (by first | (simp [Nat.ble_eq] <;> fail) | (simp [Nat.ble_eq]; omega)))
          | refine eX ?_ (hf := (by first | (simp [Nat.ble_eq] <;> fail) | (simp [Nat.ble_eq]; omega)))
          | (refine Run.ret ?_; (first | refine rB ?_ | refine rI ?_ | refine rA ?_ | refine rII ?_ | refine rSI ?_ | refine rT ?_ | refine rS ?_); first | done | (skip))
          | fail)
        refine Run.loop (fun k : Nat => ⟨PT.ofList [(1, cellX x), (5, .d (.str (B ++ r.name ++ [32, 61] ++ altsTo r.alts k))), (7, .d (.int .i64 i)), (8, .d (.int .i64 k))], [], []⟩) (fun k => k ≤ r.alts.length) (fun k => r.alts.length - k) 0 (Nat.zero_le _) (weak_of ⟨rfl, by rw [altsTo, List.append_nil]; rfl, rfl, rfl, trivial⟩) (fun k hk => ?_)
        rcases Nat.lt_or_ge k r.alts.length with hklt | hkge
        · obtain ⟨a, ha⟩ := get_ok hklt
          have ham := List.mem_of_getElem? ha
          have hanl := hf.names r hrm a ham
          have hgd : r.alts.getD k [] = a := by rw [List.getD_eq_getElem?_getD, ha]; rfl
          have hnext : altsTo r.alts (k + 1) = altsTo r.alts k ++ barP k ++ altQ a := by rw [← hgd]; rfl
          have hkl := altsTo_le r.alts (i := k + 1) (j := r.alts.length) hklt
          rw [hnext] at hkl
          simp only [List.length_append] at hkl
          repeat (first | refine Run.region ?_ | refine Run.seq ?_ | refine RunOps.nil ?_ | refine Run.skip ?_ | refine cT ?_ | refine cF ?_ | refine Run.block ?_ | refine Run.exit ?_ | refine eN ?_ | refine Run.draw (frz := [1]) Et_ok (by kernel_rfl) ?_)
          iterate 4 refine oX (frz := [1]) Et_ok ?_
          first | refine oX (frz := [1]) (v := .d (.ep [.str r.name, alts r.alts])) Et_ok ?_ (hf := (by first | (simp [inB] <;> fail) | (simp [inB]; omega))) (he := (by first | (simp [List.getD_eq_getElem?_getD, cellsD, hr, encR] <;> fail) | fail)) | refine eX (v := .d (.ep [.str r.name, alts r.alts])) ?_ (hf := (by first | (simp [inB] <;> fail) | (simp [inB]; omega))) (he := (by first | (simp [List.getD_eq_getElem?_getD, cellsD, hr, encR] <;> fail) | fail))
          iterate 4 refine oX (frz := [1]) Et_ok ?_
          repeat (first | refine Run.region ?_ | refine Run.seq ?_ | refine RunOps.nil ?_ | refine Run.skip ?_ | refine cT ?_ | refine cF ?_ | refine Run.block ?_ | refine Run.exit ?_ | refine eN ?_ | refine Run.draw (frz := [1]) Et_ok (by kernel_rfl) ?_)
          refine Run.cond (by rfl) (fun h => ?_) (fun h => ?_)
          · repeat (first | refine Run.region ?_ | refine Run.seq ?_ | refine RunOps.nil ?_ | refine Run.skip ?_ | refine cT ?_ | refine cF ?_ | refine Run.block ?_ | refine Run.exit ?_ | refine eN ?_ | refine Run.draw (frz := [1]) Et_ok (by kernel_rfl) ?_)
            iterate 2 refine oX (frz := [1]) Et_ok ?_
            repeat (first | refine Run.region ?_ | refine Run.seq ?_ | refine RunOps.nil ?_ | refine Run.skip ?_ | refine cT ?_ | refine cF ?_ | refine Run.block ?_ | refine Run.exit ?_ | refine eN ?_ | refine Run.draw (frz := [1]) Et_ok (by kernel_rfl) ?_)
            refine Run.mono (K := fun e s1 => e = .normal ∧ Weak s1 ⟨PT.ofList [(1, cellX x), (5, .d (.str (B ++ r.name ++ [32, 61] ++ altsTo r.alts k ++ barP k))), (7, .d (.int .i64 i)), (8, .d (.int .i64 k))], [], []⟩) ?_ (fun e s1 hk1 => ?_)
            · rcases k with _ | k
              · repeat (first | refine Run.region ?_ | refine Run.seq ?_ | refine RunOps.nil ?_ | refine Run.skip ?_ | refine cT ?_ | refine cF ?_ | refine Run.block ?_ | refine Run.exit ?_ | refine eN ?_ | refine Run.draw (frz := [1]) Et_ok (by kernel_rfl) ?_)
                exact ⟨rfl, weak_of ⟨rfl, by rw [barP, List.append_nil]; rfl, rfl, rfl, trivial⟩⟩
              · have hb2 : (barP (k + 1)).length = 2 := rfl
                refine Run.cond (by rfl) (fun h1 => ?_) (fun h1 => ?_)
                · repeat' (first
                    | refine Run.region ?_
                    | refine Run.seq ?_
                    | ((refine oB (frz := [1]) Et_ok (fun h => ?_) (fun h => ?_)) <;> (first | (exfalso; simp at h <;> fail) | (exfalso; simp at h; omega) | skip))
                    | ((refine eB (fun h => ?_) (fun h => ?_)) <;> (first | (exfalso; simp at h <;> fail) | (exfalso; simp at h; omega) | skip))
                    | refine oX (frz := [1]) Et_ok ?_
                    | refine oS ?_
                    | refine RunOps.nil ?_
                    | refine Run.skip ?_
                    | refine cT ?_
                    | refine cF ?_
                    | refine Run.block ?_
                    | refine Run.exit ?_
                    | refine Run.draw (frz := [1]) Et_ok (by kernel_rfl) ?_
                    | refine eX ?_
                    | refine eS ?_
                    | refine eN ?_
                    | refine oX (frz := [1]) Et_ok ?_ (hf := (by first | (simp [Nat.ble_eq] <;> fail) | (simp [Nat.ble_eq]; omega)))
                    | refine eX ?_ (hf := (by first | (simp [Nat.ble_eq] <;> fail) | (simp [Nat.ble_eq]; omega)))
                    | (refine Run.ret ?_; (first | refine rB ?_ | refine rI ?_ | refine rA ?_ | refine rII ?_ | refine rSI ?_ | refine rT ?_ | refine rS ?_); first | done | (skip))
                    | fail)
                  exact ⟨rfl, weak_of (by repeat' (first | exact trivial | refine ⟨rfl, ?_⟩))⟩
                · exfalso; simp at h1
            · obtain ⟨rfl, hk1⟩ := hk1
              refine Run.weak hk1 ?_
              repeat (first | refine Run.region ?_ | refine Run.seq ?_ | refine RunOps.nil ?_ | refine Run.skip ?_ | refine cT ?_ | refine cF ?_ | refine Run.block ?_ | refine Run.exit ?_ | refine eN ?_ | refine Run.draw (frz := [1]) Et_ok (by kernel_rfl) ?_)
              refine oX (frz := [1]) Et_ok ?_
              repeat (first | refine Run.region ?_ | refine Run.seq ?_ | refine RunOps.nil ?_ | refine Run.skip ?_ | refine cT ?_ | refine cF ?_ | refine Run.block ?_ | refine Run.exit ?_ | refine eN ?_ | refine Run.draw (frz := [1]) Et_ok (by kernel_rfl) ?_)
              refine Run.loop (fun j : Nat => ⟨PT.ofList [(1, cellX x), (5, .d (.str (B ++ r.name ++ [32, 61] ++ altsTo r.alts k ++ barP k ++ altTo a j))), (7, .d (.int .i64 i)), (8, .d (.int .i64 k)), (9, .d (.int .i64 j))], [], []⟩) (fun j => j ≤ a.length) (fun j => a.length - j) 0 (Nat.zero_le _) (weak_of ⟨rfl, by rw [show altTo a 0 = [] by simp [altTo, altQ], List.append_nil]; rfl, rfl, rfl, rfl, trivial⟩) (fun j hj => ?_)
              rcases Nat.lt_or_ge j a.length with hjlt | hjge
              · obtain ⟨s, hsj⟩ := get_ok hjlt
                have hsu := altTo_succ hsj
                have hjl := altTo_le a (j + 1)
                rw [hsu] at hjl
                simp only [List.length_append, List.length_cons] at hjl
                repeat' (first
                  | refine Run.region ?_
                  | refine Run.seq ?_
                  | ((refine oB (frz := [1]) Et_ok (fun h => ?_) (fun h => ?_)) <;> (first | (exfalso; simp at h <;> fail) | (exfalso; simp at h; omega) | skip))
                  | ((refine eB (fun h => ?_) (fun h => ?_)) <;> (first | (exfalso; simp at h <;> fail) | (exfalso; simp at h; omega) | skip))
                  | refine oX (frz := [1]) Et_ok ?_
                  | refine oS ?_
                  | refine RunOps.nil ?_
                  | refine Run.skip ?_
                  | refine cT ?_
                  | refine cF ?_
                  | refine Run.block ?_
                  | refine Run.exit ?_
                  | refine Run.draw (frz := [1]) Et_ok (by kernel_rfl) ?_
                  | refine eX ?_
                  | refine eS ?_
                  | refine eN ?_
                  | refine oX (frz := [1]) (v := .d (.ep [.str r.name, alts r.alts])) Et_ok ?_ (hf := (by first | (simp [inB] <;> fail) | (simp [inB]; omega))) (he := (by first | (simp [List.getD_eq_getElem?_getD, cellsD, hr, encR] <;> fail) | fail))
                  | refine eX (v := .d (.ep [.str r.name, alts r.alts])) ?_ (hf := (by first | (simp [inB] <;> fail) | (simp [inB]; omega))) (he := (by first | (simp [List.getD_eq_getElem?_getD, cellsD, hr, encR] <;> fail) | fail))
                  | refine oX (frz := [1]) (v := .d (.ep [strs a])) Et_ok ?_ (hf := (by first | (simp [inB] <;> fail) | (simp [inB]; omega))) (he := (by first | (simp [List.getD_eq_getElem?_getD, cellsD, ha] <;> fail) | fail))
                  | refine eX (v := .d (.ep [strs a])) ?_ (hf := (by first | (simp [inB] <;> fail) | (simp [inB]; omega))) (he := (by first | (simp [List.getD_eq_getElem?_getD, cellsD, ha] <;> fail) | fail))
                  | refine oX (frz := [1]) (v := .d (.ep [.str s])) Et_ok ?_ (hf := (by first | (simp [inB] <;> fail) | (simp [inB]; omega))) (he := (by first | (simp [List.getD_eq_getElem?_getD, cellsD, hsj] <;> fail) | fail))
                  | refine eX (v := .d (.ep [.str s])) ?_ (hf := (by first | (simp [inB] <;> fail) | (simp [inB]; omega))) (he := (by first | (simp [List.getD_eq_getElem?_getD, cellsD, hsj] <;> fail) | fail))
                  | refine oX (frz := [1]) Et_ok ?_ (hf := (by first | (simp [Nat.ble_eq] <;> fail) | (simp [Nat.ble_eq]; omega)))
                  | refine eX ?_ (hf := (by first | (simp [Nat.ble_eq] <;> fail) | (simp [Nat.ble_eq]; omega)))
                  | (refine Run.ret ?_; (first | refine rB ?_ | refine rI ?_ | refine rA ?_ | refine rII ?_ | refine rSI ?_ | refine rT ?_ | refine rS ?_); first | done | (skip))
                  | ((exact ⟨j + 1, hjlt, by omega, weak_of (by repeat' (first | exact trivial | refine ⟨rfl, ?_⟩ | refine ⟨(inc_get (k := j) (by kernel_rfl) (by omega)), ?_⟩ | refine ⟨(by rw [hsu]; simp only [List.append_assoc, List.cons_append, List.nil_append]; rfl), ?_⟩ | fail))⟩))
                  | ((exfalso; simp at h; omega))
                  | fail)
              · have hje : j = a.length := by omega
                subst hje
                have hta : altTo a a.length = altQ a := by rw [altTo, List.take_length]
                repeat' (first
                  | refine Run.region ?_
                  | refine Run.seq ?_
                  | ((refine oB (frz := [1]) Et_ok (fun h => ?_) (fun h => ?_)) <;> (first | (exfalso; simp at h <;> fail) | (exfalso; simp at h; omega) | skip))
                  | ((refine eB (fun h => ?_) (fun h => ?_)) <;> (first | (exfalso; simp at h <;> fail) | (exfalso; simp at h; omega) | skip))
                  | refine oX (frz := [1]) Et_ok ?_
                  | refine oS ?_
                  | refine RunOps.nil ?_
                  | refine Run.skip ?_
                  | refine cT ?_
                  | refine cF ?_
                  | refine Run.block ?_
                  | refine Run.exit ?_
                  | refine Run.draw (frz := [1]) Et_ok (by kernel_rfl) ?_
                  | refine eX ?_
                  | refine eS ?_
                  | refine eN ?_
                  | refine oX (frz := [1]) (v := .d (.ep [.str r.name, alts r.alts])) Et_ok ?_ (hf := (by first | (simp [inB] <;> fail) | (simp [inB]; omega))) (he := (by first | (simp [List.getD_eq_getElem?_getD, cellsD, hr, encR] <;> fail) | fail))
                  | refine eX (v := .d (.ep [.str r.name, alts r.alts])) ?_ (hf := (by first | (simp [inB] <;> fail) | (simp [inB]; omega))) (he := (by first | (simp [List.getD_eq_getElem?_getD, cellsD, hr, encR] <;> fail) | fail))
                  | refine oX (frz := [1]) (v := .d (.ep [strs a])) Et_ok ?_ (hf := (by first | (simp [inB] <;> fail) | (simp [inB]; omega))) (he := (by first | (simp [List.getD_eq_getElem?_getD, cellsD, ha] <;> fail) | fail))
                  | refine eX (v := .d (.ep [strs a])) ?_ (hf := (by first | (simp [inB] <;> fail) | (simp [inB]; omega))) (he := (by first | (simp [List.getD_eq_getElem?_getD, cellsD, ha] <;> fail) | fail))
                  | (refine Run.ret ?_; (first | refine rB ?_ | refine rI ?_ | refine rA ?_ | refine rII ?_ | refine rSI ?_ | refine rT ?_ | refine rS ?_); first | done | (skip))
                  | ((exact ⟨k + 1, hklt, by omega, weak_of (by repeat' (first | exact trivial | refine ⟨rfl, ?_⟩ | refine ⟨(inc_get (k := k) (by kernel_rfl) (by omega)), ?_⟩ | refine ⟨(by rw [hnext, ← hta]; simp only [List.append_assoc]; rfl), ?_⟩ | fail))⟩))
                  | ((exfalso; simp at h; omega))
                  | fail)
          · exfalso; simp at h; omega
        · have hke : k = r.alts.length := by omega
          subst hke
          repeat' (first
            | refine Run.region ?_
            | refine Run.seq ?_
            | ((refine oB (frz := [1]) Et_ok (fun h => ?_) (fun h => ?_)) <;> (first | (exfalso; simp at h <;> fail) | (exfalso; simp at h; omega) | skip))
            | ((refine eB (fun h => ?_) (fun h => ?_)) <;> (first | (exfalso; simp at h <;> fail) | (exfalso; simp at h; omega) | skip))
            | refine oX (frz := [1]) Et_ok ?_
            | refine oS ?_
            | refine RunOps.nil ?_
            | refine Run.skip ?_
            | refine cT ?_
            | refine cF ?_
            | refine Run.block ?_
            | refine Run.exit ?_
            | refine Run.draw (frz := [1]) Et_ok (by kernel_rfl) ?_
            | refine eX ?_
            | refine eS ?_
            | refine eN ?_
            | refine oX (frz := [1]) (v := .d (.ep [.str r.name, alts r.alts])) Et_ok ?_ (hf := (by first | (simp [inB] <;> fail) | (simp [inB]; omega))) (he := (by first | (simp [List.getD_eq_getElem?_getD, cellsD, hr, encR] <;> fail) | fail))
            | refine eX (v := .d (.ep [.str r.name, alts r.alts])) ?_ (hf := (by first | (simp [inB] <;> fail) | (simp [inB]; omega))) (he := (by first | (simp [List.getD_eq_getElem?_getD, cellsD, hr, encR] <;> fail) | fail))
            | refine oX (frz := [1]) Et_ok ?_ (hf := (by first | (simp [Nat.ble_eq] <;> fail) | (simp [Nat.ble_eq]; omega)))
            | refine eX ?_ (hf := (by first | (simp [Nat.ble_eq] <;> fail) | (simp [Nat.ble_eq]; omega)))
            | (refine Run.ret ?_; (first | refine rB ?_ | refine rI ?_ | refine rA ?_ | refine rII ?_ | refine rSI ?_ | refine rT ?_ | refine rS ?_); first | done | (skip))
            | ((exact ⟨i + 1, hlt, by omega, weak_of (by repeat' (first | exact trivial | refine ⟨rfl, ?_⟩ | refine ⟨(inc_get (k := i) (by kernel_rfl) (by omega)), ?_⟩ | refine ⟨(by rw [← hnB, ruleP]; simp only [List.append_assoc]; rfl), ?_⟩ | fail))⟩))
            | ((exfalso; simp at h; omega))
            | fail)
      · exfalso; simp at h; omega
    · have hie : i = x.rules.length := by omega
      subst hie
      repeat' (first
        | refine Run.region ?_
        | refine Run.seq ?_
        | ((refine oB (frz := [1]) Et_ok (fun h => ?_) (fun h => ?_)) <;> (first | (exfalso; simp at h <;> fail) | (exfalso; simp at h; omega) | skip))
        | ((refine eB (fun h => ?_) (fun h => ?_)) <;> (first | (exfalso; simp at h <;> fail) | (exfalso; simp at h; omega) | skip))
        | refine oX (frz := [1]) Et_ok ?_
        | refine oS ?_
        | refine RunOps.nil ?_
        | refine Run.skip ?_
        | refine cT ?_
        | refine cF ?_
        | refine Run.block ?_
        | refine Run.exit ?_
        | refine Run.draw (frz := [1]) Et_ok (by kernel_rfl) ?_
        | refine eX ?_
        | refine eS ?_
        | refine eN ?_
        | (refine Run.ret ?_; (first | refine rB ?_ | refine rI ?_ | refine rA ?_ | refine rII ?_ | refine rSI ?_ | refine rT ?_ | refine rS ?_); first | done | (rfl))
        | (exfalso; simp at h; omega)
        | fail)
end Go.Av
end
noncomputable section
namespace Go.Av
open Go Go.Proofs
set_option maxRecDepth 10000
def short8F (l : List (List Nat)) : Bool := decide (l.length ≤ 12) && l.all (fun s => decide (s.length ≤ 40))
theorem short8F_iff {l : List (List Nat)} : short8F l = true ↔ l.length ≤ 12 ∧ ∀ s ∈ l, s.length ≤ 40 := by simp [short8F]
def lightR (r : SRule) : Bool := decide (r.name.length ≤ 40) && decide (r.alts.length ≤ 30) && r.alts.all short8F
def lightX (x : Src) : Bool := short8F x.tokens && decide (x.sep.length ≤ 40) && decide (x.start.length ≤ 40) && decide (x.rules.length ≤ 12) && x.rules.all lightR
theorem all_next {α : Type} {l : List α} {p : α → Bool} {i : Nat} {x : α} (h : l[i]? = some x) (hb : (l.take i).all p = true) (hx : p x = true) : (l.take (i + 1)).all p = true := by
  rw [List.take_add_one, h, List.all_append, hb]; simp [hx]
theorem all_not {α : Type} {l : List α} {p : α → Bool} {i : Nat} {x : α} (h : l[i]? = some x) (hx : p x = false) : l.all p = false := by
  rw [List.all_eq_false]; exact ⟨x, List.mem_of_getElem? h, by simp [hx]⟩
theorem short8 (l : List (List Nat)) : KnownCall Tryz.prog 114 [strs l] (.d (.bool (short8F l))) := by
  refine knownE Et_ok (fnAt Tryz.func114 (by kernel_rfl) (by kernel_rfl) : FnAt _ _ (mkFn Tryz.f114 [])) ?_
  repeat' (first
    | refine Run.region ?_
    | refine Run.seq ?_
    | ((refine oB (frz := []) Et_ok (fun h => ?_) (fun h => ?_)) <;> (first | (exfalso; simp at h <;> fail) | (exfalso; simp at h; omega) | skip))
    | ((refine eB (fun h => ?_) (fun h => ?_)) <;> (first | (exfalso; simp at h <;> fail) | (exfalso; simp at h; omega) | skip))
    | refine oX (frz := []) Et_ok ?_
    | refine oS ?_
    | refine RunOps.nil ?_
    | refine Run.skip ?_
    | refine cT ?_
    | refine cF ?_
    | refine Run.block ?_
    | refine Run.exit ?_
    | refine Run.draw (frz := []) Et_ok (by kernel_rfl) ?_
    | refine eX ?_
    | refine eS ?_
    | refine eN ?_
    | (refine Run.ret ?_; (first | refine rB ?_ | refine rI ?_ | refine rA ?_ | refine rII ?_ | refine rSI ?_ | refine rT ?_ | refine rS ?_); first | done | (skip))
    | fail)
  refine Run.loop (fun i : Nat => ⟨PT.ofList [(0, .d (strs l)), (3, .d (.int .i64 i))], [], []⟩) (fun i => i ≤ l.length ∧ i ≤ 12 ∧ (l.take i).all (fun s => decide (s.length ≤ 40)) = true) (fun i => l.length - i) 0 ⟨Nat.zero_le _, by omega, rfl⟩ (weak_of (by repeat' (first | exact trivial | refine ⟨rfl, ?_⟩))) (fun i hi => ?_)
  obtain ⟨hi1, hi2, hi3⟩ := hi
  by_cases hc : i < l.length ∧ i < 12
  · obtain ⟨hlt, h12⟩ := hc
    obtain ⟨x, hx⟩ := get_ok hlt
    by_cases hxl : x.length ≤ 40
    · have ht := all_next (p := fun s : List Nat => decide (s.length ≤ 40)) hx hi3 (by simpa using hxl)
      repeat' (first
        | refine Run.region ?_
        | refine Run.seq ?_
        | ((refine oB (frz := []) Et_ok (fun h => ?_) (fun h => ?_)) <;> (first | (exfalso; simp at h <;> fail) | (exfalso; simp at h; omega) | skip))
        | ((refine eB (fun h => ?_) (fun h => ?_)) <;> (first | (exfalso; simp at h <;> fail) | (exfalso; simp at h; omega) | skip))
        | refine oX (frz := []) Et_ok ?_
        | refine oS ?_
        | refine RunOps.nil ?_
        | refine Run.skip ?_
        | refine cT ?_
        | refine cF ?_
        | refine Run.block ?_
        | refine Run.exit ?_
        | refine Run.draw (frz := []) Et_ok (by kernel_rfl) ?_
        | refine eX ?_
        | refine eS ?_
        | refine eN ?_
        | refine oX (frz := []) (v := .d (.ep [.str x])) Et_ok ?_ (hf := (by first | (simp [inB] <;> fail) | (simp [inB]; omega))) (he := (by first | (simp [List.getD_eq_getElem?_getD, cellsD, hx] <;> fail) | fail))
        | refine eX (v := .d (.ep [.str x])) ?_ (hf := (by first | (simp [inB] <;> fail) | (simp [inB]; omega))) (he := (by first | (simp [List.getD_eq_getElem?_getD, cellsD, hx] <;> fail) | fail))
        | (refine Run.ret ?_; (first | refine rB ?_ | refine rI ?_ | refine rA ?_ | refine rII ?_ | refine rSI ?_ | refine rT ?_ | refine rS ?_); first | done | (skip))
        | (exact ⟨i + 1, ⟨hlt, by omega, ht⟩, by omega, weak_of (by repeat' (first | exact trivial | refine ⟨rfl, ?_⟩ | refine ⟨(inc_get (k := i) (by kernel_rfl) (by omega)), ?_⟩))⟩)
        | ((exfalso; first | (simp_all <;> fail) | (simp_all; omega)))
        | fail)
    · have hf : short8F l = false := by simp [short8F, all_not (p := fun s : List Nat => decide (s.length ≤ 40)) hx (by simpa using hxl)]
      rw [hf]
      repeat' (first
        | refine Run.region ?_
        | refine Run.seq ?_
        | ((refine oB (frz := []) Et_ok (fun h => ?_) (fun h => ?_)) <;> (first | (exfalso; simp at h <;> fail) | (exfalso; simp at h; omega) | skip))
        | ((refine eB (fun h => ?_) (fun h => ?_)) <;> (first | (exfalso; simp at h <;> fail) | (exfalso; simp at h; omega) | skip))
        | refine oX (frz := []) Et_ok ?_
        | refine oS ?_
        | refine RunOps.nil ?_
        | refine Run.skip ?_
        | refine cT ?_
        | refine cF ?_
        | refine Run.block ?_
        | refine Run.exit ?_
        | refine Run.draw (frz := []) Et_ok (by kernel_rfl) ?_
        | refine eX ?_
        | refine eS ?_
        | refine eN ?_
        | refine oX (frz := []) (v := .d (.ep [.str x])) Et_ok ?_ (hf := (by first | (simp [inB] <;> fail) | (simp [inB]; omega))) (he := (by first | (simp [List.getD_eq_getElem?_getD, cellsD, hx] <;> fail) | fail))
        | refine eX (v := .d (.ep [.str x])) ?_ (hf := (by first | (simp [inB] <;> fail) | (simp [inB]; omega))) (he := (by first | (simp [List.getD_eq_getElem?_getD, cellsD, hx] <;> fail) | fail))
        | (refine Run.ret ?_; (first | refine rB ?_ | refine rI ?_ | refine rA ?_ | refine rII ?_ | refine rSI ?_ | refine rT ?_ | refine rS ?_); first | done | (rfl))
        | ((exfalso; first | (simp_all <;> fail) | (simp_all; omega)))
        | fail)
  · by_cases hl : l.length ≤ 12
    · have hie : i = l.length := by omega
      subst hie
      rw [List.take_length] at hi3
      have hf : short8F l = true := by simp [short8F, hl, hi3]
      rw [hf]
      repeat' (first
        | refine Run.region ?_
        | refine Run.seq ?_
        | ((refine oB (frz := []) Et_ok (fun h => ?_) (fun h => ?_)) <;> (first | (exfalso; simp at h <;> fail) | (exfalso; simp at h; omega) | skip))
        | ((refine eB (fun h => ?_) (fun h => ?_)) <;> (first | (exfalso; simp at h <;> fail) | (exfalso; simp at h; omega) | skip))
        | refine oX (frz := []) Et_ok ?_
        | refine oS ?_
        | refine RunOps.nil ?_
        | refine Run.skip ?_
        | refine cT ?_
        | refine cF ?_
        | refine Run.block ?_
        | refine Run.exit ?_
        | refine Run.draw (frz := []) Et_ok (by kernel_rfl) ?_
        | refine eX ?_
        | refine eS ?_
        | refine eN ?_
        | (refine Run.ret ?_; (first | refine rB ?_ | refine rI ?_ | refine rA ?_ | refine rII ?_ | refine rSI ?_ | refine rT ?_ | refine rS ?_); first | done | (rfl))
        | ((exfalso; first | (simp_all <;> fail) | (simp_all; omega)))
        | fail)
    · have hie : i = 12 := by omega
      subst hie
      have hf : short8F l = false := by simp [short8F, hl]
      rw [hf]
      repeat' (first
        | refine Run.region ?_
        | refine Run.seq ?_
        | ((refine oB (frz := []) Et_ok (fun h => ?_) (fun h => ?_)) <;> (first | (exfalso; simp at h <;> fail) | (exfalso; simp at h; omega) | skip))
        | ((refine eB (fun h => ?_) (fun h => ?_)) <;> (first | (exfalso; simp at h <;> fail) | (exfalso; simp at h; omega) | skip))
        | refine oX (frz := []) Et_ok ?_
        | refine oS ?_
        | refine RunOps.nil ?_
        | refine Run.skip ?_
        | refine cT ?_
        | refine cF ?_
        | refine Run.block ?_
        | refine Run.exit ?_
        | refine Run.draw (frz := []) Et_ok (by kernel_rfl) ?_
        | refine eX ?_
        | refine eS ?_
        | refine eN ?_
        | (refine Run.ret ?_; (first | refine rB ?_ | refine rI ?_ | refine rA ?_ | refine rII ?_ | refine rSI ?_ | refine rT ?_ | refine rS ?_); first | done | (rfl))
        | ((exfalso; first | (simp_all <;> fail) | (simp_all; omega)))
        | fail)
theorem light8 (x : Src) : KnownCall Tryz.prog 32 [encX x] (.d (.bool (lightX x))) := by
  have hs := short8 x.tokens
  by_cases h0 : short8F x.tokens = true ∧ x.sep.length ≤ 40 ∧ x.start.length ≤ 40 ∧ x.rules.length ≤ 12
  · obtain ⟨h1, h2, h3, h4⟩ := h0
    rw [h1] at hs
    rw [show lightX x = x.rules.all lightR by simp [lightX, h1, h2, h3, h4]]
    refine knownE Et_ok (fnAt Tryz.func32 (by kernel_rfl) (by kernel_rfl) : FnAt _ _ (mkFn Tryz.f32 [1])) ?_
    repeat' (first
      | refine Run.region ?_
      | refine Run.seq ?_
      | ((refine oB (frz := [1]) Et_ok (fun h => ?_) (fun h => ?_)) <;> (first | (exfalso; simp at h <;> fail) | (exfalso; simp at h; omega) | skip))
      | ((refine eB (fun h => ?_) (fun h => ?_)) <;> (first | (exfalso; simp at h <;> fail) | (exfalso; simp at h; omega) | skip))
      | refine oX (frz := [1]) Et_ok ?_
      | refine oS ?_
      | refine RunOps.nil ?_
      | refine Run.skip ?_
      | refine cT ?_
      | refine cF ?_
      | refine Run.block ?_
      | refine Run.exit ?_
      | refine Run.draw (frz := [1]) Et_ok (by kernel_rfl) ?_
      | refine eX ?_
      | refine eS ?_
      | refine eN ?_
      | refine oC (hs) ?_
      | refine eC (hs) ?_
      | (refine Run.ret ?_; (first | refine rB ?_ | refine rI ?_ | refine rA ?_ | refine rII ?_ | refine rSI ?_ | refine rT ?_ | refine rS ?_); first | done | (skip))
      | ((exfalso; first | (simp_all <;> fail) | (simp_all; omega)))
      | fail)
    refine Run.loop (fun i : Nat => ⟨PT.ofList [(1, cellX x), (3, .d (.int .i64 i))], [], []⟩) (fun i => i ≤ x.rules.length ∧ (x.rules.take i).all lightR = true) (fun i => x.rules.length - i) 0 ⟨Nat.zero_le _, rfl⟩ (weak_of (by repeat' (first | exact trivial | refine ⟨rfl, ?_⟩))) (fun i hi => ?_)
    obtain ⟨hi1, hi2⟩ := hi
    rcases Nat.lt_or_ge i x.rules.length with hlt | hge
    · obtain ⟨r, hr⟩ := get_ok hlt
      by_cases hok : r.name.length ≤ 40 ∧ r.alts.length ≤ 30
      · obtain ⟨ho1, ho2⟩ := hok
        repeat' (first
          | refine Run.region ?_
          | refine Run.seq ?_
          | ((refine oB (frz := [1]) Et_ok (fun h => ?_) (fun h => ?_)) <;> (first | (exfalso; simp at h <;> fail) | (exfalso; simp at h; omega) | skip))
          | ((refine eB (fun h => ?_) (fun h => ?_)) <;> (first | (exfalso; simp at h <;> fail) | (exfalso; simp at h; omega) | skip))
          | refine oX (frz := [1]) Et_ok ?_
          | refine oS ?_
          | refine RunOps.nil ?_
          | refine Run.skip ?_
          | refine cT ?_
          | refine cF ?_
          | refine Run.block ?_
          | refine Run.exit ?_
          | refine Run.draw (frz := [1]) Et_ok (by kernel_rfl) ?_
          | refine eX ?_
          | refine eS ?_
          | refine eN ?_
          | refine oX (frz := [1]) (v := .d (.ep [.str r.name, alts r.alts])) Et_ok ?_ (hf := (by first | (simp [inB] <;> fail) | (simp [inB]; omega))) (he := (by first | (simp [List.getD_eq_getElem?_getD, cellsD, hr, encR] <;> fail) | fail))
          | refine eX (v := .d (.ep [.str r.name, alts r.alts])) ?_ (hf := (by first | (simp [inB] <;> fail) | (simp [inB]; omega))) (he := (by first | (simp [List.getD_eq_getElem?_getD, cellsD, hr, encR] <;> fail) | fail))
          | (refine Run.ret ?_; (first | refine rB ?_ | refine rI ?_ | refine rA ?_ | refine rII ?_ | refine rSI ?_ | refine rT ?_ | refine rS ?_); first | done | (skip))
          | ((exfalso; first | (simp_all <;> fail) | (simp_all; omega)))
          | fail)
        refine Run.loop (fun k : Nat => ⟨PT.ofList [(1, cellX x), (3, .d (.int .i64 i)), (4, .d (.int .i64 k))], [], []⟩) (fun k => k ≤ r.alts.length ∧ (r.alts.take k).all short8F = true) (fun k => r.alts.length - k) 0 ⟨Nat.zero_le _, rfl⟩ (weak_of (by repeat' (first | exact trivial | refine ⟨rfl, ?_⟩))) (fun k hk => ?_)
        obtain ⟨hk1, hk2⟩ := hk
        rcases Nat.lt_or_ge k r.alts.length with hkl | hkg
        · obtain ⟨a, ha⟩ := get_ok hkl
          have hs2 := short8 a
          cases hb : short8F a with
          | true =>
            rw [hb] at hs2
            have ht := all_next ha hk2 hb
            repeat' (first
              | refine Run.region ?_
              | refine Run.seq ?_
              | ((refine oB (frz := [1]) Et_ok (fun h => ?_) (fun h => ?_)) <;> (first | (exfalso; simp at h <;> fail) | (exfalso; simp at h; omega) | skip))
              | ((refine eB (fun h => ?_) (fun h => ?_)) <;> (first | (exfalso; simp at h <;> fail) | (exfalso; simp at h; omega) | skip))
              | refine oX (frz := [1]) Et_ok ?_
              | refine oS ?_
              | refine RunOps.nil ?_
              | refine Run.skip ?_
              | refine cT ?_
              | refine cF ?_
              | refine Run.block ?_
              | refine Run.exit ?_
              | refine Run.draw (frz := [1]) Et_ok (by kernel_rfl) ?_
              | refine eX ?_
              | refine eS ?_
              | refine eN ?_
              | refine oX (frz := [1]) (v := .d (.ep [.str r.name, alts r.alts])) Et_ok ?_ (hf := (by first | (simp [inB] <;> fail) | (simp [inB]; omega))) (he := (by first | (simp [List.getD_eq_getElem?_getD, cellsD, hr, encR] <;> fail) | fail))
              | refine eX (v := .d (.ep [.str r.name, alts r.alts])) ?_ (hf := (by first | (simp [inB] <;> fail) | (simp [inB]; omega))) (he := (by first | (simp [List.getD_eq_getElem?_getD, cellsD, hr, encR] <;> fail) | fail))
              | refine oX (frz := [1]) (v := .d (.ep [strs a])) Et_ok ?_ (hf := (by first | (simp [inB] <;> fail) | (simp [inB]; omega))) (he := (by first | (simp [List.getD_eq_getElem?_getD, cellsD, ha] <;> fail) | fail))
              | refine eX (v := .d (.ep [strs a])) ?_ (hf := (by first | (simp [inB] <;> fail) | (simp [inB]; omega))) (he := (by first | (simp [List.getD_eq_getElem?_getD, cellsD, ha] <;> fail) | fail))
              | refine oC (hs2) ?_
              | refine eC (hs2) ?_
              | (refine Run.ret ?_; (first | refine rB ?_ | refine rI ?_ | refine rA ?_ | refine rII ?_ | refine rSI ?_ | refine rT ?_ | refine rS ?_); first | done | (skip))
              | (exact ⟨k + 1, ⟨hkl, ht⟩, by omega, weak_of (by repeat' (first | exact trivial | refine ⟨rfl, ?_⟩ | refine ⟨(inc_get (k := k) (by kernel_rfl) (by omega)), ?_⟩))⟩)
              | ((exfalso; first | (simp_all <;> fail) | (simp_all; omega)))
              | fail)
          | false =>
            rw [hb] at hs2
            have hf : x.rules.all lightR = false := all_not hr (by simp [lightR, all_not ha hb])
            rw [hf]
            repeat' (first
              | refine Run.region ?_
              | refine Run.seq ?_
              | ((refine oB (frz := [1]) Et_ok (fun h => ?_) (fun h => ?_)) <;> (first | (exfalso; simp at h <;> fail) | (exfalso; simp at h; omega) | skip))
              | ((refine eB (fun h => ?_) (fun h => ?_)) <;> (first | (exfalso; simp at h <;> fail) | (exfalso; simp at h; omega) | skip))
              | refine oX (frz := [1]) Et_ok ?_
              | refine oS ?_
              | refine RunOps.nil ?_
              | refine Run.skip ?_
              | refine cT ?_
              | refine cF ?_
              | refine Run.block ?_
              | refine Run.exit ?_
              | refine Run.draw (frz := [1]) Et_ok (by kernel_rfl) ?_
              | refine eX ?_
              | refine eS ?_
              | refine eN ?_
              | refine oX (frz := [1]) (v := .d (.ep [.str r.name, alts r.alts])) Et_ok ?_ (hf := (by first | (simp [inB] <;> fail) | (simp [inB]; omega))) (he := (by first | (simp [List.getD_eq_getElem?_getD, cellsD, hr, encR] <;> fail) | fail))
              | refine eX (v := .d (.ep [.str r.name, alts r.alts])) ?_ (hf := (by first | (simp [inB] <;> fail) | (simp [inB]; omega))) (he := (by first | (simp [List.getD_eq_getElem?_getD, cellsD, hr, encR] <;> fail) | fail))
              | refine oX (frz := [1]) (v := .d (.ep [strs a])) Et_ok ?_ (hf := (by first | (simp [inB] <;> fail) | (simp [inB]; omega))) (he := (by first | (simp [List.getD_eq_getElem?_getD, cellsD, ha] <;> fail) | fail))
              | refine eX (v := .d (.ep [strs a])) ?_ (hf := (by first | (simp [inB] <;> fail) | (simp [inB]; omega))) (he := (by first | (simp [List.getD_eq_getElem?_getD, cellsD, ha] <;> fail) | fail))
              | refine oC (hs2) ?_
              | refine eC (hs2) ?_
              | (refine Run.ret ?_; (first | refine rB ?_ | refine rI ?_ | refine rA ?_ | refine rII ?_ | refine rSI ?_ | refine rT ?_ | refine rS ?_); first | done | (rfl))
              | ((exfalso; first | (simp_all <;> fail) | (simp_all; omega)))
              | fail)
        · have hke : k = r.alts.length := by omega
          subst hke
          rw [List.take_length] at hk2
          have ht := all_next hr hi2 (show lightR r = true by simp [lightR, ho1, ho2, hk2])
          repeat' (first
            | refine Run.region ?_
            | refine Run.seq ?_
            | ((refine oB (frz := [1]) Et_ok (fun h => ?_) (fun h => ?_)) <;> (first | (exfalso; simp at h <;> fail) | (exfalso; simp at h; omega) | skip))
            | ((refine eB (fun h => ?_) (fun h => ?_)) <;> (first | (exfalso; simp at h <;> fail) | (exfalso; simp at h; omega) | skip))
            | refine oX (frz := [1]) Et_ok ?_
            | refine oS ?_
            | refine RunOps.nil ?_
            | refine Run.skip ?_
            | refine cT ?_
            | refine cF ?_
            | refine Run.block ?_
            | refine Run.exit ?_
            | refine Run.draw (frz := [1]) Et_ok (by kernel_rfl) ?_
            | refine eX ?_
            | refine eS ?_
            | refine eN ?_
            | refine oX (frz := [1]) (v := .d (.ep [.str r.name, alts r.alts])) Et_ok ?_ (hf := (by first | (simp [inB] <;> fail) | (simp [inB]; omega))) (he := (by first | (simp [List.getD_eq_getElem?_getD, cellsD, hr, encR] <;> fail) | fail))
            | refine eX (v := .d (.ep [.str r.name, alts r.alts])) ?_ (hf := (by first | (simp [inB] <;> fail) | (simp [inB]; omega))) (he := (by first | (simp [List.getD_eq_getElem?_getD, cellsD, hr, encR] <;> fail) | fail))
            | (refine Run.ret ?_; (first | refine rB ?_ | refine rI ?_ | refine rA ?_ | refine rII ?_ | refine rSI ?_ | refine rT ?_ | refine rS ?_); first | done | (skip))
            | (exact ⟨i + 1, ⟨hlt, ht⟩, by omega, weak_of (by repeat' (first | exact trivial | refine ⟨rfl, ?_⟩ | refine ⟨(inc_get (k := i) (by kernel_rfl) (by omega)), ?_⟩))⟩)
            | ((exfalso; first | (simp_all <;> fail) | (simp_all; omega)))
            | fail)
      · have hf : x.rules.all lightR = false := all_not hr (by
          cases hb : lightR r with
          | false => rfl
          | true => simp only [lightR, Bool.and_eq_true, decide_eq_true_eq] at hb; exact absurd hb.1 hok)
        rw [hf]
        repeat' (first
          | refine Run.region ?_
          | refine Run.seq ?_
          | ((refine oB (frz := [1]) Et_ok (fun h => ?_) (fun h => ?_)) <;> (first | (exfalso; simp at h <;> fail) | (exfalso; simp at h; omega) | skip))
          | ((refine eB (fun h => ?_) (fun h => ?_)) <;> (first | (exfalso; simp at h <;> fail) | (exfalso; simp at h; omega) | skip))
          | refine oX (frz := [1]) Et_ok ?_
          | refine oS ?_
          | refine RunOps.nil ?_
          | refine Run.skip ?_
          | refine cT ?_
          | refine cF ?_
          | refine Run.block ?_
          | refine Run.exit ?_
          | refine Run.draw (frz := [1]) Et_ok (by kernel_rfl) ?_
          | refine eX ?_
          | refine eS ?_
          | refine eN ?_
          | refine oX (frz := [1]) (v := .d (.ep [.str r.name, alts r.alts])) Et_ok ?_ (hf := (by first | (simp [inB] <;> fail) | (simp [inB]; omega))) (he := (by first | (simp [List.getD_eq_getElem?_getD, cellsD, hr, encR] <;> fail) | fail))
          | refine eX (v := .d (.ep [.str r.name, alts r.alts])) ?_ (hf := (by first | (simp [inB] <;> fail) | (simp [inB]; omega))) (he := (by first | (simp [List.getD_eq_getElem?_getD, cellsD, hr, encR] <;> fail) | fail))
          | (refine Run.ret ?_; (first | refine rB ?_ | refine rI ?_ | refine rA ?_ | refine rII ?_ | refine rSI ?_ | refine rT ?_ | refine rS ?_); first | done | (rfl))
          | ((exfalso; first | (simp_all <;> fail) | (simp_all; omega)))
          | fail)
    · have hie : i = x.rules.length := by omega
      subst hie
      rw [List.take_length] at hi2
      rw [hi2]
      repeat' (first
        | refine Run.region ?_
        | refine Run.seq ?_
        | ((refine oB (frz := [1]) Et_ok (fun h => ?_) (fun h => ?_)) <;> (first | (exfalso; simp at h <;> fail) | (exfalso; simp at h; omega) | skip))
        | ((refine eB (fun h => ?_) (fun h => ?_)) <;> (first | (exfalso; simp at h <;> fail) | (exfalso; simp at h; omega) | skip))
        | refine oX (frz := [1]) Et_ok ?_
        | refine oS ?_
        | refine RunOps.nil ?_
        | refine Run.skip ?_
        | refine cT ?_
        | refine cF ?_
        | refine Run.block ?_
        | refine Run.exit ?_
        | refine Run.draw (frz := [1]) Et_ok (by kernel_rfl) ?_
        | refine eX ?_
        | refine eS ?_
        | refine eN ?_
        | (refine Run.ret ?_; (first | refine rB ?_ | refine rI ?_ | refine rA ?_ | refine rII ?_ | refine rSI ?_ | refine rT ?_ | refine rS ?_); first | done | (rfl))
        | ((exfalso; first | (simp_all <;> fail) | (simp_all; omega)))
        | fail)
  · have hf : lightX x = false := by
      cases hb : lightX x with
      | false => rfl
      | true =>
        simp only [lightX, Bool.and_eq_true, decide_eq_true_eq] at hb
        exact absurd ⟨hb.1.1.1.1, hb.1.1.1.2, hb.1.1.2, hb.1.2⟩ h0
    rw [hf]
    generalize hb : short8F x.tokens = b at hs h0
    refine knownE Et_ok (fnAt Tryz.func32 (by kernel_rfl) (by kernel_rfl) : FnAt _ _ (mkFn Tryz.f32 [1])) ?_
    repeat' (first
      | refine Run.region ?_
      | refine Run.seq ?_
      | ((refine oB (frz := [1]) Et_ok (fun h => ?_) (fun h => ?_)) <;> (first | (exfalso; simp at h <;> fail) | (exfalso; simp at h; omega) | skip))
      | ((refine eB (fun h => ?_) (fun h => ?_)) <;> (first | (exfalso; simp at h <;> fail) | (exfalso; simp at h; omega) | skip))
      | refine oX (frz := [1]) Et_ok ?_
      | refine oS ?_
      | refine RunOps.nil ?_
      | refine Run.skip ?_
      | refine cT ?_
      | refine cF ?_
      | refine Run.block ?_
      | refine Run.exit ?_
      | refine Run.draw (frz := [1]) Et_ok (by kernel_rfl) ?_
      | refine eX ?_
      | refine eS ?_
      | refine eN ?_
      | ((refine oK (hs) (fun h => ?_) (fun h => ?_)) <;> (first | (exfalso; simp at h <;> fail) | (exfalso; simp at h; omega) | skip))
      | refine oC (hs) ?_
      | ((refine eK (hs) (fun h => ?_) (fun h => ?_)) <;> (first | (exfalso; simp at h <;> fail) | (exfalso; simp at h; omega) | skip))
      | refine eC (hs) ?_
      | (refine Run.ret ?_; (first | refine rB ?_ | refine rI ?_ | refine rA ?_ | refine rII ?_ | refine rSI ?_ | refine rT ?_ | refine rS ?_); first | done | (rfl))
      | ((exfalso; first | (simp_all <;> fail) | (simp_all; omega)))
      | fail)
structure LightX (x : Src) : Prop where
  tokens : x.tokens.length ≤ 12 ∧ ∀ s ∈ x.tokens, s.length ≤ 40
  sep : x.sep.length ≤ 40
  start : x.start.length ≤ 40
  rules : x.rules.length ≤ 12
  names : ∀ r ∈ x.rules, r.name.length ≤ 40 ∧ r.alts.length ≤ 30 ∧ ∀ a ∈ r.alts, a.length ≤ 12 ∧ ∀ s ∈ a, s.length ≤ 40
theorem lightX_iff {x : Src} (h : lightX x = true) : LightX x := by
  simp only [lightX, Bool.and_eq_true, decide_eq_true_eq, List.all_eq_true, short8F_iff, lightR] at h
  exact ⟨h.1.1.1.1, h.1.1.1.2, h.1.1.2, h.1.2, fun r hr => ⟨(h.2 r hr).1.1, (h.2 r hr).1.2, (h.2 r hr).2⟩⟩
theorem LightX.fits {x : Src} (h : LightX x) : FitsX x where
  tokens := by have := h.tokens.1; omega
  rules := by have := h.rules; omega
  alts r hr := by have := (h.names r hr).2.1; omega
  names r hr a ha := by have := ((h.names r hr).2.2 a ha).1; omega
  sep := by have := h.sep; omega
  start := by have := h.start; omega
  tokenS s hs := by have := h.tokens.2 s hs; omega
  ruleS r hr := by have := (h.names r hr).1; omega
  nameS r hr a ha s hs := by have := ((h.names r hr).2.2 a ha).2 s hs; omega
theorem flatten_le {α : Type} {n : Nat} : ∀ {l : List (List α)}, (∀ a ∈ l, a.length ≤ n) → l.flatten.length ≤ l.length * n
  | [], _ => by simp
  | a :: l, h => by
    have h1 := h a List.mem_cons_self
    have h2 := flatten_le (l := l) fun b hb => h b (List.mem_cons_of_mem _ hb)
    rw [List.flatten_cons, List.length_append, List.length_cons, Nat.succ_mul]
    omega
theorem LightX.inner {x : Src} (h : LightX x) : (innerX x).length ≤ 1048576 := by
  have h1 : (innerX x).length ≤ (x.rules.map fun r => r.alts.flatten).length * 360 := by
    unfold innerX
    rw [List.flatMap_def]
    refine flatten_le fun a ha => ?_
    obtain ⟨r, hr, rfl⟩ := List.mem_map.1 ha
    have h2 := flatten_le (l := r.alts) (n := 12) fun a ha => ((h.names r hr).2.2 a ha).1
    have := (h.names r hr).2.1
    omega
  have := h.rules
  rw [List.length_map] at h1
  omega
theorem joinTo_len {l : List (List Nat)} {B : Nat} (h : ∀ s ∈ l, s.length ≤ B) : ∀ n, (joinTo l n).length ≤ n * (2 + B)
  | 0 => by simp [joinTo]
  | n + 1 => by
    have ih := joinTo_len h n
    have hs : (sepP n).length ≤ 2 := by cases n <;> simp [sepP]
    have hd : (l.getD n []).length ≤ B := by
      rw [List.getD_eq_getElem?_getD]
      cases hg : l[n]? with
      | none => simp
      | some s => exact h s (List.mem_of_getElem? hg)
    simp only [joinTo, List.length_append]
    rw [Nat.succ_mul]; omega
theorem altQ_len {a : List (List Nat)} {B : Nat} (h : ∀ s ∈ a, s.length ≤ B) : (altQ a).length ≤ a.length * (B + 1) := by
  unfold altQ
  rw [List.flatMap_def]
  have := flatten_le (l := a.map fun s => 32 :: s) (n := B + 1) fun u hu => by
    obtain ⟨s, hs, rfl⟩ := List.mem_map.1 hu
    have := h s hs
    simp only [List.length_cons]; omega
  rwa [List.length_map] at this
theorem altsTo_len {al : List (List (List Nat))} {B : Nat} (h : ∀ a ∈ al, (altQ a).length ≤ B) : ∀ n, (altsTo al n).length ≤ n * (2 + B)
  | 0 => by simp [altsTo]
  | n + 1 => by
    have ih := altsTo_len h n
    have hs : (barP n).length ≤ 2 := by cases n <;> simp [barP]
    have hd : (altQ (al.getD n [])).length ≤ B := by
      rw [List.getD_eq_getElem?_getD]
      cases hg : al[n]? with
      | none => simp [altQ]
      | some s => exact h s (List.mem_of_getElem? hg)
    simp only [altsTo, List.length_append]
    rw [Nat.succ_mul]; omega
theorem LightX.print {x : Src} (h : LightX x) : (printX x).length ≤ 1099511627776 := by
  have h1 : (List.intercalate [44, 32] x.tokens).length ≤ x.tokens.length * 42 := by
    have := joinTo_inter x.tokens x.tokens.length (Nat.le_refl _)
    rw [List.take_length] at this
    rw [← this]
    exact joinTo_len h.tokens.2 _
  have h2 : (rulesTo x x.rules.length).length ≤ x.rules.length * 20000 := by
    unfold rulesTo
    rw [List.take_length, List.flatMap_def]
    have := flatten_le (l := x.rules.map ruleP) (n := 20000) fun u hu => by
      obtain ⟨r, hr, rfl⟩ := List.mem_map.1 hu
      obtain ⟨g1, g2, g3⟩ := h.names r hr
      have g4 := altsTo_len (al := r.alts) (B := 492) (fun a ha => by
        have := altQ_len (a := a) (B := 40) (g3 a ha).2
        have := (g3 a ha).1
        omega) r.alts.length
      simp only [ruleP, List.length_append, List.length_cons, List.length_nil]
      omega
    rwa [List.length_map] at this
  have := h.tokens.1
  have := h.rules
  have := h.sep
  have := h.start
  simp only [printX, headP, List.length_append, List.length_cons, List.length_nil]
  omega
structure ByteX (x : Src) : Prop where
  tokens : ∀ s ∈ x.tokens, ∀ c ∈ s, c < 256
  sep : ∀ c ∈ x.sep, c < 256
  start : ∀ c ∈ x.start, c < 256
  rules : ∀ r ∈ x.rules, ∀ c ∈ r.name, c < 256
  names : ∀ r ∈ x.rules, ∀ a ∈ r.alts, ∀ s ∈ a, ∀ c ∈ s, c < 256
theorem joinTo_by {l : List (List Nat)} (h : ∀ s ∈ l, ∀ c ∈ s, c < 256) : ∀ n, ∀ c ∈ joinTo l n, c < 256
  | 0, c, hc => by simp [joinTo] at hc
  | n + 1, c, hc => by
    simp only [joinTo, List.mem_append] at hc
    rcases hc with (hc | hc) | hc
    · exact joinTo_by h n c hc
    · cases n with
      | zero => simp [sepP] at hc
      | succ n => simp [sepP] at hc; omega
    · rw [List.getD_eq_getElem?_getD] at hc
      cases hg : l[n]? with
      | none => rw [hg] at hc; simp at hc
      | some s => rw [hg] at hc; exact h s (List.mem_of_getElem? hg) c hc
theorem altQ_by {a : List (List Nat)} (h : ∀ s ∈ a, ∀ c ∈ s, c < 256) : ∀ c ∈ altQ a, c < 256 := by
  intro c hc
  simp only [altQ, List.mem_flatMap, List.mem_cons] at hc
  obtain ⟨s, hs, rfl | hc⟩ := hc
  · omega
  · exact h s hs c hc
theorem altsTo_by {al : List (List (List Nat))} (h : ∀ a ∈ al, ∀ s ∈ a, ∀ c ∈ s, c < 256) : ∀ n, ∀ c ∈ altsTo al n, c < 256
  | 0, c, hc => by simp [altsTo] at hc
  | n + 1, c, hc => by
    simp only [altsTo, List.mem_append] at hc
    rcases hc with (hc | hc) | hc
    · exact altsTo_by h n c hc
    · cases n with
      | zero => simp [barP] at hc
      | succ n => simp [barP] at hc; omega
    · refine altQ_by (a := al.getD n []) (fun s hs c hc => ?_) c hc
      rw [List.getD_eq_getElem?_getD] at hs
      cases hg : al[n]? with
      | none => rw [hg] at hs; simp at hs
      | some a => rw [hg] at hs; exact h a (List.mem_of_getElem? hg) s hs c hc
theorem ByteX.head {x : Src} (h : ByteX x) (hk : x.k ≤ 4) : ∀ c ∈ headP x, c < 256 := by
  have hj := joinTo_inter x.tokens x.tokens.length (Nat.le_refl _)
  rw [List.take_length] at hj
  intro c hc
  simp only [headP, List.mem_append] at hc
  rcases hc with (((((((hc | hc) | hc) | hc) | hc) | hc) | hc) | hc) | hc
  · simp at hc; omega
  · simp at hc; omega
  · simp at hc; omega
  · rw [← hj] at hc; exact joinTo_by h.tokens _ c hc
  · simp at hc; omega
  · exact h.sep c hc
  · simp at hc; omega
  · exact h.start c hc
  · simp at hc; omega
theorem ByteX.print {x : Src} (h : ByteX x) (hk : x.k ≤ 4) : ∀ c ∈ printX x, c < 256 := by
  intro c hc
  rcases List.mem_append.1 (show c ∈ headP x ++ rulesTo x x.rules.length from hc) with hc | hc
  · exact h.head hk c hc
  · simp only [rulesTo, List.take_length, List.mem_flatMap] at hc
    obtain ⟨r, hr, hc⟩ := hc
    simp only [ruleP, List.mem_append] at hc
    rcases hc with ((hc | hc) | hc) | hc
    · exact h.rules r hr c hc
    · simp at hc; omega
    · exact altsTo_by (h.names r hr) _ c hc
    · simp at hc; omega
def printF (x : Src) : List Nat := if checkX x = 0 then printX x else []
theorem printSA (x : Src) (hf : FitsX x) (ht : (innerX x).length ≤ 1048576) (hp : (printX x).length ≤ 1099511627776) (hb : ByteX x) :
    KnownCall Tryz.prog 31 [encX x] (.tup [.d (.str (printF x)), .d (.int .i64 (checkX x))]) := by
  by_cases h0 : checkX x = 0
  · have hk : x.k ≤ 4 := by
      have hn : ¬ (x.k < 1 ∨ 4 < x.k) := fun h => by rw [checkX_k h] at h0; cases h0
      omega
    rw [show printF x = printX x from if_pos h0, h0]
    exact printS x hf ht h0 hp (hb.print hk)
  · have cc := checkS x hf ht
    rw [show printF x = [] from if_neg h0]
    generalize checkX x = c at cc h0 ⊢
    refine knownE Et_ok (fnAt Tryz.func31 (by kernel_rfl) (by kernel_rfl) : FnAt _ _ (mkFn Tryz.f31 [1])) ?_
    repeat' (first
      | refine Run.region ?_
      | refine Run.seq ?_
      | ((refine oB (frz := [1]) Et_ok (fun h => ?_) (fun h => ?_)) <;> (first | (exfalso; simp at h <;> fail) | (exfalso; simp at h; omega) | skip))
      | ((refine eB (fun h => ?_) (fun h => ?_)) <;> (first | (exfalso; simp at h <;> fail) | (exfalso; simp at h; omega) | skip))
      | refine oX (frz := [1]) Et_ok ?_
      | refine oS ?_
      | refine RunOps.nil ?_
      | refine Run.skip ?_
      | refine cT ?_
      | refine cF ?_
      | refine Run.block ?_
      | refine Run.exit ?_
      | refine Run.draw (frz := [1]) Et_ok (by kernel_rfl) ?_
      | refine eX ?_
      | refine eS ?_
      | refine eN ?_
      | refine oC (cc) ?_
      | refine eC (cc) ?_
      | (refine Run.ret ?_; (first | refine rB ?_ | refine rI ?_ | refine rA ?_ | refine rII ?_ | refine rSI ?_ | refine rT ?_ | refine rS ?_); first | done | (rfl))
      | ((exfalso; first | (simp_all <;> fail) | (simp_all; omega)))
      | fail)
theorem printRA (x : Src) (hf : FitsX x) (hp : (printX x).length ≤ 1099511627776) :
    KnownCall Tryz.prog 34 [encX x] (.tup [.d (.str (printF x)), .d (.int .i64 (checkX x))]) := by
  by_cases h0 : checkX x = 0
  · rw [show printF x = printX x from if_pos h0, h0]
    exact printR x hf h0 hp
  · have cc := check08 x hf
    rw [show printF x = [] from if_neg h0]
    generalize checkX x = c at cc h0 ⊢
    refine knownE Et_ok (fnAt Tryz.func34 (by kernel_rfl) (by kernel_rfl) : FnAt _ _ (mkFn Tryz.f34 [1])) ?_
    repeat' (first
      | refine Run.region ?_
      | refine Run.seq ?_
      | ((refine oB (frz := [1]) Et_ok (fun h => ?_) (fun h => ?_)) <;> (first | (exfalso; simp at h <;> fail) | (exfalso; simp at h; omega) | skip))
      | ((refine eB (fun h => ?_) (fun h => ?_)) <;> (first | (exfalso; simp at h <;> fail) | (exfalso; simp at h; omega) | skip))
      | refine oX (frz := [1]) Et_ok ?_
      | refine oS ?_
      | refine RunOps.nil ?_
      | refine Run.skip ?_
      | refine cT ?_
      | refine cF ?_
      | refine Run.block ?_
      | refine Run.exit ?_
      | refine Run.draw (frz := [1]) Et_ok (by kernel_rfl) ?_
      | refine eX ?_
      | refine eS ?_
      | refine eN ?_
      | refine oC (cc) ?_
      | refine eC (cc) ?_
      | (refine Run.ret ?_; (first | refine rB ?_ | refine rI ?_ | refine rA ?_ | refine rII ?_ | refine rSI ?_ | refine rT ?_ | refine rS ?_); first | done | (rfl))
      | ((exfalso; first | (simp_all <;> fail) | (simp_all; omega)))
      | fail)
abbrev boxX (x : Src) : Ob := .box [.d (.int .i64 x.k), .d (strs x.tokens), .d (.str x.sep), .d (.str x.start), .d (.sl 2 (x.rules.map encR))]
abbrev boxX0 : Ob := .box [.d (.int .i64 0), .d .nilsl, .d (.str []), .d (.str []), .d .nilsl]
theorem own8 (x : Src) (hf : FitsX x) : KnownCall Tryz.prog 33 [encX x] (.d (encX x)) := by
  have htl := hf.tokens
  have hrl := hf.rules
  have c0 := ownTexts x.tokens htl
  refine knownE Et_ok (fnAt Tryz.func33 (by kernel_rfl) (by kernel_rfl) : FnAt _ _ (mkFn Tryz.f33 [48, 53])) ?_
  repeat' (first
    | refine Run.region ?_
    | refine Run.seq ?_
    | ((refine oB (frz := [48, 53]) Et_ok (fun h => ?_) (fun h => ?_)) <;> (first | (exfalso; simp at h <;> fail) | (exfalso; simp at h; omega) | skip))
    | ((refine eB (fun h => ?_) (fun h => ?_)) <;> (first | (exfalso; simp at h <;> fail) | (exfalso; simp at h; omega) | skip))
    | refine oX (frz := [48, 53]) Et_ok ?_
    | refine oS ?_
    | refine RunOps.nil ?_
    | refine Run.skip ?_
    | refine cT ?_
    | refine cF ?_
    | refine Run.block ?_
    | refine Run.exit ?_
    | refine Run.draw (frz := [48, 53]) Et_ok (by kernel_rfl) ?_
    | refine eX ?_
    | refine eS ?_
    | refine eN ?_
    | refine oC (c0) ?_
    | refine eC (c0) ?_
    | (refine Run.ret ?_; (first | refine rB ?_ | refine rI ?_ | refine rA ?_ | refine rII ?_ | refine rSI ?_ | refine rT ?_ | refine rS ?_); first | done | (skip))
    | fail)
  refine Run.mkRoom 3 2 [(1, .bp 0 0), (2, .bp 1 0), (3, .sr 2 2 []), (4, .d (.int .i64 (0 : Nat)))] rfl (ofList_cases (by intro p hp; simp only [List.mem_cons, List.not_mem_nil, or_false] at hp; rcases hp with rfl | rfl | rfl | rfl <;> first | exact .inl ⟨rfl, rfl⟩ | exact .inr rfl)) ?_
  refine Run.loopT (fun y : Nat × List DV => ⟨PT.ofList [(1, .bp 0 0), (2, .bp 1 0), (3, .sr 2 2 y.2), (4, .d (.int .i64 y.1))], [boxX x, boxX0, .room y.2.length 2], []⟩) (fun y => y.1 ≤ x.rules.length ∧ y.2 = (x.rules.take y.1).map encR) (fun y => x.rules.length - y.1) (0, []) ⟨Nat.zero_le _, rfl⟩ (tidy_of (objs := _) _ 3 (by rfl) rfl (by repeat' (first | exact trivial | refine ⟨(Or.inl rfl), ?_⟩ | refine ⟨(Or.inr rfl), ?_⟩ | fail)) (by repeat' (first | exact trivial | refine ⟨rfl, ?_⟩ | fail)) rfl rfl) (fun y hy => ?_)
  obtain ⟨i, acc⟩ := y
  obtain ⟨hi1, hi2⟩ := hy
  simp only at hi1 hi2 ⊢
  have hal : acc.length ≤ i := by rw [hi2]; simp; omega
  rcases Nat.lt_or_ge i x.rules.length with hlt | hge
  · obtain ⟨r, hr⟩ := get_ok hlt
    have hra := hf.alts r (List.mem_of_getElem? hr)
    have hnext : acc ++ [encR r] = (x.rules.take (i + 1)).map encR := by rw [List.take_add_one, hr, hi2]; simp
    repeat' (first
      | refine Run.region ?_
      | refine Run.seq ?_
      | ((refine oB (frz := [48, 53]) Et_ok (fun h => ?_) (fun h => ?_)) <;> (first | (exfalso; simp at h <;> fail) | (exfalso; simp at h; omega) | skip))
      | ((refine eB (fun h => ?_) (fun h => ?_)) <;> (first | (exfalso; simp at h <;> fail) | (exfalso; simp at h; omega) | skip))
      | refine oX (frz := [48, 53]) Et_ok ?_
      | refine oS ?_
      | refine RunOps.nil ?_
      | refine Run.skip ?_
      | refine cT ?_
      | refine cF ?_
      | refine Run.block ?_
      | refine Run.exit ?_
      | refine Run.draw (frz := [48, 53]) Et_ok (by kernel_rfl) ?_
      | refine eX ?_
      | refine eS ?_
      | refine eN ?_
      | refine oX (frz := [48, 53]) (v := .d (.ep [.str r.name, alts r.alts])) Et_ok ?_ (hf := (by first | (simp [inB] <;> fail) | (simp [inB]; omega))) (he := (by first | (simp [List.getD_eq_getElem?_getD, cellsD, hr, encR] <;> fail) | fail))
      | refine eX (v := .d (.ep [.str r.name, alts r.alts])) ?_ (hf := (by first | (simp [inB] <;> fail) | (simp [inB]; omega))) (he := (by first | (simp [List.getD_eq_getElem?_getD, cellsD, hr, encR] <;> fail) | fail))
      | (refine Run.ret ?_; (first | refine rB ?_ | refine rI ?_ | refine rA ?_ | refine rII ?_ | refine rSI ?_ | refine rT ?_ | refine rS ?_); first | done | (skip))
      | ((exfalso; first | (simp_all <;> fail) | (simp_all; omega)))
      | fail)
    refine Run.cellRoom 3 1 1 ?_
    refine Run.loopT (fun z : Nat × List DV => ⟨PT.ofList [(1, .bp 0 0), (2, .bp 1 0), (3, .sr 2 2 acc), (4, .d (.int .i64 i)), (5, .bp 3 0), (6, .d (.int .i64 z.1))], [boxX x, boxX0, .room acc.length 2, .box [.d (.str r.name), .sr 4 1 z.2], .room z.2.length 1], []⟩) (fun z => z.1 ≤ r.alts.length ∧ z.2 = (r.alts.take z.1).map strs) (fun z => r.alts.length - z.1) (0, []) ⟨Nat.zero_le _, rfl⟩ (tidy_of (objs := _) _ 5 (by rfl) rfl (by repeat' (first | exact trivial | refine ⟨(Or.inl rfl), ?_⟩ | refine ⟨(Or.inr rfl), ?_⟩ | fail)) (by repeat' (first | exact trivial | refine ⟨rfl, ?_⟩ | fail)) rfl rfl) (fun z hz => ?_)
    obtain ⟨k, es⟩ := z
    obtain ⟨hk1, hk2⟩ := hz
    simp only at hk1 hk2 ⊢
    have hel : es.length ≤ k := by rw [hk2]; simp; omega
    rcases Nat.lt_or_ge k r.alts.length with hkl | hkg
    · obtain ⟨a, ha⟩ := get_ok hkl
      have c1 := ownTexts a (hf.names r (List.mem_of_getElem? hr) a (List.mem_of_getElem? ha))
      have hnx : es ++ [strs a] = (r.alts.take (k + 1)).map strs := by rw [List.take_add_one, ha, hk2]; simp
      repeat' (first
        | refine Run.region ?_
        | refine Run.seq ?_
        | ((refine oB (frz := [48, 53]) Et_ok (fun h => ?_) (fun h => ?_)) <;> (first | (exfalso; simp at h <;> fail) | (exfalso; simp at h; omega) | skip))
        | ((refine eB (fun h => ?_) (fun h => ?_)) <;> (first | (exfalso; simp at h <;> fail) | (exfalso; simp at h; omega) | skip))
        | refine oX (frz := [48, 53]) Et_ok ?_
        | refine oS ?_
        | refine RunOps.nil ?_
        | refine Run.skip ?_
        | refine cT ?_
        | refine cF ?_
        | refine Run.block ?_
        | refine Run.exit ?_
        | refine Run.draw (frz := [48, 53]) Et_ok (by kernel_rfl) ?_
        | refine eX ?_
        | refine eS ?_
        | refine eN ?_
        | refine oX (frz := [48, 53]) (v := .d (.ep [.str r.name, alts r.alts])) Et_ok ?_ (hf := (by first | (simp [inB] <;> fail) | (simp [inB]; omega))) (he := (by first | (simp [List.getD_eq_getElem?_getD, cellsD, hr, encR] <;> fail) | fail))
        | refine eX (v := .d (.ep [.str r.name, alts r.alts])) ?_ (hf := (by first | (simp [inB] <;> fail) | (simp [inB]; omega))) (he := (by first | (simp [List.getD_eq_getElem?_getD, cellsD, hr, encR] <;> fail) | fail))
        | refine oX (frz := [48, 53]) (v := .d (.ep [strs a])) Et_ok ?_ (hf := (by first | (simp [inB] <;> fail) | (simp [inB]; omega))) (he := (by first | (simp [List.getD_eq_getElem?_getD, cellsD, ha] <;> fail) | fail))
        | refine eX (v := .d (.ep [strs a])) ?_ (hf := (by first | (simp [inB] <;> fail) | (simp [inB]; omega))) (he := (by first | (simp [List.getD_eq_getElem?_getD, cellsD, ha] <;> fail) | fail))
        | refine oC (c1) ?_
        | refine eC (c1) ?_
        | refine oX (frz := [48, 53]) Et_ok ?_ (hv := app1) (hf := rfl) (he := rfl)
        | refine eX ?_ (hv := app1) (hf := rfl) (he := rfl)
        | refine oX (frz := [48, 53]) Et_ok ?_ (hv := app0) (hf := rfl) (he := rfl)
        | refine eX ?_ (hv := app0) (hf := rfl) (he := rfl)
        | (refine Run.ret ?_; (first | refine rB ?_ | refine rI ?_ | refine rA ?_ | refine rII ?_ | refine rSI ?_ | refine rT ?_ | refine rS ?_); first | done | (skip))
        | ((exfalso; first | (simp_all <;> fail) | (simp_all; omega)))
        | fail)
      exact ⟨(k + 1, es ++ [strs a]), ⟨hkl, hnx⟩, by simp only <;> omega, (tidy_of (objs := _) _ 5 (Eq.trans (b := [boxX x, boxX0, .room acc.length 2, .box [.d (.str r.name), .sr 4 1 (es ++ [strs a])], .room (es.length + 1) 1]) rfl (by simp)) rfl (by repeat' (first | exact trivial | refine ⟨(Or.inl rfl), ?_⟩ | refine ⟨(Or.inl (inc_get (k := k) (by kernel_rfl) (by omega))), ?_⟩ | refine ⟨(Or.inr rfl), ?_⟩ | fail)) (by repeat' (first | exact trivial | refine ⟨rfl, ?_⟩ | fail)) rfl rfl)⟩
    · have hke : k = r.alts.length := by omega
      have hes : es = r.alts.map strs := by rw [hk2, hke, List.take_length]
      subst hes
      repeat (first | refine Run.seq ?_ | refine Run.region ?_ | refine RunOps.nil ?_ | refine Run.skip ?_ | refine cT ?_ | refine cF ?_ | refine Run.block ?_ | refine Run.exit ?_)
      iterate 4 refine oX (frz := [48, 53]) Et_ok ?_
      first | refine oX (frz := [48, 53]) (v := .d (.ep [.str r.name, alts r.alts])) Et_ok ?_ (hf := (by first | (simp [inB] <;> fail) | (simp [inB]; omega))) (he := (by first | (simp [List.getD_eq_getElem?_getD, cellsD, hr, encR] <;> fail) | fail)) | refine eX (v := .d (.ep [.str r.name, alts r.alts])) ?_ (hf := (by first | (simp [inB] <;> fail) | (simp [inB]; omega))) (he := (by first | (simp [List.getD_eq_getElem?_getD, cellsD, hr, encR] <;> fail) | fail))
      iterate 3 refine oX (frz := [48, 53]) Et_ok ?_
      refine oX (frz := [48, 53]) (v := .d (.bool false)) Et_ok ?_ (he := vF8 (by simp <;> omega))
      repeat (first | refine Run.seq ?_ | refine Run.region ?_ | refine RunOps.nil ?_ | refine Run.skip ?_ | refine cT ?_ | refine cF ?_ | refine Run.block ?_ | refine Run.exit ?_)
      iterate 2 refine oX (frz := [48, 53]) Et_ok ?_
      first | refine Run.tidy (tidy_of (objs := _) [(1, .bp 0 0), (2, .bp 1 0), (3, .sr 2 2 acc), (4, .d (.int .i64 i)), (51, .sr 2 2 acc), (52, .d (encR r))] 3 (Eq.trans (b := [boxX x, boxX0, .room acc.length 2]) rfl rfl) rfl (by repeat' (first | exact trivial | refine ⟨(Or.inl rfl), ?_⟩ | refine ⟨(Or.inr rfl), ?_⟩ | refine ⟨rfl, ?_⟩ | fail)) (by repeat' (first | exact trivial | refine ⟨(Or.inl rfl), ?_⟩ | refine ⟨(Or.inr rfl), ?_⟩ | refine ⟨rfl, ?_⟩ | fail)) rfl rfl) ?_ | refine RunOps.tidy (tidy_of (objs := _) [(1, .bp 0 0), (2, .bp 1 0), (3, .sr 2 2 acc), (4, .d (.int .i64 i)), (51, .sr 2 2 acc), (52, .d (encR r))] 3 (Eq.trans (b := [boxX x, boxX0, .room acc.length 2]) rfl rfl) rfl (by repeat' (first | exact trivial | refine ⟨(Or.inl rfl), ?_⟩ | refine ⟨(Or.inr rfl), ?_⟩ | refine ⟨rfl, ?_⟩ | fail)) (by repeat' (first | exact trivial | refine ⟨(Or.inl rfl), ?_⟩ | refine ⟨(Or.inr rfl), ?_⟩ | refine ⟨rfl, ?_⟩ | fail)) rfl rfl) ?_
      refine oX (frz := [48, 53]) Et_ok ?_
      refine oX (frz := [48, 53]) Et_ok ?_ (hv := app1) (hf := rfl) (he := rfl)
      refine oX (frz := [48, 53]) Et_ok ?_
      repeat (first | refine Run.seq ?_ | refine Run.region ?_ | refine RunOps.nil ?_ | refine Run.skip ?_ | refine cT ?_ | refine cF ?_ | refine Run.block ?_ | refine Run.exit ?_)
      refine oX (frz := [48, 53]) Et_ok ?_
      refine oX (frz := [48, 53]) (v := .d (.int .i64 ((i + 1 : Nat) : Int))) Et_ok ?_ (he := vN8 (by omega) (by omega))
      refine oX (frz := [48, 53]) Et_ok ?_
      repeat (first | refine Run.seq ?_ | refine Run.region ?_ | refine RunOps.nil ?_ | refine Run.skip ?_ | refine cT ?_ | refine cF ?_ | refine Run.block ?_ | refine Run.exit ?_)
      exact ⟨(i + 1, acc ++ [encR r]), ⟨hlt, hnext⟩, by simp only <;> omega, (tidy_of (objs := _) _ 3 (Eq.trans (b := [boxX x, boxX0, .room (acc.length + 1) 2]) rfl (by simp)) rfl (by repeat' (first | exact trivial | refine ⟨(Or.inl rfl), ?_⟩ | refine ⟨(Or.inl (inc_get (k := i) (by kernel_rfl) (by omega))), ?_⟩ | refine ⟨(Or.inr rfl), ?_⟩ | fail)) (by repeat' (first | exact trivial | refine ⟨rfl, ?_⟩ | fail)) rfl rfl)⟩
  · have hie : i = x.rules.length := by omega
    have he : x.rules.map encR = acc := by rw [hi2, hie, List.take_length]
    rw [show encX x = .agg [.int .i64 x.k, strs x.tokens, .str x.sep, .str x.start, .sl 2 (x.rules.map encR)] from rfl, he]
    repeat' (first
      | refine Run.region ?_
      | refine Run.seq ?_
      | ((refine oB (frz := [48, 53]) Et_ok (fun h => ?_) (fun h => ?_)) <;> (first | (exfalso; simp at h <;> fail) | (exfalso; simp at h; omega) | skip))
      | ((refine eB (fun h => ?_) (fun h => ?_)) <;> (first | (exfalso; simp at h <;> fail) | (exfalso; simp at h; omega) | skip))
      | refine oX (frz := [48, 53]) Et_ok ?_
      | refine oS ?_
      | refine RunOps.nil ?_
      | refine Run.skip ?_
      | refine cT ?_
      | refine cF ?_
      | refine Run.block ?_
      | refine Run.exit ?_
      | refine Run.draw (frz := [48, 53]) Et_ok (by kernel_rfl) ?_
      | refine eX ?_
      | refine eS ?_
      | refine eN ?_
      | (refine Run.ret ?_; (first | refine rB ?_ | refine rI ?_ | refine rA ?_ | refine rII ?_ | refine rSI ?_ | refine rT ?_ | refine rS ?_); first | done | (rfl))
      | ((exfalso; first | (simp_all <;> fail) | (simp_all; omega)))
      | fail)
end Go.Av
end
noncomputable section
namespace Go.Av
open Go Go.Proofs
set_option maxRecDepth 10000
section
variable {H : Type} {enc : TypeId × Value → H} {w : World} {spare : Nat → Bool} {held : Bool} {fuel : Nat} {cs : List Value} {x : DataW H × List MemPlace}
abbrev Wf64 (n : Int) : Prop := (Lit.int .i64 n).wf = true
def wfStr (s : List Nat) : Prop := s.length ≤ maxLen ∧ ∀ c ∈ s, c < 256
structure WfProd (p : GProd) : Prop where
  left : Wf64 p.left
  len : p.right.length ≤ maxLen
  right : ∀ n ∈ p.right, Wf64 n
structure WfGram (g : Gram) : Prop where
  k : Wf64 g.k
  tokensL : g.tokens.length ≤ maxLen
  tokens : ∀ s ∈ g.tokens, wfStr s
  sep : wfStr g.sep
  namesL : g.names.length ≤ maxLen
  names : ∀ s ∈ g.names, wfStr s
  start : Wf64 g.start
  prodsL : g.prods.length ≤ maxLen
  prods : ∀ p ∈ g.prods, WfProd p
theorem cr_strs (hsp : ∀ b, spare b = true) (h : DataW.trod enc Tryz.prog w 0 spare held fuel 22 cs = some x) : ∃ l : List (List Nat), CellsRep (heapD w) (strs l) cs ∧ l.length ≤ maxLen ∧ ∀ s ∈ l, wfStr s :=
  cr_slice DV.str wfStr Tryz.underlying22 (by kernel_rfl) (Nat.le_refl _) hsp (fun n cs' y _ hy => cr_str Tryz.underlying9 hy) h
end
end Go.Av
end
noncomputable section
namespace Go.Av
open Go Go.Proofs
set_option maxRecDepth 10000
section
variable {H : Type} {enc : TypeId × Value → H} {w : World} {spare : Nat → Bool} {held : Bool} {fuel : Nat} {cs : List Value} {x : DataW H × List MemPlace}
def WfAlt (a : List (List Nat)) : Prop := a.length ≤ maxLen ∧ ∀ s ∈ a, wfStr s
structure WfRule (r : SRule) : Prop where
  name : wfStr r.name
  len : r.alts.length ≤ maxLen
  alts : ∀ a ∈ r.alts, WfAlt a
structure WfSrc (x : Src) : Prop where
  k : Wf64 x.k
  tokensL : x.tokens.length ≤ maxLen
  tokens : ∀ s ∈ x.tokens, wfStr s
  sep : wfStr x.sep
  start : wfStr x.start
  rulesL : x.rules.length ≤ maxLen
  rules : ∀ r ∈ x.rules, WfRule r
theorem cr_alts (hsp : ∀ b, spare b = true) (h : DataW.trod enc Tryz.prog w 0 spare held fuel 94 cs = some x) : ∃ l : List (List (List Nat)), CellsRep (heapD w) (alts l) cs ∧ l.length ≤ maxLen ∧ ∀ a ∈ l, WfAlt a :=
  cr_slice strs WfAlt Tryz.underlying94 (by kernel_rfl) (Nat.le_refl _) hsp (fun n cs' y _ hy => by
    obtain ⟨l, h1, h2, h3⟩ := cr_strs hsp hy
    exact ⟨l, h1, h2, h3⟩) h
theorem cr_rule (hsp : ∀ b, spare b = true) (hl : cs.length = 2) (h : DataW.trod enc Tryz.prog w 0 spare held fuel 96 cs = some x) : ∃ r : SRule, CellsRep (heapD w) (encR r) cs ∧ WfRule r := by
  match cs, hl, h with
  | [v0, v1], _, h =>
    obtain ⟨n0, y0, e0⟩ := trod_field Tryz.underlying96 h 0 rfl (by kernel_rfl) rfl
    obtain ⟨n1, y1, e1⟩ := trod_field Tryz.underlying96 h 1 rfl (by kernel_rfl) rfl
    obtain ⟨a, ha, wa⟩ := cr_str Tryz.underlying9 e0
    obtain ⟨l, hl, wl, wr⟩ := cr_alts hsp e1
    exact ⟨⟨a, l⟩, cr_all ⟨⟨rfl, ha⟩, ⟨rfl, hl⟩, trivial⟩, ⟨wa, wl, wr⟩⟩
theorem cr_src (hsp : ∀ b, spare b = true) (hl : cs.length = 5) (h : DataW.trod enc Tryz.prog w 0 spare held fuel 31 cs = some x) : ∃ s : Src, CellsRep (heapD w) (encX s) cs ∧ WfSrc s := by
  match cs, hl, h with
  | [v0, v1, v2, v3, v4], _, h =>
    obtain ⟨n0, y0, e0⟩ := trod_field Tryz.underlying31 h 0 rfl (by kernel_rfl) rfl
    obtain ⟨n1, y1, e1⟩ := trod_field Tryz.underlying31 h 1 rfl (by kernel_rfl) rfl
    obtain ⟨n2, y2, e2⟩ := trod_field Tryz.underlying31 h 2 rfl (by kernel_rfl) rfl
    obtain ⟨n3, y3, e3⟩ := trod_field Tryz.underlying31 h 3 rfl (by kernel_rfl) rfl
    obtain ⟨n4, y4, e4⟩ := trod_field Tryz.underlying31 h 4 rfl (by kernel_rfl) rfl
    obtain ⟨k, hk, wk⟩ := cr_int Tryz.underlying3 e0
    obtain ⟨ts, hts, wt1, wt2⟩ := cr_strs hsp e1
    obtain ⟨sep, hsep, ws⟩ := cr_str Tryz.underlying9 e2
    obtain ⟨st, hst, wst⟩ := cr_str Tryz.underlying9 e3
    obtain ⟨rs, hrs, wr1, wr2⟩ := cr_slice encR WfRule (sz := 2) Tryz.underlying29 (by kernel_rfl) (by omega) hsp (fun n cs' y hn hy => cr_rule hsp hn hy) e4
    exact ⟨⟨k, ts, sep, st, rs⟩, cr_all ⟨⟨rfl, hk⟩, ⟨rfl, hts⟩, ⟨rfl, hsep⟩, ⟨rfl, hst⟩, ⟨rfl, hrs⟩, trivial⟩, ⟨wk, wt1, wt2, ws, wst, wr1, wr2⟩⟩
theorem arg_src {r : Reach} {b0 : Nat} {v : Value} {d : DataW H} {ps : List MemPlace} (hsp : ∀ b, spare b = true) (hval : Value.okWide Tryz.prog w r b0 31 v) (h : DataW.Trod enc Tryz.prog w 0 spare held 31 v d ps) :
    ∃ s : Src, RepD (heapD w) (encX s) v ∧ WfSrc s :=
  arg_agg (f := fun x : Src => [.int .i64 x.k, strs x.tokens, .str x.sep, .str x.start, .sl 2 (x.rules.map encR)]) Tryz.underlying31 hval h (fun n cs x hl hx => cr_src hsp (hl.trans (by kernel_rfl)) hx)
end
end Go.Av
end
noncomputable section
namespace Go.Av
open Go Go.Proofs
def e0 : List DV × AV := ([(.str [108, 111, 111, 107, 97, 104, 101, 97, 100, 32, 50, 59, 32, 116, 111, 107, 101, 110, 32, 97, 44, 32, 98, 59, 32, 115, 101, 112, 97, 114, 97, 116, 111, 114, 32, 99, 59, 32, 115, 116, 97, 114, 116, 32, 83, 59, 32, 83, 32, 61, 32, 97, 32, 83, 32, 124, 32, 98, 32, 124, 32, 59])], (.tup [(.d (.sl 3 [(.agg [(.int .i64 1), (.str [108, 111, 111, 107, 97, 104, 101, 97, 100]), (.int .i64 0)]), (.agg [(.int .i64 2), (.str [50]), (.int .i64 10)]), (.agg [(.int .i64 3), (.str [59]), (.int .i64 11)]), (.agg [(.int .i64 1), (.str [116, 111, 107, 101, 110]), (.int .i64 13)]), (.agg [(.int .i64 1), (.str [97]), (.int .i64 19)]), (.agg [(.int .i64 3), (.str [44]), (.int .i64 20)]), (.agg [(.int .i64 1), (.str [98]), (.int .i64 22)]), (.agg [(.int .i64 3), (.str [59]), (.int .i64 23)]), (.agg [(.int .i64 1), (.str [115, 101, 112, 97, 114, 97, 116, 111, 114]), (.int .i64 25)]), (.agg [(.int .i64 1), (.str [99]), (.int .i64 35)]), (.agg [(.int .i64 3), (.str [59]), (.int .i64 36)]), (.agg [(.int .i64 1), (.str [115, 116, 97, 114, 116]), (.int .i64 38)]), (.agg [(.int .i64 1), (.str [83]), (.int .i64 44)]), (.agg [(.int .i64 3), (.str [59]), (.int .i64 45)]), (.agg [(.int .i64 1), (.str [83]), (.int .i64 47)]), (.agg [(.int .i64 3), (.str [61]), (.int .i64 49)]), (.agg [(.int .i64 1), (.str [97]), (.int .i64 51)]), (.agg [(.int .i64 1), (.str [83]), (.int .i64 53)]), (.agg [(.int .i64 3), (.str [124]), (.int .i64 55)]), (.agg [(.int .i64 1), (.str [98]), (.int .i64 57)]), (.agg [(.int .i64 3), (.str [124]), (.int .i64 59)]), (.agg [(.int .i64 3), (.str [59]), (.int .i64 61)])])), (.d (.agg [(.int .i64 0), (.int .i64 0)]))]))
theorem k0 : KnownCall Tryz.prog 96 e0.1 e0.2 := knownF T0_ok Et_ok (by kernel_rfl) Ft_ok (k := 100000) (n := 60) (by kernel_rfl)
def e1 : List DV × AV := ([(.agg [(.int .i64 2), (.str [50]), (.int .i64 10)])], (.d (.int .i64 0)))
theorem k1 : KnownCall Tryz.prog 228 e1.1 e1.2 := knownF T0_ok Et_ok (by kernel_rfl) Ft_ok (k := 100000) (n := 60) (by kernel_rfl)
end Go.Av
end
noncomputable section
namespace Go.Av
open Go Go.Proofs
def e2 : List DV × AV := ([(.str [97])], (.d (.int .i64 0)))
theorem k2 : KnownCall Tryz.prog 204 e2.1 e2.2 := knownF T0_ok Et_ok (by kernel_rfl) Ft_ok (k := 100000) (n := 60) (by kernel_rfl)
def e3 : List DV × AV := ([(.str [98])], (.d (.int .i64 0)))
theorem k3 : KnownCall Tryz.prog 204 e3.1 e3.2 := knownF T0_ok Et_ok (by kernel_rfl) Ft_ok (k := 100000) (n := 60) (by kernel_rfl)
def e4 : List DV × AV := ([(.str [83])], (.d (.int .i64 0)))
theorem k4 : KnownCall Tryz.prog 204 e4.1 e4.2 := knownF T0_ok Et_ok (by kernel_rfl) Ft_ok (k := 100000) (n := 60) (by kernel_rfl)
end Go.Av
end
noncomputable section
namespace Go.Av
open Go Go.Proofs
def T1 : Memo := (.node .nil none (.node (.node (.node (.node (.node .nil none (.node .nil (some [e0]) .nil)) none .nil) none .nil) none (.node (.node (.node .nil none (.node .nil none (.node .nil (some [e1]) .nil))) none .nil) none (.node (.node (.node .nil none (.node .nil (some [e2, e3, e4]) .nil)) none .nil) none .nil))) none .nil))
theorem T1_ok : MemoOK Tryz.prog T1 := ⟨trivial, trivial, ⟨trivial, ⟨trivial, ⟨trivial, ⟨trivial, ⟨trivial, trivial, ⟨⟨k0, trivial⟩, trivial, trivial⟩⟩, trivial⟩, trivial⟩, ⟨trivial, ⟨trivial, ⟨trivial, trivial, ⟨trivial, trivial, ⟨⟨k1, trivial⟩, trivial, trivial⟩⟩⟩, trivial⟩, ⟨trivial, ⟨trivial, ⟨trivial, trivial, ⟨⟨k2, k3, k4, trivial⟩, trivial, trivial⟩⟩, trivial⟩, trivial⟩⟩⟩, trivial⟩⟩
end Go.Av
end
noncomputable section
namespace Go.Av
open Go Go.Proofs
def e5 : List DV × AV := ([(.str [108, 111, 111, 107, 97, 104, 101, 97, 100, 32, 50, 59, 32, 116, 111, 107, 101, 110, 32, 97, 44, 32, 98, 59, 32, 115, 101, 112, 97, 114, 97, 116, 111, 114, 32, 99, 59, 32, 115, 116, 97, 114, 116, 32, 83, 59, 32, 83, 32, 61, 32, 97, 32, 83, 32, 124, 32, 98, 32, 124, 32, 59])], (.tup [(.d (.agg [(.int .i64 2), (.sl 1 [(.str [97]), (.str [98])]), (.str [99]), (.str [83]), (.sl 2 [(.agg [(.str [83]), (.sl 1 [(.sl 1 [(.str [97]), (.str [83])]), (.sl 1 [(.str [98])]), .nilsl])])])])), (.d (.agg [(.int .i64 0), (.int .i64 0)]))]))
theorem k5 : KnownCall Tryz.prog 27 e5.1 e5.2 := knownF T1_ok Et_ok (by kernel_rfl) Ft_ok (k := 100000) (n := 60) (by kernel_rfl)
def e6 : List DV × AV := ([(.agg [(.int .i64 2), (.sl 1 [(.str [97]), (.str [98])]), (.str [99]), (.str [83]), (.sl 2 [(.agg [(.str [83]), (.sl 1 [(.sl 1 [(.str [97]), (.str [83])]), (.sl 1 [(.str [98])]), .nilsl])])])])], (.d (.int .i64 0)))
theorem k6 : KnownCall Tryz.prog 35 e6.1 e6.2 := knownF T1_ok Et_ok (by kernel_rfl) Ft_ok (k := 100000) (n := 60) (by kernel_rfl)
end Go.Av
end
noncomputable section
namespace Go.Av
open Go Go.Proofs
def T2 : Memo := (.node (.node (.node .nil none (.node (.node (.node .nil (some [e6]) .nil) none .nil) none (.node .nil (some [e5]) .nil))) none .nil) none (.node (.node (.node (.node (.node .nil none (.node .nil (some [e0]) .nil)) none .nil) none .nil) none (.node (.node (.node .nil none (.node .nil none (.node .nil (some [e1]) .nil))) none .nil) none (.node (.node (.node .nil none (.node .nil (some [e2, e3, e4]) .nil)) none .nil) none .nil))) none .nil))
theorem T2_ok : MemoOK Tryz.prog T2 := ⟨trivial, ⟨trivial, ⟨trivial, trivial, ⟨trivial, ⟨trivial, ⟨⟨k6, trivial⟩, trivial, trivial⟩, trivial⟩, ⟨⟨k5, trivial⟩, trivial, trivial⟩⟩⟩, trivial⟩, ⟨trivial, ⟨trivial, ⟨trivial, ⟨trivial, ⟨trivial, trivial, ⟨⟨k0, trivial⟩, trivial, trivial⟩⟩, trivial⟩, trivial⟩, ⟨trivial, ⟨trivial, ⟨trivial, trivial, ⟨trivial, trivial, ⟨⟨k1, trivial⟩, trivial, trivial⟩⟩⟩, trivial⟩, ⟨trivial, ⟨trivial, ⟨trivial, trivial, ⟨⟨k2, k3, k4, trivial⟩, trivial, trivial⟩⟩, trivial⟩, trivial⟩⟩⟩, trivial⟩⟩
end Go.Av
end
noncomputable section
namespace Go.Av
open Go Go.Proofs
def e7 : List DV × AV := ([(.agg [(.int .i64 2), (.sl 1 [(.str [97]), (.str [98])]), (.str [99]), (.str [83]), (.sl 2 [(.agg [(.str [83]), (.sl 1 [(.sl 1 [(.str [97]), (.str [83])]), (.sl 1 [(.str [98])]), .nilsl])])])])], (.tup [(.d (.str [108, 111, 111, 107, 97, 104, 101, 97, 100, 32, 50, 59, 10, 116, 111, 107, 101, 110, 32, 97, 44, 32, 98, 59, 10, 115, 101, 112, 97, 114, 97, 116, 111, 114, 32, 99, 59, 10, 115, 116, 97, 114, 116, 32, 83, 59, 10, 83, 32, 61, 32, 97, 32, 83, 32, 124, 32, 98, 32, 124, 32, 59, 10])), (.d (.int .i64 0))]))
theorem k7 : KnownCall Tryz.prog 31 e7.1 e7.2 := knownF T2_ok Et_ok (by kernel_rfl) Ft_ok (k := 100000) (n := 60) (by kernel_rfl)
end Go.Av
end
noncomputable section
namespace Go.Av
open Go Go.Proofs
def T3 : Memo := (.node (.node (.node (.node (.node (.node .nil (some [e7]) .nil) none .nil) none .nil) none (.node (.node (.node .nil (some [e6]) .nil) none .nil) none (.node .nil (some [e5]) .nil))) none .nil) none (.node (.node (.node (.node (.node .nil none (.node .nil (some [e0]) .nil)) none .nil) none .nil) none (.node (.node (.node .nil none (.node .nil none (.node .nil (some [e1]) .nil))) none .nil) none (.node (.node (.node .nil none (.node .nil (some [e2, e3, e4]) .nil)) none .nil) none .nil))) none .nil))
theorem T3_ok : MemoOK Tryz.prog T3 := ⟨trivial, ⟨trivial, ⟨trivial, ⟨trivial, ⟨trivial, ⟨⟨k7, trivial⟩, trivial, trivial⟩, trivial⟩, trivial⟩, ⟨trivial, ⟨trivial, ⟨⟨k6, trivial⟩, trivial, trivial⟩, trivial⟩, ⟨⟨k5, trivial⟩, trivial, trivial⟩⟩⟩, trivial⟩, ⟨trivial, ⟨trivial, ⟨trivial, ⟨trivial, ⟨trivial, trivial, ⟨⟨k0, trivial⟩, trivial, trivial⟩⟩, trivial⟩, trivial⟩, ⟨trivial, ⟨trivial, ⟨trivial, trivial, ⟨trivial, trivial, ⟨⟨k1, trivial⟩, trivial, trivial⟩⟩⟩, trivial⟩, ⟨trivial, ⟨trivial, ⟨trivial, trivial, ⟨⟨k2, k3, k4, trivial⟩, trivial, trivial⟩⟩, trivial⟩, trivial⟩⟩⟩, trivial⟩⟩
end Go.Av
end
noncomputable section
namespace Go.Av
open Go Go.Proofs
theorem awake8 : KnownCall Tryz.prog 26 [] (.d (.bool true)) := knownF T3_ok Et_ok (by kernel_rfl) Ft_ok (k := 100000) (n := 60) (by kernel_rfl)
end Go.Av
end
noncomputable section
namespace Go.Av
open Go Go.Proofs
set_option maxRecDepth 10000
theorem WfSrc.bytes {x : Src} (h : WfSrc x) : ByteX x where
  tokens s hs := (h.tokens s hs).2
  sep := h.sep.2
  start := h.start.2
  rules r hr := (h.rules r hr).name.2
  names r hr a ha s hs := ((h.rules r hr).alts a ha |>.2 s hs).2
theorem sizeT_five (x : Src) : ∃ a b c d e : Int, sizeT x = [.d (.int .i64 a), .d (.int .i64 b), .d (.int .i64 c), .d (.int .i64 d), .d (.int .i64 e)] := by
  unfold sizeT
  split
  · exact ⟨_, _, _, _, _, rfl⟩
  · exact ⟨_, _, _, _, _, rfl⟩
set_option maxHeartbeats 4000000 in
theorem lawSC (x y : Src) (wx : WfSrc x) : KnownCall Tryz.prog 6 [encX x, encX y] (.d (.bool true)) := by
  have hA := awake8
  have l1 := light8 x
  have l2 := light8 y
  cases h1 : lightX x with
  | false =>
    rw [h1] at l1
    refine knownE Et_ok (fnAt Tryz.func6 (by kernel_rfl) (by kernel_rfl) : FnAt _ _ (mkFn Tryz.f6 [2, 3])) ?_
    repeat' (first
      | refine Run.region ?_
      | refine Run.seq ?_
      | ((refine oB (frz := [2, 3]) Et_ok (fun h => ?_) (fun h => ?_)) <;> (first | (exfalso; simp at h <;> fail) | (exfalso; simp at h; omega) | skip))
      | ((refine eB (fun h => ?_) (fun h => ?_)) <;> (first | (exfalso; simp at h <;> fail) | (exfalso; simp at h; omega) | skip))
      | refine oX (frz := [2, 3]) Et_ok ?_
      | refine oS ?_
      | refine RunOps.nil ?_
      | refine Run.skip ?_
      | refine cT ?_
      | refine cF ?_
      | refine Run.block ?_
      | refine Run.exit ?_
      | refine Run.draw (frz := [2, 3]) Et_ok (by kernel_rfl) ?_
      | refine eX ?_
      | refine eS ?_
      | refine eN ?_
      | refine oC (hA) ?_
      | refine eC (hA) ?_
      | refine oC (l1) ?_
      | refine eC (l1) ?_
      | refine oC (l2) ?_
      | refine eC (l2) ?_
      | (refine Run.ret ?_; (first | refine rB ?_ | refine rI ?_ | refine rA ?_ | refine rII ?_ | refine rSI ?_ | refine rT ?_ | refine rS ?_); first | done | (rfl))
      | ((exfalso; (simp at h <;> fail)))
      | fail)
  | true =>
    rw [h1] at l1
    cases h2 : lightX y with
    | false =>
      rw [h2] at l2
      refine knownE Et_ok (fnAt Tryz.func6 (by kernel_rfl) (by kernel_rfl) : FnAt _ _ (mkFn Tryz.f6 [2, 3])) ?_
      repeat' (first
        | refine Run.region ?_
        | refine Run.seq ?_
        | ((refine oB (frz := [2, 3]) Et_ok (fun h => ?_) (fun h => ?_)) <;> (first | (exfalso; simp at h <;> fail) | (exfalso; simp at h; omega) | skip))
        | ((refine eB (fun h => ?_) (fun h => ?_)) <;> (first | (exfalso; simp at h <;> fail) | (exfalso; simp at h; omega) | skip))
        | refine oX (frz := [2, 3]) Et_ok ?_
        | refine oS ?_
        | refine RunOps.nil ?_
        | refine Run.skip ?_
        | refine cT ?_
        | refine cF ?_
        | refine Run.block ?_
        | refine Run.exit ?_
        | refine Run.draw (frz := [2, 3]) Et_ok (by kernel_rfl) ?_
        | refine eX ?_
        | refine eS ?_
        | refine eN ?_
        | refine oC (hA) ?_
        | refine eC (hA) ?_
        | refine oC (l1) ?_
        | refine eC (l1) ?_
        | refine oC (l2) ?_
        | refine eC (l2) ?_
        | (refine Run.ret ?_; (first | refine rB ?_ | refine rI ?_ | refine rA ?_ | refine rII ?_ | refine rSI ?_ | refine rT ?_ | refine rS ?_); first | done | (rfl))
        | ((exfalso; (simp at h <;> fail)))
        | fail)
    | true =>
      rw [h2] at l2
      have L := lightX_iff h1
      have hf := L.fits
      have hi := L.inner
      have hp := L.print
      have hb := wx.bytes
      have c0 := own8 x hf
      have c1 := printSA x hf hi hp hb
      have c2 := printRA x hf hp
      have c3 := checkS x hf hi
      have c4 := check08 x hf
      have c5 := sizeS x hf hi
      have c6 := sizeR x hf hi
      have c7 := wordsS x hf hi
      have c8 := wordsR x hf
      have c9 := sameTexts (wordsX x) (wordsX x) (by
        have := hf.tokens
        have := hf.rules
        unfold wordsX
        split
        · simp; omega
        · simp)
      rw [decide_eq_true rfl] at c9
      have c10 := sameSr x y hf
      have c11 := sameR8 x y hf
      have c12 := sameSr x x hf
      have c13 := sameR8 x x hf
      rw [smX_self] at c12 c13
      obtain ⟨n1, n2, n3, n4, n5, hs⟩ := sizeT_five x
      rw [hs] at c5 c6
      generalize printF x = s at c1 c2
      generalize checkX x = c at c1 c2 c3 c4 c7 c8
      generalize wordsX x = ws at c7 c8 c9
      generalize smX x y = b at c10 c11
      clear hs h1 h2 L hi hp hb wx hf
      refine knownE Et_ok (fnAt Tryz.func6 (by kernel_rfl) (by kernel_rfl) : FnAt _ _ (mkFn Tryz.f6 [2, 3])) ?_
      repeat' (first
        | refine Run.region ?_
        | refine Run.seq ?_
        | ((refine oB (frz := [2, 3]) Et_ok (fun h => ?_) (fun h => ?_)) <;> (first | (exfalso; simp at h <;> fail) | (exfalso; simp at h; omega) | skip))
        | ((refine eB (fun h => ?_) (fun h => ?_)) <;> (first | (exfalso; simp at h <;> fail) | (exfalso; simp at h; omega) | skip))
        | refine oX (frz := [2, 3]) Et_ok ?_
        | refine oS ?_
        | refine RunOps.nil ?_
        | refine Run.skip ?_
        | refine cT ?_
        | refine cF ?_
        | refine Run.block ?_
        | refine Run.exit ?_
        | refine Run.draw (frz := [2, 3]) Et_ok (by kernel_rfl) ?_
        | refine eX ?_
        | refine eS ?_
        | refine eN ?_
        | refine oC (hA) ?_
        | refine eC (hA) ?_
        | refine oC (l1) ?_
        | refine eC (l1) ?_
        | refine oC (l2) ?_
        | refine eC (l2) ?_
        | refine oC (c0) ?_
        | refine eC (c0) ?_
        | refine oC (c1) ?_
        | refine eC (c1) ?_
        | refine oC (c2) ?_
        | refine eC (c2) ?_
        | refine oC (c3) ?_
        | refine eC (c3) ?_
        | refine oC (c4) ?_
        | refine eC (c4) ?_
        | refine oC (c5) ?_
        | refine eC (c5) ?_
        | refine oC (c6) ?_
        | refine eC (c6) ?_
        | refine oC (c7) ?_
        | refine eC (c7) ?_
        | refine oC (c8) ?_
        | refine eC (c8) ?_
        | refine oC (c9) ?_
        | refine eC (c9) ?_
        | refine oC (c10) ?_
        | refine eC (c10) ?_
        | refine oC (c11) ?_
        | refine eC (c11) ?_
        | refine oC (c12) ?_
        | refine eC (c12) ?_
        | refine oC (c13) ?_
        | refine eC (c13) ?_
        | (refine Run.ret ?_; (first | refine rB ?_ | refine rI ?_ | refine rA ?_ | refine rII ?_ | refine rSI ?_ | refine rT ?_ | refine rS ?_); first | done | (rfl))
        | ((exfalso; (simp at h <;> fail)))
        | fail)
theorem lawSCA (x : Src) (wx : WfSrc x) (y : Src) (_ : WfSrc y) : KnownCall Tryz.prog 6 [encX x, encX y] (.d (.bool true)) := lawSC x y wx
end Go.Av
end

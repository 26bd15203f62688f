/-
  The abstract layer, part KB: what strings.Builder does: unsafe pointers, the bytes of a row as a string, a row of any bytes; two pointers to one place.
-/
import Derived.Test.YtkehiddekhlfaaaK
import Derived.Lib.Builder
import Derived.Lib.UnsafeStr
import Derived.Lib.MakeNoZero
noncomputable section
namespace Go.Av
open Go

section
variable {P : Program} {E : PT Ty} {D : DMap} {β : List Bi} {objs : List Ob} {w : World}

theorem TyOK1.cellsOf {t : TypeId} {y : Ty} (h : TyOK1 P t y) : P.cellsOf t = y.size := by
  obtain ⟨i, z, h1, h2, _⟩ := h.info
  simp [Program.cellsOf, h1, h2]
theorem bldT_und (hE : TyOK P E) {t : TypeId} (h : bldT E t = true) : ∃ fs, P.underlying t = some (.struct fs) ∧ P.cellsOf t = 2 ∧ ∃ y, E.get? t = some y := by
  unfold bldT at h
  split at h
  · rename_i fs _ _ hy
    exact ⟨fs, (hE t _ hy).und, (hE t _ hy).cellsOf, _, hy⟩
  · cases h
theorem oneF_und (hE : TyOK P E) {t : TypeId} {a : Field} (h : oneF E t = some a) : ∃ fs : Array Field, P.underlying t = some (.struct fs) ∧ fs.toList = [a] ∧ P.cellsOf t = 2 ∧ ∃ y, E.get? t = some y ∧ y.desc = .struct fs := by
  unfold oneF at h
  split at h
  · rename_i fs _ _ hy
    split at h
    · rename_i b hl
      simp only [Option.some.injEq] at h
      subst h
      exact ⟨fs, (hE t _ hy).und, hl, (hE t _ hy).cellsOf, _, hy, rfl⟩
    · cases h
  · cases h

theorem lies_ok (hE : TyOK P E) (hS : PlainOK P E) {t u : TypeId} {off : Nat} (h : liesE E t u off = true) : off = 0 ∧ P.cellsOf t = 2 ∧ liesAt P P.depth t (2 / P.cellsOf t) 0 u 1 = true := by
  unfold liesE at h
  simp only [Bool.and_eq_true, Bool.or_eq_true] at h
  obtain ⟨⟨hu, h0⟩, h1⟩ := h
  have h0 := Nat.eq_of_beq_eq_true h0
  obtain ⟨us, hus, hcu, _⟩ := bldT_und hE hu
  obtain ⟨d, hd⟩ : ∃ d, P.depth = d + 2 := ⟨P.depth - 2, by unfold Program.depth; omega⟩
  have same : sameLayout P P.depth u u = true := by rw [hd]; simp [sameLayout]
  have base : ∀ n, rowAt P (sameLayout P P.depth · u) (n + 1) u 1 0 1 = true := fun n => by simp [rowAt, hcu, same]
  rcases h1 with h1 | h1
  · have h1 := Nat.eq_of_beq_eq_true h1
    subst h1
    refine ⟨h0, hcu, ?_⟩
    rw [hcu]
    have := base (d + 1)
    rw [hd] at this
    rw [hd]
    simp only [liesAt, hd, this, Bool.true_or]
  · split at h1
    · rename_i a ha
      simp only [Bool.and_eq_true] at h1
      have e1 := Nat.eq_of_beq_eq_true h1.1
      have e2 := Nat.eq_of_beq_eq_true h1.2
      obtain ⟨fs, f1, f2, f3, y, f4, f5⟩ := oneF_und hE ha
      have hst := ((hS t y f4).1 fs f5).1
      refine ⟨h0, f3, ?_⟩
      rw [f3]
      have hfs : fs = #[a] := by obtain ⟨l⟩ := fs; simp at f2; rw [f2]
      have hb := base d
      have : rowAt P (sameLayout P P.depth · u) (d + 2) t 1 0 1 = true := by
        rw [show d + 2 = (d + 1) + 1 from rfl, rowAt]
        simp only [f3, f1]
        simp [hst, hfs, e1, e2, hcu, hb]
      rw [hd]
      rw [hd] at this
      simp only [liesAt, hd, this, Bool.true_or]
    · cases h1

theorem tb_shape (hp : Heap D β objs w) {i : Nat} {bi : Bi} {t : TypeId} {cs : List AV} (hb : β[i]? = some bi) (ho : objs[i]? = some (.tb t cs)) : w.shape? bi.blk = some (t, cs.length) := by
  obtain ⟨vs, T, ⟨g1, rfl⟩, g2, _⟩ := hp.hold i bi _ hb ho
  simp [World.shape?, g1, g2]

theorem uns_ok (hE : TyOK P E) (hS : PlainOK P E) (hp : Heap D β objs w) (s d : TypeId) {x : AV} {v : Value} (hx : RepA D β x v) : ValOK P D β objs w (convert s d v) (unsR E s d x objs) := by
  unfold unsR
  split
  · rename_i i off
    cases hx with
    | @bp _ _ bi hb =>
      split
      · rename_i t cs ho
        have hsh := tb_shape hp hb ho
        split
        · rename_i ys yd hys hyd
          have us := (hE s _ hys).und
          have ud := (hE d _ hyd).und
          split
          · rename_i e e1 e2
            rw [e1] at us
            rw [e2] at ud
            split
            · rename_i y hy
              obtain ⟨ie, hie, hsz⟩ := (hE e y hy).info?
              split
              · rename_i hc
                simp only [Bool.and_eq_true, Nat.blt_eq] at hc
                exact .pure hp (fun _ => ⟨_, Go.Lib.run_to_unsafe w ⟨bi.blk, off, none⟩ us ud hie (by omega) hsh hc.2, .bp hb⟩)
              · exact .none
            · exact .none
          · rename_i u e1 e2
            rw [e1] at us
            rw [e2] at ud
            split
            · rename_i hc
              simp only [Bool.and_eq_true] at hc
              have hl := Nat.eq_of_beq_eq_true hc.2
              obtain ⟨h0, h1, h2⟩ := lies_ok hE hS hc.1
              subst h0
              have hu : ∃ j, P.info? u = some j := by
                have := hc.1
                unfold liesE at this
                simp only [Bool.and_eq_true] at this
                obtain ⟨_, _, _, y, hy⟩ := bldT_und hE this.1.1
                obtain ⟨j, hj, _⟩ := (hE u y hy).info?
                exact ⟨j, hj⟩
              obtain ⟨j, hj⟩ := hu
              rw [hl] at hsh
              exact .pure hp (fun _ => ⟨_, Go.Lib.run_from_unsafe w ⟨bi.blk, 0, none⟩ us ud hj hsh h2, .bp hb⟩)
            · exact .none
          · exact .none
        · exact .none
      · exact .none
  · exact .none

theorem sliceData_ok (hp : Heap D β objs w) (ts : Array TypeId) (ty : TypeId) {x : AV} {v : Value} (hx : RepA D β x v) : ValOK P D β objs w (Builtin.unsafeSliceData_ ts ty #[v]) (sliceDataR x objs) := by
  unfold sliceDataR
  split
  · cases hx with
    | d hx => cases hx; exact .pure hp (fun _ => ⟨_, Go.Lib.run_unsafeSliceData_nil (w := w) ts ty 0 0, .d .nilptr⟩)
  · rename_i i sz lo len
    split
    · rename_i hc
      simp only [Bool.and_eq_true, Nat.blt_eq] at hc
      have h0 := Nat.eq_of_beq_eq_true hc.1
      subst h0
      cases hx with
      | @vs _ _ _ _ cap c bi a ad hb hh hle hm hn hx0 =>
        obtain ⟨had, hcap⟩ := hx0 (.inl rfl)
        cases a with
        | none => have := hn.2.1 (by simpa using had); omega
        | some a0 =>
          subst had
          refine .pure hp (fun _ => ⟨_, Go.Lib.run_unsafeSliceData_row (w := w) ts ty _ len c (by omega), ?_⟩)
          rw [Nat.zero_mul]
          exact .bp hb
    · exact .none
  · exact .none

theorem byteA_rep {x : AV} {n : Nat} {v : Value} (h : byteA x = some n) (hr : RepA D β x v) : n < 256 ∧ v = .int .u8 n := by
  unfold byteA at h
  split at h
  · split at h
    · rename_i m hc
      simp only [Option.some.injEq] at h
      subst h
      simp only [Bool.and_eq_true, decide_eq_true_eq] at hc
      cases hr with
      | d hr => cases hr; exact ⟨by omega, by rw [Int.toNat_of_nonneg hc.1]⟩
    · cases h
  · cases h
theorem bytesA_rep : ∀ {cs : List AV} {l : List Nat}, bytesA cs = some l → l.length = cs.length ∧ ∀ (j : Nat) n, l[j]? = some n → n < 256 ∧ ∃ c, cs[j]? = some c ∧ byteA c = some n
  | [], l, h => by simp only [bytesA, Option.some.injEq] at h; subst h; exact ⟨rfl, by simp⟩
  | x :: r, l, h => by
    simp only [bytesA] at h
    split at h
    · rename_i n l' h1 h2
      simp only [Option.some.injEq] at h
      subst h
      obtain ⟨e1, e2⟩ := bytesA_rep h2
      refine ⟨by simp [e1], fun j m hj => ?_⟩
      cases j with
      | zero =>
        simp at hj; subst hj
        refine ⟨?_, x, rfl, h1⟩
        unfold byteA at h1
        split at h1
        · split at h1
          · rename_i hc
            simp only [Option.some.injEq] at h1
            simp only [Bool.and_eq_true, decide_eq_true_eq] at hc
            omega
          · cases h1
        · cases h1
      | succ j => exact e2 j m (by simpa using hj)
    · cases h

theorem freeze_putB {b : Nat} {arr : Array Value} {T : TypeId} (h : w.heap[b]? = some (.cells arr T (0, 0))) {n : Nat} (hn : n ≠ 0) : w.freeze ⟨b, 0, none⟩ n = putB w b (.cells arr T (0, n)) := by
  have hlt := lt_of_getElem? h
  unfold World.freeze putB
  rw [if_neg hn]
  congr 1
  apply Array.ext_getElem?
  intro j
  rw [Array.getElem?_modify, Array.getElem?_setIfInBounds]
  by_cases hj : b = j
  · subst hj
    have hw : w.heap[b] = .cells arr T (0, 0) := by simpa [hlt] using h
    simp [hlt, hw]
  · simp [hj]

theorem unsafeStr_ok (hE : TyOK P E) (hp : Heap D β objs w) (pt it ty : TypeId) {x n : AV} {v u : Value} (hx : RepA D β x v) (hn : RepA D β n u) :
    ValOK P D β objs w (Builtin.unsafeString_ #[pt, it] ty #[v, u]) (unsafeStrR E pt x n objs) := by
  unfold unsafeStrR
  split
  · rename_i k
    split
    · rename_i hk
      have hk := of_decide_eq_true hk
      subst hk
      cases hx with
      | d hx =>
        cases hx
        cases hn with
        | d hn => cases hn; exact .pure hp (fun _ => ⟨.string .empty, Go.Lib.run_unsafeString_none (w := w) pt it ty none, .d (.str rfl)⟩)
    · exact .none
  · rename_i i off k
    split
    · rename_i e _ _ _ t ag sz m cs ht ho
      have hpt := (hE pt _ ht).und
      simp only at hpt
      split
      · rename_i hc
        simp only [Bool.and_eq_true] at hc
        obtain ⟨⟨⟨⟨⟨c1, c2⟩, c3⟩, c4⟩, c5⟩, c6⟩ := hc
        have c1 := Nat.eq_of_beq_eq_true c1
        have c2 := Nat.eq_of_beq_eq_true c2
        have c3 := Nat.eq_of_beq_eq_true c3
        have c5 := of_decide_eq_true c5
        have c6 := Nat.le_of_ble_eq_true c6
        subst c1 c2 c3
        have hcell : P.cellsOf t = 1 := by
          unfold isByteT at c4
          split at c4
          · rename_i hy; exact (hE t _ hy).cellsOf
          · cases c4
        cases hx with
        | @bp _ _ bi hb =>
          cases hn with
          | d hn =>
            cases hn
            intro av o c he hcc
            simp only [Option.map_eq_some_iff] at he
            obtain ⟨l, hl, he⟩ := he
            simp only [Prod.mk.injEq] at he
            obtain ⟨rfl, rfl, _⟩ := he
            obtain ⟨b1, b2⟩ := bytesA_rep hl
            obtain ⟨a, cap, k1, k2, k3, k4, k5, k6⟩ := hp.hold i bi _ hb ho
            have hlen : l.length = k.toNat := by rw [b1]; simp; omega
            cases a with
            | none => have := k5 rfl; omega
            | some ad =>
              obtain ⟨rfl, vs, T, ⟨g1, rfl⟩, g2, g3, g4, g5⟩ := k6 ad rfl
              have hk : k = (((l.map (fun n => UInt8.ofNat n)).length : Nat) : Int) := by simp [hlen]; omega
              have hul : ∀ (j : Nat) n, l[j]? = some n → vs[j]? = some (.int .u8 n) ∧ n < 256 := fun j n hj => by
                obtain ⟨q1, c, q2, q3⟩ := b2 j n hj
                obtain ⟨q2, _⟩ := getElem?_take_of q2
                have hjl : j < vs.size := by have := (List.getElem?_eq_some_iff.1 q2).1; omega
                refine ⟨?_, q1⟩
                obtain ⟨_, hv⟩ := byteA_rep q3 (g3 j c vs[j] q2 (by simp [hjl]))
                simp [hjl, hv]
              have hrun := Go.Lib.run_unsafeString_row (P := P) w pt it ty T hpt hcell bi.blk vs.size (by simp [World.shape?, g1]) (l.map (fun n => UInt8.ofNat n)) (by intro e; have := congrArg List.length e; simp at this; rw [this] at hlen; simp at hlen; omega) (by simp; omega) (by simp; unfold maxLen at k3; omega) (fun j x hj => by
                simp only [List.getElem?_map, Option.map_eq_some_iff] at hj
                obtain ⟨n, hj, rfl⟩ := hj
                obtain ⟨q1, q2⟩ := hul j n hj
                rw [addr_add rfl, cell_of_blk g1, Nat.zero_add, q1]
                simp [Nat.mod_eq_of_lt q2])
              rw [← hk] at hrun
              refine ⟨_, _, D, β, hrun, ?_, .d (.str ?_)⟩
              · rw [freeze_putB g1 (by rw [List.length_map]; omega)]
                exact Step.put hp hb ho (by simp [ownOf, k1]) (fun b' hb' => by cases hb') g5 trivial
              · simp only [List.map_map]
                refine List.ext_getElem? fun j => ?_
                rw [List.getElem?_map]
                cases hj : l[j]? with
                | none => rfl
                | some n => simp [Nat.mod_eq_of_lt (hul j n hj).2]
      · exact .none
    · exact .none
  · exact .none

theorem digits_one : ∀ (n k : Nat) (acc : Array Value), (∀ (j : Nat) v, acc[j]? = some v → v.oneCell' = true) → ∀ (j : Nat) v, (Extern.BytealgMakeNoZero.digits n k acc)[j]? = some v → v.oneCell' = true
  | 0, _, _, h => h
  | n + 1, k, acc, h => by
    rw [Extern.BytealgMakeNoZero.digits]
    refine digits_one n _ _ fun j v hv => ?_
    rw [Array.getElem?_push] at hv
    split at hv
    · simp only [Option.some.injEq] at hv; subst hv; rfl
    · exact h j v hv

theorem mnz_run (ps : Array TypeId) {t e : TypeId} (ht : P.underlying t = some (.slice e)) {n : Nat} (hn : n ≤ 281474976710656) :
    ∃ k, (Extern.BytealgMakeNoZero.makeNoZero ps #[t] #[.int .i64 n]).run P w = .ok (.slice (some ⟨w.heap.size, 0, none⟩) n (grownCap w n 0 e)) (w.drew.drew.alloc (.cells (Extern.BytealgMakeNoZero.digits (grownCap w n 0 e) k #[]) e)) := by
  have h1 : ¬ (n : Int) < 0 := by omega
  have h2 : ¬ (281474976710656 : Int) < (n : Int) := by omega
  refine ⟨(Question.extern "internal/bytealg.MakeNoZero.bytes" 0).cut (w.tape (w.drawn + 1) (.extern "internal/bytealg.MakeNoZero.bytes" 0)), ?_⟩
  delta Extern.BytealgMakeNoZero.makeNoZero
  show Sem.run P (_ >>= _) w = _
  simp [Go.run_underlying ht, h1, h2, Question.forced, newRow, grownCap]

theorem makeNoZero_ok (hE : TyOK P E) (hp : Heap D β objs w) (ps : Array TypeId) (t : TypeId) {x : AV} {v : Value} (hx : RepA D β x v) :
    ValOK P D β objs w (Extern.BytealgMakeNoZero.makeNoZero ps #[t] #[v]) (makeNoZeroR E t x objs) := by
  unfold makeNoZeroR
  split
  · rename_i e _ _ _ n ht
    have hu := (hE t _ ht).und
    simp only at hu
    split
    · rename_i hb
      cases hx with
      | d hx =>
        cases hx
        intro av o c he hc
        simp only [Option.some.injEq, Prod.mk.injEq] at he
        obtain ⟨rfl, rfl, rfl⟩ := he
        simp only [Bool.and_eq_true, decide_eq_true_eq] at hc
        have hc2 := Nat.le_of_ble_eq_true hc.2
        obtain ⟨k, r1⟩ := mnz_run (P := P) (w := w) ps hu (n := n.toNat) (by omega)
        have hn : ((n.toNat : Nat) : Int) = n := Int.toNat_of_nonneg hc.1
        rw [hn] at r1
        have r1 := r1
        have q1 := grownCap_ge w n.toNat 0 e
        have q2 := grownCap_le_maxLen w n.toNat 0 e (by unfold maxLen; omega)
        generalize hcap : grownCap w n.toNat 0 e = cap at r1 q1 q2
        have hDn : ∀ ad : Addr, ad.block = w.heap.size → D ad = none := fun ad ha => by
          cases hd : D ad with
          | none => rfl
          | some v => have := hp.D_lt hd; omega
        have hsz : (Extern.BytealgMakeNoZero.digits cap k #[]).size = cap := by rw [Go.Lib.size_digits]; simp
        refine ⟨_, _, D, β ++ [⟨w.heap.size, fun m => if m = 0 then some (some ⟨w.heap.size, 0, none⟩, cap) else none⟩], r1, Step.push hp (fun k hk => alloc_keep w.drew.drew _ k hk) (by simp) rfl rfl rfl (fun _ _ h => h)
          (fun ad v h1 h2 => by rw [h2] at h1; cases h1) (fun b hb => by simp [ownOf] at hb; omega) ?_, ?_⟩
        · refine ⟨_, cap, by simp; rfl, q1, q2, by simp, by simp, fun ad e => ?_⟩
          cases e
          refine ⟨rfl, _, _, ⟨alloc_new w.drew.drew _, rfl⟩, by rw [hsz]; omega, fun j c v hc hv => ?_, digits_one cap k #[] (by simp), hDn⟩
          rw [List.getElem?_replicate] at hc
          split at hc
          · simp only [Option.some.injEq] at hc; subst hc; exact .d .any
          · cases hc
        · have := RepA.vs (D := D) (β := β ++ [⟨w.heap.size, fun m => if m = 0 then some (some ⟨w.heap.size, 0, none⟩, cap) else none⟩]) (i := objs.length) (sz := 1) (lo := 0) (len := n.toNat) (cap := cap) (c := cap) (bi := ⟨w.heap.size, fun m => if m = 0 then some (some ⟨w.heap.size, 0, none⟩, cap) else none⟩)
            (a := some ⟨w.heap.size, 0, none⟩) (ad := some ⟨w.heap.size, 0, none⟩) (by rw [← hp.len]; simp) (by simp) q1 q2 (by simp) (by simp)
          exact this
    · exact .none
  · exact .none
end
end Go.Av

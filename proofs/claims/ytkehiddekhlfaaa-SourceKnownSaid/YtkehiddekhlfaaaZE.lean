/-
  The abstract layer, part ZE: from a call without arguments that is known to answer true, to the row's postcondition.
-/
import Derived.Test.YtkehiddekhlfaaaZD
import Derived.ProofKit
noncomputable section
namespace Go.Av
open Go

theorem kept_of_step {D D' : DMap} {β' : List Bi} {objs' : List Ob} {w w' : World} (h : Step D [] [] w D' β' objs' w') (may : MemPlace → Prop) : w.keptBut w' may := by
  refine ⟨h.os, h.output, fun i hi => ?_⟩
  have e := h.keep i hi not_own_nil
  rw [e]
  cases w.heap[i]? with
  | none => rfl
  | some o => cases o <;> first | rfl | exact ⟨rfl, rfl, rfl, fun _ _ => rfl⟩ | exact Or.inr ⟨rfl, rfl⟩

theorem heap_bare (w : World) : Heap (fun _ => none) [] [] w :=
  ⟨fun ad v h => (by cases h), rfl, fun i bi ob hb => by simp at hb, fun i j bi bj oi oj b hb => by simp at hb⟩

/-- A known call without arguments: true; what was in memory stays. -/
theorem calls_true {P : Program} {f : FuncId} (h : KnownCall P f [] (.d (.bool true))) (w : World) :
    Calls P f #[] w fun e w' => e = .returned (.bool true) ∧ ∀ may, w.keptBut w' may := by
  have h1 := (h []).2 (fun _ => none) [] w #[] (heap_bare w) ⟨rfl, fun j c v hc => by simp at hc⟩
  refine (CallsIn.calls h1 ?_).mono fun e w' he => ?_
  · exact fun _ d hd => (by cases hd)
  · obtain ⟨v, D', β', rfl, hs, hv⟩ := he.ret rfl
    cases hv with
    | d hv => cases hv; exact ⟨rfl, fun may => kept_of_step hs may⟩

end Go.Av

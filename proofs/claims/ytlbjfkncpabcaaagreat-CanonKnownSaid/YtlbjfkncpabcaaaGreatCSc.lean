/-
  The law CanonKnown has no argument. That the function is no instance and no wrapper is shown. No condition.
-/
import Derived.Test.YtlbjfkncpabcaaaGreatRows
import Derived.ProofKit
import Derived.OpenShut
namespace Go.Proofs.YtlbjfkncpabcaaaGreat.canonKnown
open Go.ChangeShapes Go.WideShapes Go.ChangeAt Go.RowKit

theorem fact3 : Tryz.f5.isInstance Tryz.pinned.checked.prog Rows.canonKnownRow.origin Rows.canonKnownRow.targs := of_decide_eq_true (by kernel_rfl)
theorem fact4 : Tryz.f5.isWrapper Tryz.pinned.checked.prog Rows.canonKnownRow.wrapper Rows.canonKnownRow.mainSum := by unfold Func.isWrapper; first | (rw [if_pos (by decide +kernel)]; kernel_rfl) | (rw [if_neg (by decide +kernel)]; exact ⟨rfl, rfl⟩)
end Go.Proofs.YtlbjfkncpabcaaaGreat.canonKnown

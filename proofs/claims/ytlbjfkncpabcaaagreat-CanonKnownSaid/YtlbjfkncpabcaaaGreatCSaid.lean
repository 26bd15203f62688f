/-
  The law CanonKnown has no argument. The statement, out of what was shown. No condition.
-/
import Derived.Test.YtlbjfkncpabcaaaGreatCSa
import Derived.Test.YtlbjfkncpabcaaaGreatCSb
import Derived.Test.YtlbjfkncpabcaaaGreatCSc
import Derived.OpenShut
namespace Go.Proofs.YtlbjfkncpabcaaaGreat.canonKnown
open Go.ChangeShapes Go.WideShapes Go.ChangeAt Go.RowKit

/-- The statement. -/
theorem proved : Rows.CanonKnownSaid :=
  OpenClaim.holds_of_wide 5 Tryz.f5 rfl rfl rfl rfl rfl rfl rfl ⟨rfl, rfl, rfl, rfl, rfl⟩ rfl rfl rfl rfl rfl fact1 Tryz.func5 fact2 fact3 fact4
    (fun os started H enc _ => lifted os started H enc)
#print axioms proved
end Go.Proofs.YtlbjfkncpabcaaaGreat.canonKnown

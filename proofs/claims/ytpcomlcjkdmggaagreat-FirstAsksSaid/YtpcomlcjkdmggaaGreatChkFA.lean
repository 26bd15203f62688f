/-
  The law FirstAsks holds for all arguments. It is shown that the call returns true from any start and leaves what was in memory as it was. No condition.
-/
import Derived.Test.YtpcomlcjkdmggaaGreatMFA6
import Derived.Test.YtpcomlcjkdmggaaGreatRows
import Derived.Test.YtpcomlcjkdmggaaGreatChecked
import Derived.OpenShut
set_option linter.all false
namespace Go.Proofs.YtpcomlcjkdmggaaGreat.firstAsks
open Go.ChangeShapes Go.WideShapes Go.ChangeAt Go.RowKit

theorem own : ownKnob Tryz.prog.godebug = none := by kernel_rfl
theorem laidOut : laidOutB Tryz.prog = true := by kernel_rfl

set_option maxRecDepth 100000 in
theorem lifted (os : Os) (started : os.Started) (H : Type) (enc : TypeId × Value → H) :
    ReturnsInHanded {} Tryz.checked os 4 .any (Rows.firstAsksSpec.pre6 enc Tryz.prog Tryz.f4 Rows.firstAsksRow.domain false) (Rows.firstAsksSpec.post enc Tryz.prog Tryz.f4 false true false false) := by
  refine returnsInHanded_of_change (C := Tryz.checked) own started (by kernel_rfl) Tryz.func4
    (ChangeSpec.witness6 (enc := enc) (C := Tryz.checked) false ⟨#[], #[.agg #[.int .i64 0, .slice none 0 0, .string ⟨#[]⟩, .slice none 0 0, .int .i64 0, .slice none 0 0], .slice none 0 0, .agg #[.int .i64 0, .int .i64 0, .int .i64 0, .int .i64 0, .int .i64 0]], []⟩ 8 (by kernel_rfl) (by kernel_rfl) (by kernel_rfl) (by kernel_rfl)) ?_
  intro W base args ds gs before hval0 hW hcnd _
  have hW' := hW
  obtain ⟨p, q, hA0, hV, rfl, hfz, hnd⟩ := hW
  have hA : DataW.TrodAll enc Tryz.prog W 0 (fun _ => true) true Tryz.f4.params.toList args.toList ds p := hA0
  have hK := hA
  rw [Tryz.params4] at hA hval0
  obtain ⟨rfl, rfl⟩ := trodVars_none hV
  obtain ⟨v0, vs0, d0, ds0, p0, q0, hargs, rfl, rfl, h0, g0⟩ := trodAll_cons hA
  obtain ⟨v1, vs1, d1, ds1, p1, q1, rfl, rfl, rfl, h1, g1⟩ := trodAll_cons g0
  obtain ⟨v2, vs2, d2, ds2, p2, q2, rfl, rfl, rfl, h2, g2⟩ := trodAll_cons g1
  obtain ⟨rfl, rfl, rfl⟩ := trodAll_nil g2
  obtain rfl : args = #[v0, v1, v2] := by cases args; simp_all
  obtain ⟨a0, r0, w0⟩ := Go.Av.arg_gram (fun _ => rfl) (hval0 0 25 v0 rfl rfl) h0
  obtain ⟨a1, r1, w1⟩ := Go.Av.arg_ints (fun _ => rfl) (hval0 1 26 v1 rfl rfl) h1
  obtain ⟨a2, r2, w2⟩ := Go.Av.arg_look (fun _ => rfl) (hval0 2 44 v2 rfl rfl) h2
  have hlt := hW'.lt
  refine (Go.Av.calls_with (Go.Av.lawFAA a0 w0 a1 w1 a2 w2) W #[v0, v1, v2] rfl (fun j c v hc hv => match j, hc, hv with
    | 0, hc, hv => by simp at hc hv; subst hc hv; exact r0
    | 1, hc, hv => by simp at hc hv; subst hc hv; exact r1
    | 2, hc, hv => by simp at hc hv; subst hc hv; exact r2
    | j + 3, hc, hv => by simp at hc)).mono fun e W' ⟨he, hk, hb⟩ => ?_
  subst he
  exact ⟨_, rfl, [d0, d1, d2], [], _, [], _, [], hW', trodAll_cons_mk (shut_bool Tryz.underlying4 _) trodAll_mk0, Go.Av.trodAll_below laidOut hb (by kernel_rfl) hK (fun y hy => hlt y (List.mem_append_left _ hy)), rfl, hk _, fun h => nomatch h⟩

/-- The statement. -/
theorem proved : Rows.FirstAsksSaid :=
  OpenClaim.holds_of_wide 4 Tryz.f4 rfl rfl rfl rfl rfl rfl rfl ⟨rfl, rfl, rfl, rfl, rfl⟩ rfl rfl rfl rfl rfl (by kernel_rfl) Tryz.func4 (by kernel_rfl)
    (of_decide_eq_true (by kernel_rfl)) (by unfold Func.isWrapper; first | (rw [if_pos (by decide +kernel)]; kernel_rfl) | (rw [if_neg (by decide +kernel)]; exact ⟨rfl, rfl⟩))
    (fun os started H enc _ => lifted os started H enc)
#print axioms proved
end Go.Proofs.YtpcomlcjkdmggaaGreat.firstAsks

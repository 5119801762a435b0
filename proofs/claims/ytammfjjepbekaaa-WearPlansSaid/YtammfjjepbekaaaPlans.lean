/- WearPlans: whatever is handed in, the law comes to true, and the arguments read as before. No condition. -/
import Derived.Test.YtammfjjepbekaaaP
import Derived.Test.YtammfjjepbekaaaRows
set_option linter.unusedSimpArgs false
set_option linter.unusedVariables false
namespace Go.Proofs.Ytammfjjepbekaaa
open Go.ChangeShapes Go.WideShapes Go.ChangeAt Go.RowKit Go.Proofs.Ab

theorem WearPlans_all (W : World) (vs : List Value) (g : GArgs Try.checked.prog W Try.f6.params.toList vs) : ACall Try.checked.prog W 6 (vs.map injV) [] fun v _ => v = .bool true := by
  have hp : Try.f6.params.toList = [45] := by kernel_rfl
  rw [hp] at g
  obtain ⟨v0, _, rfl, g0, g⟩ := g.cons
  obtain rfl := g.nil
  obtain ⟨c0, e0, h0⟩ := g0.agg (by kernel_rfl) (r := bayRw) (by kernel_rfl)
  obtain ⟨a0, b0, x0, s0⟩ := bay_of (h := []) h0
  simp only [List.map_cons, List.map_nil, e0, x0]
  exact (WearPlans_c a0 b0 s0).mono fun _ _ h => h.1

set_option maxRecDepth 100000 in
theorem WearPlans_lifted (os : Os) (started : os.Started) (H : Type) (enc : TypeId × Value → H) :
    ReturnsInHanded {} Try.checked os 6 .any (Rows.wearPlansSpec.pre6 enc Try.prog Try.f6 Rows.wearPlansRow.domain false) (Rows.wearPlansSpec.post enc Try.prog Try.f6 false true false false) :=
  law_lift (C := Try.checked) (tb := 4) (by kernel_rfl) started (by kernel_rfl) Try.func6
    (ChangeSpec.witness6 (enc := enc) (C := Try.checked) false ⟨#[], #[.agg #[.slice none 0 0, .slice none 0 0, .slice none 0 0, .slice none 0 0, .int .i64 0, .slice none 0 0]], []⟩ 8 (by kernel_rfl) (by kernel_rfl) (by kernel_rfl) (by kernel_rfl))
    rfl (fun _ ds h => by match ds, h with | [_], _ => rfl) (by kernel_rfl) (by kernel_rfl) (by kernel_rfl) (by kernel_rfl) WearPlans_all

theorem WearPlans_holds : Rows.WearPlansSaid :=
  OpenClaim.holds_of_wide 6 Try.f6 rfl rfl rfl rfl rfl rfl rfl ⟨rfl, rfl, rfl, rfl, rfl⟩ rfl rfl rfl rfl rfl (by kernel_rfl) Try.func6 (by kernel_rfl)
    (of_decide_eq_true (by kernel_rfl)) (by unfold Func.isWrapper; first | (rw [if_pos (by decide +kernel)]; kernel_rfl) | (rw [if_neg (by decide +kernel)]; exact ⟨rfl, rfl⟩))
    (fun os started H enc _ => WearPlans_lifted os started H enc)
#print axioms WearPlans_holds
end Go.Proofs.Ytammfjjepbekaaa

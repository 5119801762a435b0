/- HopDeparts: whatever is handed in, the law comes to true, and the arguments read as before. No condition. -/
import Derived.Test.YtiaaonmbgkealaaM
import Derived.Test.YtiaaonmbgkealaaRows
set_option linter.unusedSimpArgs false
set_option linter.unusedVariables false
namespace Go.Proofs.Ytiaaonmbgkealaa
open Go.ChangeShapes Go.WideShapes Go.ChangeAt Go.RowKit Go.Proofs.Ab

theorem HopDeparts_all (W : World) (vs : List Value) (g : GArgs Try.checked.prog W Try.f3.params.toList vs) : ACall Try.checked.prog W 3 (vs.map injV) [] fun v _ => v = .bool true := by
  have hp : Try.f3.params.toList = [25] := by kernel_rfl
  rw [hp] at g
  obtain ⟨v0, _, rfl, g0, g⟩ := g.cons
  obtain rfl := g.nil
  obtain ⟨c0, e0, h0⟩ := g0.agg (by kernel_rfl) (r := chainRw) (by kernel_rfl)
  obtain ⟨a0, b0, x0, s0⟩ := chain_of (h := []) h0
  simp only [List.map_cons, List.map_nil, e0, x0]
  exact (HopDeparts_c a0 b0 s0.1 s0.2).mono fun _ _ h => h.1

set_option maxRecDepth 100000 in
theorem HopDeparts_lifted (os : Os) (started : os.Started) (H : Type) (enc : TypeId × Value → H) :
    ReturnsInHanded {} Try.checked os 3 .any (Rows.hopDepartsSpec.pre6 enc Try.prog Try.f3 Rows.hopDepartsRow.domain false) (Rows.hopDepartsSpec.post enc Try.prog Try.f3 false true false false) :=
  law_lift (C := Try.checked) (tb := 4) (by kernel_rfl) started (by kernel_rfl) Try.func3
    (ChangeSpec.witness6 (enc := enc) (C := Try.checked) false ⟨#[], #[.agg #[.slice none 0 0, .slice none 0 0]], []⟩ 8 (by kernel_rfl) (by kernel_rfl) (by kernel_rfl) (by kernel_rfl))
    rfl (fun _ ds h => by match ds, h with | [_], _ => rfl) (by kernel_rfl) (by kernel_rfl) (by kernel_rfl) (by kernel_rfl) HopDeparts_all

theorem HopDeparts_holds : Rows.HopDepartsSaid :=
  OpenClaim.holds_of_wide 3 Try.f3 rfl rfl rfl rfl rfl rfl rfl ⟨rfl, rfl, rfl, rfl, rfl⟩ rfl rfl rfl rfl rfl (by kernel_rfl) Try.func3 (by kernel_rfl)
    (of_decide_eq_true (by kernel_rfl)) (by unfold Func.isWrapper; first | (rw [if_pos (by decide +kernel)]; kernel_rfl) | (rw [if_neg (by decide +kernel)]; exact ⟨rfl, rfl⟩))
    (fun os started H enc _ => HopDeparts_lifted os started H enc)
#print axioms HopDeparts_holds
end Go.Proofs.Ytiaaonmbgkealaa

/- WearTotals: whatever is handed in, the law comes to true, and the arguments read as before. No condition. -/
import Derived.Test.YtijiinmeodpanaaM
import Derived.Test.YtijiinmeodpanaaRows
set_option linter.unusedSimpArgs false
set_option linter.unusedVariables false
namespace Go.Proofs.Ytijiinmeodpanaa
open Go.ChangeShapes Go.WideShapes Go.ChangeAt Go.RowKit Go.Proofs.Ab
theorem WearTotals_all (W : World) (vs : List Value) (g : GArgs Try.checked.prog W Try.f3.params.toList vs) : ACall Try.checked.prog W 3 (vs.map injV) [] fun v _ => v = .bool true := by
 have hp : Try.f3.params.toList = [22, 23] := by kernel_rfl
 rw [hp] at g
 obtain ⟨v0, _, rfl, g0, g⟩ := g.cons
 obtain ⟨v1, _, rfl, g1, g⟩ := g.cons
 obtain rfl := g.nil
 obtain ⟨e0, h0⟩ := g0.one (by kernel_rfl) (r := .sl aDy .nil) (by kernel_rfl)
 obtain ⟨e1, h1⟩ := g1.one (by kernel_rfl) (r := .sl aDA .nil) (by kernel_rfl)
 obtain ⟨a0, s0, l0⟩ := aDx (h := []) h0
 obtain ⟨a1, s1, l1⟩ := aDz (h := []) h1
 simp only [List.map_cons, List.map_nil, e0, e1]
 exact (vP s0 s1 l0).mono fun _ _ h => h.1
set_option maxRecDepth 100000 in
theorem WearTotals_lifted (os : Os) (started : os.Started) (H : Type) (enc : TypeId × Value → H) :
 ReturnsInHanded {} Try.checked os 3 .any (Rows.wearTotalsSpec.pre6 enc Try.prog Try.f3 Rows.wearTotalsRow.domain false) (Rows.wearTotalsSpec.post enc Try.prog Try.f3 false true false false) :=
 aEu (C := Try.checked) (tb := 4) (by kernel_rfl) started (by kernel_rfl) Try.func3
  (ChangeSpec.witness6 (enc := enc) (C := Try.checked) false ⟨#[], #[.slice none 0 0, .slice none 0 0], []⟩ 8 (by kernel_rfl) (by kernel_rfl) (by kernel_rfl) (by kernel_rfl))
  rfl (fun _ ds h => by match ds, h with | [_, _], _ => rfl) (by kernel_rfl) (by kernel_rfl) (by kernel_rfl) (by kernel_rfl) WearTotals_all
theorem WearTotals_holds : Rows.WearTotalsSaid :=
 OpenClaim.holds_of_wide 3 Try.f3 rfl rfl rfl rfl rfl rfl rfl ⟨rfl, rfl, rfl, rfl, rfl⟩ rfl rfl rfl rfl rfl (by kernel_rfl) Try.func3 (by kernel_rfl)
  (of_decide_eq_true (by kernel_rfl)) (by unfold Func.isWrapper; first | (rw [if_pos (by decide +kernel)]; kernel_rfl) | (rw [if_neg (by decide +kernel)]; exact ⟨rfl, rfl⟩))
  (fun os started H enc _ => WearTotals_lifted os started H enc)
#print axioms WearTotals_holds
end Go.Proofs.Ytijiinmeodpanaa

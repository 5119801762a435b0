/- WearGrows: whatever kind, wear and day are handed in, the law comes to true, and they read as before. -/
import Derived.Test.YtammfjjepbekaaaX
import Derived.Test.YtammfjjepbekaaaRows
set_option linter.unusedSimpArgs false
set_option linter.unusedVariables false
namespace Go.Proofs.Ytammfjjepbekaaa
open Go.ChangeShapes Go.WideShapes Go.ChangeAt Go.RowKit Go.Proofs.Ab

theorem WearGrows_all (W : World) (vs : List Value) (g : GArgs Try.checked.prog W Try.f3.params.toList vs) : ACall Try.checked.prog W 3 (vs.map injV) [] fun v _ => v = .bool true := by
  have hp : Try.f3.params.toList = [25, 27, 29] := by kernel_rfl
  rw [hp] at g
  obtain ⟨v0, _, rfl, g0, g⟩ := g.cons
  obtain ⟨v1, _, rfl, g1, g⟩ := g.cons
  obtain ⟨v2, _, rfl, g2, g⟩ := g.cons
  obtain rfl := g.nil
  obtain ⟨c0, e0, h0⟩ := g0.agg (by kernel_rfl) (r := kindRw) (by kernel_rfl)
  obtain ⟨c1, e1, h1⟩ := g1.agg (by kernel_rfl) (r := wearRw) (by kernel_rfl)
  obtain ⟨c2, e2, h2⟩ := g2.agg (by kernel_rfl) (r := useRw) (by kernel_rfl)
  obtain ⟨k, ek⟩ := kind_of h0
  obtain ⟨w, ew⟩ := wear_of h1
  obtain ⟨u, eu⟩ := use_of h2
  simp only [List.map_cons, List.map_nil, e0, e1, e2, ek, ew, eu]
  exact (WearGrows_c k w u).mono fun _ _ h => h.1

set_option maxRecDepth 100000 in
theorem WearGrows_lifted (os : Os) (started : os.Started) (H : Type) (enc : TypeId × Value → H) :
    ReturnsInHanded {} Try.checked os 3 .any (Rows.wearGrowsSpec.pre6 enc Try.prog Try.f3 Rows.wearGrowsRow.domain false) (Rows.wearGrowsSpec.post enc Try.prog Try.f3 false true false false) :=
  law_lift (C := Try.checked) (tb := 4) (by kernel_rfl) started (by kernel_rfl) Try.func3
    (ChangeSpec.witness6 (enc := enc) (C := Try.checked) false ⟨#[], #[.agg #[.int .i64 0, .int .i64 0, .int .i64 0, .int .i64 0, .int .i64 0, .int .i64 0, .int .i64 0, .int .i64 0],
      .agg #[.int .i64 0, .int .i64 0, .int .i64 0, .int .i64 0, .int .i64 0, .int .i64 0], .agg #[.int .i64 0, .int .i64 0, .int .i64 0, .int .i64 0, .int .i64 0, .int .i64 0, .bool false]], []⟩ 8 (by kernel_rfl) (by kernel_rfl) (by kernel_rfl) (by kernel_rfl))
    rfl (fun _ ds h => by match ds, h with | [_, _, _], _ => rfl) (by kernel_rfl) (by kernel_rfl) (by kernel_rfl) (by kernel_rfl) WearGrows_all

theorem WearGrows_holds : Rows.WearGrowsSaid :=
  OpenClaim.holds_of_wide 3 Try.f3 rfl rfl rfl rfl rfl rfl rfl ⟨rfl, rfl, rfl, rfl, rfl⟩ rfl rfl rfl rfl rfl (by kernel_rfl) Try.func3 (by kernel_rfl)
    (of_decide_eq_true (by kernel_rfl)) (by unfold Func.isWrapper; first | (rw [if_pos (by decide +kernel)]; kernel_rfl) | (rw [if_neg (by decide +kernel)]; exact ⟨rfl, rfl⟩))
    (fun os started H enc _ => WearGrows_lifted os started H enc)
#print axioms WearGrows_holds
end Go.Proofs.Ytammfjjepbekaaa

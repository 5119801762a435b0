/- DockHolds: whatever is handed in, the law comes to true, and the arguments read as before. No condition. -/
import Derived.Test.YtajecdfdnlfndaaGreatP
import Derived.Test.YtajecdfdnlfndaaGreatK
import Derived.Test.YtajecdfdnlfndaaGreatRows
set_option linter.unusedSimpArgs false
set_option linter.unusedVariables false
namespace Go.Proofs.YtajecdfdnlfndaaGreat
open Go.ChangeShapes Go.WideShapes Go.ChangeAt Go.RowKit Go.Proofs.Ab
theorem DockHolds_all (W : World) (vs : List Value) (g : GArgs Tryz.checked.prog W Tryz.f14.params.toList vs) : ACall Tryz.checked.prog W 14 (vs.map injV) [] fun v _ => v = .bool true := by
 have hp : Tryz.f14.params.toList = [44, 46] := by kernel_rfl
 rw [hp] at g
 obtain ⟨v0, _, rfl, g0, g⟩ := g.cons
 obtain ⟨v1, _, rfl, g1, g⟩ := g.cons
 obtain rfl := g.nil
 obtain ⟨e0, h0⟩ := g0.one (by kernel_rfl) (r := .sl qM .nil) (by kernel_rfl)
 obtain ⟨c1, e1, h1⟩ := g1.agg (by kernel_rfl) (r := vG) (by kernel_rfl)
 obtain ⟨a0, s0, l0⟩ := aBj (h := []) h0
 obtain ⟨a1, x1, i1⟩ := aDq h1
 simp only [List.map_cons, List.map_nil, e0, e1, x1]
 exact (uF a1 s0).mono fun _ _ h => h.1
set_option maxRecDepth 100000 in
theorem DockHolds_lifted (os : Os) (started : os.Started) (H : Type) (enc : TypeId × Value → H) :
 ReturnsInHanded {} Tryz.checked os 14 .any (Rows.dockHoldsSpec.pre6 enc Tryz.prog Tryz.f14 Rows.dockHoldsRow.domain false) (Rows.dockHoldsSpec.post enc Tryz.prog Tryz.f14 false true false false) :=
 aCq (C := Tryz.checked) (tb := 4) (by kernel_rfl) started (by kernel_rfl) Tryz.func14
  (ChangeSpec.witness6 (enc := enc) (C := Tryz.checked) false ⟨#[], #[.slice none 0 0, .agg #[.int .i64 0, .int .i64 0, .int .i64 0, .int .i64 0]], []⟩ 8 (by kernel_rfl) (by kernel_rfl) (by kernel_rfl) (by kernel_rfl))
  rfl (fun _ ds h => by match ds, h with | [_, _], _ => rfl) (by kernel_rfl) (by kernel_rfl) (by kernel_rfl) (by kernel_rfl) DockHolds_all
theorem DockHolds_holds : Rows.DockHoldsSaid :=
 OpenClaim.holds_of_wide 14 Tryz.f14 rfl rfl rfl rfl rfl rfl rfl ⟨rfl, rfl, rfl, rfl, rfl⟩ rfl rfl rfl rfl rfl (by kernel_rfl) Tryz.func14 (by kernel_rfl)
  (of_decide_eq_true (by kernel_rfl)) (by unfold Func.isWrapper; first | (rw [if_pos (by decide +kernel)]; kernel_rfl) | (rw [if_neg (by decide +kernel)]; exact ⟨rfl, rfl⟩))
  (fun os started H enc _ => DockHolds_lifted os started H enc)
#print axioms DockHolds_holds
end Go.Proofs.YtajecdfdnlfndaaGreat

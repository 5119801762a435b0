/- DockFewest: whatever is handed in, the law comes to true, and the arguments read as before. No condition. -/
import Derived.Test.YtajecdfdnlfndaaGreatO
import Derived.Test.YtajecdfdnlfndaaGreatK
import Derived.Test.YtajecdfdnlfndaaGreatRows
set_option linter.unusedSimpArgs false
set_option linter.unusedVariables false
namespace Go.Proofs.YtajecdfdnlfndaaGreat
open Go.ChangeShapes Go.WideShapes Go.ChangeAt Go.RowKit Go.Proofs.Ab
theorem DockFewest_all (W : World) (vs : List Value) (g : GArgs Tryz.checked.prog W Tryz.f15.params.toList vs) : ACall Tryz.checked.prog W 15 (vs.map injV) [] fun v _ => v = .bool true := by
 have hp : Tryz.f15.params.toList = [44, 46, 24, 3] := by kernel_rfl
 rw [hp] at g
 obtain ⟨v0, _, rfl, g0, g⟩ := g.cons
 obtain ⟨v1, _, rfl, g1, g⟩ := g.cons
 obtain ⟨v2, _, rfl, g2, g⟩ := g.cons
 obtain ⟨v3, _, rfl, g3, g⟩ := g.cons
 obtain rfl := g.nil
 obtain ⟨e0, h0⟩ := g0.one (by kernel_rfl) (r := .sl pR .nil) (by kernel_rfl)
 obtain ⟨c1, e1, h1⟩ := g1.agg (by kernel_rfl) (r := uS) (by kernel_rfl)
 obtain ⟨e2, h2⟩ := g2.one (by kernel_rfl) (r := .sl (.int .nil) .nil) (by kernel_rfl)
 obtain ⟨e3, h3⟩ := g3.one (by kernel_rfl) (r := .int .nil) (by kernel_rfl)
 obtain ⟨a0, s0, l0⟩ := aAU (h := []) h0
 obtain ⟨a1, x1, i1⟩ := aCU h1
 obtain ⟨a2, s2, l2⟩ := aE9 (h := []) h2
 obtain ⟨a3, x3, i3⟩ := int_of h3
 simp only [List.map_cons, List.map_nil, e0, e1, e2, e3, x1, x3]
 exact (qY a1 a3 s0 s2).mono fun _ _ h => h.1
set_option maxRecDepth 100000 in
theorem DockFewest_lifted (os : Os) (started : os.Started) (H : Type) (enc : TypeId × Value → H) :
 ReturnsInHanded {} Tryz.checked os 15 .any (Rows.dockFewestSpec.pre6 enc Tryz.prog Tryz.f15 Rows.dockFewestRow.domain false) (Rows.dockFewestSpec.post enc Tryz.prog Tryz.f15 false true false false) :=
 aBZ (C := Tryz.checked) (tb := 4) (by kernel_rfl) started (by kernel_rfl) Tryz.func15
  (ChangeSpec.witness6 (enc := enc) (C := Tryz.checked) false ⟨#[], #[.slice none 0 0, .agg #[.int .i64 0, .int .i64 0, .int .i64 0, .int .i64 0], .slice none 0 0, .int .i64 0], []⟩ 8 (by kernel_rfl) (by kernel_rfl) (by kernel_rfl) (by kernel_rfl))
  rfl (fun _ ds h => by match ds, h with | [_, _, _, _], _ => rfl) (by kernel_rfl) (by kernel_rfl) (by kernel_rfl) (by kernel_rfl) DockFewest_all
theorem DockFewest_holds : Rows.DockFewestSaid :=
 OpenClaim.holds_of_wide 15 Tryz.f15 rfl rfl rfl rfl rfl rfl rfl ⟨rfl, rfl, rfl, rfl, rfl⟩ rfl rfl rfl rfl rfl (by kernel_rfl) Tryz.func15 (by kernel_rfl)
  (of_decide_eq_true (by kernel_rfl)) (by unfold Func.isWrapper; first | (rw [if_pos (by decide +kernel)]; kernel_rfl) | (rw [if_neg (by decide +kernel)]; exact ⟨rfl, rfl⟩))
  (fun os started H enc _ => DockFewest_lifted os started H enc)
#print axioms DockFewest_holds
end Go.Proofs.YtajecdfdnlfndaaGreat

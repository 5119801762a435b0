/- DockNever: whatever is handed in, the law comes to true, and the arguments read as before. No condition. -/
import Derived.Test.YtajecdfdnlfndaaGreatP
import Derived.Test.YtajecdfdnlfndaaGreatK
import Derived.Test.YtajecdfdnlfndaaGreatRows
set_option linter.unusedSimpArgs false
set_option linter.unusedVariables false
namespace Go.Proofs.YtajecdfdnlfndaaGreat
open Go.ChangeShapes Go.WideShapes Go.ChangeAt Go.RowKit Go.Proofs.Ab
theorem DockNever_all (W : World) (vs : List Value) (g : GArgs Tryz.checked.prog W Tryz.f10.params.toList vs) : ACall Tryz.checked.prog W 10 (vs.map injV) [] fun v _ => v = .bool true := by
 have hp : Tryz.f10.params.toList = [3, 58, 24] := by kernel_rfl
 rw [hp] at g
 obtain ⟨v0, _, rfl, g0, g⟩ := g.cons
 obtain ⟨v1, _, rfl, g1, g⟩ := g.cons
 obtain ⟨v2, _, rfl, g2, g⟩ := g.cons
 obtain rfl := g.nil
 obtain ⟨e0, h0⟩ := g0.one (by kernel_rfl) (r := .int .nil) (by kernel_rfl)
 obtain ⟨e1, h1⟩ := g1.one (by kernel_rfl) (r := .sl (.sl aAY .nil) .nil) (by kernel_rfl)
 obtain ⟨e2, h2⟩ := g2.one (by kernel_rfl) (r := .sl (.int .nil) .nil) (by kernel_rfl)
 obtain ⟨a0, x0, i0⟩ := int_of h0
 obtain ⟨a1, s1, l1⟩ := aBn (h := []) h1
 obtain ⟨a2, s2, l2⟩ := aFu (h := []) h2
 simp only [List.map_cons, List.map_nil, e0, e1, e2, x0]
 exact (uJ a0 s1 s2 l1 l2).mono fun _ _ h => h.1
set_option maxRecDepth 100000 in
theorem DockNever_lifted (os : Os) (started : os.Started) (H : Type) (enc : TypeId × Value → H) :
 ReturnsInHanded {} Tryz.checked os 10 .any (Rows.dockNeverSpec.pre6 enc Tryz.prog Tryz.f10 Rows.dockNeverRow.domain false) (Rows.dockNeverSpec.post enc Tryz.prog Tryz.f10 false true false false) :=
 aCv (C := Tryz.checked) (tb := 4) (by kernel_rfl) started (by kernel_rfl) Tryz.func10
  (ChangeSpec.witness6 (enc := enc) (C := Tryz.checked) false ⟨#[], #[.int .i64 0, .slice none 0 0, .slice none 0 0], []⟩ 8 (by kernel_rfl) (by kernel_rfl) (by kernel_rfl) (by kernel_rfl))
  rfl (fun _ ds h => by match ds, h with | [_, _, _], _ => rfl) (by kernel_rfl) (by kernel_rfl) (by kernel_rfl) (by kernel_rfl) DockNever_all
theorem DockNever_holds : Rows.DockNeverSaid :=
 OpenClaim.holds_of_wide 10 Tryz.f10 rfl rfl rfl rfl rfl rfl rfl ⟨rfl, rfl, rfl, rfl, rfl⟩ rfl rfl rfl rfl rfl (by kernel_rfl) Tryz.func10 (by kernel_rfl)
  (of_decide_eq_true (by kernel_rfl)) (by unfold Func.isWrapper; first | (rw [if_pos (by decide +kernel)]; kernel_rfl) | (rw [if_neg (by decide +kernel)]; exact ⟨rfl, rfl⟩))
  (fun os started H enc _ => DockNever_lifted os started H enc)
#print axioms DockNever_holds
end Go.Proofs.YtajecdfdnlfndaaGreat

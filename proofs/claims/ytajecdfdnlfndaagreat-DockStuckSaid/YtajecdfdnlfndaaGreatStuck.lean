/- DockStuck: whatever is handed in, the law comes to true, and the arguments read as before. No condition. -/
import Derived.Test.YtajecdfdnlfndaaGreatO
import Derived.Test.YtajecdfdnlfndaaGreatK
import Derived.Test.YtajecdfdnlfndaaGreatRows
set_option linter.unusedSimpArgs false
set_option linter.unusedVariables false
namespace Go.Proofs.YtajecdfdnlfndaaGreat
open Go.ChangeShapes Go.WideShapes Go.ChangeAt Go.RowKit Go.Proofs.Ab
theorem DockStuck_all (W : World) (vs : List Value) (g : GArgs Tryz.checked.prog W Tryz.f6.params.toList vs) : ACall Tryz.checked.prog W 6 (vs.map injV) [] fun v _ => v = .bool true := by
 have hp : Tryz.f6.params.toList = [3, 58] := by kernel_rfl
 rw [hp] at g
 obtain ⟨v0, _, rfl, g0, g⟩ := g.cons
 obtain ⟨v1, _, rfl, g1, g⟩ := g.cons
 obtain rfl := g.nil
 obtain ⟨e0, h0⟩ := g0.one (by kernel_rfl) (r := .int .nil) (by kernel_rfl)
 obtain ⟨e1, h1⟩ := g1.one (by kernel_rfl) (r := .sl (.sl aAQ .nil) .nil) (by kernel_rfl)
 obtain ⟨a0, x0, i0⟩ := int_of h0
 obtain ⟨a1, s1, l1⟩ := aBh (h := []) h1
 simp only [List.map_cons, List.map_nil, e0, e1, x0]
 exact (uI a0 s1 l1).mono fun _ _ h => h.1
set_option maxRecDepth 100000 in
theorem DockStuck_lifted (os : Os) (started : os.Started) (H : Type) (enc : TypeId × Value → H) :
 ReturnsInHanded {} Tryz.checked os 6 .any (Rows.dockStuckSpec.pre6 enc Tryz.prog Tryz.f6 Rows.dockStuckRow.domain false) (Rows.dockStuckSpec.post enc Tryz.prog Tryz.f6 false true false false) :=
 aCp (C := Tryz.checked) (tb := 4) (by kernel_rfl) started (by kernel_rfl) Tryz.func6
  (ChangeSpec.witness6 (enc := enc) (C := Tryz.checked) false ⟨#[], #[.int .i64 0, .slice none 0 0], []⟩ 8 (by kernel_rfl) (by kernel_rfl) (by kernel_rfl) (by kernel_rfl))
  rfl (fun _ ds h => by match ds, h with | [_, _], _ => rfl) (by kernel_rfl) (by kernel_rfl) (by kernel_rfl) (by kernel_rfl) DockStuck_all
theorem DockStuck_holds : Rows.DockStuckSaid :=
 OpenClaim.holds_of_wide 6 Tryz.f6 rfl rfl rfl rfl rfl rfl rfl ⟨rfl, rfl, rfl, rfl, rfl⟩ rfl rfl rfl rfl rfl (by kernel_rfl) Tryz.func6 (by kernel_rfl)
  (of_decide_eq_true (by kernel_rfl)) (by unfold Func.isWrapper; first | (rw [if_pos (by decide +kernel)]; kernel_rfl) | (rw [if_neg (by decide +kernel)]; exact ⟨rfl, rfl⟩))
  (fun os started H enc _ => DockStuck_lifted os started H enc)
#print axioms DockStuck_holds
end Go.Proofs.YtajecdfdnlfndaaGreat

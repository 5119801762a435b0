/- DockTense: whatever is handed in, the law comes to true, and the arguments read as before. No condition. -/
import Derived.Test.YtajecdfdnlfndaaM
import Derived.Test.YtajecdfdnlfndaaRows
set_option linter.unusedSimpArgs false
set_option linter.unusedVariables false
namespace Go.Proofs.Ytajecdfdnlfndaa
open Go.ChangeShapes Go.WideShapes Go.ChangeAt Go.RowKit Go.Proofs.Ab
theorem DockTense_all (W : World) (vs : List Value) (g : GArgs Try.checked.prog W Try.f4.params.toList vs) : ACall Try.checked.prog W 4 (vs.map injV) [] fun v _ => v = .bool true := by
 have hp : Try.f4.params.toList = [36, 23, 23, 3, 3] := by kernel_rfl
 rw [hp] at g
 obtain ⟨v0, _, rfl, g0, g⟩ := g.cons
 obtain ⟨v1, _, rfl, g1, g⟩ := g.cons
 obtain ⟨v2, _, rfl, g2, g⟩ := g.cons
 obtain ⟨v3, _, rfl, g3, g⟩ := g.cons
 obtain ⟨v4, _, rfl, g4, g⟩ := g.cons
 obtain rfl := g.nil
 obtain ⟨e0, h0⟩ := g0.one (by kernel_rfl) (r := .sl oE .nil) (by kernel_rfl)
 obtain ⟨e1, h1⟩ := g1.one (by kernel_rfl) (r := .sl (.int .nil) .nil) (by kernel_rfl)
 obtain ⟨e2, h2⟩ := g2.one (by kernel_rfl) (r := .sl (.int .nil) .nil) (by kernel_rfl)
 obtain ⟨e3, h3⟩ := g3.one (by kernel_rfl) (r := .int .nil) (by kernel_rfl)
 obtain ⟨e4, h4⟩ := g4.one (by kernel_rfl) (r := .int .nil) (by kernel_rfl)
 obtain ⟨a0, s0, l0⟩ := xS (h := []) h0
 obtain ⟨a1, s1, l1⟩ := uF (h := []) h1
 obtain ⟨a2, s2, l2⟩ := uF (h := []) h2
 obtain ⟨a3, x3, i3⟩ := aAa h3
 obtain ⟨a4, x4, i4⟩ := aAa h4
 simp only [List.map_cons, List.map_nil, e0, e1, e2, e3, e4, x3, x4]
 exact (qS a3 a4 s0 s1 s2 l0 l1 l2).mono fun _ _ h => h.1
set_option maxRecDepth 100000 in
theorem DockTense_lifted (os : Os) (started : os.Started) (H : Type) (enc : TypeId × Value → H) :
 ReturnsInHanded {} Try.checked os 4 .any (Rows.dockTenseSpec.pre6 enc Try.prog Try.f4 Rows.dockTenseRow.domain false) (Rows.dockTenseSpec.post enc Try.prog Try.f4 false true false false) :=
 zU (C := Try.checked) (tb := 4) (by kernel_rfl) started (by kernel_rfl) Try.func4
  (ChangeSpec.witness6 (enc := enc) (C := Try.checked) false ⟨#[], #[.slice none 0 0, .slice none 0 0, .slice none 0 0, .int .i64 0, .int .i64 0], []⟩ 8 (by kernel_rfl) (by kernel_rfl) (by kernel_rfl) (by kernel_rfl))
  rfl (fun _ ds h => by match ds, h with | [_, _, _, _, _], _ => rfl) (by kernel_rfl) (by kernel_rfl) (by kernel_rfl) (by kernel_rfl) DockTense_all
theorem DockTense_holds : Rows.DockTenseSaid :=
 OpenClaim.holds_of_wide 4 Try.f4 rfl rfl rfl rfl rfl rfl rfl ⟨rfl, rfl, rfl, rfl, rfl⟩ rfl rfl rfl rfl rfl (by kernel_rfl) Try.func4 (by kernel_rfl)
  (of_decide_eq_true (by kernel_rfl)) (by unfold Func.isWrapper; first | (rw [if_pos (by decide +kernel)]; kernel_rfl) | (rw [if_neg (by decide +kernel)]; exact ⟨rfl, rfl⟩))
  (fun os started H enc _ => DockTense_lifted os started H enc)
#print axioms DockTense_holds
end Go.Proofs.Ytajecdfdnlfndaa

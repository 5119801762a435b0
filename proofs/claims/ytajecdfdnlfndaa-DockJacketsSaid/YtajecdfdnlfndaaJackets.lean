/- DockJackets: whatever is handed in, the law comes to true, and the arguments read as before. No condition. -/
import Derived.Test.YtajecdfdnlfndaaK
import Derived.Test.YtajecdfdnlfndaaRows
set_option linter.unusedSimpArgs false
set_option linter.unusedVariables false
namespace Go.Proofs.Ytajecdfdnlfndaa
open Go.ChangeShapes Go.WideShapes Go.ChangeAt Go.RowKit Go.Proofs.Ab
theorem DockJackets_all (W : World) (vs : List Value) (g : GArgs Try.checked.prog W Try.f6.params.toList vs) : ACall Try.checked.prog W 6 (vs.map injV) [] fun v _ => v = .bool true := by
 have hp : Try.f6.params.toList = [23, 3, 48] := by kernel_rfl
 rw [hp] at g
 obtain ⟨v0, _, rfl, g0, g⟩ := g.cons
 obtain ⟨v1, _, rfl, g1, g⟩ := g.cons
 obtain ⟨v2, _, rfl, g2, g⟩ := g.cons
 obtain rfl := g.nil
 obtain ⟨e0, h0⟩ := g0.one (by kernel_rfl) (r := .sl (.int .nil) .nil) (by kernel_rfl)
 obtain ⟨e1, h1⟩ := g1.one (by kernel_rfl) (r := .int .nil) (by kernel_rfl)
 obtain ⟨e2, h2⟩ := g2.one (by kernel_rfl) (r := .sl pS .nil) (by kernel_rfl)
 obtain ⟨a0, s0, l0⟩ := aBd (h := []) h0
 obtain ⟨a1, x1, i1⟩ := int_of h1
 obtain ⟨a2, s2, l2⟩ := aBq (h := []) h2
 simp only [List.map_cons, List.map_nil, e0, e1, e2, x1]
 exact (lK s0 s2 l0 l2).mono fun _ _ h => h.1
set_option maxRecDepth 100000 in
theorem DockJackets_lifted (os : Os) (started : os.Started) (H : Type) (enc : TypeId × Value → H) :
 ReturnsInHanded {} Try.checked os 6 .any (Rows.dockJacketsSpec.pre6 enc Try.prog Try.f6 Rows.dockJacketsRow.domain false) (Rows.dockJacketsSpec.post enc Try.prog Try.f6 false true false false) :=
 xG (C := Try.checked) (tb := 4) (by kernel_rfl) started (by kernel_rfl) Try.func6
  (ChangeSpec.witness6 (enc := enc) (C := Try.checked) false ⟨#[], #[.slice none 0 0, .int .i64 0, .slice none 0 0], []⟩ 8 (by kernel_rfl) (by kernel_rfl) (by kernel_rfl) (by kernel_rfl))
  rfl (fun _ ds h => by match ds, h with | [_, _, _], _ => rfl) (by kernel_rfl) (by kernel_rfl) (by kernel_rfl) (by kernel_rfl) DockJackets_all
theorem DockJackets_holds : Rows.DockJacketsSaid :=
 OpenClaim.holds_of_wide 6 Try.f6 rfl rfl rfl rfl rfl rfl rfl ⟨rfl, rfl, rfl, rfl, rfl⟩ rfl rfl rfl rfl rfl (by kernel_rfl) Try.func6 (by kernel_rfl)
  (of_decide_eq_true (by kernel_rfl)) (by unfold Func.isWrapper; first | (rw [if_pos (by decide +kernel)]; kernel_rfl) | (rw [if_neg (by decide +kernel)]; exact ⟨rfl, rfl⟩))
  (fun os started H enc _ => DockJackets_lifted os started H enc)
#print axioms DockJackets_holds
end Go.Proofs.Ytajecdfdnlfndaa

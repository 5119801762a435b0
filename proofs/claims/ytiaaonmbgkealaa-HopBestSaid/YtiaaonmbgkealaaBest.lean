/- HopBest: whatever is handed in, the law comes to true, and the arguments read as before. No condition. -/
import Derived.Test.YtiaaonmbgkealaaR
import Derived.Test.YtiaaonmbgkealaaM
import Derived.Test.YtiaaonmbgkealaaRows
set_option linter.unusedSimpArgs false
set_option linter.unusedVariables false
namespace Go.Proofs.Ytiaaonmbgkealaa
open Go.ChangeShapes Go.WideShapes Go.ChangeAt Go.RowKit Go.Proofs.Ab
theorem HopBest_all (W : World) (vs : List Value) (g : GArgs Try.checked.prog W Try.f9.params.toList vs) : ACall Try.checked.prog W 9 (vs.map injV) [] fun v _ => v = .bool true := by
 have hp : Try.f9.params.toList = [57, 3] := by kernel_rfl
 rw [hp] at g
 obtain ⟨v0, _, rfl, g0, g⟩ := g.cons
 obtain ⟨v1, _, rfl, g1, g⟩ := g.cons
 obtain rfl := g.nil
 obtain ⟨c0, e0, h0⟩ := g0.agg (by kernel_rfl) (r := dayRw) (by kernel_rfl)
 obtain ⟨e1, h1⟩ := g1.one (by kernel_rfl) (r := .int .nil) (by kernel_rfl)
 obtain ⟨a0, b0, x0, s0⟩ := day_of (h := []) h0
 obtain ⟨a1, x1, i1⟩ := int_of h1
 simp only [List.map_cons, List.map_nil, e0, e1, x0, x1]
 exact (aE8 a0 b0 a1 s0.1 s0.2).mono fun _ _ h => h.1
set_option maxRecDepth 100000 in
theorem HopBest_lifted (os : Os) (started : os.Started) (H : Type) (enc : TypeId × Value → H) :
 ReturnsInHanded {} Try.checked os 9 .any (Rows.hopBestSpec.pre6 enc Try.prog Try.f9 Rows.hopBestRow.domain false) (Rows.hopBestSpec.post enc Try.prog Try.f9 false true false false) :=
 aGS (C := Try.checked) (tb := 4) (by kernel_rfl) started (by kernel_rfl) Try.func9
  (ChangeSpec.witness6 (enc := enc) (C := Try.checked) false ⟨#[], #[.agg #[.slice none 0 0, .slice none 0 0, .slice none 0 0, .slice none 0 0, .slice none 0 0], .int .i64 0], []⟩ 8 (by kernel_rfl) (by kernel_rfl) (by kernel_rfl) (by kernel_rfl))
  rfl (fun _ ds h => by match ds, h with | [_, _], _ => rfl) (by kernel_rfl) (by kernel_rfl) (by kernel_rfl) (by kernel_rfl) HopBest_all
theorem HopBest_holds : Rows.HopBestSaid :=
 OpenClaim.holds_of_wide 9 Try.f9 rfl rfl rfl rfl rfl rfl rfl ⟨rfl, rfl, rfl, rfl, rfl⟩ rfl rfl rfl rfl rfl (by kernel_rfl) Try.func9 (by kernel_rfl)
  (of_decide_eq_true (by kernel_rfl)) (by unfold Func.isWrapper; first | (rw [if_pos (by decide +kernel)]; kernel_rfl) | (rw [if_neg (by decide +kernel)]; exact ⟨rfl, rfl⟩))
  (fun os started H enc _ => HopBest_lifted os started H enc)
#print axioms HopBest_holds
end Go.Proofs.Ytiaaonmbgkealaa

/- HopFlies: whatever is handed in, the law comes to true, and the arguments read as before. No condition. -/
import Derived.Test.YtiaaonmbgkealaaO
import Derived.Test.YtiaaonmbgkealaaRows
set_option linter.unusedSimpArgs false
set_option linter.unusedVariables false
namespace Go.Proofs.Ytiaaonmbgkealaa
open Go.ChangeShapes Go.WideShapes Go.ChangeAt Go.RowKit Go.Proofs.Ab
theorem HopFlies_all (W : World) (vs : List Value) (g : GArgs Try.checked.prog W Try.f13.params.toList vs) : ACall Try.checked.prog W 13 (vs.map injV) [] fun v _ => v = .bool true := by
 have hp : Try.f13.params.toList = [57, 75, 3, 83] := by kernel_rfl
 rw [hp] at g
 obtain ⟨v0, _, rfl, g0, g⟩ := g.cons
 obtain ⟨v1, _, rfl, g1, g⟩ := g.cons
 obtain ⟨v2, _, rfl, g2, g⟩ := g.cons
 obtain ⟨v3, _, rfl, g3, g⟩ := g.cons
 obtain rfl := g.nil
 obtain ⟨c0, e0, h0⟩ := g0.agg (by kernel_rfl) (r := dayRw) (by kernel_rfl)
 obtain ⟨c1, e1, h1⟩ := g1.agg (by kernel_rfl) (r := aBJ) (by kernel_rfl)
 obtain ⟨e2, h2⟩ := g2.one (by kernel_rfl) (r := .int .nil) (by kernel_rfl)
 obtain ⟨e3, h3⟩ := g3.one (by kernel_rfl) (r := aD8) (by kernel_rfl)
 obtain ⟨a0, b0, x0, s0⟩ := day_of (h := []) h0
 obtain ⟨a1, b1, x1, s1⟩ := aEg (h := []) h1
 obtain ⟨a2, x2, i2⟩ := int_of h2
 obtain ⟨a3, s3, l3⟩ := aG4 (h := []) h3
 simp only [List.map_cons, List.map_nil, e0, e1, e2, e3, x0, x1, x2]
 exact (aBz a0 b0 a1 b1 a2 a3 _ s0.1 s0.2 s1 s3 l3).mono fun _ _ h => h.1
set_option maxRecDepth 100000 in
theorem HopFlies_lifted (os : Os) (started : os.Started) (H : Type) (enc : TypeId × Value → H) :
 ReturnsInHanded {} Try.checked os 13 .any (Rows.hopFliesSpec.pre6 enc Try.prog Try.f13 Rows.hopFliesRow.domain false) (Rows.hopFliesSpec.post enc Try.prog Try.f13 false true false false) :=
 aFF (C := Try.checked) (tb := 4) (by kernel_rfl) started (by kernel_rfl) Try.func13
  (ChangeSpec.witness6 (enc := enc) (C := Try.checked) false ⟨#[], #[.agg #[.slice none 0 0, .slice none 0 0, .slice none 0 0, .slice none 0 0, .slice none 0 0], .agg #[.slice none 0 0, .slice none 0 0, .slice none 0 0], .int .i64 0, .slice none 0 0], []⟩ 8 (by kernel_rfl) (by kernel_rfl) (by kernel_rfl) (by kernel_rfl))
  rfl (fun _ ds h => by match ds, h with | [_, _, _, _], _ => rfl) (by kernel_rfl) (by kernel_rfl) (by kernel_rfl) (by kernel_rfl) HopFlies_all
theorem HopFlies_holds : Rows.HopFliesSaid :=
 OpenClaim.holds_of_wide 13 Try.f13 rfl rfl rfl rfl rfl rfl rfl ⟨rfl, rfl, rfl, rfl, rfl⟩ rfl rfl rfl rfl rfl (by kernel_rfl) Try.func13 (by kernel_rfl)
  (of_decide_eq_true (by kernel_rfl)) (by unfold Func.isWrapper; first | (rw [if_pos (by decide +kernel)]; kernel_rfl) | (rw [if_neg (by decide +kernel)]; exact ⟨rfl, rfl⟩))
  (fun os started H enc _ => HopFlies_lifted os started H enc)
#print axioms HopFlies_holds
end Go.Proofs.Ytiaaonmbgkealaa

/- TopFueled: whatever is handed in, the law comes to true, and the arguments read as before. No condition. -/
import Derived.Test.YtiakeffhecpddaaGreatN
import Derived.Test.YtiakeffhecpddaaGreatRows
set_option linter.unusedSimpArgs false
set_option linter.unusedVariables false
namespace Go.Proofs.YtiakeffhecpddaaGreat
open Go.ChangeShapes Go.WideShapes Go.ChangeAt Go.RowKit Go.Proofs.Ab
theorem TopFueled_all (W : World) (vs : List Value) (g : GArgs Tryz.checked.prog W Tryz.f3.params.toList vs) : ACall Tryz.checked.prog W 3 (vs.map injV) [] fun v _ => v = .bool true := by
 have hp : Tryz.f3.params.toList = [27, 28, 3, 31, 3] := by kernel_rfl
 rw [hp] at g
 obtain ⟨v0, _, rfl, g0, g⟩ := g.cons
 obtain ⟨v1, _, rfl, g1, g⟩ := g.cons
 obtain ⟨v2, _, rfl, g2, g⟩ := g.cons
 obtain ⟨v3, _, rfl, g3, g⟩ := g.cons
 obtain ⟨v4, _, rfl, g4, g⟩ := g.cons
 obtain rfl := g.nil
 obtain ⟨c0, e0, h0⟩ := g0.agg (by kernel_rfl) (r := zR) (by kernel_rfl)
 obtain ⟨e1, h1⟩ := g1.one (by kernel_rfl) (r := .sl legRw .nil) (by kernel_rfl)
 obtain ⟨e2, h2⟩ := g2.one (by kernel_rfl) (r := .int .nil) (by kernel_rfl)
 obtain ⟨c3, e3, h3⟩ := g3.agg (by kernel_rfl) (r := aAh) (by kernel_rfl)
 obtain ⟨e4, h4⟩ := g4.one (by kernel_rfl) (r := .int .nil) (by kernel_rfl)
 obtain ⟨a0, b0, c0, d0, x0, s0⟩ := aB6 (h := []) h0
 obtain ⟨a1, s1, l1⟩ := aGV (h := []) h1
 obtain ⟨a2, x2, i2⟩ := zG h2
 obtain ⟨a3, b3, x3, s3⟩ := aDw (h := []) h3
 obtain ⟨a4, x4, i4⟩ := zG h4
 simp only [List.map_cons, List.map_nil, e0, e1, e2, e3, e4, x0, x2, x3, x4]
 exact (vY a2 a4 s0.1 s1 s3.1 s0.2.1 s0.2.2.1 s0.2.2.2 l1.1 l1.2 s3.2).mono fun _ _ h => h.2
set_option maxRecDepth 100000 in
theorem TopFueled_lifted (os : Os) (started : os.Started) (H : Type) (enc : TypeId × Value → H) :
 ReturnsInHanded {} Tryz.checked os 3 .any (Rows.topFueledSpec.pre6 enc Tryz.prog Tryz.f3 Rows.topFueledRow.domain false) (Rows.topFueledSpec.post enc Tryz.prog Tryz.f3 false true false false) :=
 aDa (C := Tryz.checked) (tb := 4) (by kernel_rfl) started (by kernel_rfl) Tryz.func3
  (ChangeSpec.witness6 (enc := enc) (C := Tryz.checked) false ⟨#[], #[.agg #[.int .i64 0, .int .i64 0, .int .i64 0, .int .i64 0, .slice none 0 0, .slice none 0 0, .int .i64 0, .int .i64 0, .int .i64 0, .slice none 0 0], .slice none 0 0, .int .i64 0, .agg #[.slice none 0 0], .int .i64 0], []⟩ 8 (by kernel_rfl) (by kernel_rfl) (by kernel_rfl) (by kernel_rfl))
  rfl (fun _ ds h => by match ds, h with | [_, _, _, _, _], _ => rfl) (by kernel_rfl) (by kernel_rfl) (by kernel_rfl) (by kernel_rfl) TopFueled_all
theorem TopFueled_holds : Rows.TopFueledSaid :=
 OpenClaim.holds_of_wide 3 Tryz.f3 rfl rfl rfl rfl rfl rfl rfl ⟨rfl, rfl, rfl, rfl, rfl⟩ rfl rfl rfl rfl rfl (by kernel_rfl) Tryz.func3 (by kernel_rfl)
  (of_decide_eq_true (by kernel_rfl)) (by unfold Func.isWrapper; first | (rw [if_pos (by decide +kernel)]; kernel_rfl) | (rw [if_neg (by decide +kernel)]; exact ⟨rfl, rfl⟩))
  (fun os started H enc _ => TopFueled_lifted os started H enc)
#print axioms TopFueled_holds
end Go.Proofs.YtiakeffhecpddaaGreat

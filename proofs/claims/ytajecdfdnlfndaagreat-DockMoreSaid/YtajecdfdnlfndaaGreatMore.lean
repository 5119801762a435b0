/- DockMore: whatever is handed in, the law comes to true, and the arguments read as before. No condition. -/
import Derived.Test.YtajecdfdnlfndaaGreatN
import Derived.Test.YtajecdfdnlfndaaGreatM
import Derived.Test.YtajecdfdnlfndaaGreatRows
set_option linter.unusedSimpArgs false
set_option linter.unusedVariables false
namespace Go.Proofs.YtajecdfdnlfndaaGreat
open Go.ChangeShapes Go.WideShapes Go.ChangeAt Go.RowKit Go.Proofs.Ab
theorem DockMore_all (W : World) (vs : List Value) (g : GArgs Tryz.checked.prog W Tryz.f7.params.toList vs) : ACall Tryz.checked.prog W 7 (vs.map injV) [] fun v _ => v = .bool true := by
 have hp : Tryz.f7.params.toList = [44, 46, 66, 3, 22, 3] := by kernel_rfl
 rw [hp] at g
 obtain ⟨v0, _, rfl, g0, g⟩ := g.cons
 obtain ⟨v1, _, rfl, g1, g⟩ := g.cons
 obtain ⟨v2, _, rfl, g2, g⟩ := g.cons
 obtain ⟨v3, _, rfl, g3, g⟩ := g.cons
 obtain ⟨v4, _, rfl, g4, g⟩ := g.cons
 obtain ⟨v5, _, rfl, g5, g⟩ := g.cons
 obtain rfl := g.nil
 obtain ⟨e0, h0⟩ := g0.one (by kernel_rfl) (r := .sl mG .nil) (by kernel_rfl)
 obtain ⟨c1, e1, h1⟩ := g1.agg (by kernel_rfl) (r := mF) (by kernel_rfl)
 obtain ⟨c2, e2, h2⟩ := g2.agg (by kernel_rfl) (r := mG) (by kernel_rfl)
 obtain ⟨e3, h3⟩ := g3.one (by kernel_rfl) (r := .int .nil) (by kernel_rfl)
 obtain ⟨e4, h4⟩ := g4.one (by kernel_rfl) (r := .sl mF .nil) (by kernel_rfl)
 obtain ⟨e5, h5⟩ := g5.one (by kernel_rfl) (r := .int .nil) (by kernel_rfl)
 obtain ⟨a0, s0, l0⟩ := aAN (h := []) h0
 obtain ⟨a1, x1, i1⟩ := aCF h1
 obtain ⟨a2, x2, i2⟩ := vF h2
 obtain ⟨a3, x3, i3⟩ := aBZ h3
 obtain ⟨a4, s4, l4⟩ := aAu (h := []) h4
 obtain ⟨a5, x5, i5⟩ := aBZ h5
 simp only [List.map_cons, List.map_nil, e0, e1, e2, e3, e4, e5, x1, x2, x3, x5]
 exact (uY a1 a2 a3 a5 i3 s0 s4 l0 l4).mono fun _ _ h => h.1
set_option maxRecDepth 100000 in
theorem DockMore_lifted (os : Os) (started : os.Started) (H : Type) (enc : TypeId × Value → H) :
 ReturnsInHanded {} Tryz.checked os 7 .any (Rows.dockMoreSpec.pre6 enc Tryz.prog Tryz.f7 Rows.dockMoreRow.domain false) (Rows.dockMoreSpec.post enc Tryz.prog Tryz.f7 false true false false) :=
 aBS (C := Tryz.checked) (tb := 4) (by kernel_rfl) started (by kernel_rfl) Tryz.func7
  (ChangeSpec.witness6 (enc := enc) (C := Tryz.checked) false ⟨#[], #[.slice none 0 0, .agg #[.int .i64 0, .int .i64 0, .int .i64 0, .int .i64 0], .agg #[.int .i64 0, .int .i64 0, .int .i64 0], .int .i64 0, .slice none 0 0, .int .i64 0], []⟩ 8 (by kernel_rfl) (by kernel_rfl) (by kernel_rfl) (by kernel_rfl))
  rfl (fun _ ds h => by match ds, h with | [_, _, _, _, _, _], _ => rfl) (by kernel_rfl) (by kernel_rfl) (by kernel_rfl) (by kernel_rfl) DockMore_all
theorem DockMore_holds : Rows.DockMoreSaid :=
 OpenClaim.holds_of_wide 7 Tryz.f7 rfl rfl rfl rfl rfl rfl rfl ⟨rfl, rfl, rfl, rfl, rfl⟩ rfl rfl rfl rfl rfl (by kernel_rfl) Tryz.func7 (by kernel_rfl)
  (of_decide_eq_true (by kernel_rfl)) (by unfold Func.isWrapper; first | (rw [if_pos (by decide +kernel)]; kernel_rfl) | (rw [if_neg (by decide +kernel)]; exact ⟨rfl, rfl⟩))
  (fun os started H enc _ => DockMore_lifted os started H enc)
#print axioms DockMore_holds
end Go.Proofs.YtajecdfdnlfndaaGreat

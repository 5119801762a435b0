/- WearTracks: whatever is handed in, the law comes to true, and the arguments read as before. No condition. -/
import Derived.Test.YtijiinmeodpanaaGreatM
import Derived.Test.YtijiinmeodpanaaGreatRows
set_option linter.unusedSimpArgs false
set_option linter.unusedVariables false
namespace Go.Proofs.YtijiinmeodpanaaGreat
open Go.ChangeShapes Go.WideShapes Go.ChangeAt Go.RowKit Go.Proofs.Ab
theorem WearTracks_all (W : World) (vs : List Value) (g : GArgs Tryz.checked.prog W Tryz.f3.params.toList vs) : ACall Tryz.checked.prog W 3 (vs.map injV) [] fun v _ => v = .bool true := by
 have hp : Tryz.f3.params.toList = [22, 23] := by kernel_rfl
 rw [hp] at g
 obtain ⟨v0, _, rfl, g0, g⟩ := g.cons
 obtain ⟨v1, _, rfl, g1, g⟩ := g.cons
 obtain rfl := g.nil
 obtain ⟨e0, h0⟩ := g0.one (by kernel_rfl) (r := .sl aDm .nil) (by kernel_rfl)
 obtain ⟨e1, h1⟩ := g1.one (by kernel_rfl) (r := .sl aDo .nil) (by kernel_rfl)
 obtain ⟨a0, s0, l0⟩ := aDl (h := []) h0
 obtain ⟨a1, s1, l1⟩ := aDn (h := []) h1
 simp only [List.map_cons, List.map_nil, e0, e1]
 exact (vG s0 s1 l0).mono fun _ _ h => h.1
set_option maxRecDepth 100000 in
theorem WearTracks_lifted (os : Os) (started : os.Started) (H : Type) (enc : TypeId × Value → H) :
 ReturnsInHanded {} Tryz.checked os 3 .any (Rows.wearTracksSpec.pre6 enc Tryz.prog Tryz.f3 Rows.wearTracksRow.domain false) (Rows.wearTracksSpec.post enc Tryz.prog Tryz.f3 false true false false) :=
 aEg (C := Tryz.checked) (tb := 4) (by kernel_rfl) started (by kernel_rfl) Tryz.func3
  (ChangeSpec.witness6 (enc := enc) (C := Tryz.checked) false ⟨#[], #[.slice none 0 0, .slice none 0 0], []⟩ 8 (by kernel_rfl) (by kernel_rfl) (by kernel_rfl) (by kernel_rfl))
  rfl (fun _ ds h => by match ds, h with | [_, _], _ => rfl) (by kernel_rfl) (by kernel_rfl) (by kernel_rfl) (by kernel_rfl) WearTracks_all
theorem WearTracks_holds : Rows.WearTracksSaid :=
 OpenClaim.holds_of_wide 3 Tryz.f3 rfl rfl rfl rfl rfl rfl rfl ⟨rfl, rfl, rfl, rfl, rfl⟩ rfl rfl rfl rfl rfl (by kernel_rfl) Tryz.func3 (by kernel_rfl)
  (of_decide_eq_true (by kernel_rfl)) (by unfold Func.isWrapper; first | (rw [if_pos (by decide +kernel)]; kernel_rfl) | (rw [if_neg (by decide +kernel)]; exact ⟨rfl, rfl⟩))
  (fun os started H enc _ => WearTracks_lifted os started H enc)
#print axioms WearTracks_holds
end Go.Proofs.YtijiinmeodpanaaGreat

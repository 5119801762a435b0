/- TopStranded: whatever is handed in, the law comes to true, and the arguments read as before. No condition. -/
import Derived.Test.YtiakeffhecpddaaGreatS
import Derived.Test.YtiakeffhecpddaaGreatQ
import Derived.Test.YtiakeffhecpddaaGreatRows
set_option linter.unusedSimpArgs false
set_option linter.unusedVariables false
namespace Go.Proofs.YtiakeffhecpddaaGreat
open Go.ChangeShapes Go.WideShapes Go.ChangeAt Go.RowKit Go.Proofs.Ab
theorem TopStranded_all(W:World)(vs:List Value)(g:GArgs Tryz.checked.prog W Tryz.f4.params.toList vs):ACall Tryz.checked.prog W 4 (vs.map injV) [] fun v _=>v= .bool true:=by
 have hp:Tryz.f4.params.toList=[55, 56, 3]:=by kernel_rfl
 rw[hp]at g
 obtain⟨v0, _, rfl, g0, g⟩:=g.cons
 obtain⟨v1, _, rfl, g1, g⟩:=g.cons
 obtain⟨v2, _, rfl, g2, g⟩:=g.cons
 obtain rfl:=g.nil
 obtain⟨c0, e0, h0⟩:=g0.agg (by kernel_rfl) (r:=dayRw) (by kernel_rfl)
 obtain⟨e1, h1⟩:=g1.one (by kernel_rfl) (r:= .sl (.int .nil) .nil) (by kernel_rfl)
 obtain⟨e2, h2⟩:=g2.one (by kernel_rfl) (r:= .int .nil) (by kernel_rfl)
 obtain⟨a0, b0, x0, s0⟩:=day_of (h:=[]) h0
 obtain⟨a1, s1, l1⟩:=aOw (h:=[]) h1
 obtain⟨a2, x2, i2⟩:=int_of h2
 simp only[List.map_cons, List.map_nil, e0, e1, e2, x0, x2]
 exact(yF a0 b0 _ a1 a2 s0.1 s0.2 s1).mono fun _ _ h=>h.1
set_option maxRecDepth 100000 in
theorem TopStranded_lifted(os:Os)(started:os.Started)(H:Type)(enc:TypeId×Value→H) :
 ReturnsInHanded {} Tryz.checked os 4 .any (Rows.topStrandedSpec.pre6 enc Tryz.prog Tryz.f4 Rows.topStrandedRow.domain false) (Rows.topStrandedSpec.post enc Tryz.prog Tryz.f4 false true false false):=
 aIV (C:=Tryz.checked) (tb:=4) (by kernel_rfl) started (by kernel_rfl) Tryz.func4
  (ChangeSpec.witness6 (enc:=enc) (C:=Tryz.checked) false ⟨#[], #[.agg #[.slice none 0 0, .slice none 0 0, .slice none 0 0, .slice none 0 0, .slice none 0 0], .slice none 0 0, .int .i64 0], []⟩ 8 (by kernel_rfl) (by kernel_rfl) (by kernel_rfl) (by kernel_rfl))
  rfl (fun _ ds h=>by match ds, h with | [_, _, _], _=>rfl) (by kernel_rfl) (by kernel_rfl) (by kernel_rfl) (by kernel_rfl) TopStranded_all
theorem TopStranded_holds:Rows.TopStrandedSaid:=
 OpenClaim.holds_of_wide 4 Tryz.f4 rfl rfl rfl rfl rfl rfl rfl ⟨rfl, rfl, rfl, rfl, rfl⟩ rfl rfl rfl rfl rfl (by kernel_rfl) Tryz.func4 (by kernel_rfl)
  (of_decide_eq_true (by kernel_rfl)) (by unfold Func.isWrapper; first | (rw[if_pos (by decide +kernel)]; kernel_rfl) | (rw[if_neg (by decide +kernel)]; exact⟨rfl, rfl⟩))
  (fun os started H enc _=>TopStranded_lifted os started H enc)
#print axioms TopStranded_holds
end Go.Proofs.YtiakeffhecpddaaGreat

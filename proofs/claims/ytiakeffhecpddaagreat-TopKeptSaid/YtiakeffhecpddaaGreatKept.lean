/- TopKept: the law comes to true. No condition. -/
import Derived.Test.YtiakeffhecpddaaGreatW
import Derived.Test.YtiakeffhecpddaaGreatQ
import Derived.Test.YtiakeffhecpddaaGreatRows
set_option linter.unusedSimpArgs false
set_option linter.unusedVariables false
namespace Go.Proofs.YtiakeffhecpddaaGreat
open Go.ChangeShapes Go.WideShapes Go.ChangeAt Go.RowKit Go.Proofs.Ab
theorem TopKept_all(W:World)(vs:List Value)(g:GArgs Tryz.checked.prog W Tryz.f5.params.toList vs):ACall Tryz.checked.prog W 5 (vs.map injV) [] fun v _=>v= .bool true:=by
 have hp:Tryz.f5.params.toList=[55, 3]:=by kernel_rfl
 rw[hp]at g
 obtain⟨v0, _, rfl, g0, g⟩:=g.cons
 obtain⟨v1, _, rfl, g1, g⟩:=g.cons
 obtain rfl:=g.nil
 obtain⟨c0, e0, h0⟩:=g0.agg (by kernel_rfl) (r:=dayRw) (by kernel_rfl)
 obtain⟨e1, h1⟩:=g1.one (by kernel_rfl) (r:= .int .nil) (by kernel_rfl)
 obtain⟨a0, b0, x0, s0⟩:=day_of (h:=[]) h0
 obtain⟨a1, x1, i1⟩:=int_of h1
 simp only[List.map_cons, List.map_nil, e0, e1, x0, x1]
 exact(aHH a0 b0 a1 s0.1 s0.2).mono fun _ _ h=>h.1
set_option maxRecDepth 100000 in
theorem TopKept_lifted(os:Os)(started:os.Started)(H:Type)(enc:TypeId×Value→H) :
 ReturnsInHanded {} Tryz.checked os 5 .any (Rows.topKeptSpec.pre6 enc Tryz.prog Tryz.f5 Rows.topKeptRow.domain false) (Rows.topKeptSpec.post enc Tryz.prog Tryz.f5 false true false false):=
 aJk (C:=Tryz.checked) (tb:=4) (by kernel_rfl) started (by kernel_rfl) Tryz.func5
  (ChangeSpec.witness6 (enc:=enc) (C:=Tryz.checked) false ⟨#[], #[.agg #[.slice none 0 0, .slice none 0 0, .slice none 0 0, .slice none 0 0, .slice none 0 0], .int .i64 0], []⟩ 8 (by kernel_rfl) (by kernel_rfl) (by kernel_rfl) (by kernel_rfl))
  rfl (fun _ ds h=>by match ds, h with | [_, _], _=>rfl) (by kernel_rfl) (by kernel_rfl) (by kernel_rfl) (by kernel_rfl) TopKept_all
theorem TopKept_holds:Rows.TopKeptSaid:=
 OpenClaim.holds_of_wide 5 Tryz.f5 rfl rfl rfl rfl rfl rfl rfl ⟨rfl, rfl, rfl, rfl, rfl⟩ rfl rfl rfl rfl rfl (by kernel_rfl) Tryz.func5 (by kernel_rfl)
  (of_decide_eq_true (by kernel_rfl)) (by unfold Func.isWrapper; first | (rw[if_pos (by decide +kernel)]; kernel_rfl) | (rw[if_neg (by decide +kernel)]; exact⟨rfl, rfl⟩))
  (fun os started H enc _=>TopKept_lifted os started H enc)
#print axioms TopKept_holds
end Go.Proofs.YtiakeffhecpddaaGreat

/- The own layer under the proofs of this seat, part M: what calls of the program come to on an abstract heap. No condition. -/
import Derived.Test.YtajecdfdnlfndaaGreatK
set_option linter.unusedSimpArgs false
set_option linter.unusedVariables false
namespace Go.Proofs.Ab
open Go Go.Proofs
variable {w0 : World} {h : Heap}
attribute [local irreducible] ACall aR bY bD cO rvC lp rg dr ex un rv
theorem rhas_c {x : AV} {a : List Int} (n : Int) (hx : SlI w0 h x a) (hn : a.length < 1000000) : bD Tryz.prog w0 46 [x,.int .i64 n] h (.bool (decide (n ∈ a))) h := by
 refine bC aV aCO mf46_b mf46_g (qE rfl) (by simp [AV.bdd,AV.bdds]) fun hb ha => aZ ?_
 have la := (SlI.use hx).1
 simp only [go_sem,mf46]
 refine gF (fun j => [(0,x),(1,.int .i64 n),(5,.int .i64 j)]) (fun j => a[j]? ≠ some n) a.length rfl (fun j hj hall ih => ?_) (fun hall => ?_)
 · refine aY aV wY [0,1,5] L46_0.eq_1 ?_
   have e1 : (j : Int) < a.length := by omega
   obtain ⟨p,i1,r1,r1'⟩ := hx.at_ hj
   by_cases q : a[j] = n
   · have : n ∈ a := q ▸ qG hj
     simp only [go_sem,la,e1,i1,r1,r1',q]
     rw [decide_eq_true this]
   · simp only [go_sem,la,e1,i1,r1,r1',q]
     exact ⟨(by unfold I64; omega),ih (by rw [qA hj]; simpa using q)⟩
 · refine aY aV wY [0,1,5] L46_0.eq_1 ?_
   have e1 : ¬ (a.length : Int) < a.length := by omega
   have : ¬ n ∈ a := fun hm => by
    obtain ⟨i,hi,e⟩ := List.getElem_of_mem hm
    exact hall i hi (by rw [qA hi,e])
   simp only [go_sem,la,e1]
   rw [decide_eq_false this]
theorem Gro.base {H X : Heap} {es n : Nat} {ov : AV} {vs : List AV} (g : Gro X H es n ov vs) (s : aG h X) : Gro h H es n ov vs := by
 refine ⟨s.trans g.sub,?_⟩
 rcases g.own with h1 | ⟨io,h1,h2⟩
 · exact .inl h1
 · exact .inr ⟨io,Nat.le_trans s.1 h1,h2⟩
def eA (n : Nat) : List Int := List.replicate n (-1)
theorem aBk : bD Tryz.prog w0 85 [] h (.agg (aF (eA 4))) h := by
 refine eP (by simp [AV.bdd]) (aU aV uX aAt aAs (qE rfl) fun hb ha => aZ ?_)
 simp only [go_sem,mf85]
 iterate 4
  refine aY aV wU [0,1,3] L85_0.eq_1 ?_
  simp only [go_sem]
  try refine ⟨(by unfold I64; omega),?_⟩
 refine aY aV wU [0,1,3] L85_0.eq_1 ?_
 simp only [go_sem]
 exact ⟨aG.refl.app,rfl⟩
theorem aAk (n : Nat) (hn : n ≤ 1000) : ACall Tryz.prog w0 53 [.int .i64 n] h fun y H => Gro h H 1 n y (aF (eA n)) := by
 refine aU aV aCI mf53_b mf53_g (qE rfl) fun hb ha => aZ ?_
 simp only [go_sem,mf53]
 refine gE (S := Nat × Heap × AV) (F := fun s => [(0,.int .i64 n),(3,s.2.2),(4,.int .i64 s.1)]) (H := fun s => s.2.1) (meas := fun s => n - s.1) (Inv := fun s => s.1 ≤ n ∧ Gro h s.2.1 1 s.1 s.2.2 (aF (eA s.1))) (0,h,.nilS) ⟨Nat.zero_le _,by simpa [aF,eA] using Gro.nil aG.refl⟩ rfl (by simp) ?_
 rintro ⟨j,H,ov⟩ ⟨hj,hG⟩ ih
 simp only at hj hG ih ⊢
 refine aY aV aEh [0,3,4] L53_0.eq_1 ?_
 by_cases hjl : j < n
 · have e1 : (j : Int) < n := by omega
   simp only [go_sem,e1]
   obtain ⟨Y,eY⟩ : ∃ Y,Y = H ++ [some (Blk.row [.int .i64 (-1)])] := ⟨_,rfl⟩
   have gY : Gro h Y 1 j ov (aF (eA j)) := eY ▸ hG.app
   have hkk : Y[H.length]? = some (some (.row [.int .i64 (-1)])) := by rw [eY,qI (Nat.le_refl _),Nat.sub_self]; rfl
   obtain ⟨G2,e5,e6⟩ := gY.more (w0 := w0) (b := 8) (f := true) hkk rfl rfl (by omega) (by omega)
   rw [← eY,e5]
   simp only [go_sem]
   refine ⟨(by unfold I64; omega),ih (j + 1,G2,_) ⟨by simp only; omega,?_⟩ (by simp only; omega)⟩
   rw [eA,List.replicate_succ']
   simpa [aF,eA] using e6
 · have e1 : ¬ (j : Int) < n := by omega
   obtain rfl : j = n := by omega
   simp only [go_sem,e1]
   exact hG
theorem jI {l : List Int} {i : Nat} (h : i < l.length) : (aF l)[i]? = some (.int .i64 (l.getD i 0)) := by rw [rF,qA h,getD_at h]; rfl
theorem mX {p i : Nat} {st : List Int} (hi : i < p) : (st.take p).getD i 0 = st.getD i 0 := by
 rw [List.getD_eq_getElem?_getD,List.getD_eq_getElem?_getD,List.getElem?_take_of_lt hi]
theorem SlI.getD_at {x : AV} {l : List Int} (a : SlI w0 h x l) {j : Nat} (hj : j < l.length) : ∃ p : Pl,dP 1 x (some j) = some (.ptr p) ∧ (∀ L,rd w0 (h ++ L) p = some (.int .i64 (l.getD j 0))) ∧ rd w0 h p = some (.int .i64 (l.getD j 0)) := by
 obtain ⟨p,a1,a2,a3⟩ := a.at_ hj
 rw [Ab.getD_at hj]; exact ⟨p,a1,a2,a3⟩
theorem eI {l : List Int} {i : Nat} {x : Int} (hi : i < l.length) : (aF l).take i ++ .int .i64 x :: (aF l).drop (i + 1) = aF (l.set i x) := by
 rw [lF (by rw [bG]; omega)]; simp [aF,List.map_set]
end Go.Proofs.Ab

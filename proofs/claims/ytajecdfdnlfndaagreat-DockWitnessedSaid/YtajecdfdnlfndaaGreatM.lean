/- The own layer under the proofs of this seat, part M: what calls of the program come to on an abstract heap. No condition. -/
import Derived.Test.YtajecdfdnlfndaaGreatK
set_option linter.unusedSimpArgs false
set_option linter.unusedVariables false
namespace Go.Proofs.Ab
open Go Go.Proofs
variable {w0 : World} {h : Heap}
attribute [local irreducible] ACall aR bR bD cI rvC lp rg dr ex un rv
theorem Gro.len {H : Heap} {es n : Nat} {ov : AV} {vs : List AV} (g : Gro h H es n ov vs) : kP ov = some (.int .i64 n) := by
 rcases g.own with ⟨rfl,rfl,_⟩ | ⟨_,_,_,rfl,_⟩ <;> rfl
theorem cK.setN {o : Nat} {A B : Heap} (k : cK [o] A B) : aH (A.set o none) B := ⟨by simpa using k.le,fun i b e => by
 by_cases hi : o = i
 · subst hi
   have := aF e
   rw [List.length_set] at this
   rw [qF this] at e; cases e
 · rw [qB hi] at e
   exact k.at_ _ _ (by simp only [List.mem_singleton]; exact fun x => hi x.symm) e⟩
structure jZ (h0 H : Heap) (o : Nat) (ov : AV) (out : List Int) : Prop where
 keep : cK [o] h0 H
 box : H[o]? = some (some (.row [ov]))
 val : (ov = .nilS ∧ out = []) ∨ ∃ io c,h0.length ≤ io ∧ ov = .sl (.own io 0) out.length 1 false ∧ H[io]? = some (some (.row c)) ∧ out.length ≤ c.length ∧ c.take out.length = aE out
theorem jZ.len {h0 H : Heap} {o : Nat} {ov : AV} {out : List Int} (a : jZ h0 H o ov out) : kP ov = some (.int .i64 out.length) := by
 rcases a.val with ⟨rfl,rfl⟩ | ⟨io,c,_,rfl,_⟩ <;> rfl
theorem jZ.slI {h0 H : Heap} {o : Nat} {ov : AV} {out : List Int} (a : jZ h0 H o ov out) : SlI w0 H ov out := by
 rcases a.val with ⟨rfl,rfl⟩ | ⟨io,c,h1,rfl,h3,h4,h5⟩
 · exact .inl ⟨rfl,rfl⟩
 · refine .inr ⟨_,false,⟨1,by rw [List.length_map],eJ⟩,by simp only [Pl.bdd]; exact aF h3,fun j d hd => ?_⟩
   rw [List.getElem?_map,qD] at hd
   obtain ⟨x,hx,rfl⟩ := hd
   have hj := aF hx
   simp only [Pl.add,rdn,h3]
   rw [if_pos (by omega)]
   have : (c.take out.length)[j]? = (aE out)[j]? := by rw [h5]
   rw [List.getElem?_take,if_pos hj,lU,hx] at this
   have hc : j < c.length := by omega
   rw [qA hc] at this
   simp only [Option.map_some,Option.some.injEq] at this
   simp only [Nat.zero_add,Nat.mul_one,List.drop_eq_getElem_cons hc,this,List.take_succ_cons,List.take_zero]
theorem jZ.app {h0 H L : Heap} {o : Nat} {ov : AV} {out : List Int} (a : jZ h0 H o ov out) : jZ h0 (H ++ L) o ov out := by
 refine ⟨a.keep.app,aA a.box,?_⟩
 rcases a.val with h1 | ⟨io,c,h1,h2,h3,h4,h5⟩
 · exact .inl h1
 · exact .inr ⟨io,c,h1,h2,aA h3,h4,h5⟩
theorem jZ.more {h0 H : Heap} {o k : Nat} {ov : AV} {out : List Int} (a : jZ h0 H o ov out) (ho : o < h0.length) {f : Bool} {x : Int} (hk : H[k]? = some (some (.row [.int .i64 x]))) (hn : out.length ≤ 1000) :
 ∃ G,dH w0 H 1 8 ov (.sl (.own k 0) 1 1 f) = some (.sl (.own H.length 0) (out.length + 1) 1 false,G) ∧ G[o]? = some (some (.row [ov])) ∧ G.length = H.length + 1 ∧
  jZ h0 (G.set o (some (.row [.sl (.own H.length 0) (out.length + 1) 1 false]))) o (.sl (.own H.length 0) (out.length + 1) 1 false) (out ++ [x]) := by
 have r1 : rdn w0 H (.own k 0) (1 * 1) = some [.int .i64 x] := by simp [rdn,hk]
 have hkl := a.keep.le
 rcases a.val with ⟨rfl,rfl⟩ | ⟨io,c,h1,rfl,h3,h4,h5⟩
 · refine ⟨H ++ [some (.row [.int .i64 x])],?_,aA a.box,by simp,(a.keep.app).set (.inl (by simp)),by rw [qF (by simp; omega)],.inr ⟨H.length,[.int .i64 x],by omega,rfl,?_,by simp,rfl⟩⟩
   · simp only [dH,eP,eJ,if_true,r1,Option.map_some,Option.bind_some]
     rw [if_neg (by omega),if_pos ⟨by omega,rfl⟩]
     simp [eQ]
   · rw [qB (by omega),qI (Nat.le_refl _),Nat.sub_self]; rfl
 · have hio := aF h3
   have r2 : rdn w0 H (.own io 0) (out.length * 1) = some (aE out) := by
    simp only [rdn,h3]
    rw [if_pos (by omega),List.drop_zero,Nat.mul_one,h5]
   rw [Nat.mul_one] at r2
   refine ⟨H.set io none ++ [some (.row (aE out ++ [.int .i64 x]))],?_,aA (by rw [qB (by omega)]; exact a.box),by simp,?_,by rw [qF (by simp; omega)],.inr ⟨H.length,aE out ++ [.int .i64 x],by omega,by simp,?_,by simp,?_⟩⟩
   · simp only [dH,eP,eJ,if_true,r1,Option.map_some,Option.bind_some]
     rw [if_neg (by omega),if_pos ⟨trivial,by omega,rfl⟩]
     simp [r2]
   · exact ((a.keep.set (.inr h1)).app).set (.inl (by simp))
   · rw [qB (by omega),qI (by simp)]; simp
   · rw [List.take_of_length_le (by simp)]; simp [aE]
theorem jZ.less {h0 H : Heap} {o : Nat} {ov : AV} {out : List Int} {x : Int} (a : jZ h0 H o ov (out ++ [x])) (ho : o < h0.length) : ∃ io,ov = .sl (.own io 0) (out.length + 1) 1 false ∧ jZ h0 (H.set o (some (.row [.sl (.own io 0) out.length 1 false]))) o (.sl (.own io 0) out.length 1 false) out := by
 have hkl := a.keep.le
 rcases a.val with ⟨_,h1⟩ | ⟨io,c,h1,h2,h3,h4,h5⟩
 · simp at h1
 · simp only [List.length_append,List.length_singleton] at h2 h4 h5
   refine ⟨io,h2,a.keep.set (.inl (by simp)),by rw [qF (by omega)],.inr ⟨io,c,h1,rfl,by rw [qB (by omega)]; exact h3,by omega,?_⟩⟩
   have := congrArg (List.take out.length) h5
   rw [List.take_take,Nat.min_eq_left (by omega)] at this
   rw [this]; simp [aE]
def qT (l : List Int) (many most : Int) : Bool := l.all (fun x => inB x 0 most) && decide ((l.length : Int) = many)
theorem qS {l : List Int} {many most : Int} : qT l many most = true ↔ (∀ x ∈ l,0 ≤ x ∧ x ≤ most) ∧ (l.length : Int) = many := by
 simp only [qT,inB,Bool.and_eq_true,List.all_eq_true,decide_eq_true_eq]
theorem lM (many most : Int) {v : AV} {l : List Int} (hv : SlI w0 h v l) (hn : l.length ≤ 9223372036854775807) : bD Tryz.prog w0 23 [v,.int .i64 many,.int .i64 most] h (.bool (qT l many most)) h := by
 refine bH aZ aCv mf23_b mf23_g (qE rfl) (by simp [AV.bdd,AV.bdds]) fun hb ha => bB ?_
 have hlen := (SlI.use hv).1
 simp only [go_sem,mf23]
 refine oU (fun j => [(0,v),(1,.int .i64 many),(2,.int .i64 most),(7,.int .i64 j)]) (fun j => inB (l.getD j 0) 0 most = true) l.length rfl (fun j hj hall ih => ?_) (fun hall => ?_)
 · refine bI aZ wT [0,1,2,7] L23_0.eq_1 ?_
   obtain ⟨p,i1,r1,r1'⟩ := hv.at_ hj
   have e1 : (j : Int) < l.length := by omega
   have no : inB l[j] 0 most = false → qT l many most = false := fun x => by
    rw [qT,List.all_eq_false.2 ⟨_,qG hj,by simp [x]⟩]; rfl
   rw [getD_at hj] at ih
   simp only [go_sem,hlen,e1,i1,r1,r1']
   refine ⟨fun a => ⟨fun b => ?_,fun b => ⟨(by unfold I64; omega),ih (by simp only [inB,Bool.and_eq_true,decide_eq_true_eq]; omega)⟩⟩,fun a => ?_⟩
   · rw [no (by simp only [inB,Bool.and_eq_false_imp,decide_eq_true_eq,decide_eq_false_iff_not]; omega)]
   · rw [no (by simp only [inB,Bool.and_eq_false_imp,decide_eq_true_eq,decide_eq_false_iff_not]; omega)]
 · refine bI aZ wT [0,1,2,7] L23_0.eq_1 ?_
   have e1 : ¬ (l.length : Int) < l.length := by omega
   have : l.all (fun x => inB x 0 most) = true := by rw [← sW 0,List.all_eq_true]; exact fun j hj => hall j (List.mem_range.1 hj)
   simp only [go_sem,hlen,e1]
   rw [qT,this]
   simp
   rfl
theorem Gro.base {H X : Heap} {es n : Nat} {ov : AV} {vs : List AV} (g : Gro X H es n ov vs) (s : aH h X) : Gro h H es n ov vs := by
 refine ⟨s.trans g.sub,?_⟩
 rcases g.own with h1 | ⟨io,h1,h2⟩
 · exact .inl h1
 · exact .inr ⟨io,Nat.le_trans s.1 h1,h2⟩
def cY (n : Nat) : List Int := List.replicate n (-1)
theorem aA9 : bD Tryz.prog w0 85 [] h (.agg (aE (cY 4))) h := by
 refine fS (by simp [AV.bdd]) (aX aZ uW aAl aAk (qE rfl) fun hb ha => bB ?_)
 simp only [go_sem,mf85]
 iterate 4
  refine bI aZ wR [0,1,3] L85_0.eq_1 ?_
  simp only [go_sem]
  try refine ⟨(by unfold I64; omega),?_⟩
 refine bI aZ wR [0,1,3] L85_0.eq_1 ?_
 simp only [go_sem]
 exact ⟨aH.refl.app,rfl⟩
theorem aAc (n : Nat) (hn : n ≤ 1000) : ACall Tryz.prog w0 53 [.int .i64 n] h fun y H => Gro h H 1 n y (aE (cY n)) := by
 refine aX aZ aCq mf53_b mf53_g (qE rfl) fun hb ha => bB ?_
 simp only [go_sem,mf53]
 refine iJ (S := Nat × Heap × AV) (F := fun s => [(0,.int .i64 n),(3,s.2.2),(4,.int .i64 s.1)]) (H := fun s => s.2.1) (meas := fun s => n - s.1) (Inv := fun s => s.1 ≤ n ∧ Gro h s.2.1 1 s.1 s.2.2 (aE (cY s.1))) (0,h,.nilS) ⟨Nat.zero_le _,by simpa [aE,cY] using Gro.nil aH.refl⟩ rfl (by simp) ?_
 rintro ⟨j,H,ov⟩ ⟨hj,hG⟩ ih
 simp only at hj hG ih ⊢
 refine bI aZ aDT [0,3,4] L53_0.eq_1 ?_
 by_cases hjl : j < n
 · have e1 : (j : Int) < n := by omega
   simp only [go_sem,e1]
   obtain ⟨Y,eY⟩ : ∃ Y,Y = H ++ [some (Blk.row [.int .i64 (-1)])] := ⟨_,rfl⟩
   have gY : Gro h Y 1 j ov (aE (cY j)) := eY ▸ hG.app
   have hkk : Y[H.length]? = some (some (.row [.int .i64 (-1)])) := by rw [eY,qI (Nat.le_refl _),Nat.sub_self]; rfl
   obtain ⟨G2,e5,e6⟩ := gY.more (w0 := w0) (b := 8) (f := true) hkk rfl rfl (by omega) (by omega)
   rw [← eY,e5]
   simp only [go_sem]
   refine ⟨(by unfold I64; omega),ih (j + 1,G2,_) ⟨by simp only; omega,?_⟩ (by simp only; omega)⟩
   rw [cY,List.replicate_succ']
   simpa [aE,cY] using e6
 · have e1 : ¬ (j : Int) < n := by omega
   obtain rfl : j = n := by omega
   simp only [go_sem,e1]
   exact hG
theorem jC {l : List Int} {i : Nat} (h : i < l.length) : (aE l)[i]? = some (.int .i64 (l.getD i 0)) := by rw [lU,qA h,getD_at h]; rfl
theorem mY {p i : Nat} {st : List Int} (hi : i < p) : (st.take p).getD i 0 = st.getD i 0 := by
 rw [List.getD_eq_getElem?_getD,List.getD_eq_getElem?_getD,List.getElem?_take_of_lt hi]
theorem SlI.getD_at {x : AV} {l : List Int} (a : SlI w0 h x l) {j : Nat} (hj : j < l.length) : ∃ p : Pl,dO 1 x (some j) = some (.ptr p) ∧ (∀ L,rd w0 (h ++ L) p = some (.int .i64 (l.getD j 0))) ∧ rd w0 h p = some (.int .i64 (l.getD j 0)) := by
 obtain ⟨p,a1,a2,a3⟩ := a.at_ hj
 rw [Ab.getD_at hj]; exact ⟨p,a1,a2,a3⟩
theorem eF {l : List Int} {i : Nat} {x : Int} (hi : i < l.length) : (aE l).take i ++ .int .i64 x :: (aE l).drop (i + 1) = aE (l.set i x) := by
 rw [lF (by rw [bC]; omega)]; simp [aE,List.map_set]
end Go.Proofs.Ab

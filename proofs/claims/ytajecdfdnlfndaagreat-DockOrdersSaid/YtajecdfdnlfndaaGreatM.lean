/- The own layer under the proofs of this seat, part M: what calls of the program come to on an abstract heap. No condition. -/
import Derived.Test.YtajecdfdnlfndaaGreatK
set_option linter.unusedSimpArgs false
set_option linter.unusedVariables false
namespace Go.Proofs.Ab
open Go Go.Proofs
variable {w0 : World} {h : Heap}
attribute [local irreducible] ACall aR bV bD cN rvC lp rg dr ex un rv
theorem Gro.len {H : Heap} {es n : Nat} {ov : AV} {vs : List AV} (g : Gro h H es n ov vs) : kO ov = some (.int .i64 n) := by
 rcases g.own with ⟨rfl,rfl,_⟩ | ⟨_,_,_,rfl,_⟩ <;> rfl
theorem cJ.setN {o : Nat} {A B : Heap} (k : cJ [o] A B) : aI (A.set o none) B := ⟨by simpa using k.le,fun i b e => by
 by_cases hi : o = i
 · subst hi
   have := aH e
   rw [List.length_set] at this
   rw [qF this] at e; cases e
 · rw [qB hi] at e
   exact k.at_ _ _ (by simp only [List.mem_singleton]; exact fun x => hi x.symm) e⟩
structure jY (h0 H : Heap) (o : Nat) (ov : AV) (out : List Int) : Prop where
 keep : cJ [o] h0 H
 box : H[o]? = some (some (.row [ov]))
 val : (ov = .nilS ∧ out = []) ∨ ∃ io c,h0.length ≤ io ∧ ov = .sl (.own io 0) out.length 1 false ∧ H[io]? = some (some (.row c)) ∧ out.length ≤ c.length ∧ c.take out.length = aF out
theorem jY.len {h0 H : Heap} {o : Nat} {ov : AV} {out : List Int} (a : jY h0 H o ov out) : kO ov = some (.int .i64 out.length) := by
 rcases a.val with ⟨rfl,rfl⟩ | ⟨io,c,_,rfl,_⟩ <;> rfl
theorem jY.slI {h0 H : Heap} {o : Nat} {ov : AV} {out : List Int} (a : jY h0 H o ov out) : SlI w0 H ov out := by
 rcases a.val with ⟨rfl,rfl⟩ | ⟨io,c,h1,rfl,h3,h4,h5⟩
 · exact .inl ⟨rfl,rfl⟩
 · refine .inr ⟨_,false,⟨1,by rw [List.length_map],eJ⟩,by simp only [Pl.bdd]; exact aH h3,fun j d hd => ?_⟩
   rw [List.getElem?_map,qD] at hd
   obtain ⟨x,hx,rfl⟩ := hd
   have hj := aH hx
   simp only [Pl.add,rdn,h3]
   rw [if_pos (by omega)]
   have : (c.take out.length)[j]? = (aF out)[j]? := by rw [h5]
   rw [List.getElem?_take,if_pos hj,lT,hx] at this
   have hc : j < c.length := by omega
   rw [qA hc] at this
   simp only [Option.map_some,Option.some.injEq] at this
   simp only [Nat.zero_add,Nat.mul_one,List.drop_eq_getElem_cons hc,this,List.take_succ_cons,List.take_zero]
theorem jY.app {h0 H L : Heap} {o : Nat} {ov : AV} {out : List Int} (a : jY h0 H o ov out) : jY h0 (H ++ L) o ov out := by
 refine ⟨a.keep.app,aA a.box,?_⟩
 rcases a.val with h1 | ⟨io,c,h1,h2,h3,h4,h5⟩
 · exact .inl h1
 · exact .inr ⟨io,c,h1,h2,aA h3,h4,h5⟩
theorem jY.more {h0 H : Heap} {o k : Nat} {ov : AV} {out : List Int} (a : jY h0 H o ov out) (ho : o < h0.length) {f : Bool} {x : Int} (hk : H[k]? = some (some (.row [.int .i64 x]))) (hn : out.length ≤ 1000) :
 ∃ G,dR w0 H 1 8 ov (.sl (.own k 0) 1 1 f) = some (.sl (.own H.length 0) (out.length + 1) 1 false,G) ∧ G[o]? = some (some (.row [ov])) ∧ G.length = H.length + 1 ∧
  jY h0 (G.set o (some (.row [.sl (.own H.length 0) (out.length + 1) 1 false]))) o (.sl (.own H.length 0) (out.length + 1) 1 false) (out ++ [x]) := by
 have r1 : rdn w0 H (.own k 0) (1 * 1) = some [.int .i64 x] := by simp [rdn,hk]
 have hkl := a.keep.le
 rcases a.val with ⟨rfl,rfl⟩ | ⟨io,c,h1,rfl,h3,h4,h5⟩
 · refine ⟨H ++ [some (.row [.int .i64 x])],?_,aA a.box,by simp,(a.keep.app).set (.inl (by simp)),by rw [qF (by simp; omega)],.inr ⟨H.length,[.int .i64 x],by omega,rfl,?_,by simp,rfl⟩⟩
   · simp only [dR,eZ,eJ,if_true,r1,Option.map_some,Option.bind_some]
     rw [if_neg (by omega),if_pos ⟨by omega,rfl⟩]
     simp [eV]
   · rw [qB (by omega),qI (Nat.le_refl _),Nat.sub_self]; rfl
 · have hio := aH h3
   have r2 : rdn w0 H (.own io 0) (out.length * 1) = some (aF out) := by
    simp only [rdn,h3]
    rw [if_pos (by omega),List.drop_zero,Nat.mul_one,h5]
   rw [Nat.mul_one] at r2
   refine ⟨H.set io none ++ [some (.row (aF out ++ [.int .i64 x]))],?_,aA (by rw [qB (by omega)]; exact a.box),by simp,?_,by rw [qF (by simp; omega)],.inr ⟨H.length,aF out ++ [.int .i64 x],by omega,by simp,?_,by simp,?_⟩⟩
   · simp only [dR,eZ,eJ,if_true,r1,Option.map_some,Option.bind_some]
     rw [if_neg (by omega),if_pos ⟨trivial,by omega,rfl⟩]
     simp [r2]
   · exact ((a.keep.set (.inr h1)).app).set (.inl (by simp))
   · rw [qB (by omega),qI (by simp)]; simp
   · rw [List.take_of_length_le (by simp)]; simp [aF]
theorem jY.less {h0 H : Heap} {o : Nat} {ov : AV} {out : List Int} {x : Int} (a : jY h0 H o ov (out ++ [x])) (ho : o < h0.length) : ∃ io,ov = .sl (.own io 0) (out.length + 1) 1 false ∧ jY h0 (H.set o (some (.row [.sl (.own io 0) out.length 1 false]))) o (.sl (.own io 0) out.length 1 false) out := by
 have hkl := a.keep.le
 rcases a.val with ⟨_,h1⟩ | ⟨io,c,h1,h2,h3,h4,h5⟩
 · simp at h1
 · simp only [List.length_append,List.length_singleton] at h2 h4 h5
   refine ⟨io,h2,a.keep.set (.inl (by simp)),by rw [qF (by omega)],.inr ⟨io,c,h1,rfl,by rw [qB (by omega)]; exact h3,by omega,?_⟩⟩
   have := congrArg (List.take out.length) h5
   rw [List.take_take,Nat.min_eq_left (by omega)] at this
   rw [this]; simp [aF]
theorem xE {x y : AV} {a b : List Int} (hx : SlI w0 h x a) (hy : SlI w0 h y b) (hn : a.length < 1000000) : bD Tryz.prog w0 25 [x,y] h (.bool (kQ a b)) h := by
 refine bC aX aCr mf25_b mf25_g (qE rfl) (by simp [AV.bdd,AV.bdds]) fun hb ha => bB ?_
 have la := (SlI.use hx).1
 have lb := (SlI.use hy).1
 simp only [go_sem,mf25]
 refine iJ (fun j => [(0,x),(1,y),(5,.int .i64 j)]) (fun j => a[j]? = b[j]?) (min a.length b.length) rfl (fun j hj hall ih => ?_) (fun hall => ?_)
 all_goals
  have hb' : ∀ j,j ≤ a.length → j ≤ b.length → (∀ i,i < j → a[i]? = b[i]?) → kQ a b = kQ (a.drop j) (b.drop j) := fun j h1 h2 h3 => by
   have : a.take j = b.take j := List.ext_getElem? fun i => by
    rw [List.getElem?_take,List.getElem?_take]; split
    · rename_i hi; exact h3 i hi
    · rfl
   have e := aBi (a.take j) (a.drop j) (b.drop j)
   rwa [List.take_append_drop,this,List.take_append_drop] at e
 · refine aZ aX wM [0,1,5] L25_0.eq_1 ?_
   have hja : j < a.length := by omega
   have hb2 : j < b.length := by omega
   obtain ⟨p1,i1,r1,r1'⟩ := SlI.at_ hx hja
   obtain ⟨p2,i2,r2,r2'⟩ := SlI.at_ hy hb2
   have e1 : (j : Int) < a.length := by omega
   have e2 : (j : Int) < b.length := by omega
   have hbd := hb' j (by omega) (by omega) hall
   rw [List.drop_eq_getElem_cons hja,List.drop_eq_getElem_cons hb2,kQ] at hbd
   by_cases q1 : a[j] = b[j]
   · simp only [go_sem,la,lb,e1,e2,i1,i2,r1,r2,r1',r2',q1]
     exact ⟨(by unfold I64; omega),ih (by rw [qA hja,qA hb2,q1])⟩
   · simp only [go_sem,la,lb,e1,e2,i1,i2,r1,r2,r1',r2',q1]
     rw [hbd,if_neg q1]
 · refine aZ aX wM [0,1,5] L25_0.eq_1 ?_
   have hbd := hb' (min a.length b.length) (by omega) (by omega) hall
   have hf : kQ a b = false := by
    rw [hbd]
    by_cases hc : a.length ≤ b.length
    · rw [List.drop_of_length_le (by omega)]; rfl
    · rw [List.drop_of_length_le (l := b) (by omega)]
      cases a.drop (min a.length b.length) <;> rfl
   by_cases hc : a.length ≤ b.length
   · have e1 : ¬ ((min a.length b.length : Nat) : Int) < a.length := by omega
     simp only [go_sem,la,lb,e1]
     rw [hf]
   · have e1 : ((min a.length b.length : Nat) : Int) < a.length := by omega
     have e2 : ¬ ((min a.length b.length : Nat) : Int) < b.length := by omega
     simp only [go_sem,la,lb,e1,e2]
     rw [hf]
theorem Gro.base {H X : Heap} {es n : Nat} {ov : AV} {vs : List AV} (g : Gro X H es n ov vs) (s : aI h X) : Gro h H es n ov vs := by
 refine ⟨s.trans g.sub,?_⟩
 rcases g.own with h1 | ⟨io,h1,h2⟩
 · exact .inl h1
 · exact .inr ⟨io,Nat.le_trans s.1 h1,h2⟩
def eM (n : Nat) : List Int := List.replicate n (-1)
theorem aA4 : bD Tryz.prog w0 85 [] h (.agg (aF (eM 4))) h := by
 refine fU (by simp [AV.bdd]) (bA aX uO aAg aAf (qE rfl) fun hb ha => bB ?_)
 simp only [go_sem,mf85]
 iterate 4
  refine aZ aX wI [0,1,3] L85_0.eq_1 ?_
  simp only [go_sem]
  try refine ⟨(by unfold I64; omega),?_⟩
 refine aZ aX wI [0,1,3] L85_0.eq_1 ?_
 simp only [go_sem]
 exact ⟨aI.refl.app,rfl⟩
theorem zX (n : Nat) (hn : n ≤ 1000) : ACall Tryz.prog w0 53 [.int .i64 n] h fun y H => Gro h H 1 n y (aF (eM n)) := by
 refine bA aX aCl mf53_b mf53_g (qE rfl) fun hb ha => bB ?_
 simp only [go_sem,mf53]
 refine iI (S := Nat × Heap × AV) (F := fun s => [(0,.int .i64 n),(3,s.2.2),(4,.int .i64 s.1)]) (H := fun s => s.2.1) (meas := fun s => n - s.1) (Inv := fun s => s.1 ≤ n ∧ Gro h s.2.1 1 s.1 s.2.2 (aF (eM s.1))) (0,h,.nilS) ⟨Nat.zero_le _,by simpa [aF,eM] using Gro.nil aI.refl⟩ rfl (by simp) ?_
 rintro ⟨j,H,ov⟩ ⟨hj,hG⟩ ih
 simp only at hj hG ih ⊢
 refine aZ aX aDQ [0,3,4] L53_0.eq_1 ?_
 by_cases hjl : j < n
 · have e1 : (j : Int) < n := by omega
   simp only [go_sem,e1]
   obtain ⟨Y,eY⟩ : ∃ Y,Y = H ++ [some (Blk.row [.int .i64 (-1)])] := ⟨_,rfl⟩
   have gY : Gro h Y 1 j ov (aF (eM j)) := eY ▸ hG.app
   have hkk : Y[H.length]? = some (some (.row [.int .i64 (-1)])) := by rw [eY,qI (Nat.le_refl _),Nat.sub_self]; rfl
   obtain ⟨G2,e5,e6⟩ := gY.more (w0 := w0) (b := 8) (f := true) hkk rfl rfl (by omega) (by omega)
   rw [← eY,e5]
   simp only [go_sem]
   refine ⟨(by unfold I64; omega),ih (j + 1,G2,_) ⟨by simp only; omega,?_⟩ (by simp only; omega)⟩
   rw [eM,List.replicate_succ']
   simpa [aF,eM] using e6
 · have e1 : ¬ (j : Int) < n := by omega
   obtain rfl : j = n := by omega
   simp only [go_sem,e1]
   exact hG
theorem fP {l : List Int} {i : Nat} (h : i < l.length) : (aF l)[i]? = some (.int .i64 (l.getD i 0)) := by rw [lT,qA h,getD_at h]; rfl
theorem mT {p i : Nat} {st : List Int} (hi : i < p) : (st.take p).getD i 0 = st.getD i 0 := by
 rw [List.getD_eq_getElem?_getD,List.getD_eq_getElem?_getD,List.getElem?_take_of_lt hi]
theorem SlI.getD_at {x : AV} {l : List Int} (a : SlI w0 h x l) {j : Nat} (hj : j < l.length) : ∃ p : Pl,dM 1 x (some j) = some (.ptr p) ∧ (∀ L,rd w0 (h ++ L) p = some (.int .i64 (l.getD j 0))) ∧ rd w0 h p = some (.int .i64 (l.getD j 0)) := by
 obtain ⟨p,a1,a2,a3⟩ := a.at_ hj
 rw [Ab.getD_at hj]; exact ⟨p,a1,a2,a3⟩
theorem eF {l : List Int} {i : Nat} {x : Int} (hi : i < l.length) : (aF l).take i ++ .int .i64 x :: (aF l).drop (i + 1) = aF (l.set i x) := by
 rw [lE (by rw [bF]; omega)]; simp [aF,List.map_set]
end Go.Proofs.Ab

/- The own layer under the proofs of this seat, part O: what calls of the program come to on an abstract heap. No condition. -/
import Derived.Test.YtajecdfdnlfndaaGreatN
import Derived.Test.YtajecdfdnlfndaaGreatK
import Derived.Test.YtajecdfdnlfndaaGreatM
set_option linter.unusedSimpArgs false
set_option linter.unusedVariables false
namespace Go.Proofs.Ab
open Go Go.Proofs
variable {w0 : World} {h : aA}
attribute [local irreducible] ACall bC cM bG dO rvC lp rg dr ex un rv
theorem nG {progs : List (List aF)} {st : List Int} {j : Nat} (hs : lE progs st) (hj : j < progs.length) : (stepS progs st j).isSome = decide (st.getD j 0 < (progs[j].length : Int)) := by
 obtain ⟨d1,d2⟩ := hs.done j hj
 rw [getD_at hj] at d2
 rw [stepS,getD_at hj]
 by_cases q : st.getD j 0 < (progs[j].length : Int)
 · rw [qA (by omega),decide_eq_true q]; rfl
 · rw [List.getElem?_eq_none (by omega),decide_eq_false q]; rfl
theorem zO {v hv dv : AV} {progs : List (List aF)} {st : List Int} {n : Nat} (hp : PS w0 h v progs) (hh : SlI w0 h hv (hoS n st)) (hd : SlI w0 h dv (st.take progs.length)) (g : PG n progs) (hs : lE progs st) :
 bG Tryz.prog w0 44 [v,hv,dv] h (.bool (cT progs st)) h := by
 refine aX aW aDU mf44_b mf44_g (qE rfl) (by simp [AV.bdd,AV.bdds]) fun hb ha => bF ?_
 have hlen := hp.len
 have hl8 := hs.len
 have p4 := g.p4
 simp only [go_sem,mf44]
 refine cU (S := Nat) (F := fun j => [(0,v),(1,hv),(2,dv),(7,.bool ((List.range j).any fun w => (stepS progs st w).isSome)),(8,.int .i64 j)]) (H := fun _ => h) (meas := fun j => progs.length - j) (Inv := fun j => j ≤ progs.length ∧ ∀ w,w < j → aY progs st w = none) 0 ⟨Nat.zero_le _,fun w hw => by omega⟩ rfl (by simp) ?_
 rintro j ⟨hj,hall⟩ ih
 refine aT aW aFG [0,1,2,7,8] L44_0.eq_1 ?_
 by_cases hjl : j < progs.length
 · have e1 : (j : Int) < progs.length := by omega
   simp only [go_sem,hlen,e1]
   refine aI (aCO hp hh hd g.good hs hjl p4 g.n4 g.th).v ?_
   cases hns : aY progs st j with
   | some s =>
    simp only [go_sem,Option.isSome]
    rw [show cT progs st = false from Bool.eq_false_iff.2 fun e => by rw [fH] at e; rw [e.1 j hjl] at hns; cases hns]
    exact ⟨rfl,[],by simp⟩
   | none =>
    obtain ⟨p,sv,i1,r1,r1',hx⟩ := hp.at_ hjl
    obtain ⟨p2,j1,q1,q1'⟩ := hd.getD_at (j := j) (by rw [List.length_take]; omega)
    rw [dB hjl] at q1 q1'
    have hls : gA sv = some (.int .i64 progs[j].length) := by have := hx.use.1; rwa [List.length_map] at this
    have hsl := nG hs hjl
    have ih := ih (j + 1) ⟨by omega,fun w hw => by
     by_cases q : w = j
     · subst q; exact hns
     · exact hall w (by omega)⟩ (by omega)
    rw [List.range_succ,List.any_append,List.any_cons,List.any_nil,Bool.or_false,hsl] at ih
    cases hany : (List.range j).any fun w => (stepS progs st w).isSome with
    | true =>
     rw [hany,Bool.true_or] at ih
     simp only [go_sem,Option.isSome,hlen]
     exact ⟨(by unfold I64; omega),ih⟩
    | false =>
     rw [hany,Bool.false_or] at ih
     simp only [go_sem,Option.isSome,hlen,i1,r1,r1',j1,q1,q1',hls]
     exact ⟨(by unfold I64; omega),ih⟩
 · have e1 : ¬ (j : Int) < progs.length := by omega
   obtain rfl : j = progs.length := by omega
   have : cT progs st = (List.range progs.length).any fun w => (stepS progs st w).isSome := by
    rw [cT,show ((List.range progs.length).all fun w => (aY progs st w).isNone) = true from List.all_eq_true.2 fun w hw => by rw [hall w (List.mem_range.1 hw)]; rfl,Bool.true_and]
   simp only [go_sem,hlen,e1]
   rw [this]
   exact ⟨rfl,[],by simp⟩
theorem vM {progs : List (List aF)} {st : List Int} (hs : cT progs st = true) : cV progs st < progs.length ∧ (stepS progs st (cV progs st)).isSome = true ∧ ∀ w,w < cV progs st → (stepS progs st w).isSome = false := by
 have h1 := hs
 rw [nE,Bool.and_eq_true] at hs
 obtain ⟨u,hu⟩ := Option.isSome_iff_exists.1 hs.1
 have hw := wJ hu
 have hf : cV progs st = u := by rw [cV,hu]; rfl
 rw [hf]
 refine ⟨hw.1,hw.2,fun w hwu => ?_⟩
 rw [cQ,List.find?_range_eq_some] at hu
 have := hu.2.2 w hwu
 rw [(fH.1 h1).1 w (by omega)] at this
 simpa using this
theorem aBc {v hv dv : AV} {progs : List (List aF)} {st : List Int} {n : Nat} (hp : PS w0 h v progs) (hh : SlI w0 h hv (hoS n st)) (hd : SlI w0 h dv (st.take progs.length)) (g : PG n progs) (r : RS n progs st) (hs : cT progs st = true) :
 ACall Tryz.prog w0 92 [v,hv,dv] h fun y H => aE h H ∧ SlI w0 H y (nis (eG progs st 5 (cV progs st) [])) := by
 refine bH aW aDC mf92_b mf92_g (qE rfl) fun hb ha => bF ?_
 obtain ⟨hf1,hf2,hf3⟩ := vM hs
 obtain ⟨C,hC⟩ : ∃ C,C = eG progs st 5 (cV progs st) [] := ⟨_,rfl⟩
 rw [← hC]
 have hst := r.ok
 have hl8 := hst.len
 have p4 := g.p4
 have n4 := g.n4
 have hstk := (fH.1 hs).1
 have acc : ∀ w,w < progs.length → ∃ (p : Pl) (sv : AV) (p2 : Pl),dG 1 v (some w) = some (.ptr p) ∧ (∀ L,rd w0 (h ++ L) p = some sv) ∧ rd w0 h p = some sv ∧ gA sv = some (.int .i64 (progs.getD w []).length) ∧ Sl w0 h 2 sv ((progs.getD w []).map aF.c) ∧
  dG 1 dv (some w) = some (.ptr p2) ∧ (∀ L,rd w0 (h ++ L) p2 = some (.int .i64 (st.getD w 0))) ∧ rd w0 h p2 = some (.int .i64 (st.getD w 0)) := fun w hw => by
  obtain ⟨p,sv,i1,r1,r1',hx⟩ := hp.at_ hw
  obtain ⟨p2,j1,q1,q1'⟩ := hd.getD_at (j := w) (by rw [List.length_take]; omega)
  rw [dB hw] at q1 q1'
  rw [getD_at hw]
  exact ⟨p,sv,p2,i1,r1,r1',by have := hx.use.1; rwa [List.length_map] at this,hx,j1,q1,q1'⟩
 simp only [go_sem,mf92]
 refine cU (S := Nat) (F := fun j => [(0,v),(1,hv),(2,dv),(7,.int .i64 j)]) (H := fun _ => h) (meas := fun j => cV progs st - j) (Inv := fun j => j ≤ cV progs st) 0 (Nat.zero_le _) rfl (by simp) ?_
 intro j hj ih
 refine aT aW aFC [0,1,2,7] L92_0.eq_1 ?_
 obtain ⟨p,sv,p2,i1,r1,r1',hls,hx,j1,q1,q1'⟩ := acc j (by omega)
 have hsl := nG hst (show j < progs.length by omega)
 rw [← getD_at (d := []) (show j < progs.length by omega)] at hsl
 by_cases hjf : j < cV progs st
 · rw [hf3 j hjf] at hsl
   have e1 : st.getD j 0 ≥ ((progs.getD j []).length : Int) := by have := of_decide_eq_false hsl.symm; omega
   simp only [go_sem,i1,r1,r1',j1,q1,q1',hls,e1]
   exact ⟨(by unfold I64; omega),ih (j + 1) (by omega) (by omega)⟩
 · obtain rfl : j = cV progs st := by omega
   rw [hf2] at hsl
   have e1 : ¬ st.getD (cV progs st) 0 ≥ ((progs.getD (cV progs st) []).length : Int) := by have := of_decide_eq_true hsl.symm; omega
   simp only [go_sem,i1,r1,r1',j1,q1,q1',hls,e1]
   refine cU (S := Nat × Nat × List Nat × aA × AV) (F := fun s => [(0,v),(1,hv),(2,dv),(7,.int .i64 s.2.1),(8,s.2.2.2.2)]) (H := fun s => s.2.2.2.1) (meas := fun s => s.1)
    (Inv := fun s => C = eG progs st s.1 s.2.1 s.2.2.1 ∧ s.2.1 < progs.length ∧ s.2.2.1.Nodup ∧ (∀ x ∈ s.2.2.1,x < progs.length) ∧ s.2.2.1.length + s.1 = 5 ∧ Gro h s.2.2.2.1 1 s.2.2.1.length s.2.2.2.2 (aK (nis s.2.2.1)))
    (5,cV progs st,[],h,.nilS) ⟨hC,hf1,by simp,fun x hx => by simp at hx,rfl,by simpa [aK,nis] using Gro.nil aE.refl⟩ rfl rfl ?_
   rintro ⟨k,wh,out,H,ov⟩ ⟨hc,hwl,hnd,hlt,hk,hG⟩ ih
   simp only at hc hwl hnd hlt hk hG ih ⊢
   have hlen := fT (a := out) (b := List.range progs.length) hnd fun x hx => List.mem_range.2 (hlt x hx)
   rw [List.length_range] at hlen
   obtain ⟨k,rfl⟩ : ∃ j,k = j + 1 := ⟨k - 1,by omega⟩
   rw [eG] at hc
   refine aT aW aFB [0,1,2,7,8] L92_1.eq_1 ?_
   have hsub := hG.sub
   obtain ⟨p,sv,p2,i1,r1,r1',hls,hx,j1,q1,q1'⟩ := acc wh hwl
   have hsl := nG hst hwl
   rw [← getD_at (d := []) hwl] at hsl
   have y1 := hsub.rd r1'
   have y2 := hsub.rd q1'
   obtain ⟨Y,eY⟩ : ∃ Y,Y = H ++ [some (Blk.row [.int .i64 (wh : Int)])] := ⟨_,rfl⟩
   have gY : Gro h Y 1 out.length ov (aK (nis out)) := eY ▸ hG.app
   have hkk : Y[H.length]? = some (some (.row [.int .i64 (wh : Int)])) := by rw [eY,qI (Nat.le_refl _),Nat.sub_self]; rfl
   obtain ⟨G2,e5,e6⟩ := gY.more (w0 := w0) (b := 8) (f := true) hkk rfl rfl (by omega) (by omega)
   have e7 : Gro h G2 1 (out.length + 1) (.sl (.own Y.length 0) (out.length + 1) 1 false) (aK (nis (out ++ [wh]))) := by
    rw [sS]; simpa [aK] using e6
   have hYl : Y.length = H.length + 1 := by rw [eY]; simp
   rw [hYl] at e5 e7
   rw [eY] at e5
   simp only [go_sem]
   refine aI (uV wh (hG.sli fD.symm) (by rw [fD]; omega)).v ?_
   by_cases hm : wh ∈ out
   · rw [if_pos hm] at hc
     rw [decide_eq_true (mP.2 hm)]
     simp only [go_sem,e5]
     refine ⟨e7.sub,?_⟩
     rw [hc]; exact e7.sli (by rw [fD]; simp)
   · rw [if_neg hm] at hc
     rw [decide_eq_false (fun h => hm (mP.1 h))]
     cases hss : stepS progs st wh with
     | none =>
      rw [hss] at hc hsl
      simp only at hc
      have e1 : ¬ st.getD wh 0 < ((progs.getD wh []).length : Int) := of_decide_eq_false hsl.symm
      simp only [go_sem,i1,y1,j1,y2,hls,e1,e5]
      refine ⟨e7.sub,?_⟩
      rw [hc]; exact e7.sli (by rw [fD]; simp)
     | some s =>
      rw [hss] at hc hsl
      simp only at hc
      have e1 : st.getD wh 0 < ((progs.getD wh []).length : Int) := of_decide_eq_true hsl.symm
      obtain ⟨k1,⟨t,ht,htn⟩,h3,h4⟩ := nF g r hstk hwl hss
      have ht2 : s.thing.toNat = t := by omega
      rw [ht2] at h4
      obtain ⟨d1,d2⟩ := hst.done wh hwl
      obtain ⟨d,hdd⟩ : ∃ d : Nat,st.getD wh 0 = d := ⟨(st.getD wh 0).toNat,by omega⟩
      rw [hdd] at e1 q1 q1' y2
      have hdl : d < (progs.getD wh []).length := by omega
      have hxd : (progs.getD wh [])[d]? = some s := by rw [stepS,hdd] at hss; exact hss
      obtain ⟨_,q2,hix,hrow,_⟩ := hx.use
      rw [List.length_map] at hix
      have e3 := hix d hdl
      have r0 := hrow d _ (by rw [List.getElem?_map,hxd]; rfl)
      have f1' := uY r0 (o := 1) rfl
      rw [ht] at f1'
      have g2s := e7.sub
      have f1 := g2s.rd f1'
      have z1 := g2s.rd r1'
      have z2 := g2s.rd q1'
      obtain ⟨p3,m1,m2,m2'⟩ := hh.getD_at (j := t) (by rw [mX n4 hl8]; omega)
      rw [tK htn hl8 n4,h4] at m2'
      have m3 := g2s.rd m2'
      simp only [go_sem,i1,y1,j1,y2,hls,e1,e5,z1,z2,e3,f1,m1,m3]
      refine ih (k,kU st s,out ++ [wh],G2,_) ⟨hc,h3,?_,fun x hx => ?_,by simp; omega,by simpa using e7⟩ (by simp only; omega)
      · rw [List.nodup_append]
        exact ⟨hnd,by simp,fun y hy z hz e2 => by simp at hz; subst hz; subst e2; exact hm hy⟩
      · rcases List.mem_append.1 hx with hx | hx
        · exact hlt x hx
        · simp at hx; omega
def LI (w0 : World) (B : aA) (sv : AV) (x : List Int) : Prop := SlI w0 B sv x ∧ (x = [] → sv = .nilS)
theorem LI.sub {B C : aA} {sv : AV} {x : List Int} (a : LI w0 B sv x) (s : aE B C) : LI w0 C sv x := ⟨Sl.sub a.1 s,a.2⟩
def LLo (w0 : World) (B H : aA) (ov : AV) (l : List (List Int)) : Prop := (ov = .nilS ∧ l = []) ∨ ∃ io f c,(l ≠ [] ∧ ov = .sl (.own io 0) l.length 1 f) ∧ H[io]? = some (some (.row c)) ∧ c.length = l.length ∧ (∀ b,B[io]? ≠ some (some b)) ∧ ∀ (j : Nat) x,l[j]? = some x → ∃ sv,c[j]? = some sv ∧ LI w0 B sv x
def cA : AV → Option Nat
 | .sl (.own i _) _ _ _ => some i
 | _ => none
section
variable {B H : aA} {ov : AV} {l : List (List Int)}
theorem LLo.len (a : LLo w0 B H ov l) : gA ov = some (.int .i64 l.length) := by
 rcases a with ⟨rfl,rfl⟩ | ⟨io,f,c,⟨hne,rfl⟩,_⟩ <;> rfl
theorem LLo.at_ (a : LLo w0 B H ov l) (s : aE B H) {j : Nat} (hj : j < l.length) : ∃ (p : Pl) (sv : AV),dG 1 ov (some j) = some (.ptr p) ∧ (∀ L,rd w0 (H ++ L) p = some sv) ∧ rd w0 H p = some sv ∧ LI w0 B sv l[j] := by
 rcases a with ⟨rfl,rfl⟩ | ⟨io,f,c,⟨hne,rfl⟩,h2,h3,h4,h5⟩
 · simp at hj
 · obtain ⟨sv,h6,h7⟩ := h5 j _ (qA hj)
   have : rd w0 H (.own io j) = some sv := by simp [rd,h2,h6]
   exact ⟨.own io j,sv,by rw [vC hj,Nat.mul_one],fun L => qN this,this,h7⟩
theorem LLo.mv {C G : aA} (a : LLo w0 B H ov l) (s : aE B C) (k : ∀ i b,cA ov = some i → H[i]? = some (some b) → G[i]? = some (some b) ∧ ∀ c,C[i]? ≠ some (some c)) : LLo w0 C G ov l := by
 rcases a with h1 | ⟨io,f,c,⟨hne,rfl⟩,h2,h3,h4,h5⟩
 · exact .inl h1
 · obtain ⟨k1,k2⟩ := k io _ rfl h2
   exact .inr ⟨io,f,c,⟨hne,rfl⟩,k1,h3,k2,fun j x hx => by
    obtain ⟨sv,g1,g2⟩ := h5 j x hx
    exact ⟨sv,g1,g2.sub s⟩⟩
theorem LLo.lt (a : LLo w0 B H ov l) {i : Nat} (e : cA ov = some i) : (∃ b,H[i]? = some (some b)) ∧ ∀ b,B[i]? ≠ some (some b) := by
 rcases a with ⟨rfl,_⟩ | ⟨io,f,c,⟨hne,rfl⟩,h2,h3,h4,h5⟩
 · cases e
 · cases e; exact ⟨⟨_,h2⟩,h4⟩
end
theorem aAm {B H : aA} {ov xv : AV} {l : List (List Int)} {x : List Int} (a : LLo w0 B H ov l) (s : aE B H) (hx : SlI w0 H xv x) (hn : l.length < 1000000) (hn2 : ∀ y ∈ l,y.length < 1000000) (hn3 : x.length < 1000000) : bG Tryz.prog w0 94 [ov,xv] H (.bool (decide (x ∈ l))) H := by
 refine aX aW aDA mf94_b mf94_g (qE rfl) (by simp [AV.bdd,AV.bdds]) fun hb ha => bF ?_
 have hlen := a.len
 simp only [go_sem,mf94]
 refine gU (fun j => [(0,ov),(1,xv),(5,.int .i64 j)]) (fun j => ∀ y,l[j]? = some y → x ≠ y) l.length rfl (fun j hj hall ih => ?_) (fun hall => ?_)
 · refine aT aW yX [0,1,5] L94_0.eq_1 ?_
   have e1 : (j : Int) < l.length := by omega
   obtain ⟨p,sv,i1,r1,r1',h1⟩ := a.at_ s hj
   simp only [go_sem,hlen,e1,i1,r1,r1']
   refine aI (qJ (Sl.app (Sl.sub h1.1 s)) (Sl.app hx) (hn2 _ (qG hj))).v ?_
   by_cases q : l[j] = x
   · rw [decide_eq_true q]
     simp only [go_sem]
     rw [decide_eq_true (q ▸ qG hj)]
   · rw [decide_eq_false q]
     simp only [go_sem]
     exact ⟨(by unfold I64; omega),ih fun y hy => by rw [qA hj] at hy; cases hy; exact fun e => q e.symm⟩
 · refine aT aW yX [0,1,5] L94_0.eq_1 ?_
   have e1 : ¬ (l.length : Int) < l.length := by omega
   simp only [go_sem,hlen,e1]
   have : x ∉ l := fun hm => by
    obtain ⟨i,hi,e⟩ := List.getElem_of_mem hm
    exact hall i hi _ (qA hi) e.symm
   rw [decide_eq_false this]
structure RQ (w0 : World) (h B H : aA) (nv : AV) (now : List (List Int)) (mv : AV) (met : List (List Int)) (xv : AV) (nxt : List (List Int)) : Prop where
 hB : aE h B
 BH : aE B H
 n : LLo w0 B H nv now
 m : LLo w0 B H mv met
 x : LLo w0 B H xv nxt
 mx : ∀ i,cA mv = some i → cA xv ≠ some i
 mn : ∀ i,cA mv = some i → cA nv ≠ some i
 xn : ∀ i,cA xv = some i → cA nv ≠ some i
 fm : mv = .nilS ∨ ∃ io n,mv = .sl (.own io 0) n 1 false
 fx : xv = .nilS ∨ ∃ io n,xv = .sl (.own io 0) n 1 false
def fI (H : aA) (o : Option Nat) : aA := match o with
 | none => H
 | some i => H.set i none
theorem gF {H : aA} {o : Option Nat} : aE (fI H o) H := by
 cases o with
 | none => exact aE.refl
 | some i => exact aE.msk
theorem eC {H : aA} {o : Option Nat} : (fI H o).length = H.length := by cases o <;> simp [fI]
theorem iY {B H : aA} {o : Option Nat} (s : aE B H) (f : ∀ i,o = some i → ∀ b,B[i]? ≠ some (some b)) : aE B (fI H o) := by
 cases o with
 | none => exact s
 | some i => exact s.setN (f i rfl)
theorem dC {H : aA} {o : Option Nat} {i : Nat} (hi : i < H.length) : (o = some i → (fI H o)[i]? = some none) ∧ (o ≠ some i → (fI H o)[i]? = H[i]?) := by
 cases o with
 | none => exact ⟨fun e => (by cases e),fun _ => rfl⟩
 | some j =>
  refine ⟨fun e => ?_,fun e => ?_⟩
  · cases e; simp only [fI]; rw [qF hi]
  · simp only [fI]; rw [qB fun q => e (by rw [q])]
section
variable {B H : aA} {nv mv xv : AV} {now met nxt : List (List Int)}
theorem RQ.sub (a : RQ w0 h B H nv now mv met xv nxt) : aE h H := a.hB.trans a.BH
theorem RQ.call (a : RQ w0 h B H nv now mv met xv nxt) {f : FuncId} {args : List AV} {K : AV → aA → Prop} (e : ∀ M,aE B M → aE M H → ACall Tryz.prog w0 f args M fun v H' => aE M H' ∧ K v H') :
 ACall Tryz.prog w0 f args H fun v H' => ∃ B',aE B B' ∧ RQ w0 h B' H' nv now mv met xv nxt ∧ K v B' := by
 obtain ⟨M,hM⟩ : ∃ M,M = fI (fI (fI H (cA nv)) (cA mv)) (cA xv) := ⟨_,rfl⟩
 have m1 : aE M H := hM ▸ (gF.trans gF).trans gF
 have m2 : aE B M := hM ▸ iY (iY (iY a.BH fun i e => (a.n.lt e).2) fun i e => (a.m.lt e).2) fun i e => (a.x.lt e).2
 have ml : M.length = H.length := by rw [hM,eC,eC,eC]
 have no : ∀ i b,(cA nv = some i ∨ cA mv = some i ∨ cA xv = some i) → H[i]? = some (some b) → M[i]? = some none := fun i b ho hb => by
  have hi := aL hb
  have h1 : i < (fI H (cA nv)).length := by rw [eC]; exact hi
  have h2 : i < (fI (fI H (cA nv)) (cA mv)).length := by rw [eC]; exact h1
  rw [hM]
  by_cases q3 : cA xv = some i
  · exact (dC h2).1 q3
  · rw [(dC h2).2 q3]
    by_cases q2 : cA mv = some i
    · exact (dC h1).1 q2
    · rw [(dC h1).2 q2]
      rcases ho with q1 | q1 | q1
      · exact (dC hi).1 q1
      · exact absurd q1 q2
      · exact absurd q1 q3
 refine ((e M m2 m1).frame m1 ml).mono fun v H' ⟨H0,⟨k1,k2⟩,k3,k4,k5⟩ => ?_
 refine ⟨H0,m2.trans k1,⟨a.hB.trans (m2.trans k1),k3,a.n.mv (m2.trans k1) fun i b e1 e2 => k5 i b (no i b (.inl e1) e2) e2,a.m.mv (m2.trans k1) fun i b e1 e2 => k5 i b (no i b (.inr (.inl e1)) e2) e2,a.x.mv (m2.trans k1) fun i b e1 e2 => k5 i b (no i b (.inr (.inr e1)) e2) e2,a.mx,a.mn,a.xn,a.fm,a.fx⟩,k2⟩
theorem RQ.app {L : aA} (a : RQ w0 h B H nv now mv met xv nxt) : RQ w0 h B (H ++ L) nv now mv met xv nxt :=
 ⟨a.hB,a.BH.app,a.n.mv aE.refl fun i b e1 e2 => ⟨aC e2,(a.n.lt e1).2⟩,a.m.mv aE.refl fun i b e1 e2 => ⟨aC e2,(a.m.lt e1).2⟩,a.x.mv aE.refl fun i b e1 e2 => ⟨aC e2,(a.x.lt e1).2⟩,a.mx,a.mn,a.xn,a.fm,a.fx⟩
theorem LLo.more {l : List (List Int)} {ov sv : AV} {x : List Int} {k : Nat} (a : LLo w0 B H ov l) (s : aE B H) (fm : ov = .nilS ∨ ∃ io n,ov = .sl (.own io 0) n 1 false) (hk : H[k]? = some (some (.row [sv]))) (hs : LI w0 B sv x) (hn : l.length ≤ 1000000) :
 ∃ G,cJ w0 H 1 24 ov (.sl (.own k 0) 1 1 true) = some (.sl (.own H.length 0) (l.length + 1) 1 false,G) ∧ G.length = H.length + 1 ∧ aE B G ∧ LLo w0 B G (.sl (.own H.length 0) (l.length + 1) 1 false) (l ++ [x]) ∧ ∀ i b,cA ov ≠ some i → H[i]? = some (some b) → G[i]? = some (some b) := by
 have key : ∃ io vs,(l.length = 0 ∧ ov = .nilS ∧ vs = [] ∨ l.length ≠ 0 ∧ ov = .sl (.own io 0) l.length 1 false ∧ H[io]? = some (some (.row vs)) ∧ vs.length = l.length * 1) ∧ (∀ (j : Nat) x,l[j]? = some x → ∃ sv,vs[j]? = some sv ∧ LI w0 B sv x) ∧ (l.length ≠ 0 → cA ov = some io ∧ ∀ b,B[io]? ≠ some (some b)) ∧ vs.length = l.length := by
  rcases a with ⟨h1,rfl⟩ | ⟨io,f,c,⟨h6,h1⟩,h2,h3,h4,h5⟩
  · exact ⟨0,[],.inl ⟨rfl,h1,rfl⟩,by simp,by simp,rfl⟩
  · have hf : f = false := by
     rcases fm with h | ⟨_,_,h⟩
     · rw [h1] at h; cases h
     · rw [h1] at h; cases h; rfl
    subst hf
    by_cases hl : l.length = 0
    · exact absurd (List.eq_nil_of_length_eq_zero hl) h6
    · exact ⟨io,c,.inr ⟨hl,h1,h2,by omega⟩,h5,fun _ => ⟨by rw [h1]; rfl,h4⟩,h3⟩
 obtain ⟨io,vs,k1,k2,k3,k4⟩ := key
 obtain ⟨G,g1,g2,g3,g4⟩ := oI (w0 := w0) (b := 24) (f := true) k1 hk rfl (by simp [SlI.one hs.1]) (by omega) hn
 have hBl := s.1
 have hN : ∀ b,B[H.length]? ≠ some (some b) := fun b e => by have := aL e; omega
 refine ⟨G,g1,g2,⟨by omega,fun i b e => g4 i _ (fun h0 e2 => (k3 h0).2 b (e2 ▸ e)) (s.2 i b e)⟩,.inr ⟨H.length,false,vs ++ [sv],⟨by simp,by simp⟩,g3,by simp [k4],hN,fun j y hy => ?_⟩,fun i b h1 e => g4 i _ (fun h0 e2 => h1 (by rw [e2]; exact (k3 h0).1)) e⟩
 by_cases hj : j < l.length
 · rw [qH hj] at hy
   obtain ⟨sv',q1,q2⟩ := k2 j y hy
   exact ⟨sv',by rw [qH (by omega)]; exact q1,q2⟩
 · have := aL hy
   simp only [List.length_append,List.length_singleton] at this
   obtain rfl : j = l.length := by omega
   rw [qI (Nat.le_refl _),Nat.sub_self] at hy
   simp at hy; subst hy
   exact ⟨sv,by rw [qI (by omega),k4,Nat.sub_self]; rfl,hs⟩
theorem RQ.grow (a : RQ w0 h B H nv now mv met xv nxt) : ∃ M,aE B M ∧ RQ w0 h M H nv now mv met xv nxt ∧ ∀ i b,(cA nv ≠ some i ∧ cA mv ≠ some i ∧ cA xv ≠ some i) → H[i]? = some (some b) → M[i]? = some (some b) := by
 obtain ⟨M,hM⟩ : ∃ M,M = fI (fI (fI H (cA nv)) (cA mv)) (cA xv) := ⟨_,rfl⟩
 have m1 : aE M H := hM ▸ (gF.trans gF).trans gF
 have m2 : aE B M := hM ▸ iY (iY (iY a.BH fun i e => (a.n.lt e).2) fun i e => (a.m.lt e).2) fun i e => (a.x.lt e).2
 have no : ∀ i b,(cA nv = some i ∨ cA mv = some i ∨ cA xv = some i) → H[i]? = some (some b) → ∀ c,M[i]? ≠ some (some c) := fun i b ho hb c hc => by
  have hi := aL hb
  have h1 : i < (fI H (cA nv)).length := by rw [eC]; exact hi
  have h2 : i < (fI (fI H (cA nv)) (cA mv)).length := by rw [eC]; exact h1
  rw [hM] at hc
  by_cases q3 : cA xv = some i
  · rw [(dC h2).1 q3] at hc; cases hc
  · rw [(dC h2).2 q3] at hc
    by_cases q2 : cA mv = some i
    · rw [(dC h1).1 q2] at hc; cases hc
    · rw [(dC h1).2 q2] at hc
      rcases ho with q1 | q1 | q1
      · rw [(dC hi).1 q1] at hc; cases hc
      · exact q2 q1
      · exact q3 q1
 refine ⟨M,m2,⟨a.hB.trans m2,m1,a.n.mv m2 fun i b e1 e2 => ⟨e2,no i b (.inl e1) e2⟩,a.m.mv m2 fun i b e1 e2 => ⟨e2,no i b (.inr (.inl e1)) e2⟩,a.x.mv m2 fun i b e1 e2 => ⟨e2,no i b (.inr (.inr e1)) e2⟩,a.mx,a.mn,a.xn,a.fm,a.fx⟩,fun i b ⟨n1,n2,n3⟩ e => ?_⟩
 have hi := aL e
 have h1 : i < (fI H (cA nv)).length := by rw [eC]; exact hi
 have h2 : i < (fI (fI H (cA nv)) (cA mv)).length := by rw [eC]; exact h1
 rw [hM,(dC h2).2 n3,(dC h1).2 n2,(dC hi).2 n1]; exact e
theorem RQ.moreM {sv : AV} {x : List Int} {k : Nat} (a : RQ w0 h B H nv now mv met xv nxt) (hk : H[k]? = some (some (.row [sv]))) (hs : LI w0 B sv x) (hn : met.length ≤ 1000000) :
 ∃ G,cJ w0 H 1 24 mv (.sl (.own k 0) 1 1 true) = some (.sl (.own H.length 0) (met.length + 1) 1 false,G) ∧ G.length = H.length + 1 ∧ RQ w0 h B G nv now (.sl (.own H.length 0) (met.length + 1) 1 false) (met ++ [x]) xv nxt ∧ ∀ i b,cA mv ≠ some i → H[i]? = some (some b) → G[i]? = some (some b) := by
 obtain ⟨G,g1,g2,g3,g4,g5⟩ := a.m.more a.BH a.fm hk hs hn
 have hN : ∀ {v : AV} {l : List (List Int)},LLo w0 B H v l → ∀ i,some H.length = some i → cA v ≠ some i := fun k i e e2 => by
  cases e
  obtain ⟨⟨b,hb⟩,_⟩ := k.lt e2
  have := aL hb; omega
 exact ⟨G,g1,g2,⟨a.hB,g3,a.n.mv aE.refl fun i b e1 e2 => ⟨g5 i b (fun e => a.mn i e e1) e2,(a.n.lt e1).2⟩,g4,a.x.mv aE.refl fun i b e1 e2 => ⟨g5 i b (fun e => a.mx i e e1) e2,(a.x.lt e1).2⟩,fun i e => hN a.x i e,fun i e => hN a.n i e,a.xn,.inr ⟨_,_,rfl⟩,a.fx⟩,g5⟩
theorem RQ.moreX {sv : AV} {x : List Int} {k : Nat} (a : RQ w0 h B H nv now mv met xv nxt) (hk : H[k]? = some (some (.row [sv]))) (hs : LI w0 B sv x) (hn : nxt.length ≤ 1000000) :
 ∃ G,cJ w0 H 1 24 xv (.sl (.own k 0) 1 1 true) = some (.sl (.own H.length 0) (nxt.length + 1) 1 false,G) ∧ G.length = H.length + 1 ∧ RQ w0 h B G nv now mv met (.sl (.own H.length 0) (nxt.length + 1) 1 false) (nxt ++ [x]) ∧ ∀ i b,cA xv ≠ some i → H[i]? = some (some b) → G[i]? = some (some b) := by
 obtain ⟨G,g1,g2,g3,g4,g5⟩ := a.x.more a.BH a.fx hk hs hn
 have hN : ∀ {v : AV} {l : List (List Int)},LLo w0 B H v l → ∀ i,some H.length = some i → cA v ≠ some i := fun k i e e2 => by
  cases e
  obtain ⟨⟨b,hb⟩,_⟩ := k.lt e2
  have := aL hb; omega
 exact ⟨G,g1,g2,⟨a.hB,g3,a.n.mv aE.refl fun i b e1 e2 => ⟨g5 i b (fun e => a.xn i e e1) e2,(a.n.lt e1).2⟩,a.m.mv aE.refl fun i b e1 e2 => ⟨g5 i b (fun e => a.mx i e1 e) e2,(a.m.lt e1).2⟩,g4,fun i e e2 => hN a.m i (by rw [← e2]; rfl) e,a.mn,fun i e => hN a.n i e,a.fm,.inr ⟨_,_,rfl⟩⟩,g5⟩
@[go_sem] theorem aCR {w0 : World} {H : aA} {es b : Nat} : cJ w0 H es b .nilS .nilS = some (.nilS,H) := by simp [cJ,eU]
theorem aAt {H : aA} {sv : AV} {sch : List Int} (a : LI w0 H sv sch) (j : Int) (hn : sch.length ≤ 1000) : ∃ y1 H3 K m,cJ w0 H 1 8 .nilS sv = some (y1,H3) ∧ cJ w0 (H3 ++ [some (.row [.int .i64 j])]) 1 8 y1 (.sl (.own H3.length 0) 1 1 true) = some (.sl (.own m 0) (sch.length + 1) 1 false,K) ∧ (∃ L,K = H ++ L) ∧ K[m]? = some (some (.row (aK (sch ++ [j])))) ∧ H.length ≤ m := by
 by_cases h0 : sch = []
 · subst h0
   obtain rfl := a.2 rfl
   have hap := rK (w0 := w0) (h := H) (es := 1) (b := 8) (x := [.int .i64 j]) (L := [some (.row [.int .i64 j])]) 0 true rfl rfl rfl (by omega)
   exact ⟨.nilS,H,_,_,aCR,hap,⟨_,rfl⟩,by rw [qI (by omega)]; simp [aK],by omega⟩
 · have h1 := aCT (w0 := w0) (b := 8) a.1 (by simpa using h0) (fun c hc => by obtain ⟨z,_,rfl⟩ := List.mem_map.1 hc; rfl) (by omega) (by rw [List.length_map]; omega)
   rw [← lM,List.length_map] at h1
   have hap := rJ (w0 := w0) (h := H) (es := 1) (b := 8) (n := sch.length) (x := [.int .i64 j]) (old := aK sch) (L := [some (.row (aK sch)),some (.row [.int .i64 j])]) 0 1 true rfl (by simp) rfl rfl rfl (by omega) (by omega)
   refine ⟨_,_,_,_,h1,by simpa using hap,⟨_,rfl⟩,?_,by omega⟩
   rw [qI (by omega)]
   simp [aK]
theorem rA {progs : List (List aF)} : ∀ {sch st : List Int} {i : Int} {s : List Int},goS progs st sch = some s → dX progs st i sch = (s,-1)
 | [],st,i,s,e => by rw [goS,Option.some.injEq] at e; rw [dX,e]
 | w :: r,st,i,s,e => by
  rw [goS] at e
  rw [dX]
  cases h : aY progs st w.toNat with
  | none => rw [h] at e; cases e
  | some s1 => rw [h] at e; exact rA e
theorem aFj {n : Nat} {progs : List (List aF)} (g : PG n progs) {r : List (List Int)} {s : List Int} (hr : ∀ x ∈ r,RS n progs x) (hs : RS n progs s) (h1 : 1 ≤ iC progs s) : s.take progs.length ∈ r.map (·.take progs.length) ↔ s ∈ aP :: r := by
 have h0 := (RS.start g).2
 rw [List.mem_map,List.mem_cons]
 constructor
 · rintro ⟨y,hy,e⟩
   rw [(hr y hy).ext g hs e] at hy
   exact .inr hy
 · rintro (e | e)
   · rw [e] at h1; omega
   · exact ⟨s,e,rfl⟩
end
def tk (p : Nat) (r : List (List Int)) : List (List Int) := r.map (·.take p)
def scs (q : List bB) : List (List Int) := q.map (·.2)
theorem gM {q : List bB} : (scs q).length = q.length := by simp [scs]
theorem pX {q : List bB} {i : Nat} (hi : i < q.length) : (scs q)[i]'(by rw [gM]; exact hi) = q[i].2 := by simp [scs]
def kK (w0 : World) (H : aA) (y : AV) (progs : List (List aF)) (o : Option bB) : Prop := match o with
 | none => y = .tup [.nilS,.nilS,.bool false]
 | some w => ∃ sv cv,y = .tup [sv,cv,.bool true] ∧ SlI w0 H sv w.2 ∧ SlI w0 H cv (nis (eG progs w.1 5 (cV progs w.1) []))
set_option maxRecDepth 20000 in
set_option maxHeartbeats 4000000 in
theorem sI {v : AV} {progs : List (List aF)} {n : Nat} (F : Nat) (hF : 5 ^ 25 ≤ F) (hv : PS w0 h v progs) (g : PG n progs) :
 ACall Tryz.prog w0 37 [.int .i64 n,v] h fun y H => aE h H ∧ kK w0 H y progs (bfs progs F [(aP,[])] [aP]) := by
 refine bH aW aDW mf37_b mf37_g (qE rfl) fun hb ha => bF ?_
 obtain ⟨C,hC⟩ : ∃ C,C = bfs progs F [(aP,[])] [aP] := ⟨_,rfl⟩
 rw [← hC]
 have p4 := g.p4
 have p1 := g.p1
 have hlen := hv.len
 simp only [go_sem,mf37]
 have R0 : RQ w0 h h (h ++ [some (Blk.row [.nilS])]) (.sl (.own h.length 0) 1 1 true) (scs [(aP,[])]) .nilS (tk progs.length []) .nilS (scs []) := by
  refine ⟨aE.refl,aE.refl.app,.inr ⟨h.length,true,[.nilS],⟨by simp [scs],by simp [scs]⟩,by rw [qI (Nat.le_refl _),Nat.sub_self]; rfl,rfl,fun b e => by have := aL e; omega,fun j x hx => ?_⟩,.inl ⟨rfl,rfl⟩,.inl ⟨rfl,rfl⟩,fun i e => (by cases e),fun i e => (by cases e),fun i e => (by cases e),.inl rfl,.inl rfl⟩
  obtain rfl : j = 0 := by have := aL hx; simp [scs] at this; omega
  simp [scs] at hx
  subst hx
  exact ⟨.nilS,rfl,.inl ⟨rfl,rfl⟩,fun _ => rfl⟩
 refine cU (S := Nat × (aA × aA) × (AV × List bB) × AV × List (List Int)) (F := fun s => [(0,.int .i64 n),(1,v),(7,s.2.2.1.1),(8,s.2.2.2.1)]) (H := fun s => s.2.1.2) (meas := fun s => s.1)
  (Inv := fun s => C = bfs progs s.1 s.2.2.1.2 (aP :: s.2.2.2.2) ∧ mu s.2.2.1.2 ≤ s.1 ∧ QI n progs s.2.2.1.2 (aP :: s.2.2.2.2) ∧ RQ w0 h s.2.1.1 s.2.1.2 s.2.2.1.1 (scs s.2.2.1.2) s.2.2.2.1 (tk progs.length s.2.2.2.2) .nilS (scs []))
  (F,(h,h ++ [some (Blk.row [.nilS])]),(.sl (.own h.length 0) 1 1 true,[(aP,[])]),.nilS,[]) ⟨hC,by simp [mu]; exact hF,QI.start g,R0⟩ rfl rfl ?_
 rintro ⟨k,⟨B,H⟩,⟨nv,now⟩,mv,r⟩ ⟨hc,hmu,hqi,hR⟩ ih
 simp only at hc hmu hqi hR ih ⊢
 refine aT aW aFI [0,1,7,8] L37_2.eq_1 ?_
 have hnl := hR.n.len
 rw [gM] at hnl
 by_cases h0 : now = []
 · subst h0
   have hcn : C = none := by rw [hc]; cases k <;> rfl
   have e1 : ¬ ((([] : List bB).length : Int) > 0) := by simp
   simp only [go_sem,hnl,e1]
   refine ⟨fun e => absurd e (by simp),fun _ => ⟨hR.sub,by unfold kK; rw [hcn]⟩⟩
 have hnb := hqi.q_len g
 have hk : 0 < k := by
  match now,h0,hmu with
  | w :: now,_,hmu =>
   rw [kO] at hmu
   have : 0 < 5 ^ (25 - w.2.length) := Nat.pow_pos (by omega)
   omega
 have hnp := List.length_pos_iff.2 h0
 have e1 : (now.length : Int) > 0 := by omega
 simp only [go_sem,hnl,e1]
 refine cU (S := Nat × (aA × aA) × (AV × List bB) × AV × List (List Int)) (F := fun s => [(0,.int .i64 n),(1,v),(7,nv),(8,s.2.2.2.1),(9,s.2.2.1.1),(10,.int .i64 s.1)]) (H := fun s => s.2.1.2) (meas := fun s => now.length - s.1)
  (Inv := fun s => s.1 ≤ now.length ∧ C = bfs progs (k - s.1) (now.drop s.1 ++ s.2.2.1.2) (aP :: s.2.2.2.2) ∧ mu (now.drop s.1 ++ s.2.2.1.2) ≤ k - s.1 ∧ QI n progs (now.drop s.1 ++ s.2.2.1.2) (aP :: s.2.2.2.2) ∧ RQ w0 h s.2.1.1 s.2.1.2 nv (scs now) s.2.2.2.1 (tk progs.length s.2.2.2.2) s.2.2.1.1 (scs s.2.2.1.2))
  (0,(B,H),(.nilS,[]),mv,r) ⟨Nat.zero_le _,by simpa using hc,by simpa using hmu,by simpa using hqi,hR⟩ rfl rfl ?_
 rintro ⟨i,⟨B,H⟩,⟨xv,nxt⟩,mv,r⟩ ⟨hi,hc,hmu,hqi,hR⟩ ih1
 simp only at hi hc hmu hqi hR ih1 ⊢
 refine aT aW aFJ [0,1,7,8,9,10] L37_1.eq_1 ?_
 have hnl := hR.n.len
 rw [gM] at hnl
 by_cases hil : i < now.length
 · have e2 : (i : Int) < now.length := by omega
   rw [List.drop_eq_getElem_cons hil,List.cons_append] at hc hmu hqi
   obtain ⟨w,hw0⟩ : ∃ w,w = now[i] := ⟨_,rfl⟩
   rw [← hw0] at hc hmu hqi
   have hw := hqi.way w (by simp)
   have hw24 := hw.len24 g
   have hmp : 0 < 5 ^ (25 - w.2.length) := Nat.pow_pos (by omega)
   obtain ⟨k',hk'⟩ : ∃ j,k - i = j + 1 := ⟨k - i - 1,by rw [kO] at hmu; omega⟩
   rw [hk',bfs] at hc
   obtain ⟨pw,sv,i1,r1,r1',hsv⟩ := hR.n.at_ hR.BH (j := i) (by rw [gM]; exact hil)
   rw [pX hil,← hw0] at hsv
   simp only [go_sem,hnl,e2,i1,r1,r1']
   refine aR (ACall.vc (first := []) (hR.call (K := fun y B' => ∃ hv dv,y = .tup [hv,dv,.int .i64 (dX progs aP 0 w.2).2] ∧ SlI w0 B' hv (hoS n (dX progs aP 0 w.2).1) ∧ SlI w0 B' dv ((dX progs aP 0 w.2).1.take progs.length)) fun M s1 s2 => aBe (hv.sub (hR.hB.trans s1)) (Sl.sub hsv.1 s1) g.n1 g.n4 p1 p4 g.good g.th hw.val (by omega))) ?_
   rintro _ H1 ⟨B1,s1,hR1,hov,dv,rfl,hh,hd⟩
   rw [rA hw.go] at hh hd ⊢
   simp only at hh hd ⊢
   simp only [go_sem]
   refine aI (zO (hv.sub hR1.sub) (Sl.sub hh hR1.BH) (Sl.sub hd hR1.BH) g hw.rs.ok).v ?_
   cases hst : cT progs w.1 with
   | true =>
    rw [hst] at hc
    simp only [if_true] at hc
    obtain ⟨pw1,sv1,j1,q1,q1',hsv1⟩ := hR1.n.at_ hR1.BH (j := i) (by rw [gM]; exact hil)
    rw [pX hil,← hw0] at hsv1
    simp only [go_sem]
    refine aCI aW [0,1,2,3,4,5,6,7,8,9,10] [o_ 44 (m_ 7),o_ 45 (m_ 10),o_ 46 (.idxs 1 (.t 44) (.t 45)),o_ 47 (l_ 46),o_ 48 (m_ 1),o_ 49 (m_ 11),o_ 50 (m_ 12),.call (some 51) none (f_ 92) [(.t 48),(.t 49),(.t 50)]] [([(3,o_ 47 (l_ 46))],[o_ 4 (m_ 47),o_ 5 (m_ 51),o_ 6 (.mov (.k (.bool true)))])] rfl rfl (by kernel_rfl) ?_
    simp only [go_sem,j1,q1,q1']
    refine aR (ACall.vc (first := []) (aBc (w0 := w0) (hv.sub hR1.sub) (Sl.sub hh hR1.BH) (Sl.sub hd hR1.BH) g hw.rs hst)) ?_
    rintro cv H2 ⟨s3,hcv⟩
    have q2 := s3.rd q1'
    simp only [go_sem,j1,q2]
    exact ⟨hR1.sub.trans s3,by unfold kK; rw [hc]; exact ⟨sv1,cv,rfl,Sl.sub (Sl.sub hsv1.1 hR1.BH) s3,hcv⟩⟩
   | false =>
    rw [hst] at hc
    simp only [Bool.false_eq_true,if_false] at hc
    simp only [go_sem]
    refine cU (S := Nat × (aA × aA) × (AV × List bB) × AV × List (List Int)) (F := fun s => [(0,.int .i64 n),(1,v),(7,nv),(8,s.2.2.2.1),(9,s.2.2.1.1),(10,.int .i64 i),(11,hov),(12,dv),(14,.int .i64 s.1)]) (H := fun s => s.2.1.2) (meas := fun s => progs.length - s.1)
     (Inv := fun s => s.1 ≤ progs.length ∧ aE B1 s.2.1.1 ∧ RQ w0 h s.2.1.1 s.2.1.2 nv (scs now) s.2.2.2.1 (tk progs.length s.2.2.2.2) s.2.2.1.1 (scs s.2.2.1.2) ∧ cO progs w s.1 (aP :: r,now.drop (i + 1) ++ nxt) = (aP :: s.2.2.2.2,now.drop (i + 1) ++ s.2.2.1.2))
     (0,(B1,H1),(xv,nxt),mv,r) ⟨Nat.zero_le _,aE.refl,hR1,rfl⟩ rfl rfl ?_
    rintro ⟨j,⟨B2,H2⟩,⟨xv2,nxt2⟩,mv2,r2⟩ ⟨hj,hB2,hR2,hpt⟩ ih2
    simp only at hj hB2 hR2 hpt ih2 ⊢
    refine aT aW aFK [0,1,7,8,9,10,11,12,14] L37_0.eq_1 ?_
    have hqi2 := QI.pushes g (x := (aP :: r,now.drop (i + 1) ++ nxt)) hqi.tail hw hj
    by_cases hjl : j < progs.length
    · have e3 : (j : Int) < progs.length := by omega
      have hps : cO progs w (j + 1) (aP :: r,now.drop (i + 1) ++ nxt) = cW progs w (aP :: r2,now.drop (i + 1) ++ nxt2) j := by rw [iJ,hpt]
      simp only [go_sem,hlen,e3]
      refine aI (aCO (hv.sub hR2.sub) (Sl.sub (Sl.sub hh hB2) hR2.BH) (Sl.sub (Sl.sub hd hB2) hR2.BH) g.good hw.rs.ok hjl p4 g.n4 g.th).v ?_
      cases hns : aY progs w.1 j with
      | none =>
       simp only [go_sem,Option.isSome]
       refine ⟨(by unfold I64; omega),ih2 (j + 1,(B2,H2),(xv2,nxt2),mv2,r2) ⟨by simp only; omega,hB2,hR2,by simp only; rw [hps,cW,hns]⟩ (by simp only; omega)⟩
      | some s =>
       obtain ⟨pw2,sv2,j1,q1,q1',hsv2⟩ := hR2.n.at_ hR2.BH (j := i) (by rw [gM]; exact hil)
       rw [pX hil,← hw0] at hsv2
       obtain ⟨y1,H3,K,m,a1,a2,⟨L,hL⟩,hKm,hm⟩ := aAt (w0 := w0) (hsv2.sub hR2.BH) (j : Int) (by omega)
       simp only [go_sem,Option.isSome,j1,q1,q1',a1,a2]
       have hRK : RQ w0 h B2 K nv (scs now) mv2 (tk progs.length r2) xv2 (scs nxt2) := hL ▸ hR2.app
       obtain ⟨M,g1,hRM,g2⟩ := hRK.grow
       have hio : ∀ {x : AV} {l : List (List Int)},LLo w0 B2 H2 x l → cA x ≠ some m := fun k e => by
        obtain ⟨⟨b,hb⟩,_⟩ := k.lt e
        have := aL hb; omega
       have hMm := g2 m _ ⟨hio hR2.n,hio hR2.m,hio hR2.x⟩ hKm
       have hLI : LI w0 M (.sl (.own m 0) (w.2.length + 1) 1 false) (w.2 ++ [(j : Int)]) := ⟨iU hMm (by simp),fun e => absurd e (by simp)⟩
       have hw' := hw.next g hjl hns
       refine aR (ACall.vc (first := []) (hRM.call (K := fun y B' => ∃ hv dv,y = .tup [hv,dv,.int .i64 (dX progs aP 0 (w.2 ++ [(j : Int)])).2] ∧ SlI w0 B' hv (hoS n (dX progs aP 0 (w.2 ++ [(j : Int)])).1) ∧ SlI w0 B' dv ((dX progs aP 0 (w.2 ++ [(j : Int)])).1.take progs.length)) fun M' s1 s2 => aBe (hv.sub (hRM.hB.trans s1)) (Sl.sub hLI.1 s1) g.n1 g.n4 p1 p4 g.good g.th hw'.val (by simp; omega))) ?_
       rintro _ H4 ⟨B4,s4,hR4,hov2,dv2,rfl,hh2,hd2⟩
       rw [rA hw'.go] at hh2 hd2 ⊢
       simp only at hh2 hd2 ⊢
       have hrs : RS n progs s := hw'.rs
       have hrl : ∀ x ∈ r2,RS n progs x := fun x hx => hqi2.sn x (by rw [hpt]; simp [hx])
       have hmet := aFj g hrl hrs (by have := hw'.sum; simp only [List.length_append,List.length_singleton] at this; omega)
       have hrn : (tk progs.length r2).length ≤ 2401 := by
        have := hqi2.s_len g
        rw [hpt] at this
        simp only [List.length_cons] at this
        simp only [tk,List.length_map]; omega
       have hxn : (scs nxt2).length ≤ 2401 := by
        have := hqi2.q_len g
        rw [hpt] at this
        simp only [List.length_append] at this
        rw [gM]; omega
       have hB24 : aE B1 B4 := hB2.trans (g1.trans s4)
       simp only [go_sem]
       refine aI (aAm hR4.m hR4.BH (Sl.sub hd2 hR4.BH) (by omega) (fun y hy => by
        obtain ⟨z,hz,rfl⟩ := List.mem_map.1 hy
        rw [List.length_take]; omega) (by rw [List.length_take]; omega)).v ?_
       by_cases hin : s ∈ aP :: r2
       · have hpw : cW progs w (aP :: r2,now.drop (i + 1) ++ nxt2) j = (aP :: r2,now.drop (i + 1) ++ nxt2) := by rw [cW,hns]; exact if_pos hin
         rw [decide_eq_true (show s.take progs.length ∈ tk progs.length r2 from hmet.2 hin)]
         simp only [go_sem]
         refine ⟨(by unfold I64; omega),ih2 (j + 1,(B4,H4),(xv2,nxt2),mv2,r2) ⟨by simp only; omega,hB24,hR4,by simp only; rw [hps,hpw]⟩ (by simp only; omega)⟩
       · have hpw : cW progs w (aP :: r2,now.drop (i + 1) ++ nxt2) j = (aP :: (r2 ++ [s]),now.drop (i + 1) ++ (nxt2 ++ [(s,w.2 ++ [(j : Int)])])) := by rw [cW,hns]; simp only; rw [if_neg hin]; simp
         rw [decide_eq_false (show ¬ s.take progs.length ∈ tk progs.length r2 from fun e => hin (hmet.1 e))]
         have hR5 : RQ w0 h B4 (H4 ++ [some (Blk.row [dv2])]) nv (scs now) mv2 (tk progs.length r2) xv2 (scs nxt2) := hR4.app
         obtain ⟨G5,c1,c2,hR6,c3⟩ := hR5.moreM (x := s.take progs.length) (k := H4.length) (by rw [qI (Nat.le_refl _),Nat.sub_self]; rfl) ⟨hd2,fun e => by
          have := congrArg List.length e
          have h8 := hrs.ok.len
          simp only [List.length_take,List.length_nil] at this; omega⟩ (by omega)
         have hR7 : RQ w0 h B4 (G5 ++ [some (Blk.row [AV.sl (.own m 0) (w.2.length + 1) 1 false])]) nv (scs now) _ (tk progs.length r2 ++ [s.take progs.length]) xv2 (scs nxt2) := hR6.app
         obtain ⟨G7,d1,d2,hR8,d3⟩ := hR7.moreX (x := w.2 ++ [(j : Int)]) (k := G5.length) (by rw [qI (Nat.le_refl _),Nat.sub_self]; rfl) (hLI.sub s4) (by omega)
         have o := Sl.one hd2
         simp only [go_sem,o.1,o.2,c1,d1]
         refine ⟨(by unfold I64; omega),ih2 (j + 1,(B4,G7),(_,nxt2 ++ [(s,w.2 ++ [(j : Int)])]),_,r2 ++ [s]) ⟨by simp only; omega,hB24,by simpa [tk,scs] using hR8,by simp only; rw [hps,hpw]⟩ (by simp only; omega)⟩
    · have e3 : ¬ (j : Int) < progs.length := by omega
      obtain rfl : j = progs.length := by omega
      rw [hpt] at hqi2 hc
      simp only at hqi2 hc
      simp only [go_sem,hlen,e3]
      refine ⟨(by unfold I64; omega),ih1 (i + 1,(B2,H2),(xv2,nxt2),mv2,r2) ⟨by simp only; omega,?_,?_,hqi2,hR2⟩ (by simp only; omega)⟩
      · simp only; rw [show k - (i + 1) = k' by omega]; exact hc
      · simp only
        have := mR g (w := w) (q := now.drop (i + 1) ++ nxt) (seen := aP :: r) hw24
        rw [hpt] at this
        simp only at this
        omega
 · have e2 : ¬ (i : Int) < now.length := by omega
   obtain rfl : i = now.length := by omega
   rw [List.drop_length,List.nil_append] at hc hmu hqi
   simp only [go_sem,hnl,e2]
   exact ih (k - now.length,(B,H),(xv,nxt),mv,r) ⟨hc,hmu,hqi,⟨hR.hB,hR.BH,hR.x,hR.m,.inl ⟨rfl,rfl⟩,fun i _ e => (by cases e),fun i e => hR.mx i e,fun i e => (by cases e),hR.fm,.inl rfl⟩⟩ (by simp only; omega)
end Go.Proofs.Ab
namespace Go.Proofs.Ab
open Go Go.Proofs
theorem oH : ∀ {a b r s : List Int},a.length = b.length → fM (a ++ r) (b ++ s) = (fM a b || (decide (a = b) && fM r s))
 | [],[],r,s,_ => by simp [fM]
 | x :: a,y :: b,r,s,h => by
  rw [List.cons_append,List.cons_append,fM,fM]
  by_cases e : x = y
  · subst e
    rw [if_pos rfl,if_pos rfl,oH (by simpa using h)]
    simp
  · rw [if_neg e,if_neg e]
    have : ¬ (x :: a = y :: b) := fun q => e (List.cons.inj q).1
    simp [this]
theorem jY : ∀ {a b c : List Int},a.length = b.length → b.length = c.length → fM a b = true → fM b c = true → fM a c = true
 | [],_,_,_,_,h,_ => by simp [fM] at h
 | x :: a,y :: b,[],_,h2,_,_ => by simp at h2
 | x :: a,y :: b,z :: c,h1,h2,e1,e2 => by
  rw [fM] at e1 e2 ⊢
  by_cases p : x = y
  · subst p
    rw [if_pos rfl] at e1
    by_cases q : x = z
    · rw [if_pos q] at e2 ⊢
      exact jY (by simpa using h1) (by simpa using h2) e1 e2
    · rw [if_neg q] at e2 ⊢; exact e2
  · rw [if_neg p,decide_eq_true_eq] at e1
    by_cases q : y = z
    · subst q
      rw [if_neg p]; simpa using e1
    · rw [if_neg q,decide_eq_true_eq] at e2
      rw [if_neg (by omega)]; simp; omega
def slt (a b : List Int) : Prop := a.length < b.length ∨ a.length = b.length ∧ fM a b = true
theorem aA3 {a b : List Int} {v : Int} (h : slt a b) : slt a (b ++ [v]) := .inl (by rcases h with h | h <;> simp <;> omega)
theorem nK {a : List Int} {v : Int} : slt a (a ++ [v]) := .inl (by simp)
theorem aDn {a b : List Int} {u v : Int} (h : slt a b) : slt (a ++ [u]) (b ++ [v]) := by
 rcases h with h | ⟨h,e⟩
 · exact .inl (by simp; omega)
 · exact .inr ⟨by simp; omega,by rw [oH h,e]; rfl⟩
theorem aDm {a : List Int} {u v : Int} (h : u < v) : slt (a ++ [u]) (a ++ [v]) := .inr ⟨by simp,by
 rw [aCQ,fM,if_neg (by omega)]; simpa using h⟩
section
variable {n : Nat} {progs : List (List aF)}
def lC (progs : List (List aF)) (sch st : List Int) : Prop := uN progs.length sch ∧ goS progs aP sch = some st ∧ cT progs st = true
def Wit (progs : List (List aF)) (sch st s c : List Int) : Prop := ∃ rest,uN progs.length rest ∧ goS progs s rest = some st ∧ sch.length = (c ++ rest).length ∧ fM sch (c ++ rest) = false
structure OI (progs : List (List aF)) (q : List bB) (seen : List (List Int)) : Prop where
 A : q.Pairwise fun x y => slt x.2 y.2
 B : ∀ x ∈ q,∀ y ∈ q,∀ v,slt x.2 (y.2 ++ [v])
 C : ∀ s ∈ seen,(∃ x ∈ q,x.1 = s) ∨ ∀ x ∈ q,iC progs s ≤ x.2.length
 D : ∀ sch st,lC progs sch st → ∃ x ∈ q,Wit progs sch st x.1 x.2
theorem OI.start : OI progs [(aP,[])] [aP] := by
 refine ⟨by simp,fun x hx y hy v => ?_,fun s hs => .inl ⟨(aP,[]),by simp,by simp at hs; exact hs.symm⟩,fun sch st hs => ⟨(aP,[]),by simp,sch,hs.1,hs.2.1,rfl,aCP _⟩⟩
 simp at hx hy; subst hx; subst hy; exact nK
structure OJ (progs : List (List aF)) (w : bB) (j : Nat) (q : List bB) (seen : List (List Int)) : Prop where
 A : q.Pairwise fun x y => slt x.2 y.2
 B : ∀ x ∈ q,∀ y ∈ q,∀ v,slt x.2 (y.2 ++ [v])
 E : ∀ x ∈ q,∀ v : Nat,j ≤ v → slt x.2 (w.2 ++ [(v : Int)])
 F : ∀ x ∈ q,slt w.2 x.2
 C : ∀ s ∈ seen,(∃ x ∈ q,x.1 = s) ∨ iC progs s ≤ w.2.length
 D : ∀ sch st,lC progs sch st → (∃ x ∈ q,Wit progs sch st x.1 x.2) ∨ ∃ (v : Nat) (s : List Int),j ≤ v ∧ v < progs.length ∧ aY progs w.1 v = some s ∧ Wit progs sch st s (w.2 ++ [(v : Int)])
theorem OJ.start {w : bB} {q : List bB} {seen : List (List Int)} (a : OI progs (w :: q) seen) (hq : QI n progs (w :: q) seen) (hs : cT progs w.1 = false) : OJ progs w 0 q seen := by
 have hA := List.pairwise_cons.1 a.A
 refine ⟨hA.2,fun x hx y hy v => a.B x (by simp [hx]) y (by simp [hy]) v,fun x hx v _ => a.B x (by simp [hx]) w (by simp) v,hA.1,fun s hs => ?_,fun sch st h => ?_⟩
 · rcases a.C s hs with ⟨x,hx,e⟩ | h
   · rcases List.mem_cons.1 hx with rfl | hx
     · have := (hq.way x (by simp)).sum
       rw [e] at this
       exact .inr (by omega)
     · exact .inl ⟨x,hx,e⟩
   · exact .inr (h w (by simp))
 · obtain ⟨x,hx,rest,h1,h2,h3,h4⟩ := a.D sch st h
   rcases List.mem_cons.1 hx with rfl | hx
   · refine .inr ?_
     match rest,h1,h2,h3,h4 with
     | [],h1,h2,h3,h4 =>
      rw [goS,Option.some.injEq] at h2
      rw [h2,h.2.2] at hs; cases hs
     | v :: r,h1,h2,h3,h4 =>
      obtain ⟨v1,v2⟩ := h1 v (by simp)
      obtain ⟨u,rfl⟩ : ∃ u : Nat,v = u := ⟨v.toNat,by omega⟩
      rw [goS,Int.toNat_natCast] at h2
      cases e : aY progs x.1 u with
      | none => rw [e] at h2; cases h2
      | some s =>
       rw [e] at h2
       exact ⟨u,s,Nat.zero_le _,by omega,e,r,fun y hy => h1 y (by simp [hy]),h2,by simpa using h3,by rw [List.append_assoc]; exact h4⟩
   · exact .inl ⟨x,hx,rest,h1,h2,h3,h4⟩
theorem OJ.step (g : PG n progs) {w : bB} {j : Nat} {x : List (List Int) × List bB} (a : OJ progs w j x.2 x.1) (hq : QI n progs x.2 x.1) (hw : fX n progs w) (hj : j < progs.length) : OJ progs w (j + 1) (cW progs w x j).2 (cW progs w x j).1 := by
 have stay : (∀ sch st,lC progs sch st → (∃ y ∈ x.2,Wit progs sch st y.1 y.2) ∨ ∃ (v : Nat) (s : List Int),j + 1 ≤ v ∧ v < progs.length ∧ aY progs w.1 v = some s ∧ Wit progs sch st s (w.2 ++ [(v : Int)])) → OJ progs w (j + 1) x.2 x.1 :=
  fun hD => ⟨a.A,a.B,fun y hy v hv => a.E y hy v (by omega),a.F,a.C,hD⟩
 rw [cW]
 cases e : aY progs w.1 j with
 | none =>
  refine stay fun sch st h => ?_
  rcases a.D sch st h with h1 | ⟨v,s,h1,h2,h3,h4⟩
  · exact .inl h1
  · by_cases q : v = j
    · subst q; rw [e] at h3; cases h3
    · exact .inr ⟨v,s,by omega,h2,h3,h4⟩
 | some s =>
  simp only
  obtain ⟨r1,r2⟩ := hw.rs.next g hj e
  split
  · rename_i hs
    refine stay fun sch st h => ?_
    rcases a.D sch st h with h1 | ⟨v,s',h1,h2,h3,rest,h4,h5,h6,h7⟩
    · exact .inl h1
    · by_cases q : v = j
      · subst q
        rw [e] at h3; cases h3
        rcases a.C s hs with ⟨y,hy,ey⟩ | hle
        · have hyw := (hq.way y hy).sum
          rw [ey,r2,hw.sum] at hyw
          have hl : y.2.length = (w.2 ++ [(v : Int)]).length := by simp; omega
          have hb : fM y.2 (w.2 ++ [(v : Int)]) = true := by
           rcases a.E y hy v (Nat.le_refl _) with h | h
           · omega
           · exact h.2
          have hl2 : (w.2 ++ [(v : Int)] ++ rest).length = (y.2 ++ rest).length := by rw [List.length_append,← hl,← List.length_append]
          refine .inl ⟨y,hy,rest,h4,by rw [ey]; exact h5,by rw [h6,hl2],?_⟩
          refine Bool.eq_false_iff.2 fun hc => ?_
          have := jY (by rw [h6,hl2]) hl2.symm hc (show fM (y.2 ++ rest) (w.2 ++ [(v : Int)] ++ rest) = true by rw [oH hl,hb]; rfl)
          rw [h7] at this; cases this
        · rw [r2,hw.sum] at hle; omega
      · exact .inr ⟨v,s',by omega,h2,h3,rest,h4,h5,h6,h7⟩
  · have hm : ∀ y,y ∈ x.2 ++ [(s,w.2 ++ [(j : Int)])] → y ∈ x.2 ∨ y = (s,w.2 ++ [(j : Int)]) := fun y hy => by simpa using hy
    refine ⟨?_,fun y hy z hz v => ?_,fun y hy v hv => ?_,fun y hy => ?_,fun t ht => ?_,fun sch st h => ?_⟩
    · rw [List.pairwise_append]
      refine ⟨a.A,by simp,fun y hy z hz => ?_⟩
      simp at hz; subst hz
      exact a.E y hy j (Nat.le_refl _)
    · rcases hm y hy with hy | rfl <;> rcases hm z hz with hz | rfl
      · exact a.B y hy z hz v
      · exact aA3 (a.E y hy j (Nat.le_refl _))
      · exact aDn (a.F z hz)
      · exact nK
    · rcases hm y hy with hy | rfl
      · exact a.E y hy v (by omega)
      · exact aDm (by omega)
    · rcases hm y hy with hy | rfl
      · exact a.F y hy
      · exact nK
    · rcases List.mem_append.1 ht with ht | ht
      · rcases a.C t ht with ⟨y,hy,ey⟩ | h
        · exact .inl ⟨y,List.mem_append_left _ hy,ey⟩
        · exact .inr h
      · simp at ht; subst ht
        exact .inl ⟨_,List.mem_append_right _ (List.mem_singleton.2 rfl),rfl⟩
    · rcases a.D sch st h with ⟨y,hy,h1⟩ | ⟨v,s',h1,h2,h3,h4⟩
      · exact .inl ⟨y,List.mem_append_left _ hy,h1⟩
      · by_cases q : v = j
        · subst q
          rw [e] at h3; cases h3
          exact .inl ⟨_,List.mem_append_right _ (List.mem_singleton.2 rfl),h4⟩
        · exact .inr ⟨v,s',by omega,h2,h3,h4⟩
theorem OJ.steps (g : PG n progs) {w : bB} {x : List (List Int) × List bB} (a : OJ progs w 0 x.2 x.1) (hq : QI n progs x.2 x.1) (hw : fX n progs w) : ∀ {j : Nat},j ≤ progs.length → OJ progs w j (cO progs w j x).2 (cO progs w j x).1
 | 0,_ => a
 | j + 1,h => by
  rw [iJ]
  exact (OJ.steps g a hq hw (j := j) (by omega)).step g (hq.pushes g hw (by omega)) hw (by omega)
theorem OJ.done {w : bB} {q : List bB} {seen : List (List Int)} (a : OJ progs w progs.length q seen) : OI progs q seen := by
 refine ⟨a.A,a.B,fun s hs => ?_,fun sch st h => ?_⟩
 · rcases a.C s hs with h | h
   · exact .inl h
   · refine .inr fun x hx => ?_
     rcases a.F x hx with h1 | h1 <;> omega
 · rcases a.D sch st h with h1 | ⟨v,s,h1,h2,_⟩
   · exact h1
   · omega
def BfsOk (n : Nat) (progs : List (List aF)) (o : Option bB) : Prop := match o with
 | none => ∀ sch st,¬ lC progs sch st
 | some w => fX n progs w ∧ cT progs w.1 = true ∧ ∀ sch st,lC progs sch st → w.2.length ≤ sch.length ∧ (sch.length = w.2.length → fM sch w.2 = false)
theorem tZ (g : PG n progs) : ∀ {k : Nat} {q : List bB} {seen : List (List Int)},QI n progs q seen → OI progs q seen → mu q ≤ k → BfsOk n progs (bfs progs k q seen)
 | 0,q,seen,_,ho,hm => by
  match q,hm with
  | [],_ =>
   rw [bfs]
   intro sch st h
   obtain ⟨x,hx,_⟩ := ho.D sch st h
   simp at hx
  | w :: q,hm =>
   rw [kO] at hm
   have : 0 < 5 ^ (25 - w.2.length) := Nat.pow_pos (by omega)
   omega
 | k + 1,[],seen,_,ho,_ => by
  rw [bfs]
  intro sch st h
  obtain ⟨x,hx,_⟩ := ho.D sch st h
  simp at hx
 | k + 1,w :: q,seen,hq,ho,hm => by
  rw [bfs]
  have hw := hq.way w (by simp)
  cases hs : cT progs w.1 with
  | true =>
   simp only [if_true]
   refine ⟨hw,hs,fun sch st h => ?_⟩
   obtain ⟨x,hx,rest,h1,h2,h3,h4⟩ := ho.D sch st h
   rw [List.length_append] at h3
   rcases List.mem_cons.1 hx with rfl | hx
   · refine ⟨by omega,fun e => ?_⟩
     have : rest = [] := List.eq_nil_of_length_eq_zero (by omega)
     subst this
     rwa [List.append_nil] at h4
   · have hA := (List.pairwise_cons.1 ho.A).1 x hx
     refine ⟨by rcases hA with h | h <;> omega,fun e => ?_⟩
     have hl : rest = [] ∧ w.2.length = x.2.length := by
      rcases hA with h | h
      · omega
      · exact ⟨List.eq_nil_of_length_eq_zero (by omega),h.1⟩
     rcases hA with h | h
     · omega
     rw [hl.1,List.append_nil] at h4
     refine Bool.eq_false_iff.2 fun hc => ?_
     rw [jY e h.1 hc h.2] at h4; cases h4
  | false =>
   simp only [Bool.false_eq_true,if_false]
   have h1 := hq.tail
   have h2 := QI.pushes g (x := (seen,q)) h1 hw (Nat.le_refl _)
   have h3 := (OJ.steps g (x := (seen,q)) (OJ.start ho hq hs) h1 hw (Nat.le_refl _)).done
   have h4 := mR g (q := q) (seen := seen) (hw.len24 g)
   exact tZ g h2 h3 (by omega)
end
end Go.Proofs.Ab
namespace Go.Proofs.Ab
open Go Go.Proofs
variable {w0 : World} {h : aA}
attribute [local irreducible] ACall bC cM bG dO rvC lp rg dr ex un rv
def eT (l : List (List aF)) : Bool := (l.all fun x => decide (x.length ≤ 5)) && decide (l.length ≤ 3)
theorem aCo {v : AV} {l : List (List aF)} (hv : PS w0 h v l) (hn : l.length ≤ 9223372036854775807) : bG Tryz.prog w0 33 [v] h (.bool (eT l)) h := by
 refine aX aW aDZ mf33_b mf33_g (qE rfl) (by simp [AV.bdd,AV.bdds]) fun hb ha => bF ?_
 have hlen := hv.len
 simp only [go_sem,mf33]
 refine gU (fun j => [(0,v),(3,.int .i64 j)]) (fun j => ∀ x,l[j]? = some x → x.length ≤ 5) l.length rfl (fun j hj hall ih => ?_) (fun hall => ?_)
 · refine aT aW zC [0,3] L33_0.eq_1 ?_
   have e1 : (j : Int) < l.length := by omega
   obtain ⟨p,sv,i1,r1,r1',hs⟩ := hv.at_ hj
   have hls : gA sv = some (.int .i64 l[j].length) := by have := hs.use.1; rwa [List.length_map] at this
   by_cases q : 5 < l[j].length
   · have q' : (l[j].length : Int) > 5 := by omega
     have : eT l = false := by rw [eT,List.all_eq_false.2 ⟨_,qG hj,by simp; omega⟩]; rfl
     simp only [go_sem,hlen,e1,i1,r1,r1',hls,q']
     rw [this]
   · have q' : ¬ (l[j].length : Int) > 5 := by omega
     simp only [go_sem,hlen,e1,i1,r1,r1',hls,q']
     exact ⟨(by unfold I64; omega),ih fun x hx => by rw [qA hj] at hx; cases hx; omega⟩
 · refine aT aW zC [0,3] L33_0.eq_1 ?_
   have e1 : ¬ (l.length : Int) < l.length := by omega
   have : (l.all fun x => decide (x.length ≤ 5)) = true := by
    rw [List.all_eq_true]
    intro x hx
    obtain ⟨i,hi,rfl⟩ := List.getElem_of_mem hx
    simpa using hall i hi _ (qA hi)
   simp only [go_sem,hlen,e1]
   rw [eT,this]
   simp only [Bool.true_and,AV.bool.injEq,decide_eq_decide]; omega
theorem pQ {progs : List (List aF)} {st : List Int} : ∀ {k who : Nat} {out : List Nat},(eG progs st k who out).length ≤ out.length + k
 | 0,_,out => by rw [eG]; omega
 | k + 1,who,out => by
  rw [eG]
  split
  · simp only [List.length_append,List.length_singleton]; omega
  · split
    · simp only [List.length_append,List.length_singleton]; omega
    · rename_i s _
      have := pQ (progs := progs) (st := st) (k := k) (who := kU st s) (out := out ++ [who])
      simp only [List.length_append,List.length_singleton] at this; omega
theorem uI {v : AV} {progs : List (List aF)} (things : Int) (hv : PS w0 h v progs) (hn : progs.length ≤ 9223372036854775807) : bG Tryz.prog w0 6 [.int .i64 things,v] h (.bool true) h := by
 refine dD trivial (bH aW mf6_ok mf6_b mf6_g (qE rfl) fun hb ha => bF ?_)
 obtain ⟨F,hF⟩ : ∃ F : Nat,5 ^ 25 ≤ F := ⟨_,Nat.le_refl _⟩
 simp only [go_sem,mf6]
 refine aI (lean_c hv.app hn).v ?_
 cases hL : nT progs with
 | false =>
  simp only [go_sem]
  refine aI qY.v ?_
  simp only [go_sem]
  exact aE.refl.app
 | true =>
 obtain ⟨hx20,hp12⟩ := aFm hL
 have hn1 : progs.length < 1000000 := by omega
 have hn2 : ∀ x ∈ progs,x.length ≤ 1000 := fun x hx => by have := hx20 x hx; omega
 have hn3 : ∀ x ∈ progs,x.length < 1000000 := fun x hx => by have := hx20 x hx; omega
 have noknown : (eT progs = false ∧ dF progs = false ∧ dR things progs = true) ∨ (eT progs = true ∨ dF progs = true ∨ dR things progs = false) := by
  cases eT progs <;> cases dF progs <;> cases dR things progs <;> simp
 simp only [go_sem]
 refine aI (aCo hv.app hn).v ?_
 rcases noknown with ⟨k1,k2,k3⟩ | hk
 · rw [k1]
   simp only [go_sem]
   refine aI (wS hv.app hn1).v ?_
   rw [k2]
   simp only [go_sem]
   refine aI (lW things hv.app hn1 hn2).v ?_
   rw [k3]
   simp only [go_sem]
   refine aI qY.v ?_
   simp only [go_sem]
   exact aE.refl.app
 have stk : ∀ {K : aA},aE h K → ACall Tryz.prog w0 36 [.int .i64 things,v] K fun y H => aE K H ∧ fN w0 H y things progs (bfs progs F [(aP,[])] [aP]) := fun s => aFA things F hF (hv.sub s) hn1 hn3
 have rl : ∀ {K : aA},aE h K → bG Tryz.prog w0 34 [v] K (.bool (dF progs)) K := fun s => wS (hv.sub s) hn1
 have rp : ∀ {K : aA},aE h K → bG Tryz.prog w0 35 [.int .i64 things,v] K (.bool (dR things progs)) K := fun s => lW things (hv.sub s) hn1 hn2
 have kn : ∀ {K : aA},bG Tryz.prog w0 16 [] K (.bool true) K := qY
 cases hlg : dF progs with
 | true =>
  rw [hlg] at rl
  cases hl : eT progs
  · simp only [go_sem]
    refine aI (rl aE.refl.app).v ?_
    simp only [go_sem]
    refine aR (ACall.vc (first := []) (stk aE.refl.app)) ?_
    rintro y H ⟨sH,hy⟩
    have sH' := (aE.refl.app).trans sH
    unfold fN at hy
    rw [if_pos hlg] at hy
    subst hy
    simp only [go_sem]
    refine aI (rl sH').v ?_
    simp only [go_sem]
    refine ⟨(by unfold I64; omega),aI kn.v ?_⟩
    simp only [go_sem]
    exact sH'
  · simp only [go_sem]
    refine aR (ACall.vc (first := []) (stk aE.refl.app)) ?_
    rintro y H ⟨sH,hy⟩
    have sH' := (aE.refl.app).trans sH
    unfold fN at hy
    rw [if_pos hlg] at hy
    subst hy
    simp only [go_sem]
    refine aI (rl sH').v ?_
    simp only [go_sem]
    refine ⟨(by unfold I64; omega),aI kn.v ?_⟩
    simp only [go_sem]
    exact sH'
 | false =>
 rw [hlg] at rl
 cases hok : dR things progs with
 | false =>
  rw [hok] at rp
  cases hl : eT progs
  · simp only [go_sem]
    refine aI (rl aE.refl.app).v ?_
    simp only [go_sem]
    refine aI (rp aE.refl.app).v ?_
    simp only [go_sem]
    refine aR (ACall.vc (first := []) (stk aE.refl.app)) ?_
    rintro y H ⟨sH,hy⟩
    have sH' := (aE.refl.app).trans sH
    unfold fN at hy
    rw [if_neg (by simp [hlg]),if_neg (by simp [hok])] at hy
    subst hy
    simp only [go_sem]
    refine aI (rl sH').v ?_
    simp only [go_sem]
    refine aI (rp sH').v ?_
    simp only [go_sem]
    refine ⟨(by unfold I64; omega),aI kn.v ?_⟩
    simp only [go_sem]
    exact sH'
  · simp only [go_sem]
    refine aR (ACall.vc (first := []) (stk aE.refl.app)) ?_
    rintro y H ⟨sH,hy⟩
    have sH' := (aE.refl.app).trans sH
    unfold fN at hy
    rw [if_neg (by simp [hlg]),if_neg (by simp [hok])] at hy
    subst hy
    simp only [go_sem]
    refine aI (rl sH').v ?_
    simp only [go_sem]
    refine aI (rp sH').v ?_
    simp only [go_sem]
    refine ⟨(by unfold I64; omega),aI kn.v ?_⟩
    simp only [go_sem]
    exact sH'
 | true =>
 rw [hok] at rp
 have hl : eT progs = true := by
  rcases hk with h1 | h1 | h1
  · exact h1
  · rw [hlg] at h1; cases h1
  · rw [hok] at h1; cases h1
 rw [hl]
 simp only [go_sem]
 refine aR (ACall.vc (first := []) (stk aE.refl.app)) ?_
 rintro y H ⟨sH,hy⟩
 have sH' := (aE.refl.app).trans sH
 obtain ⟨n,rfl,g⟩ := PG.of hok hlg
 have hspec := tZ g (QI.start g) OI.start (k := F) (by rw [aBn]; exact hF)
 unfold fN at hy
 rw [if_neg (by simp [hlg]),if_pos hok] at hy
 cases hb : bfs progs F [(aP,[])] [aP] with
 | none =>
  rw [hb] at hy
  subst hy
  simp only [go_sem]
  refine aI (rl sH').v ?_
  simp only [go_sem]
  refine aI (rp sH').v ?_
  simp only [go_sem]
  refine aR (ACall.vc (first := []) (sI (w0 := w0) F hF (hv.sub sH') g)) ?_
  rintro _ H2 ⟨sH2,hy2⟩
  unfold kK at hy2
  rw [hb] at hy2
  subst hy2
  simp only [go_sem]
  refine ⟨(by unfold I64; omega),aI kn.v ?_⟩
  simp only [go_sem]
  exact sH'.trans sH2
 | some w =>
  rw [hb] at hy hspec
  obtain ⟨sv,cv,rfl,hs1,hc1⟩ := hy
  have hwl := hspec.1.len24 g
  simp only [go_sem]
  refine aI (rl sH').v ?_
  simp only [go_sem]
  refine aI (rp sH').v ?_
  simp only [go_sem]
  refine aR (ACall.vc (first := []) (sI (w0 := w0) F hF (hv.sub sH') g)) ?_
  rintro _ H2 ⟨sH2,hy2⟩
  unfold kK at hy2
  rw [hb] at hy2
  obtain ⟨sv2,cv2,rfl,hs2,hc2⟩ := hy2
  simp only [go_sem]
  refine aI (qJ (Sl.sub hs1 sH2) hs2 (by omega)).v ?_
  rw [decide_eq_true rfl]
  simp only [go_sem]
  refine aI (qJ (Sl.sub hc1 sH2) hc2 (by rw [fD]; have := pQ (progs := progs) (st := w.1) (k := 5) (who := cV progs w.1) (out := []); simp only [List.length_nil] at this; omega)).v ?_
  rw [decide_eq_true rfl]
  simp only [go_sem]
  refine aI kn.v ?_
  simp only [go_sem]
  exact sH'.trans sH2
end Go.Proofs.Ab

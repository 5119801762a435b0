/- The own layer under the proofs of this seat, part M: what calls of the program come to on an abstract heap. No condition. -/
import Derived.Test.YtajecdfdnlfndaaGreatK
set_option linter.unusedSimpArgs false
set_option linter.unusedVariables false
namespace Go.Proofs.Ab
open Go Go.Proofs
variable {w0 : World} {h : aA}
attribute [local irreducible] ACall bF cU aZ dN rvC lp rg dr ex un rv
theorem fZ {l : List aD} {j : Nat} (hj : j < l.length) : (l.map aD.c)[j]? = some l[j].c := by rw [List.getElem?_map,qA hj]; rfl
theorem aBh {v : AV} {l : List aD} (hv : Sl w0 h 3 v (l.map aD.c)) (hn : l.length < 1000000) : aZ Tryz.prog w0 38 [v] h (.bool (l.all bC)) h := by
 refine aT aU aEq mf38_b mf38_g (qE rfl) (by simp [AV.bdd,AV.bdds]) fun hb ha => aY ?_
 obtain ⟨hlen,q,hix,hrow,_⟩ := hv.use
 rw [List.length_map] at hlen hix
 have vb := hv.bdd (Nat.le_refl _)
 simp only [go_sem,mf38]
 refine mW (fun j => [(0,v),(3,.int .i64 j)]) (fun j => bC (l.getD j ⟨0,0,0⟩) = true) l.length rfl (fun j hj hall ih => ?_) (fun hall => ?_)
 · refine aV aU zD [0,3] L38_0.eq_1 ?_
   have e1 : (j : Int) < l.length := by omega
   have e2 := hix j hj
   have e3 : ∀ L,rdn w0 (h ++ L) (q.add (j * 3)) 3 = some l[j].c := fun L => dU (hrow j _ (fZ hj))
   have e3' := hrow j _ (fZ hj)
   obtain ⟨r,hr⟩ : ∃ r,r = l[j] := ⟨_,rfl⟩
   rw [getD_at hj,← hr] at ih
   have no : bC r = false → l.all bC = false := fun x => by
    rw [List.all_eq_false]; exact ⟨_,qG hj,by rw [← hr,x]; simp⟩
   simp only [go_sem,hlen,e1,e2,e3,e3',← hr]
   refine aK (wM r.x (-100) 100).v ?_
   cases c1 : inB r.x (-100) 100 with
   | false => simp only [go_sem]; rw [no (by simp [bC,c1])]
   | true =>
   simp only [go_sem]
   refine aK (wM r.y (-100) 100).v ?_
   cases c2 : inB r.y (-100) 100 with
   | false => simp only [go_sem]; rw [no (by simp [bC,c2])]
   | true =>
   by_cases q1 : r.x = 0
   · by_cases q2 : r.y = 0
     · simp only [go_sem,q1,q2]
       rw [no (by simp [bC,q1,q2])]
     · simp only [go_sem,q1,q2]
       refine aK (wM r.s 0 1000000).v ?_
       cases c3 : inB r.s 0 1000000 with
       | false => simp only [go_sem]; rw [no (by simp [bC,c3])]
       | true =>
       simp only [go_sem]
       refine ⟨(by unfold I64; omega),iN 0 hb (by simp [HBs]) (by simp [eA,eB,fD,fE,gN,fB,AV.bdds,AV.bdd,Pl.bdd,dA]; exact vb) ?_⟩
       simpa using ih (by rw [q1] at c1; simp [bC,q1,c1,c2,c3,q2])
   · simp only [go_sem,q1]
     refine aK (wM r.s 0 1000000).v ?_
     cases c3 : inB r.s 0 1000000 with
     | false => simp only [go_sem]; rw [no (by simp [bC,c3])]
     | true =>
     simp only [go_sem]
     refine ⟨(by unfold I64; omega),iN 0 hb (by simp [HBs]) (by simp [eA,eB,fD,fE,gN,fB,AV.bdds,AV.bdd,Pl.bdd,dA]; exact vb) ?_⟩
     simpa using ih (by simp [bC,q1,c1,c2,c3])
 · refine aV aU zD [0,3] L38_0.eq_1 ?_
   have e1 : ¬ (l.length : Int) < l.length := by omega
   have : l.all bC = true := by rw [← mQ ⟨0,0,0⟩,List.all_eq_true]; exact fun j hj => hall j (List.mem_range.1 hj)
   simp only [go_sem,hlen,e1]
   rw [this]
theorem sC (a b : Int) : aZ Tryz.prog w0 120 [.agg [.int .i64 a,.int .i64 b]] h (.bool (fA a b)) h := by
 refine aT aU aB7 aFj aFi (qE rfl) (by simp [AV.bdd,AV.bdds]) fun hb ha => aY ?_
 simp only [go_sem,mf120]
 exact ⟨fun x => ⟨fun y => by simp [fA,x,y],fun y => by simp [fA,x,y]⟩,fun x => by simp [fA,x]⟩
theorem aDC (w : bJ) : aZ Tryz.prog w0 78 [.agg w.c] h (.bool (fG w)) h := by
 refine aT aU aD6 mf78_b mf78_g (qE rfl) (by simp [AV.bdd,AV.bdds]) fun hb ha => aY ?_
 simp only [go_sem,mf78]
 refine aK (sC w.xl w.xh).v ?_
 cases c1 : fA w.xl w.xh with
 | false => simp only [go_sem]; simp [fG,c1]
 | true =>
 simp only [go_sem]
 refine aK (sC w.yl w.yh).v ?_
 simp only [go_sem]
 simp [fG,c1]
theorem aDE (d : Int × Int) {v : AV} {l : List aD} {D : Int} (hd : Bd D d) (hD0 : 0 ≤ D) (hD : D ≤ 10000) (hv : Sl w0 h 3 v (l.map aD.c)) (hl : l.all bC = true) (hn : l.length ≤ 20) :
 aZ Tryz.prog w0 81 [v,.int .i64 d.1,.int .i64 d.2] h (.int .i64 (cV l d)) h := by
 refine aT aU aD5 mf81_b mf81_g (qE rfl) (by simp [AV.bdd,AV.bdds]) fun hb ha => aY ?_
 obtain ⟨hlen,q,hix,hrow,_⟩ := hv.use
 rw [List.length_map] at hlen hix
 have vb := hv.bdd (Nat.le_refl _)
 simp only [go_sem,mf81]
 have key : ∀ j : Nat,0 ≤ cV (l.take j) d ∧ cV (l.take j) d ≤ 20 * (1000000 * (D * 200)) := fun j => by
  have := pX hd.1 hd.2 (l.take j) (by rw [List.all_eq_true] at hl ⊢; exact fun x hx => hl x (List.mem_of_mem_take hx))
  have h2 : ((l.take j).length : Int) * (1000000 * (D * 200)) ≤ 20 * (1000000 * (D * 200)) := Int.mul_le_mul_of_nonneg_right (by rw [List.length_take]; omega) (by omega)
  omega
 refine mW (fun j => [(0,v),(1,.int .i64 d.1),(2,.int .i64 d.2),(7,.int .i64 (cV (l.take j) d)),(8,.int .i64 j)]) (fun _ => True) l.length (by simp [cV]) (fun j hj hall ih => ?_) (fun hall => ?_)
 · refine aV aU zC [0,1,2,7,8] L81_0.eq_1 ?_
   have e1 : (j : Int) < l.length := by omega
   have e2 := hix j hj
   have r0 := hrow j _ (fZ hj)
   have e3 : ∀ o x,l[j].c[o]? = some x → ∀ L,rd w0 (h ++ L) ((q.add (j * 3)).add o) = some x := fun o x hx L => eW (pT r0 (o := o) hx)
   have f0 := e3 0 _ rfl
   have f1 := e3 1 _ rfl
   have f2 := e3 2 _ rfl
   have f0' := f0 []
   have f1' := f1 []
   have f2' := f2 []
   rw [List.append_nil] at f0' f1' f2'
   have hR := List.all_eq_true.1 hl _ (qG hj)
   have hb1 := kT hR hd.1 hd.2
   have hb2 := sA hR hd.1 hd.2
   have k1 := key j
   simp only [iA,fO] at hb1
   simp only [go_sem,hlen,e1,e2,f0,f1,f2,f0',f1',f2']
   refine ⟨(by unfold I64; omega),(by unfold I64; omega),(by unfold I64; omega),(by unfold I64; omega),(by unfold I64; omega),(by unfold I64; omega),?_⟩
   have := ih trivial
   rw [mR hj] at this
   exact this
 · refine aV aU zC [0,1,2,7,8] L81_0.eq_1 ?_
   have e1 : ¬ (l.length : Int) < l.length := by omega
   simp only [go_sem,hlen,e1]
   simp
theorem aBm (f d : Int × Int) {v : AV} {l : List aD} (hd : Bd 10000 d) (hf : Bd 1000000 f) (hv : Sl w0 h 3 v (l.map aD.c)) (hl : l.all bC = true) (hn : l.length ≤ 20) :
 aZ Tryz.prog w0 29 [v,.agg [.int .i64 f.1,.int .i64 f.2,.int .i64 d.1,.int .i64 d.2]] h (.bool (kI l f d)) h := by
 refine aT aU aEs mf29_b mf29_g (qE rfl) (by simp [AV.bdd,AV.bdds]) fun hb ha => aY ?_
 have h1 := fQ hd.1.1 hd.1.2 hf.1.1 hf.1.2
 have h2 := fQ hd.2.1 hd.2.2 hf.2.1 hf.2.2
 simp only [go_sem,mf29]
 refine oT aU [0,1,2,3,4,5,6,7,8,9,10,11,12,13,14,15,16,17,18,19] [o_ 5 (.addr (.t 3) 2),o_ 6 (l_ 5),o_ 7 (.addr (.t 3) 0),o_ 8 (l_ 7),o_ 9 (.bin .mul (.t 6) (.t 8)),o_ 10 (.addr (.t 3) 3),o_ 11 (l_ 10),o_ 12 (.addr (.t 3) 1),o_ 13 (l_ 12),o_ 14 (.bin .mul (.t 11) (.t 13)),o_ 15 (.bin .add (.t 9) (.t 14)),o_ 16 (.un .neg (.t 15)),o_ 17 (m_ 0),o_ 18 (.addr (.t 3) 2),o_ 19 (l_ 18),o_ 20 (.addr (.t 3) 3),o_ 21 (l_ 20),.call (some 22) none (f_ 81) [(.t 17),(.t 19),(.t 21)]] [([(1,o_ 6 (l_ 5)),(3,o_ 8 (l_ 7)),(6,o_ 11 (l_ 10)),(8,o_ 13 (l_ 12))],[o_ 23 (.bin .gtr (.t 16) (.t 22)),o_ 4 (m_ 23)])] rfl rfl (by kernel_rfl) ?_
 simp only [go_sem]
 refine ⟨(by unfold I64; omega),(by unfold I64; omega),(by unfold I64; omega),(by unfold I64; omega),?_⟩
 refine aK (aDE d hd (by omega) (by omega) hv.app hl hn).v ?_
 simp only [go_sem]
 simp only [kI,Int.zero_sub,iA]
 rfl
theorem tD (w : bJ) {v : AV} {l : List aD} (hv : Sl w0 h 3 v (l.map aD.c)) : aZ Tryz.prog w0 26 [v,.agg w.c] h (.int .i64 (cB l w)) h := by
 refine aT aU aEt mf26_b mf26_g (qE rfl) (by simp [AV.bdd,AV.bdds]) fun hb ha => aY ?_
 have hlen : gJ v = some (.int .i64 l.length) := by have := hv.use.1; rwa [List.length_map] at this
 by_cases hL : 8 < l.length
 · have e1 : (l.length : Int) > 8 := by omega
   simp only [go_sem,mf26,hlen,e1]
   rw [cB,if_pos hL]
 have e1 : ¬ (l.length : Int) > 8 := by omega
 simp only [go_sem,mf26,hlen,e1]
 refine aK (aBh hv.app (by omega)).v ?_
 rw [cB,if_neg hL]
 cases c1 : l.all bC with
 | false => simp only [go_sem]; simp
 | true =>
 simp only [go_sem]
 refine aK (aDC w).v ?_
 cases c2 : fG w with
 | false => simp only [go_sem]; simp
 | true => simp only [go_sem]; simp
theorem jU {l : List aD} {w : bJ} (e : cB l w = 0) : l.length ≤ 8 ∧ l.all bC = true ∧ fG w = true := by
 unfold cB at e
 split at e
 · omega
 · cases h2 : l.all bC && fG w with
   | false => rw [h2] at e; simp at e
   | true =>
    rw [Bool.and_eq_true] at h2
    exact ⟨by omega,h2⟩
theorem eqa4 (a b c d a' b' c' d' : Int) : aAv [true,true,true,true] false (.agg [.int .i64 a,.int .i64 b,.int .i64 c,.int .i64 d]) (.agg [.int .i64 a',.int .i64 b',.int .i64 c',.int .i64 d']) = some (.bool (decide (a = a') && (decide (b = b') && (decide (c = c') && decide (d = d'))))) := by
 have hc : ∀ x y : Int,ceq true (.int .i64 x) (.int .i64 y) = some (decide (x = y)) := fun x y => by
  by_cases e : x = y <;> simp [ceq,e]
 simp only [aAv,cG,hc]
 by_cases e1 : a = a' <;> by_cases e2 : b = b' <;> by_cases e3 : c = c' <;> by_cases e4 : d = d' <;> simp [e1,e2,e3,e4]
theorem Gro.len {H : aA} {es n : Nat} {ov : AV} {vs : List AV} (g : Gro h H es n ov vs) : gJ ov = some (.int .i64 n) := by
 rcases g.own with ⟨rfl,rfl,_⟩ | ⟨_,_,_,rfl,_⟩ <;> rfl
theorem bZ.setN {o : Nat} {A B : aA} (k : bZ [o] A B) : aF (A.set o none) B := ⟨by simpa using k.le,fun i b e => by
 by_cases hi : o = i
 · subst hi
   have := aI e
   rw [List.length_set] at this
   rw [qF this] at e; cases e
 · rw [qB hi] at e
   exact k.at_ _ _ (by simp only [List.mem_singleton]; exact fun x => hi x.symm) e⟩
structure nZ (h0 H : aA) (o : Nat) (ov : AV) (out : List Int) : Prop where
 keep : bZ [o] h0 H
 box : H[o]? = some (some (.row [ov]))
 val : (ov = .nilS ∧ out = []) ∨ ∃ io c,h0.length ≤ io ∧ ov = .sl (.own io 0) out.length 1 false ∧ H[io]? = some (some (.row c)) ∧ out.length ≤ c.length ∧ c.take out.length = dG out
theorem nZ.len {h0 H : aA} {o : Nat} {ov : AV} {out : List Int} (a : nZ h0 H o ov out) : gJ ov = some (.int .i64 out.length) := by
 rcases a.val with ⟨rfl,rfl⟩ | ⟨io,c,_,rfl,_⟩ <;> rfl
theorem nZ.slI {h0 H : aA} {o : Nat} {ov : AV} {out : List Int} (a : nZ h0 H o ov out) : SlI w0 H ov out := by
 rcases a.val with ⟨rfl,rfl⟩ | ⟨io,c,h1,rfl,h3,h4,h5⟩
 · exact .inl ⟨rfl,rfl⟩
 · refine .inr ⟨_,false,⟨1,by rw [List.length_map],dD⟩,by simp only [Pl.bdd]; exact aI h3,fun j d hd => ?_⟩
   rw [List.getElem?_map,qD] at hd
   obtain ⟨x,hx,rfl⟩ := hd
   have hj := aI hx
   simp only [Pl.add,rdn,h3]
   rw [if_pos (by omega)]
   have : (c.take out.length)[j]? = (dG out)[j]? := by rw [h5]
   rw [List.getElem?_take,if_pos hj,aCx,hx] at this
   have hc : j < c.length := by omega
   rw [qA hc] at this
   simp only [Option.map_some,Option.some.injEq] at this
   simp only [Nat.zero_add,Nat.mul_one,List.drop_eq_getElem_cons hc,this,List.take_succ_cons,List.take_zero]
theorem nZ.app {h0 H L : aA} {o : Nat} {ov : AV} {out : List Int} (a : nZ h0 H o ov out) : nZ h0 (H ++ L) o ov out := by
 refine ⟨a.keep.app,aC a.box,?_⟩
 rcases a.val with h1 | ⟨io,c,h1,h2,h3,h4,h5⟩
 · exact .inl h1
 · exact .inr ⟨io,c,h1,h2,aC h3,h4,h5⟩
theorem nZ.more {h0 H : aA} {o k : Nat} {ov : AV} {out : List Int} (a : nZ h0 H o ov out) (ho : o < h0.length) {f : Bool} {x : Int} (hk : H[k]? = some (some (.row [.int .i64 x]))) (hn : out.length ≤ 1000) :
 ∃ G,bT w0 H 1 8 ov (.sl (.own k 0) 1 1 f) = some (.sl (.own H.length 0) (out.length + 1) 1 false,G) ∧ G[o]? = some (some (.row [ov])) ∧ G.length = H.length + 1 ∧
  nZ h0 (G.set o (some (.row [.sl (.own H.length 0) (out.length + 1) 1 false]))) o (.sl (.own H.length 0) (out.length + 1) 1 false) (out ++ [x]) := by
 have r1 : rdn w0 H (.own k 0) (1 * 1) = some [.int .i64 x] := by simp [rdn,hk]
 have hkl := a.keep.le
 rcases a.val with ⟨rfl,rfl⟩ | ⟨io,c,h1,rfl,h3,h4,h5⟩
 · refine ⟨H ++ [some (.row [.int .i64 x])],?_,aC a.box,by simp,(a.keep.app).set (.inl (by simp)),by rw [qF (by simp; omega)],.inr ⟨H.length,[.int .i64 x],by omega,rfl,?_,by simp,rfl⟩⟩
   · simp only [bT,dF,dD,if_true,r1,Option.map_some,Option.bind_some]
     rw [if_neg (by omega),if_pos ⟨by omega,rfl⟩]
     simp [eD]
   · rw [qB (by omega),qI (Nat.le_refl _),Nat.sub_self]; rfl
 · have hio := aI h3
   have r2 : rdn w0 H (.own io 0) (out.length * 1) = some (dG out) := by
    simp only [rdn,h3]
    rw [if_pos (by omega),List.drop_zero,Nat.mul_one,h5]
   rw [Nat.mul_one] at r2
   refine ⟨H.set io none ++ [some (.row (dG out ++ [.int .i64 x]))],?_,aC (by rw [qB (by omega)]; exact a.box),by simp,?_,by rw [qF (by simp; omega)],.inr ⟨H.length,dG out ++ [.int .i64 x],by omega,by simp,?_,by simp,?_⟩⟩
   · simp only [bT,dF,dD,if_true,r1,Option.map_some,Option.bind_some]
     rw [if_neg (by omega),if_pos ⟨trivial,by omega,rfl⟩]
     simp [r2]
   · exact ((a.keep.set (.inr h1)).app).set (.inl (by simp))
   · rw [qB (by omega),qI (by simp)]; simp
   · rw [List.take_of_length_le (by simp)]; simp [dG]
end Go.Proofs.Ab

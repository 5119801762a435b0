/- The own layer under the proofs of this seat, part M: what calls of the program come to on an abstract heap. No condition. -/
import Derived.Test.YtajecdfdnlfndaaGreatK
set_option linter.unusedSimpArgs false
set_option linter.unusedVariables false
namespace Go.Proofs.Ab
open Go Go.Proofs
variable {w0 : World} {h : aA}
attribute [local irreducible] ACall bB cU bA dU rvC lp rg dr ex un rv
theorem jS {l : List aD} {j : Nat} (hj : j < l.length) : (l.map aD.c)[j]? = some l[j].c := by rw [List.getElem?_map,qA hj]; rfl
theorem aAS {v : AV} {l : List aD} (hv : Sl w0 h 3 v (l.map aD.c)) (hn : l.length < 1000000) : bA Tryz.prog w0 38 [v] h (.bool (l.all aX)) h := by
 refine aT aV aDO mf38_b mf38_g (qE rfl) (by simp [AV.bdd,AV.bdds]) fun hb ha => bC ?_
 obtain ⟨hlen,q,hix,hrow,_⟩ := hv.use
 rw [List.length_map] at hlen hix
 have vb := hv.bdd (Nat.le_refl _)
 simp only [go_sem,mf38]
 refine mQ (fun j => [(0,v),(3,.int .i64 j)]) (fun j => aX (l.getD j ⟨0,0,0⟩) = true) l.length rfl (fun j hj hall ih => ?_) (fun hall => ?_)
 · refine bF aV yG [0,3] L38_0.eq_1 ?_
   have e1 : (j : Int) < l.length := by omega
   have e2 := hix j hj
   have e3 : ∀ L,rdn w0 (h ++ L) (q.add (j * 3)) 3 = some l[j].c := fun L => dJ (hrow j _ (jS hj))
   have e3' := hrow j _ (jS hj)
   obtain ⟨r,hr⟩ : ∃ r,r = l[j] := ⟨_,rfl⟩
   rw [getD_at hj,← hr] at ih
   have no : aX r = false → l.all aX = false := fun x => by
    rw [List.all_eq_false]; exact ⟨_,qG hj,by rw [← hr,x]; simp⟩
   simp only [go_sem,hlen,e1,e2,e3,e3',← hr]
   refine aI (vY r.x (-100) 100).v ?_
   cases c1 : inB r.x (-100) 100 with
   | false => simp only [go_sem]; rw [no (by simp [aX,c1])]
   | true =>
   simp only [go_sem]
   refine aI (vY r.y (-100) 100).v ?_
   cases c2 : inB r.y (-100) 100 with
   | false => simp only [go_sem]; rw [no (by simp [aX,c2])]
   | true =>
   by_cases q1 : r.x = 0
   · by_cases q2 : r.y = 0
     · simp only [go_sem,q1,q2]
       rw [no (by simp [aX,q1,q2])]
     · simp only [go_sem,q1,q2]
       refine aI (vY r.s 0 1000000).v ?_
       cases c3 : inB r.s 0 1000000 with
       | false => simp only [go_sem]; rw [no (by simp [aX,c3])]
       | true =>
       simp only [go_sem]
       refine ⟨(by unfold I64; omega),iI 0 hb (by simp [HBs]) (by simp [dR,dS,eU,eV,gG,eO,AV.bdds,AV.bdd,Pl.bdd,cV]; exact vb) ?_⟩
       simpa using ih (by rw [q1] at c1; simp [aX,q1,c1,c2,c3,q2])
   · simp only [go_sem,q1]
     refine aI (vY r.s 0 1000000).v ?_
     cases c3 : inB r.s 0 1000000 with
     | false => simp only [go_sem]; rw [no (by simp [aX,c3])]
     | true =>
     simp only [go_sem]
     refine ⟨(by unfold I64; omega),iI 0 hb (by simp [HBs]) (by simp [dR,dS,eU,eV,gG,eO,AV.bdds,AV.bdd,Pl.bdd,cV]; exact vb) ?_⟩
     simpa using ih (by simp [aX,q1,c1,c2,c3])
 · refine bF aV yG [0,3] L38_0.eq_1 ?_
   have e1 : ¬ (l.length : Int) < l.length := by omega
   have : l.all aX = true := by rw [← mJ ⟨0,0,0⟩,List.all_eq_true]; exact fun j hj => hall j (List.mem_range.1 hj)
   simp only [go_sem,hlen,e1]
   rw [this]
theorem rP (a b : Int) : bA Tryz.prog w0 120 [.agg [.int .i64 a,.int .i64 b]] h (.bool (eM a b)) h := by
 refine aT aV aBI aEI aEH (qE rfl) (by simp [AV.bdd,AV.bdds]) fun hb ha => bC ?_
 simp only [go_sem,mf120]
 exact ⟨fun x => ⟨fun y => by simp [eM,x,y],fun y => by simp [eM,x,y]⟩,fun x => by simp [eM,x]⟩
theorem aC7 (w : bG) : bA Tryz.prog w0 78 [.agg w.c] h (.bool (fI w)) h := by
 refine aT aV aDw mf78_b mf78_g (qE rfl) (by simp [AV.bdd,AV.bdds]) fun hb ha => bC ?_
 simp only [go_sem,mf78]
 refine aI (rP w.xl w.xh).v ?_
 cases c1 : eM w.xl w.xh with
 | false => simp only [go_sem]; simp [fI,c1]
 | true =>
 simp only [go_sem]
 refine aI (rP w.yl w.yh).v ?_
 simp only [go_sem]
 simp [fI,c1]
theorem aBW (w : bG) {v : AV} {l : List aD} (hv : Sl w0 h 3 v (l.map aD.c)) : bA Tryz.prog w0 26 [v,.agg w.c] h (.int .i64 (bM l w)) h := by
 refine aT aV aDQ mf26_b mf26_g (qE rfl) (by simp [AV.bdd,AV.bdds]) fun hb ha => bC ?_
 have hlen : jE v = some (.int .i64 l.length) := by have := hv.use.1; rwa [List.length_map] at this
 by_cases hL : 8 < l.length
 · have e1 : (l.length : Int) > 8 := by omega
   simp only [go_sem,mf26,hlen,e1]
   rw [bM,if_pos hL]
 have e1 : ¬ (l.length : Int) > 8 := by omega
 simp only [go_sem,mf26,hlen,e1]
 refine aI (aAS hv.app (by omega)).v ?_
 rw [bM,if_neg hL]
 cases c1 : l.all aX with
 | false => simp only [go_sem]; simp
 | true =>
 simp only [go_sem]
 refine aI (aC7 w).v ?_
 cases c2 : fI w with
 | false => simp only [go_sem]; simp
 | true => simp only [go_sem]; simp
theorem gM {l : List aD} {w : bG} (e : bM l w = 0) : l.length ≤ 8 ∧ l.all aX = true ∧ fI w = true := by
 unfold bM at e
 split at e
 · omega
 · cases h2 : l.all aX && fI w with
   | false => rw [h2] at e; simp at e
   | true =>
    rw [Bool.and_eq_true] at h2
    exact ⟨by omega,h2⟩
theorem rO {l : List aD} {w : bG} (h1 : l.length ≤ 8) (h2 : l.all aX = true) (h3 : fI w = true) : bM l w = 0 := by
 rw [bM,if_neg (by omega),h2,h3]; rfl
theorem Gro.len {H : aA} {es n : Nat} {ov : AV} {vs : List AV} (g : Gro h H es n ov vs) : jE ov = some (.int .i64 n) := by
 rcases g.own with ⟨rfl,rfl,_⟩ | ⟨_,_,_,rfl,_⟩ <;> rfl
theorem cA.setN {o : Nat} {A B : aA} (k : cA [o] A B) : aG (A.set o none) B := ⟨by simpa using k.le,fun i b e => by
 by_cases hi : o = i
 · subst hi
   have := aM e
   rw [List.length_set] at this
   rw [qF this] at e; cases e
 · rw [qB hi] at e
   exact k.at_ _ _ (by simp only [List.mem_singleton]; exact fun x => hi x.symm) e⟩
structure nR (h0 H : aA) (o : Nat) (ov : AV) (out : List Int) : Prop where
 keep : cA [o] h0 H
 box : H[o]? = some (some (.row [ov]))
 val : (ov = .nilS ∧ out = []) ∨ ∃ io c,h0.length ≤ io ∧ ov = .sl (.own io 0) out.length 1 false ∧ H[io]? = some (some (.row c)) ∧ out.length ≤ c.length ∧ c.take out.length = fD out
theorem nR.len {h0 H : aA} {o : Nat} {ov : AV} {out : List Int} (a : nR h0 H o ov out) : jE ov = some (.int .i64 out.length) := by
 rcases a.val with ⟨rfl,rfl⟩ | ⟨io,c,_,rfl,_⟩ <;> rfl
theorem nR.slI {h0 H : aA} {o : Nat} {ov : AV} {out : List Int} (a : nR h0 H o ov out) : SlI w0 H ov out := by
 rcases a.val with ⟨rfl,rfl⟩ | ⟨io,c,h1,rfl,h3,h4,h5⟩
 · exact .inl ⟨rfl,rfl⟩
 · refine .inr ⟨_,false,⟨1,by rw [List.length_map],fE⟩,by simp only [Pl.bdd]; exact aM h3,fun j d hd => ?_⟩
   rw [List.getElem?_map,qD] at hd
   obtain ⟨x,hx,rfl⟩ := hd
   have hj := aM hx
   simp only [Pl.add,rdn,h3]
   rw [if_pos (by omega)]
   have : (c.take out.length)[j]? = (fD out)[j]? := by rw [h5]
   rw [List.getElem?_take,if_pos hj,aB6,hx] at this
   have hc : j < c.length := by omega
   rw [qA hc] at this
   simp only [Option.map_some,Option.some.injEq] at this
   simp only [Nat.zero_add,Nat.mul_one,List.drop_eq_getElem_cons hc,this,List.take_succ_cons,List.take_zero]
theorem nR.app {h0 H L : aA} {o : Nat} {ov : AV} {out : List Int} (a : nR h0 H o ov out) : nR h0 (H ++ L) o ov out := by
 refine ⟨a.keep.app,aC a.box,?_⟩
 rcases a.val with h1 | ⟨io,c,h1,h2,h3,h4,h5⟩
 · exact .inl h1
 · exact .inr ⟨io,c,h1,h2,aC h3,h4,h5⟩
theorem nR.more {h0 H : aA} {o k : Nat} {ov : AV} {out : List Int} (a : nR h0 H o ov out) (ho : o < h0.length) {f : Bool} {x : Int} (hk : H[k]? = some (some (.row [.int .i64 x]))) (hn : out.length ≤ 1000) :
 ∃ G,cT w0 H 1 8 ov (.sl (.own k 0) 1 1 f) = some (.sl (.own H.length 0) (out.length + 1) 1 false,G) ∧ G[o]? = some (some (.row [ov])) ∧ G.length = H.length + 1 ∧
  nR h0 (G.set o (some (.row [.sl (.own H.length 0) (out.length + 1) 1 false]))) o (.sl (.own H.length 0) (out.length + 1) 1 false) (out ++ [x]) := by
 have r1 : rdn w0 H (.own k 0) (1 * 1) = some [.int .i64 x] := by simp [rdn,hk]
 have hkl := a.keep.le
 rcases a.val with ⟨rfl,rfl⟩ | ⟨io,c,h1,rfl,h3,h4,h5⟩
 · refine ⟨H ++ [some (.row [.int .i64 x])],?_,aC a.box,by simp,(a.keep.app).set (.inl (by simp)),by rw [qF (by simp; omega)],.inr ⟨H.length,[.int .i64 x],by omega,rfl,?_,by simp,rfl⟩⟩
   · simp only [cT,fA,fE,if_true,r1,Option.map_some,Option.bind_some]
     rw [if_neg (by omega),if_pos ⟨by omega,rfl⟩]
     simp [eK]
   · rw [qB (by omega),qI (Nat.le_refl _),Nat.sub_self]; rfl
 · have hio := aM h3
   have r2 : rdn w0 H (.own io 0) (out.length * 1) = some (fD out) := by
    simp only [rdn,h3]
    rw [if_pos (by omega),List.drop_zero,Nat.mul_one,h5]
   rw [Nat.mul_one] at r2
   refine ⟨H.set io none ++ [some (.row (fD out ++ [.int .i64 x]))],?_,aC (by rw [qB (by omega)]; exact a.box),by simp,?_,by rw [qF (by simp; omega)],.inr ⟨H.length,fD out ++ [.int .i64 x],by omega,by simp,?_,by simp,?_⟩⟩
   · simp only [cT,fA,fE,if_true,r1,Option.map_some,Option.bind_some]
     rw [if_neg (by omega),if_pos ⟨trivial,by omega,rfl⟩]
     simp [r2]
   · exact ((a.keep.set (.inr h1)).app).set (.inl (by simp))
   · rw [qB (by omega),qI (by simp)]; simp
   · rw [List.take_of_length_le (by simp)]; simp [fD]
theorem zA {x y : AV} {a b : List Int} (hx : SlI w0 h x a) (hy : SlI w0 h y b) (hn : a.length < 1000000) : bA Tryz.prog w0 25 [x,y] h (.bool (eT a b)) h := by
 refine aT aV aDR mf25_b mf25_g (qE rfl) (by simp [AV.bdd,AV.bdds]) fun hb ha => bC ?_
 have la := (SlI.use hx).1
 have lb := (SlI.use hy).1
 simp only [go_sem,mf25]
 refine mQ (fun j => [(0,x),(1,y),(5,.int .i64 j)]) (fun j => a[j]? = b[j]?) (min a.length b.length) rfl (fun j hj hall ih => ?_) (fun hall => ?_)
 all_goals
  have hb' : ∀ j,j ≤ a.length → j ≤ b.length → (∀ i,i < j → a[i]? = b[i]?) → eT a b = eT (a.drop j) (b.drop j) := fun j h1 h2 h3 => by
   have : a.take j = b.take j := List.ext_getElem? fun i => by
    rw [List.getElem?_take,List.getElem?_take]; split
    · rename_i hi; exact h3 i hi
    · rfl
   have e := hJ (a.take j) (a.drop j) (b.drop j)
   rwa [List.take_append_drop,this,List.take_append_drop] at e
 · refine bF aV yH [0,1,5] L25_0.eq_1 ?_
   have hja : j < a.length := by omega
   have hb2 : j < b.length := by omega
   obtain ⟨p1,i1,r1,r1'⟩ := SlI.at_ hx hja
   obtain ⟨p2,i2,r2,r2'⟩ := SlI.at_ hy hb2
   have e1 : (j : Int) < a.length := by omega
   have e2 : (j : Int) < b.length := by omega
   have hbd := hb' j (by omega) (by omega) hall
   rw [List.drop_eq_getElem_cons hja,List.drop_eq_getElem_cons hb2,eT] at hbd
   by_cases q1 : a[j] = b[j]
   · simp only [go_sem,la,lb,e1,e2,i1,i2,r1,r2,r1',r2',q1]
     exact ⟨(by unfold I64; omega),ih (by rw [qA hja,qA hb2,q1])⟩
   · simp only [go_sem,la,lb,e1,e2,i1,i2,r1,r2,r1',r2',q1]
     rw [hbd,if_neg q1]
 · refine bF aV yH [0,1,5] L25_0.eq_1 ?_
   have hbd := hb' (min a.length b.length) (by omega) (by omega) hall
   have hf : eT a b = false := by
    rw [hbd]
    by_cases hc : a.length ≤ b.length
    · rw [List.drop_of_length_le (by omega)]; rfl
    · rw [List.drop_of_length_le (l := b) (by omega)]
      cases a.drop (min a.length b.length) <;> rfl
   by_cases hc : a.length ≤ b.length
   · have e1 : ¬ ((min a.length b.length : Nat) : Int) < a.length := by omega
     simp only [go_sem,la,lb,e1]
     rw [hf]
   · have e1 : ((min a.length b.length : Nat) : Int) < a.length := by omega
     have e2 : ¬ ((min a.length b.length : Nat) : Int) < b.length := by omega
     simp only [go_sem,la,lb,e1,e2]
     rw [hf]
end Go.Proofs.Ab

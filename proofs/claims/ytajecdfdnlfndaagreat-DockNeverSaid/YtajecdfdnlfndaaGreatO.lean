/- The own layer under the proofs of this seat, part O: what calls of the program come to on an abstract heap. No condition. -/
import Derived.Test.YtajecdfdnlfndaaGreatN
import Derived.Test.YtajecdfdnlfndaaGreatK
import Derived.Test.YtajecdfdnlfndaaGreatM
set_option linter.unusedSimpArgs false
set_option linter.unusedVariables false
namespace Go.Proofs.Ab
open Go Go.Proofs
variable {w0 : World} {h : aA}
attribute [local irreducible] ACall bA bW aY cP rvC lp rg dr ex un rv
theorem nB {progs : List (List aF)} {st : List Int} {j : Nat} (hs : iS progs st) (hj : j < progs.length) : (stepS progs st j).isSome = decide (st.getD j 0 < (progs[j].length : Int)) := by
 obtain ⟨d1,d2⟩ := hs.done j hj
 rw [getD_at hj] at d2
 rw [stepS,getD_at hj]
 by_cases q : st.getD j 0 < (progs[j].length : Int)
 · rw [qA (by omega),decide_eq_true q]; rfl
 · rw [List.getElem?_eq_none (by omega),decide_eq_false q]; rfl
theorem oO {v hv dv : AV} {progs : List (List aF)} {st : List Int} {n : Nat} (hp : PS w0 h v progs) (hh : SlI w0 h hv (hoS n st)) (hd : SlI w0 h dv (st.take progs.length)) (g : PG n progs) (hs : iS progs st) :
 aY Tryz.prog w0 44 [v,hv,dv] h (.bool (bU progs st)) h := by
 refine aS aV aD0 mf44_b mf44_g (qE rfl) (by simp [AV.bdd,AV.bdds]) fun hb ha => bF ?_
 have hlen := hp.len
 have hl8 := hs.len
 have p4 := g.p4
 simp only [go_sem,mf44]
 refine cZ (S := Nat) (F := fun j => [(0,v),(1,hv),(2,dv),(7,.bool ((List.range j).any fun w => (stepS progs st w).isSome)),(8,.int .i64 j)]) (H := fun _ => h) (meas := fun j => progs.length - j) (Inv := fun j => j ≤ progs.length ∧ ∀ w,w < j → aZ progs st w = none) 0 ⟨Nat.zero_le _,fun w hw => by omega⟩ rfl (by simp) ?_
 rintro j ⟨hj,hall⟩ ih
 refine aQ aV aFQ [0,1,2,7,8] L44_0.eq_1 ?_
 by_cases hjl : j < progs.length
 · have e1 : (j : Int) < progs.length := by omega
   simp only [go_sem,hlen,e1]
   refine aI (can_c hp hh hd g.good hs hjl p4 g.n4 g.th).v ?_
   cases hns : aZ progs st j with
   | some s =>
    simp only [go_sem,Option.isSome]
    rw [show bU progs st = false from Bool.eq_false_iff.2 fun e => by rw [dN] at e; rw [e.1 j hjl] at hns; cases hns]
    exact ⟨rfl,[],by simp⟩
   | none =>
    obtain ⟨p,sv,i1,r1,r1',hx⟩ := hp.at_ hjl
    obtain ⟨p2,j1,q1,q1'⟩ := hd.getD_at (j := j) (by rw [List.length_take]; omega)
    rw [dC hjl] at q1 q1'
    have hls : fF sv = some (.int .i64 progs[j].length) := by have := hx.use.1; rwa [List.length_map] at this
    have hsl := nB hs hjl
    have ih := ih (j + 1) ⟨by omega,fun w hw => by
     by_cases q : w = j
     · subst q; exact hns
     · exact hall w (by omega)⟩ (by omega)
    rw [List.range_succ,List.any_append,List.any_cons,List.any_nil,Bool.or_false,hsl] at ih
    cases hany : (List.range j).any fun w => (stepS progs st w).isSome with
    | true =>
     rw [hany,Bool.true_or] at ih
     simp only [go_sem,Option.isSome,hlen]
     exact ⟨(by unfold I64; omega),ih⟩
    | false =>
     rw [hany,Bool.false_or] at ih
     simp only [go_sem,Option.isSome,hlen,i1,r1,r1',j1,q1,q1',hls]
     exact ⟨(by unfold I64; omega),ih⟩
 · have e1 : ¬ (j : Int) < progs.length := by omega
   obtain rfl : j = progs.length := by omega
   have : bU progs st = (List.range progs.length).any fun w => (stepS progs st w).isSome := by
    rw [bU,show ((List.range progs.length).all fun w => (aZ progs st w).isNone) = true from List.all_eq_true.2 fun w hw => by rw [hall w (List.mem_range.1 hw)]; rfl,Bool.true_and]
   simp only [go_sem,hlen,e1]
   rw [this]
   exact ⟨rfl,[],by simp⟩
theorem vL {progs : List (List aF)} {st : List Int} (hs : bU progs st = true) : fV progs st < progs.length ∧ (stepS progs st (fV progs st)).isSome = true ∧ ∀ w,w < fV progs st → (stepS progs st w).isSome = false := by
 have h1 := hs
 rw [nA,Bool.and_eq_true] at hs
 obtain ⟨u,hu⟩ := Option.isSome_iff_exists.1 hs.1
 have hw := wH hu
 have hf : fV progs st = u := by rw [fV,hu]; rfl
 rw [hf]
 refine ⟨hw.1,hw.2,fun w hwu => ?_⟩
 rw [cQ,List.find?_range_eq_some] at hu
 have := hu.2.2 w hwu
 rw [(dN.1 h1).1 w (by omega)] at this
 simpa using this
def LI (w0 : World) (B : aA) (sv : AV) (x : List Int) : Prop := SlI w0 B sv x ∧ (x = [] → sv = .nilS)
theorem LI.sub {B C : aA} {sv : AV} {x : List Int} (a : LI w0 B sv x) (s : aE B C) : LI w0 C sv x := ⟨Sl.sub a.1 s,a.2⟩
def LLo (w0 : World) (B H : aA) (ov : AV) (l : List (List Int)) : Prop := (ov = .nilS ∧ l = []) ∨ ∃ io f c,(l ≠ [] ∧ ov = .sl (.own io 0) l.length 1 f) ∧ H[io]? = some (some (.row c)) ∧ c.length = l.length ∧ (∀ b,B[io]? ≠ some (some b)) ∧ ∀ (j : Nat) x,l[j]? = some x → ∃ sv,c[j]? = some sv ∧ LI w0 B sv x
def cS : AV → Option Nat
 | .sl (.own i _) _ _ _ => some i
 | _ => none
section
variable {B H : aA} {ov : AV} {l : List (List Int)}
theorem LLo.len (a : LLo w0 B H ov l) : fF ov = some (.int .i64 l.length) := by
 rcases a with ⟨rfl,rfl⟩ | ⟨io,f,c,⟨hne,rfl⟩,_⟩ <;> rfl
theorem LLo.at_ (a : LLo w0 B H ov l) (s : aE B H) {j : Nat} (hj : j < l.length) : ∃ (p : Pl) (sv : AV),dH 1 ov (some j) = some (.ptr p) ∧ (∀ L,rd w0 (H ++ L) p = some sv) ∧ rd w0 H p = some sv ∧ LI w0 B sv l[j] := by
 rcases a with ⟨rfl,rfl⟩ | ⟨io,f,c,⟨hne,rfl⟩,h2,h3,h4,h5⟩
 · simp at hj
 · obtain ⟨sv,h6,h7⟩ := h5 j _ (qA hj)
   have : rd w0 H (.own io j) = some sv := by simp [rd,h2,h6]
   exact ⟨.own io j,sv,by rw [own_ix hj,Nat.mul_one],fun L => gS this,this,h7⟩
theorem LLo.mv {C G : aA} (a : LLo w0 B H ov l) (s : aE B C) (k : ∀ i b,cS ov = some i → H[i]? = some (some b) → G[i]? = some (some b) ∧ ∀ c,C[i]? ≠ some (some c)) : LLo w0 C G ov l := by
 rcases a with h1 | ⟨io,f,c,⟨hne,rfl⟩,h2,h3,h4,h5⟩
 · exact .inl h1
 · obtain ⟨k1,k2⟩ := k io _ rfl h2
   exact .inr ⟨io,f,c,⟨hne,rfl⟩,k1,h3,k2,fun j x hx => by
    obtain ⟨sv,g1,g2⟩ := h5 j x hx
    exact ⟨sv,g1,g2.sub s⟩⟩
theorem LLo.lt (a : LLo w0 B H ov l) {i : Nat} (e : cS ov = some i) : (∃ b,H[i]? = some (some b)) ∧ ∀ b,B[i]? ≠ some (some b) := by
 rcases a with ⟨rfl,_⟩ | ⟨io,f,c,⟨hne,rfl⟩,h2,h3,h4,h5⟩
 · cases e
 · cases e; exact ⟨⟨_,h2⟩,h4⟩
end
structure RQ (w0 : World) (h B H : aA) (nv : AV) (now : List (List Int)) (mv : AV) (met : List (List Int)) (xv : AV) (nxt : List (List Int)) : Prop where
 hB : aE h B
 BH : aE B H
 n : LLo w0 B H nv now
 m : LLo w0 B H mv met
 x : LLo w0 B H xv nxt
 mx : ∀ i,cS mv = some i → cS xv ≠ some i
 mn : ∀ i,cS mv = some i → cS nv ≠ some i
 xn : ∀ i,cS xv = some i → cS nv ≠ some i
 fm : mv = .nilS ∨ ∃ io n,mv = .sl (.own io 0) n 1 false
 fx : xv = .nilS ∨ ∃ io n,xv = .sl (.own io 0) n 1 false
def fR (H : aA) (o : Option Nat) : aA := match o with
 | none => H
 | some i => H.set i none
theorem gL {H : aA} {o : Option Nat} : aE (fR H o) H := by
 cases o with
 | none => exact aE.refl
 | some i => exact aE.msk
theorem eD {H : aA} {o : Option Nat} : (fR H o).length = H.length := by cases o <;> simp [fR]
theorem iY {B H : aA} {o : Option Nat} (s : aE B H) (f : ∀ i,o = some i → ∀ b,B[i]? ≠ some (some b)) : aE B (fR H o) := by
 cases o with
 | none => exact s
 | some i => exact s.setN (f i rfl)
theorem dD {H : aA} {o : Option Nat} {i : Nat} (hi : i < H.length) : (o = some i → (fR H o)[i]? = some none) ∧ (o ≠ some i → (fR H o)[i]? = H[i]?) := by
 cases o with
 | none => exact ⟨fun e => (by cases e),fun _ => rfl⟩
 | some j =>
  refine ⟨fun e => ?_,fun e => ?_⟩
  · cases e; simp only [fR]; rw [qF hi]
  · simp only [fR]; rw [qB fun q => e (by rw [q])]
section
variable {B H : aA} {nv mv xv : AV} {now met nxt : List (List Int)}
theorem RQ.sub (a : RQ w0 h B H nv now mv met xv nxt) : aE h H := a.hB.trans a.BH
theorem RQ.call (a : RQ w0 h B H nv now mv met xv nxt) {f : FuncId} {args : List AV} {K : AV → aA → Prop} (e : ∀ M,aE B M → aE M H → ACall Tryz.prog w0 f args M fun v H' => aE M H' ∧ K v H') :
 ACall Tryz.prog w0 f args H fun v H' => ∃ B',aE B B' ∧ RQ w0 h B' H' nv now mv met xv nxt ∧ K v B' := by
 obtain ⟨M,hM⟩ : ∃ M,M = fR (fR (fR H (cS nv)) (cS mv)) (cS xv) := ⟨_,rfl⟩
 have m1 : aE M H := hM ▸ (gL.trans gL).trans gL
 have m2 : aE B M := hM ▸ iY (iY (iY a.BH fun i e => (a.n.lt e).2) fun i e => (a.m.lt e).2) fun i e => (a.x.lt e).2
 have ml : M.length = H.length := by rw [hM,eD,eD,eD]
 have no : ∀ i b,(cS nv = some i ∨ cS mv = some i ∨ cS xv = some i) → H[i]? = some (some b) → M[i]? = some none := fun i b ho hb => by
  have hi := aK hb
  have h1 : i < (fR H (cS nv)).length := by rw [eD]; exact hi
  have h2 : i < (fR (fR H (cS nv)) (cS mv)).length := by rw [eD]; exact h1
  rw [hM]
  by_cases q3 : cS xv = some i
  · exact (dD h2).1 q3
  · rw [(dD h2).2 q3]
    by_cases q2 : cS mv = some i
    · exact (dD h1).1 q2
    · rw [(dD h1).2 q2]
      rcases ho with q1 | q1 | q1
      · exact (dD hi).1 q1
      · exact absurd q1 q2
      · exact absurd q1 q3
 refine ((e M m2 m1).frame m1 ml).mono fun v H' ⟨H0,⟨k1,k2⟩,k3,k4,k5⟩ => ?_
 refine ⟨H0,m2.trans k1,⟨a.hB.trans (m2.trans k1),k3,a.n.mv (m2.trans k1) fun i b e1 e2 => k5 i b (no i b (.inl e1) e2) e2,a.m.mv (m2.trans k1) fun i b e1 e2 => k5 i b (no i b (.inr (.inl e1)) e2) e2,a.x.mv (m2.trans k1) fun i b e1 e2 => k5 i b (no i b (.inr (.inr e1)) e2) e2,a.mx,a.mn,a.xn,a.fm,a.fx⟩,k2⟩
theorem RQ.app {L : aA} (a : RQ w0 h B H nv now mv met xv nxt) : RQ w0 h B (H ++ L) nv now mv met xv nxt :=
 ⟨a.hB,a.BH.app,a.n.mv aE.refl fun i b e1 e2 => ⟨aB e2,(a.n.lt e1).2⟩,a.m.mv aE.refl fun i b e1 e2 => ⟨aB e2,(a.m.lt e1).2⟩,a.x.mv aE.refl fun i b e1 e2 => ⟨aB e2,(a.x.lt e1).2⟩,a.mx,a.mn,a.xn,a.fm,a.fx⟩
theorem LLo.more {l : List (List Int)} {ov sv : AV} {x : List Int} {k : Nat} (a : LLo w0 B H ov l) (s : aE B H) (fm : ov = .nilS ∨ ∃ io n,ov = .sl (.own io 0) n 1 false) (hk : H[k]? = some (some (.row [sv]))) (hs : LI w0 B sv x) (hn : l.length ≤ 1000000) :
 ∃ G,cT w0 H 1 24 ov (.sl (.own k 0) 1 1 true) = some (.sl (.own H.length 0) (l.length + 1) 1 false,G) ∧ G.length = H.length + 1 ∧ aE B G ∧ LLo w0 B G (.sl (.own H.length 0) (l.length + 1) 1 false) (l ++ [x]) ∧ ∀ i b,cS ov ≠ some i → H[i]? = some (some b) → G[i]? = some (some b) := by
 have key : ∃ io vs,(l.length = 0 ∧ ov = .nilS ∧ vs = [] ∨ l.length ≠ 0 ∧ ov = .sl (.own io 0) l.length 1 false ∧ H[io]? = some (some (.row vs)) ∧ vs.length = l.length * 1) ∧ (∀ (j : Nat) x,l[j]? = some x → ∃ sv,vs[j]? = some sv ∧ LI w0 B sv x) ∧ (l.length ≠ 0 → cS ov = some io ∧ ∀ b,B[io]? ≠ some (some b)) ∧ vs.length = l.length := by
  rcases a with ⟨h1,rfl⟩ | ⟨io,f,c,⟨h6,h1⟩,h2,h3,h4,h5⟩
  · exact ⟨0,[],.inl ⟨rfl,h1,rfl⟩,by simp,by simp,rfl⟩
  · have hf : f = false := by
     rcases fm with h | ⟨_,_,h⟩
     · rw [h1] at h; cases h
     · rw [h1] at h; cases h; rfl
    subst hf
    by_cases hl : l.length = 0
    · exact absurd (List.eq_nil_of_length_eq_zero hl) h6
    · exact ⟨io,c,.inr ⟨hl,h1,h2,by omega⟩,h5,fun _ => ⟨by rw [h1]; rfl,h4⟩,h3⟩
 obtain ⟨io,vs,k1,k2,k3,k4⟩ := key
 obtain ⟨G,g1,g2,g3,g4⟩ := oD (w0 := w0) (b := 24) (f := true) k1 hk rfl (by simp [SlI.one hs.1]) (by omega) hn
 have hBl := s.1
 have hN : ∀ b,B[H.length]? ≠ some (some b) := fun b e => by have := aK e; omega
 refine ⟨G,g1,g2,⟨by omega,fun i b e => g4 i _ (fun h0 e2 => (k3 h0).2 b (e2 ▸ e)) (s.2 i b e)⟩,.inr ⟨H.length,false,vs ++ [sv],⟨by simp,by simp⟩,g3,by simp [k4],hN,fun j y hy => ?_⟩,fun i b h1 e => g4 i _ (fun h0 e2 => h1 (by rw [e2]; exact (k3 h0).1)) e⟩
 by_cases hj : j < l.length
 · rw [qH hj] at hy
   obtain ⟨sv',q1,q2⟩ := k2 j y hy
   exact ⟨sv',by rw [qH (by omega)]; exact q1,q2⟩
 · have := aK hy
   simp only [List.length_append,List.length_singleton] at this
   obtain rfl : j = l.length := by omega
   rw [qI (Nat.le_refl _),Nat.sub_self] at hy
   simp at hy; subst hy
   exact ⟨sv,by rw [qI (by omega),k4,Nat.sub_self]; rfl,hs⟩
theorem RQ.grow (a : RQ w0 h B H nv now mv met xv nxt) : ∃ M,aE B M ∧ RQ w0 h M H nv now mv met xv nxt ∧ ∀ i b,(cS nv ≠ some i ∧ cS mv ≠ some i ∧ cS xv ≠ some i) → H[i]? = some (some b) → M[i]? = some (some b) := by
 obtain ⟨M,hM⟩ : ∃ M,M = fR (fR (fR H (cS nv)) (cS mv)) (cS xv) := ⟨_,rfl⟩
 have m1 : aE M H := hM ▸ (gL.trans gL).trans gL
 have m2 : aE B M := hM ▸ iY (iY (iY a.BH fun i e => (a.n.lt e).2) fun i e => (a.m.lt e).2) fun i e => (a.x.lt e).2
 have no : ∀ i b,(cS nv = some i ∨ cS mv = some i ∨ cS xv = some i) → H[i]? = some (some b) → ∀ c,M[i]? ≠ some (some c) := fun i b ho hb c hc => by
  have hi := aK hb
  have h1 : i < (fR H (cS nv)).length := by rw [eD]; exact hi
  have h2 : i < (fR (fR H (cS nv)) (cS mv)).length := by rw [eD]; exact h1
  rw [hM] at hc
  by_cases q3 : cS xv = some i
  · rw [(dD h2).1 q3] at hc; cases hc
  · rw [(dD h2).2 q3] at hc
    by_cases q2 : cS mv = some i
    · rw [(dD h1).1 q2] at hc; cases hc
    · rw [(dD h1).2 q2] at hc
      rcases ho with q1 | q1 | q1
      · rw [(dD hi).1 q1] at hc; cases hc
      · exact q2 q1
      · exact q3 q1
 refine ⟨M,m2,⟨a.hB.trans m2,m1,a.n.mv m2 fun i b e1 e2 => ⟨e2,no i b (.inl e1) e2⟩,a.m.mv m2 fun i b e1 e2 => ⟨e2,no i b (.inr (.inl e1)) e2⟩,a.x.mv m2 fun i b e1 e2 => ⟨e2,no i b (.inr (.inr e1)) e2⟩,a.mx,a.mn,a.xn,a.fm,a.fx⟩,fun i b ⟨n1,n2,n3⟩ e => ?_⟩
 have hi := aK e
 have h1 : i < (fR H (cS nv)).length := by rw [eD]; exact hi
 have h2 : i < (fR (fR H (cS nv)) (cS mv)).length := by rw [eD]; exact h1
 rw [hM,(dD h2).2 n3,(dD h1).2 n2,(dD hi).2 n1]; exact e
@[go_sem] theorem app_zero {w0 : World} {H : aA} {es b : Nat} : cT w0 H es b .nilS .nilS = some (.nilS,H) := by simp [cT,eL]
theorem yN {progs : List (List aF)} : ∀ {sch st : List Int} {i : Int} {s : List Int},goS progs st sch = some s → eJ progs st i sch = (s,-1)
 | [],st,i,s,e => by rw [goS,Option.some.injEq] at e; rw [eJ,e]
 | w :: r,st,i,s,e => by
  rw [goS] at e
  rw [eJ]
  cases h : aZ progs st w.toNat with
  | none => rw [h] at e; cases e
  | some s1 => rw [h] at e; exact yN e
end
def tk (p : Nat) (r : List (List Int)) : List (List Int) := r.map (·.take p)
end Go.Proofs.Ab
namespace Go.Proofs.Ab
open Go Go.Proofs
theorem oC : ∀ {a b r s : List Int},a.length = b.length → eG (a ++ r) (b ++ s) = (eG a b || (decide (a = b) && eG r s))
 | [],[],r,s,_ => by simp [eG]
 | x :: a,y :: b,r,s,h => by
  rw [List.cons_append,List.cons_append,eG,eG]
  by_cases e : x = y
  · subst e
    rw [if_pos rfl,if_pos rfl,oC (by simpa using h)]
    simp
  · rw [if_neg e,if_neg e]
    have : ¬ (x :: a = y :: b) := fun q => e (List.cons.inj q).1
    simp [this]
theorem kC : ∀ {a b c : List Int},a.length = b.length → b.length = c.length → eG a b = true → eG b c = true → eG a c = true
 | [],_,_,_,_,h,_ => by simp [eG] at h
 | x :: a,y :: b,[],_,h2,_,_ => by simp at h2
 | x :: a,y :: b,z :: c,h1,h2,e1,e2 => by
  rw [eG] at e1 e2 ⊢
  by_cases p : x = y
  · subst p
    rw [if_pos rfl] at e1
    by_cases q : x = z
    · rw [if_pos q] at e2 ⊢
      exact kC (by simpa using h1) (by simpa using h2) e1 e2
    · rw [if_neg q] at e2 ⊢; exact e2
  · rw [if_neg p,decide_eq_true_eq] at e1
    by_cases q : y = z
    · subst q
      rw [if_neg p]; simpa using e1
    · rw [if_neg q,decide_eq_true_eq] at e2
      rw [if_neg (by omega)]; simp; omega
def slt (a b : List Int) : Prop := a.length < b.length ∨ a.length = b.length ∧ eG a b = true
theorem aBb {a b : List Int} {v : Int} (h : slt a b) : slt a (b ++ [v]) := .inl (by rcases h with h | h <;> simp <;> omega)
theorem nG {a : List Int} {v : Int} : slt a (a ++ [v]) := .inl (by simp)
theorem aDt {a b : List Int} {u v : Int} (h : slt a b) : slt (a ++ [u]) (b ++ [v]) := by
 rcases h with h | ⟨h,e⟩
 · exact .inl (by simp; omega)
 · exact .inr ⟨by simp; omega,by rw [oC h,e]; rfl⟩
theorem aDs {a : List Int} {u v : Int} (h : u < v) : slt (a ++ [u]) (a ++ [v]) := .inr ⟨by simp,by
 rw [tZ,eG,if_neg (by omega)]; simpa using h⟩
section
variable {n : Nat} {progs : List (List aF)}
def jC (progs : List (List aF)) (sch st : List Int) : Prop := uO progs.length sch ∧ goS progs bE sch = some st ∧ bU progs st = true
def Wit (progs : List (List aF)) (sch st s c : List Int) : Prop := ∃ rest,uO progs.length rest ∧ goS progs s rest = some st ∧ sch.length = (c ++ rest).length ∧ eG sch (c ++ rest) = false
structure OI (progs : List (List aF)) (q : List bI) (seen : List (List Int)) : Prop where
 A : q.Pairwise fun x y => slt x.2 y.2
 B : ∀ x ∈ q,∀ y ∈ q,∀ v,slt x.2 (y.2 ++ [v])
 C : ∀ s ∈ seen,(∃ x ∈ q,x.1 = s) ∨ ∀ x ∈ q,iG progs s ≤ x.2.length
 D : ∀ sch st,jC progs sch st → ∃ x ∈ q,Wit progs sch st x.1 x.2
theorem OI.start : OI progs [(bE,[])] [bE] := by
 refine ⟨by simp,fun x hx y hy v => ?_,fun s hs => .inl ⟨(bE,[]),by simp,by simp at hs; exact hs.symm⟩,fun sch st hs => ⟨(bE,[]),by simp,sch,hs.1,hs.2.1,rfl,aCX _⟩⟩
 simp at hx hy; subst hx; subst hy; exact nG
structure OJ (progs : List (List aF)) (w : bI) (j : Nat) (q : List bI) (seen : List (List Int)) : Prop where
 A : q.Pairwise fun x y => slt x.2 y.2
 B : ∀ x ∈ q,∀ y ∈ q,∀ v,slt x.2 (y.2 ++ [v])
 E : ∀ x ∈ q,∀ v : Nat,j ≤ v → slt x.2 (w.2 ++ [(v : Int)])
 F : ∀ x ∈ q,slt w.2 x.2
 C : ∀ s ∈ seen,(∃ x ∈ q,x.1 = s) ∨ iG progs s ≤ w.2.length
 D : ∀ sch st,jC progs sch st → (∃ x ∈ q,Wit progs sch st x.1 x.2) ∨ ∃ (v : Nat) (s : List Int),j ≤ v ∧ v < progs.length ∧ aZ progs w.1 v = some s ∧ Wit progs sch st s (w.2 ++ [(v : Int)])
theorem OJ.start {w : bI} {q : List bI} {seen : List (List Int)} (a : OI progs (w :: q) seen) (hq : QI n progs (w :: q) seen) (hs : bU progs w.1 = false) : OJ progs w 0 q seen := by
 have hA := List.pairwise_cons.1 a.A
 refine ⟨hA.2,fun x hx y hy v => a.B x (by simp [hx]) y (by simp [hy]) v,fun x hx v _ => a.B x (by simp [hx]) w (by simp) v,hA.1,fun s hs => ?_,fun sch st h => ?_⟩
 · rcases a.C s hs with ⟨x,hx,e⟩ | h
   · rcases List.mem_cons.1 hx with rfl | hx
     · have := (hq.way x (by simp)).sum
       rw [e] at this
       exact .inr (by omega)
     · exact .inl ⟨x,hx,e⟩
   · exact .inr (h w (by simp))
 · obtain ⟨x,hx,rest,h1,h2,h3,h4⟩ := a.D sch st h
   rcases List.mem_cons.1 hx with rfl | hx
   · refine .inr ?_
     match rest,h1,h2,h3,h4 with
     | [],h1,h2,h3,h4 =>
      rw [goS,Option.some.injEq] at h2
      rw [h2,h.2.2] at hs; cases hs
     | v :: r,h1,h2,h3,h4 =>
      obtain ⟨v1,v2⟩ := h1 v (by simp)
      obtain ⟨u,rfl⟩ : ∃ u : Nat,v = u := ⟨v.toNat,by omega⟩
      rw [goS,Int.toNat_natCast] at h2
      cases e : aZ progs x.1 u with
      | none => rw [e] at h2; cases h2
      | some s =>
       rw [e] at h2
       exact ⟨u,s,Nat.zero_le _,by omega,e,r,fun y hy => h1 y (by simp [hy]),h2,by simpa using h3,by rw [List.append_assoc]; exact h4⟩
   · exact .inl ⟨x,hx,rest,h1,h2,h3,h4⟩
theorem OJ.step (g : PG n progs) {w : bI} {j : Nat} {x : List (List Int) × List bI} (a : OJ progs w j x.2 x.1) (hq : QI n progs x.2 x.1) (hw : gE n progs w) (hj : j < progs.length) : OJ progs w (j + 1) (eM progs w x j).2 (eM progs w x j).1 := by
 have stay : (∀ sch st,jC progs sch st → (∃ y ∈ x.2,Wit progs sch st y.1 y.2) ∨ ∃ (v : Nat) (s : List Int),j + 1 ≤ v ∧ v < progs.length ∧ aZ progs w.1 v = some s ∧ Wit progs sch st s (w.2 ++ [(v : Int)])) → OJ progs w (j + 1) x.2 x.1 :=
  fun hD => ⟨a.A,a.B,fun y hy v hv => a.E y hy v (by omega),a.F,a.C,hD⟩
 rw [eM]
 cases e : aZ progs w.1 j with
 | none =>
  refine stay fun sch st h => ?_
  rcases a.D sch st h with h1 | ⟨v,s,h1,h2,h3,h4⟩
  · exact .inl h1
  · by_cases q : v = j
    · subst q; rw [e] at h3; cases h3
    · exact .inr ⟨v,s,by omega,h2,h3,h4⟩
 | some s =>
  simp only
  obtain ⟨r1,r2⟩ := hw.rs.next g hj e
  split
  · rename_i hs
    refine stay fun sch st h => ?_
    rcases a.D sch st h with h1 | ⟨v,s',h1,h2,h3,rest,h4,h5,h6,h7⟩
    · exact .inl h1
    · by_cases q : v = j
      · subst q
        rw [e] at h3; cases h3
        rcases a.C s hs with ⟨y,hy,ey⟩ | hle
        · have hyw := (hq.way y hy).sum
          rw [ey,r2,hw.sum] at hyw
          have hl : y.2.length = (w.2 ++ [(v : Int)]).length := by simp; omega
          have hb : eG y.2 (w.2 ++ [(v : Int)]) = true := by
           rcases a.E y hy v (Nat.le_refl _) with h | h
           · omega
           · exact h.2
          have hl2 : (w.2 ++ [(v : Int)] ++ rest).length = (y.2 ++ rest).length := by rw [List.length_append,← hl,← List.length_append]
          refine .inl ⟨y,hy,rest,h4,by rw [ey]; exact h5,by rw [h6,hl2],?_⟩
          refine Bool.eq_false_iff.2 fun hc => ?_
          have := kC (by rw [h6,hl2]) hl2.symm hc (show eG (y.2 ++ rest) (w.2 ++ [(v : Int)] ++ rest) = true by rw [oC hl,hb]; rfl)
          rw [h7] at this; cases this
        · rw [r2,hw.sum] at hle; omega
      · exact .inr ⟨v,s',by omega,h2,h3,rest,h4,h5,h6,h7⟩
  · have hm : ∀ y,y ∈ x.2 ++ [(s,w.2 ++ [(j : Int)])] → y ∈ x.2 ∨ y = (s,w.2 ++ [(j : Int)]) := fun y hy => by simpa using hy
    refine ⟨?_,fun y hy z hz v => ?_,fun y hy v hv => ?_,fun y hy => ?_,fun t ht => ?_,fun sch st h => ?_⟩
    · rw [List.pairwise_append]
      refine ⟨a.A,by simp,fun y hy z hz => ?_⟩
      simp at hz; subst hz
      exact a.E y hy j (Nat.le_refl _)
    · rcases hm y hy with hy | rfl <;> rcases hm z hz with hz | rfl
      · exact a.B y hy z hz v
      · exact aBb (a.E y hy j (Nat.le_refl _))
      · exact aDt (a.F z hz)
      · exact nG
    · rcases hm y hy with hy | rfl
      · exact a.E y hy v (by omega)
      · exact aDs (by omega)
    · rcases hm y hy with hy | rfl
      · exact a.F y hy
      · exact nG
    · rcases List.mem_append.1 ht with ht | ht
      · rcases a.C t ht with ⟨y,hy,ey⟩ | h
        · exact .inl ⟨y,List.mem_append_left _ hy,ey⟩
        · exact .inr h
      · simp at ht; subst ht
        exact .inl ⟨_,List.mem_append_right _ (List.mem_singleton.2 rfl),rfl⟩
    · rcases a.D sch st h with ⟨y,hy,h1⟩ | ⟨v,s',h1,h2,h3,h4⟩
      · exact .inl ⟨y,List.mem_append_left _ hy,h1⟩
      · by_cases q : v = j
        · subst q
          rw [e] at h3; cases h3
          exact .inl ⟨_,List.mem_append_right _ (List.mem_singleton.2 rfl),h4⟩
        · exact .inr ⟨v,s',by omega,h2,h3,h4⟩
theorem OJ.steps (g : PG n progs) {w : bI} {x : List (List Int) × List bI} (a : OJ progs w 0 x.2 x.1) (hq : QI n progs x.2 x.1) (hw : gE n progs w) : ∀ {j : Nat},j ≤ progs.length → OJ progs w j (cY progs w j x).2 (cY progs w j x).1
 | 0,_ => a
 | j + 1,h => by
  rw [kP]
  exact (OJ.steps g a hq hw (j := j) (by omega)).step g (hq.pushes g hw (by omega)) hw (by omega)
theorem OJ.done {w : bI} {q : List bI} {seen : List (List Int)} (a : OJ progs w progs.length q seen) : OI progs q seen := by
 refine ⟨a.A,a.B,fun s hs => ?_,fun sch st h => ?_⟩
 · rcases a.C s hs with h | h
   · exact .inl h
   · refine .inr fun x hx => ?_
     rcases a.F x hx with h1 | h1 <;> omega
 · rcases a.D sch st h with h1 | ⟨v,s,h1,h2,_⟩
   · exact h1
   · omega
def BfsOk (n : Nat) (progs : List (List aF)) (o : Option bI) : Prop := match o with
 | none => ∀ sch st,¬ jC progs sch st
 | some w => gE n progs w ∧ bU progs w.1 = true ∧ ∀ sch st,jC progs sch st → w.2.length ≤ sch.length ∧ (sch.length = w.2.length → eG sch w.2 = false)
theorem tY (g : PG n progs) : ∀ {k : Nat} {q : List bI} {seen : List (List Int)},QI n progs q seen → OI progs q seen → mu q ≤ k → BfsOk n progs (bfs progs k q seen)
 | 0,q,seen,_,ho,hm => by
  match q,hm with
  | [],_ =>
   rw [bfs]
   intro sch st h
   obtain ⟨x,hx,_⟩ := ho.D sch st h
   simp at hx
  | w :: q,hm =>
   rw [qR] at hm
   have : 0 < 5 ^ (25 - w.2.length) := Nat.pow_pos (by omega)
   omega
 | k + 1,[],seen,_,ho,_ => by
  rw [bfs]
  intro sch st h
  obtain ⟨x,hx,_⟩ := ho.D sch st h
  simp at hx
 | k + 1,w :: q,seen,hq,ho,hm => by
  rw [bfs]
  have hw := hq.way w (by simp)
  cases hs : bU progs w.1 with
  | true =>
   simp only [if_true]
   refine ⟨hw,hs,fun sch st h => ?_⟩
   obtain ⟨x,hx,rest,h1,h2,h3,h4⟩ := ho.D sch st h
   rw [List.length_append] at h3
   rcases List.mem_cons.1 hx with rfl | hx
   · refine ⟨by omega,fun e => ?_⟩
     have : rest = [] := List.eq_nil_of_length_eq_zero (by omega)
     subst this
     rwa [List.append_nil] at h4
   · have hA := (List.pairwise_cons.1 ho.A).1 x hx
     refine ⟨by rcases hA with h | h <;> omega,fun e => ?_⟩
     have hl : rest = [] ∧ w.2.length = x.2.length := by
      rcases hA with h | h
      · omega
      · exact ⟨List.eq_nil_of_length_eq_zero (by omega),h.1⟩
     rcases hA with h | h
     · omega
     rw [hl.1,List.append_nil] at h4
     refine Bool.eq_false_iff.2 fun hc => ?_
     rw [kC e h.1 hc h.2] at h4; cases h4
  | false =>
   simp only [Bool.false_eq_true,if_false]
   have h1 := hq.tail
   have h2 := QI.pushes g (x := (seen,q)) h1 hw (Nat.le_refl _)
   have h3 := (OJ.steps g (x := (seen,q)) (OJ.start ho hq hs) h1 hw (Nat.le_refl _)).done
   have h4 := qQ g (q := q) (seen := seen) (hw.len24 g)
   exact tY g h2 h3 (by omega)
end
end Go.Proofs.Ab
namespace Go.Proofs.Ab
open Go Go.Proofs
variable {w0 : World} {h : aA}
attribute [local irreducible] ACall bA bW aY cP rvC lp rg dr ex un rv
theorem pO {progs : List (List aF)} {st : List Int} : ∀ {k who : Nat} {out : List Nat},(dP progs st k who out).length ≤ out.length + k
 | 0,_,out => by rw [dP]; omega
 | k + 1,who,out => by
  rw [dP]
  split
  · simp only [List.length_append,List.length_singleton]; omega
  · split
    · simp only [List.length_append,List.length_singleton]; omega
    · rename_i s _
      have := pO (progs := progs) (st := st) (k := k) (who := jL st s) (out := out ++ [who])
      simp only [List.length_append,List.length_singleton] at this; omega
end Go.Proofs.Ab

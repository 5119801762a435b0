/- The own layer under the proofs of this seat, part N: what calls of the program come to on an abstract heap. No condition. -/
import Derived.Test.YtiakeffhecpddaaGreatL
import Derived.Test.YtiakeffhecpddaaGreatM
import Derived.Test.YtiakeffhecpddaaGreatJ
import Derived.Test.YtiakeffhecpddaaGreatG
set_option linter.unusedSimpArgs false
set_option linter.unusedVariables false
namespace Go.Proofs.Ab
open Go Go.Proofs
variable {w0 : World} {h : aA}
attribute [local irreducible] ACall bN dG aQ dA rvC lp rg dr ex un rv
theorem aDg {day : Int} {l : List aX} (hc : dL l = true) : 0 ≤ cT day l ∧ cT day l ≤ 1000 * 30 := by
 obtain ⟨ln,lb⟩ := mS hc
 have key : ∀ q : List aX,(∀ b ∈ q,0 ≤ b.kilos ∧ b.kilos ≤ 1000) → 0 ≤ cH q ∧ cH q ≤ 1000 * q.length := fun q => by
  induction q with
  | nil => intro _; simp [cH]
  | cons b q ih =>
   intro hq
   have := ih (fun c hc => hq c (List.mem_cons_of_mem _ hc))
   have := hq b List.mem_cons_self
   simp only [cH,List.map_cons,List.sum_cons,List.length_cons] at *
   omega
 have := key (l.filter (dJ day)) fun b hb => by have := lb b (List.mem_filter.1 hb).1; omega
 have e : cT day l = cH (l.filter (dJ day)) := rfl
 have := List.length_filter_le (dJ day) l
 omega
set_option maxRecDepth 20000 in
theorem vY {p : aS} {cv sv fv lv v : AV} {legs : List bU} {l : List aX} (tank day : Int) (hp : dX w0 h p cv sv fv) (hl : eU w0 h lv legs) (hv : dB w0 h v l) (hcl : p.cor.length ≤ 9223372036854775807) (hsl : p.sta.length ≤ 9223372036854775807) (hfl : p.flo.length ≤ 9223372036854775807) (hll : legs.length ≤ 9223372036854775807) (hil : ∀ x ∈ legs,x.items.length ≤ 9223372036854775807) (hbl : l.length ≤ 9223372036854775807) :
 ACall Tryz.prog w0 3 [.agg (p.c cv sv fv),lv,.int .i64 tank,.agg [v],.int .i64 day] h fun y H => aD h H ∧ y = .bool true := by
 have o1 := hp.c.one
 have o2 := hp.s.one
 have o3 := hp.f.one
 have o4 := Sl.one hv
 have lc := hp.c.use.1
 have ls := hp.s.use.1
 have lf := hp.f.use.1
 have ll := hl.len
 rw [List.length_map] at lc ls lf
 refine aR aI mf3_ok mf3_b mf3_g (qE rfl) fun hb1 ha => aL ?_
 rw [List.append_nil]
 obtain ⟨K,eK⟩ : ∃ K,K = h ++ [some (Blk.row (p.c cv sv fv)),some (Blk.row [v])] := ⟨_,rfl⟩
 have sK : aD h K := by rw [eK]; exact aD.refl.app
 have k0 : K[h.length]? = some (some (.row (p.c cv sv fv))) := by rw [eK,qI (by omega)]; simp
 have k1 : K[h.length + 1]? = some (some (.row [v])) := by rw [eK,qI (by omega)]; simp
 simp only [aS.c] at k0 eK ⊢
 have k0L := xL k0
 have k1L := xL k1
 simp only [go_sem,mf3,o1.1,o1.2,o2.1,o2.2,o3.1,o3.2,o4.1,o4.2]
 rw [← eK]
 by_cases c1 : (12 : Int) < p.cor.length
 · simp only [go_sem,k0,k0L,lc,c1]
   refine aC dE.v ?_
   simp only [go_sem]
   exact sK
 by_cases c2 : (8 : Int) < p.sta.length
 · simp only [go_sem,k0,k0L,lc,ls,c1,c2]
   refine aC dE.v ?_
   simp only [go_sem]
   exact sK
 by_cases c3 : (2 : Int) < p.flo.length
 · simp only [go_sem,k0,k0L,lc,ls,lf,c1,c2,c3]
   refine aC dE.v ?_
   simp only [go_sem]
   exact sK
 by_cases c4 : (6 : Int) < legs.length
 · simp only [go_sem,k0,k0L,lc,ls,lf,ll,c1,c2,c3,c4]
   refine aC dE.v ?_
   simp only [go_sem]
   exact sK
 simp only [go_sem,k0,k0L,lc,ls,lf,ll,c1,c2,c3,c4,o1.1,o1.2,o2.1,o2.2,o3.1,o3.2]
 have hpK := hp.sub sK
 have plc := xK hpK (by omega) (by omega) (by omega)
 simp only [aS.c] at plc
 refine aC plc.v ?_
 cases c5 : cP p with
 | false =>
  simp only [go_sem]
  refine aC dE.v ?_
  simp only [go_sem]
  exact sK
 | true =>
 by_cases c6 : (400 : Int) < p.tank.most
 · simp only [go_sem,k0,k0L,c6]
   refine aC dE.v ?_
   simp only [go_sem]
   exact sK
 simp only [go_sem,k0,k0L,c6,ls]
 refine aC (aAU (hl.sub sK) ⟨by omega,by omega⟩ hll hil).v ?_
 cases c7 : rH p.sta.length legs with
 | false =>
  simp only [go_sem]
  refine aC dE.v ?_
  simp only [go_sem]
  exact sK
 | true =>
 by_cases c8 : tank < 0
 · simp only [go_sem,c8]
   refine aC dE.v ?_
   simp only [go_sem]
   exact sK
 by_cases c9 : p.tank.most < tank
 · simp only [go_sem,k0,k0L,c8,c9]
   refine aC dE.v ?_
   simp only [go_sem]
   exact sK
 simp only [go_sem,k0,k0L,k1,k1L,c8,c9,o4.1,o4.2]
 refine aC (xJ (Sl.sub hv sK) hbl).v ?_
 cases d1 : dL l with
 | false =>
  simp only [go_sem]
  refine aC dE.v ?_
  simp only [go_sem]
  exact sK
 | true =>
 simp only [go_sem]
 refine aC (uS day).v ?_
 cases d2 : inB day 0 400 with
 | false =>
  simp only [go_sem]
  refine aC dE.v ?_
  simp only [go_sem]
  exact sK
 | true =>
 simp only [go_sem,k0,k0L,k1,k1L,o1.1,o1.2,o2.1,o2.2,o3.1,o3.2,o4.1,o4.2]
 obtain ⟨pb,ps,pf,_⟩ := iO c5
 have hlb : (∀ x ∈ legs,dH p.sta.length x = true) ∧ 1 ≤ legs.length := by
  simpa [rH,List.all_eq_true] using c7
 have hl6 : 1 ≤ legs.length ∧ legs.length ≤ 6 := ⟨hlb.2,by omega⟩
 have fc := aDZ hpK c5 (hl.sub sK) hlb.1 hl6 (fun n => by rw [dW,dW,List.length_map,List.length_map])
  (by rw [dW,List.length_map]; have := vR (legs := legs) pb ps pf hl6.2; omega)
 simp only [aS.c] at fc
 refine aP (ACall.vc (first := []) (args := [_,_]) fc) ?_
 rintro y H1 ⟨s1,n,e,rfl,hF⟩
 have g0 := s1.2 _ _ k0
 have g1 := s1.2 _ _ k1
 have g0L := xL g0
 have g1L := xL g1
 have sh1 := sK.trans s1
 simp only [go_sem,g0,g0L,g1,g1L,o1.1,o1.2,o2.1,o2.2,o3.1,o3.2,o4.1,o4.2]
 refine aP (ACall.vc (first := []) (args := [_,_]) (aDY (d := day) (Sl.sub hv sh1) d1 d2)) ?_
 rintro y H2 ⟨s2,rfl⟩
 have sh2 := sh1.trans s2
 have g0 := s2.2 _ _ g0
 have g1 := s2.2 _ _ g1
 have g0L := xL g0
 have g1L := xL g1
 have has0 : ¬ cT day l < 0 := by have := (aDg (day := day) d1).1; omega
 have tm : 0 ≤ tank ∧ tank ≤ 20000 := ⟨by omega,by omega⟩
 have ones := And.intro o1 (And.intro o2 o3)
 rcases vG hF with ⟨rfl,hno⟩ | ⟨rfl,hn,hyes,hless⟩
 · simp only [go_sem,has0,g0,g0L,o1.1,o1.2,o2.1,o2.2,o3.1,o3.2]
   have tc := zA (hp.sub sh2) c5 (hl.sub sh2) hlb.1 hl6 tm
   simp only [aS.c] at tc
   refine aP (ACall.vc (first := []) (args := [_,_,_]) tc) ?_
   rintro y H3 ⟨s3,a,r,k,rfl,_,ha2⟩
   have ha := ha2 (hno tank tm.1 tm.2)
   have ha' : a ≥ 0 := ha
   simp only [go_sem,ha,ha']
   refine aC dE.v ?_
   simp only [go_sem]
   exact sh2.trans s3
 by_cases f1 : n ≤ tank
 · simp only [go_sem,has0,f1]
   refine aC dE.v ?_
   simp only [go_sem]
   exact sh2
 have w1 := bO (n := n - tank) (by unfold I64; omega)
 simp only [go_sem,has0,f1,g1,g1L,o4.1,o4.2,w1]
 refine aP (ACall.vc (first := []) (args := [_,_,_]) (Draw_c (d := day) (am := n - tank) (Sl.sub hv sh2) d1 d2 (by omega) (by omega))) ?_
 rintro y H3 ⟨s3,⟨f2,rfl⟩ | ⟨f2,z,el,rfl,hz,he,hh⟩⟩
 · have sh3 := sh2.trans s3
   simp only [go_sem,w1,f2]
   refine aC dE.v ?_
   simp only [go_sem]
   exact sh3.app
 have sh3 := sh2.trans s3
 have z1 := Sl.one hz
 have f3 : ¬ cT day l < n - tank := by omega
 obtain ⟨H4,eH4⟩ : ∃ H4,H4 = H3 ++ [some (Blk.row [z])] := ⟨_,rfl⟩
 have s4 : aD H3 H4 := by rw [eH4]; exact aD.refl.app
 have q4 : H4[H3.length]? = some (some (.row [z])) := by rw [eH4]; simp
 have q4L := xL q4
 simp only [go_sem,w1,f3,z1.1,z1.2]
 rw [← eH4]
 refine aP (ACall.vc (first := []) (args := [_,_]) (aDY (d := day) (Sl.sub hz s4) he d2)) ?_
 rintro y H5 ⟨s5,rfl⟩
 have sh5 := (sh3.trans s4).trans s5
 have g0 := ((s3.trans s4).trans s5).2 _ _ g0
 have g0L := xL g0
 have hb : 0 ≤ cT day l ∧ cT day l ≤ 1000 * 30 := aDg d1
 have w2 := bO (n := cT day l - (n - tank)) (by unfold I64; omega)
 simp only [go_sem,hh,w1,w2,g0,g0L,o1.1,o1.2,o2.1,o2.2,o3.1,o3.2]
 have tc := zA (hp.sub sh5) c5 (hl.sub sh5) hlb.1 hl6 hn
 simp only [aS.c] at tc
 refine aP (ACall.vc (first := []) (args := [_,_,_]) tc) ?_
 rintro y H6 ⟨s6,a1,r1,j1,rfl,ha1,_⟩
 have ha1 := ha1 hyes
 subst ha1
 have sh6 := sh5.trans s6
 have g0 := s6.2 _ _ g0
 have g0L := xL g0
 have w3 := bO (n := n - 1) (by unfold I64; omega)
 simp only [go_sem,w3,g0,g0L,o1.1,o1.2,o2.1,o2.2,o3.1,o3.2]
 have tc := zA (lo := n - 1) (hp.sub sh6) c5 (hl.sub sh6) hlb.1 hl6 ⟨by omega,by omega⟩
 simp only [aS.c] at tc
 refine aP (ACall.vc (first := []) (args := [_,_,_]) tc) ?_
 rintro y H7 ⟨s7,a2,r2,j2,rfl,_,ha2⟩
 have ha2 := ha2 (hless (by omega))
 have ha2' : a2 ≥ 0 := ha2
 simp only [go_sem,ha2,ha2']
 refine aC dE.v ?_
 simp only [go_sem]
 exact sh6.trans s7
end Go.Proofs.Ab
namespace Go.Proofs.Ab
open Go Go.Proofs
variable {w : World} {h : aA} {cs : List Value}
def pI : Rw := .int (.int .nil)
def aBH : Rw := .int (.int (.int .nil))
def zR : Rw := .int (.int (.int (.int (.sl pI (.sl pI (.int (.int (.int (.sl pI .nil)))))))))
def legRw : Rw := .sl aBH (.bool (.int (.int (.int (.int (.int .nil))))))
def aAh : Rw := .sl pI .nil
theorem zG {v : Value} (g : Gd w (.int .nil) [v]) : ∃ n : Int,inj v = .int .i64 n ∧ I64 n := by
 obtain ⟨n,_,e,h,rfl⟩ := g
 cases e; exact ⟨n,rfl,h⟩
theorem zJ {v : Value} (g : oS w pI v) : ∃ l : List fG,Sl w h 2 (inj v) (l.map fG.c) ∧ l.length ≤ 9223372036854775807 :=
 mC (h := h) fG.c rfl g fun _ g => by
  obtain ⟨a,_,rfl,_,b,_,rfl,_,rfl⟩ := g
  exact ⟨⟨a,b⟩,rfl⟩
theorem aB6 (g : Gd w zR cs) : ∃ (p : aS) (cv sv fv : AV),cs.map inj = p.c cv sv fv ∧ dX w h p cv sv fv ∧ p.cor.length ≤ 9223372036854775807 ∧ p.sta.length ≤ 9223372036854775807 ∧ p.flo.length ≤ 9223372036854775807 := by
 obtain ⟨a,_,rfl,_,b,_,rfl,_,c,_,rfl,_,d,_,rfl,_,v0,_,rfl,g0,v1,_,rfl,g1,e,_,rfl,_,f,_,rfl,_,k,_,rfl,_,v2,_,rfl,g2,rfl⟩ := g
 obtain ⟨l0,s0,n0⟩ := mC (h := h) dM.c rfl g0 fun _ g => by
  obtain ⟨a,_,rfl,_,b,_,rfl,_,rfl⟩ := g
  exact ⟨⟨a,b⟩,rfl⟩
 obtain ⟨l1,s1,n1⟩ := zJ (h := h) g1
 obtain ⟨l2,s2,n2⟩ := zJ (h := h) g2
 exact ⟨⟨a,b,c,d,l0,l1,⟨e,f⟩,k,l2⟩,inj v0,inj v1,inj v2,rfl,⟨s0,s1,s2⟩,n0,n1,n2⟩
theorem slz_of {v : Value} (g : oS w aBH v) : ∃ l : List dF,SlZ w h 3 (inj v) (l.map dF.c) ∧ l.length ≤ 9223372036854775807 := by
 obtain ⟨l,hs,n⟩ := mC (h := h) dF.c rfl g fun _ g => by
  obtain ⟨a,_,rfl,_,b,_,rfl,_,c,_,rfl,_,rfl⟩ := g
  exact ⟨⟨a,b,c⟩,rfl⟩
 refine ⟨l,⟨hs,fun e => ?_⟩,n⟩
 have hl := hs.use.1
 rw [e] at hl
 rcases g with rfl | ⟨a,len,cap,rfl,h1,h2,h3⟩
 · rfl
 · simp only [inj,if_pos h1,eH,Option.some.injEq,AV.int.injEq,true_and] at hl
   obtain rfl : len = 0 := by simpa using hl
   simp [inj,fY,gO,rdn]
theorem aGV {v : Value} (g : Gd w (.sl legRw .nil) [v]) : ∃ l : List bU,eU w h (inj v) l ∧ l.length ≤ 9223372036854775807 ∧ ∀ x ∈ l,x.items.length ≤ 9223372036854775807 := by
 obtain ⟨_,_,e,g,rfl⟩ := g
 cases e
 obtain ⟨rows,h1,h2,h3⟩ := zO (h := h) g
 obtain ⟨l,rfl,hl⟩ := pD (f := fun x : AV × bU => x.2.c x.1) (p := fun x => SlZ w h 3 x.1 (x.2.items.map dF.c) ∧ x.2.items.length ≤ 9223372036854775807) (rows := rows) fun c hc => by
  obtain ⟨cs,rfl,u,_,rfl,g2,b,_,rfl,a0,_,rfl,_,a1,_,rfl,_,a2,_,rfl,_,a3,_,rfl,_,a4,_,rfl,_,rfl⟩ := h3 c hc
  obtain ⟨q,hq,n⟩ := slz_of (h := h) g2
  exact ⟨(inj u,⟨q,b,a0,a1,a2,a3,a4⟩),rfl,hq,n⟩
 refine ⟨l.map Prod.snd,⟨_,by simp,h1,fun j x c hx hc => ?_⟩,by simpa using h2,fun x hx => ?_⟩
 · simp only [List.getElem?_map,qD] at hx hc
   obtain ⟨a,a1,rfl⟩ := hx
   obtain ⟨b,b1,rfl⟩ := hc
   rw [a1] at b1; cases b1
   exact ⟨a.1,rfl,(hl _ (List.mem_of_getElem? a1)).1⟩
 · obtain ⟨a,ha,rfl⟩ := List.mem_map.1 hx
   exact (hl a ha).2
theorem aDw (g : Gd w aAh cs) : ∃ (l : List aX) (v : AV),cs.map inj = [v] ∧ dB w h v l ∧ l.length ≤ 9223372036854775807 := by
 obtain ⟨v0,_,rfl,g0,rfl⟩ := g
 obtain ⟨l0,s0,n0⟩ := mC (h := h) aX.c rfl g0 fun _ g => by
  obtain ⟨a,_,rfl,_,b,_,rfl,_,rfl⟩ := g
  exact ⟨⟨a,b⟩,rfl⟩
 exact ⟨l0,inj v0,rfl,s0,n0⟩
end Go.Proofs.Ab

/- Own layer, part I. -/
import Derived.Test.YtiakeffhecpddaaGreatH
set_option linter.unusedSimpArgs false
set_option linter.unusedVariables false
namespace Go.Proofs.Ab
open Go Go.Proofs
variable {w0:World} {h:Heap}
attribute [local irreducible] ACall bE cR aK bI rvC lp rg dr ex un rv
theorem aFO{l:List gW}{e:Nat}{w m:Int}(hb:vA l)(hw:WM w m):aK Tryz.prog w0 179 [.agg (uT l e),.int .i64 w,.int .i64 m] h (.int .i64 (mT l e w m)) h:=by
 have h1:=pY hb e
 have h2:=pY hb (e+1)
 obtain⟨s1,s2⟩:=aFx hb (e:=e) hw
 have hw1:=hw.1
 have hw2:=hw.2
 have b1:I64 (((bY l (e+1)).w - (bY l e).w)*(m - (bY l e).m)):=by unfold I64; omega
 have b2:I64 (((bY l (e+1)).m - (bY l e).m)*(w - (bY l e).w)):=by unfold I64; omega
 have b3:I64 (mT l e w m):=by unfold I64 mT; omega
 have z3:=cZ (n:=m - (bY l e).m) (by unfold I64; omega)
 have z4:=cZ (n:=w - (bY l e).w) (by unfold I64; omega)
 have z7:=cZ (n:=mT l e w m) b3
 rw[mT]at z7
 rw[uT]
 refine aM aME fun hb ha=> ?_
 simp only[go_sem,mf179,z3,z4,z7]
 exact⟨b1,b2,rfl⟩
def iI(l:List gW)(e:Nat)(arm:Int):Int:=((bY l (e+1)).w - (bY l e).w)*arm - ((bY l (e+1)).m - (bY l e).m)
theorem yI{l:List gW}(hb:vA l){e:Nat}{arm:Int}(ha: -1000≤arm∧arm≤1000):(-(20000*1000)≤((bY l (e+1)).w - (bY l e).w)*arm∧((bY l (e+1)).w - (bY l e).w)*arm≤20000*1000)∧ -60000000≤iI l e arm∧iI l e arm≤60000000:=by
 have h1:=pY hb e
 have h2:=pY hb (e+1)
 have:=lQ (x:=(bY l (e+1)).w - (bY l e).w) (y:=arm) (m:=20000) (n:=1000) (by omega) (by omega) ha.1 ha.2
 unfold iI
 omega
theorem aJc{l:List gW}{e:Nat}{arm:Int}(hb:vA l)(ha: -1000≤arm∧arm≤1000):aK Tryz.prog w0 190 [.agg (uT l e),.int .i64 arm] h (.int .i64 (iI l e arm)) h:=by
 obtain⟨s1,s2⟩:=yI hb (e:=e) ha
 have b1:I64 (((bY l (e+1)).w - (bY l e).w)*arm):=by unfold I64; omega
 have z7:=cZ (n:=iI l e arm) (by unfold I64; omega)
 rw[iI]at z7
 rw[uT]
 refine aM aMu fun hb ha=> ?_
 simp only[go_sem,mf190,z7]
 exact⟨b1,rfl⟩
theorem aF6{p:aZ}{cv sv fv:AV}(hp:jI w0 h p cv sv fv):ACall Tryz.prog w0 178 [.agg (p.c cv sv fv)] h fun y H=>y= .fn (.func 188) [] [.ptr (.own h.length 0)]∧H=h++[some (.row (p.c cv sv fv))]:=by
 refine aO aMF fun hb ha=> ?_
 have o1:=hp.c.one
 have o2:=hp.s.one
 have o3:=hp.f.one
 simp only[go_sem,mf178,o1.1,o1.2,o2.1,o2.2,o3.1,o3.2]
theorem aCD{p:aZ}{x:PtD}{cv sv fv iv wv:AV}(hp:jI w0 h p cv sv fv)(hx:PtV w0 h x iv wv):ACall Tryz.prog w0 189 [.agg (p.c cv sv fv++x.c iv wv)] h fun y H=>y= .fn (.func 195) [] [.ptr (.own h.length 0)]∧H=h++[some (.row (p.c cv sv fv++x.c iv wv))]:=by
 refine aO aMv fun hb ha=> ?_
 have o1:=hp.c.one
 have o2:=hp.s.one
 have o3:=hp.f.one
 have o4:=hx.i.one
 have o5:=hx.w.one
 simp only[go_sem,mf189,List.cons_append,List.nil_append,o1.1,o1.2,o2.1,o2.2,o3.1,o3.2,o4.1,o4.2,o5.1,o5.2]
def sO(p:aZ)(x:PtD):Int:=cond x.landing p.landing p.takeoff
theorem aNO{p:aZ}{x:PtD}{cv sv fv iv wv:AV}(hp:jI w0 h p cv sv fv)(hx:PtV w0 h x iv wv):aK Tryz.prog w0 181 [.agg (p.c cv sv fv++x.c iv wv)] h (.int .i64 (sO p x)) h:=by
 have o1:=hp.c.one
 have o2:=hp.s.one
 have o3:=hp.f.one
 have o4:=hx.i.one
 have o5:=hx.w.one
 simp only[aZ.c,PtD.c,List.cons_append,List.nil_append]
 refine aM aMC fun hb ha=> ?_
 cases e:x.landing
 ·simp only[go_sem,aI3,o1.1,o1.2,o2.1,o2.2,o3.1,o3.2,o4.1,o4.2,o5.1,o5.2]
  rw[sO,e]; rfl
 ·simp only[go_sem,aI3,o1.1,o1.2,o2.1,o2.2,o3.1,o3.2,o4.1,o4.2,o5.1,o5.2]
  rw[sO,e]; rfl
theorem dC.fold{P:Program}{α:Type}{q:Nat}{C:List Nat}{V:α→Heap→List AV→Prop}{K:Heap→Prop}{J:List α→Heap→Prop}(stab:∀r H H2,J r H→Keep [] H H2→J r H2)
 (step:∀x r H args,J (x::r) H→V x H args→cR P w0 q args H fun v H3=>Keep C H H3∧v= .bool true∧J r H3) (fin:∀H,J [] H→K H):∀r H,J r H→dC P w0 q C V (· = []) K r [] H
 | [],H,j=>fun H2 k=>fin H2 (stab _ _ _ j k)
 | x::r,H,j=>fun H2 args O2 hO k _ _ hv=>(step x r H2 args (stab _ _ _ j k) hv).mono fun v H3 ⟨k3,e,j3⟩=>⟨k3,.inl ⟨e,by subst hO; exact dC.fold stab step fin r H3 j3⟩⟩
structure aAl(a:jR):Prop where
 ba: -1000≤a.arm∧a.arm≤1000
 bl: -200000≤a.lo∧a.lo≤200000
 bh: -200000≤a.hi∧a.hi≤200000
def lpD(l:List gW)(e:Nat)(a:jR):Int:=min (iI l e a.arm*a.lo) (iI l e a.arm*a.hi)
def fM(l:List gW)(e:Nat)(ps:List jR):Int:=(ps.map (lpD l e)).sum
def qV(p:aZ)(x:PtD)(e:Nat):Int:=mT p.cor e p.empty p.moment+fM p.cor e (dN p x)
theorem lp_bd{l:List gW}(hb:vA l){e:Nat}{a:jR}(ha:aAl a):(-12000000000000≤iI l e a.arm*a.lo∧iI l e a.arm*a.lo≤12000000000000)∧(-12000000000000≤iI l e a.arm*a.hi∧iI l e a.arm*a.hi≤12000000000000):=by
 have h1:=(yI hb (e:=e) ha.ba).2
 have h2:=lQ (m:=60000000) (n:=200000) h1.1 h1.2 ha.bl.1 ha.bl.2
 have h3:=lQ (m:=60000000) (n:=200000) h1.1 h1.2 ha.bh.1 ha.bh.2
 omega
theorem rA{l:List gW}(hb:vA l){e:Nat}:∀ {ps:List jR},(∀a∈ps,aAl a)→ -12000000000000*ps.length≤fM l e ps∧fM l e ps≤12000000000000*ps.length
 | [],_=>by simp[fM]
 | a::ps,h=>by
  have ih:=rA hb (e:=e) (ps:=ps) fun x hx=>h x (by simp[hx])
  have h1:=lp_bd hb (e:=e) (h a (by simp))
  have e1:fM l e (a::ps)=lpD l e a+fM l e ps:=by simp[fM]
  rw[e1,List.length_cons]
  unfold lpD
  omega
structure kZ(p:aZ):Prop where
 e:0≤p.empty∧p.empty≤20000
 m: -20000000≤p.moment∧p.moment≤20000000
 n:3≤p.cor.length∧p.cor.length≤12
 c:vA p.cor
 s:∀x∈p.sta,rJ x=true
 f:∀x∈p.flo,rJ x=true
 t:rJ p.tank=true
structure PtB(x:PtD):Prop where
 t:(-200000≤x.tlo∧x.tlo≤200000)∧ -200000≤x.thi∧x.thi≤200000
 i:∀a∈x.items,(0≤a.lo∧a.lo≤20000)∧0≤a.hi∧a.hi≤20000
 w:∀a∈x.water,(0≤a.1∧a.1≤200000)∧0≤a.2∧a.2≤200000
theorem aFu{l:List lI}(h:∀x∈l,rJ x=true)(i:Nat): -1000≤(l.getD i ⟨0,0⟩).arm∧(l.getD i ⟨0,0⟩).arm≤1000:=by
 by_cases hi:i<l.length
 ·have:=h _ (qG hi)
  rw[aE hi]
  simp only[rJ,inB,Bool.and_eq_true,decide_eq_true_eq]at this
  omega
 ·rw[List.getD_eq_getElem?_getD,List.getElem?_eq_none (by omega)]; simp
theorem aCw{p:aZ}{x:PtD}(hp:kZ p)(hx:PtB x):∀a∈dN p x,aAl a:=fun a ha=>by
 rw[dN,List.mem_append,List.mem_cons]at ha
 rcases ha with ha | rfl | ha
 ·obtain⟨i,hi,rfl⟩:=List.mem_map.1 ha
  have hi:=List.mem_range.1 hi
  have:=hx.i _ (qG hi)
  refine⟨aFu hp.s _,?_,?_⟩ <;> · simp only[aAI,aE hi]; omega
 ·have:=hp.t
  simp only[rJ,inB,Bool.and_eq_true,decide_eq_true_eq]at this
  have:=hx.t
  exact⟨by simp only; omega,by simp only; omega,by simp only; omega⟩
 ·obtain⟨i,hi,rfl⟩:=List.mem_map.1 ha
  have hi:=List.mem_range.1 hi
  have:=hx.w _ (qG hi)
  refine⟨aFu hp.f _,?_,?_⟩ <;> · simp only[rM,aE hi]; omega
theorem yO{p:aZ}{x:PtD}(ok:tJ p x):(dN p x).length≤15:=by
 have h1:=ok.n
 have h2:=ok.w
 have h3:=ok.f
 simp[dN]; omega
set_option maxRecDepth 20000 in
theorem aIb{p:aZ}{x:PtD}{cv sv fv iv wv:AV}{e:Nat}(hp:jI w0 h p cv sv fv)(hx:PtV w0 h x iv wv)(ok:tJ p x)(pb:kZ p)(xb:PtB x):aK Tryz.prog w0 182 [.agg (p.c cv sv fv++x.c iv wv),.agg (uT p.cor e)] h (.int .i64 (qV p x e)) h:=by
 refine cJ (by simp[AV.bdd]) (aO aMB fun hb ha=> ?_)
 have o1:=hp.c.one
 have o2:=hp.s.one
 have o3:=hp.f.one
 have o4:=hx.i.one
 have o5:=hx.w.one
 have pe:=pb.e
 have pm:=pb.m
 have ppb:=aCw pb xb
 have ppl:=yO ok
 obtain⟨R,hR⟩:∃R,R=p.c cv sv fv++x.c iv wv:=⟨_,rfl⟩
 have hR':=hR
 simp only[aZ.c,PtD.c,List.cons_append,List.nil_append]at hR'
 simp only[go_sem,mf182,List.cons_append,List.nil_append,o1.1,o1.2,o2.1,o2.2,o3.1,o3.2,o4.1,o4.2,o5.1,o5.2]
 refine aC (aFO (l:=p.cor) (e:=e) pb.c ⟨by omega,by omega⟩).v ?_
 simp only[go_sem]
 refine aJ (ACall.v1 (aCD (hp.sub aB.refl.app) (hx.sub aB.refl.app))) ?_
 rintro y H ⟨rfl,rfl⟩
 simp only[go_sem]
 refine lD [3,5,19] ?_
 simp only[go_sem]
 refine oE (fid:=195) (first:=[]) rfl (.inl rfl) fun hca hcb hps=> ?_
 simp only[go_sem]
 obtain⟨N,eN⟩:∃N,N=h.length:=⟨_,rfl⟩
 rw[←eN]
 obtain⟨FR,hFR⟩:∃FR:Fr,FR=[(3,AV.ptr (Pl.own (N+1) 0)),(5,AV.ptr (Pl.own (N+2) 0)),(19,AV.fn (Fn.func 195) [] [AV.ptr (Pl.own (N+3) 0)])]:=⟨_,rfl⟩
 obtain⟨LB,hLB⟩:∃LB:LoopState→Option Code→Blk,LB=Blk.loop 39 FR #[20] (aV (bJ 182) [1,1,0,1,0,0]) (aV (bJ 182) [1,1,0,1,0,1]):=⟨_,rfl⟩
 rw[←hFR,←hLB]
 obtain⟨C,eC⟩:∃C,C=[N+2,N+4]:=⟨_,rfl⟩
 obtain⟨ed,hed⟩:∃ed,ed=uT p.cor e:=⟨_,rfl⟩
 have hed':=hed
 rw[uT]at hed'
 rw[←hed',←hR']
 obtain⟨G0,eG0⟩:∃G0:Heap,G0=h++[some (.row R),some (.row ed),some (.row [.int .i64 (mT p.cor e p.empty p.moment)]),some (.row R),some (LB .ready none)]:=⟨_,rfl⟩
 have hm:aB h (msk C G0):=by
  rw[eG0]
  refine⟨by rw[cD]; simp,fun i b e=> ?_⟩
  have:=aD e
  rw[aT (by rw[eC]; simp; omega)]; exact aA e
 have hG3:(msk C G0)[N+3]? = some (some (.row R)):=by
  rw[aT (by rw[eC]; simp),eG0,eN,qI (by omega)]; simp
 rw[←eG0]
 refine aCu (C:=C) (by rw[←hR]; exact hG3) (hp.sub hm) (hx.sub hm) ok ?_
 refine dC.fold (J:=fun r H=>aB h H∧H[N+1]? = some (some (.row ed))∧H[N+4]? = some (some (LB .ready none))∧(∀a∈r,aAl a)∧r.length≤15∧∃n:Int,H[N+2]? = some (some (.row [.int .i64 n]))∧n+fM p.cor e r=qV p x e) ?_ ?_ ?_ _ _ ?_
 ·rintro r H H2 ⟨j1,j2,j3,j4,j5,n,j6,j7⟩ k
  have s2:aB H H2:=⟨k.le,fun i b e=>k.at_ i b (by simp) e⟩
  exact⟨j1.trans s2,s2.2 _ _ j2,s2.2 _ _ j3,j4,j5,n,s2.2 _ _ j6,j7⟩
 ·rintro a r H args ⟨j1,j2,j3,j4,j5,n,j6,j7⟩ hV
  have hV':args=[.agg a.c]:=hV
  subst hV'
  have f3':=j3
  rw[hLB]at f3'
  have q3:=aD j3
  refine hE (psl:=[20]) dE rfl aHL aHK aBM.eq_1 aBL.eq_1 f3' rfl hps hca hcb fun hb2 ha2=> ?_
  have f3a:∀L,(H++L)[N+4]? = _:=fun L=>aA (k:=L) f3'
  obtain⟨LY,hLY⟩:∃b,b=Blk.loop 39 [(3,AV.ptr (Pl.own (N+1) 0)),(5,AV.ptr (Pl.own (N+2) 0)),(19,AV.fn (Fn.func 195) [] [AV.ptr (Pl.own (N+3) 0)])] #[20] (aV (bJ 182) [1,1,0,1,0,0]) (aV (bJ 182) [1,1,0,1,0,1]) LoopState.busy none:=⟨_,rfl⟩
  simp only[go_sem,f3a,hFR]
  rw[←hLY]
  obtain⟨Y,eY⟩:∃Y,Y=(H++[some (Blk.row [AV.int .i64 a.kind,.int .i64 a.idx,.int .i64 a.arm,.int .i64 a.lo,.int .i64 a.hi])]).set (N+4) (some LY):=⟨_,rfl⟩
  have lY:Y.length=H.length+1:=by rw[eY]; simp
  have old:∀(i:Nat) b,i≠N+4→H[i]? = some (some b)→Y[i]? = some (some b):=fun i b hi e=>by
   rw[eY,qB (fun e=>hi e.symm)]; exact aA e
  have y2:=old _ _ (by omega) j2
  have y6:=old _ _ (by omega) j6
  have y3:Y[N+4]? = some (some LY):=by rw[eY,qF (by simp; omega)]
  have y4:Y[H.length]? = some (some (.row [AV.int .i64 a.kind,.int .i64 a.idx,.int .i64 a.arm,.int .i64 a.lo,.int .i64 a.hi])):=by
   rw[eY,qB (by omega),qI (Nat.le_refl _),Nat.sub_self]; rfl
  have sY:aB h Y:=⟨by have:=j1.1; omega,fun i b e=>old i b (by have:=aD e; omega) (j1.2 _ _ e)⟩
  have kY:Keep C H Y:=⟨by omega,fun i b hi e=>old i b (fun e=>hi (by rw[eC,e]; simp)) e⟩
  rw[←eY]
  have ab:=j4 a (by simp)
  have b1:=(yI pb.c (e:=e) ab.ba).2
  have b2:=lp_bd pb.c (e:=e) ab
  have b3:=rA pb.c (e:=e) j4
  have b4:=rA pb.c (e:=e) ppb
  have b5:=(aFx pb.c (e:=e) (w:=p.empty) (m:=p.moment) ⟨by omega,by omega⟩)
  have b7: -100000000000000≤mT p.cor e p.empty p.moment∧mT p.cor e p.empty p.moment≤100000000000000:=by unfold mT; omega
  have hc:fM p.cor e (a::r)=lpD p.cor e a+fM p.cor e r:=by simp[fM]
  have hld:qV p x e=mT p.cor e p.empty p.moment+fM p.cor e (dN p x):=rfl
  simp only[List.length_cons]at b3 j5
  rw[hed']at y2
  simp only[go_sem,y2,y4]
  refine aC (aJc (l:=p.cor) (e:=e) pb.c ab.ba).v ?_
  have y7:∀b,(Y.set (N+2) b)[N+4]? = some (some LY):=fun b=>by rw[qB (by omega)]; exact y3
  have b6:=rA pb.c (e:=e) (ps:=r) fun x hx=>j4 x (by simp[hx])
  unfold lpD at hc
  simp only[go_sem,y6,y4,y7]
  refine⟨(by unfold I64; omega),(by unfold I64; omega),(by unfold I64; omega),⟨_,_,by rw[hLY]⟩,?_⟩
  refine⟨(kY.set (.inl (by rw[eC]; simp))).set (.inl (by rw[eC]; simp)),(sY.setR (by omega)).setR (by omega),?_,?_,fun b hb=>j4 b (by simp[hb]),by omega,n+min (iI p.cor e a.arm*a.lo) (iI p.cor e a.arm*a.hi),?_,?_⟩
  ·rw[qB (by omega),qB (by omega),y2,hed']
  ·rw[qF (by simp; omega),hLB,hFR]
  ·rw[qB (by omega),qF (by omega)]
  ·omega
 ·rintro H ⟨j1,j2,j3,j4,j5,n,j6,j7⟩
  have f3':=j3
  rw[hLB,hFR]at f3'
  obtain⟨X,eX⟩:∃X,X=H.set (N+4) none:=⟨_,rfl⟩
  have x1:X[N+2]? = some (some (.row [.int .i64 n])):=by rw[eX,qB (by omega)]; exact j6
  simp only[f3',←eX,hFR]
  simp only[go_sem,x1]
  refine⟨by rw[eX]; exact j1.setR (by omega),?_⟩
  rw[←j7]; simp[fM]
 ·refine⟨eG0▸aB.refl.app,?_,?_,ppb,ppl,_,?_,rfl⟩
  all_goals
   rw[eG0,eN,qI (by omega)]; simp
def jX(F:jR→Int)(ps:List jR):Int:=(ps.map F).sum
theorem aAu{F:jR→Int}{a:jR}{r:List jR}:jX F (a::r)=F a+jX F r:=by simp[jX]
theorem lC{F:jR→Int}{m:Int}(hF:∀a,aAl a→ -m≤F a∧F a≤m):∀ {ps:List jR},(∀a∈ps,aAl a)→ -m*ps.length≤jX F ps∧jX F ps≤m*ps.length
 | [],_=>by simp[jX]
 | a::ps,h=>by
  have ih:=lC hF (ps:=ps) fun x hx=>h x (by simp[hx])
  have h1:=hF a (h a (by simp))
  rw[aAu,List.length_cons,Int.natCast_add,Int.mul_add,Int.mul_add]
  omega
def fLo(a:jR):Int:=a.lo
def fHi(a:jR):Int:=a.hi
def fMi(a:jR):Int:=min (a.arm*a.lo) (a.arm*a.hi)
def fMa(a:jR):Int:=max (a.arm*a.lo) (a.arm*a.hi)
theorem aIX{a:jR}(h:aAl a):(-200000000≤a.arm*a.lo∧a.arm*a.lo≤200000000)∧ -200000000≤a.arm*a.hi∧a.arm*a.hi≤200000000:=by
 have h1:=lQ (m:=1000) (n:=200000) h.ba.1 h.ba.2 h.bl.1 h.bl.2
 have h2:=lQ (m:=1000) (n:=200000) h.ba.1 h.ba.2 h.bh.1 h.bh.2
 omega
theorem aC0:∀a,aAl a→(-200000000≤fLo a∧fLo a≤200000000)∧(-200000000≤fHi a∧fHi a≤200000000)∧(-200000000≤fMi a∧fMi a≤200000000)∧(-200000000≤fMa a∧fMa a≤200000000):=fun a h=>by
 have:=aIX h
 have h1:=h.bl
 have h2:=h.bh
 unfold fLo fHi fMi fMa
 omega
def bndC(p:aZ)(x:PtD):List AV:=[.int .i64 (p.empty+jX fLo (dN p x)),.int .i64 (p.empty+jX fHi (dN p x)),.int .i64 (p.moment+jX fMi (dN p x)),.int .i64 (p.moment+jX fMa (dN p x))]
set_option maxRecDepth 20000 in
theorem aKd{p:aZ}{x:PtD}{cv sv fv iv wv:AV}(hp:jI w0 h p cv sv fv)(hx:PtV w0 h x iv wv)(ok:tJ p x)(pb:kZ p)(xb:PtB x):aK Tryz.prog w0 180 [.agg (p.c cv sv fv++x.c iv wv)] h (.agg (bndC p x)) h:=by
 refine cJ (by simp[AV.bdd,AV.bdds,bndC]) (aO aMD fun hb ha=> ?_)
 have o1:=hp.c.one
 have o2:=hp.s.one
 have o3:=hp.f.one
 have o4:=hx.i.one
 have o5:=hx.w.one
 have pe:=pb.e
 have pm:=pb.m
 have ppb:=aCw pb xb
 have ppl:=yO ok
 obtain⟨R,hR⟩:∃R,R=p.c cv sv fv++x.c iv wv:=⟨_,rfl⟩
 have hR':=hR
 simp only[aZ.c,PtD.c,List.cons_append,List.nil_append]at hR'
 simp only[go_sem,mf180,List.cons_append,List.nil_append,o1.1,o1.2,o2.1,o2.2,o3.1,o3.2,o4.1,o4.2,o5.1,o5.2]
 refine aJ (ACall.v1 (aCD (hp.sub aB.refl.app) (hx.sub aB.refl.app))) ?_
 rintro y H ⟨rfl,rfl⟩
 simp only[go_sem]
 refine lD [2,3,27] ?_
 simp only[go_sem]
 refine oE (fid:=195) (first:=[]) rfl (.inl rfl) fun hca hcb hps=> ?_
 simp only[go_sem]
 obtain⟨N,eN⟩:∃N,N=h.length:=⟨_,rfl⟩
 rw[←eN]
 obtain⟨FR,hFR⟩:∃FR:Fr,FR=[(2,AV.ptr (Pl.own (N+1) 0)),(3,AV.ptr (Pl.own (N+2) 0)),(27,AV.fn (Fn.func 195) [] [AV.ptr (Pl.own (N+3) 0)])]:=⟨_,rfl⟩
 obtain⟨LB,hLB⟩:∃LB:LoopState→Option Code→Blk,LB=Blk.loop 78 FR #[28] (aV (bJ 180) [1,1,0,1,0,0]) (aV (bJ 180) [1,1,0,1,0,1]):=⟨_,rfl⟩
 rw[←hFR,←hLB]
 obtain⟨C,eC⟩:∃C,C=[N+2,N+4]:=⟨_,rfl⟩
 rw[←hR']
 obtain⟨zr,hzr⟩:∃zr:List AV,zr=[.int .i64 0,.int .i64 0,.int .i64 0,.int .i64 0]:=⟨_,rfl⟩
 rw[←hzr]
 obtain⟨G0,eG0⟩:∃G0:Heap,G0=h++[some (.row R),some (.row zr),some (.row [.int .i64 p.empty,.int .i64 p.empty,.int .i64 p.moment,.int .i64 p.moment]),some (.row R),some (LB .ready none)]:=⟨_,rfl⟩
 have hm:aB h (msk C G0):=by
  rw[eG0]
  refine⟨by rw[cD]; simp,fun i b e=> ?_⟩
  have:=aD e
  rw[aT (by rw[eC]; simp; omega)]; exact aA e
 have hG3:(msk C G0)[N+3]? = some (some (.row R)):=by
  rw[aT (by rw[eC]; simp),eG0,eN,qI (by omega)]; simp
 rw[←eG0]
 refine aCu (C:=C) (by rw[←hR]; exact hG3) (hp.sub hm) (hx.sub hm) ok ?_
 refine dC.fold (J:=fun r H=>aB h H∧H[N+1]? = some (some (.row zr))∧H[N+4]? = some (some (LB .ready none))∧(∀a∈r,aAl a)∧r.length≤15∧∃n1 n2 n3 n4:Int,H[N+2]? = some (some (.row [.int .i64 n1,.int .i64 n2,.int .i64 n3,.int .i64 n4]))∧n1+jX fLo r=p.empty+jX fLo (dN p x)∧n2+jX fHi r=p.empty+jX fHi (dN p x)∧n3+jX fMi r=p.moment+jX fMi (dN p x)∧n4+jX fMa r=p.moment+jX fMa (dN p x)) ?_ ?_ ?_ _ _ ?_
 ·rintro r H H2 ⟨j1,j2,j3,j4,j5,n1,n2,n3,n4,j6,j7⟩ k
  have s2:aB H H2:=⟨k.le,fun i b e=>k.at_ i b (by simp) e⟩
  exact⟨j1.trans s2,s2.2 _ _ j2,s2.2 _ _ j3,j4,j5,n1,n2,n3,n4,s2.2 _ _ j6,j7⟩
 ·rintro a r H args ⟨j1,j2,j3,j4,j5,n1,n2,n3,n4,j6,k1,k2,k3,k4⟩ hV
  have hV':args=[.agg a.c]:=hV
  subst hV'
  have f3':=j3
  rw[hLB]at f3'
  have q3:=aD j3
  refine hE (psl:=[28]) dE rfl aHN aHM aBO.eq_1 aBN.eq_1 f3' rfl hps hca hcb fun hb2 ha2=> ?_
  have f3a:∀L,(H++L)[N+4]? = _:=fun L=>aA (k:=L) f3'
  obtain⟨LY,hLY⟩:∃b,b=Blk.loop 78 [(2,AV.ptr (Pl.own (N+1) 0)),(3,AV.ptr (Pl.own (N+2) 0)),(27,AV.fn (Fn.func 195) [] [AV.ptr (Pl.own (N+3) 0)])] #[28] (aV (bJ 180) [1,1,0,1,0,0]) (aV (bJ 180) [1,1,0,1,0,1]) LoopState.busy none:=⟨_,rfl⟩
  simp only[go_sem,f3a,hFR]
  rw[←hLY]
  obtain⟨Y,eY⟩:∃Y,Y=(H++[some (Blk.row [AV.int .i64 a.kind,.int .i64 a.idx,.int .i64 a.arm,.int .i64 a.lo,.int .i64 a.hi])]).set (N+4) (some LY):=⟨_,rfl⟩
  have lY:Y.length=H.length+1:=by rw[eY]; simp
  have old:∀(i:Nat) b,i≠N+4→H[i]? = some (some b)→Y[i]? = some (some b):=fun i b hi e=>by
   rw[eY,qB (fun e=>hi e.symm)]; exact aA e
  have y2:=old _ _ (by omega) j2
  have y6:=old _ _ (by omega) j6
  have y3:Y[N+4]? = some (some LY):=by rw[eY,qF (by simp; omega)]
  have y4:Y[H.length]? = some (some (.row [AV.int .i64 a.kind,.int .i64 a.idx,.int .i64 a.arm,.int .i64 a.lo,.int .i64 a.hi])):=by
   rw[eY,qB (by omega),qI (Nat.le_refl _),Nat.sub_self]; rfl
  have y4':∀b,(Y.set (N+2) b)[H.length]? = some (some (.row [AV.int .i64 a.kind,.int .i64 a.idx,.int .i64 a.arm,.int .i64 a.lo,.int .i64 a.hi])):=fun b=>by rw[qB (by omega)]; exact y4
  have y5:∀b,(Y.set (N+2) b)[N+2]? = some b:=fun b=>qF (by omega)
  have sY:aB h Y:=⟨by have:=j1.1; omega,fun i b e=>old i b (by have:=aD e; omega) (j1.2 _ _ e)⟩
  have kY:Keep C H Y:=⟨by omega,fun i b hi e=>old i b (fun e=>hi (by rw[eC,e]; simp)) e⟩
  rw[←eY]
  have ab:=j4 a (by simp)
  have b2:=aIX ab
  have bl:=ab.bl
  have bh:=ab.bh
  have jr:∀x∈r,aAl x:=fun x hx=>j4 x (by simp[hx])
  have cl:=fun F=>aAu (F:=F) (a:=a) (r:=r)
  simp only[List.length_cons]at j5
  have s1:=lC (fun a h=>(aC0 a h).1) ppb
  have s2:=lC (fun a h=>(aC0 a h).2.1) ppb
  have s3:=lC (fun a h=>(aC0 a h).2.2.1) ppb
  have s4:=lC (fun a h=>(aC0 a h).2.2.2) ppb
  have t1:=lC (fun a h=>(aC0 a h).1) jr
  have t2:=lC (fun a h=>(aC0 a h).2.1) jr
  have t3:=lC (fun a h=>(aC0 a h).2.2.1) jr
  have t4:=lC (fun a h=>(aC0 a h).2.2.2) jr
  rw[cl]at k1 k2 k3 k4
  have z1:fLo a=a.lo:=rfl
  have z2:fHi a=a.hi:=rfl
  have z3:fMi a=min (a.arm*a.lo) (a.arm*a.hi):=rfl
  have z4:fMa a=max (a.arm*a.lo) (a.arm*a.hi):=rfl
  have y7:∀b,(Y.set (N+2) b)[N+4]? = some (some LY):=fun b=>by rw[qB (by omega)]; exact y3
  simp only[go_sem,y6,y4,y5,y4',y7,List.set_set]
  refine⟨(by unfold I64; omega),(by unfold I64; omega),(by unfold I64; omega),(by unfold I64; omega),(by unfold I64; omega),(by unfold I64; omega),⟨_,_,by rw[hLY]⟩,?_⟩
  refine⟨(kY.set (.inl (by rw[eC]; simp))).set (.inl (by rw[eC]; simp)),(sY.setR (by omega)).setR (by omega),?_,?_,jr,by omega,n1+a.lo,n2+a.hi,n3+min (a.arm*a.lo) (a.arm*a.hi),n4+max (a.arm*a.lo) (a.arm*a.hi),?_,by omega,by omega,by omega,by omega⟩
  ·rw[qB (by omega),qB (by omega),y2]
  ·rw[qF (by simp; omega),hLB,hFR]
  ·rw[qB (by omega),qF (by omega)]
 ·rintro H ⟨j1,j2,j3,j4,j5,n1,n2,n3,n4,j6,k1,k2,k3,k4⟩
  have f3':=j3
  rw[hLB,hFR]at f3'
  obtain⟨X,eX⟩:∃X,X=H.set (N+4) none:=⟨_,rfl⟩
  have x1:X[N+2]? = some (some (.row [.int .i64 n1,.int .i64 n2,.int .i64 n3,.int .i64 n4])):=by rw[eX,qB (by omega)]; exact j6
  have x2:X[N+1]? = some (some (.row zr)):=by rw[eX,qB (by omega)]; exact j2
  rw[hzr]at x2
  simp only[f3',←eX,hFR]
  have x3:∀b,(X.set (N+1) b)[N+1]? = some b:=fun b=>qF (aD x2)
  simp only[go_sem,x1,x2,x3]
  refine⟨by rw[eX]; exact(j1.setR (by omega)).setR (by omega),?_⟩
  have sn:∀F,jX F []=0:=fun F=>rfl
  rw[sn,Int.add_zero]at k1 k2 k3 k4
  rw[bndC,k1,k2,k3,k4]
 ·refine⟨eG0▸aB.refl.app,?_,?_,ppb,ppl,_,_,_,_,?_,rfl,rfl,rfl,rfl⟩
  all_goals
   rw[eG0,eN,qI (by omega)]; simp
def qP(w0:World)(h:Heap)(v:AV)(l:List Bool):Prop:=SlZ w0 h 1 v (l.map fun b=>[AV.bool b])
theorem uX{H:Heap}{b:Nat}{l:List Bool}{f:Bool}(hb:H[b]? = some (some (.row (l.map AV.bool)))):qP w0 H (.sl (.own b 0) l.length 1 f) l:=by
 refine⟨.inr ⟨.own b 0,f,⟨1,by simp,rfl⟩,aD hb,fun j c hc=> ?_⟩,fun e=> ?_⟩
 ·rw[List.getElem?_map,qD]at hc
  obtain⟨x,hx,rfl⟩:=hc
  have hj:=(List.getElem?_eq_some_iff.1 hx).1
  simp only[Pl.add,Nat.mul_one,Nat.zero_add,rdn,hb,List.length_map]
  rw[if_pos (by omega)]
  congr 1
  refine List.ext_getElem? fun i=> ?_
  cases i with
  | zero=>simp[hx]
  | succ i=>simp; omega
 ·have:l=[]:=by simpa using e
  subst this
  simp[srcOf,fH,rdn,hb]
theorem full_c{p:aZ}{x:PtD}{cv sv fv iv wv:AV}(hp:jI w0 h p cv sv fv)(hx:PtV w0 h x iv wv):ACall Tryz.prog w0 157 [.agg (p.c cv sv fv++x.c iv wv)] h fun y H=>aB h H∧qP w0 H y [decide (x.thi>p.tank.most)]:=by
 have o1:=hp.c.one
 have o2:=hp.s.one
 have o3:=hp.f.one
 have o4:=hx.i.one
 have o5:=hx.w.one
 refine aO aMZ fun hb ha=> ?_
 simp only[go_sem,mf157,List.cons_append,List.nil_append,o1.1,o1.2,o2.1,o2.2,o3.1,o3.2,o4.1,o4.2,o5.1,o5.2]
 exact⟨aB.refl.app,uX (l:=[_]) (by simp)⟩
def vE(p:aZ)(x:PtD):Bool:=x.landing&&decide (x.tlo<p.reserve)
theorem aH9{p:aZ}{x:PtD}{cv sv fv iv wv:AV}(hp:jI w0 h p cv sv fv)(hx:PtV w0 h x iv wv):ACall Tryz.prog w0 161 [.agg (p.c cv sv fv++x.c iv wv)] h fun y H=>aB h H∧qP w0 H y [vE p x]:=by
 have o1:=hp.c.one
 have o2:=hp.s.one
 have o3:=hp.f.one
 have o4:=hx.i.one
 have o5:=hx.w.one
 refine aO aMV fun hb ha=> ?_
 cases e:x.landing
 ·simp only[go_sem,aI5,e,List.cons_append,List.nil_append,o1.1,o1.2,o2.1,o2.2,o3.1,o3.2,o4.1,o4.2,o5.1,o5.2]
  exact⟨aB.refl.app,uX (l:=[_]) (by simp[vE,e])⟩
 ·simp only[go_sem,aI5,e,List.cons_append,List.nil_append,o1.1,o1.2,o2.1,o2.2,o3.1,o3.2,o4.1,o4.2,o5.1,o5.2]
  exact⟨aB.refl.app,uX (l:=[_]) (by simp[vE,e])⟩
def zE(p:aZ)(x:PtD):Bool:=decide (p.empty+jX fHi (dN p x)>sO p x)
theorem aNW{p:aZ}{x:PtD}{cv sv fv iv wv:AV}(hp:jI w0 h p cv sv fv)(hx:PtV w0 h x iv wv)(ok:tJ p x)(pb:kZ p)(xb:PtB x):ACall Tryz.prog w0 159 [.agg (p.c cv sv fv++x.c iv wv)] h fun y H=>aB h H∧qP w0 H y [zE p x]:=by
 have o1:=hp.c.one
 have o2:=hp.s.one
 have o3:=hp.f.one
 have o4:=hx.i.one
 have o5:=hx.w.one
 refine aO aMX fun hb ha=> ?_
 simp only[go_sem,mf159,List.cons_append,List.nil_append,o1.1,o1.2,o2.1,o2.2,o3.1,o3.2,o4.1,o4.2,o5.1,o5.2]
 refine iS dE [0,4,1,2,3,5,6,7,8] [o_ 3 (.load (.t 1) (some 15)),o_ 7 (.load (.t 1) (some 15)),.call (some 4) none (f_ 180) [(.t 3)]] [([(1,o_ 7 (.load (.t 1) (some 15)))],[o_ 5 (.fld (.t 4) 0 (some 2)),o_ 6 (.fld (.t 5) 1 none),.call (some 8) none (f_ 181) [(.t 7)],o_ 9 (.bin .gtr (.t 6) (.t 8)),o_ 10 (.bslice 1 [(.bool false)] 1 [(0,1,(.t 9))]),o_ 2 (m_ 10)])] rfl rfl (by kernel_rfl) ?_
 simp only[go_sem]
 refine aC (aKd (hp.sub aB.refl.app) (hx.sub aB.refl.app) ok pb xb).v ?_
 simp only[go_sem,bndC]
 refine aC (aNO (hp.sub aB.refl.app) (hx.sub aB.refl.app)).v ?_
 simp only[go_sem]
 exact⟨aB.refl.app,uX (l:=[_]) (by simp[zE])⟩
theorem Gro.boo{K H:Heap}{n:Nat}{ov:AV}{l:List Bool}(g:Gro K H 1 n ov (l.map AV.bool))(hn:n=l.length):qP w0 H ov l:=by
 rcases g.own with⟨h1,h2,h3⟩ | ⟨io,h1,h2,h3,h4,h5⟩
 ·have:l=[]:=by simpa using h3
  subst this
  subst h2
  exact⟨.inl ⟨rfl,rfl⟩,fun _=>rfl⟩
 ·subst h3; subst hn
  exact uX h4
def aGr(p:aZ)(x:PtD)(i:Nat):Bool:=decide ((x.water.getD i (0,0)).2>(p.flo.getD i ⟨0,0⟩).most)
def wetD(p:aZ)(x:PtD):List Bool:=(List.range x.water.length).map (aGr p x)
theorem wet_c{p:aZ}{x:PtD}{cv sv fv iv wv:AV}(hp:jI w0 h p cv sv fv)(hx:PtV w0 h x iv wv)(ok:tJ p x):ACall Tryz.prog w0 158 [.agg (p.c cv sv fv++x.c iv wv)] h fun y H=>aB h H∧qP w0 H y (wetD p x):=by
 have o1:=hp.c.one
 have o2:=hp.s.one
 have o3:=hp.f.one
 have o4:=hx.i.one
 have o5:=hx.w.one
 refine aO aMY fun hb ha=> ?_
 have lw:dA wv=some (.int .i64 x.water.length):=by have:=hx.w.use.1; rwa [List.length_map]at this
 have ow:=ok.w
 have of:=ok.f
 obtain⟨R,hR⟩:∃R,R=p.c cv sv fv++x.c iv wv:=⟨_,rfl⟩
 simp only[aZ.c,PtD.c,List.cons_append,List.nil_append]at hR
 simp only[go_sem,mf158,List.cons_append,List.nil_append,o1.1,o1.2,o2.1,o2.2,o3.1,o3.2,o4.1,o4.2,o5.1,o5.2,lw]
 rw[←hR]
 obtain⟨B,eB⟩:∃B,B=h++[some (Blk.row R)]:=⟨_,rfl⟩
 have sB:aB h B:=by rw[eB]; exact aB.refl.app
 have bB:B[h.length]? = some (some (.row R)):=by rw[eB]; simp
 rw[←eB]
 refine bS (S:=Heap×AV) (fun j s=>[(1,.ptr (.own h.length 0)),(3,s.2),(8,wv),(9,.int .i64 x.water.length),(10,.int .i64 j)]) (fun _ s=>s.1) (fun j s=>Gro B s.1 1 j s.2 (((List.range j).map (aGr p x)).map AV.bool)) x.water.length (B,.nilS) (Gro.nil aB.refl) rfl rfl ?_ ?_
 ·rintro j ⟨H,ov⟩ hj g ih
  simp only at g ih ⊢
  refine aP [1,3,8,9,10] aE0.eq_1 ?_
  have e1:(j:Int)<x.water.length:=by omega
  have sH:=sB.trans g.sub
  have bH:=g.sub.2 _ _ bB
  have bHL:∀L,(H++L:Heap)[h.length]? = _:=fun L=>aA (k:=L) bH
  rw[hR]at bHL
  obtain⟨_,q3,ix,row,_⟩:=(hx.sub sH).w.use
  rw[List.length_map]at ix
  obtain⟨_,q4,ix4,row4,_⟩:=(hp.sub sH).f.use
  rw[List.length_map]at ix4
  have r1':=gT (tE row hj)
  have hjf:j<p.flo.length:=by omega
  have r4:=tE row4 hjf
  have g4:∀L,rd w0 (H++L) ((q4.add (j*2)).add 1)=some (.int .i64 p.flo[j].most):=fun L=>dG (r4 L) (o:=1) rfl
  obtain⟨b,hbv⟩:∃b:Bool,b=decide (p.flo[j].most<x.water[j].2):=⟨_,rfl⟩
  have pe:aGr p x j=b:=by rw[aGr,aE hj,aE hjf,hbv]
  have gro:=(g.app (L:=[some (Blk.row (spC x.water[j])),some (Blk.row [.bool b])])).more (w0:=w0) (b:=1) (k:=H.length+1) (x:=[.bool b]) (f:=true) (by simp) rfl rfl (by omega) (by omega)
  obtain⟨G,ap,g2⟩:=gro
  have gl:(H++[some (Blk.row (spC x.water[j])),some (Blk.row [.bool b])]).length=H.length+2:=by simp
  rw[gl]at ap g2
  simp only[spC]at ap
  simp only[go_sem,e1,ix j hj,r1',bHL,ix4 j hjf,g4,←hbv,ap]
  refine⟨(by unfold I64; omega),ih (G,_) ?_⟩
  rw[List.range_succ,List.map_append,List.map_append]
  rw[show((List.map (aGr p x) [j]).map AV.bool)=[.bool b]by simp[pe]]
  exact g2
 ·rintro⟨H,ov⟩ g
  simp only at g ⊢
  refine aP [1,3,8,9,10] aE0.eq_1 ?_
  have e1:¬(x.water.length:Int)<x.water.length:=by omega
  simp only[go_sem,e1]
  exact⟨sB.trans g.sub,g.boo (by simp)⟩
def pP(M:List (Int×Int)):List (AV×AV):=M.map fun x=>(.int .i64 x.1,.int .i64 x.2)
def vQ:List (Int×Int)→Int→Option Int
 | [],_=>none
 | m::M,k=>if m.1=k then some m.2 else vQ M k
def pJ:List (Int×Int)→Int→Int→List (Int×Int)
 | [],k,v=>[(k,v)]
 | m::M,k,v=>if m.1=k then(k,v)::M else m::pJ M k v
theorem aCK(k n v:Int):∀M,vQ (pJ M n v) k=if k=n then some v else vQ M k
 | []=>by
  simp only[pJ,vQ]
  by_cases e:n=k
  ·rw[if_pos e,if_pos e.symm]
  ·rw[if_neg e,if_neg (fun q=>e q.symm)]
 | m::M=>by
  have ih:=aCK k n v M
  simp only[pJ]
  by_cases e:m.1=n
  ·rw[if_pos e]; simp only[vQ]
   by_cases e2:k=n
   ·subst e2; simp
   ·rw[if_neg (fun q=>e2 q.symm),if_neg e2,if_neg (by rw[e]; exact fun q=>e2 q.symm)]
  ·rw[if_neg e]; simp only[vQ,ih]
   by_cases e3:m.1=k
   ·rw[if_pos e3,if_neg (by rw[←e3]; exact e),if_pos e3]
   ·rw[if_neg e3,if_neg e3]
theorem aEi(k v:Int):∀(M:List (Int×Int)) (a:Nat),(iA (false,[true]) (.int .i64 k) (pP M) a=some none∧vQ M k=none∧pJ M k v=M++[(k,v)]) ∨
 ∃j y,iA (false,[true]) (.int .i64 k) (pP M) a=some (some (a+j,.int .i64 y))∧vQ M k=some y∧(pP M).set j (.int .i64 k,.int .i64 v)=pP (pJ M k v)
 | [],a=> .inl ⟨rfl,rfl,rfl⟩
 | m::M,a=>by
  by_cases e:m.1=k
  ·refine .inr ⟨0,m.2,?_,?_,?_⟩
   ·simp[pP,iA,keq,dU,ceq,e]
   ·simp[vQ,e]
   ·simp[pP,pJ,e]
  ·have e1:iA (false,[true]) (.int .i64 k) (pP (m::M)) a=iA (false,[true]) (.int .i64 k) (pP M) (a+1):=by
    have e0:(k==m.1)=false:=by simpa using fun x=>e x.symm
    simp[pP,iA,keq,dU,ceq,e0]
   rcases aEi k v M (a+1)with⟨h1,h2,h3⟩ | ⟨j,y,h1,h2,h3⟩
   ·exact .inl ⟨by rw[e1,h1],by simp[vQ,e,h2],by simp[pJ,e,h3]⟩
   ·refine .inr ⟨j+1,y,by rw[e1,h1,show a+1+j=a+(j+1)by omega],by simp[vQ,e,h2],?_⟩
    rw[pJ,if_neg e]
    simp only[pP,List.map_cons,List.set_cons_succ]at h3 ⊢
    rw[h3]
theorem aJf{i:Nat}{M:List (Int×Int)}(hi:h[i]? = some (some (.map (pP M))))(k:Int):wG h (false,[true]) (.int .i64 0) false (.map i) (.int .i64 k)=some (.int .i64 ((vQ M k).getD 0)):=by
 simp only[wG,hi]
 rw[if_neg (by simp[keq,dU,ceq])]
 rcases aEi k 0 M 0 with⟨h1,h2,_⟩ | ⟨j,y,h1,h2,_⟩
 ·rw[h1,h2]; rfl
 ·rw[h1,h2]; rfl
theorem mput_S{i:Nat}{M:List (Int×Int)}(hi:h[i]? = some (some (.map (pP M))))(k v:Int):wE h (false,[true]) (.map i) (.int .i64 k) (.int .i64 v)=some (.undef,h.set i (some (.map (pP (pJ M k v))))):=by
 simp only[wE,hi]
 rw[if_neg (by simp[keq,dU,ceq])]
 rcases aEi k v M 0 with⟨h1,_,h3⟩ | ⟨j,y,h1,_,h2⟩
 ·rw[h1,h3]; simp[pP]
 ·rw[h1]; simp only[Nat.zero_add,h2]
def atS:List iF→Int→Int
 | [],_=>0
 | a::l,k=>(if a.st=k then a.hi else 0)+atS l k
theorem aKj{l:List iF}{a:iF}{k:Int}:atS (l++[a]) k=atS l k+if a.st=k then a.hi else 0:=by
 induction l with
 | nil=>simp[atS]
 | cons b l ih=>simp only[List.cons_append,atS,ih]; omega
theorem atS_bd{l:List iF}{k:Int}(h:∀a∈l,0≤a.hi∧a.hi≤20000):0≤atS l k∧atS l k≤20000*l.length:=by
 induction l with
 | nil=>simp[atS]
 | cons b l ih=>
  have:=ih fun a ha=>h a (by simp[ha])
  have:=h b (by simp)
  simp only[atS,List.length_cons]
  split<;>omega
def aAE(p:aZ)(x:PtD)(i:Nat):Bool:=decide (atS x.items i>(p.sta.getD i ⟨0,0⟩).most)
def aFI(p:aZ)(x:PtD):List Bool:=(List.range p.sta.length).map (aAE p x)
theorem over_c{p:aZ}{x:PtD}{cv sv fv iv wv:AV}(hp:jI w0 h p cv sv fv)(hx:PtV w0 h x iv wv)(ok:tJ p x)(xb:PtB x)(hs:p.sta.length≤1000):ACall Tryz.prog w0 156 [.agg (p.c cv sv fv++x.c iv wv)] h fun y H=>aB h H∧qP w0 H y (aFI p x):=by
 have o1:=hp.c.one
 have o2:=hp.s.one
 have o3:=hp.f.one
 have o4:=hx.i.one
 have o5:=hx.w.one
 refine aO aM0 fun hb ha=> ?_
 have li:dA iv=some (.int .i64 x.items.length):=by have:=hx.i.use.1; rwa [List.length_map]at this
 have ls:dA sv=some (.int .i64 p.sta.length):=by have:=hp.s.use.1; rwa [List.length_map]at this
 have on:=ok.n
 obtain⟨R,hR⟩:∃R,R=p.c cv sv fv++x.c iv wv:=⟨_,rfl⟩
 simp only[aZ.c,PtD.c,List.cons_append,List.nil_append]at hR
 simp only[go_sem,mf156,List.cons_append,List.nil_append,o1.1,o1.2,o2.1,o2.2,o3.1,o3.2,o4.1,o4.2,o5.1,o5.2,li]
 rw[←hR]
 obtain⟨B,eB⟩:∃B,B=h++[some (Blk.row R),some (Blk.map [])]:=⟨_,rfl⟩
 have sB:aB h B:=by rw[eB]; exact aB.refl.app
 have bB:B[h.length]? = some (some (.row R)):=by rw[eB]; simp
 have mB:B[h.length+1]? = some (some (.map (pP []))):=by rw[eB]; simp[pP]
 rw[←eB]
 refine bS (S:=Heap×List (Int×Int)) (fun j _=>[(1,.ptr (.own h.length 0)),(3,.map (h.length+1)),(12,iv),(13,.int .i64 x.items.length),(14,.int .i64 j)]) (fun _ s=>s.1) (fun j s=>Keep [h.length+1] B s.1∧s.1[h.length+1]? = some (some (.map (pP s.2)))∧∀k,(vQ s.2 k).getD 0=atS (x.items.take j) k) x.items.length (B,[]) ⟨Keep.refl,mB,fun k=>rfl⟩ rfl rfl ?_ ?_
 ·rintro j ⟨H,M⟩ hj ⟨kH,mH,gM⟩ ih
  simp only at kH mH gM ih ⊢
  refine aP [1,3,12,13,14] aE2.eq_1 ?_
  have e1:(j:Int)<x.items.length:=by omega
  have sH:aB h H:=⟨by have:=sB.1; have:=kH.le; omega,fun i b e=>kH.at_ i b (by have:=aD e; simp; omega) (sB.2 _ _ e)⟩
  obtain⟨_,q3,ix,row,_⟩:=(hx.sub sH).i.use
  rw[List.length_map]at ix
  have r1':=gT (tE row hj)
  obtain⟨y,hy⟩:∃y,y=x.items[j]:=⟨_,rfl⟩
  rw[←hy]at r1'
  have yb:=xb.i y (hy▸qG hj)
  have tb:=atS_bd (l:=x.items.take j) (k:=y.st) fun a ha=>(xb.i a (List.mem_of_mem_take ha)).2
  rw[List.length_take]at tb
  have mHL:∀L,(H++L:Heap)[h.length+1]? = _:=fun L=>aA (k:=L) mH
  have lk:=fun L=>aJf (mHL L) y.st
  have mp:=fun L=>mput_S (mHL L) y.st (atS (x.items.take j) y.st+y.hi)
  simp only[gM]at lk
  simp only[go_sem,e1,ix j hj,r1',lk,mp]
  refine⟨(by unfold I64; omega),(by unfold I64; omega),ih (_,pJ M y.st (atS (x.items.take j) y.st+y.hi)) ⟨?_,?_,fun k=> ?_⟩⟩
  ·exact kH.app.set (.inl (by simp))
  ·exact qF (by have:=aD mH; simp; omega)
  ·have tk:x.items.take (j+1)=x.items.take j++[y]:=by rw[List.take_succ_eq_append_getElem hj,hy]
   simp only
   rw[aCK,tk,aKj]
   by_cases q:k=y.st
   ·subst q; simp
   ·rw[if_neg q,if_neg (fun w=>q w.symm),gM]; omega
 ·rintro⟨H,M⟩ ⟨kH,mH,gM⟩
  simp only at kH mH gM ⊢
  refine aP [1,3,12,13,14] aE2.eq_1 ?_
  have e1:¬(x.items.length:Int)<x.items.length:=by omega
  have sH:aB h H:=⟨by have:=sB.1; have:=kH.le; omega,fun i b e=>kH.at_ i b (by have:=aD e; simp; omega) (sB.2 _ _ e)⟩
  have bH:=kH.at_ _ _ (by simp) bB
  rw[hR]at bH
  rw[List.take_length]at gM
  simp only[go_sem,e1,bH,ls]
  refine bS (S:=Heap×AV) (fun j s=>[(3,.map (h.length+1)),(6,s.2),(30,sv),(31,.int .i64 p.sta.length),(32,.int .i64 j)]) (fun _ s=>s.1) (fun j s=>Gro H s.1 1 j s.2 (((List.range j).map (aAE p x)).map AV.bool)) p.sta.length (H,.nilS) (Gro.nil aB.refl) rfl rfl ?_ ?_
  ·rintro j ⟨G,ov⟩ hj g ih
   simp only at g ih ⊢
   refine aP [3,6,30,31,32] aE1.eq_1 ?_
   have e1:(j:Int)<p.sta.length:=by omega
   have sG:=sH.trans g.sub
   obtain⟨_,q4,ix4,row4,_⟩:=(hp.sub sG).s.use
   rw[List.length_map]at ix4
   have r1':=gT (tE row4 hj)
   have mG:=g.sub.2 _ _ mH
   have mGL:∀L,(G++L:Heap)[h.length+1]? = _:=fun L=>aA (k:=L) mG
   have lk:=fun L=>aJf (mGL L) (j:Int)
   simp only[gM]at lk
   obtain⟨b,hbv⟩:∃b:Bool,b=decide (p.sta[j].most<atS x.items j):=⟨_,rfl⟩
   have pe:aAE p x j=b:=by rw[aAE,aE hj,hbv]
   obtain⟨G2,ap,g2⟩:=(g.app (L:=[some (Blk.row p.sta[j].c),some (Blk.row [.bool b])])).more (w0:=w0) (b:=1) (k:=G.length+1) (x:=[.bool b]) (f:=true) (by simp) rfl rfl (by omega) (by omega)
   have gl:(G++[some (Blk.row p.sta[j].c),some (Blk.row [.bool b])]).length=G.length+2:=by simp
   rw[gl]at ap g2
   simp only[lI.c]at ap
   simp only[go_sem,e1,ix4 j hj,r1',lk,←hbv,ap]
   refine⟨(by unfold I64; omega),ih (G2,_) ?_⟩
   rw[List.range_succ,List.map_append,List.map_append]
   rw[show((List.map (aAE p x) [j]).map AV.bool)=[.bool b]by simp[pe]]
   exact g2
  ·rintro⟨G,ov⟩ g
   simp only at g ⊢
   refine aP [3,6,30,31,32] aE1.eq_1 ?_
   have e1:¬(p.sta.length:Int)<p.sta.length:=by omega
   simp only[go_sem,e1]
   exact⟨sH.trans g.sub,g.boo (by simp)⟩
set_option maxRecDepth 20000 in
theorem aAO{B:Heap}{q b:Nat}{p:aZ}{cv sv fv:AV}{J:List Nat→Heap→Prop}{Kx:Heap→Prop}(hp:B[b]? = some (some (.row (p.c cv sv fv))))(hv:jI w0 B p cv sv fv)(hn:0<p.cor.length∧p.cor.length≤1000)(hb:vA p.cor)
 (jb:∀r H,J r H→aB B H) (ja:∀r H L,J r H→J r (H++L)) (step:∀e r H,e<p.cor.length→J (e::r) H→cR Tryz.prog w0 q [.agg (uT p.cor e)] H fun v H3=>(v= .bool true∧J r H3)∨(v= .bool false∧Kx H3)) (j0:J (List.range p.cor.length) h) :
 ACall Tryz.prog w0 188 [.yld q,.ptr (.own b 0)] h fun _ H=>J [] H∨Kx H:=by
 refine aO aMw fun hb2 ha=> ?_
 have bx:=(jb _ _ j0).2 _ _ hp
 have lc:dA cv=some (.int .i64 p.cor.length):=by have:=hv.c.use.1; rwa [List.length_map]at this
 simp only[aZ.c]at bx hp
 rw[List.append_nil]
 simp only[go_sem,mf188,bx,lc]
 refine bS (S:=Heap) (fun j _=>[(0,.yld q),(1,.ptr (.own b 0)),(8,cv),(9,.int .i64 p.cor.length),(10,.int .i64 j)]) (fun _ s=>s) (fun j s=>J ((List.range p.cor.length).drop j) s) p.cor.length h j0 rfl rfl ?_ ?_
 ·rintro j H hj iH ih
  refine aP [0,1,8,9,10] aET.eq_1 ?_
  have e1:(j:Int)<p.cor.length:=by omega
  have sm:=jb _ _ iH
  have bxH:=sm.2 _ _ hp
  obtain⟨_,q3,ix,row,_⟩:=(hv.sub sm).c.use
  rw[List.length_map]at ix
  have r1:=tE row hj
  obtain⟨k1,hk1⟩:∃k,k=(j+1) % p.cor.length:=⟨_,rfl⟩
  have hk:k1<p.cor.length:=hk1▸Nat.mod_lt _ hn.1
  have r2:=tE row hk
  have n0:¬(p.cor.length:Int)=0:=by omega
  have em:((j:Int)+1).tmod p.cor.length=((k1:Nat):Int):=by rw[hk1]; exact aB8 (j+1) p.cor.length
  have c1:bY p.cor j=p.cor[j]:=by rw[bY,Nat.mod_eq_of_lt hj,aE hj]
  have c2:bY p.cor (j+1)=p.cor[k1]:=by rw[bY,←hk1,aE hk]
  have b1:=pY hb j
  have b2:=pY hb (j+1)
  rw[c1]at b1
  rw[c2]at b2
  have bxL:∀L,(H++L:Heap)[b]? = _:=fun L=>aA (k:=L) bxH
  have z1:=cZ (n:=p.cor[k1].w - p.cor[j].w) (by unfold I64; omega)
  have z2:=cZ (n:=p.cor[k1].m - p.cor[j].m) (by unfold I64; omega)
  have dr:(List.range p.cor.length).drop j=j::(List.range p.cor.length).drop (j+1):=by
   rw[List.drop_eq_getElem_cons (by simpa using hj),List.getElem_range]
  rw[dr]at iH
  have r1':=gT r1
  have st:=fun L=>step j _ (H++L) hj (ja _ _ L iH)
  simp only[uT,c1,c2]at st
  simp only[go_sem,e1,ix j hj,r1',bxL,lc,n0,em,ix k1 hk,r2,z1,z2]
  refine⟨(by unfold I64; omega),?_⟩
  refine aJ (aAd (st _)) ?_
  rintro y G1 rG
  rcases rG with⟨rfl,it⟩ | ⟨rfl,kk⟩
  ·simp only[go_sem]
   exact⟨(by unfold I64; omega),ih G1 it⟩
  ·simp only[go_sem]
   exact .inr kk
 ·rintro H iH
  refine aP [0,1,8,9,10] aET.eq_1 ?_
  have e1:¬(p.cor.length:Int)<p.cor.length:=by omega
  rw[List.drop_eq_nil_of_le (by simp)]at iH
  simp only[go_sem,e1]
  exact .inl iH
def out1(p:aZ)(x:PtD)(e:Nat):Bool:=decide (qV p x e<0)
def aGR(p:aZ)(x:PtD):List Bool:=(List.range p.cor.length).map (out1 p x)
set_option maxRecDepth 20000 in
theorem out_c{p:aZ}{x:PtD}{cv sv fv iv wv:AV}(hp:jI w0 h p cv sv fv)(hx:PtV w0 h x iv wv)(ok:tJ p x)(pb:kZ p)(xb:PtB x):ACall Tryz.prog w0 160 [.agg (p.c cv sv fv++x.c iv wv)] h fun y H=>aB h H∧qP w0 H y (aGR p x):=by
 have o1:=hp.c.one
 have o2:=hp.s.one
 have o3:=hp.f.one
 have o4:=hx.i.one
 have o5:=hx.w.one
 have pn:=pb.n
 refine aO aMW fun hb ha=> ?_
 obtain⟨R,hR⟩:∃R,R=p.c cv sv fv++x.c iv wv:=⟨_,rfl⟩
 have hR':=hR
 simp only[aZ.c,PtD.c,List.cons_append,List.nil_append]at hR'
 simp only[go_sem,mf160,List.cons_append,List.nil_append,o1.1,o1.2,o2.1,o2.2,o3.1,o3.2,o4.1,o4.2,o5.1,o5.2]
 refine aJ (ACall.v1 (aF6 (hp.sub aB.refl.app))) ?_
 rintro y H ⟨rfl,rfl⟩
 simp only[go_sem]
 refine lD [1,3,7] ?_
 simp only[go_sem]
 refine oE (fid:=188) (first:=[]) rfl (.inl rfl) fun hca hcb hps=> ?_
 simp only[go_sem]
 obtain⟨N,eN⟩:∃N,N=h.length:=⟨_,rfl⟩
 rw[←eN]
 obtain⟨FR,hFR⟩:∃FR:Fr,FR=[(1,AV.ptr (Pl.own N 0)),(3,AV.ptr (Pl.own (N+1) 0)),(7,AV.fn (Fn.func 188) [] [AV.ptr (Pl.own (N+2) 0)])]:=⟨_,rfl⟩
 obtain⟨LB,hLB⟩:∃LB:LoopState→Option Code→Blk,LB=Blk.loop 17 FR #[8] (aV (bJ 160) [1,1,0,1,0,0]) (aV (bJ 160) [1,1,0,1,0,1]):=⟨_,rfl⟩
 rw[←hFR,←hLB]
 obtain⟨C,eC⟩:∃C,C=[N+1,N+3]:=⟨_,rfl⟩
 rw[←hR']
 obtain⟨Q,hQ⟩:∃Q,Q=p.c cv sv fv:=⟨_,rfl⟩
 have hQ':=hQ
 simp only[aZ.c]at hQ'
 rw[←hQ']
 obtain⟨G0,eG0⟩:∃G0:Heap,G0=h++[some (.row R),some (.row [.nilS]),some (.row Q),some (LB .ready none)]:=⟨_,rfl⟩
 obtain⟨B,eB⟩:∃B,B=msk C G0:=⟨_,rfl⟩
 have lG:G0.length=N+4:=by rw[eG0,eN]; simp
 have lB:B.length=N+4:=by rw[eB,cD,lG]
 have hm:aB h B:=by
  rw[eB,eG0]
  refine⟨by rw[cD]; simp,fun i b e=> ?_⟩
  have:=aD e
  rw[aT (by rw[eC]; simp; omega)]; exact aA e
 have hB0:B[N]? = some (some (.row R)):=by
  rw[eB,aT (by rw[eC]; simp),eG0,eN,qI (by omega)]; simp
 have hB2:B[N+2]? = some (some (.row Q)):=by
  rw[eB,aT (by rw[eC]; simp),eG0,eN,qI (by omega)]; simp
 have hB1:B[N+1]? = some none:=by rw[eB]; exact lT (by rw[eC]; simp) (by omega)
 have hB3:B[N+3]? = some none:=by rw[eB]; exact lT (by rw[eC]; simp) (by omega)
 rw[←eG0]
 refine ACall.mono (aAO (B:=B) (J:=fun r H=>∃ov l,Gro B H 1 l.length ov (l.map AV.bool)∧H[N+1]? = some (some (.row [ov]))∧H[N+3]? = some (some (LB .ready none))∧l++r.map (out1 p x)=aGR p x) (Kx:=fun _=>False) (by rw[←hQ]; exact hB2) (hp.sub hm) ⟨by omega,by omega⟩ pb.c ?_ ?_ ?_ ?_) ?_
 ·rintro r H ⟨ov,l,g,_⟩; exact g.sub
 ·rintro r H L ⟨ov,l,g,j1,j2,j3⟩; exact⟨ov,l,g.app,aA j1,aA j2,j3⟩
 ·rintro e r H he ⟨ov,l,g,j1,j2,j3⟩
  have f3':=j2
  rw[hLB]at f3'
  have q3:=aD j2
  refine hE (psl:=[8]) dE rfl aHP aHO aBQ.eq_1 aBP.eq_1 f3' rfl hps hca hcb fun hb2 ha2=> ?_
  have f3a:∀L,(H++L)[N+3]? = _:=fun L=>aA (k:=L) f3'
  obtain⟨LY,hLY⟩:∃b,b=Blk.loop 17 [(1,AV.ptr (Pl.own N 0)),(3,AV.ptr (Pl.own (N+1) 0)),(7,AV.fn (Fn.func 188) [] [AV.ptr (Pl.own (N+2) 0)])] #[8] (aV (bJ 160) [1,1,0,1,0,0]) (aV (bJ 160) [1,1,0,1,0,1]) LoopState.busy none:=⟨_,rfl⟩
  simp only[go_sem,f3a,hFR]
  rw[←hLY]
  obtain⟨ed,hed⟩:∃ed,ed=uT p.cor e:=⟨_,rfl⟩
  have hed':=hed
  rw[uT]at hed'
  obtain⟨Y,eY⟩:∃Y,Y=(H++[some (Blk.row ed)]).set (N+3) (some LY):=⟨_,rfl⟩
  have lY:Y.length=H.length+1:=by rw[eY]; simp
  have old:∀(i:Nat) b,i≠N+3→H[i]? = some (some b)→Y[i]? = some (some b):=fun i b hi e=>by
   rw[eY,qB (fun e=>hi e.symm)]; exact aA e
  have y0:=old _ _ (by omega) (g.sub.2 _ _ hB0)
  have y1:=old _ _ (by omega) j1
  have y3:Y[N+3]? = some (some LY):=by rw[eY,qF (by simp; omega)]
  have y4:Y[H.length]? = some (some (.row ed)):=by
   rw[eY,qB (by omega),qI (Nat.le_refl _),Nat.sub_self]; rfl
  have gY:Gro B Y 1 l.length ov (l.map AV.bool):=by rw[eY]; exact(g.app).setN hB3
  rw[←hed',←eY]
  have l1:=j3
  have ll:l.length≤1000:=by have:=congrArg List.length j3; simp[aGR]at this; omega
  obtain⟨b,hbv⟩:∃b:Bool,b=decide (qV p x e<0):=⟨_,rfl⟩
  have hs3:∀X,(B.set (N+1) X)[N+3]? = some none:=fun X=>by rw[qB (by omega)]; exact hB3
  obtain⟨G2,ap,g2⟩:=(((gY.at1 y1).at1 y3).app (L:=[some (Blk.row [.bool b])])).more (w0:=w0) (b:=1) (k:=Y.length) (x:=[.bool b]) (f:=true) (by simp) rfl rfl (by omega) (by omega)
  have gl:(Y++[some (Blk.row [AV.bool b])]).length=Y.length+1:=by simp
  rw[gl]at ap g2
  obtain⟨g3,w3⟩:=g2.unat (hs3 _)
  obtain⟨g4,w1⟩:=g3.unat hB1
  have co:=gY.gro1
  have w3':∀X,(G2.set (N+1) X)[N+3]? = some (some LY):=fun X=>by rw[qB (by omega)]; exact w3
  rw[hR']at y0
  rw[hed']at y4
  refine iS dE [0,1,2,3,4,5,6,7] [o_ 9 (l_ 3),o_ 10 (.load (.t 1) (some 15)),o_ 11 (.load (.t 4) (some 5)),.call (some 12) none (f_ 182) [(.t 10),(.t 11)]] [([(0,o_ 9 (l_ 3))],[o_ 13 (.bin .lss (.t 12) (i_ 0)),o_ 14 (.bslice 1 [(.bool false)] 1 [(0,1,(.t 13))]),o_ 15 (.app 1 [(.bool false)] 1 (.t 9) (.t 14)),.op none none (.store (.t 3) (.t 15) 1)])] rfl rfl (by kernel_rfl) ?_
  simp only[go_sem,y0,y1,y4,o1.1,o1.2,o2.1,o2.2,o3.1,o3.2,o4.1,o4.2,o5.1,o5.2]
  have sY:=hm.trans gY.sub
  refine aC (aIb (e:=e) (hp.sub sY) (hx.sub sY) ok pb xb).v ?_
  simp only[go_sem,y0,y1,y4,co.1,co.2,←hbv,ap,w1,w3']
  refine⟨⟨_,_,by rw[hLY]⟩,.inl ⟨.sl (.own (Y.length+1) 0) (l.length+1) 1 false,l++[b],?_,?_,?_,?_⟩⟩
  ·rw[List.length_append,List.map_append]
   exact(g4.setN hB1).setN hB3
  ·rw[qB (by omega),qF (aD w1)]
  ·rw[qF (by simp; exact aD w3),hLB,hFR]
  ·rw[←j3,List.map_cons,List.append_assoc]
   congr 1
   rw[hbv]; rfl
 ·refine⟨.nilS,[],Gro.nil (by rw[eB]; exact bD),?_,?_,rfl⟩
  all_goals
   rw[eG0,eN,qI (by omega)]; simp
 ·rintro _ H (⟨ov,l,g,j1,j2,j3⟩ | hf)
  rotate_left
  ·exact hf.elim
  have f3':=j2
  rw[hLB,hFR]at f3'
  obtain⟨X,eX⟩:∃X,X=H.set (N+3) none:=⟨_,rfl⟩
  have x1:X[N+1]? = some (some (.row [ov])):=by rw[eX,qB (by omega)]; exact j1
  simp only[f3',←eX,hFR]
  simp only[go_sem,x1]
  have gX:Gro B X 1 l.length ov (l.map AV.bool):=by rw[eX]; exact g.setN hB3
  refine⟨hm.trans gX.sub,?_⟩
  simp only[List.map_nil,List.append_nil]at j3
  rw[←j3]
  exact gX.boo rfl
def aA5:List FuncId:=[156,157,158,159,160,161]
def kP(c:List AV):List AV:=aA5.map fun f=> .fn (.func f) [.agg c] []
def cP(p:aZ)(x:PtD):List (List Bool):=[aFI p x,[decide (x.thi>p.tank.most)],wetD p x,[zE p x],aGR p x,[vE p x]]
theorem aFA{p:aZ}{x:PtD}{cv sv fv iv wv:AV}(hp:jI w0 h p cv sv fv)(hx:PtV w0 h x iv wv):aK Tryz.prog w0 82 [.agg (p.c cv sv fv++x.c iv wv)] h (.agg (kP (p.c cv sv fv++x.c iv wv))) h:=by
 have o1:=hp.c.one
 have o2:=hp.s.one
 have o3:=hp.f.one
 have o4:=hx.i.one
 have o5:=hx.w.one
 have b1:=hp.c.bdd (Nat.le_refl _)
 have b2:=hp.s.bdd (Nat.le_refl _)
 have b3:=hp.f.bdd (Nat.le_refl _)
 have b4:=hx.i.bdd (Nat.le_refl _)
 have b5:=hx.w.bdd (Nat.le_refl _)
 simp only[kP,aA5,List.map_cons,List.map_nil,aZ.c,PtD.c,List.cons_append,List.nil_append]
 refine wY dE aDY.a aDY.b aDY.c (qE rfl) (by simp[AV.bdd,AV.bdds,b1,b2,b3,b4,b5]) fun hb ha=>hY ?_
 simp only[go_sem,mf82,o1.1,o1.2,o2.1,o2.2,o3.1,o3.2,o4.1,o4.2,o5.1,o5.2]
theorem aIA{p:aZ}{x:PtD}{cv sv fv iv wv:AV}{i:Nat}{f:FuncId}(hp:jI w0 h p cv sv fv)(hx:PtV w0 h x iv wv)(ok:tJ p x)(pb:kZ p)(xb:PtB x)(hs:p.sta.length≤1000)(hi:i<6) :
 bE Tryz.prog w0 ((kP (p.c cv sv fv++x.c iv wv)).getD i .undef) [] h fun y H=>aB h H∧qP w0 H y ((cP p x).getD i []):=by
 match i,hi with
 | 0,_=>exact ACall.vc (first:=[_]) (args:=[]) (over_c hp hx ok xb hs)
 | 1,_=>exact ACall.vc (first:=[_]) (args:=[]) (full_c hp hx)
 | 2,_=>exact ACall.vc (first:=[_]) (args:=[]) (wet_c hp hx ok)
 | 3,_=>exact ACall.vc (first:=[_]) (args:=[]) (aNW hp hx ok pb xb)
 | 4,_=>exact ACall.vc (first:=[_]) (args:=[]) (out_c hp hx ok pb xb)
 | 5,_=>exact ACall.vc (first:=[_]) (args:=[]) (aH9 hp hx)
def rO(p:aZ)(x:PtD):Bool:=(cP p x).all fun l=>l.all fun b=> !b
def BrokK(b:Bool)(y:AV):Prop:=∃r k:Int,y= .tup [.int .i64 r,.int .i64 k]∧(b=true↔r=1)
theorem qP.at_{H:Heap}{v:AV}{l:List Bool}(s:qP w0 H v l){j:Nat}(hj:j<l.length):∃q:Pl,cF 1 v (some j)=some (.ptr q)∧∀L,rd w0 (H++L) q=some (.bool l[j]):=by
 obtain⟨_,q,ix,row,_⟩:=s.s.use
 rw[List.length_map]at ix
 have r:=tE (f:=fun b=>[AV.bool b]) row hj
 refine⟨q.add (j*1),ix j hj,fun L=> ?_⟩
 have:=dG (r L) (o:=0) rfl
 rwa [Pl.add_add,Nat.add_zero]at this
theorem qP.len{H:Heap}{v:AV}{l:List Bool}(s:qP w0 H v l):dA v=some (.int .i64 l.length):=by
 have:=s.s.use.1
 rwa [List.length_map]at this
theorem qP.sub{G H:Heap}{v:AV}{l:List Bool}(s:qP w0 G v l)(t:aB G H):qP w0 H v l:=SlZ.sub s t
theorem sC{p:aZ}{x:PtD}(ok:tJ p x)(pb:kZ p)(hs:p.sta.length≤1000):∀l∈cP p x,l.length≤1000:=fun l hl=>by
 have h1:=ok.w
 have h2:=ok.f
 have h3:=pb.n
 simp only[cP,List.mem_cons,List.not_mem_nil,or_false]at hl
 rcases hl with rfl | rfl | rfl | rfl | rfl | rfl<;>simp[aFI,wetD,aGR]<;>omega
set_option maxRecDepth 20000 in
theorem aKb{p:aZ}{x:PtD}{cv sv fv iv wv:AV}(hp:jI w0 h p cv sv fv)(hx:PtV w0 h x iv wv)(ok:tJ p x)(pb:kZ p)(xb:PtB x)(hs:p.sta.length≤1000):ACall Tryz.prog w0 83 [.agg (p.c cv sv fv++x.c iv wv)] h fun y H=>aB h H∧BrokK (rO p x) y:=by
 have o1:=hp.c.one
 have o2:=hp.s.one
 have o3:=hp.f.one
 have o4:=hx.i.one
 have o5:=hx.w.one
 refine aO mf83_k fun hb ha=> ?_
 obtain⟨R,hR⟩:∃R,R=p.c cv sv fv++x.c iv wv:=⟨_,rfl⟩
 have hR':=hR
 simp only[aZ.c,PtD.c,List.cons_append,List.nil_append]at hR'
 simp only[go_sem,mf83,List.cons_append,List.nil_append,o1.1,o1.2,o2.1,o2.2,o3.1,o3.2,o4.1,o4.2,o5.1,o5.2]
 refine aC (aFA (hp.sub aB.refl.app) (hx.sub aB.refl.app)).v ?_
 rw[←hR,←hR']
 simp only[go_sem]
 refine bS (S:=Heap) (fun i _=>[(9,.agg (kP R)),(10,.int .i64 i)]) (fun _ s=>s) (fun i s=>aB h s∧((cP p x).take i).all (fun l=>l.all fun b=> !b)=true) 6 _ ⟨aB.refl.app,rfl⟩ rfl rfl ?_ ?_
 ·rintro i H hi ⟨sH,hall⟩ ih
  refine aP [9,10] aKR.eq_1 ?_
  have e1:(i:Int)<6:=by omega
  have i6:i<6:=hi
  have cc:=aIA (f:=0) (hp.sub sH) (hx.sub sH) ok pb xb hs hi
  rw[←hR]at cc
  obtain⟨rv,hrv⟩:∃rv,rv=(kP R).getD i .undef:=⟨_,rfl⟩
  have hr:(kP R)[i*1]? = some rv:=by
   rw[Nat.mul_one,hrv,List.getD_eq_getElem?_getD,qA (by simpa[kP,aA5]using hi)]; rfl
  rw[←hrv]at cc
  obtain⟨lst,hl⟩:∃lst,lst=(cP p x).getD i []:=⟨_,rfl⟩
  rw[←hl]at cc
  have hlm:lst∈cP p x:=by
   have h6:i<(cP p x).length:=hi
   rw[hl,aE h6]; exact qG h6
  have hll:=sC ok pb hs lst hlm
  have tk:(cP p x).take (i+1)=(cP p x).take i++[lst]:=by
   have h6:i<(cP p x).length:=hi
   rw[List.take_succ_eq_append_getElem h6,hl,aE h6]
  simp only[go_sem,e1,i6,hr]
  refine aJ cc ?_
  rintro y G ⟨sG,bv⟩
  have ln:=bv.len
  have sHG:=sH.trans sG
  simp only[go_sem,ln]
  refine cY (fun k=>[(4,.int .i64 i),(9,.agg (kP R)),(10,.int .i64 i),(15,y),(16,.int .i64 lst.length),(17,.int .i64 k)]) (fun k=>lst.getD k false=false) lst.length rfl (fun k hk hall2 ih2=> ?_) (fun hall2=> ?_)
  ·refine aP [4,9,10,15,16,17] aKS.eq_1 ?_
   have e2:(k:Int)<lst.length:=by omega
   obtain⟨q,ix,rk⟩:=bv.at_ hk
   have rk':=aBm rk
   rw[aE hk]at ih2
   cases hb2:lst[k]with
   | true=>
    rw[hb2]at rk'
    simp only[go_sem,e2,ix,rk']
    refine⟨(by unfold I64; omega),sHG,2+i,k,rfl,?_⟩
    have:rO p x=false:=List.all_eq_false.2 ⟨lst,hlm,by
     rw[Bool.not_eq_true]
     exact List.all_eq_false.2 ⟨_,qG hk,by rw[hb2]; simp⟩⟩
    rw[this]
    constructor
    ·intro hh; cases hh
    ·intro hh; omega
   | false=>
    rw[hb2]at rk'
    simp only[go_sem,e2,ix,rk']
    exact⟨(by unfold I64; omega),ih2 hb2⟩
  ·refine aP [4,9,10,15,16,17] aKS.eq_1 ?_
   have e2:¬(lst.length:Int)<lst.length:=by omega
   have ha:(lst.all fun b=> !b)=true:=List.all_eq_true.2 fun b hb3=>by
    obtain⟨k,hk,rfl⟩:=List.getElem_of_mem hb3
    have:=hall2 k hk
    rw[aE hk]at this
    rw[this]; rfl
   simp only[go_sem,e2]
   exact⟨(by unfold I64; omega),ih G ⟨sHG,by rw[tk,List.all_append,hall,List.all_cons,ha]; rfl⟩⟩
 ·rintro H ⟨sH,hall⟩
  refine aP [9,10] aKR.eq_1 ?_
  have e1:¬((6:Nat):Int)<6:=by omega
  simp only[go_sem,e1]
  refine⟨sH,1,0,rfl,?_⟩
  rw[show(cP p x).take 6=cP p x from rfl]at hall
  simp[rO,hall]
theorem aKk{H:Heap}{v:AV}{es b:Nat}{rows:List (List AV)}(s:SlZ w0 H es v rows)(ho:∀c∈rows,c.all one=true)(hb:b≤1000000)(hn:rows.length≤1000):∃y L,eD w0 H es b .nilS v=some (y,H++L)∧((rows=[]∧y= .nilS∧L=[])∨(y= .sl (.own H.length 0) rows.length es false∧L=[some (.row rows.flatten)])):=by
 by_cases hx:rows=[]
 ·subst hx
  refine⟨.nilS,[],?_,.inl ⟨rfl,rfl,rfl⟩⟩
  simp only[eD,s.e rfl,Option.bind_some]
  simp
 ·exact⟨_,_,aDj (w0:=w0) (b:=b) s.s hx ho hb (by omega),.inr ⟨rfl,rfl⟩⟩
def OwnZ(H:Heap)(es:Nat)(y:AV)(rows:List (List AV))(b:Nat):Prop:=(rows=[]∧y= .nilS)∨∃f,y= .sl (.own b 0) rows.length es f∧H[b]? = some (some (.row rows.flatten))
theorem OwnZ.sl{H:Heap}{es b:Nat}{y:AV}{rows:List (List AV)}(a:OwnZ H es y rows b)(he:∀c∈rows,c.length=es):Sl w0 H es y rows:=by
 rcases a with⟨h1,h2⟩ | ⟨f,rfl,h2⟩
 ·exact .inl ⟨h2,h1⟩
 ·exact fY h2 he
theorem OwnZ.to{H H2:Heap}{es b:Nat}{y:AV}{rows:List (List AV)}(a:OwnZ H es y rows b)(s:∀c,H[b]? = some (some c)→H2[b]? = some (some c)):OwnZ H2 es y rows b:=by
 rcases a with h1 | ⟨f,h1,h2⟩
 ·exact .inl h1
 ·exact .inr ⟨f,h1,s _ h2⟩
structure PLs(w0:World)(ms:List Nat)(K H:Heap)(ov:AV)(io:Nat)(rows:List (List AV))(pts:List PtD):Prop where
 g:Gr2 H 5 pts.length io ov rows.flatten
 l:rows.length=pts.length
 r:∀(j:Nat) x c,pts[j]? = some x→rows[j]? = some c→∃iv wv,c=x.c iv wv∧PtV w0 (msk ms (Ab.mk pts.length io H)) x iv wv
 s:aB K (msk ms (Ab.mk pts.length io H))
theorem PLs.to{ms:List Nat}{K H H2:Heap}{ov:AV}{io:Nat}{rows:List (List AV)}{pts:List PtD}(a:PLs w0 ms K H ov io rows pts)(hs:aB (msk ms (Ab.mk pts.length io H)) (msk ms (Ab.mk pts.length io H2)))(hg:Gr2 H2 5 pts.length io ov rows.flatten):PLs w0 ms K H2 ov io rows pts:=
 ⟨hg,a.l,fun j x c h1 h2=>by obtain⟨iv,wv,e,v⟩:=a.r j x c h1 h2; exact⟨iv,wv,e,v.sub hs⟩,a.s.trans hs⟩
def tW(p:aZ)(lg:dV)(tlo thi wlo whi:Int)(ld:Bool):PtD:=⟨lg.items,tlo,thi,List.replicate p.flo.length (wlo,whi),ld⟩
set_option maxRecDepth 20000 in
theorem add_c{p:aZ}{cv sv fv iv ov:AV}{lg:dV}{nb pb wb ob io:Nat}{tlo thi wlo whi:Int}{ms:List Nat}{K H:Heap}{rows:List (List AV)}{pts:List PtD}{ld:Bool}
 (hl:SlZ w0 H 3 iv (lg.items.map iF.c)) (hil:lg.items.length≤1000) (lf:dA fv=some (.int .i64 p.flo.length)) (hf:p.flo.length≤1000)
 (h1:H[nb]? = some (some (.row [.int .i64 tlo,.int .i64 thi]))) (h2:H[pb]? = some (some (.row (p.c cv sv fv)))) (h3:H[wb]? = some (some (.row [.int .i64 wlo,.int .i64 whi]))) (h4:H[ob]? = some (some (.row [ov])))
 (hms:ob∈ms) (hmb:∀i∈ms,i<H.length) (n1:nb≠ob) (n2:pb≠ob) (n3:wb≠ob) (ni:pts≠[]→io∉ms∧io≠pb)
 (a:PLs w0 ms K H ov io rows pts) (hn:pts.length≤1000) :
 ACall Tryz.prog w0 155 [.agg (lg.c iv),.bool ld,.ptr (.own nb 0),.ptr (.own pb 0),.ptr (.own wb 0),.ptr (.own ob 0)] H fun _ H'=>∃ov' io' rows',H'[ob]? = some (some (.row [ov']))∧PLs w0 ms K H' ov' io' rows' (pts++[tW p lg tlo thi wlo whi ld])∧H.length≤io'∧H.length≤H'.length∧∀(i:Nat) b,i≠ob→(pts≠[]→i≠io)→H[i]? = some (some b)→H'[i]? = some (some b):=by
 have oi:=hl.s.one
 refine aO aM1 fun hb ha=> ?_
 have g1:∀L,(H++L:Heap)[nb]? = _:=fun L=>aA (k:=L) h1
 obtain⟨X,eX⟩:∃X:Heap,X=H++[some (.row (lg.c iv)),some (.row [.nilS,.int .i64 tlo,.int .i64 thi,.nilS,.bool ld])]:=⟨_,rfl⟩
 have lX:X.length=H.length+2:=by rw[eX]; simp
 have x6:X[H.length]? = some (some (.row (lg.c iv))):=by rw[eX]; simp
 have x8:X[H.length+1]? = some (some (.row [.nilS,.int .i64 tlo,.int .i64 thi,.nilS,.bool ld])):=by rw[eX]; simp
 have sX:aB H X:=by rw[eX]; exact aB.refl.app
 obtain⟨y,L,ap,hy⟩:=aKk (w0:=w0) (b:=24) (hl.sub sX) (fun c hc=>by obtain⟨z,_,rfl⟩:=List.mem_map.1 hc; rfl) (by omega) (by simpa using hil)
 have eX':=eX
 simp only[dV.c]at x6 eX'
 simp only[go_sem,mf155,oi.1,oi.2,g1]
 rw[←eX']
 have x8':∀L:Heap,(X++L)[H.length+1]? = _:=fun L=>aA (k:=L) x8
 have oy:Ab.one y=true∧cellsOf y=some [y]:=by rcases hy with⟨_,rfl,_⟩ | ⟨rfl,_⟩<;>exact⟨rfl,rfl⟩
 simp only[go_sem,x6,x8,ap,x8',oy.1,oy.2]
 obtain⟨Z,eZ⟩:∃Z,Z=(X++L).set (H.length+1) (some (Blk.row [y,.int .i64 tlo,.int .i64 thi,.nilS,.bool ld])):=⟨_,rfl⟩
 rw[←eZ]
 have lXL:(X++L).length=X.length+L.length:=List.length_append
 have sZ:aB H Z:=by rw[eZ]; exact(sX.app).setR (by omega)
 have z8:Z[H.length+1]? = some (some (.row [y,.int .i64 tlo,.int .i64 thi,.nilS,.bool ld])):=by rw[eZ]; exact qF (by omega)
 obtain⟨KB,eKB⟩:∃KB,KB=Z.set (H.length+1) none:=⟨_,rfl⟩
 have k8:KB[H.length+1]? = some none:=by rw[eKB]; exact qF (aD z8)
 have sKB:aB KB Z:=by rw[eKB]; exact aB.msk
 have sHK:aB H KB:=by rw[eKB]; exact sZ.setR (by omega)
 have z2:=sZ.2 _ _ h2
 simp only[aZ.c]at z2
 simp only[go_sem,z2,lf]
 refine bS (S:=Heap×AV) (fun j _=>[(4,.ptr (.own wb 0)),(5,.ptr (.own ob 0)),(8,.ptr (.own (H.length+1) 0)),(20,.int .i64 p.flo.length),(21,.int .i64 j)]) (fun _ s=>s.1) (fun j s=>Gro KB s.1 2 j s.2 ((List.replicate j (spC (wlo,whi))).flatten)∧s.1[H.length+1]? = some (some (.row [y,.int .i64 tlo,.int .i64 thi,s.2,.bool ld]))) p.flo.length (Z,.nilS) ⟨Gro.nil sKB,z8⟩ rfl rfl ?_ ?_
 ·rintro j ⟨G,wv⟩ hj ⟨g,b8⟩ ih
  simp only at g b8 ih ⊢
  refine aP [4,5,8,20,21] aE3.eq_1 ?_
  have e1:(j:Int)<p.flo.length:=by omega
  have q3:=(sHK.trans g.sub).2 _ _ h3
  obtain⟨G2,ap2,g2⟩:=((g.at1 b8).app (L:=[some (Blk.row (spC (wlo,whi)))])).more (w0:=w0) (b:=16) (k:=G.length) (x:=spC (wlo,whi)) (f:=true) (by simp) rfl rfl (by omega) (by omega)
  have gl:(G++[some (Blk.row (spC (wlo,whi)))]).length=G.length+1:=by simp
  rw[gl]at ap2 g2
  obtain⟨g3,w8⟩:=g2.unat k8
  have co:=g.gro1
  have rs:(List.replicate (j+1) (spC (wlo,whi))).flatten=(List.replicate j (spC (wlo,whi))).flatten++spC (wlo,whi):=by
   rw[List.replicate_succ',List.flatten_append]; simp
  simp only[spC]at ap2
  simp only[go_sem,e1,b8,q3,co.1,co.2,ap2,w8]
  refine⟨(by unfold I64; omega),ih (G2.set (H.length+1) (some (.row [y,.int .i64 tlo,.int .i64 thi,.sl (.own (G.length+1) 0) (j+1) 2 false,.bool ld])),_) ⟨?_,qF (aD w8)⟩⟩
  rw[rs]
  exact g3.setN k8
 ·rintro⟨G,wv⟩ ⟨g,b8⟩
  simp only at g b8 ⊢
  refine aP [4,5,8,20,21] aE3.eq_1 ?_
  have e1:¬(p.flo.length:Int)<p.flo.length:=by omega
  have sG:=sHK.trans g.sub
  have q4:=sG.2 _ _ h4
  obtain⟨c5,hc5⟩:∃c5,c5=[y,.int .i64 tlo,.int .i64 thi,wv,AV.bool ld]:=⟨_,rfl⟩
  have co:=g.gro1
  have aG:=a.g.sub (sG.app (L:=[some (Blk.row c5)]))
  obtain⟨G2,ap2,g2,s2,lG2⟩:=aG.more (w0:=w0) (b:=72) (k:=G.length) (x:=c5) (f:=true) (by simp) (by rw[hc5]; rfl) (by rw[hc5]; show(Ab.one y&&(true&&(true&&(Ab.one wv&&(true&&true)))))=true; rw[oy.1,co.1]; rfl) (by omega) (by omega)
  have gl:(G++[some (Blk.row c5)]).length=G.length+1:=by simp
  rw[gl]at ap2 g2 s2 lG2
  have lHG:=sG.1
  have cov:=a.g.one
  have kp:∀(i:Nat) b,(pts≠[]→i≠io)→i<G.length+1→(G++[some (Blk.row c5)])[i]? = some (some b)→G2[i]? = some (some b):=fun i b hi hl e=>by
   have e1:(Ab.mk pts.length io (G++[some (Blk.row c5)]))[i]? = some (some b):=by
    unfold Ab.mk
    split
    ·exact e
    ·rename_i hne
     rw[qB (fun w=>hi (fun z=>hne (by rw[z]; rfl)) w.symm)]; exact e
   have e2:=s2.2 i b e1
   rw[Ab.mk,if_neg (by omega),qB (by omega)]at e2
   exact e2
  have w4:G2[ob]? = some (some (.row [ov])):=kp _ _ (fun z w=>(ni z).1 (w▸hms)) (by have:=aD q4; omega) (aA q4)
  rw[hc5]at ap2
  have hio:pts≠[]→io<H.length:=fun hne=>by
   rcases a.g with⟨z,_⟩ | ⟨_,_,z,_⟩
   ·exact absurd (List.eq_nil_of_length_eq_zero z) hne
   ·exact aD z
  have hob:=hmb ob hms
  obtain⟨ov',hov'⟩:∃ov',ov'=AV.sl (.own (G.length+1) 0) (pts.length+1) 5 false:=⟨_,rfl⟩
  obtain⟨F,eF⟩:∃F,F=G2.set ob (some (Blk.row [ov'])):=⟨_,rfl⟩
  have lF:F.length=G.length+2:=by rw[eF,List.length_set,lG2]
  have kF:∀(i:Nat) b,i≠ob→(pts≠[]→i≠io)→G[i]? = some (some b)→F[i]? = some (some b):=fun i b h1 h2 e=>by
   rw[eF,qB (fun w=>h1 w.symm)]
   exact kp i b h2 (by have:=aD e; omega) (aA e)
  have hm2:aB (msk ms (Ab.mk pts.length io H)) (msk ms (Ab.mk (pts.length+1) (G.length+1) F)):=by
   have ml:(Ab.mk pts.length io H).length=H.length:=by unfold Ab.mk; split<;>simp
   refine⟨by rw[cD,cD,ml,Ab.mk,if_neg (by omega),List.length_set]; omega,fun i b e=> ?_⟩
   have hi:i<H.length:=by have:=aI e; rw[cD,ml]at this; exact this
   have him:i∉ms:=fun w=>by rw[lT w (by rw[ml]; exact hi)]at e; cases e
   rw[aT him]at e
   rw[aT him,Ab.mk,if_neg (by omega),qB (by omega)]
   have hne:pts≠[]→i≠io:=fun hne w=>by
    rw[Ab.mk,if_neg (fun z=>hne (List.eq_nil_of_length_eq_zero z)),w,qF (hio hne)]at e
    cases e
   have e0:H[i]? = some (some b):=by
    unfold Ab.mk at e
    split at e
    ·exact e
    ·rename_i z
     rwa [qB (fun w=>hne (fun q=>z (by rw[q]; rfl)) w.symm)]at e
   exact kF i b (fun w=>him (w▸hms)) hne (sG.2 _ _ e0)
  have newB:∀(i:Nat) b,H.length≤i→G[i]? = some (some b)→(msk ms (Ab.mk (pts.length+1) (G.length+1) F))[i]? = some (some b):=fun i b hi e=>by
   have:=aD e
   rw[aT (fun w=>by have:=hmb i w; omega),Ab.mk,if_neg (by omega),qB (by omega)]
   exact kF i b (by omega) (fun hne=>by have:=hio hne; omega) e
  have lKB:KB.length=X.length+L.length:=by rw[eKB,List.length_set,eZ,List.length_set,lXL]
  have yS:Sl w0 (msk ms (Ab.mk (pts.length+1) (G.length+1) F)) 3 y (lg.items.map iF.c):=by
   rcases hy with⟨q1,q2,_⟩ | ⟨q1,q2⟩
   ·rw[q1]; exact .inl ⟨q2,rfl⟩
   ·have e2:G[X.length]? = some (some (.row (lg.items.map iF.c).flatten)):=g.sub.2 _ _ (by
     rw[eKB,qB (by omega),eZ,qB (by omega),q2,qI (Nat.le_refl _),Nat.sub_self]; rfl)
    rw[q1]
    exact fY (newB _ _ (by omega) e2) fun c hc=>by obtain⟨z,_,rfl⟩:=List.mem_map.1 hc; rfl
  have wS:Sl w0 (msk ms (Ab.mk (pts.length+1) (G.length+1) F)) 2 wv ((tW p lg tlo thi wlo whi ld).water.map spC):=by
   have ew:(tW p lg tlo thi wlo whi ld).water.map spC=List.replicate p.flo.length (spC (wlo,whi)):=by simp[tW,List.map_replicate]
   rw[ew]
   rcases g.own with⟨q1,q2,_⟩ | ⟨io2,q1,q2,q3,q4,_⟩
   ·rw[q1]; exact .inl ⟨q2,rfl⟩
   ·rw[q3]
    have:=fY (w0:=w0) (es:=2) (full:=false) (rows:=List.replicate p.flo.length (spC (wlo,whi))) (newB _ _ (by omega) q4) fun c hc=>by rw[List.eq_of_mem_replicate hc]; rfl
    rwa [List.length_replicate]at this
  simp only[go_sem,e1,b8,q4,cov.1,cov.2,co.1,co.2,oy.1,oy.2,ap2,w4]
  rw[←hov',←eF]
  have gF:Gr2 F 5 (pts.length+1) (G.length+1) ov' (rows.flatten++c5):=by
   rw[hov']
   exact g2.keep fun c e=>by rw[eF,qB (by omega)]; exact e
  refine⟨ov',G.length+1,rows++[c5],by rw[eF]; exact qF (aD w4),⟨?_,by simp[a.l],fun j x c e1 e2=> ?_,?_⟩,by omega,by omega,fun i b e1 e2 e3=>kF i b e1 e2 (sG.2 _ _ e3)⟩
  ·rw[List.length_append,List.flatten_append]; simpa using gF
  ·rw[List.length_append]
   by_cases hj:j<pts.length
   ·rw[qH hj]at e1
    rw[qH (by rw[a.l]; exact hj)]at e2
    obtain⟨iv2,wv2,z1,z2⟩:=a.r j x c e1 e2
    exact⟨iv2,wv2,z1,z2.sub hm2⟩
   ·have hj2:j=pts.length:=by
     have:=(List.getElem?_eq_some_iff.1 e1).1; simp at this; omega
    subst hj2
    rw[qI (Nat.le_refl _),Nat.sub_self]at e1
    rw[←a.l,qI (Nat.le_refl _),Nat.sub_self]at e2
    cases e1; cases e2
    exact⟨y,wv,hc5,yS,wS⟩
  ·rw[List.length_append]; exact a.s.trans hm2
end Go.Proofs.Ab

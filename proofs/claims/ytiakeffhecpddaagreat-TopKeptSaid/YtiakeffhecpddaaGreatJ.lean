/- Own layer, part J. -/
import Derived.Test.YtiakeffhecpddaaGreatI
set_option linter.unusedSimpArgs false
set_option linter.unusedVariables false
namespace Go.Proofs.Ab
open Go Go.Proofs
variable {w0:World} {h:Heap}
attribute [local irreducible] ACall bE cR aK bI rvC lp rg dr ex un rv
theorem mk_set{n io i:Nat}{x:Option Blk}{H:Heap}(hi:n≠0→i≠io):Ab.mk n io (H.set i x)=(Ab.mk n io H).set i x:=by
 unfold Ab.mk
 split
 ·rfl
 ·rename_i z; exact List.set_comm _ _ (hi z)
theorem mk_un{n io:Nat}{H:Heap}:aB (Ab.mk n io H) H:=by
 unfold Ab.mk
 split
 ·exact aB.refl
 ·exact aB.msk
section
variable {ms:List Nat} {K H:Heap} {ov:AV} {io:Nat} {rows:List (List AV)} {pts:List PtD}
theorem PLs.lt(a:PLs w0 ms K H ov io rows pts)(hne:pts≠[]):io<H.length:=by
 rcases a.g with⟨z,_⟩ | ⟨_,_,z,_⟩
 ·exact absurd (List.eq_nil_of_length_eq_zero z) hne
 ·exact aD z
theorem PLs.set(a:PLs w0 ms K H ov io rows pts){i:Nat}{x:Option Blk}(hi:i∈ms)(hne:pts≠[]→i≠io):PLs w0 ms K (H.set i x) ov io rows pts:=by
 have e:msk ms (Ab.mk pts.length io (H.set i x))=msk ms (Ab.mk pts.length io H):=by
  rw[mk_set fun z=>hne fun w=>z (by rw[w]; rfl),uF hi]
 refine a.to (by rw[e]; exact aB.refl) ?_
 rcases a.g with z | ⟨z1,z2,z3,z4⟩
 ·exact .inl z
 ·exact .inr ⟨z1,z2,by rw[qB (hne fun w=>z1 (by rw[w]; rfl))]; exact z3,z4⟩
theorem PLs.app(a:PLs w0 ms K H ov io rows pts){L:Heap}:PLs w0 ms K (H++L) ov io rows pts:=by
 have e:Ab.mk pts.length io (H++L)=Ab.mk pts.length io H++L:=by
  unfold Ab.mk
  split
  ·rfl
  ·rename_i z; exact List.set_append_left _ _ (a.lt fun w=>z (by rw[w]; rfl))
 exact a.to (by rw[e]; exact nT) (a.g.sub aB.refl.app)
theorem PLs.hsub(a:PLs w0 ms K H ov io rows pts):aB K H:=(a.s.trans bD).trans mk_un
end
def jA(p:aZ):List dV→Int→Int→Int→Int→List PtD
 | [],_,_,_,_=>[]
 | l::r,tlo,thi,wlo,whi=>
  tW p l (tlo+l.fuel) (thi+l.fuel) (cond l.pump 0 wlo) (cond l.pump 0 whi) false ::
  tW p l (tlo+l.fuel - l.bhi) (thi+l.fuel - l.blo) (cond l.pump 0 wlo+l.llo) (cond l.pump 0 whi+l.lhi) true ::
  jA p r (tlo+l.fuel - l.bhi) (thi+l.fuel - l.blo) (cond l.pump 0 wlo+l.llo) (cond l.pump 0 whi+l.lhi)
def PtR(w0:World)(H:Heap)(x:PtD)(c:List AV):Prop:=∃iv wv,c=x.c iv wv∧PtV w0 H x iv wv
def aHW(w0:World)(H:Heap)(v:AV)(l:List PtD):Prop:=NS w0 H 5 (PtR w0 H) v l
structure LegOK(l:dV):Prop where
 n:l.items.length≤12
 f:0≤l.fuel∧l.fuel≤20000
 b:0≤l.blo∧l.blo≤l.bhi∧l.bhi≤20000
 k:0≤l.llo∧l.llo≤l.lhi∧l.lhi≤20000
structure PoI(w0:World)(h:Heap)(p:aZ)(cv sv fv:AV)(all:List PtD)(legs:List dV)(j:Nat)(H:Heap)(ov:AV)(io:Nat)(rows:List (List AV))(pts:List PtD)(tlo thi wlo whi:Int):Prop where
 a:PLs w0 [h.length+2,h.length+3,h.length+4] h H ov io rows pts
 l:pts.length=2*j
 e:pts++jA p (legs.drop j) tlo thi wlo whi=all
 i:pts≠[]→h.length+5≤io
 h0:H[h.length]? = some (some (.row (p.c cv sv fv)))
 h2:H[h.length+2]? = some (some (.row [ov]))
 h3:H[h.length+3]? = some (some (.row [.int .i64 tlo,.int .i64 thi]))
 h4:H[h.length+4]? = some (some (.row [.int .i64 wlo,.int .i64 whi]))
 b:(-20000*(j:Int)≤tlo∧tlo≤20000*(j+1))∧(-20000*(j:Int)≤thi∧thi≤20000*(j+1))∧(0≤wlo∧wlo≤20000*(j:Int))∧(0≤whi∧whi≤20000*(j:Int))
set_option maxRecDepth 20000 in
theorem aCs{p:aZ}{cv sv fv lv:AV}{legs:List dV}{lo hi:Int}(hp:jI w0 h p cv sv fv)(hl:lA w0 h lv legs)(hn:legs.length≤6)(ok:∀l∈legs,LegOK l)(hf:p.flo.length≤1000)(hlo:0≤lo∧lo≤20000)(hhi:0≤hi∧hi≤20000) :
 ACall Tryz.prog w0 81 [.agg (p.c cv sv fv),.agg [.int .i64 lo,.int .i64 hi],lv] h fun y H=>aB h H∧aHW w0 H y (jA p legs lo hi 0 0):=by
 have o1:=hp.c.one
 have o2:=hp.s.one
 have o3:=hp.f.one
 have ll:=hl.len
 have lf:dA fv=some (.int .i64 p.flo.length):=by have:=hp.f.use.1; rwa [List.length_map]at this
 refine aO mf81_k fun hb ha=> ?_
 obtain⟨Q,hQ⟩:∃Q,Q=p.c cv sv fv:=⟨_,rfl⟩
 have hQ':=hQ
 simp only[aZ.c]at hQ'
 simp only[go_sem,mf81,o1.1,o1.2,o2.1,o2.2,o3.1,o3.2,ll]
 rw[←hQ']
 obtain⟨H0,eH0⟩:∃H0:Heap,H0=h++[some (.row Q),some (.row [.int .i64 lo,.int .i64 hi]),some (.row [.nilS]),some (.row [.int .i64 lo,.int .i64 hi]),some (.row [.int .i64 0,.int .i64 0])]:=⟨_,rfl⟩
 rw[←eH0]
 have I0:PoI w0 h p cv sv fv (jA p legs lo hi 0 0) legs 0 H0 .nilS 0 [] [] lo hi 0 0:=by
  refine⟨⟨.inl ⟨rfl,rfl,rfl⟩,rfl,fun j x c e=>by simp at e,?_⟩,rfl,rfl,fun e=>absurd rfl e,?_,?_,?_,?_,by omega⟩
  ·rw[Ab.mk,if_pos (by rfl),eH0]
   refine⟨by rw[cD]; simp,fun i b e=> ?_⟩
   have:=aD e
   rw[aT (by simp; omega)]; exact aA e
  all_goals
   rw[eH0,qI (by omega)]; simp[hQ]
 refine bS (S:=Heap×AV×Nat×List (List AV)×List PtD×Int×Int×Int×Int) (fun j _=>[(7,.ptr (.own (h.length+2) 0)),(8,.ptr (.own (h.length+3) 0)),(9,.ptr (.own (h.length+4) 0)),(10,.fn (.func 155) [] [.ptr (.own (h.length+3) 0),.ptr (.own h.length 0),.ptr (.own (h.length+4) 0),.ptr (.own (h.length+2) 0)]),(16,lv),(17,.int .i64 legs.length),(18,.int .i64 j)]) (fun _ s=>s.1)
  (fun j s=>PoI w0 h p cv sv fv (jA p legs lo hi 0 0) legs j s.1 s.2.1 s.2.2.1 s.2.2.2.1 s.2.2.2.2.1 s.2.2.2.2.2.1 s.2.2.2.2.2.2.1 s.2.2.2.2.2.2.2.1 s.2.2.2.2.2.2.2.2) legs.length (H0,.nilS,0,[],[],lo,hi,0,0) I0 rfl rfl ?_ ?_
 ·rintro j ⟨H,ov,io,rows,pts,tlo,thi,wlo,whi⟩ hj I ih
  simp only at I ih ⊢
  refine aP [7,8,9,10,16,17,18] aKT.eq_1 ?_
  have e1:(j:Int)<legs.length:=by omega
  have sH:=I.a.hsub
  obtain⟨pl,iv,i1,vi,r7,_⟩:=hl.one hj
  obtain⟨lg,hlg⟩:∃lg,lg=legs[j]:=⟨_,rfl⟩
  rw[←hlg]at vi r7
  have lok:=ok lg (hlg▸qG hj)
  have r7':=sH.rdn (gT r7)
  have oi:=vi.s.one
  have dr:legs.drop j=lg::legs.drop (j+1):=by rw[List.drop_eq_getElem_cons hj,←hlg]
  have Ie:=I.e
  rw[dr,jA]at Ie
  obtain⟨H1,eH1⟩:∃H1,H1=H++[some (Blk.row (lg.c iv))]:=⟨_,rfl⟩
  have s1:aB H H1:=by rw[eH1]; exact aB.refl.app
  have a1:PLs w0 [h.length+2,h.length+3,h.length+4] h H1 ov io rows pts:=by rw[eH1]; exact I.a.app
  have c12:H1[H.length]? = some (some (.row (lg.c iv))):=by rw[eH1]; simp
  have lH1:H1.length=H.length+1:=by rw[eH1]; simp
  have i0:=s1.2 _ _ I.h0
  have i2:=s1.2 _ _ I.h2
  have i3:=s1.2 _ _ I.h3
  have i4:=s1.2 _ _ I.h4
  have hHl:=aD I.h4
  have c12':=c12
  have eH1':=eH1
  simp only[dV.c]at c12' eH1'
  obtain⟨w1,hw1⟩:∃w1,w1=cond lg.pump 0 wlo:=⟨_,rfl⟩
  obtain⟨w2,hw2⟩:∃w2,w2=cond lg.pump 0 whi:=⟨_,rfl⟩
  rw[←hw1,←hw2]at Ie
  obtain⟨b1,b2,b3,b4⟩:=I.b
  have b5:0≤w1∧w1≤20000*(j:Int):=by rw[hw1]; cases lg.pump<;>simp<;>omega
  have b6:0≤w2∧w2≤20000*(j:Int):=by rw[hw2]; cases lg.pump<;>simp<;>omega
  obtain⟨H2,eH2⟩:∃H2,H2=H1.set (h.length+4) (some (.row [.int .i64 w1,.int .i64 w2])):=⟨_,rfl⟩
  have lH2:H2.length=H.length+1:=by rw[eH2,List.length_set,lH1]
  have a2:PLs w0 [h.length+2,h.length+3,h.length+4] h H2 ov io rows pts:=by
   rw[eH2]; exact a1.set (by simp) fun z w=>by have:=I.i z; omega
  have g2:∀(i:Nat) b,i≠h.length+4→H1[i]? = some (some b)→H2[i]? = some (some b):=fun i b hi e=>by
   rw[eH2,qB (fun w=>hi w.symm)]; exact e
  have k4:H2[h.length+4]? = some (some (.row [.int .i64 w1,.int .i64 w2])):=by rw[eH2]; exact qF (aD i4)
  have k3:=g2 _ _ (by omega) i3
  have k12:=g2 _ _ (by omega) c12
  obtain⟨H3,eH3⟩:∃H3,H3=H2.set (h.length+3) (some (.row [.int .i64 (tlo+lg.fuel),.int .i64 (thi+lg.fuel)])):=⟨_,rfl⟩
  have lH3:H3.length=H.length+1:=by rw[eH3,List.length_set,lH2]
  have a3:PLs w0 [h.length+2,h.length+3,h.length+4] h H3 ov io rows pts:=by
   rw[eH3]; exact a2.set (by simp) fun z w=>by have:=I.i z; omega
  have g3:∀(i:Nat) b,i≠h.length+3→H2[i]? = some (some b)→H3[i]? = some (some b):=fun i b hi e=>by
   rw[eH3,qB (fun w=>hi w.symm)]; exact e
  have m3:H3[h.length+3]? = some (some (.row [.int .i64 (tlo+lg.fuel),.int .i64 (thi+lg.fuel)])):=by rw[eH3]; exact qF (aD k3)
  have m4:=g3 _ _ (by omega) k4
  have m12:=g3 _ _ (by omega) k12
  have m0:=g3 _ _ (by omega) (g2 _ _ (by omega) i0)
  have m2:=g3 _ _ (by omega) (g2 _ _ (by omega) i2)
  have Il:=I.l
  have ioH:=I.a.lt
  have cA:=add_c (lg:=lg) (ld:=false) (nb:=h.length+3) (pb:=h.length) (wb:=h.length+4) (ob:=h.length+2) (vi.sub a3.hsub) (by have:=lok.n; omega) lf hf m3 m0 m4 m2 (by simp) (fun i hi=>by simp at hi; omega) (by omega) (by omega) (by omega) (fun z=>⟨by have:=I.i z; simp; omega,by have:=I.i z; omega⟩) a3 (by omega)
  have fu:=lok.f
  have bu:=lok.b
  have le:=lok.k
  have q3:∀x,(H1.set (h.length+4) x)[h.length+3]? = some (some (.row [.int .i64 tlo,.int .i64 thi])):=fun x=>by rw[qB (by omega)]; exact i3
  have q12:∀x,(H1.set (h.length+4) x)[H.length]? = some (some (.row (lg.c iv))):=fun x=>by rw[qB (by omega)]; exact c12
  have z1:=cZ (n:=tlo+lg.fuel - lg.bhi) (by unfold I64; omega)
  have z2:=cZ (n:=thi+lg.fuel - lg.blo) (by unfold I64; omega)
  have fin3:∀x,H2.set (h.length+3) x=H2.set (h.length+3) x:=fun _=>rfl
  simp only[dV.c]at q12 m12 k12
  cases hpu:lg.pump
  case' false=>
   rw[hpu]at eH1' c12' q12 m12 k12
   have e2:H2=H1:=by rw[eH2,hw1,hw2,hpu]; exact pF i4
   rw[e2]at k12 k3 eH3
   simp only[go_sem,e1,i1,r7',hpu,oi.1,oi.2,←eH1',k12,k3,←eH3,m12]
  case' true=>
   rw[hpu]at eH1' c12' q12 m12 k12
   have e2:H1.set (h.length+4) (some (.row [.int .i64 0,.int .i64 0]))=H2:=by rw[eH2,hw1,hw2,hpu]; rfl
   simp only[go_sem,e1,i1,r7',hpu,oi.1,oi.2,←eH1',c12',i4,e2,k12,k3,←eH3,m12]
  all_goals
   have cA':=cA
   simp only[dV.c,hpu]at cA'
   refine⟨(by unfold I64; omega),(by unfold I64; omega),?_⟩
   refine aJ (ACall.vc (first:=[]) (args:=[_,_]) cA') ?_
   rintro yy G1 ⟨ov1,io1,rows1,f2,a4,f5,f6,kp⟩
   have n3:=kp _ _ (by omega) (fun z=>by have:=I.i z; omega) m3
   have n4:=kp _ _ (by omega) (fun z=>by have:=I.i z; omega) m4
   have n12:=kp _ _ (by omega) (fun z=>by have:=ioH z; omega) m12
   have n0:=kp _ _ (by omega) (fun z=>by have:=I.i z; omega) m0
   obtain⟨J2,eJ2⟩:∃J2,J2=G1.set (h.length+3) (some (Blk.row [AV.int .i64 (tlo+lg.fuel - lg.bhi),.int .i64 (thi+lg.fuel - lg.blo)])):=⟨_,rfl⟩
   obtain⟨J3,eJ3⟩:∃J3,J3=J2.set (h.length+4) (some (Blk.row [AV.int .i64 (w1+lg.llo),.int .i64 (w2+lg.lhi)])):=⟨_,rfl⟩
   have gJ2:∀(i:Nat) b,i≠h.length+3→G1[i]? = some (some b)→J2[i]? = some (some b):=fun i b hi e=>by rw[eJ2,qB (fun w=>hi w.symm)]; exact e
   have gJ3:∀(i:Nat) b,i≠h.length+4→J2[i]? = some (some b)→J3[i]? = some (some b):=fun i b hi e=>by rw[eJ3,qB (fun w=>hi w.symm)]; exact e
   have p4:=gJ2 _ _ (by omega) n4
   have p12:=gJ2 _ _ (by omega) n12
   have p3:J2[h.length+3]? = some (some (Blk.row [AV.int .i64 (tlo+lg.fuel - lg.bhi),.int .i64 (thi+lg.fuel - lg.blo)])):=by rw[eJ2]; exact qF (aD n3)
   have r3:=gJ3 _ _ (by omega) p3
   have r4:J3[h.length+4]? = some (some (Blk.row [AV.int .i64 (w1+lg.llo),.int .i64 (w2+lg.lhi)])):=by rw[eJ3]; exact qF (aD p4)
   have r12:=gJ3 _ _ (by omega) p12
   have r0:=gJ3 _ _ (by omega) (gJ2 _ _ (by omega) n0)
   have r2:=gJ3 _ _ (by omega) (gJ2 _ _ (by omega) f2)
   have a5:PLs w0 [h.length+2,h.length+3,h.length+4] h J2 ov1 io1 rows1 _:=eJ2▸a4.set (by simp) fun _=>by omega
   have a6:PLs w0 [h.length+2,h.length+3,h.length+4] h J3 ov1 io1 rows1 _:=eJ3▸a5.set (by simp) fun _=>by omega
   have lJ3:J3.length=G1.length:=by rw[eJ3,List.length_set,eJ2,List.length_set]
   have cB:=add_c (lg:=lg) (ld:=true) (nb:=h.length+3) (pb:=h.length) (wb:=h.length+4) (ob:=h.length+2) (vi.sub a6.hsub) (by have:=lok.n; omega) lf hf r3 r0 r4 r2 (by simp) (fun i hi=>by simp at hi; omega) (by omega) (by omega) (by omega) (fun _=>⟨by simp; omega,by omega⟩) a6 (by simp; omega)
   simp only[dV.c,hpu]at cB
   simp only[go_sem,n3,n12,z1,z2,←eJ2,p4,p12,←eJ3,r12]
   refine⟨(by unfold I64; omega),(by unfold I64; omega),?_⟩
   refine aJ (ACall.vc (first:=[]) (args:=[_,_]) cB) ?_
   rintro yy2 G2 ⟨ov2,io2,rows2,u2,a7,u5,u6,kp2⟩
   simp only[go_sem]
   have PI:PoI w0 h p cv sv fv (jA p legs lo hi 0 0) legs (j+1) G2 ov2 io2 rows2 (pts++[tW p lg (tlo+lg.fuel) (thi+lg.fuel) w1 w2 false]++[tW p lg (tlo+lg.fuel - lg.bhi) (thi+lg.fuel - lg.blo) (w1+lg.llo) (w2+lg.lhi) true]) (tlo+lg.fuel - lg.bhi) (thi+lg.fuel - lg.blo) (w1+lg.llo) (w2+lg.lhi):=by
    refine⟨a7,by simp; omega,?_,fun _=>by omega,?_,u2,?_,?_,?_⟩
    ·rw[←Ie]; simp
    ·exact kp2 _ _ (by omega) (fun _=>by omega) r0
    ·exact kp2 _ _ (by omega) (fun _=>by omega) r3
    ·exact kp2 _ _ (by omega) (fun _=>by omega) r4
    ·omega
   exact⟨(by unfold I64; omega),ih (G2,ov2,io2,rows2,_,tlo+lg.fuel - lg.bhi,thi+lg.fuel - lg.blo,w1+lg.llo,w2+lg.lhi) PI⟩
 ·rintro⟨H,ov,io,rows,pts,tlo,thi,wlo,whi⟩ I
  simp only at I ⊢
  refine aP [7,8,9,10,16,17,18] aKT.eq_1 ?_
  have e1:¬(legs.length:Int)<legs.length:=by omega
  have Ie:=I.e
  rw[List.drop_length,jA,List.append_nil]at Ie
  simp only[go_sem,e1,I.h2]
  refine⟨I.a.hsub,?_⟩
  rw[←Ie]
  refine⟨rows,I.a.l,I.a.g.sl (fun c hc=> ?_) I.a.l.symm (by decide),fun j x c hx hc=> ?_⟩
  ·obtain⟨i,hi,rfl⟩:=List.getElem_of_mem hc
   obtain⟨iv,wv,e,_⟩:=I.a.r i _ _ (qA (show i<pts.length by rw[←I.a.l]; exact hi)) (qA hi)
   rw[e]; rfl
  ·obtain⟨iv,wv,e,v⟩:=I.a.r j x c hx hc
   exact⟨iv,wv,e,v.sub (bD.trans mk_un)⟩
theorem aBx{n:Int}{l:dV}(h:mP n l=true):LegOK l∧∀i∈l.items,(0≤i.st∧i.st<n)∧(0≤i.lo∧i.lo≤20000)∧0≤i.hi∧i.hi≤20000:=by
 simp only[mP,zA,spB,inB,Bool.and_eq_true,decide_eq_true_eq,List.all_eq_true,aG6]at h
 obtain⟨⟨h1,h2⟩,h3,h4,h5⟩:=h
 refine⟨⟨h1,h3,by omega,by omega⟩,fun i hi=> ?_⟩
 have:=h2 i hi
 omega
theorem pt_ok{p:aZ}(hf:p.flo.length≤2):∀ {legs:List dV} {j:Int} {tlo thi wlo whi:Int},(∀l∈legs,mP p.sta.length l=true)→0≤j→j+legs.length≤6 →
 ((-20000*j≤tlo∧tlo≤20000*(j+1))∧(-20000*j≤thi∧thi≤20000*(j+1))∧(0≤wlo∧wlo≤20000*j)∧(0≤whi∧whi≤20000*j))→∀x∈jA p legs tlo thi wlo whi,tJ p x∧PtB x
 | [],_,_,_,_,_,_,_,_,_,x,hx=>by cases hx
 | l::r,j,tlo,thi,wlo,whi,hl,j0,j6,hb,x,hx=>by
  obtain⟨lok,li⟩:=aBx (hl l (by simp))
  have l1:=lok.f
  have l2:=lok.b
  have l3:=lok.k
  have b5:0≤cond l.pump 0 wlo∧cond l.pump 0 wlo≤20000*j:=by cases l.pump<;>simp<;>omega
  have b6:0≤cond l.pump 0 whi∧cond l.pump 0 whi≤20000*j:=by cases l.pump<;>simp<;>omega
  simp only[List.length_cons]at j6
  have one:∀ {a b c d:Int} {ld:Bool},(-200000≤a∧a≤200000)→(-200000≤b∧b≤200000)→(0≤c∧c≤200000)→(0≤d∧d≤200000)→tJ p (tW p l a b c d ld)∧PtB (tW p l a b c d ld):=fun {a b c d ld} h1 h2 h3 h4=>
   ⟨⟨lok.n,by simp[tW],hf,fun i hi=>(li i hi).1⟩,⟨h1,h2⟩,fun i hi=>(li i hi).2,fun w hw=>by
    have:=List.eq_of_mem_replicate (show w∈List.replicate p.flo.length (c,d)from hw)
    subst this; exact⟨h3,h4⟩⟩
  rw[jA,List.mem_cons,List.mem_cons]at hx
  rcases hx with rfl | rfl | hx
  ·exact one (by omega) (by omega) (by omega) (by omega)
  ·exact one (by omega) (by omega) (by omega) (by omega)
  ·exact pt_ok hf (j:=j+1) (fun x hx=>hl x (by simp[hx])) (by omega) (by omega) (by omega) x hx
theorem aIL{p:aZ}{legs:List dV}{lo hi:Int}(hf:p.flo.length≤2)(hl:∀l∈legs,mP p.sta.length l=true)(hn:legs.length≤6)(hlo:0≤lo∧lo≤20000)(hhi:0≤hi∧hi≤20000):∀x∈jA p legs lo hi 0 0,tJ p x∧PtB x:=
 pt_ok hf (j:=0) hl (by omega) (by omega) (by omega)
theorem vG{p:aZ}:∀ {legs:List dV} {a b c d:Int},(jA p legs a b c d).length=2*legs.length
 | [],_,_,_,_=>rfl
 | l::r,_,_,_,_=>by rw[jA,List.length_cons,List.length_cons,vG,List.length_cons]; omega
theorem aHW.at_{H:Heap}{v:AV}{l:List PtD}(s:aHW w0 H v l){j:Nat}(hj:j<l.length):∃(p:Pl) (iv wv:AV),cF 5 v (some j)=some (.ptr p)∧(∀L,rdn w0 (H++L) p 5=some (l[j].c iv wv))∧PtV w0 H l[j] iv wv:=by
 obtain⟨p,c,h1,h2,iv,wv,rfl,h3⟩:=NS.at_ s hj
 exact⟨p,iv,wv,h1,h2,h3⟩
theorem aHW.sub{G H:Heap}{v:AV}{l:List PtD}(s:aHW w0 G v l)(t:aB G H):aHW w0 H v l:=NS.mono s t fun _ _ ⟨iv,wv,e,a⟩=>⟨iv,wv,e,a.sub t⟩
def FirstK(b:Bool)(y:AV):Prop:=∃a r k:Int,y= .tup [.int .i64 a,.int .i64 r,.int .i64 k]∧(b=true→a= -1)∧(b=false→0≤a)
def iX(p:aZ)(legs:List dV)(lo hi:Int):Bool:=(jA p legs lo hi 0 0).all (rO p)
set_option maxRecDepth 20000 in
theorem aIc{p:aZ}{cv sv fv lv:AV}{legs:List dV}{lo hi:Int}(hp:jI w0 h p cv sv fv)(hl:lA w0 h lv legs)(hn:legs.length≤6)(hlb:∀l∈legs,mP p.sta.length l=true)(pb:kZ p)(hf:p.flo.length≤2)(hs:p.sta.length≤8)(hlo:0≤lo∧lo≤20000)(hhi:0≤hi∧hi≤20000) :
 ACall Tryz.prog w0 42 [.agg (p.c cv sv fv),.agg [.int .i64 lo,.int .i64 hi],lv] h fun y H=>aB h H∧FirstK (iX p legs lo hi) y:=by
 have o1:=hp.c.one
 have o2:=hp.s.one
 have o3:=hp.f.one
 have pok:=aIL hf hlb hn hlo hhi
 refine aO mf42_k fun hb ha=> ?_
 obtain⟨Q,hQ⟩:∃Q,Q=p.c cv sv fv:=⟨_,rfl⟩
 have hQ':=hQ
 simp only[aZ.c]at hQ'
 simp only[go_sem,mf42,o1.1,o1.2,o2.1,o2.2,o3.1,o3.2]
 rw[←hQ']
 have pc:=aCs (hp.sub (aB.refl.app (L:=[some (Blk.row Q),some (Blk.row [AV.int .i64 lo,.int .i64 hi])]))) (hl.sub aB.refl.app) hn (fun l hx=>(aBx (hlb l hx)).1) (by omega) hlo hhi
 rw[←hQ]at pc
 refine aJ (ACall.v3 pc) ?_
 rintro y H ⟨s1,pv⟩
 obtain⟨pts,hpts⟩:∃pts,pts=jA p legs lo hi 0 0:=⟨_,rfl⟩
 have tb:iX p legs lo hi=pts.all (rO p):=by rw[iX,hpts]
 have plen:pts.length=2*legs.length:=by rw[hpts,vG]
 rw[←hpts]at pv pok
 have ly:=pv.len
 have sh:aB h H:=aB.refl.app.trans s1
 have bQ:H[h.length]? = some (some (.row Q)):=s1.2 _ _ (by simp)
 simp only[go_sem,ly]
 refine bS (S:=Heap) (fun j _=>[(3,.ptr (.own h.length 0)),(16,y),(17,.int .i64 pts.length),(18,.int .i64 j)]) (fun _ s=>s) (fun j s=>aB H s∧(pts.take j).all (rO p)=true) pts.length H ⟨aB.refl,rfl⟩ rfl rfl ?_ ?_
 ·rintro j G hj ⟨sG,hall⟩ ih
  refine aP [3,16,17,18] aLi.eq_1 ?_
  have e1:(j:Int)<pts.length:=by omega
  obtain⟨q,iv,wv,i1,r1,ptv⟩:=(pv.sub sG).at_ hj
  obtain⟨x,hx⟩:∃x,x=pts[j]:=⟨_,rfl⟩
  rw[←hx]at r1 ptv
  have r1':=gT r1
  obtain⟨xo,xb⟩:=pok x (hx▸qG hj)
  have o4:=ptv.i.one
  have o5:=ptv.w.one
  have bG:=sG.2 _ _ bQ
  have bGL:∀L,(G++L:Heap)[h.length]? = _:=fun L=>aA (k:=L) bG
  rw[hQ]at bGL
  simp only[aZ.c]at bGL
  have bc:=aKb (hp.sub ((sh.trans sG).app (L:=[some (Blk.row (x.c iv wv))]))) (ptv.sub aB.refl.app) xo pb xb (by omega)
  simp only[aZ.c,PtD.c,List.cons_append,List.nil_append]at bc
  simp only[go_sem,e1,i1,r1',o1.1,o1.2,o2.1,o2.2,o3.1,o3.2,o4.1,o4.2,o5.1,o5.2,bGL]
  refine aJ (ACall.v1 bc) ?_
  rintro z G1 ⟨sG1,r,k,rfl,hr⟩
  have sGG:aB G G1:=aB.refl.app.trans sG1
  have tk:(pts.take (j+1)).all (rO p)=((pts.take j).all (rO p)&&rO p x):=by rw[List.take_succ_eq_append_getElem hj,List.all_append,hx]; simp
  by_cases hr1:r=1
  ·have hr1':(r != 1)=false:=by rw[hr1]; rfl
   simp only[go_sem,hr1']
   exact⟨(by unfold I64; omega),ih G1 ⟨sG.trans sGG,by rw[tk,hall,hr.2 hr1]; rfl⟩⟩
  ·have hr1':(r != 1)=true:=by simpa using hr1
   simp only[go_sem,hr1']
   have nb:iX p legs lo hi=false:=by
    rw[tb]
    refine List.all_eq_false.2 ⟨x,hx▸qG hj,fun w=>hr1 (hr.1 w)⟩
   exact⟨(sh.trans sG).trans sGG,j,r,k,rfl,fun w=>(by rw[nb]at w; cases w),fun _=>by omega⟩
 ·rintro G ⟨sG,hall⟩
  refine aP [3,16,17,18] aLi.eq_1 ?_
  have e1:¬(pts.length:Int)<pts.length:=by omega
  rw[List.take_length]at hall
  simp only[go_sem,e1]
  exact⟨sh.trans sG,-1,1,0,rfl,fun _=>rfl,fun w=>by rw[tb,hall]at w; cases w⟩
theorem Gro.many{H:Heap}{es b n:Nat}{ov y:AV}{vs:List AV}{rows:List (List AV)}(g:Gro h H es n ov vs)(s:SlZ w0 H es y rows)(ho:∀c∈rows,c.all one=true)(he:∀c∈rows,c.length=es)(hb:b≤1000000)(hn:n+rows.length≤1000000) :
 ∃ov' G,eD w0 H es b ov y=some (ov',G)∧Gro h G es (n+rows.length) ov' (vs++rows.flatten):=by
 by_cases hx:rows=[]
 ·subst hx
  refine⟨ov,H,?_,by simpa using g⟩
  simp only[eD,s.e rfl,Option.bind_some,if_true]
  rcases g.own with⟨_,rfl,_⟩ | ⟨io,_,_,rfl,_⟩<;>rfl
 ·have fl:∀r:List (List AV),(∀c∈r,c.length=es)→r.flatten.length=r.length*es:=fun r=>by
   induction r with
   | nil=>simp
   | cons c r ih=>intro h; rw[List.flatten_cons,List.length_append,h c (by simp),ih fun x hx=>h x (by simp[hx]),List.length_cons,Nat.succ_mul]; omega
  have hne:rows.length≠0:=fun e=>hx (List.eq_nil_of_length_eq_zero e)
  rcases g.own with⟨g1,g2,g3⟩ | ⟨io,g1,g2,g3,g4,g5⟩
  ·subst g2 g3
   have:=aDj (w0:=w0) (b:=b) s.s hx ho hb (by omega)
   refine⟨_,_,this,⟨g.sub.app,.inr ⟨H.length,g.sub.1,by omega,by rw[g1,Nat.zero_add],by simp,?_⟩⟩⟩
   rw[List.nil_append,fl rows he,g1,Nat.zero_add]
  ·rcases s.s with⟨s1,s2⟩ | ⟨q,full,s1,s2,s3⟩
   ·exact absurd s2 hx
   obtain⟨es',rfl,hes⟩:=s1
   have hr2:=Sl.all hx s3
   have hsz:(n+rows.length)*(b+1)≤2^40:=Nat.le_trans (Nat.mul_le_mul hn (show b+1≤1000001 by omega)) (by decide)
   have ho2:rows.flatten.all one=true:=by
    rw[List.all_eq_true]; intro x hx
    obtain⟨c,hc,hx⟩:=List.mem_flatten.1 hx
    exact List.all_eq_true.1 (ho c hc) x hx
   have rv:rdn w0 H (.own io 0) (n*es)=some vs:=by
    simp only[rdn,g4]
    rw[if_pos (by omega),List.drop_zero,List.take_of_length_le (by omega)]
   subst g3
   refine⟨.sl (.own H.length 0) (n+rows.length) es false,H.set io none++[some (.row (vs++rows.flatten))],?_,?_⟩
   ·simp only[eD,srcOf,hes,if_true,hr2,Option.map_some,Option.bind_some]
    rw[if_neg hne,if_pos ⟨by simp[fH],hsz,ho2⟩]
    simp only[Bool.false_eq_true,if_false,rv,Option.bind_some]
   ·refine⟨⟨by simp; have:=g.sub.1; omega,fun i c e=> ?_⟩,.inr ⟨H.length,g.sub.1,by omega,rfl,?_,?_⟩⟩
    ·have hi:=aD e
     exact aA (by rw[qB (by omega)]; exact g.sub.2 _ _ e)
    ·rw[qI (by simp)]; simp
    ·rw[List.length_append,fl rows he,g5,Nat.add_mul]
theorem Gro.hs{H H2:Heap}{es n:Nat}{ov:AV}{vs:List AV}(g:Gro h H es n ov vs)(s:aB H H2):Gro h H2 es n ov vs:=by
 refine⟨g.sub.trans s,?_⟩
 rcases g.own with g1 | ⟨io,g1,g2,g3,g4,g5⟩
 ·exact .inl g1
 ·exact .inr ⟨io,g1,g2,g3,s.2 _ _ g4,g5⟩
def bF(p:aZ)(legs:List dV)(n:Int):List Bool:=(jA p legs n n 0 0).flatMap fun x=>(cP p x).flatten
theorem aKf{l:List Bool}:(l.map fun b=>[AV.bool b]).flatten=l.map AV.bool:=by
 induction l with
 | nil=>rfl
 | cons b l ih=>rw[List.map_cons,List.flatten_cons,ih]; rfl
theorem aAs{p:aZ}{x:PtD}(ok:tJ p x)(pb:kZ p)(hs:p.sta.length≤1000)(i:Nat):((cP p x).take i).flatten.length≤1000*i:=by
 induction i with
 | zero=>simp
 | succ i ih=>
  by_cases hi:i<(cP p x).length
  ·rw[List.take_succ_eq_append_getElem hi,List.flatten_append,List.length_append]
   have:=sC ok pb hs _ (qG hi)
   simp only[List.flatten_cons,List.flatten_nil,List.append_nil]; omega
  ·rw[List.take_of_length_le (by omega)]at ih ⊢; omega
set_option maxRecDepth 20000 in
theorem zR{p:aZ}{cv sv fv lv:AV}{legs:List dV}{n:Int}(hp:jI w0 h p cv sv fv)(hl:lA w0 h lv legs)(hn:legs.length≤6)(hlb:∀l∈legs,mP p.sta.length l=true)(pb:kZ p)(hf:p.flo.length≤2)(hs:p.sta.length≤8)(hn1:0≤n∧n≤20000) :
 ACall Tryz.prog w0 39 [.agg (p.c cv sv fv),lv,.int .i64 n] h fun y H=>aB h H∧qP w0 H y (bF p legs n):=by
 have o1:=hp.c.one
 have o2:=hp.s.one
 have o3:=hp.f.one
 have pok:=aIL hf hlb hn hn1 hn1
 refine aO mf39_k fun hb ha=> ?_
 obtain⟨Q,hQ⟩:∃Q,Q=p.c cv sv fv:=⟨_,rfl⟩
 have hQ':=hQ
 simp only[aZ.c]at hQ'
 simp only[go_sem,mf39,o1.1,o1.2,o2.1,o2.2,o3.1,o3.2]
 rw[←hQ']
 have pc:=aCs (hp.sub (aB.refl.app (L:=[some (Blk.row Q)]))) (hl.sub aB.refl.app) hn (fun l hx=>(aBx (hlb l hx)).1) (by omega) hn1 hn1
 rw[←hQ]at pc
 refine aJ (ACall.v3 pc) ?_
 rintro y H ⟨s1,pv⟩
 obtain⟨pts,hpts⟩:∃pts,pts=jA p legs n n 0 0:=⟨_,rfl⟩
 have plen:pts.length=2*legs.length:=by rw[hpts,vG]
 rw[←hpts]at pv pok
 have ly:=pv.len
 have sh:aB h H:=aB.refl.app.trans s1
 have bQ:H[h.length]? = some (some (.row Q)):=s1.2 _ _ (by simp)
 have flm:∀j,((pts.take j).flatMap fun x=>(cP p x).flatten).length≤6000*j:=fun j=>by
  induction j with
  | zero=>simp
  | succ j ih=>
   by_cases hj:j<pts.length
   ·rw[List.take_succ_eq_append_getElem hj,List.flatMap_append,List.length_append]
    have:=aAs (pok _ (qG hj)).1 pb (by omega) 6
    rw[List.take_of_length_le (by simp[cP])]at this
    simp only[List.flatMap_cons,List.flatMap_nil,List.append_nil]; omega
   ·rw[List.take_of_length_le (by omega)]at ih ⊢; omega
 simp only[go_sem,ly]
 refine bS (S:=Heap×AV) (fun j s=>[(3,.ptr (.own h.length 0)),(7,s.2),(17,y),(18,.int .i64 pts.length),(19,.int .i64 j)]) (fun _ s=>s.1) (fun j s=>Gro H s.1 1 ((pts.take j).flatMap fun x=>(cP p x).flatten).length s.2 (((pts.take j).flatMap fun x=>(cP p x).flatten).map AV.bool)) pts.length (H,.nilS) (Gro.nil aB.refl) rfl rfl ?_ ?_
 ·rintro j ⟨G,ov⟩ hj g ih
  simp only at g ih ⊢
  refine aP [3,7,17,18,19] aLj.eq_1 ?_
  have e1:(j:Int)<pts.length:=by omega
  have sG:=g.sub
  obtain⟨q,iv,wv,i1,r1,ptv⟩:=pv.at_ hj
  obtain⟨x,hx⟩:∃x,x=pts[j]:=⟨_,rfl⟩
  rw[←hx]at r1 ptv
  have r1':=sG.rdn (gT r1)
  obtain⟨xo,xb⟩:=pok x (hx▸qG hj)
  have o4:=ptv.i.one
  have o5:=ptv.w.one
  have bG:=sG.2 _ _ bQ
  have bGL:∀L,(G++L:Heap)[h.length]? = _:=fun L=>aA (k:=L) bG
  rw[hQ]at bGL
  simp only[aZ.c]at bGL
  have fl1:=flm j
  have tk:((pts.take (j+1)).flatMap fun x=>(cP p x).flatten)=((pts.take j).flatMap fun x=>(cP p x).flatten)++(cP p x).flatten:=by
   rw[List.take_succ_eq_append_getElem hj,List.flatMap_append,←hx]; simp
  rw[tk]at ih
  obtain⟨D,hD⟩:∃D,D=((pts.take j).flatMap fun x=>(cP p x).flatten):=⟨_,rfl⟩
  rw[←hD]at g ih fl1
  obtain⟨R,hR⟩:∃R,R=p.c cv sv fv++x.c iv wv:=⟨_,rfl⟩
  have hpG:=(hp.sub ((sh.trans sG).app (L:=[some (Blk.row (x.c iv wv))])))
  have hxG:=(ptv.sub sG).sub (aB.refl.app (L:=[some (Blk.row (x.c iv wv))]))
  have rc:=aFA hpG hxG
  rw[←hR]at rc
  have hR':=hR
  simp only[aZ.c,PtD.c,List.cons_append,List.nil_append]at hR' rc
  simp only[go_sem,e1,i1,r1',o1.1,o1.2,o2.1,o2.2,o3.1,o3.2,o4.1,o4.2,o5.1,o5.2,bGL]
  rw[←hR']
  refine aC rc.v ?_
  simp only[go_sem]
  have g0:Gro H (G++[some (Blk.row (x.c iv wv))]) 1 D.length ov (D.map AV.bool):=g.app
  simp only[PtD.c]at g0
  refine bS (S:=Heap×AV) (fun i s=>[(3,.ptr (.own h.length 0)),(7,s.2),(17,y),(18,.int .i64 pts.length),(19,.int .i64 j),(27,.agg (kP R)),(28,.int .i64 i)]) (fun _ s=>s.1) (fun i s=>Gro H s.1 1 (D.length+((cP p x).take i).flatten.length) s.2 ((D++((cP p x).take i).flatten).map AV.bool)) 6 (_,ov) (by simpa using g0) rfl rfl ?_ ?_
  ·rintro i ⟨F,ov1⟩ hi g1 ih2
   simp only at g1 ih2 ⊢
   refine aP [3,7,17,18,19,27,28] aLk.eq_1 ?_
   have e2:(i:Int)<6:=by omega
   have i6:i<6:=hi
   have h6:i<(cP p x).length:=hi
   have sAll:=sh.trans g1.sub
   have cc:=aIA (f:=0) (hp.sub sAll) (ptv.sub g1.sub) xo pb xb (by omega) hi
   rw[←hR]at cc
   obtain⟨rv,hrv⟩:∃rv,rv=(kP R).getD i .undef:=⟨_,rfl⟩
   have hr:(kP R)[i*1]? = some rv:=by
    rw[Nat.mul_one,hrv,List.getD_eq_getElem?_getD,qA (by simpa[kP,aA5]using hi)]; rfl
   obtain⟨lst,hl2⟩:∃lst,lst=(cP p x).getD i []:=⟨_,rfl⟩
   rw[←hrv,←hl2]at cc
   rw[aE h6]at hl2
   have hll:=sC xo pb (by omega) lst (hl2▸qG h6)
   have tk2:((cP p x).take (i+1)).flatten=((cP p x).take i).flatten++lst:=by
    rw[List.take_succ_eq_append_getElem h6,List.flatten_append,←hl2]; simp
   have fl2:=aAs xo pb (by omega) i
   simp only[go_sem,e2,i6,hr]
   refine aJ cc ?_
   rintro z F1 ⟨sF1,bv⟩
   obtain⟨ov2,F2,ap,g2⟩:=(g1.hs sF1).many (b:=1) bv (fun c hc=>by obtain⟨b,_,rfl⟩:=List.mem_map.1 hc; rfl) (fun c hc=>by obtain⟨b,_,rfl⟩:=List.mem_map.1 hc; rfl) (by omega) (by rw[List.length_map]; omega)
   simp only[go_sem,ap]
   rw[List.length_map,aKf]at g2
   refine⟨(by unfold I64; omega),ih2 (F2,ov2) ?_⟩
   rw[tk2,List.length_append,←List.append_assoc,←Nat.add_assoc,List.map_append]
   exact g2
  ·rintro⟨F,ov1⟩ g1
   simp only at g1 ⊢
   refine aP [3,7,17,18,19,27,28] aLk.eq_1 ?_
   have e2:¬((6:Nat):Int)<6:=by omega
   rw[show(cP p x).take 6=cP p x from rfl]at g1
   simp only[go_sem,e2]
   refine⟨(by unfold I64; omega),ih (F,ov1) ?_⟩
   rw[List.length_append]
   exact g1
 ·rintro⟨G,ov⟩ g
  simp only at g ⊢
  refine aP [3,7,17,18,19] aLj.eq_1 ?_
  have e1:¬(pts.length:Int)<pts.length:=by omega
  rw[List.take_length]at g
  simp only[go_sem,e1]
  refine⟨sh.trans g.sub,?_⟩
  rw[bF,←hpts]
  exact g.boo rfl
theorem tX{p:aZ}(h:qU p=true):kZ p∧p.sta.length≤8∧p.flo.length≤2∧(inB p.empty 1 20000=true∧inB p.moment (-20000000) 20000000=true∧inB p.takeoff 0 20000=true∧inB p.landing 0 20000=true∧inB p.reserve 0 20000=true∧inB p.cor.length 3 12=true)∧p.sta.all rJ=true∧p.flo.all rJ=true∧p.cor.all aEq=true∧aJ0 p.cor=true:=by
 simp only[qU,headB,Bool.and_eq_true,decide_eq_true_eq]at h
 obtain⟨⟨h1,h2,h3,h4,h5,h6,h7,h8,h9⟩,k1,k2,k3,k4⟩:=h
 refine⟨⟨?_,?_,?_,fun c hc=>List.all_eq_true.1 k3 c hc,fun x hx=>List.all_eq_true.1 k1 x hx,fun x hx=>List.all_eq_true.1 k2 x hx,h8⟩,h7,h9,⟨h1,h2,h3,h4,h5,h6⟩,k1,k2,k3,k4⟩
 ·simp only[inB,Bool.and_eq_true,decide_eq_true_eq]at h1; omega
 ·simp only[inB,Bool.and_eq_true,decide_eq_true_eq]at h2; omega
 ·simp only[inB,Bool.and_eq_true,decide_eq_true_eq]at h6; omega
set_option maxRecDepth 20000 in
theorem aJY{p:aZ}{cv sv fv:AV}(hp:jI w0 h p cv sv fv)(pb:kZ p)(hc:aJ0 p.cor=true):aK Tryz.prog w0 154 [.agg (p.c cv sv fv)] h (.bool true) h:=by
 refine cJ (by simp[AV.bdd]) (aO aM2 fun hb ha=> ?_)
 have o1:=hp.c.one
 have o2:=hp.s.one
 have o3:=hp.f.one
 have pn:=pb.n
 obtain⟨Q,hQ⟩:∃Q,Q=p.c cv sv fv:=⟨_,rfl⟩
 have hQ':=hQ
 simp only[aZ.c]at hQ'
 simp only[go_sem,mf154,o1.1,o1.2,o2.1,o2.2,o3.1,o3.2]
 refine aJ (ACall.v1 (aF6 (hp.sub aB.refl.app))) ?_
 rintro y H ⟨rfl,rfl⟩
 simp only[go_sem]
 refine lD [1,2,7] ?_
 simp only[go_sem]
 refine oE (fid:=188) (first:=[]) rfl (.inl rfl) fun hca hcb hps=> ?_
 simp only[go_sem]
 obtain⟨N,eN⟩:∃N,N=h.length:=⟨_,rfl⟩
 rw[←eN]
 obtain⟨FR,hFR⟩:∃FR:Fr,FR=[(1,AV.ptr (Pl.own N 0)),(2,AV.ptr (Pl.own (N+1) 0)),(7,AV.fn (Fn.func 188) [] [AV.ptr (Pl.own (N+2) 0)])]:=⟨_,rfl⟩
 obtain⟨LB,hLB⟩:∃LB:LoopState→Option Code→Blk,LB=Blk.loop 44 FR #[8] (aV (bJ 154) [1,0,1,0,0]) (aV (bJ 154) [1,0,1,0,1]):=⟨_,rfl⟩
 rw[←hFR,←hLB,←hQ']
 obtain⟨C,eC⟩:∃C,C=[N+3]:=⟨_,rfl⟩
 obtain⟨G0,eG0⟩:∃G0:Heap,G0=h++[some (.row Q),some (.row [.bool false]),some (.row Q),some (LB .ready none)]:=⟨_,rfl⟩
 obtain⟨B,eB⟩:∃B,B=msk C G0:=⟨_,rfl⟩
 have lG:G0.length=N+4:=by rw[eG0,eN]; simp
 have lB:B.length=N+4:=by rw[eB,cD,lG]
 have hm:aB h B:=by
  rw[eB,eG0]
  refine⟨by rw[cD]; simp,fun i b e=> ?_⟩
  have:=aD e
  rw[aT (by rw[eC]; simp; omega)]; exact aA e
 have hB0:B[N]? = some (some (.row Q)):=by
  rw[eB,aT (by rw[eC]; simp),eG0,eN,qI (by omega)]; simp
 have hB1:B[N+1]? = some (some (.row [.bool false])):=by
  rw[eB,aT (by rw[eC]; simp),eG0,eN,qI (by omega)]; simp
 have hB2:B[N+2]? = some (some (.row Q)):=by
  rw[eB,aT (by rw[eC]; simp),eG0,eN,qI (by omega)]; simp
 rw[←eG0]
 refine ACall.mono (aAO (B:=B) (J:=fun r H=>aB B H∧H[N+3]? = some (some (LB .ready none))) (Kx:=fun _=>False) (by rw[←hQ]; exact hB2) (hp.sub hm) ⟨by omega,by omega⟩ pb.c ?_ ?_ ?_ ?_) ?_
 ·rintro r H ⟨s,_⟩; exact s
 ·rintro r H L ⟨s,j⟩; exact⟨s.app,aA j⟩
 ·rintro e r H he ⟨sB,j2⟩
  have f3':=j2
  rw[hLB]at f3'
  have q3:=aD j2
  refine hE (psl:=[8]) dE rfl aHR aHQ aBS.eq_1 aBR.eq_1 f3' rfl hps hca hcb fun hb2 ha2=> ?_
  have f3a:∀L,(H++L)[N+3]? = _:=fun L=>aA (k:=L) f3'
  obtain⟨LY,hLY⟩:∃b,b=Blk.loop 44 [(1,AV.ptr (Pl.own N 0)),(2,AV.ptr (Pl.own (N+1) 0)),(7,AV.fn (Fn.func 188) [] [AV.ptr (Pl.own (N+2) 0)])] #[8] (aV (bJ 154) [1,0,1,0,0]) (aV (bJ 154) [1,0,1,0,1]) LoopState.busy none:=⟨_,rfl⟩
  obtain⟨ed,hed⟩:∃ed,ed=uT p.cor e:=⟨_,rfl⟩
  have hed':=hed
  rw[uT]at hed'
  obtain⟨Y,eY⟩:∃Y,Y=(H++[some (Blk.row ed)]).set (N+3) (some LY):=⟨_,rfl⟩
  have lY:Y.length=H.length+1:=by rw[eY]; simp
  have old:∀(i:Nat) b,i≠N+3→H[i]? = some (some b)→Y[i]? = some (some b):=fun i b hi e=>by
   rw[eY,qB (fun e=>hi e.symm)]; exact aA e
  have kB:B[N+3]? = some none:=by rw[eB]; exact lT (by rw[eC]; simp) (by omega)
  have sBY:aB B Y:=⟨by have:=sB.1; omega,fun i b e=>old i b (fun w=>by subst w; rw[kB]at e; cases e) (sB.2 _ _ e)⟩
  have y3:Y[N+3]? = some (some LY):=by rw[eY,qF (by simp; omega)]
  have y4:Y[H.length]? = some (some (.row ed)):=by
   rw[eY,qB (by omega),qI (Nat.le_refl _),Nat.sub_self]; rfl
  have y0:=sBY.2 _ _ hB0
  rw[hQ']at y0
  have lc:dA cv=some (.int .i64 p.cor.length):=by have:=hp.c.use.1; rwa [List.length_map]at this
  simp only[go_sem,f3a,hFR]
  rw[←hLY,←hed',←eY]
  simp only[go_sem,y0,lc]
  refine bS (S:=Heap) (fun k _=>[(1,.ptr (.own N 0)),(2,.ptr (.own (N+1) 0)),(3,.ptr (.own H.length 0)),(11,cv),(12,.int .i64 p.cor.length),(13,.int .i64 k)]) (fun _ s=>s) (fun k s=>aB Y s) p.cor.length Y aB.refl rfl rfl ?_ ?_
  ·rintro k F hk sF ih
   refine aP [1,2,3,11,12,13] aE4.eq_1 ?_
   have e1:(k:Int)<p.cor.length:=by omega
   have sAll:=hm.trans (sBY.trans sF)
   obtain⟨_,q4,ix,row,_⟩:=(hp.sub sAll).c.use
   rw[List.length_map]at ix
   have r1':=gT (tE row hk)
   have z0:=sF.2 _ _ y0
   have z4:=sF.2 _ _ y4
   rw[hed']at z4
   have z0L:∀L,(F++L:Heap)[N]? = _:=fun L=>aA (k:=L) z0
   have z4L:∀L,(F++L:Heap)[H.length]? = _:=fun L=>aA (k:=L) z4
   have n0:¬(p.cor.length:Int)=0:=by omega
   have em:((e:Int)+1).tmod p.cor.length=(((e+1) % p.cor.length:Nat):Int):=aB8 (e+1) p.cor.length
   have cb:=pb.c _ (qG hk)
   simp only[aEq,inB,Bool.and_eq_true,decide_eq_true_eq]at cb
   have cE:=bZ.1 (bZ.1 hc e he) k hk
   by_cases q1:k=e
   ·have q1':((k:Int)!=(e:Int))=false:=by rw[q1]; simp
    simp only[go_sem,e1,ix k hk,r1',z4L,q1']
    exact⟨(by unfold I64; omega),ih _ (sF.app)⟩
   have q1':((k:Int)!=(e:Int))=true:=by simp; omega
   by_cases q2:k=(e+1) % p.cor.length
   ·have q2':((k:Int)!=(((e+1) % p.cor.length:Nat):Int))=false:=by rw[←q2]; simp
    simp only[go_sem,e1,ix k hk,r1',z4L,z0L,q1',lc,n0,em,q2']
    exact⟨(by unfold I64; omega),(by unfold I64; omega),ih _ (sF.app)⟩
   have q2':((k:Int)!=(((e+1) % p.cor.length:Nat):Int))=true:=by simp only[bne_iff_ne,ne_eq]; omega
   have q3:¬mT p.cor e p.cor[k].w p.cor[k].m≤0:=fun w=>by
    rw[convE,aE hk,decide_eq_true q1,decide_eq_true q2,decide_eq_true w]at cE; cases cE
   have ls:=aFO (w0:=w0) (h:=F++[some (Blk.row p.cor[k].c)]) (l:=p.cor) (e:=e) (w:=p.cor[k].w) (m:=p.cor[k].m) pb.c ⟨by omega,by omega⟩
   simp only[uT,gW.c]at ls
   simp only[go_sem,e1,ix k hk,r1',z4L,z0L,q1',lc,n0,em,q2']
   refine⟨(by unfold I64; omega),?_⟩
   refine aC ls.v ?_
   simp only[go_sem,q3]
   exact⟨(by unfold I64; omega),ih _ (sF.app)⟩
  ·rintro F sF
   refine aP [1,2,3,11,12,13] aE4.eq_1 ?_
   have e1:¬(p.cor.length:Int)<p.cor.length:=by omega
   have z3:=sF.2 _ _ y3
   simp only[go_sem,e1,z3]
   refine⟨⟨_,_,by rw[hLY]⟩,.inl ⟨?_,?_⟩⟩
   ·have s2:=sBY.trans sF
    exact⟨by rw[List.length_set]; exact s2.1,fun i b e=>by rw[qB (fun w=>by subst w; rw[kB]at e; cases e)]; exact s2.2 _ _ e⟩
   ·rw[qF (aD z3),hLB,hFR]
 ·refine⟨by rw[eB]; exact bD,?_⟩
  rw[eG0,eN,qI (by omega)]; simp
 ·rintro _ H (⟨sB,j2⟩ | hf)
  rotate_left
  ·exact hf.elim
  have f3':=j2
  rw[hLB,hFR]at f3'
  obtain⟨X,eX⟩:∃X,X=H.set (N+3) none:=⟨_,rfl⟩
  have x1:X[N+1]? = some (some (.row [.bool false])):=by rw[eX,qB (by omega)]; exact sB.2 _ _ hB1
  have x2:∀b,(X.set (N+1) b)[N+1]? = some b:=fun b=>qF (aD x1)
  simp only[f3',←eX,hFR]
  simp only[go_sem,x1,x2]
  rw[eX]
  exact((hm.trans sB).setR (by omega)).setR (by omega)
theorem aBa{H:Heap}{b:Nat}{l:List Int}{f:Bool}(hb:H[b]? = some (some (.row (aN l)))):SlI w0 H (.sl (.own b 0) l.length 1 f) l:=by
 have:=fY (w0:=w0) (es:=1) (full:=f) (rows:=l.map fun z=>[AV.int .i64 z]) (by rw[←fQ]; exact hb) (fun c hc=>by obtain⟨z,_,rfl⟩:=List.mem_map.1 hc; rfl)
 rwa [List.length_map]at this
theorem aH6{c:gW}(hc:aEq c=true):aK Tryz.prog w0 150 [.agg c.c] h (.bool true) h:=by
 simp only[aEq,Bool.and_eq_true]at hc
 simp only[gW.c]
 refine aM aM6 fun hb ha=> ?_
 simp only[go_sem,mf150]
 refine aC (yX (l:=[c.w]) (aBa (by simp[aN])) (by simp)).v ?_
 rw[show([c.w].all fun n=>inB n 0 20000)=true by simp[hc.1]]
 simp only[go_sem]
 refine aC (wH c.m (-20000000) 20000000).v ?_
 rw[hc.2]
 simp only[go_sem]
set_option maxRecDepth 20000 in
theorem aLW{p:aZ}{cv sv fv:AV}(hp:jI w0 h p cv sv fv)(hv:qU p=true):aK Tryz.prog w0 80 [.agg (p.c cv sv fv)] h (.bool true) h:=by
 obtain⟨pb,ps,pf,⟨k1,k2,k3,k4,k5,k6⟩,l1,l2,l3,l4⟩:=tX hv
 have o1:=hp.c.one
 have o2:=hp.s.one
 have o3:=hp.f.one
 have lc:dA cv=some (.int .i64 p.cor.length):=by have:=hp.c.use.1; rwa [List.length_map]at this
 have ls:dA sv=some (.int .i64 p.sta.length):=by have:=hp.s.use.1; rwa [List.length_map]at this
 have lf:dA fv=some (.int .i64 p.flo.length):=by have:=hp.f.use.1; rwa [List.length_map]at this
 have pn:=pb.n
 have allT:p.cor.all (fun _=>true)=true:=List.all_eq_true.2 fun _ _=>rfl
 simp only[aZ.c]
 refine aM mf80_k fun hb ha=> ?_
 have bx:∀L,(h++some (Blk.row (p.c cv sv fv))::L:Heap)[h.length]? = some (some (.row (p.c cv sv fv))):=fun L=>by rw[qI (Nat.le_refl _),Nat.sub_self]; rfl
 simp only[aZ.c]at bx
 simp only[go_sem,mf80,o1.1,o1.2,o2.1,o2.2,o3.1,o3.2]
 refine aC (aKr (p:=fun _=>true) (hp.c.sub aB.refl.app) (by omega) fun x hx H _=>(aH6 (List.all_eq_true.1 l3 x hx)).v).v ?_
 rw[allT]
 simp only[go_sem,bx]
 refine aC (wH p.empty 1 20000).v ?_
 rw[k1]
 simp only[go_sem,bx]
 refine aC (wH p.moment (-20000000) 20000000).v ?_
 rw[k2]
 simp only[go_sem,bx]
 refine aC (yX (l:=[p.takeoff,p.landing,p.reserve]) (aBa (by simp[aN])) (by simp)).v ?_
 rw[show([p.takeoff,p.landing,p.reserve].all fun n=>inB n 0 20000)=true by simp[k3,k4,k5]]
 simp only[go_sem,bx,lc]
 refine aC (wH p.cor.length 3 12).v ?_
 rw[k6]
 have e1:(p.sta.length:Int)≤8:=by omega
 have e2:(p.flo.length:Int)≤2:=by omega
 simp only[go_sem,bx,ls,lf,e1,e2]
 refine aC (aDl (p:=rJ) (hp.s.sub aB.refl.app) (by omega) fun x hx H _=>(aD6 x).v).v ?_
 rw[l1]
 simp only[go_sem,bx]
 refine aC (aD6 p.tank).v ?_
 rw[pb.t]
 simp only[go_sem,bx]
 refine aC (aDl (p:=rJ) (hp.f.sub aB.refl.app) (by omega) fun x hx H _=>(aD6 x).v).v ?_
 rw[l2]
 simp only[go_sem,bx]
 refine aC (aJY (hp.sub aB.refl.app) pb l4).v ?_
 simp only[go_sem]
theorem aJp{n:Int}{x:iF}{q:Pl}(hq:rd w0 h q=some (.int .i64 n))(hn:0≤n∧n≤1000000):aK Tryz.prog w0 175 [.agg x.c,.ptr q] h (.bool (aG6 n x)) h:=by
 simp only[iF.c]
 refine aM aMI fun hb ha=> ?_
 have e1:∀L,rd w0 (h++L) q=some (.int .i64 n):=fun L=>fT hq
 have z:=cZ (n:=n - 1) (by unfold I64; omega)
 simp only[go_sem,mf175,e1,z]
 refine aC (wH x.st 0 (n - 1)).v ?_
 cases c1:inB x.st 0 (n - 1)
 ·simp only[go_sem]
  rw[aG6,c1]; rfl
 ·simp only[go_sem]
  refine aC (xP x.lo x.hi 0 20000).v ?_
  simp only[go_sem]
  rw[aG6,c1]; rfl
theorem aNT{n:Int}{l:List iF}{v:AV}(hv:Sl w0 h 3 v (l.map iF.c))(hn:0≤n∧n≤1000000)(hl:l.length<1000000000000):aK Tryz.prog w0 146 [v,.int .i64 n] h (.bool (zA n l)) h:=by
 have ln:dA v=some (.int .i64 l.length):=by have:=hv.use.1; rwa [List.length_map]at this
 refine aM aNa fun hb ha=> ?_
 by_cases c1:l.length≤12
 ·have c1':(l.length:Int)≤12:=by omega
  simp only[go_sem,aI7,ln,c1']
  refine aC (aKq (p:=aG6 n) (hv.sub aB.refl.app) hl fun x hx H sH=> @aK.vc _ _ _ [] [_] [_] _ _ _ (aJp (q:= .own h.length 0) (sH.rd (by simp[rd])) hn)).v ?_
  simp only[go_sem]
  rw[zA,decide_eq_true c1]; rfl
 ·have c1':¬(l.length:Int)≤12:=by omega
  simp only[go_sem,aI7,ln,c1']
  rw[zA,decide_eq_false c1]; rfl
theorem aLY{n:Int}{x:dV}{iv:AV}{q:Pl}(hv:SlZ w0 h 3 iv (x.items.map iF.c))(hq:rd w0 h q=some (.int .i64 n))(hn:0≤n∧n≤1000000)(hbb:mP n x=true):aK Tryz.prog w0 145 [.agg (x.c iv),.ptr q] h (.bool true) h:=by
 have oi:=hv.s.one
 obtain⟨lok,_⟩:=aBx hbb
 have ln:=lok.n
 simp only[mP,Bool.and_eq_true]at hbb
 simp only[dV.c]
 refine aM aNb fun hb ha=> ?_
 have e1:∀L,rd w0 (h++L) q=some (.int .i64 n):=fun L=>fT hq
 have bx:∀L,(h++some (Blk.row (x.c iv))::L:Heap)[h.length]? = some (some (.row (x.c iv))):=fun L=>by rw[qI (Nat.le_refl _),Nat.sub_self]; rfl
 simp only[dV.c]at bx
 simp only[go_sem,mf145,oi.1,oi.2,e1]
 refine aC (aNT (hv.s.sub aB.refl.app) hn (by omega)).v ?_
 rw[hbb.1]
 simp only[go_sem,bx]
 refine aC (yX (l:=[x.fuel]) (aBa (by simp[aN])) (by simp)).v ?_
 rw[show([x.fuel].all fun n=>inB n 0 20000)=true by simp[hbb.2.1]]
 simp only[go_sem,bx]
 refine aC (xP x.blo x.bhi 0 20000).v ?_
 rw[hbb.2.2.1]
 simp only[go_sem,bx]
 refine aC (xP x.llo x.lhi 0 20000).v ?_
 rw[hbb.2.2.2]
 simp only[go_sem]
theorem aKp{n:Int}{v:AV}{l:List dV}{q:Pl}(hv:lA w0 h v l)(hq:rd w0 h q=some (.int .i64 n))(hn:0≤n∧n≤1000000)(hb:∀x∈l,mP n x=true)(hl:l.length≤1000):aK Tryz.prog w0 144 [v,.fn (.func 145) [] [.ptr q]] h (.bool true) h:=by
 refine cJ (by simp[AV.bdd]) (aO aNc fun hb1 ha=> ?_)
 have ln:=hv.len
 rw[List.append_nil]
 simp only[go_sem,mf144,ln]
 refine bS (S:=Heap) (fun j _=>[(1,.fn (.func 145) [] [.ptr q]),(7,v),(8,.int .i64 l.length),(9,.int .i64 j)]) (fun _ s=>s) (fun j s=>aB h s) l.length h aB.refl rfl rfl ?_ ?_
 ·rintro j H hj sH ih
  refine aP [1,7,8,9] aE7.eq_1 ?_
  have e1:(j:Int)<l.length:=by omega
  obtain⟨p,iv,i1,vi,r7,_⟩:=hv.one hj
  obtain⟨x,hx⟩:∃x,x=l[j]:=⟨_,rfl⟩
  rw[←hx]at vi r7
  have r7':=sH.rdn (gT r7)
  have oi:=vi.s.one
  have s1:aB h (H++[some (Blk.row (x.c iv))]):=sH.app
  have cc:=aLY (vi.sub s1) (s1.rd hq) hn (hb x (hx▸qG hj))
  simp only[dV.c]at cc
  simp only[go_sem,e1,i1,r7',oi.1,oi.2]
  refine aC (@aK.vc _ _ _ [] [_] [_] _ _ _ cc) ?_
  simp only[go_sem]
  exact⟨(by unfold I64; omega),ih _ s1⟩
 ·rintro H sH
  refine aP [1,7,8,9] aE7.eq_1 ?_
  have e1:¬(l.length:Int)<l.length:=by omega
  simp only[go_sem,e1]
  exact sH
theorem trip_c{n:Nat}{v:AV}{l:List dV}{lo hi:Int}(hv:lA w0 h v l)(hn:n≤1000)(hbb:∀x∈l,mP n x=true)(hl:1≤l.length∧l.length≤6)(hs:spB lo hi 0 20000=true):aK Tryz.prog w0 79 [.agg [.int .i64 lo,.int .i64 hi],v,.int .i64 n] h (.int .i64 0) h:=by
 have ln:=hv.len
 refine aM mf79_k fun hb ha=> ?_
 have e1:¬(l.length:Int)>6:=by omega
 have e2:¬(l.length:Int)=0:=by omega
 simp only[go_sem,mf79,ln,e1]
 refine aC (aKp (n:=n) (q:= .own (h.length+1) 0) (hv.sub aB.refl.app) (by simp[rd]) (by omega) hbb (by omega)).v ?_
 simp only[go_sem,ln,e2]
 refine aC (xP lo hi 0 20000).v ?_
 rw[hs]
 simp only[go_sem]
theorem aGv{p:aZ}{cv sv fv lv:AV}{legs:List dV}{lo hi:Int}(hp:jI w0 h p cv sv fv)(hv:qU p=true)(hl:lA w0 h lv legs)(hbb:∀x∈legs,mP p.sta.length x=true)(hn:1≤legs.length∧legs.length≤6)(hs:spB lo hi 0 20000=true) :
 aK Tryz.prog w0 38 [.agg (p.c cv sv fv),.agg [.int .i64 lo,.int .i64 hi],lv] h (.int .i64 0) h:=by
 have o1:=hp.c.one
 have o2:=hp.s.one
 have o3:=hp.f.one
 have ps:=(tX hv).2.1
 have ls:dA sv=some (.int .i64 p.sta.length):=by have:=hp.s.use.1; rwa [List.length_map]at this
 have vc:=fun L=>aLW (w0:=w0) (h:=h++L) (hp.sub aB.refl.app) hv
 simp only[aZ.c]at vc ⊢
 refine aM mf38_k fun hb ha=> ?_
 simp only[go_sem,mf38,o1.1,o1.2,o2.1,o2.2,o3.1,o3.2,ls]
 refine aC (trip_c (hl.sub aB.refl.app) (by omega) hbb hn hs).v ?_
 simp only[go_sem,o1.1,o1.2,o2.1,o2.2,o3.1,o3.2]
 refine aC (vc _).v ?_
 simp only[go_sem]
def aHX(P:Int→Bool)(c:Int):Prop:=(0≤c∧c≤20000)∧P c=P 20000∧(c=0∨P (c - 1)≠P 20000)
theorem aJ6{P:Int→Bool}{fv:AV}(hfo:∀N,h.length≤N→fv.bdd N)(hf:∀n H,0≤n→n≤20000→aB h H→bE Tryz.prog w0 fv [.int .i64 n] H fun y H'=>aB H H'∧y= .bool (P n)) :
 ACall Tryz.prog w0 40 [.int .i64 0,.int .i64 20000,fv] h fun y H=>aB h H∧∃c,y= .int .i64 c∧aHX P c:=by
 refine aO mf40_k fun hb ha=> ?_
 rw[List.append_nil]
 simp only[go_sem,mf40]
 refine aJ (hf 20000 h (by omega) (by omega) aB.refl) ?_
 rintro y H0 ⟨s0,rfl⟩
 simp only[go_sem]
 refine fF (S:=Heap×Int×Int) (fun s=>[(0,.int .i64 s.2.1),(1,.int .i64 s.2.2),(2,fv),(7,.bool (P 20000))]) (fun s=>s.1) (fun s=>(s.2.2 - s.2.1).toNat) (fun s=>aB h s.1∧(0≤s.2.1∧s.2.1≤s.2.2∧s.2.2≤20000)∧P s.2.2=P 20000∧(s.2.1=0∨P (s.2.1 - 1)≠P 20000)) (H0,0,20000) ⟨s0,by simp only; omega,rfl,.inl rfl⟩ rfl rfl ?_
 rintro⟨H,lo,hi⟩ ⟨sH,hb1,p1,p2⟩ ih
 simp only at sH hb1 p1 p2 ih ⊢
 refine aP [0,1,2,7] L40_0.eq_1 ?_
 by_cases hl:lo<hi
 ·have z1:=cZ (n:=hi - lo) (by unfold I64; omega)
  obtain⟨m,hm⟩:∃m,m=lo+(hi - lo).tdiv 2:=⟨_,rfl⟩
  have td:(hi - lo).tdiv 2=(hi - lo) / 2:=Int.tdiv_eq_ediv_of_nonneg (by omega)
  have mb:lo≤m∧m<hi:=by rw[hm,td]; omega
  have z2:=cZ (n:=(hi - lo).tdiv 2) (by unfold I64; rw[td]; omega)
  simp only[go_sem,hl,z1,z2,←hm]
  refine⟨by unfold I64; rw[td]; omega,(by unfold I64; omega),?_⟩
  refine aJ (hf m H (by omega) (by omega) sH) ?_
  rintro y H1 ⟨s1,rfl⟩
  by_cases q:P m=P 20000
  ·have q':(P m==P 20000)=true:=by rw[q]; simp
   simp only[go_sem,q']
   exact ih (H1,lo,m) ⟨sH.trans s1,by simp only; omega,q,p2⟩ (by simp only; omega)
  ·have q':(P m==P 20000)=false:=by simpa using q
   simp only[go_sem,q']
   exact⟨(by unfold I64; omega),ih (H1,m+1,hi) ⟨sH.trans s1,by simp only; omega,p1,.inr (by simp only; rw[show m+1 - 1=m by omega]; exact q)⟩ (by simp only; omega)⟩
 ·obtain rfl:lo=hi:=by omega
  simp only[go_sem,hl]
  exact⟨sH,lo,rfl,⟨by omega,by omega⟩,p1,p2⟩
theorem aOm{p:aZ}{cv sv fv lv:AV}{legs:List dV}{n:Int}{pp lp kp k:Nat}(hp:jI w0 h p cv sv fv)(hl:lA w0 h lv legs)(hn:legs.length≤6)(hlb:∀l∈legs,mP p.sta.length l=true)(pb:kZ p)(hf:p.flo.length≤2)(hs:p.sta.length≤8)(hn1:0≤n∧n≤20000)
 (h1:h[pp]? = some (some (.row (p.c cv sv fv)))) (h2:h[lp]? = some (some (.row [lv]))) (h3:h[kp]? = some (some (.row [.int .i64 k]))) (hk:k<(bF p legs n).length) :
 ACall Tryz.prog w0 41 [.int .i64 n,.ptr (.own pp 0),.ptr (.own lp 0),.ptr (.own kp 0)] h fun y H=>aB h H∧y= .bool ((bF p legs n).getD k false):=by
 have bc:=zR hp hl hn hlb pb hf hs hn1
 simp only[aZ.c]at bc h1
 refine aO mf41_k fun hb ha=> ?_
 rw[List.append_nil]
 simp only[go_sem,mf41]
 refine iS dE [0,1,2,4,3,5,6,7] [o_ 6 (.load (.t 1) (some 10)),o_ 7 (l_ 2),o_ 8 (m_ 0),o_ 10 (l_ 3),.call (some 9) none (f_ 39) [(.t 6),(.t 7),(.t 8)]] [([(3,o_ 10 (l_ 3))],[o_ 11 (.idxs 1 (.t 9) (.t 10)),o_ 12 (l_ 11),o_ 5 (m_ 12)])] rfl rfl (by kernel_rfl) ?_
 simp only[go_sem,h1,h2,h3]
 refine aJ (ACall.v3 bc) ?_
 rintro y H ⟨s1,bv⟩
 have q3:=s1.2 _ _ h3
 obtain⟨q,ix,rq⟩:=bv.at_ hk
 have rq':=aBm rq
 simp only[go_sem,q3,ix,rq']
 exact⟨s1,by rw[aE hk]⟩
def aLC(p:aZ)(legs:List dV)(n e:Int):Prop:=
 (e=5∧n=0∧∃k,(bF p legs 0).getD k false=true∧(bF p legs 20000).getD k false=true) ∨
 ∃low,(0≤low∧low≤20000)∧(∀k,(bF p legs 0).getD k false=true→(bF p legs 20000).getD k false=false∧∃c,c≤low∧aHX (fun n=>(bF p legs n).getD k false) c) ∧
  (low=0∨∃k,(bF p legs 0).getD k false=true∧aHX (fun n=>(bF p legs n).getD k false) low) ∧
  (iX p legs low low=true∧e=0∧n=low∨iX p legs low low=false∧e=5∧n=0)
set_option maxRecDepth 20000 in
theorem Fuel_c{p:aZ}{cv sv fv lv:AV}{legs:List dV}(hp:jI w0 h p cv sv fv)(hv:qU p=true)(hl:lA w0 h lv legs)(hbb:∀x∈legs,mP p.sta.length x=true)(hn:1≤legs.length∧legs.length≤6)
 (hlen:∀n,(bF p legs n).length=(bF p legs 0).length) (hle:(bF p legs 0).length≤100000) :
 ACall Tryz.prog w0 11 [.agg (p.c cv sv fv),lv] h fun y H=>aB h H∧∃n e,y= .tup [.int .i64 n,.int .i64 e]∧aLC p legs n e:=by
 have o1:=hp.c.one
 have o2:=hp.s.one
 have o3:=hp.f.one
 have o4:=NS.one hl
 obtain⟨pb,ps,pf,_⟩:=tX hv
 refine aO mf11_k fun hb1 ha=> ?_
 obtain⟨Q,hQ⟩:∃Q,Q=p.c cv sv fv:=⟨_,rfl⟩
 have hQ':=hQ
 simp only[aZ.c]at hQ'
 obtain⟨B,eB⟩:∃B:Heap,B=h++[some (.row Q),some (.row [lv])]:=⟨_,rfl⟩
 have sB:aB h B:=by rw[eB]; exact aB.refl.app
 have bQ:B[h.length]? = some (some (.row Q)):=by rw[eB]; simp
 have bL:B[h.length+1]? = some (some (.row [lv])):=by rw[eB]; simp
 have o4':Ab.one lv=true∧cellsOf lv=some [lv]:=o4
 have tc:=aGv (w0:=w0) (h:=B) (lo:=0) (hi:=0) (hp.sub sB) hv (hl.sub sB) hbb hn rfl
 rw[←hQ]at tc
 simp only[go_sem,mf11,o1.1,o1.2,o2.1,o2.2,o3.1,o3.2,o4'.1,o4'.2]
 rw[←hQ',←eB]
 refine aC tc.v ?_
 have bQ':=bQ
 rw[hQ']at bQ'
 simp only[go_sem]
 refine iS dE [0,1,3,4,2,5,6,7] [o_ 21 (.load (.t 2) (some 10)),o_ 22 (l_ 3),o_ 24 (.load (.t 2) (some 10)),o_ 25 (l_ 3),.call (some 23) none (f_ 39) [(.t 21),(.t 22),(i_ 0)]] [([(2,o_ 24 (.load (.t 2) (some 10))),(3,o_ 25 (l_ 3))],[.call (some 26) none (f_ 39) [(.t 24),(.t 25),(i_ 20000)],o_ 7 (m_ 23),o_ 8 (m_ 26)])] rfl rfl (by kernel_rfl) ?_
 simp only[go_sem,bQ',bL]
 have bc0:=zR (n:=0) (hp.sub sB) (hl.sub sB) hn.2 hbb pb pf ps (by omega)
 simp only[aZ.c]at bc0
 refine aJ (ACall.v3 bc0) ?_
 rintro y0 H0 ⟨s0,bv0⟩
 have q0:=s0.2 _ _ bQ'
 have q1:=s0.2 _ _ bL
 simp only[go_sem,q0,q1]
 have bcM:=zR (n:=20000) (hp.sub (sB.trans s0)) (hl.sub (sB.trans s0)) hn.2 hbb pb pf ps (by omega)
 simp only[aZ.c]at bcM
 refine aJ (ACall.v3 bcM) ?_
 rintro yM HM ⟨sM,bvM⟩
 have l0:=bv0.len
 simp only[go_sem,l0]
 obtain⟨n0,hn0⟩:∃n,n=(bF p legs 0).length:=⟨_,rfl⟩
 rw[←hn0]at hle l0
 rw[←hn0]
 have sHM:aB B HM:=s0.trans sM
 refine bS (S:=Heap×Int) (fun k s=>[(2,.ptr (.own h.length 0)),(3,.ptr (.own (h.length+1) 0)),(7,y0),(8,yM),(9,.int .i64 s.2),(28,.int .i64 n0),(29,.int .i64 k)]) (fun _ s=>s.1)
  (fun k s=>aB HM s.1∧(0≤s.2∧s.2≤20000)∧(∀i,i<k→(bF p legs 0).getD i false=true→(bF p legs 20000).getD i false=false∧∃c,c≤s.2∧aHX (fun n=>(bF p legs n).getD i false) c)∧(s.2=0∨∃i,(bF p legs 0).getD i false=true∧aHX (fun n=>(bF p legs n).getD i false) s.2)) n0 (HM,0) ⟨aB.refl,by simp only; omega,fun i hi=>by omega,.inl rfl⟩ rfl rfl ?_ ?_
 ·rintro k ⟨H,low⟩ hk ⟨sH,lb,a1,a2⟩ ih
  simp only at sH lb a1 a2 ih ⊢
  refine aP [2,3,7,8,9,28,29] aLB.eq_1 ?_
  have e1:(k:Int)<n0:=by omega
  have hk0:k<(bF p legs 0).length:=by omega
  have hkM:k<(bF p legs 20000).length:=by rw[hlen]; exact hk0
  have sX:aB H (H++[some (Blk.row [AV.int .i64 (k:Int)])]):=aB.refl.app
  obtain⟨X,eX⟩:∃X,X=H++[some (Blk.row [AV.int .i64 (k:Int)])]:=⟨_,rfl⟩
  rw[←eX]at sX
  have x10:X[H.length]? = some (some (.row [.int .i64 (k:Int)])):=by rw[eX]; simp
  obtain⟨p1,i1,r1⟩:=(bv0.sub (sM.trans (sH.trans sX))).at_ hk0
  obtain⟨p2,i2,r2⟩:=(bvM.sub (sH.trans sX)).at_ hkM
  have r1':=aBm r1
  have r2':=aBm r2
  have g0:(bF p legs 0).getD k false=(bF p legs 0)[k]:=aE hk0
  have gM:(bF p legs 20000).getD k false=(bF p legs 20000)[k]:=aE hkM
  have sAll:=sHM.trans (sH.trans sX)
  simp only[go_sem,e1,←eX,x10,i1]
  cases c0:(bF p legs 0)[k]with
  | false=>
   rw[c0]at r1'
   simp only[go_sem,r1',x10,i1]
   refine⟨(by unfold I64; omega),ih (X,low) ⟨sH.trans sX,lb,fun i hi hb=> ?_,a2⟩⟩
   by_cases q:i=k
   ·subst q; rw[g0,c0]at hb; cases hb
   ·exact a1 i (by omega) hb
  | true=>
   rw[c0]at r1'
   cases cM:(bF p legs 20000)[k]with
   | true=>
    rw[cM]at r2'
    simp only[go_sem,r1',x10,i1,i2,r2']
    exact⟨sB.trans sAll,0,5,rfl,.inl ⟨rfl,rfl,k,by rw[g0,c0],by rw[gM,cM]⟩⟩
   | false=>
    rw[cM]at r2'
    have hvX:=hp.sub (sB.trans sAll)
    have hlX:=hl.sub (sB.trans sAll)
    have ch:=aJ6 (w0:=w0) (h:=X) (P:=fun n=>(bF p legs n).getD k false) (fv:= .fn (.func 41) [] [.ptr (.own h.length 0),.ptr (.own (h.length+1) 0),.ptr (.own H.length 0)]) (fun N hN=>by
     have:=aD x10
     have:=aD (sAll.2 _ _ bL)
     simp[AV.bdd,AV.bdds,Pl.bdd]; omega) fun n G hn0' hn1' sG=>ACall.vc (first:=[]) (args:=[_]) (aOm (hvX.sub sG) (hlX.sub sG) hn.2 hbb pb pf ps ⟨hn0',hn1'⟩ (by rw[←hQ]; exact sG.2 _ _ (sAll.2 _ _ bQ)) (sG.2 _ _ (sAll.2 _ _ bL)) (sG.2 _ _ x10) (by rw[hlen]; exact hk0))
    simp only[go_sem,r1',x10,i1,i2,r2']
    refine aJ (ACall.v3 ch) ?_
    rintro y G ⟨sG,c,rfl,hc⟩
    have cb:=hc.1
    simp only[go_sem]
    refine⟨(by unfold I64; omega),ih (G,max low c) ⟨sH.trans (sX.trans sG),by simp only; omega,fun i hi hb=> ?_,?_⟩⟩
    ·by_cases q:i=k
     ·subst q
      exact⟨by rw[gM,cM],c,by simp only; omega,hc⟩
     ·obtain⟨w1,c2,w2,w3⟩:=a1 i (by omega) hb
      exact⟨w1,c2,by simp only; omega,w3⟩
    ·simp only
     by_cases q:low≤c
     ·rw[Int.max_eq_right q]; exact .inr ⟨k,by rw[g0,c0],hc⟩
     ·rw[Int.max_eq_left (by omega)]; exact a2
 ·rintro⟨H,low⟩ ⟨sH,lb,a1,a2⟩
  simp only at sH lb a1 a2 ⊢
  refine aP [2,3,7,8,9,28,29] aLB.eq_1 ?_
  have e1:¬(n0:Int)<n0:=by omega
  have sAll:=sHM.trans sH
  have q0:=sAll.2 _ _ bQ'
  have q1:=sAll.2 _ _ bL
  simp only[go_sem,e1,q0,q1]
  have fc:=aIc (lo:=low) (hi:=low) (hp.sub (sB.trans sAll)) (hl.sub (sB.trans sAll)) hn.2 hbb pb pf ps lb lb
  simp only[aZ.c]at fc
  refine aJ (ACall.v3 fc) ?_
  rintro y G ⟨sG,a,r,k,rfl,t1,t2⟩
  have a1':∀i,(bF p legs 0).getD i false=true→(bF p legs 20000).getD i false=false∧∃c,c≤low∧aHX (fun n=>(bF p legs n).getD i false) c:=fun i hb=>by
   refine a1 i ?_ hb
   rcases Nat.lt_or_ge i n0 with q | q
   ·exact q
   ·rw[List.getD_eq_getElem?_getD,List.getElem?_eq_none (by omega)]at hb; cases hb
  have sE:=sB.trans (sAll.trans sG)
  cases tb:iX p legs low low with
  | true=>
   have:=t1 tb
   have e2:¬a≥0:=by omega
   simp only[go_sem,e2]
   exact⟨sE,low,0,rfl,.inr ⟨low,lb,a1',a2,.inl ⟨tb,rfl,rfl⟩⟩⟩
  | false=>
   have:=t2 tb
   have e2:a≥0:=by omega
   simp only[go_sem,e2]
   exact⟨sE,0,5,rfl,.inr ⟨low,lb,a1',a2,.inr ⟨tb,rfl,rfl⟩⟩⟩
end Go.Proofs.Ab
namespace Go.Proofs.Ab
open Go Go.Proofs
structure PtT where
 l:dV
 a:Int
 b:Int
 c:Int
 d:Int
 ld:Bool
def PtT.at(p:aZ)(t:PtT)(n:Int):PtD:=tW p t.l (n+t.a) (n+t.b) t.c t.d t.ld
def aDB:List dV→Int→Int→Int→Int→List PtT
 | [],_,_,_,_=>[]
 | l::r,a,b,c,d=>
  ⟨l,a+l.fuel,b+l.fuel,cond l.pump 0 c,cond l.pump 0 d,false⟩ ::
  ⟨l,a+l.fuel - l.bhi,b+l.fuel - l.blo,cond l.pump 0 c+l.llo,cond l.pump 0 d+l.lhi,true⟩ ::
  aDB r (a+l.fuel - l.bhi) (b+l.fuel - l.blo) (cond l.pump 0 c+l.llo) (cond l.pump 0 d+l.lhi)
theorem aCr{p:aZ}{n:Int}:∀ {legs:List dV} {a b c d:Int},jA p legs (n+a) (n+b) c d=(aDB legs a b c d).map fun t=>t.at p n
 | [],_,_,_,_=>rfl
 | l::r,a,b,c,d=>by
  rw[jA,aDB,List.map_cons,List.map_cons,←aCr]
  simp only[PtT.at]
  rw[show n+a+l.fuel=n+(a+l.fuel)by omega,show n+b+l.fuel=n+(b+l.fuel)by omega,show n+(a+l.fuel) - l.bhi=n+(a+l.fuel - l.bhi)by omega,show n+(b+l.fuel) - l.blo=n+(b+l.fuel - l.blo)by omega]
theorem aB7:∀ {legs:List dV} {a b c d:Int},(aDB legs a b c d).length=2*legs.length
 | [],_,_,_,_=>rfl
 | l::r,_,_,_,_=>by rw[aDB,List.length_cons,List.length_cons,aB7,List.length_cons]; omega
def brk(p:aZ)(t:PtT):List (Int→Bool):=
 ((List.range p.sta.length).map fun i n=>aAE p (t.at p n) i)++((fun n=>decide ((t.at p n).thi>p.tank.most)) ::
 (((List.range p.flo.length).map fun i n=>aGr p (t.at p n) i)++((fun n=>zE p (t.at p n)) ::
 (((List.range p.cor.length).map fun i n=>out1 p (t.at p n) i)++[fun n=>vE p (t.at p n)]))))
theorem brk_eq{p:aZ}{t:PtT}{n:Int}:(cP p (t.at p n)).flatten=(brk p t).map fun f=>f n:=by
 have hw:(t.at p n).water.length=p.flo.length:=by simp[PtT.at,tW]
 simp only[cP,brk,aFI,wetD,aGR,List.flatten_cons,List.flatten_nil,List.map_append,List.map_cons,List.map_map,List.map_nil,hw]
 simp[Function.comp_def]
def aEB(p:aZ)(legs:List dV):List (Int→Bool):=(aDB legs 0 0 0 0).flatMap (brk p)
theorem lN{p:aZ}{legs:List dV}{n:Int}:bF p legs n=(aEB p legs).map fun f=>f n:=by
 have h:=aCr (p:=p) (n:=n) (legs:=legs) (a:=0) (b:=0) (c:=0) (d:=0)
 rw[Int.add_zero]at h
 rw[bF,h,aEB,List.flatMap_map,List.map_flatMap]
 congr 1
 funext t
 exact brk_eq
theorem aOf{p:aZ}{t:PtT}(pb:kZ p)(hs:p.sta.length≤8)(hf:p.flo.length≤2):(brk p t).length≤25:=by
 have:=pb.n
 simp[brk]; omega
theorem aKc{p:aZ}{legs:List dV}(pb:kZ p)(hs:p.sta.length≤8)(hf:p.flo.length≤2)(hn:legs.length≤6):(aEB p legs).length≤300:=by
 have key:∀l:List PtT,(l.flatMap (brk p)).length≤25*l.length:=fun l=>by
  induction l with
  | nil=>simp
  | cons t l ih=>
   have:=aOf (t:=t) pb hs hf
   rw[List.flatMap_cons,List.length_append,List.length_cons]; omega
 have:=key (aDB legs 0 0 0 0)
 rw[aB7]at this
 unfold aEB; omega
def Mon(f:Int→Bool):Prop:=(∀m n,m≤n→f m=true→f n=true)∨∀m n,m≤n→f n=true→f m=true
theorem Mon.const{f:Int→Bool}(h:∀m n,f m=f n):Mon f:= .inl fun m n _ e=>by rw[h n m]; exact e
theorem Mon.lin{f:Int→Bool}{s c:Int}(h:∀n,f n=decide (s*n+c<0)):Mon f:=by
 rcases Int.le_total 0 s with q | q
 ·refine .inr fun m n hmn e=> ?_
  rw[h,decide_eq_true_eq]at e ⊢
  have:=Int.mul_le_mul_of_nonneg_left hmn q
  omega
 ·refine .inl fun m n hmn e=> ?_
  rw[h,decide_eq_true_eq]at e ⊢
  have:=Int.mul_le_mul_of_nonpos_left q hmn
  omega
theorem aIP{p:aZ}{t:PtT}:∃A W:List jR,∀n,dN p (t.at p n)=A++⟨1,0,p.tank.arm,n+t.a,n+t.b⟩::W:=
 ⟨(List.range t.l.items.length).map (aAI p (t.at p 0)),(List.range (List.replicate p.flo.length (t.c,t.d)).length).map (rM p (t.at p 0)),fun n=>rfl⟩
theorem aGb{p:aZ}{t:PtT}:∀f∈brk p t,Mon f:=fun f hf=>by
 obtain⟨A,W,hp⟩:=aIP (p:=p) (t:=t)
 simp only[brk,List.mem_append,List.mem_cons,List.mem_map,List.mem_range,List.not_mem_nil,or_false]at hf
 rcases hf with⟨i,_,rfl⟩ | rfl | ⟨i,_,rfl⟩ | rfl | ⟨i,_,rfl⟩ | rfl
 ·exact Mon.const fun m n=>rfl
 ·refine Mon.lin (s:= -1) (c:=p.tank.most - t.b) fun n=> ?_
  show decide (n+t.b>p.tank.most)=_
  exact decide_eq_decide.2 (by omega)
 ·exact Mon.const fun m n=>rfl
 ·refine Mon.lin (s:= -1) (c:=sO p (t.at p 0) - (p.empty+jX fHi A+t.b+jX fHi W)) fun n=> ?_
  rw[zE,hp]
  have e:jX fHi (A++⟨1,0,p.tank.arm,n+t.a,n+t.b⟩::W)=jX fHi A+((n+t.b)+jX fHi W):=by
   simp[jX,List.sum_append,fHi]
  have el:sO p (t.at p n)=sO p (t.at p 0):=rfl
  rw[e,el]
  exact decide_eq_decide.2 (by omega)
 ·obtain⟨s,hs⟩:∃s,s=iI p.cor i p.tank.arm:=⟨_,rfl⟩
  refine Mon.lin (s:=s) (c:=mT p.cor i p.empty p.moment+fM p.cor i A+min (s*t.a) (s*t.b)+fM p.cor i W) fun n=> ?_
  rw[out1,qV,hp]
  have e:fM p.cor i (A++⟨1,0,p.tank.arm,n+t.a,n+t.b⟩::W)=fM p.cor i A+(min (s*(n+t.a)) (s*(n+t.b))+fM p.cor i W):=by
   simp[fM,List.sum_append,lpD,hs]
  rw[e,Int.mul_add,Int.mul_add]
  exact decide_eq_decide.2 (by omega)
 ·cases hld:t.ld with
  | false=>exact Mon.const fun m n=>by simp[vE,PtT.at,tW,hld]
  | true=>
   refine Mon.lin (s:=1) (c:=t.a - p.reserve) fun n=> ?_
   show(t.ld&&decide (n+t.a<p.reserve))=_
   rw[hld,Bool.true_and]
   exact decide_eq_decide.2 (by omega)
theorem oZ{p:aZ}{legs:List dV}{n:Int}:iX p legs n n=(bF p legs n).all fun b=> !b:=by
 rw[iX,bF,List.all_flatMap]
 congr 1
 funext x
 rw[rO,List.all_flatten]
theorem aJC{p:aZ}{legs:List dV}{n e:Int}(h:aLC p legs n e):(e=5∧∀f,0≤f→f≤20000→iX p legs f f=false)∨(e=0∧(0≤n∧n≤20000)∧iX p legs n n=true∧(0<n→iX p legs (n - 1) (n - 1)=false)):=by
 have gk:∀k m,(bF p legs m).getD k false=true→∃f∈aEB p legs,Mon f∧∀m,(bF p legs m).getD k false=f m:=fun k m hb=>by
  rw[lN]at hb
  by_cases hk:k<(aEB p legs).length
  ·refine⟨(aEB p legs)[k],qG hk,?_,fun m=> ?_⟩
   ·obtain⟨t,_,ht⟩:=List.mem_flatMap.1 (qG hk)
    exact aGb _ ht
   ·rw[lN,List.getD_eq_getElem?_getD,List.getElem?_map,qA hk]; rfl
  ·rw[List.getD_eq_getElem?_getD,List.getElem?_eq_none (by simpa using hk)]at hb; cases hb
 have no:∀k m,(bF p legs m).getD k false=true→iX p legs m m=false:=fun k m hb=>by
  rw[oZ]
  refine List.all_eq_false.2 ⟨true,?_,by simp⟩
  by_cases hk:k<(bF p legs m).length
  ·rw[aE hk]at hb; rw[←hb]; exact qG hk
  ·rw[List.getD_eq_getElem?_getD,List.getElem?_eq_none (by omega)]at hb; cases hb
 rcases h with⟨rfl,_,k,h1,h2⟩ | ⟨low,lb,a1,a2,h⟩
 ·refine .inl ⟨rfl,fun f f0 f1=>no k f ?_⟩
  obtain⟨g,_,mg,hg⟩:=gk k 0 h1
  rw[hg]at h1 h2 ⊢
  rcases mg with m | m
  ·exact m _ _ f0 h1
  ·exact m _ _ f1 h2
 ·have below:∀f,0≤f→f<low→iX p legs f f=false:=fun f f0 f1=>by
   rcases a2 with q | ⟨k,b0,cb,c1,c2⟩
   ·omega
   ·refine no k f ?_
    obtain⟨g,_,mg,hg⟩:=gk k 0 b0
    have bM:=(a1 k b0).1
    simp only[hg]at b0 c1 c2 bM ⊢
    rcases c2 with q | c2
    ·omega
    rw[bM]at c2
    have c3:g (low - 1)=true:=by cases hh:g (low - 1); exact absurd hh c2; rfl
    rcases mg with m | m
    ·exact m _ _ f0 b0
    ·exact m _ _ (by omega) c3
  rcases h with⟨tb,rfl,rfl⟩ | ⟨tb,rfl,rfl⟩
  ·exact .inr ⟨rfl,lb,tb,fun hn=>below _ (by omega) (by omega)⟩
  ·refine .inl ⟨rfl,fun f f0 f1=> ?_⟩
   by_cases q:f<low
   ·exact below f f0 q
   rw[oZ,List.all_eq_false]at tb
   obtain⟨b,hb,hbt⟩:=tb
   have hbt:b=true:=by simpa using hbt
   subst hbt
   obtain⟨k,hk,hkb⟩:=List.getElem_of_mem hb
   have hkb':(bF p legs low).getD k false=true:=by rw[aE hk]; exact hkb
   obtain⟨g,_,mg,hg⟩:=gk k low hkb'
   refine no k f ?_
   have ga:=a1 k
   simp only[hg]at hkb' ga ⊢
   rcases mg with m | m
   ·exact m _ _ (by omega) hkb'
   ·have g0:=m 0 low lb.1 hkb'
    obtain⟨gM,c,cl,cb,c1,_⟩:=ga g0
    have:=m c low cl hkb'
    have c1':g c=g 20000:=c1
    rw[c1',gM]at this; cases this
end Go.Proofs.Ab
namespace Go.Proofs.Ab
open Go Go.Proofs
variable {w0:World} {h:Heap}
attribute [local irreducible] ACall bE cR aK bI rvC lp rg dr ex un rv
def rY(w0:World)(h:Heap)(v:AV)(l:List jH):Prop:=Sl w0 h 2 v (l.map jH.c)
theorem aGy(b:jH):aK Tryz.prog w0 85 [.agg b.c] h (.bool (!aEI b)) h:=by
 simp only[jH.c]
 refine aM mf85_k fun hb ha=> ?_
 simp only[go_sem,mf85]
 refine aC (aJ5 b.kilos 1 1000).v ?_
 cases c1:inB b.kilos 1 1000
 ·simp only[go_sem]
  rw[aEI,c1]; rfl
 ·simp only[go_sem]
  refine aC (aJ5 b.til 0 400).v ?_
  simp only[go_sem]
  rw[aEI,c1]; rfl
theorem cIdx_c{v:AV}{l:List jH}(hv:rY w0 h v l)(hl:l.all aEI=true)(hn:l.length≤1000):aK Tryz.prog w0 162 [v,.fn (.func 85) [] []] h (.int .i64 (-1)) h:=by
 refine aM aMU fun hb ha=> ?_
 obtain⟨ln,q,ix,row,_⟩:=hv.use
 rw[List.length_map]at ln ix
 simp only[go_sem,mf162,ln]
 refine cY (fun j=>[(0,v),(1,.fn (.func 85) [] []),(7,.int .i64 l.length),(8,.int .i64 j)]) (fun j=>True) l.length rfl (fun j hj hall ih=> ?_) (fun hall=> ?_)
 ·refine aP [0,1,7,8] aEZ.eq_1 ?_
  have e1:(j:Int)<l.length:=by omega
  have r0:=tE row hj
  have sc:=aGy (w0:=w0) (h:=h++[]) l[j]
  rw[List.all_eq_true.1 hl _ (qG hj)]at sc
  simp only[jH.c]at sc
  simp only[go_sem,e1,ix j hj,r0]
  refine aC sc.v ?_
  simp only[go_sem]
  exact⟨(by unfold I64; omega),ih trivial⟩
 ·refine aP [0,1,7,8] aEZ.eq_1 ?_
  have e1:¬(l.length:Int)<l.length:=by omega
  simp only[go_sem,e1]
theorem aOe{v:AV}{l:List jH}(hv:rY w0 h v l)(hl:l.all aEI=true)(hn:l.length≤1000):aK Tryz.prog w0 84 [v,.fn (.func 85) [] []] h (.bool false) h:=by
 refine aM mf84_k fun hb ha=> ?_
 simp only[go_sem,mf84]
 refine aC (cIdx_c (Sl.sub hv aB.refl.app) hl hn).v ?_
 simp only[go_sem]
theorem aIg{v:AV}{l:List jH}(hv:rY w0 h v l)(hc:zQ l=true):aK Tryz.prog w0 43 [.agg [v]] h (.bool true) h:=by
 simp only[zQ,Bool.and_eq_true,decide_eq_true_eq]at hc
 have ln:dA v=some (.int .i64 l.length):=by have:=hv.use.1; rwa [List.length_map]at this
 have o1:=Sl.one hv
 refine aM mf43_k fun hb ha=> ?_
 have e1:(l.length:Int)≤30:=by omega
 have bx:∀L,(h++some (Blk.row [v])::L:Heap)[h.length]? = some (some (.row [v])):=fun L=>by rw[qI (Nat.le_refl _),Nat.sub_self]; rfl
 have cf:=fun L=>aOe (w0:=w0) (h:=h++L) (Sl.sub hv aB.refl.app) hc.1 (by omega)
 simp only[go_sem,mf43,o1.1,o1.2,bx,ln,e1]
 refine aC (cf _).v ?_
 simp only[go_sem]
def jE(l:List jH):Int:=(l.map jH.kilos).sum
theorem aNQ{v:AV}{l:List jH}(hv:rY w0 h v l)(hb:∀b∈l,0≤b.kilos∧b.kilos≤1000)(hn:l.length≤1000):aK Tryz.prog w0 45 [v] h (.int .i64 (jE l)) h:=by
 refine cJ (by simp[AV.bdd]) (aO mf45_k fun hb1 ha=> ?_)
 obtain⟨ln,q,ix,row,_⟩:=hv.use
 rw[List.length_map]at ln ix
 rw[List.append_nil]
 have sb:∀j,j≤l.length→0≤jE (l.take j)∧jE (l.take j)≤1000*j:=fun j hj=>by
  induction j with
  | zero=>simp[jE]
  | succ j ih=>
   have:=ih (by omega)
   have hj':j<l.length:=by omega
   have:=hb _ (qG hj')
   rw[jE,List.take_succ_eq_append_getElem hj',List.map_append,List.sum_append]
   simp only[jE,List.map_cons,List.map_nil,List.sum_cons,List.sum_nil]at *
   omega
 simp only[go_sem,mf45,ln]
 refine bS (S:=Heap) (fun j _=>[(3,.int .i64 (jE (l.take j))),(6,v),(7,.int .i64 l.length),(8,.int .i64 j)]) (fun _ s=>s) (fun j s=>aB h s) l.length h aB.refl (by simp[jE]) rfl ?_ ?_
 ·rintro j H hj sH ih
  refine aP [3,6,7,8] aLh.eq_1 ?_
  have e1:(j:Int)<l.length:=by omega
  have r0:=sH.rdn (gT (tE row hj))
  have s1:=sb j (by omega)
  have s2:=sb (j+1) (by omega)
  have tk:jE (l.take (j+1))=jE (l.take j)+l[j].kilos:=by
   rw[jE,List.take_succ_eq_append_getElem hj,List.map_append,List.sum_append]; simp[jE]
  have z:=cZ (n:=jE (l.take j)+l[j].kilos) (by unfold I64; omega)
  have go:=ih (H++[some (Blk.row l[j].c)]) (sH.app)
  rw[tk]at go
  simp only[go_sem,e1,ix j hj,r0,z]
  exact⟨(by unfold I64; omega),(by unfold I64; omega),go⟩
 ·rintro H sH
  refine aP [3,6,7,8] aLh.eq_1 ?_
  have e1:¬(l.length:Int)<l.length:=by omega
  rw[List.take_length]
  simp only[go_sem,e1]
  exact sH
theorem aOa{v fv:AV}{l:List jH}{P:jH→Bool}(hv:rY w0 h v l)(hn:l.length≤1000)(hf:∀b∈l,∀H,aB h H→bI Tryz.prog w0 fv [.agg b.c] H (.bool (P b)) H):ACall Tryz.prog w0 86 [v,fv] h fun y H=>aB h H∧rY w0 H y (l.filter P):=by
 refine aO mf86_k fun hb1 ha=> ?_
 obtain⟨ln,q,ix,row,_⟩:=hv.use
 rw[List.length_map]at ln ix
 rw[List.append_nil]
 simp only[go_sem,mf86,ln]
 refine bS (S:=Heap×AV) (fun j s=>[(1,fv),(5,s.2),(8,v),(9,.int .i64 l.length),(10,.int .i64 j)]) (fun _ s=>s.1) (fun j s=>Gro h s.1 2 ((l.take j).filter P).length s.2 (((l.take j).filter P).map jH.c).flatten) l.length (h,.nilS) (Gro.nil aB.refl) rfl rfl ?_ ?_
 ·rintro j ⟨H,ov⟩ hj g ih
  simp only at g ih ⊢
  refine aP [1,5,8,9,10] aKQ.eq_1 ?_
  have e1:(j:Int)<l.length:=by omega
  obtain⟨b,hbj⟩:∃b,b=l[j]:=⟨_,rfl⟩
  have r0:=g.sub.rdn (gT (tE row hj))
  rw[←hbj]at r0
  have cc:=hf b (hbj▸qG hj) (H++[some (Blk.row b.c)]) (g.sub.app)
  have fl:=List.length_filter_le P (l.take j)
  rw[List.length_take]at fl
  have tk:(l.take (j+1)).filter P=(l.take j).filter P++if P b then [b]else []:=by
   rw[List.take_succ_eq_append_getElem hj,List.filter_append,←hbj]
   cases hq:P b
   ·rw[List.filter_cons_of_neg (by simp[hq])]; simp
   ·rw[List.filter_cons_of_pos hq]; simp
  obtain⟨G,ap,g2⟩:=(g.app (L:=[some (Blk.row b.c),some (Blk.row b.c)])).more (w0:=w0) (b:=16) (k:=H.length+1) (x:=b.c) (f:=true) (by simp) rfl rfl (by omega) (by omega)
  have gl:(H++[some (Blk.row b.c),some (Blk.row b.c)]).length=H.length+2:=by simp
  rw[gl]at ap g2
  rw[tk]at ih
  simp only[jH.c]at cc ap r0
  simp only[go_sem,e1,ix j hj,r0]
  refine aC cc ?_
  cases hP:P b with
  | false=>
   rw[hP]at ih
   simp only[go_sem]
   exact⟨(by unfold I64; omega),ih (_,ov) (by simpa using g.app)⟩
  | true=>
   rw[hP]at ih
   simp only[go_sem,ap]
   refine⟨(by unfold I64; omega),ih (G,_) ?_⟩
   simp only[if_true,List.length_append,List.map_append,List.flatten_append]
   simpa using g2
 ·rintro⟨H,ov⟩ g
  simp only at g ⊢
  refine aP [1,5,8,9,10] aKQ.eq_1 ?_
  have e1:¬(l.length:Int)<l.length:=by omega
  rw[List.take_length]at g
  simp only[go_sem,e1]
  exact⟨g.sub,g.sl (fun c hc=>by obtain⟨z,_,rfl⟩:=List.mem_map.1 hc; rfl) (by simp) (by decide)⟩
def aCJ(d:Int)(b:jH):Bool:=decide (d≤b.til)
theorem aNX{d:Int}{b:jH}{q:Pl}(hq:rd w0 h q=some (.int .i64 d)):aK Tryz.prog w0 87 [.agg b.c,.ptr q] h (.bool (aCJ d b)) h:=by
 simp only[jH.c]
 refine aM mf87_k fun hb ha=> ?_
 have e1:∀L,rd w0 (h++L) q=some (.int .i64 d):=fun L=>fT hq
 simp only[go_sem,mf87,e1]
 rfl
theorem aL0{v:AV}{l:List jH}{d:Int}(hv:rY w0 h v l)(hn:l.length≤1000):ACall Tryz.prog w0 46 [v,.int .i64 d] h fun y H=>aB h H∧rY w0 H y (l.filter (aCJ d)):=by
 refine aO mf46_k fun hb1 ha=> ?_
 simp only[go_sem,mf46]
 have pc:=aOa (w0:=w0) (h:=h++[some (Blk.row [AV.int .i64 d])]) (fv:= .fn (.func 87) [] [.ptr (.own h.length 0)]) (P:=aCJ d) (Sl.sub hv aB.refl.app) hn fun b hb H sH=> @aK.vc _ _ _ [] [_] [_] _ _ _ (aNX (q:= .own h.length 0) (sH.rd (by simp[rd])))
 refine aJ (ACall.v2 pc) ?_
 rintro y H ⟨s1,bv⟩
 simp only[go_sem]
 exact⟨aB.refl.app.trans s1,bv⟩
def hasD(d:Int)(l:List jH):Int:=jE (l.filter (aCJ d))
theorem aJ8{l:List jH}(h:zQ l=true):l.length≤30∧∀b∈l,(1≤b.kilos∧b.kilos≤1000)∧0≤b.til∧b.til≤400:=by
 simp only[zQ,Bool.and_eq_true,decide_eq_true_eq,List.all_eq_true,aEI,inB]at h
 exact⟨h.2,h.1⟩
theorem Has_c{v:AV}{l:List jH}{d:Int}(hv:rY w0 h v l)(hc:zQ l=true)(hd:inB d 0 400=true):ACall Tryz.prog w0 12 [.agg [v],.int .i64 d] h fun y H=>aB h H∧y= .tup [.int .i64 (hasD d l),.int .i64 0]:=by
 obtain⟨ln,lb⟩:=aJ8 hc
 have o1:=Sl.one hv
 refine aO mf12_k fun hb1 ha=> ?_
 simp only[go_sem,mf12,o1.1,o1.2]
 refine aC (aIg (Sl.sub hv aB.refl.app) hc).v ?_
 simp only[go_sem]
 refine aC (aJ5 d 0 400).v ?_
 rw[hd]
 simp only[go_sem]
 refine aJ (ACall.v2 (aL0 (d:=d) (Sl.sub hv aB.refl.app) (by omega))) ?_
 rintro y H ⟨s1,bv⟩
 simp only[go_sem]
 have fl:=List.length_filter_le (aCJ d) l
 refine aC (aNQ bv (fun b hb=>by have:=(lb b (List.mem_filter.1 hb).1).1; omega) (by omega)).v ?_
 simp only[go_sem]
 exact⟨aB.refl.app.trans s1,rfl⟩
end Go.Proofs.Ab

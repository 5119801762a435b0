/- The own layer under the proofs of this seat, part S: what calls of the program come to on an abstract heap. No condition. -/
import Derived.Test.YtiakeffhecpddaaGreatR
import Derived.Test.YtiakeffhecpddaaGreatQ
import Derived.Test.YtiakeffhecpddaaGreatL
set_option linter.unusedSimpArgs false
set_option linter.unusedVariables false
namespace Go.Proofs.Ab
open Go Go.Proofs
def pl0(p:cY):cY:=⟨p.at_,p.home,p.seats,p.duty,0⟩
def pe0(p:cX)(n:Int):cX:=⟨p.at_,p.to,p.seats,n,n⟩
def peL(l:List cX)(paid:List Int):List cX:=List.zipWith pe0 l paid
def rQ(d:aS)(paid:List Int):aS:=⟨d.places,d.links,d.planes.map pl0,peL d.people paid,d.weathers⟩
theorem kP{l:List cX}{paid:List Int}(h:paid.length=l.length):(peL l paid).length=l.length:=by simp[peL,h]
theorem vL{l:List cX}{paid:List Int}{i:Nat}(h:i<l.length)(h2:i<paid.length):(peL l paid)[i]'(by simp[peL]; omega)=pe0 l[i] paid[i]:=by simp[peL]
theorem aJu{n:Nat}{l:List cY}:oA n (l.map pl0)=oA n l:=by
 unfold oA
 generalize List.replicate n (0:Int)=b
 induction l generalizing b with
 | nil=>rfl
 | cons p l ih=>simp only[List.map_cons,List.foldl_cons]; exact ih _
theorem strD_B{d:aS}{paid:List Int}(hB:eL d=true)(hl:paid.length=d.people.length)(hp:∀n∈paid,0≤n∧n≤1000000):eL (rQ d paid)=true:=by
 simp only[eL,rQ,Bool.and_eq_true,decide_eq_true_eq,List.length_map,kP hl,aJu]at hB ⊢
 obtain⟨e1,e2,e3,e4,e5,e6,e7,e8,e9,e10⟩:=hB
 refine⟨e1,decide_eq_true e2,e3,e4,e5,?_,?_,e8,e9,e10⟩
 · rw[List.all_eq_true]at e6 ⊢
   intro p hp
   obtain⟨q,hq,rfl⟩:=List.mem_map.1 hp
   have:=e6 q hq
   simp only[eS,pl0,Bool.and_eq_true]at this ⊢
   exact⟨this.1,this.2.1,this.2.2.1,this.2.2.2.1,rfl⟩
 · rw[List.all_eq_true]at e7 ⊢
   intro p hq
   obtain⟨i,hi,rfl⟩:=List.getElem_of_mem hq
   rw[kP hl]at hi
   rw[vL hi (by omega)]
   have:=e7 _ (qG hi)
   have hn:=hp _ (qG (show i<paid.length by omega))
   simp only[dR,pe0,inB,Bool.and_eq_true,decide_eq_true_eq]at this ⊢
   exact⟨this.1,this.2.1,⟨decide_eq_true this.2.2.1.1,decide_eq_true this.2.2.1.2⟩,⟨decide_eq_true hn.1,decide_eq_true hn.2⟩,⟨decide_eq_true hn.1,decide_eq_true hn.2⟩⟩
def mI(d:aS)(paid:List Int)(s:aK)(i:Nat):Int:=if s.people.getD i 0=(d.people.getD i ⟨0,0,0,0,0⟩).to then 0 else paid.getD i 0
theorem vZ{f g:Nat→Int}:∀n,(∀i,i<n→f i=g i)→iZ f n=iZ g n
 | 0,_=>rfl
 | n+1,h=>by rw[iZ,iZ,vZ n fun i hi=>h i (by omega),h n (by omega)]
theorem aJm{d:aS}{paid:List Int}{s:aK}(hl:paid.length=d.people.length):xC (rQ d paid) s=iZ (mI d paid s) d.people.length:=by
 have h1:iZ (kK (rQ d paid) s) (rQ d paid).planes.length=0:=by
  have:∀n,iZ (kK (rQ d paid) s) n=0:=fun n=>by
   induction n with
   | zero=>rfl
   | succ n ih=>
    rw[iZ,ih,kK]
    have:((rQ d paid).planes.getD n ⟨0,0,0,0,0⟩).away=0:=by
     rw[rQ,List.getD_eq_getElem?_getD,List.getElem?_map]
     cases d.planes[n]? <;> rfl
    rw[this]; split<;>rfl
  exact this _
 rw[xC,h1,Int.zero_add,show(rQ d paid).people.length=d.people.length from kP hl]
 refine vZ _ fun i hi=> ?_
 have e:(rQ d paid).people.getD i ⟨0,0,0,0,0⟩=pe0 d.people[i] (paid[i]'(by omega)):=by
  rw[rQ,List.getD_eq_getElem?_getD,qA (by rw[kP hl]; exact hi),Option.getD_some,vL hi (by omega)]
 have e2:d.people.getD i ⟨0,0,0,0,0⟩=d.people[i]:=aJ hi
 have e3:paid.getD i 0=paid[i]'(by omega):=aJ (by omega)
 rw[jD,mI,e,e2,e3]
 simp only[pe0,ite_self]
end Go.Proofs.Ab
namespace Go.Proofs.Ab
open Go Go.Proofs
variable {w0:World} {h:Heap}
attribute [local irreducible] ACall cG dD aQ bS rvC lp rg dr ex un rv
def lN(d:aS):Bool:=decide (d.places.length≤4)&&(decide (d.links.length≤20)&&(decide (d.planes.length≤2)&&(decide (d.people.length≤3)&&(decide (d.weathers.length≤6)&&(decide (d.planes.length<2)||decide (d.people.length<3))))))
def oV(d:aS):Bool:=d.weathers.all (fun w=>decide (w.length≤3))&&(lN d&&eL d)
theorem aJl{d:aS}(e:oV d=true):eL d=true∧d.places.length≤4∧d.links.length≤20∧d.planes.length≤2∧d.people.length≤3∧d.weathers.length≤6∧∀w∈d.weathers,w.length≤3:=by
 simp only[oV,lN,Bool.and_eq_true,decide_eq_true_eq,List.all_eq_true]at e
 obtain⟨e1,⟨e2,e3,e4,e5,e6,_⟩,e7⟩:=e
 exact⟨e7,e2,e3,e4,e5,e6,e1⟩
theorem DayS.R11{d:aS}{v:cS}(s:DayS w0 h d v)(e:d.places.length≤4∧d.links.length≤20∧d.planes.length≤2∧d.people.length≤3∧d.weathers.length≤6∧∀w∈d.weathers,w.length≤3):jX w0 h d v:=
 ⟨s,by omega,by omega,by omega,by omega,by omega,fun w hw=>by have:=e.2.2.2.2.2 w hw; omega⟩
set_option maxRecDepth 20000 in
theorem aOO(d:aS)(v:cS)(hS:DayS w0 h d v)(hW:d.weathers.length≤9223372036854775807):aQ Tryz.prog w0 15 [.agg (aY v)] h (.bool (oV d)) h:=by
 refine aF aH aMS mf15_b mf15_g (qE rfl) (by simp[AV.bdd,AV.bdds]) fun hb ha=>aM ?_
 obtain⟨y1,y2,y3,y4,y5⟩:=hS.ones
 obtain⟨l1,l2,l3,l4,l5⟩:=hS.lens
 obtain⟨K,eK⟩:∃K,K=h++[some (Blk.row [v.pl,v.ln,v.pn,v.pe,v.we])]:=⟨_,rfl⟩
 have sK:aB h K:=eK▸aB.refl.app
 have k0:K[h.length]? = some (some (.row [v.pl,v.ln,v.pn,v.pe,v.we])):=by rw[eK]; simp
 have k0L:=xL k0
 simp only[go_sem,mf15,aY,y1,y2,y3,y4,y5]
 rw[←eK]
 refine dH (fun j=>[(1,.ptr (.own h.length 0)),(3,.int .i64 j)]) (fun j=>(d.weathers.getD j []).length≤3) d.weathers.length rfl (fun j hj hall ih=> ?_) (fun hall=> ?_)
 · refine aD aH aFb [1,3] L15_0.eq_1 ?_
   have e1:(j:Int)<d.weathers.length:=by omega
   obtain⟨p,x,i1,r1,s1⟩:=(hS.sub sK).weathers.at_ hj
   have lx:=(SlI.use s1).1
   have r1':=r1 []
   rw[List.append_nil]at r1'
   have gj:d.weathers.getD j []=d.weathers[j]:=aJ hj
   rw[gj]at ih
   simp only[go_sem,k0,k0L,l5,e1,i1,r1,r1',lx]
   refine⟨fun c=> ?_,fun c=>⟨(by unfold I64; omega),ih (by omega)⟩⟩
   have:d.weathers.all (fun w=>decide (w.length≤3))=false:=List.all_eq_false.2 ⟨_,qG hj,by simp; omega⟩
   rw[oV,this]
   exact⟨rfl,_,eK⟩
 · refine aD aH aFb [1,3] L15_0.eq_1 ?_
   have e1:¬(d.weathers.length:Int)<d.weathers.length:=by omega
   have hw:d.weathers.all (fun w=>decide (w.length≤3))=true:=List.all_eq_true.2 fun w hw=>by
    obtain⟨i,hi,rfl⟩:=List.getElem_of_mem hw
    have:=hall i hi
    rw[aJ hi]at this
    exact decide_eq_true this
   have b5:oV d=(lN d&&eL d):=by rw[oV,hw,Bool.true_and]
   have no:lN d=false→oV d=false:=fun e=>by rw[b5,e]; rfl
   by_cases c1:(d.places.length:Int)≤4
   rotate_left
   · simp only[go_sem,k0,k0L,l1,l5,e1,c1]
     rw[no (by rw[lN,decide_eq_false (p:=d.places.length≤4) (by omega)]; rfl)]
     exact⟨rfl,_,eK⟩
   by_cases c2:(d.links.length:Int)≤20
   rotate_left
   · simp only[go_sem,k0,k0L,l1,l2,l5,e1,c1,c2]
     rw[no (by rw[lN,decide_eq_false (p:=d.links.length≤20) (by omega)]; simp)]
     exact⟨rfl,_,eK⟩
   by_cases c3:(d.planes.length:Int)≤2
   rotate_left
   · simp only[go_sem,k0,k0L,l1,l2,l3,l5,e1,c1,c2,c3]
     rw[no (by rw[lN,decide_eq_false (p:=d.planes.length≤2) (by omega)]; simp)]
     exact⟨rfl,_,eK⟩
   by_cases c4:(d.people.length:Int)≤3
   rotate_left
   · simp only[go_sem,k0,k0L,l1,l2,l3,l4,l5,e1,c1,c2,c3,c4]
     rw[no (by rw[lN,decide_eq_false (p:=d.people.length≤3) (by omega)]; simp)]
     exact⟨rfl,_,eK⟩
   by_cases c5:(d.weathers.length:Int)≤6
   rotate_left
   · simp only[go_sem,k0,k0L,l1,l2,l3,l4,l5,e1,c1,c2,c3,c4,c5]
     rw[no (by rw[lN,decide_eq_false (p:=d.weathers.length≤6) (by omega)]; simp)]
     exact⟨rfl,_,eK⟩
   have hb:lN d=(decide (d.planes.length<2)||decide (d.people.length<3)):=by
    rw[lN,decide_eq_true (p:=d.places.length≤4) (by omega),decide_eq_true (p:=d.links.length≤20) (by omega),decide_eq_true (p:=d.planes.length≤2) (by omega),decide_eq_true (p:=d.people.length≤3) (by omega),decide_eq_true (p:=d.weathers.length≤6) (by omega)]
    rfl
   have hR:jX w0 K d v:=(hS.sub sK).R11 ⟨by omega,by omega,by omega,by omega,by omega,fun w hw=>by
    obtain⟨i,hi,rfl⟩:=List.getElem_of_mem hw
    have:=hall i hi
    rwa [aJ hi]at this⟩
   by_cases c6:(d.planes.length:Int)<2
   · simp only[go_sem,k0,k0L,l1,l2,l3,l4,l5,e1,c1,c2,c3,c4,c5,c6,y1,y2,y3,y4,y5]
     refine aC (aHg d v hR).v ?_
     simp only[go_sem]
     rw[b5,hb,decide_eq_true (p:=d.planes.length<2) (by omega)]
     exact⟨rfl,_,eK⟩
   by_cases c7:(d.people.length:Int)<3
   · simp only[go_sem,k0,k0L,l1,l2,l3,l4,l5,e1,c1,c2,c3,c4,c5,c6,c7,y1,y2,y3,y4,y5]
     refine aC (aHg d v hR).v ?_
     simp only[go_sem]
     rw[b5,hb,decide_eq_true (p:=d.people.length<3) (by omega),Bool.or_true]
     exact⟨rfl,_,eK⟩
   · simp only[go_sem,k0,k0L,l1,l2,l3,l4,l5,e1,c1,c2,c3,c4,c5,c6,c7]
     rw[no (by rw[hb,decide_eq_false (p:=d.planes.length<2) (by omega),decide_eq_false (p:=d.people.length<3) (by omega)]; rfl)]
     exact⟨rfl,_,eK⟩
theorem aFA(am:Int):lC am 1 1=[am]:=by
 simp[lC,aDX]
def BackK(h:Heap)(am:Int)(b:Bool)(y:AV)(H:Heap):Prop:=aB h H∧∃e c k:Int,y= .tup [.agg [.int .i64 e,.int .i64 (if b then 0 else am),.int .i64 c,.int .i64 k],.int .i64 0]
set_option maxRecDepth 20000 in
theorem Back_c{v fv:AV}{am:Int}{b:Bool}(hv:SlI w0 h v [1])(hf:Sl w0 h 1 fv [[.bool b]])(hat:0≤am∧am≤1000000000):ACall Tryz.prog w0 21 [.agg [.int .i64 1000,.int .i64 0],.int .i64 am,v,fv] h (BackK h am b):=by
 refine aR aH aLY mf21_b mf21_g (qE rfl) fun hb1 ha1=>aM ?_
 rw[List.append_nil]
 obtain⟨K,eK⟩:∃K,K=h++[some (Blk.row [.int .i64 1000,.int .i64 0]),some (Blk.row [.int .i64 0,.int .i64 0,.int .i64 0,.int .i64 0])]:=⟨_,rfl⟩
 have sK:aB h K:=by rw[eK]; exact aB.refl.app
 have k0:K[h.length]? = some (some (.row [.int .i64 1000,.int .i64 0])):=by rw[eK,qI (by omega)]; simp
 have k1:K[h.length+1]? = some (some (.row [.int .i64 0,.int .i64 0,.int .i64 0,.int .i64 0])):=by rw[eK,qI (by omega)]; simp
 have k0L:=xL k0
 have k1L:=xL k1
 have ib:inB am 0 1000000000=true:=by simp[inB]; omega
 have ln:=(SlI.use hv).1
 obtain⟨lf,fq,fi,fr,_⟩:=hf.use
 have hv1:SlI w0 K v (List.replicate 1 1):=Sl.sub hv sK
 simp only[go_sem,mf21]
 rw[←eK]
 refine aC (rF hv1 (by omega) ib).v ?_
 simp only[go_sem]
 refine aC (rF hv1 (by omega) ib).v ?_
 simp only[go_sem,k0,k0L]
 refine aC (aEp 1000 0 1000).v ?_
 rw[show inB 1000 0 1000=true from rfl]
 simp only[go_sem,k0,k0L]
 refine aC (aEp 0 0 1000).v ?_
 rw[show inB 0 0 1000=true from rfl]
 simp only[go_sem,k0,k0L,ln,lf]
 obtain⟨K2,eK2⟩:∃K2,K2=K++[some (Blk.row [.int .i64 0,.int .i64 0,.int .i64 0,.int .i64 0])]:=⟨_,rfl⟩
 have sK2:aB K K2:=by rw[eK2]; exact aB.refl.app
 have k2:K2[K.length]? = some (some (.row [.int .i64 0,.int .i64 0,.int .i64 0,.int .i64 0])):=by rw[eK2]; simp
 rw[←eK2]
 refine⟨(by unfold I64; omega),?_⟩
 refine aP (ACall.vc (first:=[]) (args:=[_,_]) (aDQ (n:=1) (Sl.sub hv1 sK2) (by omega) hat)) ?_
 rintro z H ⟨s1,hz⟩
 rw[aFA]at hz
 have lz:=(SlI.use hz).1
 obtain⟨zp,iz,rz,rz'⟩:=hz.at_ (j:=0) (by simp)
 have g1:=(sK2.trans s1).2 _ _ k1
 have g0:=(sK2.trans s1).2 _ _ k0
 have g2:=s1.2 _ _ k2
 have g0L:=xL g0
 have g2L:=xL g2
 have sh:aB h H:=(sK.trans sK2).trans s1
 have fi0:=fi 0 (by simp)
 have fr0:∀L,rd w0 (H++L) (fq.add 0)=some (.bool b):=fun L=>aFG ((sh.app (L:=L)).rdn (by simpa using fr 0 [.bool b] rfl)) rfl
 have c1:((1:Nat):Int)=1:=rfl
 have g2':=g2
 have g1L:=xL g1
 simp only[go_sem,lz]
 refine aD aH aAL [3,4,8,11,57,58,59] L21_0.eq_1 ?_
 have set1:∀(X:List AV),(H.set K.length (some (.row X)))[K.length]? = some (some (.row X)):=fun X=>qF (aI g2)
 have nle:¬(1:Int)<1:=by decide
 have fr00:=fr0 []
 rw[List.append_nil]at fr00
 have am0:([am]:List Int)[0]=am:=rfl
 have td:(am*1000).tdiv 1000=am:=Int.mul_tdiv_cancel _ (by decide)
 have t0:Int.tdiv 0 1000=0:=by decide
 have sset:∀X Y,(H.set K.length X).set K.length Y=H.set K.length Y:=fun X Y=>List.set_set _
 have e1:∀X,(H.set K.length X)[h.length+1]? = H[h.length+1]? := fun X=>qB (by have:=aI k1; omega)
 have e2:∀X Y,((H.set K.length X).set (h.length+1) (some Y))[h.length+1]? = some (some Y):=fun X Y=>qF (by rw[List.length_set]; exact aI g1)
 have hK1:h.length≤K.length:=sK.1
 cases b with
 | true=>
  simp only[go_sem,iz,rz,rz',fi0,fr0,fr00,c1,g0,g0L,g2,g2L,am0]
  refine⟨(by unfold I64; omega),(by unfold I64; omega),?_⟩
  refine aD aH aAL [3,4,8,11,57,58,59] L21_0.eq_1 ?_
  simp only[go_sem,set1,e1,e2,g1]
  exact⟨(sh.setR (by omega)).setR (by omega),_,_,_,rfl⟩
 | false=>
  simp (disch:=(unfold I64; omega)) only[go_sem,cV,iz,rz,rz',fi0,fr0,fr00,c1,g0,g0L,g2,g2L,am0,td,t0,set1,sset,Int.mul_zero]
  refine⟨(by unfold I64; omega),(by unfold I64; omega),(by unfold I64; omega),(by unfold I64; omega),(by unfold I64; omega),(by unfold I64; omega),?_⟩
  refine⟨by unfold I64; omega,by unfold I64; omega,?_⟩
  refine aD aH aAL [3,4,8,11,57,58,59] L21_0.eq_1 ?_
  simp only[go_sem,set1,e1,e2,g1]
  exact⟨(sh.setR (by omega)).setR (by omega),0,0,0+(am - am - 0),by simp⟩
theorem Gro.rows{K H:Heap}{es n:Nat}{ov:AV}{rows:List (List AV)}{xb:Nat}(g:Gro K H es n ov rows.flatten)(hk:K[xb]? = some none)(hr:∀c∈rows,c.length=es)(hn:n=rows.length)(hes:es≠0):Sl w0 (H.set xb none) es ov rows:=(g.setN (b:=none) hk).sl hr hn hes
set_option maxRecDepth 20000 in
theorem yF(d:aS)(v:cS)(pv:AV)(paid:List Int)(w:Int)(hS:DayS w0 h d v)(hW:d.weathers.length≤9223372036854775807)(hP:SlI w0 h pv paid):ACall Tryz.prog w0 4 [.agg (aY v),pv,.int .i64 w] h fun y H=>y= .bool true∧aB h H:=by
 refine aR aH mf4_ok mf4_b mf4_g (qE rfl) fun hb ha=>aM ?_
 rw[List.append_nil]
 obtain⟨y1,y2,y3,y4,y5⟩:=hS.ones
 obtain⟨l1,l2,l3,l4,l5⟩:=hS.lens
 have lnp:=(SlI.use hP).1
 obtain⟨K,eK⟩:∃K,K=h++[some (Blk.row [v.pl,v.ln,v.pn,v.pe,v.we])]:=⟨_,rfl⟩
 have sK:aB h K:=eK▸aB.refl.app
 have k0:K[h.length]? = some (some (.row [v.pl,v.ln,v.pn,v.pe,v.we])):=by rw[eK]; simp
 have k0L:=xL k0
 have lK:K.length=h.length+1:=by rw[eK]; simp
 simp only[go_sem,mf4,aY,y1,y2,y3,y4,y5]
 rw[←eK]
 refine aC (aOO d v (hS.sub sK) hW).v ?_
 cases e1:oV d with
 | false=>
  simp only[go_sem]
  refine aC nN.v ?_
  simp only[go_sem]
  exact sK
 | true=>
 by_cases t1:w<0
 · simp only[go_sem,t1]
   refine aC nN.v ?_
   simp only[go_sem]
   exact sK
 by_cases t2:(d.weathers.length:Int)≤w
 · have t2':w≥(d.weathers.length:Int):=t2
   simp only[go_sem,t1,k0,k0L,l5,t2,t2']
   refine aC nN.v ?_
   simp only[go_sem]
   exact sK
 have t2':¬w≥(d.weathers.length:Int):=t2
 by_cases t3:paid.length=d.people.length
 rotate_left
 · have t3':¬(paid.length:Int)=d.people.length:=by omega
   simp only[go_sem,t1,k0,k0L,l4,l5,t2,t2',lnp,t3']
   refine aC nN.v ?_
   simp only[go_sem]
   exact sK
 have t3':(paid.length:Int)=d.people.length:=by omega
 obtain⟨n,rfl⟩:∃n:Nat,w=n:=⟨w.toNat,by omega⟩
 have hn:n<d.weathers.length:=by omega
 obtain⟨hB,m1,m2,m3,m4,m5,m6⟩:=aJl e1
 obtain⟨K1,eK1⟩:∃K1,K1=K++[some (Blk.row [v.pl,v.ln,.nilS,.nilS,v.we])]:=⟨_,rfl⟩
 simp only[go_sem,t1,k0,k0L,l4,l5,t2,t2',lnp,t3',y1,y2,y3,y4,y5]
 rw[←eK1]
 have lK1:K1.length=h.length+2:=by rw[eK1]; simp[lK]
 have x1:K1[K.length]? = some (some (.row [v.pl,v.ln,.nilS,.nilS,v.we])):=by rw[eK1]; simp
 obtain⟨Kb,eKb⟩:∃Kb,Kb=K1.set K.length none:=⟨_,rfl⟩
 have xb:Kb[K.length]? = some none:=by rw[eKb]; exact qF (by omega)
 have sub1:aB Kb K1:=⟨by rw[eKb,List.length_set]; exact Nat.le_refl _,fun i b e=>by
  by_cases hi:K.length=i
  · subst hi; rw[xb]at e; cases e
  · rw[eKb,qB hi]at e; exact e⟩
 have sKb:aB h Kb:=⟨by rw[eKb,List.length_set]; omega,fun i b e=>by
  have:=aI e
  rw[eKb,qB (by omega),eK1]
  exact sK.app.2 i b e⟩
 have b0:Kb[h.length]? = some (some (.row [v.pl,v.ln,v.pn,v.pe,v.we])):=by
  rw[eKb,qB (by omega),eK1]; exact aA k0
 refine bN (S:=Heap×AV) (fun j s=>[(1,pv),(2,.int .i64 n),(3,.ptr (.own h.length 0)),(7,.ptr (.own K.length 0)),(8,.int .i64 j)]) (fun _ s=>s.1)
  (fun j s=>s.1[K.length]? = some (some (.row [v.pl,v.ln,s.2,.nilS,v.we]))∧Gro Kb s.1 5 j s.2 (((d.planes.take j).map fun p=>(pl0 p).c).flatten)) d.planes.length (K1,.nilS) ⟨x1,Gro.nil sub1⟩ rfl rfl ?_ ?_
 · rintro j ⟨X,ov⟩ hj ⟨xX,g⟩ ih
   simp only at xX g ih ⊢
   refine aD aH aKd [1,2,3,7,8] L4_0.eq_1 ?_
   have c1:(j:Int)<d.planes.length:=by omega
   have bX:=g.sub.2 _ _ b0
   have bXL:=xL bX
   have xXL:=xL xX
   obtain⟨q,i1,r1⟩:=(hS.sub (sKb.trans g.sub)).plane hj
   have r1':=r1 []
   rw[List.append_nil]at r1'
   obtain⟨x,ex⟩:∃x,x=d.planes[j]:=⟨_,rfl⟩
   rw[←ex]at r1 r1'
   have co:=g.gro1
   obtain⟨G,ap,g2⟩:=((g.at1 xX).app (L:=[some (Blk.row (pl0 x).c),some (Blk.row (pl0 x).c)])).more (w0:=w0) (b:=40) (k:=X.length+1) (x:=(pl0 x).c) (f:=true) (by simp) rfl rfl (by omega) (by omega)
   have gl:(X++[some (Blk.row (pl0 x).c),some (Blk.row (pl0 x).c)]).length=X.length+2:=by simp
   rw[gl]at ap g2
   obtain⟨g3,w8⟩:=g2.unat xb
   have tk:((d.planes.take (j+1)).map fun p=>(pl0 p).c).flatten=((d.planes.take j).map fun p=>(pl0 p).c).flatten++(pl0 x).c:=by
    rw[List.take_succ_eq_append_getElem hj,←ex]; simp
   rw[tk]at ih
   simp only[cY.c,pl0]at r1 r1' ap g3 ih
   simp only[go_sem,bX,bXL,xX,xXL,l3,c1,i1,r1,r1',ap,w8,co.1,co.2]
   exact⟨(by unfold I64; omega),ih (_,_) ⟨qF (aI w8),g3.setN xb⟩⟩
 rintro⟨X,ov⟩ ⟨xX,g⟩
 simp only at xX g ⊢
 refine aD aH aKd [1,2,3,7,8] L4_0.eq_1 ?_
 have c1:¬(d.planes.length:Int)<d.planes.length:=by omega
 have bX:=g.sub.2 _ _ b0
 have bXL:=xL bX
 simp only[go_sem,bX,bXL,l3,c1]
 rw[List.take_length]at g
 have sl1:=g.rows (w0:=w0) (rows:=d.planes.map fun p=>(pl0 p).c) xb (fun c hc=>by obtain⟨z,_,rfl⟩:=List.mem_map.1 hc; rfl) (by simp) (by decide)
 obtain⟨K2,eK2⟩:∃K2,K2=X.set K.length none:=⟨_,rfl⟩
 have lX:=g.sub.1
 rw[eKb,List.length_set]at lX
 have xb2:K2[K.length]? = some none:=by rw[eK2]; exact qF (by omega)
 have subX:aB K2 X:=⟨by rw[eK2,List.length_set]; exact Nat.le_refl _,fun i b e=>by
  by_cases hi:K.length=i
  · subst hi; rw[xb2]at e; cases e
  · rw[eK2,qB hi]at e; exact e⟩
 have sub2:aB Kb K2:=⟨by rw[eK2,List.length_set]; exact g.sub.1,fun i b e=>by
  have:K.length≠i:=fun hi=>by subst hi; rw[xb]at e; cases e
  rw[eK2,qB this]; exact g.sub.2 i b e⟩
 rw[←eK2]at sl1
 have b2:=sub2.2 _ _ b0
 have sh2:=sKb.trans sub2
 have ov1:=g.gro1
 refine bN (S:=Heap×AV) (fun j s=>[(1,pv),(2,.int .i64 n),(3,.ptr (.own h.length 0)),(7,.ptr (.own K.length 0)),(10,.int .i64 j)]) (fun _ s=>s.1)
  (fun j s=>s.1[K.length]? = some (some (.row [v.pl,v.ln,ov,s.2,v.we]))∧Gro K2 s.1 5 j s.2 (((peL d.people paid).take j).map cX.c).flatten∧∀i,i<j→0≤paid.getD i 0∧paid.getD i 0≤1000000) d.people.length (X,.nilS) ⟨xX,Gro.nil subX,fun i hi=>by omega⟩ rfl rfl ?_ ?_
 · rintro j ⟨Y,ov2⟩ hj ⟨xY,g,hpd⟩ ih
   simp only at xY g hpd ih ⊢
   refine aD aH aKc [1,2,3,7,10] L4_1.eq_1 ?_
   have c1:(j:Int)<d.people.length:=by omega
   have bY:=g.sub.2 _ _ b2
   have bYL:=xL bY
   have xYL:=xL xY
   have shY:=sh2.trans g.sub
   obtain⟨q,i1,r1⟩:=(hS.sub shY).person hj
   have r1':=r1 []
   rw[List.append_nil]at r1'
   obtain⟨p2,i2,r2,r2'⟩:=SlI.at_ (Sl.sub hP shY) (j:=j) (by omega)
   have hjp:j<paid.length:=by omega
   obtain⟨a,ea⟩:∃a,a=paid[j]:=⟨_,rfl⟩
   have hga:paid.getD j 0=a:=by rw[ea]; exact aJ hjp
   rw[←ea]at r2 r2'
   by_cases z1:a<0
   · simp only[go_sem,bY,bYL,l4,c1,i2,r2,r2',z1]
     refine aC nN.v ?_
     simp only[go_sem]
     exact shY
   by_cases z2:1000000<a
   · simp only[go_sem,bY,bYL,l4,c1,i2,r2,r2',z1,z2]
     refine aC nN.v ?_
     simp only[go_sem]
     exact shY
   obtain⟨x,ex⟩:∃x,x=d.people[j]:=⟨_,rfl⟩
   rw[←ex]at r1 r1'
   have co:=g.gro1
   have hpg:(peL d.people paid)[j]'(by rw[kP t3]; exact hj)=pe0 x a:=by rw[vL hj hjp,ex,ea]
   obtain⟨G,ap,g2⟩:=((g.at1 xY).app (L:=[some (Blk.row (pe0 x a).c),some (Blk.row (pe0 x a).c)])).more (w0:=w0) (b:=40) (k:=Y.length+1) (x:=(pe0 x a).c) (f:=true) (by simp) rfl rfl (by omega) (by omega)
   have gl:(Y++[some (Blk.row (pe0 x a).c),some (Blk.row (pe0 x a).c)]).length=Y.length+2:=by simp
   rw[gl]at ap g2
   obtain⟨g3,w8⟩:=g2.unat xb2
   have tk:(((peL d.people paid).take (j+1)).map cX.c).flatten=(((peL d.people paid).take j).map cX.c).flatten++(pe0 x a).c:=by
    rw[List.take_succ_eq_append_getElem (by rw[kP t3]; exact hj),hpg]; simp
   rw[tk]at ih
   simp only[cX.c,pe0]at r1 r1' ap g3 ih
   simp only[go_sem,bY,bYL,l4,c1,i1,r1,r1',i2,r2,r2',z1,z2]
   refine iB aH [0,1,2,3,4,5,6,7,8,9,10,11] [o_ 97 (m_ 1),o_ 98 (m_ 10),o_ 99 (.idxs 1 (.t 97) (.t 98)),o_ 100 (l_ 99),o_ 101 (m_ 1),o_ 102 (m_ 10),o_ 103 (.idxs 1 (.t 101) (.t 102)),o_ 104 (l_ 103),o_ 105 (.addr (.t 11) 3),.op none none (.store (.t 105) (.t 100) 1)] [([(7,o_ 104 (l_ 103))],[o_ 106 (.addr (.t 11) 4),.op none none (.store (.t 106) (.t 104) 1)])] rfl rfl (by kernel_rfl) ?_
   simp only[go_sem,i2,r2,r2',xY,xYL,ap,w8,co.1,co.2]
   refine⟨(by unfold I64; omega),ih (_,_) ⟨qF (aI w8),g3.setN xb2,fun i hi=> ?_⟩⟩
   rcases Nat.lt_or_ge i j with hl | hl
   · exact hpd i hl
   · obtain rfl:i=j:=by omega
     rw[hga]; omega
 rintro⟨Y,ov2⟩ ⟨xY,g,hpd⟩
 simp only at xY g hpd ⊢
 refine aD aH aKc [1,2,3,7,10] L4_1.eq_1 ?_
 have c1:¬(d.people.length:Int)<d.people.length:=by omega
 have bY:=g.sub.2 _ _ b2
 have bYL:=xL bY
 have shY:=sh2.trans g.sub
 have co2:=g.gro1
 rw[List.take_of_length_le (by rw[kP t3]; exact Nat.le_refl _)]at g
 have sl2:=g.sl (w0:=w0) (rows:=(peL d.people paid).map cX.c) (fun c hc=>by obtain⟨z,_,rfl⟩:=List.mem_map.1 hc; rfl) (by simp[kP t3]) (by decide)
 have hpaid:∀z∈paid,0≤z∧z≤1000000:=fun z hz=>by
  obtain⟨i,hi,rfl⟩:=List.getElem_of_mem hz
  have:=hpd i (by omega)
  rwa [aJ hi]at this
 obtain⟨D,eD⟩:∃D,D=rQ d paid:=⟨_,rfl⟩
 obtain⟨u,eu⟩:∃u:cS,u=⟨v.pl,v.ln,ov,ov2,v.we⟩:=⟨_,rfl⟩
 have hSD:DayS w0 Y D u:=by
  rw[eD,eu]
  have hY:=hS.sub shY
  refine⟨hY.places,hY.links,?_,sl2,hY.weathers⟩
  have:=sl1.sub g.sub
  simpa[rQ,List.map_map,Function.comp_def]using this
 have hBD:eL D=true:=eD▸strD_B hB t3 hpaid
 have dp:D.people.length=d.people.length:=by rw[eD]; exact kP t3
 have dw:D.weathers=d.weathers:=by rw[eD]; rfl
 have hR:jX w0 Y D u:=hSD.R11 ⟨by rw[eD]; exact m1,by rw[eD]; exact m2,by rw[eD]; simpa[rQ]using m3,by omega,by rw[dw]; exact m5,by rw[dw]; exact m6⟩
 have xY':Y[K.length]? = some (some (.row [u.pl,u.ln,u.pn,u.pe,u.we])):=by rw[eu]; exact xY
 have xYL:=xL xY'
 have hnD:n<D.weathers.length:=by rw[dw]; exact hn
 obtain⟨y1,y2,y3,y4,y5⟩:=hSD.ones
 obtain⟨l1,l2,l3,l4',l5⟩:=hSD.lens
 have dg:=oU hBD
 clear k0L
 simp only[go_sem,bY,bYL,l4,c1,xY',xYL,y1,y2,y3,y4,y5]
 refine aP (ACall.vc (first:=[]) (args:=[_]) (best_c D u hR)) ?_
 rintro y H1 ⟨s1,hyes,_⟩
 obtain⟨qv,rfl,hQ⟩:=hyes hBD
 obtain⟨pol,epol⟩:∃p,p=(mF D).1:=⟨_,rfl⟩
 obtain⟨V,eV⟩:∃V,V=(mF D).2:=⟨_,rfl⟩
 rw[←epol]at hQ
 rw[←eV]
 have m0:=s1.2 _ _ xY'
 have m0L:=xL m0
 have hR1:=hR.sub s1
 have hPB:aAl D pol=true:=epol▸aOW hBD
 have ok:=aKX hPB
 have hsl:=dg.s1
 have hw1:=dg.w1
 have hlen:=ok.len
 have uok:∀r∈pol,r.length<1000000∧∀u∈r,u.length<1000000∧∀x∈u,x.people.length<1000000:=fun r hr=>by
  obtain⟨i,hi,rfl⟩:=List.getElem_of_mem hr
  have hri:=ok.row i hi
  refine⟨by omega,fun u hu=> ?_⟩
  obtain⟨j,hj,rfl⟩:=List.getElem_of_mem hu
  have hub:=(aDK (ok.un i hi j hj)).ok dg.pe
  have h1:=hub.len
  have h2:=dg.pn
  exact⟨by omega,hub.pl⟩
 simp only[go_sem,m0,m0L,y1,y2,y3,y4,y5]
 refine aC (aFD hR1 hQ (List.length_pos_iff.1 dg.w0) (by omega) (by omega) uok).v ?_
 rw[hPB]
 simp only[go_sem,m0,m0L,y1,y2,y3,y4,y5]
 refine aP (ACall.vc (first:=[]) (args:=[_]) (aA9 D u hR1)) ?_
 rintro y H2 ⟨s2,nv,rfl,hst⟩
 obtain⟨o1,o2,o3⟩:=hst.ones
 simp only[go_sem,stC,o1,o2,o3]
 have hnp:n<pol.length:=by omega
 have hI0:xO D (pol.getD n []) V n 0 (cF D):=by rw[epol,eV]; exact zU hBD hnD
 have hrow:pol.getD n []=pol[n]:=aJ hnp
 rw[hrow]at hI0
 have hrl:=ok.row n hnp
 obtain⟨M0,eM0⟩:∃M0,M0=H2++[some (Blk.row [nv.pl,nv.le,nv.pe])]:=⟨_,rfl⟩
 have sM0:aB H2 M0:=eM0▸aB.refl.app
 rw[←eM0]
 refine bN (S:=Heap×aK×StV) (fun t st=>[(1,pv),(2,.int .i64 n),(7,.ptr (.own K.length 0)),(12,qv),(13,.int .i64 V),(15,.ptr (.own H2.length 0)),(16,.int .i64 t)]) (fun _ st=>st.1)
  (fun t st=>aB H2 st.1∧st.1[H2.length]? = some (some (.row (stC st.2.2)))∧StS w0 (msk [H2.length] st.1) st.2.1 st.2.2∧xO D pol[n] V n t st.2.1) (aO D) (M0,cF D,nv) ⟨sM0,by rw[eM0]; simp[stC],?_,hI0⟩ rfl rfl (fun t st ht I ih=> ?_) (fun st I=> ?_)
 · have:=(aB.toK (C:=[]) sM0).mskm (ms:=[]) (ns:=[H2.length]) (by simp) fun c hc=> .inr (by simp only[List.mem_singleton]at hc; omega)
   exact hst.sub (by simpa[msk]using this)
 · refine aD aH aKb [1,2,7,12,13,15,16] L4_2.eq_1 ?_
   obtain⟨M,s,sv⟩:=st
   obtain⟨sM,hk,hs,hWk⟩:=I
   simp only at sM hk hs hWk ih ⊢
   have sKM:=s1.trans (s2.trans sM)
   have hPM:=hQ.sub (s2.trans sM)
   have hRM:=hR.sub sKM
   obtain⟨pj,xj,ij,tj,tj',sxj⟩:=hPM.row hnp
   have lxj:=NS.len sxj
   obtain⟨h1,hub,hf1,hf2,hW2⟩:=yI dg hnD hWk ht
   obtain⟨p2,uv,i2,t2',t2'',hU⟩:=aGI sxj h1
   have i5:(t:Int)<pol[n].length:=by omega
   have n0:=sKM.2 _ _ xY'
   have n0L:=xL n0
   obtain⟨h2,ew,ew0,ew1⟩:=wAt_bd dg hnD ht
   obtain⟨pw,xw,iw,tw,sw⟩:=hRM.toDayS.weathers.at_ hnD
   obtain⟨po,io,ro,ro'⟩:=SlI.at_ sw h2
   obtain⟨v1,v2,v3⟩:=(hs.sub bO).ones
   have hkL:=xL hk
   have hk':=hk
   simp only[stC]at hk'
   have tw':=tw []
   rw[List.append_nil]at tw'
   rw[←ew]at ro ro'
   have hsn:=hWk.2.2.1
   have huu:=(uok _ (qG hnp)).2 _ (qG h1)
   have hsl2:=hsn.s1
   have hsl3:=hsn.s2
   have hsl4:=hsn.s3
   have dpn:=dg.pn
   have dpe:=dg.pe
   simp only[go_sem,ij,tj,tj',lxj,i5,hk',hkL,v1,v2,v3,n0,n0L,iw,tw,tw',io,ro,ro',y1,y2,y3,y4,y5,i2,t2',t2'']
   refine aP (ACall.vc (first:=[]) (args:=[_,_,_,_]) (Fly_c D u s sv (wAt D n t) pol[n][t] uv hRM (hs.sub bO) hU (by omega) (by omega) (by omega) huu.1 huu.2)) ?_
   rintro y H3 ⟨s3,nw,rfl,hnw,how⟩
   have hok:oL D s (wAt D n t) pol[n][t]=true:=by
    rw[oL,hBD,wA hsn (by omega),aKz hBD hnD ht,hub]; rfl
   have how:=how hok
   rw[aBE,if_pos hok]at hnw how ⊢
   simp only[hf1,hf2]at hnw how ⊢
   obtain⟨s',es'⟩:∃s',s'=(dZ D s (wAt D n t) pol[n][t]).1:=⟨_,rfl⟩
   rw[←es']at hnw how hW2
   obtain⟨u1,u2,u3⟩:=hnw.ones
   obtain⟨H4,eH4⟩:∃H4,H4=H3++[some (Blk.row [nw.pl,nw.le,nw.pe])]:=⟨_,rfl⟩
   have s4:aB H3 H4:=eH4▸aB.refl.app
   have f1:H4[H3.length]? = some (some (.row [nw.pl,nw.le,nw.pe])):=by rw[eH4]; simp
   have f1L:=xL f1
   have s34:=s3.trans s4
   have f3:=s34.2 _ _ hk'
   have f0:=s34.2 _ _ n0
   have f0L:=xL f0
   simp only[go_sem,stC,u1,u2,u3]
   rw[←eH4]
   have hsn2:=hW2.2.2.1
   have hm1:=hsn2.s1
   have hm3:=hsn2.s3
   simp only[go_sem,f0,f0L,f1,f1L,u1,u2,u3,y1,y2,y3,y4,y5]
   refine aC (aHb D u s' nw (hRM.sub s34) (hnw.sub s4) (by omega) (by omega)).v ?_
   rw[wA hsn2 (by omega)]
   simp only[go_sem,f1,f1L,u1,u2,u3,f3]
   have lM:=aI hk
   have l3':=s3.1
   have hso:StS w0 (msk [H2.length] H4) s' nw:=(how.st (C:=[H2.length]) fun i hi=>by simp only[List.mem_singleton]at hi; omega).sub (aFX s4)
   have:=ih (H4.set H2.length (some (.row (stC nw))),s',nw) ⟨(sM.trans s34).setR (Nat.le_refl _),by simp only; exact qF (aI f3),by simp only; rw[sO (by simp)]; exact hso,hW2⟩
   exact⟨(by unfold I64; omega),by simpa[stC]using this⟩
 refine aD aH aKb [1,2,7,12,13,15,16] L4_2.eq_1 ?_
 obtain⟨M,s,sv⟩:=st
 obtain⟨sM,hk,hs,hWk⟩:=I
 simp only at sM hk hs hWk ⊢
 have sKM:=s1.trans (s2.trans sM)
 have hRM:=hR.sub sKM
 obtain⟨pj,xj,ij,tj,tj',sxj⟩:=(hQ.sub (s2.trans sM)).row hnp
 have lxj:=NS.len sxj
 have i5:¬(aO D:Int)<pol[n].length:=by omega
 have n0:=sKM.2 _ _ xY'
 have n0L:=xL n0
 have hsU:=hs.sub bO
 obtain⟨v1,v2,v3⟩:=hsU.ones
 obtain⟨q1,q2,q3⟩:=hsU.lens
 have hkL:=xL hk
 have hk':=hk
 simp only[stC]at hk'
 obtain⟨_,hcost⟩:=aAS hWk rfl
 have hsn:=hWk.2.2.1
 have hsl2:=hsn.s1
 have hsl3:=hsn.s2
 have hsl4:=hsn.s3
 have dpn:=dg.pn
 have dpe:=dg.pe
 simp only[go_sem,ij,tj,tj',lxj,i5]
 have sMh:=(shY.trans s1).trans (s2.trans sM)
 have bkb:∀i,0≤mI d paid s i∧mI d paid s i≤1000000:=fun i=>by
  unfold mI
  split
  · omega
  · rw[List.getD_eq_getElem?_getD]
    cases hz:paid[i]? with
    | none=>simp
    | some z=>exact hpaid z (List.mem_of_getElem? hz)
 refine bN (S:=Heap) (fun j _=>[(1,pv),(7,.ptr (.own K.length 0)),(13,.int .i64 V),(15,.ptr (.own H2.length 0)),(21,.int .i64 (iZ (mI d paid s) j)),(22,.int .i64 j)]) (fun _ H=>H) (fun _ H=>aB M H) d.people.length M aB.refl rfl rfl (fun j H hj sH ih=> ?_) (fun H sH=> ?_)
 · refine aD aH aKa [1,7,13,15,21,22] L4_3.eq_1 ?_
   have i6:(j:Int)<s.people.length:=by omega
   have hjs:j<s.people.length:=by omega
   have hjD:j<D.people.length:=by omega
   have r0:=sH.2 _ _ n0
   have rk:=sH.2 _ _ hk'
   have r0L:=xL r0
   have rkL:=xL rk
   obtain⟨p,p1,p2⟩:=(hRM.sub sH).toDayS.person hjD
   have p2':=p2 []
   rw[List.append_nil]at p2'
   obtain⟨a,a1,a2,a3⟩:=(hsU.sub sH).people.s.at_ hjs
   obtain⟨x,ex⟩:∃x,x=D.people[j]:=⟨_,rfl⟩
   rw[←ex]at p2 p2'
   have tox:∀L,rd w0 (H++L) (p.add 1)=some (.int .i64 x.to):=fun L=>dG (p2 L) rfl
   have tox':=tox []
   rw[List.append_nil]at tox'
   obtain⟨b,b1,b3,b4⟩:=SlI.at_ (Sl.sub hP (sMh.trans sH)) (j:=j) (by omega)
   have sb:=pL (f:=mI d paid s) (b:=1000000) (by omega) bkb j
   have sb2:=pL (f:=mI d paid s) (b:=1000000) (by omega) bkb (j+1)
   have ss:iZ (mI d paid s) (j+1)=iZ (mI d paid s) j+mI d paid s j:=rfl
   rw[ss]at ih sb2
   have hjp:j<paid.length:=by omega
   have hpj:=hpaid _ (qG hjp)
   simp only[go_sem,rk,rkL,q3,i6]
   refine iB aH [0,1,2,3,4,6,7,8,9,10,11,12,13,14,15,16,17,18,5,19,20,21,22,23,24,25] [o_ 182 (.build [(.int .i64 0),(.int .i64 0)] [(0,1,(i_ 1000))]),o_ 183 (m_ 1),o_ 184 (m_ 22),o_ 185 (.idxs 1 (.t 183) (.t 184)),o_ 186 (l_ 185),o_ 188 (.addr (.t 15) 2),o_ 189 (l_ 188),o_ 190 (m_ 22),o_ 191 (.idxs 1 (.t 189) (.t 190)),o_ 192 (l_ 191),o_ 193 (.addr (.t 7) 3),o_ 194 (l_ 193),o_ 195 (m_ 22),o_ 196 (.idxs 5 (.t 194) (.t 195)),o_ 197 (.addr (.t 196) 1),o_ 198 (l_ 197),o_ 199 (.bin .eql (.t 192) (.t 198)),o_ 200 (.bslice 1 [(.bool false)] 1 [(0,1,(.t 199))]),o_ 187 (.bslice 1 [(.int .i64 0)] 1 [(0,1,(i_ 1))]),.call (some 201) none (f_ 21) [(.t 182),(.t 186),(.t 187),(.t 200)],o_ 181 (m_ 201),o_ 202 (.ext (.t 181) 0),o_ 203 (.ext (.t 181) 1),o_ 23 (.alloc [(.int .i64 0),(.int .i64 0),(.int .i64 0),(.int .i64 0)]),.op none none (.store (.t 23) (.t 202) 4),o_ 24 (m_ 203)] [] rfl rfl (by kernel_rfl) ?_
   simp only[go_sem,r0,r0L,rk,rkL,p1,tox,tox',a1,a2,a3,b1,b3,b4]
   obtain⟨bb,ebb⟩:∃bb,bb=(s.people[j]==x.to):=⟨_,rfl⟩
   rw[←ebb]
   obtain⟨H5,eH5⟩:∃H5,H5=H++[some (Blk.row [AV.bool bb]),some (Blk.row [AV.int IntKind.i64 1])]:=⟨_,rfl⟩
   have s5:aB H H5:=eH5▸aB.refl.app
   rw[←eH5]
   have one1:SlI w0 H5 (.sl (.own (H.length+1) 0) 1 1 true) [1]:=by
    rw[eH5]
    exact fH (w0:=w0) (h:=H) (L:=[some (Blk.row [AV.bool bb]),some (Blk.row [AV.int IntKind.i64 1])]) (([1]:List Int).map fun z=>[AV.int .i64 z]) (es:=1) true 1 rfl (by decide)
   have one2:Sl w0 H5 1 (.sl (.own H.length 0) 1 1 true) [[.bool bb]]:=by
    rw[eH5]
    exact fH (w0:=w0) (h:=H) (L:=[some (Blk.row [AV.bool bb]),some (Blk.row [AV.int IntKind.i64 1])]) [[.bool bb]] (es:=1) true 0 rfl (by intro c hc; rw[List.mem_singleton.1 hc]; rfl)
   have hbk:mI d paid s j=if bb then 0 else paid[j]:=by
    have hto:x.to=(d.people.getD j ⟨0,0,0,0,0⟩).to:=by
     have e1:D.people[j]=pe0 (d.people[j]) (paid[j]):=by
      have e2:D.people=peL d.people paid:=by rw[eD]; rfl
      have:=vL (l:=d.people) (paid:=paid) hj hjp
      rw[←this]; congr 1
     rw[ex,e1,aJ hj]; rfl
    rw[mI,aJ hjs,aJ hjp,←hto,ebb]
    by_cases e:s.people[j]=x.to<;>simp[e]
   refine aP (ACall.vc (first:=[]) (args:=[_,_,_,_]) (Back_c one1 one2 ⟨hpj.1,by omega⟩)) ?_
   rintro y H6 ⟨s6,e6,v6,k6,rfl⟩
   obtain⟨z,ez⟩:∃z,z=if bb then(0:Int)else paid[j]:=⟨_,rfl⟩
   rw[←ez]at hbk ⊢
   rw[hbk]at ih sb2
   obtain⟨H7,eH7⟩:∃H7,H7=H6++[some (Blk.row [AV.int .i64 e6,AV.int .i64 z,AV.int .i64 v6,AV.int .i64 k6])]:=⟨_,rfl⟩
   simp only[go_sem]
   refine⟨(by unfold I64; omega),(by unfold I64; omega),ih _ ((sH.trans s5).trans (s6.app))⟩
 refine aD aH aKa [1,7,13,15,21,22] L4_3.eq_1 ?_
 have i6:¬(d.people.length:Int)<s.people.length:=by omega
 have r0:=sH.2 _ _ n0
 have rk:=sH.2 _ _ hk'
 have r0L:=xL r0
 have rkL:=xL rk
 simp only[go_sem,rk,rkL,q3,i6,r0,r0L,v1,v2,v3,y1,y2,y3,y4,y5]
 refine aC (Cost_c D u s sv (hRM.sub sH) (hsU.sub sH) (by omega) (by omega) (by omega)).v ?_
 have hcs:(eL D&&dV D s)=true:=by rw[hBD,wA hsn (by omega)]; rfl
 rw[if_pos hcs,if_pos hcs]
 have hcc:xC D s=iZ (mI d paid s) d.people.length:=by rw[eD]; exact aJm t3
 rw[hcc]at hcost ⊢
 simp only[go_sem,hcost]
 refine aC nN.v ?_
 simp only[go_sem]
 exact sMh.trans sH
end Go.Proofs.Ab

/- Own layer, part L. -/
import Derived.Test.YtiakeffhecpddaaGreatTab
import Derived.Test.YtiakeffhecpddaaGreatH
import Derived.Test.YtiakeffhecpddaaGreatJ
import Derived.Test.YtiakeffhecpddaaGreatK
import Derived.KernelRfl
set_option linter.unusedSimpArgs false
set_option linter.unusedVariables false
namespace Go.Proofs.Ab
open Go Go.Proofs
variable {w0:World} {h:Heap}
attribute [local irreducible] ACall bE cR aK bI rvC lp rg dr ex un rv
theorem fin_c(x lo hi:Int):aK Tryz.prog w0 67 [.int .i64 x,.int .i64 lo,.int .i64 hi] h (.bool (inB x lo hi)) h:=by
 refine aM mf67_k fun hb ha=> ?_
 by_cases a:x≥lo
 ·simp only[go_sem,mf67,a]
  rw[inB,decide_eq_true (show lo≤x from a)]; rfl
 ·simp only[go_sem,mf67,a]
  rw[inB,decide_eq_false (show ¬lo≤x from a)]; rfl
theorem aJQ{v fv:AV}{l:List Int}(hv:SlI w0 h v l)(hn:l.length≤1000)(hf:∀(j:Nat) x L,x∈l→bI Tryz.prog w0 fv [.int .i64 j,.int .i64 x] (h++L) (.bool true) (h++L)):aK Tryz.prog w0 124 [v,fv] h (.bool true) h:=by
 refine aM aNw fun hb ha=> ?_
 have ln:=(SlI.use hv).1
 simp only[go_sem,mf124,ln]
 refine cY (fun j=>[(1,fv),(7,v),(8,.int .i64 l.length),(9,.int .i64 j)]) (fun j=>True) l.length rfl (fun j hj hall ih=> ?_) (fun hall=> ?_)
 ·refine aP [1,7,8,9] aFd.eq_1 ?_
  have e1:(j:Int)<l.length:=by omega
  obtain⟨p,i1,r1,r1'⟩:=hv.at_ hj
  simp only[go_sem,e1,i1,r1,r1']
  refine aC (hf j l[j] _ (qG hj)) ?_
  simp only[go_sem]
  exact⟨(by unfold I64; omega),ih trivial⟩
 ·refine aP [1,7,8,9] aFd.eq_1 ?_
  have e1:¬(l.length:Int)<l.length:=by omega
  simp only[go_sem,e1]
theorem aHd(j x:Int)(hx:inB x 0 1000000000=true):aK Tryz.prog w0 168 [.int .i64 j,.int .i64 x] h (.bool true) h:=by
 refine aM aMP fun hb ha=> ?_
 simp only[go_sem,mf168]
 refine aC (fin_c _ _ _).v ?_
 rw[hx]
 simp only[go_sem]
theorem aN0(j x:Int)(hx:inB x 0 10000=true):aK Tryz.prog w0 125 [.int .i64 j,.int .i64 x] h (.bool true) h:=by
 refine aM aNv fun hb ha=> ?_
 simp only[go_sem,mf125]
 refine aC (fin_c _ _ _).v ?_
 rw[hx]
 simp only[go_sem]
theorem aJH{v:AV}{l:List Int}(hv:SlI w0 h v l)(hn:l.length≤1000)(hx:∀x∈l,inB x 0 1000000000=true):aK Tryz.prog w0 123 [v] h (.bool true) h:=by
 refine aM aNx fun hb ha=> ?_
 simp only[go_sem,mf123]
 refine aC (aJQ (hv.app) hn fun j x L hl=> @aK.vc _ _ _ [] [_,_] [] _ _ _ (aHd j x (hx x hl))).v ?_
 simp only[go_sem]
theorem aCy{n j:Nat}(h:j<(List.replicate n (1:Int)).length):(List.replicate n (1:Int))[j]=1:=by simp
theorem aJD{v:AV}{n:Nat}(hv:SlI w0 h v (List.replicate n 1))(hn:n≤8):aK Tryz.prog w0 126 [v] h (.int .i64 n) h:=by
 refine aM aNu fun hb ha=> ?_
 have ln:=(SlI.use hv).1
 rw[List.length_replicate]at ln
 simp only[go_sem,mf126,ln]
 refine bS (S:=Unit) (fun j _=>[(3,.int .i64 j),(6,v),(7,.int .i64 n),(8,.int .i64 j)]) (fun _ _=>h) (fun _ _=>True) n () trivial rfl (by simp) ?_ ?_
 ·rintro j _ hj _ ih
  refine aP [3,6,7,8] aFc.eq_1 ?_
  have e1:(j:Int)<n:=by omega
  obtain⟨p,i1,r1,r1'⟩:=hv.at_ (j:=j) (by simpa using hj)
  rw[aCy]at r1 r1'
  simp only[go_sem,e1,i1,r1,r1']
  exact⟨(by unfold I64; omega),(by unfold I64; omega),ih () trivial⟩
 ·rintro _ _
  refine aP [3,6,7,8] aFc.eq_1 ?_
  have e1:¬(n:Int)<n:=by omega
  simp only[go_sem,e1]
  exact⟨rfl,[],by simp⟩
theorem aEf{v:AV}{n:Nat}{am:Int}(hv:SlI w0 h v (List.replicate n 1))(hn:1≤n∧n≤8)(hat:inB am 0 1000000000=true):aK Tryz.prog w0 66 [.int .i64 am,v] h (.int .i64 0) h:=by
 refine aM mf66_k fun hb ha=> ?_
 have ln:=(SlI.use hv).1
 rw[List.length_replicate]at ln
 have e1:¬(8:Int)<n:=by omega
 simp only[go_sem,mf66,ln,e1]
 refine aC (aJH (l:=[am]) (by
  refine .inr ⟨.own h.length 0,true,⟨1,by simp,mF⟩,by simp[Pl.bdd],fun j c hc=> ?_⟩
  rcases j with _ | j
  ·simp only[List.map_cons,List.map_nil,List.getElem?_cons_zero,Option.some.injEq]at hc
   subst hc; simp[rdn,Pl.add]
  ·simp at hc) (by simp) (fun x hx=>by rw[List.mem_singleton.1 hx]; exact hat)).v ?_
 simp only[go_sem]
 refine aC (aJQ (l:=List.replicate n 1) hv.app (by simp; omega) fun j x L hx=> @aK.vc _ _ _ [] [_,_] [] _ _ _ (aN0 j x (by rw[(List.mem_replicate.1 hx).2]; rfl))).v ?_
 simp only[go_sem]
 refine aC (aJD hv.app hn.2).v ?_
 have e2:((n:Int)==0)=false:=by simp; omega
 have e3:¬(n:Int)=0:=by omega
 simp only[go_sem,e2,e3]
def aIQ(am:Int)(n j:Nat):Int:=(am*(j+1:Nat)).tdiv n - (am*j).tdiv n
def oD(am:Int)(n j:Nat):List Int:=(List.range j).map (aIQ am n)
theorem aMc{v:AV}{n:Nat}{am:Int}(hv:SlI w0 h v (List.replicate n 1))(hn:1≤n∧n≤8)(ha:0≤am∧am≤1000000000):ACall Tryz.prog w0 68 [.int .i64 am,v] h fun y H=>aB h H∧SlI w0 H y (oD am n n):=by
 refine aO mf68_k fun hb1 ha1=> ?_
 have ln:=(SlI.use hv).1
 rw[List.length_replicate]at ln
 rw[List.append_nil]
 simp only[go_sem,mf68]
 refine aC (aJD hv hn.2).v ?_
 have q0:((am*(0:Nat)).tdiv n)=0:=by simp
 simp only[go_sem,ln]
 refine bS (S:=Heap×AV) (fun j s=>[(0,.int .i64 am),(5,s.2),(6,.int .i64 ((am*j).tdiv n)),(7,.int .i64 j),(8,.int .i64 n),(13,v),(14,.int .i64 n),(15,.int .i64 j)]) (fun _ s=>s.1) (fun j s=>Gro h s.1 1 j s.2 (aN (oD am n j))) n (h,.nilS) (Gro.nil aB.refl) (by simp) rfl ?_ ?_
 ·rintro j ⟨H,ov⟩ hj g ih
  simp only at g ih ⊢
  refine aP [0,5,6,7,8,13,14,15] aKZ.eq_1 ?_
  have e1:(j:Int)<n:=by omega
  obtain⟨p,i1,r1,r1'⟩:=SlI.at_ (Sl.sub hv g.sub) (j:=j) (by simpa using hj)
  rw[aCy]at r1 r1'
  have m0:0≤am*(j:Int):=Int.mul_nonneg ha.1 (by omega)
  have m1:am*(j:Int)≤1000000000*8:=Int.mul_le_mul ha.2 (by omega) (by omega) (by omega)
  have m2:am*((j:Int)+1)=am*j+am:=by rw[Int.mul_add,Int.mul_one]
  have d0:0≤(am*(j:Int)).tdiv n∧(am*(j:Int)).tdiv n≤am*j:=⟨Int.tdiv_nonneg m0 (by omega),Int.tdiv_le_self _ m0⟩
  have d1:0≤(am*((j:Int)+1)).tdiv n∧(am*((j:Int)+1)).tdiv n≤am*j+am:=⟨Int.tdiv_nonneg (by omega) (by omega),by rw[←m2]; exact Int.tdiv_le_self _ (by omega)⟩
  have w1:=cZ (n:=(am*((j:Int)+1)).tdiv n - (am*(j:Int)).tdiv n) (by unfold I64; omega)
  have e3:((n:Int)==0)=false:=by simp; omega
  have e4:¬(n:Int)=0:=by omega
  obtain⟨x,ex⟩:∃x,x=(am*((j:Int)+1)).tdiv n - (am*(j:Int)).tdiv n:=⟨_,rfl⟩
  rw[←ex]at w1
  obtain⟨G,ap,g2⟩:=(g.app (L:=[some (Blk.row [AV.int .i64 x])])).more (w0:=w0) (b:=8) (k:=H.length) (x:=[AV.int .i64 x]) (f:=true) (by simp) rfl rfl (by omega) (by omega)
  have gl:(H++[some (Blk.row [AV.int .i64 x])]).length=H.length+1:=by simp
  rw[gl]at ap g2
  have sh:aN (oD am n j)++[AV.int .i64 x]=aN (oD am n (j+1)):=by
   have e:aIQ am n j=x:=by rw[ex,aIQ]; rw[Int.natCast_add,Int.natCast_one]
   rw[oD,oD,List.range_succ,List.map_append,List.map_cons,List.map_nil,e]; simp[aN]
  rw[sh]at g2
  simp only[go_sem,e1,i1,r1,r1',e3,e4,←ex,w1,ap]
  have go:=ih (G,_) g2
  refine⟨(by unfold I64; omega),by unfold I64; omega,by unfold I64; omega,by unfold I64; omega,by unfold I64; omega,(by unfold I64; omega),?_⟩
  simpa using go
 ·rintro⟨H,ov⟩ g
  simp only at g ⊢
  refine aP [0,5,6,7,8,13,14,15] aKZ.eq_1 ?_
  have e1:¬(n:Int)<n:=by omega
  simp only[go_sem,e1]
  exact⟨g.sub,g.sli (by simp[oD])⟩
theorem aOl{v:AV}{n:Nat}{am:Int}(hv:SlI w0 h v (List.replicate n 1))(hn:1≤n∧n≤8)(hat:0≤am∧am≤1000000000):ACall Tryz.prog w0 35 [.int .i64 am,v] h fun y H=>aB h H∧∃z,y= .tup [z,.int .i64 0]∧SlI w0 H z (oD am n n):=by
 refine aO mf35_k fun hb1 ha1=> ?_
 rw[List.append_nil]
 simp only[go_sem,mf35]
 refine aC (aEf hv hn (by simp[inB]; omega)).v ?_
 simp only[go_sem]
 refine aJ (ACall.v2 (aMc hv hn hat)) ?_
 rintro y H ⟨s1,b1⟩
 simp only[go_sem]
 exact⟨s1,_,rfl,b1⟩
theorem aJR{x y:AV}{a:List Int}(hx:SlI w0 h x a)(hy:SlI w0 h y a)(hn:a.length<1000000):aK Tryz.prog w0 37 [x,y] h (.bool true) h:=by
 refine aM mf37_k fun hb ha=> ?_
 have la:=(SlI.use hx).1
 have lb:=(SlI.use hy).1
 simp only[go_sem,mf37,la,lb]
 refine cY (fun j=>[(0,x),(1,y),(5,.int .i64 j)]) (fun j=>True) a.length rfl (fun j hj hall ih=> ?_) (fun hall=> ?_)
 ·refine aP [0,1,5] aLl.eq_1 ?_
  obtain⟨p,i1,r1,r1'⟩:=hx.at_ hj
  obtain⟨q,i2,r2,r2'⟩:=hy.at_ hj
  have e2:(j:Int)<a.length:=by omega
  simp only[go_sem,la,lb,e2,i1,i2,r1,r2,r1',r2']
  exact⟨(by unfold I64; omega),ih trivial⟩
 ·refine aP [0,1,5] aLl.eq_1 ?_
  have e2:¬(a.length:Int)<a.length:=by omega
  simp only[go_sem,la,e2]
theorem aAr{p:aZ}{legs:List dV}{a b c:Int}(h1:a≤b)(h2:b≤c)(ha:iX p legs a a=true)(hc:iX p legs c c=true):iX p legs b b=true:=by
 rw[oZ,lN,List.all_map,List.all_eq_true]at *
 intro f hf
 have fa:=ha f hf
 have fc:=hc f hf
 simp only[Function.comp_apply,Bool.not_eq_true']at *
 cases hb:f b with
 | false=>rfl
 | true=>
  obtain⟨t,_,hm⟩:=List.mem_flatMap.1 hf
  rcases aGb f hm with m | m
  ·rw[m _ _ h2 hb]at fc; cases fc
  ·rw[m _ _ h1 hb]at fa; cases fa
def sW:aZ:=⟨1000,100000,2000,1900,[⟨1000,95000⟩,⟨2000,190000⟩,⟨2000,230000⟩,⟨1000,115000⟩],[⟨90,200⟩,⟨200,300⟩],⟨120,200⟩,40,[⟨100,50⟩,⟨100,50⟩]⟩
def aC2:List dV:=[⟨[⟨0,70,90⟩,⟨1,100,140⟩],false,0,30,40,0,5⟩,⟨[⟨0,70,90⟩],false,0,60,80,0,5⟩]
theorem aEl:iX sW aC2 160 160=true:=by kernel_rfl
theorem aEm:iX sW aC2 159 159=false:=by kernel_rfl
theorem aJS:qU sW=true:=by kernel_rfl
theorem exLg_b:aC2.all (mP sW.sta.length)=true:=by kernel_rfl
theorem aN4{n e:Int}(h:aLC sW aC2 n e):n=160∧e=0:=by
 rcases aJC h with⟨_,h2⟩ | ⟨h1,h2,h3,h4⟩
 ·have:=h2 160 (by omega) (by omega)
  rw[aEl]at this; cases this
 ·refine⟨?_,h1⟩
  have n9:aEm=aEm:=rfl
  by_cases c1:n<160
  ·have:=aAr (a:=n) (b:=159) (c:=160) (by omega) (by omega) h3 aEl
   rw[aEm]at this; cases this
  by_cases c2:160<n
  ·have:=aAr (a:=160) (b:=n - 1) (c:=n) (by omega) (by omega) aEl h3
   rw[h4 (by omega)]at this; cases this
  ·omega
def wN(n:Nat):Heap:=[some (.row (sW.c (.sl (.own (n+4) 0) 4 2 true) (.sl (.own (n+3) 0) 2 2 true) (.sl (.own (n+2) 0) 2 2 true))),some (.row [.int .i64 100,.int .i64 50]),some (.row (sW.flo.map lI.c).flatten),some (.row (sW.sta.map lI.c).flatten),some (.row (sW.cor.map gW.c).flatten)]
theorem exPl_c:aK Tryz.prog w0 31 [] h (.agg (sW.c (.sl (.own (h.length+4) 0) 4 2 true) (.sl (.own (h.length+3) 0) 2 2 true) (.sl (.own (h.length+2) 0) 2 2 true))) (h++wN h.length):=by
 refine oC dE aD3.a aD3.b aD3.c (qE rfl) (by simp[aZ.c,AV.bdd,AV.bdds,Pl.bdd,wN]) (fun _=>by
  simp[wN,bC,bT,bP,aZ.c,AV.bdd,AV.bdds,Pl.bdd,sW,lI.c,gW.c]) fun hb ha=>hY ?_
 simp only[go_sem,mf31]
 exact⟨rfl,rfl,rfl,rfl,rfl,rfl,trivial⟩
theorem exPl_V:jI w0 (h++wN h.length) sW (.sl (.own (h.length+4) 0) 4 2 true) (.sl (.own (h.length+3) 0) 2 2 true) (.sl (.own (h.length+2) 0) 2 2 true):=
 ⟨gN (w0:=w0) (h:=h) (L:=wN h.length) (sW.cor.map gW.c) (es:=2) true 4 rfl (by simp[gW.c]),gN (w0:=w0) (h:=h) (L:=wN h.length) (sW.sta.map lI.c) (es:=2) true 3 rfl (by simp[lI.c]),gN (w0:=w0) (h:=h) (L:=wN h.length) (sW.flo.map lI.c) (es:=2) true 2 rfl (by simp[lI.c])⟩
def exIt:List iF:=[⟨0,70,90⟩,⟨1,100,140⟩]
def aC1(n:Nat):List (List AV):=[.sl (.own n 0) 2 3 true::[.bool false,.int .i64 0,.int .i64 30,.int .i64 40,.int .i64 0,.int .i64 5],.sl (.own n 0) 1 3 false::[.bool false,.int .i64 0,.int .i64 60,.int .i64 80,.int .i64 0,.int .i64 5]]
def wO(n:Nat):Heap:=[some (.row (exIt.map iF.c).flatten),some (.row (aC1 n).flatten)]
theorem exLg_c:aK Tryz.prog w0 32 [] h (.sl (.own (h.length+1) 0) 2 7 true) (h++wO h.length):=by
 refine oC dE aD2.a aD2.b aD2.c (qE rfl) (by simp[AV.bdd,AV.bdds,Pl.bdd,wO]) (fun _=>by
  simp[wO,bC,bT,bP,AV.bdd,AV.bdds,Pl.bdd,aC1,exIt,iF.c]) fun hb ha=>hY ?_
 simp only[go_sem,mf32]
 exact⟨rfl,rfl,trivial⟩
theorem exLg_V:lA w0 (h++wO h.length) (.sl (.own (h.length+1) 0) 2 7 true) aC2:=by
 refine⟨aC1 h.length,rfl,gN (w0:=w0) (h:=h) (L:=wO h.length) (aC1 h.length) (es:=7) true 1 rfl (by simp[aC1]),fun j x c hx hc=> ?_⟩
 have s0:=gN (w0:=w0) (h:=h) (L:=wO h.length) (exIt.map iF.c) (es:=3) true 0 rfl (by simp[iF.c])
 match j with
 | 0=>
  cases hx; cases hc
  exact⟨_,rfl,s0,fun e=>by simp at e⟩
 | 1=>
  cases hx; cases hc
  refine⟨_,rfl,?_,fun e=>by simp at e⟩
  refine .inr ⟨.own h.length 0,false,⟨3,rfl,mF⟩,by simp[Pl.bdd,wO],fun j c hc=> ?_⟩
  match j with
  | 0=>
   cases hc
   simp only[Pl.add,rdn]
   rw[qI (by omega),Nat.sub_self]
   rfl
  | n+1=>simp[aC2]at hc
 | n+2=>simp[aC2]at hx
deriving instance DecidableEq for bW
theorem bW.ext_iff2{a b:bW}:a=b↔a.low=b.low∧a.high=b.high:=by cases a; cases b; simp
theorem eqa_sp(x y z w:Int):aHl [true,true] true (.agg [.int .i64 x,.int .i64 y]) (.agg [.int .i64 z,.int .i64 w])=some (.bool (!(decide (x=z)&&decide (y=w)))):=by
 have hc:∀x y:Int,ceq true (.int .i64 x) (.int .i64 y)=some (decide (x=y)):=fun x y=>by
  by_cases e:x=y<;>simp[ceq,e]
 simp only[aHl,dU,hc]
 by_cases e1:x=z<;>by_cases e2:y=w<;>simp[e1,e2]
theorem aCl(a b:List bW)(va vb:AV)(hva:Sl w0 h 2 va (a.map bW.c))(hvb:Sl w0 h 2 vb (b.map bW.c))(hn:a.length<1000000):aK Tryz.prog w0 36 [va,vb] h (.bool (decide (a=b))) h:=by
 refine aM mf36_k fun hb ha=> ?_
 obtain⟨ln1,q1,ix1,row1,_⟩:=hva.use
 obtain⟨ln2,q2,ix2,row2,_⟩:=hvb.use
 simp only[List.length_map]at ln1 ln2 ix1 ix2
 simp only[go_sem,mf36,ln1,ln2]
 refine⟨fun e=> ?_,fun e=> ?_⟩
 ·have:a≠b:=fun x=>by subst x; simp at e
  simp[this]
 ·have el : a.length = b.length := by have : (a.length : Int) = b.length := by simpa using e
                                      omega
  refine cY (fun j=>[(0,va),(1,vb),(5,.int .i64 j)]) (fun j=>∃(h1:j<a.length) (h2:j<b.length),a[j]=b[j]) a.length rfl (fun j hj hi ih=> ?_) (fun hi=> ?_)
  ·refine aP [0,1,5] aLm.eq_1 ?_
   have hjb:j<b.length:=by omega
   have e1:=ix1 j hj
   have e2:∀L,rdn w0 (h++L) (q1.add (j*2)) 2=some [.int .i64 a[j].low,.int .i64 a[j].high]:=fun L=>cK (row1 j _ (by simp[hj]; rfl))
   have e3:(j:Int)<a.length:=by omega
   have e4:=ix2 j hjb
   have e5:∀L,rdn w0 (h++L) (q2.add (j*2)) 2=some [.int .i64 b[j].low,.int .i64 b[j].high]:=fun L=>cK (row2 j _ (by simp[hjb]; rfl))
   simp only[go_sem,e1,e2,e3,e4,e5,ln1,eqa_sp]
   refine⟨fun e=> ?_,fun e=>⟨(by unfold I64; omega),ih ⟨hj,hjb,bW.ext_iff2.2 (by simpa using e)⟩⟩⟩
   have:a≠b:=fun x=>by subst x; simp at e
   simp[this]
  ·refine aP [0,1,5] aLm.eq_1 ?_
   have e3:¬(a.length:Int)<a.length:=by omega
   simp only[go_sem,e3,ln1]
   have:a=b:=List.ext_getElem el fun i h1 h2=>by obtain⟨_,_,e⟩:=hi i h1; exact e
   simp[this]
def rW:dP:=⟨[⟨[⟨480,600⟩],0⟩,⟨[⟨500,560⟩,⟨640,700⟩],10⟩,⟨[⟨520,580⟩,⟨690,760⟩],0⟩],[⟨30,40⟩,⟨20,50⟩]⟩
theorem aHi:gB rW=[[⟨480,520⟩],[⟨500,530⟩,⟨670,700⟩]]:=by kernel_rfl
theorem aN6:kS rW=true:=by kernel_rfl
def pU(n:Nat):nJ:=⟨.sl (.own (n+4) 0) 3 2 true,.sl (.own (n+5) 0) 2 2 true,[.sl (.own (n+1) 0) 1 2 true,.sl (.own (n+2) 0) 2 2 true,.sl (.own (n+3) 0) 2 2 true]⟩
def spc(l:List bW):List AV:=(l.map bW.c).flatten
def nH(n:Nat):Heap:=[some (.row (mJ (pU n))),some (.row (spc [⟨480,600⟩])),some (.row (spc [⟨500,560⟩,⟨640,700⟩])),some (.row (spc [⟨520,580⟩,⟨690,760⟩])),some (.row ((fP (pU n).ws rW.stops).flatten)),some (.row (spc rW.legs))]
theorem xH(l:List bW):∀c∈l.map bW.c,c.length=2:=fun c hc=>by obtain⟨x,_,rfl⟩:=List.mem_map.1 hc; rfl
theorem aN7:kV w0 (h++nH h.length) rW (pU h.length):=by
 refine⟨⟨rfl,?_,?_,?_⟩,by decide,by decide,by decide⟩
 ·exact gN (w0:=w0) (h:=h) (L:=nH h.length) (fP (pU h.length).ws rW.stops) (es:=2) true 4 rfl (by simp[fP,pU,rW,pC])
 ·intro j x s hx hs
  match j with
  | 0=>cases hx; cases hs; exact gN (w0:=w0) (h:=h) (L:=nH h.length) ([⟨480,600⟩].map bW.c) (es:=2) true 1 rfl (xH _)
  | 1=>cases hx; cases hs; exact gN (w0:=w0) (h:=h) (L:=nH h.length) ([⟨500,560⟩,⟨640,700⟩].map bW.c) (es:=2) true 2 rfl (xH _)
  | 2=>cases hx; cases hs; exact gN (w0:=w0) (h:=h) (L:=nH h.length) ([⟨520,580⟩,⟨690,760⟩].map bW.c) (es:=2) true 3 rfl (xH _)
  | n+3=>simp[rW]at hs
 ·exact gN (w0:=w0) (h:=h) (L:=nH h.length) (rW.legs.map bW.c) (es:=2) true 5 rfl (xH _)
theorem aN5:aK Tryz.prog w0 34 [] h (.agg (mJ (pU h.length))) (h++nH h.length):=by
 refine oC dE aD1.a aD1.b aD1.c (qE rfl) (by simp[mJ,pU,AV.bdd,AV.bdds,Pl.bdd,nH]) (fun _=>by
  simp[nH,bC,bT,bP,mJ,pU,AV.bdd,AV.bdds,Pl.bdd,rW,spc,fP,pC,bW.c]) fun hb ha=>hY ?_
 simp only[go_sem,mf34]
 exact⟨rfl,rfl,rfl,rfl,rfl,rfl,rfl,trivial⟩
set_option maxRecDepth 20000 in
theorem xR:aK Tryz.prog w0 10 [] h (.bool true) h:=by
 refine cJ (by simp[AV.bdd]) (aO mf10_k fun hb1 ha1=> ?_)
 rw[List.append_nil]
 simp only[go_sem,mf10]
 refine aC exPl_c.v ?_
 simp only[go_sem]
 have pv:=exPl_V (w0:=w0) (h:=h)
 obtain⟨H0,eH0⟩:∃H0,H0=h++wN h.length:=⟨_,rfl⟩
 have s0:aB h H0:=by rw[eH0]; exact aB.refl.app
 rw[←eH0]at pv ⊢
 refine aC exLg_c.v ?_
 simp only[go_sem]
 have lg:=exLg_V (w0:=w0) (h:=H0)
 obtain⟨H1,eH1⟩:∃H1,H1=H0++wO H0.length:=⟨_,rfl⟩
 have s01:aB H0 H1:=by rw[eH1]; exact aB.refl.app
 have s1:aB h H1:=s0.trans s01
 have pv1:=pv.sub s01
 rw[←eH1]at lg ⊢
 obtain⟨pb,ps,pf,_⟩:=tX aJS
 have fc:=Fuel_c pv1 aJS lg (fun x hx=>List.all_eq_true.1 exLg_b x hx) (by decide) (fun n=>by rw[lN,lN,List.length_map,List.length_map])
  (by rw[lN,List.length_map]; have:=aKc (legs:=aC2) pb (by decide) (by decide) (by decide); omega)
 refine aJ (ACall.vc (first:=[]) (args:=[_,_]) fc) ?_
 rintro y H2 ⟨s2,n,e,rfl,hF⟩
 obtain⟨rfl,rfl⟩:=aN4 hF
 have sh2:=s1.trans s2
 simp only[go_sem]
 refine aC aN5.v ?_
 simp only[go_sem]
 have cr:=aN7 (w0:=w0) (h:=H2)
 obtain⟨H3,eH3⟩:∃H3,H3=H2++nH H2.length:=⟨_,rfl⟩
 have sh3:aB h H3:=by rw[eH3]; exact sh2.app
 rw[←eH3]at cr ⊢
 refine aJ (ACall.v1 (aLM _ _ cr)) ?_
 rintro y H4 ⟨s4,dk⟩
 rw[aN6,if_pos rfl,aHi]at dk
 obtain⟨z,rfl,ls⟩:=dk
 have sh4:=sh3.trans s4
 have lz:=NS.len ls
 obtain⟨zp,z0,iz,rz,sz⟩:=LS.at_ ls (j:=0) (by decide)
 simp only[go_sem]
 have ones:SlI w0 (H4++[some (Blk.row [AV.int .i64 1,AV.int .i64 1,AV.int .i64 1])]) (.sl (.own H4.length 0) 3 1 true) (List.replicate 3 1):=gN (w0:=w0) (h:=H4) (L:=[some (Blk.row [AV.int .i64 1,AV.int .i64 1,AV.int .i64 1])]) ((List.replicate 3 (1:Int)).map fun z=>[AV.int .i64 z]) (es:=1) true 0 rfl (by decide)
 refine aJ (ACall.v2 (aOl (n:=3) (am:=1000) ones (by decide) (by decide))) ?_
 rintro y H5 ⟨s5,q,rfl,hq⟩
 have e5:oD 1000 3 3=[333,333,334]:=by decide
 rw[e5]at hq
 have s45:aB H4 H5:=aB.refl.app.trans s5
 have sh5:=sh4.trans s45
 simp only[go_sem]
 have bars:rY w0 (H5++[some (Blk.row [AV.int .i64 100,AV.int .i64 9,AV.int .i64 80,AV.int .i64 2])]) (.sl (.own H5.length 0) 2 2 true) [⟨100,9⟩,⟨80,2⟩]:=gN (w0:=w0) (h:=H5) (L:=[some (Blk.row [AV.int .i64 100,AV.int .i64 9,AV.int .i64 80,AV.int .i64 2])]) (([⟨100,9⟩,⟨80,2⟩]:List jH).map jH.c) (es:=2) true 0 rfl (by simp[jH.c])
 refine aJ (ACall.v2 (Has_c (d:=3) bars (by decide) (by decide))) ?_
 rintro y H6 ⟨s6,rfl⟩
 have e6:hasD 3 [⟨100,9⟩,⟨80,2⟩]=100:=by decide
 rw[e6]
 have s56:aB H5 H6:=aB.refl.app.trans s6
 have s46:=s45.trans s56
 have sh6:=sh5.trans s56
 have rz6:∀L,rd w0 (H6++L) zp=some z0:=fun L=>(s46.app (L:=L)).rd (by have:=rz []; rwa [List.append_nil]at this)
 have lz':dA z=some (.int .i64 2):=lz
 have rz7:=rz6 []
 rw[List.append_nil]at rz7
 have sz6:=sz.sub s46
 simp only[go_sem,lz',iz,rz6,rz7]
 refine aC (aCl [⟨480,520⟩] [⟨480,520⟩] _ _ sz6.app (gN (w0:=w0) (h:=H6) (L:=[some (Blk.row [AV.int .i64 480,AV.int .i64 520])]) (([⟨480,520⟩]:List bW).map bW.c) (es:=2) true 0 rfl (by decide)) (by decide)).v ?_
 rw[decide_eq_true rfl]
 simp only[go_sem]
 have hq6:=Sl.sub hq s56
 refine aC (aJR (a:=[333,333,334]) (Sl.sub hq6 aB.refl.app) (gN (w0:=w0) (h:=H6) (L:=[some (Blk.row [AV.int .i64 480,AV.int .i64 520]),some (Blk.row [AV.int .i64 333,AV.int .i64 333,AV.int .i64 334])]) (([333,333,334]:List Int).map fun z=>[AV.int .i64 z]) (es:=1) true 1 rfl (by decide)) (by decide)).v ?_
 simp only[go_sem]
 exact sh6.app
end Go.Proofs.Ab

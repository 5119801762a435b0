/- The own layer under the proofs of this seat, part L: what calls of the program come to on an abstract heap. No condition. -/
import Derived.Test.YtiakeffhecpddaaGreatTab
import Derived.Test.YtiakeffhecpddaaGreatH
import Derived.Test.YtiakeffhecpddaaGreatJ
import Derived.Test.YtiakeffhecpddaaGreatK
import Derived.KernelRfl
set_option linter.unusedSimpArgs false
set_option linter.unusedVariables false
namespace Go.Proofs.Ab
open Go Go.Proofs
variable {w0:World} {h:Heap}
attribute [local irreducible] ACall cG dD aQ bS rvC lp rg dr ex un rv
theorem aEp(x lo hi:Int):aQ Tryz.prog w0 67 [.int .i64 x,.int .i64 lo,.int .i64 hi] h (.bool (inB x lo hi)) h:=by
 refine aF aH aLp mf67_b mf67_g (qE rfl) (by simp[AV.bdd,AV.bdds]) fun hb ha=>aM ?_
 by_cases a:x≥lo
 · simp only[go_sem,mf67,a]
   rw[inB,decide_eq_true (show lo≤x from a)]; rfl
 · simp only[go_sem,mf67,a]
   rw[inB,decide_eq_false (show ¬lo≤x from a)]; rfl
theorem aJg{v fv:AV}{l:List Int}(hv:SlI w0 h v l)(hn:l.length≤1000)(hf:∀(j:Nat) x L,x∈l→bS Tryz.prog w0 fv [.int .i64 j,.int .i64 x] (h++L) (.bool true) (h++L)):aQ Tryz.prog w0 124 [v,fv] h (.bool true) h:=by
 refine aF aH aIp aNL aNK (qE rfl) (by simp[AV.bdd,AV.bdds]) fun hb ha=>aM ?_
 have ln:=(SlI.use hv).1
 simp only[go_sem,mf124,ln]
 refine dH (fun j=>[(1,fv),(7,v),(8,.int .i64 l.length),(9,.int .i64 j)]) (fun j=>True) l.length rfl (fun j hj hall ih=> ?_) (fun hall=> ?_)
 · refine aD aH aCr [1,7,8,9] L124_0.eq_1 ?_
   have e1:(j:Int)<l.length:=by omega
   obtain⟨p,i1,r1,r1'⟩:=hv.at_ hj
   simp only[go_sem,e1,i1,r1,r1']
   refine aC (hf j l[j] _ (qG hj)) ?_
   simp only[go_sem]
   exact⟨(by unfold I64; omega),ih trivial⟩
 · refine aD aH aCr [1,7,8,9] L124_0.eq_1 ?_
   have e1:¬(l.length:Int)<l.length:=by omega
   simp only[go_sem,e1]
theorem aF0(j x:Int)(hx:inB x 0 1000000000=true):aQ Tryz.prog w0 168 [.int .i64 j,.int .i64 x] h (.bool true) h:=by
 refine aF aH aHR aMD aMC (qE rfl) (by simp[AV.bdd,AV.bdds]) fun hb ha=>aM ?_
 simp only[go_sem,mf168]
 refine aC (aEp _ _ _).v ?_
 rw[hx]
 simp only[go_sem]
theorem aOF(j x:Int)(hx:inB x 0 10000=true):aQ Tryz.prog w0 125 [.int .i64 j,.int .i64 x] h (.bool true) h:=by
 refine aF aH aIo aNJ aNI (qE rfl) (by simp[AV.bdd,AV.bdds]) fun hb ha=>aM ?_
 simp only[go_sem,mf125]
 refine aC (aEp _ _ _).v ?_
 rw[hx]
 simp only[go_sem]
theorem aJa{v:AV}{l:List Int}(hv:SlI w0 h v l)(hn:l.length≤1000)(hx:∀x∈l,inB x 0 1000000000=true):aQ Tryz.prog w0 123 [v] h (.bool true) h:=by
 refine aF aH aIq aNN aNM (qE rfl) (by simp[AV.bdd,AV.bdds]) fun hb ha=>aM ?_
 simp only[go_sem,mf123]
 refine aC (aJg (hv.app) hn fun j x L hl=> @aQ.vc _ _ _ [] [_,_] [] _ _ _ (aF0 j x (hx x hl))).v ?_
 simp only[go_sem]
theorem aBi{n j:Nat}(h:j<(List.replicate n (1:Int)).length):(List.replicate n (1:Int))[j]=1:=by simp
theorem aI8{v:AV}{n:Nat}(hv:SlI w0 h v (List.replicate n 1))(hn:n≤8):aQ Tryz.prog w0 126 [v] h (.int .i64 n) h:=by
 refine aF aH aIn aNH aNG (qE rfl) (by simp[AV.bdd,AV.bdds]) fun hb ha=>aM ?_
 have ln:=(SlI.use hv).1
 rw[List.length_replicate]at ln
 simp only[go_sem,mf126,ln]
 refine bN (S:=Unit) (fun j _=>[(3,.int .i64 j),(6,v),(7,.int .i64 n),(8,.int .i64 j)]) (fun _ _=>h) (fun _ _=>True) n () trivial rfl (by simp) ?_ ?_
 · rintro j _ hj _ ih
   refine aD aH aCq [3,6,7,8] L126_0.eq_1 ?_
   have e1:(j:Int)<n:=by omega
   obtain⟨p,i1,r1,r1'⟩:=hv.at_ (j:=j) (by simpa using hj)
   rw[aBi]at r1 r1'
   simp only[go_sem,e1,i1,r1,r1']
   exact⟨(by unfold I64; omega),(by unfold I64; omega),ih () trivial⟩
 · rintro _ _
   refine aD aH aCq [3,6,7,8] L126_0.eq_1 ?_
   have e1:¬(n:Int)<n:=by omega
   simp only[go_sem,e1]
   exact⟨rfl,[],by simp⟩
theorem rF{v:AV}{n:Nat}{am:Int}(hv:SlI w0 h v (List.replicate n 1))(hn:1≤n∧n≤8)(hat:inB am 0 1000000000=true):aQ Tryz.prog w0 66 [.int .i64 am,v] h (.int .i64 0) h:=by
 refine aF aH aLq mf66_b mf66_g (qE rfl) (by simp[AV.bdd,AV.bdds]) fun hb ha=>aM ?_
 have ln:=(SlI.use hv).1
 rw[List.length_replicate]at ln
 have e1:¬(8:Int)<n:=by omega
 simp only[go_sem,mf66,ln,e1]
 refine aC (aJa (l:=[am]) (by
  refine .inr ⟨.own h.length 0,true,⟨1,by simp,oS⟩,by simp[Pl.bdd],fun j c hc=> ?_⟩
  rcases j with _ | j
  · simp only[List.map_cons,List.map_nil,List.getElem?_cons_zero,Option.some.injEq]at hc
    subst hc; simp[rdn,Pl.add]
  · simp at hc) (by simp) (fun x hx=>by rw[List.mem_singleton.1 hx]; exact hat)).v ?_
 simp only[go_sem]
 refine aC (aJg (l:=List.replicate n 1) hv.app (by simp; omega) fun j x L hx=> @aQ.vc _ _ _ [] [_,_] [] _ _ _ (aOF j x (by rw[(List.mem_replicate.1 hx).2]; rfl))).v ?_
 simp only[go_sem]
 refine aC (aI8 hv.app hn.2).v ?_
 have e2:((n:Int)==0)=false:=by simp; omega
 have e3:¬(n:Int)=0:=by omega
 simp only[go_sem,e2,e3]
def aDX(am:Int)(n j:Nat):Int:=(am*(j+1:Nat)).tdiv n - (am*j).tdiv n
def lC(am:Int)(n j:Nat):List Int:=(List.range j).map (aDX am n)
theorem aDQ{v:AV}{n:Nat}{am:Int}(hv:SlI w0 h v (List.replicate n 1))(hn:1≤n∧n≤8)(ha:0≤am∧am≤1000000000):ACall Tryz.prog w0 68 [.int .i64 am,v] h fun y H=>aB h H∧SlI w0 H y (lC am n n):=by
 refine aR aH aLo mf68_b mf68_g (qE rfl) fun hb1 ha1=>aM ?_
 have ln:=(SlI.use hv).1
 rw[List.length_replicate]at ln
 rw[List.append_nil]
 simp only[go_sem,mf68]
 refine aC (aI8 hv hn.2).v ?_
 have q0:((am*(0:Nat)).tdiv n)=0:=by simp
 simp only[go_sem,ln]
 refine bN (S:=Heap×AV) (fun j s=>[(0,.int .i64 am),(5,s.2),(6,.int .i64 ((am*j).tdiv n)),(7,.int .i64 j),(8,.int .i64 n),(13,v),(14,.int .i64 n),(15,.int .i64 j)]) (fun _ s=>s.1) (fun j s=>Gro h s.1 1 j s.2 (aV (lC am n j))) n (h,.nilS) (Gro.nil aB.refl) (by simp) rfl ?_ ?_
 · rintro j ⟨H,ov⟩ hj g ih
   simp only at g ih ⊢
   refine aD aH aEJ [0,5,6,7,8,13,14,15] L68_0.eq_1 ?_
   have e1:(j:Int)<n:=by omega
   obtain⟨p,i1,r1,r1'⟩:=SlI.at_ (Sl.sub hv g.sub) (j:=j) (by simpa using hj)
   rw[aBi]at r1 r1'
   have m0:0≤am*(j:Int):=Int.mul_nonneg ha.1 (by omega)
   have m1:am*(j:Int)≤1000000000*8:=Int.mul_le_mul ha.2 (by omega) (by omega) (by omega)
   have m2:am*((j:Int)+1)=am*j+am:=by rw[Int.mul_add,Int.mul_one]
   have d0:0≤(am*(j:Int)).tdiv n∧(am*(j:Int)).tdiv n≤am*j:=⟨Int.tdiv_nonneg m0 (by omega),Int.tdiv_le_self _ m0⟩
   have d1:0≤(am*((j:Int)+1)).tdiv n∧(am*((j:Int)+1)).tdiv n≤am*j+am:=⟨Int.tdiv_nonneg (by omega) (by omega),by rw[←m2]; exact Int.tdiv_le_self _ (by omega)⟩
   have w1:=cV (n:=(am*((j:Int)+1)).tdiv n - (am*(j:Int)).tdiv n) (by unfold I64; omega)
   have e3:((n:Int)==0)=false:=by simp; omega
   have e4:¬(n:Int)=0:=by omega
   obtain⟨x,ex⟩:∃x,x=(am*((j:Int)+1)).tdiv n - (am*(j:Int)).tdiv n:=⟨_,rfl⟩
   rw[←ex]at w1
   obtain⟨G,ap,g2⟩:=(g.app (L:=[some (Blk.row [AV.int .i64 x])])).more (w0:=w0) (b:=8) (k:=H.length) (x:=[AV.int .i64 x]) (f:=true) (by simp) rfl rfl (by omega) (by omega)
   have gl:(H++[some (Blk.row [AV.int .i64 x])]).length=H.length+1:=by simp
   rw[gl]at ap g2
   have sh:aV (lC am n j)++[AV.int .i64 x]=aV (lC am n (j+1)):=by
    have e:aDX am n j=x:=by rw[ex,aDX]; rw[Int.natCast_add,Int.natCast_one]
    rw[lC,lC,List.range_succ,List.map_append,List.map_cons,List.map_nil,e]; simp[aV]
   rw[sh]at g2
   simp only[go_sem,e1,i1,r1,r1',e3,e4,←ex,w1,ap]
   have go:=ih (G,_) g2
   refine⟨(by unfold I64; omega),by unfold I64; omega,by unfold I64; omega,by unfold I64; omega,by unfold I64; omega,(by unfold I64; omega),?_⟩
   simpa using go
 · rintro⟨H,ov⟩ g
   simp only at g ⊢
   refine aD aH aEJ [0,5,6,7,8,13,14,15] L68_0.eq_1 ?_
   have e1:¬(n:Int)<n:=by omega
   simp only[go_sem,e1]
   exact⟨g.sub,g.sli (by simp[lC])⟩
theorem aO0{v:AV}{n:Nat}{am:Int}(hv:SlI w0 h v (List.replicate n 1))(hn:1≤n∧n≤8)(hat:0≤am∧am≤1000000000):ACall Tryz.prog w0 35 [.int .i64 am,v] h fun y H=>aB h H∧∃z,y= .tup [z,.int .i64 0]∧SlI w0 H z (lC am n n):=by
 refine aR aH aLS mf35_b mf35_g (qE rfl) fun hb1 ha1=>aM ?_
 rw[List.append_nil]
 simp only[go_sem,mf35]
 refine aC (rF hv hn (by simp[inB]; omega)).v ?_
 simp only[go_sem]
 refine aP (ACall.vc (first:=[]) (args:=[_,_]) (aDQ hv hn hat)) ?_
 rintro y H ⟨s1,b1⟩
 simp only[go_sem]
 exact⟨s1,_,rfl,b1⟩
theorem aJh{x y:AV}{a:List Int}(hx:SlI w0 h x a)(hy:SlI w0 h y a)(hn:a.length<1000000):aQ Tryz.prog w0 37 [x,y] h (.bool true) h:=by
 refine aF aH aLQ mf37_b mf37_g (qE rfl) (by simp[AV.bdd,AV.bdds]) fun hb ha=>aM ?_
 have la:=(SlI.use hx).1
 have lb:=(SlI.use hy).1
 simp only[go_sem,mf37,la,lb]
 refine dH (fun j=>[(0,x),(1,y),(5,.int .i64 j)]) (fun j=>True) a.length rfl (fun j hj hall ih=> ?_) (fun hall=> ?_)
 · refine aD aH aE5 [0,1,5] L37_0.eq_1 ?_
   obtain⟨p,i1,r1,r1'⟩:=hx.at_ hj
   obtain⟨q,i2,r2,r2'⟩:=hy.at_ hj
   have e2:(j:Int)<a.length:=by omega
   simp only[go_sem,la,lb,e2,i1,i2,r1,r2,r1',r2']
   exact⟨(by unfold I64; omega),ih trivial⟩
 · refine aD aH aE5 [0,1,5] L37_0.eq_1 ?_
   have e2:¬(a.length:Int)<a.length:=by omega
   simp only[go_sem,la,e2]
theorem yN{p:bA}{legs:List dT}{a b c:Int}(h1:a≤b)(h2:b≤c)(ha:iF p legs a a=true)(hc:iF p legs c c=true):iF p legs b b=true:=by
 rw[oC,kV,List.all_map,List.all_eq_true]at *
 intro f hf
 have fa:=ha f hf
 have fc:=hc f hf
 simp only[Function.comp_apply,Bool.not_eq_true']at *
 cases hb:f b with
 | false=>rfl
 | true=>
  obtain⟨t,_,hm⟩:=List.mem_flatMap.1 hf
  rcases aEu f hm with m | m
  · rw[m _ _ h2 hb]at fc; cases fc
  · rw[m _ _ h1 hb]at fa; cases fa
def rJ:bA:=⟨1000,100000,2000,1900,[⟨1000,95000⟩,⟨2000,190000⟩,⟨2000,230000⟩,⟨1000,115000⟩],[⟨90,200⟩,⟨200,300⟩],⟨120,200⟩,40,[⟨100,50⟩,⟨100,50⟩]⟩
def aBL:List dT:=[⟨[⟨0,70,90⟩,⟨1,100,140⟩],false,0,30,40,0,5⟩,⟨[⟨0,70,90⟩],false,0,60,80,0,5⟩]
theorem aDf:iF rJ aBL 160 160=true:=by kernel_rfl
theorem aDg:iF rJ aBL 159 159=false:=by kernel_rfl
theorem aJi:pI rJ=true:=by kernel_rfl
theorem exLg_b:aBL.all (lS rJ.sta.length)=true:=by kernel_rfl
theorem aOK{n e:Int}(h:aKi rJ aBL n e):n=160∧e=0:=by
 rcases aI7 h with⟨_,h2⟩ | ⟨h1,h2,h3,h4⟩
 · have:=h2 160 (by omega) (by omega)
   rw[aDf]at this; cases this
 · refine⟨?_,h1⟩
   have n9:aDg=aDg:=rfl
   by_cases c1:n<160
   · have:=yN (a:=n) (b:=159) (c:=160) (by omega) (by omega) h3 aDf
     rw[aDg]at this; cases this
   by_cases c2:160<n
   · have:=yN (a:=160) (b:=n - 1) (c:=n) (by omega) (by omega) aDf h3
     rw[h4 (by omega)]at this; cases this
   · omega
def uT(n:Nat):Heap:=[some (.row (rJ.c (.sl (.own (n+4) 0) 4 2 true) (.sl (.own (n+3) 0) 2 2 true) (.sl (.own (n+2) 0) 2 2 true))),some (.row [.int .i64 100,.int .i64 50]),some (.row (rJ.flo.map kR.c).flatten),some (.row (rJ.sta.map kR.c).flatten),some (.row (rJ.cor.map gB.c).flatten)]
theorem exPl_c:aQ Tryz.prog w0 31 [] h (.agg (rJ.c (.sl (.own (h.length+4) 0) 4 2 true) (.sl (.own (h.length+3) 0) 2 2 true) (.sl (.own (h.length+2) 0) 2 2 true))) (h++uT h.length):=by
 refine nF aH aLW mf31_b mf31_g (qE rfl) (by simp[bA.c,AV.bdd,AV.bdds,Pl.bdd,uT]) (fun _=>by
  simp[uT,bI,cC,bT,bA.c,AV.bdd,AV.bdds,Pl.bdd,rJ,kR.c,gB.c]) fun hb ha=>aM ?_
 simp only[go_sem,mf31]
 exact⟨rfl,rfl,rfl,rfl,rfl,rfl,trivial⟩
theorem exPl_V:iT w0 (h++uT h.length) rJ (.sl (.own (h.length+4) 0) 4 2 true) (.sl (.own (h.length+3) 0) 2 2 true) (.sl (.own (h.length+2) 0) 2 2 true):=
 ⟨fH (w0:=w0) (h:=h) (L:=uT h.length) (rJ.cor.map gB.c) (es:=2) true 4 rfl (by simp[gB.c]),fH (w0:=w0) (h:=h) (L:=uT h.length) (rJ.sta.map kR.c) (es:=2) true 3 rfl (by simp[kR.c]),fH (w0:=w0) (h:=h) (L:=uT h.length) (rJ.flo.map kR.c) (es:=2) true 2 rfl (by simp[kR.c])⟩
def exIt:List gQ:=[⟨0,70,90⟩,⟨1,100,140⟩]
def aBK(n:Nat):List (List AV):=[.sl (.own n 0) 2 3 true::[.bool false,.int .i64 0,.int .i64 30,.int .i64 40,.int .i64 0,.int .i64 5],.sl (.own n 0) 1 3 false::[.bool false,.int .i64 0,.int .i64 60,.int .i64 80,.int .i64 0,.int .i64 5]]
def uU(n:Nat):Heap:=[some (.row (exIt.map gQ.c).flatten),some (.row (aBK n).flatten)]
theorem exLg_c:aQ Tryz.prog w0 32 [] h (.sl (.own (h.length+1) 0) 2 7 true) (h++uU h.length):=by
 refine nF aH aLV mf32_b mf32_g (qE rfl) (by simp[AV.bdd,AV.bdds,Pl.bdd,uU]) (fun _=>by
  simp[uU,bI,cC,bT,AV.bdd,AV.bdds,Pl.bdd,aBK,exIt,gQ.c]) fun hb ha=>aM ?_
 simp only[go_sem,mf32]
 exact⟨rfl,rfl,trivial⟩
theorem exLg_V:kM w0 (h++uU h.length) (.sl (.own (h.length+1) 0) 2 7 true) aBL:=by
 refine⟨aBK h.length,rfl,fH (w0:=w0) (h:=h) (L:=uU h.length) (aBK h.length) (es:=7) true 1 rfl (by simp[aBK]),fun j x c hx hc=> ?_⟩
 have s0:=fH (w0:=w0) (h:=h) (L:=uU h.length) (exIt.map gQ.c) (es:=3) true 0 rfl (by simp[gQ.c])
 match j with
 | 0=>
  cases hx; cases hc
  exact⟨_,rfl,s0,fun e=>by simp at e⟩
 | 1=>
  cases hx; cases hc
  refine⟨_,rfl,?_,fun e=>by simp at e⟩
  refine .inr ⟨.own h.length 0,false,⟨3,rfl,oS⟩,by simp[Pl.bdd,uU],fun j c hc=> ?_⟩
  match j with
  | 0=>
   cases hc
   simp only[Pl.add,rdn]
   rw[qI (by omega),Nat.sub_self]
   rfl
  | n+1=>simp[aBL]at hc
 | n+2=>simp[aBL]at hx
deriving instance DecidableEq for bU
theorem bU.ext_iff2{a b:bU}:a=b↔a.low=b.low∧a.high=b.high:=by cases a; cases b; simp
theorem eqa_sp(x y z w:Int):aF8 [true,true] true (.agg [.int .i64 x,.int .i64 y]) (.agg [.int .i64 z,.int .i64 w])=some (.bool (!(decide (x=z)&&decide (y=w)))):=by
 have hc:∀x y:Int,ceq true (.int .i64 x) (.int .i64 y)=some (decide (x=y)):=fun x y=>by
  by_cases e:x=y<;>simp[ceq,e]
 simp only[aF8,eM,hc]
 by_cases e1:x=z<;>by_cases e2:y=w<;>simp[e1,e2]
theorem aA6(a b:List bU)(va vb:AV)(hva:Sl w0 h 2 va (a.map bU.c))(hvb:Sl w0 h 2 vb (b.map bU.c))(hn:a.length<1000000):aQ Tryz.prog w0 36 [va,vb] h (.bool (decide (a=b))) h:=by
 refine aF aH aLR mf36_b mf36_g (qE rfl) (by simp[AV.bdd,AV.bdds]) fun hb ha=>aM ?_
 obtain⟨ln1,q1,ix1,row1,_⟩:=hva.use
 obtain⟨ln2,q2,ix2,row2,_⟩:=hvb.use
 simp only[List.length_map]at ln1 ln2 ix1 ix2
 simp only[go_sem,mf36,ln1,ln2]
 refine⟨fun e=> ?_,fun e=> ?_⟩
 · have:a≠b:=fun x=>by subst x; simp at e
   simp[this]
 · have el : a.length = b.length := by have : (a.length : Int) = b.length := by simpa using e
                                       omega
   refine dH (fun j=>[(0,va),(1,vb),(5,.int .i64 j)]) (fun j=>∃(h1:j<a.length) (h2:j<b.length),a[j]=b[j]) a.length rfl (fun j hj hi ih=> ?_) (fun hi=> ?_)
   · refine aD aH aE6 [0,1,5] L36_0.eq_1 ?_
     have hjb:j<b.length:=by omega
     have e1:=ix1 j hj
     have e2:∀L,rdn w0 (h++L) (q1.add (j*2)) 2=some [.int .i64 a[j].low,.int .i64 a[j].high]:=fun L=>dJ (row1 j _ (by simp[hj]; rfl))
     have e3:(j:Int)<a.length:=by omega
     have e4:=ix2 j hjb
     have e5:∀L,rdn w0 (h++L) (q2.add (j*2)) 2=some [.int .i64 b[j].low,.int .i64 b[j].high]:=fun L=>dJ (row2 j _ (by simp[hjb]; rfl))
     simp only[go_sem,e1,e2,e3,e4,e5,ln1,eqa_sp]
     refine⟨fun e=> ?_,fun e=>⟨(by unfold I64; omega),ih ⟨hj,hjb,bU.ext_iff2.2 (by simpa using e)⟩⟩⟩
     have:a≠b:=fun x=>by subst x; simp at e
     simp[this]
   · refine aD aH aE6 [0,1,5] L36_0.eq_1 ?_
     have e3:¬(a.length:Int)<a.length:=by omega
     simp only[go_sem,e3,ln1]
     have:a=b:=List.ext_getElem el fun i h1 h2=>by obtain⟨_,_,e⟩:=hi i h1; exact e
     simp[this]
def qR:dS:=⟨[⟨[⟨480,600⟩],0⟩,⟨[⟨500,560⟩,⟨640,700⟩],10⟩,⟨[⟨520,580⟩,⟨690,760⟩],0⟩],[⟨30,40⟩,⟨20,50⟩]⟩
theorem aF5:fQ qR=[[⟨480,520⟩],[⟨500,530⟩,⟨670,700⟩]]:=by kernel_rfl
theorem aOM:kD qR=true:=by kernel_rfl
def oR(n:Nat):mR:=⟨.sl (.own (n+4) 0) 3 2 true,.sl (.own (n+5) 0) 2 2 true,[.sl (.own (n+1) 0) 1 2 true,.sl (.own (n+2) 0) 2 2 true,.sl (.own (n+3) 0) 2 2 true]⟩
def spc(l:List bU):List AV:=(l.map bU.c).flatten
def mQ(n:Nat):Heap:=[some (.row (lO (oR n))),some (.row (spc [⟨480,600⟩])),some (.row (spc [⟨500,560⟩,⟨640,700⟩])),some (.row (spc [⟨520,580⟩,⟨690,760⟩])),some (.row ((fJ (oR n).ws qR.stops).flatten)),some (.row (spc qR.legs))]
theorem vI(l:List bU):∀c∈l.map bU.c,c.length=2:=fun c hc=>by obtain⟨x,_,rfl⟩:=List.mem_map.1 hc; rfl
theorem aON:kI w0 (h++mQ h.length) qR (oR h.length):=by
 refine⟨⟨rfl,?_,?_,?_⟩,by decide,by decide,by decide⟩
 · exact fH (w0:=w0) (h:=h) (L:=mQ h.length) (fJ (oR h.length).ws qR.stops) (es:=2) true 4 rfl (by simp[fJ,oR,qR,oE])
 · intro j x s hx hs
   match j with
   | 0=>cases hx; cases hs; exact fH (w0:=w0) (h:=h) (L:=mQ h.length) ([⟨480,600⟩].map bU.c) (es:=2) true 1 rfl (vI _)
   | 1=>cases hx; cases hs; exact fH (w0:=w0) (h:=h) (L:=mQ h.length) ([⟨500,560⟩,⟨640,700⟩].map bU.c) (es:=2) true 2 rfl (vI _)
   | 2=>cases hx; cases hs; exact fH (w0:=w0) (h:=h) (L:=mQ h.length) ([⟨520,580⟩,⟨690,760⟩].map bU.c) (es:=2) true 3 rfl (vI _)
   | n+3=>simp[qR]at hs
 · exact fH (w0:=w0) (h:=h) (L:=mQ h.length) (qR.legs.map bU.c) (es:=2) true 5 rfl (vI _)
theorem aOL:aQ Tryz.prog w0 34 [] h (.agg (lO (oR h.length))) (h++mQ h.length):=by
 refine nF aH aLT mf34_b mf34_g (qE rfl) (by simp[lO,oR,AV.bdd,AV.bdds,Pl.bdd,mQ]) (fun _=>by
  simp[mQ,bI,cC,bT,lO,oR,AV.bdd,AV.bdds,Pl.bdd,qR,spc,fJ,oE,bU.c]) fun hb ha=>aM ?_
 simp only[go_sem,mf34]
 exact⟨rfl,rfl,rfl,rfl,rfl,rfl,rfl,trivial⟩
set_option maxRecDepth 20000 in
theorem nN:aQ Tryz.prog w0 10 [] h (.bool true) h:=by
 refine dB (by simp[AV.bdd]) (aR aH aOd mf10_b mf10_g (qE rfl) fun hb1 ha1=>aM ?_)
 rw[List.append_nil]
 simp only[go_sem,mf10]
 refine aC exPl_c.v ?_
 simp only[go_sem]
 have pv:=exPl_V (w0:=w0) (h:=h)
 obtain⟨H0,eH0⟩:∃H0,H0=h++uT h.length:=⟨_,rfl⟩
 have s0:aB h H0:=by rw[eH0]; exact aB.refl.app
 rw[←eH0]at pv ⊢
 refine aC exLg_c.v ?_
 simp only[go_sem]
 have lg:=exLg_V (w0:=w0) (h:=H0)
 obtain⟨H1,eH1⟩:∃H1,H1=H0++uU H0.length:=⟨_,rfl⟩
 have s01:aB H0 H1:=by rw[eH1]; exact aB.refl.app
 have s1:aB h H1:=s0.trans s01
 have pv1:=pv.sub s01
 rw[←eH1]at lg ⊢
 obtain⟨pb,ps,pf,_⟩:=rY aJi
 have fc:=Fuel_c pv1 aJi lg (fun x hx=>List.all_eq_true.1 exLg_b x hx) (by decide) (fun n=>by rw[kV,kV,List.length_map,List.length_map])
  (by rw[kV,List.length_map]; have:=aJD (legs:=aBL) pb (by decide) (by decide) (by decide); omega)
 refine aP (ACall.vc (first:=[]) (args:=[_,_]) fc) ?_
 rintro y H2 ⟨s2,n,e,rfl,hF⟩
 obtain⟨rfl,rfl⟩:=aOK hF
 have sh2:=s1.trans s2
 simp only[go_sem]
 refine aC aOL.v ?_
 simp only[go_sem]
 have cr:=aON (w0:=w0) (h:=H2)
 obtain⟨H3,eH3⟩:∃H3,H3=H2++mQ H2.length:=⟨_,rfl⟩
 have sh3:aB h H3:=by rw[eH3]; exact sh2.app
 rw[←eH3]at cr ⊢
 refine aP (ACall.vc (first:=[]) (args:=[_]) (aKs _ _ cr)) ?_
 rintro y H4 ⟨s4,dk⟩
 rw[aOM,if_pos rfl,aF5]at dk
 obtain⟨z,rfl,ls⟩:=dk
 have sh4:=sh3.trans s4
 have lz:=NS.len ls
 obtain⟨zp,z0,iz,rz,sz⟩:=LS.at_ ls (j:=0) (by decide)
 simp only[go_sem]
 have ones:SlI w0 (H4++[some (Blk.row [AV.int .i64 1,AV.int .i64 1,AV.int .i64 1])]) (.sl (.own H4.length 0) 3 1 true) (List.replicate 3 1):=fH (w0:=w0) (h:=H4) (L:=[some (Blk.row [AV.int .i64 1,AV.int .i64 1,AV.int .i64 1])]) ((List.replicate 3 (1:Int)).map fun z=>[AV.int .i64 z]) (es:=1) true 0 rfl (by decide)
 refine aP (ACall.vc (first:=[]) (args:=[_,_]) (aO0 (n:=3) (am:=1000) ones (by decide) (by decide))) ?_
 rintro y H5 ⟨s5,q,rfl,hq⟩
 have e5:lC 1000 3 3=[333,333,334]:=by decide
 rw[e5]at hq
 have s45:aB H4 H5:=aB.refl.app.trans s5
 have sh5:=sh4.trans s45
 simp only[go_sem]
 have bars:qS w0 (H5++[some (Blk.row [AV.int .i64 100,AV.int .i64 9,AV.int .i64 80,AV.int .i64 2])]) (.sl (.own H5.length 0) 2 2 true) [⟨100,9⟩,⟨80,2⟩]:=fH (w0:=w0) (h:=H5) (L:=[some (Blk.row [AV.int .i64 100,AV.int .i64 9,AV.int .i64 80,AV.int .i64 2])]) (([⟨100,9⟩,⟨80,2⟩]:List iS).map iS.c) (es:=2) true 0 rfl (by simp[iS.c])
 refine aP (ACall.vc (first:=[]) (args:=[_,_]) (Has_c (d:=3) bars (by decide) (by decide))) ?_
 rintro y H6 ⟨s6,rfl⟩
 have e6:hasD 3 [⟨100,9⟩,⟨80,2⟩]=100:=by decide
 rw[e6]
 have s56:aB H5 H6:=aB.refl.app.trans s6
 have s46:=s45.trans s56
 have sh6:=sh5.trans s56
 have rz6:∀L,rd w0 (H6++L) zp=some z0:=fun L=>(s46.app (L:=L)).rd (by have:=rz []; rwa [List.append_nil]at this)
 have lz':dF z=some (.int .i64 2):=lz
 have rz7:=rz6 []
 rw[List.append_nil]at rz7
 have sz6:=sz.sub s46
 simp only[go_sem,lz',iz,rz6,rz7]
 refine aC (aA6 [⟨480,520⟩] [⟨480,520⟩] _ _ sz6.app (fH (w0:=w0) (h:=H6) (L:=[some (Blk.row [AV.int .i64 480,AV.int .i64 520])]) (([⟨480,520⟩]:List bU).map bU.c) (es:=2) true 0 rfl (by decide)) (by decide)).v ?_
 rw[decide_eq_true rfl]
 simp only[go_sem]
 have hq6:=Sl.sub hq s56
 refine aC (aJh (a:=[333,333,334]) (Sl.sub hq6 aB.refl.app) (fH (w0:=w0) (h:=H6) (L:=[some (Blk.row [AV.int .i64 480,AV.int .i64 520]),some (Blk.row [AV.int .i64 333,AV.int .i64 333,AV.int .i64 334])]) (([333,333,334]:List Int).map fun z=>[AV.int .i64 z]) (es:=1) true 1 rfl (by decide)) (by decide)).v ?_
 simp only[go_sem]
 exact sh6.app
end Go.Proofs.Ab

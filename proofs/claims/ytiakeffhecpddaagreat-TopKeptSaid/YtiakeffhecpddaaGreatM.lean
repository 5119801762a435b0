/- Own layer, part M. -/
import Derived.Test.YtiakeffhecpddaaGreatK
import Derived.Test.YtiakeffhecpddaaGreatG
set_option linter.unusedSimpArgs false
set_option linter.unusedVariables false
namespace Go.Proofs.Ab
open Go Go.Proofs
variable {w0:World} {h:Heap}
attribute [local irreducible] ACall bE cR aK bI rvC lp rg dr ex un rv
structure qN where
 berths:Int
 lodge:Bool
@[go_sem] def qN.c (p:qN):List AV:=[.int .i64 p.berths,.bool p.lodge]
structure dD where
 one:Int
 other:Int
 deriving DecidableEq
@[go_sem] def dD.c (p:dD):List AV:=[.int .i64 p.one,.int .i64 p.other]
structure dL where
 at_:Int
 home:Int
 seats:Int
 duty:Int
 away:Int
@[go_sem] def dL.c (p:dL):List AV:=[.int .i64 p.at_,.int .i64 p.home,.int .i64 p.seats,.int .i64 p.duty,.int .i64 p.away]
structure gV where
 at_:Int
 to:Int
 seats:Int
 strand:Int
 lodged:Int
@[go_sem] def gV.c (p:gV):List AV:=[.int .i64 p.at_,.int .i64 p.to,.int .i64 p.seats,.int .i64 p.strand,.int .i64 p.lodged]
structure aQ where
 places:List qN
 links:List dD
 planes:List dL
 people:List gV
 weathers:List (List Int)
structure cU where
 pl:AV
 ln:AV
 pn:AV
 pe:AV
 we:AV
@[go_sem] def aX (v:cU):List AV:=[v.pl,v.ln,v.pn,v.pe,v.we]
def InR(w0:World)(h:Heap)(l:List Int)(c:List AV):Prop:=∃x,c=[x]∧SlI w0 h x l
theorem InR.sub{H:Heap}{l:List Int}{c:List AV}(s:InR w0 h l c)(t:aB h H):InR w0 H l c:=by
 obtain⟨x,h1,h2⟩:=s; exact⟨x,h1,Sl.sub h2 t⟩
def LI(w0:World)(h:Heap)(v:AV)(t:List (List Int)):Prop:=NS w0 h 1 (InR w0 h) v t
theorem LI.sub{H:Heap}{v:AV}{t:List (List Int)}(s:LI w0 h v t)(u:aB h H):LI w0 H v t:=NS.mono s u fun _ _ r=>r.sub u
theorem LI.at_{v:AV}{t:List (List Int)}(s:LI w0 h v t){j:Nat}(hj:j<t.length):∃(p:Pl) (x:AV),cF 1 v (some j)=some (.ptr p)∧(∀L,rd w0 (h++L) p=some x)∧SlI w0 h x t[j]:=by
 obtain⟨p,c,p1,p2,x,rfl,p3⟩:=NS.at_ s hj
 exact⟨p,x,p1,fun L=>rd_0 (p2 L) rfl,p3⟩
structure DayS(w0:World)(h:Heap)(d:aQ)(v:cU):Prop where
 places:Sl w0 h 2 v.pl (d.places.map qN.c)
 links:Sl w0 h 2 v.ln (d.links.map dD.c)
 planes:Sl w0 h 5 v.pn (d.planes.map dL.c)
 people:Sl w0 h 5 v.pe (d.people.map gV.c)
 weathers:LI w0 h v.we d.weathers
structure kU(w0:World)(h:Heap)(d:aQ)(v:cU):Prop extends DayS w0 h d v where
 l1:d.places.length≤50
 l2:d.links.length<1000000
 l3:d.planes.length<1000000
 l4:d.people.length<1000000
 l5:d.weathers.length<1000000
 l6:∀w∈d.weathers,w.length<1000000
section
variable {d:aQ} {v:cU}
theorem DayS.sub{H:Heap}(s:DayS w0 h d v)(t:aB h H):DayS w0 H d v:=⟨s.places.sub t,s.links.sub t,s.planes.sub t,s.people.sub t,s.weathers.sub t⟩
theorem kU.sub{H:Heap}(s:kU w0 h d v)(t:aB h H):kU w0 H d v:=⟨s.toDayS.sub t,s.l1,s.l2,s.l3,s.l4,s.l5,s.l6⟩
theorem kU.app{L:Heap}(s:kU w0 h d v):kU w0 (h++L) d v:=s.sub aB.refl.app
theorem DayS.app{L:Heap}(s:DayS w0 h d v):DayS w0 (h++L) d v:=s.sub aB.refl.app
end
def bR(n:Nat)(x:Int):Bool:=inB x 0 ((n:Int) - 1)
theorem xJ(n:Nat)(x:Int){ib:Nat}(hi:h[ib]? = some (some (.row [.int .i64 n])))(hn:n≤50):aK Tryz.prog w0 91 [.int .i64 x,.ptr (.own ib 0)] h (.bool (bR n x)) h:=by
 refine aM mf91_k fun hb ha=> ?_
 have b1:=xL hi
 have b1':=b1 []
 rw[List.append_nil]at b1'
 simp (disch:=(unfold I64; omega)) only[go_sem,cZ,mf91,b1,b1']
 refine aC (nS _ _ _).v ?_
 simp only[go_sem]
 rfl
def eE(n:Nat)(p:gV):Bool:=bR n p.at_&&(bR n p.to&&(inB p.seats 1 20&&(inB p.strand 0 1000000&&inB p.lodged 0 1000000)))
theorem aIN(n:Nat)(j:Int)(p:gV){ib ic:Nat}(hi:h[ib]? = some (some (.row [.int .i64 n])))(hc:h[ic]? = some (some (.row [.fn (.func 91) [] [.ptr (.own ib 0)]])))(hn:n≤50) :
 aK Tryz.prog w0 95 [.int .i64 j,.agg p.c,.ptr (.own ic 0)] h (.bool (eE n p)) h:=by
 refine aM mf95_k fun hb ha=> ?_
 have b2:=xL hc
 have pc:∀L x,bI Tryz.prog w0 (.fn (.func 91) [] [.ptr (.own ib 0)]) [.int .i64 x] (h++L) (.bool (bR n x)) (h++L):=fun L x=>(xJ n x (aA hi) hn).vc (first:=[]) (capt:=[.ptr (.own ib 0)])
 simp only[go_sem,mf95,b2]
 refine aC (pc _ _) ?_
 simp only[go_sem,b2]
 refine⟨fun e1=> ?_,fun e1=>by simp[eE,e1]⟩
 refine aC (pc _ _) ?_
 simp only[go_sem]
 refine⟨fun e2=> ?_,fun e2=>by simp[eE,e1,e2]⟩
 refine aC (nS _ _ _).v ?_
 simp only[go_sem]
 refine⟨fun e3=> ?_,fun e3=>by simp[eE,e1,e2,e3]⟩
 refine aC (nS _ _ _).v ?_
 simp only[go_sem]
 refine⟨fun e4=> ?_,fun e4=>by simp[eE,e1,e2,e3,e4]⟩
 refine aC (nS _ _ _).v ?_
 simp only[go_sem]
 simp[eE,e1,e2,e3,e4]
def fE(n:Nat)(p:dL):Bool:=bR n p.at_&&(bR n p.home&&(inB p.seats 0 20&&(inB p.duty 0 20&&inB p.away 0 1000000)))
def pZ(n:Nat)(l:List Int)(p:dL):List Int:=if bR n p.at_ then l.set p.at_.toNat (l.getD p.at_.toNat 0+1)else l
theorem aC5{n:Nat}{l:List Int}{p:dL}:(pZ n l p).length=l.length:=by unfold pZ; split<;>simp
theorem aDJ{l:List Int}{i:Nat}{x:Int}(hi:i<l.length):cO (aN l) i [.int .i64 x]=aN (l.set i x):=by
 have:cO (aN l) i [.int .i64 x]=(aN l).set i (.int .i64 x):=by
  rw[List.set_eq_take_append_cons_drop,if_pos (by simpa[aN]using hi)]; simp[cO]
 rw[this]; simp[aN,List.map_set]
theorem mR{l:List Int}{i:Nat}{x:Int}(hi:i<l.length):(aN l).take i ++ .int .i64 x::(aN l).drop (i+1)=aN (l.set i x):=by
 rw[←aDJ hi]; simp[cO]
theorem aMm(n:Nat)(j:Int)(p:dL)(l:List Int){ib ic ir is:Nat}(hi:h[ib]? = some (some (.row [.int .i64 n])))(hc:h[ic]? = some (some (.row [.fn (.func 91) [] [.ptr (.own ib 0)]])))(hr:h[ir]? = some (some (.row (aN l))))(hs:h[is]? = some (some (.row [.sl (.own ir 0) n 1 true])))
 (hl:l.length=n) (hlb:∀x∈l,0≤x∧x<1000000) (hn:n≤50) (n1:ib≠ir) (n2:ic≠ir):aK Tryz.prog w0 93 [.int .i64 j,.agg p.c,.ptr (.own ic 0),.ptr (.own is 0)] h (.bool (fE n p)) (h.set ir (some (.row (aN (pZ n l p))))):=by
 have hrl:=aD hr
 refine aDs dE aDX.a aDX.b aDX.c (qE rfl) (by simp) (fun hb i b e=> ?_) (by simp[AV.bdd]) fun hb ha=>hY ?_
 ·rw[List.length_set]
  by_cases hir:ir=i
  ·subst hir
   rw[qF hrl]at e
   cases e
   rw[bP]; simp[aN,cG,AV.bdd]
  ·rw[qB hir]at e; exact hb i b e
 have b2:=xL hc
 have b3:=xL hs
 have b4:=xL hr
 have pc:∀L x,bI Tryz.prog w0 (.fn (.func 91) [] [.ptr (.own ib 0)]) [.int .i64 x] (h++L) (.bool (bR n x)) (h++L):=fun L x=>(xJ n x (aA hi) hn).vc (first:=[]) (capt:=[.ptr (.own ib 0)])
 simp only[go_sem,mf93,b2]
 refine aC (pc _ _) ?_
 simp only[go_sem,b2,b3]
 obtain⟨h1,eh1⟩:∃h1,h1=h.set ir (some (.row (aN (pZ n l p)))):=⟨_,rfl⟩
 have hi1:h1[ib]? = some (some (.row [.int .i64 n])):=by rw[eh1,qB (Ne.symm n1)]; exact hi
 have hc1:h1[ic]? = some (some (.row [.fn (.func 91) [] [.ptr (.own ib 0)]])):=by rw[eh1,qB (Ne.symm n2)]; exact hc
 have c2:=xL hc1
 have pc1:∀L x,bI Tryz.prog w0 (.fn (.func 91) [] [.ptr (.own ib 0)]) [.int .i64 x] (h1++L) (.bool (bR n x)) (h1++L):=fun L x=>(xJ n x (aA hi1) hn).vc (first:=[]) (capt:=[.ptr (.own ib 0)])
 have hlen1:h1.length=h.length:=by rw[eh1,List.length_set]
 refine⟨fun e1=> ?_,fun e1=> ?_⟩
 ·have hp:0≤p.at_∧p.at_<n:=by simp only[bR,inB,Bool.and_eq_true,decide_eq_true_eq]at e1; omega
  obtain⟨a,ea⟩:∃a:Nat,p.at_=a:=⟨p.at_.toNat,by omega⟩
  have hal:a<l.length:=by omega
  have hx:=hlb l[a] (qG hal)
  have i1:cF 1 (.sl (.own ir 0) n 1 true) (some a)=some (.ptr (.own ir a)):=by simp[cF,fH,Pl.add]; omega
  have r1:∀L,rd w0 (h++L) (.own ir a)=some (.int .i64 l[a]):=fun L=>by
   simp only[rd,b4]; simp[aN,hal]
  have hcnt:pZ n l p=l.set a (l[a]+1):=by rw[pZ,if_pos e1,ea,Int.toNat_natCast,aE hal]
  rw[ea]
  have d1:(if(0:Int)≤(a:Int)then some (a:Int).toNat else none)=some a:=by rw[if_pos (by omega)]; simp
  have il:(aN l).length=l.length:=by simp[aN]
  simp only[go_sem,d1,i1,r1,b4,il]
  have hsp:∀L,(h++L).set ir (some (.row ((aN l).take a ++ .int .i64 (l[a]+1)::(aN l).drop (a+1))))=h1++L:=fun L=>by
   rw[mR hal,←hcnt,lR hrl,←eh1]
  simp only[go_sem,hsp,c2]
  refine⟨⟨by omega,by omega⟩,by omega,?_⟩
  rw[←hlen1]
  simp only[go_sem,c2]
  refine aC (pc1 _ _) ?_
  simp only[go_sem,c2]
  rw[ea]at e1
  rw[←eh1]
  refine⟨fun _=> ?_,fun e=>by rw[e1]at e; simp at e⟩
  refine aC (pc1 _ _) ?_
  simp only[go_sem]
  refine⟨fun e2=> ?_,fun e2=>by simp[fE,ea,e1,e2,uS]⟩
  refine aC (nS _ _ _).v ?_
  simp only[go_sem]
  refine⟨fun e3=> ?_,fun e3=>by simp[fE,ea,e1,e2,e3,uS]⟩
  refine aC (nS _ _ _).v ?_
  simp only[go_sem]
  refine⟨fun e4=> ?_,fun e4=>by simp[fE,ea,e1,e2,e3,e4,uS]⟩
  refine aC (nS _ _ _).v ?_
  simp only[go_sem]
  simp[fE,ea,e1,e2,e3,e4,uS]
 ·have hcnt:pZ n l p=l:=by rw[pZ,e1]; rfl
  have hh:h1=h:=by rw[eh1,hcnt]; exact pF hr
  rw[←eh1,hh]
  refine aC (pc _ _) ?_
  rw[e1]
  simp only[go_sem]
  simp[uS,fE,e1,newK]
theorem aKx(rows:List (List AV))(v fv:AV)(p:Nat→Bool)(Hs:Nat→Heap)(h0:Hs 0=h)(hlen:∀k,(Hs k).length=h.length)(hhb:∀k,HB h→HB (Hs k))(hv:∀k,Sl w0 (Hs k) 5 v rows)(ho:∀c∈rows,c.all one=true)(hn:rows.length<1000000)
 (hf:∀(j:Nat) c,rows[j]? = some c→(∀i,i<j→p i=true)→∀L,bI Tryz.prog w0 fv [.int .i64 j,.agg c] (Hs j++L) (.bool (p j)) (Hs (j+1)++L)) :
 ACall Tryz.prog w0 92 [v,fv] h fun y h'=>y= .bool ((List.range rows.length).all p)∧∃k,h'=Hs k∧((List.range rows.length).all p=true→k=rows.length):=by
 refine mM (aO mf92_k fun hb ha=> ?_)
 have hfb:fv.bdd h.length:=by simp only[AV.bdds]at ha; exact ha.2.1
 have vb:v.bdd h.length:=by simp only[AV.bdds]at ha; exact ha.1
 have hlen0:=(hv 0).use.1
 simp only[go_sem,mf92,hlen0]
 refine bS (S:=Unit) (fun j _=>[(1,fv),(7,v),(8,.int .i64 rows.length),(9,.int .i64 j)]) (fun j _=>Hs j) (fun j _=>∀i,i<j→p i=true) rows.length () (fun i hi=>by omega) rfl (by simp[h0]) (fun j _ hj hall ih=> ?_) (fun _ hall=> ?_)
 ·refine aP [1,7,8,9] aKN.eq_1 ?_
  obtain⟨_,q,hix,hrow,_⟩:=(hv j).use
  have e1:=hix j hj
  have e3:(j:Int)<rows.length:=by omega
  obtain⟨c,hc⟩:∃c,rows[j]? = some c:=⟨_,qA hj⟩
  have e2:∀L,rdn w0 (Hs j++L) (q.add (j*5)) 5=some c:=fun L=>cK (hrow j c hc)
  have e2':=e2 []
  rw[List.append_nil]at e2'
  have e4:c.all one=true:=ho c (List.mem_of_getElem? hc)
  have e5:c.length=5:=(gR (hrow j c hc)).1
  have e6:List.take 5 c=c:=List.take_of_length_le (by omega)
  simp only[go_sem,e1,e2,e2',e3,e4,e5,gE,e6]
  refine aC (hf j c hc hall _) ?_
  simp only[go_sem]
  have hl1:=hlen (j+1)
  refine⟨fun e=> ?_,fun e=>⟨(by unfold I64; omega),aJd 0 (by omega) (hhb _ hb) (by simp[bC,bO,bT,cC,cT,bP,AV.bdds,AV.bdd,Pl.bdd,aY]) ?_ ?_⟩⟩
  ·have:(List.range rows.length).all p=false:=by
    rw[List.all_eq_false]; exact⟨j,List.mem_range.2 hj,by simp[e]⟩
   rw[this]
   exact⟨Hs (j+1),_,rfl,by omega,hhb _ hb,trivial,rfl,j+1,rfl,fun e=>by simp at e⟩
  ·rw[List.take_zero,List.length_nil,hl1]
   simp[bC,bO,bT,cC,cT,bP,AV.bdds,AV.bdd,Pl.bdd,aY,hfb,vb]
  ·rw[List.take_zero,List.append_nil]
   refine ih () fun i hi=> ?_
   rcases Nat.lt_or_ge i j with h1 | h1
   ·exact hall i h1
   ·obtain rfl:i=j:=by omega
    exact e
 ·refine aP [1,7,8,9] aKN.eq_1 ?_
  have e3:¬(rows.length:Int)<rows.length:=by omega
  simp only[go_sem,e3]
  have:(List.range rows.length).all p=true:=by rw[List.all_eq_true]; exact fun x hx=>hall x (List.mem_range.1 hx)
  rw[this]
  exact⟨Hs rows.length,[],by simp,by rw[hlen]; omega,hhb _ hb,trivial,rfl,_,rfl,fun _=>rfl⟩
theorem aOk{es:Nat}{v:AV}{rows:List (List AV)}(s:Sl w0 h es v rows){k:Nat}(hk:k≤rows.length):∃u,Sl w0 h es u (rows.take k)∧∀(fr:Fr) (hi:Opd),cH (hi.ev fr)=some k→aAg es fr v none (some hi) none=some u:=by
 rcases s with⟨s1,s2⟩ | ⟨p,full,s1,s2,s3⟩
 ·subst s1; subst s2
  refine⟨.nilS,.inl ⟨rfl,by simp⟩,fun fr hi e=> ?_⟩
  have:k=0:=by simpa using hk
  subst this
  simp[aAg,aDb,e,bdK]
 ·obtain⟨es',rfl,he⟩:=s1
  refine⟨.sl (p.add (0*es)) (k - 0) es' (fW none k (full&&k==rows.length)),.inr ⟨p.add (0*es),fW none k (full&&k==rows.length),⟨es',by simp[List.length_take,Nat.min_eq_left hk],by cases p<;>exact he⟩,by cases p<;>exact s2,fun j c hc=> ?_⟩,fun fr hi e=> ?_⟩
  ·rw[Pl.add_add,Nat.zero_mul,Nat.zero_add]
   rw[List.getElem?_take]at hc
   split at hc
   ·exact s3 j c hc
   ·cases hc
  ·simp[aAg,aDb,e,bdK,he,hk]
def aBz(n:Nat)(p:Nat→Bool):Int:=match(List.range n).find? p with | some j=>j | none=> -1
theorem aCM{n j:Nat}{p:Nat→Bool}(hj:j<n)(hp:p j=true)(hb:∀i,i<j→p i=false):aBz n p=j:=by
 have:(List.range n).find? p=some j:=by
  rw[List.find?_range_eq_some]
  refine⟨hp,by simpa using hj,fun i hi=>by simp[hb i hi]⟩
 simp[aBz,this]
theorem aAL{n:Nat}{p:Nat→Bool}(hb:∀i,i<n→p i=false):aBz n p= -1:=by
 have:(List.range n).find? p=none:=by
  rw[List.find?_eq_none]; intro x hx; simp[hb x (List.mem_range.1 hx)]
 simp[aBz,this]
theorem aCN{n:Nat}{p:Nat→Bool}:decide (0≤aBz n p)=(List.range n).any p:=by
 cases e:(List.range n).find? p with
 | none=>
  simp only[aBz,e]
  rw[List.find?_eq_none]at e
  have:(List.range n).any p=false:=by rw[List.any_eq_false]; exact fun x hx=>e x hx
  rw[this]; rfl
 | some j=>
  simp only[aBz,e]
  have:(List.range n).any p=true:=List.any_eq_true.2 ⟨j,List.mem_of_find?_eq_some e,List.find?_some e⟩
  rw[this]; simp
theorem aJx(rows:List (List AV))(v fv:AV)(p:Nat→Bool)(hv:Sl w0 h 2 v rows)(ho:∀c∈rows,c.all one=true)(hn:rows.length<1000000)
 (hf:∀(j:Nat) c,rows[j]? = some c→∀L,bI Tryz.prog w0 fv [.agg c] (h++L) (.bool (p j)) (h++L)):aK Tryz.prog w0 163 [v,fv] h (.int .i64 (aBz rows.length p)) h:=by
 refine aM aMT fun hb ha=> ?_
 have hfb:fv.bdd h.length:=by simp only[AV.bdds]at ha; exact ha.2.1
 obtain⟨hlen,q,hix,hrow,_⟩:=hv.use
 have vb:=hv.bdd (Nat.le_refl _)
 simp only[go_sem,mf163,hlen]
 refine cY (fun j=>[(0,v),(1,fv),(7,.int .i64 rows.length),(8,.int .i64 j)]) (fun j=>p j=false) rows.length rfl (fun j hj hall ih=> ?_) (fun hall=> ?_)
 ·refine aP [0,1,7,8] aEY.eq_1 ?_
  have e1:=hix j hj
  have e3:(j:Int)<rows.length:=by omega
  obtain⟨c,hc⟩:∃c,rows[j]? = some c:=⟨_,qA hj⟩
  have e2:∀L,rdn w0 (h++L) (q.add (j*2)) 2=some c:=fun L=>cK (hrow j c hc)
  have e4:c.all one=true:=ho c (List.mem_of_getElem? hc)
  have e5:c.length=2:=(gR (hrow j c hc)).1
  have e2':=e2 []
  rw[List.append_nil]at e2'
  simp only[go_sem,e1,e2,e2',e3,e4,e5]
  refine aC (by simpa using hf j c hc []) ?_
  simp only[go_sem]
  refine⟨fun e=> ?_,fun e=>⟨(by unfold I64; omega),by simpa using ih e⟩⟩
  rw[aCM hj e hall]
  exact⟨rfl,[],(List.append_nil h).symm⟩
 ·refine aP [0,1,7,8] aEY.eq_1 ?_
  have e3:¬(rows.length:Int)<rows.length:=by omega
  simp only[go_sem,e3]
  rw[aAL hall]
theorem aKo(rows:List (List AV))(v fv:AV)(p:Nat→Bool)(hv:Sl w0 h 2 v rows)(ho:∀c∈rows,c.all one=true)(hn:rows.length<1000000)
 (hf:∀(j:Nat) c,rows[j]? = some c→∀L,bI Tryz.prog w0 fv [.agg c] (h++L) (.bool (p j)) (h++L)):aK Tryz.prog w0 98 [v,fv] h (.bool ((List.range rows.length).any p)) h:=by
 refine aM mf98_k fun hb ha=> ?_
 simp only[go_sem,mf98]
 have c:=(aJx (h:=h) rows v fv p hv ho hn hf).v
 refine aC (by simpa using c) ?_
 simp only[go_sem]
 rw[aCN]
 exact⟨rfl,[],by simp⟩
def eQ(a b:dD):Bool:=decide (a=b)||decide (a=⟨b.other,b.one⟩)
theorem aC3(x y z w:Int):aHl [true,true] false (.agg [.int .i64 x,.int .i64 y]) (.agg [.int .i64 z,.int .i64 w])=some (.bool (decide (x=z)&&decide (y=w))):=by
 have hc:∀x y:Int,ceq true (.int .i64 x) (.int .i64 y)=some (decide (x=y)):=fun x y=>by
  by_cases e:x=y<;>simp[ceq,e]
 simp only[aHl,dU,hc]
 by_cases e1:x=z<;>by_cases e2:y=w<;>simp[e1,e2]
theorem aGK(a b:dD){i:Nat}(hb':h[i]? = some (some (.row b.c))):aK Tryz.prog w0 99 [.agg a.c,.ptr (.own i 0)] h (.bool (eQ a b)) h:=by
 refine aM mf99_k fun hb ha=> ?_
 have b1:=xL hb'
 simp only[go_sem,mf99,b1,aC3]
 have e:eQ a b=((decide (a.one=b.one)&&decide (a.other=b.other))||(decide (a.one=b.other)&&decide (a.other=b.one))):=by
  rw[eQ]; cases a; cases b; simp[dD.mk.injEq]
 rw[e]
 exact⟨fun e=>by rw[e]; rfl,fun e=>by rw[e]; rfl⟩
def uI(n:Nat)(l:List dD)(j:Nat)(p:dD):Bool:=bR n p.one&&(bR n p.other&&(decide (p.one≠p.other) && !(l.take j).any fun x=>eQ x p))
theorem link_c(n:Nat)(l:List dD)(j:Nat)(p:dD)(v:cU){ib ic id:Nat}(hi:h[ib]? = some (some (.row [.int .i64 n])))(hc:h[ic]? = some (some (.row [.fn (.func 91) [] [.ptr (.own ib 0)]])))(hd:h[id]? = some (some (.row (aX v))))
 (hl:Sl w0 h 2 v.ln (l.map dD.c)) (hj:j<l.length) (hll:l.length<1000000) (hn:n≤50):aK Tryz.prog w0 97 [.int .i64 j,.agg p.c,.ptr (.own ic 0),.ptr (.own id 0)] h (.bool (uI n l j p)) h:=by
 refine aM mf97_k fun hb ha=> ?_
 have b2:=xL hc
 have b3:=xL hd
 have pc:∀L x,bI Tryz.prog w0 (.fn (.func 91) [] [.ptr (.own ib 0)]) [.int .i64 x] (h++L) (.bool (bR n x)) (h++L):=fun L x=>(xJ n x (aA hi) hn).vc (first:=[]) (capt:=[.ptr (.own ib 0)])
 obtain⟨u,hu,eu⟩:=aOk hl (k:=j) (by simp; omega)
 simp only[go_sem,mf97,b2]
 refine aC (pc _ _) ?_
 simp only[go_sem,b2]
 refine⟨fun e1=> ?_,fun e1=>by simp[uI,e1]⟩
 refine aC (pc _ _) ?_
 simp only[go_sem,b3,eu]
 refine⟨fun e2=>⟨fun e3=> ?_,fun e3=>by simp[uI,e1,e2,e3]⟩,fun e2=>by simp[uI,e1,e2]⟩
 refine aC ((aKo ((l.map dD.c).take j) u _ (fun i=>eQ (l.getD i ⟨0,0⟩) p) hu.app (fun c hc=> ?_) (by simp; omega) fun i c hc L=> ?_).v) ?_
 ·obtain⟨x,_,rfl⟩:=List.mem_map.1 (List.mem_of_mem_take hc)
  simp[dD.c,one]
 ·have:i<j∧∃x,l[i]? = some x∧c=x.c:=by
   rw[List.getElem?_take]at hc
   split at hc
   ·rename_i hij
    rw[List.getElem?_map]at hc
    cases hx:l[i]? with
    | none=>rw[hx]at hc; cases hc
    | some x=>rw[hx]at hc; exact⟨hij,x,rfl,by cases hc; rfl⟩
   ·cases hc
  obtain⟨_,x,hx,rfl⟩:=this
  rw[List.getD_eq_getElem?_getD,hx]
  exact(aGK (w0:=w0) (h:=(h++[some (.row p.c)])++L) x p (i:=h.length) (by simp)).vc (first:=[]) (capt:=[.ptr (.own h.length 0)])
 have ea:((List.range (List.take j (List.map dD.c l)).length).any fun i=>eQ (l.getD i ⟨0,0⟩) p)=(l.take j).any fun x=>eQ x p:=by
  have hjl:(List.take j (List.map dD.c l)).length=(l.take j).length:=by simp
  rw[hjl,Bool.eq_iff_iff,List.any_eq_true,List.any_eq_true]
  constructor
  ·rintro⟨i,hi,e⟩
   have hi:=List.mem_range.1 hi
   refine⟨(l.take j)[i],qG hi,?_⟩
   rw[List.length_take]at hi
   rw[List.getD_eq_getElem?_getD,qA (by omega)]at e
   simpa using e
  ·rintro⟨x,hx,e⟩
   obtain⟨i,hi,rfl⟩:=List.mem_iff_getElem.1 hx
   refine⟨i,List.mem_range.2 hi,?_⟩
   rw[List.length_take]at hi
   rw[List.getD_eq_getElem?_getD,qA (by omega)]
   simpa using e
 rw[ea]
 simp only[go_sem]
 simp[uI,e1,e2,e3]
def qL(n:Nat)(x:Int):Bool:=inB x 0 (((2^n:Nat):Int) - 1)
theorem bit_c(n:Nat)(j x:Int){ib:Nat}(hi:h[ib]? = some (some (.row [.int .i64 n])))(hn:n≤50):aK Tryz.prog w0 103 [.int .i64 j,.int .i64 x,.ptr (.own ib 0)] h (.bool (qL n x)) h:=by
 refine aM aNJ fun hb ha=> ?_
 have b1:=xL hi
 have b1':=b1 []
 rw[List.append_nil]at b1'
 have h2:2^n≤2^50:=Nat.pow_le_pow_right (by omega) hn
 have h1:1≤2^n:=Nat.one_le_two_pow
 have hs:=nY (n:=n) (by omega)
 have w1:=cZ (n:=((2^n:Nat):Int) - 1) ⟨by omega,by omega⟩
 simp only[go_sem,mf103,b1,b1',hs,w1]
 refine aC (by simpa using(nS _ _ _).v) ?_
 simp only[go_sem]
 exact⟨rfl,[],by simp⟩
def fC(n m:Nat)(w:List Int):Bool:=inB w.length 1 5&&(decide (w.length=m)&&w.all (qL n))
theorem aGs(n:Nat)(j:Int)(w w1:List Int)(ws:List (List Int))(x:AV)(v:cU){ib id:Nat}(hi:h[ib]? = some (some (.row [.int .i64 n])))(hd:h[id]? = some (some (.row (aX v))))(hw:LI w0 h v.we (w1::ws))(hx:SlI w0 h x w)
 (hl:w.length<1000000) (hl1:w1.length<1000000) (hn:n≤50):aK Tryz.prog w0 101 [.int .i64 j,x,.ptr (.own id 0),.ptr (.own ib 0)] h (.bool (fC n w1.length w)) h:=by
 refine aM aNL fun hb ha=> ?_
 have b3:=xL hd
 have b3':=b3 []
 rw[List.append_nil]at b3'
 obtain⟨p,y,p1,p2,p3⟩:=hw.at_ (j:=0) (by simp)
 have p2':=p2 []
 rw[List.append_nil]at p2'
 have ln:=(SlI.use hx).1
 have ln1:=(SlI.use p3).1
 simp only[go_sem,mf101,ln]
 refine aC (by simpa using(nS _ _ _).v) ?_
 simp only[go_sem,b3,b3',p1,p2,p2',ln,ln1]
 have hall:=aGd (h:=h) (w.map fun z=>[.int .i64 z]) x (.fn (.func 103) [] [.ptr (.own ib 0)]) (fun i=>qL n (w.getD i 0)) hx (fun c hc=>by obtain⟨z,_,rfl⟩:=List.mem_map.1 hc; rfl) (by simpa using hl) fun i y hy _ L=>by
  rw[List.getElem?_map]at hy
  cases hz:w[i]? with
  | none=>rw[hz]at hy; cases hy
  | some z=>
   rw[hz]at hy
   cases hy
   rw[List.getD_eq_getElem?_getD,hz]
   exact(bit_c n i z (aA hi) hn).vc (first:=[]) (capt:=[.ptr (.own ib 0)])
 have ea:((List.range (w.map fun z=>[AV.int .i64 z]).length).all fun i=>qL n (w.getD i 0))=w.all (qL n):=by
  rw[List.length_map,Bool.eq_iff_iff,List.all_eq_true,List.all_eq_true]
  constructor
  ·intro a z hz
   obtain⟨i,hi',rfl⟩:=List.mem_iff_getElem.1 hz
   have:=a i (List.mem_range.2 hi')
   rwa [aE hi']at this
  ·intro a i hi'
   have hi':=List.mem_range.1 hi'
   rw[aE hi']
   exact a _ (qG hi')
 rw[ea]at hall
 refine⟨fun e1=>⟨fun e2=> ?_,fun e2=> ?_⟩,fun e1=> ?_⟩
 ·refine aC hall.v ?_
  simp only[go_sem]
  have e2':w.length=w1.length:=by simp only[List.getElem_cons_zero]at e2; omega
  have:fC n w1.length w=w.all (qL n):=by rw[fC,e1]; simp[e2']
  rw[this]
  exact⟨rfl,[],by simp⟩
 ·have e2':¬w.length=w1.length:=by simp only[List.getElem_cons_zero]at e2; omega
  have:fC n w1.length w=false:=by simp[fC,e2']
  rw[this]
  exact⟨rfl,[],by simp⟩
 ·have:fC n w1.length w=false:=by simp[fC,e1]
  rw[this]
  exact⟨rfl,[],by simp⟩
def oO(c:List Int)(j:Nat)(p:qN):Bool:=inB p.berths 0 2&&decide (c.getD j 0≤p.berths)
theorem aOi(n:Nat)(j:Nat)(p:qN)(l:List Int){ir is:Nat}(hr:h[ir]? = some (some (.row (aN l))))(hs:h[is]? = some (some (.row [.sl (.own ir 0) n 1 true])))(hl:l.length=n)(hj:j<n):aK Tryz.prog w0 105 [.int .i64 j,.agg p.c,.ptr (.own is 0)] h (.bool (oO l j p)) h:=by
 refine aM aNH fun hb ha=> ?_
 have b3:=xL hs
 have b4:=xL hr
 have i1:cF 1 (.sl (.own ir 0) n 1 true) (some j)=some (.ptr (.own ir j)):=by simp[cF,fH,Pl.add]; omega
 have r1:∀L,rd w0 (h++L) (.own ir j)=some (.int .i64 (l.getD j 0)):=fun L=>by
  simp only[rd,b4]; simp[aN,qA (show j<l.length by omega)]
 simp only[go_sem,mf105,b3,b4,i1,r1]
 refine aC (nS _ _ _).v ?_
 simp only[go_sem,b3,b4,i1,r1]
 exact⟨fun e=>by simp[oO,e],fun e=>by simp[oO,e]⟩
def tC(n:Nat)(l:List dL):List Int:=l.foldl (pZ n) (List.replicate n 0)
def fX(d:aQ):Bool:=
 let n:=d.places.length
 inB n 1 5&&(decide (d.links.length≤20)&&(decide (d.planes.length≤2)&&(decide (d.people.length≤4)&&(inB d.weathers.length 1 6 &&
  (d.planes.all (fE n)&&(d.people.all (eE n)&&((List.range d.links.length).all (fun j=>uI n d.links j (d.links.getD j ⟨0,0⟩))&&(d.weathers.all (fC n (d.weathers.headD []).length) &&
   (List.range n).all fun j=>oO (tC n d.planes) j (d.places.getD j ⟨0,false⟩)))))))))
theorem cS{α:Type}{l:List α}{x:α}{p:α→Bool}:((List.range l.length).all fun i=>p (l.getD i x))=l.all p:=by
 rw[Bool.eq_iff_iff,List.all_eq_true,List.all_eq_true]
 constructor
 ·intro a z hz
  obtain⟨i,hi',rfl⟩:=List.mem_iff_getElem.1 hz
  have:=a i (List.mem_range.2 hi')
  rwa [aE hi']at this
 ·intro a i hi'
  have hi':=List.mem_range.1 hi'
  rw[aE hi']
  exact a _ (qG hi')
theorem aBw{α:Type}{l:List α}{f:α→List AV}{d:α}{j:Nat}{c:List AV}(e:(l.map f)[j]? = some c):j<l.length∧c=f (l.getD j d):=by
 rw[List.getElem?_map]at e
 cases hz:l[j]? with
 | none=>rw[hz]at e; cases e
 | some z=>rw[hz]at e; cases e; exact⟨aD hz,by rw[List.getD_eq_getElem?_getD,hz]; rfl⟩
theorem aHs(n:Nat)(l:List dL){k:Nat}{d:dL}(hk:k<l.length):tC n (l.take (k+1))=pZ n (tC n (l.take k)) (l.getD k d):=by
 unfold tC
 rw[List.take_add_one,qA hk,List.foldl_append,aE hk]; rfl
theorem aC6(n:Nat)(l:List dL):(tC n l).length=n:=by
 have:∀(l:List dL) (c:List Int),(l.foldl (pZ n) c).length=c.length:=by
  intro l
  induction l with
  | nil=>intro c; rfl
  | cons p l ih=>intro c; rw[List.foldl_cons,ih,aC5]
 rw[tC,this,List.length_replicate]
theorem aOc(n:Nat)(l:List dL):∀x∈tC n l,0≤x∧x≤l.length:=by
 have:∀(l:List dL) (c:List Int) (b:Nat),(∀x∈c,0≤x∧x≤b)→∀x∈l.foldl (pZ n) c,0≤x∧x≤b+l.length:=by
  intro l
  induction l with
  | nil=>intro c b hc x hx; have:=hc x hx; simp; omega
  | cons p l ih=>
   intro c b hc x hx
   rw[List.foldl_cons]at hx
   have:=ih _ (b+1) (fun y hy=> ?_) x hx
   ·rw[List.length_cons]; omega
   ·unfold pZ at hy
    split at hy
    ·rcases List.mem_or_eq_of_mem_set hy with hy | hy
     ·have:=hc y hy; omega
     ·subst hy
      rw[List.getD_eq_getElem?_getD]
      cases e:c[p.at_.toNat]? with
      | none=>simp; omega
      | some z=>have:=hc z (List.mem_of_getElem? e); simp; omega
    ·have:=hc y hy; omega
 intro x hx
 have:=this l (List.replicate n 0) 0 (fun y hy=>by rw[(List.mem_replicate.1 hy).2]; simp) x hx
 omega
theorem vF(n:Nat):fS [AV.int .i64 0] n=aN (List.replicate n 0):=by
 induction n with
 | zero=>rfl
 | succ n ih=>rw[aDQ,ih]; rfl
def iD(h:Heap)(d:aQ)(v:cU)(k:Nat):Heap:=
 h++[some (.row (aX v)),some (.row [.int .i64 d.places.length]),some (.row [.fn (.func 91) [] [.ptr (.own (h.length+1) 0)]]),some (.row (aN (tC d.places.length (d.planes.take k)))),
  some (.row [.sl (.own (h.length+3) 0) d.places.length 1 true])]
section
variable {d:aQ} {v:cU} {k:Nat}
theorem vM:(iD h d v k).length=h.length+5:=by simp[iD]
theorem aNS:(iD h d v k)[h.length]? = some (some (.row (aX v))):=by simp[iD]
theorem aFV:(iD h d v k)[h.length+1]? = some (some (.row [.int .i64 d.places.length])):=by simp[iD]
theorem aFU:(iD h d v k)[h.length+2]? = some (some (.row [.fn (.func 91) [] [.ptr (.own (h.length+1) 0)]])):=by simp[iD]
theorem aFT:(iD h d v k)[h.length+3]? = some (some (.row (aN (tC d.places.length (d.planes.take k))))):=by simp[iD]
theorem aFS:(iD h d v k)[h.length+4]? = some (some (.row [.sl (.own (h.length+3) 0) d.places.length 1 true])):=by simp[iD]
theorem aAH:aB h (iD h d v k):=aB.refl.app
theorem aG5{L:Heap}(hk:k<d.planes.length):((iD h d v k)++L).set (h.length+3) (some (.row (aN (pZ d.places.length (tC d.places.length (d.planes.take k)) (d.planes.getD k ⟨0,0,0,0,0⟩)))))=iD h d v (k+1)++L:=by
 rw[←aHs _ _ hk]
 simp[iD,List.set_append]
end
theorem aAT(d:aQ)(v:cU)(hR:kU w0 h d v):aK Tryz.prog w0 49 [.agg (aX v)] h (.bool (fX d)) h:=by
 refine aDs dE aD0.a aD0.b aD0.c (qE rfl) (Nat.le_refl _) id (by simp[AV.bdd]) fun hb ha=>hY ?_
 have l1:=hR.l1
 have l2:=hR.l2
 have l3:=hR.l3
 have l4:=hR.l4
 have l5:=hR.l5
 have ln1:dA v.pl=some (.int .i64 d.places.length):=by simpa using hR.places.use.1
 have ln2:dA v.ln=some (.int .i64 d.links.length):=by simpa using hR.links.use.1
 have ln3:dA v.pn=some (.int .i64 d.planes.length):=by simpa using hR.planes.use.1
 have ln4:dA v.pe=some (.int .i64 d.people.length):=by simpa using hR.people.use.1
 have ln5:dA v.we=some (.int .i64 d.weathers.length):=by obtain⟨rows,h1,h2,_⟩:=hR.weathers; rw[←h1]; exact h2.use.1
 have o1:=hR.places.one.1
 have o2:=hR.links.one.1
 have o3:=hR.planes.one.1
 have o4:=hR.people.one.1
 have o5:one v.we=true:=by obtain⟨rows,_,h2,_⟩:=hR.weathers; exact h2.one.1
 simp only[go_sem,mf49,ln1,o1,o2,o3,o4,o5]
 refine⟨⟨by omega,by omega⟩,?_⟩
 have hG0:∀b,h++[some (Blk.row [v.pl,v.ln,v.pn,v.pe,v.we]),some (Blk.row [AV.int IntKind.i64 ↑d.places.length]),some (Blk.row [AV.fn (Fn.func 91) [] [AV.ptr (Pl.own (List.length h+1) 0)]]),
  some (Blk.row (fS [AV.int IntKind.i64 0] d.places.length)),some (Blk.row [AV.sl (Pl.own (List.length h+3) 0) d.places.length 1 b])]=h++[some (Blk.row [v.pl,v.ln,v.pn,v.pe,v.we]),some (Blk.row [AV.int IntKind.i64 ↑d.places.length]),some (Blk.row [AV.fn (Fn.func 91) [] [AV.ptr (Pl.own (List.length h+1) 0)]]),
  some (Blk.row (aN (List.replicate d.places.length 0))),some (Blk.row [AV.sl (Pl.own (List.length h+3) 0) d.places.length 1 b])]:=fun b=>by rw[vF]
 rw[hG0,show(d.places.length==d.places.length)=true by simp]
 change rvC _ _ _ _ _ _ _ _ _ _ _ _ (iD h d v 0)
 have hbG:∀k,HB h→HB (iD h d v k):=fun k hb=>by
  refine zZ hb ?_
  simp[bC,bO,bT,cC,cT,bP,AV.bdds,AV.bdd,Pl.bdd,aY,aX]
  obtain⟨rows,_,r2,_⟩:=hR.weathers
  exact⟨hR.places.bdd (by omega),hR.links.bdd (by omega),hR.planes.bdd (by omega),hR.people.bdd (by omega),r2.bdd (by omega)⟩
 refine aJ (ACall.v2 (aKx (d.planes.map dL.c) _ _ (fun j=>fE d.places.length (d.planes.getD j ⟨0,0,0,0,0⟩)) (iD h d v) rfl (fun k=>by rw[vM,vM]) (fun k _=>hbG k hb) (fun k=>hR.planes.sub aAH) (fun c hc=>by obtain⟨x,_,rfl⟩:=List.mem_map.1 hc; rfl) (by simpa using l3) fun j c hc _ L=> ?_)) ?_
 ·obtain⟨hj,rfl⟩:=aBw (d:=⟨0,0,0,0,0⟩) hc
  rw[←aG5 hj]
  refine(aMm d.places.length j _ (tC d.places.length (d.planes.take j)) (aA aFV) (aA aFU) (aA aFT) (aA aFS) (aC6 _ _) (fun x hx=> ?_) l1 (by omega) (by omega)).vc (first:=[]) (capt:=[_,_])
  have:=aOc _ _ x hx
  rw[List.length_take]at this
  omega
 rintro y H1 ⟨rfl,k,rfl,hk⟩
 rw[List.length_map,cS]at hk
 rw[List.length_map,cS]
 obtain⟨G,eG⟩:∃G,G=iD h d v k:=⟨_,rfl⟩
 rw[←eG]
 have gl:G.length=h.length+5:=by rw[eG,vM]
 have g0:∀L,(G++L)[h.length]? = some (some (.row (aX v))):=fun L=>by rw[eG]; exact aA aNS
 have g1:∀L,(G++L)[h.length+1]? = some (some (.row [.int .i64 d.places.length])):=fun L=>by rw[eG]; exact aA aFV
 have g2:∀L,(G++L)[h.length+2]? = some (some (.row [.fn (.func 91) [] [.ptr (.own (h.length+1) 0)]])):=fun L=>by rw[eG]; exact aA aFU
 have g0':=g0 []
 have g1':=g1 []
 rw[List.append_nil]at g0' g1'
 have hS:aB h G:=by rw[eG]; exact aAH
 simp only[go_sem,g0,g0',g1,g1']
 have cpe:=aKw (h:=G) (d.people.map gV.c) v.pe (.fn (.func 95) [] [.ptr (.own (h.length+2) 0)]) (fun j=>eE d.places.length (d.people.getD j ⟨0,0,0,0,0⟩)) (hR.people.sub hS) (fun c hc=>by obtain⟨x,_,rfl⟩:=List.mem_map.1 hc; rfl) (by simpa using l4) fun j c hc _ L=>by
  obtain⟨hj,rfl⟩:=aBw (d:=⟨0,0,0,0,0⟩) hc
  exact(aIN d.places.length j _ (g1 L) (g2 L) l1).vc (first:=[]) (capt:=[_])
 rw[List.length_map,cS]at cpe
 refine aC cpe.v ?_
 simp only[go_sem,g0,g0',g1,g1']
 have cln:=aKv (h:=G) (d.links.map dD.c) v.ln (.fn (.func 97) [] [.ptr (.own (h.length+2) 0),.ptr (.own h.length 0)]) (fun j=>uI d.places.length d.links j (d.links.getD j ⟨0,0⟩)) (hR.links.sub hS) (fun c hc=>by obtain⟨x,_,rfl⟩:=List.mem_map.1 hc; rfl) (by simpa using l2) fun j c hc _ L=>by
  obtain⟨hj,rfl⟩:=aBw (d:=⟨0,0⟩) hc
  exact(link_c d.places.length d.links j _ v (g1 L) (g2 L) (g0 L) (hR.links.sub hS).app hj l2 l1).vc (first:=[]) (capt:=[_,_])
 rw[List.length_map]at cln
 refine aC cln.v ?_
 simp only[go_sem,g0,g0',g1,g1']
 have cwe:aK Tryz.prog w0 100 [v.we,.fn (.func 101) [] [.ptr (.own h.length 0),.ptr (.own (h.length+1) 0)]] G (.bool (d.weathers.all (fC d.places.length (d.weathers.headD []).length))) G:=by
  obtain⟨rows,r1,r2,r3⟩:=hR.weathers
  have one_row:∀(j:Nat) c,rows[j]? = some c→∃x,c=[x]∧SlI w0 h x (d.weathers.getD j [])∧j<d.weathers.length:=fun j c hc=>by
   have hj:j<d.weathers.length:=by rw[←r1]; exact aD hc
   obtain⟨x,e1,e2⟩:=r3 j _ c (qA hj) hc
   exact⟨x,e1,by rw[aE hj]; exact e2,hj⟩
  have:=aKu (h:=G) rows v.we (.fn (.func 101) [] [.ptr (.own h.length 0),.ptr (.own (h.length+1) 0)]) (fun j=>fC d.places.length (d.weathers.headD []).length (d.weathers.getD j [])) (r2.sub hS) (fun c hc=>by
   obtain⟨j,hj,rfl⟩:=List.mem_iff_getElem.1 hc
   obtain⟨x,e1,e2,_⟩:=one_row j _ (qA hj)
   rw[e1]
   simp[Sl.one e2]) (by omega) fun j x hx _ L=>by
    obtain⟨x',e1,e2,hj⟩:=one_row j _ hx
    cases e1
    obtain⟨w1,ws,ew⟩:∃w1 ws,d.weathers=w1::ws:=by
     cases e:d.weathers with
     | nil=>rw[e]at hj; simp at hj
     | cons a b=>exact⟨a,b,rfl⟩
    have hw:=hR.weathers
    rw[ew]at hw
    have l6:=hR.l6 (d.weathers.getD j []) (by rw[aE hj]; exact qG hj)
    have:=aGs (h:=G++L) d.places.length j (d.weathers.getD j []) w1 ws x v (g1 L) (g0 L) (LI.sub hw (hS.trans aB.refl.app)) (Sl.sub e2 (hS.trans aB.refl.app)) l6 (hR.l6 w1 (by rw[ew]; simp)) l1
    rw[show(d.weathers.headD []).length=w1.length by rw[ew]; rfl]
    exact this.vc (first:=[]) (capt:=[_,_])
  rw[r1,cS]at this
  exact this
 refine aC cwe.v ?_
 simp only[go_sem,g0,g0',g1,g1']
 refine aC (nS _ _ _).v ?_
 simp only[go_sem,g0,g0',g1,g1',ln1,ln2,ln3,ln4,ln5]
 have hfin:∀x,fX d=x→uS h (.bool (fX d)) (.bool x) G:=fun x e=>⟨by rw[e],_,by rw[eG,iD]⟩
 have cast1:∀a b:Nat,(a:Int)≤(b:Int)↔a≤b:=fun a b=>by omega
 refine⟨fun e1=>⟨fun e2=>⟨fun e3=>⟨fun e4=> ?_,fun e4=>hfin _ ?_⟩,fun e3=>hfin _ ?_⟩,fun e2=>hfin _ ?_⟩,fun e1=>hfin _ ?_⟩
 rotate_left
 ·have:¬d.people.length≤4:=by omega
  simp[fX,this]
 ·have:¬d.planes.length≤2:=by omega
  simp[fX,this]
 ·have:¬d.links.length≤20:=by omega
  simp[fX,this]
 ·simp[fX,e1]
 have e2':d.links.length≤20:=by omega
 have e3':d.planes.length≤2:=by omega
 have e4':d.people.length≤4:=by omega
 refine aC (nS _ _ _).v ?_
 simp only[go_sem,g0,g0',g1,g1',ln1,ln2,ln3,ln4,ln5]
 refine⟨fun f1=>⟨fun f2=>⟨fun f3=>⟨fun f4=>⟨fun f5=> ?_,fun f5=>hfin _ ?_⟩,fun f4=>hfin _ ?_⟩,fun f3=>hfin _ ?_⟩,fun f2=>hfin _ ?_⟩,fun f1=>hfin _ ?_⟩
 rotate_left
 ·simp only[fX,f5,Bool.false_and,Bool.and_false]
 ·simp only[fX,f4,Bool.false_and,Bool.and_false]
 ·simp only[fX,f3,Bool.false_and,Bool.and_false]
 ·simp only[fX,f2,Bool.false_and,Bool.and_false]
 ·simp only[fX,f1,Bool.false_and,Bool.and_false]
 have hk':k=d.planes.length:=hk f2
 have g3:∀L,(G++L)[h.length+3]? = some (some (.row (aN (tC d.places.length d.planes)))):=fun L=>by
  rw[eG,aA aFT,hk',List.take_length]
 have g4:∀L,(G++L)[h.length+4]? = some (some (.row [.sl (.own (h.length+3) 0) d.places.length 1 true])):=fun L=>by rw[eG]; exact aA aFS
 have cpl:=aKt (h:=G) (d.places.map qN.c) v.pl (.fn (.func 105) [] [.ptr (.own (h.length+4) 0)]) (fun j=>oO (tC d.places.length d.planes) j (d.places.getD j ⟨0,false⟩)) (hR.places.sub hS) (fun c hc=>by obtain⟨x,_,rfl⟩:=List.mem_map.1 hc; rfl) (by simp; omega) fun j c hc _ L=>by
  obtain⟨hj,rfl⟩:=aBw (d:=⟨0,false⟩) hc
  exact(aOi d.places.length j _ _ (g3 L) (g4 L) (aC6 _ _) hj).vc (first:=[]) (capt:=[_])
 rw[List.length_map]at cpl
 refine aC cpl.v ?_
 simp only[go_sem]
 refine hfin _ ?_
 simp only[fX,e1,e2',e3',e4',f1,f2,f3,f4,f5,Bool.true_and,decide_true]
structure StV where
 pl:AV
 le:AV
 pe:AV
@[go_sem] def stC (v:StV):List AV:=[v.pl,v.le,v.pe]
structure aF where
 planes:List Int
 legs:List Int
 people:List Int
structure StS(w0:World)(h:Heap)(s:aF)(v:StV):Prop where
 planes:SlO w0 h v.pl s.planes
 legs:SlO w0 h v.le s.legs
 people:SlO w0 h v.pe s.people
theorem StS.sub{H:Heap}{s:aF}{v:StV}(a:StS w0 h s v)(t:aB h H):StS w0 H s v:=⟨a.planes.sub t,a.legs.sub t,a.people.sub t⟩
structure FlV where
 day:Nat
 to:Int
 ppl:AV
 st:StV
 open_:Int
 plane:Nat
 gone:Nat
@[go_sem] def flC (f:FlV):List AV:=[.ptr (.own f.day 0),.int .i64 f.to,f.ppl,f.st.pl,f.st.le,f.st.pe,.int .i64 f.open_,.int .i64 f.plane,.ptr (.own f.gone 0)]
structure aGh(f:FlV):Prop where
 o2:one f.ppl=true
 o3:one f.st.pl=true
 o4:one f.st.le=true
 o5:one f.st.pe=true
def pT(r plane:Int):AV:= .ifc 145 (.agg [.int .i64 r,.int .i64 plane])
theorem jG.pan{P:Program}{f:FuncId}{first args capt:List AV}{x v:AV}(c:jG P w0 f (first++args++capt) h (some x) v h):PanV P w0 (.fn (.func f) first capt) args h x:=
 eI.mono c.v (fun _ _ ⟨e,_⟩=>by cases e) fun _ _ ⟨_,e1,e2,e3⟩=>by cases e1; exact⟨e2,e3⟩
theorem aFJ(f:FlV)(hf:aGh f)(r:Int):aK Tryz.prog w0 167 [.agg (flC f),.bool true,.int .i64 r] h (.tup []) h:=by
 refine aM xN fun hb ha=> ?_
 simp only[go_sem,aI4,hf.o2,hf.o3,hf.o4,hf.o5]
theorem yU(f:FlV)(hf:aGh f)(r:Int):jG Tryz.prog w0 167 [.agg (flC f),.bool false,.int .i64 r] h (some (pT r f.plane)) (.tup []) h:=by
 refine oB dE xN.a xN.b xN.c (qE rfl) (Nat.le_refl _) id (by simp[AV.bdd,AV.bdds]) fun hb ha=>hY ?_
 simp only[go_sem,aI4,hf.o2,hf.o3,hf.o4,hf.o5]
 refine aFG rfl ?_
 simp only[go_sem]
 exact⟨⟨_,rfl,rfl⟩,_,rfl⟩
theorem aJw(rows:List dD)(v:AV)(x:dD)(hv:Sl w0 h 2 v (rows.map dD.c))(hn:rows.length<1000000):aK Tryz.prog w0 191 [v,.agg x.c] h (.int .i64 (aBz rows.length fun j=>decide (x=rows.getD j ⟨0,0⟩))) h:=by
 refine aM aMt fun hb ha=> ?_
 obtain⟨hlen,q,hix,hrow,_⟩:=hv.use
 have vb:=hv.bdd (Nat.le_refl _)
 rw[List.length_map]at hlen
 simp only[go_sem,mf191,hlen]
 refine cY (fun j=>[(0,v),(3,.ptr (.own h.length 0)),(7,.int .i64 rows.length),(8,.int .i64 j)]) (fun j=>decide (x=rows.getD j ⟨0,0⟩)=false) rows.length rfl (fun j hj hall ih=> ?_) (fun hall=> ?_)
 ·refine aP [0,3,7,8] aES.eq_1 ?_
  have e1:=hix j (by simpa using hj)
  have e3:(j:Int)<rows.length:=by omega
  have e2:∀L,rdn w0 (h++L) (q.add (j*2)) 2=some (rows.getD j ⟨0,0⟩).c:=fun L=>cK (hrow j _ (by simp[List.getD_eq_getElem?_getD,qA hj]))
  simp only[go_sem,e1,e2,e3,aC3]
  have ee:(decide (x.one=(rows.getD j ⟨0,0⟩).one)&&decide (x.other=(rows.getD j ⟨0,0⟩).other))=decide (x=rows.getD j ⟨0,0⟩):=by
   generalize rows.getD j ⟨0,0⟩=y
   cases x; cases y; simp[dD.mk.injEq]
  rw[ee]
  refine⟨fun e=> ?_,fun e=>⟨(by unfold I64; omega),ih e⟩⟩
  rw[aCM hj e hall]
 ·refine aP [0,3,7,8] aES.eq_1 ?_
  have e3:¬(rows.length:Int)<rows.length:=by omega
  simp only[go_sem,e3]
  rw[aAL hall]
theorem aKn{α:Type}{l:List α}{d:α}{p:α→Bool}:((List.range l.length).any fun i=>p (l.getD i d))=l.any p:=by
 rw[Bool.eq_iff_iff,List.any_eq_true,List.any_eq_true]
 constructor
 ·rintro⟨i,hi,e⟩
  have hi:=List.mem_range.1 hi
  rw[aE hi]at e
  exact⟨_,qG hi,e⟩
 ·rintro⟨x,hx,e⟩
  obtain⟨i,hi,rfl⟩:=List.mem_iff_getElem.1 hx
  exact⟨i,List.mem_range.2 hi,by rw[aE hi]; exact e⟩
theorem has_c(rows:List dD)(v:AV)(x:dD)(hv:Sl w0 h 2 v (rows.map dD.c))(hn:rows.length<1000000):aK Tryz.prog w0 183 [v,.agg x.c] h (.bool (rows.any fun y=>decide (x=y))) h:=by
 refine aM aMA fun hb ha=> ?_
 simp only[go_sem,mf183]
 refine aC (aJw (h:=h++_) rows v x hv.app hn).v ?_
 simp only[go_sem]
 rw[aCN,aKn (p:=fun y=>decide (x=y))]
def jD(d:aQ)(a b:Int):Bool:=(d.links.any fun y=>decide (⟨a,b⟩=y))||d.links.any fun y=>decide (⟨b,a⟩=y)
theorem aCE(d:aQ)(v:cU)(m:AV)(a b:Int){id:Nat}(hd:h[id]? = some (some (.row (aX v++[m]))))(hl:Sl w0 h 2 v.ln (d.links.map dD.c))(hn:d.links.length<1000000):aK Tryz.prog w0 165 [.ptr (.own id 0),.int .i64 a,.int .i64 b] h (.bool (jD d a b)) h:=by
 refine aM aMR fun hb ha=> ?_
 have b1:=xL hd
 have b1':=b1 []
 rw[List.append_nil]at b1'
 simp only[go_sem,mf165,b1,b1']
 refine aC (by simpa[dD.c]using(has_c (h:=h) d.links v.ln ⟨a,b⟩ hl hn).v) ?_
 simp only[go_sem,b1,b1']
 refine⟨fun e=> ?_,fun e=> ?_⟩
 ·refine aC (has_c (h:=h) d.links v.ln ⟨b,a⟩ hl hn).v ?_
  simp only[go_sem]
  exact⟨by simp[jD,e],[],by simp⟩
 ·exact⟨by simp[jD,e],[],by simp⟩
structure FlR(w0:World)(h:Heap)(d:aQ)(v:cU)(m:AV)(s:aF)(f:FlV)(ppl:List Int):Prop where
 hd:h[f.day]? = some (some (.row (aX v++[m])))
 R:kU w0 h d v
 S:StS w0 h s f.st
 P:SlI w0 h f.ppl ppl
 hp:f.plane<d.planes.length
 s1:s.planes.length=d.planes.length
 s2:s.legs.length=d.planes.length
 s3:s.people.length=d.people.length
 at_:∀x∈s.planes,0≤x∧x<d.places.length
 to0:0≤f.to
 to1:f.to<d.places.length
 op0:0≤f.open_
 op1:f.open_<2^50
 pp:∀x∈ppl,0≤x∧x<d.people.length
 pl:ppl.length<1000000
 dl:d.people.length≤4
 sb:∀p∈d.people,0≤p.seats∧p.seats≤1000
section
variable {d:aQ} {v:cU} {m:AV} {s:aF} {f:FlV} {ppl:List Int}
theorem FlR.one(r:FlR w0 h d v m s f ppl):aGh f:=⟨(Sl.one r.P).1,(Sl.one r.S.planes.s).1,(Sl.one r.S.legs.s).1,(Sl.one r.S.people.s).1⟩
theorem FlR.sub{H:Heap}(r:FlR w0 h d v m s f ppl)(t:aB h H):FlR w0 H d v m s f ppl:=
 { r with hd:=t.2 _ _ r.hd,R:=r.R.sub t,S:=r.S.sub t,P:=Sl.sub r.P t }
theorem FlR.hd'(r:FlR w0 h d v m s f ppl)(L:Heap):(h++L)[f.day]? = some (some (.row (aX v++[m]))):=aA r.hd
def aFQ(d:aQ)(s:aF)(f:FlV):Bool:=jD d (s.planes.getD f.plane 0) f.to
def rS(b:Bool)(r:Int)(pi:Nat):Option AV:=if b then none else some (pT r pi)
theorem uC{f:FlV}(hf:aGh f)(b:Bool)(r:Int){nt Z:Nat}{dd:Option Nat}{fr:Fr}{L:Heap}:rcE Tryz.prog w0 none nt Z (pK w0 [] h (rS b r f.plane) (.tup [])) (.fn (.func 167) [] []) [.agg (flC f),.bool b,.int .i64 r] dd [] [] fr (h++L):=by
 cases b with
 | true=>
  refine aFF (aFJ f hf r).v ?_
  simp only[go_sem]
  exact⟨rfl,rfl,_,rfl⟩
 | false=>
  refine aBh (jG.pan (first:=[]) (capt:=[]) (yU f hf r)) ?_
  simp only[go_sem]
  exact⟨⟨_,rfl,rfl⟩,_,rfl⟩
theorem link_p(r:FlR w0 h d v m s f ppl):jG Tryz.prog w0 118 [.agg (flC f)] h (rS (aFQ d s f) 2 f.plane) (.tup []) h:=by
 refine oB dE aBt.a aBt.b aBt.c (qE rfl) (Nat.le_refl _) (fun x=>x) (by simp[AV.bdd,AV.bdds]) fun hb ha=>hY ?_
 have hf:=r.one
 have hd:=r.hd'
 obtain⟨_,q,qi,qr⟩:=SlI.use r.S.planes.s
 have hp:f.plane<s.planes.length:=by rw[r.s1]; exact r.hp
 have q1:=qi f.plane hp
 have q2:=qr f.plane hp
 simp only[go_sem,mf118,hf.o2,hf.o3,hf.o4,hf.o5]
 refine dr_fpC dE (l0:=[o_ 2 (.load (.t 1) (some 9)),o_ 3 (.addr (.t 1) 0),o_ 4 (l_ 3),o_ 5 (.addr (.t 1) 3),o_ 6 (.addr (.t 5) 0),o_ 7 (l_ 6),o_ 8 (.addr (.t 1) 7),o_ 9 (l_ 8),o_ 10 (.idxs 1 (.t 7) (.t 9)),o_ 11 (l_ 10),o_ 12 (.addr (.t 1) 1),o_ 13 (.addr (.t 12) 0),o_ 14 (l_ 13),.call (some 15) none (f_ 165) [(.t 4),(.t 11),(.t 14)]]) (d:=(some 16)) (f:=(f_ 167)) (xs:=[(.t 2),(.t 15),(i_ 2)]) aGm.eq_1 [0,1,2,3,4,5,6,7,8,9,10,11,12,13] [o_ 2 (.load (.t 1) (some 9)),o_ 3 (.addr (.t 1) 0),o_ 4 (l_ 3),o_ 5 (.addr (.t 1) 3),o_ 6 (.addr (.t 5) 0),o_ 7 (l_ 6),o_ 8 (.addr (.t 1) 7),o_ 9 (l_ 8),o_ 10 (.idxs 1 (.t 7) (.t 9)),o_ 11 (l_ 10),o_ 12 (.addr (.t 1) 1),o_ 13 (.addr (.t 12) 0),o_ 14 (l_ 13),.call (some 15) none (f_ 165) [(.t 4),(.t 11),(.t 14)]] [([(0,o_ 2 (.load (.t 1) (some 9)))],[])] rfl rfl (by kernel_rfl) (by kernel_rfl) ?_
 simp only[go_sem,hf.o2,hf.o3,hf.o4,hf.o5,q1,q2]
 refine aC (aCE d v m _ _ (hd _) (r.R.links.app) r.R.l2).v ?_
 simp only[go_sem]
 have e:aFQ d s f=jD d s.planes[f.plane] f.to:=by rw[aFQ,aE hp]
 rw[e]
 exact uC hf _ 2
def aDC(d:aQ)(s:aF)(f:FlV):Bool:=decide (s.legs.getD f.plane 0<(d.planes.getD f.plane ⟨0,0,0,0,0⟩).duty)
theorem aLZ(r:FlR w0 h d v m s f ppl):jG Tryz.prog w0 120 [.agg (flC f)] h (rS (aDC d s f) 4 f.plane) (.tup []) h:=by
 refine oB dE aBr.a aBr.b aBr.c (qE rfl) (Nat.le_refl _) (fun x=>x) (by simp[AV.bdd,AV.bdds]) fun hb ha=>hY ?_
 have hf:=r.one
 have hd:=r.hd'
 obtain⟨_,q,qi,qr⟩:=SlI.use r.S.legs.s
 have hp:f.plane<s.legs.length:=by rw[r.s2]; exact r.hp
 have q1:=qi f.plane hp
 have q2:=qr f.plane hp
 obtain⟨_,p,pi,pr,_⟩:=r.R.planes.use
 have p1:=pi f.plane (by simpa using r.hp)
 have p2:∀L,rd w0 (h++L) ((p.add (f.plane*5)).add 3)=some (.int .i64 (d.planes.getD f.plane ⟨0,0,0,0,0⟩).duty):=fun L=>by
  have:=pr f.plane (d.planes.getD f.plane ⟨0,0,0,0,0⟩).c (by rw[List.getElem?_map,qA r.hp,aE r.hp]; rfl)
  exact fT (dG this (o:=3) rfl)
 simp only[go_sem,mf120,hd,p1,p2,hf.o2,hf.o3,hf.o4,hf.o5,q1,q2]
 have e:aDC d s f=decide (s.legs[f.plane]<(d.planes.getD f.plane ⟨0,0,0,0,0⟩).duty):=by rw[aDC,aE hp]
 rw[e]
 exact uC hf _ 4
def bN(a i:Nat):Bool:=decide (a / 2^i % 2=1)
theorem aDg{a b:Nat}(ha:a<2^62)(hb:b<2^62):bin .and (.int .i64 (a:Int)) (.int .i64 (b:Int))=some (.int .i64 ((a &&& b:Nat):Int)):=by
 have:a &&& b<2^62:=Nat.lt_of_le_of_lt Nat.and_le_left ha
 simp only[bin,if_true,kI,nW]
 rw[show(BitVec.ofInt IntKind.i64.bits (a:Int) &&& BitVec.ofInt IntKind.i64.bits (b:Int)).toNat=a &&& b by
  rw[BitVec.toNat_and,BitVec.ofInt_natCast,BitVec.ofInt_natCast,BitVec.toNat_ofNat,BitVec.toNat_ofNat,Nat.mod_eq_of_lt,Nat.mod_eq_of_lt]
  ·simp[IntKind.bits]; omega
  ·simp[IntKind.bits]; omega]
 rw[tL this]
theorem aDe{o a t:Nat}:decide ((o / 2^a &&& o / 2^t) % 2=1)=(bN o a&&bN o t):=by
 unfold bN
 rw[←Nat.testBit_zero,Nat.testBit_and,Nat.testBit_zero,Nat.testBit_zero]
def aFy(s:aF)(f:FlV):Bool:=bN f.open_.toNat (s.planes.getD f.plane 0).toNat&&bN f.open_.toNat f.to.toNat
theorem shut_p(r:FlR w0 h d v m s f ppl):jG Tryz.prog w0 119 [.agg (flC f)] h (rS (aFy s f) 3 f.plane) (.tup []) h:=by
 refine oB dE aBs.a aBs.b aBs.c (qE rfl) (Nat.le_refl _) (fun x=>x) (by simp[AV.bdd,AV.bdds]) fun hb ha=>hY ?_
 have hf:=r.one
 obtain⟨_,q,qi,qr⟩:=SlI.use r.S.planes.s
 have hp:f.plane<s.planes.length:=by rw[r.s1]; exact r.hp
 have q1:=qi f.plane hp
 have q2:=qr f.plane hp
 have hat:=r.at_ _ (qG hp)
 have hto:=r.to0
 have hto1:=r.to1
 have hl:=r.R.l1
 have op0:=r.op0
 have op1:=r.op1
 obtain⟨o,eo⟩:∃o:Nat,f.open_=o:=⟨f.open_.toNat,by omega⟩
 obtain⟨t,et⟩:∃t:Nat,f.to=t:=⟨f.to.toNat,by omega⟩
 obtain⟨a,ea⟩:∃a:Nat,s.planes[f.plane]=a:=⟨s.planes[f.plane].toNat,by omega⟩
 have o62:o<2^62:=by omega
 have s1:bin .shr (.int .i64 f.open_) (.int .i64 f.to)=some (.int .i64 ((o / 2^t:Nat):Int)):=by rw[eo,et]; exact jV (by omega)
 have s2:bin .shr (.int .i64 f.open_) (.int .i64 s.planes[f.plane])=some (.int .i64 ((o / 2^a:Nat):Int)):=by rw[eo,ea]; exact jV (by omega)
 have d1:o / 2^t<2^62:=Nat.lt_of_le_of_lt (Nat.div_le_self _ _) o62
 have d2:o / 2^a<2^62:=Nat.lt_of_le_of_lt (Nat.div_le_self _ _) o62
 have s3:=aDg d2 d1
 have s4:=kM (a:=o / 2^a &&& o / 2^t) (Nat.lt_of_le_of_lt Nat.and_le_left d2)
 simp only[go_sem,mf119,hf.o2,hf.o3,hf.o4,hf.o5,q1,q2,s1,s2,s3,s4]
 have e:(((((o / 2^a &&& o / 2^t) % 2:Nat):Int))==1)=aFy s f:=by
  rw[aFy,aE hp,ea,et,eo,Int.toNat_natCast,Int.toNat_natCast,Int.toNat_natCast,←aDe,Bool.eq_iff_iff,beq_iff_eq,decide_eq_true_iff]
  omega
 rw[e]
 exact uC hf _ 3
def lS(d:aQ)(l:List Int):Int:=l.foldl (fun a n=>a+(d.people.getD n.toNat ⟨0,0,0,0,0⟩).seats) 0
theorem aCk{d:aQ}{l:List Int}{j:Nat}(hj:j<l.length):lS d (l.take (j+1))=lS d (l.take j)+(d.people.getD l[j].toNat ⟨0,0,0,0,0⟩).seats:=by
 unfold lS
 rw[List.take_add_one,qA hj,List.foldl_append]; rfl
theorem aGJ{d:aQ}{l:List Int}(hs:∀p∈d.people,0≤p.seats∧p.seats≤1000):0≤lS d l∧lS d l≤1000*l.length:=by
 have key:∀(l:List Int) (a:Int),a≤l.foldl (fun a n=>a+(d.people.getD n.toNat ⟨0,0,0,0,0⟩).seats) a∧l.foldl (fun a n=>a+(d.people.getD n.toNat ⟨0,0,0,0,0⟩).seats) a≤a+1000*l.length:=by
  intro l
  induction l with
  | nil=>intro a; simp
  | cons n l ih=>
   intro a
   rw[List.foldl_cons,List.length_cons]
   have h1:=ih (a+(d.people.getD n.toNat ⟨0,0,0,0,0⟩).seats)
   have h2:0≤(d.people.getD n.toNat ⟨0,0,0,0,0⟩).seats∧(d.people.getD n.toNat ⟨0,0,0,0,0⟩).seats≤1000:=by
    rw[List.getD_eq_getElem?_getD]
    cases e:d.people[n.toNat]? with
    | none=>simp
    | some p=>exact hs p (List.mem_of_getElem? e)
   omega
 have:=key l 0
 unfold lS; omega
def aMd(d:aQ)(f:FlV)(ppl:List Int):Bool:=decide (lS d ppl≤(d.planes.getD f.plane ⟨0,0,0,0,0⟩).seats)
theorem aIy(r:FlR w0 h d v m s f ppl):jG Tryz.prog w0 122 [.agg (flC f)] h (rS (aMd d f ppl) 6 f.plane) (.tup []) h:=by
 refine oB dE aBp.a aBp.b aBp.c (qE rfl) (Nat.le_refl _) (fun x=>x) (by simp[AV.bdd,AV.bdds]) fun hb ha=>hY ?_
 have hf:=r.one
 have hd:=r.hd'
 obtain⟨hlen,q,qi,qr⟩:=SlI.use r.P
 have pl:=r.pl
 simp only[go_sem,mf122,hf.o2,hf.o3,hf.o4,hf.o5,hlen]
 refine bS (S:=Unit) (fun j _=>[(1,.ptr (.own h.length 0)),(2,.int .i64 (lS d (ppl.take j))),(7,f.ppl),(8,.int .i64 ppl.length),(9,.int .i64 j)]) (fun j _=>h++[some (.row (flC f))]) (fun j _=>True) ppl.length () trivial rfl rfl (fun j _ hj _ ih=> ?_) (fun _ _=> ?_)
 ·refine aP [1,2,7,8,9] aFe.eq_1 ?_
  have e1:=qi j hj
  have e2:=qr j hj
  have e3:(j:Int)<ppl.length:=by omega
  have hx:=r.pp _ (qG hj)
  obtain⟨x,ex'⟩:∃x:Nat,ppl[j]=x:=⟨ppl[j].toNat,by omega⟩
  have hxl:x<d.people.length:=by omega
  obtain⟨_,p,pi,pr,_⟩:=r.R.people.use
  have p1:=pi x (by simpa using hxl)
  have p2:∀L,rd w0 (h++L) ((p.add (x*5)).add 2)=some (.int .i64 (d.people.getD ppl[j].toNat ⟨0,0,0,0,0⟩).seats):=fun L=>by
   have:=pr x (d.people.getD x ⟨0,0,0,0,0⟩).c (by rw[List.getElem?_map,qA hxl,aE hxl]; rfl)
   rw[ex',Int.toNat_natCast]
   exact fT (dG this (o:=2) rfl)
  have an:cH (.int .i64 ppl[j])=some x:=by rw[ex']; simp[cH]
  simp only[go_sem,e1,e2,e3,hd,p1,p2,an]
  rw[←aCk hj]
  have bd:=aGJ (d:=d) (l:=ppl.take (j+1)) r.sb
  rw[List.length_take]at bd
  exact⟨⟨by omega,by omega⟩,(by unfold I64; omega),ih () trivial⟩
 ·refine aP [1,2,7,8,9] aFe.eq_1 ?_
  have e3:¬(ppl.length:Int)<ppl.length:=by omega
  obtain⟨_,p,pi,pr,_⟩:=r.R.planes.use
  have p1:=pi f.plane (by simpa using r.hp)
  have p2:∀L,rd w0 (h++L) ((p.add (f.plane*5)).add 2)=some (.int .i64 (d.planes.getD f.plane ⟨0,0,0,0,0⟩).seats):=fun L=>by
   have:=pr f.plane (d.planes.getD f.plane ⟨0,0,0,0,0⟩).c (by rw[List.getElem?_map,qA r.hp,aE r.hp]; rfl)
   exact fT (dG this (o:=2) rfl)
  simp only[go_sem,e3,hd,p1,p2]
  rw[List.take_length]
  exact uC hf _ 6
def mC(a:Int)(pe:List Int):List Int→List Bool→Bool×List Bool
 | [],g=>(true,g)
 | n::l,g=>if pe.getD n.toNat 0==a && !g.getD n.toNat false then mC a pe l (g.set n.toNat true)else(false,g)
theorem aIx{g:List Bool}{x:Nat}(hx:x<g.length):(g.map AV.bool).take x ++ .bool true::(g.map AV.bool).drop (x+1)=(g.set x true).map AV.bool:=by
 rw[List.map_set,List.set_eq_take_append_cons_drop,if_pos (by simpa using hx)]
theorem here_p{h0:Heap}{g:List Bool}(r0:FlR w0 h0 d v m s f ppl)(hs:aB h0 h)(hb0:h0.length≤f.gone)(hg:h[f.gone]? = some (some (.row (g.map AV.bool))))(gl:g.length=4) :
 jG Tryz.prog w0 121 [.agg (flC f)] h (rS (mC (s.planes.getD f.plane 0) s.people ppl g).1 5 f.plane) (.tup []) (h.set f.gone (some (.row ((mC (s.planes.getD f.plane 0) s.people ppl g).2.map AV.bool)))):=by
 have hgl:=aD hg
 refine oB dE aBq.a aBq.b aBq.c (qE rfl) (by simp) (fun hb i b e=> ?_) (by simp[AV.bdd,AV.bdds]) fun hb ha=>hY ?_
 ·rw[List.length_set]
  by_cases hir:f.gone=i
  ·subst hir
   rw[qF hgl]at e
   cases e
   rw[bP]; simp only[cG,List.mem_map]; rintro x ⟨b,_,rfl⟩; trivial
  ·rw[qB hir]at e; exact hb i b e
 have r:=r0.sub hs
 have hf:=r.one
 obtain⟨hlen,_⟩:=SlI.use r.P
 have pl:=r.pl
 have dl:=r.dl
 have hp:f.plane<s.planes.length:=by rw[r.s1]; exact r.hp
 simp only[go_sem,mf121,hf.o2,hf.o3,hf.o4,hf.o5,hlen]
 refine bS (S:=List Bool) (fun j _=>[(1,.ptr (.own h.length 0)),(6,f.ppl),(7,.int .i64 ppl.length),(8,.int .i64 j)]) (fun j g1=>h.set f.gone (some (.row (g1.map AV.bool)))++[some (.row (flC f))])
  (fun j g1=>g1.length=4∧mC (s.planes.getD f.plane 0) s.people ppl g=mC (s.planes.getD f.plane 0) s.people (ppl.drop j) g1) ppl.length g ⟨gl,rfl⟩ rfl (by rw[pF hg]; rfl) (fun j g1 hj ⟨hg1,hR⟩ ih=> ?_) (fun g1 ⟨hg1,hR⟩=> ?_)
 ·refine aP [1,6,7,8] aFf.eq_1 ?_
  obtain⟨H,eH⟩:∃H,H=h.set f.gone (some (.row (g1.map AV.bool))):=⟨_,rfl⟩
  have hsH:aB h0 H:=by
   rw[eH]
   exact⟨by rw[List.length_set]; exact hs.1,fun i c e=>by rw[qB (by have:=aD e; omega)]; exact hs.2 i c e⟩
  have rH:=r0.sub hsH
  have hlH:H.length=h.length:=by rw[eH,List.length_set]
  rw[←eH,←hlH]
  obtain⟨_,q,qi,qr⟩:=SlI.use rH.P
  obtain⟨_,a,ai,ar⟩:=SlI.use rH.S.planes.s
  obtain⟨_,p,pi,pr⟩:=SlI.use rH.S.people.s
  have e1:=qi j hj
  have e2:=qr j hj
  have e3:(j:Int)<ppl.length:=by omega
  have hx:=r.pp _ (qG hj)
  obtain⟨x,ex'⟩:∃x:Nat,ppl[j]=x:=⟨ppl[j].toNat,by omega⟩
  have hxl:x<s.people.length:=by rw[r.s3]; omega
  have hx4:x<g1.length:=by have:=r.s3; omega
  have p1:=pi x hxl
  have p2:=pr x hxl
  have a1:=ai f.plane hp
  have a2:=ar f.plane hp
  have g2:∀L,(H++L)[f.gone]? = some (some (.row (g1.map AV.bool))):=fun L=>by rw[eH]; exact aA (by simp[hgl])
  have an:cH (.int .i64 ppl[j])=some x:=by rw[ex']; simp[cH]
  have gx:(g1.map AV.bool)[x*1]? = some (.bool (g1.getD x false)):=by rw[Nat.mul_one,List.getElem?_map,qA hx4,aE hx4]; rfl
  have gml:(g1.map AV.bool).length=4:=by simp[hg1]
  have hRj:mC (s.planes.getD f.plane 0) s.people (ppl.drop j) g1=if s.people[x]==s.planes[f.plane] && !g1.getD x false then mC (s.planes.getD f.plane 0) s.people (ppl.drop (j+1)) (g1.set x true)else(false,g1):=by
   rw[List.drop_eq_getElem_cons hj,mC,ex',Int.toNat_natCast,aE hxl,aE hp]
  have hbad:(s.people[x]==s.planes[f.plane] && !g1.getD x false)=false→mC (s.planes.getD f.plane 0) s.people ppl g=(false,g1):=fun e=>by rw[hR,hRj,e]; rfl
  simp only[go_sem,e1,e2,e3,p1,p2,a1,a2,an,g2,gx]
  refine⟨fun b1=>⟨by omega,?_⟩,fun b1=> ?_⟩
  ·cases b2:g1.getD x false with
   | true=>
    rw[hbad (by rw[b2]; simp),Bool.not_true]
    refine aBh (jG.pan (first:=[]) (capt:=[]) (yU f hf 5)) ?_
    simp only[go_sem]
    exact⟨⟨_,rfl,rfl⟩,_,by rw[eH]⟩
   | false=>
    rw[Bool.not_false]
    refine aFF (aFJ f hf 5).v ?_
    have hset:∀L X,(H++L).set f.gone X=h.set f.gone X++L:=fun L X=>by rw[lR (by rw[hlH]; exact hgl),eH,List.set_set]
    simp only[go_sem,e1,e2,e3,an,g2,gml,hset]
    rw[Nat.mul_one,aIx hx4,hlH]
    exact⟨by omega,by omega,(by unfold I64; omega),ih _ ⟨by simp[hg1],by rw[hR,hRj,b2]; simp[b1]⟩⟩
  ·rw[hbad (by simp[b1])]
   refine aBh (jG.pan (first:=[]) (capt:=[]) (yU f hf 5)) ?_
   simp only[go_sem]
   exact⟨⟨_,rfl,rfl⟩,_,by rw[eH]⟩
 ·refine aP [1,6,7,8] aFf.eq_1 ?_
  have e3:¬(ppl.length:Int)<ppl.length:=by omega
  simp only[go_sem,e3]
  rw[List.drop_length,mC]at hR
  rw[hR]
  exact⟨rfl,rfl,_,rfl⟩
end
structure kT(w0:World)(H:Heap)(N:Nat)(y:AV)(l:List Int):Prop where
 o:SlO w0 H y l
 b:l≠[]→∃io,N≤io∧io<H.length∧y= .sl (.own io 0) l.length 1 false∧H[io]? = some (some (.row (aN l)))
 z:l=[]→y= .nilS∨∃io f c,N≤io∧y= .sl (.own io 0) 0 1 f∧H[io]? = some (some (.row c))
theorem oT(l:List Int)(v:AV)(hv:SlO w0 h v l)(hl:l.length<1000000):ACall Tryz.prog w0 111 [v] h fun y h'=>aB h h'∧kT w0 h' h.length y l:=by
 refine aO aND fun hb ha=> ?_
 have hv1:=hv.s
 rcases hv1 with⟨e1,e2⟩ | ⟨p,full,⟨es',e1,he⟩,hp,hr⟩
 ·subst e1
  have:l=[]:=by simpa using e2
  subst this
  simp only[go_sem,aFL]
  rw[List.append_nil]
  exact⟨aB.refl,⟨.inl ⟨rfl,rfl⟩,fun _=>rfl⟩,fun e=>absurd rfl e,fun _=> .inl rfl⟩
 ·have hv1:=hv.s
  by_cases hl0:l=[]
  ·have h0:=(hv.sub (aB.refl.app (L:=[some (.row [])]))).e hl0
   have hap:eD w0 (h++[some (Blk.row [])]) 1 8 (AV.sl (Pl.own (List.length h) 0) 0 1 true) v=some (AV.sl (Pl.own (List.length h) 0) 0 1 true,h++[some (Blk.row [])]):=by
    simp[eD,h0]
   rw[e1]at hap
   subst e1
   simp only[go_sem,aFL]
   rw[hap]
   simp only[go_sem]
   subst hl0
   refine⟨aB.refl.app,⟨.inr ⟨_,true,⟨1,rfl,rfl⟩,by simp[Pl.bdd],fun j c hc=>by simp at hc⟩,fun _=> ?_⟩,fun e=>absurd rfl e,fun _=> .inr ⟨h.length,true,[],Nat.le_refl _,rfl,by simp⟩⟩
   simp[srcOf,fH,rdn]
  ·have hap:=zT (w0:=w0) (H:=h++[some (.row [])]) (es:=1) (b:=8) (n:=0) (old:=[]) (rows:=l.map fun z=>[AV.int .i64 z]) (p:= .own h.length 0) hv1.app (by simpa using hl0) (fun c hc=>by obtain⟨z,_,rfl⟩:=List.mem_map.1 hc; rfl) (by simp[rdn]) (by omega) (by simp; omega)
   rw[←fQ,e1]at hap
   subst e1
   simp only[go_sem,aFL]
   rw[hap]
   simp only[go_sem]
   have:=fY (w0:=w0) (H:=h++[some (Blk.row []),some (Blk.row (aN l))]) (full:=false) (io:=h.length+1) (rows:=l.map fun z=>[AV.int .i64 z]) (es:=1) (by rw[←fQ]; simp) (fun c hc=>by obtain⟨x,_,rfl⟩:=List.mem_map.1 hc; rfl)
   exact⟨aB.refl.app,⟨this,fun e=>absurd e hl0⟩,fun _=>⟨h.length+1,by omega,by simp,by simp,by simp⟩,fun e=>absurd e hl0⟩
def SC.snd:SC→SC
 | .seq _ y=>y
 | x=>x
theorem aJK{a b c:AV}{Q:FrameMode→Heap→Prop}(q:Q .returning h):tK Tryz.prog w0 117 [a,b,c] h .returning Q:=by
 refine vC (mf:=yV.er) xO.a xO.b (qE rfl) (rest:=(SC.snd yV.body).er) rfl (.inl ⟨rfl,rfl,rfl⟩) fun hb ha=>dW dE _ (by decide) (hY ?_)
 rw[←List.append_nil h]
 simp only[go_sem,yV,SC.snd,SF.er]
 exact⟨.inl trivial,⟨_,rfl⟩,by rw[List.append_nil]; exact q⟩
theorem aJL{sv:StV}{r p:Int}{x y:List AV}{is io ib:Nat}{Q:FrameMode→Heap→Prop}(o1:one sv.pl=true)(o2:one sv.le=true)(o3:one sv.pe=true)
 (h1:h[is]? = some (some (.row (stC sv)))) (h2:h[io]? = some (some (.row x))) (h3:h[ib]? = some (some (.row y))) (hx:x.length=3) (hy:y.length=2) (n1:io≠ib)
 (q:Q (.panicking [{ v:=(pT r p).val,recovered:=true }]) ((h.set io (some (.row (stC sv)))).set ib (some (.row [.int .i64 r,.int .i64 p]))++[some (.row [.int .i64 r,.int .i64 p])])) :
 tK Tryz.prog w0 117 [.ptr (.own is 0),.ptr (.own io 0),.ptr (.own ib 0)] h (.panicking (pan (pT r p))) Q:=by
 refine vC (mf:=yV.er) xO.a xO.b (qE rfl) (rest:=(SC.snd yV.body).er) rfl (.inr ⟨rfl,rfl,rfl⟩) fun hb ha=>dW dE _ (by decide) (hY ?_)
 rw[←List.append_nil h]
 have b1:=xL h1
 have b2:=xL h2
 have b3:∀L,((h.set io (some (.row (stC sv))))++L)[ib]? = some (some (.row y)):=fun L=>aA (by rw[qB n1]; exact h3)
 have s1:∀L X,(h++L).set io X=h.set io X++L:=fun L X=>lR (aD h2)
 have s2:∀L X,((h.set io (some (.row (stC sv))))++L).set ib X=(h.set io (some (.row (stC sv)))).set ib X++L:=fun L X=>lR (by rw[List.length_set]; exact aD h3)
 have hlt:=aD h2
 have hlt2:=aD h3
 have hlt1:=aD h1
 simp only[go_sem,yV,SC.snd,SF.er,pT,b1,b2,b3,s1,s2,o1,o2,o3,hx,hy]
 refine iS dE [0,1,2,3] [o_ 12 (.load (.t 0) (some 3)),o_ 13 (.load (.t 4) (some 2)),.op none none (.store (.t 1) (.t 12) 3)] [([(1,o_ 13 (.load (.t 4) (some 2)))],[.op none none (.store (.t 2) (.t 13) 2)])] rfl rfl (by kernel_rfl) ?_
 have m1:∀(X:Option Blk) (L:Heap),(h.set io X++L)[h.length]? = L[0]? := fun X L=>by rw[qI (by simp),List.length_set,Nat.sub_self]
 have m2:∀(X:Option Blk) (L:Heap),(h.set io X++L)[io]? = some X:=fun X L=>by rw[qH (by simpa using hlt),qF hlt]
 have z1:∀(x:Option Blk),[x][0]? = some x:=fun x=>rfl
 have dx:x.drop 3=[]:=List.drop_eq_nil_of_le (by omega)
 have dy:y.drop 2=[]:=List.drop_eq_nil_of_le (by omega)
 simp only[stC]at b3 s2
 simp only[go_sem,b1,b2,b3,s1,s2,o1,o2,o3,hx,hy,m1,m2,z1,dx,dy]
 exact⟨.inl trivial,⟨_,rfl⟩,q⟩
structure aH where
 to:Int
 people:List Int
def nO(d:aQ)(s:aF)(op:Int)(i:Nat)(x:aH)(g:List Bool):Option Int×List Bool:=
 if !jD d (s.planes.getD i 0) x.to then(some 2,g)else
 if !(bN op.toNat (s.planes.getD i 0).toNat&&bN op.toNat x.to.toNat)then(some 3,g)else
 if !decide (s.legs.getD i 0<(d.planes.getD i ⟨0,0,0,0,0⟩).duty)then(some 4,g)else
 let r:=mC (s.planes.getD i 0) s.people x.people g
 if !r.1 then(some 5,r.2)else
 if !decide (lS d x.people≤(d.planes.getD i ⟨0,0,0,0,0⟩).seats)then(some 6,r.2)else(none,r.2)
def nQ(n:aF)(i:Nat)(x:aH):aF:=
 ⟨n.planes.set i x.to,n.legs.set i (n.legs.getD i 0+1),x.people.foldl (fun l n=>l.set n.toNat x.to) n.people⟩
def nF(d:aQ)(s:aF)(op:Int):List aH→Nat→aF→List Bool→Except (Int×Int) aF
 | [],_,n,_=> .ok n
 | x::u,i,n,g=>if x.to<0 then nF d s op u (i+1) n g else
  match nO d s op i x g with
  | (some r,_)=> .error (r,i)
  | (none,g')=>nF d s op u (i+1) (nQ n i x) g'
def fN(d:aQ)(n:aF)(i:Nat):Bool:=decide ((d.places.getD i ⟨0,false⟩).berths<n.planes.count (i:Int))
def eJ(d:aQ)(s:aF)(op:Int)(u:List aH):aF×Int×Int:=
 match nF d s op u 0 s [false,false,false,false]with
 | .error (r,i)=>(s,r,i)
 | .ok n=>if(List.range d.places.length).any (fN d n)then(s,7,-1)else(n,1,-1)
def FlgtR(w0:World)(h:Heap)(x:aH)(c:List AV):Prop:=∃pv,c=[.int .i64 x.to,pv]∧SlI w0 h pv x.people
def UnV(w0:World)(h:Heap)(v:AV)(u:List aH):Prop:=NS w0 h 2 (FlgtR w0 h) v u
structure aEK(d:aQ)(u:List aH):Prop where
 len:u.length=d.planes.length
 to:∀x∈u,x.to<d.places.length
 pp:∀x∈u,∀n∈x.people,0≤n∧n<d.people.length
 pl:∀x∈u,x.people.length<1000000
structure nB(d:aQ)(s:aF):Prop where
 s1:s.planes.length=d.planes.length
 s2:s.legs.length=d.planes.length
 s3:s.people.length=d.people.length
 at_:∀x∈s.planes,0≤x∧x<d.places.length
 lg:∀x∈s.legs,0≤x∧x<1000000
structure rL(w0:World)(h:Heap)(d:aQ)(v:cU)(m:AV)(i:Nat):Prop where
 hd:h[i]? = some (some (.row (aX v++[m])))
 R:kU w0 h d v
 dl:d.people.length≤4
 pl:d.planes.length≤2
 sb:∀p∈d.people,0≤p.seats∧p.seats≤1000
structure jS(w0:World)(H:Heap)(N id:Nat)(y:AV)(l:List Int):Prop where
 o:SlO w0 H y l
 b:l≠[]→N≤id∧id<H.length∧y= .sl (.own id 0) l.length 1 false∧H[id]? = some (some (.row (aN l)))
 z:l=[]→y= .nilS∨∃io f c,N≤io∧y= .sl (.own io 0) 0 1 f∧H[io]? = some (some (.row c))
theorem jS.sub{H H':Heap}{N id:Nat}{y:AV}{l:List Int}(a:jS w0 H N id y l)(t:aB H H'):jS w0 H' N id y l:=
 ⟨a.o.sub t,fun e=>by obtain⟨h1,h2,h3,h4⟩:=a.b e; exact⟨h1,Nat.lt_of_lt_of_le h2 t.1,h3,t.2 _ _ h4⟩,fun e=>(a.z e).imp (fun x=>x) fun⟨io,f,c,h1,h2,h3⟩=>⟨io,f,c,h1,h2,t.2 _ _ h3⟩⟩
theorem jS.set{H:Heap}{N id ia:Nat}{y:AV}{l:List Int}{c c':List AV}(a:jS w0 H N id y l)(hia:H[ia]? = some (some (.row c)))(hc:c'.length=c.length)(hne:l≠[]→id≠ia):jS w0 (H.set ia (some (.row c'))) N id y l:=by
 by_cases hl:l=[]
 ·subst hl
  refine⟨⟨?_,fun e=> ?_⟩,fun e=>absurd rfl e,fun _=> ?_⟩
  ·rcases a.o.s with h1 | ⟨p,full,h1,h2,_⟩
   ·exact .inl h1
   ·exact .inr ⟨p,full,h1,by rw[List.length_set]; exact h2,fun j c hc=>by simp at hc⟩
  ·have:=a.o.e rfl
   cases y<;>try (simp only[srcOf]at this ⊢; done)
   all_goals first
    | (simp only[srcOf]at this ⊢
       split at this
       ·rename_i p n es' full h1
        rw[if_pos h1]
        simp only[qD,Prod.mk.injEq]at this ⊢
        obtain⟨x,h2,h3,h4⟩:=this
        refine⟨x,?_,h3,h4⟩
        subst h3; subst h4
        cases p with
        | old b=>exact h2
        | own q o=>
         simp only[rdn]at h2 ⊢
         by_cases e:ia=q
         ·subst e
          rw[hia]at h2
          rw[qF (aD hia)]
          simp only at h2 ⊢
          split at h2
          ·rename_i h5
           rw[if_pos (by omega)]; simp
          ·cases h2
         ·rw[qB e]; exact h2
       ·cases this)
    | exact this
  ·exact(a.z rfl).imp (fun x=>x) fun⟨io,f,cc,h1,h2,h3⟩=>by
    by_cases e:ia=io
    ·subst e; exact⟨ia,f,c',h1,h2,qF (aD hia)⟩
    ·exact⟨io,f,cc,h1,h2,by rw[qB e]; exact h3⟩
 ·obtain⟨h1,h2,h3,h4⟩:=a.b hl
  have h5:(H.set ia (some (.row c')))[id]? = some (some (.row (aN l))):=by rw[qB (Ne.symm (hne hl))]; exact h4
  have:=fY (w0:=w0) (H:=H.set ia (some (.row c'))) (full:=false) (io:=id) (rows:=l.map fun z=>[AV.int .i64 z]) (es:=1) (by rw[←fQ]; exact h5) (fun c hc=>by obtain⟨x,_,rfl⟩:=List.mem_map.1 hc; rfl)
  exact⟨⟨by rw[h3]; simpa[SlI]using this,fun e=>absurd e hl⟩,fun _=>⟨h1,by rw[List.length_set]; exact h2,h3,h5⟩,fun e=>absurd e hl⟩
theorem jS.put{H:Heap}{N id:Nat}{y:AV}{l:List Int}(a:jS w0 H N id y l){j:Nat}(hj:j<l.length)(x:Int):jS w0 (H.set id (some (.row (aN (l.set j x))))) N id y (l.set j x):=by
 have hl:l≠[]:=fun e=>by rw[e]at hj; simp at hj
 obtain⟨h1,h2,h3,h4⟩:=a.b hl
 have h5:(H.set id (some (.row (aN (l.set j x)))))[id]? = some (some (.row (aN (l.set j x)))):=qF h2
 have:=fY (w0:=w0) (H:=H.set id (some (.row (aN (l.set j x))))) (full:=false) (io:=id) (rows:=(l.set j x).map fun z=>[AV.int .i64 z]) (es:=1) (by rw[←fQ]; exact h5) (fun c hc=>by obtain⟨x,_,rfl⟩:=List.mem_map.1 hc; rfl)
 have e3:y= .sl (.own id 0) (l.set j x).length 1 false:=by rw[List.length_set]; exact h3
 have hne:l.set j x≠[]:=fun e=>by
  have:=congrArg List.length e
  rw[List.length_set]at this
  simp at this
  exact hl this
 exact⟨⟨by rw[e3]; simpa[SlI]using this,fun e=>absurd e hne⟩,fun _=>⟨h1,by rw[List.length_set]; exact h2,e3,h5⟩,fun e=>absurd e hne⟩
theorem jS.use{H:Heap}{N id:Nat}{y:AV}{l:List Int}(a:jS w0 H N id y l){j:Nat}(hj:j<l.length):cF 1 y (some j)=some (.ptr (.own id j))∧(∀L,(H++L)[id]? = some (some (.row (aN l))))∧(∀L,rd w0 (H++L) (.own id j)=some (.int .i64 l[j]))∧id<H.length:=by
 have hl:l≠[]:=fun e=>by rw[e]at hj; simp at hj
 obtain⟨h1,h2,h3,h4⟩:=a.b hl
 have h5:=xL h4
 refine⟨by rw[h3]; simp[cF,fH,Pl.add,hj],h5,fun L=> ?_,h2⟩
 simp only[rd,h5]; simp[aN,hj]
theorem kT.i{H:Heap}{N:Nat}{y:AV}{l:List Int}(a:kT w0 H N y l):∃id,(l≠[]→N≤id)∧jS w0 H N id y l:=by
 by_cases hl:l=[]
 ·exact⟨0,fun e=>absurd hl e,a.o,fun e=>absurd hl e,a.z⟩
 ·obtain⟨io,h1,h2,h3,h4⟩:=a.b hl
  exact⟨io,fun _=>h1,a.o,fun _=>⟨h1,h2,h3,h4⟩,a.z⟩
structure ClF(w0:World)(G:Heap)(s:aF)(fr0 fr:Fr)(H:Heap)(nv:StV)(ia ip il ie:Nat):Prop where
 sub:aB G H
 keep:∀t,t≠10→t<25→fr.get t=fr0.get t
 ten:fr.get 10= .ptr (.own ia 0)
 ha:H[ia]? = some (some (.row (stC nv)))
 lo:G.length≤ia
 p:jS w0 H G.length ip nv.pl s.planes
 l:jS w0 H G.length il nv.le s.legs
 e:jS w0 H G.length ie nv.pe s.people
 d1:s.planes≠[]→ip≠ia
 d2:s.legs≠[]→il≠ia
 d3:s.people≠[]→ie≠ia
 d4:s.planes≠[]→s.legs≠[]→ip≠il
 d5:s.planes≠[]→s.people≠[]→ip≠ie
 d6:s.legs≠[]→s.people≠[]→il≠ie
theorem jS.less{H:Heap}{N N' id:Nat}{y:AV}{l:List Int}(a:jS w0 H N id y l)(h:N'≤N):jS w0 H N' id y l:=
 ⟨a.o,fun e=>⟨Nat.le_trans h (a.b e).1,(a.b e).2⟩,fun e=>(a.z e).imp_right fun⟨io,f,c,h1,h2⟩=>⟨io,f,c,Nat.le_trans h h1,h2⟩⟩
theorem aHu{Q:Exit→Fr→Heap→Prop}{k:List It}{nt Z kk:Nat}{G:Heap}{fr0:Fr}{s:aF}{sv:StV}(h5:fr0.get 5= .ptr (.own kk 0))(hk:G[kk]? = some (some (.row (stC sv))))(hs:StS w0 G s sv)
 (l1:s.planes.length<1000000) (l2:s.legs.length<1000000) (l3:s.people.length<1000000)
 (hQ:∀fr H nv ia ip il ie,ClF w0 G s fr0 fr H nv ia ip il ie→∃fr2:Fr,(∀t,fr2.get t= .undef∨fr2.get t=fr.get t)∧un Tryz.prog w0 none nt Z Q .normal k fr2 H):dr Tryz.prog w0 none nt Z Q D63_0 B63_0 k fr0 G:=by
 have hkL:=xL hk
 refine uV ?_
 refine iS dE [0,1,3,4,6,7,2,5,8,9,10,11] [o_ 25 (.addr (.t 5) 0),o_ 26 (l_ 25),o_ 28 (.addr (.t 5) 1),o_ 29 (l_ 28),o_ 31 (.addr (.t 5) 2),o_ 32 (l_ 31),.call (some 27) none (f_ 111) [(.t 26)]] [([(3,o_ 29 (l_ 28)),(5,o_ 32 (l_ 31))],[.call (some 30) none (f_ 111) [(.t 29)]]),([(5,o_ 32 (l_ 31))],[.call (some 33) none (f_ 111) [(.t 32)],o_ 34 (.build [.nilS,.nilS,.nilS] [(0,1,(.t 27)),(1,1,(.t 30)),(2,1,(.t 33))]),o_ 10 (.alloc [.nilS,.nilS,.nilS]),.op none none (.store (.t 10) (.t 34) 3)])] rfl rfl (by kernel_rfl) ?_
 simp only[go_sem,h5,hk,hkL,stC]
 refine aJ (ACall.v1 (oT s.planes sv.pl hs.planes l1)) ?_
 rintro y1 H1 ⟨s1,w1⟩
 have k1:=s1.2 _ _ hk
 have k1L:=xL k1
 simp only[go_sem,h5,k1,k1L,stC]
 refine aJ (ACall.v1 (oT s.legs sv.le (hs.legs.sub s1) l2)) ?_
 rintro y2 H2 ⟨s2,w2⟩
 have k2:=s2.2 _ _ k1
 have k2L:=xL k2
 simp only[go_sem,h5,k2,k2L,stC]
 refine aJ (ACall.v1 (oT s.people sv.pe (hs.people.sub (s1.trans s2)) l3)) ?_
 rintro y3 H3 ⟨s3,w3⟩
 obtain⟨id1,i1,a1⟩:=w1.i
 obtain⟨id2,i2,a2⟩:=w2.i
 obtain⟨id3,i3,a3⟩:=w3.i
 have c1:=a1.o.s.one
 have c2:=a2.o.s.one
 have c3:=a3.o.s.one
 have q1:s.planes≠[]→id1<H1.length:=fun e=>(a1.b e).2.1
 have q2:s.legs≠[]→id2<H2.length:=fun e=>(a2.b e).2.1
 have q3:s.people≠[]→id3<H3.length:=fun e=>(a3.b e).2.1
 have z1:=s1.1
 have z2:=s2.1
 have z3:=s3.1
 simp only[go_sem,c1.1,c1.2,c2.1,c2.2,c3.1,c3.2]
 have sA:∀L,aB H3 (H3++L):=fun L=>aB.refl.app
 have s13:=s2.trans s3
 refine hQ _ _ ⟨y1,y2,y3⟩ H3.length id1 id2 id3 ⟨((s1.trans s2).trans s3).app,fun t h1 h2=> ?_,rfl,by simp[stC],by omega,(a1.sub (s13.trans (sA _))),(a2.sub (s3.trans (sA _))).less z1,(a3.sub (sA _)).less (by omega),fun e=>by have:=q1 e; omega,fun e=>by have:=q2 e; omega,fun e=>by have:=q3 e; omega,
  fun e e'=>by have:=q1 e; have:=i2 e'; omega,fun e e'=>by have:=q1 e; have:=i3 e'; omega,fun e e'=>by have:=q2 e; have:=i3 e'; omega⟩
 refine aDz (L:=[_,_,_,_,_,_,_,_,_,_,_]) fun p hp=> ?_
 simp only[List.mem_cons,List.not_mem_nil,or_false]at hp
 rcases hp with rfl | rfl | rfl | rfl | rfl | rfl | rfl | rfl | rfl | rfl | rfl<;>simp only<;>omega
structure aAm(w0:World)(H:Heap)(N:Nat)(s:aF)(v:StV):Prop where
 p:kT w0 H N v.pl s.planes
 l:kT w0 H N v.le s.legs
 e:kT w0 H N v.pe s.people
def FlyK(w0:World)(h:Heap)(d:aQ)(s:aF)(sv:StV)(op:Int)(u:List aH)(y:AV)(h':Heap):Prop:=
 aB h h'∧∃nv,y= .tup [.agg (stC nv),.agg [.int .i64 (eJ d s op u).2.1,.int .i64 (eJ d s op u).2.2]]∧StS w0 h' (eJ d s op u).1 nv∧((nv=sv∧(eJ d s op u).1=s)∨aAm w0 h' h.length (eJ d s op u).1 nv)
theorem jS.toL{H:Heap}{N M id:Nat}{y:AV}{l:List Int}(a:jS w0 H N id y l)(hM:M≤N):kT w0 H M y l:=
 ⟨a.o,fun e=>by obtain⟨h1,h2,h3,h4⟩:=a.b e; exact⟨id,Nat.le_trans hM h1,h2,h3,h4⟩,fun e=>(a.z e).imp (fun x=>x) fun⟨io,f,c,h1,h2,h3⟩=>⟨io,f,c,Nat.le_trans hM h1,h2,h3⟩⟩
theorem uE{b:Bool}{r:Int}{p:Nat}(e:rS b r p=none):b=true:=by cases b<;>simp[rS]at e ⊢
theorem uD{b:Bool}{r:Int}{p:Nat}{x:AV}(e:rS b r p=some x):b=false∧x=pT r p:=by cases b<;>simp[rS]at e ⊢; exact e.symm
def fns(f:FlV):AV:= .agg [.fn (.func 118) [.agg (flC f)] [],.fn (.func 119) [.agg (flC f)] [],.fn (.func 120) [.agg (flC f)] [],.fn (.func 121) [.agg (flC f)] [],.fn (.func 122) [.agg (flC f)] []]
theorem aIz{Q:Exit→Fr→Heap→Prop}{k:List It}{Z:Nat}{h0:Heap}{d:aQ}{v:cU}{m:AV}{s:aF}{f:FlV}{x:aH}{g:List Bool}{v0 v2 v5 v8 v9 v10 v11 v12 v13 v35 v36 v37:AV}
 (r0:FlR w0 h0 d v m s f x.people) (hx:f.to=x.to) (hs:aB h0 h) (hb0:h0.length≤f.gone) (hg:h[f.gone]? = some (some (.row (g.map AV.bool)))) (gl:g.length=4)
 (hok:∀g',nO d s f.open_ f.plane x g=(none,g')→un Tryz.prog w0 none 129 Z Q (.exit 2) k [(63,.bool false),(63,.bool false),(0,v0),(2,v2),(5,v5),(8,v8),(9,v9),(10,v10),(11,v11),(12,v12),(13,v13),(35,v35),(36,v36),(37,v37),(61,fns f),(62,.int .i64 5)] (h.set f.gone (some (.row (g'.map AV.bool)))))
 (hbad:∀r g' fr,Fr.get fr 8=v8→Fr.get fr 9=v9→nO d s f.open_ f.plane x g=(some r,g')→un Tryz.prog w0 none 129 Z Q (.panic (pan (pT r f.plane))) k fr (h.set f.gone (some (.row (g'.map AV.bool))))) :
 lp Tryz.prog w0 none 129 Z Q wX k [(0,v0),(2,v2),(5,v5),(8,v8),(9,v9),(10,v10),(11,v11),(12,v12),(13,v13),(35,v35),(36,v36),(37,v37),(61,fns f),(62,.int .i64 0)] h:=by
 have r:=r0.sub hs
 refine aP [0,2,5,8,9,10,11,12,13,35,36,37,61,62] wX.eq_1 ?_
 have hsame:h.set f.gone (some (.row (g.map AV.bool)))=h:=pF hg
 simp only[go_sem,fns]
 refine tU (jG.v (first:=[.agg (flC f)]) (args:=[]) (capt:=[]) (link_p r)) (fun e=> ?_) (fun y e=> ?_)
 rotate_left
 ·obtain⟨e1,rfl⟩:=uD e
  simp only[go_sem]
  have:=hbad 2 g
  rw[hsame]at this
  have e':jD d (s.planes.getD f.plane 0) x.to=false:=by rw[←hx]; exact e1
  exact this _ rfl rfl (by rw[nO,e']; rfl)
 have r1:jD d (s.planes.getD f.plane 0) x.to=true:=by have:=uE e; rwa [aFQ,hx]at this
 simp only[go_sem]
 refine⟨(by unfold I64; omega),aP [0,2,5,8,9,10,11,12,13,35,36,37,61,62] wX.eq_1 ?_⟩
 simp only[go_sem]
 refine tU (jG.v (first:=[.agg (flC f)]) (args:=[]) (capt:=[]) (shut_p r)) (fun e=> ?_) (fun y e=> ?_)
 rotate_left
 ·obtain⟨e1,rfl⟩:=uD e
  simp only[go_sem]
  have:=hbad 3 g
  rw[hsame]at this
  have e':(bN f.open_.toNat (s.planes.getD f.plane 0).toNat&&bN f.open_.toNat x.to.toNat)=false:=by rw[←hx]; exact e1
  exact this _ rfl rfl (by rw[nO,r1,e']; rfl)
 have r2:(bN f.open_.toNat (s.planes.getD f.plane 0).toNat&&bN f.open_.toNat x.to.toNat)=true:=by have:=uE e; rwa [aFy,hx]at this
 simp only[go_sem]
 refine⟨(by unfold I64; omega),aP [0,2,5,8,9,10,11,12,13,35,36,37,61,62] wX.eq_1 ?_⟩
 simp only[go_sem]
 refine tU (jG.v (first:=[.agg (flC f)]) (args:=[]) (capt:=[]) (aLZ r)) (fun e=> ?_) (fun y e=> ?_)
 rotate_left
 ·obtain⟨e1,rfl⟩:=uD e
  simp only[go_sem]
  have:=hbad 4 g
  rw[hsame]at this
  have e':decide (s.legs.getD f.plane 0<(d.planes.getD f.plane ⟨0,0,0,0,0⟩).duty)=false:=e1
  exact this _ rfl rfl (by rw[nO,r1,r2,e']; rfl)
 have r3:decide (s.legs.getD f.plane 0<(d.planes.getD f.plane ⟨0,0,0,0,0⟩).duty)=true:=uE e
 simp only[go_sem]
 refine⟨(by unfold I64; omega),aP [0,2,5,8,9,10,11,12,13,35,36,37,61,62] wX.eq_1 ?_⟩
 simp only[go_sem]
 refine tU (jG.v (first:=[.agg (flC f)]) (args:=[]) (capt:=[]) (here_p r0 hs hb0 hg gl)) (fun e=> ?_) (fun y e=> ?_)
 rotate_left
 ·obtain⟨e1,rfl⟩:=uD e
  simp only[go_sem]
  exact hbad 5 _ _ rfl rfl (by rw[nO,r1,r2,r3]; simp only[e1]; rfl)
 have r4:(mC (s.planes.getD f.plane 0) s.people x.people g).1=true:=uE e
 have r':FlR w0 (h.set f.gone (some (.row ((mC (s.planes.getD f.plane 0) s.people x.people g).2.map AV.bool)))) d v m s f x.people:=r0.sub (hs.setR hb0)
 simp only[go_sem]
 refine⟨(by unfold I64; omega),aP [0,2,5,8,9,10,11,12,13,35,36,37,61,62] wX.eq_1 ?_⟩
 simp only[go_sem]
 refine tU (jG.v (first:=[.agg (flC f)]) (args:=[]) (capt:=[]) (aIy r')) (fun e=> ?_) (fun y e=> ?_)
 rotate_left
 ·obtain⟨e1,rfl⟩:=uD e
  simp only[go_sem]
  have e':decide (lS d x.people≤(d.planes.getD f.plane ⟨0,0,0,0,0⟩).seats)=false:=e1
  exact hbad 6 _ _ rfl rfl (by rw[nO,r1,r2,r3]; simp only[r4,e']; rfl)
 have r5:decide (lS d x.people≤(d.planes.getD f.plane ⟨0,0,0,0,0⟩).seats)=true:=uE e
 simp only[go_sem]
 refine⟨(by unfold I64; omega),aP [0,2,5,8,9,10,11,12,13,35,36,37,61,62] wX.eq_1 ?_⟩
 simp only[go_sem]
 exact hok _ (by rw[nO,r1,r2,r3]; simp only[r4,r5]; rfl)
structure FHp(w0:World)(h:Heap)(s:aF)(sv nv:StV)(ia ip il ie ig:Nat)(H:Heap)(n:aF)(g:List Bool):Prop where
 sub:aB h H
 b0:H[h.length]? = some (some (.row (stC sv)))
 b1:H[h.length+1]? = some (some (.row [.nilS,.nilS,.nilS]))
 b2:H[h.length+2]? = some (some (.row [.int .i64 0,.int .i64 0]))
 ha:H[ia]? = some (some (.row (stC nv)))
 hg:H[ig]? = some (some (.row (g.map AV.bool)))
 p:jS w0 H (h.length+3) ip nv.pl n.planes
 l:jS w0 H (h.length+3) il nv.le n.legs
 e:jS w0 H (h.length+3) ie nv.pe n.people
 p1:n.planes.length=s.planes.length
 l1:n.legs.length=s.legs.length
 e1:n.people.length=s.people.length
structure aFn(w0:World)(h:Heap)(d:aQ)(s:aF)(sv nv:StV)(op:Int)(u:List aH)(ia ip il ie ig:Nat)(j:Nat)(H:Heap)(n:aF)(g:List Bool):Prop extends FHp w0 h s sv nv ia ip il ie ig H n g where
 gl:g.length=4
 lb:∀x∈n.legs,0≤x∧x<1000000+j
 go:nF d s op u 0 s [false,false,false,false]=nF d s op (u.drop j) j n g
theorem FHp.sub'{s n:aF}{sv nv:StV}{ia ip il ie ig:Nat}{H H':Heap}{g:List Bool}(I:FHp w0 h s sv nv ia ip il ie ig H n g)(t:aB H H'):FHp w0 h s sv nv ia ip il ie ig H' n g:=
 { I with sub:=I.sub.trans t,b0:=t.2 _ _ I.b0,b1:=t.2 _ _ I.b1,b2:=t.2 _ _ I.b2,ha:=t.2 _ _ I.ha,hg:=t.2 _ _ I.hg,p:=I.p.sub t,l:=I.l.sub t,e:=I.e.sub t }
theorem aFn.sub'{d:aQ}{s n:aF}{sv nv:StV}{op:Int}{u:List aH}{ia ip il ie ig j:Nat}{H H':Heap}{g:List Bool}(I:aFn w0 h d s sv nv op u ia ip il ie ig j H n g)(t:aB H H'):aFn w0 h d s sv nv op u ia ip il ie ig j H' n g:=
 { I with toFHp:=I.toFHp.sub' t }
theorem aFn.skip{d:aQ}{s n:aF}{sv nv:StV}{op:Int}{u:List aH}{ia ip il ie ig j:Nat}{H:Heap}{g:List Bool}(I:aFn w0 h d s sv nv op u ia ip il ie ig j H n g)(hj:j<u.length)(hx:u[j].to<0):aFn w0 h d s sv nv op u ia ip il ie ig (j+1) H n g:=
 { I with lb:=fun x hx=>(by have:=I.lb x hx; omega),go:=by rw[I.go,List.drop_eq_getElem_cons hj,nF,if_pos hx] }
structure FFix(h:Heap)(s:aF)(ia ip il ie ig:Nat):Prop where
 ia0:h.length+3≤ia
 ig0:h.length+3≤ig
 ag:ia≠ig
 d1:s.planes≠[]→ip≠ia∧ip≠ig
 d2:s.legs≠[]→il≠ia∧il≠ig
 d3:s.people≠[]→ie≠ia∧ie≠ig
 d4:s.planes≠[]→s.legs≠[]→ip≠il
 d5:s.planes≠[]→s.people≠[]→ip≠ie
 d6:s.legs≠[]→s.people≠[]→il≠ie
theorem dM{α:Type}{l k:List α}(e:l.length=k.length)(h:l≠[]):k≠[]:=fun e2=>h (List.eq_nil_of_length_eq_zero (by rw[e,e2]; rfl))
section
variable {s n:aF} {sv nv:StV} {ia ip il ie ig:Nat} {H:Heap} {g:List Bool}
theorem FHp.gone(I:FHp w0 h s sv nv ia ip il ie ig H n g)(fx:FFix h s ia ip il ie ig){g':List Bool}(e:g'.length=g.length):FHp w0 h s sv nv ia ip il ie ig (H.set ig (some (.row (g'.map AV.bool)))) n g':=by
 have hl:=aD I.hg
 have k0:=fx.ig0
 have e0:∀q,q≠ig→(H.set ig (some (.row (g'.map AV.bool))))[q]? = H[q]? := fun q hq=>by rw[qB (Ne.symm hq)]
 exact { I with
  sub:=I.sub.setR (by omega),b0:=by rw[e0 _ (by omega)]; exact I.b0,b1:=by rw[e0 _ (by omega)]; exact I.b1,b2:=by rw[e0 _ (by omega)]; exact I.b2,ha:=by rw[e0 _ fx.ag]; exact I.ha,
  hg:=qF hl,p:=I.p.set I.hg (by simp[e]) fun q=>(fx.d1 (dM I.p1 q)).2,l:=I.l.set I.hg (by simp[e]) fun q=>(fx.d2 (dM I.l1 q)).2,e:=I.e.set I.hg (by simp[e]) fun q=>(fx.d3 (dM I.e1 q)).2 }
theorem FHp.putP(I:FHp w0 h s sv nv ia ip il ie ig H n g)(fx:FFix h s ia ip il ie ig){j:Nat}(hj:j<n.planes.length)(x:Int):FHp w0 h s sv nv ia ip il ie ig (H.set ip (some (.row (aN (n.planes.set j x))))) ⟨n.planes.set j x,n.legs,n.people⟩ g:=by
 have hl:n.planes≠[]:=fun e=>by rw[e]at hj; simp at hj
 have hs:=dM I.p1 hl
 obtain⟨h1,h2,h3,h4⟩:=I.p.b hl
 have e0:∀q,q≠ip→(H.set ip (some (.row (aN (n.planes.set j x)))))[q]? = H[q]? := fun q hq=>by rw[qB (Ne.symm hq)]
 obtain⟨q1,q2⟩:=fx.d1 hs
 exact { I with
  sub:=I.sub.setR (by omega),b0:=by rw[e0 _ (by omega)]; exact I.b0,b1:=by rw[e0 _ (by omega)]; exact I.b1,b2:=by rw[e0 _ (by omega)]; exact I.b2,ha:=by rw[e0 _ (Ne.symm q1)]; exact I.ha,
  hg:=by rw[e0 _ (Ne.symm q2)]; exact I.hg,p:=I.p.put hj x,l:=I.l.set h4 (by simp[aN]) fun q=>Ne.symm (fx.d4 hs (dM I.l1 q)),e:=I.e.set h4 (by simp[aN]) fun q=>Ne.symm (fx.d5 hs (dM I.e1 q)),
  p1:=by simp[I.p1] }
theorem FHp.putL(I:FHp w0 h s sv nv ia ip il ie ig H n g)(fx:FFix h s ia ip il ie ig){j:Nat}(hj:j<n.legs.length)(x:Int):FHp w0 h s sv nv ia ip il ie ig (H.set il (some (.row (aN (n.legs.set j x))))) ⟨n.planes,n.legs.set j x,n.people⟩ g:=by
 have hl:n.legs≠[]:=fun e=>by rw[e]at hj; simp at hj
 have hs:=dM I.l1 hl
 obtain⟨h1,h2,h3,h4⟩:=I.l.b hl
 have e0:∀q,q≠il→(H.set il (some (.row (aN (n.legs.set j x)))))[q]? = H[q]? := fun q hq=>by rw[qB (Ne.symm hq)]
 obtain⟨q1,q2⟩:=fx.d2 hs
 exact { I with
  sub:=I.sub.setR (by omega),b0:=by rw[e0 _ (by omega)]; exact I.b0,b1:=by rw[e0 _ (by omega)]; exact I.b1,b2:=by rw[e0 _ (by omega)]; exact I.b2,ha:=by rw[e0 _ (Ne.symm q1)]; exact I.ha,
  hg:=by rw[e0 _ (Ne.symm q2)]; exact I.hg,l:=I.l.put hj x,p:=I.p.set h4 (by simp[aN]) fun q=>fx.d4 (dM I.p1 q) hs,e:=I.e.set h4 (by simp[aN]) fun q=>Ne.symm (fx.d6 hs (dM I.e1 q)),
  l1:=by simp[I.l1] }
theorem FHp.putE(I:FHp w0 h s sv nv ia ip il ie ig H n g)(fx:FFix h s ia ip il ie ig){j:Nat}(hj:j<n.people.length)(x:Int):FHp w0 h s sv nv ia ip il ie ig (H.set ie (some (.row (aN (n.people.set j x))))) ⟨n.planes,n.legs,n.people.set j x⟩ g:=by
 have hl:n.people≠[]:=fun e=>by rw[e]at hj; simp at hj
 have hs:=dM I.e1 hl
 obtain⟨h1,h2,h3,h4⟩:=I.e.b hl
 have e0:∀q,q≠ie→(H.set ie (some (.row (aN (n.people.set j x)))))[q]? = H[q]? := fun q hq=>by rw[qB (Ne.symm hq)]
 obtain⟨q1,q2⟩:=fx.d3 hs
 exact { I with
  sub:=I.sub.setR (by omega),b0:=by rw[e0 _ (by omega)]; exact I.b0,b1:=by rw[e0 _ (by omega)]; exact I.b1,b2:=by rw[e0 _ (by omega)]; exact I.b2,ha:=by rw[e0 _ (Ne.symm q1)]; exact I.ha,
  hg:=by rw[e0 _ (Ne.symm q2)]; exact I.hg,e:=I.e.put hj x,p:=I.p.set h4 (by simp[aN]) fun q=>fx.d5 (dM I.p1 q) hs,l:=I.l.set h4 (by simp[aN]) fun q=>fx.d6 (dM I.l1 q) hs,
  e1:=by simp[I.e1] }
end
theorem aJ1{l:List Int}{r:Nat}(hr:r<l.length)(x:Int):(l.take (r+1)).count x=(l.take r).count x+if l[r]=x then 1 else 0:=by
 rw[List.take_add_one,qA hr,List.count_append]
 simp[List.count_singleton]
theorem cnt_le{l:List Int}{r:Nat}(x:Int):(l.take r).count x≤l.length:=Nat.le_trans List.count_le_length (by simp; omega)
theorem aHb{a:Int}{pe:List Int}:∀ {l:List Int} {g:List Bool},(mC a pe l g).2.length=g.length:=by
 intro l
 induction l with
 | nil=>intro g; rfl
 | cons n l ih=>
  intro g
  rw[mC]
  split
  ·rw[ih,List.length_set]
  ·rfl
theorem aAz{d:aQ}{s:aF}{op:Int}{i:Nat}{x:aH}{g g':List Bool}(e:nO d s op i x g=(none,g')):g'.length=g.length:=by
 unfold nO at e
 split at e
 ·cases e
 split at e
 ·cases e
 split at e
 ·cases e
 simp only at e
 split at e
 ·cases e
 split at e
 ·cases e
 ·cases e; exact aHb
theorem aIf{P:Program}{r:Option Nat}{nt Z:Nat}{c:SC}{fr:Fr}{Q:Exit→Fr→Heap→Prop}(e:ex P w0 r nt Z Q c [] fr (h++[])):sx P w0 r nt Z c fr h Q:=by
 rw[List.append_nil]at e; exact hY e
theorem aF0{d:aQ}{s:aF}{sv:StV}{op:Int}{u:List aH}{K2:Heap}{x y:List AV}{fr:Fr}{r p:Int}{X:List PanicEntry→Heap→Prop}(hs:StS w0 h s sv)(sub:aB h K2)(b0:K2[h.length]? = some (some (.row (stC sv))))(b1:K2[h.length+1]? = some (some (.row x)))(b2:K2[h.length+2]? = some (some (.row y)))
 (hx:x.length=3) (hy:y.length=2) (f8:fr.get 8= .ptr (.own (h.length+1) 0)) (f9:fr.get 9= .ptr (.own (h.length+2) 0)) (hF:eJ d s op u=(s,r,p)) :
 defK Tryz.prog w0 aGV.er.res 117 [.ptr (.own h.length 0),.ptr (.own (h.length+1) 0),.ptr (.own (h.length+2) 0)] (FlyK w0 h d s sv op u) X (.panic (pan (pT r p))) fr K2:=by
 have p1:=Sl.one hs.planes.s
 have p2:=Sl.one hs.legs.s
 have p3:=Sl.one hs.people.s
 refine aJL (sv:=sv) p1.1 p2.1 p3.1 b0 b1 b2 hx hy (by omega) ?_
 have l1:=aD b1
 have l2:=aD b2
 obtain⟨K3,eK3⟩:∃K3,K3=(K2.set (h.length+1) (some (.row (stC sv)))).set (h.length+2) (some (.row [.int .i64 r,.int .i64 p]))++[some (.row [.int .i64 r,.int .i64 p])]:=⟨_,rfl⟩
 rw[←eK3]
 have sub3:aB h K3:=by rw[eK3]; exact((sub.setR (by omega)).setR (by omega)).app
 have c1:K3[h.length+1]? = some (some (.row (stC sv))):=by
  rw[eK3,qH (by simpa using l1),qB (by omega),qF l1]
 have c2:K3[h.length+2]? = some (some (.row [.int .i64 r,.int .i64 p])):=by
  rw[eK3,qH (by simpa using l2),qF (by simpa using l2)]
 refine⟨.tup [.agg (stC sv),.agg [.int .i64 r,.int .i64 p]],?_,sub3,sv,by rw[hF],by rw[hF]; exact hs.sub sub3,.inl ⟨rfl,by rw[hF]⟩⟩
 simp[aGV,SF.er,jN,tS,f8,f9,rdv,rdn,c1,c2,stC]
theorem fly_c(d:aQ)(v:cU)(m:AV)(i:Nat)(s:aF)(sv:StV)(op:Int)(u:List aH)(uv:AV)(hD:rL w0 h d v m i)(hs:StS w0 h s sv)(sk:nB d s)(hu:UnV w0 h uv u)(uk:aEK d u)(o1:0≤op)(o2:op<2^50) :
 iN Tryz.prog w0 63 [.ptr (.own i 0),.agg (stC sv),.int .i64 op,uv] h (FlyK w0 h d s sv op u) (fun _ _=>False):=by
 refine aDw (mf:=aGV.er) aI0.a aI0.b (qE rfl) fun hb ha=>EvD_sx (x:= .reg _) (y:= .seq (.reg _) _) dE rfl (aIf ?_)
 have p1:=Sl.one hs.planes.s
 have p2:=Sl.one hs.legs.s
 have p3:=Sl.one hs.people.s
 simp only[go_sem,p1.1,p2.1,p3.1]
 refine aOs (l:=[_]) dE (by decide) ?_
 obtain⟨G,eG⟩:∃G,G=h++[some (Blk.row [sv.pl,sv.le,sv.pe]),some (Blk.row [AV.nilS,AV.nilS,AV.nilS]),some (Blk.row [AV.int IntKind.i64 0,AV.int IntKind.i64 0])]:=⟨_,rfl⟩
 rw[←eG]
 show ∃g capt,AV.fn (Fn.func 117) [] [.ptr (.own h.length 0),.ptr (.own (h.length+1) 0),.ptr (.own (h.length+2) 0)]= .fn (.func g) [] capt∧sx Tryz.prog w0 none 129 G.length _
  [(24,AV.fn (Fn.func 117) [] [.ptr (.own h.length 0),.ptr (.own (h.length+1) 0),.ptr (.own (h.length+2) 0)]),(9,.ptr (.own (h.length+2) 0)),(8,.ptr (.own (h.length+1) 0)),(5,.ptr (.own h.length 0)),(0,.ptr (.own i 0)),(1,.agg (stC sv)),(2,.int .i64 op),(3,uv)] G _
 refine⟨117,_,rfl,aIf ?_⟩
 have gl:G.length=h.length+3:=by rw[eG]; simp
 have hG:aB h G:=by rw[eG]; exact aB.refl.app
 have b0:G[h.length]? = some (some (.row (stC sv))):=by rw[eG]; simp[stC]
 have b1:G[h.length+1]? = some (some (.row [.nilS,.nilS,.nilS])):=by rw[eG]; simp
 have b2:G[h.length+2]? = some (some (.row [.int .i64 0,.int .i64 0])):=by rw[eG]; simp
 simp only[go_sem]
 have hsG:StS w0 G s sv:=hs.sub hG
 have dl:=hD.dl
 have hpl:=hD.pl
 rw[List.append_nil]
 refine aHu (kk:=h.length) rfl b0 hsG (by rw[sk.s1]; omega) (by rw[sk.s2]; omega) (by rw[sk.s3]; omega) fun fr H nv ia ip il ie c=>⟨[(24,AV.fn (Fn.func 117) [] [.ptr (.own h.length 0),.ptr (.own (h.length+1) 0),.ptr (.own (h.length+2) 0)]),(10,.ptr (.own ia 0)),(9,.ptr (.own (h.length+2) 0)),(8,.ptr (.own (h.length+1) 0)),(5,.ptr (.own h.length 0)),(0,.ptr (.own i 0)),(2,.int .i64 op),(3,uv)],fun t=> ?_,?_⟩
 ·have hk:∀q,q≠10→q<25→fr.get q=_:=fun q h1 h2=>c.keep q h1 h2
  by_cases e24:t=24
  ·subst e24; exact .inr (hk 24 (by omega) (by omega)).symm
  by_cases e10:t=10
  ·subst e10; exact .inr c.ten.symm
  by_cases e9:t=9
  ·subst e9; exact .inr (hk 9 (by omega) (by omega)).symm
  by_cases e8:t=8
  ·subst e8; exact .inr (hk 8 (by omega) (by omega)).symm
  by_cases e5:t=5
  ·subst e5; exact .inr (hk 5 (by omega) (by omega)).symm
  by_cases e0:t=0
  ·subst e0; exact .inr (hk 0 (by omega) (by omega)).symm
  by_cases e2:t=2
  ·subst e2; exact .inr (hk 2 (by omega) (by omega)).symm
  by_cases e3:t=3
  ·subst e3; exact .inr (hk 3 (by omega) (by omega)).symm
  have hbq:∀n,t≠n→Nat.beq t n=false:=fun n hn=>by
   cases hb:Nat.beq t n with
   | false=>rfl
   | true=>exact absurd (cW.1 hb) hn
  left
  simp only[Fr.get,hbq _ e24,hbq _ e10,hbq _ e9,hbq _ e8,hbq _ e5,hbq _ e0,hbq _ e2,hbq _ e3,Bool.false_eq_true,if_false]
 ·rw[←List.append_nil H]
  have ulen:dA uv=some (.int .i64 u.length):=by obtain⟨rows,h1,h2,_⟩:=hu; rw[←h1]; exact h2.use.1
  have hul:=uk.len
  simp only[go_sem,ulen]
  have hH:aB G H:=c.sub
  have hGH:=hH.1
  have fx:FFix h s ia ip il ie H.length:=by
   have ha:=aD c.ha
   have lo:=c.lo
   refine⟨by omega,by omega,by omega,fun e=>⟨c.d1 e,?_⟩,fun e=>⟨c.d2 e,?_⟩,fun e=>⟨c.d3 e,?_⟩,c.d4,c.d5,c.d6⟩
   ·have:=(c.p.b e).2.1; omega
   ·have:=(c.l.b e).2.1; omega
   ·have:=(c.e.b e).2.1; omega
  refine bS (S:=Heap×aF×List Bool) (fun j _=>[(0,.ptr (.own i 0)),(2,.int .i64 op),(5,.ptr (.own h.length 0)),(8,.ptr (.own (h.length+1) 0)),(9,.ptr (.own (h.length+2) 0)),(10,.ptr (.own ia 0)),(11,.ptr (.own H.length 0)),(35,uv),(36,.int .i64 u.length),(37,.int .i64 j)])
   (fun _ st=>st.1) (fun j st=>aFn w0 h d s sv nv op u ia ip il ie H.length j st.1 st.2.1 st.2.2) u.length (H++[some (Blk.row [.bool false,.bool false,.bool false,.bool false])],s,[false,false,false,false]) ?_ rfl rfl (fun j st hj I ih=> ?_) (fun st I=> ?_)
  ·have hp:aB H (H++[some (Blk.row [.bool false,.bool false,.bool false,.bool false])]):=aB.refl.app
   have hp2:=hH.trans hp
   have n3:∀ {id:Nat} {y:AV} {l:List Int},jS w0 H G.length id y l→jS w0 (H++[some (Blk.row [.bool false,.bool false,.bool false,.bool false])]) (h.length+3) id y l:=fun o=>by
    have:=o.sub hp
    rw[gl]at this; exact this
   exact⟨⟨hG.trans hp2,hp2.2 _ _ b0,hp2.2 _ _ b1,hp2.2 _ _ b2,hp.2 _ _ c.ha,by simp,n3 c.p,n3 c.l,n3 c.e,rfl,rfl,rfl⟩,rfl,fun x hx=>by have:=sk.lg x hx; omega,by rw[List.drop_zero]⟩
  ·refine aP [0,2,5,8,9,10,11,35,36,37] aK2.eq_1 ?_
   obtain⟨K,n,g⟩:=st
   simp only at I ih ⊢
   have e3:(j:Int)<u.length:=by omega
   obtain⟨p,cc,p1',p2',pv,rfl,p3'⟩:=NS.at_ hu hj
   have p2'':∀L,rdn w0 (K++L) p 2=some [.int .i64 u[j].to,pv]:=fun L=>by
    have:=p2' []
    rw[List.append_nil]at this
    exact(I.sub.trans aB.refl.app).rdn this
   have q2:=p2'' []
   rw[List.append_nil]at q2
   have opv:=Sl.one p3'
   have pe2:=Sl.one hs.people.s
   simp only[go_sem,e3,p1',p2'',q2,opv.1]
   refine⟨fun hneg=>⟨(by unfold I64; omega),?_⟩,fun hneg=> ?_⟩
   ·have:=ih (K++[some (Blk.row [.int .i64 u[j].to,pv])],n,g) ((I.sub' aB.refl.app).skip hj hneg)
    simpa using this
   have bb0:∀L,(K++L)[h.length]? = some (some (.row (stC sv))):=fun L=>aA I.b0
   simp only[go_sem,bb0,opv.1,p1.1,p2.1,p3.1]
   obtain⟨K1,eK1⟩:∃K1,K1=K++[some (Blk.row [.int .i64 u[j].to,pv]),some (Blk.row [.ptr (.own i 0),.int .i64 u[j].to,pv,sv.pl,sv.le,sv.pe,.int .i64 op,.int .i64 (j:Int),.ptr (.own H.length 0)])]:=⟨_,rfl⟩
   rw[←eK1]
   have hK1:aB K K1:=by rw[eK1]; exact aB.refl.app
   have I1:=I.sub' hK1
   have hmem:u[j]∈u:=qG hj
   have r0:FlR w0 h d v m s ⟨i,u[j].to,pv,sv,op,j,H.length⟩ u[j].people:=
    { hd:=hD.hd,R:=hD.R,S:=hs,P:=p3',hp:=by simp only; omega,s1:=sk.s1,s2:=sk.s2,s3:=sk.s3,at_:=sk.at_,to0:=by simp only; omega,to1:=uk.to _ hmem,op0:=o1,op1:=o2,pp:=uk.pp _ hmem,pl:=uk.pl _ hmem,dl:=dl,sb:=hD.sb }
   have hgl:=aD I1.hg
   refine aIz (x:=u[j]) (g:=g) r0 rfl I1.sub (by simp only; omega) I1.hg I1.gl (fun g' hok=> ?_) (fun r g' fr' f8 f9 hbad=> ?_)
   ·simp only[go_sem]
    have F2:=I1.toFHp.gone fx (aAz hok)
    have g4:g'.length=4:=by rw[aAz hok]; exact I1.gl
    have bK:K1[K.length]? = some (some (.row [.int .i64 u[j].to,pv])):=by rw[eK1]; simp
    have hgK:=aD I.hg
    obtain⟨K2,eK2⟩:∃K2,K2=K1.set H.length (some (.row (g'.map AV.bool))):=⟨_,rfl⟩
    rw[←eK2]at F2 ⊢
    have bK2:K2[K.length]? = some (some (.row [.int .i64 u[j].to,pv])):=by rw[eK2,qB (by omega)]; exact bK
    have hjp:j<n.planes.length:=by rw[I.p1,sk.s1]; omega
    have hjl:j<n.legs.length:=by rw[I.l1,sk.s2]; omega
    obtain⟨x1,x2,x3,x4⟩:=F2.p.use hjp
    have x2':=x2 []
    rw[List.append_nil]at x2'
    have x5:=F2.ha
    have il1:(aN n.planes).length=n.planes.length:=by simp[aN]
    simp only[go_sem,x1,x2',x5,bK2,il1]
    have F3:=F2.putP fx hjp u[j].to
    rw[mR hjp]
    obtain⟨K3,eK3⟩:∃K3,K3=K2.set ip (some (.row (aN (n.planes.set j u[j].to)))):=⟨_,rfl⟩
    rw[←eK3]at F3 ⊢
    have hpl0:n.planes≠[]:=fun e=>by rw[e]at hjp; simp at hjp
    have hll0:n.legs≠[]:=fun e=>by rw[e]at hjl; simp at hjl
    have ipK:=(I.p.b hpl0).2.1
    have ilK:=(I.l.b hll0).2.1
    have bK3:K3[K.length]? = some (some (.row [.int .i64 u[j].to,pv])):=by rw[eK3,qB (by omega)]; exact bK2
    refine⟨by omega,?_⟩
    have y5:=F3.ha
    obtain⟨y1,y2,y3,y4⟩:=F3.l.use (j:=j) hjl
    simp only at y1 y2 y3
    have y2':=y2 []
    have y3':=y3 []
    rw[List.append_nil]at y2' y3'
    have il2:(aN n.legs).length=n.legs.length:=by simp[aN]
    have hlb:=I.lb n.legs[j] (qG hjl)
    simp only[go_sem,y1,y2',y3',y5,bK3,il2]
    have F4:=F3.putL (j:=j) fx hjl (n.legs[j]+1)
    simp only at F4
    rw[mR hjl]
    obtain⟨K4,eK4⟩:∃K4,K4=K3.set il (some (.row (aN (n.legs.set j (n.legs[j]+1))))):=⟨_,rfl⟩
    rw[←eK4]at F4 ⊢
    have bK4:K4[K.length]? = some (some (.row [.int .i64 u[j].to,pv])):=by rw[eK4,qB (by omega)]; exact bK3
    have lpv:=(SlI.use p3').1
    have huj:=List.length_pos_of_mem hmem
    refine⟨⟨by omega,by omega⟩,by omega,?_⟩
    simp only[go_sem,bK4,lpv]
    refine bS (S:=Heap×List Int) (fun q _=>[(0,.ptr (.own i 0)),(2,.int .i64 op),(5,.ptr (.own h.length 0)),(8,.ptr (.own (h.length+1) 0)),(9,.ptr (.own (h.length+2) 0)),(10,.ptr (.own ia 0)),(11,.ptr (.own H.length 0)),(13,.ptr (.own K.length 0)),(35,uv),(36,.int .i64 u.length),(37,.int .i64 j),(82,pv),(83,.int .i64 u[j].people.length),(84,.int .i64 q)])
     (fun _ st=>st.1) (fun q st=>FHp w0 h s sv nv ia ip il ie H.length st.1 ⟨n.planes.set j u[j].to,n.legs.set j (n.legs[j]+1),st.2⟩ g'∧st.1[K.length]? = some (some (.row [.int .i64 u[j].to,pv]))∧st.2=(u[j].people.take q).foldl (fun l n=>l.set n.toNat u[j].to) n.people) u[j].people.length (K4,n.people) ⟨F4,bK4,rfl⟩ rfl rfl (fun q st hq Iq iq=> ?_) (fun st Iq=> ?_)
    ·refine aP [0,2,5,8,9,10,11,13,35,36,37,82,83,84] aK3.eq_1 ?_
     obtain⟨K5,pe⟩:=st
     obtain⟨F5,bK5,epe⟩:=Iq
     simp only at F5 bK5 epe iq ⊢
     have e4:(q:Int)<u[j].people.length:=by omega
     have hplq:=uk.pl _ hmem
     obtain⟨_,a0,ai,ar⟩:=SlI.use (Sl.sub p3' F5.sub)
     have a1:=ai q hq
     have a2:=ar q hq
     have a2':=a2 []
     rw[List.append_nil]at a2'
     have hx:=uk.pp _ hmem _ (qG hq)
     obtain⟨x,ex'⟩:∃x:Nat,u[j].people[q]=x:=⟨u[j].people[q].toNat,by omega⟩
     have hxl:x<pe.length:=by
      have:=F5.e1
      simp only at this
      rw[this,sk.s3]; omega
     have hpe0:pe≠[]:=fun e=>by rw[e]at hxl; simp at hxl
     obtain⟨z1,z2,z3,z4⟩:=F5.e.use (j:=x) hxl
     simp only at z1 z2 z3
     have z2':=z2 []
     rw[List.append_nil]at z2'
     have an:cH (.int .i64 u[j].people[q])=some x:=by rw[ex']; simp[cH]
     have il3:(aN pe).length=pe.length:=by simp[aN]
     have z5:=F5.ha
     simp only[go_sem,e4,a1,a2',an,z1,z2',z5,bK5,il3]
     rw[mR hxl]
     have F6:=F5.putE (j:=x) fx hxl u[j].to
     simp only at F6
     have ieK:ie<K.length:=(I.e.b (dM (l:=n.people) (k:=n.people) rfl (dM (by
      have:=F5.e1
      simp only at this
      rw[this,I.e1]) hpe0))).2.1
     refine⟨by omega,(by unfold I64; omega),?_⟩
     have:=iq (K5.set ie (some (.row (aN (pe.set x u[j].to)))),pe.set x u[j].to) ⟨F6,by simp only; rw[qB (by omega)]; exact bK5,by
      simp only
      rw[List.take_add_one,qA hq,List.foldl_append,←epe]
      simp[ex']⟩
     simpa using this
    ·refine aP [0,2,5,8,9,10,11,13,35,36,37,82,83,84] aK3.eq_1 ?_
     obtain⟨K5,pe⟩:=st
     obtain⟨F5,bK5,epe⟩:=Iq
     simp only at F5 bK5 epe ⊢
     have e4:¬(u[j].people.length:Int)<u[j].people.length:=by omega
     simp only[go_sem,e4]
     rw[List.take_length]at epe
     refine⟨(by unfold I64; omega),?_⟩
     have:=ih (K5,nQ n j u[j],g') ⟨by rw[nQ,aE hjl,←epe]; exact F5,g4,fun x hx=> ?_,?_⟩
     ·simpa using this
     ·simp only[nQ]at hx
      rcases List.mem_or_eq_of_mem_set hx with hx | hx
      ·have:=I.lb x hx; omega
      ·rw[aE hjl]at hx
       omega
     ·simp only
      rw[I.go,List.drop_eq_getElem_cons hj,nF,if_neg hneg]
      simp only at hok
      rw[hok]
   ·simp only[go_sem]
    have hne:=fx.ig0
    have hlu:nF d s op u 0 s [false,false,false,false]= .error (r,(j:Int)):=by
     rw[I.go,List.drop_eq_getElem_cons hj,nF,if_neg hneg]
     simp only at hbad
     rw[hbad]
    have e0:∀q,q<h.length+3→(K1.set H.length (some (.row (g'.map AV.bool))))[q]? = K1[q]? := fun q hq=>by rw[qB (by omega)]
    exact aF0 hs (I1.sub.setR (by omega)) (by rw[e0 _ (by omega)]; exact I1.b0) (by rw[e0 _ (by omega)]; exact I1.b1) (by rw[e0 _ (by omega)]; exact I1.b2) rfl rfl f8 f9 (by rw[eJ,hlu])
  ·refine aP [0,2,5,8,9,10,11,35,36,37] aK2.eq_1 ?_
   obtain⟨K,n,g⟩:=st
   simp only at I ⊢
   have e3:¬(u.length:Int)<u.length:=by omega
   have bd:=I.sub.2 _ _ hD.hd
   have lpl:dA v.pl=some (.int .i64 d.places.length):=by simpa using hD.R.places.use.1
   have dpl:=hD.R.l1
   simp only[go_sem,e3,bd,lpl]
   have hgo:=I.go
   rw[List.drop_length,nF]at hgo
   refine bS (S:=Heap) (fun q _=>[(8,.ptr (.own (h.length+1) 0)),(9,.ptr (.own (h.length+2) 0)),(10,.ptr (.own ia 0)),(100,v.pl),(101,.int .i64 d.places.length),(102,.int .i64 q)]) (fun _ K=>K)
    (fun q K=>FHp w0 h s sv nv ia ip il ie H.length K n g∧∀x,x<q→fN d n x=false) d.places.length K ⟨I.toFHp,fun x hx=>by omega⟩ rfl rfl (fun q K5 hq Iq iq=> ?_) (fun K5 Iq=> ?_)
   ·refine aP [8,9,10,100,101,102] aK0.eq_1 ?_
    obtain⟨F5,hall⟩:=Iq
    have e4:(q:Int)<d.places.length:=by omega
    obtain⟨_,a0,ai,ar,_⟩:=hD.R.places.use
    have a1:=ai q (by simpa using hq)
    have a2:∀L,rdn w0 (K5++L) (a0.add (q*2)) 2=some (d.places.getD q ⟨0,false⟩).c:=fun L=>by
     have:=ar q (d.places.getD q ⟨0,false⟩).c (by rw[List.getElem?_map,qA hq,aE hq]; rfl)
     exact(F5.sub.trans aB.refl.app).rdn this
    have a2':=a2 []
    rw[List.append_nil]at a2'
    have f0:∀L,(K5++L)[ia]? = some (some (.row (stC nv))):=fun L=>aA F5.ha
    obtain⟨hln,b0',bi,br⟩:=SlI.use F5.p.o.s
    have hnl:n.planes.length<1000000:=by have:=F5.p1; have:=sk.s1; omega
    simp only[go_sem,e4,a1,a2,a2',f0,hln]
    refine bS (S:=Unit) (fun r _=>[(8,.ptr (.own (h.length+1) 0)),(9,.ptr (.own (h.length+2) 0)),(10,.ptr (.own ia 0)),(19,.int .i64 q),(20,.ptr (.own K5.length 0)),(21,.int .i64 ((n.planes.take r).count (q:Int):Nat)),(100,v.pl),(101,.int .i64 d.places.length),(102,.int .i64 q),(108,nv.pl),(109,.int .i64 n.planes.length),(110,.int .i64 r)])
     (fun _ _=>K5++[some (Blk.row [.int .i64 (d.places.getD q ⟨0,false⟩).berths,.bool (d.places.getD q ⟨0,false⟩).lodge])]) (fun _ _=>True) n.planes.length () trivial rfl rfl (fun r _ hr _ ir=> ?_) (fun _ _=> ?_)
    ·refine aP [8,9,10,19,20,21,100,101,102,108,109,110] aK1.eq_1 ?_
     have e5:(r:Int)<n.planes.length:=by omega
     have r1:=bi r hr
     have r2:=br r hr
     simp only[go_sem,e5,r1,r2]
     have hcl:=cnt_le (l:=n.planes) (r:=r) (q:Int)
     have hct:=aJ1 hr (q:Int)
     refine⟨fun e=>⟨(by unfold I64; omega),(by unfold I64; omega),?_⟩,fun e=>⟨(by unfold I64; omega),?_⟩⟩
     ·have:=ir () trivial
      rw[hct,if_pos e]at this
      simpa using this
     ·have:=ir () trivial
      rw[hct,if_neg e]at this
      simpa using this
    ·refine aP [8,9,10,19,20,21,100,101,102,108,109,110] aK1.eq_1 ?_
     have e5:¬(n.planes.length:Int)<n.planes.length:=by omega
     rw[List.take_length]
     simp only[go_sem,e5]
     refine⟨fun e=> ?_,fun e=>⟨(by unfold I64; omega),?_⟩⟩
     ·refine aFG rfl ?_
      simp only[go_sem]
      have hF:eJ d s op u=(s,7,-1):=by
       have hany:(List.range d.places.length).any (fN d n)=true:=by
        rw[List.any_eq_true]; exact⟨q,List.mem_range.2 hq,by simpa[fN]using e⟩
       rw[eJ,hgo]; simp only[hany]; rfl
      exact aF0 hs (F5.sub.trans aB.refl.app) (aA F5.b0) (aA F5.b1) (aA F5.b2) rfl rfl rfl rfl hF
     ·have:=iq (K5++[some (Blk.row [.int .i64 (d.places.getD q ⟨0,false⟩).berths,.bool (d.places.getD q ⟨0,false⟩).lodge])]) ⟨F5.sub' aB.refl.app,fun x hx=>by
       by_cases ex:x=q
       ·subst ex; simpa[fN]using e
       ·exact hall x (by omega)⟩
      simpa using this
   ·refine aP [8,9,10,100,101,102] aK0.eq_1 ?_
    obtain⟨F5,hall⟩:=Iq
    have e4:¬(d.places.length:Int)<d.places.length:=by omega
    have f0:=F5.ha
    have f1:=F5.b1
    have f2:∀X,(K5.set (h.length+1) X)[h.length+2]? = some (some (.row [.int .i64 0,.int .i64 0])):=fun X=>by rw[qB (by omega)]; exact F5.b2
    have o1':=Sl.one F5.p.o.s
    have o2':=Sl.one F5.l.o.s
    have o3':=Sl.one F5.e.o.s
    simp only[go_sem,e4,f0,f1,f2,o1'.1,o2'.1,o3'.1]
    obtain⟨K7,eK7⟩:∃K7,K7=(K5.set (h.length+1) (some (.row (stC nv)))).set (h.length+2) (some (.row [.int .i64 1,.int .i64 (-1)])):=⟨_,rfl⟩
    have l1:=aD F5.b1
    have l2:=aD F5.b2
    have sub7:aB h K7:=by rw[eK7]; exact(F5.sub.setR (by omega)).setR (by omega)
    have c1:K7[h.length+1]? = some (some (.row (stC nv))):=by rw[eK7,qB (by omega),qF l1]
    have c2:K7[h.length+2]? = some (some (.row [.int .i64 1,.int .i64 (-1)])):=by rw[eK7,qF (by simpa using l2)]
    have own:∀ {id:Nat} {y:AV} {l:List Int},jS w0 K5 (h.length+3) id y l→jS w0 K7 (h.length+3) id y l:=fun {id y l} o=>by
     rw[eK7]
     exact(o.set F5.b1 (c':=stC nv) rfl fun e=>by have:=(o.b e).1; omega).set (f2 _) (c':=[.int .i64 1,.int .i64 (-1)]) rfl fun e=>by have:=(o.b e).1; omega
    have hF:eJ d s op u=(n,1,-1):=by
     have hany:(List.range d.places.length).any (fN d n)=false:=by
      rw[List.any_eq_false]; intro x hx; simp[hall x (List.mem_range.1 hx)]
     rw[eJ,hgo]; simp only[hany]; rfl
    refine aJK (Q:=aHm w0 aGV.er.res (FlyK w0 h d s sv op u) (fun _ _=>False) _) ?_
    simp only[stC]at eK7
    rw[←eK7]
    refine⟨.tup [.agg (stC nv),.agg [.int .i64 1,.int .i64 (-1)]],?_,sub7,nv,by rw[hF],by rw[hF]; exact⟨(own F5.p).o,(own F5.l).o,(own F5.e).o⟩,.inr (by rw[hF]; exact⟨(own F5.p).toL (by omega),(own F5.l).toL (by omega),(own F5.e).toL (by omega)⟩)⟩
    simp[aGV,SF.er,jN,tS,Fr.get,rdv,rdn,c1,c2,stC]
end Go.Proofs.Ab

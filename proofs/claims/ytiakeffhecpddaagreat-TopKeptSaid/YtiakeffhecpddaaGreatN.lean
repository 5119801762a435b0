/- Own layer, part N. -/
import Derived.Test.YtiakeffhecpddaaGreatM
import Derived.Test.YtiakeffhecpddaaGreatG
set_option linter.unusedSimpArgs false
set_option linter.unusedVariables false
namespace Go.Proofs.Ab
open Go Go.Proofs
variable {w0:World} {h:Heap}
theorem iN.toA{P:Program}{f:FuncId}{args:List AV}{Q:AV→Heap→Prop}(a:iN P w0 f args h Q (fun _ _=>False)):ACall P w0 f args h Q:=
 ⟨a.1,fun m w vs s v b=>(a.2 m w vs s v b).mono fun _ _ p=>p.elim id fun⟨_,_,_,_,_,q⟩=>q.elim⟩
attribute [local irreducible] ACall bE cR aK bI rvC lp rg dr ex un rv
theorem aF5(g w:Nat)(hw:w<50)(hbit:bN g w=true)(hl:∀i,i<w→bN g i=false)(hg:g<2^50):aK Tryz.prog w0 54 [.int .i64 (g:Int)] h (.int .i64 (w:Int)) h:=by
 refine aM mf54_k fun hb ha=> ?_
 simp only[go_sem,mf54]
 refine bS (S:=Unit) (fun j _=>[(0,.int .i64 (g:Int)),(3,.int .i64 (j:Int))]) (fun _ _=>h) (fun _ _=>True) w () trivial rfl (by simp) (fun j _ hj _ ih=> ?_) (fun _ _=> ?_)
 ·refine aP [0,3] aK9.eq_1 ?_
  have s1:=jV (a:=g) (n:=j) (by omega)
  have s2:=kM (a:=g / 2^j) (Nat.lt_of_le_of_lt (Nat.div_le_self _ _) (by omega))
  have hz:=hl j hj
  have e:g / 2^j % 2=0:=by simp only[bN,decide_eq_false_iff_not]at hz; omega
  rw[e]at s2
  simp only[Int.natCast_zero,Int.natCast_one,Int.ofNat_eq_natCast]at s2
  rw[←List.append_nil h]
  simp only[go_sem,s1,s2]
  have:=ih () trivial
  refine⟨(by unfold I64; omega),?_⟩
  rw[List.append_nil]
  simpa using this
 ·refine aP [0,3] aK9.eq_1 ?_
  have s1:=jV (a:=g) (n:=w) (by omega)
  have s2:=kM (a:=g / 2^w) (Nat.lt_of_le_of_lt (Nat.div_le_self _ _) (by omega))
  have e:g / 2^w % 2=1:=by simpa[bN]using hbit
  rw[e]at s2
  simp only[Int.natCast_zero,Int.natCast_one,Int.ofNat_eq_natCast]at s2
  rw[←List.append_nil h]
  simp only[go_sem,s1,s2]
  exact⟨rfl,[],by simp⟩
def oA(d:aQ)(s:aF)(i:Nat):Int:=if s.planes.getD i 0=(d.planes.getD i ⟨0,0,0,0,0⟩).home then 0 else(d.planes.getD i ⟨0,0,0,0,0⟩).away
def kQ(d:aQ)(s:aF)(i:Nat):Int:=
 if s.people.getD i 0=(d.people.getD i ⟨0,0,0,0,0⟩).to then 0 else
 if(d.places.getD (s.people.getD i 0).toNat ⟨0,false⟩).lodge then(d.people.getD i ⟨0,0,0,0,0⟩).lodged else(d.people.getD i ⟨0,0,0,0,0⟩).strand
def fR(f:Nat→Int):Nat→Int
 | 0=>0
 | n+1=>fR f n+f n
theorem xF{f:Nat→Int}{b:Int}(hb:0≤b)(hf:∀i,0≤f i∧f i≤b):∀n:Nat,0≤fR f n∧fR f n≤n*b
 | 0=>by simp[fR]
 | n+1=>by
  have h1:=xF hb hf n
  have h2:=hf n
  have h3:((n+1:Nat):Int)*b=n*b+b:=by rw[Int.natCast_add,Int.add_mul]; simp
  rw[fR,h3]; omega
def aJW(d:aQ)(s:aF):Int:=fR (oA d s) d.planes.length+fR (kQ d s) d.people.length
theorem cost_c(d:aQ)(v:cU)(m:AV)(i:Nat)(s:aF)(sv:StV)(hD:rL w0 h d v m i)(hs:StS w0 h s sv)(sk:nB d s)(ba:∀i,0≤oA d s i∧oA d s i≤1000000)(bl:∀i,0≤kQ d s i∧kQ d s i≤1000000)(pat:∀x∈s.people,0≤x∧x<d.places.length) :
 aK Tryz.prog w0 69 [.ptr (.own i 0),.agg (stC sv)] h (.int .i64 (aJW d s)) h:=by
 refine aM mf69_k fun hb ha=> ?_
 have p1:=Sl.one hs.planes.s
 have p2:=Sl.one hs.legs.s
 have p3:=Sl.one hs.people.s
 have bd:∀L,(h++L)[i]? = some (some (.row (aX v++[m]))):=fun L=>aA hD.hd
 have ln1:dA v.pn=some (.int .i64 d.planes.length):=by simpa using hD.R.planes.use.1
 have ln2:dA v.pe=some (.int .i64 d.people.length):=by simpa using hD.R.people.use.1
 have dl:=hD.dl
 have dp:=hD.pl
 have vb:=hD.R.planes.bdd (show h.length≤h.length+1 by omega)
 have vb0:=hD.R.people.bdd (show h.length≤h.length+1 by omega)
 have vb1:=Sl.bdd hs.planes.s (show h.length≤h.length+1 by omega)
 have vb2:=Sl.bdd hs.legs.s (show h.length≤h.length+1 by omega)
 have vb3:=Sl.bdd hs.people.s (show h.length≤h.length+1 by omega)
 simp only[go_sem,mf69,p1.1,p2.1,p3.1,bd,ln1,ln2]
 refine bS (S:=Unit) (fun j _=>[(0,.ptr (.own i 0)),(3,.ptr (.own h.length 0)),(5,.int .i64 (fR (oA d s) j)),(15,v.pn),(16,.int .i64 d.planes.length),(17,.int .i64 j)]) (fun _ _=>h++[some (Blk.row [sv.pl,sv.le,sv.pe])]) (fun _ _=>True) d.planes.length () trivial rfl rfl (fun j _ hj _ ih=> ?_) (fun _ _=> ?_)
 ·refine aP [0,3,5,15,16,17] aKY.eq_1 ?_
  obtain⟨_,q,qi,qr,_⟩:=hD.R.planes.use
  have q1:=qi j (by simpa using hj)
  have q2:∀L,rdn w0 (h++L) (q.add (j*5)) 5=some (d.planes.getD j ⟨0,0,0,0,0⟩).c:=fun L=>cK (qr j _ (by rw[List.getElem?_map,qA hj,aE hj]; rfl))
  obtain⟨_,a,ai,ar⟩:=SlI.use hs.planes.s
  have hjs:j<s.planes.length:=by rw[sk.s1]; exact hj
  have a1:=ai j hjs
  have a2:=ar j hjs
  have e3:(j:Int)<d.planes.length:=by omega
  have hbd:=xF (by omega) ba j
  have hbj:=ba j
  have hil:=aD hD.hd
  have ej:oA d s j=if s.planes[j]=(d.planes.getD j ⟨0,0,0,0,0⟩).home then 0 else(d.planes.getD j ⟨0,0,0,0,0⟩).away:=by rw[oA,aE hjs]
  have en:fR (oA d s) (j+1)=fR (oA d s) j+oA d s j:=rfl
  simp only[go_sem,q1,q2,a1,a2,e3]
  have ih:=ih () trivial
  rw[en,ej]at ih
  refine⟨fun e=>⟨?_,(by unfold I64; omega),gA 1 hb (by simp[bC,bO,bT,cC,cT,bP,AV.bdds,AV.bdd,Pl.bdd,aY,vb1,vb2,vb3]) (by simp[bC,bO,bT,cC,cT,bP,AV.bdds,AV.bdd,Pl.bdd,aY,vb]; omega) ?_⟩,fun e=>⟨(by unfold I64; omega),gA 1 hb (by simp[bC,bO,bT,cC,cT,bP,AV.bdds,AV.bdd,Pl.bdd,aY,vb1,vb2,vb3]) (by simp[bC,bO,bT,cC,cT,bP,AV.bdds,AV.bdd,Pl.bdd,aY,vb]; omega) ?_⟩⟩
  ·rw[ej,if_neg e]at hbj; have:=hbd.2; constructor<;>omega
  ·rw[if_neg e]at ih; simpa using ih
  ·rw[if_pos e]at ih; simpa using ih
 ·refine aP [0,3,5,15,16,17] aKY.eq_1 ?_
  have e3:¬(d.planes.length:Int)<d.planes.length:=by omega
  simp only[go_sem,e3,bd,ln2]
  refine bS (S:=Unit) (fun j _=>[(0,.ptr (.own i 0)),(3,.ptr (.own h.length 0)),(5,.int .i64 (fR (oA d s) d.planes.length+fR (kQ d s) j)),(39,v.pe),(40,.int .i64 d.people.length),(41,.int .i64 j)]) (fun _ _=>h++[some (Blk.row [sv.pl,sv.le,sv.pe])]) (fun _ _=>True) d.people.length () trivial (by simp[fR]) rfl (fun j _ hj _ ih=> ?_) (fun _ _=> ?_)
  ·refine aP [0,3,5,39,40,41] aKX.eq_1 ?_
   obtain⟨_,q,qi,qr,_⟩:=hD.R.people.use
   have q1:=qi j (by simpa using hj)
   have q2:∀L,rdn w0 (h++L) (q.add (j*5)) 5=some (d.people.getD j ⟨0,0,0,0,0⟩).c:=fun L=>cK (qr j _ (by rw[List.getElem?_map,qA hj,aE hj]; rfl))
   obtain⟨_,a,ai,ar⟩:=SlI.use hs.people.s
   have hjs:j<s.people.length:=by rw[sk.s3]; exact hj
   have a1:=ai j hjs
   have a2:=ar j hjs
   have e4:(j:Int)<d.people.length:=by omega
   have hp:=pat _ (qG hjs)
   obtain⟨x,ex'⟩:∃x:Nat,s.people[j]=x:=⟨s.people[j].toNat,by omega⟩
   have hxl:x<d.places.length:=by omega
   obtain⟨_,p,pi,pr,_⟩:=hD.R.places.use
   have z1:=pi x (by simpa using hxl)
   have z2:∀L,rd w0 (h++L) ((p.add (x*2)).add 1)=some (.bool (d.places.getD x ⟨0,false⟩).lodge):=fun L=>by
    have:=pr x (d.places.getD x ⟨0,false⟩).c (by rw[List.getElem?_map,qA hxl,aE hxl]; rfl)
    exact fT (dG this (o:=1) rfl)
   have an:cH (.int .i64 s.people[j])=some x:=by rw[ex']; simp[cH]
   have hb1:=xF (by omega) ba d.planes.length
   have hb2:=xF (by omega) bl j
   have hbj:=bl j
   have hil:=aD hD.hd
   have ej:kQ d s j=if s.people[j]=(d.people.getD j ⟨0,0,0,0,0⟩).to then 0 else if(d.places.getD x ⟨0,false⟩).lodge then(d.people.getD j ⟨0,0,0,0,0⟩).lodged else(d.people.getD j ⟨0,0,0,0,0⟩).strand:=by rw[kQ,aE hjs,ex',Int.toNat_natCast]
   have en:fR (kQ d s) (j+1)=fR (kQ d s) j+kQ d s j:=rfl
   simp only[go_sem,q1,q2,a1,a2,e4,bd,z1,z2,an]
   have ih:=ih () trivial
   rw[en,ej]at ih
   refine⟨fun e=>⟨(by unfold I64; omega),gA 1 hb (by simp[bC,bO,bT,cC,cT,bP,AV.bdds,AV.bdd,Pl.bdd,aY,vb1,vb2,vb3]) (by simp[bC,bO,bT,cC,cT,bP,AV.bdds,AV.bdd,Pl.bdd,aY,vb0]; omega) ?_⟩,fun e=>⟨fun e'=>⟨?_,(by unfold I64; omega),gA 1 hb (by simp[bC,bO,bT,cC,cT,bP,AV.bdds,AV.bdd,Pl.bdd,aY,vb1,vb2,vb3]) (by simp[bC,bO,bT,cC,cT,bP,AV.bdds,AV.bdd,Pl.bdd,aY,vb0]; omega) ?_⟩,fun e'=>⟨?_,(by unfold I64; omega),gA 1 hb (by simp[bC,bO,bT,cC,cT,bP,AV.bdds,AV.bdd,Pl.bdd,aY,vb1,vb2,vb3]) (by simp[bC,bO,bT,cC,cT,bP,AV.bdds,AV.bdd,Pl.bdd,aY,vb0]; omega) ?_⟩⟩⟩
   ·rw[if_pos e]at ih; simpa using ih
   ·rw[ej,if_neg e,if_pos e']at hbj
    have h1:=hb1.2
    have h2:=hb2.2
    constructor<;>omega
   ·rw[if_neg e,if_pos e',←Int.add_assoc]at ih; simpa using ih
   ·have e2:¬(d.places.getD x ⟨0,false⟩).lodge=true:=by rw[e']; simp
    rw[ej,if_neg e,if_neg e2]at hbj
    have h1:=hb1.2
    have h2:=hb2.2
    constructor<;>omega
   ·have e2:¬(d.places.getD x ⟨0,false⟩).lodge=true:=by rw[e']; simp
    rw[if_neg e,if_neg e2,←Int.add_assoc]at ih; simpa using ih
  ·refine aP [0,3,5,39,40,41] aKX.eq_1 ?_
   have e4:¬(d.people.length:Int)<d.people.length:=by omega
   simp only[go_sem,e4]
   rfl
end Go.Proofs.Ab
namespace Go.Proofs.Ab
open Go Go.Proofs
def wAt(d:aQ)(w t:Nat):Int:=(d.weathers.getD w []).getD t 0
def aL(d:aQ):Nat:=(d.weathers.headD []).length
def fV(d:aQ)(left slot w:Nat):Nat→Nat
 | 0=>0
 | v+1=>if bN left v&&decide (wAt d v slot=wAt d w slot)then fV d left slot w v ||| 2^v else fV d left slot w v
def cQ(d:aQ)(ws slot:Nat):Nat→Nat×List Nat
 | 0=>(ws,[])
 | w+1=>
  let st:=cQ d ws slot w
  if bN st.1 w then(st.1 ^^^ (st.1 &&& fV d st.1 slot w d.weathers.length),st.2++[fV d st.1 slot w d.weathers.length])else st
def eS(d:aQ)(ws slot:Nat):List Nat:=(cQ d ws slot d.weathers.length).2
def iK(ws:Nat):Nat→Nat
 | 0=>0
 | n+1=>if bN ws 0 then 0 else iK (ws / 2) n+1
def canB(d:aQ)(s:aF)(op:Int)(plane to:Nat):Bool:=
 jD d (s.planes.getD plane 0) to&&(bN op.toNat (s.planes.getD plane 0).toNat&&bN op.toNat to)&&decide (s.legs.getD plane 0<(d.planes.getD plane ⟨0,0,0,0,0⟩).duty)
def aD5(d:aQ)(s:aF)(at_:Int)(n:Nat)(seats:Int)(gone:Nat):Bool:=
 decide (s.people.getD n 0=at_) && !bN gone n&&decide ((d.people.getD n ⟨0,0,0,0,0⟩).seats≤seats)
def oU(d:aQ)(s:aF)(at_ to:Int):Nat→List Int→Int→Nat→List (aH×Nat)
 | 0,_,_,_=>[]
 | k+1,l,seats,gone=>
  let n:=d.people.length - (k+1)
  (if aD5 d s at_ n seats gone then(⟨to,l++[(n:Int)]⟩,gone ||| 2^n)::oU d s at_ to k (l++[(n:Int)]) (seats - (d.people.getD n ⟨0,0,0,0,0⟩).seats) (gone ||| 2^n)else [])++oU d s at_ to k l seats gone
def aCB(d:aQ)(s:aF)(at_ to:Int)(k:Nat)(l:List Int)(seats:Int)(gone:Nat):List (aH×Nat):=(⟨to,l⟩,gone)::oU d s at_ to k l seats gone
def gK(d:aQ)(s:aF)(op:Int)(plane gone:Nat):Nat→List (aH×Nat)
 | 0=>[]
 | k+1=>
  let to:=d.places.length - (k+1)
  (if canB d s op plane to then aCB d s (s.planes.getD plane 0) to d.people.length [] (d.planes.getD plane ⟨0,0,0,0,0⟩).seats gone else [])++gK d s op plane gone k
def kD(d:aQ)(s:aF)(op:Int)(plane gone:Nat):List (aH×Nat):=(⟨-1,[]⟩,gone)::gK d s op plane gone d.places.length
def gD(d:aQ)(s:aF)(op:Int):Nat→Nat→List aH→List (List aH×aF)
 | 0,_,u=>if(eJ d s op u).2.1=1 then [(u,(eJ d s op u).1)]else []
 | k+1,gone,u=>(kD d s op (d.planes.length - (k+1)) gone).flatMap fun x=>gD d s op k x.2 (u++[x.1])
def fD(d:aQ)(s:aF)(op:Int):List (List aH×aF):=gD d s op d.planes.length 0 []
def uG(next:aF→Int)(b:Int)(x:List aH×aF):Int:=if b<0||decide (next x.2<b)then next x.2 else b
def yY(d:aQ)(next:Nat→aF→Int)(slot g:Nat)(s:aF):Int:=(fD d s (wAt d (iK g d.weathers.length) slot)).foldl (uG (next g)) (-1)
def cX(d:aQ):Nat→Nat→aF→Int
 | 0,_,s=>aJW d s
 | k+1,ws,s=>(eS d ws (aL d - (k+1))).foldl (fun m g=>max m (yY d (cX d k) (aL d - (k+1)) g s)) 0
def eP(d:aQ)(k slot g:Nat)(s:aF):Int:=yY d (cX d k) slot g s
abbrev gC:=List (List (List aH))
def mK(g:Nat)(u:List aH)(out:gC):Nat→gC
 | 0=>out
 | w+1=>if bN g w then(mK g u out w).set w ((mK g u out w).getD w []++[u])else mK g u out w
def iL(d:aQ):Nat→Nat→aF→gC→gC
 | 0,_,_,out=>out
 | k+1,ws,s,out=>(eS d ws (aL d - (k+1))).foldl (fun out g=>
  match(fD d s (wAt d (iK g d.weathers.length) (aL d - (k+1)))).find? fun x=> !decide (eP d k (aL d - (k+1)) g s<cX d k g x.2)with
  | none=>out
  | some x=>iL d k g x.2 (mK g x.1 out d.weathers.length)) out
def bV(d:aQ):aF:=⟨d.planes.map (·.at_),List.replicate d.planes.length 0,d.people.map (·.at_)⟩
def nA(d:aQ):gC×Int:=
 (iL d (aL d) (2^d.weathers.length - 1) (bV d) (List.replicate d.weathers.length []),cX d (aL d) (2^d.weathers.length - 1) (bV d))
end Go.Proofs.Ab
namespace Go.Proofs.Ab
open Go Go.Proofs
variable {w0:World} {h:Heap}
attribute [local irreducible] ACall bE cR aK bI rvC lp rg dr ex un rv
def SlN(h:Heap)(v:AV)(l:List Int):Prop:=(l=[]∧v= .nilS)∨(l≠[]∧∃id f,v= .sl (.own id 0) l.length 1 f∧h[id]? = some (some (.row (aN l))))
theorem SlN.sub{H:Heap}{v:AV}{l:List Int}(a:SlN h v l)(t:aB h H):SlN H v l:=by
 rcases a with a | ⟨a,id,f,e1,e2⟩
 ·exact .inl a
 ·exact .inr ⟨a,id,f,e1,t.2 _ _ e2⟩
theorem SlN.nil:SlN h .nilS []:= .inl ⟨rfl,rfl⟩
theorem SlN.s{v:AV}{l:List Int}(a:SlN h v l):SlI w0 h v l:=by
 rcases a with⟨rfl,rfl⟩ | ⟨hl,id,f,rfl,hk⟩
 ·exact .inl ⟨rfl,rfl⟩
 ·have:=fY (w0:=w0) (H:=h) (full:=f) (io:=id) (rows:=l.map fun z=>[AV.int .i64 z]) (es:=1) (by rw[←fQ]; exact hk) (fun c hc=>by obtain⟨x,_,rfl⟩:=List.mem_map.1 hc; rfl)
  simpa[SlI]using this
theorem SlN.own{H:Heap}{k:Nat}{l:List Int}{f:Bool}(hk:H[k]? = some (some (.row (aN l))))(hl:l≠[]):SlN H (.sl (.own k 0) l.length 1 f) l:= .inr ⟨hl,k,f,rfl,hk⟩
def aHB:AV→AV
 | .sl p n es _=> .sl (p.add 0) n es true
 | v=>v
theorem SlN.cap{v:AV}{l:List Int}(a:SlN h v l){fr:Fr}{hi mx:Opd}(e1:cH (hi.ev fr)=some l.length)(e2:cH (mx.ev fr)=some l.length):aAg 1 fr v none (some hi) (some mx)=some (aHB v):=by
 rcases a with⟨rfl,rfl⟩ | ⟨hl,id,f,rfl,hk⟩
 ·simp[aAg,aAZ,e1,e2,bdK,aHB]
 ·simp[aAg,aAZ,e1,e2,bdK,aHB,fH,fW]
theorem SlN.more{v:AV}{l:List Int}(a:SlN h v l){L:Heap}{n:Int}{k:Nat}{f:Bool}(hk:(h++L)[k]? = some (some (.row [.int .i64 n])))(hl:l.length<1000000) :
 eD w0 (h++L) 1 8 (aHB v) (.sl (.own k 0) 1 1 f)=some (.sl (.own (h.length+L.length) 0) (l.length+1) 1 false,h++(L++[some (.row (aN (l++[n])))])):=by
 have hr:rdn w0 (h++L) (.own k 0) (1*1)=some [.int .i64 n]:=by simp[rdn,hk]
 rcases a with⟨rfl,rfl⟩ | ⟨hl0,id,f',rfl,hk'⟩
 ·simp[eD,srcOf,fH,hr,aHB,mN,aN,one]
 ·have hr2:rdn w0 (h++L) (.own id 0) (l.length*1)=some (aN l):=by
   have:(h++L)[id]? = some (some (.row (aN l))):=aA hk'
   simp only[rdn,this]
   rw[if_pos (by simp)]
   simp[List.take_of_length_le]
  rw[Nat.mul_one]at hr2
  have hb:(l.length+1)*(8+1)≤2^40:=by omega
  simp[eD,srcOf,fH,hr,aHB,mN,one,Pl.add,hr2]
  refine⟨by omega,?_⟩
  simp[aN]
def aFm(w0:World)(C:List Nat)(x:aH×Nat)(H:Heap)(args:List AV):Prop:=∃pv,args=[.agg [.int .i64 x.1.to,pv],.int .i64 (x.2:Int)]∧SlN (msk C H) pv x.1.people
structure MoB where
 by_:Nat
 bt:Nat
 bd:Nat
 bs:Nat
 ba:Nat
 bm:Nat
def MoB.args(b:MoB):List AV:=[.ptr (.own b.by_ 0),.ptr (.own b.bt 0),.ptr (.own b.bd 0),.ptr (.own b.bs 0),.ptr (.own b.ba 0),.ptr (.own b.bm 0)]
structure MoI(w0:World)(C:List Nat)(d:aQ)(v:cU)(m:AV)(i:Nat)(s:aF)(sv:StV)(q:Nat)(at_ to:Int)(b:MoB)(H:Heap):Prop where
 b1:(msk C H)[b.by_]? = some (some (.row [.yld q]))
 b2:(msk C H)[b.bt]? = some (some (.row [.int .i64 to]))
 b3:(msk C H)[b.bd]? = some (some (.row [.ptr (.own i 0)]))
 b4:(msk C H)[b.bs]? = some (some (.row (stC sv)))
 b5:(msk C H)[b.ba]? = some (some (.row [.int .i64 at_]))
 b6:(msk C H)[b.bm]? = some (some (.row [.fn (.func 166) [] b.args]))
 hD:rL w0 (msk C H) d v m i
 hs:StS w0 (msk C H) s sv
section
variable {C:List Nat} {d:aQ} {v:cU} {m:AV} {i:Nat} {s:aF} {sv:StV} {q:Nat} {at_ to:Int} {b:MoB} {H H':Heap}
theorem rL.sub(a:rL w0 H d v m i)(t:aB H H'):rL w0 H' d v m i:=⟨t.2 _ _ a.hd,a.R.sub t,a.dl,a.pl,a.sb⟩
theorem MoI.keep(a:MoI w0 C d v m i s sv q at_ to b H)(t:Keep C H H'):MoI w0 C d v m i s sv q at_ to b H':=by
 have hs:=t.msk (ms:=C) fun i hi=> .inl hi
 exact⟨hs.2 _ _ a.b1,hs.2 _ _ a.b2,hs.2 _ _ a.b3,hs.2 _ _ a.b4,hs.2 _ _ a.b5,hs.2 _ _ a.b6,a.hD.sub hs,a.hs.sub hs⟩
end
theorem qK{g n:Nat}:(((g / 2^n % 2:Nat):Int)==1)=bN g n:=by
 rw[Bool.eq_iff_iff,bN,beq_iff_eq,decide_eq_true_iff]; omega
theorem aIR{g n k:Nat}(hg:g<2^k)(hn:n<k):g ||| 2^n<2^k:=Nat.or_lt_two_pow hg (Nat.pow_lt_pow_right (by omega) hn)
theorem more_c(C:List Nat)(d:aQ)(v:cU)(m:AV)(i:Nat)(s:aF)(sv:StV)(q:Nat)(at_ to:Int)(b:MoB)(K:Heap→Prop)(sk:nB d s) :
 ∀(k:Nat) (l:List Int) (lv:AV) (seats:Int) (gone:Nat) (r:List (aH×Nat)) (h:Heap),(∀i∈C,i<h.length)→k≤d.people.length→l.length+k≤d.people.length→(0≤seats∧seats≤1000)→gone<2^4→SlN (msk C h) lv l→MoI w0 C d v m i s sv q at_ to b h →
  dC Tryz.prog w0 q C (aFm w0 C) (· = []) K (aCB d s at_ to k l seats gone++r) [] h →
  ACall Tryz.prog w0 166 ([lv,.int .i64 ((d.people.length - k:Nat):Int),.int .i64 seats,.int .i64 (gone:Int)]++b.args) h fun y H=>Keep C h H∧IterR Tryz.prog w0 q C (aFm w0 C) (· = []) K r y [] H:=by
 intro k
 induction k using Nat.strongRecOn with
 | ind k ihk=>
  intro l lv seats gone r h hCl hk hlk hse hg hl hM hI
  refine aO aMQ fun hb ha=> ?_
  have un1:=bD (ms:=C) (A:=h)
  have c1:∀L,(h++L)[b.by_]? = some (some (.row [.yld q])):=fun L=>aA (un1.2 _ _ hM.b1)
  have c2:∀L,(h++L)[b.bt]? = some (some (.row [.int .i64 to])):=fun L=>aA (un1.2 _ _ hM.b2)
  have hg62:gone<2^62:=by omega
  have dl:=hM.hD.dl
  have hl1:=(hl.sub un1).s (w0:=w0)
  have ol:=Sl.one hl1
  simp only[go_sem,mf166,MoB.args,c1,c2,ol.2]
  refine aJ (dC.call hI aB.refl.app.toK [] rfl (fun i hi=>by cases hi) (fun i hi=>by cases hi) ⟨lv,rfl,hl.sub nT⟩) ?_
  rintro y H1 ⟨k1,r1⟩
  rw[List.append_nil]at k1
  rcases r1 with⟨rfl,it⟩ | ⟨rfl,kk⟩
  rotate_left
  ·simp only[go_sem]
   exact⟨k1,.inr ⟨rfl,kk⟩⟩
  simp only[go_sem]
  refine fF (S:=Nat×Heap) (F:=fun t=>[(0,lv),(2,.int .i64 seats),(3,.int .i64 (gone:Int)),(6,.ptr (.own b.bd 0)),(7,.ptr (.own b.bs 0)),(8,.ptr (.own b.ba 0)),(9,.ptr (.own b.bm 0)),(15,.int .i64 ((d.people.length - t.1:Nat):Int))])
   (H:=fun t=>t.2) (meas:=fun t=>t.1) (Inv:=fun t=>t.1≤k∧Keep C h t.2∧dC Tryz.prog w0 q C (aFm w0 C) (· = []) K (oU d s at_ to t.1 l seats gone++r) [] t.2) (k,H1) ⟨Nat.le_refl _,k1,it⟩ rfl rfl ?_
  rintro⟨k',H⟩ ⟨hk',kp,it⟩ ih
  simp only at hk' kp it ih ⊢
  have hM':=hM.keep kp
  have un2:=bD (ms:=C) (A:=H)
  have c3:∀L,(H++L)[b.bd]? = some (some (.row [.ptr (.own i 0)])):=fun L=>aA (un2.2 _ _ hM'.b3)
  have c4:∀L,(H++L)[b.bs]? = some (some (.row (stC sv))):=fun L=>aA (un2.2 _ _ hM'.b4)
  have c5:∀L,(H++L)[b.ba]? = some (some (.row [.int .i64 at_])):=fun L=>aA (un2.2 _ _ hM'.b5)
  have c6:∀L,(H++L)[b.bm]? = some (some (.row [.fn (.func 166) [] b.args])):=fun L=>aA (un2.2 _ _ hM'.b6)
  have ci:∀L,(H++L)[i]? = some (some (.row (aX v++[m]))):=fun L=>aA (un2.2 _ _ hM'.hD.hd)
  have c3':=c3 []
  have c4':=c4 []
  have c5':=c5 []
  have c6':=c6 []
  have ci':=ci []
  rw[List.append_nil]at c3' c4' c5' c6' ci'
  have lnp:dA v.pe=some (.int .i64 d.people.length):=by simpa using(hM'.hD.R.people.use).1
  refine aP [0,2,3,6,7,8,9,15] aEW.eq_1 ?_
  cases k' with
  | zero=>
   have e1:¬((d.people.length - 0:Nat):Int)<d.people.length:=by omega
   simp only[go_sem,c3',ci',lnp,e1]
   exact⟨kp,.inl ⟨rfl,it⟩⟩
  | succ k'=>
   obtain⟨n,en⟩:∃n,n=d.people.length - (k'+1):=⟨_,rfl⟩
   have en':((d.people.length - k':Nat):Int)=(n:Int)+1:=by omega
   have hnl:n<d.people.length:=by omega
   have hns:n<s.people.length:=by rw[sk.s3]; exact hnl
   rw[oU,←en]at it
   rw[←en]
   have e1:(n:Int)<d.people.length:=by omega
   obtain⟨_,a,ai,ar⟩:=SlI.use (hM'.hs.people.s)
   obtain⟨_,a',ai',ar'⟩:=SlI.use (hM'.hs.sub un2).people.s
   have a1:=ai' n hns
   have a2:=ar' n hns
   have a2':=a2 []
   rw[List.append_nil]at a2'
   have s1:=jV (a:=gone) (n:=n) (by omega)
   have s2:=kM (a:=gone / 2^n) (Nat.lt_of_le_of_lt (Nat.div_le_self _ _) hg62)
   obtain⟨_,p,pi,pr,pb⟩:=(hM'.hD.sub un2).R.people.use
   have q1:=pi n (by simpa using hnl)
   have q2:∀L,rd w0 (H++L) ((p.add (n*5)).add 2)=some (.int .i64 (d.people.getD n ⟨0,0,0,0,0⟩).seats):=fun L=>by
    have:=pr n (d.people.getD n ⟨0,0,0,0,0⟩).c (by rw[List.getElem?_map,qA hnl,aE hnl]; rfl)
    exact fT (dG this (o:=2) rfl)
   have q2':=q2 []
   rw[List.append_nil]at q2'
   have sb:0≤(d.people.getD n ⟨0,0,0,0,0⟩).seats∧(d.people.getD n ⟨0,0,0,0,0⟩).seats≤1000:=by rw[aE hnl]; exact hM.hD.sb _ (qG hnl)
   have egn:s.people.getD n 0=s.people[n]:=aE hns
   have skip:aD5 d s at_ n seats gone=false→lp Tryz.prog w0 none 90 h.length (resK w0 [RV.t 14] fun y H=>Keep C h H∧IterR Tryz.prog w0 q C (aFm w0 C) (· = []) K r y [] H) aEW [It.inBlk 0,It.code ((SC.reg [MIx.op (some 14) none (MOp.mov (Opd.k (AV.bool true)))]).seq SC.ret)]
    [(0,lv),(2,.int .i64 seats),(3,.int .i64 (gone:Int)),(6,.ptr (.own b.bd 0)),(7,.ptr (.own b.bs 0)),(8,.ptr (.own b.ba 0)),(9,.ptr (.own b.bm 0)),(15,.int .i64 ((n:Int)+1))] H:=fun em=>by
    have:=ih (k',H) ⟨by simp only; omega,kp,by simpa[em]using it⟩ (by simp only; omega)
    simpa only[en']using this
   by_cases hA:s.people[n]=at_
   ·cases hB:bN gone n with
    | true=>
     simp only[go_sem,c3',c4',c5',ci',lnp,e1,a1,a2',hA,s1,s2,qK,hB,bne_self_eq_false]
     exact⟨(by unfold I64; omega),skip (by simp[aD5,hB])⟩
    | false=>
     by_cases hC:(d.people.getD n ⟨0,0,0,0,0⟩).seats≤seats
     ·have hC':¬seats<(d.people.getD n ⟨0,0,0,0,0⟩).seats:=by omega
      simp only[go_sem,c3',c4',c5',ci',lnp,e1,a1,a2',hA,s1,s2,qK,hB,bne_self_eq_false,q1,q2',hC']
      have hlH:=(hl.sub (kp.msk (ms:=C) fun i hi=> .inl hi)).sub un2
      have hcap:=fun fr hi mx=>hlH.cap (fr:=fr) (hi:=hi) (mx:=mx)
      have hln:dA lv=some (.int .i64 l.length):=(SlI.use (hlH.s (w0:=w0))).1
      have hmore:=fun f=>hlH.more (w0:=w0) (L:=[some (.row [.int .i64 (n:Int)])]) (n:=(n:Int)) (k:=H.length) (f:=f) (by simp) (by omega)
      have s3:=nY (n:=n) (by omega)
      have s4:=aKg (a:=gone) (b:=2^n) hg62 (Nat.pow_lt_pow_right (by omega) (show n<62 by omega))
      have hil:=aD ci'
      have hbd:=aD c3'
      refine iS dE [0,1,2,3,4,5,6,7,8,9,10,11,12,13,14,15,16,17,18,19,20,21,22,23,24,25,26,27,28] [o_ 61 (l_ 9),o_ 62 (m_ 0),o_ 63 (m_ 0),o_ 64 (.len (.t 63)),o_ 65 (m_ 0),o_ 66 (.len (.t 65)),o_ 67 (.slc 1 (.t 62) none (some (.t 64)) (some (.t 66))),o_ 68 (m_ 15),o_ 69 (.bslice 1 [(.int .i64 0)] 1 [(0,1,(.t 68))]),o_ 70 (.app 1 [(.int .i64 0)] 8 (.t 67) (.t 69))] [([(0,o_ 61 (l_ 9))],[o_ 71 (m_ 15),o_ 72 (.bin .add (.t 71) (i_ 1)),o_ 73 (m_ 2),o_ 74 (l_ 6),o_ 75 (.nilck (.t 74)),o_ 76 (.addr (.t 75) 0),o_ 77 (.addr (.t 76) 3),o_ 78 (l_ 77),o_ 79 (m_ 15),o_ 80 (.idxs 5 (.t 78) (.t 79)),o_ 81 (.addr (.t 80) 2),o_ 82 (l_ 81),o_ 83 (.bin .sub (.t 73) (.t 82)),o_ 84 (m_ 3),o_ 85 (m_ 15),o_ 86 (.bin .shl (i_ 1) (.t 85)),o_ 87 (.bin .or (.t 84) (.t 86)),.call (some 88) none (.t 61) [(.t 70),(.t 72),(.t 83),(.t 87)],o_ 89 (.un .not (.t 88))])] rfl rfl (by kernel_rfl) ?_
      have wq:=cZ (n:=seats - (d.people.getD n ⟨0,0,0,0,0⟩).seats) (by unfold I64; omega)
      simp only[go_sem,c3,c4,c5,c6,ci,c3',c6',ci',hln,hcap,hmore,q1,q2,s3,s4,wq]
      obtain⟨H2,eH2⟩:∃H2,H2=H++[some (Blk.row [.int .i64 (n:Int)]),some (Blk.row (aN (l++[(n:Int)])))]:=⟨_,rfl⟩
      have hs2:aB H H2:=by rw[eH2]; exact aB.refl.app
      have hlen:=kp.le
      have hmk:∀c∈C,c<H.length:=fun c hc=>by have:=hCl c hc; omega
      have hem:aD5 d s at_ n seats gone=true:=by simp only[aD5,egn,hA,hB,hC,decide_true,Bool.not_false,Bool.and_true]
      rw[hem]at it
      have it2:=it.keep (H2:=H2) hs2.toK
      have hl2:SlN (msk C H2) (.sl (.own (H.length+1) 0) (l.length+1) 1 false) (l++[(n:Int)]):=by
       have:(msk C H2)[H.length+1]? = some (some (.row (aN (l++[(n:Int)])))):=by
        rw[aT (fun hc=>by have:=hmk _ hc; omega),eH2]; simp
       have:=SlN.own (f:=false) this (by simp)
       simpa using this
      have hc:=ihk k' (by omega) (l++[(n:Int)]) (.sl (.own (H.length+1) 0) (l.length+1) 1 false) (seats - (d.people.getD n ⟨0,0,0,0,0⟩).seats) (gone ||| 2^n) (oU d s at_ to k' l seats gone++r) H2
       (fun c hc=>by have:=hmk c hc; have:=hs2.1; omega) (by omega) (by simp; omega) ⟨by omega,by omega⟩ (aIR hg (by omega)) hl2 (hM'.keep hs2.toK) (by simpa[aCB]using it2)
      rw[en']at hc
      rw[←eH2]
      refine⟨(by unfold I64; omega),?_⟩
      refine aJ (ACall.vc (first:=[]) (args:=[_,_,_,_]) (by simpa using hc)) ?_
      rintro y H3 ⟨k3,r3⟩
      have kp3:Keep C h H3:=(kp.trans hs2.toK).trans k3
      rcases r3 with⟨rfl,it3⟩ | ⟨rfl,kk3⟩
      ·simp only[go_sem]
       refine⟨(by unfold I64; omega),?_⟩
       have:=ih (k',H3) ⟨by simp only; omega,kp3,it3⟩ (by simp only; omega)
       simpa only[en']using this
      ·simp only[go_sem]
       exact⟨kp3,.inr ⟨rfl,kk3⟩⟩
     ·have hC':seats<(d.people.getD n ⟨0,0,0,0,0⟩).seats:=by omega
      simp only[go_sem,c3',c4',c5',ci',lnp,e1,a1,a2',hA,s1,s2,qK,hB,bne_self_eq_false,q1,q2',hC']
      exact⟨(by unfold I64; omega),skip (by simp only[aD5,hC,decide_false,Bool.and_false])⟩
   ·have hA':(s.people[n]!=at_)=true:=by simp[hA]
    simp only[go_sem,c3',c4',c5',ci',lnp,e1,a1,a2',hA']
    exact⟨(by unfold I64; omega),skip (by simp only[aD5,egn,hA,decide_false,Bool.false_and])⟩
structure FtB where
 bd:Nat
 bs:Nat
 bo:Nat
 bp:Nat
 bg:Nat
def FtB.args(b:FtB):List AV:=[.ptr (.own b.bg 0),.ptr (.own b.bs 0),.ptr (.own b.bp 0),.ptr (.own b.bd 0),.ptr (.own b.bo 0)]
structure FtI(w0:World)(C:List Nat)(d:aQ)(v:cU)(m:AV)(i:Nat)(s:aF)(sv:StV)(op:Int)(plane gone:Nat)(b:FtB)(H:Heap):Prop where
 b1:(msk C H)[b.bd]? = some (some (.row [.ptr (.own i 0)]))
 b2:(msk C H)[b.bs]? = some (some (.row (stC sv)))
 b3:(msk C H)[b.bo]? = some (some (.row [.int .i64 op]))
 b4:(msk C H)[b.bp]? = some (some (.row [.int .i64 (plane:Int)]))
 b5:(msk C H)[b.bg]? = some (some (.row [.int .i64 (gone:Int)]))
 hD:rL w0 (msk C H) d v m i
 hs:StS w0 (msk C H) s sv
theorem FtI.keep{C:List Nat}{d:aQ}{v:cU}{m:AV}{i:Nat}{s:aF}{sv:StV}{op:Int}{plane gone:Nat}{b:FtB}{H H':Heap}(a:FtI w0 C d v m i s sv op plane gone b H)(t:Keep C H H'):FtI w0 C d v m i s sv op plane gone b H':=by
 have hs:=t.msk (ms:=C) fun i hi=> .inl hi
 exact⟨hs.2 _ _ a.b1,hs.2 _ _ a.b2,hs.2 _ _ a.b3,hs.2 _ _ a.b4,hs.2 _ _ a.b5,a.hD.sub hs,a.hs.sub hs⟩
theorem aBF{o a t:Nat}:(((((o / 2^a &&& o / 2^t) % 2:Nat):Int))==0)= !(bN o a&&bN o t):=by
 rw[←aDe]
 rcases Nat.mod_two_eq_zero_or_one (o / 2^a &&& o / 2^t)with e | e<;>rw[e]<;>rfl
theorem aHe(C:List Nat)(d:aQ)(v:cU)(m:AV)(i:Nat)(s:aF)(sv:StV)(q:Nat)(op:Int)(plane gone:Nat)(b:FtB)(K:Heap→Prop)(sk:nB d s)(hp:plane<d.planes.length)(ps:∀p∈d.planes,0≤p.seats∧p.seats≤1000)(o1:0≤op)(o2:op<2^50)
 (hCl:∀i∈C,i<h.length) (hg:gone<2^4) (hF:FtI w0 C d v m i s sv op plane gone b h) (hI:dC Tryz.prog w0 q C (aFm w0 C) (· = []) K (kD d s op plane gone) [] h) :
 ACall Tryz.prog w0 164 (.yld q::b.args) h fun _ H=>K H:=by
 refine aO aMS fun hb ha=> ?_
 have un1:=bD (ms:=C) (A:=h)
 have c1:∀L,(h++L)[b.bd]? = some (some (.row [.ptr (.own i 0)])):=fun L=>aA (un1.2 _ _ hF.b1)
 have c2:∀L,(h++L)[b.bs]? = some (some (.row (stC sv))):=fun L=>aA (un1.2 _ _ hF.b2)
 have c3:∀L,(h++L)[b.bo]? = some (some (.row [.int .i64 op])):=fun L=>aA (un1.2 _ _ hF.b3)
 have c4:∀L,(h++L)[b.bp]? = some (some (.row [.int .i64 (plane:Int)])):=fun L=>aA (un1.2 _ _ hF.b4)
 have c5:∀L,(h++L)[b.bg]? = some (some (.row [.int .i64 (gone:Int)])):=fun L=>aA (un1.2 _ _ hF.b5)
 simp only[go_sem,mf164,FtB.args,c1,c2,c3,c4,c5]
 refine aJ (dC.call hI aB.refl.app.toK [] rfl (fun i hi=>by cases hi) (fun i hi=>by cases hi) ⟨.nilS,rfl,SlN.nil⟩) ?_
 rintro y H1 ⟨k1,r1⟩
 have hly:(h++[some (Blk.row [AV.yld q])])[h.length]? = some (some (.row [.yld q])):=by simp
 have kh:Keep C h H1:=aB.refl.app.toK.trans k1
 have hyC:h.length∉C:=fun hc=>by have:=hCl _ hc; omega
 have hy1:H1[h.length]? = some (some (.row [.yld q])):=k1.at_ _ _ hyC hly
 clear hly k1 c1 c2 c3 c4 c5
 rcases r1 with⟨rfl,it⟩ | ⟨rfl,kk⟩
 rotate_left
 ·simp only[go_sem]
  exact kk _ Keep.refl
 have hF1:=hF.keep kh
 have un2:=bD (ms:=C) (A:=H1)
 have d2:H1[b.bs]? = some (some (.row (stC sv))):=un2.2 _ _ hF1.b2
 have d4:H1[b.bp]? = some (some (.row [.int .i64 (plane:Int)])):=un2.2 _ _ hF1.b4
 have d1:∀L,(H1++L)[b.bd]? = some (some (.row [.ptr (.own i 0)])):=fun L=>aA (un2.2 _ _ hF1.b1)
 have di:∀L,(H1++L)[i]? = some (some (.row (aX v++[m]))):=fun L=>aA (un2.2 _ _ hF1.hD.hd)
 obtain⟨_,a,ai,ar⟩:=SlI.use (hF1.hs.sub un2).planes.s
 have hps:plane<s.planes.length:=by rw[sk.s1]; exact hp
 have hls:plane<s.legs.length:=by rw[sk.s2]; exact hp
 have a1:=ai plane hps
 have a2:=ar plane hps []
 rw[List.append_nil]at a2
 have hat:=sk.at_ _ (qG hps)
 obtain⟨x,ex'⟩:∃x:Nat,s.planes[plane]=x:=⟨s.planes[plane].toNat,by omega⟩
 have egp:s.planes.getD plane 0=x:=by rw[aE hps,ex']
 rw[ex']at a2
 have lnp:dA v.pl=some (.int .i64 d.places.length):=by simpa using hF1.hD.R.places.use.1
 simp only[go_sem,d2,d4,a1,a2,d1,di,lnp]
 obtain⟨H2,eH2⟩:∃H2,H2=H1++[some (Blk.row [.int .i64 (x:Int)])]:=⟨_,rfl⟩
 rw[←eH2]
 have hs12:aB H1 H2:=by rw[eH2]; exact aB.refl.app
 have hb2:H2[H1.length]? = some (some (.row [.int .i64 (x:Int)])):=by rw[eH2]; simp
 have haC:H1.length∉C:=fun hc=>by have:=hCl _ hc; have:=kh.le; omega
 refine fF (S:=Nat×Heap) (F:=fun t=>[(1,.ptr (.own b.bg 0)),(2,.ptr (.own b.bs 0)),(3,.ptr (.own b.bp 0)),(4,.ptr (.own b.bd 0)),(5,.ptr (.own b.bo 0)),(6,.ptr (.own h.length 0)),(7,.ptr (.own H1.length 0)),(25,.int .i64 (d.places.length:Int)),(26,.int .i64 ((d.places.length - t.1:Nat):Int))])
  (H:=fun t=>t.2) (meas:=fun t=>t.1) (Inv:=fun t=>t.1≤d.places.length∧Keep C H2 t.2∧dC Tryz.prog w0 q C (aFm w0 C) (· = []) K (gK d s op plane gone t.1) [] t.2) (d.places.length,H2) ⟨Nat.le_refl _,Keep.refl,it.keep hs12.toK⟩ (by simp) rfl ?_
 rintro⟨k',H⟩ ⟨hk',kp,it⟩ ih
 simp only at hk' kp it ih ⊢
 have kH:Keep C h H:=(kh.trans hs12.toK).trans kp
 have hF':=hF.keep kH
 have un3:=bD (ms:=C) (A:=H)
 have yb:∀L,(H++L)[h.length]? = some (some (.row [.yld q])):=fun L=>aA (kp.at_ _ _ hyC (hs12.2 _ _ hy1))
 have ab:∀L,(H++L)[H1.length]? = some (some (.row [.int .i64 (x:Int)])):=fun L=>aA (kp.at_ _ _ haC hb2)
 refine aP [1,2,3,4,5,6,7,25,26] aEX.eq_1 ?_
 cases k' with
 | zero=>
  have e1:¬((d.places.length - 0:Nat):Int)<d.places.length:=by omega
  simp only[go_sem,e1]
  exact it _ Keep.refl
 | succ k'=>
  obtain⟨n,en⟩:∃n,n=d.places.length - (k'+1):=⟨_,rfl⟩
  have en':((d.places.length - k':Nat):Int)=(n:Int)+1:=by omega
  have hnl:n<d.places.length:=by omega
  rw[gK,←en]at it
  rw[←en]
  have e1:(n:Int)<d.places.length:=by omega
  have f1:∀L,(H++L)[b.bd]? = some (some (.row [.ptr (.own i 0)])):=fun L=>aA (un3.2 _ _ hF'.b1)
  have f2:∀L,(H++L)[b.bs]? = some (some (.row (stC sv))):=fun L=>aA (un3.2 _ _ hF'.b2)
  have f3:∀L,(H++L)[b.bo]? = some (some (.row [.int .i64 op])):=fun L=>aA (un3.2 _ _ hF'.b3)
  have f4:∀L,(H++L)[b.bp]? = some (some (.row [.int .i64 (plane:Int)])):=fun L=>aA (un3.2 _ _ hF'.b4)
  have f5:∀L,(H++L)[b.bg]? = some (some (.row [.int .i64 (gone:Int)])):=fun L=>aA (un3.2 _ _ hF'.b5)
  have fi:∀L,(H++L)[i]? = some (some (.row (aX v++[m]))):=fun L=>aA (un3.2 _ _ hF'.hD.hd)
  have hD':=hF'.hD.sub un3
  have pl5:=hD'.R.l1
  obtain⟨o,eo⟩:∃o:Nat,op=o:=⟨op.toNat,by omega⟩
  have o62:o<2^62:=by omega
  have s1:bin .shr (.int .i64 op) (.int .i64 (n:Int))=some (.int .i64 ((o / 2^n:Nat):Int)):=by rw[eo]; exact jV (by omega)
  have s2:bin .shr (.int .i64 op) (.int .i64 (x:Int))=some (.int .i64 ((o / 2^x:Nat):Int)):=by rw[eo]; exact jV (by omega)
  have dd1:o / 2^n<2^62:=Nat.lt_of_le_of_lt (Nat.div_le_self _ _) o62
  have dd2:o / 2^x<2^62:=Nat.lt_of_le_of_lt (Nat.div_le_self _ _) o62
  have s3:=aDg dd2 dd1
  have s4:=kM (a:=o / 2^x &&& o / 2^n) (Nat.lt_of_le_of_lt Nat.and_le_left dd2)
  obtain⟨_,lq,li,lr⟩:=SlI.use (hF'.hs.sub un3).legs.s
  have l1:=li plane hls
  have l2:=lr plane hls
  obtain⟨_,p,pi,pr,_⟩:=hD'.R.planes.use
  have p1:=pi plane (by simpa using hp)
  have p2:∀L,rd w0 (H++L) ((p.add (plane*5)).add 3)=some (.int .i64 (d.planes.getD plane ⟨0,0,0,0,0⟩).duty):=fun L=>by
   have:=pr plane (d.planes.getD plane ⟨0,0,0,0,0⟩).c (by rw[List.getElem?_map,qA hp,aE hp]; rfl)
   exact fT (dG this (o:=3) rfl)
  have p3:∀L,rd w0 (H++L) ((p.add (plane*5)).add 2)=some (.int .i64 (d.planes.getD plane ⟨0,0,0,0,0⟩).seats):=fun L=>by
   have:=pr plane (d.planes.getD plane ⟨0,0,0,0,0⟩).c (by rw[List.getElem?_map,qA hp,aE hp]; rfl)
   exact fT (dG this (o:=2) rfl)
  have hlk:=fun L=>(aCE (w0:=w0) (h:=H++L) d v m (x:Int) (n:Int) (fi L) hD'.R.links.app hD'.R.l2).v
  have lgp:s.legs.getD plane 0=s.legs[plane]:=aE hls
  have skip:∀H',Keep C H2 H'→aB H H'→canB d s op plane n=false→lp Tryz.prog w0 none 77 h.length (resK w0 [] fun _ H=>K H) aEX [It.inBlk 0]
   [(1,.ptr (.own b.bg 0)),(2,.ptr (.own b.bs 0)),(3,.ptr (.own b.bp 0)),(4,.ptr (.own b.bd 0)),(5,.ptr (.own b.bo 0)),(6,.ptr (.own h.length 0)),(7,.ptr (.own H1.length 0)),(25,.int .i64 (d.places.length:Int)),(26,.int .i64 ((n:Int)+1))] H':=fun H' kk hs em=>by
   have:=ih (k',H') ⟨by simp only; omega,kk,by have:=it.keep (H2:=H') hs.toK; simpa[em]using this⟩ (by simp only; omega)
   simpa only[en']using this
  have hs0:aB H (H++[some (Blk.row [.int .i64 (n:Int)])]):=aB.refl.app
  have ecb:canB d s op plane n=(jD d (x:Int) (n:Int)&&(bN o x&&bN o n)&&decide (s.legs[plane]<(d.planes.getD plane ⟨0,0,0,0,0⟩).duty)):=by
   rw[canB,egp,lgp,eo]; simp only[Int.toNat_natCast]
  cases hA:jD d (x:Int) (n:Int)with
  | false=>
   simp only[go_sem,e1,f1,ab]
   refine aC (hlk _) ?_
   simp only[go_sem,hA]
   exact⟨(by unfold I64; omega),skip _ (kp.trans hs0.toK) hs0 (by rw[ecb,hA]; rfl)⟩
  | true=>
   cases hB:(bN o x&&bN o n)with
   | false=>
    simp only[go_sem,e1,f1,ab]
    refine aC (hlk _) ?_
    simp only[go_sem,hA,f3,ab,s1,s2,s3,s4,aBF,hB]
    exact⟨(by unfold I64; omega),skip _ (kp.trans hs0.toK) hs0 (by rw[ecb,hB]; simp)⟩
   | true=>
    by_cases hC:s.legs[plane]<(d.planes.getD plane ⟨0,0,0,0,0⟩).duty
    ·have hC':¬(d.planes.getD plane ⟨0,0,0,0,0⟩).duty≤s.legs[plane]:=by omega
     simp only[go_sem,e1,f1,ab]
     refine aC (hlk _) ?_
     simp only[go_sem,hA,f1,f2,f3,f4,fi,ab,s1,s2,s3,s4,aBF,hB,l1,l2,p1,p2,hC']
     refine aAP dE aGl.eq_1 (by kernel_rfl) ?_
     simp only[go_sem,f1,f2,f3,f4,f5,fi,ab,p1,p3]
     obtain⟨mb,emb⟩:∃mb:MoB,mb=⟨h.length,H.length,b.bd,b.bs,H1.length,H.length+1⟩:=⟨_,rfl⟩
     have eargs:mb.args=[AV.ptr (Pl.own h.length 0),AV.ptr (Pl.own H.length 0),AV.ptr (Pl.own b.bd 0),AV.ptr (Pl.own b.bs 0),AV.ptr (Pl.own H1.length 0),AV.ptr (Pl.own (H.length+1) 0)]:=by rw[emb]; rfl
     rw[←eargs]
     obtain⟨HX,eHX⟩:∃HX,HX=H++[some (Blk.row [.int .i64 (n:Int)]),some (Blk.row [.fn (.func 166) [] mb.args])]:=⟨_,rfl⟩
     rw[←eHX]
     have hsX:aB H HX:=by rw[eHX]; exact aB.refl.app
     have kX:Keep C h HX:=kH.trans hsX.toK
     have hFX:=hF.keep kX
     have hCH:∀c,h.length≤c→c∉C:=fun c hc hcc=>by have:=hCl _ hcc; omega
     have hle:=kH.le
     have hM:MoI w0 C d v m i s sv q (x:Int) (n:Int) mb HX:=by
      rw[emb]at eHX ⊢
      refine⟨?_,?_,hFX.b1,hFX.b2,?_,?_,hFX.hD,hFX.hs⟩
      ·simp only; rw[aT (hCH _ (Nat.le_refl _)),eHX]; exact yb _
      ·simp only; rw[aT (hCH _ hle),eHX]; simp
      ·simp only; rw[aT haC,eHX]; exact ab _
      ·simp only; rw[aT (hCH _ (by omega)),eHX]; simp
     have em:canB d s op plane n=true:=by rw[ecb,hA,hB]; simp only[hC,decide_true,Bool.and_true]
     rw[em,egp]at it
     have it2:=it.keep (H2:=HX) hsX.toK
     have hgs:0≤(d.planes.getD plane ⟨0,0,0,0,0⟩).seats∧(d.planes.getD plane ⟨0,0,0,0,0⟩).seats≤1000:=by rw[aE hp]; exact ps _ (qG hp)
     have hc:=more_c C d v m i s sv q (x:Int) (n:Int) mb K sk d.people.length [] .nilS (d.planes.getD plane ⟨0,0,0,0,0⟩).seats gone (gK d s op plane gone k') HX (fun c hc=>by have:=hCl c hc; have:=kX.le; omega) (Nat.le_refl _) (by simp) hgs hg SlN.nil hM (by simpa using it2)
     rw[Nat.sub_self]at hc
     refine aJ (ACall.vc (first:=[]) (args:=[_,_,_,_]) (by simpa using hc)) ?_
     rintro y H3 ⟨k3,r3⟩
     have kp3:Keep C H2 H3:=(kp.trans hsX.toK).trans k3
     rcases r3 with⟨rfl,it3⟩ | ⟨rfl,kk3⟩
     ·simp only[go_sem]
      refine⟨(by unfold I64; omega),?_⟩
      have:=ih (k',H3) ⟨by simp only; omega,kp3,it3⟩ (by simp only; omega)
      simpa only[en']using this
     ·simp only[go_sem]
      exact kk3 _ Keep.refl
    ·have hC':(d.planes.getD plane ⟨0,0,0,0,0⟩).duty≤s.legs[plane]:=by omega
     simp only[go_sem,e1,f1,ab]
     refine aC (hlk _) ?_
     simp only[go_sem,hA,f1,f2,f3,f4,fi,ab,s1,s2,s3,s4,aBF,hB,l1,l2,p1,p2,hC']
     exact⟨(by unfold I64; omega),skip _ (kp.trans hs0.toK) hs0 (by rw[ecb]; simp only[hC,decide_false,Bool.and_false])⟩
theorem aEd(i:Nat)(sv:StV)(op:Int)(plane gone:Nat)(o1:one sv.pl=true∧cellsOf sv.pl=some [sv.pl])(o2:one sv.le=true∧cellsOf sv.le=some [sv.le])(o3:one sv.pe=true∧cellsOf sv.pe=some [sv.pe]) :
 aK Tryz.prog w0 109 [.ptr (.own i 0),.agg (stC sv),.int .i64 op,.int .i64 (plane:Int),.int .i64 (gone:Int)] h
  (.fn (.func 164) [] (FtB.args ⟨h.length,h.length+1,h.length+2,h.length+3,h.length+4⟩))
  (h++[some (.row [.ptr (.own i 0)]),some (.row (stC sv)),some (.row [.int .i64 op]),some (.row [.int .i64 (plane:Int)]),some (.row [.int .i64 (gone:Int)])]):=by
 refine oC dE aBu.a aBu.b aBu.c (qE rfl) (by simp[FtB.args,AV.bdd,AV.bdds,Pl.bdd]) (fun hb=> ?_) fun hb ha=>hY ?_
 ·simp only[AV.bdds,AV.bdd,Pl.bdd,stC]at hb
  obtain⟨h1,⟨h2,h3,h4,_⟩,_⟩:=hb
  simp[bC,bO,bT,cC,cT,bP,AV.bdds,AV.bdd,Pl.bdd,aY,stC]
  exact⟨by omega,AV.bdd_mono (by omega) _ h2,AV.bdd_mono (by omega) _ h3,AV.bdd_mono (by omega) _ h4⟩
 ·simp only[go_sem,mf109,o1.2,o2.2,o3.2,o1.1,o2.1,o3.1,FtB.args]
structure xD(d:aQ)(x:aH):Prop where
 lo: -1≤x.to
 hi:x.to<d.places.length
 pp:∀n∈x.people,0≤n∧n<d.people.length
 pl:x.people.length≤d.people.length
theorem aId{d:aQ}{s:aF}{at_:Int}{to:Nat}(hd:d.people.length≤4)(hto:to<d.places.length):∀(k:Nat) (l:List Int) (seats:Int) (gone:Nat),k≤d.people.length→l.length+k≤d.people.length→(∀n∈l,0≤n∧n<d.people.length)→gone<2^4 →
 ∀x∈oU d s at_ to k l seats gone,xD d x.1∧x.2<2^4:=by
 intro k
 induction k with
 | zero=>intro l seats gone _ _ _ _ x hx; simp[oU]at hx
 | succ k ih=>
  intro l seats gone hk hlk hl hg x hx
  rw[oU]at hx
  have hn:d.people.length - (k+1)<d.people.length:=by omega
  rcases List.mem_append.1 hx with hx | hx
  ·split at hx
   ·have hl':∀n∈l++[((d.people.length - (k+1):Nat):Int)],0≤n∧n<d.people.length:=fun n hn'=>by
     rcases List.mem_append.1 hn' with hn' | hn'
     ·exact hl n hn'
     ·simp at hn'; subst hn'; omega
    rcases List.mem_cons.1 hx with rfl | hx
    ·exact⟨⟨by simp only; omega,by simp only; omega,hl',by simp; omega⟩,aIR hg (by omega)⟩
    ·exact ih _ _ _ (by omega) (by simp; omega) hl' (aIR hg (by omega)) x hx
   ·cases hx
  ·exact ih _ _ _ (by omega) (by omega) hl hg x hx
theorem wL{d:aQ}{s:aF}{op:Int}{plane gone:Nat}(hd:d.people.length≤4)(hp:0<d.places.length)(hg:gone<2^4):∀x∈kD d s op plane gone,xD d x.1∧x.2<2^4:=by
 have key:∀k,k≤d.places.length→∀x∈gK d s op plane gone k,xD d x.1∧x.2<2^4:=by
  intro k
  induction k with
  | zero=>intro _ x hx; simp[gK]at hx
  | succ k ih=>
   intro hk x hx
   rw[gK]at hx
   rcases List.mem_append.1 hx with hx | hx
   ·split at hx
    ·rw[aCB]at hx
     rcases List.mem_cons.1 hx with rfl | hx
     ·exact⟨⟨by simp only; omega,by simp only; omega,by simp,by simp⟩,hg⟩
     ·exact aId hd (by omega) _ _ _ _ (Nat.le_refl _) (by simp) (by simp) hg x hx
    ·cases hx
   ·exact ih (by omega) x hx
 intro x hx
 rw[kD]at hx
 rcases List.mem_cons.1 hx with rfl | hx
 ·exact⟨⟨by simp,by simp only; omega,by simp,by simp⟩,hg⟩
 ·exact key _ (Nat.le_refl _) x hx
structure URow(C:List Nat)(H:Heap)(iu P:Nat)(u:List aH)(rows:List (List AV)):Prop where
 hb:H[iu]? = some (some (.row rows.flatten))
 len:rows.length=P
 two:∀c∈rows,c.length=2
 one:∀c∈rows,c.all one=true
 at_:∀(j:Nat) x,u[j]? = some x→∃pv,rows[j]? = some [.int .i64 x.to,pv]∧SlN (msk C H) pv x.people
theorem aCW{rows:List (List AV)}(h:∀c∈rows,c.length=2):rows.flatten.length=rows.length*2:=by
 induction rows with
 | nil=>rfl
 | cons c rows ih=>
  rw[List.flatten_cons,List.length_append,h c List.mem_cons_self,ih fun x hx=>h x (List.mem_cons_of_mem _ hx),List.length_cons]; omega
theorem aJM{rows:List (List AV)}(h:∀c∈rows,c.length=2){j:Nat}(hj:j<rows.length){a b:AV}:rows.flatten.take (j*2)++(a::b::rows.flatten.drop (j*2+2))=(rows.set j [a,b]).flatten:=by
 induction rows generalizing j with
 | nil=>simp at hj
 | cons c rows ih=>
  have hc:=h c List.mem_cons_self
  obtain⟨x,y,rfl⟩:∃x y,c=[x,y]:=by
   match c,hc with
   | [x,y],_=>exact⟨x,y,rfl⟩
  cases j with
  | zero=>simp
  | succ j=>
   have:=ih (fun x hx=>h x (List.mem_cons_of_mem _ hx)) (j:=j) (by simpa using hj)
   rw[show(j+1)*2=j*2+1+1 by omega,show j*2+1+1+2=j*2+2+1+1 by omega]
   simp only[List.flatten_cons,List.cons_append,List.nil_append,List.take_succ_cons,List.drop_succ_cons,List.set_cons_succ,this]
theorem URow.sl{C:List Nat}{H:Heap}{iu P:Nat}{u:List aH}{rows:List (List AV)}(a:URow C H iu P u rows){f:Bool}:Sl w0 H 2 (.sl (.own iu 0) P 2 f) rows:=by
 have:=fY (w0:=w0) (H:=H) (full:=f) (io:=iu) (rows:=rows) (es:=2) a.hb a.two
 rwa [a.len]at this
theorem URow.keep{C D:List Nat}{H H':Heap}{iu P:Nat}{u:List aH}{rows:List (List AV)}(a:URow C H iu P u rows)(t:Keep D H H')(hi:iu∉D)(hD:∀i∈D,i∈C∨H.length≤i):URow C H' iu P u rows:=
 ⟨t.at_ _ _ hi a.hb,a.len,a.two,a.one,fun j x hx=>by
  obtain⟨pv,h1,h2⟩:=a.at_ j x hx
  exact⟨pv,h1,h2.sub (t.msk hD)⟩⟩
theorem URow.remask{C C':List Nat}{H H':Heap}{iu P:Nat}{u:List aH}{rows:List (List AV)}(a:URow C H iu P u rows)(hb:H'[iu]? = H[iu]?)(t:aB (msk C H) (msk C' H')):URow C' H' iu P u rows:=
 ⟨by rw[hb]; exact a.hb,a.len,a.two,a.one,fun j x hx=>by
  obtain⟨pv,h1,h2⟩:=a.at_ j x hx
  exact⟨pv,h1,h2.sub t⟩⟩
theorem URow.put{C:List Nat}{H:Heap}{iu P:Nat}{u:List aH}{rows:List (List AV)}(a:URow C H iu P u rows)(hiC:iu∈C){x:aH}{pv:AV}(hu:u.length<P)(hp:SlN (msk C H) pv x.people)(ho:Ab.one pv=true) :
 URow C (H.set iu (some (.row (rows.set u.length [.int .i64 x.to,pv]).flatten))) iu P (u++[x]) (rows.set u.length [.int .i64 x.to,pv]):=by
 have hl:=aD a.hb
 refine⟨qF hl,by rw[List.length_set,a.len],fun c hc=> ?_,fun c hc=> ?_,fun j y hy=> ?_⟩
 ·rcases List.mem_or_eq_of_mem_set hc with hc | rfl
  ·exact a.two c hc
  ·rfl
 ·rcases List.mem_or_eq_of_mem_set hc with hc | rfl
  ·exact a.one c hc
  ·simp only[List.all_cons,List.all_nil,ho,Bool.and_true]; rfl
 ·rw[uF hiC]
  by_cases e:j=u.length
  ·subst e
   simp at hy; subst hy
   exact⟨pv,qF (by rw[a.len]; exact hu),hp⟩
  ·have hj:j<u.length:=by have:=aD hy; simp at this; omega
   rw[qH hj]at hy
   obtain⟨pv',h1,h2⟩:=a.at_ j y hy
   exact⟨pv',by rw[qB (Ne.symm e)]; exact h1,h2⟩
theorem URow.less{C:List Nat}{H:Heap}{iu P:Nat}{u:List aH}{x:aH}{rows:List (List AV)}(a:URow C H iu P (u++[x]) rows):URow C H iu P u rows:=
 ⟨a.hb,a.len,a.two,a.one,fun j y hy=>a.at_ j y (by rw[qH (aD hy)]; exact hy)⟩
theorem URow.back{C D:List Nat}{H H':Heap}{iu P:Nat}{u u':List aH}{rows rows':List (List AV)}(a:URow C H iu P u rows)(a':URow D H' iu P u' rows')(e:∀j,j<u.length→rows'[j]? = rows[j]?)(t:aB (msk C H) (msk C H')):URow C H' iu P u rows':=
 ⟨a'.hb,a'.len,a'.two,a'.one,fun j x hx=>by
  obtain⟨pv,h1,h2⟩:=a.at_ j x hx
  exact⟨pv,by rw[e j (aD hx)]; exact h1,h2.sub t⟩⟩
theorem aAm.st{H:Heap}{N:Nat}{s:aF}{v:StV}{C:List Nat}(a:aAm w0 H N s v)(hC:∀i∈C,i<N):StS w0 (msk C H) s v:=by
 have key:∀ {y:AV} {l:List Int},kT w0 H N y l→SlO w0 (msk C H) y l:=fun {y l} o=>by
  have hout:∀i,N≤i→(msk C H)[i]? = H[i]? := fun i hi=>aT fun hc=>by have:=hC i hc; omega
  by_cases hl:l=[]
  ·rcases o.z hl with rfl | ⟨io,f,c,h1,rfl,h2⟩
   ·subst hl; exact⟨.inl ⟨rfl,rfl⟩,fun _=>rfl⟩
   ·subst hl
    have h3:(msk C H)[io]? = some (some (.row c)):=by rw[hout io h1]; exact h2
    exact⟨.inr ⟨.own io 0,f,⟨1,rfl,rfl⟩,aD h3,fun j c hc=>by simp at hc⟩,fun _=>by simp[srcOf,fH,rdn,h3]⟩
  ·obtain⟨io,h1,h2,h3,h4⟩:=o.b hl
   have h5:(msk C H)[io]? = some (some (.row (aN l))):=by rw[hout io h1]; exact h4
   have:=SlN.own (f:=false) h5 hl
   rw[h3]
   exact⟨this.s,fun e=>absurd e hl⟩
 exact⟨key a.p,key a.l,key a.e⟩
theorem UnV.sub{H:Heap}{v:AV}{u:List aH}(a:UnV w0 h v u)(t:aB h H):UnV w0 H v u:=NS.mono a t fun _ _ ⟨pv,e,r⟩=>⟨pv,e,Sl.sub r t⟩
def FlgtO(w0:World)(h:Heap)(x:aH)(c:List AV):Prop:=∃pv,c=[.int .i64 x.to,pv]∧SlO w0 h pv x.people
structure UnP(w0:World)(h:Heap)(v:AV)(u:List aH):Prop where
 n:NS w0 h 2 (FlgtO w0 h) v u
 e:u=[]→srcOf w0 h 2 v=some (0,[])
 nn:v≠ .nilS
theorem UnP.v{v:AV}{u:List aH}(a:UnP w0 h v u):UnV w0 h v u:=NS.mono a.n aB.refl fun _ _ ⟨pv,e,r⟩=>⟨pv,e,r.s⟩
theorem aAv{H:Heap}{v:AV}{es:Nat}{r:Nat×List AV}(e:srcOf w0 h es v=some r)(t:aB h H):srcOf w0 H es v=some r:=by
 cases v<;>simp only[srcOf]at e ⊢
 all_goals first
  | exact e
  | (split at e
     ·rename_i h1
      rw[if_pos h1]
      simp only[qD]at e ⊢
      obtain⟨x,h2,h3⟩:=e
      exact⟨x,t.rdn h2,h3⟩
     ·cases e)
  | cases e
theorem UnP.sub{H:Heap}{v:AV}{u:List aH}(a:UnP w0 h v u)(t:aB h H):UnP w0 H v u:=⟨NS.mono a.n t fun _ _ ⟨pv,e,r⟩=>⟨pv,e,r.sub t⟩,fun e=>aAv (a.e e) t,a.nn⟩
theorem SlN.o{v:AV}{l:List Int}(a:SlN h v l):SlO w0 h v l:=⟨a.s,fun e=>by
 rcases a with⟨_,rfl⟩ | ⟨h1,_⟩
 ·rfl
 ·exact absurd e h1⟩
theorem URow.unv{C:List Nat}{H:Heap}{iu:Nat}{u:List aH}{rows:List (List AV)}(a:URow (iu::C) H iu u.length u rows)(hi:iu∉C){f:Bool}:UnP w0 (msk C H) (.sl (.own iu 0) u.length 2 f) u:=by
 refine⟨⟨rows,a.len,?_,fun j x c hx hc=> ?_⟩,fun e=> ?_,by simp⟩
 ·have:(msk C H)[iu]? = some (some (.row rows.flatten)):=by rw[aT hi]; exact a.hb
  have:=fY (w0:=w0) (H:=msk C H) (full:=f) (io:=iu) (rows:=rows) (es:=2) this a.two
  rwa [a.len]at this
 ·obtain⟨pv,h1,h2⟩:=a.at_ j x hx
  rw[h1]at hc
  cases hc
  exact⟨pv,rfl,(h2.sub (lL (ms:=C) fun i hi=>List.mem_cons_of_mem _ hi)).o⟩
 ·have:(msk C H)[iu]? = some (some (.row rows.flatten)):=by rw[aT hi]; exact a.hb
  subst e
  simp[srcOf,fH,rdn,this]
def UnYV(w0:World)(C:List Nat)(x:List aH×aF)(H:Heap)(args:List AV):Prop:=∃uv nv,args=[uv,.agg (stC nv)]∧UnP w0 (msk C H) uv x.1∧StS w0 (msk C H) x.2 nv
structure PlB where
 bu:Nat
 bd:Nat
 bs:Nat
 bo:Nat
 by_:Nat
 bm:Nat
def PlB.args(b:PlB):List AV:=[.ptr (.own b.bu 0),.ptr (.own b.bd 0),.ptr (.own b.bs 0),.ptr (.own b.bo 0),.ptr (.own b.by_ 0),.ptr (.own b.bm 0)]
structure PlI(w0:World)(C:List Nat)(d:aQ)(v:cU)(m:AV)(i:Nat)(s:aF)(sv:StV)(op:Int)(q iu:Nat)(b:PlB)(H:Heap):Prop where
 b1:(msk C H)[b.bu]? = some (some (.row [.sl (.own iu 0) d.planes.length 2 true]))
 b2:(msk C H)[b.bd]? = some (some (.row [.ptr (.own i 0)]))
 b3:(msk C H)[b.bs]? = some (some (.row (stC sv)))
 b4:(msk C H)[b.bo]? = some (some (.row [.int .i64 op]))
 b5:(msk C H)[b.by_]? = some (some (.row [.yld q]))
 b6:(msk C H)[b.bm]? = some (some (.row [.fn (.func 108) [] b.args]))
 hD:rL w0 (msk C H) d v m i
 hs:StS w0 (msk C H) s sv
theorem PlI.sub{C C':List Nat}{d:aQ}{v:cU}{m:AV}{i:Nat}{s:aF}{sv:StV}{op:Int}{q iu:Nat}{b:PlB}{H H':Heap}(a:PlI w0 C d v m i s sv op q iu b H)(hs:aB (msk C H) (msk C' H')):PlI w0 C' d v m i s sv op q iu b H':=
 ⟨hs.2 _ _ a.b1,hs.2 _ _ a.b2,hs.2 _ _ a.b3,hs.2 _ _ a.b4,hs.2 _ _ a.b5,hs.2 _ _ a.b6,a.hD.sub hs,a.hs.sub hs⟩
theorem unit_c(C:List Nat)(d:aQ)(v:cU)(m:AV)(i:Nat)(s:aF)(sv:StV)(op:Int)(q iu:Nat)(b:PlB)(K:Heap→Prop)(sk:nB d s)(ps:∀p∈d.planes,0≤p.seats∧p.seats≤1000)(hp0:0<d.places.length)(o1:0≤op)(o2:op<2^50)(hiC:iu∉C) :
 ∀(k gone:Nat) (u:List aH) (r:List (List aH×aF)) (rows:List (List AV)) (O:List Nat) (h:Heap),(∀i∈iu::C,i<h.length)→(∀i∈O,i<h.length)→(iu∈O)→u.length+k=d.planes.length→gone<2^4→(∀x∈u,xD d x)→PlI w0 (iu::C) d v m i s sv op q iu b h→URow (iu::C) h iu d.planes.length u rows →
  dC Tryz.prog w0 q C (UnYV w0 C) (fun _=>True) K (gD d s op k gone u++r) O h →
  ACall Tryz.prog w0 108 ([.int .i64 (u.length:Int),.int .i64 (gone:Int)]++b.args) h fun y H=>Keep (iu::C) h H∧(∃O',(∀i∈O',i∈O∨h.length≤i)∧(∀i∈O',i<H.length)∧(∀i∈O,i∈O')∧IterR Tryz.prog w0 q C (UnYV w0 C) (fun _=>True) K r y O' H)∧∃rows',URow (iu::C) H iu d.planes.length u rows'∧∀j,j<u.length→rows'[j]? = rows[j]? := by
 intro k
 induction k with
 | zero=>
  intro gone u r rows O h hCl hOl hiO huk hg hu hP hR hI
  have hul:u.length=d.planes.length:=by omega
  refine aO aFM fun hb ha=> ?_
  have un1:=bD (ms:=iu::C) (A:=h)
  have c1:∀L,(h++L)[b.bu]? = some (some (.row [.sl (.own iu 0) d.planes.length 2 true])):=fun L=>aA (un1.2 _ _ hP.b1)
  have c2:∀L,(h++L)[b.bd]? = some (some (.row [.ptr (.own i 0)])):=fun L=>aA (un1.2 _ _ hP.b2)
  have c3:∀L,(h++L)[b.bs]? = some (some (.row (stC sv))):=fun L=>aA (un1.2 _ _ hP.b3)
  have c4:∀L,(h++L)[b.bo]? = some (some (.row [.int .i64 op])):=fun L=>aA (un1.2 _ _ hP.b4)
  have c5:∀L,(h++L)[b.by_]? = some (some (.row [.yld q])):=fun L=>aA (un1.2 _ _ hP.b5)
  rw[hul]
  simp only[go_sem,aI9,PlB.args,c1,c2,c3,c4,beq_self_eq_true]
  obtain⟨G,eG⟩:∃G,G=h++[some (Blk.row [.int .i64 (d.planes.length:Int)]),some (Blk.row [.bool false])]:=⟨_,rfl⟩
  rw[←eG]
  have hG:aB h G:=by rw[eG]; exact aB.refl.app
  have gl:G.length=h.length+2:=by rw[eG]; simp
  have gr:G[h.length+1]? = some (some (.row [.bool false])):=by rw[eG]; simp
  have huv:UnP w0 (msk C h) (.sl (.own iu 0) d.planes.length 2 true) u:=by
   rw[←hul]at hR ⊢
   exact hR.unv hiC
  have hu4:=fun x hx=>(hu x hx)
  have dl:=hP.hD.dl
  have uk:aEK d u:=⟨hul,fun x hx=>(hu x hx).hi,fun x hx=>(hu x hx).pp,fun x hx=>by have:=(hu x hx).pl; omega⟩
  have hmC:aB (msk C h) G:=bD.trans hG
  refine aJ (ACall.v4 (fly_c d v m i s sv op u _ ((hP.hD.sub un1).sub hG) ((hP.hs.sub un1).sub hG) sk (huv.sub hmC).v uk o1 o2).toA) ?_
  rintro y H1 ⟨sH,nv,rfl,st,alt⟩
  have p1:=Sl.one st.planes.s
  have p2:=Sl.one st.legs.s
  have p3:=Sl.one st.people.s
  have hH:aB h H1:=hG.trans sH
  have hHl:=sH.1
  have d1:∀L,(H1++L)[b.bu]? = some (some (.row [.sl (.own iu 0) d.planes.length 2 true])):=fun L=>aA (hH.2 _ _ (un1.2 _ _ hP.b1))
  have d5:∀L,(H1++L)[b.by_]? = some (some (.row [.yld q])):=fun L=>aA (hH.2 _ _ (un1.2 _ _ hP.b5))
  have dr:∀L,(H1++L)[h.length+1]? = some (some (.row [.bool false])):=fun L=>aA (sH.2 _ _ gr)
  have hset:∀X L,(H1++L).set (h.length+1) X=H1.set (h.length+1) X++L:=fun X L=>lR (by omega)
  have hget:∀X L,(H1.set (h.length+1) X++L)[h.length+1]? = some X:=fun X L=>by rw[qH (by rw[List.length_set]; omega),qF (by omega)]
  have hiu:=hCl iu (by simp)
  by_cases er:(eJ d s op u).2.1=1
  ·rw[gD,if_pos er]at hI
   simp only[go_sem,p1.1,p2.1,p3.1,er,bne_self_eq_false,d1,d5]
   obtain⟨HX,eHX⟩:∃HX,HX=H1++[some (Blk.row [nv.pl,nv.le,nv.pe]),some (Blk.row [.int .i64 1,.int .i64 (eJ d s op u).2.2])]:=⟨_,rfl⟩
   rw[←eHX]
   have hHX:aB H1 HX:=by rw[eHX]; exact aB.refl.app
   have hhX:aB h HX:=hH.trans hHX
   have hstv:StS w0 (msk C HX) (eJ d s op u).1 nv:=by
    rcases alt with⟨e1,e2⟩ | o
    ·rw[e1,e2]
     exact hP.hs.sub ((aB.toK (C:=C) hhX).mskm (fun i hi=> .inl (List.mem_cons_of_mem _ hi)) (fun i hi=> .inl (List.mem_cons_of_mem _ hi)))
    ·exact(o.st (C:=C) fun i hi=>by have:=hCl i (List.mem_cons_of_mem _ hi); omega).sub ((aB.toK (C:=C) hHX).msk fun i hi=> .inl hi)
   refine aJ (dC.call hI hhX.toK ((h.length+1)::O) trivial (fun i hi=>by rcases List.mem_cons.1 hi with rfl | hi; exact .inr (by omega); exact .inl hi) (fun i hi=>by
    have h1:=hhX.1
    have h2:=hHX.1
    rcases List.mem_cons.1 hi with rfl | hi
    ·omega
    ·have:=hOl i hi; omega) ⟨_,nv,rfl,huv.sub ((aB.toK (C:=C) hhX).msk fun i hi=> .inl hi),hstv⟩) ?_
   rintro y H3 ⟨k3,r3⟩
   have hrC:h.length+1∉C:=fun hc=>by have:=hCl _ (List.mem_cons_of_mem _ hc); omega
   have hrX:HX[h.length+1]? = some (some (.row [.bool false])):=hHX.2 _ _ (sH.2 _ _ gr)
   have hr3:H3[h.length+1]? = some (some (.row [.bool false])):=k3.at_ _ _ hrC hrX
   have hl3:=aD hr3
   have hget3:∀X,(H3.set (h.length+1) X)[h.length+1]? = some X:=fun X=>qF hl3
   obtain⟨yb,rfl⟩:∃yb,y= .bool yb:=by rcases r3 with⟨e,_⟩ | ⟨e,_⟩<;>exact⟨_,e⟩
   simp only[go_sem,hr3,hget3]
   have kC:Keep C h (H3.set (h.length+1) (some (.row [.bool yb]))):=((aB.toK hhX).trans k3).set (.inr (by omega))
   refine⟨kC.more fun i hi=>List.mem_cons_of_mem _ hi,⟨(h.length+1)::O,fun i hi=>by rcases List.mem_cons.1 hi with rfl | hi; exact .inr (by omega); exact .inl hi,fun i hi=> ?_,fun i hi=>List.mem_cons_of_mem _ hi,r3.keep (Keep.refl.set (.inl (by simp)))⟩,rows,hR.keep kC hiC (fun i hi=> .inl (List.mem_cons_of_mem _ hi)),fun _ _=>rfl⟩
   have h1:=kC.le
   rw[List.length_set]at h1
   rcases List.mem_cons.1 hi with rfl | hi
   ·exact hl3
   ·have:=hOl i hi; omega
  ·rw[gD,if_neg er]at hI
   have er':((eJ d s op u).2.1 != 1)=true:=by simp[er]
   simp only[go_sem,p1.1,p2.1,p3.1,er',d1,d5,dr,hset,hget]
   obtain⟨HX,eHX⟩:∃HX,HX=H1.set (h.length+1) (some (Blk.row [.bool true]))++[some (Blk.row [nv.pl,nv.le,nv.pe]),some (Blk.row [.int .i64 (eJ d s op u).2.1,.int .i64 (eJ d s op u).2.2])]:=⟨_,rfl⟩
   rw[←eHX]
   have hhX:aB h HX:=by rw[eHX]; exact(hH.setR (by omega)).app
   have hXl:HX.length=H1.length+2:=by rw[eHX]; simp
   refine⟨hhX.toK,⟨O,fun i hi=> .inl hi,fun i hi=> ?_,fun i hi=>hi,.inl ⟨rfl,hI.keep hhX.toK⟩⟩,rows,hR.keep (D:=C) hhX.toK hiC (fun i hi=> .inl (List.mem_cons_of_mem _ hi)),fun _ _=>rfl⟩
   have h1:=hhX.1
   have:=hOl i hi
   omega
 | succ k ih=>
  intro gone u r rows O h hCl hOl hiO huk hg hu hP hR hI
  have hul:u.length<d.planes.length:=by omega
  refine aO aFM fun hb ha=> ?_
  have un1:=bD (ms:=iu::C) (A:=h)
  have c1:∀L,(h++L)[b.bu]? = some (some (.row [.sl (.own iu 0) d.planes.length 2 true])):=fun L=>aA (un1.2 _ _ hP.b1)
  have c2:∀L,(h++L)[b.bd]? = some (some (.row [.ptr (.own i 0)])):=fun L=>aA (un1.2 _ _ hP.b2)
  have c3:∀L,(h++L)[b.bs]? = some (some (.row (stC sv))):=fun L=>aA (un1.2 _ _ hP.b3)
  have c4:∀L,(h++L)[b.bo]? = some (some (.row [.int .i64 op])):=fun L=>aA (un1.2 _ _ hP.b4)
  have dpl:=hP.hD.pl
  have p1:=Sl.one (hP.hs.planes.s)
  have p2:=Sl.one (hP.hs.legs.s)
  have p3:=Sl.one (hP.hs.people.s)
  have e0:((u.length:Int)==(d.planes.length:Int))=false:=by simp; omega
  simp only[go_sem,aI9,PlB.args,c1,c2,c3,c4,e0]
  refine aC (aEd i sv op u.length gone p1 p2 p3).v ?_
  simp only[go_sem]
  refine lD [2,7,8,10,41] ?_
  simp only[go_sem]
  refine oE (fid:=164) (first:=[]) rfl (.inl rfl) fun hca hcb hps=> ?_
  simp only[go_sem]
  obtain⟨fb,efb⟩:∃fb:FtB,fb=⟨h.length+2,h.length+3,h.length+4,h.length+5,h.length+6⟩:=⟨_,rfl⟩
  rw[←efb]
  obtain⟨rec_,erec⟩:∃rec_:LoopState→Option Code→Blk,rec_=fun st pd=>Blk.loop 54 [(2,AV.ptr (Pl.own b.bu 0)),(7,AV.ptr (Pl.own b.bm 0)),(8,AV.ptr (Pl.own h.length 0)),(10,AV.ptr (Pl.own (h.length+1) 0)),(41,AV.fn (Fn.func 164) [] fb.args)] #[42,43] (aV (bJ 108) [1,1,0,1,0,0]) (aV (bJ 108) [1,1,0,1,0,1]) st pd:=⟨_,rfl⟩
  obtain⟨G,eG⟩:∃G,G=h++[some (Blk.row [AV.int IntKind.i64 (u.length:Int)]),some (Blk.row [AV.bool false]),some (Blk.row [AV.ptr (Pl.own i 0)]),some (Blk.row [sv.pl,sv.le,sv.pe]),some (Blk.row [AV.int IntKind.i64 op]),some (Blk.row [AV.int IntKind.i64 (u.length:Int)]),some (Blk.row [AV.int IntKind.i64 (gone:Int)]),some (rec_ .ready none)]:=⟨_,rfl⟩
  have eG':=eG
  simp only[erec]at eG'
  rw[←eG']
  have hhG:aB h G:=by rw[eG]; exact aB.refl.app
  have gl:G.length=h.length+8:=by rw[eG]; simp
  have g0:G[h.length]? = some (some (.row [.int .i64 (u.length:Int)])):=by rw[eG]; simp
  have g1:G[h.length+1]? = some (some (.row [.bool false])):=by rw[eG]; simp
  have g7:G[h.length+7]? = some (some (rec_ .ready none)):=by rw[eG]; simp
  have hiu:=hCl iu (by simp)
  have hCh:∀c∈C,c<h.length:=fun c hc=>hCl c (List.mem_cons_of_mem _ hc)
  obtain⟨C',eC'⟩:∃C',C'=(h.length+7)::(h.length+1)::iu::C:=⟨_,rfl⟩
  have hC':∀c∈C',c=h.length+7∨c=h.length+1∨c=iu∨c∈C:=fun c hc=>by rw[eC']at hc; simpa using hc
  have hC'h:∀c∈C',c∈iu::C∨h.length≤c:=fun c hc=>by rcases hC' c hc with rfl | rfl | rfl | h1; exact .inr (by omega); exact .inr (by omega); exact .inl (by simp); exact .inl (List.mem_cons_of_mem _ h1)
  have hC'n:∀c,h.length+2≤c→c≠h.length+7→c∉C':=fun c h1 h2 hc=>by rcases hC' c hc with h3 | h3 | h3 | h3; omega; omega; omega; have:=hCh c h3; omega
  have hsC:aB (msk (iu::C) h) (msk C' G):=(aB.toK (C:=[]) hhG).mskm (fun i hi=>by cases hi) hC'h
  have hF:FtI w0 C' d v m i s sv op u.length gone fb G:=by
   rw[efb]
   refine⟨?_,?_,?_,?_,?_,hP.hD.sub hsC,hP.hs.sub hsC⟩
   ·simp only; rw[aT (hC'n _ (by omega) (by omega)),eG]; simp
   ·simp only; rw[aT (hC'n _ (by omega) (by omega)),eG]; simp[stC]
   ·simp only; rw[aT (hC'n _ (by omega) (by omega)),eG]; simp
   ·simp only; rw[aT (hC'n _ (by omega) (by omega)),eG]; simp
   ·simp only; rw[aT (hC'n _ (by omega) (by omega)),eG]; simp
  rw[gD,show d.planes.length - (k+1)=u.length by omega]at hI
  have hfl:=wL (s:=s) (op:=op) (plane:=u.length) (gone:=gone) hP.hD.dl hp0 hg
  refine aHe C' d v m i s sv (h.length+7) op u.length gone fb _ sk hul ps o1 o2 (fun c hc=>by rcases hC' c hc with rfl | rfl | rfl | h1; omega; omega; omega; have:=hCh c h1; omega) hg hF ?_
  generalize kD d s op u.length gone=fl at hI hfl
  obtain ⟨KF, eKF⟩ : ∃ KF : Heap → Prop, KF = fun h' => rgE Tryz.prog w0 none 54 h.length (resK w0 [RV.c 10 none] fun y H => Keep (iu :: C) h H ∧ (∃ O', (∀ i ∈ O', i ∈ O ∨ h.length ≤ i) ∧ (∀ i ∈ O', i < H.length) ∧ (∀ i ∈ O, i ∈ O') ∧ IterR Tryz.prog w0 q C (UnYV w0 C) (fun _ => True) K r y O' H) ∧ ∃ rows', URow (iu :: C) H iu d.planes.length u rows' ∧ ∀ j, j < u.length → rows'[j]? = rows[j]?)
        [It.inBlk 0,It.code ((SC.reg [MIx.op none none (MOp.store (Opd.t 10) (Opd.k (AV.bool true)) 1)]).seq SC.ret)]
        [(2,AV.ptr (Pl.own b.bu 0)),(7,AV.ptr (Pl.own b.bm 0)),(8,AV.ptr (Pl.own h.length 0)),(10,AV.ptr (Pl.own (h.length+1) 0)),(41,AV.fn (Fn.func 164) [] fb.args)] h'[h.length+7]? (h'.set (h.length+7) none):=⟨_,rfl⟩
  rw[←eKF]
  have hsub':∀c∈iu::C,c∈C':=fun c hc=>by rw[eC']; exact List.mem_cons_of_mem _ (List.mem_cons_of_mem _ hc)
  have hiC':iu∈C':=hsub' iu (by simp)
  have h7C:h.length+7∈C':=by rw[eC']; simp
  have h1C:h.length+1∈C':=by rw[eC']; simp
  have claim:∀(l:List (aH×Nat)) (O1:List Nat) (H:Heap),(∀x∈l,xD d x.1∧x.2<2^4)→(∀i∈O1,i∈O∨h.length≤i)→(∀i∈O1,i<H.length)→(∀i∈O,i∈O1)→h.length+1∈O1→h.length+7∈O1→Keep C' G H →
   H[h.length+7]? = some (some (rec_ .ready none))→H[h.length+1]? = some (some (.row [.bool false]))→(∃rows1,URow C' H iu d.planes.length u rows1∧∀j,j<u.length→rows1[j]? = rows[j]?) →
   dC Tryz.prog w0 q C (UnYV w0 C) (fun _=>True) K (l.flatMap (fun x=>gD d s op k x.2 (u++[x.1]))++r) O1 H →
   dC Tryz.prog w0 (h.length+7) C' (aFm w0 C') (· = []) KF l [] H:=by
   intro l
   induction l with
   | nil=>
    intro O1 H _ hO1 hOH hu1 hb1 hb7 kG h7 h1 ⟨rows1,hR1,er1⟩ it
    intro H2 t2
    have k7:H2[h.length+7]? = some (some (rec_ .ready none)):=t2.at_ _ _ (by simp) h7
    have k1:(H2.set (h.length+7) none)[h.length+1]? = some (some (.row [.bool false])):=by rw[qB (by omega)]; exact t2.at_ _ _ (by simp) h1
    have hl1:=aD k1
    have k1':∀X,((H2.set (h.length+7) none).set (h.length+1) X)[h.length+1]? = some X:=fun X=>qF hl1
    have hl2:h.length+7<H2.length:=aD k7
    simp only[eKF,k7,erec]
    simp only[go_sem,k1,k1']
    have kA:Keep O1 H ((H2.set (h.length+7) none).set (h.length+1) (some (.row [.bool true]))):=((t2.more (D:=O1) (by simp)).set (.inl hb7)).set (.inl hb1)
    have kB:Keep (iu::C) h ((H2.set (h.length+7) none).set (h.length+1) (some (.row [.bool true]))):=
     ((((aB.toK (C:=C') hhG).trans kG).trans (t2.more (by simp))).old hC'h).set (.inr (by omega)) |>.set (.inr (by omega))
    have hR2:URow C' H2 iu d.planes.length u rows1:=hR1.keep (D:=[]) t2 (by simp) (by simp)
    refine⟨kB,⟨O1,hO1,fun i hi=>by have:=kA.le; have:=hOH i hi; rw[List.length_set,List.length_set]at *; omega,hu1,.inl ⟨rfl,by simpa using it.keep kA⟩⟩,rows1,?_,er1⟩
    refine hR2.remask (by rw[qB (by omega),qB (by omega)]) ?_
    have:=lL (ms:=iu::C) (ns:=C') (A:=(H2.set (h.length+7) none).set (h.length+1) (some (.row [.bool true]))) hsub'
    rwa [uF h1C,uF h7C]at this
   | cons x l ihl=>
    intro O1 H hl hO1 hOH hu1 hb1 hb7 kG h7 h1 ⟨rows1,hR1,er1⟩ it
    intro H2 args O2 hg0 t2 h2o h2l ⟨pv,ea,hpv⟩
    subst hg0; subst ea
    have k7:H2[h.length+7]? = some (some (rec_ .ready none)):=t2.at_ _ _ (by simp) h7
    have k7':=k7
    simp only[erec]at k7
    refine hE (psl:=[42,43]) dE rfl aHV aHU aBW.eq_1 aBV.eq_1 k7 rfl hps hca hcb fun hb2 ha2=> ?_
    rw[←List.append_nil H2]
    have hpo:=Sl.one (hpv.s (w0:=w0))
    obtain⟨A,eA⟩:∃A,A=H2++[some (Blk.row [.int .i64 x.1.to,pv])]:=⟨_,rfl⟩
    have hHA:aB H2 A:=by rw[eA]; exact aB.refl.app
    have a7:A[h.length+7]? = some (some (rec_ .ready none)):=hHA.2 _ _ k7'
    have a7':=a7
    simp only[erec]at a7'
    simp only[go_sem,hpo.1,←eA,a7']
    obtain⟨B0,eB0⟩:∃B0,B0=A.set (h.length+7) (some (rec_ .busy none)):=⟨_,rfl⟩
    have eB0':=eB0
    simp only[erec]at eB0'
    rw[←eB0']
    have l7:=aD a7
    have kHB:Keep [h.length+7] H B0:=by rw[eB0]; exact((t2.more (by simp)).trans hHA.toK).set (.inl (by simp))
    have khB:Keep C' h B0:=((aB.toK hhG).trans kG).trans (kHB.more (by simp[h7C]))
    have hPB:=hP.sub ((khB.old hC'h).msk (ms:=iu::C) fun i hi=> .inl hi)
    have un2:=bD (ms:=iu::C) (A:=B0)
    have e1:B0[b.bu]? = some (some (.row [.sl (.own iu 0) d.planes.length 2 true])):=un2.2 _ _ hPB.b1
    have e6:∀X,(B0.set iu (some X))[b.bm]? = some (some (.row [.fn (.func 108) [] b.args])):=fun X=>by
     have hne:iu≠b.bm:=fun e=>by have:=hPB.b6; rw[←e,lT (by simp) (by have:=khB.le; omega)]at this; cases this
     rw[qB hne]; exact un2.2 _ _ hPB.b6
    have h0C:h.length∉C':=fun hc=>by rcases hC' _ hc with h3 | h3 | h3 | h3; omega; omega; omega; have:=hCh _ h3; omega
    have e8:B0[h.length]? = some (some (.row [.int .i64 (u.length:Int)])):=(kHB.more (D:=C') (by simp[h7C])).at_ _ _ h0C (kG.at_ _ _ h0C g0)
    have e8':∀X,(B0.set iu (some X))[h.length]? = some (some (.row [.int .i64 (u.length:Int)])):=fun X=>by rw[qB (by omega)]; exact e8
    have e13:B0[H2.length]? = some (some (.row [.int .i64 x.1.to,pv])):=by
     have:h.length+7≠H2.length:=by have:=aD k7'; omega
     rw[eB0,qB this,eA]; simp
    have hRB:URow C' B0 iu d.planes.length u rows1:=by
     refine hR1.remask ?_ (kHB.msk fun i hi=> .inl (by simp at hi; subst hi; exact h7C))
     have:=hR1.hb
     rw[this]; exact kHB.at_ _ _ (by simp; omega) this
    have eiu:=hRB.hb
    have eix:cF 2 (.sl (.own iu 0) d.planes.length 2 true) (some u.length)=some (.ptr (.own iu (u.length*2))):=by simp[cF,fH,Pl.add,hul]
    have fl2:rows1.flatten.length=d.planes.length*2:=by rw[aCW hR1.two,hR1.len]
    have hfs:=aJM hR1.two (j:=u.length) (by rw[hR1.len]; exact hul) (a:= .int .i64 x.1.to) (b:=pv)
    simp only[go_sem,e1,e8,e13,eix,eiu,hpo.1,fl2,hfs,e6,e8']
    obtain⟨B,eB⟩:∃B,B=B0.set iu (some (Blk.row (rows1.set u.length [AV.int IntKind.i64 x.1.to,pv]).flatten)):=⟨_,rfl⟩
    rw[←eB]
    have hpB:SlN (msk C' B0) pv x.1.people:=hpv.sub ((show Keep [h.length+7] H2 B0 by rw[eB0]; exact hHA.toK.set (.inl (by simp))).msk fun i hi=> .inl (by simp at hi; subst hi; exact h7C))
    have hRx:=hRB.put hiC' hul hpB hpo.1
    rw[←eB]at hRx
    have kB0B:Keep [iu] B0 B:=by rw[eB]; exact Keep.refl.set (.inl (by simp))
    have hPx:=hPB.sub (kB0B.msk (ms:=iu::C) fun i hi=> .inl (by simp at hi; simp[hi]))
    have kHBx:Keep O1 H B:=(kHB.more (by simp[hb7])).trans (kB0B.more (by simp[hu1 _ hiO]))
    have itB:=it.keep kHBx
    rw[List.flatMap_cons,List.append_assoc]at itB
    have hBl:=kHBx.le
    have hxok:=hl x (by simp)
    have hcall:=ih x.2 (u++[x.1]) (l.flatMap (fun x=>gD d s op k x.2 (u++[x.1]))++r) _ O1 B (fun c hc=>by have:=hCl c hc; have:=khB.le; have:=kB0B.le; omega) (fun c hc=>by have:=hOH c hc; omega) (hu1 _ hiO) (by simp; omega) hxok.2
     (fun y hy=>by rcases List.mem_append.1 hy with hy | hy; exact hu y hy; simp at hy; subst hy; exact hxok.1) hPx (hRx.remask rfl (lL hsub')) itB
    rw[List.length_append,List.length_singleton,Int.natCast_add,Int.natCast_one]at hcall
    refine⟨by omega,(by unfold I64; omega),?_⟩
    refine aJ (ACall.vc (first:=[]) (args:=[_,_]) (by simpa using hcall)) ?_
    rintro y H3 ⟨k3,⟨O',o1',o2',o3',r3⟩,rows3,hR3,er3⟩
    have b7:B[h.length+7]? = some (some (rec_ .busy none)):=kB0B.at_ _ _ (by simp; omega) (by rw[eB0,qF l7])
    have h7n:h.length+7∉iu::C:=fun hc=>by have:=hCl _ hc; omega
    have h1n:h.length+1∉iu::C:=fun hc=>by have:=hCl _ hc; omega
    have d7:H3[h.length+7]? = some (some (rec_ .busy none)):=k3.at_ _ _ h7n b7
    have b1:H3[h.length+1]? = some (some (.row [.bool false])):=k3.at_ _ _ h1n (kB0B.at_ _ _ (by simp; omega) (kHB.at_ _ _ (by simp) h1))
    have l3:=aD d7
    have kH23:Keep C' H2 H3:=((show Keep [h.length+7] H2 B0 by rw[eB0]; exact hHA.toK.set (.inl (by simp))).more (by simp[h7C])).trans ((kB0B.more (by simp[hiC'])).trans (k3.more hsub'))
    have kH3:Keep C' H H3:=(t2.more (by simp)).trans kH23
    have hRn:URow C' H3 iu d.planes.length u rows3:=hR1.back hR3 (fun j hj=>by
     rw[er3 j (by omega),qB (by omega)]) (kH3.msk fun i hi=> .inl hi)
    have er3':∀j,j<u.length→rows3[j]? = rows[j]? := fun j hj=>by
     rw[er3 j (by omega),qB (by omega),er1 j hj]
    simp only[erec]at d7
    rcases r3 with⟨rfl,it3⟩ | ⟨rfl,kk3⟩
    ·simp only[go_sem,d7]
     obtain⟨F,eF⟩:∃F,F=H3.set (h.length+7) (some (rec_ .ready none)):=⟨_,rfl⟩
     have eF':=eF
     simp only[erec]at eF'
     rw[←eF',List.append_nil]
     have kF:Keep [h.length+7] H3 F:=by rw[eF]; exact Keep.refl.set (.inl (by simp))
     have h7O:h.length+7∈O':=o3' _ hb7
     refine⟨kH23.trans (kF.more (by simp[h7C])),.inl ?_⟩
     refine ihl O' F (fun y hy=>hl y (List.mem_cons_of_mem _ hy)) (fun c hc=>by
      rcases o1' c hc with h2 | h2
      ·exact hO1 c h2
      ·have:=khB.le; have:=kB0B.le; exact .inr (by omega)) (fun c hc=>by rw[eF,List.length_set]; exact o2' c hc) (fun c hc=>o3' c (hu1 c hc)) (o3' _ hb1) h7O (kG.trans (kH3.trans (kF.more (by simp[h7C])))) ?_ ?_ ⟨rows3,?_,er3'⟩ (it3.keep (kF.more (by simp[h7O])))
     ·rw[eF,qF l3]
     ·exact kF.at_ _ _ (by simp) b1
     ·exact hRn.remask (by rw[eF,qB (by omega)]) (kF.msk fun i hi=> .inl (by simp at hi; subst hi; exact h7C))
    ·have d7':(H3.set (h.length+1) (some (.row [.bool false])))[h.length+7]? = some (some (rec_ .busy none)):=by rw[qB (by omega)]; simp only[erec]; exact d7
     simp only[erec]at d7'
     simp only[go_sem,d7',b1]
     obtain⟨F,eF⟩:∃F,F=(H3.set (h.length+1) (some (.row [.bool false]))).set (h.length+7) (some (rec_ .done (some .ret))):=⟨_,rfl⟩
     have eF':=eF
     simp only[erec]at eF'
     rw[←eF',List.append_nil]
     have kF:Keep [h.length+1,h.length+7] H3 F:=by rw[eF]; exact(Keep.refl.set (.inl (by simp))).set (.inl (by simp))
     refine⟨kH23.trans (kF.more (by simp[h7C,h1C])),.inr fun H4 k4=> ?_⟩
     have f7:F[h.length+7]? = some (some (rec_ .done (some .ret))):=by rw[eF,qF (by rw[List.length_set]; exact l3)]
     have f1:F[h.length+1]? = some (some (.row [.bool false])):=by rw[eF,qB (by omega),qF (by omega)]
     have j7:=k4.at_ _ _ (by simp) f7
     have j1:(H4.set (h.length+7) none)[h.length+1]? = some (some (.row [.bool false])):=by rw[qB (by omega)]; exact k4.at_ _ _ (by simp) f1
     simp only[eKF,j7,erec]
     simp only[go_sem,j1]
     have k34:Keep [h.length+1,h.length+7] H3 (H4.set (h.length+7) none):=(kF.trans (k4.more (by simp))).set (.inl (by simp))
     have k0:Keep C' h (H4.set (h.length+7) none):=(((aB.toK hhG).trans kG).trans kH3).trans (k34.more (by simp[h7C,h1C]))
     have kO:Keep O' H3 (H4.set (h.length+7) none):=k34.more (by simp[o3' _ hb7,o3' _ hb1])
     refine⟨k0.old hC'h,⟨O',fun c hc=> ?_,fun c hc=> ?_,fun c hc=>o3' c (hu1 c hc),.inr ⟨rfl,fun H5 k5=>kk3 _ (kO.trans k5)⟩⟩,rows3,?_,er3'⟩
     ·rcases o1' c hc with h2 | h2
      ·exact hO1 c h2
      ·have:=khB.le; have:=kB0B.le; exact .inr (by omega)
     ·have h2:=o2' c hc
      have h3:=k34.le
      rw[List.length_set]at h3
      omega
     ·have hRf:URow C' (H4.set (h.length+7) none) iu d.planes.length u rows3:=hRn.keep k34 (by simp; omega) fun i hi=> .inl (by simp at hi; rcases hi with rfl | rfl; exact h1C; exact h7C)
      exact hRf.remask rfl (lL hsub')
  exact claim fl ((h.length+7)::(h.length+1)::O) G hfl (fun i hi=>by rcases List.mem_cons.1 hi with rfl | hi; exact .inr (by omega); rcases List.mem_cons.1 hi with rfl | hi; exact .inr (by omega); exact .inl hi)
   (fun i hi=>by rcases List.mem_cons.1 hi with rfl | hi; omega; rcases List.mem_cons.1 hi with rfl | hi; omega; have:=hOl i hi; omega) (fun i hi=>by simp[hi]) (by simp) (by simp) Keep.refl g7 g1 ⟨rows,hR.remask (by rw[eG,qH hiu]) hsC,fun _ _=>rfl⟩
   (hI.grow hhG.toK fun i hi=>by rcases List.mem_cons.1 hi with rfl | hi; exact .inr (by omega); rcases List.mem_cons.1 hi with rfl | hi; exact .inr (by omega); exact .inl hi)
theorem aAA(c:List AV):∀n,fS c n=(List.replicate n c).flatten
 | 0=>rfl
 | n+1=>by rw[aDQ,aAA c n,List.replicate_succ,List.flatten_cons]
theorem aFr(C:List Nat)(d:aQ)(v:cU)(m:AV)(i:Nat)(s:aF)(sv:StV)(op:Int)(q bd bs bo:Nat)(K:Heap→Prop)(sk:nB d s)(ps:∀p∈d.planes,0≤p.seats∧p.seats≤1000)(hp0:0<d.places.length)(o1:0≤op)(o2:op<2^50)
 (hCl:∀i∈C,i<h.length) (b1:(msk C h)[bd]? = some (some (.row [.ptr (.own i 0)]))) (b2:(msk C h)[bs]? = some (some (.row (stC sv)))) (b3:(msk C h)[bo]? = some (some (.row [.int .i64 op]))) (hD:rL w0 (msk C h) d v m i) (hs:StS w0 (msk C h) s sv)
 (hI:dC Tryz.prog w0 q C (UnYV w0 C) (fun _=>True) K (fD d s op) [] h):ACall Tryz.prog w0 107 [.yld q,.ptr (.own bd 0),.ptr (.own bs 0),.ptr (.own bo 0)] h fun _ H=>K H:=by
 refine aO aNF fun hb ha=> ?_
 have un1:=bD (ms:=C) (A:=h)
 have c1:∀L,(h++L)[bd]? = some (some (.row [.ptr (.own i 0)])):=fun L=>aA (un1.2 _ _ b1)
 have ci:∀L,(h++L)[i]? = some (some (.row (aX v++[m]))):=fun L=>aA (un1.2 _ _ hD.hd)
 have lnp:dA v.pn=some (.int .i64 d.planes.length):=by simpa using hD.R.planes.use.1
 have dpl:=hD.pl
 have hP40:d.planes.length*(32+1)≤2^40:=by omega
 simp only[go_sem,mf107,c1,ci,lnp]
 refine⟨by omega,?_⟩
 obtain⟨b,eb⟩:∃b:PlB,b=⟨h.length+2,bd,bs,bo,h.length,h.length+3⟩:=⟨_,rfl⟩
 have eargs:[AV.ptr (Pl.own (h.length+2) 0),AV.ptr (Pl.own bd 0),AV.ptr (Pl.own bs 0),AV.ptr (Pl.own bo 0),AV.ptr (Pl.own h.length 0),AV.ptr (Pl.own (h.length+3) 0)]=b.args:=by rw[eb]; rfl
 rw[eargs,beq_self_eq_true,aAA]
 obtain⟨H,eH⟩:∃H,H=h++[some (Blk.row [.yld q]),some (Blk.row (List.replicate d.planes.length [AV.int .i64 0,.nilS]).flatten),some (Blk.row [.sl (.own (h.length+1) 0) d.planes.length 2 true]),some (Blk.row [.fn (.func 108) [] b.args])]:=⟨_,rfl⟩
 rw[←eH]
 have hhH:aB h H:=by rw[eH]; exact aB.refl.app
 have hl:H.length=h.length+4:=by rw[eH]; simp
 have hnC:∀c,h.length≤c→c≠h.length+1→c∉(h.length+1)::C:=fun c h1 h2 hc=>by
  rcases List.mem_cons.1 hc with h3 | h3
  ·exact h2 h3
  ·have:=hCl _ h3; omega
 have hsC:aB (msk C h) (msk ((h.length+1)::C) H):=(aB.toK (C:=[]) hhH).mskm (by simp) fun c hc=>by
  rcases List.mem_cons.1 hc with h3 | h3
  ·exact .inr (by omega)
  ·exact .inl h3
 have hP:PlI w0 ((h.length+1)::C) d v m i s sv op q (h.length+1) b H:=by
  have hb':∀x,b.args=x→b.args=x:=fun _ e=>e
  rw[eb]
  refine⟨?_,hsC.2 _ _ b1,hsC.2 _ _ b2,hsC.2 _ _ b3,?_,?_,hD.sub hsC,hs.sub hsC⟩
  ·simp only; rw[aT (hnC _ (by omega) (by omega)),eH]; simp
  ·simp only; rw[aT (hnC _ (by omega) (by omega)),eH]; simp
  ·simp only; rw[aT (hnC _ (by omega) (by omega)),eH,←eb]; simp
 have hR:URow ((h.length+1)::C) H (h.length+1) d.planes.length [] (List.replicate d.planes.length [AV.int .i64 0,.nilS]):=
  ⟨by rw[eH]; simp,by simp,fun c hc=>by rw[(List.mem_replicate.1 hc).2]; rfl,fun c hc=>by rw[(List.mem_replicate.1 hc).2]; rfl,fun j x hx=>by simp at hx⟩
 have hc:=unit_c C d v m i s sv op q (h.length+1) b K sk ps hp0 o1 o2 (fun hc=>by have:=hCl _ hc; omega) d.planes.length 0 [] [] _ [h.length+1] H (fun c hc=>by rcases List.mem_cons.1 hc with h3 | h3; omega; have:=hCl _ h3; omega) (by simp; omega) (by simp) (by simp) (by omega) (by simp) hP hR
  (by rw[List.append_nil]; exact hI.grow hhH.toK (by simp))
 refine aJ (ACall.vc (first:=[]) (args:=[_,_]) (by simpa using hc)) ?_
 rintro y H3 ⟨k3,⟨O',_,_,_,r3⟩,_⟩
 simp only[go_sem]
 rcases r3 with⟨_,r3⟩ | ⟨_,r3⟩
 ·exact r3 _ Keep.refl
 ·exact r3 _ Keep.refl
theorem aB5(i:Nat)(sv:StV)(op:Int)(o1:one sv.pl=true∧cellsOf sv.pl=some [sv.pl])(o2:one sv.le=true∧cellsOf sv.le=some [sv.le])(o3:one sv.pe=true∧cellsOf sv.pe=some [sv.pe]) :
 aK Tryz.prog w0 53 [.ptr (.own i 0),.agg (stC sv),.int .i64 op] h
  (.fn (.func 107) [] [.ptr (.own h.length 0),.ptr (.own (h.length+1) 0),.ptr (.own (h.length+2) 0)])
  (h++[some (.row [.ptr (.own i 0)]),some (.row (stC sv)),some (.row [.int .i64 op])]):=by
 refine oC dE aDZ.a aDZ.b aDZ.c (qE rfl) (by simp[AV.bdd,AV.bdds,Pl.bdd]) (fun hb=> ?_) fun hb ha=>hY ?_
 ·simp only[AV.bdds,AV.bdd,Pl.bdd,stC]at hb
  obtain⟨h1,⟨h2,h3,h4,_⟩,_⟩:=hb
  simp[bC,bO,bT,cC,cT,bP,AV.bdds,AV.bdd,Pl.bdd,aY,stC]
  exact⟨by omega,AV.bdd_mono (by omega) _ h2,AV.bdd_mono (by omega) _ h3,AV.bdd_mono (by omega) _ h4⟩
 ·simp only[go_sem,mf53,o1.2,o2.2,o3.2,o1.1,o2.1,o3.1]
end Go.Proofs.Ab

/- Own layer, part O. -/
import Derived.Test.YtiakeffhecpddaaGreatN
set_option linter.unusedSimpArgs false
set_option linter.unusedVariables false
namespace Go.Proofs.Ab
open Go Go.Proofs
variable {w0:World} {h:Heap}
attribute [local irreducible] ACall bE cR aK bI rvC lp rg dr ex un rv
structure jJ(d:aQ):Prop where
 p0:1≤d.places.length
 p1:d.places.length≤5
 ln:d.links.length≤20
 pn:d.planes.length≤2
 pe:d.people.length≤4
 w0:1≤d.weathers.length
 w1:d.weathers.length≤6
 planes:∀p∈d.planes,(0≤p.at_∧p.at_<d.places.length)∧(0≤p.home∧p.home<d.places.length)∧(0≤p.seats∧p.seats≤20)∧(0≤p.duty∧p.duty≤20)∧(0≤p.away∧p.away≤1000000)
 people:∀p∈d.people,(0≤p.at_∧p.at_<d.places.length)∧(0≤p.to∧p.to<d.places.length)∧(1≤p.seats∧p.seats≤20)∧(0≤p.strand∧p.strand≤1000000)∧(0≤p.lodged∧p.lodged≤1000000)
 s0:1≤aL d
 s1:aL d≤5
 rows:∀w∈d.weathers,w.length=aL d∧∀x∈w,0≤x∧x<2^5
 berths:∀p∈d.places,0≤p.berths∧p.berths≤2
theorem iJ{n:Nat}{x:Int}:bR n x=true↔0≤x∧x<n:=by simp only[bR,inB,Bool.and_eq_true,decide_eq_true_eq]; omega
theorem tA{d:aQ}(e:fX d=true):jJ d:=by
 simp only[fX,Bool.and_eq_true,decide_eq_true_eq,List.all_eq_true]at e
 obtain⟨e1,e2,e3,e4,e5,e6,e7,_,e9,e10⟩:=e
 simp only[inB,Bool.and_eq_true,decide_eq_true_eq]at e1 e5
 have hw:∀w∈d.weathers,(1≤w.length∧w.length≤5)∧w.length=aL d∧∀x∈w,0≤x∧x<2^5:=fun w hw=>by
  have:=e9 w hw
  simp only[fC,inB,qL,Bool.and_eq_true,decide_eq_true_eq,List.all_eq_true]at this
  refine⟨by omega,this.2.1,fun x hx=> ?_⟩
  have h1:=this.2.2 x hx
  have h2:2^d.places.length≤2^5:=Nat.pow_le_pow_right (by omega) (by omega)
  have h3:((2^5:Nat):Int)=2^5:=by norm_cast
  omega
 have hs:1≤aL d∧aL d≤5:=by
  cases ew:d.weathers with
  | nil=>rw[ew]at e5; simp at e5
  | cons a b=>
   have:=hw a (by rw[ew]; simp)
   have ha:aL d=a.length:=by simp[aL,ew]
   omega
 refine⟨by omega,by omega,e2,e3,e4,by omega,by omega,fun p hp=> ?_,fun p hp=> ?_,hs.1,hs.2,fun w hw'=>(hw w hw').2,fun p hp=> ?_⟩
 ·have:=e6 p hp
  simp only[fE,Bool.and_eq_true,iJ,inB,decide_eq_true_eq]at this
  omega
 ·have:=e7 p hp
  simp only[eE,Bool.and_eq_true,iJ,inB,decide_eq_true_eq]at this
  omega
 ·obtain⟨j,hj,rfl⟩:=List.mem_iff_getElem.1 hp
  have:=e10 j (List.mem_range.2 hj)
  rw[aE hj]at this
  simp only[oO,inB,Bool.and_eq_true,decide_eq_true_eq]at this
  omega
def GrI(H:Heap)(N:Nat)(v:AV)(l:List Int):Prop:=(l=[]∧v= .nilS)∨(l≠[]∧∃id,N≤id∧v= .sl (.own id 0) l.length 1 false∧H[id]? = some (some (.row (aN l))))
theorem GrI.n{H:Heap}{N:Nat}{v:AV}{l:List Int}(a:GrI H N v l):SlN H v l:=by
 rcases a with a | ⟨a,id,_,e1,e2⟩
 ·exact .inl a
 ·exact .inr ⟨a,id,false,e1,e2⟩
theorem GrI.keep{C:List Nat}{H H':Heap}{N:Nat}{v:AV}{l:List Int}(a:GrI H N v l)(t:Keep C H H')(hC:∀c∈C,c<N):GrI H' N v l:=by
 rcases a with a | ⟨a,id,e0,e1,e2⟩
 ·exact .inl a
 ·exact .inr ⟨a,id,e0,e1,t.at_ _ _ (fun hc=>by have:=hC _ hc; omega) e2⟩
theorem GrI.add{H:Heap}{N:Nat}{v:AV}{l:List Int}(a:GrI H N v l)(hN:N≤H.length)(x:Int)(k:Nat)(hk:H[k]? = some (some (.row [.int .i64 x])))(hl:l.length<1000000) :
 ∃v' H',(∀f,eD w0 H 1 8 v (.sl (.own k 0) 1 1 f)=some (v',H'))∧GrI H' N v' (l++[x])∧H.length≤H'.length∧(∀(i:Nat) b,i<N→H[i]? = some b→H'[i]? = some b)∧one v'=true:=by
 have hr:rdn w0 H (.own k 0) (1*1)=some [.int .i64 x]:=by simp[rdn,hk]
 rcases a with⟨rfl,rfl⟩ | ⟨hl0,id,hid,rfl,h2⟩
 ·refine⟨.sl (.own H.length 0) 1 1 false,H++[some (.row [.int .i64 x])],fun f=>by simp[eD,srcOf,fH,hr,mN,one],.inr ⟨by simp,H.length,hN,by simp,by simp[aN]⟩,by simp,fun i b hi e=>by rw[qH (by omega)]; exact e,rfl⟩
 ·have hr2:rdn w0 H (.own id 0) (l.length*1)=some (aN l):=by
   simp only[rdn,h2]
   rw[if_pos (by simp)]
   simp[List.take_of_length_le]
  rw[Nat.mul_one]at hr2
  have hil:=aD h2
  have hb:(l.length+1)*(8+1)≤2^40:=by omega
  refine⟨.sl (.own H.length 0) (l.length+1) 1 false,H.set id none++[some (.row (aN (l++[x])))],fun f=> ?_,.inr ⟨by simp,H.length,hN,by simp,by simp⟩,by simp,fun i b hi e=>by rw[qH (by rw[List.length_set]; omega),qB (by omega)]; exact e,rfl⟩
  simp[eD,srcOf,fH,hr,one,hr2]
  refine⟨by omega,?_⟩
  simp[aN]
theorem aEE{a b:Nat}(ha:a<2^62)(hb:b<2^62):bin .andNot (.int .i64 (a:Int)) (.int .i64 (b:Int))=some (.int .i64 ((a ^^^ (a &&& b):Nat):Int)):=by
 have h1:a ^^^ (a &&& b)<2^62:=Nat.xor_lt_two_pow ha (Nat.lt_of_le_of_lt Nat.and_le_left ha)
 simp only[bin,if_true,kI,nW]
 have e:(BitVec.ofInt IntKind.i64.bits (a:Int) &&& ~~~BitVec.ofInt IntKind.i64.bits (b:Int))=BitVec.ofInt IntKind.i64.bits (a:Int) ^^^ (BitVec.ofInt IntKind.i64.bits (a:Int) &&& BitVec.ofInt IntKind.i64.bits (b:Int)):=by
  ext i
  simp only[BitVec.getElem_and,BitVec.getElem_not,BitVec.getElem_xor]
  cases(BitVec.ofInt IntKind.i64.bits (a:Int))[i]<;>cases(BitVec.ofInt IntKind.i64.bits (b:Int))[i]<;>rfl
 rw[e,show(BitVec.ofInt IntKind.i64.bits (a:Int) ^^^ (BitVec.ofInt IntKind.i64.bits (a:Int) &&& BitVec.ofInt IntKind.i64.bits (b:Int))).toNat=a ^^^ (a &&& b)by
  rw[BitVec.toNat_xor,BitVec.toNat_and,BitVec.ofInt_natCast,BitVec.ofInt_natCast,BitVec.toNat_ofNat,BitVec.toNat_ofNat,Nat.mod_eq_of_lt,Nat.mod_eq_of_lt]
  ·simp[IntKind.bits]; omega
  ·simp[IntKind.bits]; omega]
 rw[tL h1]
theorem vP{d:aQ}{left slot w:Nat}:∀v,fV d left slot w v<2^v
 | 0=>by simp[fV]
 | v+1=>by
  have ih:=vP (d:=d) (left:=left) (slot:=slot) (w:=w) v
  have h2:2^v<2^(v+1):=Nat.pow_lt_pow_right (by omega) (by omega)
  rw[fV]
  split
  ·exact Nat.or_lt_two_pow (Nat.lt_trans ih h2) h2
  ·exact Nat.lt_trans ih h2
theorem oK{d:aQ}{ws slot k:Nat}(hw:ws<2^k):∀n,(cQ d ws slot n).1<2^k∧(cQ d ws slot n).2.length≤n
 | 0=>⟨hw,Nat.le_refl _⟩
 | n+1=>by
  have ih:=oK (d:=d) (slot:=slot) hw n
  rw[cQ]
  split
  ·exact⟨Nat.xor_lt_two_pow ih.1 (Nat.lt_of_le_of_lt Nat.and_le_left ih.1),by simp; exact ih.2⟩
  ·exact⟨ih.1,by omega⟩
theorem xY{d:aQ}{w t:Nat}(hw:w<d.weathers.length)(ht:t<d.weathers[w].length):wAt d w t=d.weathers[w][t]:=by rw[wAt,aE hw,aE ht]
theorem aCI(d:aQ)(v:cU)(m:AV)(i ws slot:Nat)(hD:rL w0 h d v m i)(dg:jJ d)(hs:slot<aL d)(hws:ws<2^50) :
 ACall Tryz.prog w0 51 [.ptr (.own i 0),.int .i64 (ws:Int),.int .i64 (slot:Int)] h fun y H=>aB h H∧GrI H h.length y ((eS d ws slot).map Int.ofNat):=by
 refine aO mf51_k fun hb ha=> ?_
 have ci:∀L,(h++L)[i]? = some (some (.row (aX v++[m]))):=fun L=>aA hD.hd
 have ln5:dA v.we=some (.int .i64 d.weathers.length):=by obtain⟨rows,h1,h2,_⟩:=hD.R.weathers; rw[←h1]; exact h2.use.1
 have w1:=dg.w1
 have sl:=dg.s1
 rw[←List.append_nil h]
 simp only[go_sem,mf51,ci,ln5]
 rw[List.append_nil]
 refine bS (S:=Heap×AV) (fun w st=>[(0,.ptr (.own i 0)),(2,.int .i64 (slot:Int)),(7,st.2),(8,.int .i64 ((cQ d ws slot w).1:Int)),(18,.int .i64 (d.weathers.length:Int)),(19,.int .i64 (w:Int))]) (fun _ st=>st.1)
  (fun w st=>aB h st.1∧GrI st.1 h.length st.2 ((cQ d ws slot w).2.map Int.ofNat)) d.weathers.length (h,.nilS) ⟨aB.refl,.inl ⟨rfl,rfl⟩⟩ rfl rfl (fun w st hw I ih=> ?_) (fun st I=> ?_)
 ·obtain⟨H,ov⟩:=st
  obtain⟨hH,hO⟩:=I
  simp only at hH hO ih ⊢
  refine aP [0,2,7,8,18,19] aLa.eq_1 ?_
  have hlt:=oK (d:=d) (slot:=slot) hws w
  obtain⟨left,eleft⟩:∃left,left=(cQ d ws slot w).1:=⟨_,rfl⟩
  rw[←eleft]at hlt ⊢
  have l62:left<2^62:=by omega
  have e1:(w:Int)<d.weathers.length:=by omega
  have s1:=jV (a:=left) (n:=w) (by omega)
  have s2:=kM (a:=left / 2^w) (Nat.lt_of_le_of_lt (Nat.div_le_self _ _) l62)
  have ci2:=hH.2 _ _ hD.hd
  have hz:∀a n:Nat,(((a / 2^n % 2:Nat):Int)==0)= !bN a n:=fun a n=>by
   unfold bN
   rcases Nat.mod_two_eq_zero_or_one (a / 2^n)with e | e<;>rw[e]<;>rfl
  cases hbit:bN left w with
  | false=>
   simp only[go_sem,e1,s1,s2,hz,hbit]
   refine⟨(by unfold I64; omega),?_⟩
   have:=ih (H,ov) ⟨hH,by rw[cQ]; simp only[←eleft,hbit]; simpa using hO⟩
   rw[cQ]at this
   simp only[←eleft,hbit]at this
   simpa[eleft]using this
  | true=>
   simp only[go_sem,e1,s1,s2,hz,hbit,ci2,ln5]
   have hW:LI w0 H v.we d.weathers:=(hD.R.weathers).sub hH
   have row:∀j,j<d.weathers.length→∃(p q:Pl) (x:AV),cF 1 v.we (some j)=some (.ptr p)∧rd w0 H p=some x∧cF 1 x (some slot)=some (.ptr q)∧rd w0 H q=some (.int .i64 (wAt d j slot)):=fun j hj=>by
    obtain⟨p,x,p1,p2,p3⟩:=hW.at_ hj
    obtain⟨_,q,qi,qr⟩:=SlI.use p3
    have hl:slot<d.weathers[j].length:=by rw[(dg.rows _ (qG hj)).1]; exact hs
    have h1:=p2 []
    have h2:=qr slot hl []
    rw[List.append_nil]at h1 h2
    exact⟨p,q.add slot,x,p1,h1,qi slot hl,by rw[xY hj hl]; exact h2⟩
   obtain⟨r1,r2,rx,r3,r4,r5,r6⟩:=row w hw
   have hgl:=fun n=>vP (d:=d) (left:=left) (slot:=slot) (w:=w) n
   have hg6:∀n,n≤6→fV d left slot w n<2^6:=fun n hn=>Nat.lt_of_lt_of_le (hgl n) (Nat.pow_le_pow_right (by omega) hn)
   refine bS (S:=Unit) (fun n _=>[(0,.ptr (.own i 0)),(2,.int .i64 (slot:Int)),(7,ov),(8,.int .i64 (left:Int)),(9,.int .i64 (w:Int)),(10,.int .i64 (fV d left slot w n:Int)),(18,.int .i64 (d.weathers.length:Int)),(19,.int .i64 (w:Int)),(32,.int .i64 (d.weathers.length:Int)),(33,.int .i64 (n:Int))]) (fun _ _=>H) (fun _ _=>True) d.weathers.length () trivial rfl rfl (fun n _ hn _ ih2=> ?_) (fun _ _=> ?_)
   ·refine aP [0,2,7,8,9,10,18,19,32,33] aLb.eq_1 ?_
    have e2:(n:Int)<d.weathers.length:=by omega
    have s3:=jV (a:=left) (n:=n) (by omega)
    have s4:=kM (a:=left / 2^n) (Nat.lt_of_le_of_lt (Nat.div_le_self _ _) l62)
    obtain⟨q1,q2,qx,q3,q4,q5,q6⟩:=row n hn
    have s5:=nY (n:=n) (by omega)
    have hg:=hg6 n (by omega)
    have hn6:2^n<2^62:=Nat.pow_lt_pow_right (by omega) (by omega)
    have s6:=aKg (a:=fV d left slot w n) (b:=2^n) (by omega) hn6
    have ih2:=ih2 () trivial
    rw[fV]at ih2
    cases hb2:bN left n with
    | false=>
     rw[hb2]at ih2
     simp only[go_sem,e2,s3,s4,qK,hb2,ci2]
     exact⟨(by unfold I64; omega),by simpa using ih2⟩
    | true=>
     by_cases heq:wAt d n slot=wAt d w slot
     ·have heq':(wAt d n slot==wAt d w slot)=true:=by simp[heq]
      rw[hb2]at ih2
      simp only[heq,decide_true,Bool.and_self,if_true]at ih2
      simp only[go_sem,e2,s3,s4,qK,hb2,ci2,q3,q4,q5,q6,r3,r4,r5,r6,heq',s5,s6]
      exact⟨(by unfold I64; omega),by simpa using ih2⟩
     ·have heq':(wAt d n slot==wAt d w slot)=false:=by simp[heq]
      rw[hb2]at ih2
      simp only[heq,decide_false,Bool.and_false,Bool.false_eq_true,if_false]at ih2
      simp only[go_sem,e2,s3,s4,qK,hb2,ci2,q3,q4,q5,q6,r3,r4,r5,r6,heq']
      exact⟨(by unfold I64; omega),by simpa using ih2⟩
   ·refine aP [0,2,7,8,9,10,18,19,32,33] aLb.eq_1 ?_
    have e2:¬(d.weathers.length:Int)<d.weathers.length:=by omega
    have hg:=hg6 d.weathers.length (by omega)
    have s3:=aEE (a:=left) (b:=fV d left slot w d.weathers.length) l62 (by omega)
    obtain⟨v',H',ap,g',gle,gk,go⟩:=(hO.keep (aB.refl.app (L:=[some (.row [.int .i64 (fV d left slot w d.weathers.length:Int)])]) |>.toK (C:=[])) (by simp)).add (w0:=w0) (by rw[List.length_append]; have:=hH.1; omega) (fV d left slot w d.weathers.length:Int) H.length (by simp) (by simp; omega)
    simp only[go_sem,e2,s3,ap]
    refine⟨(by unfold I64; omega),?_⟩
    have:=ih (H',v') ⟨⟨by simp only; have:=hH.1; simp at gle; omega,fun i b e=>gk i _ (aD e) (aA (hH.2 i b e))⟩,by rw[cQ]; simp only[←eleft,hbit,if_true,List.map_append]; exact g'⟩
    rw[cQ]at this
    simp only[←eleft,hbit,if_true]at this
    simpa[eleft]using this
 ·obtain⟨H,ov⟩:=st
  obtain⟨hH,hO⟩:=I
  simp only at hH hO ⊢
  refine aP [0,2,7,8,18,19] aLa.eq_1 ?_
  have e1:¬(d.weathers.length:Int)<d.weathers.length:=by omega
  simp only[go_sem,e1]
  exact⟨hH,hO⟩
def putL(c:List Int)(o:Nat)(l:List Int):List Int:=c.take o++l++c.drop (o+l.length)
theorem aCd(c:List Int)(o:Nat)(l:List Int):cO (aN c) o (aN l)=aN (putL c o l):=by
 simp[cO,putL,aN,List.map_take,List.map_drop]
theorem jY{c:List Int}{o:Nat}{l:List Int}(h:o+l.length≤c.length):(putL c o l).length=c.length:=by
 simp[putL]; omega
theorem zM{H:Heap}{id o n:Nat}{c l:List Int}{v:AV}{f:Bool}(hid:H[id]? = some (some (.row (aN c))))(hv:SlI w0 H v l)(hl:l.length≤n)(ho:o+l.length≤c.length) :
 zN w0 H 1 (.sl (.own id o) n 1 f) v=some (.int .i64 (l.length:Int),H.set id (some (.row (aN (putL c o l))))):=by
 have hlen:vJ v=some l.length:=by
  rcases hv with⟨rfl,e⟩ | ⟨p,full,⟨es',rfl,_⟩,_,_⟩
  ·have:l=[]:=by simpa using e
   subst this; rfl
  ·simp[vJ]
 have hmin:min l.length n=l.length:=by omega
 by_cases hl0:l=[]
 ·subst hl0
  have:putL c o []=c:=by simp[putL]
  rw[this,pF hid]
  simp only[zN,hlen]
  simp[vJ]
 ·have hne:l.length≠0:=fun e=>hl0 (List.eq_nil_of_length_eq_zero e)
  have hsrc:xG w0 H 1 l.length v=some (aN l):=by
   rcases hv with⟨_,e⟩ | ⟨p,full,⟨es',rfl,he⟩,_,hr⟩
   ·exact absurd (by simpa using e) hl0
   ·have hall:=Sl.all (w0:=w0) (H:=H) (es:=1) (p:=p) (rows:=l.map fun z=>[AV.int .i64 z]) (by simpa using hl0) hr
    rw[←fQ,List.length_map]at hall
    simp only[xG,he,if_true]; exact hall
  have h1:vJ (.sl (.own id o) n 1 f)=some n:=rfl
  unfold zN
  rw[h1,hlen]
  simp only[Option.bind_some]
  rw[hmin,if_neg hne,hsrc]
  simp only[Option.bind_some,mA,hid,and_self,if_true]
  rw[if_pos (by simp; omega),aCd]
def vL(slot ws:Nat)(s:aF):List Int:=putL (putL (putL [(slot:Int),(ws:Int),0,0,0,0,0,0,0,0] 2 s.planes) 4 s.legs) 6 s.people
theorem aCF{slot ws:Nat}{s:aF}(h1:s.planes.length≤2)(h2:s.legs.length≤2)(h3:s.people.length≤4):(vL slot ws s).length=10:=by
 unfold vL
 have a1:=jY (c:=[(slot:Int),(ws:Int),0,0,0,0,0,0,0,0]) (o:=2) (l:=s.planes) (by simp; omega)
 have a2:=jY (c:=putL [(slot:Int),(ws:Int),0,0,0,0,0,0,0,0] 2 s.planes) (o:=4) (l:=s.legs) (by rw[a1]; simp; omega)
 have a3:=jY (c:=putL (putL [(slot:Int),(ws:Int),0,0,0,0,0,0,0,0] 2 s.planes) 4 s.legs) (o:=6) (l:=s.people) (by rw[a2,a1]; simp; omega)
 rw[a3,a2,a1]; rfl
theorem node_c(i slot ws:Nat)(s:aF)(sv:StV)(hs:StS w0 h s sv)(h1:s.planes.length≤2)(h2:s.legs.length≤2)(h3:s.people.length≤4) :
 aK Tryz.prog w0 106 [.ptr (.own i 0),.int .i64 (slot:Int),.int .i64 (ws:Int),.agg (stC sv)] h (.agg (aN (vL slot ws s))) h:=by
 refine aM aNG fun hb ha=> ?_
 have p1:=Sl.one hs.planes.s
 have p2:=Sl.one hs.legs.s
 have p3:=Sl.one hs.people.s
 have a1:=jY (c:=[(slot:Int),(ws:Int),0,0,0,0,0,0,0,0]) (o:=2) (l:=s.planes) (by simp; omega)
 have a2:=jY (c:=putL [(slot:Int),(ws:Int),0,0,0,0,0,0,0,0] 2 s.planes) (o:=4) (l:=s.legs) (by rw[a1]; simp; omega)
 have a3:=jY (c:=putL (putL [(slot:Int),(ws:Int),0,0,0,0,0,0,0,0] 2 s.planes) 4 s.legs) (o:=6) (l:=s.people) (by rw[a2,a1]; simp; omega)
 have z:∀(c:List Int),c.length=10→(h++[some (Blk.row [sv.pl,sv.le,sv.pe]),some (Blk.row [.int .i64 0,.int .i64 0,.int .i64 0,.int .i64 0,.int .i64 0,.int .i64 0,.int .i64 0,.int .i64 0,.int .i64 0,.int .i64 0]),some (.row (aN c))])[h.length+2]? = some (some (.row (aN c))):=fun c _=>by simp
 have q1:=fun f=>zM (w0:=w0) (n:=2) (o:=2) (l:=s.planes) (v:=sv.pl) (f:=f) (z [(slot:Int),(ws:Int),0,0,0,0,0,0,0,0] rfl) (Sl.app hs.planes.s) h1 (by simp; omega)
 have q2:=fun f=>zM (w0:=w0) (n:=2) (o:=4) (l:=s.legs) (v:=sv.le) (f:=f) (z (putL [(slot:Int),(ws:Int),0,0,0,0,0,0,0,0] 2 s.planes) a1) (Sl.app hs.legs.s) h2 (by rw[a1]; simp; omega)
 have q3:=fun f=>zM (w0:=w0) (n:=4) (o:=6) (l:=s.people) (v:=sv.pe) (f:=f) (z (putL (putL [(slot:Int),(ws:Int),0,0,0,0,0,0,0,0] 2 s.planes) 4 s.legs) (a2.trans a1)) (Sl.app hs.people.s) h3 (by rw[a2,a1]; simp; omega)
 have l1:(aN (putL [(slot:Int),(ws:Int),0,0,0,0,0,0,0,0] 2 s.planes)).length=10:=by rw[pR,a1]; rfl
 have l2:(aN (putL (putL [(slot:Int),(ws:Int),0,0,0,0,0,0,0,0] 2 s.planes) 4 s.legs)).length=10:=by rw[pR,a2,a1]; rfl
 have l3:(aN (putL (putL (putL [(slot:Int),(ws:Int),0,0,0,0,0,0,0,0] 2 s.planes) 4 s.legs) 6 s.people)).length=10:=by rw[pR,a3,a2,a1]; rfl
 have e0:[AV.int .i64 (slot:Int),.int .i64 (ws:Int),.int .i64 0,.int .i64 0,.int .i64 0,.int .i64 0,.int .i64 0,.int .i64 0,.int .i64 0,.int .i64 0]=aN [(slot:Int),(ws:Int),0,0,0,0,0,0,0,0]:=rfl
 simp only[go_sem,mf106,p1.1,p2.1,p3.1,p1.2,p2.2,p3.2]
 refine aAP dE aGp.eq_1 (by kernel_rfl) ?_
 rw[e0]
 have l0:(aN [(slot:Int),(ws:Int),0,0,0,0,0,0,0,0]).length=10:=by rw[pR]; rfl
 have t10:List.take 10 (aN (putL (putL (putL [(slot:Int),(ws:Int),0,0,0,0,0,0,0,0] 2 s.planes) 4 s.legs) 6 s.people))=aN (putL (putL (putL [(slot:Int),(ws:Int),0,0,0,0,0,0,0,0] 2 s.planes) 4 s.legs) 6 s.people):=List.take_of_length_le (by rw[l3]; exact Nat.le_refl _)
 simp only[go_sem,q1,q2,q3,l0,l1,l2,l3,p1.1,p2.1,p3.1,mA,t10]
 refine aAP dE aGo.eq_1 (by kernel_rfl) ?_
 simp only[go_sem,q1,q2,q3,l0,l1,l2,l3,p1.1,p2.1,p3.1,mA,t10]
 refine aAP dE aGn.eq_1 (by kernel_rfl) ?_
 simp only[go_sem,q1,q2,q3,l0,l1,l2,l3,p1.1,p2.1,p3.1,mA,t10]
 simp only[List.append_nil,l3,t10]
 simp only[go_sem,l3,t10]
 rfl
structure StN(d:aQ)(t:Nat)(s:aF):Prop where
 s1:s.planes.length=d.planes.length
 s2:s.legs.length=d.planes.length
 s3:s.people.length=d.people.length
 at_:∀x∈s.planes,0≤x∧x<d.places.length
 lg:∀x∈s.legs,0≤x∧x≤t
 pat:∀x∈s.people,0≤x∧x<d.places.length
theorem StN.ok{d:aQ}{t:Nat}{s:aF}(a:StN d t s)(ht:t<1000):nB d s:=⟨a.s1,a.s2,a.s3,a.at_,fun x hx=>by have:=a.lg x hx; omega⟩
structure StM(d:aQ)(t i:Nat)(s:aF):Prop where
 s1:s.planes.length=d.planes.length
 s2:s.legs.length=d.planes.length
 s3:s.people.length=d.people.length
 at_:∀x∈s.planes,0≤x∧x<d.places.length
 lg:∀(j:Nat) x,s.legs[j]? = some x→0≤x∧x≤t+1∧(i≤j→x≤t)
 pat:∀x∈s.people,0≤x∧x<d.places.length
theorem aCR{P:Int→Prop}{to:Int}(hto:P to):∀(l:List Int) (n:List Int),(∀x∈n,P x)→(l.foldl (fun(l:List Int) (n:Int)=>l.set n.toNat to) n).length=n.length∧∀x∈l.foldl (fun(l:List Int) (n:Int)=>l.set n.toNat to) n,P x
 | [],n,h=>⟨rfl,h⟩
 | a::l,n,h=>by
  have:=aCR hto l (n.set a.toNat to) fun x hx=>by
   rcases List.mem_or_eq_of_mem_set hx with hx | rfl
   ·exact h x hx
   ·exact hto
  exact⟨by rw[List.foldl_cons,this.1,List.length_set],this.2⟩
theorem aIY{d:aQ}{t i:Nat}{n:aF}{x:aH}(a:StM d t i n)(hx:xD d x)(h0:0≤x.to)(hi:i<d.planes.length):StM d t (i+1) (nQ n i x):=by
 have hf:=aCR (P:=fun y:Int=>0≤y∧y<d.places.length) (to:=x.to) ⟨h0,hx.hi⟩ x.people n.people a.pat
 refine⟨by simp[nQ,a.s1],by simp[nQ,a.s2],by simp only[nQ]; rw[hf.1,a.s3],fun y hy=> ?_,fun j y hy=> ?_,hf.2⟩
 ·simp only[nQ]at hy
  rcases List.mem_or_eq_of_mem_set hy with hy | rfl
  ·exact a.at_ y hy
  ·exact⟨h0,hx.hi⟩
 ·simp only[nQ]at hy
  by_cases e:i=j
  ·subst e
   rw[qF (by rw[a.s2]; exact hi)]at hy
   have hl:i<n.legs.length:=by rw[a.s2]; exact hi
   rw[aE hl]at hy
   have:=a.lg i _ (qA hl)
   have h3:=this.2.2 (Nat.le_refl _)
   cases hy
   omega
  ·rw[qB e]at hy
   have:=a.lg j y hy
   exact⟨this.1,this.2.1,fun hj=>this.2.2 (by omega)⟩
theorem aBA{d:aQ}{s:aF}{op:Int}{t:Nat}:∀(u:List aH) (i:Nat) (n:aF) (g:List Bool) (n':aF),i+u.length≤d.planes.length→(∀x∈u,xD d x)→StM d t i n→nF d s op u i n g= .ok n'→StM d t (i+u.length) n'
 | [],i,n,g,n',_,_,a,e=>by
  rw[nF]at e; cases e; exact a
 | x::u,i,n,g,n',hi,hu,a,e=>by
  rw[nF]at e
  have hsk:StM d t (i+1) n:=⟨a.s1,a.s2,a.s3,a.at_,fun j y hy=>⟨(a.lg j y hy).1,(a.lg j y hy).2.1,fun hj=>(a.lg j y hy).2.2 (by omega)⟩,a.pat⟩
  have hi':i+1+u.length≤d.planes.length:=by simp at hi; omega
  have hlen:i+(x::u).length=i+1+u.length:=by simp; omega
  rw[hlen]
  split at e
  ·exact aBA u (i+1) n g n' hi' (fun y hy=>hu y (List.mem_cons_of_mem _ hy)) hsk e
  ·rename_i hneg
   split at e
   ·cases e
   ·exact aBA u (i+1) _ _ n' hi' (fun y hy=>hu y (List.mem_cons_of_mem _ hy)) (aIY a (hu x (by simp)) (by omega) (by simp at hi; omega)) e
theorem aF1{d:aQ}{s:aF}{op:Int}{t:Nat}{u:List aH}(hl:u.length=d.planes.length)(hu:∀x∈u,xD d x)(a:StN d t s):StN d (t+1) (eJ d s op u).1:=by
 have hs:StN d (t+1) s:=⟨a.s1,a.s2,a.s3,a.at_,fun x hx=>⟨(a.lg x hx).1,by have:=(a.lg x hx).2; omega⟩,a.pat⟩
 rw[eJ]
 split
 ·exact hs
 ·rename_i n e
  have:=aBA u 0 s _ n (by omega) hu ⟨a.s1,a.s2,a.s3,a.at_,fun j y hy=>by have:=a.lg y (List.mem_of_getElem? hy); exact⟨this.1,by omega,fun _=>this.2⟩,a.pat⟩ e
  split
  ·exact hs
  ·refine⟨this.s1,this.s2,this.s3,this.at_,fun x hx=> ?_,this.pat⟩
   obtain⟨j,hj,rfl⟩:=List.mem_iff_getElem.1 hx
   have:=this.lg j _ (qA hj)
   exact⟨this.1,by have:=this.2.1; omega⟩
theorem aAo{d:aQ}{s:aF}{op:Int}{t:Nat}(hd:d.people.length≤4)(hp:0<d.places.length)(a:StN d t s):∀(k gone:Nat) (u:List aH),u.length+k=d.planes.length→gone<2^4→(∀x∈u,xD d x) →
 ∀y∈gD d s op k gone u,y.1.length=d.planes.length∧(∀x∈y.1,xD d x)∧(eJ d s op y.1).2.1=1∧y.2=(eJ d s op y.1).1
 | 0,gone,u,hk,_,hu,y,hy=>by
  rw[gD]at hy
  split at hy
  ·rename_i e
   simp at hy; subst hy
   exact⟨by simpa using hk,hu,e,rfl⟩
  ·cases hy
 | k+1,gone,u,hk,hg,hu,y,hy=>by
  rw[gD]at hy
  obtain⟨x,hx,hy⟩:=List.mem_flatMap.1 hy
  have hok:=wL hd hp hg x hx
  exact aAo hd hp a k x.2 (u++[x.1]) (by simp; omega) hok.2 (fun z hz=>by
   rcases List.mem_append.1 hz with hz | hz
   ·exact hu z hz
   ·simp at hz; subst hz; exact hok.1) y hy
theorem qT{d:aQ}{s:aF}{op:Int}{t:Nat}(dg:jJ d)(a:StN d t s):∀y∈fD d s op,y.1.length=d.planes.length∧(∀x∈y.1,xD d x)∧(eJ d s op y.1).2.1=1∧y.2=(eJ d s op y.1).1:=
 aAo dg.pe (by have:=dg.p0; omega) a _ _ _ (by simp) (by omega) (by simp)
theorem aAq{d:aQ}{s:aF}{op:Int}{t:Nat}(dg:jJ d)(a:StN d t s){y:List aH×aF}(hy:y∈fD d s op):StN d (t+1) y.2:=by
 obtain⟨h1,h2,_,h4⟩:=qT dg a y hy
 rw[h4]; exact aF1 h1 h2 a
theorem vY{g i:Nat}:bN (g / 2) i=bN g (i+1):=by
 unfold bN; rw[Nat.div_div_eq_div_mul,Nat.pow_succ,Nat.mul_comm]
theorem mX:∀(n g:Nat),(∃w,w<n∧bN g w=true)→bN g (iK g n)=true∧(∀i,i<iK g n→bN g i=false)∧iK g n<n
 | 0,g,⟨w,hw,_⟩=>by omega
 | n+1,g,⟨w,hw,hb⟩=>by
  rw[iK]
  cases h0:bN g 0 with
  | true=>exact⟨h0,fun i hi=>by simp at hi,by simp⟩
  | false=>
   simp only[Bool.false_eq_true,if_false]
   have hw0:w≠0:=fun e=>by rw[e,h0]at hb; cases hb
   obtain⟨h1,h2,h3⟩:=mX n (g / 2) ⟨w - 1,by omega,by rw[vY,show w - 1+1=w by omega]; exact hb⟩
   refine⟨by rw[←vY]; exact h1,fun i hi=> ?_,by omega⟩
   cases i with
   | zero=>exact h0
   | succ i=>rw[←vY]; exact h2 i (by omega)
theorem gU{g i:Nat}:bN g i=g.testBit i:=by
 unfold bN
 rw[Nat.testBit_eq_decide_div_mod_eq]
theorem sS{d:aQ}{left slot w:Nat}:∀n i,bN (fV d left slot w n) i=(decide (i<n)&&(bN left i&&decide (wAt d i slot=wAt d w slot)))
 | 0,i=>by simp[fV,gU]
 | n+1,i=>by
  have ih:=sS (d:=d) (left:=left) (slot:=slot) (w:=w) n i
  rw[fV]
  have hi:i<n+1↔i<n∨i=n:=by omega
  by_cases e:i=n
  ·subst e
   split
   ·rename_i h
    rw[gU,Nat.testBit_or,←gU,ih]
    simp[Nat.testBit_two_pow_self,h]
   ·rename_i h
    rw[ih]
    simp[Bool.not_eq_true]at h ⊢
    exact h
  ·have:decide (i<n+1)=decide (i<n):=by rw[decide_eq_decide]; omega
   rw[this]
   split
   ·rw[gU,Nat.testBit_or,←gU,ih,Nat.testBit_two_pow_of_ne (by omega),Bool.or_false]
   ·exact ih
theorem pS{d:aQ}{ws slot:Nat}:∀n,n≤d.weathers.length→∀g∈(cQ d ws slot n).2,(∃w,w<d.weathers.length∧bN g w=true)∧g<2^d.weathers.length
 | 0,_,g,hg=>by simp[cQ]at hg
 | n+1,hn,g,hg=>by
  rw[cQ]at hg
  split at hg
  ·rename_i hb
   rcases List.mem_append.1 hg with hg | hg
   ·exact pS n (by omega) g hg
   ·simp at hg
    subst hg
    refine⟨⟨n,by omega,?_⟩,vP _⟩
    rw[sS,hb]
    simp; omega
  ·exact pS n (by omega) g hg
theorem wK{d:aQ}{ws slot g:Nat}(hg:g∈eS d ws slot):(∃w,w<d.weathers.length∧bN g w=true)∧g<2^d.weathers.length:=pS _ (Nat.le_refl _) g hg
theorem lJ{c l:List Int}{o k:Nat}(hk:k≤o)(ho:o≤c.length):(putL c o l).take k=c.take k:=by
 rw[putL,List.append_assoc,List.take_append_of_le_length (by rw[List.length_take]; omega),List.take_take]
 congr 1; omega
theorem yL{c l:List Int}{o:Nat}(ho:o≤c.length):((putL c o l).drop o).take l.length=l:=by
 rw[putL,List.append_assoc,List.drop_append_of_le_length (by rw[List.length_take]; omega)]
 have:(c.take o).drop o=[]:=List.drop_eq_nil_of_le (by rw[List.length_take]; omega)
 rw[this,List.nil_append,List.take_append_of_le_length (Nat.le_refl _),List.take_length]
theorem aCG{slot ws:Nat}{s:aF}(h1:s.planes.length≤2)(h2:s.legs.length≤2)(h3:s.people.length≤4) :
 (vL slot ws s).take 2=[(slot:Int),(ws:Int)]∧(((vL slot ws s).take 4).drop 2).take s.planes.length=s.planes∧(((vL slot ws s).take 6).drop 4).take s.legs.length=s.legs∧((vL slot ws s).drop 6).take s.people.length=s.people:=by
 obtain⟨c0,e0⟩:∃c0,c0=[(slot:Int),(ws:Int),0,0,0,0,0,0,0,0]:=⟨_,rfl⟩
 have a0:c0.length=10:=by rw[e0]; rfl
 have a1:(putL c0 2 s.planes).length=10:=by rw[jY (by omega),a0]
 have a2:(putL (putL c0 2 s.planes) 4 s.legs).length=10:=by rw[jY (by omega),a1]
 have ek:vL slot ws s=putL (putL (putL c0 2 s.planes) 4 s.legs) 6 s.people:=by rw[e0]; rfl
 have td:∀(l:List Int) (a b k:Nat),k≤b - a→((l.take b).drop a).take k=(l.drop a).take k:=fun l a b k hk=>by
  rw[List.drop_take,List.take_take]; congr 1; omega
 refine⟨?_,?_,?_,?_⟩
 ·rw[ek,lJ (by omega) (by omega),lJ (by omega) (by omega),lJ (by omega) (by omega),e0]; rfl
 ·rw[ek,lJ (by omega) (by omega),lJ (by omega) (by omega),td _ 2 4 _ (by omega),yL (by omega)]
 ·rw[ek,lJ (by omega) (by omega),td _ 4 6 _ (by omega),yL (by omega)]
 ·rw[ek,yL (by omega)]
theorem aJn{slot ws slot' ws':Nat}{s s':aF}(h1:s.planes.length≤2)(h2:s.legs.length≤2)(h3:s.people.length≤4)(e1:s'.planes.length=s.planes.length)(e2:s'.legs.length=s.legs.length)(e3:s'.people.length=s.people.length)
 (e:vL slot ws s=vL slot' ws' s'):slot=slot'∧ws=ws'∧s=s':=by
 obtain⟨a1,a2,a3,a4⟩:=aCG (slot:=slot) (ws:=ws) h1 h2 h3
 obtain⟨b1,b2,b3,b4⟩:=aCG (slot:=slot') (ws:=ws') (s:=s') (by omega) (by omega) (by omega)
 rw[e]at a1 a2 a3 a4
 rw[e1]at b2
 rw[e2]at b3
 rw[e3]at b4
 rw[a1]at b1
 rw[a2]at b2
 rw[a3]at b3
 rw[a4]at b4
 simp at b1
 refine⟨by omega,by omega,?_⟩
 cases s; cases s'
 simp only at b2 b3 b4
 rw[b2,b3,b4]
def ten:Bool×List Bool:=(true,[true,true,true,true,true,true,true,true,true,true])
theorem aAV:∀(a b:List Int),a.length=b.length→dU (List.replicate a.length true) (aN a) (aN b)=some (a==b)
 | [],[],_=>rfl
 | x::xs,y::ys,e=>by
  have ih:=aAV xs ys (by simpa using e)
  simp only[aN,List.map_cons,List.length_cons,List.replicate_succ,dU,ceq]at ih ⊢
  rw[ih]
  by_cases h:x=y
  ·subst h; simp
  ·have h2:(x==y)=false:=beq_eq_false_iff_ne.2 h
   have h3:(x::xs==y::ys)=false:=by rw[List.cons_beq_cons,h2]; rfl
   rw[h2,h3]; simp
theorem aJo{a b:List Int}(ha:a.length=10)(hb:b.length=10):keq ten (.agg (aN a)) (.agg (aN b))=some (decide (a=b)):=by
 have:=aAV a b (by omega)
 rw[ha]at this
 simp only[keq,ten,if_true]
 refine Eq.trans this ?_
 congr 1
 by_cases e:a=b<;>simp[e]
def iC(M:List (List Int×Int)):List (AV×AV):=M.map fun m=>(.agg (aN m.1),.int .i64 m.2)
theorem vT{K:List Int}(hK:K.length=10):∀(M:List (List Int×Int)) (i:Nat),(∀m∈M,m.1.length=10) →
 iA ten (.agg (aN K)) (iC M) i=some none∨∃(j:Nat) (c:Int),M[j]? = some (K,c)∧iA ten (.agg (aN K)) (iC M) i=some (some (i+j,.int .i64 c))
 | [],i,_=> .inl rfl
 | (K',c)::M,i,hM=>by
  have hK':=hM _ List.mem_cons_self
  have ih:=vT hK M (i+1) fun m hm=>hM m (List.mem_cons_of_mem _ hm)
  simp only[iC,List.map_cons,iA]at ih ⊢
  rw[aJo hK hK']
  by_cases e:K=K'
  ·subst e
   exact .inr ⟨0,c,rfl,by simp⟩
  ·simp only[e,decide_false]
   rcases ih with h1 | ⟨j,y,h1,h2⟩
   ·exact .inl h1
   ·exact .inr ⟨j+1,y,by simpa using h1,by rw[h2,Nat.add_assoc,Nat.add_comm 1 j]⟩
def qO(d:aQ)(M:List (List Int×Int)):Prop:=∀K c,(K,c)∈M→K.length=10∧∀k slot ws s,slot+(k+1)=aL d→s.planes.length=d.planes.length→s.legs.length=d.planes.length→s.people.length=d.people.length→vL slot ws s=K→eP d k slot ws s=c
structure mL(w0:World)(d:aQ)(v:cU)(i im:Nat)(ms:List Nat)(H:Heap):Prop where
 hD:rL w0 (msk ms H) d v (.map im) i
 n0:im∈ms
 n2:∀c∈ms,c<H.length
 memo:∃M,H[im]? = some (some (.map (iC M)))∧qO d M
theorem mL.keep{d:aQ}{v:cU}{i im:Nat}{ms C:List Nat}{H H':Heap}(a:mL w0 d v i im ms H)(t:Keep C H H')(hC:∀c∈C,c∈ms∨H.length≤c)(hm:H'[im]? = H[im]?):mL w0 d v i im ms H':=by
 refine⟨a.hD.sub (t.msk hC),a.n0,fun c hc=>Nat.lt_of_lt_of_le (a.n2 c hc) t.le,?_⟩
 rw[hm]; exact a.memo
theorem mL.app{d:aQ}{v:cU}{i im:Nat}{ms:List Nat}{H L:Heap}(a:mL w0 d v i im ms H):mL w0 d v i im ms (H++L):=
 a.keep (C:=[]) aB.refl.app.toK (by simp) (qH (a.n2 _ a.n0))
theorem aKi{d:aQ}(dg:jJ d)(s:aF)(i:Nat):0≤oA d s i∧oA d s i≤1000000:=by
 rw[oA]
 split
 ·omega
 ·rw[List.getD_eq_getElem?_getD]
  cases e:d.planes[i]? with
  | none=>simp
  | some p=>have:=(dg.planes p (List.mem_of_getElem? e)).2.2.2.2; simpa using this
theorem aGX{d:aQ}(dg:jJ d)(s:aF)(i:Nat):0≤kQ d s i∧kQ d s i≤1000000:=by
 have hp:(0≤(d.people.getD i ⟨0,0,0,0,0⟩).strand∧(d.people.getD i ⟨0,0,0,0,0⟩).strand≤1000000)∧(0≤(d.people.getD i ⟨0,0,0,0,0⟩).lodged∧(d.people.getD i ⟨0,0,0,0,0⟩).lodged≤1000000):=by
  rw[List.getD_eq_getElem?_getD]
  cases e:d.people[i]? with
  | none=>simp
  | some p=>have:=(dg.people p (List.mem_of_getElem? e)).2.2.2; simpa using this
 rw[kQ]
 split
 ·omega
 ·split
  ·exact hp.2
  ·exact hp.1
def aKC(w0:World)(d:aQ)(v:cU)(i im:Nat)(ms:List Nat)(h:Heap)(c:Int)(y:AV)(H:Heap):Prop:=y= .int .i64 c∧Keep [im] h H∧mL w0 d v i im ms H
theorem xI{d:aQ}{v:cU}{m:AV}{i:Nat}(hD:rL w0 h d v m i)(dg:jJ d):∃(p:Pl) (x:AV),cF 1 v.we (some 0)=some (.ptr p)∧(∀L,rd w0 (h++L) p=some x)∧dA x=some (.int .i64 (aL d:Int)):=by
 obtain⟨p,x,p1,p2,p3⟩:=hD.R.weathers.at_ (j:=0) (by have:=dg.w0; omega)
 refine⟨p,x,p1,p2,?_⟩
 have:=(SlI.use p3).1
 rw[this,(dg.rows _ (qG _)).1]
def aEP(w0:World)(d:aQ)(v:cU)(i im k:Nat):Prop:=∀(slot g:Nat) (s:aF) (sv:StV) (ms:List Nat) (h:Heap),slot+(k+1)=aL d→g<2^d.weathers.length→(∃w,w<d.weathers.length∧bN g w=true)→StN d slot s→mL w0 d v i im ms h→StS w0 (msk ms h) s sv →
 ACall Tryz.prog w0 52 [.ptr (.own i 0),.int .i64 (slot:Int),.int .i64 (g:Int),.agg (stC sv)] h (aKC w0 d v i im ms h (eP d k slot g s))
def vB(w0:World)(d:aQ)(v:cU)(i im k:Nat):Prop:=∀(slot ws:Nat) (s:aF) (sv:StV) (ms:List Nat) (h:Heap),slot+k=aL d→ws<2^50→StN d slot s→mL w0 d v i im ms h→StS w0 (msk ms h) s sv →
 ACall Tryz.prog w0 55 [.ptr (.own i 0),.int .i64 (slot:Int),.int .i64 (ws:Int),.agg (stC sv)] h (aKC w0 d v i im ms h (cX d k ws s))
theorem aA1(d:aQ)(v:cU)(i im:Nat)(dg:jJ d):vB w0 d v i im 0:=by
 intro slot ws s sv ms h hk hw hs I S
 refine aO aI1 fun hb ha=> ?_
 have un:=bD (ms:=ms) (A:=h)
 have hD:=I.hD.sub un
 have hS:=S.sub un
 obtain⟨p,x,w1,w2,w3⟩:=xI hD dg
 have ci:∀L,(h++L)[i]? = some (some (.row (aX v++[.map im]))):=fun L=>aA hD.hd
 have p1:=Sl.one hS.planes.s
 have p2:=Sl.one hS.legs.s
 have p3:=Sl.one hS.people.s
 have e0:((slot:Int)==(aL d:Int))=true:=by simp; omega
 simp only[go_sem,mf55,p1.1,p2.1,p3.1,p1.2,p2.2,p3.2,ci,w1,w2,w3,e0]
 have sl5:=dg.s1
 refine aC (cost_c (h:=h++[some (Blk.row [sv.pl,sv.le,sv.pe])]) d v (.map im) i s sv (hD.sub aB.refl.app) (hS.sub aB.refl.app) (hs.ok (by omega)) (aKi dg s) (aGX dg s) hs.pat).v ?_
 simp only[go_sem]
 exact⟨rfl,aB.refl.app.toK,I.app⟩
theorem aHG(d:aQ)(v:cU)(i im k:Nat)(dg:jJ d)(L:aEP w0 d v i im k):vB w0 d v i im (k+1):=by
 intro slot ws s sv ms h hk hw hs I S
 refine aO aI1 fun hb ha=> ?_
 have un:=bD (ms:=ms) (A:=h)
 have hD:=I.hD.sub un
 have hS:=S.sub un
 obtain⟨p,x,w1,w2,w3⟩:=xI hD dg
 have ci:∀L,(h++L)[i]? = some (some (.row (aX v++[.map im]))):=fun L=>aA hD.hd
 have p1:=Sl.one hS.planes.s
 have p2:=Sl.one hS.legs.s
 have p3:=Sl.one hS.people.s
 have e0:((slot:Int)==(aL d:Int))=false:=by simp; omega
 simp only[go_sem,mf55,p1.1,p2.1,p3.1,p1.2,p2.2,p3.2,ci,w1,w2,w3,e0]
 refine aJ (ACall.v3 (aCI (h:=h++[some (Blk.row [sv.pl,sv.le,sv.pe])]) d v (.map im) i ws slot (hD.sub aB.refl.app) dg (by omega) hw)) ?_
 rintro y H ⟨sH,gI⟩
 have hhH:aB h H:=aB.refl.app.trans sH
 have es:slot=aL d - (k+1):=by omega
 obtain⟨gs,egs⟩:∃gs,gs=eS d ws slot:=⟨_,rfl⟩
 have hgs:∀g∈gs,_:=fun g hg=>wK (d:=d) (ws:=ws) (slot:=slot) (egs▸hg)
 have hgl:gs.length≤6:=by
  have:=(oK (d:=d) (slot:=slot) hw d.weathers.length).2
  have h6:=dg.w1
  rw[egs]; exact Nat.le_trans this h6
 have efin:cX d (k+1) ws s=gs.foldl (fun m g=>max m (eP d k slot g s)) 0:=by rw[cX,egs,es]; rfl
 rw[←egs]at gI
 have ln:=(SlI.use (gI.n.s (w0:=w0))).1
 rw[List.length_map]at ln
 simp only[go_sem,ln]
 have b7:H[h.length]? = some (some (.row (stC sv))):=sH.2 _ _ (by simp[stC])
 have hlt:=sH.1
 rw[List.length_append]at hlt
 simp only[List.length_cons,List.length_nil]at hlt
 refine bS (S:=Heap) (fun j _=>[(0,.ptr (.own i 0)),(1,.int .i64 (slot:Int)),(7,.ptr (.own h.length 0)),(9,.int .i64 ((gs.take j).foldl (fun m g=>max m (eP d k slot g s)) 0)),(28,y),(29,.int .i64 (gs.length:Int)),(30,.int .i64 (j:Int))]) (fun _ H2=>H2)
  (fun _ H2=>Keep [im] H H2∧mL w0 d v i im ms H2) gs.length H ⟨Keep.refl,I.keep (C:=[]) hhH.toK (by simp) (by have h1:=I.n2 _ I.n0; obtain⟨M,e,_⟩:=I.memo; rw[e]; exact hhH.2 _ _ e)⟩ rfl rfl (fun j H2 hj J ih=> ?_) (fun H2 J=> ?_)
 ·refine aP [0,1,7,9,28,29,30] aK8.eq_1 ?_
  obtain⟨kJ,J⟩:=J
  have himl:=I.n2 _ I.n0
  have e1:(j:Int)<gs.length:=by omega
  have g2:=gI.keep kJ (C:=[im]) (by simp; omega)
  obtain⟨_,q,qi,qr⟩:=SlI.use (g2.n.s (w0:=w0))
  have hjm:j<(gs.map Int.ofNat).length:=by simpa using hj
  have q1:=qi j hjm
  have q2:=qr j hjm []
  rw[List.append_nil]at q2
  have q3:(gs.map Int.ofNat)[j]=(gs[j]:Int):=by simp
  rw[q3]at q2
  have c7:H2[h.length]? = some (some (.row (stC sv))):=kJ.at_ _ _ (by simp; omega) b7
  have hg:=hgs gs[j] (qG hj)
  simp only[go_sem,e1,q1,q2,c7]
  refine aJ (ACall.v4 (L slot gs[j] s sv ms H2 (by omega) hg.2 hg.1 hs J (S.sub ((((aB.toK hhH).trans kJ).msk (ms:=ms) fun c hc=> .inl (by simp at hc; subst hc; exact I.n0)))))) ?_
  rintro y2 H3 ⟨rfl,k3,J3⟩
  simp only[go_sem]
  refine⟨(by unfold I64; omega),?_⟩
  have:=ih H3 ⟨kJ.trans k3,J3⟩
  rw[List.take_add_one,qA hj,List.foldl_append]at this
  simpa using this
 ·refine aP [0,1,7,9,28,29,30] aK8.eq_1 ?_
  obtain⟨kJ,J⟩:=J
  have himl:=I.n2 _ I.n0
  have e1:¬(gs.length:Int)<gs.length:=by omega
  simp only[go_sem,e1]
  rw[List.take_length,←efin]
  exact⟨rfl,(aB.toK hhH).trans kJ,J⟩
theorem jJ.seats{d:aQ}(dg:jJ d):∀p∈d.planes,0≤p.seats∧p.seats≤1000:=fun p hp=>by have:=(dg.planes p hp).2.2.1; omega
theorem Keep.iter{C O:List Nat}{G H H2:Heap}(a:Keep C G H)(t:Keep O H H2)(hO:∀c∈O,G.length≤c):Keep C G H2:=
 ⟨Nat.le_trans a.le t.le,fun i b hi e=>t.at_ i b (fun hx=>by have:=hO i hx; have:=aI e; omega) (a.at_ i b hi e)⟩
theorem aJa{d:aQ}{k slot g im:Nat}{s:aF}{key:List Int}{H:Heap}(dg:jJ d){t:Nat}(hs:StN d t s)(hk:slot+(k+1)=aL d)(ek:key=vL slot g s)(hM:∃M,H[im]? = some (some (.map (iC M)))∧qO d M) :
 ∃M2,wE H ten (.map im) (.agg (aN key)) (.int .i64 (eP d k slot g s))=some (.undef,H.set im (some (.map (iC M2))))∧qO d M2:=by
 have hpn:=dg.pn
 have hpe:=dg.pe
 have k1:s.planes.length≤2:=by rw[hs.s1]; exact hpn
 have k2:s.legs.length≤2:=by rw[hs.s2]; exact hpn
 have k3:s.people.length≤4:=by rw[hs.s3]; exact hpe
 have kl:=aCF (slot:=slot) (ws:=g) k1 k2 k3
 rw[←ek]at kl
 obtain⟨M,hM,hMok⟩:=hM
 have hnn:(keq ten (.agg (aN key)) (.agg (aN key))).isNone=false:=by rw[aJo kl kl]; rfl
 have fin:∀M2:List (List Int×Int),(∀q∈M2,q∈M∨q=(key,eP d k slot g s))→qO d M2:=fun M2 h2 K c hc=>by
  rcases h2 _ hc with h | h
  ·exact hMok K c h
  ·cases h
   refine⟨kl,fun k' slot' ws' s' hk' e1 e2 e3 e=> ?_⟩
   obtain⟨rfl,rfl,rfl⟩:=aJn (slot:=slot) (ws:=g) (slot':=slot') (ws':=ws') k1 k2 k3 (by rw[e1,hs.s1]) (by rw[e2,hs.s2]) (by rw[e3,hs.s3]) (by rw[←ek,e])
   have:k'=k:=by omega
   rw[this]
 rcases vT kl M 0 (fun m hm=>(hMok _ _ hm).1)with hf | ⟨i,x,hi,hf⟩
 ·refine⟨M++[(key,eP d k slot g s)],?_,fin _ fun q hq=>by simpa using hq⟩
  have e:iC (M++[(key,eP d k slot g s)])=iC M++[(.agg (aN key),.int .i64 (eP d k slot g s))]:=by simp[iC]
  rw[e]
  simp only[wE,hnn,hM,hf]; rfl
 ·refine⟨M.set i (key,eP d k slot g s),?_,fin _ fun q hq=>List.mem_or_eq_of_mem_set hq⟩
  have e:iC (M.set i (key,eP d k slot g s))=(iC M).set i (.agg (aN key),.int .i64 (eP d k slot g s)):=by simp[iC,List.map_set]
  rw[Nat.zero_add]at hf
  rw[e]
  simp only[wE,hnn,hM,hf]; rfl
theorem aFR(d:aQ)(v:cU)(i im k:Nat)(dg:jJ d)(B:vB w0 d v i im k):aEP w0 d v i im k:=by
 intro slot g s sv ms h hk hg hgb hs I S
 refine aO mf52_k fun hb ha=> ?_
 have un:=bD (ms:=ms) (A:=h)
 have hD:=I.hD.sub un
 have hS:=S.sub un
 have p1:=Sl.one hS.planes.s
 have p2:=Sl.one hS.legs.s
 have p3:=Sl.one hS.people.s
 have hpn:=dg.pn
 have hpe:=dg.pe
 have sl5:=dg.s1
 have k1:s.planes.length≤2:=by rw[hs.s1]; exact hpn
 have k2:s.legs.length≤2:=by rw[hs.s2]; exact hpn
 have k3:s.people.length≤4:=by rw[hs.s3]; exact hpe
 have kl:=aCF (slot:=slot) (ws:=g) k1 k2 k3
 obtain⟨key,ekey⟩:∃key,key=vL slot g s:=⟨_,rfl⟩
 have ci:∀L,(h++L)[i]? = some (some (.row (aX v++[.map im]))):=fun L=>aA hD.hd
 obtain⟨M,hM,hMok⟩:=I.memo
 have cm:=xL hM
 have himl:=I.n2 _ I.n0
 simp only[go_sem,mf52,p1.1,p2.1,p3.1,p1.2,p2.2,p3.2]
 refine aC (node_c i slot g s sv (hS.sub aB.refl.app) k1 k2 k3).v ?_
 rw[←ekey]at kl ⊢
 have k10:(aN key).length=10:=by rw[pR,kl]
 have t10:List.take 10 (aN key)=aN key:=List.take_of_length_le (by rw[k10]; exact Nat.le_refl _)
 have hnn:(keq ten (.agg (aN key)) (.agg (aN key))).isNone=false:=by rw[aJo kl kl]; rfl
 rcases vT kl M 0 (fun m hm=>(hMok _ _ hm).1)with hf | ⟨j,c,hj,hf⟩
 ·have elook:∀L,wG (h++L) ten (.int .i64 0) true (.map im) (.agg (aN key))=some (.tup [.int .i64 0,.bool false]):=fun L=>by
   simp only[wG,hnn,cm,hf]; rfl
  simp only[ten]at elook
  simp only[go_sem,mA,k10,t10,ci,elook,List.append_nil]
  clear elook hf cm
  obtain⟨f1,f2,f3⟩:=mX d.weathers.length g hgb
  obtain⟨w,ew⟩:∃w,w=iK g d.weathers.length:=⟨_,rfl⟩
  rw[←ew]at f1 f2 f3
  have hW6:=dg.w1
  have hg50:g<2^50:=Nat.lt_of_lt_of_le hg (Nat.pow_le_pow_right (by omega) (by omega))
  obtain⟨p,x,r1,r2,r3⟩:=hD.R.weathers.at_ f3
  obtain⟨_,q,qi,qr⟩:=SlI.use r3
  have hsl:slot<d.weathers[w].length:=by rw[(dg.rows _ (qG f3)).1]; omega
  have r4:=qi slot hsl
  have r5:∀L,rd w0 (h++L) (q.add slot)=some (.int .i64 (wAt d w slot)):=fun L=>by rw[xY f3 hsl]; exact qr slot hsl L
  have hop:=(dg.rows _ (qG f3)).2 _ (qG hsl)
  rw[←xY f3 hsl]at hop
  refine iS dE [0,1,2,3,4,5,6,7,11,8,9,10,12,13,14] [o_ 32 (l_ 4),o_ 33 (.load (.t 7) (some 3)),o_ 34 (l_ 4),o_ 35 (.nilck (.t 34)),o_ 36 (.addr (.t 35) 0),o_ 37 (.addr (.t 36) 4),o_ 38 (l_ 37),o_ 39 (l_ 6),o_ 43 (l_ 5),.call (some 40) none (f_ 54) [(.t 39)]] [([(0,o_ 32 (l_ 4)),(1,o_ 33 (.load (.t 7) (some 3))),(2,o_ 34 (l_ 4)),(6,o_ 38 (l_ 37)),(8,o_ 43 (l_ 5))],[o_ 41 (.idxs 1 (.t 38) (.t 40)),o_ 42 (l_ 41),o_ 44 (.idxs 1 (.t 42) (.t 43)),o_ 45 (l_ 44),.call (some 46) none (f_ 53) [(.t 32),(.t 33),(.t 45)]])] rfl rfl (by kernel_rfl) ?_
  simp only[go_sem,ci,r1,r2,r4,r5,p1.1,p2.1,p3.1,p1.2,p2.2,p3.2]
  refine aC (aF5 g w (by omega) f1 f2 hg50).v ?_
  simp only[go_sem,ci,r1,r2,r4,r5,p1.1,p2.1,p3.1,p1.2,p2.2,p3.2]
  refine aC (aB5 i sv (wAt d w slot) p1 p2 p3).v ?_
  simp only[go_sem]
  refine lD [4,5,6,9,12,46] ?_
  simp only[go_sem]
  refine oE (fid:=107) (first:=[]) rfl (.inl rfl) fun hca hcb hps=> ?_
  simp only[go_sem]
  obtain⟨rec_,erec⟩:∃rec_:LoopState→Option Code→Blk,rec_=fun st pd=>Blk.loop 70 [(4,AV.ptr (Pl.own h.length 0)),(5,AV.ptr (Pl.own (h.length+1) 0)),(6,AV.ptr (Pl.own (h.length+2) 0)),(9,AV.ptr (Pl.own (h.length+4) 0)),(12,AV.ptr (Pl.own (h.length+5) 0)),(46,AV.fn (Fn.func 107) [] [AV.ptr (Pl.own (h.length+6) 0),AV.ptr (Pl.own (h.length+7) 0),AV.ptr (Pl.own (h.length+8) 0)])] #[47,48] (aV (bJ 52) [1,1,1,1,0,1,0,0]) (aV (bJ 52) [1,1,1,1,0,1,0,1]) st pd:=⟨_,rfl⟩
  obtain⟨G,eG⟩:∃G,G=h++[some (Blk.row [AV.ptr (Pl.own i 0)]),some (Blk.row [AV.int .i64 (slot:Int)]),some (Blk.row [AV.int .i64 (g:Int)]),some (Blk.row [sv.pl,sv.le,sv.pe]),some (Blk.row (aN key)),some (Blk.row [AV.int .i64 (-1)]),some (Blk.row [AV.ptr (Pl.own i 0)]),some (Blk.row [sv.pl,sv.le,sv.pe]),some (Blk.row [AV.int .i64 (wAt d w slot)]),some (rec_ .ready none)]:=⟨_,rfl⟩
  have eG':=eG
  simp only[erec]at eG'
  rw[←eG']
  have hhG:aB h G:=by rw[eG]; exact aB.refl.app
  have gl:G.length=h.length+10:=by rw[eG]; simp
  have g0:G[h.length]? = some (some (.row [.ptr (.own i 0)])):=by rw[eG]; simp
  have g1:G[h.length+1]? = some (some (.row [.int .i64 (slot:Int)])):=by rw[eG]; simp
  have g2:G[h.length+2]? = some (some (.row [.int .i64 (g:Int)])):=by rw[eG]; simp
  have g4:G[h.length+4]? = some (some (.row (aN key))):=by rw[eG]; simp
  have g5:G[h.length+5]? = some (some (.row [.int .i64 (-1)])):=by rw[eG]; simp
  have g9:G[h.length+9]? = some (some (rec_ .ready none)):=by rw[eG]; simp
  have hil:=aD hD.hd
  have him:i≠im:=fun e=>by have:=hD.hd; rw[e,hM]at this; cases this
  obtain⟨Cs,eCs⟩:∃Cs,Cs=[h.length+9,h.length+5,im]:=⟨_,rfl⟩
  obtain⟨ns,ens⟩:∃ns,ns=(h.length+9)::(h.length+5)::ms:=⟨_,rfl⟩
  have hns:∀c∈ns,c∈ms∨h.length≤c:=fun c hc=>by rw[ens]at hc; rcases List.mem_cons.1 hc with rfl | hc; exact .inr (by omega); rcases List.mem_cons.1 hc with rfl | hc; exact .inr (by omega); exact .inl hc
  have hCn:∀c∈Cs,c∈ns:=fun c hc=>by rw[eCs]at hc; rw[ens]; simp at hc; rcases hc with rfl | rfl | rfl; simp; simp; simp[I.n0]
  have hn2:∀c∈ns,c<G.length:=fun c hc=>by rw[ens]at hc; rcases List.mem_cons.1 hc with rfl | hc; omega; rcases List.mem_cons.1 hc with rfl | hc; omega; have:=I.n2 c hc; omega
  have hnn':∀c,h.length≤c→c≠h.length+9→c≠h.length+5→c∉ns:=fun c h1 h2 h3 hc=>by rw[ens]at hc; rcases List.mem_cons.1 hc with rfl | hc; exact h2 rfl; rcases List.mem_cons.1 hc with rfl | hc; exact h3 rfl; have:=I.n2 c hc; omega
  have hnC:∀c,c∉ns→c∉Cs:=fun c h1 h2=>h1 (hCn c h2)
  have hsG:aB (msk ms h) (msk ns G):=(aB.toK (C:=[]) hhG).mskm (by simp) hns
  have hDG:=I.hD.sub hsG
  have hSG:=S.sub hsG
  have hiC:i∉Cs:=fun hc=>by rw[eCs]at hc; simp at hc; omega
  have hiG:G[i]? = some (some (.row (aX v++[.map im]))):=hhG.2 _ _ hD.hd
  obtain⟨KF,eKF⟩:∃KF:Heap→Prop,KF=fun h'=>rgE Tryz.prog w0 none 70 h.length (resK w0 [RV.t 8] (aKC w0 d v i im ms h (eP d k slot g s)))
   [It.inBlk 0, It.code ((SC.draw [true] [MIx.op (some 63) none (MOp.load (Opd.t 4) none), MIx.op (some 64) none (MOp.nilck (Opd.t 63)), MIx.op (some 65) none (MOp.addr (Opd.t 64) 5), MIx.op (some 66) none (MOp.load (Opd.t 65) none), MIx.op (some 67) none (MOp.load (Opd.t 9) (some 10)), MIx.op (some 68) none (MOp.load (Opd.t 12) none),
               MIx.op none none (MOp.mput (true,[true,true,true,true,true,true,true,true,true,true]) (Opd.t 66) (Opd.t 67) (Opd.t 68))] [[],[0],[1,0],[2,1,0],[],[],[3,2,1,0,4,5]]).seq
         ((SC.reg [MIx.op (some 69) none (MOp.load (Opd.t 12) none),MIx.op (some 8) none (MOp.mov (Opd.t 69))]).seq SC.ret))]
   [(4,AV.ptr (Pl.own h.length 0)),(5,AV.ptr (Pl.own (h.length+1) 0)),(6,AV.ptr (Pl.own (h.length+2) 0)),(9,AV.ptr (Pl.own (h.length+4) 0)),(12,AV.ptr (Pl.own (h.length+5) 0)),(46,AV.fn (Fn.func 107) [] [AV.ptr (Pl.own (h.length+6) 0),AV.ptr (Pl.own (h.length+7) 0),AV.ptr (Pl.own (h.length+8) 0)])]
   h'[h.length+9]? (h'.set (h.length+9) none):=⟨_,rfl⟩
  rw[←eKF]
  refine aFr ns d v (.map im) i s sv (wAt d w slot) (h.length+9) (h.length+6) (h.length+7) (h.length+8) KF (hs.ok (by omega)) dg.seats (by have:=dg.p0; omega) hop.1 (by have:=hop.2; omega) hn2 (by rw[aT (hnn' _ (by omega) (by omega) (by omega)),eG]; simp) (by rw[aT (hnn' _ (by omega) (by omega) (by omega)),eG]; simp[stC]) (by rw[aT (hnn' _ (by omega) (by omega) (by omega)),eG]; simp) hDG hSG ?_
  have hun:=fun y hy=>aAq (op:=wAt d w slot) dg hs (y:=y) hy
  have efin:eP d k slot g s=(fD d s (wAt d w slot)).foldl (uG (cX d k g)) (-1):=by rw[eP,yY,←ew]
  generalize fD d s (wAt d w slot)=us at hun efin
  have claim:∀(l:List (List aH×aF)) (O:List Nat) (b:Int) (H:Heap),(∀y∈l,StN d (slot+1) y.2)→(∀c∈O,G.length≤c)→Keep Cs G H→H[h.length+9]? = some (some (rec_ .ready none))→H[h.length+5]? = some (some (.row [.int .i64 b]))→(∃M,H[im]? = some (some (.map (iC M)))∧qO d M) →
   l.foldl (uG (cX d k g)) b=eP d k slot g s→dC Tryz.prog w0 (h.length+9) ns (UnYV w0 ns) (fun _=>True) KF l O H:=by
   intro l
   induction l with
   | nil=>
    intro O b H _ hO kG h9 h5 hm hb
    intro H2 t2
    have himG:im<G.length:=by omega
    have out:∀c,c<G.length→c∉O:=fun c hc hx=>by have:=hO c hx; omega
    have k9:=t2.at_ _ _ (out _ (by omega)) h9
    have k5:(H2.set (h.length+9) none)[h.length+5]? = some (some (.row [.int .i64 b])):=by rw[qB (by omega)]; exact t2.at_ _ _ (out _ (by omega)) h5
    have kG2:=kG.iter t2 hO
    have k0:(H2.set (h.length+9) none)[h.length]? = some (some (.row [.ptr (.own i 0)])):=by rw[qB (by omega)]; exact kG2.at_ _ _ (hnC _ (hnn' _ (by omega) (by omega) (by omega))) g0
    have k4:(H2.set (h.length+9) none)[h.length+4]? = some (some (.row (aN key))):=by rw[qB (by omega)]; exact kG2.at_ _ _ (hnC _ (hnn' _ (by omega) (by omega) (by omega))) g4
    have ki:(H2.set (h.length+9) none)[i]? = some (some (.row (aX v++[.map im]))):=by rw[qB (by omega)]; exact kG2.at_ _ _ hiC hiG
    have km:∃M,(H2.set (h.length+9) none)[im]? = some (some (.map (iC M)))∧qO d M:=by
     obtain⟨M,e1,e2⟩:=hm
     exact⟨M,by rw[qB (by omega)]; exact t2.at_ _ _ (out _ himG) e1,e2⟩
    obtain⟨M2,emp,hM2⟩:=aJa dg hs hk ekey km
    simp only[List.foldl_nil]at hb
    rw[←hb]at emp
    simp only[ten]at emp
    have k5':∀X,((H2.set (h.length+9) none).set im X)[h.length+5]? = some (some (.row [.int .i64 b])):=fun X=>by rw[qB (by omega)]; exact k5
    simp only[eKF,k9,erec]
    simp only[go_sem,k0,k4,k5,ki,k10,t10,mA,emp,k5']
    have hHl:=kG2.le
    have kf:Keep [im] h ((H2.set (h.length+9) none).set im (some (.map (iC M2)))):=by
     have:Keep Cs h ((H2.set (h.length+9) none).set im (some (.map (iC M2)))):=(((aB.toK hhG).trans kG2).set (.inl (by rw[eCs]; simp))).set (.inl (by rw[eCs]; simp))
     exact this.old fun c hc=>by rw[eCs]at hc; simp at hc; rcases hc with rfl | rfl | rfl; exact .inr (by omega); exact .inr (by omega); exact .inl (by simp)
    refine⟨by rw[←hb],kf,I.hD.sub (kf.msk fun c hc=> .inl (by simp at hc; subst hc; exact I.n0)),I.n0,fun c hc=>by have:=I.n2 c hc; have:=kf.le; omega,M2,?_,hM2⟩
    rw[qF (by rw[List.length_set]; omega)]
   | cons y l ihl=>
    intro O b H hl hO kG h9 h5 hm hb
    intro H2 args O2 _ t2 h2o h2l ⟨uv,nv,ea,huv,hst⟩
    subst ea
    have himG:im<G.length:=by omega
    have out:∀c,c<G.length→c∉O:=fun c hc hx=>by have:=hO c hx; omega
    have k9:=t2.at_ _ _ (out _ (by omega)) h9
    have k9':=k9
    simp only[erec]at k9
    refine hE (psl:=[47,48]) dE rfl aKH aKG aEM.eq_1 aEL.eq_1 k9 rfl hps hca hcb fun hb2 ha2=> ?_
    rw[←List.append_nil H2]
    have n1:=Sl.one hst.planes.s
    have n2:=Sl.one hst.legs.s
    have n3:=Sl.one hst.people.s
    obtain⟨A,eA⟩:∃A,A=H2++[some (Blk.row [nv.pl,nv.le,nv.pe])]:=⟨_,rfl⟩
    have hHA:aB H2 A:=by rw[eA]; exact aB.refl.app
    have a9:A[h.length+9]? = some (some (rec_ .ready none)):=hHA.2 _ _ k9'
    have a9':=a9
    simp only[erec]at a9'
    simp only[go_sem,n1.1,n2.1,n3.1,n1.2,n2.2,n3.2,←eA,a9']
    obtain⟨B0,eB0⟩:∃B0,B0=A.set (h.length+9) (some (rec_ .busy none)):=⟨_,rfl⟩
    have eB0':=eB0
    simp only[erec]at eB0'
    rw[←eB0']
    have l9:=aD a9
    have h9C:h.length+9∈Cs:=by rw[eCs]; simp
    have h5C:h.length+5∈Cs:=by rw[eCs]; simp
    have imC:im∈Cs:=by rw[eCs]; simp
    have k2B:Keep [h.length+9] H2 B0:=by rw[eB0]; exact hHA.toK.set (.inl (by simp))
    have kG2:=kG.iter t2 hO
    have kGB:Keep Cs G B0:=kG2.trans (k2B.more (by simp[h9C]))
    have e0:B0[h.length]? = some (some (.row [.ptr (.own i 0)])):=kGB.at_ _ _ (hnC _ (hnn' _ (by omega) (by omega) (by omega))) g0
    have e1:B0[h.length+1]? = some (some (.row [.int .i64 (slot:Int)])):=kGB.at_ _ _ (hnC _ (hnn' _ (by omega) (by omega) (by omega))) g1
    have e2:B0[h.length+2]? = some (some (.row [.int .i64 (g:Int)])):=kGB.at_ _ _ (hnC _ (hnn' _ (by omega) (by omega) (by omega))) g2
    have hGl:=kG2.le
    have e14:B0[H2.length]? = some (some (.row [nv.pl,nv.le,nv.pe])):=by
     rw[eB0,qB (by omega),eA]; simp
    have e5:B0[h.length+5]? = some (some (.row [.int .i64 b])):=k2B.at_ _ _ (by simp) (t2.at_ _ _ (out _ (by omega)) h5)
    have IB:mL w0 d v i im ns B0:=by
     refine⟨hDG.sub (kGB.msk fun c hc=> .inl (hCn c hc)),hCn _ imC,fun c hc=>by have:=hn2 c hc; have:=kGB.le; omega,?_⟩
     obtain⟨M,m1,m2⟩:=hm
     exact⟨M,k2B.at_ _ _ (by simp; omega) (t2.at_ _ _ (out _ himG) m1),m2⟩
    have hst':StS w0 (msk ns B0) y.2 nv:=hst.sub (k2B.msk fun c hc=> .inl (by simp at hc; subst hc; exact hCn _ h9C))
    have hcall:=B (slot+1) g y.2 nv ns B0 (by omega) hg50 (hl y (by simp)) IB hst'
    rw[Int.natCast_add,Int.natCast_one]at hcall
    simp only[go_sem,e0,e1,e2,e14,n1.1,n2.1,n3.1,n1.2,n2.2,n3.2]
    refine⟨(by unfold I64; omega),?_⟩
    refine aJ (ACall.v4 hcall) ?_
    rintro y2 H3 ⟨rfl,k3,I3⟩
    have b9:B0[h.length+9]? = some (some (rec_ .busy none)):=by rw[eB0,qF l9]
    have d9:H3[h.length+9]? = some (some (rec_ .busy none)):=k3.at_ _ _ (by simp; omega) b9
    have d5:H3[h.length+5]? = some (some (.row [.int .i64 b])):=k3.at_ _ _ (by simp; omega) e5
    have l3:=aD d9
    have kG3:Keep Cs G H3:=kGB.trans (k3.more (by simp[imC]))
    have k23:Keep Cs H2 H3:=(k2B.more (by simp[h9C])).trans (k3.more (by simp[imC]))
    have hO2:∀c∈O2,G.length≤c:=fun c hc=>(h2o c hc).elim (hO c) fun hx=>by have:=kG.le; omega
    obtain⟨c,ec⟩:∃c,c=cX d k g y.2:=⟨_,rfl⟩
    rw[←ec]
    have fin:∀(nb:Int) (F:Heap),nb=uG (cX d k g) b y→Keep [h.length+5,h.length+9] H3 F→F[h.length+9]? = some (some (rec_ .ready none))→F[h.length+5]? = some (some (.row [.int .i64 nb]))→Keep ns H2 F∧dC Tryz.prog w0 (h.length+9) ns (UnYV w0 ns) (fun _=>True) KF l O2 F:=fun nb F hnb kF f9 f5=>by
     have kF':Keep Cs H3 F:=kF.more (by simp[h5C,h9C])
     refine⟨(k23.trans kF').more hCn,ihl O2 nb F (fun z hz=>hl z (List.mem_cons_of_mem _ hz)) hO2 (kG3.trans kF') f9 f5 ?_ (by rw[hnb]; simpa using hb)⟩
     obtain⟨M,m1,m2⟩:=I3.memo
     exact⟨M,kF.at_ _ _ (by simp; omega) m1,m2⟩
    have store:∀(nb:Int),nb=uG (cX d k g) b y→Keep ns H2 ((H3.set (h.length+5) (some (.row [.int .i64 nb]))).set (h.length+9) (some (rec_ .ready none)))∧dC Tryz.prog w0 (h.length+9) ns (UnYV w0 ns) (fun _=>True) KF l O2 ((H3.set (h.length+5) (some (.row [.int .i64 nb]))).set (h.length+9) (some (rec_ .ready none))):=fun nb hnb=>
     fin nb _ hnb ((Keep.refl.set (.inl (by simp))).set (.inl (by simp))) (by rw[qF (by rw[List.length_set]; exact l3)]) (by rw[qB (by omega),qF (by omega)])
    have d9':∀X,(H3.set (h.length+5) X)[h.length+9]? = some (some (rec_ .busy none)):=fun X=>by rw[qB (by omega)]; exact d9
    simp only[erec]at d9 d9' store
    by_cases hb0:b<0
    ·simp only[go_sem,d5,hb0,d9',List.append_nil]
     have:=store c (by rw[uG,←ec]; simp[hb0])
     exact⟨this.1,.inl this.2⟩
    ·by_cases hcb:c<b
     ·simp only[go_sem,d5,hb0,hcb,d9',List.append_nil]
      have:=store c (by rw[uG,←ec]; simp[hcb])
      exact⟨this.1,.inl this.2⟩
     ·simp only[go_sem,d5,hb0,hcb,d9,List.append_nil]
      have:=fin b (H3.set (h.length+9) (some (rec_ .ready none))) (by rw[uG,←ec]; simp[hb0,hcb]) (Keep.refl.set (.inl (by simp))) (by rw[qF l3]) (by rw[qB (by omega)]; exact d5)
      simp only[erec]at this
      exact⟨this.1,.inl this.2⟩
  exact claim us [] (-1) G hun (by simp) Keep.refl g9 g5 ⟨M,hhG.2 _ _ hM,hMok⟩ efin.symm
 ·have elook:∀L,wG (h++L) ten (.int .i64 0) true (.map im) (.agg (aN key))=some (.tup [.int .i64 c,.bool true]):=fun L=>by
   simp only[wG,hnn,cm,hf]; rfl
  simp only[ten]at elook
  have hc:=(hMok _ _ (List.mem_of_getElem? hj)).2 k slot g s hk hs.s1 hs.s2 hs.s3 ekey.symm
  simp only[go_sem,mA,k10,t10,ci,elook,List.append_nil]
  exact⟨by rw[hc],aB.refl.app.toK,I.app⟩
theorem aA9(d:aQ)(v:cU)(i im:Nat)(dg:jJ d):∀k,vB w0 d v i im k∧aEP w0 d v i im k
 | 0=>⟨aA1 d v i im dg,aFR d v i im 0 dg (aA1 d v i im dg)⟩
 | k+1=>by
  have b:=aHG d v i im k dg (aA9 d v i im dg k).2
  exact⟨b,aFR d v i im (k+1) dg b⟩
theorem GrI.st{H:Heap}{N:Nat}{v:AV}{l:List Int}{C:List Nat}(a:GrI H N v l)(hC:∀c∈C,c<N):SlO w0 (msk C H) v l:=by
 rcases a with⟨rfl,rfl⟩ | ⟨hl,id,hid,rfl,hk⟩
 ·exact⟨.inl ⟨rfl,rfl⟩,fun _=>rfl⟩
 ·have hk':(msk C H)[id]? = some (some (.row (aN l))):=by rw[aT (fun hc=>by have:=hC _ hc; omega)]; exact hk
  exact⟨(SlN.own (f:=false) hk' hl).s,fun e=>absurd e hl⟩
theorem GrI.mv{H H':Heap}{N:Nat}{v:AV}{l:List Int}(a:GrI H N v l)(hk:∀(i:Nat) b,N≤i→H[i]? = some (some b)→H'[i]? = some (some b)):GrI H' N v l:=by
 rcases a with a | ⟨hl,id,h1,h2,h3⟩
 ·exact .inl a
 ·exact .inr ⟨hl,id,h1,h2,hk _ _ h1 h3⟩
theorem aOj(d:aQ)(v:cU)(m:AV)(i:Nat)(hD:rL w0 h d v m i)(dg:jJ d):ACall Tryz.prog w0 57 [.ptr (.own i 0)] h fun y H=>aB h H∧∃nv,y= .agg (stC nv)∧∀C:List Nat,(∀c∈C,c<h.length)→StS w0 (msk C H) (bV d) nv:=by
 refine aO mf57_k fun hb ha=> ?_
 have ci:∀L,(h++L)[i]? = some (some (.row (aX v++[m]))):=fun L=>aA hD.hd
 have ln1:dA v.pn=some (.int .i64 d.planes.length):=by simpa using hD.R.planes.use.1
 have ln2:dA v.pe=some (.int .i64 d.people.length):=by simpa using hD.R.people.use.1
 have pn:=dg.pn
 have pe:=dg.pe
 simp only[go_sem,mf57,ci,ln1]
 refine⟨by omega,?_⟩
 have e0:fS [AV.int .i64 0] d.planes.length=aN (List.replicate d.planes.length 0):=vF _
 rw[e0,beq_self_eq_true]
 obtain⟨lv,elv⟩:∃lv,lv=AV.sl (.own (h.length+1) 0) d.planes.length 1 true:=⟨_,rfl⟩
 have olv:one lv=true:=by rw[elv]; rfl
 rw[←elv]
 obtain⟨G,eG⟩:∃G,G=h++[some (Blk.row [AV.nilS,AV.nilS,AV.nilS]),some (Blk.row (aN (List.replicate d.planes.length 0))),some (Blk.row [AV.nilS,lv,AV.nilS])]:=⟨_,rfl⟩
 rw[←eG]
 have hhG:aB h G:=by rw[eG]; exact aB.refl.app
 have gl:G.length=h.length+3:=by rw[eG]; simp
 have pl2:=hD.R.planes
 refine bS (S:=Heap×AV) (fun j _=>[(0,.ptr (.own i 0)),(2,.ptr (.own h.length 0)),(3,.ptr (.own (h.length+2) 0)),(20,v.pn),(21,.int .i64 (d.planes.length:Int)),(22,.int .i64 (j:Int))]) (fun _ st=>st.1)
  (fun j st=>(∀c b,c<h.length+2→G[c]? = some b→st.1[c]? = some b)∧h.length+3≤st.1.length∧st.1[h.length+2]? = some (some (.row [st.2,lv,.nilS]))∧GrI st.1 (h.length+3) st.2 ((d.planes.take j).map (·.at_))) d.planes.length (G,.nilS)
  ⟨fun c b _ e=>e,by simp only; omega,by rw[eG]; simp,.inl ⟨rfl,rfl⟩⟩ rfl rfl (fun j st hj I ih=> ?_) (fun st I=> ?_)
 ·obtain⟨H,gp⟩:=st
  obtain⟨k1,k2,k3,k4⟩:=I
  simp only at k1 k2 k3 k4 ih ⊢
  refine aP [0,2,3,20,21,22] aK6.eq_1 ?_
  have hH:aB h H:=⟨by omega,fun c b e=>k1 c _ (by have:=aD e; omega) (hhG.2 c b e)⟩
  obtain⟨_,q,qi,qr,_⟩:=(pl2.sub hH).use
  have q1:=qi j (by simpa using hj)
  have q2:rdn w0 H (q.add (j*5)) 5=some (d.planes.getD j ⟨0,0,0,0,0⟩).c:=qr j _ (by rw[List.getElem?_map,qA hj,aE hj]; rfl)
  have e1:(j:Int)<d.planes.length:=by omega
  obtain⟨A,eA⟩:∃A,A=H++[some (Blk.row (d.planes.getD j ⟨0,0,0,0,0⟩).c),some (Blk.row [.int .i64 (d.planes.getD j ⟨0,0,0,0,0⟩).at_])]:=⟨_,rfl⟩
  have hHA:aB H A:=by rw[eA]; exact aB.refl.app
  have b3:=xL k3
  obtain⟨gp',H',ap,g',gle,gk,go⟩:=(k4.mv (H':=A) fun c b _ e=>hHA.2 c b e).add (w0:=w0) (by have:=hHA.1; omega) (d.planes.getD j ⟨0,0,0,0,0⟩).at_ (H.length+1) (by rw[eA]; simp) (by simp; omega)
  have ogp:=Sl.one (k4.n.s (w0:=w0))
  have hb':H'[h.length+2]? = some (some (.row [gp,lv,.nilS])):=gk _ _ (by omega) (hHA.2 _ _ k3)
  have eA':=eA
  simp only[dL.c]at eA'
  simp only[go_sem,e1,q1,q2,b3,ogp.1,ogp.2]
  rw[←eA']
  have ogp':=Sl.one (g'.n.s (w0:=w0))
  simp only[go_sem,ap,hb',go,ogp'.2,ogp.1,olv]
  refine⟨(by unfold I64; omega),?_⟩
  have hl':=aD hb'
  have:=ih (H'.set (h.length+2) (some (.row [gp',lv,.nilS])),gp') ⟨fun c b hc e=>by
   simp only
   rw[qB (by omega)]
   have e2:=k1 c b hc e
   exact gk c b (by omega) (by rw[eA,qH (by omega)]; exact e2),by simp only; rw[List.length_set]; omega,by simp only; rw[qF hl'],?_⟩
  ·simpa using this
  ·simp only
   rw[List.take_add_one,qA hj,List.map_append]
   rw[aE hj]at g'
   exact g'.mv fun c b hc e=>by rw[qB (by omega)]; exact e
 ·obtain⟨H2,gp⟩:=st
  obtain⟨k1,k2,k3,k4⟩:=I
  simp only at k1 k2 k3 k4 ⊢
  refine aP [0,2,3,20,21,22] aK6.eq_1 ?_
  have hH2:aB h H2:=⟨by omega,fun c b e=>k1 c _ (by have:=aD e; omega) (hhG.2 c b e)⟩
  have e1:¬(d.planes.length:Int)<d.planes.length:=by omega
  have ci2:=hH2.2 _ _ hD.hd
  rw[List.take_length]at k4
  simp only[go_sem,e1,ci2,ln2]
  have ogp:=Sl.one (k4.n.s (w0:=w0))
  refine bS (S:=Heap×AV) (fun j _=>[(2,.ptr (.own h.length 0)),(3,.ptr (.own (h.length+2) 0)),(38,v.pe),(39,.int .i64 (d.people.length:Int)),(40,.int .i64 (j:Int))]) (fun _ st=>st.1)
   (fun j st=>(∀c b,c<H2.length→c≠h.length+2→H2[c]? = some b→st.1[c]? = some b)∧H2.length≤st.1.length∧st.1[h.length+2]? = some (some (.row [gp,lv,st.2]))∧GrI st.1 H2.length st.2 ((d.people.take j).map (·.at_))) d.people.length (H2,.nilS)
   ⟨fun c b _ _ e=>e,Nat.le_refl _,k3,.inl ⟨rfl,rfl⟩⟩ rfl rfl (fun j st hj I ih=> ?_) (fun st I=> ?_)
  ·obtain⟨H,ge⟩:=st
   obtain⟨m1,m2,m3,m4⟩:=I
   simp only at m1 m2 m3 m4 ih ⊢
   refine aP [2,3,38,39,40] aK5.eq_1 ?_
   have hH:aB h H:=⟨by omega,fun c b e=>m1 c _ (by have:=aD e; omega) (by have:=aD e; omega) (hH2.2 c b e)⟩
   obtain⟨_,q,qi,qr,_⟩:=(hD.R.people.sub hH).use
   have q1:=qi j (by simpa using hj)
   have q2:rdn w0 H (q.add (j*5)) 5=some (d.people.getD j ⟨0,0,0,0,0⟩).c:=qr j _ (by rw[List.getElem?_map,qA hj,aE hj]; rfl)
   have e2:(j:Int)<d.people.length:=by omega
   obtain⟨A,eA⟩:∃A,A=H++[some (Blk.row (d.people.getD j ⟨0,0,0,0,0⟩).c),some (Blk.row [.int .i64 (d.people.getD j ⟨0,0,0,0,0⟩).at_])]:=⟨_,rfl⟩
   have hHA:aB H A:=by rw[eA]; exact aB.refl.app
   have b3:=xL m3
   obtain⟨ge',H',ap,g',gle,gk,go⟩:=(m4.mv (H':=A) fun c b _ e=>hHA.2 c b e).add (w0:=w0) (by have:=hHA.1; omega) (d.people.getD j ⟨0,0,0,0,0⟩).at_ (H.length+1) (by rw[eA]; simp) (by simp; omega)
   have oge:=Sl.one (m4.n.s (w0:=w0))
   have hb':H'[h.length+2]? = some (some (.row [gp,lv,ge])):=gk _ _ (by omega) (hHA.2 _ _ m3)
   have eA':=eA
   simp only[gV.c]at eA'
   simp only[go_sem,e2,q1,q2,b3,oge.1,oge.2]
   rw[←eA']
   have oge':=Sl.one (g'.n.s (w0:=w0))
   simp only[go_sem,ap,hb',go,oge'.2,oge.1,ogp.1,olv]
   refine⟨(by unfold I64; omega),?_⟩
   have hl':=aD hb'
   have:=ih (H'.set (h.length+2) (some (.row [gp,lv,ge'])),ge') ⟨fun c b hc hne e=>by
    simp only
    rw[qB (Ne.symm hne)]
    have e2:=m1 c b hc hne e
    exact gk c b (by omega) (by rw[eA,qH (by omega)]; exact e2),by simp only; rw[List.length_set]; have:=hHA.1; omega,by simp only; rw[qF hl'],?_⟩
   ·simpa using this
   ·simp only
    rw[List.take_add_one,qA hj,List.map_append]
    rw[aE hj]at g'
    exact g'.mv fun c b hc e=>by rw[qB (by omega)]; exact e
  ·obtain⟨H,ge⟩:=st
   obtain⟨m1,m2,m3,m4⟩:=I
   simp only at m1 m2 m3 m4 ⊢
   refine aP [2,3,38,39,40] aK5.eq_1 ?_
   have e2:¬(d.people.length:Int)<d.people.length:=by omega
   rw[List.take_length]at m4
   have oge:=Sl.one (m4.n.s (w0:=w0))
   have b0:H[h.length]? = some (some (.row [.nilS,.nilS,.nilS])):=m1 _ _ (by omega) (by omega) (k1 _ _ (by omega) (by rw[eG]; simp))
   have b1:H[h.length+1]? = some (some (.row (aN (List.replicate d.planes.length 0)))):=m1 _ _ (by omega) (by omega) (k1 _ _ (by omega) (by rw[eG]; simp))
   have hl0:=aD b0
   have hs:∀X,(H.set h.length X)[h.length]? = some X:=fun X=>qF hl0
   simp only[go_sem,e2,m3,ogp.1,olv,oge.1,b0,hs]
   obtain⟨F,eF⟩:∃F,F=H.set h.length (some (.row [gp,lv,ge])):=⟨_,rfl⟩
   rw[←eF]
   have hHF:aB h F:=by
    rw[eF]
    exact aB.setR ⟨by omega,fun c b e=>m1 c _ (by have:=aD e; omega) (by have:=aD e; omega) (hH2.2 c b e)⟩ (Nat.le_refl _)
   refine⟨hHF,⟨gp,lv,ge⟩,rfl,fun C hC=>⟨?_,?_,?_⟩⟩
   ·refine GrI.st (N:=h.length+3) (k4.mv fun c b hc e=> ?_) fun c hc=>by have:=hC c hc; omega
    rw[eF,qB (by omega)]
    exact m1 c _ (aD e) (by omega) e
   ·have hF1:(msk C F)[h.length+1]? = some (some (.row (aN (List.replicate d.planes.length 0)))):=by
     rw[aT (fun hc=>by have:=hC _ hc; omega),eF,qB (by omega)]; exact b1
    have:=fY (w0:=w0) (H:=msk C F) (full:=true) (io:=h.length+1) (rows:=(List.replicate d.planes.length (0:Int)).map fun z=>[AV.int .i64 z]) (es:=1) (by rw[←fQ]; exact hF1) (fun c hc=>by obtain⟨x,_,rfl⟩:=List.mem_map.1 hc; rfl)
    simp only[bV]
    rw[elv]
    refine⟨by simpa[SlI]using this,fun e=> ?_⟩
    have hz:d.planes.length=0:=by simpa using congrArg List.length e
    rw[hz]at hF1 ⊢
    simp[srcOf,fH,rdn,hF1]
   ·refine GrI.st (N:=H2.length) (m4.mv fun c b hc e=> ?_) fun c hc=>by have:=hC c hc; omega
    rw[eF,qB (by omega)]; exact e
end Go.Proofs.Ab

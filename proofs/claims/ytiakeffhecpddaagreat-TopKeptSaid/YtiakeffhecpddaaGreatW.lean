/- Own layer, part W. -/
import Derived.Test.YtiakeffhecpddaaGreatQ
import Derived.Test.YtiakeffhecpddaaGreatS
import Derived.Test.YtiakeffhecpddaaGreatR
import Derived.Test.YtiakeffhecpddaaGreatL
set_option linter.unusedSimpArgs false
set_option linter.unusedVariables false
namespace Go.Proofs.Ab
open Go Go.Proofs
variable {w0:World} {h:Heap}
attribute [local irreducible] ACall bE cR aK bI rvC lp rg dr ex un rv
def mI(d:aQ):Bool:=decide (d.places.length≤4)&&(decide (d.links.length≤20)&&(decide (d.planes.length≤2)&&(decide (d.people.length≤3)&&(decide (d.weathers.length≤6)&&(decide (d.planes.length<2)||decide (d.people.length<3))))))
def pW(d:aQ):Bool:=d.weathers.all (fun w=>decide (w.length≤3))&&(mI d&&fX d)
theorem aJV{d:aQ}(e:pW d=true):fX d=true∧d.places.length≤4∧d.links.length≤20∧d.planes.length≤2∧d.people.length≤3∧d.weathers.length≤6∧∀w∈d.weathers,w.length≤3:=by
 simp only[pW,mI,Bool.and_eq_true,decide_eq_true_eq,List.all_eq_true]at e
 obtain⟨e1,⟨e2,e3,e4,e5,e6,_⟩,e7⟩:=e
 exact⟨e7,e2,e3,e4,e5,e6,e1⟩
theorem DayS.R11{d:aQ}{v:cU}(s:DayS w0 h d v)(e:d.places.length≤4∧d.links.length≤20∧d.planes.length≤2∧d.people.length≤3∧d.weathers.length≤6∧∀w∈d.weathers,w.length≤3):kU w0 h d v:=
 ⟨s,by omega,by omega,by omega,by omega,by omega,fun w hw=>by have:=e.2.2.2.2.2 w hw; omega⟩
set_option maxRecDepth 20000 in
theorem aN9(d:aQ)(v:cU)(hS:DayS w0 h d v)(hW:d.weathers.length≤9223372036854775807):aK Tryz.prog w0 15 [.agg (aX v)] h (.bool (pW d)) h:=by
 refine aM mf15_k fun hb ha=> ?_
 obtain⟨y1,y2,y3,y4,y5⟩:=hS.ones
 obtain⟨l1,l2,l3,l4,l5⟩:=hS.lens
 obtain⟨K,eK⟩:∃K,K=h++[some (Blk.row [v.pl,v.ln,v.pn,v.pe,v.we])]:=⟨_,rfl⟩
 have sK:aB h K:=eK▸aB.refl.app
 have k0:K[h.length]? = some (some (.row [v.pl,v.ln,v.pn,v.pe,v.we])):=by rw[eK]; simp
 have k0L:=xL k0
 simp only[go_sem,mf15,aX,y1,y2,y3,y4,y5]
 rw[←eK]
 refine cY (fun j=>[(1,.ptr (.own h.length 0)),(3,.int .i64 j)]) (fun j=>(d.weathers.getD j []).length≤3) d.weathers.length rfl (fun j hj hall ih=> ?_) (fun hall=> ?_)
 ·refine aP [1,3] aLx.eq_1 ?_
  have e1:(j:Int)<d.weathers.length:=by omega
  obtain⟨p,x,i1,r1,s1⟩:=(hS.sub sK).weathers.at_ hj
  have lx:=(SlI.use s1).1
  have r1':=r1 []
  rw[List.append_nil]at r1'
  have gj:d.weathers.getD j []=d.weathers[j]:=aE hj
  rw[gj]at ih
  simp only[go_sem,k0,k0L,l5,e1,i1,r1,r1',lx]
  refine⟨fun c=> ?_,fun c=>⟨(by unfold I64; omega),ih (by omega)⟩⟩
  have:d.weathers.all (fun w=>decide (w.length≤3))=false:=List.all_eq_false.2 ⟨_,qG hj,by simp; omega⟩
  rw[pW,this]
  exact⟨rfl,_,eK⟩
 ·refine aP [1,3] aLx.eq_1 ?_
  have e1:¬(d.weathers.length:Int)<d.weathers.length:=by omega
  have hw:d.weathers.all (fun w=>decide (w.length≤3))=true:=List.all_eq_true.2 fun w hw=>by
   obtain⟨i,hi,rfl⟩:=List.getElem_of_mem hw
   have:=hall i hi
   rw[aE hi]at this
   exact decide_eq_true this
  have b5:pW d=(mI d&&fX d):=by rw[pW,hw,Bool.true_and]
  have no:mI d=false→pW d=false:=fun e=>by rw[b5,e]; rfl
  by_cases c1:(d.places.length:Int)≤4
  rotate_left
  ·simp only[go_sem,k0,k0L,l1,l5,e1,c1]
   rw[no (by rw[mI,decide_eq_false (p:=d.places.length≤4) (by omega)]; rfl)]
   exact⟨rfl,_,eK⟩
  by_cases c2:(d.links.length:Int)≤20
  rotate_left
  ·simp only[go_sem,k0,k0L,l1,l2,l5,e1,c1,c2]
   rw[no (by rw[mI,decide_eq_false (p:=d.links.length≤20) (by omega)]; simp)]
   exact⟨rfl,_,eK⟩
  by_cases c3:(d.planes.length:Int)≤2
  rotate_left
  ·simp only[go_sem,k0,k0L,l1,l2,l3,l5,e1,c1,c2,c3]
   rw[no (by rw[mI,decide_eq_false (p:=d.planes.length≤2) (by omega)]; simp)]
   exact⟨rfl,_,eK⟩
  by_cases c4:(d.people.length:Int)≤3
  rotate_left
  ·simp only[go_sem,k0,k0L,l1,l2,l3,l4,l5,e1,c1,c2,c3,c4]
   rw[no (by rw[mI,decide_eq_false (p:=d.people.length≤3) (by omega)]; simp)]
   exact⟨rfl,_,eK⟩
  by_cases c5:(d.weathers.length:Int)≤6
  rotate_left
  ·simp only[go_sem,k0,k0L,l1,l2,l3,l4,l5,e1,c1,c2,c3,c4,c5]
   rw[no (by rw[mI,decide_eq_false (p:=d.weathers.length≤6) (by omega)]; simp)]
   exact⟨rfl,_,eK⟩
  have hb:mI d=(decide (d.planes.length<2)||decide (d.people.length<3)):=by
   rw[mI,decide_eq_true (p:=d.places.length≤4) (by omega),decide_eq_true (p:=d.links.length≤20) (by omega),decide_eq_true (p:=d.planes.length≤2) (by omega),decide_eq_true (p:=d.people.length≤3) (by omega),decide_eq_true (p:=d.weathers.length≤6) (by omega)]
   rfl
  have hR:kU w0 K d v:=(hS.sub sK).R11 ⟨by omega,by omega,by omega,by omega,by omega,fun w hw=>by
   obtain⟨i,hi,rfl⟩:=List.getElem_of_mem hw
   have:=hall i hi
   rwa [aE hi]at this⟩
  by_cases c6:(d.planes.length:Int)<2
  ·simp only[go_sem,k0,k0L,l1,l2,l3,l4,l5,e1,c1,c2,c3,c4,c5,c6,y1,y2,y3,y4,y5]
   refine aC (aIG d v hR).v ?_
   simp only[go_sem]
   rw[b5,hb,decide_eq_true (p:=d.planes.length<2) (by omega)]
   exact⟨rfl,_,eK⟩
  by_cases c7:(d.people.length:Int)<3
  ·simp only[go_sem,k0,k0L,l1,l2,l3,l4,l5,e1,c1,c2,c3,c4,c5,c6,c7,y1,y2,y3,y4,y5]
   refine aC (aIG d v hR).v ?_
   simp only[go_sem]
   rw[b5,hb,decide_eq_true (p:=d.people.length<3) (by omega),Bool.or_true]
   exact⟨rfl,_,eK⟩
  ·simp only[go_sem,k0,k0L,l1,l2,l3,l4,l5,e1,c1,c2,c3,c4,c5,c6,c7]
   rw[no (by rw[hb,decide_eq_false (p:=d.planes.length<2) (by omega),decide_eq_false (p:=d.people.length<3) (by omega)]; rfl)]
   exact⟨rfl,_,eK⟩
end Go.Proofs.Ab
namespace Go.Proofs.Ab
open Go Go.Proofs
def aEr(l:List aU)(m:Int):Int:=(pM l m).length
theorem aJ3{m:Int}:aEr [] m=0:=rfl
theorem aHt{l:List aU}{s:aU}{m:Int}:aEr (l++[s]) m=aEr l m+if eM s m then 1 else 0:=by
 unfold aEr pM
 rw[pL,List.length_append]
 split<;>simp
theorem aA8{f g:Nat→Int}:∀n,(∀i,i<n→f i=g i)→fR f n=fR g n
 | 0,_=>rfl
 | n+1,h=>by rw[fR,fR,aA8 n fun i hi=>h i (by omega),h n (by omega)]
theorem aB9{f g:Nat→Int}{i:Nat}:∀n,i<n→(∀k,k<n→k≠i→f k=g k)→fR g n=fR f n - f i+g i
 | 0,h,_=>absurd h (by omega)
 | n+1,h,e=>by
  rw[fR,fR]
  by_cases q:i=n
  ·subst q
   have:fR g i=fR f i:=aA8 i fun k hk=>(e k (by omega) (by omega)).symm
   rw[this]; omega
  ·rw[aB9 n (by omega) fun k hk hn=>e k (by omega) hn,e n (by omega) (fun w=>q w.symm)]; omega
theorem aCa{f g:Nat→Int}:∀n,(∀k,k<n→f k≤g k)→fR f n≤fR g n
 | 0,_=>Int.le_refl _
 | n+1,e=>by rw[fR,fR]; have:=aCa n fun k hk=>e k (by omega); have:=e n (by omega); omega
theorem aAt{l:List Int}{q:Int}:∀n,n≤l.length→fR (fun k=>if l.getD k 0=q then 1 else 0) n=((l.take n).count q:Int)
 | 0,_=>by simp[fR]
 | n+1,h=>by
  rw[fR,aAt n (by omega),List.take_succ_eq_append_getElem (by omega),List.count_append,aE (show n<l.length by omega),List.count_singleton]
  by_cases e:l[n]=q
  ·simp[e]
  ·simp[e]
structure hZ(d:aQ)(ps:List (List Int))(t i:Nat)(nx:List Int)(sy:List (List aU))(si:List Int):Prop where
 pl:ps.length=t+1
 pn:∀u,u≤t→(ps.getD u []).length=d.planes.length
 pq:∀u,u≤t→∀x∈ps.getD u [],0≤x∧x<d.places.length
 nc:∀u,u≤t→∀q,q<d.places.length→((ps.getD u []).count (q:Int):Int)≤(d.places.getD q ⟨0,false⟩).berths
 ly:sy.length=d.places.length
 ls:si.length=d.planes.length
 sb:∀k,k<d.planes.length→0≤si.getD k 0∧si.getD k 0≤t+1∧(i≤k→si.getD k 0≤t)
 run:∀k,k<d.planes.length→∀u:Nat,si.getD k 0≤u→u≤t→(ps.getD u []).getD k 0=if k<i then nx.getD k 0 else(ps.getD t []).getD k 0
 ok:∀q,∀s∈sy.getD q [],(0≤s.cl∧s.ch=s.cl∧s.gl=s.gh)∧s.cl≤s.gh∧s.gh≤100*t+99
 len:∀q,(sy.getD q []).length≤t*d.planes.length+i
 cnt:∀q:Nat,q<d.places.length→∀m:Int,aEr (sy.getD q []) m=fR (fun k=>if 0≤m∧m<100*si.getD k 0∧(ps.getD (m / 100).toNat []).getD k 0=q then 1 else 0) d.planes.length
section
variable {d:aQ} {ps:List (List Int)} {sy:List (List aU)} {t i:Nat} {nx si:List Int}
theorem vR{α:Type}{a b:α}{n k:Nat}(h:k<n):(List.replicate n a).getD k b=a:=by rw[List.getD_eq_getElem?_getD,List.getElem?_replicate_of_lt h]; rfl
theorem hZ.begin_{p0:List Int}(h1:p0.length=d.planes.length)(h2:∀x∈p0,0≤x∧x<d.places.length)(h3:∀q,q<d.places.length→(p0.count (q:Int):Int)≤(d.places.getD q ⟨0,false⟩).berths):hZ d [p0] 0 0 nx (List.replicate d.places.length []) (List.replicate d.planes.length 0):=by
 have g0:∀u,u≤0→[p0].getD u []=p0:=fun u hu=>by
  obtain rfl:u=0:=by omega
  rfl
 have s0:∀q,(List.replicate d.places.length ([]:List aU)).getD q []=[]:=fun q=>by
  rw[List.getD_eq_getElem?_getD,List.getElem?_replicate]; split<;>rfl
 refine⟨rfl,fun u hu=> ?_,fun u hu=> ?_,fun u hu=> ?_,by simp,by simp,fun k hk=> ?_,fun k hk u _ hu=> ?_,fun q s hs=> ?_,fun q=> ?_,fun q hq m=> ?_⟩
 ·rw[g0 u hu]; exact h1
 ·rw[g0 u hu]; exact h2
 ·rw[g0 u hu]; exact h3
 ·rw[vR hk]; omega
 ·obtain rfl:u=0:=by omega
  rw[if_neg (by omega)]
 ·rw[s0]at hs; cases hs
 ·rw[s0]; simp
 ·rw[s0,aJ3]
  have:∀n,n≤d.planes.length→fR (fun k=>if 0≤m∧m<100*(List.replicate d.planes.length (0:Int)).getD k 0∧([p0].getD (m / 100).toNat []).getD k 0=(q:Int)then 1 else 0) n=0:=fun n=>by
   induction n with
   | zero=>intro _; rfl
   | succ n ih=>intro hn; rw[fR,ih (by omega),vR (by omega),if_neg (by omega)]; rfl
  rw[this _ (Nat.le_refl _)]
theorem dT{α:Type}{l:List α}{x:Nat}(hx:x<l.length){b c:α}{k:Nat}:(l.set x b).getD k c=if k=x then b else l.getD k c:=by
 rw[List.getD_eq_getElem?_getD,List.getD_eq_getElem?_getD]
 split
 ·rename_i e; subst e; rw[qF hx]; rfl
 ·rename_i e; rw[qB (fun h=>e h.symm)]
theorem hZ.add(K:hZ d ps t i nx sy si)(hi:i<d.planes.length){q0:Nat}(hq0:(ps.getD t []).getD i 0=(q0:Int)) :
 hZ d ps t (i+1) nx (sy.set q0 (sy.getD q0 []++[⟨100*si.getD i 0,100*si.getD i 0,100*(t:Int)+99,100*(t:Int)+99⟩])) (si.set i ((t:Int)+1)):=by
 obtain⟨a,ea⟩:∃a,a=si.getD i 0:=⟨_,rfl⟩
 rw[←ea]
 have hs:=K.sb i hi
 rw[←ea]at hs
 have a1:=hs.2.2 (Nat.le_refl _)
 have lsi:i<si.length:=by rw[K.ls]; exact hi
 have hq:q0<d.places.length:=by
  have hl:=K.pn t (Nat.le_refl _)
  have:=K.pq t (Nat.le_refl _) _ (qG (show i<(ps.getD t []).length by omega))
  rw[aE (by omega)]at hq0
  omega
 have lsy:q0<sy.length:=by rw[K.ly]; exact hq
 refine⟨K.pl,K.pn,K.pq,K.nc,by rw[List.length_set]; exact K.ly,by rw[List.length_set]; exact K.ls,fun k hk=> ?_,fun k hk u h1 h2=> ?_,fun q s h=> ?_,fun q=> ?_,fun q h m=> ?_⟩
 ·rw[dT lsi]
  have:=K.sb k hk
  split
  ·omega
  ·exact⟨this.1,this.2.1,fun h=>this.2.2 (by omega)⟩
 ·rw[dT lsi]at h1
  split at h1
  ·omega
  ·rename_i ne
   rw[K.run k hk u h1 h2]
   by_cases c:k<i
   ·rw[if_pos c,if_pos (by omega)]
   ·rw[if_neg c,if_neg (by omega)]
 ·rw[dT lsy]at h
  split at h
  ·rename_i e
   rcases List.mem_append.1 h with h | h
   ·exact K.ok q0 s h
   ·rw[List.mem_singleton.1 h]
    exact⟨⟨by simp only; omega,rfl,rfl⟩,by simp only; omega,by simp only; omega⟩
  ·exact K.ok q s h
 ·rw[dT lsy]
  have:=K.len q
  have h0:=K.len q0
  split
  ·rw[List.length_append,List.length_singleton]; omega
  ·omega
 ·have run0:∀u:Nat,a≤u→u≤t→(ps.getD u []).getD i 0=q0:=fun u h1 h2=>by
   rw[K.run i hi u (by rw[←ea]; exact h1) h2,if_neg (by omega)]; exact hq0
  have hk:∀k,k<d.planes.length→k≠i→(if 0≤m∧m<100*si.getD k 0∧(ps.getD (m / 100).toNat []).getD k 0=(q:Int)then(1:Int)else 0)=if 0≤m∧m<100*(si.set i ((t:Int)+1)).getD k 0∧(ps.getD (m / 100).toNat []).getD k 0=(q:Int)then 1 else 0:=fun k _ ne=>by
   rw[dT lsi,if_neg ne]
  rw[aB9 d.planes.length hi hk,←K.cnt q h m,dT lsi,if_pos rfl,←ea,dT lsy]
  have val:(if 0≤m∧m<100*((t:Int)+1)∧(ps.getD (m / 100).toNat []).getD i 0=(q:Int)then(1:Int)else 0)=(if 0≤m∧m<100*a∧(ps.getD (m / 100).toNat []).getD i 0=(q:Int)then 1 else 0)+if q=q0∧100*a≤m∧m≤100*(t:Int)+99 then 1 else 0:=by
   by_cases c1:100*a≤m
   ·rw[if_neg (c:=0≤m∧m<100*a∧_) (by omega)]
    by_cases c2:m≤100*(t:Int)+99
    ·have:=run0 (m / 100).toNat (by omega) (by omega)
     rw[this]
     by_cases c3:q=q0
     ·subst c3; rw[if_pos ⟨by omega,by omega,rfl⟩,if_pos ⟨rfl,c1,c2⟩]; rfl
     ·rw[if_neg (by omega),if_neg (by omega)]; rfl
    ·rw[if_neg (by omega),if_neg (by omega)]; rfl
   ·rw[if_neg (c:=q=q0∧_) (by omega),Int.add_zero]
    by_cases c3:(ps.getD (m / 100).toNat []).getD i 0=(q:Int)
    ·by_cases c4:0≤m
     ·rw[if_pos ⟨c4,by omega,c3⟩,if_pos ⟨c4,by omega,c3⟩]
     ·rw[if_neg (by omega),if_neg (by omega)]
    ·rw[if_neg (fun h=>c3 h.2.2),if_neg (fun h=>c3 h.2.2)]
  rw[val]
  by_cases c:q=q0
  ·rw[if_pos c,aHt,c]
   by_cases c1:100*a≤m∧m≤100*(t:Int)+99
   ·have hb:eM ⟨100*a,100*a,100*(t:Int)+99,100*(t:Int)+99⟩ m=true:=by simp only[eM,inB,Bool.and_eq_true,decide_eq_true_eq]; exact c1
    rw[hb,if_pos (c:=q0=q0∧_) ⟨rfl,c1⟩]; simp only[if_true]; omega
   ·have hb:eM ⟨100*a,100*a,100*(t:Int)+99,100*(t:Int)+99⟩ m=false:=Bool.eq_false_iff.2 (by simp only[eM,inB,Bool.and_eq_true,decide_eq_true_eq,ne_eq]; exact c1)
    rw[hb,if_neg (c:=q0=q0∧_) (fun h=>c1 h.2)]; simp only[Bool.false_eq_true,if_false]; omega
  ·rw[if_neg c,if_neg (c:=q=q0∧_) (fun h=>c h.1)]; omega
theorem hZ.skip(K:hZ d ps t i nx sy si)(hi:i<d.planes.length)(e:nx.getD i 0=(ps.getD t []).getD i 0):hZ d ps t (i+1) nx sy si:=by
 refine⟨K.pl,K.pn,K.pq,K.nc,K.ly,K.ls,fun k hk=> ?_,fun k hk u h1 h2=> ?_,K.ok,fun q=> ?_,K.cnt⟩
 ·have:=K.sb k hk
  exact⟨this.1,this.2.1,fun h=>this.2.2 (by omega)⟩
 ·rw[K.run k hk u h1 h2]
  by_cases c:k<i
  ·rw[if_pos c,if_pos (by omega)]
  ·rw[if_neg c]
   by_cases c2:k=i
   ·subst c2; rw[if_pos (by omega),e]
   ·rw[if_neg (by omega)]
 ·have:=K.len q; omega
theorem hZ.next(K:hZ d ps t d.planes.length nx sy si)(h1:nx.length=d.planes.length)(h2:∀x∈nx,0≤x∧x<d.places.length)(h3:∀q,q<d.places.length→(nx.count (q:Int):Int)≤(d.places.getD q ⟨0,false⟩).berths)(nx':List Int):hZ d (ps++[nx]) (t+1) 0 nx' sy si:=by
 have gl:∀u,u≤t→(ps++[nx]).getD u []=ps.getD u []:=fun u hu=>by
  rw[List.getD_eq_getElem?_getD,List.getD_eq_getElem?_getD,qH (by rw[K.pl]; omega)]
 have gr:(ps++[nx]).getD (t+1) []=nx:=by
  rw[List.getD_eq_getElem?_getD,qI (by rw[K.pl]; omega),K.pl,Nat.sub_self]; rfl
 have sp:∀ {u},u≤t+1→u≤t∨u=t+1:=fun h=>by omega
 refine⟨by rw[List.length_append,K.pl]; rfl,fun u hu=> ?_,fun u hu=> ?_,fun u hu=> ?_,K.ly,K.ls,fun k hk=> ?_,fun k hk u a b=> ?_,fun q s h=> ?_,fun q=> ?_,fun q h m=> ?_⟩
 ·rcases sp hu with h | h
  ·rw[gl u h]; exact K.pn u h
  ·rw[h,gr]; exact h1
 ·rcases sp hu with h | h
  ·rw[gl u h]; exact K.pq u h
  ·rw[h,gr]; exact h2
 ·rcases sp hu with h | h
  ·rw[gl u h]; exact K.nc u h
  ·rw[h,gr]; exact h3
 ·have:=K.sb k hk
  omega
 ·rw[if_neg (by omega),gr]
  rcases sp b with h | h
  ·rw[gl u h,K.run k hk u a h,if_pos hk]
  ·rw[h,gr]
 ·have:=K.ok q s h
  exact⟨this.1,this.2.1,by omega⟩
 ·have:=K.len q
  rw[Nat.add_mul]; omega
 ·rw[K.cnt q h m]
  refine aA8 _ fun k hk=> ?_
  have:=(K.sb k hk).2.1
  by_cases c:0≤m∧m<100*si.getD k 0
  ·rw[gl (m / 100).toNat (by omega)]
  ·rw[if_neg (fun h=>c ⟨h.1,h.2.1⟩),if_neg (fun h=>c ⟨h.1,h.2.1⟩)]
theorem hZ.most(K:hZ d ps t i nx sy si){q:Nat}(hq:q<d.places.length)(hb:0≤(d.places.getD q ⟨0,false⟩).berths)(m:Int):aEr (sy.getD q []) m≤(d.places.getD q ⟨0,false⟩).berths:=by
 rw[K.cnt q hq m]
 by_cases c:0≤m∧m<100*((t:Int)+1)
 ·have hu:(m / 100).toNat≤t:=by omega
  refine Int.le_trans (aCa (g:=fun k=>if(ps.getD (m / 100).toNat []).getD k 0=(q:Int)then 1 else 0) _ fun k hk=> ?_) ?_
  ·by_cases c2:(ps.getD (m / 100).toNat []).getD k 0=(q:Int)
   ·rw[if_pos c2]; split<;>omega
   ·rw[if_neg (fun h=>c2 h.2.2),if_neg c2]; exact Int.le_refl _
  ·have hl:=K.pn _ hu
   rw[aAt _ (by omega),List.take_of_length_le (by omega)]
   exact K.nc _ hu q hq
 ·have:∀n,n≤d.planes.length→fR (fun k=>if 0≤m∧m<100*si.getD k 0∧(ps.getD (m / 100).toNat []).getD k 0=(q:Int)then 1 else 0) n=0:=fun n=>by
   induction n with
   | zero=>intro _; rfl
   | succ n ih=>
    intro hn
    have:=(K.sb n (by omega)).2.1
    rw[fR,ih (by omega),if_neg (by omega)]; rfl
  rw[this _ (Nat.le_refl _)]; exact hb
theorem hZ.dock{q:Nat}(K:hZ d ps t i nx sy si)(hB:0≤(d.places.getD q ⟨0,false⟩).berths∧(d.places.getD q ⟨0,false⟩).berths≤2)(hq:q<d.places.length)(ht:t≤5)(hn:d.planes.length≤2)(hi:i≤d.planes.length) :
 jU (sy.getD q []) (d.places.getD q ⟨0,false⟩).berths=0∧nI (sy.getD q []) (d.places.getD q ⟨0,false⟩).berths=none∧(sy.getD q []).all hJ=true∧(sy.getD q []).length≤12:=by
 have hl:=K.len q
 have hl2:t*d.planes.length≤5*2:=Nat.mul_le_mul ht hn
 have hs:(sy.getD q []).all hJ=true:=List.all_eq_true.2 fun s h=>by
  have:=K.ok q s h
  rw[nM]
  omega
 refine⟨?_,?_,hs,by omega⟩
 ·rw[jU,if_neg (by omega),hs,Bool.and_true]
  have:inB (d.places.getD q ⟨0,false⟩).berths 0 6=true:=by simp only[inB,Bool.and_eq_true,decide_eq_true_eq]; omega
  rw[this]; rfl
 ·rw[nI,List.find?_eq_none]
  intro m _
  have:=K.most hq hB.1 m
  simp only[aAD,decide_eq_true_eq]
  unfold aEr at this
  omega
end
end Go.Proofs.Ab
namespace Go.Proofs.Ab
open Go Go.Proofs
variable {w0:World} {h:Heap}
def rV(l:List aU):List AV:=(l.map aU.c).flatten
theorem aAN(l:List aU):(rV l).length=l.length*4:=by
 induction l with
 | nil=>rfl
 | cons a l ih=>simp only[rV,List.map_cons,List.flatten_cons,List.length_append,List.length_cons]at ih ⊢; rw[ih]; simp[aU.c]; omega
theorem aEg(l:List aU)(x:aU):rV (l++[x])=rV l++x.c:=by simp[rV]
structure StL(Y:Heap)(sb:Nat)(cells:List AV)(ios:List Nat)(sy:List (List aU)):Prop where
 box:Y[sb]? = some (some (.row cells))
 lc:cells.length=sy.length
 li:ios.length=sy.length
 own:∀q,q<sy.length→(sy.getD q []=[]∧cells.getD q .undef= .nilS)∨(sy.getD q []≠[]∧cells.getD q .undef= .sl (.own (ios.getD q 0) 0) (sy.getD q []).length 4 false∧Y[ios.getD q 0]? = some (some (.row (rV (sy.getD q [])))))
 dis:∀q q',q<sy.length→q'<sy.length→q≠q'→sy.getD q []≠[]→sy.getD q' []≠[]→ios.getD q 0≠ios.getD q' 0
section
variable {Y:Heap} {sb:Nat} {cells:List AV} {ios:List Nat} {sy:List (List aU)}
theorem StL.sub(s:StL Y sb cells ios sy){Z:Heap}(t:aB Y Z):StL Z sb cells ios sy:=
 ⟨t.2 _ _ s.box,s.lc,s.li,fun q hq=>(s.own q hq).imp id fun⟨a,b,c⟩=>⟨a,b,t.2 _ _ c⟩,s.dis⟩
theorem StL.keep(s:StL Y sb cells ios sy){Z:Heap}(h1:Z[sb]? = Y[sb]?)(h2:∀q,q<sy.length→sy.getD q []≠[]→Z[ios.getD q 0]? = Y[ios.getD q 0]?):StL Z sb cells ios sy:=
 ⟨h1.trans s.box,s.lc,s.li,fun q hq=>(s.own q hq).imp id fun⟨a,b,c⟩=>⟨a,b,(h2 q hq a).trans c⟩,s.dis⟩
theorem StL.sl(s:StL Y sb cells ios sy){q:Nat}(hq:q<sy.length):Sl w0 Y 4 (cells.getD q .undef) ((sy.getD q []).map aU.c):=by
 rcases s.own q hq with⟨a,b⟩ | ⟨a,b,c⟩
 ·rw[a,b]; exact .inl ⟨rfl,rfl⟩
 ·rw[b]
  have:=fY (w0:=w0) (full:=false) (rows:=(sy.getD q []).map aU.c) (es:=4) c fun c hc=>by obtain⟨z,_,rfl⟩:=List.mem_map.1 hc; rfl
  rwa [List.length_map]at this
theorem StL.at_(s:StL Y sb cells ios sy){q:Nat}(hq:q<sy.length):cF 1 (.sl (.own sb 0) sy.length 1 true) (some q)=some (.ptr (.own sb q))∧∀L,rd w0 (Y++L) (.own sb q)=some (cells.getD q .undef):=by
 refine⟨by simp[cF,hq,Pl.add,fH],fun L=> ?_⟩
 simp only[rd,aA (k:=L) s.box]
 rw[qA (by rw[s.lc]; exact hq),aE (by rw[s.lc]; exact hq)]
theorem StL.ne(s:StL Y sb cells ios sy){q b:Nat}(hq:q<sy.length)(hs:sy.getD q []≠[]){c:List AV}(hb:Y[b]? = some (some (.row c)))(hc:(∀n,c[0]? ≠ some (.int .i64 n))∨c.length<4):ios.getD q 0≠b:=fun e=>by
 rcases s.own q hq with⟨a,_⟩ | ⟨_,_,g⟩
 ·exact hs a
 ·rw[e,hb]at g
  have g:c=rV (sy.getD q []):=by simpa using g
  obtain⟨x,l,hl⟩:=List.exists_cons_of_ne_nil hs
  rcases hc with hc | hc
  ·refine hc x.cl ?_
   rw[g,hl]; rfl
  ·have:=aAN (sy.getD q [])
   rw[←g,hl]at this
   simp only[List.length_cons]at this
   omega
theorem StL.more(s:StL Y sb cells ios sy){q k:Nat}{x:aU}{f:Bool}(hq:q<sy.length)(hk:Y[k]? = some (some (.row x.c)))(hn:(sy.getD q []).length≤1000)(hsb:∀n,cells[0]? ≠ some (.int .i64 n)) :
 ∃G,eD w0 Y 4 32 (cells.getD q .undef) (.sl (.own k 0) 1 4 f)=some (.sl (.own Y.length 0) ((sy.getD q []).length+1) 4 false,G)∧G.length=Y.length+1∧(∀(i:Nat) b,(sy.getD q []≠[]→i≠ios.getD q 0)→Y[i]? = some (some b)→G[i]? = some (some b))∧G[sb]? = some (some (.row cells)) ∧
  StL (G.set sb (some (.row (cells.set q (.sl (.own Y.length 0) ((sy.getD q []).length+1) 4 false))))) sb (cells.set q (.sl (.own Y.length 0) ((sy.getD q []).length+1) 4 false)) (ios.set q Y.length) (sy.set q (sy.getD q []++[x])):=by
 have hov:(sy.getD q []).length=0∧cells.getD q .undef= .nilS∧rV (sy.getD q [])=[]∨(sy.getD q []).length≠0∧cells.getD q .undef= .sl (.own (ios.getD q 0) 0) (sy.getD q []).length 4 false∧Y[ios.getD q 0]? = some (some (.row (rV (sy.getD q []))))∧(rV (sy.getD q [])).length=(sy.getD q []).length*4:=by
  rcases s.own q hq with⟨a,b⟩ | ⟨a,b,c⟩
  ·exact .inl ⟨by rw[a]; rfl,b,by rw[a]; rfl⟩
  ·exact .inr ⟨fun e=>a (List.eq_nil_of_length_eq_zero e),b,c,aAN _⟩
 obtain⟨G,e1,e2,e3,e4⟩:=qM (w0:=w0) (b:=32) (f:=f) hov hk rfl rfl (by omega) (by omega)
 have e4':∀(i:Nat) b,(sy.getD q []≠[]→i≠ios.getD q 0)→Y[i]? = some (some b)→G[i]? = some (some b):=fun i b hi=>e4 i b fun h0=>hi fun e=>h0 (by rw[e]; rfl)
 have lsb:=aD s.box
 have nsb:∀q',q'<sy.length→sy.getD q' []≠[]→ios.getD q' 0≠sb:=fun q' h1 h2=>s.ne h1 h2 s.box (.inl hsb)
 have gsb:G[sb]? = some (some (.row cells)):=e4' sb _ (fun hs e=>nsb q hq hs e.symm) s.box
 refine⟨G,e1,e2,e4',gsb,⟨qF (aD gsb),by simp[s.lc],by simp[s.li],fun q' hq'=> ?_,fun q1 q2 h1 h2 hne n1 n2=> ?_⟩⟩
 ·rw[List.length_set]at hq'
  rw[dT hq,dT (by rw[s.lc]; exact hq),dT (by rw[s.li]; exact hq)]
  by_cases e:q'=q
  ·simp only[if_pos e]
   refine .inr ⟨by simp,by rw[List.length_append]; rfl,?_⟩
   rw[qB (by omega),e3,aEg]
  ·simp only[if_neg e]
   rcases s.own q' hq' with a | ⟨a,b,c⟩
   ·exact .inl a
   ·refine .inr ⟨a,b,?_⟩
    rw[qB (fun w=>nsb q' hq' a w.symm)]
    exact e4' _ _ (fun hs=>s.dis q' q hq' hq e a hs) c
 ·rw[List.length_set]at h1 h2
  rw[dT hq]at n1 n2
  rw[dT (by rw[s.li]; exact hq),dT (by rw[s.li]; exact hq)]
  have lt:∀q',q'<sy.length→sy.getD q' []≠[]→ios.getD q' 0<Y.length:=fun q' a b=>by
   rcases s.own q' a with⟨c,_⟩ | ⟨_,_,c⟩
   ·exact absurd c b
   ·exact aD c
  by_cases c1:q1=q
  ·by_cases c2:q2=q
   ·omega
   ·rw[if_pos c1,if_neg c2]
    rw[if_neg c2]at n2
    have:=lt q2 h2 n2; omega
  ·rw[if_neg c1]
   rw[if_neg c1]at n1
   by_cases c2:q2=q
   ·rw[if_pos c2]
    have:=lt q1 h1 n1; omega
   ·rw[if_neg c2]
    rw[if_neg c2]at n2
    exact s.dis q1 q2 h1 h2 hne n1 n2
end
end Go.Proofs.Ab
namespace Go.Proofs.Ab
open Go Go.Proofs
variable {w0:World} {h:Heap}
attribute [local irreducible] ACall bE cR aK bI rvC lp rg dr ex un rv
theorem aJy{C C':List Nat}{Y Z:Heap}(hl:Y.length≤Z.length)(h1:∀(j:Nat) b,j∉C→Y[j]? = some (some b)→Z[j]? = some (some b))(h2:∀c∈C',c∈C∨Y.length≤c):aB (msk C Y) (msk C' Z):=by
 refine⟨by rw[cD,cD]; exact hl,fun j b e=> ?_⟩
 have hj:=aD e
 rw[cD]at hj
 have hC:j∉C:=fun h=>by rw[lT h hj]at e; cases e
 rw[aT hC]at e
 rw[aT (fun h=>(h2 j h).elim hC fun w=>by omega)]
 exact h1 j b hC e
theorem aFz{l:List Nat}{i x c:Nat}(h:c∈l.set i x):c∈l∨c=x:=by
 rcases List.mem_or_eq_of_mem_set h with h | h
 ·exact .inl h
 ·exact .inr h
theorem aHw{l:List AV}{i:Nat}{x:AV}(hi:i<l.length):List.take i l++x::List.drop (i+1) l=l.set i x:=by rw[List.set_eq_take_append_cons_drop,if_pos hi]
theorem aG8{o:List Int}{i:Nat}{x:Int}(hi:i<o.length):List.take i (aN o)++AV.int .i64 x::List.drop (i+1) (aN o)=aN (o.set i x):=by
 rw[aN,aN,List.map_set,List.set_eq_take_append_cons_drop,if_pos (by simpa using hi)]
theorem StL.c0{Y:Heap}{sb:Nat}{cells:List AV}{ios:List Nat}{sy:List (List aU)}(s:StL Y sb cells ios sy)(n:Int):cells[0]? ≠ some (.int .i64 n):=fun e=>by
 have h0:0<cells.length:=aD e
 have hq:0<sy.length:=by rw[←s.lc]; exact h0
 have hc:cells.getD 0 .undef= .int .i64 n:=by rw[List.getD_eq_getElem?_getD,e]; rfl
 rcases s.own 0 hq with⟨_,b⟩ | ⟨_,b,_⟩<;>rw[hc]at b<;>cases b
structure KpI(w0:World)(d:aQ)(H2:Heap)(kb sb ib nb:Nat)(s s':aF)(sv nw:StV)(ps:List (List Int))(t i:Nat)(Y:Heap)(cells:List AV)(ios:List Nat)(sy:List (List aU))(si:List Int):Prop where
 sub:aB H2 Y
 hk:Y[kb]? = some (some (.row (stC sv)))
 hn:Y[nb]? = some (some (.row (stC nw)))
 st:StL Y sb cells ios sy
 hi:Y[ib]? = some (some (.row (aN si)))
 s1:StS w0 (msk (kb::sb::ib::ios) Y) s sv
 s2:StS w0 (msk (kb::sb::ib::ios) Y) s' nw
 kp:hZ d ps t i s'.planes sy si
 io:∀c∈ios,H2.length≤c∧c<Y.length
theorem KpI.more{d:aQ}{H2:Heap}{kb sb ib nb:Nat}{s s':aF}{sv nw:StV}{ps:List (List Int)}{t i:Nat}{Y:Heap}{cells:List AV}{ios:List Nat}{sy:List (List aU)}{si:List Int}
 (K:KpI w0 d H2 kb sb ib nb s s' sv nw ps t i Y cells ios sy si) (hi:i<d.planes.length) (hn2:d.planes.length≤2) (ht:t≤5) {q0:Nat} (hq0:(ps.getD t []).getD i 0=(q0:Int)) (hkb:H2.length≤kb) (hsb:H2.length≤sb) (hib:H2.length≤ib) (nsk:sb≠kb) (nsi:sb≠ib) (nik:ib≠kb) (nns:nb≠sb) (nni:nb≠ib) (f:Bool) :
 ∃G v',eD w0 (Y++[some (Blk.row [.int .i64 (100*si.getD i 0),.int .i64 (100*si.getD i 0),.int .i64 (100*(t:Int)+99),.int .i64 (100*(t:Int)+99)])]) 4 32 (cells.getD q0 .undef) (.sl (.own Y.length 0) 1 4 f)=some (v',G)∧G[sb]? = some (some (.row cells))∧G[ib]? = some (some (.row (aN si)))∧q0<cells.length∧q0<d.places.length∧one v'=true∧cellsOf v'=some [v']∧G[kb]? = some (some (.row (stC sv)))∧aB (msk (kb::sb::ib::ios) Y) G ∧
  ∃ios',KpI w0 d H2 kb sb ib nb s s' sv nw ps t (i+1) ((G.set sb (some (.row (cells.set q0 v')))).set ib (some (.row (aN (si.set i ((t:Int)+1)))))) (cells.set q0 v') ios' (sy.set q0 (sy.getD q0 []++[⟨100*si.getD i 0,100*si.getD i 0,100*(t:Int)+99,100*(t:Int)+99⟩])) (si.set i ((t:Int)+1)):=by
 have hq:q0<d.places.length:=by
  have hl:=K.kp.pn t (Nat.le_refl _)
  have:=K.kp.pq t (Nat.le_refl _) _ (qG (show i<(ps.getD t []).length by omega))
  rw[aE (by omega)]at hq0
  omega
 have lsy:q0<sy.length:=by rw[K.kp.ly]; exact hq
 have lce:q0<cells.length:=by rw[K.st.lc]; exact lsy
 have hlen:=K.kp.len q0
 have hl2:t*d.planes.length≤5*2:=Nat.mul_le_mul ht hn2
 obtain⟨x,ex⟩:∃x:aU,x=⟨100*si.getD i 0,100*si.getD i 0,100*(t:Int)+99,100*(t:Int)+99⟩:=⟨_,rfl⟩
 obtain⟨Z,eZ⟩:∃Z,Z=Y++[some (Blk.row x.c)]:=⟨_,rfl⟩
 have sZ:aB Y Z:=by rw[eZ]; exact aB.refl.app
 have lZ:Z.length=Y.length+1:=by rw[eZ]; simp
 have zk:Z[Y.length]? = some (some (.row x.c)):=by rw[eZ]; simp
 have stZ:=K.st.sub sZ
 obtain⟨G,ap,lG,keep,gsb,stG⟩:=stZ.more (w0:=w0) (f:=f) lsy zk (by omega) stZ.c0
 obtain⟨v',ev⟩:∃v',v'=AV.sl (.own Z.length 0) ((sy.getD q0 []).length+1) 4 false:=⟨_,rfl⟩
 rw[←ev]at ap stG
 rw[←ex]
 have lsi:si.length=d.planes.length:=K.kp.ls
 have nio:∀ {b:Nat} {c:List AV},Z[b]? = some (some (.row c))→c.length<4→sy.getD q0 []≠[]→b≠ios.getD q0 0:=fun h1 h2 h3 e=>stZ.ne lsy h3 h1 (.inr h2) e.symm
 have zi:=sZ.2 _ _ K.hi
 have zkb:=sZ.2 _ _ K.hk
 have znb:=sZ.2 _ _ K.hn
 have gi:=keep ib _ (nio zi (by simp[aN]; omega)) zi
 have gk:=keep kb _ (nio zkb (by simp[stC])) zkb
 have gn:=keep nb _ (nio znb (by simp[stC])) znb
 have hio:∀c∈ios.set q0 Z.length,H2.length≤c∧c<Y.length+2:=fun c hc=>by
  rcases aFz hc with h | h
  ·have:=K.io c h; omega
  ·have:=K.sub.1; omega
 have mio:sy.getD q0 []≠[]→ios.getD q0 0∈ios:=fun _=>by
  rw[aE (by rw[K.st.li]; exact lsy)]; exact qG _
 have hG:aB (msk (kb::sb::ib::ios) Y) G:=⟨by rw[cD]; omega,fun j b e=>by
  have hj:=aD e
  rw[cD]at hj
  refine keep j b (fun h w=> ?_) (sZ.2 _ _ (bD.2 _ _ e))
  rw[lT (w▸List.mem_cons_of_mem _ (List.mem_cons_of_mem _ (List.mem_cons_of_mem _ (mio h)))) hj]at e; cases e⟩
 obtain⟨W,eW⟩:∃W,W=(G.set sb (some (.row (cells.set q0 v')))).set ib (some (.row (aN (si.set i ((t:Int)+1))))):=⟨_,rfl⟩
 have lW:W.length=Y.length+2:=by rw[eW]; simp[lG,lZ]
 have hW:∀(j:Nat) b,j≠sb→j≠ib→(sy.getD q0 []≠[]→j≠ios.getD q0 0)→Y[j]? = some (some b)→W[j]? = some (some b):=fun j b n1 n2 n3 e=>by
  rw[eW,qB (Ne.symm n2),qB (Ne.symm n1)]
  exact keep j b n3 (sZ.2 _ _ e)
 have hsubW:aB (msk (kb::sb::ib::ios) Y) (msk (kb::sb::ib::ios.set q0 Z.length) W):=aJy (by omega) (fun j b hj e=>by
  simp only[List.mem_cons,not_or]at hj
  exact hW j b hj.2.1 hj.2.2.1 (fun h w=>hj.2.2.2 (w▸mio h)) e) fun c hc=>by
   simp only[List.mem_cons]at hc ⊢
   rcases hc with h | h | h | h
   ·exact .inl (.inl h)
   ·exact .inl (.inr (.inl h))
   ·exact .inl (.inr (.inr (.inl h)))
   ·rcases aFz h with h | h
    ·exact .inl (.inr (.inr (.inr h)))
    ·right; omega
 have subW:aB H2 W:=⟨by have:=K.sub.1; omega,fun j b e=>by
  have hj:=aD e
  exact hW j b (by omega) (by omega) (fun h w=>by have:=K.io _ (mio h); omega) (K.sub.2 _ _ e)⟩
 refine⟨G,v',by rw[ex]at eZ; rw[←ap,eZ]; rfl,gsb,gi,lce,hq,by rw[ev]; rfl,by rw[ev]; rfl,gk,hG,ios.set q0 Z.length,?_⟩
 rw[←eW]
 have K2:=K.kp.add hi hq0
 rw[←ex]at K2
 refine⟨subW,?_,?_,?_,?_,K.s1.sub hsubW,K.s2.sub hsubW,K2,fun c hc=>by have:=hio c hc; omega⟩
 ·rw[eW,qB nik,qB nsk]; exact gk
 ·rw[eW,qB (Ne.symm nni),qB (Ne.symm nns)]; exact gn
 ·refine stG.keep (by rw[eW,qB (Ne.symm nsi)]) fun q hq hs=> ?_
  have:(ios.set q0 Z.length).getD q 0≠ib:=stG.ne hq hs (b:=ib) (c:=aN si) (by rw[qB nsi]; exact gi) (.inr (by simp[aN]; omega))
  rw[eW,qB (Ne.symm this)]
 ·rw[eW]; exact qF (by rw[List.length_set]; exact aD gi)
theorem aCA{d:aQ}{s:aF}(hc:NC d s){q:Nat}(hq:q<d.places.length):(s.planes.count (q:Int):Int)≤(d.places.getD q ⟨0,false⟩).berths:=by
 have:=List.any_eq_false.1 hc q (List.mem_range.2 hq)
 simp only[fN,decide_eq_true_eq]at this
 omega
def KptO(w0:World)(d:aQ)(row:List (List aH))(V:Int)(n:Nat)(H2:Heap)(kb sb ib t:Nat)(X:Heap)(s:aF)(sv:StV)(cells:List AV)(ios:List Nat)(sy:List (List aU))(si:List Int):Prop:=
 aB H2 X∧X[kb]? = some (some (.row (stC sv)))∧StS w0 (msk (kb::sb::ib::ios) X) s sv∧StL X sb cells ios sy∧X[ib]? = some (some (.row (aN si)))∧(∀c∈ios,H2.length≤c∧c<X.length) ∧
  ((t≤aL d∧rX d row V n t s∧∃ps,ps.getD t []=s.planes∧∀nx,hZ d ps t 0 nx sy si)∨(t=aL d+1∧∃ps nx,hZ d ps (aL d) d.planes.length nx sy si))
set_option maxRecDepth 20000 in
set_option maxHeartbeats 1000000 in
theorem aHH(d:aQ)(v:cU)(w:Int)(hS:DayS w0 h d v)(hW:d.weathers.length≤9223372036854775807):ACall Tryz.prog w0 5 [.agg (aX v),.int .i64 w] h fun y H=>y= .bool true∧aB h H:=by
 refine aO mf5_k fun hb ha=> ?_
 rw[List.append_nil]
 obtain⟨y1,y2,y3,y4,y5⟩:=hS.ones
 obtain⟨l1,l2,l3,l4,l5⟩:=hS.lens
 obtain⟨K,eK⟩:∃K,K=h++[some (Blk.row [v.pl,v.ln,v.pn,v.pe,v.we])]:=⟨_,rfl⟩
 have sK:aB h K:=eK▸aB.refl.app
 have k0:K[h.length]? = some (some (.row [v.pl,v.ln,v.pn,v.pe,v.we])):=by rw[eK]; simp
 have k0L:=xL k0
 have lK:K.length=h.length+1:=by rw[eK]; simp
 simp only[go_sem,mf5,aX,y1,y2,y3,y4,y5]
 rw[←eK]
 refine aC (aN9 d v (hS.sub sK) hW).v ?_
 cases e1:pW d with
 | false=>
  simp only[go_sem]
  refine aC xR.v ?_
  simp only[go_sem]
  exact sK
 | true=>
 by_cases t1:w<0
 ·simp only[go_sem,t1]
  refine aC xR.v ?_
  simp only[go_sem]
  exact sK
 by_cases t2:(d.weathers.length:Int)≤w
 ·have t2':w≥(d.weathers.length:Int):=t2
  simp only[go_sem,t1,k0,k0L,l5,t2,t2']
  refine aC xR.v ?_
  simp only[go_sem]
  exact sK
 have t2':¬w≥(d.weathers.length:Int):=t2
 obtain⟨n,rfl⟩:∃n:Nat,w=n:=⟨w.toNat,by omega⟩
 have hn:n<d.weathers.length:=by omega
 obtain⟨hB,m1,m2,m3,m4,m5,m6⟩:=aJV e1
 have hR:kU w0 K d v:=(hS.sub sK).R11 ⟨m1,m2,m3,m4,m5,m6⟩
 have dg:=tA hB
 simp only[go_sem,t1,k0,k0L,l5,t2,t2',y1,y2,y3,y4,y5]
 refine aJ (ACall.v1 (best_c d v hR)) ?_
 rintro y H1 ⟨s1,hyes,_⟩
 obtain⟨qv,rfl,hQ⟩:=hyes hB
 obtain⟨pol,epol⟩:∃p,p=(nA d).1:=⟨_,rfl⟩
 obtain⟨V,eV⟩:∃V,V=(nA d).2:=⟨_,rfl⟩
 rw[←epol]at hQ
 rw[←eV]
 have m0:=s1.2 _ _ k0
 have m0L:=xL m0
 have hR1:=hR.sub s1
 have hPB:aBk d pol=true:=epol▸aOh hB
 have ok:=aMl hPB
 have hsl:=dg.s1
 have hw1:=dg.w1
 have hlen:=ok.len
 have uok:∀r∈pol,r.length<1000000∧∀u∈r,u.length<1000000∧∀x∈u,x.people.length<1000000:=fun r hr=>by
  obtain⟨i,hi,rfl⟩:=List.getElem_of_mem hr
  have hri:=ok.row i hi
  refine⟨by omega,fun u hu=> ?_⟩
  obtain⟨j,hj,rfl⟩:=List.getElem_of_mem hu
  have hub:=(aFs (ok.un i hi j hj)).ok dg.pe
  have h1:=hub.len
  have h2:=dg.pn
  exact⟨by omega,hub.pl⟩
 simp only[go_sem,m0,m0L,y1,y2,y3,y4,y5]
 refine aC (aGL hR1 hQ (List.length_pos_iff.1 dg.w0) (by omega) (by omega) uok).v ?_
 rw[hPB]
 simp only[go_sem,m0,m0L,y1,y2,y3,y4,y5]
 refine aJ (ACall.v1 (aCp d v hR1)) ?_
 rintro y H2 ⟨s2,nv,rfl,hst⟩
 obtain⟨o1,o2,o3⟩:=hst.ones
 have b0:=(s1.trans s2).2 _ _ k0
 have b0L:=xL b0
 have hQ2:=hQ.sub s2
 have hP1:d.places.length≤d.places.length∧d.places.length*25≤1099511627776:=⟨Nat.le_refl _,by omega⟩
 have hN1:d.planes.length≤d.planes.length∧d.planes.length*9≤1099511627776:=⟨Nat.le_refl _,by omega⟩
 simp only[go_sem,stC,o1,o2,o3,b0,b0L,l1,l3,hP1,hN1,aCo,vF,beq_self_eq_true]
 obtain⟨kb,ekb⟩:∃kb,kb=H2.length:=⟨_,rfl⟩
 obtain⟨sb,esb⟩:∃sb,sb=H2.length+1:=⟨_,rfl⟩
 obtain⟨ib,eib⟩:∃ib,ib=H2.length+2:=⟨_,rfl⟩
 obtain⟨M0,eM0⟩:∃M0,M0=H2++[some (Blk.row [nv.pl,nv.le,nv.pe]),some (Blk.row (List.replicate d.places.length .nilS)),some (Blk.row (aN (List.replicate d.planes.length 0)))]:=⟨_,rfl⟩
 have sM0:aB H2 M0:=eM0▸aB.refl.app
 have lM0:M0.length=H2.length+3:=by rw[eM0]; simp
 have a0:M0[kb]? = some (some (.row (stC nv))):=by rw[eM0,ekb,qI (Nat.le_refl _),Nat.sub_self]; rfl
 have a1:M0[sb]? = some (some (.row (List.replicate d.places.length .nilS))):=by rw[eM0,esb,qI (by omega)]; simp
 have a2:M0[ib]? = some (some (.row (aN (List.replicate d.planes.length 0)))):=by rw[eM0,eib,qI (by omega)]; simp
 rw[←eM0,←ekb,show kb+1=sb from by omega,show kb+2=ib from by omega]
 have hnp:n<pol.length:=by omega
 have hI0:rX d (pol.getD n []) V n 0 (bV d):=by rw[epol,eV]; exact aA0 hB hn
 have hrow:pol.getD n []=pol[n]:=aE hnp
 rw[hrow]at hI0
 have hrl:=ok.row n hnp
 have p0:1≤d.places.length:=dg.p0
 have hsy0:∀q,(List.replicate d.places.length ([]:List aU)).getD q []=[]:=fun q=>by
  rw[List.getD_eq_getElem?_getD,List.getElem?_replicate]; split<;>rfl
 have st0:StL M0 sb (List.replicate d.places.length .nilS) (List.replicate d.places.length sb) (List.replicate d.places.length []):=⟨a1,by simp,by simp,fun q hq=> .inl ⟨hsy0 q,by rw[List.length_replicate]at hq; exact vR hq⟩,fun q q' _ _ _ hs=>absurd (hsy0 q) hs⟩
 have hs0:StS w0 (msk (kb::sb::ib::List.replicate d.places.length sb) M0) (bV d) nv:=by
  refine hst.sub ⟨by rw[cD]; omega,fun j b e=> ?_⟩
  have hj:=aD e
  rw[aT (fun hc=>by
   simp only[List.mem_cons,List.mem_replicate]at hc
   omega)]
  exact sM0.2 _ _ e
 have kp0:∀nx,hZ d [(bV d).planes] 0 0 nx (List.replicate d.places.length []) (List.replicate d.planes.length 0):=fun nx=>hZ.begin_ hI0.2.2.1.s1 hI0.2.2.1.at_ fun q hq=>aCA hI0.2.1 hq
 refine bS (S:=Heap×aF×StV×List AV×List Nat×List (List aU)×List Int) (fun t _=>[(1,.int .i64 n),(2,.ptr (.own h.length 0)),(5,qv),(8,.ptr (.own kb 0)),(9,.sl (.own sb 0) d.places.length 1 true),(10,.sl (.own ib 0) d.planes.length 1 true),(11,.int .i64 t)]) (fun _ st=>st.1)
  (fun t st=>KptO w0 d pol[n] V n H2 kb sb ib t st.1 st.2.1 st.2.2.1 st.2.2.2.1 st.2.2.2.2.1 st.2.2.2.2.2.1 st.2.2.2.2.2.2) (aL d+1) (M0,bV d,nv,_,_,_,_) ⟨sM0,a0,hs0,st0,a2,fun c hc=>by rw[(List.mem_replicate.1 hc).2]; exact⟨by omega,show sb<M0.length by omega⟩,.inl ⟨Nat.zero_le _,hI0,_,rfl,kp0⟩⟩ rfl rfl ?_ ?_
 ·rintro t ⟨X,s,sv,cells,ios,sy,si⟩ ht ⟨sX,hk,hs,hst,hsi,hio,hcs⟩ ih
  simp only at sX hk hs hst hsi hio hcs ih ⊢
  obtain⟨ht2,hWk,ps,hps,hkp⟩:t≤aL d∧rX d pol[n] V n t s∧∃ps,ps.getD t []=s.planes∧∀nx,hZ d ps t 0 nx sy si:=by
   rcases hcs with h | h
   ·exact h
   ·exact absurd h.1 (by omega)
  refine aP [1,2,5,8,9,10,11] L5_1.eq_1 ?_
  have hQX:=hQ2.sub sX
  have hRX:=hR.sub ((s1.trans s2).trans sX)
  obtain⟨pj,xj,ij,tj,tj',sxj⟩:=hQX.row hnp
  have lxj:=NS.len sxj
  have i5:(t:Int)≤pol[n].length:=by omega
  have hkL:=xL hk
  have hk':=hk
  simp only[stC]at hk'
  obtain⟨v1,v2,v3⟩:=(hs.sub bD).ones
  obtain⟨nb,enb⟩:∃nb,nb=X.length:=⟨_,rfl⟩
  have hlX:=sX.1
  have lkb:=aD hk
  have lib:=aD hsi
  have lsb:=aD hst.box
  have hWs:=hWk.2.2.1
  have hsl2:=hWs.s1
  have hsl3:=hWs.s2
  have hsl4:=hWs.s3
  have dpn:=dg.pn
  have dpe:=dg.pe
  obtain⟨X1,eX1⟩:∃X1,X1=X++[some (Blk.row [sv.pl,sv.le,sv.pe])]:=⟨_,rfl⟩
  have sX1:aB X X1:=eX1▸aB.refl.app
  have lX1:X1.length=X.length+1:=by rw[eX1]; simp
  have x1:X1[nb]? = some (some (.row (stC sv))):=by rw[eX1,enb]; simp[stC]
  have nX:=sX.2 _ _ b0
  have nXL:=xL nX
  obtain⟨C,eC⟩:∃C,C=kb::sb::ib::ios:=⟨_,rfl⟩
  have hCX:∀c∈C,c<nb:=fun c hc=>by
   rw[eC]at hc
   simp only[List.mem_cons]at hc
   rcases hc with h | h | h | h
   ·omega
   ·omega
   ·omega
   ·have:=hio c h; omega
  rw[←eC]at hs
  rcases(show(t:Int)<pol[n].length∨¬(t:Int)<pol[n].length from by omega)with c1 | c1
  case' inl=>
   have ct:t<aL d:=by omega
   obtain⟨h1,hub,hf1,hf2,hW2⟩:=aAn dg hn hWk ct
   obtain⟨p2,uv,i2,ta,tb,hU⟩:=aH7 sxj h1
   obtain⟨h2,ew,ew0,ew1⟩:=wAt_bd dg hn ct
   obtain⟨pw,xw,iw,tw,sw⟩:=hRX.toDayS.weathers.at_ hn
   obtain⟨po,iq,ro,ro'⟩:=SlI.at_ sw h2
   rw[←ew]at ro ro'
   have huu:=(uok _ (qG hnp)).2 _ (qG h1)
   simp only[go_sem,ij,tj,tj',lxj,i5,c1,hk',hkL,v1,v2,v3,nX,nXL,y1,y2,y3,y4,y5,iw,tw,iq,ro,ro',i2,ta,tb]
   rw[←eX1,←enb]
   refine aJ (ACall.v4 (Fly_c d v s sv (wAt d n t) pol[n][t] uv (hRX.sub sX1) ((hs.sub bD).sub sX1) (hU.sub sX1) (by omega) (by omega) (by omega) huu.1 huu.2)) ?_
   rintro y H3 ⟨s3,nw,rfl,hnw,how⟩
   have hok:pO d s (wAt d n t) pol[n][t]=true:=by
    rw[pO,hB,aCb hWs (by omega),aLV hB hn ct,hub]; rfl
   have how:=how hok
   rw[aCU,if_pos hok]at hnw how ⊢
   simp only[hf1,hf2]at hnw how ⊢
   obtain⟨s',es'⟩:∃s',s'=(eJ d s (wAt d n t) pol[n][t]).1:=⟨_,rfl⟩
   rw[←es']at hnw how hW2
   obtain⟨u1,u2,u3⟩:=hnw.ones
   obtain⟨H4,eH4⟩:∃H4,H4=H3++[some (Blk.row [nw.pl,nw.le,nw.pe])]:=⟨_,rfl⟩
   have s4:aB H3 H4:=eH4▸aB.refl.app
   have f1:H4[H3.length]? = some (some (.row [nw.pl,nw.le,nw.pe])):=by rw[eH4]; simp
   have f1L:=xL f1
   have s34:=s3.trans s4
   have x4:=s34.2 _ _ x1
   have n4:=(sX1.trans s34).2 _ _ nX
   have n4L:=xL n4
   have x4':=x4
   simp only[stC]at x4'
   simp only[go_sem,stC,u1,u2,u3]
   rw[←eH4]
   have hsn2:=hW2.2.2.1
   have hm1:=hsn2.s1
   have hm3:=hsn2.s3
   simp only[go_sem,n4,n4L,f1,f1L,u1,u2,u3,y1,y2,y3,y4,y5]
   refine aC (aIC d v s' nw ((hRX.sub sX1).sub s34) (hnw.sub s4) (by omega) (by omega)).v ?_
   rw[aCb hsn2 (by omega)]
   simp only[go_sem,f1,f1L,u1,u2,u3,x4']
   obtain⟨Y0,eY0⟩:∃Y0,Y0=H4.set nb (some (Blk.row [nw.pl,nw.le,nw.pe])):=⟨_,rfl⟩
   rw[←eY0]
   have l34:=s34.1
   have lY0:Y0.length=H4.length:=by rw[eY0,List.length_set]
   have keepY:∀(j:Nat) b,j<nb→X[j]? = some (some b)→Y0[j]? = some (some b):=fun j b hj e=>by
    rw[eY0,qB (by omega)]; exact s34.2 _ _ (sX1.2 _ _ e)
   have sub0:aB H2 Y0:=⟨by omega,fun j b e=>keepY j b (by have:=aD e; omega) (sX.2 _ _ e)⟩
   have f8:=keepY kb _ (by omega) hk
   have f12:Y0[nb]? = some (some (.row (stC nw))):=by rw[eY0]; exact qF (aD x4)
   have stY:StL Y0 sb cells ios sy:=(hst.sub (sX1.trans s34)).keep (by rw[eY0,qB (by omega)]) fun q hq hs=>by
    rw[eY0,qB (fun e=>by
     have:=hio _ (show ios.getD q 0∈ios by rw[aE (by rw[hst.li]; exact hq)]; exact qG _)
     omega)]
   have fi:=keepY ib _ (by omega) hsi
   have q1:StS w0 (msk C Y0) s sv:=hs.sub (aJy (by omega) (fun j b hj e=>keepY j b (by have:=aD e; omega) e) fun c hc=> .inl hc)
   have q2:StS w0 (msk C Y0) s' nw:=((how.st (C:=nb::C) fun i hi=>by
    rcases List.mem_cons.1 hi with h | h
    ·omega
    ·have:=hCX i h; omega).sub (aAJ s4)).sub (aJy (by omega) (fun j b hj e=>by
     rw[eY0,qB (fun w=>hj (by rw[←w]; exact List.mem_cons_self))]; exact e) fun c hc=> .inl (List.mem_cons_of_mem _ hc))
   have hio0:∀c∈ios,H2.length≤c∧c<Y0.length:=fun c hc=>by have:=hio c hc; omega
   have lY:nb<Y0.length:=by omega
   have fin:(t<aL d∧rX d pol[n] V n (t+1) s')∨(t=aL d∧s'=s):= .inl ⟨ct,hW2⟩
  case' inr=>
   have ct:t=aL d:=by omega
   simp only[go_sem,ij,tj,tj',lxj,i5,c1,hk',hkL,v1,v2,v3]
   rw[←eX1,←enb]
   obtain⟨Y0,eY0⟩:∃Y0,Y0=X1:=⟨_,rfl⟩
   obtain⟨s',es'⟩:∃s',s'=s:=⟨_,rfl⟩
   obtain⟨nw,enw⟩:∃nw,nw=sv:=⟨_,rfl⟩
   rw[←eY0]
   have sub0:aB H2 Y0:=eY0▸sX.trans sX1
   have f8:Y0[kb]? = some (some (.row (stC sv))):=eY0▸sX1.2 _ _ hk
   have f12:Y0[nb]? = some (some (.row (stC nw))):=by rw[eY0,enw]; exact x1
   have stY:StL Y0 sb cells ios sy:=eY0▸hst.sub sX1
   have fi:Y0[ib]? = some (some (.row (aN si))):=eY0▸sX1.2 _ _ hsi
   have q1:StS w0 (msk C Y0) s sv:=eY0▸hs.sub (aAJ sX1)
   have q2:StS w0 (msk C Y0) s' nw:=by rw[es',enw]; exact q1
   have hio0:∀c∈ios,H2.length≤c∧c<Y0.length:=fun c hc=>by have:=hio c hc; rw[eY0]; omega
   have lY:nb<Y0.length:=by rw[eY0]; omega
   have fin:(t<aL d∧rX d pol[n] V n (t+1) s')∨(t=aL d∧s'=s):= .inr ⟨ct,es'⟩
  all_goals
   rw[eC]at q1 q2
   have K0:KpI w0 d H2 kb sb ib nb s s' sv nw ps t 0 Y0 cells ios sy si:=⟨sub0,f8,f12,stY,fi,q1,q2,hkp s'.planes,hio0⟩
   refine bS (S:=Heap×List AV×List Nat×List (List aU)×List Int) (fun i _=>[(1,.int .i64 n),(2,.ptr (.own h.length 0)),(5,qv),(8,.ptr (.own kb 0)),(9,.sl (.own sb 0) d.places.length 1 true),(10,.sl (.own ib 0) d.planes.length 1 true),(11,.int .i64 t),(12,.ptr (.own nb 0)),(17,.int .i64 i)]) (fun _ st=>st.1)
    (fun i st=>KpI w0 d H2 kb sb ib nb s s' sv nw ps t i st.1 st.2.1 st.2.2.1 st.2.2.2.1 st.2.2.2.2∧nb<st.1.length) d.planes.length (Y0,cells,ios,sy,si) ⟨K0,lY⟩ rfl rfl ?_ ?_
   ·rintro i ⟨Y,ce,io,ys,sn⟩ hi ⟨KK,lYn⟩ ih2
    simp only at KK lYn ih2 ⊢
    refine aP [1,2,5,8,9,10,11,12,17] L5_0.eq_1 ?_
    have hk8:=KK.hk
    have hk12:=KK.hn
    simp only[stC]at hk8 hk12
    have hk8L:=xL hk8
    have hk12L:=xL hk12
    have S1:=KK.s1.sub bD
    have S2:=KK.s2.sub bD
    obtain⟨q1',q2',q3'⟩:=S1.lens
    have hs2l:s'.planes.length=d.planes.length:=by
     rcases fin with h | h
     ·exact h.2.2.2.1.s1
     ·rw[h.2]; exact hsl2
    obtain⟨a,a1,a2,a3⟩:=S1.planes.s.at_ (j:=i) (by omega)
    obtain⟨b,b1,b2,b3⟩:=S2.planes.s.at_ (j:=i) (by omega)
    have i6:(i:Int)<s.planes.length:=by omega
    have hQY:=hQ2.sub KK.sub
    obtain⟨pr,xr,ir,tr,tr',sxr⟩:=hQY.row hnp
    have lxr:=NS.len sxr
    have hpx:=hWs.at_ _ (qG (show i<s.planes.length by omega))
    obtain⟨q0,eq0⟩:∃q0:Nat,s.planes[i]=q0:=⟨s.planes[i].toNat,by omega⟩
    have hq0:(ps.getD t []).getD i 0=(q0:Int):=by rw[hps,aE (by omega)]; exact eq0
    have hsl5:=KK.kp.sb i hi
    have lsn:sn.length=d.planes.length:=KK.kp.ls
    obtain⟨G,v',ap,gsb,gib,lce,hqd,ov1,ov2,gk8,hG,ios',K'⟩:=KK.more hi dpn (by omega) hq0 (by omega) (by omega) (by omega) (by omega) (by omega) (by omega) (by omega) (by omega) true
    obtain⟨iq0,rq0⟩:=KK.st.at_ (w0:=w0) (q:=q0) (by rw[KK.kp.ly]; exact hqd)
    rw[KK.kp.ly]at iq0
    have rq0':=rq0 []
    rw[List.append_nil]at rq0'
    have ni:∀x:Nat,cH (.int .i64 (x:Int))=some x:=fun _=>oP
    have iib:cF 1 (.sl (.own ib 0) d.planes.length 1 true) (some i)=some (.ptr (.own ib i)):=by simp[cF,hi,Pl.add,fH]
    have rib:∀L,rd w0 (Y++L) (.own ib i)=some (.int .i64 (sn.getD i 0)):=fun L=>by
     simp only[rd,aA (k:=L) KK.hi]
     rw[aN,List.getElem?_map,qA (by omega),aE (by omega)]; rfl
    have rib':=rib []
    rw[List.append_nil]at rib'
    have gk8':=gk8
    simp only[stC]at gk8'
    obtain⟨a',a4,_,a5⟩:=(KK.s1.sub hG).planes.s.at_ (j:=i) (by omega)
    obtain rfl:a'=a:=by rw[a1]at a4; cases a4; rfl
    rw[eq0]at a5
    rw[eq0]at a2 a3
    rcases(show(¬s'.planes[i]=(q0:Int))∨(s'.planes[i]=(q0:Int)∧t=pol[n].length)∨(s'.planes[i]=(q0:Int)∧¬t=pol[n].length)from by omega)with e | ⟨e,e2⟩ | ⟨e,e2⟩
    case' inl=>
     simp only[go_sem,hk8,hk8L,hk12,hk12L,q1',i6,a1,a2,a3,b1,b2,b3,e,iib,rib,rib']
    case' inr.inl=>
     have e3:(pol[n].length:Int)=t:=by omega
     rw[e]at b2 b3
     simp only[go_sem,hk8,hk8L,hk12,hk12L,q1',i6,a1,a2,a3,b1,b2,b3,ir,tr,tr',lxr,e3,iib,rib,rib']
    rotate_left 2
    ·have e3:¬(t:Int)=pol[n].length:=by omega
     rw[e]at b2 b3
     simp only[go_sem,hk8,hk8L,hk12,hk12L,q1',i6,a1,a2,a3,b1,b2,b3,ir,tr,tr',lxr,e3]
     exact⟨(by unfold I64; omega),ih2 (Y,ce,io,ys,sn) ⟨⟨KK.sub,KK.hk,KK.hn,KK.st,KK.hi,KK.s1,KK.s2,KK.kp.skip hi (by rw[hq0,aE (by omega)]; exact e),KK.io⟩,lYn⟩⟩
    all_goals
     refine⟨by unfold I64; omega,by unfold I64; omega,by unfold I64; omega,?_⟩
     have lce':q0+1≤ce.length:=lce
     have gib':∀x,(G.set sb x)[ib]? = some (some (.row (aN sn))):=fun x=>by rw[qB (by omega)]; exact gib
     have lin:(aN sn).length=d.planes.length:=by simp[aN,lsn]
     have hi1:i+1≤d.planes.length:=hi
     refine iS dE [0,1,2,3,4,5,6,7,8,9,10,11,12,13,14,15,16,17,18,19,20,21,22,23,24] [o_ 150 (m_ 9),o_ 151 (.addr (.t 8) 0),o_ 152 (l_ 151),o_ 153 (m_ 17),o_ 154 (.idxs 1 (.t 152) (.t 153)),o_ 155 (l_ 154),o_ 156 (m_ 9),o_ 157 (.addr (.t 8) 0),o_ 158 (l_ 157),o_ 159 (m_ 17),o_ 160 (.idxs 1 (.t 158) (.t 159)),o_ 161 (l_ 160),o_ 162 (.idxs 1 (.t 156) (.t 161)),o_ 163 (l_ 162),o_ 164 (m_ 18),o_ 165 (m_ 18),o_ 166 (.build [(.int .i64 0),(.int .i64 0)] [(0,1,(.t 164)),(1,1,(.t 165))]),o_ 167 (m_ 19),o_ 168 (m_ 19),o_ 169 (.build [(.int .i64 0),(.int .i64 0)] [(0,1,(.t 167)),(1,1,(.t 168))]),o_ 170 (.build [(.int .i64 0),(.int .i64 0),(.int .i64 0),(.int .i64 0)] [(0,2,(.t 166)),(2,2,(.t 169))]),o_ 171 (.bslice 4 [(.int .i64 0),(.int .i64 0),(.int .i64 0),(.int .i64 0)] 1 [(0,4,(.t 170))]),o_ 172 (.app 4 [(.int .i64 0),(.int .i64 0),(.int .i64 0),(.int .i64 0)] 32 (.t 163) (.t 171))] [([(2,o_ 152 (l_ 151)),(5,o_ 155 (l_ 154))],[o_ 173 (.idxs 1 (.t 150) (.t 155)),.op none none (.store (.t 173) (.t 172) 1)])] rfl rfl (by kernel_rfl) ?_
     simp only[go_sem,hk8,hk8L,a1,a2,a3,a5,gk8',iq0,rq0,rq0',ap,gsb,lce',ov1,ov2,iib,gib',lin,hi1]
     rw[aHw lce,aG8 (by omega)]
     refine⟨(by unfold I64; omega),(by unfold I64; omega),ih2 (_,ce.set q0 v',ios',_,_) ⟨K',?_⟩⟩
     exact aD K'.hn
   ·rintro⟨Y,ce,io,ys,sn⟩ ⟨KK,lYn⟩
    simp only at KK lYn ⊢
    refine aP [1,2,5,8,9,10,11,12,17] L5_0.eq_1 ?_
    have hk8:=KK.hk
    have hk12:=KK.hn
    simp only[stC]at hk8 hk12
    have hk8L:=xL hk8
    have hk12L:=xL hk12
    obtain⟨q1',q2',q3'⟩:=(KK.s1.sub bD).lens
    obtain⟨w1,w2,w3⟩:=(KK.s2.sub bD).ones
    have i6:¬(d.planes.length:Int)<s.planes.length:=by omega
    have hs2l:s'.planes.length=d.planes.length:=by
     rcases fin with h | h
     ·exact h.2.2.2.1.s1
     ·rw[h.2]; exact hsl2
    simp only[go_sem,hk8,hk8L,hk12,hk12L,q1',i6,w1,w2,w3]
    have nkb:∀q,q<ys.length→ys.getD q []≠[]→kb≠io.getD q 0:=fun q h1 h2 e=>KK.st.ne h1 h2 KK.hk (.inr (by simp[stC])) e.symm
    have hD:KptO w0 d pol[n] V n H2 kb sb ib (t+1) (Y.set kb (some (.row (stC nw)))) s' nw ce io ys sn:=by
     refine⟨KK.sub.setR (by omega),qF (aD KK.hk),by rw[uF (by simp)]; exact KK.s2,KK.st.keep (by rw[qB (by omega)]) (fun q h1 h2=>by rw[qB (nkb q h1 h2)]),by rw[qB (by omega)]; exact KK.hi,fun c hc=>by rw[List.length_set]; exact KK.io c hc,?_⟩
     rcases fin with⟨ct,hW2⟩ | ⟨ct,es⟩
     ·refine .inl ⟨by omega,hW2,ps++[s'.planes],?_,fun nx=>KK.kp.next hs2l hW2.2.2.1.at_ (fun q hq=>aCA hW2.2.1 hq) nx⟩
      rw[List.getD_eq_getElem?_getD,qI (by rw[KK.kp.pl]; omega),KK.kp.pl,Nat.sub_self]; rfl
     ·exact .inr ⟨by omega,ps,s'.planes,by rw[←ct]; exact KK.kp⟩
    have:=ih (Y.set kb (some (.row (stC nw))),s',nw,ce,io,ys,sn) hD
    exact⟨(by unfold I64; omega),by simpa[stC]using this⟩
 rintro⟨X,s,sv,cells,ios,sy,si⟩ ⟨sX,hk,hs,hst,hsi,hio,hcs⟩
 simp only at sX hk hs hst hsi hio hcs ⊢
 obtain⟨ps,nx,kp⟩:∃ps nx,hZ d ps (aL d) d.planes.length nx sy si:=by
  rcases hcs with h | h
  ·exact absurd h.1 (by omega)
  ·exact h.2
 refine aP [1,2,5,8,9,10,11] L5_1.eq_1 ?_
 have hRX:=hR.sub ((s1.trans s2).trans sX)
 obtain⟨pj,xj,ij,tj,tj',sxj⟩:=(hQ2.sub sX).row hnp
 have lxj:=NS.len sxj
 have i5:¬((aL d+1:Nat):Int)≤pol[n].length:=by omega
 have sXh:=(sK.trans (s1.trans s2)).trans sX
 simp only[go_sem,ij,tj,tj',lxj,i5]
 refine bS (S:=Heap) (fun q _=>[(2,.ptr (.own h.length 0)),(9,.sl (.own sb 0) d.places.length 1 true),(20,.int .i64 q)]) (fun _ Z=>Z) (fun _ Z=>aB X Z) d.places.length X aB.refl rfl rfl (fun q Z hq sZ ih=> ?_) (fun Z sZ=> ?_)
 ·refine aP [2,9,20] L5_2.eq_1 ?_
  have i6:(q:Int)<d.places.length:=by omega
  have hqs:q<sy.length:=by rw[kp.ly]; exact hq
  have nZ:=(sX.trans sZ).2 _ _ b0
  have nZL:=xL nZ
  have stZ:=hst.sub sZ
  obtain⟨iq,rq⟩:=stZ.at_ (w0:=w0) hqs
  rw[kp.ly]at iq
  have rq':=rq []
  rw[List.append_nil]at rq'
  have slZ:=stZ.sl (w0:=w0) hqs
  obtain⟨pp,p1,p2⟩:=(hRX.sub sZ).toDayS.place hq
  have p3:∀L,rd w0 (Z++L) (pp.add 0)=some (.int .i64 d.places[q].berths):=fun L=>dG (p2 L) rfl
  have p3':=p3 []
  rw[List.append_nil]at p3'
  have hbb:=dg.berths _ (qG hq)
  obtain⟨bn,ebn⟩:∃bn:Nat,d.places[q].berths=bn:=⟨d.places[q].berths.toNat,by omega⟩
  have gpl:(d.places.getD q ⟨0,false⟩).berths=(bn:Int):=by rw[aE hq]; exact ebn
  obtain⟨f1,f2,f3,f4⟩:=kp.dock (q:=q) (by rw[gpl]; omega) hq (by omega) dg.pn (Nat.le_refl _)
  rw[gpl]at f1 f2
  rw[ebn]at p3 p3'
  obtain⟨bx,hx1,hx2,hx3,hx4⟩:=aHF f3 f2
  have lsl:=slZ.use.1
  rw[List.length_map]at lsl
  simp only[go_sem,i6,nZ,nZL,iq,rq,rq',p1,p3,p3']
  refine aJ (ACall.v2 (aOt (bn:Int) slZ)) ?_
  rintro y Z2 ⟨s5,hK⟩
  rw[wA,if_pos f1,f2]at hK
  obtain⟨lv,rfl,hlv⟩:=hK
  rw[show(bn:Int).toNat=bn from rfl,hx1,Option.getD_some]at hlv
  have lnl:=(SlI.use hlv).1
  rw[hx4]at lnl
  have st2:=stZ.sub s5
  obtain⟨iq2,rq2⟩:=st2.at_ (w0:=w0) hqs
  rw[kp.ly]at iq2
  have rq2':=rq2 []
  rw[List.append_nil]at rq2'
  have sl2:=st2.sl (w0:=w0) hqs
  simp only[go_sem,lnl,lsl,iq2,rq2,rq2']
  refine aC (aII sl2 hlv f3 (by omega) (by omega)).v ?_
  rw[zV.2 hx2]
  simp only[go_sem]
  exact⟨(by unfold I64; omega),ih _ (sZ.trans s5)⟩
 ·refine aP [2,9,20] L5_2.eq_1 ?_
  have i6:¬(d.places.length:Int)<d.places.length:=by omega
  simp only[go_sem,i6]
  refine aC xR.v ?_
  simp only[go_sem]
  exact sXh.trans sZ
end Go.Proofs.Ab

/- Own layer, part R. -/
import Derived.Test.YtiakeffhecpddaaGreatQ
set_option linter.unusedSimpArgs false
set_option linter.unusedVariables false
namespace Go.Proofs.Ab
open Go Go.Proofs
variable {w0:World} {h:Heap}
attribute [local irreducible] ACall bE cR aK bI rvC lp rg dr ex un rv
def pkB(m:Nat)(l:List Int)(k:Nat):Bool:=inB (l.getD k 0) 0 ((m:Int) - 1)&&(decide (k=0)||decide (l.getD (k - 1) 0<l.getD k 0))
def flB(d:aQ)(x:aH):Bool:=(inB x.to (-1) ((d.places.length:Int) - 1)&&(decide (0≤x.to)||decide (x.people.length=0)))&&(List.range x.people.length).all (pkB d.people.length x.people)
def fO(d:aQ)(u:List aH):Bool:=u.all (flB d)&&decide (u.length=d.planes.length)
theorem pk_lt{m:Nat}{l:List Int}(h:(List.range l.length).all (pkB m l)=true):(∀n∈l,0≤n∧n<m)∧l.Pairwise (· < ·):=by
 have h1:=bZ.1 h
 refine⟨fun n hn=> ?_,?_⟩
 ·obtain⟨i,hi,rfl⟩:=List.getElem_of_mem hn
  have:=h1 i hi
  simp only[pkB,aE hi,inB,Bool.and_eq_true,decide_eq_true_eq]at this
  omega
 ·rw[List.pairwise_iff_getElem]
  have key:∀(k i j:Nat) (hi:i<l.length) (hj:j<l.length),j=i+1+k→l[i]<l[j]:=by
   intro k
   induction k with
   | zero=>
    intro i j hi hj e
    have:=h1 j hj
    simp only[pkB,aE hj,Bool.and_eq_true,Bool.or_eq_true,decide_eq_true_eq]at this
    have h2:l.getD (j - 1) 0=l[i]:=by rw[show j - 1=i by omega,aE hi]
    rw[h2]at this
    omega
   | succ k ih=>
    intro i j hi hj e
    have a:=ih i (j - 1) hi (by omega) (by omega)
    have:=h1 j hj
    simp only[pkB,aE hj,Bool.and_eq_true,Bool.or_eq_true,decide_eq_true_eq,aE (show j - 1<l.length by omega)]at this
    omega
  exact fun i j hi hj hij=>key (j - i - 1) i j hi hj (by omega)
theorem aFs{d:aQ}{u:List aH}(h:fO d u=true):aKB d u:=by
 simp only[fO,flB,Bool.and_eq_true,List.all_eq_true,decide_eq_true_eq]at h
 obtain⟨h1,h2⟩:=h
 have h3:∀x∈u,(List.range x.people.length).all (pkB d.people.length x.people)=true:=fun x hx=>List.all_eq_true.2 (h1 x hx).2
 refine⟨h2,fun x hx=> ?_,fun x hx ht=> ?_,fun x hx=>pk_lt (h3 x hx)⟩
 ·have:=(h1 x hx).1.1
  simp only[inB,Bool.and_eq_true,decide_eq_true_eq]at this
  omega
 ·have:=(h1 x hx).1.2
  simp only[Bool.or_eq_true,decide_eq_true_eq]at this
  exact List.eq_nil_of_length_eq_zero (by omega)
theorem aKB.ok{d:aQ}{u:List aH}(a:aKB d u)(h4:d.people.length≤4):aEK d u:=by
 refine⟨a.len,fun x hx=>(a.to x hx).2,fun x hx=>(a.pp x hx).1,fun x hx=> ?_⟩
 obtain⟨h1,h2⟩:=a.pp x hx
 have key:∀(l:List Int) (b:Int),l.Pairwise (· < ·)→(∀n∈l,b≤n∧n<4)→(l.length:Int)≤4 - b∨l=[]:=by
  intro l
  induction l with
  | nil=>intro b _ _; exact .inr rfl
  | cons a l ih=>
   intro b hp hb
   obtain⟨p1,p2⟩:=List.pairwise_cons.1 hp
   have hab:=hb a (by simp)
   rcases ih (a+1) p2 (fun n hn=>⟨by have:=p1 n hn; omega,(hb n (by simp[hn])).2⟩)with h | h
   ·left; simp; omega
   ·subst h; left; simp; omega
 rcases key x.people 0 h2 (fun n hn=>by have:=h1 n hn; omega)with h | h
 ·omega
 ·rw[h]; simp
theorem aMe(d:aQ)(v:cU)(u:List aH)(uv:AV)(hR:kU w0 h d v)(hU:UnV w0 h uv u)(hn:u.length<1000000)(hp:∀x∈u,x.people.length<1000000):aK Tryz.prog w0 59 [.agg (aX v),uv] h (.bool (fO d u)) h:=by
 refine cJ trivial (aO mf59_k fun hb ha=> ?_)
 obtain⟨l1,l2,l3,l4,l5⟩:=hR.lens
 obtain⟨o1,o2,o3,o4,o5⟩:=hR.ones
 have n1:=hR.l1
 have n4:=hR.l4
 have lu:=NS.len hU
 obtain⟨K0,eK0⟩:∃K0:Heap,K0=h++[some (.row (aX v))]:=⟨_,rfl⟩
 have s0:aB h K0:=eK0▸aB.refl.app
 have g0:K0[h.length]? = some (some (.row (aX v))):=by rw[eK0]; simp
 have hU0:=hU.sub s0
 simp only[go_sem,mf59,o1,o2,o3,o4,o5]
 rw[show h++[some (Blk.row [v.pl,v.ln,v.pn,v.pe,v.we])]=K0 by rw[eK0]; rfl]
 refine fF (S:=Nat×Heap) (F:=fun s=>[(1,uv),(2,.ptr (.own h.length 0)),(5,.int .i64 s.1)]) (H:=fun s=>s.2) (meas:=fun s=>u.length - s.1)
  (Inv:=fun s=>s.1≤u.length∧aB K0 s.2∧∀(j:Nat) (_:j<s.1) (hj:j<u.length),flB d u[j]=true) (0,K0) ⟨Nat.zero_le _,aB.refl,fun j hj=>absurd hj (by simp)⟩ rfl rfl ?_
 rintro⟨j,G⟩ ⟨hj,sG,f1⟩ ih
 simp only at hj sG f1 ih
 refine aP [1,2,5] L59_1.eq_1 ?_
 have gG:=sG.2 _ _ g0
 have bG:=xL gG
 rcases Nat.lt_or_ge j u.length with hjl | hjl
 ·have i3:(j:Int)<u.length:=by omega
  obtain⟨p,pv,p1,p2K,_,_,p5⟩:=hU0.at_ hjl
  obtain⟨x,ex⟩:∃x,x=u[j]:=⟨_,rfl⟩
  rw[←ex]at p2K p5
  have p2:∀L,rdn w0 (G++L) p 2=some [.int .i64 x.to,pv]:=fun L=>(sG.app (L:=L)).rdn (by simpa using p2K [])
  have p2':=p2 []
  rw[List.append_nil]at p2'
  have opv:=p5.one.1
  have cpv:=p5.one.2
  have lpp:=(SlI.use p5).1
  have hnp:=hp x (by rw[ex]; exact qG hjl)
  have sG2:∀L,aB h (G++L):=fun L=>s0.trans sG.app
  have hno:flB d x=false→fO d u=false:=fun e=>by
   have:u.all (flB d)=false:=List.all_eq_false.2 ⟨x,by rw[ex]; exact qG hjl,by simp[e]⟩
   simp[fO,this]
  obtain⟨b6,eb6⟩:∃b,b=G.length:=⟨_,rfl⟩
  have g6:(G++[some (.row [.int .i64 x.to,pv])])[b6]? = some (some (.row [.int .i64 x.to,pv])):=by rw[eb6]; simp
  have g6L:=xL g6
  simp (disch:=(unfold I64; omega)) only[go_sem,cZ,lu,i3,gG,bG,aX,p1,p2,p2',opv,cpv,l1]
  refine aC (hT _ _ _).v ?_
  cases e1:inB x.to (-1) ((d.places.length:Int) - 1)with
  | false=>
   simp only[go_sem]
   exact⟨sG2 _,by rw[hno (by simp[flB,e1])]⟩
  | true=>
  by_cases t0:x.to<0
  focus
   simp only[go_sem,t0,opv,cpv,lpp]
   refine⟨fun e=>⟨sG2 _,by rw[hno (by
    have h1:¬ 0≤x.to:=by omega
    have h2:¬x.people.length=0:=by omega
    simp only[flB,decide_eq_false h1,decide_eq_false h2,Bool.or_false,Bool.and_false,Bool.false_and])]⟩,fun e=> ?_⟩
   have e2:(decide (0≤x.to)||decide (x.people.length=0))=true:=by
    have:x.people.length=0:=by omega
    rw[decide_eq_true this,Bool.or_true]
   clear e
  rotate_left
  focus
   simp only[go_sem,t0]
   have e2:(decide (0≤x.to)||decide (x.people.length=0))=true:=by
    have:0≤x.to:=by omega
    rw[decide_eq_true this,Bool.true_or]
  all_goals
   rw[←eb6]
   refine cY (fun k=>[(1,uv),(2,.ptr (.own h.length 0)),(5,.int .i64 j),(6,.ptr (.own b6 0)),(7,.int .i64 k)]) (fun k=>pkB d.people.length x.people k=true) x.people.length rfl (fun k hk _ ih2=> ?_) (fun f2=> ?_)
   ·refine aP [1,2,5,6,7] aK4.eq_1 ?_
    have i4:(k:Int)<x.people.length:=by omega
    obtain⟨a,a1,a2K,_⟩:=SlI.at_ p5 hk
    have hsG6:∀L,aB K0 (G++[some (.row [.int .i64 x.to,pv])]++L):=fun L=>sG.app.app
    have a2:∀L,rd w0 (G++[some (.row [.int .i64 x.to,pv])]++L) a=some (.int .i64 x.people[k]):=fun L=>(hsG6 L).rd (by simpa using a2K [])
    have a2':=a2 []
    have gG6:(G++[some (Blk.row [.int .i64 x.to,pv])])[h.length]? = some (some (.row (aX v))):=bG _
    have bG6:=xL gG6
    rw[List.append_nil]at a2'
    have hpk:pkB d.people.length x.people k=(inB x.people[k] 0 ((d.people.length:Int) - 1)&&(decide (k=0)||decide (x.people.getD (k - 1) 0<x.people[k]))):=by rw[pkB,aE hk]
    have hno2:pkB d.people.length x.people k=false→fO d u=false:=fun e=>hno (by
     have:(List.range x.people.length).all (pkB d.people.length x.people)=false:=List.all_eq_false.2 ⟨k,List.mem_range.2 hk,by simp[e]⟩
     simp only[flB,this,Bool.and_false])
    obtain⟨G6,eG6⟩:∃G6,G6=G++[some (Blk.row [.int .i64 x.to,pv])]:=⟨_,rfl⟩
    rw[←eG6]at g6 g6L a2 a2' gG6 bG6 ⊢
    rw[←eG6]at ih2
    simp (disch:=(unfold I64; omega)) only[go_sem,cZ,g6,g6L,i4,lpp,a1,a2,a2',gG6,bG6,aX,l4]
    refine aC (hT _ _ _).v ?_
    cases e3:inB x.people[k] 0 ((d.people.length:Int) - 1)with
    | false=>
     simp only[go_sem]
     exact⟨eG6▸sG2 _,by rw[hno2 (by rw[hpk,e3]; rfl)]⟩
    | true=>
    rcases k with _ | m
    ·simp only[go_sem]
     exact⟨fun e=>absurd e (by simp),fun _=>⟨(by unfold I64; omega),ih2 (by rw[hpk,e3]; rfl)⟩⟩
    ·have hm:m<x.people.length:=by omega
     have c0:(0:Int)<((m+1:Nat):Int):=by omega
     have ek:(((m+1:Nat):Int) - 1)=(m:Int):=by omega
     obtain⟨b,b1,b2K,_⟩:=SlI.at_ p5 hm
     have b2:∀L,rd w0 (G6++L) b=some (.int .i64 x.people[m]):=fun L=>by rw[eG6]; exact(hsG6 L).rd (by simpa using b2K [])
     have b2':=b2 []
     rw[List.append_nil]at b2'
     have hpk2:pkB d.people.length x.people (m+1)=decide (x.people[m]<x.people[m+1]):=by
      rw[hpk,e3,Nat.add_sub_cancel,aE hm]; simp
     have wm:=cZ (n:=(m:Int)) (by unfold I64; omega)
     have nm:cH (.int .i64 (m:Int))=some m:=oP
     simp only[go_sem,c0,g6,g6L,a1,a2,a2',ek,wm,nm,b1,b2,b2']
     refine⟨fun e=> ?_,fun e=>⟨(by unfold I64; omega),ih2 (by rw[hpk2]; exact decide_eq_true (by omega))⟩⟩
     exact⟨eG6▸sG2 _,by rw[hno2 (by rw[hpk2]; exact decide_eq_false (by omega))]⟩
   ·refine aP [1,2,5,6,7] aK4.eq_1 ?_
    have i4:¬(x.people.length:Int)<x.people.length:=by omega
    simp only[go_sem,g6,g6L,i4,lpp]
    have hyes:flB d x=true:=by rw[flB,e1,e2,bZ.2 f2]; rfl
    have:=ih (j+1,G++[some (.row [.int .i64 x.to,pv])]) ⟨by simp only; omega,sG.app,fun q hq hq2=>by
     simp only at hq
     rcases Nat.lt_or_ge q j with h1 | h1
     ·exact f1 q h1 hq2
     ·obtain rfl:q=j:=by omega
      rw[←ex]; exact hyes⟩ (by simp only; omega)
    exact⟨(by unfold I64; omega),by simpa using this⟩
 ·have i3:¬(j:Int)<u.length:=by omega
  obtain rfl:j=u.length:=by omega
  simp only[go_sem,lu,i3,gG,bG,aX,l3]
  refine⟨s0.trans sG,?_⟩
  have h1:u.all (flB d)=true:=List.all_eq_true.2 fun y hy=>by
   obtain⟨i,hi,rfl⟩:=List.getElem_of_mem hy
   exact f1 i hi hi
  rw[fO,h1,Bool.true_and]
  have:((u.length:Int)==d.planes.length)=decide (u.length=d.planes.length):=by
   rw[Bool.eq_iff_iff]; simp; omega
  rw[this]
theorem aEJ(l:List Int)(v fv:AV)(p:Nat→Bool)(hv:SlI w0 h v l)(hn:l.length<1000000)(hf:∀(j:Nat) (hj:j<l.length) L,bI Tryz.prog w0 fv [.int .i64 j,.int .i64 l[j]] (h++L) (.bool (p j)) (h++L)) :
 aK Tryz.prog w0 102 [v,fv] h (.bool ((List.range l.length).all p)) h:=by
 have:=aGd (l.map fun z=>[AV.int .i64 z]) v fv p hv (by intro r hr; obtain⟨z,_,rfl⟩:=List.mem_map.1 hr; rfl) (by simpa using hn) fun j x hx _ L=>by
  have hj:j<l.length:=by have:=aD hx; simpa using this
  have:x= .int .i64 l[j]:=by simpa[hj]using hx.symm
  subst this
  exact hf j hj L
 rwa [List.length_map]at this
section
variable {d:aQ} {v:cU} {m:AV} {i ib:Nat}
theorem aDU(j x:Int)(hd:h[i]? = some (some (.row (aX v++[m]))))(hR:kU w0 h d v)(hi:h[ib]? = some (some (.row [.ptr (.own i 0)]))):aK Tryz.prog w0 112 [.int .i64 j,.int .i64 x,.ptr (.own ib 0)] h (.bool (bR d.places.length x)) h:=by
 refine aM aNC fun hb ha=> ?_
 have l1:=hR.lens.1
 have n1:=hR.l1
 have bi:=xL hi
 have bd:=xL hd
 simp only[aX,List.cons_append,List.nil_append]at bd
 simp (disch:=(unfold I64; omega)) only[go_sem,cZ,mf112,bi,bd,l1]
 refine aC (nS _ _ _).v ?_
 simp only[go_sem]
 rfl
theorem aJj(j x:Int):aK Tryz.prog w0 113 [.int .i64 j,.int .i64 x] h (.bool (inB x 0 5)) h:=by
 refine aM aNB fun hb ha=> ?_
 simp only[go_sem,mf113]
 refine aC (nS _ _ _).v ?_
 simp only[go_sem]
theorem aIj(s:aF)(sv:StV)(hd:h[i]? = some (some (.row (aX v++[m]))))(hR:kU w0 h d v)(hS:StS w0 h s sv)(m1:s.planes.length<1000000)(m2:s.legs.length<1000000)(m3:s.people.length<1000000):aK Tryz.prog w0 60 [.ptr (.own i 0),.agg (stC sv)] h (.bool (fL d s)) h:=by
 refine aM mf60_k fun hb ha=> ?_
 obtain⟨l1,l2,l3,l4,l5⟩:=hR.lens
 obtain⟨k1,k2,k3⟩:=hS.lens
 obtain⟨q1,q2,q3⟩:=hS.ones
 have hil:=aD hd
 have bd:=xL hd
 have e1:∀a b:Nat,((a:Int)==b)=decide (a=b):=fun a b=>by rw[Bool.eq_iff_iff]; simp; omega
 simp only[aX,List.cons_append,List.nil_append]at bd
 simp only[go_sem,mf60,stC,q1,q2,q3,bd,k1,k2,k3,l3,l4,e1]
 refine⟨fun e2=>⟨fun e3=>⟨fun e4=> ?_,fun e4=>by simp[fL,e4]⟩,fun e3=>by simp[fL,e3]⟩,fun e2=>by simp[fL,e2]⟩
 obtain⟨G,eG⟩:∃G,G=h++[some (Blk.row [AV.ptr (Pl.own i 0)]),some (Blk.row [sv.pl,sv.le,sv.pe])]:=⟨_,rfl⟩
 have sG:aB h G:=eG▸aB.refl.app
 have gi:G[h.length]? = some (some (.row [.ptr (.own i 0)])):=by rw[eG]; simp
 have gs:G[h.length+1]? = some (some (.row [sv.pl,sv.le,sv.pe])):=by rw[eG]; simp
 have gsL:=xL gs
 rw[←eG]
 have hpl:∀L (l:List Int) (x:AV),SlI w0 h x l→l.length<1000000→aK Tryz.prog w0 102 [x,AV.fn (Fn.func 112) [] [AV.ptr (Pl.own h.length 0)]] (G++L) (.bool (l.all (bR d.places.length))) (G++L):=fun L l x hx hl=>by
  rw[←cS (x:=0)]
  refine aEJ l x _ _ (Sl.sub hx (sG.trans aB.refl.app)) hl fun j hj L2=> ?_
  rw[aE hj]
  exact(aDU (i:=i) (v:=v) (m:=m) j l[j] ((sG.app.app).2 _ _ hd) (hR.sub (sG.app.app)) (by rw[List.append_assoc]; exact aA gi)).vc (first:=[]) (capt:=[_])
 have hpl0:=fun l x=>hpl [] l x
 simp only[List.append_nil]at hpl0
 refine aC (hpl0 s.planes sv.pl hS.planes.s m1).v ?_
 cases f1:s.planes.all (bR d.places.length)with
 | false=>simp only[go_sem]; exact⟨by simp[fL,f1],_,eG⟩
 | true=>
 simp only[go_sem,gs,gsL]
 refine aC (hpl0 s.people sv.pe hS.people.s m3).v ?_
 cases f2:s.people.all (bR d.places.length)with
 | false=>simp only[go_sem]; exact⟨by simp[fL,f2],_,eG⟩
 | true=>
 simp only[go_sem,gs,gsL]
 have leg:aK Tryz.prog w0 102 [sv.le,AV.fn (Fn.func 113) [] []] G (.bool (s.legs.all fun x=>inB x 0 5)) G:=by
  rw[←cS (x:=0)]
  refine aEJ s.legs sv.le _ _ (Sl.sub hS.legs.s sG) m2 fun j hj L2=> ?_
  rw[aE hj]
  exact(aJj j s.legs[j]).vc (first:=[]) (capt:=[])
 refine aC leg.v ?_
 simp only[go_sem]
 exact⟨by simp[fL,e2,e3,e4,f1,f2],_,eG⟩
end
section
variable {d:aQ} {v:cU} {m:AV} {i ib ix:Nat}
theorem aMo(x:aH)(pv:AV)(k:Nat)(hk:k<x.people.length)(hd:h[i]? = some (some (.row (aX v++[m]))))(hR:kU w0 h d v)(hi:h[ib]? = some (some (.row [.ptr (.own i 0)])))(hx:h[ix]? = some (some (.row [.int .i64 x.to,pv])))(hp:SlI w0 h pv x.people)(hl:x.people.length<1000000) :
 aK Tryz.prog w0 116 [.int .i64 k,.int .i64 x.people[k],.ptr (.own ib 0),.ptr (.own ix 0)] h (.bool (pkB d.people.length x.people k)) h:=by
 refine aM aNy fun hb ha=> ?_
 obtain⟨l1,l2,l3,l4,l5⟩:=hR.lens
 have n4:=hR.l4
 have bi:=xL hi
 have bx:=xL hx
 have bd:=xL hd
 simp only[aX,List.cons_append,List.nil_append]at bd
 have bi':=bi []
 have bx':=bx []
 have bd':=bd []
 simp only[List.append_nil]at bi' bx' bd'
 have hpk:pkB d.people.length x.people k=(inB x.people[k] 0 ((d.people.length:Int) - 1)&&(decide (k=0)||decide (x.people.getD (k - 1) 0<x.people[k]))):=by rw[pkB,aE hk]
 rw[hpk]
 simp (disch:=(unfold I64; omega)) only[go_sem,cZ,mf116,bi,bd,bx,l4]
 refine aC (nS _ _ _).v ?_
 cases e1:inB x.people[k] 0 ((d.people.length:Int) - 1)with
 | false=>simp only[go_sem]; rfl
 | true=>
 rcases k with _ | k
 ·simp only[go_sem]
  exact⟨fun e=>absurd rfl e,fun _=>rfl⟩
 have hk2:k<x.people.length:=by omega
 obtain⟨a,a1,a2,a3⟩:=SlI.at_ hp hk2
 have ek:(((k+1:Nat):Int) - 1)=(k:Int):=by omega
 have c0:(((k+1:Nat):Int)==0)=false:=by simp; omega
 have wm:=cZ (n:=(k:Int)) (by unfold I64; omega)
 have nm:cH (.int .i64 (k:Int))=some k:=oP
 simp only[go_sem,bi',bd',bx',bi,bd,bx,ek,wm,nm,a1,a2,a3,c0]
 rw[Nat.add_sub_cancel,aE hk2,Bool.false_or]
theorem aCV(j:Nat)(x:aH)(pv:AV)(hd:h[i]? = some (some (.row (aX v++[m]))))(hR:kU w0 h d v)(hi:h[ib]? = some (some (.row [.ptr (.own i 0)])))(hp:SlI w0 h pv x.people)(hl:x.people.length<1000000) :
 aK Tryz.prog w0 115 [.int .i64 j,.agg [.int .i64 x.to,pv],.ptr (.own ib 0)] h (.bool (flB d x)) h:=by
 refine aM aNz fun hb ha=> ?_
 obtain⟨l1,l2,l3,l4,l5⟩:=hR.lens
 have n1:=hR.l1
 have k1:=(SlI.use hp).1
 have o1:=hp.one.1
 obtain⟨G,eG⟩:∃G,G=h++[some (Blk.row [.int .i64 x.to,pv])]:=⟨_,rfl⟩
 have sG:aB h G:=eG▸aB.refl.app
 have gx:G[h.length]? = some (some (.row [.int .i64 x.to,pv])):=by rw[eG]; simp
 have gi:=sG.2 _ _ hi
 have gd:=sG.2 _ _ hd
 simp only[aX,List.cons_append,List.nil_append]at gd
 have bi:=xL gi
 have bx:=xL gx
 have bd:=xL gd
 simp only[go_sem,mf115,o1]
 rw[←eG]
 refine aC (aEJ x.people pv (.fn (.func 116) [] [.ptr (.own ib 0),.ptr (.own h.length 0)]) (pkB d.people.length x.people) (Sl.sub hp sG) hl fun k hk L=> ?_).v ?_
 ·exact(aMo (i:=i) (v:=v) (m:=m) x pv k hk (aA gd) (hR.sub sG.app) (bi L) (bx L) (Sl.sub hp sG.app) hl).vc (first:=[]) (capt:=[_,_])
 simp (disch:=(unfold I64; omega)) only[go_sem,cZ,gi,gd,gx,bi,bx,bd,l1]
 refine aC (nS _ _ _).v ?_
 cases f1:inB x.to (-1) ((d.places.length:Int) - 1)with
 | false=>simp only[go_sem]; exact⟨by simp[flB,f1],_,eG⟩
 | true=>
 cases f2:(List.range x.people.length).all (pkB d.people.length x.people)with
 | false=>simp only[go_sem]; exact⟨by simp only[flB,f1,f2,Bool.and_false],_,eG⟩
 | true=>
 have c5:∀a:Nat,((a:Int)==0)=decide (a=0):=fun a=>by rw[Bool.eq_iff_iff]; simp
 have hf:flB d x=(decide (0≤x.to)||decide (x.people.length=0)):=by rw[flB,f1,f2,Bool.true_and,Bool.and_true]
 rw[hf]
 by_cases t0:0≤x.to
 ·simp only[go_sem,gx,bx,t0,k1,c5]
  exact⟨rfl,_,eG⟩
 ·simp only[go_sem,gx,bx,t0,k1,c5]
  exact⟨rfl,_,eG⟩
theorem aH8(u:List aH)(uv:AV)(hd:h[i]? = some (some (.row (aX v++[m]))))(hR:kU w0 h d v)(hU:UnV w0 h uv u)(hn:u.length<1000000)(hp:∀x∈u,x.people.length<1000000):aK Tryz.prog w0 62 [.ptr (.own i 0),uv] h (.bool (fO d u)) h:=by
 refine aM mf62_k fun hb ha=> ?_
 obtain⟨l1,l2,l3,l4,l5⟩:=hR.lens
 have lu:=NS.len hU
 have bd:=xL hd
 simp only[aX,List.cons_append,List.nil_append]at bd
 have hil:=aD hd
 have c5:∀a b:Nat,((a:Int)==b)=decide (a=b):=fun a b=>by rw[Bool.eq_iff_iff]; simp; omega
 simp only[go_sem,mf62,bd,l3,lu,c5]
 refine⟨fun e1=> ?_,fun e1=>by simp only[fO,decide_eq_false e1,Bool.and_false]⟩
 obtain⟨rows,r1,r2,r3⟩:=hU
 have hrow:∀j c,rows[j]? = some c→∃(hj:j<u.length) (pv:AV),c=[.int .i64 u[j].to,pv]∧SlI w0 h pv u[j].people:=fun j c hc=>by
  have hj:j<u.length:=by have:=aD hc; omega
  obtain⟨pv,rfl,p3⟩:=r3 j _ c (qA hj) hc
  exact⟨hj,pv,rfl,p3⟩
 have key:(List.range rows.length).all (fun j=>flB d (u.getD j ⟨-1,[]⟩))=u.all (flB d):=by rw[r1,cS]
 have hu:fO d u=u.all (flB d):=by simp only[fO,decide_eq_true e1,Bool.and_true]
 rw[hu,←key]
 refine aC (aKs rows uv (.fn (.func 115) [] [.ptr (.own h.length 0)]) (fun j=>flB d (u.getD j ⟨-1,[]⟩)) (r2.sub aB.refl.app) ?_ (by omega) fun j c hc _ L=> ?_).v ?_
 ·intro c hc
  obtain⟨j,hj,rfl⟩:=List.getElem_of_mem hc
  obtain⟨_,pv,e,p3⟩:=hrow j _ (qA hj)
  rw[e]
  simp only[List.all_cons,List.all_nil,p3.one.1,Bool.and_true]; rfl
 ·obtain⟨hj,pv,rfl,p3⟩:=hrow j c hc
  rw[aE hj]
  exact(aCV (i:=i) (v:=v) (m:=m) j u[j] pv (by rw[List.append_assoc]; exact aA hd) (hR.sub aB.refl.app.app) (aA (by simp)) (Sl.sub p3 aB.refl.app.app) (hp _ (qG hj))).vc (first:=[]) (capt:=[_])
 simp only[go_sem]
end
theorem aGB{d:aQ}{s:aF}(e:fL d s=true):nB d s∧∀x∈s.people,0≤x∧x<d.places.length:=by
 simp only[fL,Bool.and_eq_true,decide_eq_true_eq,List.all_eq_true]at e
 obtain⟨e1,e2,e3,e4,e5,e6⟩:=e
 refine⟨⟨e1,e2,e3,fun x hx=>iJ.1 (e4 x hx),fun x hx=> ?_⟩,fun x hx=>iJ.1 (e5 x hx)⟩
 have:=e6 x hx
 simp only[inB,Bool.and_eq_true,decide_eq_true_eq]at this
 omega
theorem aN8{d:aQ}{v:cU}{m:AV}{i:Nat}(e:fX d=true)(hd:h[i]? = some (some (.row (aX v++[m]))))(hR:kU w0 h d v):rL w0 h d v m i:=by
 have dg:=tA e
 exact⟨hd,hR,dg.pe,dg.pn,fun p hp=>by have:=(dg.people p hp).2.2.1; omega⟩
theorem aJX(s:aF)(sv:StV)(hs:StS w0 h s sv)(m1:s.planes.length<1000000)(m2:s.legs.length<1000000)(m3:s.people.length<1000000):ACall Tryz.prog w0 64 [.agg (stC sv)] h fun y h'=>aB h h'∧∃nv,y= .agg (stC nv)∧aAm w0 h' h.length s nv:=by
 refine aO mf64_k fun hb ha=> ?_
 obtain⟨o1,o2,o3⟩:=hs.ones
 simp only[go_sem,mf64,stC,o1,o2,o3]
 obtain⟨G,eG⟩:∃G,G=h++[some (Blk.row [sv.pl,sv.le,sv.pe]),some (Blk.row [AV.nilS,AV.nilS,AV.nilS])]:=⟨_,rfl⟩
 have sG:aB h G:=eG▸aB.refl.app
 have hk:G[h.length]? = some (some (.row [sv.pl,sv.le,sv.pe])):=by rw[eG]; simp
 have hn:G[h.length+1]? = some (some (.row [.nilS,.nilS,.nilS])):=by rw[eG]; simp
 have hkL:=xL hk
 rw[←eG]
 refine iS dE [0,1,3,4,6,7,2,5,8,9,10] [o_ 3 (.addr (.t 1) 0),o_ 4 (l_ 3),o_ 6 (.addr (.t 1) 1),o_ 7 (l_ 6),o_ 9 (.addr (.t 1) 2),o_ 10 (l_ 9),.call (some 5) none (f_ 111) [(.t 4)]] [([(3,o_ 7 (l_ 6)),(5,o_ 10 (l_ 9))],[.call (some 8) none (f_ 111) [(.t 7)]]),([(5,o_ 10 (l_ 9))],[.call (some 11) none (f_ 111) [(.t 10)],o_ 12 (.build [.nilS,.nilS,.nilS] [(0,1,(.t 5)),(1,1,(.t 8)),(2,1,(.t 11))]),.op none none (.store (.t 2) (.t 12) 3)])] rfl rfl (by kernel_rfl) ?_
 simp only[go_sem,hk,hkL]
 refine aJ (ACall.v1 (oT s.planes sv.pl (hs.planes.sub sG) m1)) ?_
 rintro y1 H1 ⟨s1,w1⟩
 have k1:=s1.2 _ _ hk
 have k1L:=xL k1
 simp only[go_sem,k1,k1L]
 refine aJ (ACall.v1 (oT s.legs sv.le (hs.legs.sub (sG.trans s1)) m2)) ?_
 rintro y2 H2 ⟨s2,w2⟩
 have k2:=s2.2 _ _ k1
 have k2L:=xL k2
 simp only[go_sem,k2,k2L]
 refine aJ (ACall.v1 (oT s.people sv.pe (hs.people.sub (sG.trans (s1.trans s2))) m3)) ?_
 rintro y3 H3 ⟨s3,w3⟩
 have c1:=w1.o.s.one
 have c2:=w2.o.s.one
 have c3:=w3.o.s.one
 have k3:=(s1.trans (s2.trans s3)).2 _ _ hn
 have k3L:=xL k3
 have l3:=aD k3
 have z1:(H3.set (h.length+1) (some (Blk.row [y1,y2,y3])))[h.length+1]? = some (some (Blk.row [y1,y2,y3])):=qF l3
 simp only[go_sem,c1.1,c1.2,c2.1,c2.2,c3.1,c3.2,k3,k3L,l3,z1]
 have sH:aB h (H3.set (h.length+1) (some (Blk.row [y1,y2,y3]))):=(sG.trans (s1.trans (s2.trans s3))).setR (by omega)
 have gl:G.length=h.length+2:=by rw[eG]; simp
 obtain⟨d1,i1,a1⟩:=w1.i
 obtain⟨d2,i2,a2⟩:=w2.i
 obtain⟨d3,i3,a3⟩:=w3.i
 have n1:=s1.1
 have n2:=s2.1
 have n3:=sG.1
 exact⟨sH,⟨_,_,_⟩,rfl,((a1.sub (s2.trans s3)).set (c':=[y1,y2,y3]) k3 rfl fun e=>by have:=i1 e; omega).toL (by omega),((a2.sub s3).set (c':=[y1,y2,y3]) k3 rfl fun e=>by have:=i2 e; omega).toL (by omega),(a3.set (c':=[y1,y2,y3]) k3 rfl fun e=>by have:=i3 e; omega).toL (by omega)⟩
theorem kT.set{H:Heap}{N k:Nat}{y:AV}{l:List Int}{c c':List AV}(a:kT w0 H N y l)(hk:H[k]? = some (some (.row c)))(hc:c'.length=c.length)(hN:k<N):kT w0 (H.set k (some (.row c'))) N y l:=by
 obtain⟨id,i1,a1⟩:=a.i
 exact(a1.set (c':=c') hk hc fun e=>by have:=i1 e; omega).toL (Nat.le_refl _)
theorem aAm.set{H:Heap}{N k:Nat}{s:aF}{sv:StV}{c c':List AV}(a:aAm w0 H N s sv)(hk:H[k]? = some (some (.row c)))(hc:c'.length=c.length)(hN:k<N):aAm w0 (H.set k (some (.row c'))) N s sv:=⟨a.p.set hk hc hN,a.l.set hk hc hN,a.e.set hk hc hN⟩
theorem aAm.here{H:Heap}{N:Nat}{s:aF}{sv:StV}(a:aAm w0 H N s sv):StS w0 H s sv:=⟨a.p.o,a.l.o,a.e.o⟩
def pO(d:aQ)(s:aF)(op:Int)(u:List aH):Bool:=fX d&&(fL d s&&(qL d.places.length op&&fO d u))
def aCU(d:aQ)(s:aF)(op:Int)(u:List aH):aF×Int×Int×Int:=if pO d s op u=true then((eJ d s op u).1,(eJ d s op u).2.1,(eJ d s op u).2.2,0)else(⟨[],[],[]⟩,0,0,2)
def FlyR(w0:World)(h:Heap)(d:aQ)(s:aF)(op:Int)(u:List aH)(y:AV)(h':Heap):Prop:=
 aB h h'∧∃nv,y= .tup [.agg (stC nv),.int .i64 (aCU d s op u).2.1,.int .i64 (aCU d s op u).2.2.1,.int .i64 (aCU d s op u).2.2.2]∧StS w0 h' (aCU d s op u).1 nv∧(pO d s op u=true→aAm w0 h' h.length (aCU d s op u).1 nv)
theorem aJF(to:Int)(p:List Int):∀l:List Int,(p.foldl (fun l n=>l.set n.toNat to) l).length=l.length:=by
 induction p with
 | nil=>intro l; rfl
 | cons a p ih=>intro l; rw[List.foldl_cons,ih,List.length_set]
theorem aGU(n:aF)(i:Nat)(x:aH):(nQ n i x).planes.length=n.planes.length∧(nQ n i x).legs.length=n.legs.length∧(nQ n i x).people.length=n.people.length:=
 ⟨List.length_set,List.length_set,aJF _ _ _⟩
theorem zH{d:aQ}{s:aF}{op:Int}:∀(u:List aH) (i:Nat) (n:aF) (g:List Bool) (n':aF),nF d s op u i n g= .ok n'→n'.planes.length=n.planes.length∧n'.legs.length=n.legs.length∧n'.people.length=n.people.length
 | [],i,n,g,n',e=>by cases e; exact⟨rfl,rfl,rfl⟩
 | x::u,i,n,g,n',e=>by
  rw[nF]at e
  split at e
  ·exact zH u _ n g n' e
  ·split at e
   ·cases e
   ·obtain⟨a,b,c⟩:=zH u _ _ _ n' e
    obtain⟨a',b',c'⟩:=aGU n i x
    exact⟨a.trans a',b.trans b',c.trans c'⟩
theorem aJJ(d:aQ)(s:aF)(op:Int)(u:List aH):(eJ d s op u).1.planes.length=s.planes.length∧(eJ d s op u).1.legs.length=s.legs.length∧(eJ d s op u).1.people.length=s.people.length:=by
 rw[eJ]
 cases e:nF d s op u 0 s [false,false,false,false]with
 | error p=>exact⟨rfl,rfl,rfl⟩
 | ok n=>
  have:=zH u 0 s _ n e
  simp only
  split
  ·exact⟨rfl,rfl,rfl⟩
  ·exact this
theorem Fly_c(d:aQ)(v:cU)(s:aF)(sv:StV)(op:Int)(u:List aH)(uv:AV)(hR:kU w0 h d v)(hS:StS w0 h s sv)(hU:UnV w0 h uv u)(m1:s.planes.length<1000000)(m2:s.legs.length<1000000)(m3:s.people.length<1000000)(hn:u.length<1000000)(hp:∀x∈u,x.people.length<1000000) :
 ACall Tryz.prog w0 19 [.agg (aX v),.agg (stC sv),.int .i64 op,uv] h (FlyR w0 h d s op u):=by
 refine aO mf19_k fun hb ha=> ?_
 obtain⟨o1,o2,o3,o4,o5⟩:=hR.ones
 obtain⟨q1,q2,q3⟩:=hS.ones
 obtain⟨l1,l2,l3,l4,l5⟩:=hR.lens
 simp only[go_sem,mf19,aX,stC,o1,o2,o3,o4,o5,q1,q2,q3]
 obtain⟨G,eG⟩:∃G,G=h++[some (Blk.row [v.pl,v.ln,v.pn,v.pe,v.we]),some (Blk.row [sv.pl,sv.le,sv.pe]),some (Blk.row [AV.nilS,AV.nilS,AV.nilS]),some (Blk.row [v.pl,v.ln,v.pn,v.pe,v.we,AV.nilM])]:=⟨_,rfl⟩
 have sG:aB h G:=eG▸aB.refl.app
 have g0:G[h.length]? = some (some (.row [v.pl,v.ln,v.pn,v.pe,v.we])):=by rw[eG]; simp
 have g1:G[h.length+1]? = some (some (.row [sv.pl,sv.le,sv.pe])):=by rw[eG]; simp
 have g2:G[h.length+2]? = some (some (.row [.nilS,.nilS,.nilS])):=by rw[eG]; simp
 have g3:G[h.length+3]? = some (some (.row (aX v++[AV.nilM]))):=by rw[eG]; simp[aX]
 have b0:=xL g0
 have b1:=xL g1
 have b2:=xL g2
 have hRG:=hR.sub sG
 have hSG:=hS.sub sG
 have hUG:=hU.sub sG
 have gl:G.length=h.length+4:=by rw[eG]; simp
 rw[←eG]
 refine aC (aAT d v hRG).v ?_
 have hno:∀(x:Option Blk),pO d s op u=false→FlyR w0 h d s op u (.tup [.agg [.nilS,.nilS,.nilS],.int .i64 0,.int .i64 0,.int .i64 2]) (G.set (h.length+2) x):=fun x e=>by
  refine⟨sG.setR (by omega),⟨.nilS,.nilS,.nilS⟩,?_⟩
  rw[aCU,e,if_neg (by simp)]
  refine⟨rfl,⟨?_,?_,?_⟩,fun e=>by cases e⟩<;>exact⟨.inl ⟨rfl,rfl⟩,fun _=>rfl⟩
 have z2:∀x,(G.set (h.length+2) (some (Blk.row x)))[h.length+2]? = some (some (Blk.row x)):=fun x=>qF (by omega)
 cases e1:fX d with
 | false=>simp only[go_sem,g2,b2,z2]; exact hno _ (by simp[pO,e1])
 | true=>
 simp only[go_sem,g1,b1,q1,q2,q3]
 refine aC (aIj (m:= .nilM) (i:=h.length+3) s sv g3 hRG hSG m1 m2 m3).v ?_
 cases e2:fL d s with
 | false=>simp only[go_sem,g2,b2,z2]; exact hno _ (by simp[pO,e2])
 | true=>
 have dg:=tA e1
 obtain⟨sk,pat⟩:=aGB e2
 have hs:=nY (n:=d.places.length) (by have:=dg.p1; omega)
 have hp50:(2^d.places.length:Nat)≤2^50:=Nat.pow_le_pow_right (by omega) (by have:=dg.p1; omega)
 have hp1:1≤2^d.places.length:=Nat.one_le_two_pow
 have wq:=cZ (n:=((2^d.places.length:Nat):Int) - 1) (by unfold I64; omega)
 simp only[go_sem,g0,b0,l1,hs,wq]
 refine aC (nS _ _ _).v ?_
 rw[show inB op 0 (((2^d.places.length:Nat):Int) - 1)=qL d.places.length op from rfl]
 cases e3:qL d.places.length op with
 | false=>simp only[go_sem,g2,b2,z2]; exact hno _ (by simp[pO,e3])
 | true=>
 simp only[go_sem]
 refine aC (aH8 (m:= .nilM) (i:=h.length+3) u uv g3 hRG hUG hn hp).v ?_
 cases e4:fO d u with
 | false=>simp only[go_sem,g2,b2,z2]; exact hno _ (by simp[pO,e4])
 | true=>
 have uk:=(aFs e4).ok dg.pe
 have ho:0≤op∧op<2^50:=by
  simp only[qL,inB,Bool.and_eq_true,decide_eq_true_eq]at e3
  omega
 simp only[go_sem,g1,b1,q1,q2,q3]
 refine aJ (ACall.v4 (fly_c d v .nilM (h.length+3) s sv op u uv (aN8 e1 g3 hRG) hSG sk hUG uk ho.1 ho.2).toA) ?_
 rintro y H1 ⟨s1,nv,rfl,hnv,_⟩
 obtain⟨r1,r2,r3⟩:=hnv.ones
 simp only[go_sem,stC,r1,r2,r3]
 obtain⟨r,er⟩:∃r,r=(eJ d s op u).2.1:=⟨_,rfl⟩
 obtain⟨p,ep⟩:∃p,p=(eJ d s op u).2.2:=⟨_,rfl⟩
 rw[←er,←ep]
 obtain⟨H2,eH2⟩:∃H2,H2=H1++[some (Blk.row [nv.pl,nv.le,nv.pe]),some (Blk.row [AV.int .i64 r,AV.int .i64 p])]:=⟨_,rfl⟩
 have s2:aB H1 H2:=eH2▸aB.refl.app
 have h2l:H2.length=H1.length+2:=by rw[eH2]; simp
 have t1:H2[H1.length]? = some (some (.row [nv.pl,nv.le,nv.pe])):=by rw[eH2]; simp
 have t2:H2[H1.length+1]? = some (some (.row [.int .i64 r,.int .i64 p])):=by rw[eH2]; simp
 have t1L:=xL t1
 have t2L:=xL t2
 have t3:=(s1.trans s2).2 _ _ g2
 rw[←eH2]
 have lens:=aJJ d s op u
 refine iS dE [0,2,3,4,5,1,6,7,8,9] [o_ 52 (.load (.t 13) (some 3)),o_ 54 (.addr (.t 14) 0),o_ 55 (l_ 54),o_ 56 (.addr (.t 14) 1),o_ 57 (l_ 56),.call (some 53) none (f_ 64) [(.t 52)]] [([(2,o_ 55 (l_ 54)),(4,o_ 57 (l_ 56))],[.op none none (.store (.t 8) (.t 53) 3)]),([(2,o_ 55 (l_ 54)),(4,o_ 57 (l_ 56))],[o_ 9 (m_ 55),o_ 10 (m_ 57),o_ 11 (.mov (i_ 0))])] rfl rfl (by kernel_rfl) ?_
 simp only[go_sem,t1,t1L,t2,t2L,r1,r2,r3]
 refine aJ (ACall.v1 (aJX (eJ d s op u).1 nv (hnv.sub s2) (by omega) (by omega) (by omega))) ?_
 rintro y H3 ⟨s3,nw,rfl,ow⟩
 obtain⟨x1,x2,x3⟩:=ow.here.ones
 have v1:=s3.2 _ _ t1
 have v2:=s3.2 _ _ t2
 have v3:=s3.2 _ _ t3
 have v1L:=xL v1
 have v2L:=xL v2
 have v3L:=xL v3
 have z3:∀x,(H3.set (h.length+2) (some (Blk.row x)))[h.length+2]? = some (some (Blk.row x)):=fun x=>qF (aD v3)
 have n1:=s1.1
 have z4:∀x,(H3.set (h.length+2) x)[H1.length+1]? = some (some (.row [.int .i64 r,.int .i64 p])):=fun x=>by rw[qB (by omega)]; exact v2
 simp only[go_sem,v1,v1L,v2,v2L,v3,v3L,x1,x2,x3,stC,z3,z4]
 have sub3:aB h (H3.set (h.length+2) (some (Blk.row [nw.pl,nw.le,nw.pe]))):=(sG.trans (s1.trans (s2.trans s3))).setR (by omega)
 have n2:=s2.1
 have hok:pO d s op u=true:=by simp[pO,e1,e2,e3,e4]
 refine⟨sub3,nw,?_⟩
 rw[aCU,hok,if_pos rfl,←er,←ep]
 have ow2:=ow.set v3 (c':=[nw.pl,nw.le,nw.pe]) rfl (by omega)
 exact⟨rfl,ow2.here,fun _=>⟨ow2.p.less (by omega),ow2.l.less (by omega),ow2.e.less (by omega)⟩⟩
theorem StS.nil{H:Heap}:StS w0 H ⟨[],[],[]⟩ ⟨.nilS,.nilS,.nilS⟩:=⟨⟨.inl ⟨rfl,rfl⟩,fun _=>rfl⟩,⟨.inl ⟨rfl,rfl⟩,fun _=>rfl⟩,⟨.inl ⟨rfl,rfl⟩,fun _=>rfl⟩⟩
section
variable {d:aQ} {v:cU} {pol:gC} {pv:AV}
theorem aDp.row(a:aDp w0 h pv pol){j:Nat}(hj:j<pol.length):∃(p:Pl) (x:AV),cF 1 pv (some j)=some (.ptr p)∧(∀L,rd w0 (h++L) p=some x)∧rd w0 h p=some x∧NS w0 h 1 (UnsR w0 h) x pol[j]:=by
 obtain⟨p,c,i,r,x,rfl,s⟩:=NS.at_ a hj
 have t:∀L,rd w0 (h++L) p=some x:=fun L=>rd_0 (r L) rfl
 have t':=t []
 rw[List.append_nil]at t'
 exact⟨p,x,i,t,t',s⟩
theorem aH7{x:AV}{l:List (List aH)}(a:NS w0 h 1 (UnsR w0 h) x l){j:Nat}(hj:j<l.length):∃(p:Pl) (y:AV),cF 1 x (some j)=some (.ptr p)∧(∀L,rd w0 (h++L) p=some y)∧rd w0 h p=some y∧UnV w0 h y l[j]:=by
 obtain⟨p,c,i,r,y,rfl,s⟩:=NS.at_ a hj
 have t:∀L,rd w0 (h++L) p=some y:=fun L=>rd_0 (r L) rfl
 have t':=t []
 rw[List.append_nil]at t'
 exact⟨p,y,i,t,t',s⟩
def aBk(d:aQ)(pol:gC):Bool:=pol.all (fun r=>decide (r.length=aL d)&&r.all (fO d))&&decide (pol.length=d.weathers.length)
theorem aGL(hR:kU w0 h d v)(hP:aDp w0 h pv pol)(hw:d.weathers≠[])(hs:aL d<1000000)(hl:pol.length<1000000)(hr:∀r∈pol,r.length<1000000∧∀u∈r,u.length<1000000∧∀x∈u,x.people.length<1000000):aK Tryz.prog w0 17 [.agg (aX v),pv] h (.bool (aBk d pol)) h:=by
 refine aM mf17_k fun hb ha=> ?_
 obtain⟨o1,o2,o3,o4,o5⟩:=hR.ones
 obtain⟨l1,l2,l3,l4,l5⟩:=hR.lens
 have lp:=NS.len hP
 obtain⟨G,eG⟩:∃G,G=h++[some (Blk.row [v.pl,v.ln,v.pn,v.pe,v.we])]:=⟨_,rfl⟩
 have sG:aB h G:=eG▸aB.refl.app
 have g0:G[h.length]? = some (some (.row [v.pl,v.ln,v.pn,v.pe,v.we])):=by rw[eG]; simp
 have b0:=xL g0
 have hRG:=hR.sub sG
 have hPG:=hP.sub sG
 simp only[go_sem,mf17,aX,o1,o2,o3,o4,o5]
 rw[←eG]
 refine cY (fun j=>[(1,pv),(2,.ptr (.own h.length 0)),(5,.int .i64 j)]) (fun j=>∀hj:j<pol.length,pol[j].length=aL d∧pol[j].all (fO d)=true) pol.length rfl (fun j hj hi ih=> ?_) (fun es=> ?_)
 ·refine aP [1,2,5] aLu.eq_1 ?_
  have i3:(j:Int)<pol.length:=by omega
  obtain⟨p,x,i,t,t',sx'⟩:=hPG.row hj
  have lx:=NS.len sx'
  have hrj:=hr _ (qG hj)
  have hno:(decide (pol[j].length=aL d)&&pol[j].all (fO d))=false→aBk d pol=false:=fun e=>by
   have:pol.all (fun r=>decide (r.length=aL d)&&r.all (fO d))=false:=List.all_eq_false.2 ⟨_,qG hj,by simp only[e]; exact Bool.false_ne_true⟩
   simp only[aBk,this,Bool.false_and]
  simp only[go_sem,lp,i3]
  refine iS dE [0,1,2,3,4,5,6,7] [o_ 13 (m_ 1),o_ 14 (m_ 5),o_ 15 (.idxs 1 (.t 13) (.t 14)),o_ 16 (l_ 15),o_ 17 (.len (.t 16)),o_ 18 (.load (.t 2) (some 5)),.call (some 19) none (f_ 58) [(.t 18)]] [([(3,o_ 16 (l_ 15))],[o_ 20 (.bin .neq (.t 17) (.t 19))])] rfl rfl (by kernel_rfl) ?_
  simp only[go_sem,lp,i3,i,t,t',lx,g0,b0,o1,o2,o3,o4,o5]
  refine aC (aID d v hRG.toDayS hw).v ?_
  simp only[go_sem,i,t,t',lx]
  refine⟨fun e=>⟨by rw[hno (by rw[decide_eq_false (by omega),Bool.false_and])],_,eG⟩,fun e=> ?_⟩
  refine cY (fun q=>[(1,pv),(2,.ptr (.own h.length 0)),(5,.int .i64 j),(6,.int .i64 q)]) (fun q=>∀hq:q<pol[j].length,fO d pol[j][q]=true) pol[j].length rfl (fun q hq hi2 ih2=> ?_) (fun es2=> ?_)
  ·refine aP [1,2,5,6] aLv.eq_1 ?_
   have i4:(q:Int)<pol[j].length:=by omega
   obtain⟨p2,y,i2,t2,t2',sy⟩:=aH7 sx' hq
   have huq:=hrj.2 _ (qG hq)
   simp only[go_sem,i4,i,t,t',lx,i2,t2,t2',g0,b0,o1,o2,o3,o4,o5]
   refine aC (aMe d v pol[j][q] y hRG sy huq.1 huq.2).v ?_
   cases e1:fO d pol[j][q]with
   | false=>
    simp only[go_sem]
    exact⟨by rw[hno (by rw[List.all_eq_false.2 ⟨_,qG hq,by simp[e1]⟩,Bool.and_false])],_,eG⟩
   | true=>
    simp only[go_sem]
    exact⟨(by unfold I64; omega),ih2 fun _=>e1⟩
  ·refine aP [1,2,5,6] aLv.eq_1 ?_
   have i4:¬(pol[j].length:Int)<pol[j].length:=by omega
   simp only[go_sem,i4,i,t,t',lx]
   exact⟨(by unfold I64; omega),ih fun _=>⟨by omega,List.all_eq_true.2 fun u hu=>by
    obtain⟨q,hq,rfl⟩:=List.getElem_of_mem hu
    exact es2 q hq hq⟩⟩
 refine aP [1,2,5] aLu.eq_1 ?_
 have x1:¬(pol.length:Int)<pol.length:=by omega
 have h5:((pol.length:Int)==d.weathers.length)=decide (pol.length=d.weathers.length):=by rw[Bool.eq_iff_iff]; simp; omega
 simp only[go_sem,lp,x1,h5,g0,b0,l5]
 have:pol.all (fun r=>decide (r.length=aL d)&&r.all (fO d))=true:=List.all_eq_true.2 fun r hr=>by
  obtain⟨i,hi,rfl⟩:=List.getElem_of_mem hr
  obtain⟨a,b⟩:=es i hi hi
  rw[b,decide_eq_true a]; rfl
 exact⟨by rw[aBk,this,Bool.true_and],_,eG⟩
end
end Go.Proofs.Ab
namespace Go.Proofs.Ab
open Go Go.Proofs
variable {w0:World} {h:Heap}
structure PolOK(d:aQ)(pol:gC):Prop where
 len:pol.length=d.weathers.length
 row:∀(w:Nat) (hw:w<pol.length),pol[w].length=aL d
 un:∀(w:Nat) (hw:w<pol.length) (t:Nat) (ht:t<pol[w].length),fO d pol[w][t]=true
theorem aMl{d:aQ}{pol:gC}(e:aBk d pol=true):PolOK d pol:=by
 simp only[aBk,Bool.and_eq_true,decide_eq_true_eq,List.all_eq_true]at e
 exact⟨e.2,fun w hw=>(e.1 _ (qG hw)).1,fun w hw t ht=>(e.1 _ (qG hw)).2 _ (qG ht)⟩
theorem aKh{d:aQ}(dg:jJ d):StN d 0 (bV d):=⟨by simp[bV],by simp[bV],by simp[bV],fun x hx=>by
 simp only[bV,List.mem_map]at hx
 obtain⟨p,hp,rfl⟩:=hx
 exact(dg.planes p hp).1,fun x hx=>by
 simp only[bV]at hx
 rw[(List.mem_replicate.1 hx).2]; simp,fun x hx=>by
 simp only[bV,List.mem_map]at hx
 obtain⟨p,hp,rfl⟩:=hx
 exact(dg.people p hp).1⟩
theorem wAt_bd{d:aQ}(dg:jJ d){w t:Nat}(hw:w<d.weathers.length)(ht:t<aL d):∃h2:t<d.weathers[w].length,wAt d w t=d.weathers[w][t]∧0≤wAt d w t∧wAt d w t<2^5:=by
 obtain⟨h1,h2⟩:=dg.rows _ (qG hw)
 have h3:t<d.weathers[w].length:=by omega
 have e:wAt d w t=d.weathers[w][t]:=by rw[wAt,aE hw,aE h3]
 exact⟨h3,e,by rw[e]; exact h2 _ (qG h3)⟩
end Go.Proofs.Ab
namespace Go.Proofs.Ab
open Go Go.Proofs
section
variable {d:aQ} {ws slot:Nat}
theorem bit_xa{a g i:Nat}:bN (a ^^^ (a &&& g)) i=(bN a i && !bN g i):=by
 rw[gU,gU,gU,Nat.testBit_xor,Nat.testBit_and]
 cases a.testBit i<;>cases g.testBit i<;>rfl
theorem uP:∀n,n≤d.weathers.length→(∀i,i<d.weathers.length→(bN (cQ d ws slot n).1 i=true↔bN ws i=true∧∀w,w<n→bN ws w=true→wAt d i slot≠wAt d w slot)) ∧
 (∀g∈(cQ d ws slot n).2,∃w,w<n∧bN ws w=true∧∀i,bN g i=true↔i<d.weathers.length∧bN ws i=true∧wAt d i slot=wAt d w slot) ∧
 (∀w,w<n→bN ws w=true→∃g∈(cQ d ws slot n).2,bN g w=true) ∧
 (cQ d ws slot n).2.Pairwise fun g g'=>∀i,¬(bN g i=true∧bN g' i=true)
 | 0,_=>⟨fun i _=>by simp[cQ],fun g hg=>by simp[cQ]at hg,fun w hw=>by omega,by simp[cQ]⟩
 | n+1,hn=>by
  obtain⟨h1,h2,h3,h4⟩:=uP n (by omega)
  obtain⟨l,el⟩:∃l,l=(cQ d ws slot n).1:=⟨_,rfl⟩
  obtain⟨gs,egs⟩:∃gs,gs=(cQ d ws slot n).2:=⟨_,rfl⟩
  rw[←el]at h1
  rw[←egs]at h2 h3 h4
  rw[cQ]
  simp only[←el,←egs]
  have hbit:∀i,bN (fV d l slot n d.weathers.length) i=true↔i<d.weathers.length∧bN l i=true∧wAt d i slot=wAt d n slot:=fun i=>by
   rw[sS]; simp[and_assoc]
  cases hb:bN l n with
  | false=>
   rw[if_neg (by simp),←el,←egs]
   have hn0:¬(bN ws n=true∧∀w,w<n→bN ws w=true→wAt d n slot≠wAt d w slot):=fun e=>by
    have:=(h1 n (by omega)).2 e; rw[hb]at this; cases this
   refine⟨fun i hi=> ?_,fun g hg=> ?_,fun w hw hb2=> ?_,h4⟩
   ·rw[h1 i hi]
    refine⟨fun⟨a,b⟩=>⟨a,fun w hw hb2=> ?_⟩,fun⟨a,b⟩=>⟨a,fun w hw=>b w (by omega)⟩⟩
    rcases Nat.lt_or_ge w n with h | h
    ·exact b w h hb2
    ·obtain rfl:w=n:=by omega
     intro e
     refine hn0 ⟨hb2,fun w' hw' hb3=> ?_⟩
     rw[←e]; exact b w' hw' hb3
   ·obtain⟨w,a,b⟩:=h2 g hg
    exact⟨w,by omega,b⟩
   ·rcases Nat.lt_or_ge w n with h | h
    ·exact h3 w h hb2
    ·obtain rfl:w=n:=by omega
     have:∃w',w'<w∧bN ws w'=true∧wAt d w slot=wAt d w' slot:=by
      refine Classical.byContradiction fun hc=>hn0 ⟨hb2,fun w' hw' hb3 e=>hc ⟨w',hw',hb3,e⟩⟩
     obtain⟨w',a,b,c⟩:=this
     obtain⟨g,hg,hgw⟩:=h3 w' a b
     obtain⟨v,_,_,hv⟩:=h2 g hg
     refine⟨g,hg,(hv w).2 ⟨by omega,hb2,?_⟩⟩
     rw[c]; exact((hv w').1 hgw).2.2
  | true=>
   rw[if_pos rfl]
   have hn1:=(h1 n (by omega)).1 hb
   have key:∀i,i<d.weathers.length→bN ws i=true→wAt d i slot=wAt d n slot→bN l i=true:=fun i hi hb2 e=>(h1 i hi).2 ⟨hb2,fun w hw hb3=>by rw[e]; exact hn1.2 w hw hb3⟩
   refine⟨fun i hi=> ?_,fun g hg=> ?_,fun w hw hb2=> ?_,?_⟩
   ·rw[bit_xa,Bool.and_eq_true,Bool.not_eq_true',Bool.eq_false_iff,ne_eq,hbit,h1 i hi]
    refine⟨fun⟨⟨a,b⟩,c⟩=>⟨a,fun w hw hb2=> ?_⟩,fun⟨a,b⟩=>⟨⟨a,fun w hw=>b w (by omega)⟩,fun c=>b n (by omega) hn1.1 c.2.2⟩⟩
    rcases Nat.lt_or_ge w n with h | h
    ·exact b w h hb2
    ·obtain rfl:w=n:=by omega
     exact fun e=>c ⟨hi,⟨a,b⟩,e⟩
   ·rcases List.mem_append.1 hg with hg | hg
    ·obtain⟨w,a,b⟩:=h2 g hg
     exact⟨w,by omega,b⟩
    ·simp only[List.mem_singleton]at hg
     subst hg
     refine⟨n,by omega,hn1.1,fun i=> ?_⟩
     rw[hbit]
     exact⟨fun⟨a,b,c⟩=>⟨a,((h1 i a).1 b).1,c⟩,fun⟨a,b,c⟩=>⟨a,key i a b c,c⟩⟩
   ·rcases Nat.lt_or_ge w n with h | h
    ·obtain⟨g,hg,hgw⟩:=h3 w h hb2
     exact⟨g,List.mem_append.2 (.inl hg),hgw⟩
    ·obtain rfl:w=n:=by omega
     exact⟨_,List.mem_append.2 (.inr (by simp)),(hbit w).2 ⟨by omega,hb,rfl⟩⟩
   ·rw[List.pairwise_append]
    refine⟨h4,by simp,fun g hg g' hg' i hi=> ?_⟩
    simp only[List.mem_singleton]at hg'
    subst hg'
    obtain⟨w,a,b,hv⟩:=h2 g hg
    obtain⟨hi1,hi2⟩:=hi
    obtain⟨c1,c2,c3⟩:=(hbit i).1 hi2
    exact((h1 i c1).1 c2).2 w a b ((hv i).1 hi1).2.2
theorem lH:(∀g∈eS d ws slot,∃w,w<d.weathers.length∧bN ws w=true∧∀i,bN g i=true↔i<d.weathers.length∧bN ws i=true∧wAt d i slot=wAt d w slot) ∧
 (∀w,w<d.weathers.length→bN ws w=true→∃g∈eS d ws slot,bN g w=true) ∧
 (eS d ws slot).Pairwise fun g g'=>∀i,¬(bN g i=true∧bN g' i=true):=(uP d.weathers.length (Nat.le_refl _)).2
theorem aDn{g:Nat}{u:List aH}{pol:gC}{w:Nat}(hw:w<pol.length):∀n,(mK g u pol n).getD w []=pol.getD w []++(if decide (w<n)&&bN g w then [u]else [])
 | 0=>by simp[mK]
 | n+1=>by
  have ih:=aDn (g:=g) (u:=u) hw n
  have hl:=zW (g:=g) (u:=u) (pol:=pol) n
  rw[mK]
  by_cases e:w=n
  ·subst e
   have h1:decide (w<w)=false:=decide_eq_false (by omega)
   have h2:decide (w<w+1)=true:=decide_eq_true (by omega)
   rw[h1,Bool.false_and,if_neg (by simp),List.append_nil]at ih
   rw[h2,Bool.true_and]
   split
   ·rw[List.getD_eq_getElem?_getD,qF (by rw[hl]; exact hw),Option.getD_some,ih]
   ·rw[ih,List.append_nil]
  ·have h1:decide (w<n+1)=decide (w<n):=by rw[decide_eq_decide]; omega
   rw[h1,←ih]
   split
   ·rw[List.getD_eq_getElem?_getD,qB (by omega),←List.getD_eq_getElem?_getD]
   ·rfl
end
def mU(d:aQ):Nat→Nat→aF→Nat→List (List aH)
 | 0,_,_,_=>[]
 | k+1,ws,s,w=>match(eS d ws (aL d - (k+1))).find? fun g=>bN g w with
  | none=>[]
  | some g=>match(fD d s (wAt d (iK g d.weathers.length) (aL d - (k+1)))).find? (uN d k (aL d - (k+1)) g s)with
   | none=>[]
   | some x=>x.1::mU d k g x.2 w
theorem aIO{d:aQ}{w:Nat}:∀(k ws:Nat) (s:aF),bN ws w=false→mU d k ws s w=[]
 | 0,_,_,_=>rfl
 | k+1,ws,s,hb=>by
  have:(eS d ws (aL d - (k+1))).find? (fun g=>bN g w)=none:=by
   rw[List.find?_eq_none]
   intro g hg hbg
   obtain⟨v,_,_,hv⟩:=lH.1 g hg
   have:=((hv w).1 hbg).2.1
   rw[hb]at this; cases this
  rw[mU,this]
theorem aCT{W w:Nat}{step:gC→Nat→gC}{F:Nat→List (List aH)}(hw:w<W)(hs:∀p g,p.length=W→(step p g).length=W∧(step p g).getD w []=p.getD w []++(if bN g w=true then F g else [])):∀(gs:List Nat) (p:gC),p.length=W→gs.Pairwise (fun g g'=>∀i,¬(bN g i=true∧bN g' i=true)) →
 (gs.foldl step p).length=W∧(gs.foldl step p).getD w []=p.getD w []++(match gs.find? (fun g=>bN g w)with | none=>[] | some g=>F g)
 | [],p,hp,_=>⟨hp,by simp⟩
 | g::gs,p,hp,hd=>by
  obtain⟨d1,d2⟩:=List.pairwise_cons.1 hd
  obtain⟨s1,s2⟩:=hs p g hp
  obtain⟨i1,i2⟩:=aCT hw hs gs (step p g) s1 d2
  rw[List.foldl_cons]
  refine⟨i1,?_⟩
  rw[i2,s2]
  cases hb:bN g w with
  | true=>
   have:gs.find? (fun g=>bN g w)=none:=by
    rw[List.find?_eq_none]
    intro g' hg' hb'
    exact d1 g' hg' w ⟨hb,hb'⟩
   rw[this,List.find?_cons,hb]
   simp
  | false=>
   rw[List.find?_cons,hb]
   simp
theorem aAW{d:aQ}:∀(k ws:Nat) (s:aF) (pol:gC),pol.length=d.weathers.length→(iL d k ws s pol).length=pol.length∧∀w,w<pol.length→(iL d k ws s pol).getD w []=pol.getD w []++mU d k ws s w
 | 0,ws,s,pol,_=>⟨rfl,fun w _=>by simp[iL,mU]⟩
 | k+1,ws,s,pol,hp=>by
  obtain⟨_,_,h3⟩:=lH (d:=d) (ws:=ws) (slot:=aL d - (k+1))
  rw[vX]
  have step:∀(g:Nat) (p:gC),p.length=d.weathers.length→(iT d k (aL d - (k+1)) s p g).length=p.length∧∀w,w<p.length→(iT d k (aL d - (k+1)) s p g).getD w []=p.getD w []++(if bN g w=true then(match(fD d s (wAt d (iK g d.weathers.length) (aL d - (k+1)))).find? (uN d k (aL d - (k+1)) g s)with
   | none=>[]
   | some x=>x.1::mU d k g x.2 w)else []):=fun g p hpl=>by
   rw[iT]
   cases(fD d s (wAt d (iK g d.weathers.length) (aL d - (k+1)))).find? (uN d k (aL d - (k+1)) g s)with
   | none=>exact⟨rfl,fun w _=>by simp[uA]⟩
   | some x=>
    have hal:=zW (g:=g) (u:=x.1) (pol:=p) d.weathers.length
    obtain⟨b1,b2⟩:=aAW k g x.2 (mK g x.1 p d.weathers.length) (by rw[hal,hpl])
    refine⟨by simp only[uA]; rw[b1,hal],fun w hw=> ?_⟩
    simp only[uA]
    rw[b2 w (by rw[hal]; exact hw),aDn hw,decide_eq_true (show w<d.weathers.length by omega),Bool.true_and]
    cases hb:bN g w with
    | true=>simp
    | false=>rw[aIO k g x.2 hb]; simp
  have hl:∀(gs:List Nat) (p:gC),p.length=d.weathers.length→(gs.foldl (iT d k (aL d - (k+1)) s) p).length=p.length:=fun gs=>by
   induction gs with
   | nil=>intro p _; rfl
   | cons g gs ih=>intro p hpl; rw[List.foldl_cons,ih _ (by rw[(step g p hpl).1,hpl]),(step g p hpl).1]
  refine⟨hl _ pol hp,fun w hw=> ?_⟩
  obtain⟨_,i2⟩:=aCT (W:=d.weathers.length) (w:=w) (step:=iT d k (aL d - (k+1)) s) (F:=fun g=>match(fD d s (wAt d (iK g d.weathers.length) (aL d - (k+1)))).find? (uN d k (aL d - (k+1)) g s)with
   | none=>[]
   | some x=>x.1::mU d k g x.2 w) (by omega) (fun p g hpl=>by
   obtain⟨a,b⟩:=step g p hpl
   exact⟨a.trans hpl,b w (by omega)⟩) (eS d ws (aL d - (k+1))) pol hp h3
  rw[i2,mU]
section
variable {d:aQ}
def NC(d:aQ)(s:aF):Prop:=(List.range d.places.length).any (fN d s)=false
theorem aIB{s:aF}{op:Int}{i:Nat}{x:aH}{g g':List Bool}{r:Int}(h:nO d s op i x g=(some r,g')):r≠1:=by
 simp only[nO]at h
 split at h
 ·cases h; omega
 ·split at h
  ·cases h; omega
  ·split at h
   ·cases h; omega
   ·split at h
    ·cases h; omega
    ·split at h
     ·cases h; omega
     ·cases h
theorem aBB{s:aF}{op:Int}:∀(u:List aH) (i:Nat) (n:aF) (g:List Bool) (r p:Int),nF d s op u i n g= .error (r,p)→r≠1
 | [],i,n,g,r,p,h=>by cases h
 | x::u,i,n,g,r,p,h=>by
  rw[nF]at h
  split at h
  ·exact aBB u _ n g r p h
  ·split at h
   ·rename_i r' g' e
    cases h
    exact aIB e
   ·exact aBB u _ _ _ r p h
theorem aJI{s:aF}{op:Int}{u:List aH}(h:(eJ d s op u).2.1=1):(eJ d s op u).2.2= -1∧NC d (eJ d s op u).1:=by
 rw[eJ]at h ⊢
 cases e:nF d s op u 0 s [false,false,false,false]with
 | error p=>
  rw[e]at h
  exact absurd h (aBB _ _ _ _ _ _ e)
 | ok n=>
  rw[e]at h
  simp only at h ⊢
  cases e2:(List.range d.places.length).any (fN d n)with
  | true=>rw[e2,if_pos rfl]at h; simp at h
  | false=>rw[if_neg (by simp)]; exact⟨rfl,e2⟩
theorem aAM{s:aF}{op:Int}:∀(u:List aH) (i:Nat) (n:aF) (g:List Bool),(∀x∈u,x.to<0)→nF d s op u i n g= .ok n
 | [],_,_,_,_=>rfl
 | x::u,i,n,g,h=>by
  rw[nF,if_pos (h x (by simp))]
  exact aAM u _ n g fun y hy=>h y (by simp[hy])
theorem aAp{s:aF}{op:Int}(hc:NC d s):∀(k gone:Nat) (u:List aH),(∀x∈u,x.to<0)→gD d s op k gone u≠[]
 | 0,gone,u,hu=>by
  rw[gD,eJ,aAM u _ _ _ hu]
  simp only
  rw[hc]
  simp
 | k+1,gone,u,hu=>by
  rw[gD,kD,List.flatMap_cons]
  intro e
  exact aAp hc k gone (u++[⟨-1,[]⟩]) (fun x hx=>by
   rcases List.mem_append.1 hx with h | h
   ·exact hu x h
   ·simp only[List.mem_singleton]at h; subst h; decide) (List.append_eq_nil_iff.1 e).1
theorem aAG{next:aF→Int}:∀(l:List (List aH×aF)) (b:Int),(l.foldl (uG next) b=b∧0≤b)∨(∃x∈l,next x.2=l.foldl (uG next) b)∨l=[]
 | [],b=> .inr (.inr rfl)
 | x::l,b=>by
  rw[List.foldl_cons]
  have hm:uG next b x=next x.2∨(uG next b x=b∧0≤b):=by
   rw[uG]
   split
   ·exact .inl rfl
   ·rename_i h
    refine .inr ⟨rfl,?_⟩
    simp only[Bool.or_eq_true,decide_eq_true_eq,not_or]at h
    omega
  rcases aAG (next:=next) l (uG next b x)with⟨h1,h2⟩ | ⟨y,hy,h⟩ | h
  ·rw[h1]
   rcases hm with e | ⟨e,e2⟩
   ·exact .inr (.inl ⟨x,by simp,e.symm⟩)
   ·exact .inl ⟨e,e2⟩
  ·exact .inr (.inl ⟨y,by simp[hy],h⟩)
  ·subst h
   rcases hm with e | ⟨e,e2⟩
   ·exact .inr (.inl ⟨x,by simp,e.symm⟩)
   ·exact .inl ⟨e,e2⟩
theorem aCS{f:Nat→Int}:∀(l:List Nat) (b:Int),b≤l.foldl (fun m g=>max m (f g)) b∧∀g∈l,f g≤l.foldl (fun m g=>max m (f g)) b
 | [],b=>⟨Int.le_refl _,fun g hg=>by cases hg⟩
 | x::l,b=>by
  obtain⟨h1,h2⟩:=aCS (f:=f) l (max b (f x))
  rw[List.foldl_cons]
  refine⟨by omega,fun g hg=> ?_⟩
  rcases List.mem_cons.1 hg with h | h
  ·subst h; omega
  ·exact h2 g h
theorem aGQ(dg:jJ d){k ws w t:Nat}{s:aF}(hk:t+(k+1)=aL d)(hw:w<d.weathers.length)(hb:bN ws w=true)(hc:NC d s) :
 ∃(g:Nat) (x:List aH×aF),mU d (k+1) ws s w=x.1::mU d k g x.2 w∧bN g w=true∧x∈fD d s (wAt d w t)∧cX d k g x.2≤cX d (k+1) ws s:=by
 have ht:aL d - (k+1)=t:=by omega
 obtain⟨g0,hg0,hb0⟩:=(lH (d:=d) (ws:=ws) (slot:=aL d - (k+1))).2.1 w hw hb
 obtain⟨g,eg⟩:∃g,(eS d ws (aL d - (k+1))).find? (fun g=>bN g w)=some g:=by
  cases e:(eS d ws (aL d - (k+1))).find? (fun g=>bN g w)with
  | some g=>exact⟨g,rfl⟩
  | none=>exact absurd hb0 (List.find?_eq_none.1 e g0 hg0)
 have hgb:bN g w=true:=List.find?_some (p:=fun g=>bN g w) eg
 have hgm:=List.mem_of_find?_eq_some eg
 obtain⟨v,_,_,hv⟩:=lH.1 g hgm
 have hf:=(mX d.weathers.length g ⟨w,hw,hgb⟩).1
 have hwa:wAt d (iK g d.weathers.length) (aL d - (k+1))=wAt d w t:=by
  have h1:=((hv _).1 hf).2.2
  have h2:=((hv w).1 hgb).2.2
  rw[h1,←h2,ht]
 have hle:eP d k (aL d - (k+1)) g s≤cX d (k+1) ws s:=(aCS (f:=fun g=>yY d (cX d k) (aL d - (k+1)) g s) (eS d ws (aL d - (k+1))) 0).2 g hgm
 have hex:∃x∈fD d s (wAt d w t),cX d k g x.2=eP d k (aL d - (k+1)) g s:=by
  rw[eP,yY,hwa]
  rcases aAG (next:=cX d k g) (fD d s (wAt d w t)) (-1)with⟨_,h⟩ | h | h
  ·omega
  ·exact h
  ·exact absurd h (aAp hc _ _ _ (by simp))
 obtain⟨y,hy,ey⟩:=hex
 obtain⟨x,ex'⟩:∃x,(fD d s (wAt d w t)).find? (uN d k (aL d - (k+1)) g s)=some x:=by
  cases e:(fD d s (wAt d w t)).find? (uN d k (aL d - (k+1)) g s)with
  | some x=>exact⟨x,rfl⟩
  | none=>exact absurd (by rw[uN,ey]; simp) (List.find?_eq_none.1 e y hy)
 have hh:uN d k (aL d - (k+1)) g s x=true:=List.find?_some ex'
 simp only[uN,Bool.not_eq_true',decide_eq_false_iff_not]at hh
 refine⟨g,x,?_,hgb,List.mem_of_find?_eq_some ex',by omega⟩
 rw[mU,eg]
 simp only
 rw[hwa,ex']
end
section
variable {d:aQ}
def SIn(m:Nat)(l:List Int):Prop:=l.Pairwise (· < ·)∧∀n∈l,0≤n∧n<m
theorem SIn.pk{m:Nat}{l:List Int}(a:SIn m l):(List.range l.length).all (pkB m l)=true:=by
 rw[bZ]
 intro k hk
 have h1:=a.2 _ (qG hk)
 simp only[pkB,aE hk,inB,Bool.and_eq_true,Bool.or_eq_true,decide_eq_true_eq]
 refine⟨by omega,?_⟩
 rcases k with _ | k
 ·exact .inl rfl
 ·right
  rw[Nat.add_sub_cancel,aE (by omega)]
  exact List.pairwise_iff_getElem.1 a.1 k (k+1) (by omega) hk (by omega)
theorem aA7{s:aF}{at_ to:Int}:∀(k:Nat) (l:List Int) (seats:Int) (gone:Nat),k≤d.people.length→SIn (d.people.length - k) l→∀x∈oU d s at_ to k l seats gone,x.1.to=to∧SIn d.people.length x.1.people
 | 0,l,seats,gone,_,_,x,hx=>by simp[oU]at hx
 | k+1,l,seats,gone,hk,hl,x,hx=>by
  have hl2:SIn (d.people.length - k) l:=⟨hl.1,fun n hn=>by have:=hl.2 n hn; omega⟩
  have hl3:SIn (d.people.length - k) (l++[((d.people.length - (k+1):Nat):Int)]):=by
   refine⟨?_,fun n hn=> ?_⟩
   ·rw[List.pairwise_append]
    refine⟨hl.1,by simp,fun a ha b hb=> ?_⟩
    simp only[List.mem_singleton]at hb
    subst hb
    have:=hl.2 a ha; omega
   ·rcases List.mem_append.1 hn with h | h
    ·exact hl2.2 n h
    ·simp only[List.mem_singleton]at h; omega
  have hl4:SIn d.people.length (l++[((d.people.length - (k+1):Nat):Int)]):=⟨hl3.1,fun n hn=>by have:=hl3.2 n hn; omega⟩
  rw[oU]at hx
  rcases List.mem_append.1 hx with h | h
  ·split at h
   ·rcases List.mem_cons.1 h with h | h
    ·subst h; exact⟨rfl,hl4⟩
    ·exact aA7 k _ _ _ (by omega) hl3 x h
   ·cases h
  ·exact aA7 k _ _ _ (by omega) hl2 x h
theorem zI{s:aF}{op:Int}{plane gone:Nat}:∀k,k≤d.places.length→∀x∈gK d s op plane gone k,flB d x.1=true
 | 0,_,x,hx=>by simp[gK]at hx
 | k+1,hk,x,hx=>by
  rw[gK]at hx
  rcases List.mem_append.1 hx with h | h
  ·split at h
   ·have key:x.1.to=((d.places.length - (k+1):Nat):Int)∧SIn d.people.length x.1.people:=by
     rw[aCB]at h
     rcases List.mem_cons.1 h with h | h
     ·subst h; exact⟨rfl,by simp,fun n hn=>by cases hn⟩
     ·exact aA7 _ _ _ _ (Nat.le_refl _) ⟨by simp,fun n hn=>by cases hn⟩ x h
    simp only[flB,inB,key.2.pk,Bool.and_true,Bool.and_eq_true,Bool.or_eq_true,decide_eq_true_eq]
    omega
   ·cases h
  ·exact zI k (by omega) x h
theorem aEe{s:aF}{op:Int}{plane gone:Nat}(hp:0<d.places.length):∀x∈kD d s op plane gone,flB d x.1=true:=fun x hx=>by
 rw[kD]at hx
 rcases List.mem_cons.1 hx with h | h
 ·subst h
  simp[flB,inB]; omega
 ·exact zI _ (Nat.le_refl _) x h
theorem aB6{s:aF}{op:Int}(hp:0<d.places.length):∀(k gone:Nat) (u:List aH),u.all (flB d)=true→∀y∈gD d s op k gone u,y.1.all (flB d)=true
 | 0,gone,u,hu,y,hy=>by
  rw[gD]at hy
  split at hy
  ·simp only[List.mem_singleton]at hy; subst hy; exact hu
  ·cases hy
 | k+1,gone,u,hu,y,hy=>by
  rw[gD,List.mem_flatMap]at hy
  obtain⟨x,hx,hy⟩:=hy
  refine aB6 hp k x.2 (u++[x.1]) ?_ y hy
  rw[List.all_append,hu,Bool.true_and,List.all_cons,aEe hp x hx]; rfl
theorem aLX{s:aF}{op:Int}{t:Nat}(dg:jJ d)(a:StN d t s){y:List aH×aF}(hy:y∈fD d s op):fO d y.1=true:=by
 have h1:=aB6 (by have:=dg.p0; omega) _ _ _ (by simp) y hy
 have h2:=(qT dg a y hy).1
 rw[fO,h1,decide_eq_true h2]; rfl
def rX(d:aQ)(P:List (List aH))(V:Int)(w t:Nat)(s:aF):Prop:=
 t≤aL d∧NC d s∧StN d t s∧∃ws,bN ws w=true∧P.drop t=mU d (aL d - t) ws s w∧cX d (aL d - t) ws s≤V
theorem aAn(dg:jJ d){P:List (List aH)}{V:Int}{w t:Nat}{s:aF}(hw:w<d.weathers.length)(I:rX d P V w t s)(ht:t<aL d) :
 ∃h:t<P.length,fO d P[t]=true∧(eJ d s (wAt d w t) P[t]).2.1=1∧(eJ d s (wAt d w t) P[t]).2.2= -1∧rX d P V w (t+1) (eJ d s (wAt d w t) P[t]).1:=by
 obtain⟨_,hc,hs,ws,hb,hp,hv⟩:=I
 obtain⟨k,ek⟩:∃k,aL d - t=k+1:=⟨aL d - t - 1,by omega⟩
 rw[ek]at hp hv
 obtain⟨g,x,h1,h2,h3,h4⟩:=aGQ dg (k:=k) (t:=t) (by omega) hw hb hc
 rw[h1]at hp
 have hlt:t<P.length:=by
  refine Classical.byContradiction fun hn=> ?_
  rw[List.drop_eq_nil_of_le (by omega)]at hp; cases hp
 rw[List.drop_eq_getElem_cons hlt]at hp
 obtain⟨hx,hr⟩:=List.cons.inj hp
 obtain⟨q1,q2,q3,q4⟩:=qT dg hs x h3
 obtain⟨f1,f2⟩:=aJI q3
 refine⟨hlt,?_⟩
 rw[hx]
 refine⟨aLX dg hs h3,q3,f1,by omega,f2,?_,g,h2,?_,?_⟩
 ·exact aF1 q1 q2 hs
 ·rw[show aL d - (t+1)=k by omega,hr,q4]
 ·rw[show aL d - (t+1)=k by omega,←q4]; omega
theorem aH3{P:List (List aH)}{V:Int}{w t:Nat}{s:aF}(I:rX d P V w t s)(ht:t=aL d):P.length≤t∧aJW d s≤V:=by
 obtain⟨_,_,_,ws,_,hp,hv⟩:=I
 subst ht
 rw[Nat.sub_self]at hp hv
 rw[mU]at hp
 exact⟨List.drop_eq_nil_iff.1 hp,hv⟩
theorem aB4(dg:jJ d){P:List (List aH)}{V:Int}{w:Nat}(hw:w<d.weathers.length):∀(k t:Nat) (s:aF),t+k=aL d→rX d P V w t s→P.length≤aL d∧∀i,t≤i→i<aL d→∃h:i<P.length,fO d P[i]=true
 | 0,t,s,hk,I=>⟨by have:=(aH3 I (by omega)).1; omega,fun i h1 h2=>by omega⟩
 | k+1,t,s,hk,I=>by
  obtain⟨h1,h2,_,_,h5⟩:=aAn dg hw I (by omega)
  obtain⟨i1,i2⟩:=aB4 dg hw k (t+1) _ (by omega) h5
  refine⟨i1,fun i a b=> ?_⟩
  rcases Nat.lt_or_ge t i with h | h
  ·exact i2 i (by omega) b
  ·obtain rfl:i=t:=by omega
   exact⟨h1,h2⟩
theorem aDh(dg:jJ d){w:Nat}(hw:w<d.weathers.length):(nA d).1.length=d.weathers.length∧(nA d).1.getD w []=mU d (aL d) (2^d.weathers.length - 1) (bV d) w:=by
 obtain⟨h1,h2⟩:=aAW (d:=d) (aL d) (2^d.weathers.length - 1) (bV d) (List.replicate d.weathers.length []) (by simp)
 refine⟨by rw[nA,h1]; simp,?_⟩
 have:=h2 w (by simpa using hw)
 rw[nA,this,List.getD_eq_getElem?_getD,List.getElem?_replicate,if_pos hw]; rfl
theorem aOg{n w:Nat}(hw:w<n):bN (2^n - 1) w=true:=by
 rw[gU,Nat.testBit_two_pow_sub_one]; exact decide_eq_true hw
theorem aA0(hB:fX d=true){w:Nat}(hw:w<d.weathers.length):rX d ((nA d).1.getD w []) (nA d).2 w 0 (bV d):=by
 have dg:=tA hB
 refine⟨Nat.zero_le _,(xS.1 hB).cr,aKh dg,2^d.weathers.length - 1,aOg hw,?_,Int.le_refl _⟩
 rw[List.drop_zero,(aDh dg hw).2]; rfl
theorem aOh(hB:fX d=true):aBk d (nA d).1=true:=by
 have dg:=tA hB
 have hw0:=dg.w0
 have hl:=(aDh dg (w:=0) (by omega)).1
 rw[aBk,decide_eq_true hl,Bool.and_true,List.all_eq_true]
 intro r hr
 obtain⟨w,hw,rfl⟩:=List.getElem_of_mem hr
 have I:=aA0 hB (w:=w) (by omega)
 rw[aE hw]at I
 obtain⟨h1,h2⟩:=aB4 dg (by omega) (aL d) 0 _ (by omega) I
 have hs:=dg.s0
 obtain⟨h3,_⟩:=h2 (aL d - 1) (by omega) (by omega)
 have h4:(nA d).1[w].length=aL d:=by omega
 rw[decide_eq_true h4,Bool.true_and,List.all_eq_true]
 intro u hu
 obtain⟨i,hi,rfl⟩:=List.getElem_of_mem hu
 exact(h2 i (by omega) (by omega)).2
theorem aLV(hB:fX d=true){w t:Nat}(hw:w<d.weathers.length)(ht:t<aL d):qL d.places.length (wAt d w t)=true:=by
 obtain⟨h1,h2⟩:=(xS.1 hB).we w hw
 exact h2 t (by omega)
theorem aCb{s:aF}{t:Nat}(a:StN d t s)(ht:t≤5):fL d s=true:=by
 rw[fL,decide_eq_true a.s1,decide_eq_true a.s2,decide_eq_true a.s3,List.all_eq_true.2 fun x hx=>iJ.2 (a.at_ x hx),List.all_eq_true.2 fun x hx=>iJ.2 (a.pat x hx),List.all_eq_true.2 fun x hx=>by
  have:=a.lg x hx
  simp only[inB,Bool.and_eq_true,decide_eq_true_eq]; omega]
 rfl
end
end Go.Proofs.Ab

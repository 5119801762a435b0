/- The own layer under the proofs of this seat, part R: what calls of the program come to on an abstract heap. No condition. -/
import Derived.Test.YtiakeffhecpddaaGreatQ
set_option linter.unusedSimpArgs false
set_option linter.unusedVariables false
namespace Go.Proofs.Ab
open Go Go.Proofs
variable {w0:World} {h:Heap}
attribute [local irreducible] ACall cG dD aQ bS rvC lp rg dr ex un rv
def pkB(m:Nat)(l:List Int)(k:Nat):Bool:=inB (l.getD k 0) 0 ((m:Int) - 1)&&(decide (k=0)||decide (l.getD (k - 1) 0<l.getD k 0))
def flB(d:aS)(x:aL):Bool:=(inB x.to (-1) ((d.places.length:Int) - 1)&&(decide (0≤x.to)||decide (x.people.length=0)))&&(List.range x.people.length).all (pkB d.people.length x.people)
def fI(d:aS)(u:List aL):Bool:=u.all (flB d)&&decide (u.length=d.planes.length)
theorem pk_lt{m:Nat}{l:List Int}(h:(List.range l.length).all (pkB m l)=true):(∀n∈l,0≤n∧n<m)∧l.Pairwise (· < ·):=by
 have h1:=bZ.1 h
 refine⟨fun n hn=> ?_,?_⟩
 · obtain⟨i,hi,rfl⟩:=List.getElem_of_mem hn
   have:=h1 i hi
   simp only[pkB,aJ hi,inB,Bool.and_eq_true,decide_eq_true_eq]at this
   omega
 · rw[List.pairwise_iff_getElem]
   have key:∀(k i j:Nat) (hi:i<l.length) (hj:j<l.length),j=i+1+k→l[i]<l[j]:=by
    intro k
    induction k with
    | zero=>
     intro i j hi hj e
     have:=h1 j hj
     simp only[pkB,aJ hj,Bool.and_eq_true,Bool.or_eq_true,decide_eq_true_eq]at this
     have h2:l.getD (j - 1) 0=l[i]:=by rw[show j - 1=i by omega,aJ hi]
     rw[h2]at this
     omega
    | succ k ih=>
     intro i j hi hj e
     have a:=ih i (j - 1) hi (by omega) (by omega)
     have:=h1 j hj
     simp only[pkB,aJ hj,Bool.and_eq_true,Bool.or_eq_true,decide_eq_true_eq,aJ (show j - 1<l.length by omega)]at this
     omega
   exact fun i j hi hj hij=>key (j - i - 1) i j hi hj (by omega)
theorem aDK{d:aS}{u:List aL}(h:fI d u=true):aJ0 d u:=by
 simp only[fI,flB,Bool.and_eq_true,List.all_eq_true,decide_eq_true_eq]at h
 obtain⟨h1,h2⟩:=h
 have h3:∀x∈u,(List.range x.people.length).all (pkB d.people.length x.people)=true:=fun x hx=>List.all_eq_true.2 (h1 x hx).2
 refine⟨h2,fun x hx=> ?_,fun x hx ht=> ?_,fun x hx=>pk_lt (h3 x hx)⟩
 · have:=(h1 x hx).1.1
   simp only[inB,Bool.and_eq_true,decide_eq_true_eq]at this
   omega
 · have:=(h1 x hx).1.2
   simp only[Bool.or_eq_true,decide_eq_true_eq]at this
   exact List.eq_nil_of_length_eq_zero (by omega)
theorem aJ0.ok{d:aS}{u:List aL}(a:aJ0 d u)(h4:d.people.length≤4):aDy d u:=by
 refine⟨a.len,fun x hx=>(a.to x hx).2,fun x hx=>(a.pp x hx).1,fun x hx=> ?_⟩
 obtain⟨h1,h2⟩:=a.pp x hx
 have key:∀(l:List Int) (b:Int),l.Pairwise (· < ·)→(∀n∈l,b≤n∧n<4)→(l.length:Int)≤4 - b∨l=[]:=by
  intro l
  induction l with
  | nil=>intro b _ _; exact .inr rfl
  | cons a l ih=>
   intro b hp hb
   obtain⟨p1,p2⟩:=List.pairwise_cons.1 hp
   have hab:=hb a (by simp)
   rcases ih (a+1) p2 (fun n hn=>⟨by have:=p1 n hn; omega,(hb n (by simp[hn])).2⟩)with h | h
   · left; simp; omega
   · subst h; left; simp; omega
 rcases key x.people 0 h2 (fun n hn=>by have:=h1 n hn; omega)with h | h
 · omega
 · rw[h]; simp
theorem aKQ(d:aS)(v:cS)(u:List aL)(uv:AV)(hR:jX w0 h d v)(hU:UnV w0 h uv u)(hn:u.length<1000000)(hp:∀x∈u,x.people.length<1000000):aQ Tryz.prog w0 59 [.agg (aY v),uv] h (.bool (fI d u)) h:=by
 refine dB trivial (aR aH aLx mf59_b mf59_g (qE rfl) fun hb ha=>aM ?_)
 obtain⟨l1,l2,l3,l4,l5⟩:=hR.lens
 obtain⟨o1,o2,o3,o4,o5⟩:=hR.ones
 have n1:=hR.l1
 have n4:=hR.l4
 have lu:=NS.len hU
 obtain⟨K0,eK0⟩:∃K0:Heap,K0=h++[some (.row (aY v))]:=⟨_,rfl⟩
 have s0:aB h K0:=eK0▸aB.refl.app
 have g0:K0[h.length]? = some (some (.row (aY v))):=by rw[eK0]; simp
 have hU0:=hU.sub s0
 simp only[go_sem,mf59,o1,o2,o3,o4,o5]
 rw[show h++[some (Blk.row [v.pl,v.ln,v.pn,v.pe,v.we])]=K0 by rw[eK0]; rfl]
 refine gE (S:=Nat×Heap) (F:=fun s=>[(1,uv),(2,.ptr (.own h.length 0)),(5,.int .i64 s.1)]) (H:=fun s=>s.2) (meas:=fun s=>u.length - s.1)
  (Inv:=fun s=>s.1≤u.length∧aB K0 s.2∧∀(j:Nat) (_:j<s.1) (hj:j<u.length),flB d u[j]=true) (0,K0) ⟨Nat.zero_le _,aB.refl,fun j hj=>absurd hj (by simp)⟩ rfl rfl ?_
 rintro⟨j,G⟩ ⟨hj,sG,f1⟩ ih
 simp only at hj sG f1 ih
 refine aD aH aO4 [1,2,5] L59_1.eq_1 ?_
 have gG:=sG.2 _ _ g0
 have bG:=xL gG
 rcases Nat.lt_or_ge j u.length with hjl | hjl
 · have i3:(j:Int)<u.length:=by omega
   obtain⟨p,pv,p1,p2K,_,_,p5⟩:=hU0.at_ hjl
   obtain⟨x,ex⟩:∃x,x=u[j]:=⟨_,rfl⟩
   rw[←ex]at p2K p5
   have p2:∀L,rdn w0 (G++L) p 2=some [.int .i64 x.to,pv]:=fun L=>(sG.app (L:=L)).rdn (by simpa using p2K [])
   have p2':=p2 []
   rw[List.append_nil]at p2'
   have opv:=p5.one.1
   have cpv:=p5.one.2
   have lpp:=(SlI.use p5).1
   have hnp:=hp x (by rw[ex]; exact qG hjl)
   have sG2:∀L,aB h (G++L):=fun L=>s0.trans sG.app
   have hno:flB d x=false→fI d u=false:=fun e=>by
    have:u.all (flB d)=false:=List.all_eq_false.2 ⟨x,by rw[ex]; exact qG hjl,by simp[e]⟩
    simp[fI,this]
   obtain⟨b6,eb6⟩:∃b,b=G.length:=⟨_,rfl⟩
   have g6:(G++[some (.row [.int .i64 x.to,pv])])[b6]? = some (some (.row [.int .i64 x.to,pv])):=by rw[eb6]; simp
   have g6L:=xL g6
   simp (disch:=(unfold I64; omega)) only[go_sem,cV,lu,i3,gG,bG,aY,p1,p2,p2',opv,cpv,l1]
   refine aC (gC _ _ _).v ?_
   cases e1:inB x.to (-1) ((d.places.length:Int) - 1)with
   | false=>
    simp only[go_sem]
    exact⟨sG2 _,by rw[hno (by simp[flB,e1])]⟩
   | true=>
   by_cases t0:x.to<0
   focus
    simp only[go_sem,t0,opv,cpv,lpp]
    refine⟨fun e=>⟨sG2 _,by rw[hno (by
     have h1:¬ 0≤x.to:=by omega
     have h2:¬x.people.length=0:=by omega
     simp only[flB,decide_eq_false h1,decide_eq_false h2,Bool.or_false,Bool.and_false,Bool.false_and])]⟩,fun e=> ?_⟩
    have e2:(decide (0≤x.to)||decide (x.people.length=0))=true:=by
     have:x.people.length=0:=by omega
     rw[decide_eq_true this,Bool.or_true]
    clear e
   rotate_left
   focus
    simp only[go_sem,t0]
    have e2:(decide (0≤x.to)||decide (x.people.length=0))=true:=by
     have:0≤x.to:=by omega
     rw[decide_eq_true this,Bool.true_or]
   all_goals
    rw[←eb6]
    refine dH (fun k=>[(1,uv),(2,.ptr (.own h.length 0)),(5,.int .i64 j),(6,.ptr (.own b6 0)),(7,.int .i64 k)]) (fun k=>pkB d.people.length x.people k=true) x.people.length rfl (fun k hk _ ih2=> ?_) (fun f2=> ?_)
    · refine aD aH aEO [1,2,5,6,7] L59_0.eq_1 ?_
      have i4:(k:Int)<x.people.length:=by omega
      obtain⟨a,a1,a2K,_⟩:=SlI.at_ p5 hk
      have hsG6:∀L,aB K0 (G++[some (.row [.int .i64 x.to,pv])]++L):=fun L=>sG.app.app
      have a2:∀L,rd w0 (G++[some (.row [.int .i64 x.to,pv])]++L) a=some (.int .i64 x.people[k]):=fun L=>(hsG6 L).rd (by simpa using a2K [])
      have a2':=a2 []
      have gG6:(G++[some (Blk.row [.int .i64 x.to,pv])])[h.length]? = some (some (.row (aY v))):=bG _
      have bG6:=xL gG6
      rw[List.append_nil]at a2'
      have hpk:pkB d.people.length x.people k=(inB x.people[k] 0 ((d.people.length:Int) - 1)&&(decide (k=0)||decide (x.people.getD (k - 1) 0<x.people[k]))):=by rw[pkB,aJ hk]
      have hno2:pkB d.people.length x.people k=false→fI d u=false:=fun e=>hno (by
       have:(List.range x.people.length).all (pkB d.people.length x.people)=false:=List.all_eq_false.2 ⟨k,List.mem_range.2 hk,by simp[e]⟩
       simp only[flB,this,Bool.and_false])
      obtain⟨G6,eG6⟩:∃G6,G6=G++[some (Blk.row [.int .i64 x.to,pv])]:=⟨_,rfl⟩
      rw[←eG6]at g6 g6L a2 a2' gG6 bG6 ⊢
      rw[←eG6]at ih2
      simp (disch:=(unfold I64; omega)) only[go_sem,cV,g6,g6L,i4,lpp,a1,a2,a2',gG6,bG6,aY,l4]
      refine aC (gC _ _ _).v ?_
      cases e3:inB x.people[k] 0 ((d.people.length:Int) - 1)with
      | false=>
       simp only[go_sem]
       exact⟨eG6▸sG2 _,by rw[hno2 (by rw[hpk,e3]; rfl)]⟩
      | true=>
      rcases k with _ | m
      · simp only[go_sem]
        exact⟨fun e=>absurd e (by simp),fun _=>⟨(by unfold I64; omega),ih2 (by rw[hpk,e3]; rfl)⟩⟩
      · have hm:m<x.people.length:=by omega
        have c0:(0:Int)<((m+1:Nat):Int):=by omega
        have ek:(((m+1:Nat):Int) - 1)=(m:Int):=by omega
        obtain⟨b,b1,b2K,_⟩:=SlI.at_ p5 hm
        have b2:∀L,rd w0 (G6++L) b=some (.int .i64 x.people[m]):=fun L=>by rw[eG6]; exact(hsG6 L).rd (by simpa using b2K [])
        have b2':=b2 []
        rw[List.append_nil]at b2'
        have hpk2:pkB d.people.length x.people (m+1)=decide (x.people[m]<x.people[m+1]):=by
         rw[hpk,e3,Nat.add_sub_cancel,aJ hm]; simp
        have wm:=cV (n:=(m:Int)) (by unfold I64; omega)
        have nm:cI (.int .i64 (m:Int))=some m:=pS
        simp only[go_sem,c0,g6,g6L,a1,a2,a2',ek,wm,nm,b1,b2,b2']
        refine⟨fun e=> ?_,fun e=>⟨(by unfold I64; omega),ih2 (by rw[hpk2]; exact decide_eq_true (by omega))⟩⟩
        exact⟨eG6▸sG2 _,by rw[hno2 (by rw[hpk2]; exact decide_eq_false (by omega))]⟩
    · refine aD aH aEO [1,2,5,6,7] L59_0.eq_1 ?_
      have i4:¬(x.people.length:Int)<x.people.length:=by omega
      simp only[go_sem,g6,g6L,i4,lpp]
      have hyes:flB d x=true:=by rw[flB,e1,e2,bZ.2 f2]; rfl
      have:=ih (j+1,G++[some (.row [.int .i64 x.to,pv])]) ⟨by simp only; omega,sG.app,fun q hq hq2=>by
       simp only at hq
       rcases Nat.lt_or_ge q j with h1 | h1
       · exact f1 q h1 hq2
       · obtain rfl:q=j:=by omega
         rw[←ex]; exact hyes⟩ (by simp only; omega)
      exact⟨(by unfold I64; omega),by simpa using this⟩
 · have i3:¬(j:Int)<u.length:=by omega
   obtain rfl:j=u.length:=by omega
   simp only[go_sem,lu,i3,gG,bG,aY,l3]
   refine⟨s0.trans sG,?_⟩
   have h1:u.all (flB d)=true:=List.all_eq_true.2 fun y hy=>by
    obtain⟨i,hi,rfl⟩:=List.getElem_of_mem hy
    exact f1 i hi hi
   rw[fI,h1,Bool.true_and]
   have:((u.length:Int)==d.planes.length)=decide (u.length=d.planes.length):=by
    rw[Bool.eq_iff_iff]; simp; omega
   rw[this]
theorem aDx(l:List Int)(v fv:AV)(p:Nat→Bool)(hv:SlI w0 h v l)(hn:l.length<1000000)(hf:∀(j:Nat) (hj:j<l.length) L,bS Tryz.prog w0 fv [.int .i64 j,.int .i64 l[j]] (h++L) (.bool (p j)) (h++L)) :
 aQ Tryz.prog w0 102 [v,fv] h (.bool ((List.range l.length).all p)) h:=by
 have:=aEw (l.map fun z=>[AV.int .i64 z]) v fv p hv (by intro r hr; obtain⟨z,_,rfl⟩:=List.mem_map.1 hr; rfl) (by simpa using hn) fun j x hx _ L=>by
  have hj:j<l.length:=by have:=aI hx; simpa using this
  have:x= .int .i64 l[j]:=by simpa[hj]using hx.symm
  subst this
  exact hf j hj L
 rwa [List.length_map]at this
section
variable {d:aS} {v:cS} {m:AV} {i ib:Nat}
theorem aCZ(j x:Int)(hd:h[i]? = some (some (.row (aY v++[m]))))(hR:jX w0 h d v)(hi:h[ib]? = some (some (.row [.ptr (.own i 0)]))):aQ Tryz.prog w0 112 [.int .i64 j,.int .i64 x,.ptr (.own ib 0)] h (.bool (bJ d.places.length x)) h:=by
 refine aF aH aIA aN8 aN7 (qE rfl) (by simp[AV.bdd,AV.bdds]) fun hb ha=>aM ?_
 have l1:=hR.lens.1
 have n1:=hR.l1
 have bi:=xL hi
 have bd:=xL hd
 simp only[aY,List.cons_append,List.nil_append]at bd
 simp (disch:=(unfold I64; omega)) only[go_sem,cV,mf112,bi,bd,l1]
 refine aC (mY _ _ _).v ?_
 simp only[go_sem]
 rfl
theorem aIU(j x:Int):aQ Tryz.prog w0 113 [.int .i64 j,.int .i64 x] h (.bool (inB x 0 5)) h:=by
 refine aF aH aIz aN6 aN5 (qE rfl) (by simp[AV.bdd,AV.bdds]) fun hb ha=>aM ?_
 simp only[go_sem,mf113]
 refine aC (mY _ _ _).v ?_
 simp only[go_sem]
theorem aAX(s:aK)(sv:StV)(hd:h[i]? = some (some (.row (aY v++[m]))))(hR:jX w0 h d v)(hS:StS w0 h s sv)(m1:s.planes.length<1000000)(m2:s.legs.length<1000000)(m3:s.people.length<1000000):aQ Tryz.prog w0 60 [.ptr (.own i 0),.agg (stC sv)] h (.bool (dV d s)) h:=by
 refine aF aH aLw mf60_b mf60_g (qE rfl) (by simp[AV.bdd,AV.bdds]) fun hb ha=>aM ?_
 obtain⟨l1,l2,l3,l4,l5⟩:=hR.lens
 obtain⟨k1,k2,k3⟩:=hS.lens
 obtain⟨q1,q2,q3⟩:=hS.ones
 have hil:=aI hd
 have bd:=xL hd
 have e1:∀a b:Nat,((a:Int)==b)=decide (a=b):=fun a b=>by rw[Bool.eq_iff_iff]; simp; omega
 simp only[aY,List.cons_append,List.nil_append]at bd
 simp only[go_sem,mf60,stC,q1,q2,q3,bd,k1,k2,k3,l3,l4,e1]
 refine⟨fun e2=>⟨fun e3=>⟨fun e4=> ?_,fun e4=>by simp[dV,e4]⟩,fun e3=>by simp[dV,e3]⟩,fun e2=>by simp[dV,e2]⟩
 obtain⟨G,eG⟩:∃G,G=h++[some (Blk.row [AV.ptr (Pl.own i 0)]),some (Blk.row [sv.pl,sv.le,sv.pe])]:=⟨_,rfl⟩
 have sG:aB h G:=eG▸aB.refl.app
 have gi:G[h.length]? = some (some (.row [.ptr (.own i 0)])):=by rw[eG]; simp
 have gs:G[h.length+1]? = some (some (.row [sv.pl,sv.le,sv.pe])):=by rw[eG]; simp
 have gsL:=xL gs
 rw[←eG]
 have hpl:∀L (l:List Int) (x:AV),SlI w0 h x l→l.length<1000000→aQ Tryz.prog w0 102 [x,AV.fn (Fn.func 112) [] [AV.ptr (Pl.own h.length 0)]] (G++L) (.bool (l.all (bJ d.places.length))) (G++L):=fun L l x hx hl=>by
  rw[←cT (x:=0)]
  refine aDx l x _ _ (Sl.sub hx (sG.trans aB.refl.app)) hl fun j hj L2=> ?_
  rw[aJ hj]
  exact(aCZ (i:=i) (v:=v) (m:=m) j l[j] ((sG.app.app).2 _ _ hd) (hR.sub (sG.app.app)) (by rw[List.append_assoc]; exact aA gi)).vc (first:=[]) (capt:=[_])
 have hpl0:=fun l x=>hpl [] l x
 simp only[List.append_nil]at hpl0
 refine aC (hpl0 s.planes sv.pl hS.planes.s m1).v ?_
 cases f1:s.planes.all (bJ d.places.length)with
 | false=>simp only[go_sem]; exact⟨by simp[dV,f1],_,eG⟩
 | true=>
 simp only[go_sem,gs,gsL]
 refine aC (hpl0 s.people sv.pe hS.people.s m3).v ?_
 cases f2:s.people.all (bJ d.places.length)with
 | false=>simp only[go_sem]; exact⟨by simp[dV,f2],_,eG⟩
 | true=>
 simp only[go_sem,gs,gsL]
 have leg:aQ Tryz.prog w0 102 [sv.le,AV.fn (Fn.func 113) [] []] G (.bool (s.legs.all fun x=>inB x 0 5)) G:=by
  rw[←cT (x:=0)]
  refine aDx s.legs sv.le _ _ (Sl.sub hS.legs.s sG) m2 fun j hj L2=> ?_
  rw[aJ hj]
  exact(aIU j s.legs[j]).vc (first:=[]) (capt:=[])
 refine aC leg.v ?_
 simp only[go_sem]
 exact⟨by simp[dV,e2,e3,e4,f1,f2],_,eG⟩
end
section
variable {d:aS} {v:cS} {m:AV} {i ib ix:Nat}
theorem aK0(x:aL)(pv:AV)(k:Nat)(hk:k<x.people.length)(hd:h[i]? = some (some (.row (aY v++[m]))))(hR:jX w0 h d v)(hi:h[ib]? = some (some (.row [.ptr (.own i 0)])))(hx:h[ix]? = some (some (.row [.int .i64 x.to,pv])))(hp:SlI w0 h pv x.people)(hl:x.people.length<1000000) :
 aQ Tryz.prog w0 116 [.int .i64 k,.int .i64 x.people[k],.ptr (.own ib 0),.ptr (.own ix 0)] h (.bool (pkB d.people.length x.people k)) h:=by
 refine aF aH aIw aN0 aNZ (qE rfl) (by simp[AV.bdd,AV.bdds]) fun hb ha=>aM ?_
 obtain⟨l1,l2,l3,l4,l5⟩:=hR.lens
 have n4:=hR.l4
 have bi:=xL hi
 have bx:=xL hx
 have bd:=xL hd
 simp only[aY,List.cons_append,List.nil_append]at bd
 have bi':=bi []
 have bx':=bx []
 have bd':=bd []
 simp only[List.append_nil]at bi' bx' bd'
 have hpk:pkB d.people.length x.people k=(inB x.people[k] 0 ((d.people.length:Int) - 1)&&(decide (k=0)||decide (x.people.getD (k - 1) 0<x.people[k]))):=by rw[pkB,aJ hk]
 rw[hpk]
 simp (disch:=(unfold I64; omega)) only[go_sem,cV,mf116,bi,bd,bx,l4]
 refine aC (mY _ _ _).v ?_
 cases e1:inB x.people[k] 0 ((d.people.length:Int) - 1)with
 | false=>simp only[go_sem]; rfl
 | true=>
 rcases k with _ | k
 · simp only[go_sem]
   exact⟨fun e=>absurd rfl e,fun _=>rfl⟩
 have hk2:k<x.people.length:=by omega
 obtain⟨a,a1,a2,a3⟩:=SlI.at_ hp hk2
 have ek:(((k+1:Nat):Int) - 1)=(k:Int):=by omega
 have c0:(((k+1:Nat):Int)==0)=false:=by simp; omega
 have wm:=cV (n:=(k:Int)) (by unfold I64; omega)
 have nm:cI (.int .i64 (k:Int))=some k:=pS
 simp only[go_sem,bi',bd',bx',bi,bd,bx,ek,wm,nm,a1,a2,a3,c0]
 rw[Nat.add_sub_cancel,aJ hk2,Bool.false_or]
theorem aBF(j:Nat)(x:aL)(pv:AV)(hd:h[i]? = some (some (.row (aY v++[m]))))(hR:jX w0 h d v)(hi:h[ib]? = some (some (.row [.ptr (.own i 0)])))(hp:SlI w0 h pv x.people)(hl:x.people.length<1000000) :
 aQ Tryz.prog w0 115 [.int .i64 j,.agg [.int .i64 x.to,pv],.ptr (.own ib 0)] h (.bool (flB d x)) h:=by
 refine aF aH aIx aN2 aN1 (qE rfl) (by simp[AV.bdd,AV.bdds]) fun hb ha=>aM ?_
 obtain⟨l1,l2,l3,l4,l5⟩:=hR.lens
 have n1:=hR.l1
 have k1:=(SlI.use hp).1
 have o1:=hp.one.1
 obtain⟨G,eG⟩:∃G,G=h++[some (Blk.row [.int .i64 x.to,pv])]:=⟨_,rfl⟩
 have sG:aB h G:=eG▸aB.refl.app
 have gx:G[h.length]? = some (some (.row [.int .i64 x.to,pv])):=by rw[eG]; simp
 have gi:=sG.2 _ _ hi
 have gd:=sG.2 _ _ hd
 simp only[aY,List.cons_append,List.nil_append]at gd
 have bi:=xL gi
 have bx:=xL gx
 have bd:=xL gd
 simp only[go_sem,mf115,o1]
 rw[←eG]
 refine aC (aDx x.people pv (.fn (.func 116) [] [.ptr (.own ib 0),.ptr (.own h.length 0)]) (pkB d.people.length x.people) (Sl.sub hp sG) hl fun k hk L=> ?_).v ?_
 · exact(aK0 (i:=i) (v:=v) (m:=m) x pv k hk (aA gd) (hR.sub sG.app) (bi L) (bx L) (Sl.sub hp sG.app) hl).vc (first:=[]) (capt:=[_,_])
 simp (disch:=(unfold I64; omega)) only[go_sem,cV,gi,gd,gx,bi,bx,bd,l1]
 refine aC (mY _ _ _).v ?_
 cases f1:inB x.to (-1) ((d.places.length:Int) - 1)with
 | false=>simp only[go_sem]; exact⟨by simp[flB,f1],_,eG⟩
 | true=>
 cases f2:(List.range x.people.length).all (pkB d.people.length x.people)with
 | false=>simp only[go_sem]; exact⟨by simp only[flB,f1,f2,Bool.and_false],_,eG⟩
 | true=>
 have c5:∀a:Nat,((a:Int)==0)=decide (a=0):=fun a=>by rw[Bool.eq_iff_iff]; simp
 have hf:flB d x=(decide (0≤x.to)||decide (x.people.length=0)):=by rw[flB,f1,f2,Bool.true_and,Bool.and_true]
 rw[hf]
 by_cases t0:0≤x.to
 · simp only[go_sem,gx,bx,t0,k1,c5]
   exact⟨rfl,_,eG⟩
 · simp only[go_sem,gx,bx,t0,k1,c5]
   exact⟨rfl,_,eG⟩
theorem aGJ(u:List aL)(uv:AV)(hd:h[i]? = some (some (.row (aY v++[m]))))(hR:jX w0 h d v)(hU:UnV w0 h uv u)(hn:u.length<1000000)(hp:∀x∈u,x.people.length<1000000):aQ Tryz.prog w0 62 [.ptr (.own i 0),uv] h (.bool (fI d u)) h:=by
 refine aF aH aLu mf62_b mf62_g (qE rfl) (by simp[AV.bdd,AV.bdds]) fun hb ha=>aM ?_
 obtain⟨l1,l2,l3,l4,l5⟩:=hR.lens
 have lu:=NS.len hU
 have bd:=xL hd
 simp only[aY,List.cons_append,List.nil_append]at bd
 have hil:=aI hd
 have c5:∀a b:Nat,((a:Int)==b)=decide (a=b):=fun a b=>by rw[Bool.eq_iff_iff]; simp; omega
 simp only[go_sem,mf62,bd,l3,lu,c5]
 refine⟨fun e1=> ?_,fun e1=>by simp only[fI,decide_eq_false e1,Bool.and_false]⟩
 obtain⟨rows,r1,r2,r3⟩:=hU
 have hrow:∀j c,rows[j]? = some c→∃(hj:j<u.length) (pv:AV),c=[.int .i64 u[j].to,pv]∧SlI w0 h pv u[j].people:=fun j c hc=>by
  have hj:j<u.length:=by have:=aI hc; omega
  obtain⟨pv,rfl,p3⟩:=r3 j _ c (qA hj) hc
  exact⟨hj,pv,rfl,p3⟩
 have key:(List.range rows.length).all (fun j=>flB d (u.getD j ⟨-1,[]⟩))=u.all (flB d):=by rw[r1,cT]
 have hu:fI d u=u.all (flB d):=by simp only[fI,decide_eq_true e1,Bool.and_true]
 rw[hu,←key]
 refine aC (aJR rows uv (.fn (.func 115) [] [.ptr (.own h.length 0)]) (fun j=>flB d (u.getD j ⟨-1,[]⟩)) (r2.sub aB.refl.app) ?_ (by omega) fun j c hc _ L=> ?_).v ?_
 · intro c hc
   obtain⟨j,hj,rfl⟩:=List.getElem_of_mem hc
   obtain⟨_,pv,e,p3⟩:=hrow j _ (qA hj)
   rw[e]
   simp only[List.all_cons,List.all_nil,p3.one.1,Bool.and_true]; rfl
 · obtain⟨hj,pv,rfl,p3⟩:=hrow j c hc
   rw[aJ hj]
   exact(aBF (i:=i) (v:=v) (m:=m) j u[j] pv (by rw[List.append_assoc]; exact aA hd) (hR.sub aB.refl.app.app) (aA (by simp)) (Sl.sub p3 aB.refl.app.app) (hp _ (qG hj))).vc (first:=[]) (capt:=[_])
 simp only[go_sem]
end
theorem yQ{d:aS}{s:aK}(e:dV d s=true):mJ d s∧∀x∈s.people,0≤x∧x<d.places.length:=by
 simp only[dV,Bool.and_eq_true,decide_eq_true_eq,List.all_eq_true]at e
 obtain⟨e1,e2,e3,e4,e5,e6⟩:=e
 refine⟨⟨e1,e2,e3,fun x hx=>gV.1 (e4 x hx),fun x hx=> ?_⟩,fun x hx=>gV.1 (e5 x hx)⟩
 have:=e6 x hx
 simp only[inB,Bool.and_eq_true,decide_eq_true_eq]at this
 omega
theorem aEr{d:aS}{v:cS}{m:AV}{i:Nat}(e:eL d=true)(hd:h[i]? = some (some (.row (aY v++[m]))))(hR:jX w0 h d v):pZ w0 h d v m i:=by
 have dg:=oU e
 exact⟨hd,hR,dg.pe,dg.pn,fun p hp=>by have:=(dg.people p hp).2.2.1; omega⟩
theorem aJo(s:aK)(sv:StV)(hs:StS w0 h s sv)(m1:s.planes.length<1000000)(m2:s.legs.length<1000000)(m3:s.people.length<1000000):ACall Tryz.prog w0 64 [.agg (stC sv)] h fun y h'=>aB h h'∧∃nv,y= .agg (stC nv)∧yH w0 h' h.length s nv:=by
 refine aR aH aLs mf64_b mf64_g (qE rfl) fun hb ha=>aM ?_
 obtain⟨o1,o2,o3⟩:=hs.ones
 simp only[go_sem,mf64,stC,o1,o2,o3]
 obtain⟨G,eG⟩:∃G,G=h++[some (Blk.row [sv.pl,sv.le,sv.pe]),some (Blk.row [AV.nilS,AV.nilS,AV.nilS])]:=⟨_,rfl⟩
 have sG:aB h G:=eG▸aB.refl.app
 have hk:G[h.length]? = some (some (.row [sv.pl,sv.le,sv.pe])):=by rw[eG]; simp
 have hn:G[h.length+1]? = some (some (.row [.nilS,.nilS,.nilS])):=by rw[eG]; simp
 have hkL:=xL hk
 rw[←eG]
 refine iB aH [0,1,3,4,6,7,2,5,8,9,10] [o_ 3 (.addr (.t 1) 0),o_ 4 (l_ 3),o_ 6 (.addr (.t 1) 1),o_ 7 (l_ 6),o_ 9 (.addr (.t 1) 2),o_ 10 (l_ 9),.call (some 5) none (f_ 111) [(.t 4)]] [([(3,o_ 7 (l_ 6)),(5,o_ 10 (l_ 9))],[.call (some 8) none (f_ 111) [(.t 7)]]),([(5,o_ 10 (l_ 9))],[.call (some 11) none (f_ 111) [(.t 10)],o_ 12 (.build [.nilS,.nilS,.nilS] [(0,1,(.t 5)),(1,1,(.t 8)),(2,1,(.t 11))]),.op none none (.store (.t 2) (.t 12) 3)])] rfl rfl (by kernel_rfl) ?_
 simp only[go_sem,hk,hkL]
 refine aP (ACall.vc (first:=[]) (args:=[_]) (nU s.planes sv.pl (hs.planes.sub sG) m1)) ?_
 rintro y1 H1 ⟨s1,w1⟩
 have k1:=s1.2 _ _ hk
 have k1L:=xL k1
 simp only[go_sem,k1,k1L]
 refine aP (ACall.vc (first:=[]) (args:=[_]) (nU s.legs sv.le (hs.legs.sub (sG.trans s1)) m2)) ?_
 rintro y2 H2 ⟨s2,w2⟩
 have k2:=s2.2 _ _ k1
 have k2L:=xL k2
 simp only[go_sem,k2,k2L]
 refine aP (ACall.vc (first:=[]) (args:=[_]) (nU s.people sv.pe (hs.people.sub (sG.trans (s1.trans s2))) m3)) ?_
 rintro y3 H3 ⟨s3,w3⟩
 have c1:=w1.o.s.one
 have c2:=w2.o.s.one
 have c3:=w3.o.s.one
 have k3:=(s1.trans (s2.trans s3)).2 _ _ hn
 have k3L:=xL k3
 have l3:=aI k3
 have z1:(H3.set (h.length+1) (some (Blk.row [y1,y2,y3])))[h.length+1]? = some (some (Blk.row [y1,y2,y3])):=qF l3
 simp only[go_sem,c1.1,c1.2,c2.1,c2.2,c3.1,c3.2,k3,k3L,l3,z1]
 have sH:aB h (H3.set (h.length+1) (some (Blk.row [y1,y2,y3]))):=(sG.trans (s1.trans (s2.trans s3))).setR (by omega)
 have gl:G.length=h.length+2:=by rw[eG]; simp
 obtain⟨d1,i1,a1⟩:=w1.i
 obtain⟨d2,i2,a2⟩:=w2.i
 obtain⟨d3,i3,a3⟩:=w3.i
 have n1:=s1.1
 have n2:=s2.1
 have n3:=sG.1
 exact⟨sH,⟨_,_,_⟩,rfl,((a1.sub (s2.trans s3)).set (c':=[y1,y2,y3]) k3 rfl fun e=>by have:=i1 e; omega).toL (by omega),((a2.sub s3).set (c':=[y1,y2,y3]) k3 rfl fun e=>by have:=i2 e; omega).toL (by omega),(a3.set (c':=[y1,y2,y3]) k3 rfl fun e=>by have:=i3 e; omega).toL (by omega)⟩
theorem kE.set{H:Heap}{N k:Nat}{y:AV}{l:List Int}{c c':List AV}(a:kE w0 H N y l)(hk:H[k]? = some (some (.row c)))(hc:c'.length=c.length)(hN:k<N):kE w0 (H.set k (some (.row c'))) N y l:=by
 obtain⟨id,i1,a1⟩:=a.i
 exact(a1.set (c':=c') hk hc fun e=>by have:=i1 e; omega).toL (Nat.le_refl _)
theorem yH.set{H:Heap}{N k:Nat}{s:aK}{sv:StV}{c c':List AV}(a:yH w0 H N s sv)(hk:H[k]? = some (some (.row c)))(hc:c'.length=c.length)(hN:k<N):yH w0 (H.set k (some (.row c'))) N s sv:=⟨a.p.set hk hc hN,a.l.set hk hc hN,a.e.set hk hc hN⟩
theorem yH.here{H:Heap}{N:Nat}{s:aK}{sv:StV}(a:yH w0 H N s sv):StS w0 H s sv:=⟨a.p.o,a.l.o,a.e.o⟩
theorem Cost_c(d:aS)(v:cS)(s:aK)(sv:StV)(hR:jX w0 h d v)(hS:StS w0 h s sv)(m1:s.planes.length<1000000)(m2:s.legs.length<1000000)(m3:s.people.length<1000000) :
 aQ Tryz.prog w0 22 [.agg (aY v),.agg (stC sv)] h (.tup [.int .i64 (if(eL d&&dV d s)=true then xC d s else 0),.int .i64 (if(eL d&&dV d s)=true then 0 else 2)]) h:=by
 refine aF aH aLX mf22_b mf22_g (qE rfl) (by simp[AV.bdd,AV.bdds]) fun hb ha=>aM ?_
 obtain⟨o1,o2,o3,o4,o5⟩:=hR.ones
 obtain⟨q1,q2,q3⟩:=hS.ones
 simp only[go_sem,mf22,aY,stC,o1,o2,o3,o4,o5,q1,q2,q3]
 obtain⟨G,eG⟩:∃G,G=h++[some (Blk.row [v.pl,v.ln,v.pn,v.pe,v.we]),some (Blk.row [sv.pl,sv.le,sv.pe]),some (Blk.row [v.pl,v.ln,v.pn,v.pe,v.we,AV.nilM])]:=⟨_,rfl⟩
 have sG:aB h G:=eG▸aB.refl.app
 have g1:G[h.length+1]? = some (some (.row [sv.pl,sv.le,sv.pe])):=by rw[eG]; simp
 have g2:G[h.length+2]? = some (some (.row (aY v++[AV.nilM]))):=by rw[eG]; simp[aY]
 have b1:=xL g1
 rw[←eG]
 refine aC (uF d v (hR.sub sG)).v ?_
 cases e1:eL d with
 | false=>simp only[go_sem]; exact⟨rfl,_,eG⟩
 | true=>
 simp only[go_sem,g1,b1,q1,q2,q3]
 refine aC (aAX (m:= .nilM) (i:=h.length+2) s sv g2 (hR.sub sG) (hS.sub sG) m1 m2 m3).v ?_
 cases e2:dV d s with
 | false=>simp only[go_sem]; exact⟨rfl,_,eG⟩
 | true=>
 have dg:=oU e1
 obtain⟨sk,pat⟩:=yQ e2
 simp only[go_sem,g1,b1,q1,q2,q3]
 refine aC (aJn d v .nilM (h.length+2) s sv (aEr e1 g2 (hR.sub sG)) (hS.sub sG) sk (aBZ dg s) (zE dg s) pat).v ?_
 simp only[go_sem]
 exact⟨rfl,_,eG⟩
def oL(d:aS)(s:aK)(op:Int)(u:List aL):Bool:=eL d&&(dV d s&&(pB d.places.length op&&fI d u))
def aBE(d:aS)(s:aK)(op:Int)(u:List aL):aK×Int×Int×Int:=if oL d s op u=true then((dZ d s op u).1,(dZ d s op u).2.1,(dZ d s op u).2.2,0)else(⟨[],[],[]⟩,0,0,2)
def FlyR(w0:World)(h:Heap)(d:aS)(s:aK)(op:Int)(u:List aL)(y:AV)(h':Heap):Prop:=
 aB h h'∧∃nv,y= .tup [.agg (stC nv),.int .i64 (aBE d s op u).2.1,.int .i64 (aBE d s op u).2.2.1,.int .i64 (aBE d s op u).2.2.2]∧StS w0 h' (aBE d s op u).1 nv∧(oL d s op u=true→yH w0 h' h.length (aBE d s op u).1 nv)
theorem aI9(to:Int)(p:List Int):∀l:List Int,(p.foldl (fun l n=>l.set n.toNat to) l).length=l.length:=by
 induction p with
 | nil=>intro l; rfl
 | cons a p ih=>intro l; rw[List.foldl_cons,ih,List.length_set]
theorem aFL(n:aK)(i:Nat)(x:aL):(mX n i x).planes.length=n.planes.length∧(mX n i x).legs.length=n.legs.length∧(mX n i x).people.length=n.people.length:=
 ⟨List.length_set,List.length_set,aI9 _ _ _⟩
theorem wX{d:aS}{s:aK}{op:Int}:∀(u:List aL) (i:Nat) (n:aK) (g:List Bool) (n':aK),mO d s op u i n g= .ok n'→n'.planes.length=n.planes.length∧n'.legs.length=n.legs.length∧n'.people.length=n.people.length
 | [],i,n,g,n',e=>by cases e; exact⟨rfl,rfl,rfl⟩
 | x::u,i,n,g,n',e=>by
  rw[mO]at e
  split at e
  · exact wX u _ n g n' e
  · split at e
    · cases e
    · obtain⟨a,b,c⟩:=wX u _ _ _ n' e
      obtain⟨a',b',c'⟩:=aFL n i x
      exact⟨a.trans a',b.trans b',c.trans c'⟩
theorem aJc(d:aS)(s:aK)(op:Int)(u:List aL):(dZ d s op u).1.planes.length=s.planes.length∧(dZ d s op u).1.legs.length=s.legs.length∧(dZ d s op u).1.people.length=s.people.length:=by
 rw[dZ]
 cases e:mO d s op u 0 s [false,false,false,false]with
 | error p=>exact⟨rfl,rfl,rfl⟩
 | ok n=>
  have:=wX u 0 s _ n e
  simp only
  split
  · exact⟨rfl,rfl,rfl⟩
  · exact this
theorem Fly_c(d:aS)(v:cS)(s:aK)(sv:StV)(op:Int)(u:List aL)(uv:AV)(hR:jX w0 h d v)(hS:StS w0 h s sv)(hU:UnV w0 h uv u)(m1:s.planes.length<1000000)(m2:s.legs.length<1000000)(m3:s.people.length<1000000)(hn:u.length<1000000)(hp:∀x∈u,x.people.length<1000000) :
 ACall Tryz.prog w0 19 [.agg (aY v),.agg (stC sv),.int .i64 op,uv] h (FlyR w0 h d s op u):=by
 refine aR aH aL0 mf19_b mf19_g (qE rfl) fun hb ha=>aM ?_
 obtain⟨o1,o2,o3,o4,o5⟩:=hR.ones
 obtain⟨q1,q2,q3⟩:=hS.ones
 obtain⟨l1,l2,l3,l4,l5⟩:=hR.lens
 simp only[go_sem,mf19,aY,stC,o1,o2,o3,o4,o5,q1,q2,q3]
 obtain⟨G,eG⟩:∃G,G=h++[some (Blk.row [v.pl,v.ln,v.pn,v.pe,v.we]),some (Blk.row [sv.pl,sv.le,sv.pe]),some (Blk.row [AV.nilS,AV.nilS,AV.nilS]),some (Blk.row [v.pl,v.ln,v.pn,v.pe,v.we,AV.nilM])]:=⟨_,rfl⟩
 have sG:aB h G:=eG▸aB.refl.app
 have g0:G[h.length]? = some (some (.row [v.pl,v.ln,v.pn,v.pe,v.we])):=by rw[eG]; simp
 have g1:G[h.length+1]? = some (some (.row [sv.pl,sv.le,sv.pe])):=by rw[eG]; simp
 have g2:G[h.length+2]? = some (some (.row [.nilS,.nilS,.nilS])):=by rw[eG]; simp
 have g3:G[h.length+3]? = some (some (.row (aY v++[AV.nilM]))):=by rw[eG]; simp[aY]
 have b0:=xL g0
 have b1:=xL g1
 have b2:=xL g2
 have hRG:=hR.sub sG
 have hSG:=hS.sub sG
 have hUG:=hU.sub sG
 have gl:G.length=h.length+4:=by rw[eG]; simp
 rw[←eG]
 refine aC (uF d v hRG).v ?_
 have hno:∀(x:Option Blk),oL d s op u=false→FlyR w0 h d s op u (.tup [.agg [.nilS,.nilS,.nilS],.int .i64 0,.int .i64 0,.int .i64 2]) (G.set (h.length+2) x):=fun x e=>by
  refine⟨sG.setR (by omega),⟨.nilS,.nilS,.nilS⟩,?_⟩
  rw[aBE,e,if_neg (by simp)]
  refine⟨rfl,⟨?_,?_,?_⟩,fun e=>by cases e⟩<;>exact⟨.inl ⟨rfl,rfl⟩,fun _=>rfl⟩
 have z2:∀x,(G.set (h.length+2) (some (Blk.row x)))[h.length+2]? = some (some (Blk.row x)):=fun x=>qF (by omega)
 cases e1:eL d with
 | false=>simp only[go_sem,g2,b2,z2]; exact hno _ (by simp[oL,e1])
 | true=>
 simp only[go_sem,g1,b1,q1,q2,q3]
 refine aC (aAX (m:= .nilM) (i:=h.length+3) s sv g3 hRG hSG m1 m2 m3).v ?_
 cases e2:dV d s with
 | false=>simp only[go_sem,g2,b2,z2]; exact hno _ (by simp[oL,e2])
 | true=>
 have dg:=oU e1
 obtain⟨sk,pat⟩:=yQ e2
 have hs:=nD (n:=d.places.length) (by have:=dg.p1; omega)
 have hp50:(2^d.places.length:Nat)≤2^50:=Nat.pow_le_pow_right (by omega) (by have:=dg.p1; omega)
 have hp1:1≤2^d.places.length:=Nat.one_le_two_pow
 have wq:=cV (n:=((2^d.places.length:Nat):Int) - 1) (by unfold I64; omega)
 simp only[go_sem,g0,b0,l1,hs,wq]
 refine aC (mY _ _ _).v ?_
 rw[show inB op 0 (((2^d.places.length:Nat):Int) - 1)=pB d.places.length op from rfl]
 cases e3:pB d.places.length op with
 | false=>simp only[go_sem,g2,b2,z2]; exact hno _ (by simp[oL,e3])
 | true=>
 simp only[go_sem]
 refine aC (aGJ (m:= .nilM) (i:=h.length+3) u uv g3 hRG hUG hn hp).v ?_
 cases e4:fI d u with
 | false=>simp only[go_sem,g2,b2,z2]; exact hno _ (by simp[oL,e4])
 | true=>
 have uk:=(aDK e4).ok dg.pe
 have ho:0≤op∧op<2^50:=by
  simp only[pB,inB,Bool.and_eq_true,decide_eq_true_eq]at e3
  omega
 simp only[go_sem,g1,b1,q1,q2,q3]
 refine aP (ACall.vc (first:=[]) (args:=[_,_,_,_]) (fly_c d v .nilM (h.length+3) s sv op u uv (aEr e1 g3 hRG) hSG sk hUG uk ho.1 ho.2).toA) ?_
 rintro y H1 ⟨s1,nv,rfl,hnv,_⟩
 obtain⟨r1,r2,r3⟩:=hnv.ones
 simp only[go_sem,stC,r1,r2,r3]
 obtain⟨r,er⟩:∃r,r=(dZ d s op u).2.1:=⟨_,rfl⟩
 obtain⟨p,ep⟩:∃p,p=(dZ d s op u).2.2:=⟨_,rfl⟩
 rw[←er,←ep]
 obtain⟨H2,eH2⟩:∃H2,H2=H1++[some (Blk.row [nv.pl,nv.le,nv.pe]),some (Blk.row [AV.int .i64 r,AV.int .i64 p])]:=⟨_,rfl⟩
 have s2:aB H1 H2:=eH2▸aB.refl.app
 have h2l:H2.length=H1.length+2:=by rw[eH2]; simp
 have t1:H2[H1.length]? = some (some (.row [nv.pl,nv.le,nv.pe])):=by rw[eH2]; simp
 have t2:H2[H1.length+1]? = some (some (.row [.int .i64 r,.int .i64 p])):=by rw[eH2]; simp
 have t1L:=xL t1
 have t2L:=xL t2
 have t3:=(s1.trans s2).2 _ _ g2
 rw[←eH2]
 have lens:=aJc d s op u
 refine iB aH [0,2,3,4,5,1,6,7,8,9] [o_ 52 (.load (.t 13) (some 3)),o_ 54 (.addr (.t 14) 0),o_ 55 (l_ 54),o_ 56 (.addr (.t 14) 1),o_ 57 (l_ 56),.call (some 53) none (f_ 64) [(.t 52)]] [([(2,o_ 55 (l_ 54)),(4,o_ 57 (l_ 56))],[.op none none (.store (.t 8) (.t 53) 3)]),([(2,o_ 55 (l_ 54)),(4,o_ 57 (l_ 56))],[o_ 9 (m_ 55),o_ 10 (m_ 57),o_ 11 (.mov (i_ 0))])] rfl rfl (by kernel_rfl) ?_
 simp only[go_sem,t1,t1L,t2,t2L,r1,r2,r3]
 refine aP (ACall.vc (first:=[]) (args:=[_]) (aJo (dZ d s op u).1 nv (hnv.sub s2) (by omega) (by omega) (by omega))) ?_
 rintro y H3 ⟨s3,nw,rfl,ow⟩
 obtain⟨x1,x2,x3⟩:=ow.here.ones
 have v1:=s3.2 _ _ t1
 have v2:=s3.2 _ _ t2
 have v3:=s3.2 _ _ t3
 have v1L:=xL v1
 have v2L:=xL v2
 have v3L:=xL v3
 have z3:∀x,(H3.set (h.length+2) (some (Blk.row x)))[h.length+2]? = some (some (Blk.row x)):=fun x=>qF (aI v3)
 have n1:=s1.1
 have z4:∀x,(H3.set (h.length+2) x)[H1.length+1]? = some (some (.row [.int .i64 r,.int .i64 p])):=fun x=>by rw[qB (by omega)]; exact v2
 simp only[go_sem,v1,v1L,v2,v2L,v3,v3L,x1,x2,x3,stC,z3,z4]
 have sub3:aB h (H3.set (h.length+2) (some (Blk.row [nw.pl,nw.le,nw.pe]))):=(sG.trans (s1.trans (s2.trans s3))).setR (by omega)
 have n2:=s2.1
 have hok:oL d s op u=true:=by simp[oL,e1,e2,e3,e4]
 refine⟨sub3,nw,?_⟩
 rw[aBE,hok,if_pos rfl,←er,←ep]
 have ow2:=ow.set v3 (c':=[nw.pl,nw.le,nw.pe]) rfl (by omega)
 exact⟨rfl,ow2.here,fun _=>⟨ow2.p.less (by omega),ow2.l.less (by omega),ow2.e.less (by omega)⟩⟩
theorem StS.nil{H:Heap}:StS w0 H ⟨[],[],[]⟩ ⟨.nilS,.nilS,.nilS⟩:=⟨⟨.inl ⟨rfl,rfl⟩,fun _=>rfl⟩,⟨.inl ⟨rfl,rfl⟩,fun _=>rfl⟩,⟨.inl ⟨rfl,rfl⟩,fun _=>rfl⟩⟩
section
variable {d:aS} {v:cS} {pol:fR} {pv:AV}
theorem aB6.row(a:aB6 w0 h pv pol){j:Nat}(hj:j<pol.length):∃(p:Pl) (x:AV),cN 1 pv (some j)=some (.ptr p)∧(∀L,rd w0 (h++L) p=some x)∧rd w0 h p=some x∧NS w0 h 1 (UnsR w0 h) x pol[j]:=by
 obtain⟨p,c,i,r,x,rfl,s⟩:=NS.at_ a hj
 have t:∀L,rd w0 (h++L) p=some x:=fun L=>aFG (r L) rfl
 have t':=t []
 rw[List.append_nil]at t'
 exact⟨p,x,i,t,t',s⟩
theorem aGI{x:AV}{l:List (List aL)}(a:NS w0 h 1 (UnsR w0 h) x l){j:Nat}(hj:j<l.length):∃(p:Pl) (y:AV),cN 1 x (some j)=some (.ptr p)∧(∀L,rd w0 (h++L) p=some y)∧rd w0 h p=some y∧UnV w0 h y l[j]:=by
 obtain⟨p,c,i,r,y,rfl,s⟩:=NS.at_ a hj
 have t:∀L,rd w0 (h++L) p=some y:=fun L=>aFG (r L) rfl
 have t':=t []
 rw[List.append_nil]at t'
 exact⟨p,y,i,t,t',s⟩
def aAl(d:aS)(pol:fR):Bool:=pol.all (fun r=>decide (r.length=aO d)&&r.all (fI d))&&decide (pol.length=d.weathers.length)
theorem aFD(hR:jX w0 h d v)(hP:aB6 w0 h pv pol)(hw:d.weathers≠[])(hs:aO d<1000000)(hl:pol.length<1000000)(hr:∀r∈pol,r.length<1000000∧∀u∈r,u.length<1000000∧∀x∈u,x.people.length<1000000):aQ Tryz.prog w0 17 [.agg (aY v),pv] h (.bool (aAl d pol)) h:=by
 refine aF aH aMk mf17_b mf17_g (qE rfl) (by simp[AV.bdd,AV.bdds]) fun hb ha=>aM ?_
 obtain⟨o1,o2,o3,o4,o5⟩:=hR.ones
 obtain⟨l1,l2,l3,l4,l5⟩:=hR.lens
 have lp:=NS.len hP
 obtain⟨G,eG⟩:∃G,G=h++[some (Blk.row [v.pl,v.ln,v.pn,v.pe,v.we])]:=⟨_,rfl⟩
 have sG:aB h G:=eG▸aB.refl.app
 have g0:G[h.length]? = some (some (.row [v.pl,v.ln,v.pn,v.pe,v.we])):=by rw[eG]; simp
 have b0:=xL g0
 have hRG:=hR.sub sG
 have hPG:=hP.sub sG
 simp only[go_sem,mf17,aY,o1,o2,o3,o4,o5]
 rw[←eG]
 refine dH (fun j=>[(1,pv),(2,.ptr (.own h.length 0)),(5,.int .i64 j)]) (fun j=>∀hj:j<pol.length,pol[j].length=aO d∧pol[j].all (fI d)=true) pol.length rfl (fun j hj hi ih=> ?_) (fun es=> ?_)
 · refine aD aH aE9 [1,2,5] L17_1.eq_1 ?_
   have i3:(j:Int)<pol.length:=by omega
   obtain⟨p,x,i,t,t',sx'⟩:=hPG.row hj
   have lx:=NS.len sx'
   have hrj:=hr _ (qG hj)
   have hno:(decide (pol[j].length=aO d)&&pol[j].all (fI d))=false→aAl d pol=false:=fun e=>by
    have:pol.all (fun r=>decide (r.length=aO d)&&r.all (fI d))=false:=List.all_eq_false.2 ⟨_,qG hj,by simp only[e]; exact Bool.false_ne_true⟩
    simp only[aAl,this,Bool.false_and]
   simp only[go_sem,lp,i3]
   refine iB aH [0,1,2,3,4,5,6,7] [o_ 13 (m_ 1),o_ 14 (m_ 5),o_ 15 (.idxs 1 (.t 13) (.t 14)),o_ 16 (l_ 15),o_ 17 (.len (.t 16)),o_ 18 (.load (.t 2) (some 5)),.call (some 19) none (f_ 58) [(.t 18)]] [([(3,o_ 16 (l_ 15))],[o_ 20 (.bin .neq (.t 17) (.t 19))])] rfl rfl (by kernel_rfl) ?_
   simp only[go_sem,lp,i3,i,t,t',lx,g0,b0,o1,o2,o3,o4,o5]
   refine aC (aHc d v hRG.toDayS hw).v ?_
   simp only[go_sem,i,t,t',lx]
   refine⟨fun e=>⟨by rw[hno (by rw[decide_eq_false (by omega),Bool.false_and])],_,eG⟩,fun e=> ?_⟩
   refine dH (fun q=>[(1,pv),(2,.ptr (.own h.length 0)),(5,.int .i64 j),(6,.int .i64 q)]) (fun q=>∀hq:q<pol[j].length,fI d pol[j][q]=true) pol[j].length rfl (fun q hq hi2 ih2=> ?_) (fun es2=> ?_)
   · refine aD aH aFa [1,2,5,6] L17_0.eq_1 ?_
     have i4:(q:Int)<pol[j].length:=by omega
     obtain⟨p2,y,i2,t2,t2',sy⟩:=aGI sx' hq
     have huq:=hrj.2 _ (qG hq)
     simp only[go_sem,i4,i,t,t',lx,i2,t2,t2',g0,b0,o1,o2,o3,o4,o5]
     refine aC (aKQ d v pol[j][q] y hRG sy huq.1 huq.2).v ?_
     cases e1:fI d pol[j][q]with
     | false=>
      simp only[go_sem]
      exact⟨by rw[hno (by rw[List.all_eq_false.2 ⟨_,qG hq,by simp[e1]⟩,Bool.and_false])],_,eG⟩
     | true=>
      simp only[go_sem]
      exact⟨(by unfold I64; omega),ih2 fun _=>e1⟩
   · refine aD aH aFa [1,2,5,6] L17_0.eq_1 ?_
     have i4:¬(pol[j].length:Int)<pol[j].length:=by omega
     simp only[go_sem,i4,i,t,t',lx]
     exact⟨(by unfold I64; omega),ih fun _=>⟨by omega,List.all_eq_true.2 fun u hu=>by
      obtain⟨q,hq,rfl⟩:=List.getElem_of_mem hu
      exact es2 q hq hq⟩⟩
 refine aD aH aE9 [1,2,5] L17_1.eq_1 ?_
 have x1:¬(pol.length:Int)<pol.length:=by omega
 have h5:((pol.length:Int)==d.weathers.length)=decide (pol.length=d.weathers.length):=by rw[Bool.eq_iff_iff]; simp; omega
 simp only[go_sem,lp,x1,h5,g0,b0,l5]
 have:pol.all (fun r=>decide (r.length=aO d)&&r.all (fI d))=true:=List.all_eq_true.2 fun r hr=>by
  obtain⟨i,hi,rfl⟩:=List.getElem_of_mem hr
  obtain⟨a,b⟩:=es i hi hi
  rw[b,decide_eq_true a]; rfl
 exact⟨by rw[aAl,this,Bool.true_and],_,eG⟩
end
end Go.Proofs.Ab
namespace Go.Proofs.Ab
open Go Go.Proofs
variable {w0:World} {h:Heap}
structure PolOK(d:aS)(pol:fR):Prop where
 len:pol.length=d.weathers.length
 row:∀(w:Nat) (hw:w<pol.length),pol[w].length=aO d
 un:∀(w:Nat) (hw:w<pol.length) (t:Nat) (ht:t<pol[w].length),fI d pol[w][t]=true
theorem aKX{d:aS}{pol:fR}(e:aAl d pol=true):PolOK d pol:=by
 simp only[aAl,Bool.and_eq_true,decide_eq_true_eq,List.all_eq_true]at e
 exact⟨e.2,fun w hw=>(e.1 _ (qG hw)).1,fun w hw t ht=>(e.1 _ (qG hw)).2 _ (qG ht)⟩
theorem aJH{d:aS}(dg:iU d):StN d 0 (cF d):=⟨by simp[cF],by simp[cF],by simp[cF],fun x hx=>by
 simp only[cF,List.mem_map]at hx
 obtain⟨p,hp,rfl⟩:=hx
 exact(dg.planes p hp).1,fun x hx=>by
 simp only[cF]at hx
 rw[(List.mem_replicate.1 hx).2]; simp,fun x hx=>by
 simp only[cF,List.mem_map]at hx
 obtain⟨p,hp,rfl⟩:=hx
 exact(dg.people p hp).1⟩
theorem wAt_bd{d:aS}(dg:iU d){w t:Nat}(hw:w<d.weathers.length)(ht:t<aO d):∃h2:t<d.weathers[w].length,wAt d w t=d.weathers[w][t]∧0≤wAt d w t∧wAt d w t<2^5:=by
 obtain⟨h1,h2⟩:=dg.rows _ (qG hw)
 have h3:t<d.weathers[w].length:=by omega
 have e:wAt d w t=d.weathers[w][t]:=by rw[wAt,aJ hw,aJ h3]
 exact⟨h3,e,by rw[e]; exact h2 _ (qG h3)⟩
end Go.Proofs.Ab
namespace Go.Proofs.Ab
open Go Go.Proofs
section
variable {d:aS} {ws slot:Nat}
theorem bit_xa{a g i:Nat}:bF (a ^^^ (a &&& g)) i=(bF a i && !bF g i):=by
 rw[gA,gA,gA,Nat.testBit_xor,Nat.testBit_and]
 cases a.testBit i<;>cases g.testBit i<;>rfl
theorem sW:∀n,n≤d.weathers.length→(∀i,i<d.weathers.length→(bF (cR d ws slot n).1 i=true↔bF ws i=true∧∀w,w<n→bF ws w=true→wAt d i slot≠wAt d w slot)) ∧
 (∀g∈(cR d ws slot n).2,∃w,w<n∧bF ws w=true∧∀i,bF g i=true↔i<d.weathers.length∧bF ws i=true∧wAt d i slot=wAt d w slot) ∧
 (∀w,w<n→bF ws w=true→∃g∈(cR d ws slot n).2,bF g w=true) ∧
 (cR d ws slot n).2.Pairwise fun g g'=>∀i,¬(bF g i=true∧bF g' i=true)
 | 0,_=>⟨fun i _=>by simp[cR],fun g hg=>by simp[cR]at hg,fun w hw=>by omega,by simp[cR]⟩
 | n+1,hn=>by
  obtain⟨h1,h2,h3,h4⟩:=sW n (by omega)
  obtain⟨l,el⟩:∃l,l=(cR d ws slot n).1:=⟨_,rfl⟩
  obtain⟨gs,egs⟩:∃gs,gs=(cR d ws slot n).2:=⟨_,rfl⟩
  rw[←el]at h1
  rw[←egs]at h2 h3 h4
  rw[cR]
  simp only[←el,←egs]
  have hbit:∀i,bF (fM d l slot n d.weathers.length) i=true↔i<d.weathers.length∧bF l i=true∧wAt d i slot=wAt d n slot:=fun i=>by
   rw[rD]; simp[and_assoc]
  cases hb:bF l n with
  | false=>
   rw[if_neg (by simp),←el,←egs]
   have hn0:¬(bF ws n=true∧∀w,w<n→bF ws w=true→wAt d n slot≠wAt d w slot):=fun e=>by
    have:=(h1 n (by omega)).2 e; rw[hb]at this; cases this
   refine⟨fun i hi=> ?_,fun g hg=> ?_,fun w hw hb2=> ?_,h4⟩
   · rw[h1 i hi]
     refine⟨fun⟨a,b⟩=>⟨a,fun w hw hb2=> ?_⟩,fun⟨a,b⟩=>⟨a,fun w hw=>b w (by omega)⟩⟩
     rcases Nat.lt_or_ge w n with h | h
     · exact b w h hb2
     · obtain rfl:w=n:=by omega
       intro e
       refine hn0 ⟨hb2,fun w' hw' hb3=> ?_⟩
       rw[←e]; exact b w' hw' hb3
   · obtain⟨w,a,b⟩:=h2 g hg
     exact⟨w,by omega,b⟩
   · rcases Nat.lt_or_ge w n with h | h
     · exact h3 w h hb2
     · obtain rfl:w=n:=by omega
       have:∃w',w'<w∧bF ws w'=true∧wAt d w slot=wAt d w' slot:=by
        refine Classical.byContradiction fun hc=>hn0 ⟨hb2,fun w' hw' hb3 e=>hc ⟨w',hw',hb3,e⟩⟩
       obtain⟨w',a,b,c⟩:=this
       obtain⟨g,hg,hgw⟩:=h3 w' a b
       obtain⟨v,_,_,hv⟩:=h2 g hg
       refine⟨g,hg,(hv w).2 ⟨by omega,hb2,?_⟩⟩
       rw[c]; exact((hv w').1 hgw).2.2
  | true=>
   rw[if_pos rfl]
   have hn1:=(h1 n (by omega)).1 hb
   have key:∀i,i<d.weathers.length→bF ws i=true→wAt d i slot=wAt d n slot→bF l i=true:=fun i hi hb2 e=>(h1 i hi).2 ⟨hb2,fun w hw hb3=>by rw[e]; exact hn1.2 w hw hb3⟩
   refine⟨fun i hi=> ?_,fun g hg=> ?_,fun w hw hb2=> ?_,?_⟩
   · rw[bit_xa,Bool.and_eq_true,Bool.not_eq_true',Bool.eq_false_iff,ne_eq,hbit,h1 i hi]
     refine⟨fun⟨⟨a,b⟩,c⟩=>⟨a,fun w hw hb2=> ?_⟩,fun⟨a,b⟩=>⟨⟨a,fun w hw=>b w (by omega)⟩,fun c=>b n (by omega) hn1.1 c.2.2⟩⟩
     rcases Nat.lt_or_ge w n with h | h
     · exact b w h hb2
     · obtain rfl:w=n:=by omega
       exact fun e=>c ⟨hi,⟨a,b⟩,e⟩
   · rcases List.mem_append.1 hg with hg | hg
     · obtain⟨w,a,b⟩:=h2 g hg
       exact⟨w,by omega,b⟩
     · simp only[List.mem_singleton]at hg
       subst hg
       refine⟨n,by omega,hn1.1,fun i=> ?_⟩
       rw[hbit]
       exact⟨fun⟨a,b,c⟩=>⟨a,((h1 i a).1 b).1,c⟩,fun⟨a,b,c⟩=>⟨a,key i a b c,c⟩⟩
   · rcases Nat.lt_or_ge w n with h | h
     · obtain⟨g,hg,hgw⟩:=h3 w h hb2
       exact⟨g,List.mem_append.2 (.inl hg),hgw⟩
     · obtain rfl:w=n:=by omega
       exact⟨_,List.mem_append.2 (.inr (by simp)),(hbit w).2 ⟨by omega,hb,rfl⟩⟩
   · rw[List.pairwise_append]
     refine⟨h4,by simp,fun g hg g' hg' i hi=> ?_⟩
     simp only[List.mem_singleton]at hg'
     subst hg'
     obtain⟨w,a,b,hv⟩:=h2 g hg
     obtain⟨hi1,hi2⟩:=hi
     obtain⟨c1,c2,c3⟩:=(hbit i).1 hi2
     exact((h1 i c1).1 c2).2 w a b ((hv i).1 hi1).2.2
theorem kQ:(∀g∈eP d ws slot,∃w,w<d.weathers.length∧bF ws w=true∧∀i,bF g i=true↔i<d.weathers.length∧bF ws i=true∧wAt d i slot=wAt d w slot) ∧
 (∀w,w<d.weathers.length→bF ws w=true→∃g∈eP d ws slot,bF g w=true) ∧
 (eP d ws slot).Pairwise fun g g'=>∀i,¬(bF g i=true∧bF g' i=true):=(sW d.weathers.length (Nat.le_refl _)).2
theorem aB4{g:Nat}{u:List aL}{pol:fR}{w:Nat}(hw:w<pol.length):∀n,(lP g u pol n).getD w []=pol.getD w []++(if decide (w<n)&&bF g w then [u]else [])
 | 0=>by simp[lP]
 | n+1=>by
  have ih:=aB4 (g:=g) (u:=u) hw n
  have hl:=xN (g:=g) (u:=u) (pol:=pol) n
  rw[lP]
  by_cases e:w=n
  · subst e
    have h1:decide (w<w)=false:=decide_eq_false (by omega)
    have h2:decide (w<w+1)=true:=decide_eq_true (by omega)
    rw[h1,Bool.false_and,if_neg (by simp),List.append_nil]at ih
    rw[h2,Bool.true_and]
    split
    · rw[List.getD_eq_getElem?_getD,qF (by rw[hl]; exact hw),Option.getD_some,ih]
    · rw[ih,List.append_nil]
  · have h1:decide (w<n+1)=decide (w<n):=by rw[decide_eq_decide]; omega
    rw[h1,←ih]
    split
    · rw[List.getD_eq_getElem?_getD,qB (by omega),←List.getD_eq_getElem?_getD]
    · rfl
end
def lV(d:aS):Nat→Nat→aK→Nat→List (List aL)
 | 0,_,_,_=>[]
 | k+1,ws,s,w=>match(eP d ws (aO d - (k+1))).find? fun g=>bF g w with
  | none=>[]
  | some g=>match(fC d s (wAt d (gW g d.weathers.length) (aO d - (k+1)))).find? (sV d k (aO d - (k+1)) g s)with
   | none=>[]
   | some x=>x.1::lV d k g x.2 w
theorem aHm{d:aS}{w:Nat}:∀(k ws:Nat) (s:aK),bF ws w=false→lV d k ws s w=[]
 | 0,_,_,_=>rfl
 | k+1,ws,s,hb=>by
  have:(eP d ws (aO d - (k+1))).find? (fun g=>bF g w)=none:=by
   rw[List.find?_eq_none]
   intro g hg hbg
   obtain⟨v,_,_,hv⟩:=kQ.1 g hg
   have:=((hv w).1 hbg).2.1
   rw[hb]at this; cases this
  rw[lV,this]
theorem aBD{W w:Nat}{step:fR→Nat→fR}{F:Nat→List (List aL)}(hw:w<W)(hs:∀p g,p.length=W→(step p g).length=W∧(step p g).getD w []=p.getD w []++(if bF g w=true then F g else [])):∀(gs:List Nat) (p:fR),p.length=W→gs.Pairwise (fun g g'=>∀i,¬(bF g i=true∧bF g' i=true)) →
 (gs.foldl step p).length=W∧(gs.foldl step p).getD w []=p.getD w []++(match gs.find? (fun g=>bF g w)with | none=>[] | some g=>F g)
 | [],p,hp,_=>⟨hp,by simp⟩
 | g::gs,p,hp,hd=>by
  obtain⟨d1,d2⟩:=List.pairwise_cons.1 hd
  obtain⟨s1,s2⟩:=hs p g hp
  obtain⟨i1,i2⟩:=aBD hw hs gs (step p g) s1 d2
  rw[List.foldl_cons]
  refine⟨i1,?_⟩
  rw[i2,s2]
  cases hb:bF g w with
  | true=>
   have:gs.find? (fun g=>bF g w)=none:=by
    rw[List.find?_eq_none]
    intro g' hg' hb'
    exact d1 g' hg' w ⟨hb,hb'⟩
   rw[this,List.find?_cons,hb]
   simp
  | false=>
   rw[List.find?_cons,hb]
   simp
theorem zR{d:aS}:∀(k ws:Nat) (s:aK) (pol:fR),pol.length=d.weathers.length→(gZ d k ws s pol).length=pol.length∧∀w,w<pol.length→(gZ d k ws s pol).getD w []=pol.getD w []++lV d k ws s w
 | 0,ws,s,pol,_=>⟨rfl,fun w _=>by simp[gZ,lV]⟩
 | k+1,ws,s,pol,hp=>by
  obtain⟨_,_,h3⟩:=kQ (d:=d) (ws:=ws) (slot:=aO d - (k+1))
  rw[uG]
  have step:∀(g:Nat) (p:fR),p.length=d.weathers.length→(iC d k (aO d - (k+1)) s p g).length=p.length∧∀w,w<p.length→(iC d k (aO d - (k+1)) s p g).getD w []=p.getD w []++(if bF g w=true then(match(fC d s (wAt d (gW g d.weathers.length) (aO d - (k+1)))).find? (sV d k (aO d - (k+1)) g s)with
   | none=>[]
   | some x=>x.1::lV d k g x.2 w)else []):=fun g p hpl=>by
   rw[iC]
   cases(fC d s (wAt d (gW g d.weathers.length) (aO d - (k+1)))).find? (sV d k (aO d - (k+1)) g s)with
   | none=>exact⟨rfl,fun w _=>by simp[sD]⟩
   | some x=>
    have hal:=xN (g:=g) (u:=x.1) (pol:=p) d.weathers.length
    obtain⟨b1,b2⟩:=zR k g x.2 (lP g x.1 p d.weathers.length) (by rw[hal,hpl])
    refine⟨by simp only[sD]; rw[b1,hal],fun w hw=> ?_⟩
    simp only[sD]
    rw[b2 w (by rw[hal]; exact hw),aB4 hw,decide_eq_true (show w<d.weathers.length by omega),Bool.true_and]
    cases hb:bF g w with
    | true=>simp
    | false=>rw[aHm k g x.2 hb]; simp
  have hl:∀(gs:List Nat) (p:fR),p.length=d.weathers.length→(gs.foldl (iC d k (aO d - (k+1)) s) p).length=p.length:=fun gs=>by
   induction gs with
   | nil=>intro p _; rfl
   | cons g gs ih=>intro p hpl; rw[List.foldl_cons,ih _ (by rw[(step g p hpl).1,hpl]),(step g p hpl).1]
  refine⟨hl _ pol hp,fun w hw=> ?_⟩
  obtain⟨_,i2⟩:=aBD (W:=d.weathers.length) (w:=w) (step:=iC d k (aO d - (k+1)) s) (F:=fun g=>match(fC d s (wAt d (gW g d.weathers.length) (aO d - (k+1)))).find? (sV d k (aO d - (k+1)) g s)with
   | none=>[]
   | some x=>x.1::lV d k g x.2 w) (by omega) (fun p g hpl=>by
   obtain⟨a,b⟩:=step g p hpl
   exact⟨a.trans hpl,b w (by omega)⟩) (eP d ws (aO d - (k+1))) pol hp h3
  rw[i2,lV]
section
variable {d:aS}
def NC(d:aS)(s:aK):Prop:=(List.range d.places.length).any (fO d s)=false
theorem aHa{s:aK}{op:Int}{i:Nat}{x:aL}{g g':List Bool}{r:Int}(h:mV d s op i x g=(some r,g')):r≠1:=by
 simp only[mV]at h
 split at h
 · cases h; omega
 · split at h
   · cases h; omega
   · split at h
     · cases h; omega
     · split at h
       · cases h; omega
       · split at h
         · cases h; omega
         · cases h
theorem aAw{s:aK}{op:Int}:∀(u:List aL) (i:Nat) (n:aK) (g:List Bool) (r p:Int),mO d s op u i n g= .error (r,p)→r≠1
 | [],i,n,g,r,p,h=>by cases h
 | x::u,i,n,g,r,p,h=>by
  rw[mO]at h
  split at h
  · exact aAw u _ n g r p h
  · split at h
    · rename_i r' g' e
      cases h
      exact aHa e
    · exact aAw u _ _ _ r p h
theorem aJb{s:aK}{op:Int}{u:List aL}(h:(dZ d s op u).2.1=1):(dZ d s op u).2.2= -1∧NC d (dZ d s op u).1:=by
 rw[dZ]at h ⊢
 cases e:mO d s op u 0 s [false,false,false,false]with
 | error p=>
  rw[e]at h
  exact absurd h (aAw _ _ _ _ _ _ e)
 | ok n=>
  rw[e]at h
  simp only at h ⊢
  cases e2:(List.range d.places.length).any (fO d n)with
  | true=>rw[e2,if_pos rfl]at h; simp at h
  | false=>rw[if_neg (by simp)]; exact⟨rfl,e2⟩
theorem zJ{s:aK}{op:Int}:∀(u:List aL) (i:Nat) (n:aK) (g:List Bool),(∀x∈u,x.to<0)→mO d s op u i n g= .ok n
 | [],_,_,_,_=>rfl
 | x::u,i,n,g,h=>by
  rw[mO,if_pos (h x (by simp))]
  exact zJ u _ n g fun y hy=>h y (by simp[hy])
theorem yK{s:aK}{op:Int}(hc:NC d s):∀(k gone:Nat) (u:List aL),(∀x∈u,x.to<0)→fT d s op k gone u≠[]
 | 0,gone,u,hu=>by
  rw[fT,dZ,zJ u _ _ _ hu]
  simp only
  rw[hc]
  simp
 | k+1,gone,u,hu=>by
  rw[fT,jR,List.flatMap_cons]
  intro e
  exact yK hc k gone (u++[⟨-1,[]⟩]) (fun x hx=>by
   rcases List.mem_append.1 hx with h | h
   · exact hu x h
   · simp only[List.mem_singleton]at h; subst h; decide) (List.append_eq_nil_iff.1 e).1
theorem zD{next:aK→Int}:∀(l:List (List aL×aK)) (b:Int),(l.foldl (sP next) b=b∧0≤b)∨(∃x∈l,next x.2=l.foldl (sP next) b)∨l=[]
 | [],b=> .inr (.inr rfl)
 | x::l,b=>by
  rw[List.foldl_cons]
  have hm:sP next b x=next x.2∨(sP next b x=b∧0≤b):=by
   rw[sP]
   split
   · exact .inl rfl
   · rename_i h
     refine .inr ⟨rfl,?_⟩
     simp only[Bool.or_eq_true,decide_eq_true_eq,not_or]at h
     omega
  rcases zD (next:=next) l (sP next b x)with⟨h1,h2⟩ | ⟨y,hy,h⟩ | h
  · rw[h1]
    rcases hm with e | ⟨e,e2⟩
    · exact .inr (.inl ⟨x,by simp,e.symm⟩)
    · exact .inl ⟨e,e2⟩
  · exact .inr (.inl ⟨y,by simp[hy],h⟩)
  · subst h
    rcases hm with e | ⟨e,e2⟩
    · exact .inr (.inl ⟨x,by simp,e.symm⟩)
    · exact .inl ⟨e,e2⟩
theorem aBC{f:Nat→Int}:∀(l:List Nat) (b:Int),b≤l.foldl (fun m g=>max m (f g)) b∧∀g∈l,f g≤l.foldl (fun m g=>max m (f g)) b
 | [],b=>⟨Int.le_refl _,fun g hg=>by cases hg⟩
 | x::l,b=>by
  obtain⟨h1,h2⟩:=aBC (f:=f) l (max b (f x))
  rw[List.foldl_cons]
  refine⟨by omega,fun g hg=> ?_⟩
  rcases List.mem_cons.1 hg with h | h
  · subst h; omega
  · exact h2 g h
theorem aFH(dg:iU d){k ws w t:Nat}{s:aK}(hk:t+(k+1)=aO d)(hw:w<d.weathers.length)(hb:bF ws w=true)(hc:NC d s) :
 ∃(g:Nat) (x:List aL×aK),lV d (k+1) ws s w=x.1::lV d k g x.2 w∧bF g w=true∧x∈fC d s (wAt d w t)∧cU d k g x.2≤cU d (k+1) ws s:=by
 have ht:aO d - (k+1)=t:=by omega
 obtain⟨g0,hg0,hb0⟩:=(kQ (d:=d) (ws:=ws) (slot:=aO d - (k+1))).2.1 w hw hb
 obtain⟨g,eg⟩:∃g,(eP d ws (aO d - (k+1))).find? (fun g=>bF g w)=some g:=by
  cases e:(eP d ws (aO d - (k+1))).find? (fun g=>bF g w)with
  | some g=>exact⟨g,rfl⟩
  | none=>exact absurd hb0 (List.find?_eq_none.1 e g0 hg0)
 have hgb:bF g w=true:=List.find?_some (p:=fun g=>bF g w) eg
 have hgm:=List.mem_of_find?_eq_some eg
 obtain⟨v,_,_,hv⟩:=kQ.1 g hgm
 have hf:=(mC d.weathers.length g ⟨w,hw,hgb⟩).1
 have hwa:wAt d (gW g d.weathers.length) (aO d - (k+1))=wAt d w t:=by
  have h1:=((hv _).1 hf).2.2
  have h2:=((hv w).1 hgb).2.2
  rw[h1,←h2,ht]
 have hle:eJ d k (aO d - (k+1)) g s≤cU d (k+1) ws s:=(aBC (f:=fun g=>wN d (cU d k) (aO d - (k+1)) g s) (eP d ws (aO d - (k+1))) 0).2 g hgm
 have hex:∃x∈fC d s (wAt d w t),cU d k g x.2=eJ d k (aO d - (k+1)) g s:=by
  rw[eJ,wN,hwa]
  rcases zD (next:=cU d k g) (fC d s (wAt d w t)) (-1)with⟨_,h⟩ | h | h
  · omega
  · exact h
  · exact absurd h (yK hc _ _ _ (by simp))
 obtain⟨y,hy,ey⟩:=hex
 obtain⟨x,ex'⟩:∃x,(fC d s (wAt d w t)).find? (sV d k (aO d - (k+1)) g s)=some x:=by
  cases e:(fC d s (wAt d w t)).find? (sV d k (aO d - (k+1)) g s)with
  | some x=>exact⟨x,rfl⟩
  | none=>exact absurd (by rw[sV,ey]; simp) (List.find?_eq_none.1 e y hy)
 have hh:sV d k (aO d - (k+1)) g s x=true:=List.find?_some ex'
 simp only[sV,Bool.not_eq_true',decide_eq_false_iff_not]at hh
 refine⟨g,x,?_,hgb,List.mem_of_find?_eq_some ex',by omega⟩
 rw[lV,eg]
 simp only
 rw[hwa,ex']
end
section
variable {d:aS}
def SIn(m:Nat)(l:List Int):Prop:=l.Pairwise (· < ·)∧∀n∈l,0≤n∧n<m
theorem SIn.pk{m:Nat}{l:List Int}(a:SIn m l):(List.range l.length).all (pkB m l)=true:=by
 rw[bZ]
 intro k hk
 have h1:=a.2 _ (qG hk)
 simp only[pkB,aJ hk,inB,Bool.and_eq_true,Bool.or_eq_true,decide_eq_true_eq]
 refine⟨by omega,?_⟩
 rcases k with _ | k
 · exact .inl rfl
 · right
   rw[Nat.add_sub_cancel,aJ (by omega)]
   exact List.pairwise_iff_getElem.1 a.1 k (k+1) (by omega) hk (by omega)
theorem aAa{s:aK}{at_ to:Int}:∀(k:Nat) (l:List Int) (seats:Int) (gone:Nat),k≤d.people.length→SIn (d.people.length - k) l→∀x∈nW d s at_ to k l seats gone,x.1.to=to∧SIn d.people.length x.1.people
 | 0,l,seats,gone,_,_,x,hx=>by simp[nW]at hx
 | k+1,l,seats,gone,hk,hl,x,hx=>by
  have hl2:SIn (d.people.length - k) l:=⟨hl.1,fun n hn=>by have:=hl.2 n hn; omega⟩
  have hl3:SIn (d.people.length - k) (l++[((d.people.length - (k+1):Nat):Int)]):=by
   refine⟨?_,fun n hn=> ?_⟩
   · rw[List.pairwise_append]
     refine⟨hl.1,by simp,fun a ha b hb=> ?_⟩
     simp only[List.mem_singleton]at hb
     subst hb
     have:=hl.2 a ha; omega
   · rcases List.mem_append.1 hn with h | h
     · exact hl2.2 n h
     · simp only[List.mem_singleton]at h; omega
  have hl4:SIn d.people.length (l++[((d.people.length - (k+1):Nat):Int)]):=⟨hl3.1,fun n hn=>by have:=hl3.2 n hn; omega⟩
  rw[nW]at hx
  rcases List.mem_append.1 hx with h | h
  · split at h
    · rcases List.mem_cons.1 h with h | h
      · subst h; exact⟨rfl,hl4⟩
      · exact aAa k _ _ _ (by omega) hl3 x h
    · cases h
  · exact aAa k _ _ _ (by omega) hl2 x h
theorem wY{s:aK}{op:Int}{plane gone:Nat}:∀k,k≤d.places.length→∀x∈fW d s op plane gone k,flB d x.1=true
 | 0,_,x,hx=>by simp[fW]at hx
 | k+1,hk,x,hx=>by
  rw[fW]at hx
  rcases List.mem_append.1 hx with h | h
  · split at h
    · have key:x.1.to=((d.places.length - (k+1):Nat):Int)∧SIn d.people.length x.1.people:=by
       rw[aBk]at h
       rcases List.mem_cons.1 h with h | h
       · subst h; exact⟨rfl,by simp,fun n hn=>by cases hn⟩
       · exact aAa _ _ _ _ (Nat.le_refl _) ⟨by simp,fun n hn=>by cases hn⟩ x h
      simp only[flB,inB,key.2.pk,Bool.and_true,Bool.and_eq_true,Bool.or_eq_true,decide_eq_true_eq]
      omega
    · cases h
  · exact wY k (by omega) x h
theorem aDb{s:aK}{op:Int}{plane gone:Nat}(hp:0<d.places.length):∀x∈jR d s op plane gone,flB d x.1=true:=fun x hx=>by
 rw[jR]at hx
 rcases List.mem_cons.1 hx with h | h
 · subst h
   simp[flB,inB]; omega
 · exact wY _ (Nat.le_refl _) x h
theorem aAU{s:aK}{op:Int}(hp:0<d.places.length):∀(k gone:Nat) (u:List aL),u.all (flB d)=true→∀y∈fT d s op k gone u,y.1.all (flB d)=true
 | 0,gone,u,hu,y,hy=>by
  rw[fT]at hy
  split at hy
  · simp only[List.mem_singleton]at hy; subst hy; exact hu
  · cases hy
 | k+1,gone,u,hu,y,hy=>by
  rw[fT,List.mem_flatMap]at hy
  obtain⟨x,hx,hy⟩:=hy
  refine aAU hp k x.2 (u++[x.1]) ?_ y hy
  rw[List.all_append,hu,Bool.true_and,List.all_cons,aDb hp x hx]; rfl
theorem aKB{s:aK}{op:Int}{t:Nat}(dg:iU d)(a:StN d t s){y:List aL×aK}(hy:y∈fC d s op):fI d y.1=true:=by
 have h1:=aAU (by have:=dg.p0; omega) _ _ _ (by simp) y hy
 have h2:=(pH dg a y hy).1
 rw[fI,h1,decide_eq_true h2]; rfl
def xO(d:aS)(P:List (List aL))(V:Int)(w t:Nat)(s:aK):Prop:=
 t≤aO d∧NC d s∧StN d t s∧∃ws,bF ws w=true∧P.drop t=lV d (aO d - t) ws s w∧cU d (aO d - t) ws s≤V
theorem yI(dg:iU d){P:List (List aL)}{V:Int}{w t:Nat}{s:aK}(hw:w<d.weathers.length)(I:xO d P V w t s)(ht:t<aO d) :
 ∃h:t<P.length,fI d P[t]=true∧(dZ d s (wAt d w t) P[t]).2.1=1∧(dZ d s (wAt d w t) P[t]).2.2= -1∧xO d P V w (t+1) (dZ d s (wAt d w t) P[t]).1:=by
 obtain⟨_,hc,hs,ws,hb,hp,hv⟩:=I
 obtain⟨k,ek⟩:∃k,aO d - t=k+1:=⟨aO d - t - 1,by omega⟩
 rw[ek]at hp hv
 obtain⟨g,x,h1,h2,h3,h4⟩:=aFH dg (k:=k) (t:=t) (by omega) hw hb hc
 rw[h1]at hp
 have hlt:t<P.length:=by
  refine Classical.byContradiction fun hn=> ?_
  rw[List.drop_eq_nil_of_le (by omega)]at hp; cases hp
 rw[List.drop_eq_getElem_cons hlt]at hp
 obtain⟨hx,hr⟩:=List.cons.inj hp
 obtain⟨q1,q2,q3,q4⟩:=pH dg hs x h3
 obtain⟨f1,f2⟩:=aJb q3
 refine⟨hlt,?_⟩
 rw[hx]
 refine⟨aKB dg hs h3,q3,f1,by omega,f2,?_,g,h2,?_,?_⟩
 · exact aEl q1 q2 hs
 · rw[show aO d - (t+1)=k by omega,hr,q4]
 · rw[show aO d - (t+1)=k by omega,←q4]; omega
theorem aAS{P:List (List aL)}{V:Int}{w t:Nat}{s:aK}(I:xO d P V w t s)(ht:t=aO d):P.length≤t∧xC d s≤V:=by
 obtain⟨_,_,_,ws,_,hp,hv⟩:=I
 subst ht
 rw[Nat.sub_self]at hp hv
 rw[lV]at hp
 exact⟨List.drop_eq_nil_iff.1 hp,hv⟩
theorem aAR(dg:iU d){P:List (List aL)}{V:Int}{w:Nat}(hw:w<d.weathers.length):∀(k t:Nat) (s:aK),t+k=aO d→xO d P V w t s→P.length≤aO d∧∀i,t≤i→i<aO d→∃h:i<P.length,fI d P[i]=true
 | 0,t,s,hk,I=>⟨by have:=(aAS I (by omega)).1; omega,fun i h1 h2=>by omega⟩
 | k+1,t,s,hk,I=>by
  obtain⟨h1,h2,_,_,h5⟩:=yI dg hw I (by omega)
  obtain⟨i1,i2⟩:=aAR dg hw k (t+1) _ (by omega) h5
  refine⟨i1,fun i a b=> ?_⟩
  rcases Nat.lt_or_ge t i with h | h
  · exact i2 i (by omega) b
  · obtain rfl:i=t:=by omega
    exact⟨h1,h2⟩
theorem aBY(dg:iU d){w:Nat}(hw:w<d.weathers.length):(mF d).1.length=d.weathers.length∧(mF d).1.getD w []=lV d (aO d) (2^d.weathers.length - 1) (cF d) w:=by
 obtain⟨h1,h2⟩:=zR (d:=d) (aO d) (2^d.weathers.length - 1) (cF d) (List.replicate d.weathers.length []) (by simp)
 refine⟨by rw[mF,h1]; simp,?_⟩
 have:=h2 w (by simpa using hw)
 rw[mF,this,List.getD_eq_getElem?_getD,List.getElem?_replicate,if_pos hw]; rfl
theorem aOV{n w:Nat}(hw:w<n):bF (2^n - 1) w=true:=by
 rw[gA,Nat.testBit_two_pow_sub_one]; exact decide_eq_true hw
theorem zU(hB:eL d=true){w:Nat}(hw:w<d.weathers.length):xO d ((mF d).1.getD w []) (mF d).2 w 0 (cF d):=by
 have dg:=oU hB
 refine⟨Nat.zero_le _,(vR.1 hB).cr,aJH dg,2^d.weathers.length - 1,aOV hw,?_,Int.le_refl _⟩
 rw[List.drop_zero,(aBY dg hw).2]; rfl
theorem aOW(hB:eL d=true):aAl d (mF d).1=true:=by
 have dg:=oU hB
 have hw0:=dg.w0
 have hl:=(aBY dg (w:=0) (by omega)).1
 rw[aAl,decide_eq_true hl,Bool.and_true,List.all_eq_true]
 intro r hr
 obtain⟨w,hw,rfl⟩:=List.getElem_of_mem hr
 have I:=zU hB (w:=w) (by omega)
 rw[aJ hw]at I
 obtain⟨h1,h2⟩:=aAR dg (by omega) (aO d) 0 _ (by omega) I
 have hs:=dg.s0
 obtain⟨h3,_⟩:=h2 (aO d - 1) (by omega) (by omega)
 have h4:(mF d).1[w].length=aO d:=by omega
 rw[decide_eq_true h4,Bool.true_and,List.all_eq_true]
 intro u hu
 obtain⟨i,hi,rfl⟩:=List.getElem_of_mem hu
 exact(h2 i (by omega) (by omega)).2
theorem aKz(hB:eL d=true){w t:Nat}(hw:w<d.weathers.length)(ht:t<aO d):pB d.places.length (wAt d w t)=true:=by
 obtain⟨h1,h2⟩:=(vR.1 hB).we w hw
 exact h2 t (by omega)
theorem wA{s:aK}{t:Nat}(a:StN d t s)(ht:t≤5):dV d s=true:=by
 rw[dV,decide_eq_true a.s1,decide_eq_true a.s2,decide_eq_true a.s3,List.all_eq_true.2 fun x hx=>gV.2 (a.at_ x hx),List.all_eq_true.2 fun x hx=>gV.2 (a.pat x hx),List.all_eq_true.2 fun x hx=>by
  have:=a.lg x hx
  simp only[inB,Bool.and_eq_true,decide_eq_true_eq]; omega]
 rfl
end
end Go.Proofs.Ab

/- Own layer, part Q. -/
import Derived.Test.YtiakeffhecpddaaGreatP
import Derived.KernelRfl
import Derived.Test.YtiakeffhecpddaaGreatG
set_option linter.unusedSimpArgs false
set_option linter.unusedVariables false
namespace Go.Proofs.Ab
open Go Go.Proofs
variable {w0:World} {h:Heap}
attribute [local irreducible] ACall bE cR aK bI rvC lp rg dr ex un rv
theorem WeaR.sub{H:Heap}{l:List (List aH)}{c:List AV}(a:WeaR w0 h l c)(t:aB h H):WeaR w0 H l c:=by
 obtain⟨x,e,n⟩:=a
 exact⟨x,e,NS.mono n t fun _ _ ⟨y,e,u⟩=>⟨y,e,u.sub t⟩⟩
theorem aDp.sub{H:Heap}{v:AV}{p:gC}(a:aDp w0 h v p)(t:aB h H):aDp w0 H v p:=NS.mono a t fun _ _ r=>r.sub t
theorem sp_len(l:List bW):∀c∈l.map bW.c,c.length=2:=fun c hc=>by obtain⟨x,_,rfl⟩:=List.mem_map.1 hc; rfl
theorem hT(x lo hi:Int):aK Tryz.prog w0 65 [.int .i64 x,.int .i64 lo,.int .i64 hi] h (.bool (inB x lo hi)) h:=by
 refine aM mf65_k fun hb ha=> ?_
 simp only[go_sem,mf65]
 exact⟨fun a=>by simp[inB,a],fun a=>by simp[inB,a]⟩
def uB:List bW→Int→Int
 | [],_=> -1
 | s::l,m=>if m≤s.high then max m s.low else uB l m
end Go.Proofs.Ab
namespace Go.Proofs.Ab
open Go Go.Proofs
theorem yT{l:List bW}{s:bW}{m:Int}(hl:∀x∈l,0≤x.low)(hm:0≤m):uB (l++[s]) m=if uB l m<0 then(if m≤s.high then max m s.low else -1)else uB l m:=by
 induction l with
 | nil=>simp[uB]
 | cons a l ih=>
  have hi:=ih fun x hx=>hl x (List.mem_cons_of_mem _ hx)
  by_cases h:m≤a.high
  ·have:=hl a List.mem_cons_self
   have h5:¬max m a.low<0:=by omega
   simp only[List.cons_append,uB,h,if_true,h5,if_false]
  ·simp only[List.cons_append,uB,h,if_false,hi]
theorem sQ{p:Nat→Bool}{k:Nat}:oW p (List.range (k+1))=if oW p (List.range k)<0 then(if p k then(k:Int)else -1)else oW p (List.range k):=by
 unfold oW
 rw[List.range_succ,List.findIdx?_append]
 cases e:(List.range k).findIdx? p with
 | none=>
  simp only[Option.none_or,List.findIdx?_cons,List.findIdx?_nil,List.length_range]
  cases hp:p k<;>simp
 | some i=>simp; omega
structure SpI(r:Nat→Bool)(k:Nat)(out:List bW):Prop where
 bd:∀s∈out,0≤s.low∧s.low≤s.high∧s.high<k
 nx:∀m:Int,0≤m→uB out m=oW (fun(t:Nat)=>decide (m≤(t:Int))&&r t) (List.range k)
 wi:∀m:Nat,iV out m=(decide (m<k)&&r m)
theorem SpI.nil{r:Nat→Bool}:SpI r 0 []:=⟨by simp,fun m _=>rfl,fun m=>by simp[iV]⟩
theorem SpI.no{r:Nat→Bool}{k:Nat}{out:List bW}(a:SpI r k out)(h:r k=false):SpI r (k+1) out:=by
 refine⟨fun s hs=>by have:=a.bd s hs; omega,fun m hm=> ?_,fun m=> ?_⟩
 ·rw[a.nx m hm,sQ,h]
  simp only[Bool.and_false,Bool.false_eq_true,if_false]
  split
  ·rename_i h1; unfold oW at h1 ⊢; split at h1
   ·omega
   ·rfl
  ·rfl
 ·rw[a.wi]
  by_cases hm:m=k
  ·subst hm; simp[h]
  ·have:decide (m<k)=decide (m<k+1):=by rw[decide_eq_decide]; omega
   rw[this]
theorem wC{l:List bW}{s:bW}{m:Int}:iV (l++[s]) m=(iV l m||inB m s.low s.high):=by simp[iV]
theorem SpI.yes{r:Nat→Bool}{k:Nat}{out:List bW}(a:SpI r k out)(h:r k=true):SpI r (k+1) (xB out k):=by
 have hp:∀m:Int,(decide (m≤(k:Int))&&r k)=decide (m≤(k:Int)):=fun m=>by rw[h,Bool.and_true]
 have hnew:(∀init s,out=init++[s]→s.high≠(k:Int) - 1)→SpI r (k+1) (out++[⟨k,k⟩]):=fun _=>by
  refine⟨fun s hs=> ?_,fun m hm=> ?_,fun m=> ?_⟩
  ·rcases List.mem_append.1 hs with h1 | h1
   ·have:=a.bd s h1; omega
   ·simp only[List.mem_singleton]at h1; subst h1; simp; omega
  ·rw[yT (fun x hx=>(a.bd x hx).1) hm,a.nx m hm,sQ,hp]
   simp only[decide_eq_true_eq]
   split
   ·split
    ·omega
    ·rfl
   ·rfl
  ·rw[wC,a.wi]
   simp only[inB]
   by_cases hm:m=k
   ·subst hm; simp[h]
   ·have e1:decide (m<k)=decide (m<k+1):=by rw[decide_eq_decide]; omega
    have e2:(decide ((k:Int)≤(m:Int))&&decide ((m:Int)≤(k:Int)))=false:=by
     rcases Nat.lt_or_ge m k with h1 | h1
     ·rw[decide_eq_false (by omega)]; rfl
     ·rw[decide_eq_false (show ¬(m:Int)≤(k:Int)by omega),Bool.and_false]
    rw[e1,e2,Bool.or_false]
 rcases List.eq_nil_or_concat out with rfl | ⟨init,s,rfl⟩
 ·exact hnew fun init s e=>by simp at e
 ·rw[List.concat_eq_append]at *
  by_cases hs:s.high=(k:Int) - 1
  ·have e:xB (init++[s]) k=init++[⟨s.low,k⟩]:=by simp[xB,hs]
   rw[e]
   have hb:=a.bd s (by simp)
   have hi:∀x∈init,0≤x.low:=fun x hx=>(a.bd x (by simp[hx])).1
   refine⟨fun x hx=> ?_,fun m hm=> ?_,fun m=> ?_⟩
   ·rcases List.mem_append.1 hx with h1 | h1
    ·have:=a.bd x (by simp[h1]); omega
    ·simp only[List.mem_singleton]at h1; subst h1; simp; omega
   ·have o:=a.nx m hm
    rw[yT hi hm]at o ⊢
    rw[sQ,hp,←o]
    simp only[decide_eq_true_eq]
    by_cases h1:uB init m<0
    ·by_cases h3:m≤s.high
     ·have h4:m≤(k:Int):=by omega
      have h5:¬max m s.low<0:=by omega
      simp only[h1,h3,h4,h5,if_true,if_false]
     ·have h5:(-1:Int)<0:=by omega
      by_cases h4:m≤(k:Int)
      ·simp only[h1,h3,h4,h5,if_true,if_false]; omega
      ·simp only[h1,h3,h4,h5,if_true,if_false]
    ·simp only[h1,if_false]
   ·have o:=a.wi m
    rw[wC]at o ⊢
    simp only[inB]at o ⊢
    by_cases hm:m=k
    ·subst hm
     rw[decide_eq_true (show s.low≤(m:Int)by omega),decide_eq_true (Int.le_refl _),decide_eq_true (by omega),h]; simp
    ·have e1:decide (m<k+1)=decide (m<k):=by rw[decide_eq_decide]; omega
     have e2:decide ((m:Int)≤(k:Int))=decide ((m:Int)≤s.high):=by rw[decide_eq_decide]; omega
     rw[e1,e2]; exact o
  ·have e:xB (init++[s]) k=init++[s]++[⟨k,k⟩]:=by simp[xB,hs]
   rw[e]
   exact hnew fun init' s' e'=>by
    have:=List.append_inj_right' e' rfl
    simp only[List.cons.injEq,and_true]at this
    subst this; exact hs
theorem SpI.all{r:Nat→Bool}:∀k,k≤1441→SpI r k (spL 0 [] ((oX r).take k)):=by
 intro k hk
 induction k with
 | zero=>exact SpI.nil
 | succ k ih=>
  have i:=ih (by omega)
  have hl:(oX r)[k]? = some (r k):=by rw[oX,List.getElem?_map,List.getElem?_range (by omega)]; rfl
  rw[List.take_add_one,hl,Option.toList,yG,List.length_take,Nat.zero_add,Nat.min_eq_left (by simp[oX]; omega)]
  cases e:r k with
  | true=>rw[if_pos rfl]; exact i.yes e
  | false=>exact i.no e
end Go.Proofs.Ab
namespace Go.Proofs.Ab
open Go Go.Proofs
variable {w0:World} {h:Heap}
attribute [local irreducible] ACall bE cR aK bI rvC lp rg dr ex un rv
def wU(io:Nat)(G:Heap)(y:AV)(l:List bW):Prop:=(y= .nilS∧l=[])∨∃k,k≠io∧y= .sl (.own k 0) l.length 2 false∧G[k]? = some (some (.row (iE l)))
theorem wU.sl{io:Nat}{G:Heap}{y:AV}{l:List bW}(a:wU io G y l):Sl w0 G 2 y (l.map bW.c):=by
 rcases a with⟨rfl,rfl⟩ | ⟨k,_,rfl,h2⟩
 ·exact .inl ⟨rfl,rfl⟩
 ·have:=fY (w0:=w0) (H:=G) (full:=false) (io:=k) (rows:=l.map bW.c) (es:=2) h2 (sp_len _)
  rwa [List.length_map]at this
theorem wU.sub{io:Nat}{G H:Heap}{y:AV}{l:List bW}(a:wU io G y l)(s:aB G H):wU io H y l:=by
 rcases a with h1 | ⟨k,h0,h1,h2⟩
 ·exact .inl h1
 ·exact .inr ⟨k,h0,h1,s.2 _ _ h2⟩
theorem wU.set{io:Nat}{G:Heap}{y:AV}{l:List bW}{x:Option Blk}(a:wU io G y l):wU io (G.set io x) y l:=by
 rcases a with h1 | ⟨k,h0,h1,h2⟩
 ·exact .inl h1
 ·exact .inr ⟨k,h0,h1,by rw[qB (Ne.symm h0)]; exact h2⟩
end Go.Proofs.Ab
namespace Go.Proofs.Ab
open Go Go.Proofs
variable {w:World} {h:Heap} {cs:List Value}
theorem int_of{v:Value}(g:Gd w (.int .nil) [v]):∃n:Int,inj v= .int .i64 n∧I64 n:=by
 obtain⟨n,_,e,h,rfl⟩:=g
 cases e; exact⟨n,rfl,h⟩
end Go.Proofs.Ab
namespace Go.Proofs.Ab
open Go Go.Proofs
variable {w0:World} {h:Heap}
attribute [local irreducible] ACall bE cR aK bI rvC lp rg dr ex un rv
section
variable {d:aQ} {v:cU}
theorem DayS.lens(s:DayS w0 h d v):dA v.pl=some (.int .i64 d.places.length)∧dA v.ln=some (.int .i64 d.links.length)∧dA v.pn=some (.int .i64 d.planes.length)∧dA v.pe=some (.int .i64 d.people.length)∧dA v.we=some (.int .i64 d.weathers.length):=
 ⟨by simpa using s.places.use.1,by simpa using s.links.use.1,by simpa using s.planes.use.1,by simpa using s.people.use.1,NS.len s.weathers⟩
theorem DayS.ones(s:DayS w0 h d v):one v.pl=true∧one v.ln=true∧one v.pn=true∧one v.pe=true∧one v.we=true:=
 ⟨s.places.one.1,s.links.one.1,s.planes.one.1,s.people.one.1,(NS.one s.weathers).1⟩
theorem DayS.place(s:DayS w0 h d v){j:Nat}(hj:j<d.places.length):∃p:Pl,cF 2 v.pl (some j)=some (.ptr p)∧∀L,rdn w0 (h++L) p 2=some d.places[j].c:=by
 obtain⟨p,p1,p2⟩:=s.places.lt (j:=j) (by simpa using hj)
 exact⟨p,p1,fun L=>p2 L _ (by simp[hj])⟩
theorem DayS.link(s:DayS w0 h d v){j:Nat}(hj:j<d.links.length):∃p:Pl,cF 2 v.ln (some j)=some (.ptr p)∧∀L,rdn w0 (h++L) p 2=some d.links[j].c:=by
 obtain⟨p,p1,p2⟩:=s.links.lt (j:=j) (by simpa using hj)
 exact⟨p,p1,fun L=>p2 L _ (by simp[hj])⟩
theorem DayS.plane(s:DayS w0 h d v){j:Nat}(hj:j<d.planes.length):∃p:Pl,cF 5 v.pn (some j)=some (.ptr p)∧∀L,rdn w0 (h++L) p 5=some d.planes[j].c:=by
 obtain⟨p,p1,p2⟩:=s.planes.lt (j:=j) (by simpa using hj)
 exact⟨p,p1,fun L=>p2 L _ (by simp[hj])⟩
theorem DayS.person(s:DayS w0 h d v){j:Nat}(hj:j<d.people.length):∃p:Pl,cF 5 v.pe (some j)=some (.ptr p)∧∀L,rdn w0 (h++L) p 5=some d.people[j].c:=by
 obtain⟨p,p1,p2⟩:=s.people.lt (j:=j) (by simpa using hj)
 exact⟨p,p1,fun L=>p2 L _ (by simp[hj])⟩
end
theorem aBy{α:Type}{l:List α}{x:α}(h:0<l.length):l[0]=l.headD x:=by
 cases l with
 | nil=>simp at h
 | cons a b=>rfl
theorem aID(d:aQ)(v:cU)(hS:DayS w0 h d v)(hw:d.weathers≠[]):aK Tryz.prog w0 58 [.agg (aX v)] h (.int .i64 (aL d)) h:=by
 refine aM mf58_k fun hb ha=> ?_
 obtain⟨o1,o2,o3,o4,o5⟩:=hS.ones
 obtain⟨p,x,p1,p2,p3⟩:=hS.weathers.at_ (j:=0) (List.length_pos_iff.2 hw)
 have l6:=(SlI.use p3).1
 have e:d.weathers[0]'(List.length_pos_iff.2 hw)=d.weathers.headD []:=aBy _
 rw[e]at l6
 simp only[go_sem,mf58,o1,o2,o3,o4,o5,p1,p2,l6]
 rfl
end Go.Proofs.Ab
namespace Go.Proofs.Ab
open Go Go.Proofs
variable {w:World} {h:Heap} {cs:List Value}
def aMn:Rw:= .int (.bool .nil)
def linkRw:Rw:= .int (.int .nil)
def aCt:Rw:= .int (.int (.int (.int (.int .nil))))
def aJi:Rw:= .sl (.int .nil) .nil
def dayRw:Rw:= .sl aMn (.sl linkRw (.sl aCt (.sl aCt (.sl aJi .nil))))
theorem aJh{v:Value}(g:xT w aJi v):∃l:List (List Int),LI w h (inj v) l∧l.length≤9223372036854775807:=by
 obtain⟨rows,h1,h2,h3⟩:=aFB (h:=h) g
 obtain⟨l,rfl,hl⟩:=yJ (f:=fun x:AV×List Int=>[x.1]) (p:=fun x=>SlI w h x.1 x.2) (rows:=rows) fun c hc=>by
  obtain⟨cs,rfl,u,_,rfl,g2,rfl⟩:=h3 c hc
  obtain⟨q,hq,_⟩:=aNV (h:=h) g2
  exact⟨(inj u,q),rfl,hq⟩
 refine⟨l.map Prod.snd,⟨_,by simp,h1,fun j x c hx hc=> ?_⟩,by simpa using h2⟩
 simp only[List.getElem?_map,qD]at hx hc
 obtain⟨a,a1,rfl⟩:=hx
 obtain⟨b,b1,rfl⟩:=hc
 rw[a1]at b1; cases b1
 exact⟨a.1,rfl,hl _ (List.mem_of_getElem? a1)⟩
theorem day_of(g:Gd w dayRw cs):∃(d:aQ) (v:cU),cs.map inj=aX v∧DayS w h d v∧d.weathers.length≤9223372036854775807:=by
 obtain⟨v0,_,rfl,g0,v1,_,rfl,g1,v2,_,rfl,g2,v3,_,rfl,g3,v4,_,rfl,g4,rfl⟩:=g
 obtain⟨l0,s0,_⟩:=pD (h:=h) qN.c rfl g0 fun _ g=>by
  obtain⟨a,_,rfl,_,b,_,rfl,rfl⟩:=g
  exact⟨⟨a,b⟩,rfl⟩
 obtain⟨l1,s1,_⟩:=pD (h:=h) dD.c rfl g1 fun _ g=>by
  obtain⟨a,_,rfl,_,b,_,rfl,_,rfl⟩:=g
  exact⟨⟨a,b⟩,rfl⟩
 obtain⟨l2,s2,_⟩:=pD (h:=h) dL.c rfl g2 fun _ g=>by
  obtain⟨a,_,rfl,_,b,_,rfl,_,c,_,rfl,_,d,_,rfl,_,e,_,rfl,_,rfl⟩:=g
  exact⟨⟨a,b,c,d,e⟩,rfl⟩
 obtain⟨l3,s3,_⟩:=pD (h:=h) gV.c rfl g3 fun _ g=>by
  obtain⟨a,_,rfl,_,b,_,rfl,_,c,_,rfl,_,d,_,rfl,_,e,_,rfl,_,rfl⟩:=g
  exact⟨⟨a,b,c,d,e⟩,rfl⟩
 obtain⟨l4,s4,hl⟩:=aJh (h:=h) g4
 exact⟨⟨l0,l1,l2,l3,l4⟩,⟨inj v0,inj v1,inj v2,inj v3,inj v4⟩,rfl,⟨s0,s1,s2,s3,s4⟩,hl⟩
end Go.Proofs.Ab
namespace Go.Proofs.Ab
open Go Go.Proofs
variable {w0:World} {h:Heap}
attribute [local irreducible] ACall bE cR aK bI rvC lp rg dr ex un rv
def oY(d:aQ)(w:Nat):List Int:=d.weathers.getD w []
theorem aLU{d:aQ}{a:Nat}(qa:a<d.weathers.length):oY d a=d.weathers[a]:=aE qa
theorem aCp(d:aQ)(v:cU)(hR:kU w0 h d v):ACall Tryz.prog w0 18 [.agg (aX v)] h fun y H=>aB h H∧∃nv,y= .agg (stC nv)∧StS w0 H (bV d) nv:=by
 refine aO mf18_k fun hb ha=> ?_
 obtain⟨o1,o2,o3,o4,o5⟩:=hR.ones
 obtain⟨l1,l2,l3,l4,l5⟩:=hR.lens
 have n3:=hR.l3
 have n4:=hR.l4
 obtain⟨K0,eK0⟩:∃K0:Heap,K0=h++[some (.row (aX v))]:=⟨_,rfl⟩
 have s0:aB h K0:=eK0▸aB.refl.app
 have g0:K0[h.length]? = some (some (.row (aX v))):=by rw[eK0]; simp
 have k0:K0.length=h.length+1:=by rw[eK0]; simp
 have hD0:DayS w0 K0 d v:=hR.toDayS.sub s0
 simp only[go_sem,mf18,o1,o2,o3,o4,o5]
 obtain⟨b2,eb2⟩:∃b,b=h.length+1:=⟨_,rfl⟩
 obtain⟨b3,eb3⟩:∃b,b=h.length+2:=⟨_,rfl⟩
 rw[←eb2,←eb3]
 refine fF (S:=Nat×Heap×AV×AV×Nat×Nat) (F:=fun s=>[(1,.ptr (.own h.length 0)),(2,.ptr (.own b2 0)),(3,.ptr (.own b3 0)),(4,.int .i64 s.1)]) (H:=fun s=>s.2.1) (meas:=fun s=>d.planes.length - s.1)
  (Inv:=fun s=>s.1≤d.planes.length∧aB K0 s.2.1∧s.2.1[b2]? = some (some (.row [.nilS,.nilS,.nilS]))∧s.2.1[b3]? = some (some (.row [s.2.2.1,s.2.2.2.1,.nilS]))∧b3<s.2.2.2.2.1∧b3<s.2.2.2.2.2∧(s.1≠0→s.2.2.2.2.1≠s.2.2.2.2.2∧s.2.2.2.2.2<s.2.1.length) ∧
   Gr2 s.2.1 1 s.1 s.2.2.2.2.1 s.2.2.1 (aN ((d.planes.take s.1).map (·.at_)))∧Gr2 s.2.1 1 s.1 s.2.2.2.2.2 s.2.2.2.1 (aN (List.replicate s.1 0)))
  (0,h++[some (.row (aX v)),some (.row [.nilS,.nilS,.nilS]),some (.row [.nilS,.nilS,.nilS])],.nilS,.nilS,b3+1,b3+1) ⟨by simp,by rw[eK0]; exact⟨by simp,fun i b e=>by rw[show h++[some (.row (aX v)),some (.row [.nilS,.nilS,.nilS]),some (.row [.nilS,.nilS,.nilS])]=(h++[some (.row (aX v))])++[some (.row [.nilS,.nilS,.nilS]),some (.row [.nilS,.nilS,.nilS])]by simp]; exact aA e⟩,by rw[eb2]; simp,by rw[eb3]; simp,by simp,by simp,fun e=>absurd rfl e,.inl ⟨rfl,rfl,rfl⟩,.inl ⟨rfl,rfl,rfl⟩⟩ rfl rfl ?_
 rintro⟨j,G,pv,lv,i1,i2⟩ ⟨hj,sG,gb2,gb3,hi1,hi2,hne,g1,g2⟩ ih
 simp only at hj sG gb2 gb3 hi1 hi2 hne g1 g2 ih
 refine aP [1,2,3,4] L18_0.eq_1 ?_
 have gG:=sG.2 _ _ g0
 have bG:=xL gG
 have b3G:=xL gb3
 rcases Nat.lt_or_ge j d.planes.length with hjl | hjl
 ·have f0:(j:Int)<d.planes.length:=by omega
  obtain⟨p,p1,p2K⟩:=hD0.plane hjl
  have p2:∀L,rdn w0 (G++L) p 5=some d.planes[j].c:=fun L=>(sG.app (L:=L)).rdn (by simpa using p2K [])
  have t0:∀L,rd w0 (G++L) (p.add 0)=some (.int .i64 d.planes[j].at_):=fun L=>dG (p2 L) rfl
  have t0':=t0 []
  rw[List.append_nil]at t0'
  simp only[go_sem,gG,bG,aX,l3,f0]
  refine aAP dE D18_0.eq_1 (by kernel_rfl) ?_
  obtain⟨a,ea⟩:∃a,a=d.planes[j].at_:=⟨_,rfl⟩
  rw[←ea]at t0 t0'
  obtain⟨G2,e1,e2,e3,e4⟩:=qM (w0:=w0) (b:=8) (k:=G.length) (x:=[.int .i64 a]) (f:=true) (es:=1) (show _ from g1.keep (H:=G++[some (.row [.int .i64 a])]) fun c e=>aA e) (by simp) rfl rfl (by omega) (by omega)
  rw[List.length_append,List.length_singleton]at e1 e2 e3
  have hk2:∀(i:Nat) c,(j≠0→i≠i1)→G[i]? = some (some c)→G2[i]? = some (some c):=fun i c hi e=>e4 i c hi (aA e)
  have q3:=hk2 b3 _ (fun _=>by omega) gb3
  have q3':=xL q3
  obtain⟨G3,a1,a2,a3,a4⟩:=qM (w0:=w0) (b:=8) (k:=G2.length) (x:=[.int .i64 0]) (f:=true) (es:=1) (show _ from(g2.keep (H:=G2) fun c e=>hk2 i2 c (fun h0=>Ne.symm (hne h0).1) e).keep (H:=G2++[some (.row [.int .i64 0])]) fun c e=>aA e) (by simp) rfl rfl (by omega) (by omega)
  rw[List.length_append,List.length_singleton]at a1 a2 a3
  have hk3:∀(i:Nat) c,(j≠0→i≠i2)→G2[i]? = some (some c)→G3[i]? = some (some c):=fun i c hi e=>a4 i c hi (aA e)
  have r3:=hk3 b3 _ (fun _=>by omega) q3
  have r3':=xL r3
  have r3l:=aD r3
  have hset:∀r,(G3.set b3 r)[b3]? = some r:=fun r=>qF r3l
  simp only[go_sem,gG,bG,aX,gb3,b3G,p1,t0,t0',e1,q3,q3',a1,r3,r3',hset,List.set_set]
  refine⟨(by unfold I64; omega),?_⟩
  have hnew1:(d.planes.take (j+1)).map (·.at_)=(d.planes.take j).map (·.at_)++[a]:=by
   rw[List.take_add_one,qA hjl,Option.toList,List.map_append]; simp[ea]
  have hle:G.length≤G3.length:=by omega
  have keepN:∀(i:Nat) c,(j≠0→i≠i1∧i≠i2)→i≠b3→G[i]? = some (some c)→∀r,(G3.set b3 r)[i]? = some (some c):=fun i c hi hb e r=>by
   rw[qB (Ne.symm hb)]
   exact hk3 i c (fun h0=>(hi h0).2) (hk2 i c (fun h0=>(hi h0).1) e)
  have:=ih (j+1,G3.set b3 (some (.row [.sl (.own (G.length+1) 0) (j+1) 1 false,.sl (.own (G2.length+1) 0) (j+1) 1 false,.nilS])),.sl (.own (G.length+1) 0) (j+1) 1 false,.sl (.own (G2.length+1) 0) (j+1) 1 false,G.length+1,G2.length+1)
   ⟨by simp only; omega,⟨by simp only[List.length_set]; have:=sG.1; omega,fun i c e=>keepN i c (fun _=>by have:=aD e; omega) (by have:=aD e; omega) (sG.2 _ _ e) _⟩,keepN b2 _ (fun _=>by omega) (by omega) gb2 _,hset _,by have:=aD gb3; simp only; omega,by have:=aD gb3; simp only; omega,fun _=>by simp only[List.length_set]; omega,?_,?_⟩ (by simp only; omega)
  ·simpa using this
  ·refine .inr ⟨by simp,rfl,?_,by simp[hnew1,aN]; omega⟩
   simp only
   have hb3:b3<G.length:=aD gb3
   rw[qB (by omega),hk3 (G.length+1) _ (fun h0=>by have:=(hne h0).2; omega) e3,hnew1]
   simp[aN]
  ·refine .inr ⟨by simp,rfl,?_,by simp[aN]⟩
   simp only
   have hb3:b3<G.length:=aD gb3
   rw[qB (by omega),a3]
   simp[aN,List.replicate_succ']
 ·have f0:¬(j:Int)<d.planes.length:=by omega
  obtain rfl:j=d.planes.length:=by omega
  simp only[go_sem,gG,bG,aX,l3,f0]
  rw[List.take_length]at g1
  obtain⟨K1,eK1⟩:∃K1:Heap,K1=G.set b3 none:=⟨_,rfl⟩
  have hb3:b3<G.length:=aD gb3
  have k1l:K1.length=G.length:=by rw[eK1,List.length_set]
  have sK1:aB K0 K1:=⟨by have:=sG.1; omega,fun i c e=>by rw[eK1,qB (by have:=aD e; omega)]; exact sG.2 _ _ e⟩
  have xK1:K1[b3]? = some none:=by rw[eK1,qF hb3]
  have K1b2:K1[b2]? = some (some (.row [.nilS,.nilS,.nilS])):=by rw[eK1,qB (by omega)]; exact gb2
  have K1g:K1[h.length]? = some (some (.row (aX v))):=sK1.2 _ _ g0
  have q1:SlO w0 K1 pv (d.planes.map (·.at_)):=(g1.keep (H:=K1) fun c e=>by rw[eK1,qB (by omega)]; exact e).gro.slo (by simp)
  have q2:SlO w0 K1 lv (List.replicate d.planes.length 0):=(g2.keep (H:=K1) fun c e=>by rw[eK1,qB (by omega)]; exact e).gro.slo (by simp)
  have q1k:SlO w0 (K1.set b2 none) pv (d.planes.map (·.at_)):=(g1.keep (H:=K1.set b2 none) fun c e=>by rw[eK1,qB (by omega),qB (by omega)]; exact e).gro.slo (by simp)
  have q2k:SlO w0 (K1.set b2 none) lv (List.replicate d.planes.length 0):=(g2.keep (H:=K1.set b2 none) fun c e=>by rw[eK1,qB (by omega),qB (by omega)]; exact e).gro.slo (by simp)
  refine fF (S:=Nat×Heap×AV) (F:=fun s=>[(1,.ptr (.own h.length 0)),(2,.ptr (.own b2 0)),(3,.ptr (.own b3 0)),(5,.int .i64 s.1)]) (H:=fun s=>s.2.1) (meas:=fun s=>d.people.length - s.1)
   (Inv:=fun s=>s.1≤d.people.length∧Gro K1 s.2.1 1 s.1 s.2.2 (aN ((d.people.take s.1).map (·.at_)))∧s.2.1[b3]? = some (some (.row [pv,lv,s.2.2]))) (0,G,.nilS) ⟨by simp,Gro.nil ⟨by simp only; omega,fun i c e=> ?_⟩,gb3⟩ rfl rfl ?_
  ·by_cases e2:b3=i
   ·subst e2; rw[xK1]at e; cases e
   ·rwa [eK1,qB e2]at e
  clear ih gG bG b3G g1 g2 gb2 gb3
  rintro⟨j,H,qv⟩ ⟨hj,gr,gx⟩ ih
  simp only at hj gr gx ih
  refine aP [1,2,3,5] L18_1.eq_1 ?_
  have gH:=gr.sub.2 _ _ K1g
  have bH:=xL gH
  have bxH:=xL gx
  have o1p:=q1.s.one
  have o1l:=q2.s.one
  have o1q:=gr.gro1
  rcases Nat.lt_or_ge j d.people.length with hjl | hjl
  ·have f1:(j:Int)<d.people.length:=by omega
   obtain⟨p,p1,p2K⟩:=hD0.person hjl
   have p2:∀L,rdn w0 (H++L) p 5=some d.people[j].c:=fun L=>((sK1.trans gr.sub).app (L:=L)).rdn (by simpa using p2K [])
   have t0:∀L,rd w0 (H++L) (p.add 0)=some (.int .i64 d.people[j].at_):=fun L=>dG (p2 L) rfl
   have t0':=t0 []
   rw[List.append_nil]at t0'
   obtain⟨a,ea⟩:∃a,a=d.people[j].at_:=⟨_,rfl⟩
   rw[←ea]at t0 t0'
   obtain⟨G2,eG,gG2⟩:=((gr.at1 gx).app (L:=[some (.row [.int .i64 a])])).more (w0:=w0) (b:=8) (k:=H.length) (x:=[.int .i64 a]) (f:=true) (by simp) rfl rfl (by omega) (by omega)
   obtain⟨gG3,gx3⟩:=gG2.unat xK1
   have gx3':=xL gx3
   simp only[go_sem,gH,bH,aX,l4,f1]
   refine aAP dE D18_1.eq_1 (by kernel_rfl) ?_
   simp only[go_sem,gH,bH,aX,gx,bxH,p1,t0,t0',eG,gx3,gx3']
   refine⟨(by unfold I64; omega),?_⟩
   have hnew:aN ((d.people.take (j+1)).map (·.at_))=aN ((d.people.take j).map (·.at_))++[.int .i64 a]:=by
    rw[List.take_add_one,qA hjl,Option.toList,List.map_append]; simp[ea,aN]
   have:=ih (j+1,G2.set b3 (some (.row [pv,lv,.sl (.own (H.length+1) 0) (j+1) 1 false])),.sl (.own (H.length+1) 0) (j+1) 1 false) ⟨by simp only; omega,by simp only; rw[hnew]; exact(by simpa using gG3.setN xK1),qF (aD gx3)⟩ (by simp only; omega)
   simpa using this
  ·have f1:¬(j:Int)<d.people.length:=by omega
   obtain rfl:j=d.people.length:=by omega
   have hb2:=gr.sub.2 _ _ K1b2
   have hb2':=xL hb2
   have hs2:∀r,(H.set b2 r)[b2]? = some r:=fun r=>qF (aD hb2)
   simp only[go_sem,gH,bH,aX,l4,f1,gx,bxH,hb2,hb2',hs2,o1p.1,o1l.1,o1q.1,o1p.2,o1l.2,o1q.2]
   have sK2:aB h (K1.set b2 none):=⟨by have:=s0.1; have:=sK1.1; rw[List.length_set]; omega,fun i c e=>by rw[qB (by have:=aD e; omega)]; exact sK1.2 _ _ (s0.2 _ _ e)⟩
   have sH:∀r,aB (K1.set b2 none) (H.set b2 r):=fun r=>⟨by rw[List.length_set,List.length_set]; exact gr.sub.1,fun i c e=>by
    by_cases e2:b2=i
    ·subst e2; rw[qF (aD K1b2)]at e; cases e
    ·rw[qB e2]at e ⊢; exact gr.sub.2 _ _ e⟩
   rw[List.take_length]at gr
   refine⟨sK2.trans (sH _),⟨pv,lv,qv⟩,rfl,?_,?_,?_⟩
   ·exact q1k.sub (sH _)
   ·exact q2k.sub (sH _)
   ·have g4:Gro K0 (H.set b2 (some (.row [pv,lv,qv]))) 1 d.people.length qv (aN (d.people.map (·.at_))):=by
     refine⟨⟨by rw[List.length_set]; have:=sK1.1; have:=gr.sub.1; omega,fun i c e=>by rw[qB (by have:=aD e; omega)]; exact gr.sub.2 _ _ (sK1.2 _ _ e)⟩,?_⟩
     rcases gr.own with h1 | ⟨io,h1,h2,h3,h4,h5⟩
     ·exact .inl h1
     ·have:=sK1.1
      exact .inr ⟨io,by omega,h2,h3,by rw[qB (by omega)]; exact h4,h5⟩
    exact g4.slo (by simp)
theorem aEp{l:List Int}{j:Nat}{p:Int}(hj:j<l.length):(l.take (j+1)).count p=(l.take j).count p+if l[j]=p then 1 else 0:=by
 rw[List.take_add_one,qA hj,List.count_append,Option.toList,List.count_singleton]
 simp
theorem aHo(d:aQ)(v:cU)(s:aF)(pv:AV)(hS:DayS w0 h d v)(hp:SlI w0 h pv s.planes)(hl:d.places.length≤50)(hn:s.planes.length<1000000):aK Tryz.prog w0 90 [.agg (aX v),pv] h (.bool ((List.range d.places.length).any (fN d s))) h:=by
 refine aM mf90_k fun hb ha=> ?_
 obtain⟨o1,o2,o3,o4,o5⟩:=hS.ones
 obtain⟨l1,l2,l3,l4,l5⟩:=hS.lens
 obtain⟨lp,q,qi,qr⟩:=SlI.use hp
 simp only[go_sem,mf90,o1,o2,o3,o4,o5]
 refine cY (fun j=>[(1,pv),(2,.ptr (.own h.length 0)),(5,.int .i64 j)]) (fun j=>fN d s j=false) d.places.length rfl (fun j hj hall ih=> ?_) (fun es=> ?_)
 ·refine aP [1,2,5] aKO.eq_1 ?_
  have i3:(j:Int)<d.places.length:=by omega
  obtain⟨p,p1,p2⟩:=hS.place hj
  have t0:∀L,rd w0 (h++L) (p.add 0)=some (.int .i64 d.places[j].berths):=fun L=>dG (p2 L) rfl
  have t0':=t0 []
  rw[List.append_nil]at t0'
  simp only[go_sem,l1,i3]
  refine bS (S:=Unit) (fun i _=>[(1,pv),(2,.ptr (.own h.length 0)),(5,.int .i64 j),(6,.int .i64 ((s.planes.take i).count (j:Int):Nat)),(7,.int .i64 (i:Int))]) (fun _ _=>h++[some (.row (aX v))]) (fun _ _=>True) s.planes.length () trivial (by simp) rfl (fun i _ hi _ ih2=> ?_) (fun _ _=> ?_)
  ·refine aP [1,2,5,6,7] aKP.eq_1 ?_
   have i4:(i:Int)<s.planes.length:=by omega
   have r0:=qi i hi
   have r1:=qr i hi
   have hct:=aEp (l:=s.planes) (j:=i) (p:=(j:Int)) hi
   have hcl:(s.planes.take i).count (j:Int)≤i:=Nat.le_trans List.count_le_length (by rw[List.length_take]; omega)
   simp only[go_sem,lp,i4,r0,r1]
   refine⟨fun e=> ?_,fun e=> ?_⟩
   ·rw[if_pos e]at hct
    refine⟨(by unfold I64; omega),(by unfold I64; omega),?_⟩
    have:=ih2 () trivial
    rw[hct]at this
    simpa[aX]using this
   ·rw[if_neg e]at hct
    refine⟨(by unfold I64; omega),?_⟩
    have:=ih2 () trivial
    rw[hct]at this
    simpa[aX]using this
  ·refine aP [1,2,5,6,7] aKP.eq_1 ?_
   have i4:¬(s.planes.length:Int)<s.planes.length:=by omega
   simp only[go_sem,lp,i4,p1,t0,t0',aX]
   rw[List.take_length]
   have hc:fN d s j=decide (d.places[j].berths<s.planes.count (j:Int)):=by rw[fN,aE hj]
   refine⟨fun e=> ?_,fun e=>⟨(by unfold I64; omega),ih (by rw[hc]; exact decide_eq_false e)⟩⟩
   have:(List.range d.places.length).any (fN d s)=true:=List.any_eq_true.2 ⟨j,List.mem_range.2 hj,by rw[hc]; exact decide_eq_true e⟩
   rw[this]
 refine aP [1,2,5] aKO.eq_1 ?_
 have x1:¬(d.places.length:Int)<d.places.length:=by omega
 simp only[go_sem,l1,x1]
 have:(List.range d.places.length).any (fN d s)=false:=List.any_eq_false.2 fun x hx=>by simp[es x (List.mem_range.1 hx)]
 rw[this]
theorem aOb{n:Nat}{l:List Int}{p:dL}(hp:bR n p.at_=true)(hl:l.length=n){j:Nat}(hj:j<n):(pZ n l p).getD j 0=l.getD j 0+if p.at_=(j:Int)then 1 else 0:=by
 have hb:=iJ.1 hp
 rw[pZ,if_pos hp]
 by_cases e:p.at_=(j:Int)
 ·rw[if_pos e,e,Int.toNat_natCast,aE (by simpa using(by omega:j<l.length))]
  simp
 ·rw[if_neg e,Int.add_zero]
  simp only[List.getD_eq_getElem?_getD]
  rw[qB (by omega)]
theorem aAQ{d:aQ}{j:Nat}:fN d (bV d) j=decide ((d.places.getD j ⟨0,false⟩).berths<((d.planes.map (·.at_)).count (j:Int):Nat)):=rfl
theorem zP{n:Nat}{l:List dL}(hl:∀p∈l,bR n p.at_=true){j:Nat}(hj:j<n):(tC n l).getD j 0=((l.map (·.at_)).count (j:Int):Nat):=by
 have:∀(l:List dL) (c:List Int),(∀p∈l,bR n p.at_=true)→c.length=n→(l.foldl (pZ n) c).getD j 0=c.getD j 0+((l.map (·.at_)).count (j:Int):Nat):=by
  intro l
  induction l with
  | nil=>intro c _ _; simp
  | cons p l ih=>
   intro c hp hc
   rw[List.foldl_cons,ih _ (fun q hq=>hp q (List.mem_cons_of_mem _ hq)) (by rw[aC5,hc]),aOb (hp p (List.mem_cons_self)) hc hj,List.map_cons,List.count_cons]
   by_cases e:p.at_=(j:Int)
   ·simp[e]; omega
   ·simp[e]
 rw[tC,this l _ hl (by simp),List.getD_eq_getElem?_getD]
 simp[hj]
structure DaySp(d:aQ):Prop where
 n:inB d.places.length 1 5=true
 l:d.links.length≤20
 p:d.planes.length≤2
 q:d.people.length≤4
 w:inB d.weathers.length 1 6=true
 s:inB (aL d) 1 5=true
 br:∀j,j<d.places.length→inB (d.places.getD j ⟨0,false⟩).berths 0 2=true
 lk:∀j,j<d.links.length→(bR d.places.length (d.links.getD j ⟨0,0⟩).one=true∧bR d.places.length (d.links.getD j ⟨0,0⟩).other=true∧(d.links.getD j ⟨0,0⟩).one≠(d.links.getD j ⟨0,0⟩).other)∧∀k,k<j→eQ (d.links.getD k ⟨0,0⟩) (d.links.getD j ⟨0,0⟩)=false
 pn:∀j,j<d.planes.length→fE d.places.length (d.planes.getD j ⟨0,0,0,0,0⟩)=true
 pe:∀j,j<d.people.length→eE d.places.length (d.people.getD j ⟨0,0,0,0,0⟩)=true
 we:∀j,j<d.weathers.length→(oY d j).length=aL d∧∀t,t<(oY d j).length→qL d.places.length ((oY d j).getD t 0)=true
 cr:(List.range d.places.length).any (fN d (bV d))=false
theorem aDk{l:List dD}{j:Nat}(hj:j≤l.length){f:dD→Bool}:(l.take j).any f=false↔∀k,k<j→f (l.getD k ⟨0,0⟩)=false:=by
 rw[List.any_eq_false]
 constructor
 ·intro h k hk
  have:=h (l.getD k ⟨0,0⟩) (by rw[aE (by omega)]; exact List.mem_take_iff_getElem.2 ⟨k,by omega,rfl⟩)
  simpa using this
 ·intro h x hx
  obtain⟨k,hk,rfl⟩:=List.mem_take_iff_getElem.1 hx
  have:=h k (by omega)
  rw[aE (by omega)]at this
  simpa using this
theorem xS{d:aQ}:fX d=true↔DaySp d:=by
 have hpl:∀p:dL,fE d.places.length p=true→bR d.places.length p.at_=true:=fun p h=>by
  simp only[fE,Bool.and_eq_true]at h; exact h.1
 have hW:∀j,j<d.weathers.length→d.weathers.getD j []=oY d j:=fun j _=>rfl
 constructor
 ·intro e
  have dg:=tA e
  simp only[fX,Bool.and_eq_true,decide_eq_true_eq,←cS (x:=(⟨0,0,0,0,0⟩:dL)),←cS (x:=(⟨0,0,0,0,0⟩:gV)),←cS (x:=([]:List Int)),bZ]at e
  obtain⟨e1,e2,e3,e4,e5,e6,e7,e8,e9,e10⟩:=e
  refine⟨e1,e2,e3,e4,e5,?_,fun j hj=> ?_,fun j hj=> ?_,e6,e7,fun j hj=> ?_,?_⟩
  ·have:=dg.s0; have:=dg.s1; simp[inB]; omega
  ·have:=e10 j hj; simp only[oO,Bool.and_eq_true]at this; exact this.1
  ·have:=e8 j hj
   simp only[uI,Bool.and_eq_true,decide_eq_true_eq,Bool.not_eq_true']at this
   exact⟨⟨this.1,this.2.1,this.2.2.1⟩,(aDk (by omega)).1 this.2.2.2⟩
  ·have:=e9 j hj
   simp only[fC,Bool.and_eq_true,decide_eq_true_eq,←cS (x:=(0:Int)),bZ]at this
   exact this.2
  ·rw[List.any_eq_false]
   intro j hj
   have hj:=List.mem_range.1 hj
   have:=e10 j hj
   simp only[oO,Bool.and_eq_true,decide_eq_true_eq]at this
   have hc:=zP (n:=d.places.length) (l:=d.planes) (fun p hp=>by
    obtain⟨i,hi,rfl⟩:=List.getElem_of_mem hp
    have:=e6 i hi
    rw[aE hi]at this; exact hpl _ this) hj
   rw[hc]at this
   rw[aAQ,decide_eq_true_eq]
   omega
 ·intro s
  have hs:=s.s
  simp only[fX,Bool.and_eq_true,decide_eq_true_eq,←cS (x:=(⟨0,0,0,0,0⟩:dL)),←cS (x:=(⟨0,0,0,0,0⟩:gV)),←cS (x:=([]:List Int)),bZ]
  refine⟨s.n,s.l,s.p,s.q,s.w,s.pn,s.pe,fun j hj=> ?_,fun j hj=> ?_,fun j hj=> ?_⟩
  ·obtain⟨⟨h1,h2,h3⟩,h4⟩:=s.lk j hj
   simp only[uI,Bool.and_eq_true,decide_eq_true_eq,Bool.not_eq_true']
   exact⟨h1,h2,h3,(aDk (by omega)).2 h4⟩
  ·obtain⟨h1,h2⟩:=s.we j hj
   simp only[fC,Bool.and_eq_true,decide_eq_true_eq,←cS (x:=(0:Int)),bZ]
   exact⟨by rw[hW j hj,h1]; exact hs,h1,h2⟩
  ·have hc:=zP (n:=d.places.length) (l:=d.planes) (fun p hp=>by
    obtain⟨i,hi,rfl⟩:=List.getElem_of_mem hp
    have:=s.pn i hi
    rw[aE hi]at this; exact hpl _ this) hj
   have h2:=List.any_eq_false.1 s.cr j (List.mem_range.2 hj)
   rw[aAQ,decide_eq_true_eq]at h2
   simp only[oO,Bool.and_eq_true,decide_eq_true_eq,hc]
   exact⟨s.br j hj,by omega⟩
theorem iB{d:aQ}(h:¬DaySp d):fX d=false:=by
 rw[Bool.eq_false_iff]; exact fun e=>h (xS.1 e)
theorem aIG(d:aQ)(v:cU)(hR:kU w0 h d v):aK Tryz.prog w0 48 [.agg (aX v)] h (.bool (fX d)) h:=by
 refine cJ trivial (aO mf48_k fun hb ha=> ?_)
 obtain⟨o1,o2,o3,o4,o5⟩:=hR.ones
 obtain⟨l1,l2,l3,l4,l5⟩:=hR.lens
 have n1:=hR.l1
 have n2:=hR.l2
 have n3:=hR.l3
 have n4:=hR.l4
 have n5:=hR.l5
 obtain⟨K0,eK0⟩:∃K0:Heap,K0=h++[some (.row (aX v))]:=⟨_,rfl⟩
 have s0:aB h K0:=eK0▸aB.refl.app
 have g0:K0[h.length]? = some (some (.row (aX v))):=by rw[eK0]; simp
 have b0:=xL g0
 have hR0:=hR.sub s0
 simp only[go_sem,mf48,o1,o2,o3,o4,o5]
 rw[show h++[some (Blk.row [v.pl,v.ln,v.pn,v.pe,v.we])]=K0 by rw[eK0]; rfl]
 simp only[go_sem,g0,b0,aX,l1,l2,l3,l4,l5]
 refine aC (hT _ _ _).v ?_
 cases c1:inB d.places.length 1 5 with
 | false=>
  simp only[go_sem]
  exact⟨s0,by rw[iB fun s=>by rw[s.n]at c1; cases c1]⟩
 | true=>
 by_cases c2:(20:Int)<d.links.length
 ·simp only[go_sem,g0,b0,aX,l1,l2,l3,l4,l5,c2]
  exact⟨s0,by rw[iB fun s=>by have:=s.l; omega]⟩
 by_cases c3:(2:Int)<d.planes.length
 ·simp only[go_sem,g0,b0,aX,l1,l2,l3,l4,l5,c2,c3]
  exact⟨s0,by rw[iB fun s=>by have:=s.p; omega]⟩
 by_cases c4:(4:Int)<d.people.length
 ·simp only[go_sem,g0,b0,aX,l1,l2,l3,l4,l5,c2,c3,c4]
  exact⟨s0,by rw[iB fun s=>by have:=s.q; omega]⟩
 simp only[go_sem,g0,b0,aX,l1,l2,l3,l4,l5,c2,c3,c4]
 refine aC (hT _ _ _).v ?_
 cases c5:inB d.weathers.length 1 6 with
 | false=>
  simp only[go_sem]
  exact⟨s0,by rw[iB fun s=>by rw[s.w]at c5; cases c5]⟩
 | true=>
 have hw0:0<d.weathers.length:=by simp only[inB,Bool.and_eq_true,decide_eq_true_eq]at c5; omega
 obtain⟨pw,xw,w1,w2,w3⟩:=hR0.weathers.at_ (j:=0) hw0
 have l6:=(SlI.use w3).1
 rw[aBy (x:=[]) hw0]at l6
 change _=some (AV.int .i64 (aL d:Nat))at l6
 have w2':=w2 []
 rw[List.append_nil]at w2'
 simp only[go_sem,g0,b0,aX,l5,w1,w2,w2',l6]
 refine aC (hT _ _ _).v ?_
 cases c6:inB (aL d) 1 5 with
 | false=>
  simp only[go_sem]
  exact⟨s0,by rw[iB fun s=>by rw[s.s]at c6; cases c6]⟩
 | true=>
 simp only[go_sem]
 have c6':=c6
 simp only[inB,Bool.and_eq_true,decide_eq_true_eq]at c1 c6'
 refine cY (fun j=>[(1,.ptr (.own h.length 0)),(3,.int .i64 (d.places.length:Int)),(4,.int .i64 j)]) (fun j=>inB (d.places.getD j ⟨0,false⟩).berths 0 2=true) d.places.length rfl (fun j hj hall ih=> ?_) (fun f1=> ?_)
 ·refine aP [1,3,4] aLg.eq_1 ?_
  have i3:(j:Int)<d.places.length:=by omega
  obtain⟨p,p1,p2⟩:=hR0.toDayS.place hj
  have t0:∀L,rd w0 (K0++L) (p.add 0)=some (.int .i64 d.places[j].berths):=fun L=>dG (p2 L) rfl
  have t0':=t0 []
  rw[List.append_nil]at t0'
  rw[aE hj]at ih
  simp only[go_sem,i3,g0,b0,aX,p1,t0,t0']
  refine aC (hT _ _ _).v ?_
  cases e:inB d.places[j].berths 0 2 with
  | false=>
   simp only[go_sem]
   exact⟨s0,by rw[iB fun s=>by have:=s.br j hj; rw[aE hj,e]at this; cases this]⟩
  | true=>
   simp only[go_sem]
   exact⟨(by unfold I64; omega),ih e⟩
 refine aP [1,3,4] aLg.eq_1 ?_
 have x1:¬(d.places.length:Int)<d.places.length:=by omega
 simp only[go_sem,x1]
 have hin:∀x:Int,inB x 0 ((d.places.length:Int) - 1)=bR d.places.length x:=fun x=>rfl
 refine fF (S:=Nat×Heap) (F:=fun s=>[(1,.ptr (.own h.length 0)),(3,.int .i64 (d.places.length:Int)),(5,.int .i64 s.1)]) (H:=fun s=>s.2) (meas:=fun s=>d.links.length - s.1)
  (Inv:=fun s=>s.1≤d.links.length∧aB K0 s.2∧∀j,j<s.1→(bR d.places.length (d.links.getD j ⟨0,0⟩).one=true∧bR d.places.length (d.links.getD j ⟨0,0⟩).other=true∧(d.links.getD j ⟨0,0⟩).one≠(d.links.getD j ⟨0,0⟩).other)∧∀k,k<j→eQ (d.links.getD k ⟨0,0⟩) (d.links.getD j ⟨0,0⟩)=false)
  (0,K0) ⟨Nat.zero_le _,aB.refl,fun j hj=>absurd hj (by simp)⟩ rfl rfl ?_
 rintro⟨j,G⟩ ⟨hj,sG,f2⟩ ih
 simp only at hj sG f2 ih
 refine aP [1,3,5] L48_2.eq_1 ?_
 have gG:=sG.2 _ _ g0
 have bG:=xL gG
 rcases Nat.lt_or_ge j d.links.length with hjl | hjl
 ·have i3:(j:Int)<d.links.length:=by omega
  obtain⟨p,p1,p2K⟩:=hR0.toDayS.link hjl
  have p2:∀L,rdn w0 (G++L) p 2=some d.links[j].c:=fun L=>(sG.app (L:=L)).rdn (by simpa using p2K [])
  have p2':=p2 []
  rw[List.append_nil]at p2'
  obtain⟨g,eg⟩:∃g,g=d.links[j]:=⟨_,rfl⟩
  rw[←eg]at p2 p2'
  have og:g.c.all one=true:=rfl
  have eg2:d.links.getD j ⟨0,0⟩=g:=by rw[aE hjl,eg]
  have sG2:aB K0 (G++[some (.row g.c)]):=sG.app
  simp (disch:=(unfold I64; omega)) only[go_sem,cZ,gG,bG,aX,l2,i3,p1,p2,p2',dD.c,og]
  refine aC (hT _ _ _).v ?_
  rw[hin]
  cases e1:bR d.places.length g.one with
  | false=>
   simp only[go_sem]
   exact⟨s0.trans sG2,by rw[iB fun s=>by have:=(s.lk j hjl).1.1; rw[eg2,e1]at this; cases this]⟩
  | true=>
  simp (disch:=(unfold I64; omega)) only[go_sem,cZ]
  refine aC (hT _ _ _).v ?_
  rw[hin]
  cases e2:bR d.places.length g.other with
  | false=>
   simp only[go_sem]
   exact⟨s0.trans sG2,by rw[iB fun s=>by have:=(s.lk j hjl).1.2.1; rw[eg2,e2]at this; cases this]⟩
  | true=>
  by_cases e3:g.one=g.other
  ·simp only[go_sem,e3]
   exact⟨s0.trans sG.app,by rw[iB fun s=>by have:=(s.lk j hjl).1.2.2; rw[eg2]at this; exact this e3]⟩
  simp only[go_sem,e3]
  obtain⟨b6,eb6⟩:∃b,b=G.length:=⟨_,rfl⟩
  rw[←eb6]
  have g6:(G++[some (.row g.c)])[b6]? = some (some (.row g.c)):=by rw[eb6]; simp
  refine fF (S:=Nat×Heap) (F:=fun s=>[(1,.ptr (.own h.length 0)),(3,.int .i64 (d.places.length:Int)),(5,.int .i64 j),(6,.ptr (.own b6 0)),(7,.int .i64 s.1)]) (H:=fun s=>s.2) (meas:=fun s=>j - s.1)
   (Inv:=fun s=>s.1≤j∧aB (G++[some (.row g.c)]) s.2∧∀k,k<s.1→eQ (d.links.getD k ⟨0,0⟩) g=false) (0,G++[some (.row g.c)]) ⟨Nat.zero_le _,aB.refl,fun k hk=>absurd hk (by simp)⟩ rfl rfl ?_
  rintro⟨k,H⟩ ⟨hk,sH,f3⟩ ih2
  simp only at hk sH f3 ih2
  refine aP [1,3,5,6,7] aLf.eq_1 ?_
  have sKH:aB K0 H:=sG2.trans sH
  have gH:=sKH.2 _ _ g0
  have bH:=xL gH
  have q6:=sH.2 _ _ g6
  have q6':=xL q6
  rcases Nat.lt_or_ge k j with hkl | hkl
  ·have i4:(k:Int)<j:=by omega
   have hkl2:k<d.links.length:=by omega
   obtain⟨p',p1',p2K'⟩:=hR0.toDayS.link hkl2
   have u2:∀L,rdn w0 (H++L) p' 2=some d.links[k].c:=fun L=>(sKH.app (L:=L)).rdn (by simpa using p2K' [])
   have u2':=u2 []
   rw[List.append_nil]at u2'
   obtain⟨m,em⟩:∃m,m=d.links[k]:=⟨_,rfl⟩
   rw[←em]at u2 u2'
   have om:m.c.all one=true:=rfl
   have em2:d.links.getD k ⟨0,0⟩=m:=by rw[aE hkl2,em]
   have hls:eQ m g=((decide (m.one=g.one)&&decide (m.other=g.other))||(decide (m.one=g.other)&&decide (m.other=g.one))):=by
    rw[eQ]; cases m; cases g; simp[dD.mk.injEq]
   have hno:eQ m g=true→fX d=false:=fun e=>iB fun s=>by
    have:=(s.lk j hjl).2 k hkl
    rw[eg2,em2,e]at this; cases this
   have hyes:eQ m g=false→lp Tryz.prog w0 none 273 (List.length h) (resK w0 [RV.t 2] fun v' h'=>aB h h'∧v'=AV.bool (fX d)) aLf _ [(1,.ptr (.own h.length 0)),(3,.int .i64 (d.places.length:Int)),(5,.int .i64 j),(6,.ptr (.own b6 0)),(7,.int .i64 ((k:Int)+1))] (H++[some (.row m.c)]):=fun e=>by
    have:=ih2 (k+1,H++[some (.row m.c)]) ⟨by simp only; omega,sH.app,fun q hq=>by
     simp only at hq
     rcases Nat.lt_or_ge q k with h1 | h1
     ·exact f3 q h1
     ·obtain rfl:q=k:=by omega
      rw[em2]; exact e⟩ (by simp only; omega)
    simpa using this
   rw[hls]at hno hyes
   by_cases a1:m.one=g.one
   ·by_cases a2:m.other=g.other
    ·simp only[go_sem,gH,bH,aX,i4,p1',u2,u2',dD.c,om,q6,q6',a1,a2]
     exact⟨s0.trans sKH.app,by rw[hno (by simp[a1,a2])]⟩
    ·by_cases a3:g.one=g.other
     ·exact absurd a3 e3
     ·simp only[go_sem,gH,bH,aX,i4,p1',u2,u2',dD.c,om,q6,q6',a1,a2,a3]
      exact⟨(by unfold I64; omega),by have:=hyes (by simp[a1,a2,a3]); simpa[dD.c,a1]using this⟩
   ·by_cases a3:m.one=g.other
    ·by_cases a4:m.other=g.one
     ·simp only[go_sem,gH,bH,aX,i4,p1',u2,u2',dD.c,om,q6,q6',a1,a3,a4]
      have hh:∀L,aB h (H++L):=fun L=>s0.trans sKH.app
      rw[hno (by simp[a3,a4])]
      exact⟨fun _=>⟨fun _=>⟨hh _,rfl⟩,fun _=>⟨hh _,rfl⟩⟩,fun _=>⟨hh _,rfl⟩⟩
     ·simp only[go_sem,gH,bH,aX,i4,p1',u2,u2',dD.c,om,q6,q6',a1,a3,a4]
      exact⟨fun e=>absurd (a3.trans e) a1,fun _=>⟨(by unfold I64; omega),by have:=hyes (by simp[a1,a4]); simpa[dD.c,a3]using this⟩⟩
    ·simp only[go_sem,gH,bH,aX,i4,p1',u2,u2',dD.c,om,q6,q6',a1,a3]
     exact⟨(by unfold I64; omega),by have:=hyes (by simp[a1,a3]); simpa[dD.c]using this⟩
  ·have i4:¬(k:Int)<j:=by omega
   obtain rfl:k=j:=by omega
   simp only[go_sem,i4]
   have:=ih (k+1,H) ⟨by simp only; omega,sKH,fun q hq=>by
    simp only at hq
    rcases Nat.lt_or_ge q k with h1 | h1
    ·exact f2 q h1
    ·obtain rfl:q=k:=by omega
     rw[eg2]; exact⟨⟨e1,e2,e3⟩,f3⟩⟩ (by simp only; omega)
   exact⟨(by unfold I64; omega),by simpa using this⟩
 ·have i3:¬(j:Int)<d.links.length:=by omega
  obtain rfl:j=d.links.length:=by omega
  simp only[go_sem,gG,bG,aX,l2,i3]
  clear ih gG bG
  refine fF (S:=Nat×Heap) (F:=fun s=>[(1,.ptr (.own h.length 0)),(3,.int .i64 (d.places.length:Int)),(9,.int .i64 s.1)]) (H:=fun s=>s.2) (meas:=fun s=>d.planes.length - s.1)
   (Inv:=fun s=>s.1≤d.planes.length∧aB K0 s.2∧∀j,j<s.1→fE d.places.length (d.planes.getD j ⟨0,0,0,0,0⟩)=true)
   (0,G) ⟨Nat.zero_le _,sG,fun j hj=>absurd hj (by simp)⟩ rfl rfl ?_
  clear sG
  rintro⟨j,G⟩ ⟨hj,sG,f3⟩ ih
  simp only at hj sG f3 ih
  refine aP [1,3,9] L48_3.eq_1 ?_
  have gG:=sG.2 _ _ g0
  have bG:=xL gG
  rcases Nat.lt_or_ge j d.planes.length with hjl | hjl
  ·have i3:(j:Int)<d.planes.length:=by omega
   obtain⟨p,p1,p2K⟩:=hR0.toDayS.plane hjl
   have p2:∀L,rdn w0 (G++L) p 5=some d.planes[j].c:=fun L=>(sG.app (L:=L)).rdn (by simpa using p2K [])
   have p2':=p2 []
   rw[List.append_nil]at p2'
   obtain⟨g,eg⟩:∃g,g=d.planes[j]:=⟨_,rfl⟩
   rw[←eg]at p2 p2'
   have og:g.c.all one=true:=rfl
   have eg2:d.planes.getD j ⟨0,0,0,0,0⟩=g:=by rw[aE hjl,eg]
   have sG2:aB h (G++[some (.row g.c)]):=s0.trans sG.app
   have hno:fE d.places.length g=false→fX d=false:=fun e=>iB fun s=>by
    have:=s.pn j hjl
    rw[eg2,e]at this; cases this
   simp (disch:=(unfold I64; omega)) only[go_sem,cZ,gG,bG,aX,l3,i3,p1,p2,p2',dL.c,og]
   refine aC (hT _ _ _).v ?_
   rw[hin]
   cases e1:bR d.places.length g.at_ with
   | false=>
    simp only[go_sem]
    exact⟨sG2,by rw[hno (by simp[fE,e1])]⟩
   | true=>
   simp (disch:=(unfold I64; omega)) only[go_sem,cZ]
   refine aC (hT _ _ _).v ?_
   rw[hin]
   cases e2:bR d.places.length g.home with
   | false=>
    simp only[go_sem]
    exact⟨sG2,by rw[hno (by simp[fE,e2])]⟩
   | true=>
   simp only[go_sem]
   refine aC (hT _ _ _).v ?_
   cases e3:inB g.seats 0 20 with
   | false=>
    simp only[go_sem]
    exact⟨sG2,by rw[hno (by simp[fE,e3])]⟩
   | true=>
   simp only[go_sem]
   refine aC (hT _ _ _).v ?_
   cases e4:inB g.duty 0 20 with
   | false=>
    simp only[go_sem]
    exact⟨sG2,by rw[hno (by simp[fE,e4])]⟩
   | true=>
   simp only[go_sem]
   refine aC (hT _ _ _).v ?_
   cases e5:inB g.away 0 1000000 with
   | false=>
    simp only[go_sem]
    exact⟨sG2,by rw[hno (by simp[fE,e5])]⟩
   | true=>
   simp only[go_sem]
   have:=ih (j+1,G++[some (.row g.c)]) ⟨by simp only; omega,sG.app,fun q hq=>by
    simp only at hq
    rcases Nat.lt_or_ge q j with h1 | h1
    ·exact f3 q h1
    ·obtain rfl:q=j:=by omega
     rw[eg2]; simp[fE,e1,e2,e3,e4,e5]⟩ (by simp only; omega)
   exact⟨(by unfold I64; omega),by simpa[dL.c]using this⟩
  have i3:¬(j:Int)<d.planes.length:=by omega
  obtain rfl:j=d.planes.length:=by omega
  simp only[go_sem,gG,bG,aX,l3,i3]
  clear ih gG bG
  refine fF (S:=Nat×Heap) (F:=fun s=>[(1,.ptr (.own h.length 0)),(3,.int .i64 (d.places.length:Int)),(11,.int .i64 s.1)]) (H:=fun s=>s.2) (meas:=fun s=>d.people.length - s.1)
   (Inv:=fun s=>s.1≤d.people.length∧aB K0 s.2∧∀j,j<s.1→eE d.places.length (d.people.getD j ⟨0,0,0,0,0⟩)=true)
   (0,G) ⟨Nat.zero_le _,sG,fun j hj=>absurd hj (by simp)⟩ rfl rfl ?_
  clear sG
  rintro⟨j,G⟩ ⟨hj,sG,f4⟩ ih
  simp only at hj sG f4 ih
  refine aP [1,3,11] L48_4.eq_1 ?_
  have gG:=sG.2 _ _ g0
  have bG:=xL gG
  rcases Nat.lt_or_ge j d.people.length with hjl | hjl
  ·have i3:(j:Int)<d.people.length:=by omega
   obtain⟨p,p1,p2K⟩:=hR0.toDayS.person hjl
   have p2:∀L,rdn w0 (G++L) p 5=some d.people[j].c:=fun L=>(sG.app (L:=L)).rdn (by simpa using p2K [])
   have p2':=p2 []
   rw[List.append_nil]at p2'
   obtain⟨g,eg⟩:∃g,g=d.people[j]:=⟨_,rfl⟩
   rw[←eg]at p2 p2'
   have og:g.c.all one=true:=rfl
   have eg2:d.people.getD j ⟨0,0,0,0,0⟩=g:=by rw[aE hjl,eg]
   have sG2:aB h (G++[some (.row g.c)]):=s0.trans sG.app
   have hno:eE d.places.length g=false→fX d=false:=fun e=>iB fun s=>by
    have:=s.pe j hjl
    rw[eg2,e]at this; cases this
   simp (disch:=(unfold I64; omega)) only[go_sem,cZ,gG,bG,aX,l4,i3,p1,p2,p2',gV.c,og]
   refine aC (hT _ _ _).v ?_
   rw[hin]
   cases e1:bR d.places.length g.at_ with
   | false=>
    simp only[go_sem]
    exact⟨sG2,by rw[hno (by simp[eE,e1])]⟩
   | true=>
   simp (disch:=(unfold I64; omega)) only[go_sem,cZ]
   refine aC (hT _ _ _).v ?_
   rw[hin]
   cases e2:bR d.places.length g.to with
   | false=>
    simp only[go_sem]
    exact⟨sG2,by rw[hno (by simp[eE,e2])]⟩
   | true=>
   simp only[go_sem]
   refine aC (hT _ _ _).v ?_
   cases e3:inB g.seats 1 20 with
   | false=>
    simp only[go_sem]
    exact⟨sG2,by rw[hno (by simp[eE,e3])]⟩
   | true=>
   simp only[go_sem]
   refine aC (hT _ _ _).v ?_
   cases e4:inB g.strand 0 1000000 with
   | false=>
    simp only[go_sem]
    exact⟨sG2,by rw[hno (by simp[eE,e4])]⟩
   | true=>
   simp only[go_sem]
   refine aC (hT _ _ _).v ?_
   cases e5:inB g.lodged 0 1000000 with
   | false=>
    simp only[go_sem]
    exact⟨sG2,by rw[hno (by simp[eE,e5])]⟩
   | true=>
   simp only[go_sem]
   have:=ih (j+1,G++[some (.row g.c)]) ⟨by simp only; omega,sG.app,fun q hq=>by
    simp only at hq
    rcases Nat.lt_or_ge q j with h1 | h1
    ·exact f4 q h1
    ·obtain rfl:q=j:=by omega
     rw[eg2]; simp[eE,e1,e2,e3,e4,e5]⟩ (by simp only; omega)
   exact⟨(by unfold I64; omega),by simpa[gV.c]using this⟩
  have i3:¬(j:Int)<d.people.length:=by omega
  obtain rfl:j=d.people.length:=by omega
  simp only[go_sem,gG,bG,aX,l4,i3]
  clear ih
  have hRG:=hR0.sub sG
  refine cY (fun j=>[(1,.ptr (.own h.length 0)),(3,.int .i64 (d.places.length:Int)),(13,.int .i64 j)]) (fun j=>(oY d j).length=aL d∧∀t,t<(oY d j).length→qL d.places.length ((oY d j).getD t 0)=true) d.weathers.length rfl (fun j hj hall ih=> ?_) (fun f5=> ?_)
  ·refine aP [1,3,13] aLd.eq_1 ?_
   have i3:(j:Int)<d.weathers.length:=by omega
   obtain⟨p,x,p1,p2,p3⟩:=hRG.weathers.at_ (j:=j) hj
   rw[←aLU hj]at p3
   obtain⟨lx,q,qi,qr⟩:=SlI.use p3
   have p2':=p2 []
   rw[List.append_nil]at p2'
   obtain⟨pz,xz,z1,z2,z3⟩:=hRG.weathers.at_ (j:=0) hw0
   have lz:=(SlI.use z3).1
   rw[aBy (x:=[]) hw0]at lz
   change _=some (AV.int .i64 (aL d:Nat))at lz
   have z2':=z2 []
   rw[List.append_nil]at z2'
   simp only[go_sem,gG,bG,aX,l5,i3,p1,p2,p2',lx,z1,z2,z2',lz]
   refine⟨fun e=> ?_,fun e=> ?_⟩
   ·exact⟨s0.trans sG,by rw[iB fun s=>by have:=(s.we j hj).1; omega]⟩
   have e':(oY d j).length=aL d:=by omega
   refine cY (fun t=>[(1,.ptr (.own h.length 0)),(3,.int .i64 (d.places.length:Int)),(13,.int .i64 j),(14,.int .i64 t)]) (fun t=>qL d.places.length ((oY d j).getD t 0)=true) (oY d j).length rfl (fun t ht _ ih2=> ?_) (fun f6=> ?_)
   ·refine aP [1,3,13,14] aLe.eq_1 ?_
    have i4:(t:Int)<(oY d j).length:=by omega
    have r1:=qi t ht
    have r2:=qr t ht
    have r2':=r2 []
    rw[List.append_nil]at r2'
    have hs:=nY (n:=d.places.length) (by omega)
    have hpw:(2^d.places.length:Nat)≤2^50:=Nat.pow_le_pow_right (by omega) n1
    have hp1:1≤2^d.places.length:=Nat.one_le_two_pow
    rw[aE ht]at ih2
    have hbit:inB ((oY d j)[t]) 0 (((2^d.places.length:Nat):Int) - 1)=qL d.places.length ((oY d j)[t]):=rfl
    have wq:=cZ (n:=((2^d.places.length:Nat):Int) - 1) (by unfold I64; omega)
    simp only[go_sem,gG,bG,aX,p1,p2,p2',lx,i4,r1,r2,r2',hs,wq]
    refine aC (hT _ _ _).v ?_
    rw[hbit]
    cases e3:qL d.places.length ((oY d j)[t])with
    | false=>
     simp only[go_sem]
     exact⟨s0.trans sG,by rw[iB fun s=>by have:=(s.we j hj).2 t ht; rw[aE ht,e3]at this; cases this]⟩
    | true=>
     simp only[go_sem]
     exact⟨(by unfold I64; omega),ih2 e3⟩
   ·refine aP [1,3,13,14] aLe.eq_1 ?_
    have i4:¬((oY d j).length:Int)<(oY d j).length:=by omega
    simp only[go_sem,gG,bG,aX,p1,p2,p2',lx,i4]
    exact⟨(by unfold I64; omega),ih ⟨e',f6⟩⟩
  refine aP [1,3,13] aLd.eq_1 ?_
  have i3:¬(d.weathers.length:Int)<d.weathers.length:=by omega
  simp only[go_sem,gG,bG,aX,l5,i3]
  refine iS dE [0,1,2,3,4,5,6] [o_ 267 (.load (.t 1) (some 5)),o_ 268 (.load (.t 1) (some 5)),.call (some 269) none (f_ 18) [(.t 268)]] [([(0,o_ 267 (.load (.t 1) (some 5)))],[o_ 270 (.fld (.t 269) 0 none),.call (some 271) none (f_ 90) [(.t 267),(.t 270)],o_ 272 (.un .not (.t 271)),o_ 2 (m_ 272)])] rfl rfl (by kernel_rfl) ?_
  simp only[go_sem,gG,bG,aX,o1,o2,o3,o4,o5]
  refine aJ (ACall.vc (first:=[]) (args:=[.agg (aX v)]) (aCp d v hRG)) ?_
  rintro y H ⟨sH,nv,rfl,hst⟩
  have gH:=sH.2 _ _ gG
  have bH:=xL gH
  simp only[go_sem,gH,bH,aX,o1,o2,o3,o4,o5,stC]
  refine aC (aHo d v (bV d) nv.pl (hRG.sub sH).toDayS hst.planes.s n1 (by simp[bV]; omega)).v ?_
  have hlast:fX d= !(List.range d.places.length).any (fN d (bV d)):=by
   cases e:(List.range d.places.length).any (fN d (bV d))with
   | true=>exact iB fun s=>by have:=s.cr; rw[e]at this; cases this
   | false=>exact xS.2 ⟨by simp[inB]; omega,by omega,by omega,by omega,c5,c6,f1,f2,f3,f4,f5,e⟩
  rw[hlast]
  simp only[go_sem]
  exact(s0.trans sG).trans sH
end Go.Proofs.Ab
namespace Go.Proofs.Ab
open Go Go.Proofs
structure aKB(d:aQ)(u:List aH):Prop where
 len:u.length=d.planes.length
 to:∀x∈u,-1≤x.to∧x.to<d.places.length
 no:∀x∈u,x.to<0→x.people=[]
 pp:∀x∈u,(∀n∈x.people,0≤n∧n<d.people.length)∧x.people.Pairwise (· < ·)
end Go.Proofs.Ab
namespace Go.Proofs.Ab
open Go Go.Proofs
variable {w0:World} {h:Heap}
attribute [local irreducible] ACall bE cR aK bI rvC lp rg dr ex un rv
section
variable {s:aF} {v:StV}
theorem StS.lens(a:StS w0 h s v):dA v.pl=some (.int .i64 s.planes.length)∧dA v.le=some (.int .i64 s.legs.length)∧dA v.pe=some (.int .i64 s.people.length):=⟨(SlI.use a.planes.s).1,(SlI.use a.legs.s).1,(SlI.use a.people.s).1⟩
theorem StS.ones(a:StS w0 h s v):one v.pl=true∧one v.le=true∧one v.pe=true:=⟨a.planes.s.one.1,a.legs.s.one.1,a.people.s.one.1⟩
end
theorem UnV.at_{u:List aH}{v:AV}(a:UnV w0 h v u){j:Nat}(hj:j<u.length):∃(p:Pl) (pv:AV),cF 2 v (some j)=some (.ptr p)∧(∀L,rdn w0 (h++L) p 2=some [.int .i64 u[j].to,pv])∧(∀L,rd w0 (h++L) (p.add 0)=some (.int .i64 u[j].to))∧(∀L,rd w0 (h++L) (p.add 1)=some pv)∧SlI w0 h pv u[j].people:=by
 obtain⟨p,c,p1,p2,pv,rfl,p3⟩:=NS.at_ a hj
 exact⟨p,pv,p1,p2,fun L=>dG (p2 L) rfl,fun L=>dG (p2 L) rfl,p3⟩
def fL(d:aQ)(s:aF):Bool:=decide (s.planes.length=d.planes.length)&&(decide (s.legs.length=d.planes.length)&&(decide (s.people.length=d.people.length)&&(s.planes.all (bR d.places.length)&&(s.people.all (bR d.places.length)&&s.legs.all fun x=>inB x 0 5))))
theorem aIC(d:aQ)(v:cU)(s:aF)(sv:StV)(hR:kU w0 h d v)(hS:StS w0 h s sv)(m1:s.planes.length<1000000)(m3:s.people.length<1000000):aK Tryz.prog w0 20 [.agg (aX v),.agg (stC sv)] h (.bool (fL d s)) h:=by
 refine aM mf20_k fun hb ha=> ?_
 obtain⟨l1,l2,l3,l4,l5⟩:=hR.lens
 obtain⟨o1,o2,o3,o4,o5⟩:=hR.ones
 obtain⟨k1,k2,k3⟩:=hS.lens
 obtain⟨q1,q2,q3⟩:=hS.ones
 have n1:=hR.l1
 simp only[go_sem,mf20,aX,stC,o1,o2,o3,o4,o5,q1,q2,q3,l3,l4,k1,k2,k3]
 refine⟨fun e1=>⟨fun e2=>⟨fun e3=> ?_,fun e3=> ?_⟩,fun e2=> ?_⟩,fun e1=> ?_⟩
 ·have:s.people.length≠d.people.length:=by omega
  simp[fL,this]
 ·have e1':s.planes.length=d.planes.length:=by omega
  have e2':s.legs.length=d.planes.length:=by omega
  have e3':s.people.length=d.people.length:=by omega
  have hin:∀x:Int,inB x 0 ((d.places.length:Int) - 1)=bR d.places.length x:=fun x=>rfl
  have c0:fL d s=(s.planes.all (bR d.places.length)&&(s.people.all (bR d.places.length)&&s.legs.all fun x=>inB x 0 5)):=by simp[fL,e1',e2',e3']
  have p1:∀L,(h++[some (Blk.row (aX v)),some (Blk.row (stC sv))]++L)[h.length]? = some (some (.row (aX v))):=fun L=>aA (by simp)
  refine cY (fun j=>[(2,.ptr (.own h.length 0)),(3,.ptr (.own (h.length+1) 0)),(5,.int .i64 j)]) (fun j=>bR d.places.length (s.planes.getD j 0)=true∧inB (s.legs.getD j 0) 0 5=true) s.planes.length rfl (fun j hj hall ih=> ?_) (fun f1=> ?_)
  ·refine aP [2,3,5] aLq.eq_1 ?_
   have i3:(j:Int)<s.planes.length:=by omega
   have hj2:j<s.legs.length:=by omega
   obtain⟨a,a1,a2,_⟩:=hS.planes.s.at_ hj
   obtain⟨b,b1,b2,_⟩:=hS.legs.s.at_ hj2
   rw[aE hj,aE hj2]at ih
   simp (disch:=(unfold I64; omega)) only[go_sem,cZ,k1,i3,a1,a2,l1]
   refine aC (hT _ _ _).v ?_
   rw[hin]
   cases e5:bR d.places.length s.planes[j]with
   | false=>
    simp only[go_sem]
    rw[c0,List.all_eq_false.2 ⟨_,qG hj,by simp[e5]⟩]; rfl
   | true=>
   simp only[go_sem,b1,b2]
   refine aC (hT _ _ _).v ?_
   cases e6:inB s.legs[j] 0 5 with
   | false=>
    simp only[go_sem]
    have:(s.legs.all fun x=>inB x 0 5)=false:=List.all_eq_false.2 ⟨_,qG hj2,by simp[e6]⟩
    rw[c0,this]; simp
   | true=>
    simp only[go_sem]
    exact⟨(by unfold I64; omega),ih ⟨e5,e6⟩⟩
  refine aP [2,3,5] aLq.eq_1 ?_
  have x1:¬(s.planes.length:Int)<s.planes.length:=by omega
  simp only[go_sem,k1,x1]
  refine cY (fun j=>[(2,.ptr (.own h.length 0)),(3,.ptr (.own (h.length+1) 0)),(6,.int .i64 j)]) (fun j=>bR d.places.length (s.people.getD j 0)=true) s.people.length rfl (fun j hj hall ih=> ?_) (fun f2=> ?_)
  ·refine aP [2,3,6] aLp.eq_1 ?_
   have i3:(j:Int)<s.people.length:=by omega
   obtain⟨a,a1,a2,_⟩:=hS.people.s.at_ hj
   rw[aE hj]at ih
   simp (disch:=(unfold I64; omega)) only[go_sem,cZ,k3,i3,a1,a2,l1]
   refine aC (hT _ _ _).v ?_
   rw[hin]
   cases e5:bR d.places.length s.people[j]with
   | false=>
    simp only[go_sem]
    have:s.people.all (bR d.places.length)=false:=List.all_eq_false.2 ⟨_,qG hj,by simp[e5]⟩
    rw[c0,this]; simp
   | true=>
    simp only[go_sem]
    exact⟨(by unfold I64; omega),ih e5⟩
  refine aP [2,3,6] aLp.eq_1 ?_
  have x2:¬(s.people.length:Int)<s.people.length:=by omega
  simp only[go_sem,k3,x2]
  have g1:s.planes.all (bR d.places.length)=true:=by rw[←cS (x:=0)]; exact bZ.2 fun i hi=>(f1 i hi).1
  have g2:s.people.all (bR d.places.length)=true:=by rw[←cS (x:=0)]; exact bZ.2 f2
  have g3:(s.legs.all fun x=>inB x 0 5)=true:=by rw[←cS (x:=0)]; exact bZ.2 fun i hi=>(f1 i (by omega)).2
  rw[c0,g1,g2,g3]; rfl
 ·have:s.legs.length≠d.planes.length:=by omega
  simp[fL,this]
 ·have:s.planes.length≠d.planes.length:=by omega
  simp[fL,this]
end Go.Proofs.Ab

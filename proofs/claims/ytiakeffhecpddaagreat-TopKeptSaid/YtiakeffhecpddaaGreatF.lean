/- Own layer, part F. -/
import Derived.Test.YtiakeffhecpddaaGreatE
set_option linter.unusedSimpArgs false
set_option linter.unusedVariables false
namespace Go.Proofs.Ab
open Go
def rT:AV→Bool
 | .int _ _ | .bool _ | .str _ | .nilP | .nilS | .nilM | .nilF | .nilI=>true
 | _=>false
theorem aG2{v:AV}(h:rT v=true)(N:Nat):v.bdd N:=by cases v<;>simp_all [rT,AV.bdd]
theorem aJl{v:AV}(h:rT v=true){m m':Emb}{x:Value}(e:VR m v x):VR m' v x:=by cases v<;>simp_all [rT,VR]
def kp:MIx→Bool
 | .op _ _ o=>nD o
 | .call _ _ _ _=>false
def kq:MIx→Bool
 | .op _ _ (.load (.t _) _)=>true
 | .op _ _ (.load (.k _) _)=>false
 | .op _ _ (.slca _ _ (.t _) _ _ _)=>true
 | .op _ _ o=>nD o
 | .call _ _ _ _=>false
def kz:MIx→Option (Nat×List AV×Option (Nat×Nat))
 | .op (some t) none (.alloc z)=>if z.all rT then some (t,z,none)else none
 | .op (some t) none (.bslice es z len ps)=>match jM (fS z len) (ps.map fun p=>(p.1,p.2.1,p.2.2.ev []))with
  | some c=>if(ps.all fun p=>p.2.2.rds.isEmpty)&&(c.all rT&&Nat.ble (len*es) c.length)then some (t,c,some (len,es))else none
  | none=>none
 | _=>none
def vz(p:Pl):Option (Nat×Nat)→AV
 | none=> .ptr p
 | some q=> .sl p q.1 q.2 true
def kd:MIx→Bool
 | .op _ _ _=>true
 | .call _ _ _ _=>false
def kb:MIx→Bool
 | .op _ _ (.box _ _) | .op _ _ (.alloc _) | .op _ _ (.bslice _ _ _ _)=>true
 | _=>false
def kg:MIx→Bool
 | .op _ _ (.app _ _ _ _ _)=>true
 | x=>kq x||kb x
section
variable {P:Program} {w0:World} {fr:Fr} {h:Heap} {l:List MIx}
theorem bA{d:Option Nat}{v:AV}{t:Nat}(hd:∀u,d=some u→u≠t):(fr.put d v).get t=fr.get t:=by
 cases d with
 | none=>rfl
 | some u=>
  simp only[Fr.put,Fr.get]
  cases hb:Nat.beq t u with
  | false=>rfl
  | true=>exact absurd (cW.1 hb).symm (hd u rfl)
structure Ap(x y:MIx):Prop where
 a:∀t,x.dst=some t→t∉y.rds
 b:∀t,y.dst=some t→t∉x.rds
 c:∀t,x.dst=some t→y.dst≠some t
theorem Ap.symm{x y:MIx}(k:Ap x y):Ap y x:=⟨k.b,k.a,fun t h1 h2=>k.c t h2 h1⟩
theorem FE.swap{x y:MIx}(k:Ap x y)(u v:AV):FE ((fr.put x.dst u).put y.dst v) ((fr.put y.dst v).put x.dst u):=fun t=>by
 cases hx:x.dst with
 | none=>rfl
 | some a=>
  cases hy:y.dst with
  | none=>rfl
  | some b=>
   have hab:a≠b:=fun e=>k.c a hx (by rw[hy,e])
   simp only[Fr.put,Fr.get]
   cases h1:Nat.beq t a with
   | true=>
    have:=cW.1 h1
    subst this
    have h2:Nat.beq t b=false:=by
     cases h2:Nat.beq t b with
     | false=>rfl
     | true=>exact absurd (cW.1 h2) hab
    rw[h2]; rfl
   | false=>rfl
theorem aIV{x:MIx}{fr':Fr}{K:AV→Heap→Prop}(e:FE fr fr')(k:opV P w0 x fr h K):opV P w0 x fr' h K:=iR (fun t _=>(e t).symm) k
def aC8(P:Program)(w0:World)(l:List MIx)(us:List Nat)(fr:Fr)(h:Heap):Prop:=∀u∈us,∃x t,l[u]? = some x∧x.dst=some t∧opV P w0 x fr h fun v _=>v=fr.get t
theorem oM{us:List Nat}{fr fr':Fr}(e:∀u∈us,∀x,l[u]? = some x→∀t,(t∈x.rds∨x.dst=some t)→fr.get t=fr'.get t)(k:aC8 P w0 l us fr h):aC8 P w0 l us fr' h:=fun u hu=>by
 obtain⟨x,t,hx,ht,k⟩:=k u hu
 refine⟨x,t,hx,ht,(iR (fun s hs=>e u hu x hx s (.inl hs)) k).mono fun v _ q=> ?_⟩
 rw[q]; exact e u hu x hx t (.inr ht)
def wli(P:Program)(w0:World)(l:List MIx)(R:Nat→List Nat):List Nat→Fr→Heap→(Fr→Heap→Prop)→Prop
 | [],fr,h,K=>K fr h
 | i::is,fr,h,K=>∃x,l[i]? = some x∧opV P w0 x fr h fun v h'=>aC8 P w0 l (R i) (fr.put x.dst v) h'∧wli P w0 l R is (fr.put x.dst v) h' K
theorem aDy{R:Nat→List Nat}{K:Fr→Heap→Prop}(hK:∀fr fr' h,FE fr fr'→K fr h→K fr' h):∀ {is:List Nat} {fr fr':Fr} {h:Heap},FE fr fr'→wli P w0 l R is fr h K→wli P w0 l R is fr' h K
 | [],_,_,_,e,k=>hK _ _ _ e k
 | i::is,fr,fr',h,e,k=>by
  obtain⟨x,hx,k⟩:=k
  exact⟨x,hx,aIV e (k.mono fun v h' k=>⟨oM (fun _ _ _ _ t _=>((e.put _ _) t).symm) k.1,aDy hK (e.put _ _) k.2⟩)⟩
theorem aJg{o:Opd}{n:Option Nat}{v:AV}{h':Heap}(e:aop w0 (.load o n) fr h=some (v,h'))(L:Heap):aop w0 (.load o n) fr (h++L)=some (v,h++L):=by
 simp only[aop]at e ⊢
 split at e
 ·rename_i p hp
  simp only[qC,Option.some.injEq,Prod.mk.injEq]at e ⊢
  obtain⟨u,e1,rfl,rfl⟩:=e
  refine⟨u,?_,rfl,trivial⟩
  cases n with
  | none=>exact fT e1
  | some n=>
   simp only[rdv,qD]at e1 ⊢
   obtain⟨c,e1,rfl⟩:=e1
   exact⟨c,cK e1,rfl⟩
 ·cases e
theorem aIv{a b:Nat}{o:Opd}{x y z:Option Opd}{v:AV}{h':Heap}(e:aop w0 (.slca a b o x y z) fr h=some (v,h'))(L:Heap):aop w0 (.slca a b o x y z) fr (h++L)=some (v,h++L):=by
 simp only[aop]at e ⊢
 split at e
 ·rename_i i k hp
  split at e
  ·rename_i c hc
   have hc':(h++L)[i]? = some (some (.row c)):=by rw[qH (by have:=List.getElem?_eq_some_iff.1 hc; exact this.1)]; exact hc
   rw[hc']
   simp only
   split at e
   ·rename_i hle
    rw[if_pos hle]
    simp only[qC,Option.some.injEq,Prod.mk.injEq]at e ⊢
    obtain⟨u,e1,rfl,rfl⟩:=e
    exact⟨u,e1,rfl,trivial⟩
   ·cases e
  ·cases e
 ·cases e
theorem vK{x:MIx}(hq:kq x=true){K:AV→Heap→Prop}(e:opV P w0 x fr h K) :
 ∃v,K v h∧(∀(fr':Fr) (L:Heap) (K':AV→Heap→Prop),(∀t∈x.rds,fr.get t=fr'.get t)→K' v (h++L)→opV P w0 x fr' (h++L) K') ∧
  (kp x=true→∀(fr':Fr) (k:Heap) (K':AV→Heap→Prop),(∀t∈x.rds,fr.get t=fr'.get t)→K' v k→opV P w0 x fr' k K'):=by
 cases x with
 | call d g f as=>simp[kq]at hq
 | op d g o=>
  simp only[opV]at e
  have hg:∀ {fr':Fr},(∀t∈(MIx.op d g o).rds,fr.get t=fr'.get t)→want fr' g=want fr g:=fun ht=>(lP fun t h1=>(ht t (by simp[MIx.rds,h1]))).symm
  have ho:∀ {fr':Fr} {k:Heap},(∀t∈(MIx.op d g o).rds,fr.get t=fr'.get t)→aop w0 o fr' k=aop w0 o fr k:=fun ht=>(rE fun t h1=>(ht t (by simp[MIx.rds,h1]))).symm
  split at e
  ·rename_i hw
   obtain⟨v,h',e1,e2⟩:=e
   cases hp:nD o with
   | true=>
    have:=lO (aDT hp) e1
    subst this
    have key:∀(fr':Fr) (k:Heap) (K':AV→Heap→Prop),(∀t∈(MIx.op d g o).rds,fr.get t=fr'.get t)→K' v k→opV P w0 (.op d g o) fr' k K':=fun fr' k K' ht hk=>by
     simp only[opV,hg ht,hw]
     exact⟨v,k,by rw[ho ht]; exact aKm hp e1 k,hk⟩
    exact⟨v,e2,fun fr' L K' ht hk=>key fr' _ K' ht hk,fun _=>key⟩
   | false=>
    have hl:(∃y n,o= .load y n)∨∃a b y x1 x2 x3,o= .slca a b y x1 x2 x3:=by
     cases o<;>simp_all [kq,nD]
    rcases hl with⟨y,n,rfl⟩ | ⟨c1,c2,y,x1,x2,x3,rfl⟩
    case inr=>
     have:=lO (w0:=w0) (fr:=fr) (h:=h) (o:= .slca c1 c2 y x1 x2 x3) rfl e1
     subst this
     refine⟨v,e2,fun fr' L K' ht hk=> ?_,fun h2=>by simp[kp,hp]at h2⟩
     simp only[opV,hg ht,hw]
     exact⟨v,_,by rw[ho ht]; exact aIv e1 L,hk⟩
    have:=lO (w0:=w0) (fr:=fr) (h:=h) (o:= .load y n) rfl e1
    subst this
    refine⟨v,e2,fun fr' L K' ht hk=> ?_,fun h2=>by simp[kp,hp]at h2⟩
    simp only[opV,hg ht,hw]
    exact⟨v,_,by rw[ho ht]; exact aJg e1 L,hk⟩
  ·rename_i hw
   refine⟨.tup [],e,fun fr' L K' ht hk=> ?_,fun _ fr' k K' ht hk=> ?_⟩
   ·simp only[opV,hg ht,hw]; exact hk
   ·simp only[opV,hg ht,hw]; exact hk
  ·exact e.elim
theorem iG{x:MIx}{t:Nat}{c:List AV}{q:Option (Nat×Nat)}(h:kz x=some (t,c,q)):x.dst=some t∧x.rds=[]∧c.all rT=true∧(∀a,q=some a→a.1*a.2≤c.length)∧kb x=true∧kq x=false ∧
 ∀(P:Program) (w0:World) (fr:Fr) (h:Heap),(∀K,opV P w0 x fr h K↔K (vz (.own h.length 0) q) (h++[some (.row c)]))∧∀K,K (fr.put x.dst (vz (.own h.length 0) q)) (h++[some (.row c)])→jL P w0 [x] fr h K:=by
 unfold kz at h
 split at h
 ·split at h
  ·rename_i t' z hz
   simp only[Option.some.injEq,Prod.mk.injEq]at h
   obtain⟨rfl,rfl,rfl⟩:=h
   refine⟨rfl,rfl,hz,fun a ha=>(by cases ha),rfl,rfl,fun P w0 fr h=>⟨fun K=> ?_,fun K k=> ?_⟩⟩
   ·simp only[opV,want,aop]
    constructor
    ·rintro⟨v,h',e,k⟩
     simp only[Option.some.injEq,Prod.mk.injEq]at e
     obtain⟨rfl,rfl⟩:=e; exact k
    ·intro k; exact⟨_,_,rfl,k⟩
   ·simp only[jL,want,aop]; exact⟨_,_,rfl,k⟩
  ·cases h
 ·rename_i t' es z len ps
  split at h
  ·rename_i c' hc
   split at h
   ·rename_i hcond
    simp only[Option.some.injEq,Prod.mk.injEq]at h
    obtain⟨rfl,rfl,rfl⟩:=h
    simp only[Bool.and_eq_true,List.all_eq_true,List.isEmpty_iff,Nat.ble_eq]at hcond
    obtain⟨h1,h2,h3⟩:=hcond
    have hev:∀fr:Fr,(ps.map fun p=>(p.1,p.2.1,p.2.2.ev fr))=ps.map fun p=>(p.1,p.2.1,p.2.2.ev []):=fun fr=>List.map_congr_left fun p hp=>by
     have:=h1 p hp
     cases hx:p.2.2 with
     | t n=>rw[hx]at this; simp[Opd.rds]at this
     | k v=>rfl
    have ha:∀(w0:World) (fr:Fr) (h:Heap),aop w0 (.bslice es z len ps) fr h=some (vz (.own h.length 0) (some (len,es)),h++[some (.row c')]):=fun w0 fr h=>by
     have:=hev fr
     simp only[aop]
     rw[show(ps.map fun x=>match x with | (o,n,x)=>(o,n,x.ev fr))=ps.map fun p=>(p.1,p.2.1,p.2.2.ev fr)from rfl,this,hc]
     rfl
    refine⟨rfl,?_,List.all_eq_true.2 h2,fun a ha=>(by cases ha; exact h3),rfl,rfl,fun P w0 fr h=>⟨fun K=> ?_,fun K k=> ?_⟩⟩
    ·simp only[MIx.rds,grds,MOp.rds,List.nil_append,List.flatMap_eq_nil_iff]
     exact h1
    ·simp only[opV,want,ha]
     constructor
     ·rintro⟨v,h',e,k⟩
      simp only[Option.some.injEq,Prod.mk.injEq]at e
      obtain⟨rfl,rfl⟩:=e; exact k
     ·intro k; exact⟨_,_,rfl,k⟩
    ·simp only[jL,want,ha]; exact⟨_,_,rfl,k⟩
   ·cases h
  ·cases h
 ·cases h
theorem kd_det{x:MIx}(hx:kd x=true){K:AV→Heap→Prop}(e:opV P w0 x fr h K):∃v h',K v h'∧(kg x=true→h.length≤h'.length∧∀(i:Nat) b,i<h.length→h'[i]? = some (some b)→h[i]? = some (some b)) ∧
 ∀(fr':Fr) (K':AV→Heap→Prop),(∀t∈x.rds,fr.get t=fr'.get t)→K' v h'→opV P w0 x fr' h K':=by
 cases x with
 | call d g f as=>simp[kd]at hx
 | op d g o=>
  simp only[opV]at e
  have hg:∀ {fr':Fr},(∀t∈(MIx.op d g o).rds,fr.get t=fr'.get t)→want fr' g=want fr g:=fun ht=>(lP fun t h1=>(ht t (by simp[MIx.rds,h1]))).symm
  have ho:∀ {fr':Fr} {k:Heap},(∀t∈(MIx.op d g o).rds,fr.get t=fr'.get t)→aop w0 o fr' k=aop w0 o fr k:=fun ht=>(rE fun t h1=>(ht t (by simp[MIx.rds,h1]))).symm
  split at e
  ·rename_i hw
   obtain⟨v,h',e1,e2⟩:=e
   refine⟨v,h',e2,fun hk=> ?_,fun fr' K' ht hk=>by simp only[opV,hg ht,hw]; exact⟨v,h',by rw[ho ht]; exact e1,hk⟩⟩
   have hid:h'=h→h.length≤h'.length∧∀(i:Nat) b,i<h.length→h'[i]? = some (some b)→h[i]? = some (some b):=fun e=>by subst e; exact⟨Nat.le_refl _,fun _ _ _ e=>e⟩
   have hap:∀c,h'=h++[c]→h.length≤h'.length∧∀(i:Nat) b,i<h.length→h'[i]? = some (some b)→h[i]? = some (some b):=fun c e=>by
    subst e; exact⟨by simp,fun i b hi e=>by rwa [qH hi]at e⟩
   by_cases hqo:qop o=true
   ·exact hid (lO hqo e1)
   ·have hs:(∃es z b x y,o= .app es z b x y)∨(∃x n,o= .box x n)∨(∃z,o= .alloc z)∨∃es z len ps,o= .bslice es z len ps:=by
     cases o<;>simp_all [kg,kq,kb,qop,nD]
    rcases hs with⟨es,z,b,x,y,rfl⟩ | ⟨x,n,rfl⟩ | ⟨z,rfl⟩ | ⟨es,z,len,ps,rfl⟩
    ·simp only[aop,eD,qC]at e1
     obtain⟨nl,_,e1⟩:=e1
     split at e1
     ·split at e1<;>simp at e1<;>exact hid e1.2.symm
     ·split at e1
      ·split at e1
       ·simp[mN]at e1; exact hap _ e1.2.symm
       ·cases e1
      ·split at e1
       ·split at e1
        ·simp only[qC]at e1
         obtain⟨_,_,e1⟩:=e1
         simp[mN]at e1; exact hap _ e1.2.symm
        ·split at e1
         ·simp only[qC]at e1
          obtain⟨_,_,e1⟩:=e1
          simp only[Option.some.injEq,Prod.mk.injEq]at e1
          have hset:∀(i0:Nat) (c:Option Blk),h'=h.set i0 none++[c]→h.length≤h'.length∧∀(i:Nat) b,i<h.length→h'[i]? = some (some b)→h[i]? = some (some b):=fun i0 c e=>by
           subst e
           refine⟨by simp,fun i b hi e=> ?_⟩
           rw[qH (by simpa using hi)]at e
           by_cases he:i0=i
           ·subst he; rw[qF hi]at e; cases e
           ·rwa [qB he]at e
          exact hset _ _ e1.2.symm
         ·cases e1
       ·cases e1
      ·cases e1
    ·simp only[aop]at e1
     split at e1
     ·split at e1
      ·simp at e1; exact hap _ e1.2.symm
      ·cases e1
     ·cases e1
    ·simp[aop]at e1; exact hap _ e1.2.symm
    ·simp only[aop]at e1
     split at e1
     ·simp[mN]at e1; exact hap _ e1.2.symm
     ·cases e1
  ·rename_i hw
   exact⟨.tup [],h,e,fun _=>⟨Nat.le_refl _,fun _ _ _ e=>e⟩,fun fr' K' ht hk=>by simp only[opV,hg ht,hw]; exact hk⟩
  ·exact e.elim
theorem kb_app{x:MIx}(hx:kb x=true){K:AV→Heap→Prop}(e:opV P w0 x fr h K):opV P w0 x fr h fun v h'=>K v h'∧∃L,h'=h++L:=by
 cases x with
 | call d g f as=>simp[kb]at hx
 | op d g o=>
  simp only[opV]at e ⊢
  split at e
  ·obtain⟨v,h',e1,e2⟩:=e
   refine⟨v,h',e1,e2,?_⟩
   have hs:(∃x n,o= .box x n)∨(∃z,o= .alloc z)∨∃es z len ps,o= .bslice es z len ps:=by
    cases o<;>simp_all [kb]
   rcases hs with⟨x,n,rfl⟩ | ⟨z,rfl⟩ | ⟨es,z,len,ps,rfl⟩
   ·simp only[aop]at e1
    split at e1
    ·split at e1
     ·simp at e1; exact⟨_,e1.2.symm⟩
     ·cases e1
    ·cases e1
   ·simp[aop]at e1; exact⟨_,e1.2.symm⟩
   ·simp only[aop]at e1
    split at e1
    ·simp[mN]at e1; exact⟨_,e1.2.symm⟩
    ·cases e1
  ·exact⟨e,[],by simp⟩
  ·exact e
theorem kq_kg{x:MIx}(h:kq x=true):kg x=true:=by
 unfold kg; split
 ·rfl
 ·rw[h]; rfl
theorem kg_kd{x:MIx}(h:kg x=true):kd x=true:=by
 cases x with
 | op d g o=>rfl
 | call d g f as=>simp[kg,kq,kb]at h
theorem aNP{x:MIx}(hq:kq x=true){h1:Heap}(hb:kp x=true∨((∀t∈x.rds,(fr.get t).bdd h.length)∧∀(i:Nat) b,i<h.length→h1[i]? = some (some b)→h[i]? = some (some b))){K:AV→Heap→Prop}(e:opV P w0 x fr h1 K):opV P w0 x fr h fun v h'=>h'=h∧K v h1:=by
 obtain⟨v,k,s1,s2⟩:=vK hq e
 rcases hb with hp | ⟨hb,hk⟩
 ·exact s2 hp fr h _ (fun _ _=>rfl) ⟨rfl,k⟩
 ·by_cases hp:kp x=true
  ·exact s2 hp fr h _ (fun _ _=>rfl) ⟨rfl,k⟩
  ·cases x with
   | call d g f as=>simp[kq]at hq
   | op d g o=>
    have hl:(∃s n,o= .load (.t s) n)∨∃a b s x1 x2 x3,o= .slca a b (.t s) x1 x2 x3:=by
     cases o<;>simp_all [kq,kp,nD]
     ·rename_i y n
      cases y<;>simp_all
     ·rename_i a b y x1 x2 x3
      cases y<;>simp_all
    rcases hl with⟨y,n,rfl⟩ | ⟨c1,c2,y,x1,x2,x3,rfl⟩
    case inr=>
     simp only[opV]at e ⊢
     split at e
     ·obtain⟨v,h',e1,e2⟩:=e
      have:=lO (w0:=w0) (fr:=fr) (h:=h1) (o:= .slca c1 c2 (.t y) x1 x2 x3) rfl e1
      subst this
      refine⟨v,h,?_,rfl,e2⟩
      simp only[aop]at e1 ⊢
      split at e1
      ·rename_i i k hp
       have hbb:=hb y (by simp[MIx.rds,MOp.rds,Opd.rds])
       simp only[Opd.ev]at hp
       rw[hp]at hbb
       simp only[AV.bdd,Pl.bdd]at hbb
       split at e1
       ·rename_i c hc
        have hc':=hk i _ hbb hc
        rw[hc']
        simp only
        split at e1
        ·rename_i hle
         rw[if_pos hle]
         simp only[qC,Option.some.injEq,Prod.mk.injEq]at e1 ⊢
         obtain⟨u,e1,rfl,_⟩:=e1
         exact⟨u,e1,rfl,trivial⟩
        ·cases e1
       ·cases e1
      ·cases e1
     ·exact⟨trivial,e⟩
     ·exact e.elim
    simp only[opV]at e ⊢
    split at e
    ·obtain⟨v,h',e1,e2⟩:=e
     have:=lO (w0:=w0) (fr:=fr) (h:=h1) (o:= .load (.t y) n) rfl e1
     subst this
     refine⟨v,h,?_,rfl,e2⟩
     simp only[aop]at e1 ⊢
     split at e1
     ·rename_i p hp
      simp only[qC,Option.some.injEq,Prod.mk.injEq]at e1 ⊢
      obtain⟨u,e1,rfl,_⟩:=e1
      refine⟨u,?_,rfl,trivial⟩
      have hpb:∀i o,p= .own i o→∀b,h'[i]? = some (some b)→h[i]? = some (some b):=fun i o hpe b hb'=>by
       subst hpe
       have:=hb y (by simp[MIx.rds,MOp.rds,Opd.rds])
       simp only[Opd.ev]at hp
       rw[hp]at this
       simp only[AV.bdd,Pl.bdd]at this
       exact hk i b this hb'
      cases p with
      | old a=>cases n<;>exact e1
      | own i o=>
       have hrow:∃c,h'[i]? = some (some (.row c)):=by
        cases n with
        | none=>
         simp only[rdv,rd]at e1
         split at e1
         ·rename_i c hc; exact⟨c,hc⟩
         ·cases e1
        | some n=>
         simp only[rdv,rdn]at e1
         split at e1
         ·rename_i c hc; exact⟨c,hc⟩
         ·simp at e1
       obtain⟨c,hc⟩:=hrow
       have hc':=hpb i o rfl _ hc
       cases n with
       | none=>simp only[rdv,rd,hc,hc']at e1 ⊢; exact e1
       | some n=>simp only[rdv,rdn,hc,hc']at e1 ⊢; exact e1
     ·cases e1
    ·exact⟨trivial,e⟩
    ·exact e
section
variable {R:Nat→List Nat}
theorem mv_q{K:Fr→Heap→Prop}(hK:∀fr fr' h,FE fr fr'→K fr h→K fr' h){i:Nat}{x:MIx}{B:List Nat}(hi:l[i]? = some x)(hq:kq x=true) :
 ∀(A:List Nat) (fr:Fr) (h:Heap),(kp x=true∨∀t∈x.rds,(fr.get t).bdd h.length)→(∀a∈A,∀y,l[a]? = some y→Ap x y∧((kp x=true∧kd y=true)∨kg y=true)∧∀u∈R a,∀z,l[u]? = some z→∀t,x.dst=some t→t∉z.rds∧z.dst≠some t) →
  wli P w0 l R (A++i::B) fr h K→opV P w0 x fr h fun v h'=>h'=h∧wli P w0 l R (A++B) (fr.put x.dst v) h K
 | [],fr,h,_,_,e=>by
  obtain⟨x',hx',e⟩:=e
  rw[hi]at hx'; cases hx'
  obtain⟨v,k,s,_⟩:=vK hq e
  have:=s fr [] (fun v h'=>h'=h∧wli P w0 l R ([]++B) (fr.put x.dst v) h K) (fun _ _=>rfl) ⟨by simp,by simpa using k.2⟩
  simpa using this
 | a::A,fr,h,hb,hA,e=>by
  obtain⟨y,hy,e⟩:=e
  obtain⟨hap,hqy,hR⟩:=hA a (by simp) y hy
  obtain⟨u,h1,k,bk,s⟩:=kd_det (hqy.elim (·.2) kg_kd) e
  have hxr:∀t∈x.rds,(fr.put y.dst u).get t=fr.get t:=fun t ht=>bA fun d hd e=>by subst e; exact hap.b _ hd ht
  have ih:=mv_q hK hi hq A (fr.put y.dst u) h1 (by
   rcases hb with hb | hb
   ·exact .inl hb
   ·rcases hqy with h2 | h2
    ·exact .inl h2.1
    ·exact .inr fun t ht=>by rw[hxr t ht]; exact AV.bdd_mono (bk h2).1 _ (hb t ht)) (fun b hb=>hA b (by simp[hb])) k.2
  have ih2:=aNP (h:=h) hq (by
   rcases hb with hb | hb
   ·exact .inl hb
   ·rcases hqy with h2 | h2
    ·exact .inl h2.1
    ·exact .inr ⟨fun t ht=>by rw[hxr t ht]; exact hb t ht,(bk h2).2⟩) ih
  refine(iR hxr ih2).mono fun v h' q=>⟨q.1,y,hy,s _ _ (fun t ht=> ?_) ⟨oM (fun w hw z hz t ht=> ?_) k.1,aDy hK (FE.swap hap.symm u v) q.2.2⟩⟩
  ·rw[bA (fun d hd e=>by subst e; exact hap.a _ hd ht)]
  ·have hxt:x.dst≠some t:=fun e=>by
    have:=hR w hw z hz t e
    rcases ht with ht | ht
    ·exact this.1 ht
    ·exact this.2 ht
   by_cases hd:y.dst=some t
   ·rw[hd]
    rw[show ∀f:Fr,f.put (some t) u=(t,u)::f from fun _=>rfl,show ∀f:Fr,f.put (some t) u=(t,u)::f from fun _=>rfl]
    simp[Fr.get,Nat.beq_refl]
   ·rw[bA (fun d hd' e=>by subst e; exact hd hd'),bA (fun d hd' e=>by subst e; exact hd hd'),bA (fun d hd' e=>by subst e; exact hxt hd')]
def kN(P:Program)(w0:World)(l:List MIx):List Nat→Fr→Heap→Fr→Prop
 | [],fr,_,fr'=>fr'=fr
 | a::A,fr,h,fr'=>∃y u,l[a]? = some y∧kq y=true∧opV P w0 y fr h (fun v _=>v=u)∧kN P w0 l A (fr.put y.dst u) h fr'
theorem kN.of{K:Fr→Heap→Prop}{is:List Nat}:∀ {A:List Nat} {fr:Fr} {h:Heap},(∀a∈A,∀y,l[a]? = some y→kq y=true)→wli P w0 l R (A++is) fr h K→∃fr',kN P w0 l A fr h fr'∧wli P w0 l R is fr' h K
 | [],fr,h,_,e=>⟨fr,rfl,e⟩
 | a::A,fr,h,hA,e=>by
  obtain⟨y,hy,e⟩:=e
  obtain⟨u,k,s,_⟩:=vK (hA a (by simp) y hy) e
  obtain⟨fr',r,w⟩:=kN.of (fun b hb=>hA b (by simp[hb])) k.2
  refine⟨fr',⟨y,u,hy,hA a (by simp) y hy,?_,r⟩,w⟩
  have:=s fr [] (fun v _=>v=u) (fun _ _=>rfl) rfl
  simpa using this
theorem opV_eq{y:MIx}{u:AV}(hq:kq y=true)(e:opV P w0 y fr h fun v _=>v=u){K:AV→Heap→Prop}(k:K u h):opV P w0 y fr h K:=by
 obtain⟨v,rfl,s,_⟩:=vK hq e
 have:=s fr [] K (fun _ _=>rfl) (by simpa using k)
 simpa using this
theorem kN.to{K:Fr→Heap→Prop}{is:List Nat}:∀ {A:List Nat} {fr fr':Fr} {h:Heap},(∀a∈A,R a=[])→kN P w0 l A fr h fr'→wli P w0 l R is fr' h K→wli P w0 l R (A++is) fr h K
 | [],fr,fr',h,_,r,e=>by cases r; exact e
 | a::A,fr,fr',h,hR,r,e=>by
  obtain⟨y,u,hy,hq,hv,r⟩:=r
  exact⟨y,hy,opV_eq hq hv ⟨by rw[hR a (by simp)]; exact fun u hu=>(by cases hu),kN.to (fun b hb=>hR b (by simp[hb])) r e⟩⟩
theorem kN.get{t:Nat}:∀ {A:List Nat} {fr fr':Fr} {h:Heap},(∀a∈A,∀y,l[a]? = some y→y.dst≠some t)→kN P w0 l A fr h fr'→fr'.get t=fr.get t
 | [],fr,fr',h,_,r=>by cases r; rfl
 | a::A,fr,fr',h,hA,r=>by
  obtain⟨y,u,hy,hq,hv,r⟩:=r
  rw[kN.get (fun b hb=>hA b (by simp[hb])) r,bA fun d hd e=>by subst e; exact hA a (by simp) y hy hd]
theorem kN.fe:∀ {A:List Nat} {fr fr' fr1:Fr} {h:Heap},FE fr fr1→kN P w0 l A fr h fr'→∃fr1',kN P w0 l A fr1 h fr1'∧FE fr' fr1'
 | [],fr,fr',fr1,h,e,r=>by cases r; exact⟨fr1,rfl,e⟩
 | a::A,fr,fr',fr1,h,e,r=>by
  obtain⟨y,u,hy,hq,hv,r⟩:=r
  obtain⟨f,r2,e2⟩:=kN.fe (e.put y.dst u) r
  exact⟨f,⟨y,u,hy,hq,aIV e hv,r2⟩,e2⟩
def OkA(P:Program)(w0:World)(l:List MIx)(x:MIx)(v:AV)(h h':Heap)(fe:Fr):List Nat→Prop
 | []=>True
 | a::A=>(∀y,l[a]? = some y→Ap x y∧(kp y=true∨(∃L,h'=h++L)∨((∃t,y.dst=some t∧opV P w0 y (fe.put x.dst v) h' fun w _=>w=(fe.put x.dst v).get t)∧∀b∈a::A,∀z,l[b]? = some z→∀t,z.dst=some t→t∉y.rds)) ∧
  ∀b∈A,∀z,l[b]? = some z→∀t,y.dst=some t→z.dst≠some t)∧OkA P w0 l x v h h' fe A
theorem kN.behind{x:MIx}{v:AV}{h':Heap}{fe:Fr}:∀ {A:List Nat} {fr:Fr} {h:Heap},kN P w0 l A fr h fe→OkA P w0 l x v h h' fe A→∃fr'',kN P w0 l A (fr.put x.dst v) h' fr''∧FE fr'' (fe.put x.dst v)
 | [],fr,h,r,_=>by cases r; exact⟨_,rfl,FE.refl _⟩
 | a::A,fr,h,r,ok=>by
  have r0:=r
  obtain⟨y,u,hy,hq,hv,r⟩:=r
  obtain⟨hap,how,hds⟩:=ok.1 y hy
  have hag:∀t∈y.rds,fr.get t=(fr.put x.dst v).get t:=fun t ht=>(bA fun d hd e=>by subst e; exact hap.a _ hd ht).symm
  have hval:opV P w0 y (fr.put x.dst v) h' fun w _=>w=u:=by
   rcases how with hp | ⟨L,rfl⟩ | ⟨⟨t,ht,hc⟩,hw⟩
   ·obtain⟨w,rfl,_,s⟩:=vK hq hv
    exact s hp _ _ _ hag rfl
   ·obtain⟨w,rfl,s,_⟩:=vK hq hv
    exact s _ _ _ hag rfl
   ·have h1:(fe.put x.dst v).get t=u:=by
     rw[bA fun d hd e=>by subst e; exact hap.c _ hd ht,kN.get (fun b hb z hz=>hds b hb z hz t ht) r,ht,fB]
    refine iR (fun s hs=> ?_) (hc.mono fun w _ e=>e.trans h1)
    rw[bA fun d hd e=>by subst e; exact hap.a _ hd hs,bA fun d hd e=>by subst e; exact hap.a _ hd hs]
    exact kN.get (fun b hb z hz hd=>hw b hb z hz s hd hs) r0
  obtain⟨f,r2,e2⟩:=kN.behind r ok.2
  obtain⟨f2,r3,e3⟩:=kN.fe (FE.swap hap.symm u v) r2
  exact⟨f2,⟨y,u,hy,hq,hval,r3⟩,e3.symm.trans e2⟩
theorem mv_e{K:Fr→Heap→Prop}(hK:∀fr fr' h,FE fr fr'→K fr h→K fr' h){i:Nat}{x:MIx}{A B:List Nat}(hi:l[i]? = some x)
 (hA:∀A1 a A2,A=A1++a::A2→∀y,l[a]? = some y→Ap x y∧kq y=true∧R a=[]∧(kp y=true∨kb x=true∨(a∈R i∧∀b∈a::A2,∀z,l[b]? = some z→∀t,z.dst=some t→t∉y.rds))∧∀b∈A2,∀z,l[b]? = some z→∀t,y.dst=some t→z.dst≠some t)
 (e:wli P w0 l R (A++i::B) fr h K):opV P w0 x fr h fun v h'=>wli P w0 l R (A++B) (fr.put x.dst v) h' K:=by
 have hA1:∀a∈A,∀y,l[a]? = some y→Ap x y∧kq y=true∧R a=[]:=fun a ha y hy=>by
  obtain⟨A1,A2,e⟩:=List.append_of_mem ha
  obtain⟨h1,h2,h3,_⟩:=hA A1 a A2 e y hy
  exact⟨h1,h2,h3⟩
 obtain⟨fe,r,x',hx',e⟩:=kN.of (fun a ha y hy=>(hA1 a ha y hy).2.1) e
 rw[hi]at hx'; cases hx'
 have hin:∀a∈A,∃y,l[a]? = some y:=by
  have:∀ {A:List Nat} {fr fr':Fr},kN P w0 l A fr h fr'→∀a∈A,∃y,l[a]? = some y:=fun {A}=>by
   induction A with
   | nil=>intro _ _ _ a ha; cases ha
   | cons b A ih=>
    intro fr fr' r a ha
    obtain⟨y,u,hy,_,_,r⟩:=r
    rcases List.mem_cons.1 ha with rfl | ha
    ·exact⟨y,hy⟩
    ·exact ih r a ha
  exact this r
 have e2:opV P w0 x fe h fun v h'=>(aC8 P w0 l (R i) (fe.put x.dst v) h'∧wli P w0 l R B (fe.put x.dst v) h' K)∧(kb x=true→∃L,h'=h++L):=by
  by_cases hb:kb x=true
  ·exact(kb_app hb e).mono fun v h' q=>⟨q.1,fun _=>q.2⟩
  ·exact e.mono fun v h' q=>⟨q,fun h=>absurd h hb⟩
 refine(iR (fun t ht=>kN.get (fun a ha y hy hd=>(hA1 a ha y hy).1.b t hd ht) r) e2).mono fun v h' q=> ?_
 have ok:∀A1 A2,A=A1++A2→OkA P w0 l x v h h' fe A2:=fun A1 A2=>by
  induction A2 generalizing A1 with
  | nil=>intro _; trivial
  | cons a A2 ih=>
   intro e
   refine⟨fun y hy=> ?_,ih (A1++[a]) (by rw[e]; simp)⟩
   obtain⟨h1,h2,_,h4,h5⟩:=hA A1 a A2 e y hy
   refine⟨h1,?_,h5⟩
   rcases h4 with h4 | h4 | ⟨h4,h6⟩
   ·exact .inl h4
   ·exact .inr (.inl (q.2 h4))
   ·obtain⟨y',t,hy',ht,hv⟩:=q.1.1 a h4
    rw[hy]at hy'; cases hy'
    exact .inr (.inr ⟨⟨t,ht,hv⟩,h6⟩)
 obtain⟨f,r2,e3⟩:=kN.behind r (ok [] A rfl)
 exact kN.to (fun a ha=>by obtain⟨y,hy⟩:=hin a ha; exact(hA1 a ha y hy).2.2) r2 (aDy hK e3.symm q.1.2)
end
def rem(n:Nat)(f:Nat→Bool):List Nat:=(List.range n).filter f
theorem qX{n:Nat}{f:Nat→Bool}{i:Nat}(hi:i<n)(hf:f i=true):∃B,rem n f=(List.range i).filter f++i::B∧∀g:Nat→Bool,(∀j,j≠i→g j=f j)→g i=false→rem n g=(List.range i).filter f++B:=by
 induction n with
 | zero=>omega
 | succ n ih=>
  have hr:∀f:Nat→Bool,rem (n+1) f=rem n f++(if f n=true then [n]else []):=fun f=>by
   unfold rem; rw[List.range_succ,List.filter_append]; cases e:f n<;>simp[e]
  rcases Nat.lt_or_ge i n with h1 | h1
  ·obtain⟨B,e1,e2⟩:=ih h1
   refine⟨B++(if f n=true then [n]else []),by rw[hr,e1]; simp,fun g hg hgi=> ?_⟩
   rw[hr,e2 g hg hgi,hg n (by omega),List.append_assoc]
  ·obtain rfl:i=n:=by omega
   refine⟨[],by rw[hr,hf]; rfl,fun g hg hgi=> ?_⟩
   rw[hr,hgi]
   simp only[Bool.false_eq_true,if_false,List.append_nil]
   unfold rem
   exact List.filter_congr fun j hj=>hg j (by have:=List.mem_range.1 hj; omega)
theorem aAB{n:Nat}{f g:Nat→Bool}(h:∀j,j<n→g j=f j):rem n g=rem n f:=List.filter_congr fun j hj=>h j (List.mem_range.1 hj)
theorem aFE{n:Nat}{f:Nat→Bool}(h:∀j,j<n→f j=false):rem n f=[]:=by
 unfold rem; rw[List.filter_eq_nil_iff]; exact fun j hj=>by rw[h j (List.mem_range.1 hj)]; simp
end
theorem least{p:Nat→Prop}(h:∃n,p n):∃n,p n∧∀m,m<n→¬p m:=by
 obtain⟨n,hn⟩:=h
 induction n using Nat.strongRecOn with
 | ind n ih=>
  by_cases hx:∃m,m<n∧p m
  ·obtain⟨m,h1,h2⟩:=hx; exact ih m h1 h2
  ·exact⟨n,hn,fun m h1 h2=>hx ⟨m,h1,h2⟩⟩
section
variable {P:Program} {w0 ws:World} {r lr:Option Nat} {nt Z:Nat} {Bs:Bs} {m m' m0:Emb} {fr fr':Fr} {h h' h0:Heap} {a a':Act} {w w':World} {l:List MIx} {bf:Nat→Nat→Bool} {R:Nat→List Nat} {K:Fr→Heap→Prop} {S Pd:Nat→Bool}
def nra(l:List MIx)(y:MIx):Bool:=l.all fun x=>match kz x with
 | some a=> !y.rds.contains a.1
 | none=>true
structure FL(l:List MIx)(bf:Nat→Nat→Bool)(R:Nat→List Nat):Prop where
 lt:∀ {i j:Nat},j<l.length→bf j i=true→i<j
 pair:∀ {i j:Nat} {x y:MIx},i<j→l[i]? = some x→l[j]? = some y→bf j i=false →
  (kq x=true∧kq y=true)∨(kq x=true∧kq y=false∧(kp x=true∨kb y=true∨i∈R j))∨(kz y).isSome=true∨(kq x=false∧kq y=true∧nra l y=true∧((kp y=true∧kd x=true)∨kg x=true))
 ap:∀ {i j:Nat} {x y:MIx},i≠j→l[i]? = some x→l[j]? = some y→bf i j=false→bf j i=false→Ap x y
 ds:∀i j t,i<l.length→j<l.length→j≠i→cL l i=some t→cL l j≠some t
 rq:∀i x,l[i]? = some x→kq x=true→R i=[]
 ru:∀i u,u∈R i→u<i
 ro:∀i u,u∈R i→∀z,l[u]? = some z→∀(b:Nat) y,u≤b→l[b]? = some y→∀t,y.dst=some t→t∉z.rds
theorem aH4{p:Pl}{q:Option (Nat×Nat)}{N:Nat}(h:p.bdd N):(vz p q).bdd N:=by cases q<;>simpa[vz,AV.bdd]using h
theorem vz_old{m:Emb}{i:Nat}{q:Option (Nat×Nat)}{v:Value}(e:VR m (vz (.own i 0) q) v):VR m (vz (.old ⟨m.blk i,m.base i,none⟩) q) v:=by
 cases q with
 | none=>simpa[vz,VR,Emb.pl]using e
 | some q=>
  simp only[vz,VR,Emb.pl]at e ⊢
  obtain⟨a,cap,e1,e2,e3,e4⟩:=e
  refine⟨a,cap,e1,e2,e3,?_⟩
  rcases e4 with e4 | ⟨e4,_⟩
  ·exact .inl e4
  ·exact .inr ⟨by simpa using e4,fun i off hp=>by cases hp⟩
theorem vz_new{m:Emb}{i c d n:Nat}{q:Option (Nat×Nat)}{v:Value}(hq:∀a,q=some a→a.1*a.2≤n)(e:VR m (vz (.old ⟨c,d,none⟩) q) v):VR (m.put i c d n) (vz (.own i 0) q) v:=by
 have hp:(m.put i c d n).pl (.own i 0)=⟨c,d,none⟩:=by simp[Emb.pl,Emb.put]
 cases q with
 | none=>simp only[vz,VR,hp]at e ⊢; simpa[Emb.pl]using e
 | some q=>
  simp only[vz,VR,hp]at e ⊢
  obtain⟨a,cap,e1,e2,e3,e4⟩:=e
  refine⟨a,cap,e1,e2,e3,?_⟩
  rcases e4 with e4 | ⟨e4,_⟩
  ·exact .inl e4
  ·refine .inr ⟨e4,fun i' off hp'=> ?_⟩
   cases hp'
   have:=e3 trivial
   subst this
   have:=hq q rfl
   simp[Emb.put]; exact this
structure Pnd(w0 ws:World)(l:List MIx)(m:Emb)(fr:Fr)(h:Heap)(w:World)(f c:Nat):Prop where
 ex:∃t z d n q x,(l[f]? = some x∧kz x=some (t,z,q))∧z.all rT=true∧fr.get t=vz (.old ⟨c,d,none⟩) q∧BR m d n (.row z) (w.heap[c]?)
 g1:w0.heap.size≤c
 g2:ws.heap.size≤c
 ne:∀(i:Nat) b,h[i]? = some (some b)→m.blk i≠c
theorem Pnd.lt{f c:Nat}(k:Pnd w0 ws l m fr h w f c):c<w.heap.size:=by
 obtain⟨t,z,d,n,q,x,_,_,_,e⟩:=k.ex
 obtain⟨x,hx⟩:=e.some
 rcases Nat.lt_or_ge c w.heap.size with h1 | h1
 ·exact h1
 ·rw[Array.getElem?_eq_none h1]at hx; cases hx
theorem aAa{d n:Nat}{z:List AV}(hz:z.all rT=true){o:Option Obj}(e:BR m d n (.row z) o):BR m' d n (.row z) o:=by
 obtain⟨ca,e1,e2,e3,e4⟩:=e
 refine⟨ca,e1,e2,e3,fun k x hx=> ?_⟩
 obtain⟨y,hy,hv⟩:=e4 k x hx
 exact⟨y,hy,aJl (List.all_eq_true.1 hz x (List.mem_of_getElem? hx)) hv⟩
theorem Pnd.step{f c:Nat}(k:Pnd w0 ws l m fr h w f c)(s:bU w0 m m' h h' w w')(hfr:∀t,cL l f=some t→fr'.get t=fr.get t):Pnd w0 ws l m' fr' h' w' f c:=by
 have hlt:=k.lt
 obtain⟨t,z,d,n,q,x,e1,e2,e3,e4⟩:=k.ex
 refine⟨⟨t,z,d,n,q,x,e1,e2,by rw[hfr t (by simp[cL,e1.1,(iG e1.2).1])]; exact e3,?_⟩,k.g1,k.g2,fun i b hi e=> ?_⟩
 ·rw[s.mods.same c hlt k.ne]; exact aAa e2 e4
 ·obtain⟨j,b',hj,e'⟩:=s.roots i b hi (by omega)
  exact k.ne j b' hj (e'.trans e)
structure JC(P:Program)(w0 ws:World)(r lr:Option Nat)(nt Z:Nat)(Bs:Ab.Bs)(m0:Emb)(h0:Heap)(l:List MIx)(R:Nat→List Nat)(K:Fr→Heap→Prop)(S Pd:Nat→Bool)(m:Emb)(fr:Fr)(h:Heap)(a:Act)(w:World):Prop where
 sa:SA w0 r lr nt Z Bs m fr h a w
 st:dB Z w0 m0 m h0 h ws w
 wp:∃fr0:Fr,(∀t,(∀f,Pd f=true→cL l f≠some t)→fr.get t=fr0.get t)∧wli P w0 l R (rem l.length fun i=> !S i||Pd i) fr0 h K
 pd:∃c:Nat→Nat,(∀f,Pd f=true→Pnd w0 ws l m fr h w f (c f))∧∀f g,Pd f=true→Pd g=true→f≠g→c f≠c g
 ps:∀f,Pd f=true→S f=true∧f<l.length
def aDd(l:List MIx)(S:Nat→Bool)(f:Nat):Prop:=∃e x,e<f∧S e=false∧l[e]? = some x∧kq x=false
def aEs(bf:Nat→Nat→Bool)(S:Nat→Bool):Prop:=∀i j,S i=true→bf i j=true→S j=true
theorem BR_len{d n:Nat}{z:List AV}{o:Option Obj}(e:BR m d n (.row z) o):z.length≤n:=by
 obtain⟨ca,e1,_,e3,e4⟩:=e
 rcases Nat.eq_zero_or_pos z.length with h0 | h0
 ·omega
 ·obtain⟨y,hy,_⟩:=e4 (z.length - 1) z[z.length - 1] (qA (by omega))
  have:=(Array.getElem?_eq_some_iff.1 hy).1
  omega
theorem SA.tell{t c d n:Nat}{z:List AV}{q:Option (Nat×Nat)}(hq:∀a,q=some a→a.1*a.2≤z.length)(sa:SA w0 r lr nt Z Bs m fr h a w)(st:dB Z w0 m0 m h0 h ws w)(hz:z.all rT=true)(hg:fr.get t=vz (.old ⟨c,d,none⟩) q)(hbr:BR m d n (.row z) (w.heap[c]?))(g1:w0.heap.size≤c)(g2:ws.heap.size≤c)
 (ne:∀(i:Nat) b,h[i]? = some (some b)→m.blk i≠c):SA w0 r lr nt Z Bs (m.put h.length c d n) (fr.put (some t) (vz (.own h.length 0) q)) (h++[some (.row z)]) a w∧dB Z w0 m0 (m.put h.length c d n) h0 (h++[some (.row z)]) ws w:=by
 have hext:Ext m (m.put h.length c d n) h.length:=Emb.put_ext m c d n (Nat.le_refl _)
 have hlt:∀ {i:Nat},i<h.length→(m.put h.length c d n).blk i=m.blk i:=fun {i} hi=>by simp[Emb.put,Nat.ne_of_lt hi]
 have hblk:(m.put h.length c d n).blk h.length=c:=by simp[Emb.put]
 have hget:∀ {i:Nat} {b:Blk},(h++[some (Blk.row z)])[i]? = some (some b)→(i<h.length∧h[i]? = some (some b))∨(i=h.length∧b= .row z):=fun {i b} hi=>by
  rcases Nat.lt_or_ge i h.length with h1 | h1
  ·rw[qH h1]at hi; exact .inl ⟨h1,hi⟩
  ·rw[qI h1]at hi
   have:=aI hi
   simp only[List.length_singleton]at this
   have e:i=h.length:=by omega
   subst e
   simp at hi
   exact .inr ⟨rfl,hi.symm⟩
 have hzb:∀N,(Blk.row z).bdd N:=fun N x hx=>aG2 (List.all_eq_true.1 hz x hx) N
 have sim:Sim w0 (m.put h.length c d n) (h++[some (.row z)]) w:=by
  refine⟨sa.sim.size,sa.sim.old,fun i b hi=> ?_,fun i j b b' hij hi hj=> ?_⟩
  ·rcases hget hi with⟨h1,h2⟩ | ⟨rfl,rfl⟩
   ·obtain⟨k1,k2,k3⟩:=sa.sim.at_ i b h2
    refine⟨by rw[hlt h1]; exact k1,?_,Blk.bdd_mono (by simp) k3⟩
    have e1:(m.put h.length c d n).base i=m.base i:=by simp[Emb.put,Nat.ne_of_lt h1]
    have e2:(m.put h.length c d n).sz i=m.sz i:=by simp[Emb.put,Nat.ne_of_lt h1]
    rw[hlt h1,e1,e2]
    exact aFo hext k3 k2
   ·refine⟨by rw[hblk]; exact g1,?_,hzb _⟩
    rw[hblk,show(m.put h.length c d n).base h.length=d by simp[Emb.put],show(m.put h.length c d n).sz h.length=n by simp[Emb.put]]
    exact aAa hz hbr
  ·rcases hget hi with⟨h1,h2⟩ | ⟨rfl,rfl⟩<;>rcases hget hj with⟨h3,h4⟩ | ⟨rfl,rfl⟩
   ·rw[hlt h1,hlt h3]; exact sa.sim.inj i j b b' hij h2 h4
   ·rw[hlt h1,hblk]; exact ne i b h2
   ·rw[hlt h3,hblk]; exact(ne j b' h4).symm
   ·exact absurd rfl hij
 refine⟨⟨sim,fun s=> ?_,sa.size,sa.low,?_,?_,sa.inr,by have:=sa.hz; simp; omega⟩,⟨sim,fun i hi=> ?_,st.mods,by have:=st.le; simp; omega,fun i b hi hl=> ?_⟩⟩
 ·by_cases e:s=t
  ·subst e
   have h1:=(sa.frame s).1
   rw[hg]at h1
   rw[fB]
   refine⟨vz_new (fun a ha=>Nat.le_trans (hq a ha) (BR_len hbr)) h1,aH4 (by simp[Pl.bdd])⟩
  ·rw[bA (fun u hu e2=>by cases hu; exact e e2.symm)]
   obtain⟨h1,h2⟩:=sa.frame s
   exact⟨gL hext _ _ h2 h1,AV.bdd_mono (by simp) _ h2⟩
 ·obtain⟨rs,h1,h2,h3⟩:=sa.marks
  refine⟨rs,h1,h2,fun q hq=> ?_⟩
  obtain⟨k1,k2,k3⟩:=h3 q hq
  refine⟨k1,k2,fun i b hi=> ?_⟩
  rcases hget hi with⟨h4,h5⟩ | ⟨rfl,rfl⟩
  ·rw[hlt h4]; exact k3 i b h5
  ·rw[hblk]
   intro e
   subst e
   obtain⟨ca,e1,e2,_⟩:=hbr
   rw[k2]at e2; cases e2
 ·rw[sa.rnd]
  cases hr:r with
  | none=>rfl
  | some i=>simp[hlt (Nat.lt_of_lt_of_le (sa.inr i hr) sa.hz)]
 ·have h1:=st.ext i hi
  have h2:=hext i (Nat.lt_of_lt_of_le hi sa.hz)
  exact⟨h2.1.trans h1.1,h2.2.1.trans h1.2.1,h2.2.2.trans h1.2.2⟩
 ·rcases hget hi with⟨h4,h5⟩ | ⟨rfl,rfl⟩
  ·rw[hlt h4]at hl ⊢; exact st.roots i b h5 hl
  ·rw[hblk]at hl; omega
end
section
variable {P:Program} {w0 ws:World} {r lr:Option Nat} {nt Z:Nat} {Bs:Bs} {m m' m0:Emb} {fr fr':Fr} {h h' h0:Heap} {a a':Act} {w w':World} {l:List MIx} {bf:Nat→Nat→Bool} {R:Nat→List Nat} {K:Fr→Heap→Prop} {S Pd:Nat→Bool}
theorem aJ2{n f:Nat}{p:Nat→Bool}(hf:f<n)(hp:p f=true):((List.range n).filter fun i=>p i && !Nat.beq i f).length<((List.range n).filter p).length:=by
 obtain⟨B,e1,e2⟩:=qX (f:=p) hf hp
 have h1:=e2 (fun i=>p i && !Nat.beq i f) (fun j hj=>by
  have:Nat.beq j f=false:=by
   cases hb:Nat.beq j f with
   | false=>rfl
   | true=>exact absurd (cW.1 hb) hj
  simp[this]) (by simp[Nat.beq_refl])
 unfold rem at e1 h1
 rw[e1,h1]; simp
theorem aEj{n:Nat}{p:Nat→Bool}{A1 A2:List Nat}{a:Nat}(e:(List.range n).filter p=A1++a::A2):∀b∈A2,a<b:=fun b hb=>by
 have h1:((List.range n).filter p).Pairwise (· < ·):=List.Pairwise.filter _ List.pairwise_lt_range
 rw[e,List.pairwise_append]at h1
 exact(List.pairwise_cons.1 h1.2.1).1 b hb
theorem JC.norm(k:FL l bf R)(hK:∀fr fr' h,FE fr fr'→K fr h→K fr' h)(hc:aEs bf S):∀(N:Nat) (Pd:Nat→Bool) (m:Emb) (fr:Fr) (h:Heap),((List.range l.length).filter Pd).length≤N→JC P w0 ws r lr nt Z Bs m0 h0 l R K S Pd m fr h a w →
 ∃Pd m fr h,JC P w0 ws r lr nt Z Bs m0 h0 l R K S Pd m fr h a w∧∀f,Pd f=true→aDd l S f:=by
 intro N
 induction N with
 | zero=>
  intro Pd m fr h hn j
  refine⟨Pd,m,fr,h,j,fun f hf=> ?_⟩
  have:f∈(List.range l.length).filter Pd:=List.mem_filter.2 ⟨List.mem_range.2 (j.ps f hf).2,hf⟩
  rw[List.eq_nil_of_length_eq_zero (Nat.le_zero.1 hn)]at this
  cases this
 | succ N ih=>
  intro Pd m fr h hn j
  by_cases hx:∃f,Pd f=true∧¬aDd l S f
  ·obtain⟨f,⟨hf,hnb⟩,hmin⟩:=least hx
   obtain⟨hSf,hfl⟩:=j.ps f hf
   obtain⟨c,hpn,hcd⟩:=j.pd
   obtain⟨fr0,hfr,hw⟩:=j.wp
   have pf:=hpn f hf
   obtain⟨t,z,d,n,q,x,⟨e1,e1k⟩,e2,e3,e4⟩:=pf.ex
   obtain⟨z1,z2,_,z4,z5,z6,z7⟩:=iG e1k
   obtain⟨B,s1,s2⟩:=qX (n:=l.length) (f:=fun i=> !S i||Pd i) hfl (by simp[hf])
   rw[s1]at hw
   have hA:∀u∈(List.range f).filter fun i=> !S i||Pd i,∀y,l[u]? = some y→u<f∧Ap x y∧kq y=true:=fun u hu y hy=>by
    obtain⟨h1,h2⟩:=List.mem_filter.1 hu
    have h1:=List.mem_range.1 h1
    have hPu:Pd u=false:=by
     cases e:Pd u with
     | false=>rfl
     | true=>
      have:=hmin u h1
      simp only[e,true_and,Classical.not_not]at this
      obtain⟨q,x,q1,q2,q3,q4⟩:=this
      exact absurd ⟨q,x,by omega,q2,q3,q4⟩ hnb
    have hSu:S u=false:=by simpa[hPu]using h2
    have hq:kq y=true:=by
     cases e:kq y with
     | true=>rfl
     | false=>exact absurd ⟨u,y,h1,hSu,hy,e⟩ hnb
    refine⟨h1,k.ap (by omega) e1 hy ?_ ?_,hq⟩
    ·cases e:bf f u with
     | false=>rfl
     | true=>have:=hc f u hSf e; rw[hSu]at this; cases this
    ·cases e:bf u f with
     | false=>rfl
     | true=>have:=k.lt (by omega) e; omega
   have hw2:=((z7 _ _ _ _).1 _).1 (mv_e hK e1 (fun A1 a A2 e y hy=>by
    have ha:a∈(List.range f).filter fun i=> !S i||Pd i:=by rw[e]; simp
    obtain⟨a1,a2,a3⟩:=hA a ha y hy
    refine⟨a2,a3,k.rq a y hy a3,.inr (.inl z5),fun b hb w hw t ht=> ?_⟩
    have hb2:b∈(List.range f).filter fun i=> !S i||Pd i:=by rw[e]; simp[hb]
    have hab:=aEj e b hb
    have hbl:=aI hw
    exact fun ht2=>k.ds a b t (by omega) hbl (by omega) (by simp[cL,hy,ht]) (by simp[cL,hw,ht2])) hw)
   rw[z1]at hw2
   obtain⟨sa1,st1⟩:=j.sa.tell z4 j.st e2 e3 e4 pf.g1 pf.g2 pf.ne
   have hpd':∀g,(Pd g && !Nat.beq g f)=true→Pd g=true∧g≠f:=fun g hg=>by
    simp only[Bool.and_eq_true,Bool.not_eq_true']at hg
    exact⟨hg.1,fun e=>by subst e; rw[Nat.beq_refl]at hg; exact absurd hg.2 (by simp)⟩
   refine ih (fun i=>Pd i && !Nat.beq i f) _ _ _ (by have:=aJ2 hfl hf; omega) ⟨sa1,st1,?_,⟨c,fun g hg=> ?_,fun g g' hg hg'=>hcd g g' (hpd' g hg).1 (hpd' g' hg').1⟩,fun g hg=>j.ps g (hpd' g hg).1⟩
   ·refine⟨fr0.put (some t) (vz (.own h.length 0) q),fun s hs=> ?_,?_⟩
    ·by_cases e:s=t
     ·subst e; rw[fB,fB]
     ·rw[bA (fun u hu e2=>by cases hu; exact e e2.symm),bA (fun u hu e2=>by cases hu; exact e e2.symm)]
      refine hfr s fun g hg hd=> ?_
      by_cases eg:g=f
      ·subst eg; simp[cL,e1,z1]at hd; exact e hd.symm
      ·refine hs g ?_ hd
       have:Nat.beq g f=false:=by
        cases hb:Nat.beq g f with
        | false=>rfl
        | true=>exact absurd (cW.1 hb) eg
       simp[hg,this]
    ·rw[s2 (fun i=> !S i||(Pd i && !Nat.beq i f)) (fun q hq=> ?_) (by simp[hSf,Nat.beq_refl])]
     ·exact hw2
     ·have:Nat.beq q f=false:=by
       cases hb:Nat.beq q f with
       | false=>rfl
       | true=>exact absurd (cW.1 hb) hq
      simp[this]
   ·obtain⟨hg1,hg2⟩:=hpd' g hg
    have pg:=hpn g hg1
    obtain⟨t',z',d',n',q',x',q1,q2,q3,q4⟩:=pg.ex
    have htt:t'≠t:=fun e=>by
     subst e
     exact k.ds f g t' hfl (j.ps g hg1).2 hg2 (by simp[cL,e1,z1]) (by simp[cL,q1.1,(iG q1.2).1])
    refine⟨⟨t',z',d',n',q',x',q1,q2,by rw[bA (fun u hu e=>by cases hu; exact htt e.symm)]; exact q3,aAa q2 q4⟩,pg.g1,pg.g2,fun i b hi=> ?_⟩
    rcases Nat.lt_or_ge i h.length with h1 | h1
    ·rw[qH h1]at hi
     simpa[Emb.put,Nat.ne_of_lt h1]using pg.ne i b hi
    ·have hil:=aI hi
     simp only[List.length_append,List.length_singleton]at hil
     obtain rfl:i=h.length:=by omega
     simp only[Emb.put,if_true]
     exact hcd f g hf hg1 hg2.symm
  ·exact⟨Pd,m,fr,h,j,fun f hf=>Classical.byContradiction fun hn=>hx ⟨f,hf,hn⟩⟩
def JN(P:Program)(w0 ws:World)(r lr:Option Nat)(nt Z:Nat)(Bs:Ab.Bs)(m0:Emb)(h0:Heap)(l:List MIx)(R:Nat→List Nat)(K:Fr→Heap→Prop)(S:Nat→Bool)(a:Act)(w:World):Prop:=
 ∃Pd m fr h,JC P w0 ws r lr nt Z Bs m0 h0 l R K S Pd m fr h a w∧∀f,Pd f=true→aDd l S f
theorem JC.n(j:JC P w0 ws r lr nt Z Bs m0 h0 l R K S Pd m fr h a w)(k:FL l bf R)(hK:∀fr fr' h,FE fr fr'→K fr h→K fr' h)(hc:aEs bf S):JN P w0 ws r lr nt Z Bs m0 h0 l R K S a w:=JC.norm k hK hc _ Pd m fr h (Nat.le_refl _) j
theorem aIU{x:MIx}{K':AV→Heap→Prop}{K:Fr→Heap→Prop}(e:opV P w0 x fr h K')(hk:∀v h',K' v h'→K (fr.put x.dst v) h'):jL P w0 [x] fr h K:=by
 cases x with
 | op d g o=>
  simp only[opV]at e
  simp only[jL]
  split at e<;>rename_i hw<;>rw[hw]
  ·obtain⟨v,h',e1,e2⟩:=e; exact⟨v,h',e1,hk _ _ e2⟩
  ·exact hk _ _ e
  ·exact e
 | call d g f as=>
  simp only[opV]at e
  simp only[jL]
  split at e<;>rename_i hw<;>rw[hw]
  ·exact bE.mono e fun v h' q=>hk v h' q
  ·exact hk _ _ e
  ·exact e
theorem nL{S:Nat→Bool}{i j:Nat}(h:S j=true):jK S i j=true:=by simp[jK,h]
theorem eT{S:Nat→Bool}{i j:Nat}(h:j≠i):jK S i j=S j:=by
 have:Nat.beq j i=false:=by
  cases hb:Nat.beq j i with
  | false=>rfl
  | true=>exact absurd (cW.1 hb) h
 simp[jK,this]
theorem gP{S:Nat→Bool}{i:Nat}:jK S i i=true:=by simp[jK,Nat.beq_refl]
theorem aF3(k:FL l bf R)(hK:∀fr fr' h,FE fr fr'→K fr h→K fr' h)(hc:aEs bf S){i:Nat}{x:MIx}{ops:Array Oper}{o:Oper}(hi:l[i]? = some x)(hS:S i=false)(hb:∀j,bf i j=true→S j=true)(hx:fI P nt ops o=some x)
 (j:JN P w0 ws r lr nt Z Bs m0 h0 l R K S a w) {Q:Exit→Act→World→Prop} {next:Act→World→Prop} (hn:∀a' w',JN P w0 ws r lr nt Z Bs m0 h0 l R K (jK S i) a' w'→next a' w') :
 if Region.wanted o (yielded ops a.tmps)then o.wpIn (Wd lr) 0 P a w next Q else(∀f,o.about P w a.eval=some f→(Wd lr).fn f)∧next (a.put o.dst undef) w:=by
 obtain⟨Pd,m,fr,h,j,hbl⟩:=j
 obtain⟨c,hpn,hcd⟩:=j.pd
 obtain⟨fr0,hfr,hw⟩:=j.wp
 have hil:=aI hi
 have hc':aEs bf (jK S i):=fun p q hp hq=>by
  by_cases e:p=i
  ·subst e; exact nL (hb q hq)
  ·rw[eT e]at hp; exact nL (hc p q hp hq)
 have hPi:Pd i=false:=by
  cases e:Pd i with
  | false=>rfl
  | true=>have:=(j.ps i e).1; rw[hS]at this; cases this
 have hun:∀u,u<i→S u=false→bf i u=false∧bf u i=false:=fun u hu hSu=>by
  constructor
  ·cases e:bf i u with
   | false=>rfl
   | true=>have:=hb u e; rw[hSu]at this; cases this
  ·cases e:bf u i with
   | false=>rfl
   | true=>have:=k.lt (by omega) e; omega
 have hnop:¬aDd l S i→∀f,Pd f=true→i<f:=fun hq f hf=>by
  obtain⟨e,y,e1,e2,e3,e4⟩:=hbl f hf
  rcases Nat.lt_trichotomy f i with h1 | h1 | h1
  ·exact absurd ⟨e,y,by omega,e2,e3,e4⟩ hq
  ·subst h1; rw[hPi]at hf; cases hf
  ·exact h1
 have hApd:(nra l x=true∨∀f,Pd f=true→i<f)→∀f,Pd f=true→∃y,l[f]? = some y∧Ap x y:=fun hor f hf=>by
  obtain⟨t,z,d,n,q,y,⟨e1,e1k⟩,_⟩:=(hpn f hf).ex
  obtain⟨z1,z2,_⟩:=iG e1k
  have hfi:f≠i:=fun e=>by subst e; rw[hPi]at hf; cases hf
  refine⟨y,e1,?_⟩
  rcases hor with hn | hp
  ·refine⟨fun s _=>by rw[z2]; exact List.not_mem_nil,fun s hs hm=> ?_,fun s h1 h2=>k.ds i f s hil (j.ps f hf).2 hfi (by simp[cL,hi,h1]) (by simp[cL,e1,h2])⟩
   rw[z1]at hs; cases hs
   have:=List.all_eq_true.1 hn y (List.mem_of_getElem? e1)
   rw[e1k]at this
   simp[hm]at this
  ·have hif:=hp f hf
   refine k.ap (by omega) hi e1 ?_ ?_
   ·cases e:bf i f with
    | false=>rfl
    | true=>have:=k.lt hil e; omega
   ·cases e:bf f i with
    | false=>rfl
    | true=>have:=hc f i (j.ps f hf).1 e; rw[hS]at this; cases this
 have hps':∀f,Pd f=true→jK S i f=true∧f<l.length:=fun f hf=>⟨nL (j.ps f hf).1,(j.ps f hf).2⟩
 obtain⟨B,s1,s2⟩:=qX (n:=l.length) (f:=fun i=> !S i||Pd i) hil (by simp[hS])
 have s3:rem l.length (fun q=> !jK S i q||Pd q)=((List.range i).filter fun i=> !S i||Pd i)++B:=s2 _ (fun q hq=>by rw[eT hq]) (by simp[gP,hPi])
 have hrd:(nra l x=true∨∀f,Pd f=true→i<f)→∀t∈x.rds,fr0.get t=fr.get t:=fun hp t ht=>by
  refine(hfr t fun f hf hd=> ?_).symm
  obtain⟨y,hy,hap⟩:=hApd hp f hf
  exact hap.b t (by simpa[cL,hy]using hd) ht
 have hpd2:(nra l x=true∨∀f,Pd f=true→i<f)→∀ {m':Emb} {h':Heap} {w':World} {v:AV},bU w0 m m' h h' w w'→∀f,Pd f=true→Pnd w0 ws l m' (fr.put x.dst v) h' w' f (c f):=fun hp {m' h' w' v} s f hf=>by
  refine(hpn f hf).step s fun t ht=>bA fun u hu e=> ?_
  subst e
  obtain⟨y,hy,hap⟩:=hApd hp f hf
  exact hap.c u hu (by simpa[cL,hy]using ht)
 have hfr2:(nra l x=true∨∀f,Pd f=true→i<f)→∀v t,(∀f,Pd f=true→cL l f≠some t)→(fr.put x.dst v).get t=(fr0.put x.dst v).get t:=fun hp v t ht=>by
  cases hd:x.dst with
  | none=>exact hfr t ht
  | some u=>
   by_cases e:t=u
   ·subst e; rw[fB,fB]
   ·rw[bA (fun q hq e2=>by cases hq; exact e e2.symm),bA (fun q hq e2=>by cases hq; exact e e2.symm)]; exact hfr t ht
 have hR:∀a,a<i→∀u∈R a,∀z,l[u]? = some z→∀t,x.dst=some t→t∉z.rds∧z.dst≠some t:=fun a ha u hu z hz t ht=>by
  have hua:=k.ru a u hu
  exact⟨k.ro a u hu z hz i x (by omega) hi t ht,fun h2=>k.ds i u t hil (aI hz) (by omega) (by simp[cL,hi,ht]) (by simp[cL,hz,h2])⟩
 have later:∀ {A1 A2:List Nat} {a:Nat},((List.range i).filter fun i=> !S i||Pd i)=A1++a::A2→∀y,l[a]? = some y→∀b∈A2,∀z,l[b]? = some z→∀t,y.dst=some t→z.dst≠some t:=fun {A1 A2 a} e y hy b hb z hz t ht h2=>by
  have hab:=aEj e b hb
  exact k.ds a b t (aI hy) (aI hz) (by omega) (by simp[cL,hy,ht]) (by simp[cL,hz,h2])
 cases hqx:kq x with
 | true=>
  have hor:nra l x=true∨∀f,Pd f=true→i<f:=by
   by_cases hbk:aDd l S i
   ·obtain⟨e,y,e1,e2,e3,e4⟩:=hbk
    rcases k.pair e1 e3 hi (hun e e1 e2).1 with h1 | h1 | h1 | h1
    ·rw[h1.1]at e4; cases e4
    ·rw[h1.2.1]at hqx; cases hqx
    ·obtain⟨⟨_,_,_⟩,hz⟩:=Option.isSome_iff_exists.1 h1
     rw[(iG hz).2.2.2.2.2.1]at hqx; cases hqx
    ·exact .inl h1.2.2.1
   ·exact .inr (hnop hbk)
  rw[s1]at hw
  have hop:=mv_q hK hi hqx _ _ _ (.inr fun t ht=>by rw[hrd hor t ht]; exact(j.sa.frame t).2) (fun u hu y hy=>by
   obtain⟨h1,h2⟩:=List.mem_filter.1 hu
   have h1:=List.mem_range.1 h1
   cases hSu:S u with
   | false=>
    refine⟨k.ap (by omega) hi hy (hun u h1 hSu).1 (hun u h1 hSu).2,?_,hR u h1⟩
    rcases k.pair h1 hy hi (hun u h1 hSu).1 with h3 | h3 | h3 | h3
    ·exact .inr (kq_kg h3.1)
    ·rw[h3.2.1]at hqx; cases hqx
    ·obtain⟨⟨_,_,_⟩,hz⟩:=Option.isSome_iff_exists.1 h3
     rw[(iG hz).2.2.2.2.2.1]at hqx; cases hqx
    ·exact h3.2.2.2
   | true=>
    have hPu:Pd u=true:=by simpa[hSu]using h2
    obtain⟨y',hy',hap⟩:=hApd hor u hPu
    rw[hy]at hy'; cases hy'
    obtain⟨t,z,d,n,q,y',⟨e1,e1k⟩,_⟩:=(hpn u hPu).ex
    rw[hy]at e1; cases e1
    refine⟨hap,.inr ?_,hR u h1⟩
    unfold kg; split
    ·rfl
    ·rw[(iG e1k).2.2.2.2.1]; simp) hw
  refine lE (P:=P) (ops:=ops) (K:=fun fr' h'=>∃v,fr'=fr.put x.dst v∧wli P w0 l R (((List.range i).filter fun i=> !S i||Pd i)++B) (fr0.put x.dst v) h' K) hx j.sa (aIU (iR (hrd hor) hop) fun v h' e=>⟨v,rfl,by rw[e.1]; exact e.2⟩) fun m' fr' h' a' w' s sa' e _=>hn a' w' ?_
  obtain⟨v,rfl,hw2⟩:=e
  exact JC.n (Pd:=Pd) ⟨sa',j.st.trans (s.toZ j.sa.hz),⟨_,hfr2 hor _,by rw[s3]; exact hw2⟩,⟨c,hpd2 hor s,hcd⟩,hps'⟩ k hK hc'
 | false=>
 cases hka:kz x with
 | some tz=>
  obtain⟨t,z,q⟩:=tz
  obtain⟨z1,z2,hz,z4,z5,z6,z7⟩:=iG hka
  refine lE (P:=P) (ops:=ops) (K:=fun fr' h'=>fr'=fr.put (some t) (vz (.own h.length 0) q)∧h'=h++[some (.row z)]) hx j.sa ((z7 _ _ _ _).2 _ (by rw[z1]; exact⟨rfl,rfl⟩)) fun m' fr' h' a' w' s sa' e _=>hn a' w' ?_
  obtain⟨rfl,rfl⟩:=e
  by_cases hbk:aDd l S i
  ·-- nobody tells of it yet
   have hsd:=s.drop (Nat.le_refl _) fun i b hi=>(j.sa.sim.at_ i b hi).2.2
   have hgl:(h++[some (Blk.row z)])[h.length]? = some (some (.row z)):=by simp
   have hne:∀(q:Nat) b,h[q]? = some (some b)→m'.blk q≠m'.blk h.length:=fun q b hq=>s.sim.inj q h.length b (.row z) (by have:=aI hq; omega) (aA hq) hgl
   have hcl:w.heap.size≤m'.blk h.length:=by
    rcases Nat.lt_or_ge (m'.blk h.length) w.heap.size with h1 | h1
    ·obtain⟨q,b,hq,e⟩:=s.roots _ _ hgl h1
     have:=hne q b hq
     rw[(s.ext q (aI hq)).1]at this
     exact absurd e this
    ·exact h1
   have hSA:SA w0 r lr nt Z Bs m' (fr.put (some t) (vz (.old ⟨m'.blk h.length,m'.base h.length,none⟩) q)) h a' w':=by
    have h1:=sa'.drop (fr':=fr.put (some t) .undef) (fun i b hi=>(j.sa.sim.at_ i b hi).2.2) j.sa.hz (fun q=> ?_) (fun q=> ?_)
    ·refine⟨h1.sim,fun s=> ?_,h1.size,h1.low,h1.marks,h1.rnd,h1.inr,h1.hz⟩
     by_cases e:s=t
     ·subst e
      have h2:=(sa'.frame s).1
      rw[fB]at h2 ⊢
      exact⟨vz_old h2,aH4 trivial⟩
     ·have:=h1.frame s
      rwa [bA (fun u hu e2=>by cases hu; exact e e2.symm)]at this ⊢
    ·by_cases e:q=t
     ·subst e; rw[fB]; simp[AV.bdd]
     ·rw[bA (fun u hu e2=>by cases hu; exact e e2.symm)]; exact(j.sa.frame q).2
    ·by_cases e:q=t
     ·subst e; rw[fB]; exact .inl rfl
     ·right; rw[bA (fun u hu e2=>by cases hu; exact e e2.symm),bA (fun u hu e2=>by cases hu; exact e e2.symm)]
   have hold:∀f,Pd f=true→f≠i:=fun f hf e=>by subst e; rw[hPi]at hf; cases hf
   have htf:∀f,Pd f=true→cL l f≠some t:=fun f hf=>k.ds i f t hil (j.ps f hf).2 (hold f hf) (by simp[cL,hi,z1])
   have hwi:∀f,jK Pd i f=true→f=i∨(f≠i∧Pd f=true):=fun f hf=>by
    by_cases e:f=i
    ·exact .inl e
    ·rw[eT e]at hf; exact .inr ⟨e,hf⟩
   refine JC.n (Pd:=jK Pd i) ⟨hSA,j.st.trans (hsd.toZ j.sa.hz),⟨fr0,fun s hq=> ?_,?_⟩,⟨fun f=>if f=i then m'.blk h.length else c f,fun f hf=> ?_,fun f g hf hg hfg=> ?_⟩,fun f hf=> ?_⟩ k hK hc'
   ·have hqt:s≠t:=fun e=>by subst e; exact hq i gP (by simp[cL,hi,z1])
    rw[bA (fun u hu e2=>by cases hu; exact hqt e2.symm)]
    exact hfr s fun f hf=>hq f (nL hf)
   ·rw[aAB (f:=fun i=> !S i||Pd i)]
    ·exact hw
    ·intro q _
     by_cases e:q=i
     ·subst e; simp[gP,hS]
     ·rw[eT e,eT e]
   ·rcases hwi f hf with rfl | ⟨hfi,hf⟩
    ·simp only[if_true]
     obtain⟨k1,k2,_⟩:=s.sim.at_ _ _ hgl
     exact⟨⟨t,z,m'.base h.length,m'.sz h.length,q,x,⟨hi,hka⟩,hz,fB,k2⟩,k1,Nat.le_trans j.st.mods.size hcl,hne⟩
    ·simp only[if_neg hfi]
     exact(hpn f hf).step hsd fun q hq=>bA fun u hu e=>by
      cases hu; subst e; exact htf f hf hq
   ·rcases hwi f hf with e1 | ⟨hfi,hf2⟩<;>rcases hwi g hg with e2 | ⟨hgi,hg2⟩
    ·exact absurd (e1.trans e2.symm) hfg
    ·have:=(hpn g hg2).lt
     simp only[if_pos e1,if_neg hgi]; omega
    ·have:=(hpn f hf2).lt
     simp only[if_pos e2,if_neg hfi]; omega
    ·simp only[if_neg hfi,if_neg hgi]; exact hcd f g hf2 hg2 hfg
   ·rcases hwi f hf with rfl | ⟨hfi,hf⟩
    ·exact⟨gP,hil⟩
    ·exact hps' f hf
  ·have hq:∀u y,u<i→S u=false→l[u]? = some y→kq y=true:=fun u y hu hSu hy=>by
    cases e:kq y with
    | true=>rfl
    | false=>exact absurd ⟨u,y,hu,hSu,hy,e⟩ hbk
   have hp:=hnop hbk
   rw[s1]at hw
   have hw2:=((z7 _ _ _ _).1 _).1 (mv_e hK hi (fun A1 u A2 e y hy=>by
    have hu:u∈(List.range i).filter fun i=> !S i||Pd i:=by rw[e]; simp
    obtain⟨h1,h2⟩:=List.mem_filter.1 hu
    have h1:=List.mem_range.1 h1
    have hPu:Pd u=false:=by
     cases e:Pd u with
     | false=>rfl
     | true=>have:=hp u e; omega
    have hSu:S u=false:=by simpa[hPu]using h2
    exact⟨k.ap (by omega) hi hy (hun u h1 hSu).1 (hun u h1 hSu).2,hq u y h1 hSu hy,k.rq u y hy (hq u y h1 hSu hy),.inr (.inl z5),later e y hy⟩) hw)
   have h1:=hfr2 (.inr hp) (vz (.own h.length 0) q)
   have h2:=hpd2 (.inr hp) (v:=vz (.own h.length 0) q) s
   rw[z1]at h1 h2 hw2
   exact JC.n (Pd:=Pd) ⟨sa',j.st.trans (s.toZ j.sa.hz),⟨_,h1,by rw[s3]; exact hw2⟩,⟨c,h2,hcd⟩,hps'⟩ k hK hc'
 | none=>
  have hq:∀u y,u<i→S u=false→l[u]? = some y→kq y=true∧(kp y=true∨kb x=true∨u∈R i):=fun u y hu hSu hy=>by
   rcases k.pair hu hy hi (hun u hu hSu).1 with h1 | h1 | h1 | h1
   ·rw[h1.2]at hqx; cases hqx
   ·exact⟨h1.1,h1.2.2⟩
   ·rw[hka]at h1; cases h1
   ·rw[h1.2.1]at hqx; cases hqx
  have hp:=hnop fun⟨e,y,e1,e2,e3,e4⟩=>by rw[(hq e y e1 e2 e3).1]at e4; cases e4
  rw[s1]at hw
  have hop:=mv_e hK hi (fun A1 u A2 e y hy=>by
   have hu:u∈(List.range i).filter fun i=> !S i||Pd i:=by rw[e]; simp
   obtain⟨h1,h2⟩:=List.mem_filter.1 hu
   have h1:=List.mem_range.1 h1
   have hPu:Pd u=false:=by
    cases e:Pd u with
    | false=>rfl
    | true=>have:=hp u e; omega
   have hSu:S u=false:=by simpa[hPu]using h2
   obtain⟨q1,q2⟩:=hq u y h1 hSu hy
   refine⟨k.ap (by omega) hi hy (hun u h1 hSu).1 (hun u h1 hSu).2,q1,k.rq u y hy q1,?_,later e y hy⟩
   rcases q2 with q2 | q2 | q2
   ·exact .inl q2
   ·exact .inr (.inl q2)
   ·refine .inr (.inr ⟨q2,fun b hb z hz t ht=>k.ro i u q2 y hy b z ?_ hz t ht⟩)
    rcases List.mem_cons.1 hb with rfl | hb
    ·exact Nat.le_refl _
    ·exact Nat.le_of_lt (aEj e b hb)) hw
  refine lE (P:=P) (ops:=ops) (K:=fun fr' h'=>∃v,fr'=fr.put x.dst v∧wli P w0 l R (((List.range i).filter fun i=> !S i||Pd i)++B) (fr0.put x.dst v) h' K) hx j.sa (aIU (iR (hrd (.inr hp)) hop) fun v h' e=>⟨v,rfl,e⟩) fun m' fr' h' a' w' s sa' e _=>hn a' w' ?_
  obtain⟨v,rfl,hw2⟩:=e
  exact JC.n (Pd:=Pd) ⟨sa',j.st.trans (s.toZ j.sa.hz),⟨_,hfr2 (.inr hp) _,by rw[s3]; exact hw2⟩,⟨c,hpd2 (.inr hp) s,hcd⟩,hps'⟩ k hK hc'
end
section
variable {P:Program} {w0 ws:World} {r lr:Option Nat} {nt Z:Nat} {Bs:Bs} {m m' m0:Emb} {fr fr':Fr} {h h' h0:Heap} {a a':Act} {w w':World} {l:List MIx} {bef:List (List Nat)} {n:Nat}
theorem aHn{ops:Array Oper}(b:BOK ops l bef n)
 (hx:∀(i:Nat) o,ops[i]? = some o→∃x,l[i]? = some x∧fI P nt ops o=some x)
 (J:(Nat→Bool)→Act→World→Prop) {Q:Exit→Act→World→Prop}
 (hv:∀S i x o a w,ops[i]? = some o→l[i]? = some x→fI P nt ops o=some x→S i=false→(∀j,bfr bef i j=true→S j=true)→aEs (bfr bef) S→J S a w→∀next:Act→World→Prop,(∀a' w',J (jK S i) a' w'→next a' w') →
  if Region.wanted o (yielded ops a.tmps)then o.wpIn (Wd lr) 0 P a w next Q else(∀f,o.about P w a.eval=some f→(Wd lr).fn f)∧next (a.put o.dst undef) w)
 (hQ:∀S a w,(∀i,i<n→S i=true)→J S a w→Q .normal a w) :
 ∀(fuel:Nat) (listed:Array Bool) (a:Act) (w':World),listed.size=n→listed.toList.count false≤fuel→(∀i j,listed.getD i false=true→bfr bef i j=true→listed.getD j false=true) →
  J (fun j=>listed.getD j false) a w'→wpAnyIn (Wd lr) 0 P .any ops Q fuel listed a w':=by
 have hgd:∀(listed:Array Bool) (i:Nat),listed.size=n→i<n→listed.getD i true=listed.getD i false:=fun listed i h1 h2=>by
  rw[Array.getD_eq_getD_getElem?,Array.getD_eq_getD_getElem?,Array.getElem?_eq_getElem (by omega)]; rfl
 have hdone:∀(listed:Array Bool) (a:Act) (w':World),listed.size=n→Region.ready .any ops listed=[]→J (fun j=>listed.getD j false) a w'→Q .normal a w':=by
  intro listed a w' hls hr j
  have hall:∀i,i<n→listed.getD i false=true:=by
   intro i
   induction i using Nat.strongRecOn with
   | ind i ih=>
    intro hi
    cases hli:listed.getD i false with
    | true=>rfl
    | false=>
     exfalso
     obtain⟨o,ho⟩:∃o,ops[i]? = some o:=⟨_,Array.getElem?_eq_getElem (by rw[b.size]; exact hi)⟩
     have:i∈Region.ready .any ops listed:=mem_ready.2 ⟨by rw[hgd listed i hls hi]; exact hli,o,ho,fun e he hb=>by
      have:=b.edge i o ho e he hb
      exact ih e.on this (by omega)⟩
     rw[hr]at this; cases this
  exact hQ _ _ _ hall j
 intro fuel
 induction fuel with
 | zero=>
  intro listed a w' hls hc hcl j
  have hr:Region.ready .any ops listed=[]:=by
   rw[List.eq_nil_iff_forall_not_mem]
   intro i hi
   obtain⟨h1,o,ho,_⟩:=mem_ready.1 hi
   have hin:i<n:=by
    rw[←b.size]
    rcases Nat.lt_or_ge i ops.size with hlt | hge
    ·exact hlt
    ·rw[Array.getElem?_eq_none hge]at ho; cases ho
   have:false∉listed.toList:=List.count_eq_zero.1 (by omega)
   apply this
   rw[Array.getD_eq_getD_getElem?,Array.getElem?_eq_getElem (by omega)]at h1
   simp at h1
   rw[←h1]
   simp
  exact⟨hr,hdone listed a w' hls hr j⟩
 | succ fuel ih=>
  intro listed a w' hls hc hcl j
  refine⟨fun hr=>hdone listed a w' hls hr j,fun i hi=> ?_⟩
  obtain⟨h1,o,ho,hall⟩:=mem_ready.1 hi
  have hin:i<n:=by
   rw[←b.size]
   rcases Nat.lt_or_ge i ops.size with hlt | hge
   ·exact hlt
   ·rw[Array.getElem?_eq_none hge]at ho; cases ho
  obtain⟨x,hxl,hxc⟩:=hx i o ho
  have hs:listed.getD i false=false:=by rw[←hgd listed i hls hin]; exact h1
  have hb:∀j,bfr bef i j=true→listed.getD j false=true:=fun j hj=>by
   obtain⟨e,he,hbd,h2⟩:=b.bef_ i o ho j hj
   have h3:=hall e he hbd
   rcases h2 with rfl | h2
   ·exact h3
   ·exact hcl _ _ h3 h2
  have hset:∀j,(listed.setIfInBounds i true).getD j false=jK (fun j=>listed.getD j false) i j:=fun j=>by
   simp only[jK,Array.getD_eq_getD_getElem?]
   by_cases e:j=i
   ·subst e
    simp[hls,hin]
   ·rw[Array.getElem?_setIfInBounds_ne (fun e'=>e e'.symm)]
    have:Nat.beq j i=false:=by
     cases hb:Nat.beq j i with
     | false=>rfl
     | true=>exact absurd (cW.1 hb) e
    simp[this]
  unfold wpOpIn
  rw[ho]
  refine hv _ i x o a w' ho hxl hxc hs hb hcl j _ fun a2 w2 j2=> ?_
  refine ih (listed.setIfInBounds i true) a2 w2 (by simp[hls]) ?_ ?_ (by rw[show(fun j=>(listed.setIfInBounds i true).getD j false)=jK (fun j=>listed.getD j false) i from funext hset]; exact j2)
  ·have hil:i<listed.toList.length:=by simp[hls,hin]
   have hf:listed.toList[i]=false:=by
    rw[Array.getD_eq_getD_getElem?,Array.getElem?_eq_getElem (by omega)]at hs
    simpa using hs
   have hpos:0<listed.toList.count false:=List.count_pos_iff.2 (by rw[←hf]; exact qG hil)
   rw[Array.toList_setIfInBounds,List.count_set hil,hf]
   have e1:(false==false)=true:=rfl
   have e2:(true==false)=false:=rfl
   rw[e1,e2,if_pos rfl,if_neg (by simp)]
   omega
  ·intro p q hp hq
   rw[hset]at hp ⊢
   simp only[jK,Bool.or_eq_true]at hp ⊢
   rcases hp with hp | hp
   ·rw[cW.1 hp]at hq; exact .inr (hb q hq)
   ·exact .inr (hcl p q hp hq)
theorem aA4{R:Nat→List Nat}{N:Fr→Heap→Prop}{is:List Nat}{K:Fr→Heap→Prop}:∀(suf pre post:List MIx) (fr fr1:Fr) (h:Heap),l=pre++suf++post→FE fr fr1→(∀p,pre.length≤p→p+1<pre.length+suf.length→R p=[]) →
 (∀fr fr1 h,FE fr fr1→N fr h→(suf≠[]→aC8 P w0 l (R (pre.length+suf.length - 1)) fr1 h)∧wli P w0 l R is fr1 h K)→vc P w0 suf fr h N→wli P w0 l R (List.range' pre.length suf.length++is) fr1 h K
 | [],pre,post,fr,fr1,h,_,e,_,hN,k=>(hN fr fr1 h e k).2
 | x::suf,pre,post,fr,fr1,h,el,e,hR,hN,k=>by
  refine⟨x,by rw[el]; simp,?_⟩
  have key:∀ {fr':Fr} {v:AV} {h':Heap},FE fr fr'→vc P w0 suf (fr'.put x.dst v) h' N→aC8 P w0 l (R pre.length) (fr1.put x.dst v) h'∧wli P w0 l R (List.range' (pre.length+1) suf.length++is) (fr1.put x.dst v) h' K:=fun {fr' v h'} e2 k=>by
   have hfe:=FE.put (e2.symm.trans e) x.dst v
   have h2:=aA4 suf (pre++[x]) post (fr'.put x.dst v) (fr1.put x.dst v) h' (by simp[el]) hfe (fun p h1 h2=>hR p (by simp at h1; omega) (by simp at h1 h2 ⊢; omega)) (fun f f1 g ef q=>by
    have:=hN f f1 g ef q
    refine⟨fun hne=> ?_,this.2⟩
    have:=this.1 (by simp)
    have e3:(pre++[x]).length+suf.length - 1=pre.length+(x::suf).length - 1:=by
     have:0<suf.length:=List.length_pos_iff.2 hne
     simp only[List.length_append,List.length_cons,List.length_nil]; omega
    rw[e3]; exact this) k
   refine⟨?_,by simpa using h2⟩
   by_cases hs:suf=[]
   ·subst hs
    simp only[vc]at k
    have:=(hN _ _ _ hfe k).1 (by simp)
    simpa using this
   ·rw[hR pre.length (Nat.le_refl _) (by have:0<suf.length:=List.length_pos_iff.2 hs; simp; omega)]
    exact fun u hu=>by cases hu
  cases x with
  | op d g o=>
   simp only[vc]at k
   simp only[opV]
   rcases mW k with⟨hw,fr',hfe,k⟩ | ⟨hw,fr',hfe,k⟩
   ·rw[e.want,hw]
    unfold kK at k
    split at k
    ·rename_i p hp
     exact⟨p.1,p.2,by rw[e.aop,←hfe.aop]; exact hp,key hfe k⟩
    ·exact k.elim
   ·rw[e.want,hw]
    exact key hfe k
  | call d g f as=>
   simp only[vc]at k
   simp only[opV]
   have hev:∀ {fr':Fr},FE fr fr'→f.ev fr'=f.ev fr1∧as.map (·.ev fr')=as.map (·.ev fr1):=fun {fr'} hfe=>by
    have h0:∀o:Opd,o.ev fr'=o.ev fr1:=fun o=>by
     cases o with
     | t n=>simp only[Opd.ev]; rw[hfe n,e n]
     | k v=>rfl
    exact⟨h0 f,List.map_congr_left fun o _=>h0 o⟩
   rcases mW k with⟨hw,fr',hfe,k⟩ | ⟨hw,fr',hfe,k⟩
   ·rw[e.want,hw]
    unfold aGa at k
    obtain⟨h1,h2⟩:=hev hfe
    rw[h1,h2]at k
    exact k.mono fun v h' k=>key hfe k
   ·rw[e.want,hw]
    exact key hfe k
def pairB(l:List MIx)(x y:MIx)(i:Nat)(rj:List Nat):Bool:=(kq x&&kq y)||((kq x&&(!kq y&&(kp x||(kb y||rj.contains i))))||((kz y).isSome||(!kq x&&(kq y&&(nra l y&&((kp y&&kd x)||kg x))))))
def wM(l:List MIx)(bf:Nat→Nat→Bool)(R:Nat→List Nat):Bool:=(List.range l.length).all fun j=>
 ((List.range l.length).all fun i=> !bf j i||Nat.blt i j)&&(((List.range j).all fun i=>bf j i||match l[i]?,l[j]? with
  | some x,some y=>pairB l x y i (R j)
  | _,_=>false)&&((match l[j]? with
  | some x=> !kq x||(R j).isEmpty
  | none=>true)&&(R j).all fun u=>Nat.blt u j&&match l[u]? with
   | some z=>(List.range l.length).all fun b=>Nat.blt b u||match(l[b]?).bind MIx.dst with
    | some t=> !z.rds.contains t
    | none=>true
   | none=>true))
theorem FL.of{lp:List MIx}{bf:Nat→Nat→Bool}{R:Nat→List Nat}(h:wM lp bf R=true)(hR:∀j,lp.length≤j→R j=[])(ap:∀ {i j:Nat} {x y:MIx},i≠j→lp[i]? = some x→lp[j]? = some y→bf i j=false→bf j i=false→Ap x y)
 (ds:∀i j t,i<lp.length→j<lp.length→j≠i→cL lp i=some t→cL lp j≠some t) (hb:∀ {i j:Nat},bf j i=true→i<lp.length):FL lp bf R:=by
 simp only[wM,List.all_eq_true,List.mem_range,Bool.and_eq_true]at h
 have hRj:∀i u,u∈R i→i<lp.length:=fun i u hu=>by
  rcases Nat.lt_or_ge i lp.length with h1 | h1
  ·exact h1
  ·rw[hR i h1]at hu; cases hu
 refine⟨fun {i j} hj e=> ?_,fun {i j x y} hij hx hy hb=> ?_,ap,ds,fun i x hx hq=> ?_,fun i u hu=> ?_,fun i u hu z hz b y hub hy t ht hm=> ?_⟩
 ·have:=(h j hj).1 i (hb e)
  rw[e]at this
  simpa[Nat.blt_eq]using this
 ·have:=(h j (aI hy)).2.1 i hij
  rw[hb,hx,hy]at this
  simp only[Bool.false_or,pairB,Bool.or_eq_true,Bool.and_eq_true,Bool.not_eq_true',List.contains_eq_mem,decide_eq_true_eq]at this
  rcases this with h1 | h1 | h1 | h1
  ·exact .inl h1
  ·exact .inr (.inl h1)
  ·exact .inr (.inr (.inl h1))
  ·exact .inr (.inr (.inr h1))
 ·have:=(h i (aI hx)).2.2.1
  rw[hx]at this
  simpa[hq]using this
 ·have:=((h i (hRj i u hu)).2.2.2 u hu).1
  simpa[Nat.blt_eq]using this
 ·have:=((h i (hRj i u hu)).2.2.2 u hu).2
  rw[hz]at this
  simp only[List.all_eq_true,List.mem_range]at this
  have:=this b (aI hy)
  rw[hy]at this
  simp only[Option.bind_some,ht,Bool.or_eq_true,Nat.blt_eq,Bool.not_eq_true',List.contains_eq_mem,decide_eq_false_iff_not]at this
  rcases this with h1 | h1
  ·omega
  ·exact h1 hm
theorem JN.congr{R:Nat→List Nat}{K:Fr→Heap→Prop}{S S':Nat→Bool}(e:∀q,q<l.length→S q=S' q)(j:JN P w0 ws r lr nt Z Bs m0 h0 l R K S a w):JN P w0 ws r lr nt Z Bs m0 h0 l R K S' a w:=by
 obtain⟨Pd,m,fr,h,j,hb⟩:=j
 refine⟨Pd,m,fr,h,⟨j.sa,j.st,?_,j.pd,fun f hf=> ?_⟩,fun f hf=> ?_⟩
 ·obtain⟨fr0,h1,h2⟩:=j.wp
  exact⟨fr0,h1,by rw[aAB (f:=fun i=> !S i||Pd i) fun q hq=>by rw[e q hq]]; exact h2⟩
 ·obtain⟨h1,h2⟩:=j.ps f hf
  exact⟨by rw[←e f h2]; exact h1,h2⟩
 ·obtain⟨q,x,q1,q2,q3,q4⟩:=hb f hf
  exact⟨q,x,q1,by rw[←e q (aI q3)]; exact q2,q3,q4⟩
def pN(n:Nat)(π:List Nat):Bool:=Nat.beq π.length n&&(((List.range n).all fun i=>π.contains i)&&(π.all fun i=>Nat.blt i n)&&(List.range n).all fun p=>(List.range p).all fun q=> !Nat.beq (π.getD p 0) (π.getD q 0))
def tlK(P:Program)(w0:World)(Q:Exit→Fr→Heap→Prop):List MIx→Fr→Heap→Prop
 | [.call d none f as],fr,h=>eI P w0 (f.ev fr) (as.map (·.ev fr)) h (fun v h'=>Q .normal (fr.put d v) h') (fun ch h'=>Q (.panic ch) fr h')
 | [],fr,h=>Q .normal fr h
 | _,_,_=>False
theorem aGj(hm:P.follows .mixedOrders=true){π:List Nat}{lp:List MIx}{R:Nat→List Nat}(tl:List MIx)(htl:tl=[]∨(∃d f as,tl=[.call d none f as])∧∀j,j<l.length→bfr bef l.length j=true)(hp:pN l.length π=true)(hlp:π.map (fun i=>l[i]?)=lp.map some)(hf:wM lp (fun p q=>Nat.blt p lp.length&&(Nat.blt q lp.length&&bfr bef (π.getD p 0) (π.getD q 0))) R=true)(hR:∀j,lp.length≤j→R j=[])
 {Q:Exit→Fr→Heap→Prop} (e:wli P w0 lp R (List.range lp.length) fr h fun fr h=>∃fr2,FE fr2 fr∧tlK P w0 Q tl fr2 h):EvM P w0 r nt Z (.draw (l++tl) bef) fr h Q:=fun c hc m a w B lr sa=>by
 have hll:∀ {i:Nat},i<l.length→(l++tl)[i]? = l[i]? := fun hi=>qH hi
 have hlt:l.length≤(l++tl).length:=by rw[List.length_append]; omega
 obtain⟨id,ops,rfl,hl,rfl,hbo,hop⟩:=aEy hc
 obtain⟨hbok,hdst,hx⟩:=aEH hbo hl
 refine wpIn_region_any hm ?_
 have hsz:=hbok.size
 have hdr:bU w0 m m h h w { w with drawn:=w.drawn+1 }:=
  ⟨⟨sa.sim.size,sa.sim.old,sa.sim.at_,sa.sim.inj⟩,.refl _ _,⟨Nat.le_refl _,fun _ _ _=>rfl,rfl,rfl,rfl⟩,Nat.le_refl _,fun i b hi _=>⟨i,b,hi,rfl⟩⟩
 have e0:(fun j=>(Array.replicate ops.size false).getD j false)=fun _=>false:=funext fun j=>by
  rw[Array.getD_eq_getD_getElem?,Array.getElem?_replicate]; split<;>rfl
 simp only[pN,Bool.and_eq_true,List.all_eq_true,List.mem_range,List.contains_eq_mem,decide_eq_true_eq,Bool.not_eq_true']at hp
 obtain⟨hp1,⟨hp2,hp3⟩,hp4⟩:=hp
 have hp1:=cW.1 hp1
 have hlen:lp.length=l.length:=by have:=congrArg List.length hlp; simpa[hp1]using this.symm
 have hpl:∀p,p<l.length→π.getD p 0<l.length:=fun p hpp=>by
  rw[List.getD_eq_getElem?_getD,qA (by omega)]
  have:=hp3 π[p] (qG (by omega))
  simpa[Nat.blt_eq]using this
 have hinj:∀p q,p<l.length→q<l.length→π.getD p 0=π.getD q 0→p=q:=fun p q h1 h2 he=>by
  rcases Nat.lt_trichotomy p q with h3 | h3 | h3
  ·have:=hp4 q h2 p h3; rw[he,Nat.beq_refl]at this; cases this
  ·exact h3
  ·have:=hp4 p h1 q h3; rw[he,Nat.beq_refl]at this; cases this
 have hget:∀p,p<l.length→lp[p]? = l[π.getD p 0]? := fun p hpp=>by
  have h1:(π.map fun i=>l[i]?)[p]? = (lp.map some)[p]? := by rw[hlp]
  rw[List.getElem?_map,List.getElem?_map,qA (l:=π) (by omega),qA (l:=lp) (by omega)]at h1
  simp only[Option.map_some,Option.some.injEq]at h1
  rw[qA (by omega),←h1,List.getD_eq_getElem?_getD,qA (l:=π) (by omega)]; rfl
 have hd':∀p,p<l.length→cL lp p=cL l (π.getD p 0):=fun p hpp=>by simp only[cL,hget p hpp]
 have k:FL lp (fun p q=>Nat.blt p lp.length&&(Nat.blt q lp.length&&bfr (jW ops.toList) (π.getD p 0) (π.getD q 0))) R:=by
  refine FL.of hf hR (fun {i j x y} hij hx hy h1 h2=> ?_) (fun i j t hi hj hij h1=> ?_) (fun {i j} h=> ?_)
  ·have hi:=aI hx
   have hj:=aI hy
   rw[hlen]at hi hj
   simp only[hlen,(Nat.blt_eq▸hi:Nat.blt i l.length=true),(Nat.blt_eq▸hj:Nat.blt j l.length=true),Bool.true_and]at h1 h2
   rw[hget i hi]at hx
   rw[hget j hj]at hy
   have hne:π.getD i 0≠π.getD j 0:=fun e=>hij (hinj i j hi hj e)
   rw[←hll (hpl i hi)]at hx
   rw[←hll (hpl j hj)]at hy
   have hfr:∀ {i j:Nat},i≠j→bfr (jW ops.toList) i j=false→bfr (jW ops.toList) j i=false→aCP (jW ops.toList) i j=true:=fun {i j} hne h1 h2=>by
    have:Nat.beq j i=false:=by
     cases hb:Nat.beq j i with
     | false=>rfl
     | true=>exact absurd (cW.1 hb).symm hne
    simp[aCP,this,h1,h2]
   have key:∀ {i j:Nat} {x y:MIx},(l++tl)[i]? = some x→(l++tl)[j]? = some y→aCP (jW ops.toList) i j=true→∀t,y.dst=some t→t∉x.rds:=fun {i j x y} hx hy hf t ht hm=>by
    have:=hop
    simp only[yQ,List.all_eq_true,List.mem_range]at this
    have:=this i (aI hx)
    rw[hx]at this
    simp only[List.all_eq_true,List.mem_range]at this
    have:=this j (aI hy)
    rw[hf,hy]at this
    simp only[Option.bind_some,ht,Bool.not_true,Bool.false_or,Bool.not_eq_true',List.contains_eq_mem,decide_eq_false_iff_not]at this
    exact this hm
   refine⟨fun t ht=>key hy hx (hfr hne.symm h2 h1) t ht,fun t ht=>key hx hy (hfr hne h1 h2) t ht,fun t ht hd=> ?_⟩
   exact hdst _ _ t (Nat.lt_of_lt_of_le (hpl i hi) hlt) (Nat.lt_of_lt_of_le (hpl j hj) hlt) hne.symm (by rw[cL,hx]; exact ht) (by rw[cL,hy]; exact hd)
  ·rw[hlen]at hi hj
   rw[hd' i hi]at h1
   rw[hd' j hj]
   rw[cL,←hll (hpl i hi)]at h1
   rw[cL,←hll (hpl j hj)]
   exact hdst _ _ t (Nat.lt_of_lt_of_le (hpl i hi) hlt) (Nat.lt_of_lt_of_le (hpl j hj) hlt) (fun e=>hij (hinj j i hj hi e)) h1
  ·simp only[Bool.and_eq_true,Nat.blt_eq]at h; exact h.2.1
 have hK:∀(fr fr':Fr) (h:Heap),FE fr fr'→(∃fr2,FE fr2 fr∧tlK P w0 Q tl fr2 h)→∃fr2,FE fr2 fr'∧tlK P w0 Q tl fr2 h:=fun fr fr' h e ⟨fr2,e2,q⟩=>⟨fr2,e2.trans e,q⟩
 have hend:∀(S:Nat→Bool) (a':Act) (w':World),(∀i,i<l.length→S i=true)→JN P w0 w r lr nt Z B m h lp R (fun fr h=>∃fr2,FE fr2 fr∧tlK P w0 Q tl fr2 h) (fun p=>S (π.getD p 0)) a' w'→∃m' fr2 h',dB Z w0 m m' h h' w w'∧SA w0 r lr nt Z B m' fr2 h' a' w'∧tlK P w0 Q tl fr2 h':=fun S a' w' hS ⟨Pd,m',fr',h',j,hbl⟩=>by
  have hPd:∀f,Pd f=false:=fun f=>by
   cases e:Pd f with
   | false=>rfl
   | true=>
    obtain⟨q,x,h1,h2,h3,_⟩:=hbl f e
    have h4:=hS _ (hpl q (by have:=aI h3; omega))
    rw[show S (π.getD q 0)=false from h2]at h4; cases h4
  obtain⟨fr0,hfr,hw⟩:=j.wp
  rw[aFE fun q hq=>by rw[hS _ (hpl q (by omega)),hPd q]; rfl]at hw
  obtain⟨fr2,e2,q⟩:=hw
  refine⟨m',fr2,h',j.st,j.sa.frame' fun t=> .inr ?_,q⟩
  rw[hfr t fun f hf=>by rw[hPd f]at hf; cases hf]
  exact(e2 t).symm
 refine aHn hbok hx (fun S a' w'=>((∀q,l.length≤q→q<(l++tl).length→S q=false)∧JN P w0 w r lr nt Z B m h lp R (fun fr h=>∃fr2,FE fr2 fr∧tlK P w0 Q tl fr2 h) (fun p=>S (π.getD p 0)) a' w')∨((∀q,q<(l++tl).length→S q=true)∧rK w0 r lr nt Z B m h w Q .normal a' w')) (fun S i x o a' w' ho hi hc hS hb hcl j next hn=> ?_) (fun S a' w' hS j=> ?_) ops.size _ a _ (by simp[hsz]) (by simp) (fun i j hi _=>by rw[congrFun e0 i]at hi; cases hi) ?_
 ·have hil:=aI hi
  rcases j with⟨j1,j⟩ | ⟨q1,_⟩
  ·by_cases hiL:i<l.length
   ·obtain⟨p,hpp,hpi⟩:∃p,p<l.length∧π.getD p 0=i:=by
     have:=hp2 i hiL
     obtain⟨p,h1,h2⟩:=List.getElem_of_mem this
     exact⟨p,by omega,by rw[List.getD_eq_getElem?_getD,qA h1]; exact h2⟩
    subst hpi
    refine aF3 k hK (fun q s h1 h2=> ?_) (i:=p) (by rw[hget p hpp,←hll hiL]; exact hi) hS (fun q hq=> ?_) hc j fun a2 w2 j2=>hn a2 w2 (.inl ⟨fun q h1 h2=>by rw[eT (by omega)]; exact j1 q h1 h2,j2.congr fun q hq=> ?_⟩)
    ·simp only[Bool.and_eq_true]at h2; exact hcl _ _ h1 h2.2.2
    ·simp only[Bool.and_eq_true]at hq; exact hb _ hq.2.2
    ·rw[hlen]at hq
     by_cases e:q=p
     ·subst e; rw[gP,gP]
     ·rw[eT e,eT fun e2=>e (hinj q p hq hpp e2)]
   ·rcases htl with rfl | ⟨⟨d,f,as,rfl⟩,hlast⟩
    ·rw[List.append_nil]at hil; omega
    ·rw[List.length_append,List.length_singleton]at hil
     obtain rfl:i=l.length:=by omega
     obtain⟨m',fr2,h',st,sa',q⟩:=hend S a' w' (fun p hp=>hb p (hlast p hp)) j
     rw[qI (Nat.le_refl _),Nat.sub_self,List.getElem?_cons_zero,Option.some.injEq]at hi
     subst hi
     refine aCx hc sa' q (fun m2 v h2 a2 w2 s2 sa2 q2=>hn a2 w2 (.inr ⟨fun p hp=> ?_,m2,_,_,st.trans (s2.toZ sa'.hz),sa2,q2⟩)) fun m2 ch h2 w2 s2 q2=>⟨m2,_,_,st.trans (s2.toZ sa'.hz),sa'.step s2,q2⟩
     rw[List.length_append,List.length_singleton]at hp
     rcases Nat.lt_or_ge p l.length with h1 | h1
     ·exact nL (hb p (hlast p h1))
     ·obtain rfl:p=l.length:=by omega
      exact gP
  ·rw[q1 i hil]at hS; cases hS
 ·rcases j with⟨j1,j⟩ | ⟨_,j⟩
  ·rcases htl with rfl | ⟨⟨d,f,as,rfl⟩,_⟩
   ·obtain⟨m',fr2,h',st,sa',q⟩:=hend S a' w' (fun i hi=>hS i (Nat.lt_of_lt_of_le hi hlt)) j
    exact⟨m',fr2,h',st,sa',q⟩
   ·have h1:=j1 l.length (Nat.le_refl _) (by simp)
    rw[hS l.length (by simp)]at h1; cases h1
  ·exact j
 ·refine .inl ⟨fun q _ _=>congrFun e0 q,?_⟩
  rw[e0]
  refine⟨fun _=>false,m,fr,h,⟨sa.step hdr,hdr.toZ sa.hz,⟨fr,fun _ _=>rfl,?_⟩,⟨fun _=>0,fun f hf=>(by cases hf),fun f g hf=>(by cases hf)⟩,fun f hf=>by cases hf⟩,fun f hf=>by cases hf⟩
  have h2:rem lp.length (fun i=> !false||false)=List.range lp.length:=by
   unfold rem; exact List.filter_eq_self.2 fun _ _=>rfl
  rw[h2]; exact e
def zD(l:List MIx)(bef:List (List Nat)):Bool:=wM l (fun p q=>Nat.blt p l.length&&(Nat.blt q l.length&&bfr bef p q)) (fun _=>[])
theorem aGk(hm:P.follows .mixedOrders=true){Q:Exit→Fr→Heap→Prop}(tl:List MIx)(htl:tl=[]∨(∃d f as,tl=[.call d none f as])∧∀j,j<l.length→bfr bef l.length j=true)(hf:zD l bef=true)(e:vc P w0 l fr h (tlK P w0 Q tl)):EvM P w0 r nt Z (.draw (l++tl) bef) fr h Q:=by
 have hg:∀p,p<l.length→(List.range l.length).getD p 0=p:=fun p hp=>by rw[List.getD_eq_getElem?_getD,List.getElem?_range hp]; rfl
 refine aGj hm (π:=List.range l.length) (lp:=l) (R:=fun _=>[]) tl htl ?_ ?_ ?_ (fun _ _=>rfl) ?_
 ·simp only[pN,Bool.and_eq_true,List.all_eq_true,List.mem_range,List.contains_eq_mem,decide_eq_true_eq,Bool.not_eq_true',List.length_range]
  refine⟨Nat.beq_refl _,⟨fun i hi=>hi,fun i hi=>by simpa[Nat.blt_eq]using hi⟩,fun p hp q hq=> ?_⟩
  rw[hg p hp,hg q (by omega)]
  cases hb:Nat.beq p q with
  | false=>rfl
  | true=>have:=cW.1 hb; omega
 ·refine List.ext_getElem (by simp) fun i h1 h2=> ?_
  simp
 ·have:(fun p q=>Nat.blt p l.length&&(Nat.blt q l.length&&bfr bef ((List.range l.length).getD p 0) ((List.range l.length).getD q 0)))=fun p q=>Nat.blt p l.length&&(Nat.blt q l.length&&bfr bef p q):=by
   funext p q
   cases h1:Nat.blt p l.length with
   | false=>rfl
   | true=>
    cases h2:Nat.blt q l.length with
    | false=>rfl
    | true=>rw[hg p (Nat.blt_eq▸h1),hg q (Nat.blt_eq▸h2)]
  rw[this]; exact hf
 ·have:=aA4 (P:=P) (w0:=w0) (l:=l) (R:=fun _=>[]) (is:=[]) (K:=fun fr h=>∃fr2,FE fr2 fr∧tlK P w0 Q tl fr2 h) l [] [] fr fr h (by simp) (FE.refl _) (fun _ _ _=>rfl) (fun f f1 g ef q=>⟨fun _ u hu=>(by cases hu),f,ef,q⟩) e
  rw[List.length_nil,←List.range_eq_range',List.append_nil]at this
  exact this
theorem aLI(hm:P.follows .mixedOrders=true){Q:Exit→Fr→Heap→Prop}(hf:zD l bef=true)(e:vc P w0 l fr h (Q .normal)):EvM P w0 r nt Z (.draw l bef) fr h Q:=by
 have:=aGk (r:=r) (nt:=nt) (Z:=Z) (Q:=Q) hm [] (.inl rfl) hf e
 rwa [List.append_nil]at this
end
section
variable {P:Program} {w0 ws:World} {r lr:Option Nat} {nt Z:Nat} {Bs:Bs} {m m' m0:Emb} {fr fr':Fr} {h h' h0:Heap} {a a':Act} {w w':World} {l:List MIx} {bef:List (List Nat)} {n:Nat} {bf:Nat→Nat→Bool} {R:Nat→List Nat} {K:Fr→Heap→Prop} {S:Nat→Bool}
theorem aJN(k:FL l bf R)(hK:∀fr fr' h,FE fr fr'→K fr h→K fr' h)(hc:aEs bf S){i:Nat}{x:MIx}(hi:l[i]? = some x)(hS:S i=false)(hb:∀j,bf i j=true→S j=true)(hqx:kq x=true)
 (j:JN P w0 ws r lr nt Z Bs m0 h0 l R K S a w):∃m fr h,SA w0 r lr nt Z Bs m fr h a w∧opV P w0 x fr h fun _ _=>True:=by
 obtain⟨Pd,m,fr,h,j,hbl⟩:=j
 obtain⟨c,hpn,hcd⟩:=j.pd
 obtain⟨fr0,hfr,hw⟩:=j.wp
 have hil:=aI hi
 have hPi:Pd i=false:=by
  cases e:Pd i with
  | false=>rfl
  | true=>have:=(j.ps i e).1; rw[hS]at this; cases this
 have hun:∀u,u<i→S u=false→bf i u=false∧bf u i=false:=fun u hu hSu=>by
  constructor
  ·cases e:bf i u with
   | false=>rfl
   | true=>have:=hb u e; rw[hSu]at this; cases this
  ·cases e:bf u i with
   | false=>rfl
   | true=>have:=k.lt (by omega) e; omega
 have hnop:¬aDd l S i→∀f,Pd f=true→i<f:=fun hq f hf=>by
  obtain⟨e,y,e1,e2,e3,e4⟩:=hbl f hf
  rcases Nat.lt_trichotomy f i with h1 | h1 | h1
  ·exact absurd ⟨e,y,by omega,e2,e3,e4⟩ hq
  ·subst h1; rw[hPi]at hf; cases hf
  ·exact h1
 have hApd:(nra l x=true∨∀f,Pd f=true→i<f)→∀f,Pd f=true→∃y,l[f]? = some y∧Ap x y:=fun hor f hf=>by
  obtain⟨t,z,d,n,q,y,⟨e1,e1k⟩,_⟩:=(hpn f hf).ex
  obtain⟨z1,z2,_⟩:=iG e1k
  have hfi:f≠i:=fun e=>by subst e; rw[hPi]at hf; cases hf
  refine⟨y,e1,?_⟩
  rcases hor with hn | hp
  ·refine⟨fun s _=>by rw[z2]; exact List.not_mem_nil,fun s hs hm=> ?_,fun s h1 h2=>k.ds i f s hil (j.ps f hf).2 hfi (by simp[cL,hi,h1]) (by simp[cL,e1,h2])⟩
   rw[z1]at hs; cases hs
   have:=List.all_eq_true.1 hn y (List.mem_of_getElem? e1)
   rw[e1k]at this
   simp[hm]at this
  ·have hif:=hp f hf
   refine k.ap (by omega) hi e1 ?_ ?_
   ·cases e:bf i f with
    | false=>rfl
    | true=>have:=k.lt hil e; omega
   ·cases e:bf f i with
    | false=>rfl
    | true=>have:=hc f i (j.ps f hf).1 e; rw[hS]at this; cases this
 obtain⟨B,s1,s2⟩:=qX (n:=l.length) (f:=fun i=> !S i||Pd i) hil (by simp[hS])
 have hrd:(nra l x=true∨∀f,Pd f=true→i<f)→∀t∈x.rds,fr0.get t=fr.get t:=fun hp t ht=>by
  refine(hfr t fun f hf hd=> ?_).symm
  obtain⟨y,hy,hap⟩:=hApd hp f hf
  exact hap.b t (by simpa[cL,hy]using hd) ht
 have hR:∀a,a<i→∀u∈R a,∀z,l[u]? = some z→∀t,x.dst=some t→t∉z.rds∧z.dst≠some t:=fun a ha u hu z hz t ht=>by
  have hua:=k.ru a u hu
  exact⟨k.ro a u hu z hz i x (by omega) hi t ht,fun h2=>k.ds i u t hil (aI hz) (by omega) (by simp[cL,hi,ht]) (by simp[cL,hz,h2])⟩
 have hor:nra l x=true∨∀f,Pd f=true→i<f:=by
  by_cases hbk:aDd l S i
  ·obtain⟨e,y,e1,e2,e3,e4⟩:=hbk
   rcases k.pair e1 e3 hi (hun e e1 e2).1 with h1 | h1 | h1 | h1
   ·rw[h1.1]at e4; cases e4
   ·rw[h1.2.1]at hqx; cases hqx
   ·obtain⟨⟨_,_,_⟩,hz⟩:=Option.isSome_iff_exists.1 h1
    rw[(iG hz).2.2.2.2.2.1]at hqx; cases hqx
   ·exact .inl h1.2.2.1
  ·exact .inr (hnop hbk)
 rw[s1]at hw
 have hop:=mv_q hK hi hqx _ _ _ (.inr fun t ht=>by rw[hrd hor t ht]; exact(j.sa.frame t).2) (fun u hu y hy=>by
  obtain⟨h1,h2⟩:=List.mem_filter.1 hu
  have h1:=List.mem_range.1 h1
  cases hSu:S u with
  | false=>
   refine⟨k.ap (by omega) hi hy (hun u h1 hSu).1 (hun u h1 hSu).2,?_,hR u h1⟩
   rcases k.pair h1 hy hi (hun u h1 hSu).1 with h3 | h3 | h3 | h3
   ·exact .inr (kq_kg h3.1)
   ·rw[h3.2.1]at hqx; cases hqx
   ·obtain⟨⟨_,_,_⟩,hz⟩:=Option.isSome_iff_exists.1 h3
    rw[(iG hz).2.2.2.2.2.1]at hqx; cases hqx
   ·exact h3.2.2.2
  | true=>
   have hPu:Pd u=true:=by simpa[hSu]using h2
   obtain⟨y',hy',hap⟩:=hApd hor u hPu
   rw[hy]at hy'; cases hy'
   obtain⟨t,z,d,n,q,y',⟨e1,e1k⟩,_⟩:=(hpn u hPu).ex
   rw[hy]at e1; cases e1
   refine⟨hap,.inr ?_,hR u h1⟩
   unfold kg; split
   ·rfl
   ·rw[(iG e1k).2.2.2.2.1]; simp) hw
 exact⟨m,fr,h,j.sa,(iR (hrd hor) hop).mono fun _ _ _=>trivial⟩
end
section
variable {P:Program} {w0 ws:World} {r lr:Option Nat} {nt Z:Nat} {Bs:Bs} {m m' m0:Emb} {fr fr':Fr} {h h' h0:Heap} {a a':Act} {w w':World} {l lp:List MIx} {bef:List (List Nat)} {n:Nat} {π:List Nat} {R:Nat→List Nat} {K:Fr→Heap→Prop} {S:Nat→Bool}
structure PO(l:List MIx)(π:List Nat)(lp:List MIx):Prop where
 len:lp.length=l.length
 lt:∀p,p<l.length→π.getD p 0<l.length
 inj:∀p q,p<l.length→q<l.length→π.getD p 0=π.getD q 0→p=q
 sur:∀i,i<l.length→∃p,p<l.length∧π.getD p 0=i
 get:∀p,p<l.length→lp[p]? = l[π.getD p 0]?
theorem PO.of(hp:pN l.length π=true)(hlp:π.map (fun i=>l[i]?)=lp.map some):PO l π lp:=by
 simp only[pN,Bool.and_eq_true,List.all_eq_true,List.mem_range,List.contains_eq_mem,decide_eq_true_eq,Bool.not_eq_true']at hp
 obtain⟨hp1,⟨hp2,hp3⟩,hp4⟩:=hp
 have hp1:=cW.1 hp1
 have hlen:lp.length=l.length:=by have:=congrArg List.length hlp; simpa[hp1]using this.symm
 refine⟨hlen,fun p hpp=> ?_,fun p q h1 h2 he=> ?_,fun i hi=> ?_,fun p hpp=> ?_⟩
 ·rw[List.getD_eq_getElem?_getD,qA (by omega)]
  have:=hp3 π[p] (qG (by omega))
  simpa[Nat.blt_eq]using this
 ·rcases Nat.lt_trichotomy p q with h3 | h3 | h3
  ·have:=hp4 q h2 p h3; rw[he,Nat.beq_refl]at this; cases this
  ·exact h3
  ·have:=hp4 p h1 q h3; rw[he,Nat.beq_refl]at this; cases this
 ·obtain⟨p,h1,h2⟩:=List.getElem_of_mem (hp2 i hi)
  exact⟨p,by omega,by rw[List.getD_eq_getElem?_getD,qA h1]; exact h2⟩
 ·have h1:(π.map fun i=>l[i]?)[p]? = (lp.map some)[p]? := by rw[hlp]
  rw[List.getElem?_map,List.getElem?_map,qA (l:=π) (by omega),qA (l:=lp) (by omega)]at h1
  simp only[Option.map_some,Option.some.injEq]at h1
  rw[qA (by omega),←h1,List.getD_eq_getElem?_getD,qA (l:=π) (by omega)]; rfl
def pE(lp:List MIx)(π:List Nat)(bfx:Nat→Nat→Bool)(p q:Nat):Bool:=Nat.blt p lp.length&&(Nat.blt q lp.length&&bfx (π.getD p 0) (π.getD q 0))
theorem PO.fl(k:PO l π lp){bfx:Nat→Nat→Bool}(hbx:∀i j,bfr bef i j=true→bfx i j=true)(hdst:∀i j t,i<l.length→j<l.length→j≠i→cL l i=some t→cL l j≠some t)(hop:yQ l bef=true)
 (hf:wM lp (pE lp π bfx) R=true) (hR:∀j,lp.length≤j→R j=[]):FL lp (pE lp π bfx) R:=by
 have hlen:=k.len
 have hd':∀p,p<l.length→cL lp p=cL l (π.getD p 0):=fun p hpp=>by simp only[cL,k.get p hpp]
 refine FL.of hf hR (fun {i j x y} hij hx hy h1 h2=> ?_) (fun i j t hi hj hij h1=> ?_) (fun {i j} h=> ?_)
 ·have hi:=aI hx
  have hj:=aI hy
  rw[hlen]at hi hj
  simp only[pE,hlen,(Nat.blt_eq▸hi:Nat.blt i l.length=true),(Nat.blt_eq▸hj:Nat.blt j l.length=true),Bool.true_and]at h1 h2
  have nb:∀u v,bfx u v=false→bfr bef u v=false:=fun u v e=>by
   cases hb:bfr bef u v with
   | false=>rfl
   | true=>rw[hbx u v hb]at e; cases e
  have h1:=nb _ _ h1
  have h2:=nb _ _ h2
  rw[k.get i hi]at hx
  rw[k.get j hj]at hy
  have hne:π.getD i 0≠π.getD j 0:=fun e=>hij (k.inj i j hi hj e)
  have hfr:∀ {i j:Nat},i≠j→bfr bef i j=false→bfr bef j i=false→aCP bef i j=true:=fun {i j} hne h1 h2=>by
   have:Nat.beq j i=false:=by
    cases hb:Nat.beq j i with
    | false=>rfl
    | true=>exact absurd (cW.1 hb).symm hne
   simp[aCP,this,h1,h2]
  have key:∀ {i j:Nat} {x y:MIx},l[i]? = some x→l[j]? = some y→aCP bef i j=true→∀t,y.dst=some t→t∉x.rds:=fun {i j x y} hx hy hf t ht hm=>by
   have:=hop
   simp only[yQ,List.all_eq_true,List.mem_range]at this
   have:=this i (aI hx)
   rw[hx]at this
   simp only[List.all_eq_true,List.mem_range]at this
   have:=this j (aI hy)
   rw[hf,hy]at this
   simp only[Option.bind_some,ht,Bool.not_true,Bool.false_or,Bool.not_eq_true',List.contains_eq_mem,decide_eq_false_iff_not]at this
   exact this hm
  refine⟨fun t ht=>key hy hx (hfr hne.symm h2 h1) t ht,fun t ht=>key hx hy (hfr hne h1 h2) t ht,fun t ht hd=> ?_⟩
  exact hdst _ _ t (k.lt i hi) (k.lt j hj) hne.symm (by rw[cL,hx]; exact ht) (by rw[cL,hy]; exact hd)
 ·rw[hlen]at hi hj
  rw[hd' i hi]at h1
  rw[hd' j hj]
  exact hdst _ _ t (k.lt i hi) (k.lt j hj) (fun e=>hij (k.inj j i hj hi e)) h1
 ·simp only[pE,Bool.and_eq_true,Nat.blt_eq]at h; exact h.2.1
theorem PO.step(k:PO l π lp){bfx:Nat→Nat→Bool}(fl:FL lp (pE lp π bfx) R)(hK:∀fr fr' h,FE fr fr'→K fr h→K fr' h){ops:Array Oper}{i:Nat}{x:MIx}{o:Oper}(hi:l[i]? = some x)(hx:fI P nt ops o=some x)(hS:S i=false)(hb:∀j,bfx i j=true→S j=true)(hcl:∀i j,S i=true→bfx i j=true→S j=true)
 (j:JN P w0 ws r lr nt Z Bs m0 h0 lp R K (fun p=>S (π.getD p 0)) a w) :
 (∀ {Q:Exit→Act→World→Prop} {next:Act→World→Prop},(∀a' w',JN P w0 ws r lr nt Z Bs m0 h0 lp R K (fun p=>jK S i (π.getD p 0)) a' w'→next a' w') →
  if Region.wanted o (yielded ops a.tmps)then o.wpIn (Wd lr) 0 P a w next Q else(∀f,o.about P w a.eval=some f→(Wd lr).fn f)∧next (a.put o.dst undef) w) ∧
 (kq x=true→∃m fr h,SA w0 r lr nt Z Bs m fr h a w∧opV P w0 x fr h fun _ _=>True):=by
 have hil:=aI hi
 obtain⟨p,hpp,rfl⟩:=k.sur i hil
 have hcl2:aEs (pE lp π bfx) (fun p=>S (π.getD p 0)):=fun q s h1 h2=>by
  simp only[pE,Bool.and_eq_true]at h2; exact hcl _ _ h1 h2.2.2
 have hb2:∀q,pE lp π bfx p q=true→S (π.getD q 0)=true:=fun q hq=>by
  simp only[pE,Bool.and_eq_true]at hq; exact hb _ hq.2.2
 refine⟨fun hn=>aF3 fl hK hcl2 (i:=p) (by rw[k.get p hpp]; exact hi) hS hb2 hx j fun a2 w2 j2=>hn a2 w2 (j2.congr fun q hq=> ?_),fun hq=>aJN fl hK hcl2 (i:=p) (by rw[k.get p hpp]; exact hi) hS hb2 hq j⟩
 rw[k.len]at hq
 by_cases e:q=p
 ·subst e; rw[gP,gP]
 ·rw[eT e,eT fun e2=>e (k.inj q p hq hpp e2)]
theorem PO.done(k:PO l π lp)(hS:∀i,i<l.length→S i=true)(j:JN P w0 ws r lr nt Z Bs m0 h0 lp R K (fun p=>S (π.getD p 0)) a w):∃m' fr2 h' fr3,dB Z w0 m0 m' h0 h' ws w∧SA w0 r lr nt Z Bs m' fr2 h' a w∧FE fr3 fr2∧K fr3 h':=by
 obtain⟨Pd,m',fr',h',j,hbl⟩:=j
 have hPd:∀f,Pd f=false:=fun f=>by
  cases e:Pd f with
  | false=>rfl
  | true=>
   obtain⟨q,x,h1,h2,h3,_⟩:=hbl f e
   have h4:=hS _ (k.lt q (by have:=aI h3; rw[k.len]at this; exact this))
   rw[show S (π.getD q 0)=false from h2]at h4; cases h4
 obtain⟨fr0,hfr,hw⟩:=j.wp
 rw[aFE fun q hq=>by rw[hS _ (k.lt q (by rw[k.len]at hq; exact hq)),hPd q]; rfl]at hw
 exact⟨m',fr',h',fr0,j.st,j.sa,(fun t=>hfr t fun f hf=>by rw[hPd f]at hf; cases hf),hw⟩
end
inductive SC where
 | skip
 | ret
 | exit (id:Nat)
 | reg (l:List MIx)
 | draw (fl:List Bool) (l:List MIx) (bef:List (List Nat))
 | seq (a b:SC)
 | cond (c:Opd) (a b:SC)
 | blk (id:Nat) (a:SC)
 | loop (keep:List Nat) (a:SC)
 | rng (f:Opd) (ps:Array Tmp) (ca cb:Code) (ma mb:SC)
 | lab (n:Nat)
 | scope (a:SC)
 | regC (l1:List MIx) (d:Option Nat) (f:Opd) (as:List Opd) (l2:List MIx)
 | regP (l1:List MIx) (d:Option Nat) (x:Opd) (l2:List MIx)
 | drawE (l1:List MIx) (d:Option Nat) (f:Opd) (as:List Opd) (bef:List (List Nat))
def SC.er:SC→MC
 | .skip=> .skip
 | .ret=> .ret
 | .exit id=> .exit id
 | .reg l=> .reg l
 | .draw _ l bef=> .draw l bef
 | .seq a b=> .seq a.er b.er
 | .cond c a b=> .cond c a.er b.er
 | .blk id a=> .blk id a.er
 | .loop _ a=> .loop a.er
 | .rng f ps ca cb ma mb=> .rng f ps ca cb ma.er mb.er
 | .lab n=> .lab n
 | .scope a=> .scope a.er
 | .regC l1 d f as l2=> .reg (l1 ++ .call d none f as::l2)
 | .regP l1 d x l2=> .reg (l1 ++ .op d none (.panic x)::l2)
 | .drawE l1 d f as bef=> .draw (l1++[.call d none f as]) bef
def SC.good:SC→Bool
 | .draw [] _ _=>true
 | .draw _ l bef=>zD l bef
 | .seq a b=>a.good&&b.good
 | .cond _ a b=>a.good&&b.good
 | .blk _ a=>a.good
 | .loop _ a=>a.good
 | .rng _ _ _ _ ma mb=>ma.good&&mb.good
 | .scope a=>a.good
 | .drawE l1 _ _ _ bef=>zD l1 bef&&(List.range l1.length).all fun j=>bfr bef l1.length j
 | _=>true
structure SF where
 nt:Nat
 res:List RV
 body:SC
def SF.er(f:SF):MF:=⟨f.nt,f.res,f.body.er⟩
def cv(v:AV)(t:Nat)(fr:Fr)(A B:Fr→Prop):Prop:=
 match v with
 | .bool c=>(c=true→A ((t,.bool true)::fr))∧(c=false→B ((t,.bool false)::fr))
 | _=>False
def wP(c:Opd)(fr:Fr)(A B:Fr→Prop):Prop:=
 match c with
 | .t t=>cv (fr.get t) t fr A B
 | .k (.bool true)=>A fr
 | .k (.bool false)=>B fr
 | _=>False
def seqK(N:Fr→Heap→Prop)(Q:Exit→Fr→Heap→Prop):Exit→Fr→Heap→Prop
 | .normal,fr,h=>N fr h
 | e,fr,h=>Q e fr h
def iO(fr:Fr):List Nat→Fr
 | []=>[]
 | t::ts=>(t,fr.get t)::iO fr ts
def sx(P:Program)(w0:World)(r:Option Nat)(nt Z:Nat):SC→Fr→Heap→(Exit→Fr→Heap→Prop)→Prop
 | .skip,fr,h,Q=>Q .normal fr h
 | .ret,fr,h,Q=>Q .ret fr h
 | .exit id,fr,h,Q=>Q (.exit id) fr h
 | .reg l,fr,h,Q=>vc P w0 l fr h (Q .normal)
 | .draw [] l bef,fr,h,Q=>EvM P w0 r nt Z (.draw l bef) fr h Q
 | .draw _ l _,fr,h,Q=>vc P w0 l fr h (Q .normal)
 | .seq a b,fr,h,Q=>sx P w0 r nt Z a fr h (seqK (fun fr h=>sx P w0 r nt Z b fr h Q) Q)
 | .cond c a b,fr,h,Q=>wP c fr (fun fr=>sx P w0 r nt Z a fr h Q) (fun fr=>sx P w0 r nt Z b fr h Q)
 | .blk id a,fr,h,Q=>sx P w0 r nt Z a fr h (aEC id Q)
 | .loop keep a,fr,h,Q=>EvL P w0 r nt Z a.er (iO fr keep) h Q
 | .rng f ps ca cb ma mb,fr,h,Q=>EvM P w0 r nt Z (.rng f ps ca cb ma.er mb.er) fr h Q
 | .lab _,fr,h,Q=>Q .normal fr h
 | .scope a,fr,h,Q=>sx P w0 r nt Z a fr h (tZ Q)
 | .regC l1 d f as l2,fr,h,Q=>vc P w0 l1 fr h fun fr h=>eI P w0 (f.ev fr) (as.map (·.ev fr)) h (fun v h'=>vc P w0 l2 (fr.put d v) h' (Q .normal)) (fun ch h'=>Q (.panic ch) fr h')
 | .drawE l1 d f as _,fr,h,Q=>vc P w0 l1 fr h (tlK P w0 Q [.call d none f as])
 | .regP l1 _ x _,fr,h,Q=>vc P w0 l1 fr h fun fr h=>uL (x.ev fr)=true∧Q (.panic (pan (x.ev fr))) fr h
section
variable {P:Program} {w0:World} {r:Option Nat} {nt Z:Nat} {fr:Fr} {h:Heap} {Q:Exit→Fr→Heap→Prop}
theorem uH{α β:Type}{f:α→Option β}:∀ {l1:List α} {k:List β} {k1:List β} {y:β} {k2:List β},l1.mapM f=some k→k=k1++y::k2→∃a x b,l1=a++x::b∧a.mapM f=some k1∧f x=some y∧b.mapM f=some k2
 | [],k,k1,y,k2,h,e=>by simp at h; subst h; cases k1<;>simp at e
 | z::l,k,k1,y,k2,h,e=>by
  simp only[List.mapM_cons,Option.bind_eq_bind,qC,Option.pure_def,Option.some.injEq]at h
  obtain⟨x,hx,xs,hxs,rfl⟩:=h
  cases k1 with
  | nil=>
   simp only[List.nil_append,List.cons.injEq]at e
   obtain⟨rfl,rfl⟩:=e
   exact⟨[],z,l,rfl,by simp,hx,hxs⟩
  | cons p k1=>
   simp only[List.cons_append,List.cons.injEq]at e
   obtain⟨rfl,e⟩:=e
   obtain⟨a,q,b,rfl,h1,h2,h3⟩:=uH hxs e
   exact⟨z::a,q,b,rfl,by simp[hx,h1],h2,h3⟩
theorem aLG{l1 l2:List MIx}{d:Option Nat}{f:Opd}{as:List Opd}
 (e:vc P w0 l1 fr h fun fr h=>eI P w0 (f.ev fr) (as.map (·.ev fr)) h (fun v h'=>vc P w0 l2 (fr.put d v) h' (Q .normal)) (fun ch h'=>Q (.panic ch) fr h')) :
 EvM P w0 r nt Z (.reg (l1 ++ .call d none f as::l2)) fr h Q:=fun c hc m a w B l sa=>by
 obtain⟨id,ops,rfl,hl⟩:=nV hc
 refine wpIn_region_list ?_
 obtain⟨o1,o,o2,e0,h1,h2,h3⟩:=uH hl rfl
 rw[e0]
 refine tN (P:=P) o1 l1 h1 sa e fun m' fr' h' a' w' s sa' k _=> ?_
 simp only[wpListIn]
 refine aCx h2 sa' k (fun m2 v h2 a2 w2 s2 sa2 k2=> ?_) (fun m2 ch h2 w2 s2 k2=> ?_)
 ·have:=tN (P:=P) (rest:=[]) (R:=rK w0 r l nt Z B m h w Q) o2 l2 h3 sa2 k2 fun m3 fr3 h3 a3 w3 s3 sa3 k3 _=>⟨m3,fr3,h3,(s.trans (s2.toZ sa'.hz)).trans s3,sa3,k3⟩
  rwa [List.append_nil]at this
 ·exact⟨m2,fr',h2,s.trans (s2.toZ sa'.hz),sa'.step s2,k2⟩
theorem aLF{l1 l2:List MIx}{d:Option Nat}{x:Opd}(e:vc P w0 l1 fr h fun fr h=>uL (x.ev fr)=true∧Q (.panic (pan (x.ev fr))) fr h) :
 EvM P w0 r nt Z (.reg (l1 ++ .op d none (.panic x)::l2)) fr h Q:=fun c hc m a w B l sa=>by
 obtain⟨id,ops,rfl,hl⟩:=nV hc
 refine wpIn_region_list ?_
 obtain⟨o1,o,o2,e0,h1,h2,h3⟩:=uH hl rfl
 rw[e0]
 refine tN (P:=P) o1 l1 h1 sa e fun m' fr' h' a' w' s sa' k _=> ?_
 simp only[wpListIn]
 exact aIT h2 sa' k.1 ⟨m',fr',h',s,sa',k.2⟩
end
section
variable {P:Program} {w0:World} {r:Option Nat} {nt Z:Nat} {fr:Fr} {h:Heap} {Q:Exit→Fr→Heap→Prop}
open Classical in
theorem aHZ{o:Opd}{x y:MC}(k:wP o fr (fun fr=>EvM P w0 r nt Z x fr h Q) (fun fr=>EvM P w0 r nt Z y fr h Q)):EvM P w0 r nt Z (.cond o x y) fr h Q:=by
 cases o with
 | t t=>
  simp only[wP]at k
  generalize hv:fr.get t=v at k
  unfold cv at k
  split at k
  ·rename_i c
   refine uZ (t:=c) (by simpa[Opd.ev]using hv) ?_
   cases c with
   | true=>exact vZ (FE.put1 hv).frame (k.1 rfl)
   | false=>exact vZ (FE.put1 hv).frame (k.2 rfl)
  ·exact k.elim
 | k v=>
  unfold wP at k
  split at k
  ·rename_i h1; cases h1
  ·rename_i h1; cases h1; exact uZ (t:=true) rfl k
  ·rename_i h1; cases h1; exact uZ (t:=false) rfl k
  ·exact k.elim
theorem qS:∀(ks:List Nat) (fr:Fr) (t:Nat),(iO fr ks).get t= .undef∨(iO fr ks).get t=fr.get t
 | [],_,_=> .inl rfl
 | k::ks,fr,t=>by
  simp only[iO,Fr.get]
  cases hb:Nat.beq t k with
  | true=>right; rw[cW.1 hb]; rfl
  | false=>exact qS ks fr t
theorem zO{o:Opd}{A B A' B':Fr→Prop}(k:wP o fr A B)(ha:∀fr,A fr→A' fr)(hb:∀fr,B fr→B' fr):wP o fr A' B':=by
 cases o with
 | t t=>
  simp only[wP]at k ⊢
  generalize fr.get t=v at k
  unfold cv at k ⊢
  split at k
  ·exact⟨fun e=>ha _ (k.1 e),fun e=>hb _ (k.2 e)⟩
  ·exact k.elim
 | k v=>
  unfold wP at k ⊢
  split at k
  ·rename_i h1; cases h1
  ·rename_i h1; cases h1; exact ha _ k
  ·rename_i h1; cases h1; exact hb _ k
  ·exact k.elim
theorem aBl{Q Q':Exit→Fr→Heap→Prop}(hq:∀e fr h,Q e fr h→Q' e fr h){e:Exit}{fr:Fr}{h:Heap}(k:tZ Q e fr h):tZ Q' e fr h:=by
 cases e<;>first | exact k.elim | exact hq _ _ _ k
theorem aHD{id:Nat}{Q Q':Exit→Fr→Heap→Prop}(hq:∀e fr h,Q e fr h→Q' e fr h){e:Exit}{fr:Fr}{h:Heap}(k:aEC id Q e fr h):aEC id Q' e fr h:=by
 cases e with
 | exit i=>
  simp only[aEC]at k ⊢
  split<;>rename_i hi
  ·rw[if_pos hi]at k; exact hq _ _ _ k
  ·rw[if_neg hi]at k; exact hq _ _ _ k
 | _=>exact hq _ _ _ k
theorem jT:∀(c:SC) {fr:Fr} {h:Heap} {Q Q':Exit→Fr→Heap→Prop},sx P w0 r nt Z c fr h Q→(∀e fr h,Q e fr h→Q' e fr h)→sx P w0 r nt Z c fr h Q'
 | .skip,_,_,_,_,k,hq=>hq _ _ _ k
 | .ret,_,_,_,_,k,hq=>hq _ _ _ k
 | .exit _,_,_,_,_,k,hq=>hq _ _ _ k
 | .reg l,_,_,_,_,k,hq=>by simp only[sx]at k ⊢; exact iW k fun _ _ k=>hq _ _ _ k
 | .draw [] l bef,_,_,_,_,k,hq=>by simp only[sx]at k ⊢; exact k.mono hq
 | .draw (b::fl) l bef,_,_,_,_,k,hq=>by simp only[sx]at k ⊢; exact iW k fun _ _ k=>hq _ _ _ k
 | .seq a b,_,_,_,_,k,hq=>by
  simp only[sx]at k ⊢
  refine jT a k fun e fr h k=> ?_
  cases e with
  | normal=>exact jT b k hq
  | _=>exact hq _ _ _ k
 | .cond c a b,_,_,_,_,k,hq=>by simp only[sx]at k ⊢; exact zO k (fun _ k=>jT a k hq) (fun _ k=>jT b k hq)
 | .blk id a,_,_,_,_,k,hq=>by simp only[sx]at k ⊢; exact jT a k fun _ _ _ k=>aHD hq k
 | .loop keep a,_,_,_,_,k,hq=>by simp only[sx]at k ⊢; exact k.mono hq
 | .rng f ps ca cb ma mb,_,_,_,_,k,hq=>by simp only[sx]at k ⊢; exact k.mono hq
 | .lab _,_,_,_,_,k,hq=>hq _ _ _ k
 | .scope a,_,_,_,_,k,hq=>by simp only[sx]at k ⊢; exact jT a k fun _ _ _ k=>aBl hq k
 | .regC l1 d f as l2,_,_,_,_,k,hq=>by simp only[sx]at k ⊢; exact iW k fun _ _ k=>k.mono (fun _ _ k=>iW k fun _ _ k=>hq _ _ _ k) (fun _ _ k=>hq _ _ _ k)
 | .regP l1 d x l2,_,_,_,_,k,hq=>by simp only[sx]at k ⊢; exact iW k fun _ _ k=>⟨k.1,hq _ _ _ k.2⟩
 | .drawE l1 d f as bef,_,_,_,_,k,hq=>by
  simp only[sx]at k ⊢
  exact iW k fun _ _ k=>eI.mono k (fun _ _ k=>hq _ _ _ k) (fun _ _ k=>hq _ _ _ k)
theorem dW(hm:P.follows .mixedOrders=true):∀(c:SC) {fr:Fr} {h:Heap} {Q:Exit→Fr→Heap→Prop},c.good=true→sx P w0 r nt Z c fr h Q→EvM P w0 r nt Z c.er fr h Q
 | .skip,_,_,_,_,k=>aDq k
 | .ret,_,_,_,_,k=>aOo k
 | .exit _,_,_,_,_,k=>aLJ k
 | .reg l,_,_,_,_,k=>aLE k
 | .draw [] l bef,_,_,_,_,k=>by simp only[sx]at k; exact k
 | .draw (b::fl) l bef,_,_,_,g,k=>aLI hm g (by simpa only[sx]using k)
 | .seq a b,_,_,_,g,k=>by
  simp only[SC.good,Bool.and_eq_true]at g
  simp only[sx]at k
  refine aGi ((dW hm a g.1 k).mono fun e fr h q=> ?_)
  cases e with
  | normal=>exact dW hm b g.2 q
  | _=>exact q
 | .cond c a b,_,_,_,g,k=>by
  simp only[SC.good,Bool.and_eq_true]at g
  simp only[sx]at k
  exact aHZ (zO k (fun _ k=>dW hm a g.1 k) (fun _ k=>dW hm b g.2 k))
 | .blk id a,_,_,_,g,k=>by
  simp only[sx]at k
  exact aOq (dW hm a g k)
 | .loop keep a,fr,_,_,g,k=>by
  simp only[sx]at k
  exact aLH (aA2 (qS keep fr) k)
 | .rng f ps ca cb ma mb,_,_,_,g,k=>by simp only[sx]at k; exact k
 | .lab _,_,_,_,_,k=>aOp k
 | .scope a,_,_,_,g,k=>by
  simp only[sx]at k
  exact aHY (dW hm a g k)
 | .regC l1 d f as l2,_,_,_,_,k=>aLG (by simpa only[sx]using k)
 | .regP l1 d x l2,_,_,_,_,k=>aLF (by simpa only[sx]using k)
 | .drawE l1 d f as bef,_,_,_,g,k=>by
  simp only[SC.good,Bool.and_eq_true,List.all_eq_true,List.mem_range]at g
  simp only[sx]at k
  exact aGk hm _ (.inr ⟨⟨_,_,_,rfl⟩,g.2⟩) g.1 k
def aJe(P:Program)(w0:World)(r:Option Nat)(nt Z:Nat)(keep:List Nat)(a:SC)(Q:Exit→Fr→Heap→Prop):Exit→Fr→Heap→Prop
 | .normal,fr,h=>EvL P w0 r nt Z a.er (iO fr keep) h Q
 | e,fr,h=>Q e fr h
theorem EvL_sx(hm:P.follows .mixedOrders=true){a:SC}(g:a.good=true)(keep:List Nat)(e:sx P w0 r nt Z a fr h (aJe P w0 r nt Z keep a Q)):EvL P w0 r nt Z a.er fr h Q:=by
 refine aLK ((dW hm a g e).mono fun e fr h q=> ?_)
 cases e with
 | normal=>exact aA2 (qS keep fr) q
 | _=>exact q
def resK(w0:World)(rs:List RV)(K:AV→Heap→Prop):Exit→Fr→Heap→Prop
 | .normal,fr,h=>∃v,jN w0 rs fr h=some v∧K v h
 | .ret,fr,h=>∃v,jN w0 rs fr h=some v∧K v h
 | _,_,_=>False
theorem qQ(hm:P.follows .mixedOrders=true){f:FuncId}{mf:SF}(hf:tD P f=some mf.er)(hb:dH P f=true)(g:mf.body.good=true){args:List AV}(hn:args.length≤mf.nt){K:AV→Heap→Prop}
 (e:HB h→AV.bdds h.length args→sx P w0 none mf.nt h.length mf.body (dO args 0) (h++[]) (resK w0 mf.res K)):ACall P w0 f args h K:=
 aFp (mf:=mf.er) hf hb hn fun h1 h2=>(dW (nt:=mf.nt) hm mf.body g (by have:=e h1 h2; rw[List.append_nil]at this; exact this)).mono fun e fr h q=>by
  cases e with
  | normal=>exact⟨.inl rfl,q⟩
  | ret=>exact⟨.inr rfl,q⟩
  | _=>exact q.elim
def aK(P:Program)(w0:World)(f:FuncId)(args:List AV)(h:Heap)(v:AV)(h1:Heap):Prop:=
 ACall P w0 f args h fun v' h'=>v'=v∧h'=h1
theorem mM{f:FuncId}{args:List AV}{K:AV→Heap→Prop}(e:ACall P w0 f args h fun v h'=>∃h1 k,h'=h1++k∧h.length≤h1.length∧HB h1∧v.bdd h1.length∧K v h1):ACall P w0 f args h K:=by
 refine⟨e.1,fun m w vs s hv hb=>(e.2 m w vs s hv hb).mono fun en w' ⟨v',e1,m',v,h',st,hvr,_,h1,k,hh,hle,hhb,hbd,hk⟩=> ?_⟩
 subst hh
 exact⟨v',e1,m',v,h1,st.drop hle hhb,hvr,hbd,hk⟩
def aBj(w0:World)(rs:List RV)(h:Heap)(v:AV):Exit→Fr→Heap→Prop
 | .normal,fr,h'=>jN w0 rs fr h'=some v∧∃k,h'=h++k
 | .ret,fr,h'=>jN w0 rs fr h'=some v∧∃k,h'=h++k
 | _,_,_=>False
theorem wY(hm:P.follows .mixedOrders=true){f:FuncId}{mf:SF}(hf:tD P f=some mf.er)(hb:dH P f=true)(g:mf.body.good=true){args:List AV}(hn:args.length≤mf.nt){v:AV}
 (hv:v.bdd h.length) (e:HB h→AV.bdds h.length args→sx P w0 none mf.nt h.length mf.body (dO args 0) (h++[]) (aBj w0 mf.res h v)):aK P w0 f args h v h:=by
 refine mM (qQ hm hf hb g hn fun h1 h2=>jT _ (e h1 h2) fun e fr h' q=> ?_)
 have:∀ {fr:Fr} {h':Heap},(jN w0 mf.res fr h'=some v∧∃k,h'=h++k)→HB h→∃v',jN w0 mf.res fr h'=some v'∧∃h1 k,h'=h1++k∧h.length≤h1.length∧HB h1∧v'.bdd h1.length∧v'=v∧h1=h:=
  fun⟨q1,k,q2⟩ hb=>⟨v,q1,h,k,q2,Nat.le_refl _,hb,hv,rfl,rfl⟩
 cases e with
 | normal=>exact this q h1
 | ret=>exact this q h1
 | _=>exact q.elim
end
section
variable {P:Program} {w0:World} {r:Option Nat} {nt Z:Nat} {fr:Fr} {h:Heap} {Q:Exit→Fr→Heap→Prop}
inductive It where
 | code (c:SC)
 | inBlk (id:Nat)
 | inScope
 | inLoop (keep:List Nat) (a:SC)
 | callE (d:Option Nat) (f:Opd) (as:List Opd) (l:List MIx)
 | panE (x:Opd)
def unw(P:Program)(w0:World)(r:Option Nat)(nt Z:Nat)(Q:Exit→Fr→Heap→Prop):List It→Exit→Fr→Heap→Prop
 | []=>Q
 | .code c::k=>seqK (fun fr h=>sx P w0 r nt Z c fr h (unw P w0 r nt Z Q k)) (unw P w0 r nt Z Q k)
 | .inBlk id::k=>aEC id (unw P w0 r nt Z Q k)
 | .inScope::k=>tZ (unw P w0 r nt Z Q k)
 | .inLoop keep a::k=>aJe P w0 r nt Z keep a (unw P w0 r nt Z Q k)
 | .callE d f as l::k=>seqK (fun fr h=>eI P w0 (f.ev fr) (as.map (·.ev fr)) h (fun v h'=>vc P w0 l (fr.put d v) h' (unw P w0 r nt Z Q k .normal)) (fun ch h'=>unw P w0 r nt Z Q k (.panic ch) fr h')) (unw P w0 r nt Z Q k)
 | .panE x::k=>seqK (fun fr h=>uL (x.ev fr)=true∧unw P w0 r nt Z Q k (.panic (pan (x.ev fr))) fr h) (unw P w0 r nt Z Q k)
def ex(P:Program)(w0:World)(r:Option Nat)(nt Z:Nat)(Q:Exit→Fr→Heap→Prop)(c:SC)(k:List It)(fr:Fr)(h:Heap):Prop:=sx P w0 r nt Z c fr h (unw P w0 r nt Z Q k)
def un(P:Program)(w0:World)(r:Option Nat)(nt Z:Nat)(Q:Exit→Fr→Heap→Prop)(e:Exit)(k:List It)(fr:Fr)(h:Heap):Prop:=unw P w0 r nt Z Q k e fr h
def rv(P:Program)(w0:World)(r:Option Nat)(nt Z:Nat)(Q:Exit→Fr→Heap→Prop)(l:List MIx)(k:List It)(fr:Fr)(h:Heap):Prop:=vc P w0 l fr h (unw P w0 r nt Z Q k .normal)
def rvG(P:Program)(w0:World)(r:Option Nat)(nt Z:Nat)(Q:Exit→Fr→Heap→Prop)(v:AV)(t:Nat)(b:Bool)(x:MIx)(l:List MIx)(k:List It)(fr:Fr)(h:Heap):Prop:=
 match x with
 | .op d _ o=>gv v t b fr (fun fr=>kK (aop w0 o fr h) fun v h'=>rv P w0 r nt Z Q l k (fr.put d v) h') (fun fr=>rv P w0 r nt Z Q l k (fr.put d (.tup [])) h)
 | .call d _ f as=>gv v t b fr (fun fr=>aGa P w0 (f.ev fr) (as.map (·.ev fr)) h fun v h'=>rv P w0 r nt Z Q l k (fr.put d v) h') (fun fr=>rv P w0 r nt Z Q l k (fr.put d (.tup [])) h)
def rvB(P:Program)(w0:World)(r:Option Nat)(nt Z:Nat)(Q:Exit→Fr→Heap→Prop)(o:Option (AV×Heap))(d:Option Nat)(l:List MIx)(k:List It)(fr:Fr):Prop:=
 kK o fun v h'=>rv P w0 r nt Z Q l k (fr.put d v) h'
def rvC(P:Program)(w0:World)(r:Option Nat)(nt Z:Nat)(Q:Exit→Fr→Heap→Prop)(f:AV)(as:List AV)(d:Option Nat)(l:List MIx)(k:List It)(fr:Fr)(h:Heap):Prop:=
 aGa P w0 f as h fun v h'=>rv P w0 r nt Z Q l k (fr.put d v) h'
def exC(P:Program)(w0:World)(r:Option Nat)(nt Z:Nat)(Q:Exit→Fr→Heap→Prop)(v:AV)(t:Nat)(a b:SC)(k:List It)(fr:Fr)(h:Heap):Prop:=
 cv v t fr (fun fr=>ex P w0 r nt Z Q a k fr h) (fun fr=>ex P w0 r nt Z Q b k fr h)
def lp(P:Program)(w0:World)(r:Option Nat)(nt Z:Nat)(Q:Exit→Fr→Heap→Prop)(a:SC)(k:List It)(fr:Fr)(h:Heap):Prop:=EvL P w0 r nt Z a.er fr h (unw P w0 r nt Z Q k)
def rg(P:Program)(w0:World)(r:Option Nat)(nt Z:Nat)(Q:Exit→Fr→Heap→Prop)(f:Opd)(ps:Array Tmp)(ca cb:Code)(ma mb:SC)(k:List It)(fr:Fr)(h:Heap):Prop:=EvM P w0 r nt Z (.rng f ps ca cb ma.er mb.er) fr h (unw P w0 r nt Z Q k)
def dr(P:Program)(w0:World)(r:Option Nat)(nt Z:Nat)(Q:Exit→Fr→Heap→Prop)(l:List MIx)(bef:List (List Nat))(k:List It)(fr:Fr)(h:Heap):Prop:=EvM P w0 r nt Z (.draw l bef) fr h (unw P w0 r nt Z Q k)
def rcE(P:Program)(w0:World)(r:Option Nat)(nt Z:Nat)(Q:Exit→Fr→Heap→Prop)(f:AV)(as:List AV)(d:Option Nat)(l:List MIx)(k:List It)(fr:Fr)(h:Heap):Prop:=
 eI P w0 f as h (fun v h'=>rv P w0 r nt Z Q l k (fr.put d v) h') (fun ch h'=>un P w0 r nt Z Q (.panic ch) k fr h')
def rcP(P:Program)(w0:World)(r:Option Nat)(nt Z:Nat)(Q:Exit→Fr→Heap→Prop)(x:AV)(k:List It)(fr:Fr)(h:Heap):Prop:=uL x=true∧un P w0 r nt Z Q (.panic (pan x)) k fr h
theorem aFF{g:FuncId}{first capt as:List AV}{d:Option Nat}{k:List It}{v:AV}(c:bI P w0 (.fn (.func g) first capt) as h v h)(e:un P w0 r nt Z Q .normal k (fr.put d v) h):rcE P w0 r nt Z Q (.fn (.func g) first capt) as d [] k fr h:=
 eI.mono (P:=P) (fv:= .fn (.func g) first capt) (X:=fun _ _=>False) (ACall.toE c) (fun _ _ ⟨e1,e2⟩=>by subst e1; subst e2; exact e) fun _ _ k=>k.elim
theorem aBh{f:AV}{as:List AV}{d:Option Nat}{k:List It}{x:AV}(c:PanV P w0 f as h x)(e:un P w0 r nt Z Q (.panic (pan x)) k fr h):rcE P w0 r nt Z Q f as d [] k fr h:=
 eI.mono c (fun _ _ k=>k.elim) fun _ _ ⟨e1,e2⟩=>by subst e1; subst e2; exact e
theorem hY{c:SC}(e:ex P w0 r nt Z Q c [] fr h):sx P w0 r nt Z c fr h Q:=e
theorem aEk{c:SC}{keep:List Nat}{k:List It}(e:ex P w0 r nt Z Q c (.inLoop keep c::k) fr h):sx P w0 r nt Z c fr h (aJe P w0 r nt Z keep c (unw P w0 r nt Z Q k)):=e
section machine
variable {k:List It} {l:List MIx} {fl:List Bool} {d:Option Nat} {t id:Nat}
@[go_sem] theorem ex_skip:ex P w0 r nt Z Q .skip k fr h=un P w0 r nt Z Q .normal k fr h:=(rfl)
@[go_sem] theorem ex_ret:ex P w0 r nt Z Q .ret k fr h=un P w0 r nt Z Q .ret k fr h:=(rfl)
@[go_sem] theorem ex_exit:ex P w0 r nt Z Q (.exit id) k fr h=un P w0 r nt Z Q (.exit id) k fr h:=(rfl)
@[go_sem] theorem ex_lab:ex P w0 r nt Z Q (.lab id) k fr h=un P w0 r nt Z Q .normal k fr h:=(rfl)
@[go_sem] theorem ex_reg:ex P w0 r nt Z Q (.reg l) k fr h=rv P w0 r nt Z Q l k fr h:=(rfl)
@[go_sem] theorem ex_draw0 {bef:List (List Nat)}:ex P w0 r nt Z Q (.draw [] l bef) k fr h=dr P w0 r nt Z Q l bef k fr h:=(rfl)
@[go_sem] theorem ex_draw {b:Bool} {bef:List (List Nat)}:ex P w0 r nt Z Q (.draw (b::fl) l bef) k fr h=rv P w0 r nt Z Q l k fr h:=(rfl)
@[go_sem] theorem ex_seq {a b:SC}:ex P w0 r nt Z Q (.seq a b) k fr h=ex P w0 r nt Z Q a (.code b::k) fr h:=(rfl)
@[go_sem] theorem ex_cond {a b:SC}:ex P w0 r nt Z Q (.cond (.t t) a b) k fr h=exC P w0 r nt Z Q (fr.get t) t a b k fr h:=(rfl)
@[go_sem] theorem ex_condt {a b:SC}:ex P w0 r nt Z Q (.cond (.k (.bool true)) a b) k fr h=ex P w0 r nt Z Q a k fr h:=(rfl)
@[go_sem] theorem ex_condf {a b:SC}:ex P w0 r nt Z Q (.cond (.k (.bool false)) a b) k fr h=ex P w0 r nt Z Q b k fr h:=(rfl)
@[go_sem] theorem ex_blk {a:SC}:ex P w0 r nt Z Q (.blk id a) k fr h=ex P w0 r nt Z Q a (.inBlk id::k) fr h:=(rfl)
@[go_sem] theorem ex_scope {a:SC}:ex P w0 r nt Z Q (.scope a) k fr h=ex P w0 r nt Z Q a (.inScope::k) fr h:=(rfl)
@[go_sem] theorem ex_loop {keep:List Nat} {a:SC}:ex P w0 r nt Z Q (.loop keep a) k fr h=lp P w0 r nt Z Q a k (iO fr keep) h:=(rfl)
@[go_sem] theorem ex_regC {l1 l2:List MIx} {f:Opd} {as:List Opd}:ex P w0 r nt Z Q (.regC l1 d f as l2) k fr h=rv P w0 r nt Z Q l1 (.callE d f as l2::k) fr h:=(rfl)
@[go_sem] theorem ex_regP {l1 l2:List MIx} {x:Opd}:ex P w0 r nt Z Q (.regP l1 d x l2) k fr h=rv P w0 r nt Z Q l1 (.panE x::k) fr h:=(rfl)
@[go_sem] theorem un_callE {f:Opd} {as:List Opd}:un P w0 r nt Z Q .normal (.callE d f as l::k) fr h=rcE P w0 r nt Z Q (f.ev fr) (as.map (·.ev fr)) d l k fr h:=(rfl)
@[go_sem] theorem ex_drawE {l1:List MIx} {f:Opd} {as:List Opd} {bef:List (List Nat)}:ex P w0 r nt Z Q (.drawE l1 d f as bef) k fr h=rv P w0 r nt Z Q l1 (.callE d f as []::k) fr h:=(rfl)
@[go_sem] theorem un_panE {x:Opd}:un P w0 r nt Z Q .normal (.panE x::k) fr h=rcP P w0 r nt Z Q (x.ev fr) k fr h:=(rfl)
section
variable {ch:List PanicEntry}
@[go_sem] theorem un_cp {c:SC}:un P w0 r nt Z Q (.panic ch) (.code c::k) fr h=un P w0 r nt Z Q (.panic ch) k fr h:=(rfl)
@[go_sem] theorem un_bp:un P w0 r nt Z Q (.panic ch) (.inBlk id::k) fr h=un P w0 r nt Z Q (.panic ch) k fr h:=(rfl)
@[go_sem] theorem un_sp:un P w0 r nt Z Q (.panic ch) (.inScope::k) fr h=un P w0 r nt Z Q (.panic ch) k fr h:=(rfl)
@[go_sem] theorem un_lp {keep:List Nat} {a:SC}:un P w0 r nt Z Q (.panic ch) (.inLoop keep a::k) fr h=un P w0 r nt Z Q (.panic ch) k fr h:=(rfl)
end
@[go_sem] theorem ex_rng {f:Opd} {ps:Array Tmp} {ca cb:Code} {ma mb:SC}:ex P w0 r nt Z Q (.rng f ps ca cb ma mb) k fr h=rg P w0 r nt Z Q f ps ca cb ma mb k fr h:=(rfl)
@[go_sem] theorem un_0 {e:Exit}:un P w0 r nt Z Q e [] fr h=Q e fr h:=(rfl)
@[go_sem] theorem un_cn {c:SC}:un P w0 r nt Z Q .normal (.code c::k) fr h=ex P w0 r nt Z Q c k fr h:=(rfl)
@[go_sem] theorem un_cr {c:SC}:un P w0 r nt Z Q .ret (.code c::k) fr h=un P w0 r nt Z Q .ret k fr h:=(rfl)
@[go_sem] theorem un_ce {c:SC}:un P w0 r nt Z Q (.exit id) (.code c::k) fr h=un P w0 r nt Z Q (.exit id) k fr h:=(rfl)
@[go_sem] theorem un_bn:un P w0 r nt Z Q .normal (.inBlk id::k) fr h=un P w0 r nt Z Q .normal k fr h:=(rfl)
@[go_sem] theorem un_br:un P w0 r nt Z Q .ret (.inBlk id::k) fr h=un P w0 r nt Z Q .ret k fr h:=(rfl)
@[go_sem] theorem un_be {i:Nat}:un P w0 r nt Z Q (.exit i) (.inBlk id::k) fr h=if i=id then un P w0 r nt Z Q .normal k fr h else un P w0 r nt Z Q (.exit i) k fr h:=(rfl)
@[go_sem] theorem un_sn:un P w0 r nt Z Q .normal (.inScope::k) fr h=un P w0 r nt Z Q .normal k fr h:=(rfl)
@[go_sem] theorem un_sr:un P w0 r nt Z Q .ret (.inScope::k) fr h=un P w0 r nt Z Q .ret k fr h:=(rfl)
@[go_sem] theorem un_se:un P w0 r nt Z Q (.exit id) (.inScope::k) fr h=un P w0 r nt Z Q (.exit id) k fr h:=(rfl)
@[go_sem] theorem un_ln {keep:List Nat} {a:SC}:un P w0 r nt Z Q .normal (.inLoop keep a::k) fr h=lp P w0 r nt Z Q a k (iO fr keep) h:=(rfl)
@[go_sem] theorem un_lr {keep:List Nat} {a:SC}:un P w0 r nt Z Q .ret (.inLoop keep a::k) fr h=un P w0 r nt Z Q .ret k fr h:=(rfl)
@[go_sem] theorem un_le {keep:List Nat} {a:SC}:un P w0 r nt Z Q (.exit id) (.inLoop keep a::k) fr h=un P w0 r nt Z Q (.exit id) k fr h:=(rfl)
@[go_sem] theorem rv_n:rv P w0 r nt Z Q [] k fr h=un P w0 r nt Z Q .normal k fr h:=(rfl)
@[go_sem] theorem rv_o {o:MOp}:rv P w0 r nt Z Q (.op d none o::l) k fr h=rvB P w0 r nt Z Q (aop w0 o fr h) d l k fr:=(rfl)
@[go_sem] theorem rv_c {f:Opd} {as:List Opd}:rv P w0 r nt Z Q (.call d none f as::l) k fr h=rvC P w0 r nt Z Q (f.ev fr) (as.map (·.ev fr)) d l k fr h:=(rfl)
@[go_sem] theorem rv_og {b:Bool} {o:MOp}:rv P w0 r nt Z Q (.op d (some (t,b)) o::l) k fr h=rvG P w0 r nt Z Q (fr.get t) t b (.op d none o) l k fr h:=(rfl)
@[go_sem] theorem rv_cg {b:Bool} {f:Opd} {as:List Opd}:rv P w0 r nt Z Q (.call d (some (t,b)) f as::l) k fr h=rvG P w0 r nt Z Q (fr.get t) t b (.call d none f as) l k fr h:=(rfl)
theorem gv_tt{A B:Fr→Prop}:gv (.bool true) t true fr A B=A ((t,.bool true)::fr):=by simp[gv]
theorem gv_ff{A B:Fr→Prop}:gv (.bool false) t false fr A B=A ((t,.bool false)::fr):=by simp[gv]
theorem gv_tf{A B:Fr→Prop}:gv (.bool true) t false fr A B=B ((t,.bool true)::fr):=by simp[gv]
theorem gv_ft{A B:Fr→Prop}:gv (.bool false) t true fr A B=B ((t,.bool false)::fr):=by simp[gv]
def MIx.run(P:Program)(w0:World)(r:Option Nat)(nt Z:Nat)(Q:Exit→Fr→Heap→Prop)(x:MIx)(l:List MIx)(k:List It)(fr:Fr)(h:Heap):Prop:=rv P w0 r nt Z Q (x::l) k fr h
theorem aBe{v:AV}{b:Bool}{o:MOp}:rvG P w0 r nt Z Q v t b (.op d none o) l k fr h=gv v t b fr (fun fr=>rv P w0 r nt Z Q (.op d none o::l) k fr h) (fun fr=>rv P w0 r nt Z Q l k (fr.put d (.tup [])) h):=(rfl)
theorem tR{v:AV}{b:Bool}{f:Opd}{as:List Opd}:rvG P w0 r nt Z Q v t b (.call d none f as) l k fr h=gv v t b fr (fun fr=>rv P w0 r nt Z Q (.call d none f as::l) k fr h) (fun fr=>rv P w0 r nt Z Q l k (fr.put d (.tup [])) h):=(rfl)
section
variable {o:MOp}
@[go_sem high] theorem rvG_ott:rvG P w0 r nt Z Q (.bool true) t true (.op d none o) l k fr h=rv P w0 r nt Z Q (.op d none o::l) k ((t,.bool true)::fr) h:=by rw[aBe,gv_tt]
@[go_sem high] theorem rvG_off:rvG P w0 r nt Z Q (.bool false) t false (.op d none o) l k fr h=rv P w0 r nt Z Q (.op d none o::l) k ((t,.bool false)::fr) h:=by rw[aBe,gv_ff]
@[go_sem high] theorem rvG_otf:rvG P w0 r nt Z Q (.bool true) t false (.op d none o) l k fr h=rv P w0 r nt Z Q l k (Fr.put ((t,.bool true)::fr) d (.tup [])) h:=by rw[aBe,gv_tf]
@[go_sem high] theorem rvG_oft:rvG P w0 r nt Z Q (.bool false) t true (.op d none o) l k fr h=rv P w0 r nt Z Q l k (Fr.put ((t,.bool false)::fr) d (.tup [])) h:=by rw[aBe,gv_ft]
@[go_sem] theorem rvG_ou {b:Bool}:rvG P w0 r nt Z Q (.tup []) t b (.op d none o) l k fr h=rv P w0 r nt Z Q l k (Fr.put fr d (.tup [])) h:=(rfl)
@[go_sem] theorem rvG_ot {c:Bool}:rvG P w0 r nt Z Q (.bool c) t true (.op d none o) l k fr h =
 ((c=true→rv P w0 r nt Z Q (.op d none o::l) k ((t,.bool true)::fr) h)∧(c=false→rv P w0 r nt Z Q l k (Fr.put ((t,.bool false)::fr) d (.tup [])) h)):=(rfl)
@[go_sem] theorem rvG_of {c:Bool}:rvG P w0 r nt Z Q (.bool c) t false (.op d none o) l k fr h =
 ((c=false→rv P w0 r nt Z Q (.op d none o::l) k ((t,.bool false)::fr) h)∧(c=true→rv P w0 r nt Z Q l k (Fr.put ((t,.bool true)::fr) d (.tup [])) h)):=(rfl)
variable {f:Opd} {as:List Opd}
@[go_sem high] theorem rvG_ctt:rvG P w0 r nt Z Q (.bool true) t true (.call d none f as) l k fr h=rv P w0 r nt Z Q (.call d none f as::l) k ((t,.bool true)::fr) h:=by rw[tR,gv_tt]
@[go_sem high] theorem rvG_cff:rvG P w0 r nt Z Q (.bool false) t false (.call d none f as) l k fr h=rv P w0 r nt Z Q (.call d none f as::l) k ((t,.bool false)::fr) h:=by rw[tR,gv_ff]
@[go_sem high] theorem rvG_ctf:rvG P w0 r nt Z Q (.bool true) t false (.call d none f as) l k fr h=rv P w0 r nt Z Q l k (Fr.put ((t,.bool true)::fr) d (.tup [])) h:=by rw[tR,gv_tf]
@[go_sem high] theorem rvG_cft:rvG P w0 r nt Z Q (.bool false) t true (.call d none f as) l k fr h=rv P w0 r nt Z Q l k (Fr.put ((t,.bool false)::fr) d (.tup [])) h:=by rw[tR,gv_ft]
@[go_sem] theorem rvG_cu {b:Bool}:rvG P w0 r nt Z Q (.tup []) t b (.call d none f as) l k fr h=rv P w0 r nt Z Q l k (Fr.put fr d (.tup [])) h:=(rfl)
@[go_sem] theorem rvG_ct {c:Bool}:rvG P w0 r nt Z Q (.bool c) t true (.call d none f as) l k fr h =
 ((c=true→rv P w0 r nt Z Q (.call d none f as::l) k ((t,.bool true)::fr) h)∧(c=false→rv P w0 r nt Z Q l k (Fr.put ((t,.bool false)::fr) d (.tup [])) h)):=(rfl)
@[go_sem] theorem rvG_cf {c:Bool}:rvG P w0 r nt Z Q (.bool c) t false (.call d none f as) l k fr h =
 ((c=false→rv P w0 r nt Z Q (.call d none f as::l) k ((t,.bool false)::fr) h)∧(c=true→rv P w0 r nt Z Q l k (Fr.put ((t,.bool true)::fr) d (.tup [])) h)):=(rfl)
end
theorem cv_t{A B:Fr→Prop}:cv (.bool true) t fr A B=A ((t,.bool true)::fr):=by simp[cv]
theorem cv_f{A B:Fr→Prop}:cv (.bool false) t fr A B=B ((t,.bool false)::fr):=by simp[cv]
@[go_sem high] theorem exC_t {a b:SC}:exC P w0 r nt Z Q (.bool true) t a b k fr h=ex P w0 r nt Z Q a k ((t,.bool true)::fr) h:=by rw[exC,cv_t]
@[go_sem high] theorem exC_f {a b:SC}:exC P w0 r nt Z Q (.bool false) t a b k fr h=ex P w0 r nt Z Q b k ((t,.bool false)::fr) h:=by rw[exC,cv_f]
@[go_sem] theorem exC_b {c:Bool} {a b:SC}:exC P w0 r nt Z Q (.bool c) t a b k fr h=((c=true→ex P w0 r nt Z Q a k ((t,.bool true)::fr) h)∧(c=false→ex P w0 r nt Z Q b k ((t,.bool false)::fr) h)):=(rfl)
theorem aC{f:AV}{as:List AV}{v:AV}{h1:Heap}(c:bI P w0 f as h v h1)(e:rv P w0 r nt Z Q l k (fr.put d v) h1):rvC P w0 r nt Z Q f as d l k fr h:=
 bE.mono c fun _ _ ⟨e1,e2⟩=>by subst e1; subst e2; exact e
theorem aJ{f:AV}{as:List AV}{K:AV→Heap→Prop}(c:bE P w0 f as h K)(e:∀v h1,K v h1→rv P w0 r nt Z Q l k (fr.put d v) h1):rvC P w0 r nt Z Q f as d l k fr h:=
 bE.mono c e
end machine
@[go_sem] theorem xkeep_nil:iO fr []=[]:=(rfl)
@[go_sem] theorem aOz {t:Nat} {ts:List Nat}:iO fr (t::ts)=(t,fr.get t)::iO fr ts:=(rfl)
@[go_sem] theorem put_s {d:Nat} {v:AV}:Fr.put fr (some d) v=(d,v)::fr:=(rfl)
@[go_sem] theorem put_n {v:AV}:Fr.put fr none v=fr:=(rfl)
@[go_sem] theorem get_n {t:Nat}:Fr.get [] t= .undef:=(rfl)
@[go_sem] theorem get_c {k t:Nat} {v:AV} {rest:Fr}:Fr.get ((k,v)::rest) t=if t=k then v else Fr.get rest t:=by
 simp only[Fr.get]
 by_cases e:t=k
 ·subst e; simp
 ·rw[if_neg e]
  have:Nat.beq t k=false:=by
   cases hb:Nat.beq t k with
   | false=>rfl
   | true=>exact absurd (cW.1 hb) e
  rw[this]; rfl
@[go_sem] theorem ev_t {t:Nat}:Opd.ev fr (.t t)=fr.get t:=(rfl)
@[go_sem] theorem ev_k {v:AV}:Opd.ev fr (.k v)=v:=(rfl)
@[go_sem] theorem initFr_n {n:Nat}:dO [] n=[]:=(rfl)
@[go_sem] theorem initFr_c {x:AV} {xs:List AV} {n:Nat}:dO (x::xs) n=(n,x)::dO xs (n+1):=(rfl)
def I64(n:Int):Prop:= -9223372036854775808≤n∧n≤9223372036854775807
def onV(o:Option AV)(h:Heap):Option (AV×Heap):=o.map fun v=>(v,h)
@[go_sem] theorem onV_s {v:AV}:onV (some v) h=some (v,h):=(rfl)
@[go_sem] theorem onV_n:onV none h=none:=(rfl)
theorem aFZ{n:Int}:inK .i64 n=true↔I64 n:=by
 simp[inK,I64,IntKind.min,IntKind.max,IntKind.bits,IntKind.signed]
theorem aDf{n:Int}{K:AV→Heap→Prop}:kK (onV (iU .i64 n) h) K=(I64 n∧K (.int .i64 n) h):=by
 unfold iU
 by_cases hk:inK .i64 n=true
 ·rw[if_pos hk]; simp[onV,kK,aFZ.1 hk]
 ·rw[if_neg hk]; simp only[onV,Option.map_none,kK,false_iff,eq_iff_iff]; exact fun x=>hk (aFZ.2 x.1)
def wi(n:Int):Int:=IntKind.i64.wrap n
def subW(n:Int):Option AV:=some (.int .i64 (wi n))
theorem cZ{n:Int}(h:I64 n):wi n=n:=by
 obtain⟨h1,h2⟩:=h
 unfold wi IntKind.wrap
 simp[IntKind.bits,IntKind.signed]; split<;>omega
@[go_sem] theorem wi_zero:wi 0=0:=cZ (by unfold I64; omega)
theorem aHE{c:Prop} [Decidable c] {v:AV}{h':Heap}{K:AV→Heap→Prop}:kK (if c then some (v,h')else none) K=(c∧K v h'):=by
 by_cases hc:c
 ·rw[if_pos hc]; simp[kK,hc]
 ·rw[if_neg hc]; simp[kK,hc]
theorem aAj{c:Prop} [Decidable c] {v:AV}{K:AV→Heap→Prop}:kK (onV (if c then some v else none) h) K=(c∧K v h):=by
 by_cases hc:c
 ·rw[if_pos hc]; simp[kK,hc,onV]
 ·rw[if_neg hc]; simp[kK,hc,onV]
section
variable {k:List It} {l:List MIx} {fl:List Bool} {d:Option Nat} {v:AV} {h':Heap} {p:Bool}
@[go_sem] theorem rvB_s:rvB P w0 r nt Z Q (some (v,h')) d l k fr=rv P w0 r nt Z Q l k (fr.put d v) h':=(rfl)
@[go_sem] theorem rvB_a {n:Int}:rvB P w0 r nt Z Q (onV (iU .i64 n) h') d l k fr=(I64 n∧rv P w0 r nt Z Q l k (fr.put d (.int .i64 n)) h'):=aDf
@[go_sem] theorem rvB_w {n:Int}:rvB P w0 r nt Z Q (onV (subW n) h') d l k fr=rv P w0 r nt Z Q l k (fr.put d (.int .i64 (wi n))) h':=(rfl)
@[go_sem] theorem rvB_i {c:Prop} [Decidable c]:rvB P w0 r nt Z Q (if c then some (v,h')else none) d l k fr=(c∧rv P w0 r nt Z Q l k (fr.put d v) h'):=aHE
@[go_sem] theorem rvB_o {c:Prop} [Decidable c]:rvB P w0 r nt Z Q (onV (if c then some v else none) h') d l k fr=(c∧rv P w0 r nt Z Q l k (fr.put d v) h'):=aAj
end
theorem jC{o:Option AV}:(o.bind fun v=>some (v,h))=onV o h:=by cases o<;>rfl
@[go_sem] theorem aop_mov {x:Opd}:aop w0 (.mov x) fr h=some (x.ev fr,h):=(rfl)
def aFH(c a b:AV):Option AV:=match c with
 | .bool t=>some (if t then a else b)
 | _=>none
@[go_sem] theorem pickV_t {a b:AV}:aFH (.bool true) a b=some a:=(rfl)
@[go_sem] theorem pickV_f {a b:AV}:aFH (.bool false) a b=some b:=(rfl)
@[go_sem] theorem aop_pick {c a b:Opd}:aop w0 (.pick c a b) fr h=onV (aFH (c.ev fr) (a.ev fr) (b.ev fr)) h:=by
 simp only[aop,aFH]; generalize Opd.ev fr c=v; cases v<;>rfl
@[go_sem] theorem cellsOf_i {k:IntKind} {n:Int}:cellsOf (.int k n)=some [.int k n]:=(rfl)
@[go_sem] theorem cellsOf_b {b:Bool}:cellsOf (.bool b)=some [.bool b]:=(rfl)
@[go_sem] theorem cellsOf_p {p:Pl}:cellsOf (.ptr p)=some [.ptr p]:=(rfl)
@[go_sem] theorem aOB:cellsOf .nilP=some [.nilP]:=(rfl)
@[go_sem] theorem cellsOf_s {p:Pl} {n es:Nat} {f:Bool}:cellsOf (.sl p n es f)=some [.sl p n es f]:=(rfl)
@[go_sem] theorem aOA:cellsOf .nilS=some [.nilS]:=(rfl)
@[go_sem] theorem cellsOf_m {i:Nat}:cellsOf (.map i)=some [.map i]:=(rfl)
@[go_sem] theorem aOC:cellsOf .nilM=some [.nilM]:=(rfl)
@[go_sem] theorem cellsOf_f {f:Fn} {a b:List AV}:cellsOf (.fn f a b)=some [.fn f a b]:=(rfl)
@[go_sem] theorem cellsOf_y {i:Nat}:cellsOf (.yld i)=some [.yld i]:=(rfl)
@[go_sem] theorem aOD:cellsOf .nilF=some [.nilF]:=(rfl)
@[go_sem] theorem cellsOf_a {l:List AV}:cellsOf (.agg l)=if l.all one=true then some l else none:=(rfl)
@[go_sem] theorem one_i {k:IntKind} {n:Int}:one (.int k n)=true:=(rfl)
@[go_sem] theorem one_b {b:Bool}:one (.bool b)=true:=(rfl)
@[go_sem] theorem one_p {p:Pl}:one (.ptr p)=true:=(rfl)
@[go_sem] theorem one_np:one .nilP=true:=(rfl)
@[go_sem] theorem one_s {p:Pl} {n es:Nat} {f:Bool}:one (.sl p n es f)=true:=(rfl)
@[go_sem] theorem one_ns:one .nilS=true:=(rfl)
@[go_sem] theorem one_m {i:Nat}:one (.map i)=true:=(rfl)
@[go_sem] theorem one_nm:one .nilM=true:=(rfl)
@[go_sem] theorem one_f {f:Fn} {a b:List AV}:one (.fn f a b)=true:=(rfl)
@[go_sem] theorem one_y {i:Nat}:one (.yld i)=true:=(rfl)
@[go_sem] theorem one_nf:one .nilF=true:=(rfl)
def boxV(c:Option (List AV))(n:Nat)(h:Heap):Option (AV×Heap):=match c with
 | some l=>if l.length=n then some (.ptr (.own h.length 0),h++[some (.row l)])else none
 | none=>none
@[go_sem] theorem boxV_s {l:List AV} {n:Nat}:boxV (some l) n h=if l.length=n then some (.ptr (.own h.length 0),h++[some (.row l)])else none:=(rfl)
@[go_sem] theorem aop_box {x:Opd} {n:Nat}:aop w0 (.box x n) fr h=boxV (cellsOf (x.ev fr)) n h:=(rfl)
@[go_sem] theorem aop_alloc {z:List AV}:aop w0 (.alloc z) fr h=some (.ptr (.own h.length 0),h++[some (.row z)]):=(rfl)
def aggV(o:Option (List AV))(h:Heap):Option (AV×Heap):=match o with
 | some c=>some (.agg c,h)
 | none=>none
@[go_sem] theorem aggV_s {l:List AV}:aggV (some l) h=some (.agg l,h):=(rfl)
def parts(fr:Fr):List (Nat×Nat×Opd)→List (Nat×Nat×AV)
 | []=>[]
 | p::ps=>(p.1,p.2.1,p.2.2.ev fr)::parts fr ps
theorem aCv{l:List (Nat×Nat×Opd)}:(l.map fun(o,n,x)=>(o,n,x.ev fr))=parts fr l:=by
 induction l with
 | nil=>rfl
 | cons p ps ih=>simp only[List.map_cons,parts,ih]
@[go_sem] theorem parts_n:parts fr []=[]:=(rfl)
@[go_sem] theorem parts_c {o n:Nat} {x:Opd} {ps:List (Nat×Nat×Opd)}:parts fr ((o,n,x)::ps)=(o,n,x.ev fr)::parts fr ps:=(rfl)
@[go_sem] theorem fillA_n {c:List AV}:jM c []=some c:=(rfl)
def fill1(c:List AV)(o n:Nat)(v:Option (List AV))(r:List (Nat×Nat×AV)):Option (List AV):=match v with
 | some l=>if l.length=n∧o+n≤c.length then jM (cO c o l) r else none
 | none=>none
@[go_sem] theorem fill1_s {c l:List AV} {o n:Nat} {r:List (Nat×Nat×AV)}:fill1 c o n (some l) r=if l.length=n∧o+n≤c.length then jM (cO c o l) r else none:=(rfl)
@[go_sem] theorem fillA_c {c:List AV} {o n:Nat} {v:AV} {r:List (Nat×Nat×AV)}:jM c ((o,n,v)::r)=fill1 c o n (cellsOf v) r:=(rfl)
@[go_sem] theorem splice_eq {c l:List AV} {o:Nat}:cO c o l=c.take o++(l++c.drop (o+l.length)):=by simp[cO]
@[go_sem] theorem aop_build {z:List AV} {ps:List (Nat×Nat×Opd)}:aop w0 (.build z ps) fr h=aggV (jM z (parts fr ps)) h:=by
 simp only[aop,aCv,aggV]; cases jM z (parts fr ps)<;>rfl
def slV(o:Option (List AV))(len es:Nat)(full:Bool)(h:Heap):Option (AV×Heap):=match o with
 | some c=>some (.sl (.own h.length 0) len es full,h++[some (.row c)])
 | none=>none
@[go_sem] theorem slV_s {c:List AV} {len es:Nat} {full:Bool}:slV (some c) len es full h=some (.sl (.own h.length 0) len es full,h++[some (.row c)]):=(rfl)
@[go_sem] theorem aOF {es:Nat} {z:List AV} {len:Nat} {ps:List (Nat×Nat×Opd)}:aop w0 (.bslice es z len ps) fr h=slV (jM (fS z len) (parts fr ps)) len es true h:=by
 simp only[aop,aCv,slV,mN]; cases jM (fS z len) (parts fr ps)<;>rfl
@[go_sem] theorem reps_0 {z:List AV}:fS z 0=[]:=(rfl)
@[go_sem] theorem aDQ {z:List AV} {n:Nat}:fS z (n+1)=z++fS z n:=(rfl)
def aFP(w0:World)(h:Heap)(v:AV)(n:Option Nat):Option AV:=match v with
 | .ptr p=>rdv w0 h p n
 | _=>none
@[go_sem] theorem loadV_p {p:Pl} {n:Option Nat}:aFP w0 h (.ptr p) n=rdv w0 h p n:=(rfl)
@[go_sem] theorem aop_load {x:Opd} {n:Option Nat}:aop w0 (.load x n) fr h=onV (aFP w0 h (x.ev fr) n) h:=by
 simp only[aop,aFP]; generalize Opd.ev fr x=v; cases v<;>simp only[jC]<;>rfl
@[go_sem] theorem rdv_n {p:Pl}:rdv w0 h p none=rd w0 h p:=(rfl)
def aggO(o:Option (List AV)):Option AV:=o.map .agg
@[go_sem] theorem aggO_s {l:List AV}:aggO (some l)=some (.agg l):=(rfl)
@[go_sem] theorem rdv_s {p:Pl} {n:Nat}:rdv w0 h p (some n)=aggO (rdn w0 h p n):=(rfl)
def aBE(b:Option (Option Blk))(o:Nat):Option AV:=match b with
 | some (some (.row c))=>c[o]?
 | _=>none
@[go_sem] theorem cellAt_r {c:List AV} {o:Nat}:aBE (some (some (.row c))) o=c[o]? := (rfl)
@[go_sem] theorem rd_own {i o:Nat}:rd w0 h (.own i o)=aBE (h[i]?) o:=(rfl)
def aF9(b:Option (Option Blk))(o n:Nat):Option (List AV):=match b with
 | some (some (.row c))=>if o+n≤c.length then some ((c.drop o).take n)else none
 | _=>none
@[go_sem] theorem cellsAt_r {c:List AV} {o n:Nat}:aF9 (some (some (.row c))) o n=if o+n≤c.length then some ((c.drop o).take n)else none:=(rfl)
@[go_sem] theorem rdn_own {i o n:Nat}:rdn w0 h (.own i o) n=aF9 (h[i]?) o n:=(rfl)
def aDI(v:AV)(c:Option (List AV))(n:Nat)(h:Heap):Option (AV×Heap):=match v,c with
 | .ptr (.own i o),some l=>match h[i]? with
  | some (some (.row c))=>if l.length=n∧o+n≤c.length then some (.undef,h.set i (some (.row (cO c o l))))else none
  | _=>none
 | _,_=>none
def aIh(b:Option (Option Blk))(i o:Nat)(l:List AV)(n:Nat)(h:Heap):Option (AV×Heap):=match b with
 | some (some (.row c))=>if l.length=n∧o+n≤c.length then some (.undef,h.set i (some (.row (cO c o l))))else none
 | _=>none
@[go_sem] theorem storeV_s {i o:Nat} {l:List AV} {n:Nat}:aDI (.ptr (.own i o)) (some l) n h=aIh (h[i]?) i o l n h:=(rfl)
@[go_sem] theorem storeB_r {i o:Nat} {c l:List AV} {n:Nat}:aIh (some (some (.row c))) i o l n h=if l.length=n∧o+n≤c.length then some (.undef,h.set i (some (.row (cO c o l))))else none:=(rfl)
@[go_sem] theorem aop_store {x v:Opd} {n:Nat}:aop w0 (.store x v n) fr h=aDI (x.ev fr) (cellsOf (v.ev fr)) n h:=by
 simp only[aop,aDI]
 generalize Opd.ev fr x=a
 generalize cellsOf (Opd.ev fr v)=b
 cases a<;>try rfl
 all_goals
  rename_i p
  cases p<;>cases b<;>rfl
@[go_sem] theorem aop_nilck {x:Opd}:aop w0 (.nilck x) fr h=(match aFW (x.ev fr)with
 | some false=>match x.ev fr with
  | .ptr p=>some (.ptr p,h)
  | .fn (.func f) a b=>some (.fn (.func f) a b,h)
  | _=>none
 | _=>none):=(rfl)
@[go_sem] theorem isNil_p {p:Pl}:aFW (.ptr p)=some false:=(rfl)
@[go_sem] theorem isNil_f {f:Fn} {a b:List AV}:aFW (.fn f a b)=some false:=(rfl)
@[go_sem] theorem aop_bin {op:BinOp} {x y:Opd}:aop w0 (.bin op x y) fr h=onV (bin op (x.ev fr) (y.ev fr)) h:=by
 simp only[aop,jC]
@[go_sem] theorem bin_add {a b:Int}:bin .add (.int .i64 a) (.int .i64 b)=iU .i64 (a+b):=by simp[bin,kI]
@[go_sem] theorem bin_sub {a b:Int}:bin .sub (.int .i64 a) (.int .i64 b)=subW (a - b):=by simp[bin,kI,subW,wi]
@[go_sem] theorem bin_mul {a b:Int}:bin .mul (.int .i64 a) (.int .i64 b)=iU .i64 (a*b):=by simp[bin,kI]
@[go_sem] theorem bin_quo {a b:Int}:bin .quo (.int .i64 a) (.int .i64 b)=if b=0 then none else iU .i64 (a.tdiv b):=by simp[bin,kI]
@[go_sem] theorem bin_rem {a b:Int}:bin .rem (.int .i64 a) (.int .i64 b)=if b=0 then none else some (.int .i64 (a.tmod b)):=by simp[bin,kI]
@[go_sem] theorem bin_eql {k:IntKind} {a b:Int}:bin .eql (.int k a) (.int k b)=some (.bool (a==b)):=by simp[bin,kI]
@[go_sem] theorem bin_neq {k:IntKind} {a b:Int}:bin .neq (.int k a) (.int k b)=some (.bool (a != b)):=by simp[bin,kI]
@[go_sem] theorem bin_lss {k:IntKind} {a b:Int}:bin .lss (.int k a) (.int k b)=some (.bool (decide (a<b))):=by simp[bin,kI]
@[go_sem] theorem bin_leq {k:IntKind} {a b:Int}:bin .leq (.int k a) (.int k b)=some (.bool (decide (a≤b))):=by simp[bin,kI]
@[go_sem] theorem bin_gtr {k:IntKind} {a b:Int}:bin .gtr (.int k a) (.int k b)=some (.bool (decide (b<a))):=by simp[bin,kI]
@[go_sem] theorem bin_geq {k:IntKind} {a b:Int}:bin .geq (.int k a) (.int k b)=some (.bool (decide (b≤a))):=by simp[bin,kI]
def eqbV(neq:Bool)(x y:AV):Option AV:=match x,y with
 | .bool a,.bool b=>some (.bool (if neq then !(a==b)else a==b))
 | _,_=>none
@[go_sem] theorem eqbV_n {a b:Bool}:eqbV true (.bool a) (.bool b)=some (.bool !(a==b)):=(rfl)
@[go_sem] theorem eqbV_e {a b:Bool}:eqbV false (.bool a) (.bool b)=some (.bool (a==b)):=(rfl)
@[go_sem] theorem aop_eqb {neq:Bool} {x y:Opd}:aop w0 (.eqb neq x y) fr h=onV (eqbV neq (x.ev fr) (y.ev fr)) h:=by
 simp only[aop,eqbV]
 generalize Opd.ev fr x=a
 generalize Opd.ev fr y=b
 cases a<;>try rfl
 cases b<;>rfl
def aHk(sl neq:Bool)(x:AV):Option AV:=(pQ sl x).map fun r=> .bool (if neq then !r else r)
@[go_sem] theorem eqnV_1 {neq:Bool}:aHk true neq .nilS=some (.bool (!neq)):=by cases neq<;>rfl
@[go_sem] theorem eqnV_2 {neq:Bool} {p:Pl} {n es:Nat} {f:Bool}:aHk true neq (.sl p n es f)=some (.bool neq):=by cases neq<;>rfl
@[go_sem] theorem eqnV_3 {neq:Bool}:aHk false neq .nilF=some (.bool (!neq)):=by cases neq<;>rfl
@[go_sem] theorem eqnV_4 {neq:Bool} {f:Fn} {a b:List AV}:aHk false neq (.fn f a b)=some (.bool neq):=by cases neq<;>rfl
@[go_sem] theorem aop_eqnil {sl neq:Bool} {x:Opd}:aop w0 (.eqnil sl neq x) fr h=onV (aHk sl neq (x.ev fr)) h:=by
 simp only[aop,aHk]
 cases pQ sl (x.ev fr)<;>rfl
def aHl(s:List Bool)(neq:Bool)(x y:AV):Option AV:=match x,y with
 | .agg a,.agg b=>(dU s a b).map fun r=> .bool (if neq then !r else r)
 | _,_=>none
@[go_sem] theorem aop_eqag {s:List Bool} {neq:Bool} {x y:Opd}:aop w0 (.eqag s neq x y) fr h=onV (aHl s neq (x.ev fr) (y.ev fr)) h:=by
 simp only[aop,aHl]
 generalize Opd.ev fr x=a
 generalize Opd.ev fr y=b
 cases a<;>try rfl
 cases b<;>try rfl
 rename_i l k
 cases hc:dU s l k<;>simp[hc,onV]
@[go_sem] theorem aop_un {op:UnOp} {x:Opd}:aop w0 (.un op x) fr h=onV (aGu op (x.ev fr)) h:=by simp only[aop,jC]
@[go_sem] theorem unop_not {b:Bool}:aGu .not (.bool b)=some (.bool !b):=(rfl)
@[go_sem] theorem unop_neg {n:Int}:aGu .neg (.int .i64 n)=iU .i64 (0 - n):=(rfl)
def aJZ(k:IntKind)(x:AV):Option AV:=match x with
 | .int _ n=>iU k n
 | _=>none
@[go_sem] theorem convV_i {k k':IntKind} {n:Int}:aJZ k (.int k' n)=iU k n:=(rfl)
@[go_sem] theorem aop_conv {k:IntKind} {x:Opd}:aop w0 (.conv k x) fr h=onV (aJZ k (x.ev fr)) h:=by
 simp only[aop,aJZ]; generalize Opd.ev fr x=v; cases v<;>simp only[jC]<;>rfl
def eqiV(neq:Bool)(x:AV):Option AV:=(zB x).map fun r=> .bool (if neq then !r else r)
@[go_sem] theorem eqiV_1 {neq:Bool}:eqiV neq .nilI=some (.bool (!neq)):=by cases neq<;>rfl
@[go_sem] theorem eqiV_2 {neq:Bool} {t:TypeId} {v:AV}:eqiV neq (.ifc t v)=some (.bool neq):=by cases neq<;>rfl
@[go_sem] theorem aop_eqni {neq:Bool} {x:Opd}:aop w0 (.eqni neq x) fr h=onV (eqiV neq (x.ev fr)) h:=by
 simp only[aop,eqiV]
 cases zB (x.ev fr)<;>rfl
@[go_sem] theorem aop_tass {t:TypeId} {z:AV} {ok:Bool} {x:Opd}:aop w0 (.tass t z ok x) fr h=onV (yC t z ok (x.ev fr)) h:=by simp only[aop,jC]
@[go_sem] theorem tassA_n {t:TypeId} {z:AV}:yC t z true .nilI=some (.tup [z,.bool false]):=(rfl)
@[go_sem] theorem tassA_i {t t':TypeId} {z v:AV}:yC t z true (.ifc t' v)=some (if t'=t then .tup [v,.bool true]else .tup [z,.bool false]):=by
 simp only[yC,if_true]; split<;>rfl
@[go_sem] theorem aop_copy {es:Nat} {x y:Opd}:aop w0 (.copy es x y) fr h=zN w0 h es (x.ev fr) (y.ev fr):=(rfl)
@[go_sem] theorem aop_mkif {t:TypeId} {x:Opd}:aop w0 (.mkif t x) fr h=some (.ifc t (x.ev fr),h):=(rfl)
@[go_sem] theorem aop_mkfn {f:Fn} {a b:List Opd}:aop w0 (.mkfn f a b) fr h=some (.fn f (a.map (·.ev fr)) (b.map (·.ev fr)),h):=(rfl)
@[go_sem] theorem aop_mkmap:aop w0 .mkmap fr h=some (.map h.length,h++[some (.map [])]):=(rfl)
@[go_sem] theorem oP {k:IntKind} {n:Nat}:cH (.int k (n:Int))=some n:=by simp[cH]
@[go_sem low] theorem asNat_i {k:IntKind} {n:Int}:cH (.int k n)=if 0≤n then some n.toNat else none:=(rfl)
def mkslV(es:Nat)(z:List AV)(bytes:Nat)(a b:Option Nat)(h:Heap):Option (AV×Heap):=match a,b with
 | some l,some c=>if l≤c∧c*(bytes+1)≤2^40 then mN h (fS z c) l es (l==c)else none
 | _,_=>none
@[go_sem] theorem mkslV_s {es:Nat} {z:List AV} {bytes l c:Nat}:mkslV es z bytes (some l) (some c) h=if l≤c∧c*(bytes+1)≤1099511627776 then some (.sl (.own h.length 0) l es (l==c),h++[some (.row (fS z c))])else none:=(rfl)
@[go_sem] theorem aop_mksl {es:Nat} {z:List AV} {bytes:Nat} {l c:Opd}:aop w0 (.mksl es z bytes l c) fr h=mkslV es z bytes (cH (l.ev fr)) (cH (c.ev fr)) h:=(rfl)
def aKz(x:AV)(off:Nat):Option AV:=match x with
 | .ptr p=>some (.ptr (p.add off))
 | _=>none
@[go_sem] theorem addrV_p {p:Pl} {off:Nat}:aKz (.ptr p) off=some (.ptr (p.add off)):=(rfl)
@[go_sem] theorem add_own {i o n:Nat}:Pl.add (.own i o) n= .own i (o+n):=(rfl)
@[go_sem] theorem aop_addr {x:Opd} {off:Nat}:aop w0 (.addr x off) fr h=onV (aKz (x.ev fr) off) h:=by
 simp only[aop,aKz]; generalize Opd.ev fr x=v; cases v<;>rfl
def fldV(x:AV)(off:Nat)(n:Option Nat):Option AV:=match x with
 | .agg l=>fZ l off n
 | _=>none
@[go_sem] theorem fldV_a {l:List AV} {off:Nat} {n:Option Nat}:fldV (.agg l) off n=fZ l off n:=(rfl)
@[go_sem] theorem pickAgg_n {l:List AV} {off:Nat}:fZ l off none=l[off]? := (rfl)
@[go_sem] theorem pickAgg_s {l:List AV} {off n:Nat}:fZ l off (some n)=some (.agg ((l.drop off).take n)):=(rfl)
@[go_sem] theorem aop_fld {x:Opd} {off:Nat} {n:Option Nat}:aop w0 (.fld x off n) fr h=onV (fldV (x.ev fr) off n) h:=by
 simp only[aop,fldV]; generalize Opd.ev fr x=v; cases v<;>simp only[jC]<;>rfl
def cF(es:Nat)(x:AV)(i:Option Nat):Option AV:=match x,i with
 | .sl p len es' _,some j=>if fH p es es'=true∧j<len then some (.ptr (p.add (j*es)))else none
 | _,_=>none
@[go_sem] theorem idxsV_s {es es' len j:Nat} {p:Pl} {f:Bool}:cF es (.sl p len es' f) (some j)=if fH p es es'=true∧j<len then some (.ptr (p.add (j*es)))else none:=(rfl)
@[go_sem] theorem aop_idxs {es:Nat} {x i:Opd}:aop w0 (.idxs es x i) fr h=onV (cF es (x.ev fr) (cH (i.ev fr))) h:=by
 simp only[aop,cF]
 generalize Opd.ev fr x=a
 generalize cH (Opd.ev fr i)=b
 cases a<;>cases b<;>try rfl
 simp only
 split<;>rfl
@[go_sem] theorem mF {p:Pl} {es:Nat}:fH p es es=true:=by cases p<;>simp[fH]
def aJu(n es:Nat)(x:AV)(i:Option Nat):Option AV:=match x,i with
 | .ptr p,some j=>if j<n then some (.ptr (p.add (j*es)))else none
 | _,_=>none
@[go_sem] theorem idxaV_s {n es j:Nat} {p:Pl}:aJu n es (.ptr p) (some j)=if j<n then some (.ptr (p.add (j*es)))else none:=(rfl)
@[go_sem] theorem aop_idxa {n es:Nat} {x i:Opd}:aop w0 (.idxa n es x i) fr h=onV (aJu n es (x.ev fr) (cH (i.ev fr))) h:=by
 simp only[aop,aJu]
 generalize Opd.ev fr x=a
 generalize cH (Opd.ev fr i)=b
 cases a<;>cases b<;>try rfl
 simp only
 split<;>rfl
def aHa(n es:Nat)(agg:Bool)(x:AV)(i:Option Nat):Option AV:=match x,i with
 | .agg l,some j=>if j<n then fZ l (j*es) (if agg then some es else none)else none
 | _,_=>none
@[go_sem] theorem idxV_t {n es j:Nat} {l:List AV}:aHa n es true (.agg l) (some j)=if j<n then some (.agg ((l.drop (j*es)).take es))else none:=by simp only[aHa,fZ]; rfl
@[go_sem] theorem idxV_f {n es j:Nat} {l:List AV}:aHa n es false (.agg l) (some j)=if j<n then l[j*es]? else none:=by simp[aHa,fZ]
@[go_sem] theorem aop_idx {n es:Nat} {agg:Bool} {x i:Opd}:aop w0 (.idx n es agg x i) fr h=onV (aHa n es agg (x.ev fr) (cH (i.ev fr))) h:=by
 simp only[aop,aHa]
 generalize Opd.ev fr x=a
 generalize cH (Opd.ev fr i)=b
 cases a<;>cases b<;>try rfl
 simp only
 split
 ·simp only[jC]
 ·rfl
def extV(x:AV)(i:Nat):Option AV:=match x with
 | .tup l=>l[i]?
 | _=>none
@[go_sem] theorem extV_t {l:List AV} {i:Nat}:extV (.tup l) i=l[i]? := (rfl)
@[go_sem] theorem aop_ext {x:Opd} {i:Nat}:aop w0 (.ext x i) fr h=onV (extV (x.ev fr) i) h:=by
 simp only[aop,extV]; generalize Opd.ev fr x=v; cases v<;>simp only[jC]<;>rfl
def dA(x:AV):Option AV:=match x with
 | .sl _ n _ _=>some (.int .i64 n)
 | .nilS=>some (.int .i64 0)
 | _=>none
@[go_sem] theorem lenV_s {p:Pl} {n es:Nat} {f:Bool}:dA (.sl p n es f)=some (.int .i64 n):=(rfl)
@[go_sem] theorem lenV_n:dA .nilS=some (.int .i64 0):=(rfl)
@[go_sem] theorem aop_len' {x:Opd}:aop w0 (.len x) fr h=onV (dA (x.ev fr)) h:=by
 simp only[aop,dA]; generalize Opd.ev fr x=v; cases v<;>rfl
@[go_sem] theorem aop_lena {n:Nat}:aop w0 (.lena n) fr h=some (.int .i64 n,h):=(rfl)
def mmV(isMin:Bool)(l:List AV):Option AV:=match l with
 | v::r=>mm isMin v r
 | []=>none
@[go_sem] theorem aOE {b:Bool} {l:List Opd}:aop w0 (.minmax b l) fr h=onV (mmV b (l.map (·.ev fr))) h:=by
 simp only[aop,mmV]; generalize l.map (·.ev fr)=v; cases v<;>simp only[jC]<;>rfl
@[go_sem] theorem mmV_min {k k':IntKind} {a b:Int}:mmV true [.int k a,.int k' b]=some (.int k (min a b)):=by
 simp only[mmV,mm,if_true]
 congr 2
 rw[Int.min_def]; split<;>split<;>omega
@[go_sem] theorem mmV_max {k k':IntKind} {a b:Int}:mmV false [.int k a,.int k' b]=some (.int k (max a b)):=by
 simp only[mmV,mm]
 congr 2
 simp only[Bool.false_eq_true,if_false]
 rw[Int.max_def]; split<;>split<;>omega
def aAg(es:Nat)(fr:Fr)(x:AV)(lo hi mx:Option Opd):Option AV:=match x with
 | .sl p len es' full=>if fH p es es'=true then
  (dF fr len lo hi mx).map fun b=> .sl (p.add (b.1*es)) (b.2.1 - b.1) es' (fW b.2.2 b.2.1 (full&&b.2.1==len))
  else none
 | .nilS=>(dF fr 0 lo hi mx).map fun _=> .nilS
 | _=>none
@[go_sem] theorem aop_slc {es:Nat} {x:Opd} {lo hi mx:Option Opd}:aop w0 (.slc es x lo hi mx) fr h=onV (aAg es fr (x.ev fr) lo hi mx) h:=by
 simp only[aop,aAg]
 generalize Opd.ev fr x=a
 cases a<;>try rfl
 ·rename_i p len es' full
  simp only
  split
  ·cases dF fr len lo hi mx<;>rfl
  ·rfl
 ·simp only
  cases dF fr 0 lo hi mx<;>rfl
@[go_sem] theorem aop_app {es:Nat} {z:List AV} {bytes:Nat} {x y:Opd}:aop w0 (.app es z bytes x y) fr h=eD w0 h es bytes (x.ev fr) (y.ev fr):=(rfl)
def aDP(w0:World)(fr:Fr)(h:Heap):List RV→Option (List AV)
 | []=>some []
 | r::rs=>(tS w0 fr h r).bind fun v=>(aDP w0 fr h rs).map fun l=>v::l
theorem aMf{rs:List RV}:rs.mapM (tS w0 fr h)=aDP w0 fr h rs:=by
 induction rs with
 | nil=>rfl
 | cons r rs ih=>
  simp only[List.mapM_cons,aDP,←ih]
  cases tS w0 fr h r with
  | none=>rfl
  | some v=>cases rs.mapM (tS w0 fr h)<;>rfl
def one'(l:List AV):AV:=match l with
 | [v]=>v
 | l=> .tup l
@[go_sem] theorem one'_1 {v:AV}:one' [v]=v:=(rfl)
@[go_sem] theorem one'_0:one' []= .tup []:=(rfl)
@[go_sem] theorem one'_2 {a b:AV} {l:List AV}:one' (a::b::l)= .tup (a::b::l):=(rfl)
def nP(w0:World)(fr:Fr)(h:Heap)(rs:List RV)(acc:List AV)(K:AV→Heap→Prop):Prop:=∃l,aDP w0 fr h rs=some l∧K (one' (acc++l)) h
def aGN(w0:World)(fr:Fr)(h:Heap)(o:Option AV)(rs:List RV)(acc:List AV)(K:AV→Heap→Prop):Prop:=∃v,o=some v∧nP w0 fr h rs (acc++[v]) K
@[go_sem] theorem resS_0 {acc:List AV} {K:AV→Heap→Prop}:nP w0 fr h [] acc K=K (one' acc) h:=by simp[nP,aDP]
@[go_sem] theorem resS_1 {x:RV} {rs:List RV} {acc:List AV} {K:AV→Heap→Prop}:nP w0 fr h (x::rs) acc K=aGN w0 fr h (tS w0 fr h x) rs acc K:=by
 simp only[nP,aGN,aDP,eq_iff_iff]
 cases tS w0 fr h x with
 | none=>simp
 | some v=>
  simp only[Option.bind_some,qD,Option.some.injEq]
  constructor
  ·rintro⟨_,⟨l,h1,rfl⟩,h2⟩; exact⟨v,rfl,l,h1,by simpa using h2⟩
  ·rintro⟨_,rfl,l,h1,h2⟩; exact⟨_,⟨l,h1,rfl⟩,by simpa using h2⟩
@[go_sem] theorem resT_s {v:AV} {rs:List RV} {acc:List AV} {K:AV→Heap→Prop}:aGN w0 fr h (some v) rs acc K=nP w0 fr h rs (acc++[v]) K:=by simp[aGN]
@[go_sem] theorem resT_i {c:Prop} [Decidable c] {v:AV} {rs:List RV} {acc:List AV} {K:AV→Heap→Prop}:aGN w0 fr h (if c then some v else none) rs acc K=(c∧nP w0 fr h rs (acc++[v]) K):=by
 by_cases hc:c<;>simp[aGN,hc]
theorem tT{rs:List RV}{K:AV→Heap→Prop}:(∃v,jN w0 rs fr h=some v∧K v h)↔nP w0 fr h rs [] K:=by
 rw[nP,jN,aMf]
 cases aDP w0 fr h rs with
 | none=>simp
 | some l=>
  simp only[Option.map_some,Option.some.injEq,List.nil_append]
  constructor
  ·rintro⟨v,rfl,k⟩; exact⟨l,rfl,k⟩
  ·rintro⟨_,rfl,k⟩; exact⟨_,rfl,k⟩
@[go_sem] theorem resK_n {rs:List RV} {K:AV→Heap→Prop}:resK w0 rs K .normal fr h=nP w0 fr h rs [] K:=propext tT
@[go_sem] theorem resK_r {rs:List RV} {K:AV→Heap→Prop}:resK w0 rs K .ret fr h=nP w0 fr h rs [] K:=propext tT
def fin(h:Heap)(v v':AV)(h':Heap):Prop:=v'=v∧∃k,h'=h++k
@[go_sem] theorem fin_a {v v':AV} {k:Heap}:fin h v v' (h++k)=(v'=v):=by simp[fin]
theorem aCq{rs:List RV}{v:AV}{h':Heap}:(jN w0 rs fr h'=some v∧∃k,h'=h++k)=nP w0 fr h' rs [] (fin h v):=by
 rw[←tT,eq_iff_iff]
 exact⟨fun⟨a,b⟩=>⟨v,a,rfl,b⟩,fun⟨_,a,e,b⟩=>by subst e; exact⟨a,b⟩⟩
@[go_sem] theorem quietK_n {rs:List RV} {v:AV} {h':Heap}:aBj w0 rs h v .normal fr h'=nP w0 fr h' rs [] (fin h v):=aCq
@[go_sem] theorem quietK_r {rs:List RV} {v:AV} {h':Heap}:aBj w0 rs h v .ret fr h'=nP w0 fr h' rs [] (fin h v):=aCq
@[go_sem] theorem resV_t {t:Nat}:tS w0 fr h (.t t)=some (fr.get t):=(rfl)
@[go_sem] theorem resV_c {t:Nat} {g:Option Nat}:tS w0 fr h (.c t g)=aFP w0 h (fr.get t) g:=(rfl)
@[go_sem] theorem len_app {l:Heap}:(h++l).length=h.length+l.length:=List.length_append
@[go_sem] theorem app_app {l k:Heap}:(h++l)++k=h++(l++k):=List.append_assoc _ _ _
@[go_sem] theorem app_get0 {l:Heap}:(h++l)[h.length]? = l[0]? := by rw[qI (Nat.le_refl _)]; simp
@[go_sem] theorem app_get {l:Heap} {k:Nat}:(h++l)[h.length+k]? = l[k]? := by rw[qI (by omega)]; congr 1; omega
@[go_sem] theorem app_set0 {l:Heap} {b:Option Blk}:(h++l).set h.length b=h++l.set 0 b:=by rw[List.set_append_right _ _ (Nat.le_refl _)]; simp
@[go_sem] theorem app_set {l:Heap} {k:Nat} {b:Option Blk}:(h++l).set (h.length+k) b=h++l.set k b:=by
 rw[List.set_append_right _ _ (by omega)]; congr 2; omega
attribute [go_sem] List.cons_append List.nil_append List.length_cons List.length_nil List.getElem?_cons_zero List.getElem?_cons_succ List.set_cons_zero List.set_cons_succ List.take_succ_cons List.take_zero
 List.drop_succ_cons List.drop_zero List.take_nil List.drop_nil List.map_cons List.map_nil List.all_cons List.all_nil Nat.add_zero Nat.zero_add Bool.and_true Bool.true_and Bool.and_self
 decide_eq_true_eq decide_eq_false_iff_not if_true if_false true_and and_true Bool.not_eq_true' Bool.not_eq_false' Bool.not_true Bool.not_false Option.some.injEq
 beq_iff_eq bne_iff_ne beq_eq_false_iff_ne bne_eq_false_iff_eq ne_eq List.length_set
end
section
variable {P:Program} {w0:World} {r:Option Nat} {nt Z:Nat} {fr:Fr} {h:Heap} {Q:Exit→Fr→Heap→Prop} {k:List It} {a:SC}
theorem aNN(hm:P.follows .mixedOrders=true)(g:a.good=true)(keep:List Nat){b:SC}(eb:a=b)(e:ex P w0 r nt Z Q b (.inLoop keep a::k) fr h):lp P w0 r nt Z Q a k fr h:=EvL_sx hm g keep (aEk (eb▸e))
attribute [go_sem] decide_true decide_false
theorem fF{S:Type}(F:S→Fr)(H:S→Heap)(meas:S→Nat)(Inv:S→Prop)(s0:S)(i0:Inv s0)(hf:fr=F s0)(hh:h=H s0)
 (step:∀s,Inv s→(∀s',Inv s'→meas s'<meas s→lp P w0 r nt Z Q a k (F s') (H s'))→lp P w0 r nt Z Q a k (F s) (H s)):lp P w0 r nt Z Q a k fr h:=by
 subst hf; subst hh
 have key:∀n s,meas s<n→Inv s→lp P w0 r nt Z Q a k (F s) (H s):=by
  intro n
  induction n with
  | zero=>intro s hs _; omega
  | succ n ih=>intro s hs hi; exact step s hi fun s' hi' hlt=>ih s' (by omega) hi'
 exact key _ s0 (Nat.lt_succ_self _) i0
def HBs(N:Nat)(l:Heap):Prop:=∀b,some b∈l→Blk.bdd N b
def FB(N:Nat)(fr:Fr):Prop:=∀p∈fr,p.2.bdd N
theorem FB.get{N:Nat}(hf:FB N fr)(t:Nat):(fr.get t).bdd N:=by
 induction fr with
 | nil=>exact trivial
 | cons p r ih=>
  simp only[Fr.get]
  split
  ·exact hf p List.mem_cons_self
  ·exact ih fun q hq=>hf q (List.mem_cons_of_mem _ hq)
theorem zZ{l:Heap}(hb:HB h)(hl:HBs (h.length+l.length) l):HB (h++l):=by
 intro i b hi
 rw[List.length_append]
 rcases Nat.lt_or_ge i h.length with hlt | hge
 ·rw[qH hlt]at hi; exact Blk.bdd_mono (Nat.le_add_right _ _) (hb i b hi)
 ·rw[qI hge]at hi; exact hl b (List.mem_of_getElem? hi)
theorem bT{N:Nat}:HBs N []↔True:=by simp[HBs]
theorem bC{N:Nat}{b:Blk}{l:Heap}:HBs N (some b::l)↔b.bdd N∧HBs N l:=by
 simp only[HBs,List.mem_cons]
 constructor
 ·intro x; exact⟨x b (.inl rfl),fun c hc=>x c (.inr hc)⟩
 ·rintro⟨x,y⟩ c (hc | hc)
  ·cases hc; exact x
  ·exact y c hc
theorem bO{N:Nat}{l:Heap}:HBs N (none::l)↔HBs N l:=by
 simp only[HBs,List.mem_cons]
 constructor
 ·intro x c hc; exact x c (.inr hc)
 ·rintro y c (hc | hc)
  ·cases hc
  ·exact y c hc
theorem cT{N:Nat}:FB N []↔True:=by simp[FB]
theorem cC{N t:Nat}{v:AV}:FB N ((t,v)::fr)↔v.bdd N∧FB N fr:=by simp[FB]
theorem bP{N:Nat}{l:List AV}:Blk.bdd N (.row l)↔AV.bdds N l:=by
 simp only[Blk.bdd]; exact cG.symm
theorem gA(n:Nat){l:Heap}(hb:HB h)(hl:HBs (h.length+(l.take n).length) (l.take n))(hf:FB (h.length+(l.take n).length) fr)
 (e:lp P w0 r nt h.length Q a k fr (h++l.take n)):lp P w0 r nt h.length Q a k fr (h++l):=by
 have:h++l=(h++l.take n)++l.drop n:=by rw[List.append_assoc,List.take_append_drop]
 rw[this]
 refine aDr (zZ hb hl) (by rw[List.length_append]; exact Nat.le_add_right _ _) (fun t=> ?_) (fun t=> .inr rfl) e
 rw[List.length_append]; exact hf.get t
theorem Pl.add_add{p:Pl}{m n:Nat}:(p.add m).add n=p.add (m+n):=by
 cases p with
 | old a=>
  simp only[Pl.add,Addr.add]
  by_cases hm:m=0
  ·subst hm; simp
  ·by_cases hn:n=0
   ·subst hn; simp[hm]
   ·simp[hm,hn,Nat.add_assoc]
 | own i o=>simp only[Pl.add,Nat.add_assoc]
theorem xL{h:Heap}{i:Nat}{b:Option Blk}(e:h[i]? = some b):∀L,(h++L)[i]? = some b:=fun _=>aA e
def Sl(w0:World)(h:Heap)(es:Nat)(v:AV)(rows:List (List AV)):Prop:=
 (v= .nilS∧rows=[])∨∃p full,(∃es',v= .sl p rows.length es' full∧fH p es es'=true)∧p.bdd h.length∧∀(j:Nat) c,rows[j]? = some c→rdn w0 h (p.add (j*es)) es=some c
theorem Sl.app{es:Nat}{v:AV}{rows:List (List AV)}{l:Heap}(s:Sl w0 h es v rows):Sl w0 (h++l) es v rows:=by
 rcases s with s | ⟨p,full,s1,s2,s3⟩
 ·exact .inl s
 ·exact .inr ⟨p,full,s1,Pl.bdd_mono (by simp) s2,fun j c hc=>cK (s3 j c hc)⟩
theorem Sl.bdd{es:Nat}{v:AV}{rows:List (List AV)}(s:Sl w0 h es v rows){N:Nat}(hN:h.length≤N):v.bdd N:=by
 rcases s with⟨s,_⟩ | ⟨p,full,s1,s2,_⟩
 ·subst s; trivial
 ·obtain⟨es',rfl,_⟩:=s1; exact Pl.bdd_mono hN s2
theorem gR{p:Pl}{n:Nat}{l:List AV}(e:rdn w0 h p n=some l):l.length=n∧∀(o m:Nat),o+m≤n→rdn w0 h (p.add o) m=some ((l.drop o).take m):=by
 obtain⟨h1,h2⟩:=pI e
 refine⟨h1,fun o m hom=> ?_⟩
 cases p with
 | own i b=>
  simp only[rdn]at e
  split at e
  ·rename_i c hc
   split at e
   ·rename_i hle
    cases e
    simp only[Pl.add,rdn,hc]
    rw[if_pos (by omega),List.drop_take,List.take_take,List.drop_drop]
    congr 2; omega
   ·cases e
  ·cases e
 | old a=>
  have key:∀m o,o+m≤n→((List.range m).mapM fun j=>(w0.cell? ((a.add o).add j)).map inj)=some ((l.drop o).take m):=by
   intro m
   induction m with
   | zero=>intro o _; simp
   | succ m ih=>
    intro o ho
    have hrow:∀j,j<n→(w0.cell? (a.add j)).map inj=l[j]? := fun j hj=>by
     have hx:l[j]? = some l[j]:=qA (by omega)
     have:=h2 j _ hx
     rw[hx]; simpa[rd,Pl.add]using this
    rw[List.range_succ,List.mapM_append,ih o (by omega)]
    have ha:(a.add o).add m=a.add (o+m):=by
     have:=Pl.add_add (p:= .old a) (m:=o) (n:=m)
     simpa[Pl.add]using this
    simp only[List.mapM_cons,List.mapM_nil,ha,hrow (o+m) (by omega)]
    rw[qA (show o+m<l.length by omega)]
    simp only[Option.bind_eq_bind,Option.bind_some,Option.pure_def,Option.some.injEq]
    rw[List.take_add_one,List.getElem?_drop,qA (show o+m<l.length by omega)]
    simp
  exact key m o hom
theorem dG{p:Pl}{n:Nat}{l:List AV}(e:rdn w0 h p n=some l){o:Nat}{x:AV}(hx:l[o]? = some x):rd w0 h (p.add o)=some x:=(pI e).2 o x hx
theorem Sl.use{es:Nat}{v:AV}{rows:List (List AV)}(s:Sl w0 h es v rows) :
 dA v=some (.int .i64 rows.length)∧∃p:Pl,(∀j,j<rows.length→cF es v (some j)=some (.ptr (p.add (j*es)))) ∧
  (∀(j:Nat) c,rows[j]? = some c→rdn w0 h (p.add (j*es)) es=some c)∧p.bdd h.length:=by
 rcases s with⟨s1,s2⟩ | ⟨p,full,s1,s2,s3⟩
 ·subst s1; subst s2
  exact⟨rfl,.old ⟨0,0,none⟩,fun j hj=>by simp at hj,fun j c hc=>by simp at hc,trivial⟩
 ·obtain⟨es',rfl,he⟩:=s1
  exact⟨rfl,p,fun j hj=>by simp[cF,hj,he],s3,s2⟩
end
end Go.Proofs.Ab
namespace Go.Proofs.Ab
open Go
theorem aK.v{P:Program}{w0:World}{f:FuncId}{as:List AV}{h h1:Heap}{v:AV}(c:aK P w0 f as h v h1):bI P w0 (.fn (.func f) [] []) as h v h1:=by
 simp only[bI,bE,List.nil_append,List.append_nil]; exact c
theorem aK.vc{P:Program}{w0:World}{f:FuncId}{first as capt:List AV}{h h1:Heap}{v:AV}(c:aK P w0 f (first++as++capt) h v h1):bI P w0 (.fn (.func f) first capt) as h v h1:=c
@[go_sem] theorem add_e0 {n k:Nat}:(n=n+k)=(k=0):=by simp
@[go_sem] theorem add_e1 {n k:Nat}:(n+k=n)=(k=0):=by simp
@[go_sem] theorem add_e2 {n j k:Nat}:(n+j=n+k)=(j=k):=by simp
attribute [go_sem] Nat.add_assoc List.set_nil not_false_eq_true not_true_eq_false and_false false_and true_implies false_implies implies_true Bool.false_eq_true
section
variable {P:Program} {w0:World} {r:Option Nat} {nt Z:Nat} {fr:Fr} {h:Heap} {Q:Exit→Fr→Heap→Prop} {k:List It} {a:SC}
theorem bS{S:Type}(F:Nat→S→Fr)(H:Nat→S→Heap)(Inv:Nat→S→Prop)(n:Nat)(s0:S)(i0:Inv 0 s0)(hf:fr=F 0 s0)(hh:h=H 0 s0)
 (body:∀j s,j<n→Inv j s→(∀s',Inv (j+1) s'→lp P w0 r nt Z Q a k (F (j+1) s') (H (j+1) s'))→lp P w0 r nt Z Q a k (F j s) (H j s))
 (done:∀s,Inv n s→lp P w0 r nt Z Q a k (F n s) (H n s)):lp P w0 r nt Z Q a k fr h:=by
 subst hf; subst hh
 have key:∀m j s,j+m=n→Inv j s→lp P w0 r nt Z Q a k (F j s) (H j s):=by
  intro m
  induction m with
  | zero => intro j s hj hi; obtain rfl : j = n := by omega
            exact done s hi
  | succ m ih=>intro j s hj hi; exact body j s (by omega) hi fun s' hi'=>ih (j+1) s' (by omega) hi'
 exact key n 0 s0 (by omega) i0
theorem cY(F:Nat→Fr)(ok:Nat→Prop)(n:Nat)(hf:fr=F 0)
 (body:∀j,j<n→(∀i,i<j→ok i)→(ok j→lp P w0 r nt Z Q a k (F (j+1)) h)→lp P w0 r nt Z Q a k (F j) h)
 (done:(∀i,i<n→ok i)→lp P w0 r nt Z Q a k (F n) h):lp P w0 r nt Z Q a k fr h:=
 bS (S:=Unit) (fun j _=>F j) (fun _ _=>h) (fun j _=>∀i,i<j→ok i) n () (fun i hi=>by omega) hf rfl
  (fun j _ hj hi ih=>body j hj hi fun hok=>ih () fun i hij=>by
   rcases Nat.lt_or_ge i j with h1 | h1
   ·exact hi i h1
   ·obtain rfl:i=j:=by omega
    exact hok)
  (fun _ hi=>done hi)
end
theorem Sl.one{w0:World}{h:Heap}{es:Nat}{v:AV}{rows:List (List AV)}(s:Sl w0 h es v rows):Ab.one v=true∧cellsOf v=some [v]:=by
 rcases s with⟨s,_⟩ | ⟨p,full,⟨es',s1,_⟩,_⟩
 ·subst s; exact⟨rfl,rfl⟩
 ·subst s1; exact⟨rfl,rfl⟩
section
variable {P:Program} {w0:World} {r:Option Nat} {nt Z:Nat} {fr:Fr} {h:Heap} {Q:Exit→Fr→Heap→Prop} {k:List It} {a:SC}
def uS(h1:Heap)(v v':AV)(h':Heap):Prop:=v'=v∧∃k,h'=h1++k
def pre:Heap→Heap→Prop
 | [],_=>True
 | a::l,b::l'=>b=a∧pre l l'
 | _::_,[]=>False
theorem aMk{l l':Heap}:pre l l'↔∃k,l'=l++k:=by
 induction l generalizing l' with
 | nil=>simp[pre]
 | cons a l ih=>
  cases l' with
  | nil=>simp[pre]
  | cons b l'=>
   simp only[pre,ih,List.cons_append,List.cons.injEq]
   exact⟨fun⟨e,k,e'⟩=>⟨k,e,e'⟩,fun⟨k,e,e'⟩=>⟨e,k,e'⟩⟩
@[go_sem] theorem pre_n {l:Heap}:pre [] l=True:=(rfl)
@[go_sem] theorem pre_c {a b:Option Blk} {l l':Heap}:pre (a::l) (b::l')=(b=a∧pre l l'):=(rfl)
@[go_sem] theorem finN_a {v v':AV} {l l':Heap}:uS (h++l) v v' (h++l')=(v'=v∧pre l l'):=by
 simp only[uS,eq_iff_iff,aMk,List.append_assoc,List.append_cancel_left_eq]
def newK(w0:World)(rs:List RV)(h1:Heap)(v:AV):Exit→Fr→Heap→Prop
 | .normal,fr,h'=>nP w0 fr h' rs [] (uS h1 v)
 | .ret,fr,h'=>nP w0 fr h' rs [] (uS h1 v)
 | _,_,_=>False
@[go_sem] theorem newK_n {rs:List RV} {v:AV} {h1 h':Heap}:newK w0 rs h1 v .normal fr h'=nP w0 fr h' rs [] (uS h1 v):=(rfl)
@[go_sem] theorem newK_r {rs:List RV} {v:AV} {h1 h':Heap}:newK w0 rs h1 v .ret fr h'=nP w0 fr h' rs [] (uS h1 v):=(rfl)
theorem oC(hm:P.follows .mixedOrders=true){f:FuncId}{mf:SF}(hf:tD P f=some mf.er)(hb:dH P f=true)(g:mf.body.good=true){args:List AV}(hn:args.length≤mf.nt){v:AV}{L:Heap}
 (hv:v.bdd (h.length+L.length)) (hL:AV.bdds h.length args→HBs (h.length+L.length) L) (e:HB h→AV.bdds h.length args→sx P w0 none mf.nt h.length mf.body (dO args 0) (h++[]) (newK w0 mf.res (h++L) v)):aK P w0 f args h v (h++L):=by
 refine mM (qQ hm hf hb g hn fun h1 h2=>jT _ (e h1 h2) fun e fr h' q=> ?_)
 have:∀ {fr:Fr} {h':Heap},nP w0 fr h' mf.res [] (uS (h++L) v)→∃v',jN w0 mf.res fr h'=some v'∧∃h1 k,h'=h1++k∧h.length≤h1.length∧HB h1∧v'.bdd h1.length∧v'=v∧h1=h++L:=
  fun q=>by
   obtain⟨v',q1,q2,k,q3⟩:=tT.2 q
   subst q2
   exact⟨_,q1,h++L,k,q3,by simp,zZ h1 (hL h2),by rw[List.length_append]; exact hv,rfl,rfl⟩
 cases e with
 | normal=>exact this q
 | ret=>exact this q
 | _=>exact q.elim
theorem aJd(n:Nat){l:Heap}(hz:Z≤h.length)(hb:HB h)(hl:HBs (h.length+(l.take n).length) (l.take n))(hf:FB (h.length+(l.take n).length) fr)
 (e:lp P w0 r nt Z Q a k fr (h++l.take n)):lp P w0 r nt Z Q a k fr (h++l):=by
 have:h++l=(h++l.take n)++l.drop n:=by rw[List.append_assoc,List.take_append_drop]
 rw[this]
 refine aDr (zZ hb hl) (by rw[List.length_append]; omega) (fun t=> ?_) (fun t=> .inr rfl) e
 rw[List.length_append]; exact hf.get t
def yE(nt:Nat)(fr0:Fr)(ps:Array Tmp)(ca cb:Code)(b:Option (Option Blk))(A:Prop):Prop:=(∃st pd,b=some (some (.loop nt fr0 ps ca cb st pd)))∧A
@[go_sem] theorem yE_s {fr0:Fr} {ps:Array Tmp} {ca cb:Code} {st:LoopState} {pd:Option Code} {A:Prop}:yE nt fr0 ps ca cb (some (some (.loop nt fr0 ps ca cb st pd))) A=A:=by simp[yE]
def yB(i nt:Nat)(fr0:Fr)(ps:Array Tmp)(ca cb:Code)(K:AV→Heap→Prop):Exit→Fr→Heap→Prop
 | .normal,_,h2=>yE nt fr0 ps ca cb h2[i]? (K (.bool true) (h2.set i (some (.loop nt fr0 ps ca cb .ready none))))
 | .ret,_,h2=>yE nt fr0 ps ca cb h2[i]? (K (.bool false) (h2.set i (some (.loop nt fr0 ps ca cb .done (some .ret)))))
 | .exit id,_,h2=>yE nt fr0 ps ca cb h2[i]? (K (.bool false) (h2.set i (some (.loop nt fr0 ps ca cb .done (some (.exit id))))))
 | _,_,_=>False
def yA(P:Program)(w0:World)(i nt Z:Nat)(fr0:Fr)(ps:Array Tmp)(ca cb:Code)(mb:SC)(K:AV→Heap→Prop):Exit→Fr→Heap→Prop
 | .normal,fr1,h1=>h1[i]? = some (some (.loop nt fr0 ps ca cb .ready none))∧ex P w0 (some i) nt Z (yB i nt fr0 ps ca cb K) mb [] fr1 (h1.set i (some (.loop nt fr0 ps ca cb .busy none)))
 | _,_,_=>False
section
variable {i id:Nat} {fr0:Fr} {ps:Array Tmp} {ca cb:Code} {mb:SC} {K:AV→Heap→Prop}
@[go_sem] theorem yB_n:yB i nt fr0 ps ca cb K .normal fr h=yE nt fr0 ps ca cb h[i]? (K (.bool true) (h.set i (some (.loop nt fr0 ps ca cb .ready none)))):=(rfl)
@[go_sem] theorem yB_r:yB i nt fr0 ps ca cb K .ret fr h=yE nt fr0 ps ca cb h[i]? (K (.bool false) (h.set i (some (.loop nt fr0 ps ca cb .done (some .ret))))):=(rfl)
@[go_sem] theorem yB_e:yB i nt fr0 ps ca cb K (.exit id) fr h=yE nt fr0 ps ca cb h[i]? (K (.bool false) (h.set i (some (.loop nt fr0 ps ca cb .done (some (.exit id)))))):=(rfl)
@[go_sem] theorem yA_n:yA P w0 i nt Z fr0 ps ca cb mb K .normal fr h=(h[i]? = some (some (.loop nt fr0 ps ca cb .ready none))∧ex P w0 (some i) nt Z (yB i nt fr0 ps ca cb K) mb [] fr (h.set i (some (.loop nt fr0 ps ca cb .busy none)))):=(rfl)
@[go_sem] theorem putPs_n:rR fr [] []=fr:=(rfl)
@[go_sem] theorem putPs_c {t:Tmp} {ts:List Tmp} {v:AV} {vs:List AV}:rR fr (t::ts) (v::vs)=rR ((t,v)::fr) ts vs:=(rfl)
theorem hE(hm:P.follows .mixedOrders=true){psl:List Tmp}(hpl:ps.toList=psl){ma ma' mb mb':SC}(ga:ma.good=true)(gb:mb.good=true)(ea:ma=ma')(eb:mb=mb')(hi:h[i]? = some (some (.loop nt fr0 ps ca cb .ready none))){args:List AV}(hl:args.length=ps.size)
 (hps:∀t∈ps.toList,t<nt) (hma:aW P nt ca=some ma.er) (hmb:aW P nt cb=some mb.er)
 (e:HB h→AV.bdds h.length args→ex P w0 (some i) nt h.length (yA P w0 i nt h.length fr0 ps ca cb mb' K) ma' [] (rR fr0 psl args) h):cR P w0 i args h K:=by
 subst hpl; subst ea; subst eb
 refine aB1 hi hl hps hma hmb fun h1 h2=>(dW hm ma ga (hY (e h1 h2))).mono fun e fr h q=> ?_
 cases e with
 | normal=>
  refine⟨rfl,q.1,(dW hm mb gb (hY q.2)).mono fun e fr h q=> ?_⟩
  cases e with
  | normal=>obtain⟨⟨st,pd,e1⟩,q⟩:=q; exact⟨st,pd,e1,q⟩
  | ret=>obtain⟨⟨st,pd,e1⟩,q⟩:=q; exact⟨st,pd,e1,q⟩
  | exit id=>obtain⟨⟨st,pd,e1⟩,q⟩:=q; exact⟨st,pd,e1,q⟩
  | _=>exact q.elim
 | _=>exact q.elim
end
theorem aAd{i:Nat}{args:List AV}{K:AV→Heap→Prop}(c:cR P w0 i args h K):bE P w0 (.yld i) args h K:=c
def rgK(P:Program)(w0:World)(r:Option Nat)(nt Z:Nat)(Q:Exit→Fr→Heap→Prop)(k:List It)(fr:Fr)(n:Nat)(h':Heap):Prop:=
 ∃n0 f0 p0 a0 b0 st pd,h'[n]? = some (some (.loop n0 f0 p0 a0 b0 st pd))∧st≠ .busy∧yZ (unw P w0 r nt Z Q k) fr (h'.set n none) pd
def rgE(P:Program)(w0:World)(r:Option Nat)(nt Z:Nat)(Q:Exit→Fr→Heap→Prop)(k:List It)(fr:Fr)(b:Option (Option Blk))(h':Heap):Prop:=
 ∃n0 f0 p0 a0 b0 st pd,b=some (some (.loop n0 f0 p0 a0 b0 st pd))∧st≠ .busy∧yZ (unw P w0 r nt Z Q k) fr h' pd
@[go_sem] theorem rgK_e {n:Nat} {h':Heap}:rgK P w0 r nt Z Q k fr n h'=rgE P w0 r nt Z Q k fr h'[n]? (h'.set n none):=(rfl)
section
variable {n0:Nat} {f0:Fr} {p0:Array Tmp} {a0 b0:Code} {h':Heap} {id:Nat}
theorem aBg{st:LoopState}{pd:Option Code}:rgE P w0 r nt Z Q k fr (some (some (.loop n0 f0 p0 a0 b0 st pd))) h'=(st≠ .busy∧yZ (unw P w0 r nt Z Q k) fr h' pd):=by
 simp only[rgE,eq_iff_iff]
 constructor
 ·rintro⟨_,_,_,_,_,_,_,e,h1,h2⟩; cases e; exact⟨h1,h2⟩
 ·rintro⟨h1,h2⟩; exact⟨_,_,_,_,_,_,_,rfl,h1,h2⟩
@[go_sem] theorem rgE_n:rgE P w0 r nt Z Q k fr (some (some (.loop n0 f0 p0 a0 b0 .ready none))) h'=un P w0 r nt Z Q .normal k fr h':=by rw[aBg]; simp[yZ,un]
@[go_sem] theorem rgE_r:rgE P w0 r nt Z Q k fr (some (some (.loop n0 f0 p0 a0 b0 .done (some .ret)))) h'=un P w0 r nt Z Q .ret k fr h':=by rw[aBg]; simp[yZ,un]
@[go_sem] theorem rgE_x:rgE P w0 r nt Z Q k fr (some (some (.loop n0 f0 p0 a0 b0 .done (some (.exit id))))) h'=un P w0 r nt Z Q (.exit id) k fr h':=by rw[aBg]; simp[yZ,un]
end
theorem lD(ks:List Nat){f:Opd}{ps:Array Tmp}{ca cb:Code}{ma mb:SC}(e:rg P w0 r nt Z Q f ps ca cb ma mb k (iO fr ks) h):rg P w0 r nt Z Q f ps ca cb ma mb k fr h:=vZ (qS ks fr) e
theorem oE{f:Opd}{ps:Array Tmp}{ca cb:Code}{ma mb:SC}{fid:FuncId}{first capt:List AV}(hfv:f.ev fr= .fn (.func fid) first capt)
 (hr:r=none∨∃i0 n0 f0 p0 a0 b0 s0 d0,r=some i0∧h[i0]? = some (some (.loop n0 f0 p0 a0 b0 s0 d0)))
 (call:aW P nt ca=some ma.er→aW P nt cb=some mb.er→(∀t∈ps.toList,t<nt)→ACall P w0 fid (first++[.yld h.length]++capt) (h++[some (.loop nt fr ps ca cb .ready none)]) fun _ h'=>rgK P w0 r nt Z Q k fr h.length h') :
 rg P w0 r nt Z Q f ps ca cb ma mb k fr h:=aOn hfv hr call
theorem aH1(hm:P.follows .mixedOrders=true){f:FuncId}{mf:SF}(hf:tD P f=some mf.er)(hb:dH P f=true)(g:mf.body.good=true){args:List AV}(hn:args.length≤mf.nt){K:AV→Heap→Prop}
 (e:HB h→AV.bdds h.length args→sx P w0 none mf.nt h.length mf.body (dO args 0) (h++[]) (resK w0 mf.res fun v h'=>∃h1 k,h'=h1++k∧h.length≤h1.length∧HB h1∧v.bdd h1.length∧K v h1)):ACall P w0 f args h K:=
 mM (qQ hm hf hb g hn e)
theorem aY{N nt:Nat}{fr:Fr}{ps:Array Tmp}{ca cb:Code}{st:LoopState}{pd:Option Code}(hf:FB N fr):Blk.bdd N (.loop nt fr ps ca cb st pd)=True:=by
 simp only[Blk.bdd,eq_iff_iff,iff_true]; exact fun t=>hf.get t
end
end Go.Proofs.Ab

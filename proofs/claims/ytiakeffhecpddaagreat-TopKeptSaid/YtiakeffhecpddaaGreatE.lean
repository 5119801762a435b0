/- Own layer, part E. -/
import Derived.Test.YtiakeffhecpddaaGreatD
import Derived.Attr
set_option linter.unusedSimpArgs false
set_option linter.unusedVariables false
namespace Go.Proofs.Ab
open Go
def Pl.al(p:Nat→Prop):Pl→Prop
 | .old _=>True
 | .own i _=>p i
mutual
def AV.al(p:Nat→Prop):AV→Prop
 | .agg l | .tup l=>AV.als p l
 | .ptr q | .sl q _ _ _=>q.al p
 | .map i | .yld i=>p i
 | .fn _ x y=>AV.als p x∧AV.als p y
 | .ifc _ x=>x.al p
 | _=>True
def AV.als(p:Nat→Prop):List AV→Prop
 | []=>True
 | x::xs=>x.al p∧AV.als p xs
end
def Blk.al(p:Nat→Prop):Blk→Prop
 | .row c=>∀x∈c,x.al p
 | .map es=>∀e∈es,e.1.al p∧e.2.al p
 | .loop _ fr _ _ _ _ _=>∀t,(Fr.get fr t).al p
theorem Pl.bdd_al{p:Nat→Prop}{N:Nat}(hp:∀i,i<N→p i){q:Pl}(h:q.bdd N):q.al p:=by
 cases q with
 | old a=>trivial
 | own i o=>exact hp i h
mutual
theorem AV.bdd_al{p:Nat→Prop}{N:Nat}(hp:∀i,i<N→p i):∀v:AV,v.bdd N→v.al p
 | .agg l,h=>by simp only[AV.bdd,AV.al]at *; exact AV.bdds_als hp l h
 | .tup l,h=>by simp only[AV.bdd,AV.al]at *; exact AV.bdds_als hp l h
 | .ptr q,h=>by simp only[AV.bdd,AV.al]at *; exact Pl.bdd_al hp h
 | .sl q _ _ _,h=>by simp only[AV.bdd,AV.al]at *; exact Pl.bdd_al hp h
 | .map i,h=>by simp only[AV.bdd,AV.al]at *; exact hp i h
 | .yld i,h=>by simp only[AV.bdd,AV.al]at *; exact hp i h
 | .fn _ x y,h=>by simp only[AV.bdd,AV.al]at *; exact⟨AV.bdds_als hp x h.1,AV.bdds_als hp y h.2⟩
 | .ifc _ x,h=>by simp only[AV.bdd,AV.al]at *; exact AV.bdd_al hp x h
 | .undef,_ | .int _ _,_ | .bool _,_ | .str _,_ | .nilP,_ | .nilS,_ | .nilM,_ | .nilF,_ | .nilI,_=>by simp only[AV.al]
theorem AV.bdds_als{p:Nat→Prop}{N:Nat}(hp:∀i,i<N→p i):∀l:List AV,AV.bdds N l→AV.als p l
 | [],_=>by simp only[AV.als]
 | x::xs,h=>by simp only[AV.bdds,AV.als]at *; exact⟨AV.bdd_al hp x h.1,AV.bdds_als hp xs h.2⟩
end
theorem Blk.bdd_al{p:Nat→Prop}{N:Nat}(hp:∀i,i<N→p i){b:Blk}(h:b.bdd N):b.al p:=by
 cases b with
 | row c=>exact fun x hx=>AV.bdd_al hp x (h x hx)
 | map es=>exact fun e he=>⟨AV.bdd_al hp _ (h e he).1,AV.bdd_al hp _ (h e he).2⟩
 | loop nt fr ps a c st q=>exact fun t=>AV.bdd_al hp _ (h t)
def aGq(m m':Emb)(p:Nat→Prop):Prop:=∀i,p i→m'.blk i=m.blk i∧m'.base i=m.base i∧m'.sz i=m.sz i
theorem aGq.pl{m m':Emb}{p:Nat→Prop}(h:aGq m m' p){q:Pl}(hp:q.al p):m'.pl q=m.pl q:=by
 cases q with
 | old a=>rfl
 | own i o=>simp only[Pl.al]at hp; simp[Emb.pl,(h i hp).1,(h i hp).2.1]
mutual
theorem aDo{m m':Emb}{p:Nat→Prop}(h:aGq m m' p):∀(x:AV) (v:Value),x.al p→VR m x v→VR m' x v
 | .undef,_,_,_=>by simp only[VR]
 | .int _ _,_,_,hv | .bool _,_,_,hv | .str _,_,_,hv | .nilP,_,_,hv | .nilS,_,_,hv | .nilM,_,_,hv | .nilF,_,_,hv | .nilI,_,_,hv=>by
  simpa only[VR]using hv
 | .agg l,v,hb,hv=>by
  simp only[VR,AV.al]at *
  obtain⟨a,e,hl⟩:=hv
  exact⟨a,e,VRs_agree h l _ hb hl⟩
 | .tup l,v,hb,hv=>by
  simp only[VR,AV.al]at *
  obtain⟨a,e,hl⟩:=hv
  exact⟨a,e,VRs_agree h l _ hb hl⟩
 | .ptr p,v,hb,hv=>by simp only[VR,AV.al]at *; rw[h.pl hb]; exact hv
 | .sl p len es full,v,hb,hv=>by
  simp only[VR,AV.al]at *
  obtain⟨a,cap,e,h1,h2,h3⟩:=hv
  refine⟨a,cap,e,h1,h2,h3.imp id fun⟨e1,e2⟩=>⟨by rw[h.pl hb]; exact e1,fun i off hp=> ?_⟩⟩
  subst hp
  simp only[Pl.al]at hb
  rw[(h i hb).2.2]; exact e2 i off rfl
 | .map i,v,hb,hv=>by simp only[VR,AV.al]at *; rw[(h i hb).1]; exact hv
 | .yld i,v,hb,hv=>by simp only[VR,AV.al]at *; rw[(h i hb).1]; exact hv
 | .fn f x y,v,hb,hv=>by
  simp only[VR,AV.al]at *
  obtain⟨a,b,e,h1,h2⟩:=hv
  exact⟨a,b,e,VRs_agree h x _ hb.1 h1,VRs_agree h y _ hb.2 h2⟩
 | .ifc t x,v,hb,hv=>by
  simp only[VR,AV.al]at *
  obtain⟨y,e,h1⟩:=hv
  exact⟨y,e,aDo h x _ hb h1⟩
theorem VRs_agree{m m':Emb}{p:Nat→Prop}(h:aGq m m' p):∀(x:List AV) (v:List Value),AV.als p x→VRs m x v→VRs m' x v
 | [],_,_,hv=>by simpa only[VRs]using hv
 | x::xs,v,hb,hv=>by
  simp only[VRs,AV.als]at *
  obtain⟨y,ys,e,h1,h2⟩:=hv
  exact⟨y,ys,e,aDo h x _ hb.1 h1,VRs_agree h xs _ hb.2 h2⟩
end
def opV(P:Program)(w0:World)(x:MIx)(fr:Fr)(h:Heap)(K:AV→Heap→Prop):Prop:=
 match x with
 | .op _ g o=>match want fr g with
  | some true=>∃v h',aop w0 o fr h=some (v,h')∧K v h'
  | some false=>K (.tup []) h
  | none=>False
 | .call _ g f args=>match want fr g with
  | some true=>bE P w0 (f.ev fr) (args.map (·.ev fr)) h K
  | some false=>K (.tup []) h
  | none=>False
section
variable {P:Program} {w0:World} {r l:Option Nat} {nt Z:Nat} {B:Bs} {m m':Emb} {fr:Fr} {h h':Heap} {a:Act} {w w':World}
theorem opV.mono{x:MIx}{K K':AV→Heap→Prop}(e:opV P w0 x fr h K)(hk:∀v h',K v h'→K' v h'):opV P w0 x fr h K':=by
 cases x with
 | op d g o=>
  simp only[opV]at e ⊢
  split at e
  ·obtain⟨v,h',e,k⟩:=e; exact⟨v,h',e,hk _ _ k⟩
  ·exact hk _ _ e
  ·exact e
 | call d g f args=>
  simp only[opV]at e ⊢
  split at e
  ·exact bE.mono e hk
  ·exact hk _ _ e
  ·exact e
theorem aAS{ops:Array Oper}{o:Oper}{x:MIx}(hx:fI P nt ops o=some x):x.dst=o.dst∧uU nt o.dst=true:=by
 unfold fI at hx
 split at hx
 ·rename_i hd
  simp only[qC]at hx
  obtain⟨g,hg,hx⟩:=hx
  split at hx
  ·simp only[qC,qD]at hx
   obtain⟨_,_,_,_,rfl⟩:=hx
   exact⟨rfl,hd⟩
  ·simp only[qD]at hx
   obtain⟨_,_,rfl⟩:=hx
   exact⟨rfl,hd⟩
 ·cases hx
end
end Go.Proofs.Ab
namespace Go.Proofs.Ab
open Go
structure Lay where
 N:Nat→Nat
 T:Nat→AV
 U:Nat→Nat→Option (Option Blk)
def hS(D:Lay)(h:Heap):Nat→(Nat→Bool)→Nat→Option Blk
 | 0,_,c=>(h[c]?).join
 | n+1,S,c=>if S n then match D.U n c with
  | some b=>b
  | none=>hS D h n S c
  else hS D h n S c
def cL(l:List MIx)(j:Nat):Option Nat:=(l[j]?).bind MIx.dst
def gS(D:Lay)(l:List MIx)(fr:Fr):Nat→(Nat→Bool)→Nat→AV
 | 0,_,t=>fr.get t
 | n+1,S,t=>if S n=true∧cL l n=some t then D.T n else gS D l fr n S t
def masked(D:Lay)(bef:List (List Nat))(n i c:Nat):Bool:=(List.range n).any fun j=>aCP bef i j&&(D.U j c).isSome
def jK(S:Nat→Bool)(i:Nat):Nat→Bool:=fun j=>Nat.beq j i||S j
theorem cW{a b:Nat}:Nat.beq a b=true↔a=b:=⟨Nat.eq_of_beq_eq_true,fun e=>by subst e; exact Nat.beq_refl a⟩
section
variable {D:Lay} {h:Heap} {l:List MIx} {fr:Fr} {bef:List (List Nat)}
theorem fB{fr:Fr}{t:Nat}{v:AV}:(Fr.put fr (some t) v).get t=v:=by simp[Fr.put,Fr.get]
end
section
variable {P:Program} {w0:World} {r lr:Option Nat} {nt Z:Nat} {B:Bs} {m m0:Emb} {fr:Fr} {h:Heap} {a a0:Act} {w w':World} {D:Lay} {l:List MIx} {bef:List (List Nat)} {n i:Nat} {S:Nat→Bool}
end
section
variable {P:Program} {w0:World} {r lr:Option Nat} {nt Z:Nat} {B:Bs} {m m0:Emb} {fr:Fr} {h:Heap} {a a0:Act} {w w':World} {D:Lay} {l:List MIx} {bef:List (List Nat)} {n:Nat}
structure BOK(ops:Array Oper)(l:List MIx)(bef:List (List Nat))(n:Nat):Prop where
 size:ops.size=n
 len:l.length=n
 edge:∀(i:Nat) o,ops[i]? = some o→∀e∈o.after,Region.binds .any e=true→e.on<i
 bef_:∀(i:Nat) o,ops[i]? = some o→∀j,bfr bef i j=true→∃e∈o.after,Region.binds .any e=true∧(e.on=j∨bfr bef e.on j=true)
 none_:∀i j,n≤i→bfr bef i j=false
theorem BOK.less{ops:Array Oper}(k:BOK ops l bef n):∀i j,bfr bef i j=true→j<i:=by
 intro i
 induction i using Nat.strongRecOn with
 | ind i ih=>
  intro j hj
  rcases Nat.lt_or_ge i n with hlt | hge
  ·obtain⟨o,ho⟩:∃o,ops[i]? = some o:=⟨_,Array.getElem?_eq_getElem (by rw[k.size]; exact hlt)⟩
   obtain⟨e,he,hb,h1⟩:=k.bef_ i o ho j hj
   have h2:=k.edge i o ho e he hb
   rcases h1 with rfl | h1
   ·exact h2
   ·have:=ih e.on h2 j h1; omega
  ·rw[k.none_ i j hge]at hj; cases hj
theorem vI{α β:Type}{f:α→Option β}:∀ {xs:List α} {ys:List β},xs.mapM f=some ys→xs.length=ys.length∧∀(i:Nat) x,xs[i]? = some x→∃y,ys[i]? = some y∧f x=some y
 | [],ys,e=>by simp at e; subst e; simp
 | x::xs,ys,e=>by
  simp only[List.mapM_cons,Option.bind_eq_bind,qC,Option.pure_def,Option.some.injEq]at e
  obtain⟨y,hy,zs,hzs,rfl⟩:=e
  obtain⟨h1,h2⟩:=vI hzs
  refine⟨by simp[h1],fun i z hz=> ?_⟩
  cases i with
  | zero=>simp at hz; subst hz; exact⟨y,by simp,hy⟩
  | succ i=>simp at hz; simpa using h2 i z hz
theorem aEH{ops:Array Oper}{nt:Nat}(hb:aGc ops.toList bef=true)(hl:ops.toList.mapM (fI P nt ops)=some l) :
 BOK ops l bef l.length∧(∀i j t,i<l.length→j<l.length→j≠i→cL l i=some t→cL l j≠some t)∧∀(i:Nat) o,ops[i]? = some o→∃x,l[i]? = some x∧fI P nt ops o=some x:=by
 obtain⟨hlen,hget⟩:=vI hl
 have hget':∀(i:Nat) o,ops[i]? = some o→∃x,l[i]? = some x∧fI P nt ops o=some x:=fun i o ho=>hget i o (by simpa using ho)
 simp only[aGc,Bool.and_eq_true,List.all_eq_true,List.mem_range]at hb
 obtain⟨hbl,hb⟩:=hb
 have hbl:=cW.1 hbl
 have hlt:∀(i:Nat) o,ops[i]? = some o→i<ops.toList.length:=fun i o ho=>by
  rcases Nat.lt_or_ge i ops.size with h1 | h1
  ·simpa using h1
  ·rw[Array.getElem?_eq_none h1]at ho; cases ho
 refine⟨⟨by simpa using hlen,rfl,fun i o ho e he hbd=> ?_,fun i o ho j hj=> ?_,fun i j hi=> ?_⟩,fun i j t hi hj hji hd hd2=> ?_,hget'⟩
 ·have:=hb i (hlt i o ho)
  rw[show ops.toList[i]? = some o by simpa using ho]at this
  simp only[Bool.and_eq_true,List.all_eq_true,Bool.or_eq_true,Bool.not_eq_true']at this
  have h1:=this.1.1 e (by simpa using he)
  rw[hbd]at h1
  simpa[Nat.blt_eq]using h1
 ·have:=hb i (hlt i o ho)
  rw[show ops.toList[i]? = some o by simpa using ho]at this
  simp only[Bool.and_eq_true,List.all_eq_true]at this
  have h1:=this.1.2 j (by simpa[bfr]using hj)
  simp only[List.any_eq_true,Bool.and_eq_true,Bool.or_eq_true]at h1
  obtain⟨e,he,h2,h3⟩:=h1
  exact⟨e,by simpa using he,h2,h3.imp cW.1 id⟩
 ·have:bef.getD i []=[]:=by
   rw[List.getD_eq_getElem?_getD,List.getElem?_eq_none (by rw[hbl,hlen]; exact hi)]; rfl
  simp only[bfr,this]; rfl
 ·obtain⟨o,ho⟩:∃o,ops[i]? = some o:=⟨_,Array.getElem?_eq_getElem (by simp at hlen; omega)⟩
  obtain⟨o2,ho2⟩:∃o,ops[j]? = some o:=⟨_,Array.getElem?_eq_getElem (by simp at hlen; omega)⟩
  obtain⟨x,hx1,hx2⟩:=hget' i o ho
  obtain⟨y,hy1,hy2⟩:=hget' j o2 ho2
  simp only[cL,hx1,hy1,Option.bind_some]at hd hd2
  rw[(aAS hx2).1]at hd
  rw[(aAS hy2).1]at hd2
  have:=hb i (hlt i o ho)
  rw[show ops.toList[i]? = some o by simpa using ho]at this
  simp only[Bool.and_eq_true,hd]at this
  have h1:=this.2
  simp only[List.all_eq_true,List.mem_range,Bool.or_eq_true]at h1
  have h2:=h1 j (hlt j o2 ho2)
  rw[show ops.toList[j]? = some o2 by simpa using ho2]at h2
  rcases h2 with h2 | h2
  ·exact hji (cW.1 h2)
  ·simp[hd2,Nat.beq_refl]at h2
end
theorem aS{fr fr':Fr}:∀ {x:Opd},(∀t∈x.rds,fr.get t=fr'.get t)→x.ev fr=x.ev fr'
 | .t n,h=>h n (by simp[Opd.rds])
 | .k _,_=>rfl
theorem rC{fr fr':Fr}{l:List Opd}(h:∀t∈aGS l,fr.get t=fr'.get t):l.map (·.ev fr)=l.map (·.ev fr'):=by
 refine List.map_congr_left fun x hx=>aS fun t ht=>h t ?_
 exact List.mem_flatMap.2 ⟨x,hx,ht⟩
theorem zL{fr fr':Fr}{l:List (Nat×Nat×Opd)}(h:∀t∈l.flatMap (fun p=>p.2.2.rds),fr.get t=fr'.get t) :
 (l.map fun(o,n,x)=>(o,n,x.ev fr))=l.map fun(o,n,x)=>(o,n,x.ev fr'):=by
 refine List.map_congr_left fun x hx=> ?_
 have:x.2.2.ev fr=x.2.2.ev fr':=aS fun t ht=>h t (List.mem_flatMap.2 ⟨x,hx,ht⟩)
 simp[this]
theorem uW{fr fr':Fr}{n:Nat}{a b c:Option Opd}(ha:∀t∈yP a,fr.get t=fr'.get t)(hb:∀t∈yP b,fr.get t=fr'.get t)(hc:∀t∈yP c,fr.get t=fr'.get t) :
 dF fr n a b c=dF fr' n a b c:=by
 have key:∀ {o:Option Opd},(∀t∈yP o,fr.get t=fr'.get t)→∀x,o=some x→x.ev fr=x.ev fr':=fun h x e=>by
  subst e; exact aS h
 unfold dF
 cases a with
 | none=>cases b with
  | none=>cases c with
   | none=>rfl
   | some z=>rfl
  | some y=>cases c with
   | none=>simp only[key hb y rfl]
   | some z=>simp only[key hb y rfl,key hc z rfl]
 | some x=>cases b with
  | none=>cases c with
   | none=>simp only[key ha x rfl]
   | some z=>simp only[key ha x rfl,Option.isNone_none,if_true]
  | some y=>cases c with
   | none=>simp only[key ha x rfl,key hb y rfl]
   | some z=>simp only[key ha x rfl,key hb y rfl,key hc z rfl]
theorem rE{w0:World}{fr fr':Fr}{h:Heap}{op:MOp}(e:∀t∈op.rds,fr.get t=fr'.get t):aop w0 op fr h=aop w0 op fr' h:=by
 cases op<;>simp only[MOp.rds,List.mem_append,or_imp,forall_and]at e
 case mov x=>simp only[aop,aS e]
 case pick c a b=>simp only[aop,aS e.1,aS e.2.1,aS e.2.2]
 case box x n=>simp only[aop,aS e]
 case alloc z=>rfl
 case build z ps=>simp only[aop,zL e]
 case bslice es z len ps=>simp only[aop,zL e]
 case load x n=>simp only[aop,aS e]
 case store x v n=>simp only[aop,aS e.1,aS e.2]
 case nilck x=>simp only[aop,aS e]
 case bin op x y=>simp only[aop,aS e.1,aS e.2]
 case eqb neq x y=>simp only[aop,aS e.1,aS e.2]
 case eqag s neq x y=>simp only[aop,aS e.1,aS e.2]
 case eqnil sl neq x=>simp only[aop,aS e]
 case un op x=>simp only[aop,aS e]
 case conv k x=>simp only[aop,aS e]
 case mkif t x=>simp only[aop,aS e]
 case mkfn f a b=>simp only[aop,rC e.1,rC e.2]
 case mkmap=>rfl
 case mksl es z bytes len cap=>simp only[aop,aS e.1,aS e.2]
 case slc es x lo hi mx=>simp only[aop,aS e.1,uW e.2.1 e.2.2.1 e.2.2.2]
 case slca n es x lo hi mx=>simp only[aop,aS e.1,uW e.2.1 e.2.2.1 e.2.2.2]
 case addr x off=>simp only[aop,aS e]
 case fld x off n=>simp only[aop,aS e]
 case idxs es x i=>simp only[aop,aS e.1,aS e.2]
 case idxa n es x i=>simp only[aop,aS e.1,aS e.2]
 case idx n es agg x i=>simp only[aop,aS e.1,aS e.2]
 case look s z ok x k=>simp only[aop,aS e.1,aS e.2]
 case mput s m k v=>simp only[aop,aS e.1,aS e.2.1,aS e.2.2]
 case ext x i=>simp only[aop,aS e]
 case len x=>simp only[aop,aS e]
 case lenm x=>simp only[aop,aS e]
 case lena n=>rfl
 case app es z bytes x y=>simp only[aop,aS e.1,aS e.2]
 case minmax isMin l=>simp only[aop,rC e]
 case eqni neq x=>simp only[aop,aS e]
 case tass t z ok x=>simp only[aop,aS e]
 case copy es x y=>simp only[aop,aS e.1,aS e.2]
 case panic x=>rfl
 case defer f as=>rfl
 case recov=>rfl
theorem lP{fr fr':Fr}{g:Option (Nat×Bool)}(e:∀t∈grds g,fr.get t=fr'.get t):want fr g=want fr' g:=by
 cases g with
 | none=>rfl
 | some p=>simp only[want,e p.1 (by simp[grds])]
theorem iR{P:Program}{w0:World}{x:MIx}{fr fr':Fr}{h:Heap}{K:AV→Heap→Prop}(e:∀t∈x.rds,fr.get t=fr'.get t)(k:opV P w0 x fr h K):opV P w0 x fr' h K:=by
 cases x with
 | op d g o=>
  simp only[MIx.rds,List.mem_append,or_imp,forall_and]at e
  simp only[opV]at k ⊢
  rw[←lP e.1]
  split at k
  ·rw[←rE e.2]; exact k
  ·exact k
  ·exact k
 | call d g f as=>
  simp only[MIx.rds,List.mem_append,or_imp,forall_and]at e
  simp only[opV]at k ⊢
  rw[←lP e.1]
  split at k
  ·rw[←aS e.2.1,←rC e.2.2]; exact k
  ·exact k
  ·exact k
section
variable {P:Program} {w0:World} {r:Option Nat} {nt Z:Nat} {fr:Fr} {h:Heap} {D:Lay} {l:List MIx} {bef:List (List Nat)}
end
end Go.Proofs.Ab
namespace Go.Proofs.Ab
open Go
mutual
def AV.clo:AV→Bool
 | .int _ _ | .bool _ | .nilP | .nilS | .nilM | .nilF | .nilI=>true
 | .agg l=>AV.clos l
 | .ifc _ x=>x.clo
 | _=>false
def AV.clos:List AV→Bool
 | []=>true
 | x::xs=>x.clo&&AV.clos xs
end
mutual
def AV.val:AV→Value
 | .int k n=> .int k n
 | .bool b=> .bool b
 | .nilP=> .pointer none
 | .nilS=> .slice none 0 0
 | .nilM=> .map none
 | .nilF=> .nilFunc
 | .nilI=> .nilIface
 | .agg l=> .agg (AV.vals l).toArray
 | .ifc t x=> .iface t x.val
 | _=>Go.undef
def AV.vals:List AV→List Value
 | []=>[]
 | x::xs=>x.val::AV.vals xs
end
mutual
theorem AV.clo_spec:∀(x:AV),x.clo=true→∀(m:Emb) (N:Nat),(∀v,VR m x v↔v=x.val)∧x.bdd N
 | .int _ _,_,m,N | .bool _,_,m,N | .nilP,_,m,N | .nilS,_,m,N | .nilM,_,m,N | .nilF,_,m,N | .nilI,_,m,N=>⟨fun v=>by simp only[VR,AV.val],trivial⟩
 | .agg l,h,m,N=>by
  simp only[AV.clo]at h
  obtain⟨h1,h2⟩:=AV.clos_spec l h m N
  refine⟨fun v=> ?_,h2⟩
  simp only[VR,AV.val,h1]
  constructor
  ·rintro⟨a,rfl,e⟩; rw[←e]
  ·rintro rfl; exact⟨_,rfl,by simp⟩
 | .ifc t x,h,m,N=>by
  simp only[AV.clo]at h
  obtain⟨h1,h2⟩:=AV.clo_spec x h m N
  refine⟨fun v=> ?_,h2⟩
  simp only[VR,AV.val,h1]
  constructor
  ·rintro⟨a,rfl,rfl⟩; rfl
  ·rintro rfl; exact⟨_,rfl,rfl⟩
 | .undef,h,_,_ | .str _,h,_,_ | .tup _,h,_,_ | .ptr _,h,_,_ | .sl _ _ _ _,h,_,_ | .map _,h,_,_ | .fn _ _ _,h,_,_ | .yld _,h,_,_=>by simp only[AV.clo]at h; cases h
theorem AV.clos_spec:∀(x:List AV),AV.clos x=true→∀(m:Emb) (N:Nat),(∀v,VRs m x v↔v=AV.vals x)∧AV.bdds N x
 | [],_,m,N=>⟨fun v=>by simp only[VRs,AV.vals],trivial⟩
 | x::xs,h,m,N=>by
  simp only[AV.clos,Bool.and_eq_true]at h
  obtain⟨h1,h2⟩:=AV.clo_spec x h.1 m N
  obtain⟨h3,h4⟩:=AV.clos_spec xs h.2 m N
  refine⟨fun v=> ?_,h2,h4⟩
  simp only[VRs,AV.vals,h1,h3]
  constructor
  ·rintro⟨y,ys,rfl,rfl,rfl⟩; rfl
  ·rintro rfl; exact⟨_,_,rfl,rfl,rfl⟩
end
def pan(x:AV):List PanicEntry:=[{ v:=x.val,recovered:=false }]
def uL:AV→Bool
 | .ifc _ x=>x.clo
 | _=>false
theorem aG7{x:AV}(h:uL x=true):x.clo=true:=by
 cases x<;>simp[uL]at h
 simpa[AV.clo]using h
def nK(w0:World)(m:Emb)(h:Heap)(w:World)(Q:AV→Heap→Prop)(X:List PanicEntry→Heap→Prop):Ending→World→Prop:=
 fun e w'=>aDt w0 m h w Q e w'∨∃ch,e= .panicked ch∧∃m' h',bU w0 m m' h h' w w'∧X ch h'
def iN(P:Program)(w0:World)(f:FuncId)(args:List AV)(h:Heap)(Q:AV→Heap→Prop)(X:List PanicEntry→Heap→Prop):Prop:=
 dH P f=true∧∀m w (vs:Array Value),Sim w0 m h w→VRs m args vs.toList→AV.bdds h.length args→CallsIn Fence.wide 0 P f vs w (nK w0 m h w Q X)
def eI(P:Program)(w0:World)(fv:AV)(args:List AV)(h:Heap)(Q:AV→Heap→Prop)(X:List PanicEntry→Heap→Prop):Prop:=
 match fv with
 | .fn (.func f) first capt=>iN P w0 f (first++args++capt) h Q X
 | _=>False
section
variable {P:Program} {w0:World} {f:FuncId} {args:List AV} {h:Heap} {Q Q':AV→Heap→Prop} {X X':List PanicEntry→Heap→Prop}
theorem iN.mono(a:iN P w0 f args h Q X)(hq:∀v h',Q v h'→Q' v h')(hx:∀c h',X c h'→X' c h'):iN P w0 f args h Q' X':=
 ⟨a.1,fun m w vs s v b=>(a.2 m w vs s v b).mono fun _ _ p=>by
  rcases p with⟨v',e1,m',v,h',h1,h2,h3,h4⟩ | ⟨ch,e1,m',h',h1,h2⟩
  ·exact .inl ⟨v',e1,m',v,h',h1,h2,h3,hq _ _ h4⟩
  ·exact .inr ⟨ch,e1,m',h',h1,hx _ _ h2⟩⟩
theorem eI.mono{fv:AV}(a:eI P w0 fv args h Q X)(hq:∀v h',Q v h'→Q' v h')(hx:∀c h',X c h'→X' c h'):eI P w0 fv args h Q' X':=by
 unfold eI at *
 split
 ·exact iN.mono a hq hx
 ·rename_i h1
  split at a
  ·exact absurd rfl (h1 _ _ _)
  ·exact a
theorem ACall.toE(a:ACall P w0 f args h Q):iN P w0 f args h Q X:=⟨a.1,fun m w vs s v b=>(a.2 m w vs s v b).mono fun _ _ p=> .inl p⟩
end
theorem SA.step{w0:World}{r l:Option Nat}{nt Z:Nat}{B:Bs}{m m':Emb}{fr:Fr}{h h':Heap}{a:Act}{w w':World}(sa:SA w0 r l nt Z B m fr h a w)(s:bU w0 m m' h h' w w'):SA w0 r l nt Z B m' fr h' a w':=
 SA.put (d:=none) (v:= .undef) (v':=undef) sa rfl s (by simp[VR]) trivial
section
variable {P:Program} {w0:World} {r l:Option Nat} {nt Z:Nat} {B:Bs} {m m':Emb} {fr:Fr} {h h':Heap} {a:Act} {w w':World}
theorem aCx{ops:Array Oper}{o:Oper}{d:Option Nat}{f:Opd}{as:List Opd}(hx:fI P nt ops o=some (.call d none f as))(sa:SA w0 r l nt Z B m fr h a w)
 {K:AV→Heap→Prop} {X:List PanicEntry→Heap→Prop} (hv:eI P w0 (f.ev fr) (as.map (·.ev fr)) h K X) {Q:Exit→Act→World→Prop} {next:Act→World→Prop}
 (hn:∀m' v h' a' w',bU w0 m m' h h' w w'→SA w0 r l nt Z B m' (fr.put d v) h' a' w'→K v h'→next a' w')
 (hp:∀m' ch h' w',bU w0 m m' h h' w w'→X ch h'→Q (.panic ch) a w') :
 if Region.wanted o (yielded ops a.tmps)then o.wpIn (Wd l) 0 P a w next Q else(∀f,o.about P w a.eval=some f→(Wd l).fn f)∧next (a.put o.dst undef) w:=by
 unfold fI at hx
 split at hx
 ·rename_i hd
  simp only[qC]at hx
  obtain⟨g,hg,hx⟩:=hx
  split at hx
  ·rename_i f0 args hcall
   simp only[nU,qC,qD]at hx
   obtain⟨f',hf',as',has,hx⟩:=hx
   simp only[MIx.call.injEq]at hx
   obtain⟨rfl,rfl,rfl,rfl⟩:=hx
   rw[iP hg sa.frame (b:=true) rfl]
   refine⟨fun _ _=>trivial,?_⟩
   obtain⟨f1,f2⟩:=aR sa.frame hf'
   obtain⟨a1,a2⟩:=jP sa.frame has
   obtain⟨c,hop,hres⟩:=wQ hcall
   have hres:=hres a.eval (fun _=>rfl)
   have hsem:o.semAt (Wd l).round a.eval=execOp a.eval o:=by
    cases l with
    | none=>rfl
    | some l=>simp[Oper.semAt,Wd,hop]
   rw[hsem]
   generalize hfv:f'.ev fr=fv at hv f1 f2
   unfold eI at hv
   split at hv
   ·rename_i fid first capt
    simp only[VR]at f1
    obtain⟨p,q,e1,p1,q1⟩:=f1
    have hb:=hv.1
    have hrun:(execOp a.eval o).run P w= .ok (.enter fid (p++args.map a.eval++q)) w:=by
     simp only[execOp,hop,hres,e1,Deferred.ofValue,Sem.run_bind,Sem.run_pure,Result.andThen_ok,invoke]
     exact jF hb
    rw[hrun]
    have hargs:VRs m (first++as'.map (·.ev fr)++capt) (p++args.map a.eval++q).toList:=rZ p1 (by simpa using a1) q1
    refine⟨fun hh=>by simp[Wd,Fence.wide]at hh,?_⟩
    have hc:=hv.2 m w _ sa.sim hargs (dK (dK f2.1 a2) f2.2)
    have hc':CallsIn Fence.wide 0 P fid (p++args.map a.eval++q) w fun e w''=>match e,w'' with | .returned v,w''=>next (a.put o.dst v) w'' | .panicked chain,w''=>Q (.panic chain) a w'' | .outgrown,_=>LetsOut Q:=by
     refine hc.mono fun e w'' he=> ?_
     rcases he with⟨v',e1,m',v,h',s1,s2,s3,s4⟩ | ⟨ch,e1,m',h',s1,s4⟩
     ·subst e1; exact hn m' v h' _ w'' s1 (sa.put hd s1 s2 s3) s4
     ·subst e1; exact hp m' ch h' w'' s1 s4
    exact hc'.mono fun _ _ he=>he
   ·exact hv.elim
  ·simp only[qD]at hx
   obtain⟨_,_,hx⟩:=hx
   cases hx
 ·cases hx
theorem aIT{ops:Array Oper}{o:Oper}{d:Option Nat}{x:Opd}(hx:fI P nt ops o=some (.op d none (.panic x)))(sa:SA w0 r l nt Z B m fr h a w)
 (hv:uL (x.ev fr)=true) {Q:Exit→Act→World→Prop} {next:Act→World→Prop} (hp:Q (.panic (pan (x.ev fr))) a w) :
 if Region.wanted o (yielded ops a.tmps)then o.wpIn (Wd l) 0 P a w next Q else(∀f,o.about P w a.eval=some f→(Wd l).fn f)∧next (a.put o.dst undef) w:=by
 unfold fI at hx
 split at hx
 ·rename_i hd
  simp only[qC]at hx
  obtain⟨g,hg,hx⟩:=hx
  split at hx
  ·simp only[qC,qD]at hx
   obtain⟨_,_,_,_,hx⟩:=hx
   cases hx
  ·simp only[qD]at hx
   obtain⟨mo,hmo,hx⟩:=hx
   simp only[MIx.op.injEq]at hx
   obtain⟨rfl,rfl,rfl⟩:=hx
   rw[iP hg sa.frame (b:=true) rfl]
   refine⟨fun _ _=>trivial,?_⟩
   obtain⟨y,hop,hy⟩:∃y,o.op= .panic y∧dI y=some x:=by
    generalize o.op=op at hmo
    unfold cop at hmo
    split at hmo
    all_goals first
     | (simp only[qD,MOp.panic.injEq]at hmo; obtain⟨y,h1,rfl⟩:=hmo; exact⟨_,rfl,h1⟩)
     | (exfalso; repeat' first | (cases hmo; done) | (simp only[qC,qD]at hmo) | (obtain⟨_,_,hmo⟩:=hmo) | split at hmo)
   have hsem:o.semAt (Wd l).round a.eval=execOp a.eval o:=by
    cases l with
    | none=>rfl
    | some l=>simp[Oper.semAt,Wd,hop]
   rw[hsem]
   obtain⟨f1,f2⟩:=aR sa.frame hy
   have hcl:=(AV.clo_spec _ (aG7 hv) m 0).1
   rw[hcl]at f1
   have hrun:(execOp a.eval o).run P w= .halt (.panic (x.ev fr).val) w:=by
    cases hq:x.ev fr<;>rw[hq]at hv<;>simp[uL]at hv
    rename_i t z
    rw[hq]at f1
    simp only[AV.val]at f1
    simp[execOp,hop,f1,AV.val,Instr.panic,goPanic]
   rw[hrun]
   exact hp
 ·cases hx
end
section
variable {P:Program} {w0:World} {r lr:Option Nat} {nt Z:Nat} {B:Bs} {m m0:Emb} {fr:Fr} {h:Heap} {a a0:Act} {w w':World} {D:Lay} {l:List MIx} {bef:List (List Nat)} {n:Nat}
def PanV(P:Program)(w0:World)(fv:AV)(args:List AV)(h:Heap)(x:AV):Prop:=eI P w0 fv args h (fun _ _=>False) (fun ch h'=>ch=pan x∧h'=h)
end
end Go.Proofs.Ab
namespace Go.Proofs.Ab
open Go
def qop:MOp→Bool
 | .box _ _ | .alloc _ | .bslice _ _ _ _ | .store _ _ _ | .mkmap | .mksl _ _ _ _ _ | .mput _ _ _ _ | .app _ _ _ _ _ | .copy _ _ _=>false
 | _=>true
def bI(P:Program)(w0:World)(fv:AV)(args:List AV)(h:Heap)(v:AV)(h1:Heap):Prop:=
 bE P w0 fv args h fun v' h'=>v'=v∧h'=h1
def kK(o:Option (AV×Heap))(K:AV→Heap→Prop):Prop:=
 match o with
 | some p=>K p.1 p.2
 | none=>False
def gv(v:AV)(t:Nat)(b:Bool)(fr:Fr)(A B:Fr→Prop):Prop:=
 match v with
 | .bool c=>(c=b→A ((t,.bool b)::fr))∧(c= !b→B ((t,.bool !b)::fr))
 | .tup []=>B fr
 | _=>False
def sR(g:Option (Nat×Bool))(fr:Fr)(A B:Fr→Prop):Prop:=
 match g with
 | none=>A fr
 | some p=>gv (fr.get p.1) p.1 p.2 fr A B
def aGa(P:Program)(w0:World)(fv:AV)(args:List AV)(h:Heap)(K:AV→Heap→Prop):Prop:=bE P w0 fv args h K
def vc(P:Program)(w0:World):List MIx→Fr→Heap→(Fr→Heap→Prop)→Prop
 | [],fr,h,K=>K fr h
 | .op d g o::r,fr,h,K=>sR g fr (fun fr=>kK (aop w0 o fr h) fun v h'=>vc P w0 r (fr.put d v) h' K) (fun fr=>vc P w0 r (fr.put d (.tup [])) h K)
 | .call d g f args::r,fr,h,K=>sR g fr (fun fr=>aGa P w0 (f.ev fr) (args.map (·.ev fr)) h fun v h'=>vc P w0 r (fr.put d v) h' K) (fun fr=>vc P w0 r (fr.put d (.tup [])) h K)
section
variable {P:Program} {w0:World} {r:Option Nat} {nt Z:Nat} {fr:Fr} {h:Heap} {Q:Exit→Fr→Heap→Prop}
def FE(fr fr':Fr):Prop:=∀t,fr'.get t=fr.get t
theorem FE.put1{t:Nat}{v:AV}(e:fr.get t=v):FE fr ((t,v)::fr):=fun q=>by
 simp only[Fr.get]
 cases hb:Nat.beq q t with
 | false=>rfl
 | true=>rw[cW.1 hb,e]; rfl
theorem mW{g:Option (Nat×Bool)}{A B:Fr→Prop}(k:sR g fr A B) :
 (want fr g=some true∧∃fr',FE fr fr'∧A fr')∨(want fr g=some false∧∃fr',FE fr fr'∧B fr'):=by
 cases g with
 | none=>exact .inl ⟨rfl,fr,fun _=>rfl,k⟩
 | some p=>
  obtain⟨t,b⟩:=p
  simp only[sR]at k
  simp only[want]
  generalize hv:fr.get t=v at k
  unfold gv at k
  split at k
  ·rename_i c
   by_cases hc:c=b
   ·subst hc
    exact .inl ⟨by simp,_,FE.put1 hv,k.1 rfl⟩
   ·have hc':c= !b:=by cases c<;>cases b<;>simp_all
    subst hc'
    exact .inr ⟨by simp,_,FE.put1 hv,k.2 rfl⟩
  ·exact .inr ⟨rfl,fr,fun _=>rfl,k⟩
  ·exact k.elim
theorem FE.want{fr':Fr}(e:FE fr fr')(g:Option (Nat×Bool)):Ab.want fr' g=Ab.want fr g:=lP fun t _=>e t
theorem FE.aop{fr':Fr}(e:FE fr fr')(o:MOp):Ab.aop w0 o fr' h=Ab.aop w0 o fr h:=rE fun t _=>e t
theorem FE.frame{fr':Fr}(e:FE fr fr'):∀t,fr'.get t= .undef∨fr'.get t=fr.get t:=fun t=> .inr (e t)
theorem tN{l:Option Nat}{B:Bs}{ops:Array Oper}{rest:List Oper}{R:Exit→Act→World→Prop}:∀(os:List Oper) (ml:List MIx) {K:Fr→Heap→Prop} {m:Emb} {fr:Fr} {h:Heap} {a:Act} {w:World},
 os.mapM (fI P nt ops)=some ml→SA w0 r l nt Z B m fr h a w→vc P w0 ml fr h K →
 (∀m' fr' h' a' w',dB Z w0 m m' h h' w w'→SA w0 r l nt Z B m' fr' h' a' w'→K fr' h'→a'.defers=a.defers→wpListIn (Wd l) 0 P ops R rest a' w')→wpListIn (Wd l) 0 P ops R (os++rest) a w:=by
 intro os
 induction os with
 | nil=>intro ml K m fr h a w hl sa e k; simp at hl; subst hl; exact k m fr h a w ((bU.refl sa.sim).toZ sa.hz) sa e rfl
 | cons o os ih=>
  intro ml K m fr h a w hl sa e k
  simp only[List.mapM_cons,Option.bind_eq_bind,qC,Option.pure_def,Option.some.injEq]at hl
  obtain⟨x,hx,xs,hxs,rfl⟩:=hl
  have hsplit:∃fr',FE fr fr'∧jL P w0 [x] fr' h (fun fr' h'=>vc P w0 xs fr' h' K):=by
   cases x with
   | op d g o=>
    simp only[vc]at e
    rcases mW e with⟨hw,fr',hfe,k⟩ | ⟨hw,fr',hfe,k⟩
    ·refine⟨fr',hfe,?_⟩
     simp only[jL,hfe.want,hw]
     unfold kK at k
     split at k
     ·rename_i p hp; exact⟨_,_,hp,k⟩
     ·exact k.elim
    ·exact⟨fr',hfe,by simp only[jL,hfe.want,hw]; exact k⟩
   | call d g f as=>
    simp only[vc]at e
    rcases mW e with⟨hw,fr',hfe,k⟩ | ⟨hw,fr',hfe,k⟩
    ·exact⟨fr',hfe,by simp only[jL,hfe.want,hw]; exact k⟩
    ·exact⟨fr',hfe,by simp only[jL,hfe.want,hw]; exact k⟩
  obtain⟨fr',hfe,hsplit⟩:=hsplit
  have sa:=sa.frame' hfe.frame
  simp only[List.cons_append,wpListIn]
  exact lE (P:=P) (ops:=ops) hx sa hsplit (Q:=R) (next:=wpListIn (Wd l) 0 P ops R (os++rest))
   fun m' fr' h' a' w' s sa' k' hd=>ih xs hxs sa' k' fun m2 fr2 h2 a2 w2 s2 sa2 k2 hd2=>k m2 fr2 h2 a2 w2 ((s.toZ sa.hz).trans s2) sa2 k2 (hd2.trans hd)
theorem aLE{ml:List MIx}(e:vc P w0 ml fr h (Q .normal)):EvM P w0 r nt Z (.reg ml) fr h Q:=fun c hc m a w B l sa=>by
 obtain⟨id,ops,rfl,hl⟩:=nV hc
 refine wpIn_region_list ?_
 have:=tN (P:=P) (rest:=[]) (R:=rK w0 r l nt Z B m h w Q) ops.toList ml hl sa e fun m' fr' h' a' w' s sa' k _=>⟨m',fr',h',s,sa',k⟩
 rwa [List.append_nil]at this
theorem lO{o:MOp}(q:qop o=true){v:AV}{h':Heap}(e:aop w0 o fr h=some (v,h')):h'=h:=by
 cases o<;>simp only[aop]at e<;>simp only[qop,Bool.false_eq_true]at q
 all_goals
  first
   | (simp only[Option.some.injEq,Prod.mk.injEq]at e; obtain⟨_,rfl⟩:=e; rfl)
   | (simp only[qC,Option.some.injEq,Prod.mk.injEq]at e; obtain⟨_,_,_,rfl⟩:=e; rfl)
   | (repeat' split at e
      all_goals first
       | (cases e; done)
       | (simp only[Option.some.injEq,Prod.mk.injEq]at e; obtain⟨_,rfl⟩:=e; rfl)
       | (simp only[qC,Option.some.injEq,Prod.mk.injEq]at e; obtain⟨_,_,_,rfl⟩:=e; rfl)
       | (simp only[qC,Option.some.injEq,Prod.mk.injEq,Option.pure_def]at e; obtain⟨⟨_,_,_⟩,_,_,rfl⟩:=e; rfl)
       )
theorem FE.put{fr fr':Fr}(e:FE fr fr')(d:Option Nat)(v:AV):FE (fr.put d v) (fr'.put d v):=fun t=>by
 cases d with
 | none=>exact e t
 | some d=>
  simp only[Fr.put,Fr.get]
  split
  ·rfl
  ·exact e t
theorem FE.symm{fr fr':Fr}(e:FE fr fr'):FE fr' fr:=fun t=>(e t).symm
theorem FE.trans{fr fr' fr'':Fr}(e:FE fr fr')(e':FE fr' fr''):FE fr fr'':=fun t=>(e' t).trans (e t)
theorem FE.refl(fr:Fr):FE fr fr:=fun _=>rfl
theorem wI{g:Option (Nat×Bool)}{A B A' B':Fr→Prop}(k:sR g fr A B)(ha:∀fr,A fr→A' fr)(hb:∀fr,B fr→B' fr):sR g fr A' B':=by
 cases g with
 | none=>exact ha _ k
 | some p=>
  simp only[sR]at k ⊢
  generalize fr.get p.1=v at k
  unfold gv at k ⊢
  split at k
  ·exact⟨fun e=>ha _ (k.1 e),fun e=>hb _ (k.2 e)⟩
  ·exact hb _ k
  ·exact k.elim
theorem aED{o:Option (AV×Heap)}{K K':AV→Heap→Prop}(k:kK o K)(hk:∀v h,K v h→K' v h):kK o K':=by
 unfold kK at *
 split at k
 ·exact hk _ _ k
 ·exact k.elim
theorem iW:∀ {l:List MIx} {fr:Fr} {h:Heap} {K K':Fr→Heap→Prop},vc P w0 l fr h K→(∀fr h,K fr h→K' fr h)→vc P w0 l fr h K'
 | [],_,_,_,_,k,hk=>hk _ _ k
 | .op d g o::l,fr,h,K,K',k,hk=>by
  simp only[vc]at k ⊢
  exact wI k (fun _ k=>aED k fun _ _ k=>iW k hk) (fun _ k=>iW k hk)
 | .call d g f as::l,fr,h,K,K',k,hk=>by
  simp only[vc]at k ⊢
  exact wI k (fun _ k=>bE.mono k fun _ _ k=>iW k hk) (fun _ k=>iW k hk)
theorem fT{l:Heap}{p:Pl}{v:AV}(e:rd w0 h p=some v):rd w0 (h++l) p=some v:=by
 cases p with
 | old a=>exact e
 | own i o=>
  simp only[rd]at e ⊢
  split at e
  ·rename_i c hc; rw[aA hc]; exact e
  ·cases e
theorem cK{l:Heap}{p:Pl}{n:Nat}{v:List AV}(e:rdn w0 h p n=some v):rdn w0 (h++l) p n=some v:=by
 cases p with
 | old a=>exact e
 | own i o=>
  simp only[rdn]at e ⊢
  split at e
  ·rename_i c hc; rw[aA hc]; exact e
  ·cases e
end
section
variable {P:Program} {w0:World} {r:Option Nat} {nt Z:Nat} {fr:Fr} {h:Heap} {Q:Exit→Fr→Heap→Prop}
def nD:MOp→Bool
 | .mov _ | .pick _ _ _ | .build _ _ | .nilck _ | .bin _ _ _ | .eqb _ _ _ | .eqag _ _ _ _ | .eqnil _ _ _ | .un _ _ | .conv _ _ | .mkif _ _ | .mkfn _ _ _ | .slc _ _ _ _ _ | .addr _ _ | .fld _ _ _ | .idxs _ _ _ | .idxa _ _ _ _ | .idx _ _ _ _ _ | .ext _ _ | .len _ | .lena _ | .minmax _ _ | .eqni _ _ | .tass _ _ _ _=>true
 | _=>false
theorem aKm{o:MOp}(q:nD o=true){v:AV}(e:aop w0 o fr h=some (v,h))(k:Heap):aop w0 o fr k=some (v,k):=by
 cases o<;>simp only[nD,Bool.false_eq_true]at q<;>simp only[aop]at e ⊢
 all_goals
  first
   | (simp only[Option.some.injEq,Prod.mk.injEq]at e ⊢; exact⟨e.1,trivial⟩)
   | (simp only[qC,Option.some.injEq,Prod.mk.injEq]at e ⊢; obtain⟨a,b,c,_⟩:=e; exact⟨a,b,c,rfl⟩)
   | (repeat' split at e
      all_goals first
       | (cases e; done)
       | (simp_all; done)
       | (simp only[qC,Option.some.injEq,Prod.mk.injEq]at e ⊢; obtain⟨a,b,c,_⟩:=e; simp_all; done))
def msk:List Nat→Heap→Heap
 | [],h=>h
 | i::is,h=>msk is (h.set i none)
theorem cD(is:List Nat)(h:Heap):(msk is h).length=h.length:=by
 induction is generalizing h with
 | nil=>rfl
 | cons i is ih=>simp only[msk,ih,List.length_set]
theorem xM(is:List Nat)(h:Heap)(c:Nat)(hc:c<h.length):(msk is h)[c]? = if c∈is then some none else h[c]? := by
 induction is generalizing h with
 | nil=>simp[msk]
 | cons i is ih=>
  simp only[msk]
  rw[ih (h.set i none) (by simpa using hc),List.getElem?_set]
  by_cases h1:c∈is
  ·simp[h1]
  ·by_cases h2:i=c
   ·subst h2; simp[h1,hc]
   ·have:c≠i:=fun e=>h2 e.symm
    simp[h1,h2,this]
theorem aDT{o:MOp}(h:nD o=true):qop o=true:=by cases o<;>first | rfl | (simp[nD]at h)
end
end Go.Proofs.Ab

/- Own layer, part G. -/
import Derived.Test.YtiakeffhecpddaaGreatF
import Derived.RecoverIn
import Derived.ProofKit
import Derived.OpenShut
import Derived.Carry
import Derived.ChangeCalls
set_option linter.unusedSimpArgs false
set_option linter.unusedVariables false
namespace Go.Proofs.Ab
open Go
def Pl.ren(τ:Nat→Nat):Pl→Pl
 | .old a=> .old a
 | .own i o=> .own (τ i) o
mutual
def AV.ren(τ:Nat→Nat):AV→AV
 | .agg l=> .agg (AV.rens τ l)
 | .tup l=> .tup (AV.rens τ l)
 | .ptr p=> .ptr (p.ren τ)
 | .sl p n es f=> .sl (p.ren τ) n es f
 | .map i=> .map (τ i)
 | .yld i=> .yld (τ i)
 | .fn f a b=> .fn f (AV.rens τ a) (AV.rens τ b)
 | .ifc t v=> .ifc t (v.ren τ)
 | .undef=> .undef
 | .int k n=> .int k n
 | .bool b=> .bool b
 | .str s=> .str s
 | .nilP=> .nilP
 | .nilS=> .nilS
 | .nilM=> .nilM
 | .nilF=> .nilF
 | .nilI=> .nilI
def AV.rens(τ:Nat→Nat):List AV→List AV
 | []=>[]
 | x::xs=>x.ren τ::AV.rens τ xs
end
theorem aFD{τ:Nat→Nat}{l:List AV}:AV.rens τ l=l.map (AV.ren τ):=by
 induction l with
 | nil=>simp[AV.rens]
 | cons x xs ih=>simp[AV.rens,ih]
def Fr.ren(τ:Nat→Nat)(fr:Fr):Fr:=fr.map fun p=>(p.1,p.2.ren τ)
def Blk.ren(τ:Nat→Nat):Blk→Blk
 | .row c=> .row (AV.rens τ c)
 | .map es=> .map (es.map fun e=>(e.1.ren τ,e.2.ren τ))
 | .loop nt fr ps a b st pd=> .loop nt (Fr.ren τ fr) ps a b st pd
theorem Fr.ren_get{τ:Nat→Nat}{fr:Fr}(t:Nat):(Fr.ren τ fr).get t=(fr.get t).ren τ:=by
 induction fr with
 | nil=>simp[Fr.ren,Fr.get,AV.ren]
 | cons p r ih=>
  simp only[Fr.ren,List.map_cons,Fr.get]
  split
  ·rfl
  ·exact ih
def Emb.comp(m:Emb)(τ:Nat→Nat):Emb:=⟨fun i=>m.blk (τ i),fun i=>m.base (τ i),fun i=>m.sz (τ i)⟩
theorem aIM{m:Emb}{τ:Nat→Nat}(p:Pl):(m.comp τ).pl p=m.pl (p.ren τ):=by cases p<;>rfl
mutual
theorem tH{m:Emb}{τ:Nat→Nat}:∀(v:AV) (x:Value),VR m (v.ren τ) x→VR (m.comp τ) v x
 | .undef,_,_=>by simp only[VR]
 | .int _ _,_,h | .bool _,_,h | .str _,_,h | .nilP,_,h | .nilS,_,h | .nilM,_,h | .nilF,_,h | .nilI,_,h=>by simpa only[AV.ren,VR]using h
 | .agg l,x,h=>by simp only[AV.ren,VR]at *; obtain⟨a,e,h⟩:=h; exact⟨a,e,VRs_ren l _ h⟩
 | .tup l,x,h=>by simp only[AV.ren,VR]at *; obtain⟨a,e,h⟩:=h; exact⟨a,e,VRs_ren l _ h⟩
 | .ptr p,x,h=>by simp only[AV.ren,VR]at *; rw[aIM]; exact h
 | .sl p n es f,x,h=>by
  simp only[AV.ren,VR]at *
  obtain⟨a,cap,e,h1,h2,h3⟩:=h
  refine⟨a,cap,e,h1,h2,h3.imp id fun⟨e1,e2⟩=>⟨by rw[aIM]; exact e1,fun i off hp=> ?_⟩⟩
  subst hp
  exact e2 (τ i) off rfl
 | .map i,x,h=>by simp only[AV.ren,VR]at *; exact h
 | .yld i,x,h=>by simp only[AV.ren,VR]at *; exact h
 | .fn f a b,x,h=>by
  simp only[AV.ren,VR]at *
  obtain⟨p,q,e,h1,h2⟩:=h
  exact⟨p,q,e,VRs_ren a _ h1,VRs_ren b _ h2⟩
 | .ifc t v,x,h=>by
  simp only[AV.ren,VR]at *
  obtain⟨y,e,h⟩:=h
  exact⟨y,e,tH v _ h⟩
theorem VRs_ren{m:Emb}{τ:Nat→Nat}:∀(l:List AV) (x:List Value),VRs m (AV.rens τ l) x→VRs (m.comp τ) l x
 | [],_,h=>by simpa only[AV.rens,VRs]using h
 | v::l,x,h=>by
  simp only[AV.rens,VRs]at *
  obtain⟨y,ys,e,h1,h2⟩:=h
  exact⟨y,ys,e,tH v _ h1,VRs_ren l _ h2⟩
end
theorem BR_ren{m:Emb}{τ:Nat→Nat}{d n:Nat}{b:Blk}{o:Option Obj}(h:BR m d n (b.ren τ) o):BR (m.comp τ) d n b o:=by
 cases b with
 | row c=>
  obtain⟨ca,e,rfl,h1,h2⟩:=h
  refine⟨ca,e,rfl,h1,fun k x hx=> ?_⟩
  obtain⟨y,hy,hv⟩:=h2 k (x.ren τ) (by rw[aFD]; simp[hx])
  exact⟨y,hy,tH _ _ hv⟩
 | map es=>
  obtain⟨ea,ck,rfl,h1,h2,h3,h4⟩:=h
  refine⟨ea,ck,rfl,by simpa using h1,fun k x hx=> ?_,h3,h4⟩
  obtain⟨e,he,hv1,hv2⟩:=h2 k (x.1.ren τ,x.2.ren τ) (by simp[hx])
  exact⟨e,he,tH _ _ hv1,tH _ _ hv2⟩
 | loop nt fr ps a c st p=>
  obtain⟨L,rfl,h1,h2,h3,h4,h5,h6,h7⟩:=h
  exact⟨L,rfl,h1,h2,h3,h4,h5,h6,fun t=>tH _ _ (by rw[←Fr.ren_get]; exact h7 t)⟩
def Eqv:Blk→Blk→Prop
 | .loop nt fr ps x y st pd,.loop nt' fr' ps' x' y' st' pd'=>nt=nt'∧ps=ps'∧x=x'∧y=y'∧st=st'∧pd=pd'∧∀t,fr.get t=fr'.get t
 | a,b=>a=b
theorem Eqv.refl(b:Blk):Eqv b b:=by cases b<;>simp[Eqv]
theorem BR_eqv{m:Emb}{d n:Nat}{b b':Blk}{o:Option Obj}(e:Eqv b b')(h:BR m d n b o):BR m d n b' o:=by
 cases b<;>cases b'<;>simp only[Eqv]at e
 case row.row=>cases e; exact h
 case map.map=>cases e; exact h
 case loop.loop=>
  obtain⟨rfl,rfl,rfl,rfl,rfl,rfl,e⟩:=e
  obtain⟨L,rfl,h1,h2,h3,h4,h5,h6,h7⟩:=h
  exact⟨L,rfl,h1,h2,h3,h4,h5,h6,fun t=>by rw[←e]; exact h7 t⟩
 all_goals cases e
section
variable {P:Program} {w0:World} {r:Option Nat} {nt Z:Nat} {fr:Fr} {h:Heap} {Q:Exit→Fr→Heap→Prop} {k:List It} {a:SC}
structure aKF(τ:Nat→Nat)(Z:Nat)(fr fr':Fr)(h h':Heap):Prop where
 hz:Z≤h'.length
 idn:∀i,i<Z→τ i=i
 inj:∀i j,i<h'.length→j<h'.length→τ i=τ j→i=j
 blk:∀(i:Nat) b,h'[i]? = some (some b)→∃b',h[τ i]? = some (some b')∧Eqv b' (b.ren τ)
 hb:HB h'
 fb:∀t,(fr'.get t).bdd h'.length
 fr:∀t,fr'.get t= .undef∨(fr'.get t).ren τ=fr.get t
theorem SA.ren{τ:Nat→Nat}{fr':Fr}{h':Heap}(k:aKF τ Z fr fr' h h'){l:Option Nat}{B:Bs}{m:Emb}{a:Act}{w:World}(sa:SA w0 r l nt Z B m fr h a w):SA w0 r l nt Z B (m.comp τ) fr' h' a w:=by
 have hlt:∀(i:Nat) b,h'[i]? = some (some b)→i<h'.length:=fun i b hi=>by
  rcases Nat.lt_or_ge i h'.length with h1 | h1
  ·exact h1
  ·rw[List.getElem?_eq_none h1]at hi; cases hi
 refine⟨⟨sa.sim.size,sa.sim.old,fun i b hi=> ?_,fun i j b c hij hi hj=> ?_⟩,fun t=>⟨?_,k.fb t⟩,sa.size,sa.low,?_,?_,sa.inr,k.hz⟩
 ·obtain⟨b',hb',he⟩:=k.blk i b hi
  obtain⟨h1,h2,_⟩:=sa.sim.at_ (τ i) _ hb'
  exact⟨h1,BR_ren (BR_eqv he h2),k.hb i b hi⟩
 ·obtain⟨b',hb',_⟩:=k.blk i b hi
  obtain⟨c',hc',_⟩:=k.blk j c hj
  exact sa.sim.inj (τ i) (τ j) _ _ (fun e=>hij (k.inj i j (hlt i b hi) (hlt j c hj) e)) hb' hc'
 ·rcases k.fr t with e | e
  ·rw[e]; simp[VR]
  ·exact tH _ _ (by rw[e]; exact(sa.frame t).1)
 ·obtain⟨rs,h1,h2,h3⟩:=sa.marks
  exact⟨rs,h1,h2,fun q hq=>⟨(h3 q hq).1,(h3 q hq).2.1,fun i b hi=>let⟨b',hb',_⟩:=k.blk i b hi; (h3 q hq).2.2 (τ i) _ hb'⟩⟩
 ·rw[sa.rnd]
  cases hr:r with
  | none=>rfl
  | some i=>simp[Emb.comp,k.idn i (sa.inr i hr)]
theorem rK.ren{τ:Nat→Nat}{fr':Fr}{h':Heap}(k:aKF τ Z fr fr' h h'){l:Option Nat}{B:Bs}{m:Emb}{a:Act}{w w':World}{e:Exit}(p:rK w0 r l nt Z B (m.comp τ) h' w Q e a w'):rK w0 r l nt Z B m h w Q e a w':=by
 obtain⟨m',fr1,h1,s,sa,q⟩:=p
 refine⟨m',fr1,h1,⟨s.sim,fun i hi=> ?_,⟨s.mods.size,fun c hc hn=>s.mods.same c hc fun i b hi=>let⟨b',hb',_⟩:=k.blk i b hi; hn (τ i) _ hb',s.mods.os,s.mods.tape,s.mods.output⟩,s.le,fun i b hi hlt=> ?_⟩,sa,q⟩
 ·have:=s.ext i hi
  simp only[Emb.comp,k.idn i hi]at this
  exact this
 ·obtain⟨j,c,hj,e⟩:=s.roots i b hi hlt
  obtain⟨c',hc',_⟩:=k.blk j c hj
  exact⟨τ j,_,hc',e⟩
def shf(N:Nat)(js:List Nat)(i:Nat):Nat:=if i<N then i else N+js.getD (i - N) 0
mutual
theorem AV.ren_bdd{N:Nat}{js:List Nat}:∀ {v:AV},v.bdd N→v.ren (shf N js)=v
 | .agg l,h=>by simp only[AV.bdd,AV.ren]at *; rw[AV.rens_bdd h]
 | .tup l,h=>by simp only[AV.bdd,AV.ren]at *; rw[AV.rens_bdd h]
 | .ptr (.old a),h=>by simp only[AV.ren,Pl.ren]
 | .ptr (.own i o),h=>by simp only[AV.bdd,Pl.bdd,AV.ren,Pl.ren]at *; simp[shf,h]
 | .sl (.old a) _ _ _,h=>by simp only[AV.ren,Pl.ren]
 | .sl (.own i o) _ _ _,h=>by simp only[AV.bdd,Pl.bdd,AV.ren,Pl.ren]at *; simp[shf,h]
 | .map i,h=>by simp only[AV.bdd,AV.ren]at *; simp[shf,h]
 | .yld i,h=>by simp only[AV.bdd,AV.ren]at *; simp[shf,h]
 | .fn _ a b,h=>by simp only[AV.bdd,AV.ren]at *; rw[AV.rens_bdd h.1,AV.rens_bdd h.2]
 | .ifc _ v,h=>by simp only[AV.bdd,AV.ren]at *; rw[AV.ren_bdd h]
 | .undef,_ | .int _ _,_ | .bool _,_ | .str _,_ | .nilP,_ | .nilS,_ | .nilM,_ | .nilF,_ | .nilI,_=>by simp only[AV.ren]
theorem AV.rens_bdd{N:Nat}{js:List Nat}:∀ {l:List AV},AV.bdds N l→AV.rens (shf N js) l=l
 | [],_=>by simp only[AV.rens]
 | x::xs,h=>by simp only[AV.bdds,AV.rens]at *; rw[AV.ren_bdd h.1,AV.rens_bdd h.2]
end
theorem Blk.ren_row{N:Nat}{js:List Nat}{c:List AV}(h:AV.bdds N c):Blk.ren (shf N js) (.row c)= .row c:=by simp only[Blk.ren,AV.rens_bdd h]
theorem aFl{N:Nat}{fr:Fr}{js:List Nat}(h:∀t,(fr.get t).bdd N)(t:Nat):(Fr.ren (shf N js) fr).get t=fr.get t:=by
 rw[Fr.ren_get,AV.ren_bdd (h t)]
structure Ord(N:Nat)(js:List Nat)(fr fr':Fr)(L L':Heap):Prop where
 len:js.length=L'.length
 nod:js.Nodup
 blk:∀(j:Nat) b,L'[j]? = some (some b)→∃q,js[j]? = some q∧L[q]? = some (some (b.ren (shf N js)))
 hb:HBs (N+L'.length) L'
 fb:FB (N+L'.length) fr'
 fr:Fr.ren (shf N js) fr'=fr
theorem aIF{N:Nat}{js:List Nat}{b:Blk}(hb:b.bdd N):Eqv b (b.ren (shf N js)):=by
 cases b with
 | row c=>rw[Blk.ren_row (cG.2 hb)]; exact .refl _
 | map es=>
  have:∀e∈es,((fun e:AV×AV=>(e.1.ren (shf N js),e.2.ren (shf N js))) e)=e:=fun e he=>by
   simp[AV.ren_bdd (hb e he).1,AV.ren_bdd (hb e he).2]
  simp only[Blk.ren]
  rw[List.map_congr_left this]; simp[Eqv]
 | loop nt fr ps x y st pd=>exact⟨rfl,rfl,rfl,rfl,rfl,rfl,fun t=>(aFl hb t).symm⟩
theorem Ord.ok{js:List Nat}{fr':Fr}{L L':Heap}(hz:Z≤h.length)(hb:HB h)(o:Ord h.length js fr fr' L L'):aKF (shf h.length js) Z fr fr' (h++L) (h++L'):=by
 have hjs:∀j q,js[j]? = some q→js.getD j 0=q:=fun j q e=>by rw[List.getD_eq_getElem?_getD,e]; rfl
 refine⟨by simp; omega,fun i hi=>by simp[shf]; omega,fun i j hi hj e=> ?_,fun i b hi=> ?_,zZ hb o.hb,fun t=>by rw[List.length_append]; exact o.fb.get t,fun t=> .inr ?_⟩
 ·rw[List.length_append]at hi hj
  simp only[shf]at e
  by_cases h1:i<h.length
  ·rw[if_pos h1]at e
   by_cases h2:j<h.length
   ·rw[if_pos h2]at e; exact e
   ·rw[if_neg h2]at e; omega
  ·rw[if_neg h1]at e
   by_cases h2:j<h.length
   ·rw[if_pos h2]at e; omega
   ·rw[if_neg h2]at e
    have hi':i - h.length<js.length:=by rw[o.len]; omega
    have hj':j - h.length<js.length:=by rw[o.len]; omega
    have e':js.getD (i - h.length) 0=js.getD (j - h.length) 0:=by omega
    rw[List.getD_eq_getElem?_getD,List.getD_eq_getElem?_getD,qA hi',qA hj']at e'
    simp only[Option.getD_some]at e'
    have hp:=List.pairwise_iff_getElem.1 o.nod
    rcases Nat.lt_trichotomy (i - h.length) (j - h.length)with a | a | a
    ·exact absurd e' (hp _ _ hi' hj' a)
    ·omega
    ·exact absurd e'.symm (hp _ _ hj' hi' a)
 ·rcases Nat.lt_or_ge i h.length with h1 | h1
  ·rw[qH h1]at hi
   have:shf h.length js i=i:=by simp[shf,h1]
   rw[this,qH h1]; exact⟨b,hi,aIF (hb i b hi)⟩
  ·rw[qI h1]at hi
   obtain⟨q,hq,hb'⟩:=o.blk _ b hi
   have:shf h.length js i=h.length+q:=by simp only[shf]; rw[if_neg (by omega),hjs _ _ hq]
   rw[this,qI (by omega),Nat.add_sub_cancel_left]; exact⟨_,hb',.refl _⟩
 ·rw[←o.fr,Fr.ren_get]
end
end Go.Proofs.Ab
namespace Go.Proofs.Ab
open Go
def aN(l:List Int):List AV:=l.map (.int .i64)
@[simp] theorem pR (l:List Int):(aN l).length=l.length:=by simp[aN]
@[simp] theorem ints_bdd (N:Nat) (l:List Int):AV.bdds N (aN l):=by
 rw[cG]; intro x hx; simp only[aN,List.mem_map]at hx; obtain⟨z,_,rfl⟩:=hx; trivial
@[simp] theorem ints_ren (τ:Nat→Nat) (l:List Int):AV.rens τ (aN l)=aN l:=by
 rw[aFD]; simp[aN,AV.ren]
@[simp] theorem mA (l:List Int):(aN l).all one=true:=by
 simp only[List.all_eq_true,aN,List.mem_map]; rintro x ⟨z,_,rfl⟩; rfl
@[simp] theorem aJr (l:List Int) (j:Nat):(aN l)[j]? = l[j]?.map (AV.int .i64):=by simp[aN]
section
variable {w0:World} {h:Heap}
mutual
theorem AV.ren_id{M:Nat}{τ:Nat→Nat}(hτ:∀i,i<M→τ i=i):∀ {v:AV},v.bdd M→v.ren τ=v
 | .agg l,h=>by simp only[AV.bdd,AV.ren]at *; rw[AV.rens_id hτ h]
 | .tup l,h=>by simp only[AV.bdd,AV.ren]at *; rw[AV.rens_id hτ h]
 | .ptr (.old a),h=>by simp only[AV.ren,Pl.ren]
 | .ptr (.own i o),h=>by simp only[AV.bdd,Pl.bdd,AV.ren,Pl.ren]at *; rw[hτ i h]
 | .sl (.old a) _ _ _,h=>by simp only[AV.ren,Pl.ren]
 | .sl (.own i o) _ _ _,h=>by simp only[AV.bdd,Pl.bdd,AV.ren,Pl.ren]at *; rw[hτ i h]
 | .map i,h=>by simp only[AV.bdd,AV.ren]at *; rw[hτ i h]
 | .yld i,h=>by simp only[AV.bdd,AV.ren]at *; rw[hτ i h]
 | .fn _ a b,h=>by simp only[AV.bdd,AV.ren]at *; rw[AV.rens_id hτ h.1,AV.rens_id hτ h.2]
 | .ifc _ v,h=>by simp only[AV.bdd,AV.ren]at *; rw[AV.ren_id hτ h]
 | .undef,_ | .int _ _,_ | .bool _,_ | .str _,_ | .nilP,_ | .nilS,_ | .nilM,_ | .nilF,_ | .nilI,_=>by simp only[AV.ren]
theorem AV.rens_id{M:Nat}{τ:Nat→Nat}(hτ:∀i,i<M→τ i=i):∀ {l:List AV},AV.bdds M l→AV.rens τ l=l
 | [],_=>by simp only[AV.rens]
 | x::xs,h=>by simp only[AV.bdds,AV.rens]at *; rw[AV.ren_id hτ h.1,AV.rens_id hτ h.2]
end
end
end Go.Proofs.Ab
namespace Go.Proofs.Ab
open Go
def aB(G H:Heap):Prop:=G.length≤H.length∧∀(i:Nat) b,G[i]? = some (some b)→H[i]? = some (some b)
section
variable {w0:World} {G H:Heap}
theorem aB.rd(s:aB G H){p:Pl}{v:AV}(e:Ab.rd w0 G p=some v):Ab.rd w0 H p=some v:=by
 cases p with
 | old a=>exact e
 | own i o=>
  simp only[Ab.rd]at e ⊢
  split at e
  ·rename_i c hc; rw[s.2 _ _ hc]; exact e
  ·cases e
theorem aB.rdn(s:aB G H){p:Pl}{n:Nat}{v:List AV}(e:Ab.rdn w0 G p n=some v):Ab.rdn w0 H p n=some v:=by
 cases p with
 | old a=>exact e
 | own i o=>
  simp only[Ab.rdn]at e ⊢
  split at e
  ·rename_i c hc; rw[s.2 _ _ hc]; exact e
  ·cases e
theorem Sl.sub{es:Nat}{v:AV}{rows:List (List AV)}(s:Sl w0 G es v rows)(t:aB G H):Sl w0 H es v rows:=by
 rcases s with s | ⟨p,full,s1,s2,s3⟩
 ·exact .inl s
 ·exact .inr ⟨p,full,s1,Pl.bdd_mono t.1 s2,fun j c hc=>t.rdn (s3 j c hc)⟩
theorem aB.refl:aB G G:=⟨Nat.le_refl _,fun _ _ e=>e⟩
theorem aB.app{L:Heap}(s:aB G H):aB G (H++L):=⟨by rw[List.length_append]; have:=s.1; omega,fun i b e=>aA (s.2 i b e)⟩
theorem aB.trans{K:Heap}(s:aB G H)(t:aB H K):aB G K:=⟨Nat.le_trans s.1 t.1,fun i b e=>t.2 i b (s.2 i b e)⟩
theorem aB.msk{i:Nat}:aB (G.set i none) G:=⟨by simp,fun j b e=>by
 rw[List.getElem?_set]at e
 split at e
 ·split at e<;>cases e
 ·exact e⟩
theorem lR{α:Type}{l k:List α}{i:Nat}{x:α}(h:i<l.length):(l++k).set i x=l.set i x++k:=by
 rw[List.set_append_left _ _ h]
theorem aMh{p:Pl}{a b:Nat}{x y:List AV}(e:Ab.rdn w0 H p a=some x)(e2:Ab.rdn w0 H (p.add a) b=some y):Ab.rdn w0 H p (a+b)=some (x++y):=by
 cases p with
 | own i o=>
  simp only[Ab.rdn,Pl.add]at e e2 ⊢
  split at e
  ·rename_i c hc
   rw[hc]at e2
   simp only at e2 ⊢
   split at e
   ·split at e2
    ·cases e; cases e2
     rw[if_pos (by omega),List.take_add,List.drop_drop]
    ·cases e2
   ·cases e
  ·cases e
 | old q=>
  simp only[Ab.rdn,Pl.add]at e e2 ⊢
  rw[List.range_add,List.mapM_append,e]
  have:(List.map (fun x=>a+x) (List.range b)).mapM (fun j=>(w0.cell? (q.add j)).map inj)=(List.range b).mapM (fun j=>(w0.cell? ((q.add a).add j)).map inj):=by
   rw[List.mapM_map]
   congr 1
   funext j
   have:=Pl.add_add (p:= .old q) (m:=a) (n:=j)
   simp only[Pl.add,Pl.old.injEq]at this
   simp[this]
  rw[this,e2]; rfl
theorem Sl.all{es:Nat}{p:Pl}:∀ {rows:List (List AV)},rows≠[]→(∀(j:Nat) c,rows[j]? = some c→Ab.rdn w0 H (p.add (j*es)) es=some c)→Ab.rdn w0 H p (rows.length*es)=some rows.flatten
 | [],h,_=>absurd rfl h
 | [c],_,h=>by
  have:=h 0 c rfl
  simpa[show p.add 0=p by cases p<;>simp[Pl.add,Addr.add]]using this
 | c::d::l,_,h=>by
  have h0:=h 0 c rfl
  rw[Nat.zero_mul,show p.add 0=p by cases p<;>simp[Pl.add,Addr.add]]at h0
  have:=Sl.all (p:=p.add es) (rows:=d::l) (by simp) fun j c hc=>by
   have:=h (j+1) c (by simpa using hc)
   rw[Pl.add_add,show es+j*es=(j+1)*es by rw[Nat.succ_mul]; omega]; exact this
  have:=aMh h0 this
  rw[show(c::d::l).length*es=es+(d::l).length*es by simp only[List.length_cons,Nat.succ_mul]; omega,List.flatten_cons]
  exact this
theorem zT{es b n:Nat}{old:List AV}{rows:List (List AV)}{y:AV}{p:Pl}(s:Sl w0 H es y rows)(hr:rows≠[])(ho:∀c∈rows,c.all one=true)(hp:Ab.rdn w0 H p (n*es)=some old)(hb:b≤1000000)(hn2:n+rows.length≤1000000) :
 eD w0 H es b (.sl p n es true) y=some (.sl (.own H.length 0) (n+rows.length) es false,H++[some (.row (old++rows.flatten))]):=by
 rcases s with⟨s1,s2⟩ | ⟨q,full,s1,s2,s3⟩
 ·exact absurd s2 hr
 ·obtain⟨es',rfl,he⟩:=s1
  have hr2:=Sl.all hr s3
  have hne:rows.length≠0:=fun e=>hr (List.eq_nil_of_length_eq_zero e)
  have hsz:(n+rows.length)*(b+1)≤2^40:=Nat.le_trans (Nat.mul_le_mul hn2 (show b+1≤1000001 by omega)) (by decide)
  have ho2:rows.flatten.all one=true:=by
   rw[List.all_eq_true]; intro x hx
   obtain⟨c,hc,hx⟩:=List.mem_flatten.1 hx
   exact List.all_eq_true.1 (ho c hc) x hx
  simp only[eD,srcOf,he,mF,if_true,hr2,Option.map_some,Option.bind_some]
  rw[if_neg hne,if_pos ⟨trivial,hsz,ho2⟩]
  simp[hp,mN]
@[go_sem] theorem app_none {es b n es':Nat} {p:Pl} {f:Bool}:eD w0 H es b (.sl p n es' f) .nilS=some (.sl p n es' f,H):=by
 simp[eD,srcOf]
end
theorem tL{n:Nat}(h:n<2^62):IntKind.i64.wrap n=n:=by
 have h1:(n:Int) % 2^64=n:=by omega
 simp only[IntKind.wrap,IntKind.bits,IntKind.signed,h1]
 rw[if_neg]
 simp; omega
theorem aKg{a b:Nat}(ha:a<2^62)(hb:b<2^62):bin .or (.int .i64 (a:Int)) (.int .i64 (b:Int))=some (.int .i64 ((a ||| b:Nat):Int)):=by
 have:a ||| b<2^62:=Nat.or_lt_two_pow ha hb
 simp only[bin,if_true,kI,nW]
 rw[show(BitVec.ofInt IntKind.i64.bits (a:Int) ||| BitVec.ofInt IntKind.i64.bits (b:Int)).toNat=a ||| b by
  rw[BitVec.toNat_or,BitVec.ofInt_natCast,BitVec.ofInt_natCast,BitVec.toNat_ofNat,BitVec.toNat_ofNat,Nat.mod_eq_of_lt,Nat.mod_eq_of_lt]
  ·simp[IntKind.bits]; omega
  ·simp[IntKind.bits]; omega]
 rw[tL this]
theorem nY{n:Nat}(hn:n<62):bin .shl (.int .i64 1) (.int .i64 (n:Int))=some (.int .i64 ((2^n:Nat):Int)):=by
 have h2:2^n≤2^61:=Nat.pow_le_pow_right (by omega) (by omega)
 have h3:min (n:Int).toNat IntKind.i64.bits=n:=by simp[IntKind.bits]; omega
 have h4:(1:Int)*2^n=((2^n:Nat):Int):=by rw[Int.one_mul,Int.natCast_pow]; rfl
 simp only[bin,qW]
 rw[if_neg (by omega),h3,h4]
 have h5:inK .i64 ((2^n:Nat):Int)=true:=by
  have e1:IntKind.i64.min= -9223372036854775808:=by decide
  have e2:IntKind.i64.max=9223372036854775807:=by decide
  simp only[inK,Bool.and_eq_true,decide_eq_true_eq,e1,e2]
  generalize 2^n=m at h2
  omega
 simp only[iU,h5,if_true]
theorem jV{a n:Nat}(hn:n<62):bin .shr (.int .i64 (a:Int)) (.int .i64 (n:Int))=some (.int .i64 ((a / 2^n:Nat):Int)):=by
 have h3:min (n:Int).toNat IntKind.i64.bits=n:=by simp[IntKind.bits]; omega
 have h4:(2:Int)^n=((2^n:Nat):Int):=by rw[Int.natCast_pow]; rfl
 simp only[bin,qW]
 rw[if_neg (by omega),h3,h4]
 simp only[Int.fdiv_eq_ediv_of_nonneg _ (Int.natCast_nonneg (2^n)),Int.natCast_ediv]
def wG(h:Heap)(sh:Bool×List Bool)(z:AV)(ok:Bool)(x k:AV):Option AV:=if(keq sh k k).isNone then none else match x with
 | .nilM=>some (if ok then .tup [z,.bool false]else z)
 | .map i=>match h[i]? with
  | some (some (.map es))=>match iA sh k es 0 with
   | some (some (_,v))=>some (if ok then .tup [v,.bool true]else v)
   | some none=>some (if ok then .tup [z,.bool false]else z)
   | none=>none
  | _=>none
 | _=>none
section
variable {w0:World} {h:Heap} {fr:Fr}
@[go_sem] theorem aop_look {sh:Bool×List Bool} {z:AV} {ok:Bool} {x k:Opd}:aop w0 (.look sh z ok x k) fr h=onV (wG h sh z ok (x.ev fr) (k.ev fr)) h:=by
 simp only[aop,wG]
 split
 ·rfl
 ·cases Opd.ev fr x with
  | map i=>
   simp only
   cases h[i]? with
   | none=>rfl
   | some b=>cases b with
    | none=>rfl
    | some b=>cases b with
     | map es=>
      simp only
      cases iA sh (Opd.ev fr k) es 0 with
      | none=>rfl
      | some r=>cases r<;>rfl
     | _=>rfl
  | _=>rfl
def wE(h:Heap)(sh:Bool×List Bool)(m k v:AV):Option (AV×Heap):=if(keq sh k k).isNone then none else match m with
 | .map i=>match h[i]? with
  | some (some (.map es))=>match iA sh k es 0 with
   | some (some (j,_))=>some (.undef,h.set i (some (.map (es.set j (k,v)))))
   | some none=>some (.undef,h.set i (some (.map (es++[(k,v)]))))
   | none=>none
  | _=>none
 | _=>none
@[go_sem] theorem aop_mput {sh:Bool×List Bool} {m k v:Opd}:aop w0 (.mput sh m k v) fr h=wE h sh (m.ev fr) (k.ev fr) (v.ev fr):=(rfl)
theorem ACall.vc{P:Program}{f:FuncId}{first args capt:List AV}{K:AV→Heap→Prop}(c:ACall P w0 f (first++args++capt) h K):bE P w0 (.fn (.func f) first capt) args h K:=c
theorem ACall.v1{P:Program}{f:FuncId}{x0:AV}{K:AV→Heap→Prop}(c:ACall P w0 f [x0] h K):bE P w0 (.fn (.func f) [] []) [x0] h K:=ACall.vc (first:=[]) (args:=[x0]) c
theorem ACall.v2{P:Program}{f:FuncId}{x0 x1:AV}{K:AV→Heap→Prop}(c:ACall P w0 f [x0,x1] h K):bE P w0 (.fn (.func f) [] []) [x0,x1] h K:=ACall.vc (first:=[]) (args:=[x0,x1]) c
theorem ACall.v3{P:Program}{f:FuncId}{x0 x1 x2:AV}{K:AV→Heap→Prop}(c:ACall P w0 f [x0,x1,x2] h K):bE P w0 (.fn (.func f) [] []) [x0,x1,x2] h K:=ACall.vc (first:=[]) (args:=[x0,x1,x2]) c
theorem ACall.v4{P:Program}{f:FuncId}{x0 x1 x2 x3:AV}{K:AV→Heap→Prop}(c:ACall P w0 f [x0,x1,x2,x3] h K):bE P w0 (.fn (.func f) [] []) [x0,x1,x2,x3] h K:=ACall.vc (first:=[]) (args:=[x0,x1,x2,x3]) c
theorem aB.keep{A B:Heap}{im i:Nat}{c:Blk}(s:aB (A.set im none) (B.set im none))(hne:im≠i)(e:A[i]? = some (some c)):B[i]? = some (some c):=by
 have:=s.2 i c (by rw[qB hne]; exact e)
 rwa [qB hne]at this
theorem aB.len{A B:Heap}{im:Nat}(s:aB (A.set im none) (B.set im none)):A.length≤B.length:=by have:=s.1; simpa using this
end
section
variable {P:Program} {w0:World} {h:Heap}
theorem aB2{f:FuncId}{args:List AV}{K:AV→Prop}(e:ACall P w0 f args h fun v h'=>aB h h'∧v.bdd h.length∧K v):ACall P w0 f args h fun v h1=>h1=h∧K v:=by
 refine⟨e.1,fun m w vs s hv hb=>(e.2 m w vs s hv hb).mono fun en w' ⟨v',e1,m',v,h',st,hvr,_,hs,hbd,hk⟩=> ?_⟩
 have hs':=hs.2
 refine⟨v',e1,m',v,h,⟨⟨st.sim.size,st.sim.old,fun i b hi=> ?_,fun i j b c hij hi hj=>st.sim.inj i j b c hij (hs' i b hi) (hs' j c hj)⟩,st.ext,st.mods,Nat.le_refl _,fun i b hi=>st.roots i b (hs' i b hi)⟩,hvr,hbd,rfl,hk⟩
 obtain⟨h1,h2,_⟩:=st.sim.at_ i b (hs' i b hi)
 exact⟨h1,h2,(s.at_ i b hi).2.2⟩
theorem cJ{f:FuncId}{args:List AV}{v:AV}(hv:v.bdd h.length)(e:ACall P w0 f args h fun v' h'=>aB h h'∧v'=v):aK P w0 f args h v h:=
 (aB2 (K:=fun v'=>v'=v) (e.mono fun _ _ ⟨h1,h2⟩=>⟨h1,h2▸hv,h2⟩)).mono fun _ _ ⟨h1,h2⟩=>⟨h2,h1⟩
end
section
variable {P:Program} {w0:World} {nt Z:Nat} {fr:Fr} {h:Heap}
def aDc(w0:World)(rs:List RV)(Q:AV→Heap→Prop)(X:List PanicEntry→Heap→Prop):Exit→Fr→Heap→Prop
 | .normal,fr,h=>∃v,jN w0 rs fr h=some v∧Q v h
 | .ret,fr,h=>∃v,jN w0 rs fr h=some v∧Q v h
 | .panic ch,_,h=>X ch h
 | _,_,_=>False
theorem oJ{fn:Func}{tmps:Array Value}{R:Ending→World→Prop}{ds:List Deferred}{u:FrameMode}(hu:u≠ .run){m m':Emb}{h h':Heap}{w:World}(h0:w0.heap.size≤w.heap.size) :
 ∀(qs:List Nat) (w1:World),qs.Nodup→bU w0 m m' h h' w w1→(∀q∈qs,w.heap.size≤q∧w1.heap[q]? = some (.deferred (some []))∧∀(i:Nat) b,h'[i]? = some (some b)→m'.blk i≠q) →
  (∀w2,bU w0 m m' h h' w w2→(∀c,c∉qs→w2.heap[c]? = w1.heap[c]?)→LeavesInM Fence.wide 0 P fn tmps R ds u w2)→LeavesInM Fence.wide 0 P fn tmps R (qs.map nE++ds) u w1:=by
 intro qs
 induction qs with
 | nil=>intro w1 _ st1 _ k; exact k w1 st1 fun _ _=>rfl
 | cons q qs ih=>
  intro w1 hnd st1 hall k
  obtain⟨g1,g2,g3⟩:=hall q List.mem_cons_self
  have hlt:q<w1.heap.size:=by
   rcases Nat.lt_or_ge q w1.heap.size with hl | hl
   ·exact hl
   ·rw[Array.getElem?_eq_none hl]at g2; cases g2
  simp only[List.nodup_cons]at hnd
  refine⟨hu,.inl ⟨q,eO w1 q (.deferred none),rfl,?_,ih _ hnd.2 (st1.aside g1 g3 h0) (fun q' hq'=> ?_) fun w2 st2 hsame=>k w2 st2 fun c hc=>by
   rw[hsame c fun hh=>hc (List.mem_cons_of_mem _ hh)]
   exact dS fun e=>hc (by rw[e]; exact List.mem_cons_self)⟩⟩
  ·have e1:=dX (P:=P) g2 (by simp)
   have e2:=gJ (P:=P) (.deferred none) g2 (by simp)
   simp only[Instr.takeDeferred,Sem.run_bind,e1,Result.andThen_ok,e2,Sem.run_pure]
   rfl
  ·obtain⟨k1,k2,k3⟩:=hall q' (List.mem_cons_of_mem _ hq')
   refine⟨k1,?_,k3⟩
   have hne:q'≠q:=fun e=>by rw[e]at hq'; exact hnd.1 hq'
   rw[dS hne]
   exact k2
theorem aFY{mf:MF}{fn:Func}(hnt:mf.nt=fn.ntmps){args:List AV}(hn:args.length≤mf.nt){m:Emb}{w:World}{vs:Array Value}(s:Sim w0 m h w)(hv:VRs m args vs.toList)(hbd:AV.bdds h.length args) :
 SA w0 none none fn.ntmps h.length ⟨w.heap.size,[]⟩ m (dO args 0) h { tmps:=vs++Array.replicate (fn.ntmps - vs.size) undef,defers:=[] } w:=by
 have hlen:=cN hv
 simp at hlen
 refine⟨s,fun t=> ?_,by simp; omega,Nat.le_refl _,⟨[],by simp,rfl,by simp⟩,rfl,fun i hi=>(by cases hi),Nat.le_refl _⟩
 rw[zC]
 simp only[Nat.zero_le,if_true,Nat.sub_zero]
 cases ht:args[t]? with
 | none=>exact⟨by simp[VR],trivial⟩
 | some x=>
  obtain⟨y,hy,hvy⟩:=(dJ.1 hv).2 t x ht
  have htl:=aI ht
  refine⟨?_,cG.1 hbd x (List.mem_of_getElem? ht)⟩
  rw[Array.getD_eq_getD_getElem?,Array.getElem?_append_left (by omega)]
  simp at hy
  simpa[hy]using hvy
theorem FR.stepS{m m':Emb}{h':Heap}{w w':World}{tmps:Array Value}(hf:FR m h.length fr tmps)(s:bU w0 m m' h h' w w'):FR m' h'.length fr tmps:=
 fun t=>⟨gL s.ext _ _ (hf t).2 (hf t).1,AV.bdd_mono s.le _ (hf t).2⟩
theorem dB.weak{m m':Emb}{h':Heap}{w w':World}{Z':Nat}(s:dB Z w0 m m' h h' w w')(hz:Z'≤Z):dB Z' w0 m m' h h' w w':=⟨s.sim,s.ext.mono hz,s.mods,Nat.le_trans hz s.le,s.roots⟩
theorem zS{rs:List RV}{Q:AV→Heap→Prop}{X:List PanicEntry→Heap→Prop}{fn:Func}(hrs:fn.results.toList.mapM (crv P)=some rs){h0:Heap}{m0 m':Emb}{fr':Fr}{h':Heap}{w00 w':World}{a':Act}
 (h00:w0.heap.size≤w00.heap.size) (st:bU w0 m0 m' h0 h' w00 w') (sa':SA w0 none none nt Z ⟨w00.heap.size,[]⟩ m' fr' h' a' w') {e:Exit} (q:aDc w0 rs Q X e fr' h'):bodyPostM Fence.wide 0 P fn (nK w0 m0 h0 w00 Q X) e a' w':=by
 obtain⟨qs,hnd,hdef,hqs⟩:=sa'.marks
 have fin:∀ {u:FrameMode},u≠ .run→(∀w2,bU w0 m0 m' h0 h' w00 w2→LeavesInM Fence.wide 0 P fn a'.tmps (nK w0 m0 h0 w00 Q X) [] u w2)→LeavesInM Fence.wide 0 P fn a'.tmps (nK w0 m0 h0 w00 Q X) a'.defers u w':=fun hu k=>by
  rw[hdef]; exact oJ hu h00 qs w' hnd st hqs fun w2 st2 _=>k w2 st2
 have hret:(∃v,jN w0 rs fr' h'=some v∧Q v h')→LeavesInM Fence.wide 0 P fn a'.tmps (nK w0 m0 h0 w00 Q X) a'.defers .returning w':=fun⟨v,hres,hq⟩=>by
  refine fin (by simp) fun w2 st2=> ?_
  obtain⟨v',h1,h2,h3⟩:=iZ hrs st2.sim sa'.frame hres
  exact⟨v',h1,.inl ⟨v',rfl,m',v,h',st2,h2,h3,hq⟩⟩
 cases e with
 | normal=>exact hret q
 | ret=>exact hret q
 | panic ch=>exact fin (by simp) fun w2 st2=> .inr ⟨ch,rfl,m',h',st2,q⟩
 | exit id=>exact q.elim
 | goto l=>exact q.elim
 | outgrown=>exact q.elim
def EvD(P:Program)(w0:World)(nt:Nat)(rs:List RV)(h0:Heap)(Q:AV→Heap→Prop)(X:List PanicEntry→Heap→Prop)(mc:MC)(fr:Fr)(h:Heap):Prop:=
 ∀c,aW P nt c=some mc→∀fn:Func,fn.results.toList.mapM (crv P)=some rs→∀m0 w00 m a w,w0.heap.size≤w00.heap.size→dB h0.length w0 m0 m h0 h w00 w→SA w0 none none nt h0.length ⟨w00.heap.size,[]⟩ m fr h a w →
  c.wpIn Fence.wide 0 P (bodyPostM Fence.wide 0 P fn (nK w0 m0 h0 w00 Q X)) a w
section
variable {rs:List RV} {h0:Heap} {Q:AV→Heap→Prop} {X:List PanicEntry→Heap→Prop}
theorem EvD_of{mc:MC}(e:EvM P w0 none nt h0.length mc fr h (aDc w0 rs Q X)):EvD P w0 nt rs h0 Q X mc fr h:=fun c hc fn hrs m0 w00 m a w h00 st sa=>
 wpIn_mono (e c hc m a w ⟨w00.heap.size,[]⟩ none sa) fun _ _ _ ⟨_,_,_,stz,sa',q⟩=>zS hrs h00 (st.trans stz).toS sa' q
def dQ(P:Program)(w0:World)(nt:Nat)(rs:List RV)(h0:Heap)(Q:AV→Heap→Prop)(X:List PanicEntry→Heap→Prop)(y:MC):Exit→Fr→Heap→Prop
 | .normal,fr,h=>EvD P w0 nt rs h0 Q X y fr h
 | e,fr,h=>aDc w0 rs Q X e fr h
theorem aOr{x y:MC}(e:EvM P w0 none nt h0.length x fr h (dQ P w0 nt rs h0 Q X y)):EvD P w0 nt rs h0 Q X (.seq x y) fr h:=fun c hc fn hrs m0 w00 m a w h00 st sa=>by
 obtain⟨cx,cy,rfl,h1,h2⟩:=rD hc
 refine wpIn_seq (wpIn_mono (e cx h1 m a w ⟨w00.heap.size,[]⟩ none sa) fun e a' w' ⟨m',fr',h',stz,sa',q⟩=> ?_)
 cases e with
 | normal=>exact q cy h2 fn hrs m0 w00 m' a' w' h00 (st.trans stz) sa'
 | ret=>exact zS (e:= .ret) hrs h00 (st.trans stz).toS sa' q
 | panic ch=>exact zS (e:= .panic ch) hrs h00 (st.trans stz).toS sa' q
 | exit id=>exact q.elim
 | goto l=>exact q.elim
 | outgrown=>exact q.elim
end
theorem aDw{f:FuncId}{mf:MF}(hf:tD P f=some mf)(hb:dH P f=true){args:List AV}(hn:args.length≤mf.nt){Q:AV→Heap→Prop}{X:List PanicEntry→Heap→Prop}
 (e:HB h→AV.bdds h.length args→EvD P w0 mf.nt mf.res h Q X mf.body (dO args 0) h):iN P w0 f args h Q X:=by
 refine⟨hb,fun m w vs s hv hbd=> ?_⟩
 simp only[tD,qC,qD]at hf
 obtain⟨fn,hfn,c,hc,rs,hrs,b,hcb,rfl⟩:=hf
 simp only at e hn
 refine callsIn_of_wp_marks hfn hc trivial ?_
 have sa:=aFY (mf:=⟨fn.ntmps,rs,b⟩) rfl hn s hv hbd
 exact e (fun i b hi=>(s.at_ i b hi).2.2) hbd c hcb fn hrs m w m _ w s.size ((bU.refl s).toZ (Nat.le_refl _)) sa
theorem aDv{f:FuncId}{mf:MF}(hf:tD P f=some mf)(hb:dH P f=true){args:List AV}(hn:args.length≤mf.nt){Q:AV→Heap→Prop}{X:List PanicEntry→Heap→Prop}
 (e:HB h→AV.bdds h.length args→EvM P w0 none mf.nt h.length mf.body (dO args 0) h (aDc w0 mf.res Q X)):iN P w0 f args h Q X:=
 aDw hf hb hn fun h1 h2=>EvD_of (e h1 h2)
theorem aH2(hm:P.follows .mixedOrders=true){f:FuncId}{mf:SF}(hf:tD P f=some mf.er)(hb:dH P f=true)(g:mf.body.good=true){args:List AV}(hn:args.length≤mf.nt){Q:AV→Heap→Prop}{X:List PanicEntry→Heap→Prop}
 (e:HB h→AV.bdds h.length args→sx P w0 none mf.nt h.length mf.body (dO args 0) (h++[]) (aDc w0 mf.res Q X)):iN P w0 f args h Q X:=
 aDv (mf:=mf.er) hf hb hn fun h1 h2=>dW (nt:=mf.nt) hm mf.body g (by have:=e h1 h2; rw[List.append_nil]at this; exact this)
def jG(P:Program)(w0:World)(f:FuncId)(args:List AV)(h:Heap)(o:Option AV)(v:AV)(h1:Heap):Prop:=
 iN P w0 f args h (fun v' h'=>o=none∧v'=v∧h'=h1) (fun ch h'=>∃x,o=some x∧ch=pan x∧h'=h1)
def aKK(P:Program)(w0:World)(fv:AV)(args:List AV)(h:Heap)(o:Option AV)(v:AV)(h1:Heap):Prop:=
 eI P w0 fv args h (fun v' h'=>o=none∧v'=v∧h'=h1) (fun ch h'=>∃x,o=some x∧ch=pan x∧h'=h1)
theorem jG.v{f:FuncId}{first args capt:List AV}{o:Option AV}{v:AV}{h1:Heap}(c:jG P w0 f (first++args++capt) h o v h1):aKK P w0 (.fn (.func f) first capt) args h o v h1:=c
theorem tU{r:Option Nat}{Q:Exit→Fr→Heap→Prop}{fv:AV}{as:List AV}{d:Option Nat}{l:List MIx}{k:List It}{o:Option AV}{v:AV}{h1:Heap}(c:aKK P w0 fv as h o v h1)
 (e1:o=none→rv P w0 r nt Z Q l k (fr.put d v) h1) (e2:∀x,o=some x→un P w0 r nt Z Q (.panic (pan x)) k fr h1):rcE P w0 r nt Z Q fv as d l k fr h:=
 eI.mono c (fun _ _ ⟨h1,h2,h3⟩=>by subst h2; subst h3; exact e1 h1) (fun _ _ ⟨x,h1,h2,h3⟩=>by subst h2; subst h3; exact e2 x h1)
theorem aFG{r:Option Nat}{Q:Exit→Fr→Heap→Prop}{x:AV}{k:List It}(hx:uL x=true)(e:un P w0 r nt Z Q (.panic (pan x)) k fr h):rcP P w0 r nt Z Q x k fr h:=⟨hx,e⟩
theorem aDu{f:FuncId}{args:List AV}{Q:AV→Heap→Prop}{X:List PanicEntry→Heap→Prop}
 (e:iN P w0 f args h (fun v h'=>∃h1 k,h'=h1++k∧h.length≤h1.length∧HB h1∧v.bdd h1.length∧Q v h1) (fun ch h'=>∃h1 k,h'=h1++k∧h.length≤h1.length∧HB h1∧X ch h1)):iN P w0 f args h Q X:=by
 refine⟨e.1,fun m w vs s hv hb=>(e.2 m w vs s hv hb).mono fun en w' p=> ?_⟩
 rcases p with⟨v',e1,m',v,h',st,hvr,_,h1,k,hh,hle,hhb,hbd,hk⟩ | ⟨ch,e1,m',h',st,h1,k,hh,hle,hhb,hk⟩
 ·subst hh
  exact .inl ⟨v',e1,m',v,h1,st.drop hle hhb,hvr,hbd,hk⟩
 ·subst hh
  exact .inr ⟨ch,e1,m',h1,st.drop hle hhb,hk⟩
def pK(w0:World)(rs:List RV)(h1:Heap)(o:Option AV)(v:AV):Exit→Fr→Heap→Prop
 | .normal,fr,h'=>o=none∧jN w0 rs fr h'=some v∧∃k,h'=h1++k
 | .ret,fr,h'=>o=none∧jN w0 rs fr h'=some v∧∃k,h'=h1++k
 | .panic ch,_,h'=>(∃x,o=some x∧ch=pan x)∧∃k,h'=h1++k
 | _,_,_=>False
theorem oB(hm:P.follows .mixedOrders=true){f:FuncId}{mf:SF}(hf:tD P f=some mf.er)(hb:dH P f=true)(g:mf.body.good=true){args:List AV}(hn:args.length≤mf.nt){o:Option AV}{v:AV}{h1:Heap}
 (hle:h.length≤h1.length) (hhb:HB h→HB h1) (hv:v.bdd h1.length) (e:HB h→AV.bdds h.length args→sx P w0 none mf.nt h.length mf.body (dO args 0) (h++[]) (pK w0 mf.res h1 o v)):jG P w0 f args h o v h1:=by
 refine aDu (aH2 hm hf hb g hn fun b1 b2=>jT _ (e b1 b2) fun e fr h' q=> ?_)
 have:∀ {fr:Fr} {h':Heap},(o=none∧jN w0 mf.res fr h'=some v∧∃k,h'=h1++k)→∃v',jN w0 mf.res fr h'=some v'∧∃h2 k,h'=h2++k∧h.length≤h2.length∧HB h2∧v'.bdd h2.length∧o=none∧v'=v∧h2=h1:=
  fun⟨q0,q1,k,q2⟩=>⟨v,q1,h1,k,q2,hle,hhb b1,hv,q0,rfl,rfl⟩
 cases e with
 | normal=>exact this q
 | ret=>exact this q
 | panic ch=>
  obtain⟨q1,k,q2⟩:=q
  obtain⟨x,q3,q4⟩:=q1
  exact⟨h1,k,q2,hle,hhb b1,x,q3,q4,rfl⟩
 | _=>exact q.elim
def tK(P:Program)(w0:World)(g:FuncId)(args:List AV)(h:Heap)(u:FrameMode)(Q:FrameMode→Heap→Prop):Prop:=
 dH P g=true∧∀m w (vs:Array Value),Sim w0 m h w→VRs m args vs.toList→AV.bdds h.length args→CallsDIn Fence.wide 0 P g vs u w fun e u' w'=>∃v',e= .returned v'∧∃m' h',bU w0 m m' h h' w w'∧Q u' h'
def aHm(w0:World)(rs:List RV)(Q:AV→Heap→Prop)(X:List PanicEntry→Heap→Prop)(fr:Fr)(u:FrameMode)(h:Heap):Prop:=
 match settle u with
 | .returning=>∃v,jN w0 rs fr h=some v∧Q v h
 | .panicking ch=>X ch h
 | .run=>False
def defK(P:Program)(w0:World)(rs:List RV)(g:FuncId)(capt:List AV)(Q:AV→Heap→Prop)(X:List PanicEntry→Heap→Prop):Exit→Fr→Heap→Prop
 | .normal,fr,h=>tK P w0 g capt h .returning (aHm w0 rs Q X fr)
 | .ret,fr,h=>tK P w0 g capt h .returning (aHm w0 rs Q X fr)
 | .panic ch,fr,h=>tK P w0 g capt h (.panicking ch) (aHm w0 rs Q X fr)
 | _,_,_=>False
theorem aC7{ops:Array Oper}{o:Oper}{d:Option Nat}{fo:Opd}{as:List Opd}(hx:fI P nt ops o=some (.op d none (.defer fo as))) :
 d=o.dst∧uU nt o.dst=true∧vW ops o.guard=some none∧∃f args at',o.op= .defer { callee:= .value f,args:=args,argTypes:=at' }∧dI f=some fo∧nU args=some as:=by
 unfold fI at hx
 split at hx
 ·rename_i hd
  simp only[qC]at hx
  obtain⟨g,hg,hx⟩:=hx
  split at hx
  ·simp only[qC,qD]at hx
   obtain⟨_,_,_,_,hx⟩:=hx
   cases hx
  ·simp only[qD]at hx
   obtain⟨mo,hmo,hx⟩:=hx
   simp only[MIx.op.injEq]at hx
   obtain⟨rfl,rfl,rfl⟩:=hx
   refine⟨rfl,hd,hg,?_⟩
   generalize o.op=op at hmo
   unfold cop at hmo
   split at hmo
   all_goals first
    | (simp only[qC,qD,MOp.defer.injEq]at hmo; obtain⟨f,h1,a,h2,rfl,rfl⟩:=hmo; exact⟨_,_,_,rfl,h1,h2⟩)
    | (exfalso; repeat' first | (cases hmo; done) | (simp only[qC,qD]at hmo) | (obtain⟨_,_,hmo⟩:=hmo) | split at hmo)
 ·cases hx
theorem aH0{rs:List RV}{h0:Heap}{Q:AV→Heap→Prop}{X:List PanicEntry→Heap→Prop}{l:List MIx}{fo:Opd}{rest:MC}
 (e:vc P w0 l fr h fun fr1 h1=>∃g capt,fo.ev fr1= .fn (.func g) [] capt∧EvM P w0 none nt h1.length rest fr1 h1 (defK P w0 rs g capt Q X)):EvD P w0 nt rs h0 Q X (.seq (.reg (l++[.op none none (.defer fo [])])) rest) fr h:=by
 intro c hc fn hrs m0 w00 m a w h00 st0 sa
 obtain⟨cx,cy,rfl,hcx,hcy⟩:=rD hc
 refine wpIn_seq ?_
 obtain⟨id,ops,rfl,hl⟩:=nV hcx
 refine wpIn_region_list ?_
 obtain⟨o1,o,o2,e0,h1,h2,h3⟩:=uH hl rfl
 rw[e0]
 refine tN (P:=P) o1 l h1 sa e fun m1 fr1 g1 a1 w1 s1 sa1 k _=> ?_
 obtain⟨g,capt,hfo,hrest⟩:=k
 obtain⟨hdst,hdok,hgd,fc,args',at',hop,hfc,has⟩:=aC7 h2
 simp only[wpListIn]
 rw[iP hgd sa1.frame (b:=true) rfl]
 have hargs0:args'= #[]:=by
  simp only[nU]at has
  cases hq:args'.toList with
  | nil=>exact Array.toList_eq_nil_iff.1 hq
  | cons x xs=>
   rw[hq]at has
   simp only[List.mapM_cons,Option.bind_eq_bind,qC,Option.pure_def,Option.some.injEq]at has
   obtain⟨_,_,_,_,hh⟩:=has
   cases hh
 subst hargs0
 obtain⟨f1,f2⟩:=aR sa1.frame hfc
 rw[hfo]at f1 f2
 simp only[VR]at f1
 obtain⟨p,q,ev1,p1,q1⟩:=f1
 have hp0:p= #[]:=by
  simp only[VRs]at p1
  exact Array.toList_eq_nil_iff.1 p1
 subst hp0
 have hrun:(execOp a1.eval o).run P w1= .ok (.defer { target:= .fn (.func g) q,args:= #[] }) w1:=by
  simp only[execOp,hop,resolve,ev1,Deferred.ofValue,Sem.run_bind,Sem.run_pure,Result.andThen_ok]
  simp
 have hsem:o.semAt (Wd none).round a1.eval=execOp a1.eval o:=rfl
 refine⟨fun _ _=>trivial,?_⟩
 rw[hsem,hrun]
 obtain rfl:o2=[]:=by
  cases o2 with
  | nil=>rfl
  | cons x xs=>
   simp only[List.mapM_cons,Option.bind_eq_bind,qC,Option.pure_def,Option.some.injEq]at h3
   obtain⟨_,_,_,_,hh⟩:=h3
   cases hh
 have hdn:o.dst=none:=hdst.symm
 rw[Oper.uponIn_defer,hdn]
 obtain⟨rs1,hnd1,hdef1,hrs1⟩:=sa1.marks
 rw[List.append_nil]at hdef1
 show Code.wpIn Fence.wide 0 P cy (bodyPostM Fence.wide 0 P fn (nK w0 m0 h0 w00 Q X)) { a1 with defers:={ target:= .fn (.func g) q,args:= #[] }::a1.defers } w1
 have sa2:SA w0 none none nt g1.length ⟨w1.heap.size,{ target:= .fn (.func g) q,args:= #[] }::rs1.map nE⟩ m1 fr1 g1 { a1 with defers:={ target:= .fn (.func g) q,args:= #[] }::a1.defers } w1:=
  ⟨sa1.sim,sa1.frame,sa1.size,Nat.le_refl _,⟨[],by simp,by simp[hdef1],by simp⟩,rfl,fun i hi=>(by cases hi),Nat.le_refl _⟩
 have hlt1:∀c∈rs1,c<w1.heap.size:=fun c hc=>by
  obtain⟨_,h3',_⟩:=hrs1 c hc
  rcases Nat.lt_or_ge c w1.heap.size with hl | hl
  ·exact hl
  ·rw[Array.getElem?_eq_none hl]at h3'; cases h3'
 refine wpIn_mono (hrest cy hcy m1 _ w1 ⟨w1.heap.size,{ target:= .fn (.func g) q,args:= #[] }::rs1.map nE⟩ none sa2) fun e a' w' ⟨m',fr',h',stz,sa',qk⟩=> ?_
 have st:bU w0 m0 m' h0 h' w00 w':=(st0.trans (s1.trans (stz.weak (Z':=h0.length) sa1.hz))).toS
 obtain⟨qs,hnd,hdef,hqs⟩:=sa'.marks
 have hqs':∀c∈qs,w00.heap.size≤c∧w'.heap[c]? = some (.deferred (some []))∧∀(i:Nat) b,h'[i]? = some (some b)→m'.blk i≠c:=fun c hc=>by
  obtain⟨k1,k2,k3⟩:=hqs c hc
  exact⟨Nat.le_trans sa1.low k1,k2,k3⟩
 have hr1:∀c∈rs1,c∉qs∧w'.heap[c]? = some (.deferred (some []))∧∀(i:Nat) b,h'[i]? = some (some b)→m'.blk i≠c:=fun c hc=>by
  obtain⟨k1,k2,k3⟩:=hrs1 c hc
  have hc1:=hlt1 c hc
  refine⟨fun hq=>by have:=(hqs c hq).1; simp only at this; omega,by rw[stz.mods.same c hc1 k3]; exact k2,fun i b hi e=> ?_⟩
  obtain⟨j,b2,hj,e'⟩:=stz.roots i b hi (by omega)
  exact k3 j b2 hj (e'.trans e)
 have hq2:VRs m' capt q.toList:=VRs_ext stz.ext _ _ f2.2 q1
 have hb2:AV.bdds h'.length capt:=AV.bdds_mono stz.le _ f2.2
 have fin:∀ {u:FrameMode},u≠ .run→tK P w0 g capt h' u (aHm w0 rs Q X fr')→LeavesInM Fence.wide 0 P fn a'.tmps (nK w0 m0 h0 w00 Q X) a'.defers u w':=fun {u} hu k=>by
  rw[hdef]
  refine oJ hu h00 qs w' hnd st hqs' fun w2 st2 hsame=> ?_
  refine⟨hu,.inr ⟨fun hh=>by simp[Fence.wide]at hh,.func g,q,g,q,rfl,?_,fun _ _=>trivial,?_⟩⟩
  ·have:=jF (P:=P) (w:=w2) (vs:=q) k.1
   simpa[invoke]using this
  ·refine CallsDIn.mono (k.2 m' w2 q st2.sim hq2 hb2) fun e u' w3 ⟨v',e1,m3,h3,st3,hk⟩=> ?_
   subst e1
   have st4:=st2.trans st3
   have hf3:FR m3 h3.length fr' a'.tmps:=FR.stepS sa'.frame st3
   have hr3:∀c∈rs1,w00.heap.size≤c∧w3.heap[c]? = some (.deferred (some []))∧∀(i:Nat) b,h3[i]? = some (some b)→m3.blk i≠c:=fun c hc=>by
    obtain⟨k1,k2,k3⟩:=hr1 c hc
    have hw2:w2.heap[c]? = some (.deferred (some [])):=by rw[hsame c k1]; exact k2
    have hc2:c<w2.heap.size:=by
     rcases Nat.lt_or_ge c w2.heap.size with hl | hl
     ·exact hl
     ·rw[Array.getElem?_eq_none hl]at hw2; cases hw2
    refine⟨(hrs1 c hc).1,by rw[st3.mods.same c hc2 k3]; exact hw2,fun i b hi e=> ?_⟩
    obtain⟨j,b2,hj,e'⟩:=st3.roots i b hi (by omega)
    exact k3 j b2 hj (e'.trans e)
   unfold aHm at hk
   show LeavesInM Fence.wide 0 P fn a'.tmps (nK w0 m0 h0 w00 Q X) (rs1.map nE) (settle u') w3
   generalize settle u'=u2 at hk
   have:=oJ (P:=P) (fn:=fn) (tmps:=a'.tmps) (R:=nK w0 m0 h0 w00 Q X) (ds:=[]) (u:=u2) (by rintro rfl; exact hk) h00 rs1 w3 hnd1 st4 hr3 fun w5 st5 _=>by
    cases u2 with
    | run=>exact hk.elim
    | returning=>
     obtain⟨v,hres,hq⟩:=hk
     obtain⟨v2,r1,r2,r3⟩:=iZ hrs st5.sim hf3 hres
     exact⟨v2,r1,.inl ⟨v2,rfl,m3,v,h3,st5,r2,r3,hq⟩⟩
    | panicking ch=>exact .inr ⟨ch,rfl,m3,h3,st5,hk⟩
   rwa [List.append_nil]at this
 cases e with
 | normal=>exact fin (by simp) qk
 | ret=>exact fin (by simp) qk
 | panic ch=>exact fin (by simp) qk
 | exit id=>exact qk.elim
 | goto l=>exact qk.elim
 | outgrown=>exact qk.elim
theorem EvD_sx(hm:P.follows .mixedOrders=true){rs:List RV}{h0:Heap}{Q:AV→Heap→Prop}{X:List PanicEntry→Heap→Prop}{x y:SC}(g:x.good=true)(e:sx P w0 none nt h0.length x fr h (dQ P w0 nt rs h0 Q X y.er)):EvD P w0 nt rs h0 Q X (SC.seq x y).er fr h:=
 aOr (dW hm x g e)
theorem aOs(hm:P.follows .mixedOrders=true){rs:List RV}{h0:Heap}{Q:AV→Heap→Prop}{X:List PanicEntry→Heap→Prop}{l:List MIx}{fo:Opd}{y:SC}(g:y.good=true)
 (e:vc P w0 l fr h fun fr1 h1=>∃g capt,fo.ev fr1= .fn (.func g) [] capt∧sx P w0 none nt h1.length y fr1 h1 (defK P w0 rs g capt Q X)):EvD P w0 nt rs h0 Q X (SC.seq (.reg (l++[.op none none (.defer fo [])])) y).er fr h:=
 aH0 (iW e fun _ _ ⟨a,b,c,d⟩=>⟨a,b,c,dW hm y g d⟩)
def zY(P:Program):List Deferred→World→(World→Prop)→Prop
 | [],w,K=>K w
 | d::ds,w,K=>∃r w',d.target= .collected r∧(Instr.takeDeferred r).run P w= .ok [] w'∧zY P ds w' K
theorem wF{F:Fence}{n:Nat}:∀(ds:List Deferred) (w:World) (fr:Frame) (cs:List Frame) {K:World→Prop},fr.mode≠ .run→fr.defers=ds→F.fn fr.fn→F.room (cs.length+1+n)→zY P ds w K →
 ∃w',K w'∧StepsIn (Machine.fenced P F) P (lone fr cs w) (lone { fr with defers:=[] } cs w')
 | [],w,fr,cs,K,_,hd,_,_,k=>⟨w,k,by
  have:({ fr with defers:=[] }:Frame)=fr:=by rw[←hd]
  rw[this]; exact StepsIn.refl _⟩
 | d::ds,w,fr,cs,K,hm,hd,hF,hr,⟨r,w',htar,htake,k⟩=>by
  have h1:=step_collected (cs:=cs) hm hd htar htake
  have i1:(lone fr cs w).fenced P F:=fenced_out hF hr hm hd (fun g hg=>by rw[htar]at hg; simp[Target.leads]at hg)
  obtain⟨w2,k2,s2⟩:=wF (n:=n) ds w' { fr with defers:=[]++ds } cs hm rfl hF hr k
  exact⟨w2,k2,StepsIn.trans (.one i1 h1) s2⟩
theorem aGW{m m':Emb}{h h':Heap}{w:World}(h0:w0.heap.size≤w.heap.size) :
 ∀(qs:List Nat) (w1:World),qs.Nodup→bU w0 m m' h h' w w1→(∀q∈qs,w.heap.size≤q∧w1.heap[q]? = some (.deferred (some []))∧∀(i:Nat) b,h'[i]? = some (some b)→m'.blk i≠q)→zY P (qs.map nE) w1 fun w2=>bU w0 m m' h h' w w2:=by
 intro qs
 induction qs with
 | nil=>intro w1 _ st1 _; exact st1
 | cons q qs ih=>
  intro w1 hnd st1 hall
  obtain⟨g1,g2,g3⟩:=hall q List.mem_cons_self
  have hlt:q<w1.heap.size:=by
   rcases Nat.lt_or_ge q w1.heap.size with hl | hl
   ·exact hl
   ·rw[Array.getElem?_eq_none hl]at g2; cases g2
  simp only[List.nodup_cons]at hnd
  refine⟨q,eO w1 q (.deferred none),rfl,?_,ih _ hnd.2 (st1.aside g1 g3 h0) (fun q' hq'=> ?_)⟩
  ·have e1:=dX (P:=P) g2 (by simp)
   have e2:=gJ (P:=P) (.deferred none) g2 (by simp)
   simp only[Instr.takeDeferred,Sem.run_bind,e1,Result.andThen_ok,e2,Sem.run_pure]
   rfl
  ·obtain⟨k1,k2,k3⟩:=hall q' (List.mem_cons_of_mem _ hq')
   refine⟨k1,?_,k3⟩
   have hne:q'≠q:=fun e=>by rw[e]at hq'; exact hnd.1 hq'
   rw[dS hne]
   exact k2
theorem vC{f:FuncId}{mf:MF}(hf:tD P f=some mf)(hb:dH P f=true){args:List AV}(hn:args.length≤mf.nt){d:Option Nat}{rest:MC}(hbody:mf.body= .seq (.reg [.op d none .recov]) rest)
 {u u':FrameMode} {x:AV} (hu:(u= .returning∧u'= .returning∧x= .nilI)∨(u= .panicking (pan x)∧u'= .panicking [{ v:=x.val,recovered:=true }]∧x.clo=true)) {Q:FrameMode→Heap→Prop}
 (e:HB h→AV.bdds h.length args→EvM P w0 none mf.nt h.length rest ((dO args 0).put d x) h fun e fr' h'=>(e= .normal∨e= .ret)∧(∃v,jN w0 mf.res fr' h'=some v)∧Q u' h'):tK P w0 f args h u Q:=by
 refine⟨hb,fun m w vs s hv hbd=>⟨trivial,fun c₀ cs hc₀ hroom=> ?_⟩⟩
 simp only[tD,qC,qD]at hf
 obtain⟨fn,hfn,c,hc,rs,hrs,b,hcb,rfl⟩:=hf
 simp only at e hn hbody
 subst hbody
 have sa:=aFY (mf:=⟨fn.ntmps,rs,.seq (.reg [.op d none .recov]) rest⟩) rfl hn s hv hbd
 obtain⟨cx,cy,rfl,hcx,hcy⟩:=rD hcb
 obtain⟨id,ops,rfl,hl⟩:=nV hcx
 have hsz:ops.toList.length=1:=by have:=(vI hl).1; simpa using this
 obtain⟨o,ho⟩:∃o,ops.toList=[o]:=List.length_eq_one_iff.1 hsz
 have ho':ops= #[o]:=Array.ext' ho
 rw[ho]at hl
 simp only[List.mapM_cons,List.mapM_nil,Option.bind_eq_bind,qC,Option.pure_def,Option.some.injEq,List.cons.injEq]at hl
 obtain⟨z,hz,_,rfl,rfl,_⟩:=hl
 obtain⟨hdst,hdok,hgd,at',as',hop⟩:d=o.dst∧uU fn.ntmps o.dst=true∧vW ops o.guard=some none∧∃as' at',o.op= .call { callee:= .builtin .recover,args:=as',argTypes:=at' }:=by
  unfold fI at hz
  split at hz
  ·rename_i hd
   simp only[qC]at hz
   obtain⟨g,hg,hx⟩:=hz
   split at hx
   ·simp only[qC,qD]at hx
    obtain⟨_,_,_,_,hx⟩:=hx
    cases hx
   ·simp only[qD]at hx
    obtain⟨mo,hmo,hx⟩:=hx
    simp only[MIx.op.injEq]at hx
    obtain⟨rfl,rfl,rfl⟩:=hx
    refine⟨rfl,hd,hg,?_⟩
    generalize o.op=op at hmo
    unfold cop at hmo
    split at hmo
    all_goals first
     | (exfalso; (repeat' first | (cases hmo; done) | (simp only[qC,qD]at hmo) | (obtain⟨_,_,hmo⟩:=hmo) | split at hmo); done)
     | skip
    rename_i bb args3 at3
    split at hmo
    all_goals first
     | (exact⟨_,_,rfl⟩)
     | (exfalso; (repeat' first | (cases hmo; done) | (simp only[qC,qD]at hmo) | (obtain⟨_,_,hmo⟩:=hmo) | split at hmo); done)
  ·cases hz
 subst ho'
 let a0:Act:={ tmps:=vs++Array.replicate (fn.ntmps - vs.size) undef,defers:=[] }
 let Qf:Exit→Act→List Frame→World→Prop:=fun e a' cs' w'=>∃m' fr' h',cs'={ c₀ with mode:=u' }::cs∧dB h.length w0 m m' h h' w w'∧SA w0 none none fn.ntmps h.length ⟨w.heap.size,[]⟩ m' fr' h' a' w' ∧
  (e= .normal∨e= .ret)∧(∃v,jN w0 rs fr' h'=some v)∧Q u' h'
 have hrest:∀v:Value,VR m x v→x.bdd h.length→cy.wpIn Fence.wide 0 P (fun e a' w'=>Qf e a' ({ c₀ with mode:=u' }::cs) w') (a0.put o.dst v) w:=fun v hv1 hv2=>by
  have sa1:SA w0 none none fn.ntmps h.length ⟨w.heap.size,[]⟩ m ((dO args 0).put o.dst x) h (a0.put o.dst v) w:=sa.put hdok (.refl s) hv1 hv2
  rw[hdst]at e
  exact wpIn_mono (e (fun i b hi=>(s.at_ i b hi).2.2) hbd cy hcy m _ w ⟨w.heap.size,[]⟩ none sa1) fun e a' w' ⟨m',fr',h',stz,sa',q⟩=>⟨m',fr',h',rfl,stz,sa',q⟩
 have main:(Code.seq (.region id #[o] false) cy).wpSIn Fence.wide 0 P Qf a0 (c₀::cs) w:=by
  refine wpSIn_seq (wpSIn_region ?_)
  have hrun:(execOp a0.eval o).run P w= .ok .recover w:=by simp[execOp,hop,resolve,invoke,builtin]
  have hwant:Region.wanted o (yielded #[o] a0.tmps)=true:=iP hgd sa.frame (b:=true) rfl
  show wpOpsSIn Fence.wide 0 P #[o] _ [0] a0 (c₀::cs) w
  have h0:(#[o]:Array Oper)[0]? = some o:=rfl
  simp only[wpOpsSIn,h0,hwant,if_true,hrun]
  refine⟨fun _ _=>trivial,?_⟩
  rcases hu with⟨rfl,rfl,rfl⟩ | ⟨rfl,rfl,hx⟩
  ·have hr:recoverD (c₀::cs)=none:=by simp[recoverD,hc₀]
   have hcc:({ c₀ with mode:= .returning }:Frame)=c₀:=by rw[←hc₀]
   have:=wpSIn_of_wpIn (F:=Fence.wide) (n:=0) rfl (hrest .nilIface (by simp[VR]) trivial)
   rw[hcc]at this
   simp only[hr]
   exact this
  ·obtain⟨k1,k2⟩:=AV.clo_spec x hx m h.length
   have hr:recoverD (c₀::cs)=some (x.val,{ c₀ with mode:= .panicking [{ v:=x.val,recovered:=true }] }::cs):=by simp[recoverD,hc₀,pan]
   simp only[hr]
   exact wpSIn_of_wpIn (F:=Fence.wide) (n:=0) rfl (hrest x.val ((k1 _).2 rfl) k2)
 let b:Frame:={ (default:Frame)with fn:=f,kind:= .deferred,roundOf:=none }
 have henter:Frame.enter P f vs .deferred=b.atR a0 [.code (.seq (.region id #[o] false) cy)]:=by
  simp[Frame.enter,Frame.atR,hfn,hc,b,a0]
 obtain⟨e,a',cs',w',hl',⟨m',fr',h',rfl,stz,sa',he,⟨v,hres⟩,hq⟩,harr⟩:=main b [] rfl rfl trivial hroom
 rw[←henter]at harr
 have st:=stz.toS
 obtain⟨qs,hnd,hdef,hqs⟩:=sa'.marks
 rw[List.append_nil]at hdef
 have hmo:=aGW (P:=P) s.size qs w' hnd st hqs
 rw[←hdef]at hmo
 have hend:∀todo,StepsIn (Machine.fenced P Fence.wide) P (lone (Frame.enter P f vs .deferred) (c₀::cs) w) (lone { b.atR a' todo with mode:= .returning } ({ c₀ with mode:=u' }::cs) w') →
  ∃e u2 w2 fr2,(∃v',e= .returned v'∧∃m' h',bU w0 m m' h h' w w2∧Q u2 h')∧ComesIn (Machine.fenced P Fence.wide) P (lone (Frame.enter P f vs .deferred) (c₀::cs) w) (lone fr2 ({ c₀ with mode:=u2 }::cs) w2) e∧fr2.kind= .deferred∧fr2.fn=f∧fr2.going P w2 e:=fun todo hs=>by
  obtain⟨w2,st2,s2⟩:=wF (F:=Fence.wide) (n:=0) a'.defers w' { b.atR a' todo with mode:= .returning } ({ c₀ with mode:=u' }::cs) (by simp) rfl trivial hroom hmo
  obtain⟨v',r1,r2,r3⟩:=iZ hrs st2.sim sa'.frame hres
  exact⟨.returned v',u',w2,_,⟨v',rfl,m',h',st2,hq⟩,StepsIn.trans hs s2,rfl,rfl,rfl,rfl,fn,hfn,r1⟩
 rcases he with rfl | rfl
 ·exact hend [] (StepsIn.trans harr (.one (fenced_calm (fr:=b.atR a' []) trivial hroom rfl) (stepR_end rfl)))
 ·obtain⟨todo,hs⟩:=harr.1 rfl
  exact hend todo hs
end
theorem lT{ms:List Nat}{H:Heap}{c:Nat}(h:c∈ms)(hc:c<H.length):(msk ms H)[c]? = some none:=by rw[xM _ _ _ hc,if_pos h]
theorem aT{ms:List Nat}{H:Heap}{c:Nat}(h:c∉ms):(msk ms H)[c]? = H[c]? := by
 by_cases hc:c<H.length
 ·rw[xM _ _ _ hc,if_neg h]
 ·rw[List.getElem?_eq_none (by rw[cD]; omega),List.getElem?_eq_none (by omega)]
theorem vO{ms:List Nat}{A B:Heap}(hl:A.length≤B.length)(h:∀(i:Nat) b,i∉ms→A[i]? = some (some b)→B[i]? = some (some b)):aB (msk ms A) (msk ms B):=by
 refine⟨by rw[cD,cD]; exact hl,fun i b e=> ?_⟩
 by_cases hi:i∈ms
 ·by_cases hc:i<A.length
  ·rw[lT hi hc]at e; cases e
  ·rw[List.getElem?_eq_none (by rw[cD]; omega)]at e; cases e
 ·rw[aT hi]at e ⊢; exact h i b hi e
theorem lL{ms ns:List Nat}{A:Heap}(h:∀i∈ms,i∈ns):aB (msk ns A) (msk ms A):=by
 refine⟨by rw[cD,cD]; exact Nat.le_refl _,fun i b e=> ?_⟩
 by_cases hi:i∈ns
 ·by_cases hc:i<A.length
  ·rw[lT hi hc]at e; cases e
  ·rw[List.getElem?_eq_none (by rw[cD]; omega)]at e; cases e
 ·rw[aT hi]at e; rw[aT fun x=>hi (h i x)]; exact e
theorem bD{ms:List Nat}{A:Heap}:aB (msk ms A) A:=lL (ms:=[]) (fun i hi=>by cases hi)
theorem uF{ms:List Nat}{A:Heap}{i:Nat}{x:Option Blk}(h:i∈ms):msk ms (A.set i x)=msk ms A:=by
 refine List.ext_getElem? fun c=> ?_
 by_cases hc:c<A.length
 ·rw[xM _ _ _ (by simpa using hc),xM _ _ _ hc]
  split
  ·rfl
  ·rename_i hcm
   rw[qB fun e=>hcm (by rw[←e]; exact h)]
 ·rw[List.getElem?_eq_none (by rw[cD,List.length_set]; omega),List.getElem?_eq_none (by rw[cD]; omega)]
theorem nT{ms:List Nat}{A L:Heap}:aB (msk ms A) (msk ms (A++L)):=vO (by simp) fun i b _ e=>aA e
structure Keep(C:List Nat)(A B:Heap):Prop where
 le:A.length≤B.length
 at_:∀(i:Nat) b,i∉C→A[i]? = some (some b)→B[i]? = some (some b)
theorem Keep.refl{C:List Nat}{A:Heap}:Keep C A A:=⟨Nat.le_refl _,fun _ _ _ e=>e⟩
theorem Keep.trans{C:List Nat}{A B D:Heap}(s:Keep C A B)(t:Keep C B D):Keep C A D:=⟨Nat.le_trans s.le t.le,fun i b hi e=>t.at_ i b hi (s.at_ i b hi e)⟩
theorem Keep.more{C D:List Nat}{A B:Heap}(s:Keep C A B)(h:∀i∈C,i∈D):Keep D A B:=⟨s.le,fun i b hi e=>s.at_ i b (fun x=>hi (h i x)) e⟩
theorem Keep.app{C:List Nat}{A B L:Heap}(s:Keep C A B):Keep C A (B++L):=⟨by rw[List.length_append]; have:=s.le; omega,fun i b hi e=>aA (s.at_ i b hi e)⟩
theorem aB.toK{C:List Nat}{A B:Heap}(s:aB A B):Keep C A B:=⟨s.1,fun i b _ e=>s.2 i b e⟩
theorem Keep.set{C:List Nat}{A B:Heap}(s:Keep C A B){i:Nat}{x:Option Blk}(hi:i∈C∨A.length≤i):Keep C A (B.set i x):=
 ⟨by rw[List.length_set]; exact s.le,fun j c hj e=>by
  have hne:i≠j:=by
   rintro rfl
   rcases hi with h1 | h1
   ·exact hj h1
   ·have:=aI e; omega
  rw[qB hne]; exact s.at_ j c hj e⟩
theorem Keep.old{C D:List Nat}{A B:Heap}(s:Keep C A B)(h:∀i∈C,i∈D∨A.length≤i):Keep D A B:=
 ⟨s.le,fun i b hi e=>s.at_ i b (fun x=>(h i x).elim hi fun y=>by have:=aI e; omega) e⟩
theorem Keep.msk{C ms:List Nat}{A B:Heap}(s:Keep C A B)(h:∀i∈C,i∈ms∨A.length≤i):aB (msk ms A) (msk ms B):=
 vO s.le (s.old h).at_
theorem Keep.mskm{C ms ns:List Nat}{A B:Heap}(s:Keep C A B)(h:∀i∈C,i∈ms∨A.length≤i)(h2:∀i∈ns,i∈ms∨A.length≤i):aB (Ab.msk ms A) (Ab.msk ns B):=by
 refine⟨by rw[cD,cD]; exact s.le,fun i b e=> ?_⟩
 have hl:i<A.length:=by have:=aI e; rwa [cD]at this
 have hm:i∉ms:=fun hi=>by rw[lT hi hl]at e; cases e
 rw[aT hm]at e
 rw[aT fun hi=>(h2 i hi).elim hm fun hx=>by omega]
 exact s.at_ i b (fun hi=>(h i hi).elim hm fun hx=>by omega) e
section
variable {P:Program} {w0:World} {α:Type} {q:Nat} {C O:List Nat} {V:α→Heap→List AV→Prop} {g:List Nat→Prop} {K:Heap→Prop}
def dC(P:Program)(w0:World)(q:Nat)(C:List Nat)(V:α→Heap→List AV→Prop)(g:List Nat→Prop)(K:Heap→Prop):List α→List Nat→Heap→Prop
 | [],O,H=>∀H2,Keep O H H2→K H2
 | x::r,O,H=>∀H2 args O2,g O2→Keep O H H2→(∀i∈O2,i∈O∨H.length≤i)→(∀i∈O2,i<H2.length)→V x H2 args →
  cR P w0 q args H2 fun v H3=>Keep C H2 H3∧((v= .bool true∧dC P w0 q C V g K r O2 H3)∨(v= .bool false∧∀H4,Keep O2 H3 H4→K H4))
theorem Keep.grow{O O2:List Nat}{H H2 H3:Heap}(t:Keep O H H2)(h:∀i∈O2,i∈O∨H.length≤i)(u:Keep O2 H2 H3):Keep O H H3:=
 ⟨Nat.le_trans t.le u.le,fun i b hi e=>u.at_ i b (fun hx=>(h i hx).elim hi fun hy=>by have:=aI e; omega) (t.at_ i b hi e)⟩
theorem dC.grow{l:List α}{H H2:Heap}{O2:List Nat}(a:dC P w0 q C V g K l O H)(t:Keep O H H2)(h:∀i∈O2,i∈O∨H.length≤i):dC P w0 q C V g K l O2 H2:=by
 cases l with
 | nil=>exact fun H3 t2=>a H3 (t.grow h t2)
 | cons x r=>exact fun H3 args O3 g3 t2 h3 h4 hv=>a H3 args O3 g3 (t.grow h t2) (fun i hi=>(h3 i hi).elim (h i) fun hx=> .inr (Nat.le_trans t.le hx)) h4 hv
theorem dC.keep{l:List α}{H H2:Heap}(a:dC P w0 q C V g K l O H)(t:Keep O H H2):dC P w0 q C V g K l O H2:=a.grow t fun i hi=> .inl hi
def IterR(P:Program)(w0:World)(q:Nat)(C:List Nat)(V:α→Heap→List AV→Prop)(g:List Nat→Prop)(K:Heap→Prop)(r:List α)(y:AV)(O:List Nat)(H:Heap):Prop:=
 (y= .bool true∧dC P w0 q C V g K r O H)∨(y= .bool false∧∀H2,Keep O H H2→K H2)
theorem IterR.grow{r:List α}{y:AV}{H H2:Heap}{O2:List Nat}(a:IterR P w0 q C V g K r y O H)(t:Keep O H H2)(h:∀i∈O2,i∈O∨H.length≤i):IterR P w0 q C V g K r y O2 H2:=by
 rcases a with⟨e,a⟩ | ⟨e,a⟩
 ·exact .inl ⟨e,a.grow t h⟩
 ·exact .inr ⟨e,fun H3 t2=>a H3 (t.grow h t2)⟩
theorem IterR.keep{r:List α}{y:AV}{H H2:Heap}(a:IterR P w0 q C V g K r y O H)(t:Keep O H H2):IterR P w0 q C V g K r y O H2:=a.grow t fun i hi=> .inl hi
theorem dC.call{x:α}{r:List α}{H H2:Heap}{args:List AV}(a:dC P w0 q C V g K (x::r) O H)(t:Keep O H H2)(O2:List Nat)(hg:g O2)(h1:∀i∈O2,i∈O∨H.length≤i)(h2:∀i∈O2,i<H2.length)(hv:V x H2 args) :
 bE P w0 (.yld q) args H2 fun v H3=>Keep C H2 H3∧IterR P w0 q C V g K r v O2 H3:=aAd (a H2 args O2 hg t h1 h2 hv)
end
theorem aAP{P:Program}{w0:World}{r:Option Nat}{nt Z:Nat}{l:List MIx}{bef:List (List Nat)}{fr:Fr}{h:Heap}(hm:P.follows .mixedOrders=true){Q:Exit→Fr→Heap→Prop}{k:List It}{l':List MIx}(el:l=l')(hf:zD l bef=true)(e:rv P w0 r nt Z Q l' k fr h):dr P w0 r nt Z Q l bef k fr h:=by
 subst el
 exact aLI hm hf e
section
variable {P:Program} {w0:World} {r:Option Nat} {nt Z:Nat} {fr:Fr} {h:Heap} {l lp:List MIx} {bef:List (List Nat)} {Q:Exit→Fr→Heap→Prop} {k:List It}
def aBD(o:Option (AV×Heap))(v:AV):Prop:=∃h',o=some (v,h')
@[go_sem] theorem chkV_s {u v:AV} {h':Heap}:aBD (some (u,h')) v=(u=v):=by simp[aBD]
@[go_sem] theorem chkV_o {u v:AV} {h':Heap}:aBD (onV (some u) h') v=(u=v):=by simp[aBD,onV]
def wZ(c:AV)(b:Bool)(o:Option (AV×Heap))(v:AV):Prop:=match c with
 | .bool c=>(c=b→aBD o v)∧(c= !b→v= .tup [])
 | .tup []=>v= .tup []
 | _=>False
section
variable {o:Option (AV×Heap)} {v:AV}
@[go_sem] theorem chkG_tt:wZ (.bool true) true o v=aBD o v:=by simp[wZ]
@[go_sem] theorem chkG_ff:wZ (.bool false) false o v=aBD o v:=by simp[wZ]
@[go_sem] theorem chkG_tf:wZ (.bool true) false o v=(v= .tup []):=by simp[wZ]
@[go_sem] theorem chkG_ft:wZ (.bool false) true o v=(v= .tup []):=by simp[wZ]
@[go_sem] theorem chkG_u {b:Bool}:wZ (.tup []) b o v=(v= .tup []):=(rfl)
end
def aAi(w0:World):List (Nat×MIx)→Fr→Heap→Prop
 | [],_,_=>True
 | u::us,fr,h=>(match u.2 with
  | .op (some t) none o=>aBD (aop w0 o fr h) (fr.get t)
  | .op (some t) (some (g,b)) o=>wZ (fr.get g) b (aop w0 o fr h) (fr.get t)
  | _=>False)∧aAi w0 us fr h
@[go_sem] theorem chkM_n:aAi w0 [] fr h=True:=(rfl)
@[go_sem] theorem chkM_o {u t:Nat} {o:MOp} {us:List (Nat×MIx)}:aAi w0 ((u,.op (some t) none o)::us) fr h=(aBD (aop w0 o fr h) (fr.get t)∧aAi w0 us fr h):=(rfl)
@[go_sem] theorem chkM_g {u t g:Nat} {b:Bool} {o:MOp} {us:List (Nat×MIx)}:aAi w0 ((u,.op (some t) (some (g,b)) o)::us) fr h=(wZ (fr.get g) b (aop w0 o fr h) (fr.get t)∧aAi w0 us fr h):=(rfl)
abbrev xC:=List (List (Nat×MIx)×List MIx)
def flQ(P:Program)(w0:World)(r:Option Nat)(nt Z:Nat)(K:Fr→Heap→Prop):xC→Exit→Fr→Heap→Prop
 | [],_,fr,h=>K fr h
 | s::segs,_,fr,h=>aAi w0 s.1 fr h∧rv P w0 r nt Z (flQ P w0 r nt Z K segs) s.2 [] fr h
variable {K:Fr→Heap→Prop}
@[go_sem] theorem flQ_n {e:Exit}:flQ P w0 r nt Z K [] e fr h=K fr h:=(rfl)
@[go_sem] theorem flQ_c {e:Exit} {us:List (Nat×MIx)} {s:List MIx} {segs:xC}:flQ P w0 r nt Z K ((us,s)::segs) e fr h=(aAi w0 us fr h∧rv P w0 r nt Z (flQ P w0 r nt Z K segs) s [] fr h):=(rfl)
def pG:Nat→xC→Nat→List Nat
 | _,[],_=>[]
 | a,s::segs,p=>if p+1=a then s.1.map (·.1)else pG (a+s.2.length) segs p
theorem aEt:∀ {us:List (Nat×MIx)} {fr:Fr} {h:Heap},(∀u∈us,lp[u.1]? = some u.2)→aAi w0 us fr h→aC8 P w0 lp (us.map (·.1)) fr h
 | [],_,_,_,_=>fun u hu=>by cases hu
 | (n,x)::us,fr,h,hu,e=>fun u hm=>by
  simp only[aAi]at e
  rcases List.mem_cons.1 hm with rfl | hm
  ·have hx:=hu _ (List.mem_cons_self)
   obtain⟨e,_⟩:=e
   split at e
   ·rename_i t o
    obtain⟨h',e⟩:=e
    exact⟨_,t,hx,rfl,_,h',e,rfl⟩
   ·rename_i t g b o
    refine⟨_,t,hx,rfl,?_⟩
    simp only[opV,want]
    simp only[wZ]at e
    generalize fr.get g=c at e ⊢
    split at e
    ·rename_i c
     by_cases hc:c=b
     ·subst hc
      obtain⟨h',e⟩:=e.1 rfl
      simp only[beq_self_eq_true]
      exact⟨_,h',e,rfl⟩
     ·have e2:=e.2 (by cases c<;>cases b<;>simp_all)
      have e3:(c==b)=false:=by simpa using hc
      simp only[e3]
      exact e2.symm
    ·exact e.symm
    ·exact e.elim
   ·exact e.elim
  ·exact aEt (fun u hu'=>hu u (by simp[hu'])) e.2 u hm
theorem aBc:∀ {segs:xC} {a p:Nat},p+1<a→pG a segs p=[]
 | [],_,_,_=>rfl
 | s::segs,a,p,h=>by simp only[pG]; rw[if_neg (by omega)]; exact aBc (by omega)
def okS:xC→Bool
 | []=>true
 | [_]=>true
 | s::segs=> !s.2.isEmpty&&okS segs
theorem okS_c{s:List (Nat×MIx)×List MIx}{segs:xC}(h:okS (s::segs)=true):okS segs=true∧(s.2=[]→segs=[]):=by
 cases segs with
 | nil=>exact⟨rfl,fun _=>rfl⟩
 | cons t segs=>
  simp only[okS,Bool.and_eq_true,Bool.not_eq_true',List.isEmpty_eq_false_iff]at h
  exact⟨by simpa[okS]using h.2,fun e=>absurd e h.1⟩
theorem aF4{R:Nat→List Nat}:∀(segs:xC) (pre:List MIx) (fr fr1:Fr) (h:Heap) (e:Exit),lp=pre++(segs.map (·.2)).flatten→okS segs=true→pre≠[]→(∀p,pre.length≤p+1→R p=pG pre.length segs p)→(∀q∈segs,∀u∈q.1,lp[u.1]? = some u.2) →
 FE fr fr1→flQ P w0 r nt Z K segs e fr h→aC8 P w0 lp (R (pre.length - 1)) fr1 h∧wli P w0 lp R (List.range' pre.length (lp.length - pre.length)) fr1 h fun fr h=>∃fr2,FE fr2 fr∧K fr2 h
 | [],pre,fr,fr1,h,e,el,_,_,hR,_,hfe,q=>by
  have hl:lp.length - pre.length=0:=by rw[el]; simp
  rw[hl,hR _ (by omega)]
  exact⟨fun u hu=>by simp[pG]at hu,fr,hfe,q⟩
 | (us,s)::segs,pre,fr,fr1,h,e,el,hne,hpre,hR,hus,hfe,q=>by
  have hp:0<pre.length:=List.length_pos_iff.2 hpre
  obtain⟨hne,hemp⟩:=okS_c hne
  by_cases hs:s=[]
  ·obtain rfl:=hemp hs
   subst hs
   have hl:lp.length - pre.length=0:=by rw[el]; simp
   rw[hl,hR _ (by omega)]
   simp only[pG]
   rw[if_pos (by omega)]
   exact⟨oM (fun _ _ _ _ t _=>(hfe t).symm) (aEt (fun u hu=>hus (us,[]) (by simp) u hu) q.1),fr,hfe,q.2⟩
  have hs0:0<s.length:=List.length_pos_iff.2 hs
  refine⟨?_,?_⟩
  ·rw[hR _ (by omega)]
   simp only[pG]
   rw[if_pos (by omega)]
   exact oM (fun _ _ _ _ t _=>(hfe t).symm) (aEt (fun u hu=>hus (us,s) (by simp) u hu) q.1)
  ·have hlen:lp.length - pre.length=s.length+(lp.length - (pre++s).length):=by rw[el]; simp; omega
   rw[hlen,←List.range'_append_1]
   have:=aA4 (P:=P) (w0:=w0) (l:=lp) (R:=R) (is:=List.range' (pre.length+s.length) (lp.length - (pre++s).length)) (K:=fun fr h=>∃fr2,FE fr2 fr∧K fr2 h) s pre ((segs.map (·.2)).flatten) fr fr1 h (by rw[el]; simp) hfe (fun p h1 h2=> ?_) (fun f f1 g ef q2=> ?_) q.2
   ·exact this
   ·rw[hR p (by omega)]
    simp only[pG]
    rw[if_neg (by omega)]
    exact aBc (by omega)
   ·have ih:=aF4 (R:=R) segs (pre++s) f f1 g .normal (by rw[el]; simp) hne (by simp[hs]) (fun p hp2=> ?_) (fun q hq=>hus q (by simp[hq])) ef q2
    ·rw[List.length_append]at ih
     exact⟨fun _=>ih.1,by rw[List.length_append]; exact ih.2⟩
    ·rw[List.length_append]at hp2
     rw[hR p (by omega)]
     simp only[pG]
     rw[if_neg (by omega),List.length_append]
def aBb(s0:List MIx)(segs:xC):Bool:= !s0.isEmpty&&okS segs
theorem aJU(hm:P.follows .mixedOrders=true)(tl:List MIx)(htl:tl=[]∨(∃d f as,tl=[.call d none f as])∧∀j,j<l.length→bfr bef l.length j=true)(π:List Nat)(s0:List MIx)(segs:xC)(hlp:π.map (fun i=>l[i]?)=(s0++(segs.map (·.2)).flatten).map some)(hus:(segs.map (·.1)).flatten.map (fun u=>(s0++(segs.map (·.2)).flatten)[u.1]?)=(segs.map (·.1)).flatten.map fun u=>some u.2)
 (hp:(pN l.length π&&(aBb s0 segs&&wM (s0++(segs.map (·.2)).flatten) (fun p q=>Nat.blt p (s0++(segs.map (·.2)).flatten).length&&(Nat.blt q (s0++(segs.map (·.2)).flatten).length&&bfr bef (π.getD p 0) (π.getD q 0))) fun p=>if p<(s0++(segs.map (·.2)).flatten).length then pG s0.length segs p else []))=true)
 (e:rv P w0 r nt Z (flQ P w0 r nt Z (tlK P w0 (unw P w0 r nt Z Q k) tl) segs) s0 [] fr h):dr P w0 r nt Z Q (l++tl) bef k fr h:=by
 simp only[Bool.and_eq_true]at hp
 obtain⟨h1,h2,h3⟩:=hp
 simp only[aBb,Bool.and_eq_true,Bool.not_eq_true',List.isEmpty_eq_false_iff]at h2
 obtain⟨h4,h5⟩:=h2
 obtain⟨lp,elp⟩:∃lp,lp=s0++(segs.map (·.2)).flatten:=⟨_,rfl⟩
 rw[←elp]at hlp hus h3
 refine aGj hm (π:=π) (lp:=lp) tl htl h1 hlp h3 (fun j hj=>if_neg (by omega)) ?_
 have hus':∀q∈segs,∀u∈q.1,lp[u.1]? = some u.2:=fun q hq u hu=>by
  have hm:u∈(segs.map (·.1)).flatten:=List.mem_flatten.2 ⟨q.1,List.mem_map.2 ⟨q,hq,rfl⟩,hu⟩
  exact List.map_inj_left.1 hus u hm
 obtain⟨R,eR⟩:∃R:Nat→List Nat,R=fun p=>if p<lp.length then pG s0.length segs p else []:=⟨_,rfl⟩
 rw[←eR]
 have hR:∀p,R p=pG s0.length segs p∨lp.length≤p:=fun p=>by
  rw[eR]
  rcases Nat.lt_or_ge p lp.length with h | h
  ·exact .inl (if_pos h)
  ·exact .inr h
 have big:∀(segs:xC) (a p:Nat),a+((segs.map (·.2)).flatten).length≤p→pG a segs p=[]:=fun segs=>by
  induction segs with
  | nil=>intro _ _ _; rfl
  | cons s segs ih=>
   intro a p hp
   simp only[List.map_cons,List.flatten_cons,List.length_append]at hp
   simp only[pG]
   rw[if_neg (by omega)]
   exact ih _ _ (by omega)
 have hR2:∀p,R p=pG s0.length segs p:=fun p=>by
  rcases hR p with h | h
  ·exact h
  ·rw[eR]; simp only[if_neg (Nat.not_lt.2 h)]
   exact(big segs _ _ (by rw[elp,List.length_append]at h; exact h)).symm
 have hs0:0<s0.length:=List.length_pos_iff.2 h4
 have:=aA4 (P:=P) (w0:=w0) (l:=lp) (R:=R) (is:=List.range' (0+s0.length) (lp.length - s0.length)) (K:=fun fr h=>∃fr2,FE fr2 fr∧tlK P w0 (unw P w0 r nt Z Q k) tl fr2 h) s0 [] ((segs.map (·.2)).flatten) fr fr h (by rw[elp]; simp) (FE.refl _) (fun p _ hp=> ?_) (fun f f1 g ef q=> ?_) e
 ·rw[List.length_nil,List.range'_append_1]at this
  rw[List.range_eq_range',show lp.length=s0.length+(lp.length - s0.length)by rw[elp]; simp]
  exact this
 ·rw[hR2]; simp only[List.length_nil]at hp; exact aBc (by omega)
 ·have:=aF4 (lp:=lp) (R:=R) segs s0 f f1 g .normal elp h5 h4 (fun p _=>hR2 p) hus' ef q
  simp only[List.length_nil,Nat.zero_add]
  exact⟨fun _=>this.1,this.2⟩
theorem iS(hm:P.follows .mixedOrders=true)(π:List Nat)(s0:List MIx)(segs:xC)(hlp:π.map (fun i=>l[i]?)=(s0++(segs.map (·.2)).flatten).map some)(hus:(segs.map (·.1)).flatten.map (fun u=>(s0++(segs.map (·.2)).flatten)[u.1]?)=(segs.map (·.1)).flatten.map fun u=>some u.2)
 (hp:(pN l.length π&&(aBb s0 segs&&wM (s0++(segs.map (·.2)).flatten) (fun p q=>Nat.blt p (s0++(segs.map (·.2)).flatten).length&&(Nat.blt q (s0++(segs.map (·.2)).flatten).length&&bfr bef (π.getD p 0) (π.getD q 0))) fun p=>if p<(s0++(segs.map (·.2)).flatten).length then pG s0.length segs p else []))=true)
 (e:rv P w0 r nt Z (flQ P w0 r nt Z (un P w0 r nt Z Q .normal k) segs) s0 [] fr h):dr P w0 r nt Z Q l bef k fr h:=by
 have:=aJU (Q:=Q) (k:=k) (r:=r) (nt:=nt) (Z:=Z) hm [] (.inl rfl) π s0 segs hlp hus hp e
 rwa [List.append_nil]at this
theorem dr_fpC(hm:P.follows .mixedOrders=true){l0:List MIx}{d:Option Nat}{f:Opd}{xs:List Opd}(el:l=l0++[.call d none f xs])(π:List Nat)(s0:List MIx)(segs:xC)(hlp:π.map (fun i=>l0[i]?)=(s0++(segs.map (·.2)).flatten).map some)(hus:(segs.map (·.1)).flatten.map (fun u=>(s0++(segs.map (·.2)).flatten)[u.1]?)=(segs.map (·.1)).flatten.map fun u=>some u.2)
 (hl:((List.range l0.length).all fun j=>bfr bef l0.length j)=true)
 (hp:(pN l0.length π&&(aBb s0 segs&&wM (s0++(segs.map (·.2)).flatten) (fun p q=>Nat.blt p (s0++(segs.map (·.2)).flatten).length&&(Nat.blt q (s0++(segs.map (·.2)).flatten).length&&bfr bef (π.getD p 0) (π.getD q 0))) fun p=>if p<(s0++(segs.map (·.2)).flatten).length then pG s0.length segs p else []))=true)
 (e:rv P w0 r nt Z (flQ P w0 r nt Z (un P w0 r nt Z Q .normal (.callE d f xs []::k)) segs) s0 [] fr h):dr P w0 r nt Z Q l bef k fr h:=by
 subst el
 rw[List.all_eq_true]at hl
 exact aJU hm _ (.inr ⟨⟨_,_,_,rfl⟩,fun j hj=>hl j (List.mem_range.2 hj)⟩) π s0 segs hlp hus hp e
end
section
variable {P:Program} {w0:World} {r:Option Nat} {nt Z:Nat} {fr:Fr} {h:Heap} {l:List MIx} {bef:List (List Nat)} {Q:Exit→Fr→Heap→Prop} {k:List It}
def Wk(fr2 fr:Fr):Prop:=∀t,fr2.get t= .undef∨fr2.get t=fr.get t
theorem uV(e:dr P w0 r nt Z (fun e fr h=>∃fr2:Fr,Wk fr2 fr∧un P w0 r nt Z Q e k fr2 h) l bef [] fr h):dr P w0 r nt Z Q l bef k fr h:=fun c hc m a w B lr sa=>
 wpIn_mono (e c hc m a w B lr sa) fun _ _ _ ⟨m',_,h',s,sa',fr2,hw,q⟩=>⟨m',fr2,h',s,sa'.frame' hw,q⟩
theorem aDz{L fr0:Fr}{t:Nat}(h:∀p∈L,p.1≠t):Fr.get (L++fr0) t=fr0.get t:=by
 induction L with
 | nil=>rfl
 | cons p L ih=>
  have:Nat.beq t p.1=false:=by
   cases hb:Nat.beq t p.1 with
   | false=>rfl
   | true=>exact absurd (cW.1 hb).symm (h p (by simp))
  obtain⟨a,b⟩:=p
  simp only[List.cons_append,Fr.get]
  rw[this]
  exact ih fun q hq=>h q (by simp[hq])
theorem xW:∀(ks:List Nat) (fr:Fr) (t:Nat),(iO fr ks).get t= .undef∨(t∈ks∧(iO fr ks).get t=fr.get t)
 | [],_,_=> .inl rfl
 | k::ks,fr,t=>by
  simp only[iO,Fr.get]
  cases hb:Nat.beq t k with
  | true=>right; rw[cW.1 hb]; exact⟨by simp,rfl⟩
  | false=>
   rcases xW ks fr t with h | ⟨h1,h2⟩
   ·exact .inl h
   ·exact .inr ⟨List.mem_cons_of_mem _ h1,h2⟩
theorem aFq(L:Fr){fr0:Fr}{KS:List Nat}{B:Nat}(hL:L.all (fun p=>Nat.ble B p.1)=true)(hK:∀t∈KS,t<B):Wk (iO fr0 KS) (L++fr0):=fun t=>by
 rcases xW KS fr0 t with e | ⟨e1,e2⟩
 ·exact .inl e
 ·refine .inr (e2.trans (aDz fun p hp=> ?_).symm)
  have h1:=List.all_eq_true.1 hL p hp
  have h2:=hK t e1
  simp only[Nat.ble_eq]at h1
  omega
theorem Wk.cons{fr2 fr:Fr}{t:Nat}{v:AV}(h:Wk fr2 fr)(hv:fr.get t=v):Wk ((t,v)::fr2) fr:=fun s=>by
 simp only[Fr.get]
 cases hb:Nat.beq s t with
 | true=>right; rw[cW.1 hb]; exact hv.symm
 | false=>exact h s
end
inductive Rw where
 | nil
 | int (r:Rw)
 | bool (r:Rw)
 | sl (e r:Rw)
def Rw.size:Rw→Nat
 | .nil=>0
 | .int r | .bool r | .sl _ r=>r.size+1
def Rw.app:Rw→Rw→Rw
 | .nil,b=>b
 | .int r,b=> .int (r.app b)
 | .bool r,b=> .bool (r.app b)
 | .sl e r,b=> .sl e (r.app b)
def aCm(P:Program)(rec:TypeId→Option Rw):List Field→Nat→Option Rw
 | [],_=>some .nil
 | f::fs,off=>if Nat.beq f.offset off then(rec f.type).bind fun a=>if Nat.beq (P.cellsOf f.type) a.size then(aCm P rec fs (off+a.size)).map (a.app ·)else none else none
def oV(P:Program):Nat→TypeId→Option Rw
 | 0,_=>none
 | n+1,t=>match P.underlying t with
  | some .bool=>some (.bool .nil)
  | some (.int .i64)=>some (.int .nil)
  | some (.slice e)=>(oV P n e).bind fun r=>if Nat.beq (P.cellsOf e) r.size then some (.sl r .nil)else none
  | some (.struct fs)=>(aCm P (oV P n) fs.toList 0).bind fun r=>if Nat.beq (P.cellsOf t) r.size then some r else none
  | _=>none
def Gd(w:World):Rw→List Value→Prop
 | .nil,cs=>cs=[]
 | .int r,cs=>∃n cs',cs= .int .i64 n::cs'∧I64 n∧Gd w r cs'
 | .bool r,cs=>∃b cs',cs= .bool b::cs'∧Gd w r cs'
 | .sl e r,cs=>∃v cs',cs=v::cs'∧(v= .slice none 0 0∨∃a len cap,v= .slice (some a) len cap∧len≤cap∧cap≤maxLen∧∀i,i<len→∃c,w.cells? 0 (a.add (i*e.size)) e.size=some c∧Gd w e c)∧Gd w r cs'
theorem Gd.len{w:World}:∀ {r:Rw} {cs:List Value},Gd w r cs→cs.length=r.size
 | .nil,cs,h=>by cases h; rfl
 | .int r,cs,⟨n,cs',e,_,h⟩=>by subst e; simp[Rw.size,h.len]
 | .bool r,cs,⟨n,cs',e,h⟩=>by subst e; simp[Rw.size,h.len]
 | .sl _ r,cs,⟨n,cs',e,_,h⟩=>by subst e; simp[Rw.size,h.len]
theorem Gd.app{w:World}{b:Rw}{ds:List Value}(hb:Gd w b ds):∀ {a:Rw} {cs:List Value},Gd w a cs→Gd w (a.app b) (cs++ds)
 | .nil,cs,h=>by cases h; exact hb
 | .int r,cs,⟨n,cs',e,h1,h⟩=>by subst e; exact⟨n,_,rfl,h1,hb.app h⟩
 | .bool r,cs,⟨n,cs',e,h⟩=>by subst e; exact⟨n,_,rfl,hb.app h⟩
 | .sl _ r,cs,⟨n,cs',e,h1,h⟩=>by subst e; exact⟨n,_,rfl,h1,hb.app h⟩
theorem xK{a b:Nat}(h:Nat.beq a b=true):a=b:=Nat.eq_of_beq_eq_true h
section
variable {H:Type} {enc:TypeId×Value→H} {P:Program} {w:World} {spare:Nat→Bool} {held:Bool}
theorem aAK{fuel:Nat}{rec:TypeId→Option Rw}(ih:∀(t:TypeId) (r:Rw) (cs:List Value) x,rec t=some r→DataW.trod enc P w 0 spare held fuel t cs=some x→Gd w r cs) :
 ∀(fs:List Field) (off:Nat) (r:Rw) (cs:List Value) xs,aCm P rec fs off=some r→cs.length=off+r.size →
  (fs.mapM fun f=>DataW.trod enc P w 0 spare held fuel f.type ((cs.drop f.offset).take (P.cellsOf f.type)))=some xs→Gd w r (cs.drop off)
 | [],off,r,cs,xs,h1,h2,_=>by
  simp only[aCm,Option.some.injEq]at h1
  subst h1
  simp only[Rw.size]at h2
  simp only[Gd]
  exact List.drop_eq_nil_of_le (by omega)
 | f::fs,off,r,cs,xs,h1,h2,h3=>by
  simp only[aCm]at h1
  split at h1
  ·rename_i ho
   have ho:=xK ho
   simp only[qC]at h1
   obtain⟨a,ha,h1⟩:=h1
   split at h1
   ·rename_i hs
    have hs:=xK hs
    simp only[qD]at h1
    obtain⟨b,hb,rfl⟩:=h1
    simp only[List.mapM_cons,Option.bind_eq_bind,qC]at h3
    obtain⟨y,hy,ys,hys,_⟩:=h3
    have hsz:∀a b:Rw,(a.app b).size=a.size+b.size:=fun a b=>by
     induction a with
     | nil=>simp[Rw.app,Rw.size]
     | int r ih=>simp only[Rw.app,Rw.size,ih]; omega
     | bool r ih=>simp only[Rw.app,Rw.size,ih]; omega
     | sl e r _ ih=>simp only[Rw.app,Rw.size,ih]; omega
    rw[hsz]at h2
    have g1:=ih _ _ _ _ ha hy
    rw[ho,hs]at g1
    have g2:=aAK ih fs (off+a.size) b cs ys hb (by omega) hys
    have e:cs.drop off=(cs.drop off).take a.size++cs.drop (off+a.size):=by
     rw[←List.drop_drop,List.take_append_drop]
    rw[e]
    exact g2.app g1
   ·cases h1
  ·cases h1
theorem sU:∀(n:Nat) {fuel:Nat} {t:TypeId} {r:Rw} {cs:List Value} {x:DataW H×List MemPlace},oV P n t=some r→DataW.trod enc P w 0 spare held fuel t cs=some x→Gd w r cs
 | 0,_,_,_,_,_,h,_=>by cases h
 | n+1,0,_,_,_,_,_,h=>by cases h
 | n+1,fuel+1,t,r,cs,x,h1,h2=>by
  simp only[oV]at h1
  generalize hu:P.underlying t=u at h1
  unfold DataW.trod at h2
  rw[hu]at h2
  match u,h1 with
  | some .bool,h1=>
   cases h1
   match cs,h2 with
   | [.bool b],_=>exact⟨b,[],rfl,rfl⟩
  | some (.int .i64),h1=>
   cases h1
   match cs,h2 with
   | [.int k' m],h2=>
    simp only[Option.ite_none_right_eq_some]at h2
    obtain⟨⟨hk,hw⟩,_⟩:=h2
    subst hk
    simp only[Lit.wf,Bool.and_eq_true,decide_eq_true_eq]at hw
    exact⟨m,[],rfl,by simpa[I64,IntKind.min,IntKind.max,IntKind.bits,IntKind.signed]using hw,rfl⟩
  | some (.slice e),h1=>
   simp only[qC]at h1
   obtain⟨re,hre,h1⟩:=h1
   split at h1
   ·rename_i hs
    have hs:=xK hs
    cases h1
    match cs,h2 with
    | [.slice none 0 0],_=>exact⟨_,[],rfl,.inl rfl,rfl⟩
    | [.slice (some a) len cap],h2=>
     simp only[Option.ite_none_right_eq_some]at h2
     obtain⟨⟨_,hlc,hcm⟩,h2⟩:=h2
     simp only[qC]at h2
     obtain⟨elems,hel,_⟩:=h2
     refine⟨_,[],rfl,.inr ⟨a,len,cap,rfl,hlc,hcm,fun i hi=> ?_⟩,rfl⟩
     have key:∀(l:List Nat) (ys:List (DataW H×List MemPlace)),(l.mapM fun i=>(w.cells? 0 (a.add (i*P.cellsOf e)) (P.cellsOf e)).bind (DataW.trod enc P w 0 spare held fuel e))=some ys →
      ∀i∈l,∃c y,w.cells? 0 (a.add (i*P.cellsOf e)) (P.cellsOf e)=some c∧DataW.trod enc P w 0 spare held fuel e c=some y:=by
      intro l
      induction l with
      | nil=>intro ys _ i hi; cases hi
      | cons b l ih=>
       intro ys h i hi
       simp only[List.mapM_cons,Option.bind_eq_bind,qC]at h
       obtain⟨y,⟨c,hc,hy⟩,ys',hys,_⟩:=h
       rcases List.mem_cons.1 hi with rfl | hi
       ·exact⟨c,y,hc,hy⟩
       ·exact ih ys' hys i hi
     obtain⟨c,y,hc,hy⟩:=key _ _ hel i (List.mem_range.2 hi)
     rw[hs]at hc
     exact⟨c,hc,sU n hre hy⟩
   ·cases h1
  | some (.struct fs),h1=>
   simp only[qC]at h1
   obtain⟨re,hre,h1⟩:=h1
   split at h1
   ·rename_i hs
    have hs:=xK hs
    cases h1
    have h2':(if cs.length=P.cellsOf t then(fs.toList.mapM fun f=>DataW.trod enc P w 0 spare held fuel f.type ((cs.drop f.offset).take (P.cellsOf f.type))).map fun xs=>(DataW.agg (xs.map (·.1)),xs.flatMap (·.2))else none)=some x:=by
     cases cs with
     | nil=>exact h2
     | cons c cs=>exact h2
    split at h2'
    ·rename_i hl
     simp only[qD]at h2'
     obtain⟨xs,hxs,_⟩:=h2'
     have:=aAK (fun t r cs x h1 h2=>sU n h1 h2) fs.toList 0 r cs xs hre (by omega) hxs
     simpa using this
    ·cases h2'
   ·cases h1
end
end Go.Proofs.Ab
namespace Go.Proofs.Ab
open Go Go.ChangeShapes Go.WideShapes Go.ChangeAt Go.RowKit
def injV:Value→AV
 | .agg cs=> .agg (cs.toList.map inj)
 | v=>inj v
theorem aCH{v:Value}(h:∀cs,v≠ .agg cs):injV v=inj v:=by
 cases v<;>first | rfl | exact absurd rfl (h _)
theorem aGe(m:Emb)(N:Nat)(v:Value):VR m (injV v) v∧(injV v).bdd N:=by
 have key:∀l:List Value,VRs m (l.map inj) l∧AV.bdds N (l.map inj):=fun l=>by
  induction l with
  | nil=>exact⟨rfl,trivial⟩
  | cons x l ih=>exact⟨⟨x,l,rfl,(aBI m N x).1,ih.1⟩,(aBI m N x).2,ih.2⟩
 by_cases h:∃cs,v= .agg cs
 ·obtain⟨cs,rfl⟩:=h
  exact⟨⟨cs,rfl,(key _).1⟩,(key _).2⟩
 ·rw[aCH fun cs e=>h ⟨cs,e⟩]
  exact aBI m N v
theorem uY(m:Emb)(N:Nat):∀l:List Value,VRs m (l.map injV) l∧AV.bdds N (l.map injV)
 | []=>⟨rfl,trivial⟩
 | x::l=>⟨⟨x,l,rfl,(aGe m N x).1,(uY m N l).1⟩,(aGe m N x).2,(uY m N l).2⟩
def isAgg(P:Program)(t:TypeId):Bool:=match P.underlying t with
 | some (.struct _)=>true
 | _=>false
def aFk(P:Program)(w:World)(t:TypeId)(v:Value):Prop:=
 ∃r,oV P 8 t=some r∧((isAgg P t=true∧∃cs,v= .agg cs∧Gd w r cs.toList)∨(isAgg P t=false∧Gd w r [v]∧∀cs,v≠ .agg cs))
def GArgs(P:Program)(w:World):List TypeId→List Value→Prop
 | [],[]=>True
 | t::ts,v::vs=>aFk P w t v∧GArgs P w ts vs
 | _,_=>False
section
variable {P:Program} {w:World} {t:TypeId} {v:Value}
theorem aFk.agg(g:aFk P w t v)(ha:isAgg P t=true){r:Rw}(hr:oV P 8 t=some r):∃cs,injV v= .agg (cs.map inj)∧Gd w r cs:=by
 obtain⟨r',h1,⟨_,cs,h2,h3⟩ | ⟨h2,_⟩⟩:=g
 ·rw[hr]at h1; cases h1; subst h2
  exact⟨cs.toList,rfl,h3⟩
 ·rw[ha]at h2; cases h2
theorem aFk.one(g:aFk P w t v)(ha:isAgg P t=false){r:Rw}(hr:oV P 8 t=some r):injV v=inj v∧Gd w r [v]:=by
 obtain⟨r',h1,⟨h2,_⟩ | ⟨_,h2,h3⟩⟩:=g
 ·rw[ha]at h2; cases h2
 ·rw[hr]at h1; cases h1
  exact⟨aCH h3,h2⟩
theorem GArgs.nil{vs:List Value}(g:GArgs P w [] vs):vs=[]:=by cases vs with
 | nil=>rfl
 | cons=>exact g.elim
theorem GArgs.cons{ts:List TypeId}{vs:List Value}(g:GArgs P w (t::ts) vs):∃v us,vs=v::us∧aFk P w t v∧GArgs P w ts us:=by cases vs with
 | nil=>exact g.elim
 | cons v us=>exact⟨v,us,rfl,g.1,g.2⟩
end
section
variable {H:Type} {enc:TypeId×Value→H} {P:Program} {w:World}
theorem aNZ{base:Nat}{t:TypeId}{v:Value}{d:DataW H}{ps:List MemPlace}(hr:(oV P 8 t).isSome=true)(ok:Value.okWide P w .any base t v)
 (h:DataW.Trod enc P w 0 (fun _=>true) true t v d ps):aFk P w t v:=by
 obtain⟨r,hr⟩:=Option.isSome_iff_exists.1 hr
 obtain⟨fuel,h⟩:=h
 have g:=sU 8 hr h
 refine⟨r,hr,?_⟩
 have hr':=hr
 rw[show(8:Nat)=7+1 from rfl,oV]at hr'
 simp only[Value.okWide]at ok
 unfold isAgg
 generalize hu:P.underlying t=u at hr' ok ⊢
 match u,hr' with
 | some (.struct fs),_=>
  obtain⟨cs,rfl,_,_⟩:=ok
  exact .inl ⟨rfl,cs,rfl,g⟩
 | some .bool,_=>
  simp only[Cell.okWide,hu]at ok
  cases v with
  | bool b=>exact .inr ⟨rfl,g,fun cs e=>by cases e⟩
  | _=>simp[Cell.ok,hu]at ok
 | some (.int .i64),_=>
  simp only[Cell.okWide,hu]at ok
  cases v with
  | int k n=>exact .inr ⟨rfl,g,fun cs e=>by cases e⟩
  | _=>simp[Cell.ok,hu]at ok
 | some (.slice e),_=>
  simp only[Cell.okWide,hu]at ok
  cases v with
  | slice a l c=>exact .inr ⟨rfl,g,fun cs e=>by cases e⟩
  | _=>simp[Cell.ok,hu]at ok
theorem aCL{base:Nat}:∀ {ts:List TypeId} {vs:List Value} {ds:List (DataW H)} {ps:List MemPlace},(∀t∈ts,(oV P 8 t).isSome=true) →
 (∀(j:Nat) t v,ts[j]? = some t→vs[j]? = some v→Value.okWide P w .any base t v)→DataW.TrodAll enc P w 0 (fun _=>true) true ts vs ds ps→GArgs P w ts vs
 | [],[],[],_,_,_,_=>trivial
 | t::ts,v::vs,d::ds,ps,hr,ok,⟨p,q,h1,h2,_⟩=>
  ⟨aNZ (hr t List.mem_cons_self) (ok 0 t v rfl rfl) h1,aCL (fun t ht=>hr t (List.mem_cons_of_mem _ ht)) (fun j t v a b=>ok (j+1) t v (by simpa using a) (by simpa using b)) h2⟩
 | [],[],_::_,_,_,_,h=>h.elim
 | [],_::_,_,_,_,_,h=>h.elim
 | _::_,[],_,_,_,_,h=>h.elim
 | _::_,_::_,[],_,_,_,h=>h.elim
theorem rN{W W':World}(hl:laidOutB P=true)(hb:Below W.heap.size W W'):∀ {ts:List TypeId} {vs:List Value} {ds:List (DataW H)} {ps:List MemPlace},(∀t∈ts,P.readableRec t=true∧t<P.types.size) →
 DataW.TrodAll enc P W 0 (fun _=>true) true ts vs ds ps→DataW.TrodAll enc P W' 0 (fun b=>decide (b<W.heap.size)) true ts vs ds ps
 | [],[],[],_,_,h=>h
 | t::ts,v::vs,d::ds,ps,hr,h=>by
  have hlt:=DataW.TrodAll.lt h
  obtain⟨p,q,h1,h2,rfl⟩:=h
  have⟨r1,r2⟩:=hr t List.mem_cons_self
  exact⟨p,q,Below.trod hl r1 r2 h1 hb (fun x hx=>hlt x (List.mem_append_left _ hx)),rN hl hb (fun t ht=>hr t (List.mem_cons_of_mem _ ht)) h2,rfl⟩
 | [],[],_::_,_,_,h=>h.elim
 | [],_::_,_,_,_,h=>h.elim
 | _::_,[],_,_,_,h=>h.elim
 | _::_,_::_,[],_,_,h=>h.elim
theorem aJk{C:Checked}{os:Os}{f:FuncId}{fn:Func}{s:ChangeSpec}{conds:List PathCond}{tb:TypeId}
 (own:ownKnob C.prog.godebug=none) (started:os.Started) (noInit:C.prog.inits.idxOf? f=none) (hfn:C.prog.funcs[f]? = some fn)
 (witness:∃(w:World) (tape:Tape) (i:Input),w.os=os∧(w.forCall tape i).Shaped C.prog∧i.vars=[]∧Input.okWide C.prog (w.forCall tape i) .any w.heap.size f i ∧
  s.pre6 enc C.prog fn conds false (w.forCall tape i).memory i.args∧Assume.holds {} C.prog (lone (Frame.enter C.prog f i.args .normal) [] (w.forCall tape i)))
 (hvars:s.vars=[]) (hs:∀(G:Type) (ds:List (DataW G)),ds.length=fn.params.toList.length→s.fn G ds={ results:=[.lit (.bool true)],args:=ds })
 (hres:fn.resultTypes= #[tb]) (htb:C.prog.underlying tb=some .bool) (hl:laidOutB C.prog=true)
 (hts:(fn.params.toList.all fun t=>(oV C.prog 8 t).isSome&&(C.prog.readableRec t&&decide (t<C.prog.types.size)))=true)
 (law:∀(W:World) (vs:List Value),GArgs C.prog W fn.params.toList vs→ACall C.prog W f (vs.map injV) [] fun v _=>v= .bool true) :
 ReturnsInHanded {} C os f .any (s.pre6 enc C.prog fn conds false) (s.post enc C.prog fn false true false false):=by
 refine returnsInHanded_of_change own started noInit hfn witness ?_
 intro W base args ds gs before hval hW _ _
 have hts':∀t∈fn.params.toList,(oV C.prog 8 t).isSome=true∧C.prog.readableRec t=true∧t<C.prog.types.size:=fun t ht=>by
  have:=List.all_eq_true.1 hts t ht
  simpa using this
 have hW':=hW
 obtain⟨p,q,hA,hV,rfl,_,_⟩:=hW
 have hlen:=trodAll_length hA
 rw[hvars]at hV
 have hq:gs=[]∧q=[]:=by
  cases gs with
  | nil=>exact⟨rfl,hV⟩
  | cons=>exact hV.elim
 obtain⟨rfl,rfl⟩:=hq
 have hg:GArgs C.prog W fn.params.toList args.toList:=aCL (fun t ht=>(hts' t ht).1) (fun j t v a b=>hval j t v (by simpa using a) (by simpa using b)) hA
 have hc:=(law W args.toList hg).2 ⟨fun _=>0,fun _=>0,fun _=>0⟩ W args ⟨Nat.le_refl _,fun _ _=>rfl,fun i b e=>by simp at e,fun i j b c _ e=>by simp at e⟩ (uY _ 0 _).1 (uY ⟨fun _=>0,fun _=>0,fun _=>0⟩ _ _).2
 refine(callsIn_wide.1 hc).mono fun e W' ⟨v',he,m',v,h',st,hv,_,hb⟩=>⟨v',he,?_⟩
 subst hb
 simp only[VR]at hv
 subst hv
 have hbl:Below W.heap.size W W':=⟨st.mods.os,st.mods.tape,st.mods.output,st.mods.size,fun k hk=>st.mods.same k hk fun i b e=>by simp at e⟩
 have hsp:=hs H (ds++[]) (by simp[hlen.2])
 refine⟨ds,[],p++[],[],p,[],hW',?_,?_,?_,⟨hbl.os,hbl.output,fun i hi=> ?_⟩,fun h=>by cases h⟩
 ·rw[hsp,hres]
  exact trodAll_mk1 (shut_bool htb true)
 ·rw[hsp]
  rw[List.append_nil]
  exact rN hl hbl (fun t ht=>(hts' t ht).2) hA
 ·rw[hvars,hsp]; rfl
 ·rw[hbl.block i hi]
  cases W.heap[i]? with
  | none=>rfl
  | some o=>cases o with
   | cells c t fr=>exact⟨rfl,rfl,rfl,fun _ _=>rfl⟩
   | map es clock=>exact .inr ⟨rfl,rfl⟩
   | _=>rfl
end
end Go.Proofs.Ab
namespace Go.Proofs.Ab
open Go
section
variable {w:World} {h:Heap}
theorem aMg{a:Addr}{n:Nat}{cs:List Value}(e:w.cells? 0 a n=some cs):rdn w h (.old a) n=some (cs.map inj):=by
 have key:∀(l:List Nat) (cs:List Value),(l.mapM fun i=>w.cell? (a.add i))=some cs→(l.mapM fun j=>(w.cell? (a.add j)).map inj)=some (cs.map inj):=by
  intro l
  induction l with
  | nil=>intro cs h; simp at h; subst h; rfl
  | cons x l ih=>
   intro cs h
   simp only[List.mapM_cons,Option.bind_eq_bind,qC]at h
   obtain⟨y,hy,ys,hys,h⟩:=h
   cases h
   simp only[List.mapM_cons,hy,ih ys hys,Option.map_some,Option.bind_eq_bind,Option.bind_some]; rfl
 simp only[World.cells?,Nat.zero_le,if_true]at e
 exact key _ _ e
def xT(w:World)(e:Rw)(v:Value):Prop:=v= .slice none 0 0∨∃a len cap,v= .slice (some a) len cap∧len≤cap∧cap≤maxLen∧∀i,i<len→∃c,w.cells? 0 (a.add (i*e.size)) e.size=some c∧Gd w e c
theorem aFB{e:Rw}{v:Value}(g:xT w e v):∃rows,Sl w h e.size (inj v) rows∧rows.length≤9223372036854775807∧∀c∈rows,∃cs,c=cs.map inj∧Gd w e cs:=by
 rcases g with rfl | ⟨a,len,cap,rfl,h1,h2,h3⟩
 ·exact⟨[],.inl ⟨rfl,rfl⟩,by simp,fun c hc=>by cases hc⟩
 ·refine⟨(List.range len).map fun i=>((w.cells? 0 (a.add (i*e.size)) e.size).getD []).map inj,?_,?_,?_⟩
  ·refine .inr ⟨.old a,false,⟨0,?_,rfl⟩,trivial,fun j c hc=> ?_⟩
   ·simp only[inj,if_pos h1,List.length_map,List.length_range]
   ·simp only[List.getElem?_map,qD]at hc
    obtain⟨i,hi,rfl⟩:=hc
    have hj:=hi
    have hjl:j<len:=by have:=List.getElem?_eq_some_iff.1 hi; simpa using this.1
    rw[List.getElem?_range hjl]at hi
    cases hi
    obtain⟨c,hc,_⟩:=h3 j hjl
    simp only[Pl.add,hc,Option.getD_some]
    exact aMg hc
  ·simp only[List.length_map,List.length_range]
   have:maxLen=9223372036854775807:=rfl
   omega
  ·intro c hc
   simp only[List.mem_map,List.mem_range]at hc
   obtain⟨i,hi,rfl⟩:=hc
   obtain⟨c,hc,g⟩:=h3 i hi
   exact⟨c,by rw[hc]; rfl,g⟩
theorem yJ{α:Type}{f:α→List AV}{p:α→Prop}:∀ {rows:List (List AV)},(∀c∈rows,∃a,c=f a∧p a)→∃l:List α,rows=l.map f∧∀a∈l,p a
 | [],_=>⟨[],rfl,fun a ha=>by cases ha⟩
 | c::rows,hc=>by
  obtain⟨a,rfl,ha⟩:=hc c List.mem_cons_self
  obtain⟨l,rfl,hl⟩:=yJ (rows:=rows) fun c' hc'=>hc c' (List.mem_cons_of_mem _ hc')
  refine⟨a::l,rfl,fun x hx=> ?_⟩
  rcases List.mem_cons.1 hx with rfl | hx
  ·exact ha
  ·exact hl x hx
theorem pD{α:Type}{e:Rw}{n:Nat}{v:Value}(f:α→List AV)(hn:e.size=n)(g:xT w e v)(he:∀cs,Gd w e cs→∃a,cs.map inj=f a):∃l:List α,Sl w h n (inj v) (l.map f)∧l.length≤9223372036854775807:=by
 obtain⟨rows,h1,h2,h3⟩:=aFB (h:=h) g
 obtain⟨l,rfl,_⟩:=yJ (f:=f) (p:=fun _=>True) (rows:=rows) fun c hc=>by
  obtain⟨cs,rfl,g⟩:=h3 c hc
  obtain⟨a,ha⟩:=he cs g
  exact⟨a,ha,trivial⟩
 exact⟨l,hn▸h1,by simpa using h2⟩
theorem aNV{v:Value}(g:xT w (.int .nil) v):∃l:List Int,Sl w h 1 (inj v) (l.map fun z=>[AV.int .i64 z])∧l.length≤9223372036854775807:=
 pD (fun z=>[AV.int .i64 z]) rfl g fun cs g=>by
  obtain⟨n,_,rfl,_,rfl⟩:=g
  exact⟨n,rfl⟩
end
end Go.Proofs.Ab

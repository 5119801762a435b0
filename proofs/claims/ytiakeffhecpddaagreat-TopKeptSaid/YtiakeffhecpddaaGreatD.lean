/- Own layer, part D. -/
import Derived.Test.YtiakeffhecpddaaGreatC
set_option linter.unusedSimpArgs false
set_option linter.unusedVariables false
namespace Go.Proofs.Ab
open Go
inductive MIx where
 | op (dst:Option Nat) (g:Option (Nat×Bool)) (o:MOp)
 | call (dst:Option Nat) (g:Option (Nat×Bool)) (f:Opd) (args:List Opd)
inductive MC where
 | skip
 | ret
 | exit (id:Nat)
 | reg (l:List MIx)
 | draw (l:List MIx) (bef:List (List Nat))
 | seq (a b:MC)
 | cond (c:Opd) (a b:MC)
 | blk (id:Nat) (a:MC)
 | loop (a:MC)
 | rng (f:Opd) (ps:Array Tmp) (assign body:Code) (ma mb:MC)
 | lab (n:Nat)
 | scope (a:MC)
def uU(nt:Nat):Option Nat→Bool
 | none=>true
 | some d=>d<nt
def vW(ops:Array Oper):Option (Nat×Bool)→Option (Option (Nat×Bool))
 | none=>some none
 | some jb=>((ops[jb.1]?).bind (·.dst)).map fun t=>some (t,jb.2)
def aEA:Op→Option (Operand×Array Operand)
 | .call { callee:= .value f,args,.. }=>some (f,args)
 | .call { callee:= .invoke r n,args,.. }=>some (.const (.func (.method n) #[] #[]),#[r]++args)
 | _=>none
theorem wQ{o:Op}{f:Operand}{args:Array Operand}(h:aEA o=some (f,args)):∃c,o= .call c∧∀(ρ:Operand→Value),(∀v,ρ (.const v)=v)→∀t,resolve ρ c t=Deferred.ofValue (ρ f) (args.map ρ):=by
 unfold aEA at h
 split at h
 ·simp at h; obtain⟨rfl,rfl⟩:=h; exact⟨_,rfl,fun _ _ _=>rfl⟩
 ·simp only[Option.some.injEq,Prod.mk.injEq]at h
  obtain⟨rfl,rfl⟩:=h
  refine⟨_,rfl,fun ρ hρ t=> ?_⟩
  rw[hρ]
  simp[resolve,Deferred.ofValue]
 ·cases h
def fI(P:Program)(nt:Nat)(ops:Array Oper)(o:Oper):Option MIx:=
 if uU nt o.dst then(vW ops o.guard).bind fun g=>
  match aEA o.op with
  | some (f,args)=>(dI f).bind fun f=>(nU args).map fun a=> .call o.dst g f a
  | none=>(cop P o.op).map fun m=> .op o.dst g m
 else none
def jW(ops:List Oper):List (List Nat):=
 ops.foldl (fun acc o=>acc++[(o.after.toList.filter (Region.binds .any ·)).foldl (fun s e=>s++(if s.contains e.on then []else [e.on])++((acc.getD e.on []).filter fun x=> !s.contains x)) []]) []
def aGc(os:List Oper)(bef:List (List Nat)):Bool:=
 Nat.beq bef.length os.length&&(List.range os.length).all fun i=>match os[i]? with
  | none=>true
  | some o=>(o.after.toList.all fun e=> !Region.binds .any e||Nat.blt e.on i) &&
   ((bef.getD i []).all fun j=>o.after.toList.any fun e=>Region.binds .any e&&(Nat.beq e.on j||(bef.getD e.on []).contains j)) &&
   match o.dst with
   | none=>true
   | some t=>(List.range os.length).all fun j=>Nat.beq j i||match(os[j]?).bind (·.dst)with
    | none=>true
    | some u=> !Nat.beq u t
def Opd.rds:Opd→List Nat
 | .t n=>[n]
 | .k _=>[]
def yP:Option Opd→List Nat
 | some x=>x.rds
 | none=>[]
def aGS(l:List Opd):List Nat:=l.flatMap Opd.rds
def MOp.rds:MOp→List Nat
 | .mov x | .box x _ | .load x _ | .nilck x | .eqni _ x | .tass _ _ _ x | .panic x | .eqnil _ _ x | .un _ x | .conv _ x | .mkif _ x | .addr x _ | .fld x _ _ | .ext x _ | .len x | .lenm x=>x.rds
 | .alloc _ | .mkmap | .lena _ | .recov=>[]
 | .defer f as=>f.rds++aGS as
 | .pick c a b=>c.rds++(a.rds++b.rds)
 | .build _ ps | .bslice _ _ _ ps=>ps.flatMap fun p=>p.2.2.rds
 | .store x v _=>x.rds++v.rds
 | .bin _ x y | .copy _ x y | .eqb _ x y | .eqag _ _ x y | .idxs _ x y | .idxa _ _ x y | .idx _ _ _ x y | .mksl _ _ _ x y | .app _ _ _ x y | .look _ _ _ x y=>x.rds++y.rds
 | .mkfn _ a b=>aGS a++aGS b
 | .slc _ x a b c | .slca _ _ x a b c=>x.rds++(yP a++(yP b++yP c))
 | .mput _ m k v=>m.rds++(k.rds++v.rds)
 | .minmax _ l=>aGS l
def grds:Option (Nat×Bool)→List Nat
 | some p=>[p.1]
 | none=>[]
def MIx.rds:MIx→List Nat
 | .op _ g o=>grds g++o.rds
 | .call _ g f as=>grds g++(f.rds++aGS as)
def MIx.dst:MIx→Option Nat
 | .op d _ _ | .call d _ _ _=>d
def bfr(bef:List (List Nat))(i j:Nat):Bool:=(bef.getD i []).contains j
def aCP(bef:List (List Nat))(i j:Nat):Bool:= !(Nat.beq j i)&&(!bfr bef i j && !bfr bef j i)
def yQ(l:List MIx)(bef:List (List Nat)):Bool:=
 (List.range l.length).all fun i=>match l[i]? with
  | none=>true
  | some x=>(List.range l.length).all fun j=> !aCP bef i j||match(l[j]?).bind MIx.dst with
   | none=>true
   | some d=> !x.rds.contains d
def aW(P:Program)(nt:Nat):Code→Option MC
 | .skip=>some .skip
 | .ret=>some .ret
 | .exit id=>some (.exit id)
 | .region _ ops false=>(ops.toList.mapM (fI P nt ops)).map .reg
 | .region _ ops true=>if aGc ops.toList (jW ops.toList)then(ops.toList.mapM (fI P nt ops)).bind fun l=>if yQ l (jW ops.toList)then some (.draw l (jW ops.toList))else none else none
 | .seq a b=>(aW P nt a).bind fun a=>(aW P nt b).map fun b=> .seq a b
 | .cond c a b=>(dI c).bind fun c=>(aW P nt a).bind fun a=>(aW P nt b).map fun b=> .cond c a b
 | .block id a=>(aW P nt a).map fun a=> .blk id a
 | .loop a=>(aW P nt a).map .loop
 | .rangeFunc f ps as b=>if ps.toList.all (Nat.blt · nt)then(dI f).bind fun f=>(aW P nt as).bind fun x=>(aW P nt b).map fun y=> .rng f ps as b x y else none
 | .label n=>some (.lab n)
 | .scope a=>(aW P nt a).map .scope
 | _=>none
def Fr.put(fr:Fr)(d:Option Nat)(v:AV):Fr:=
 match d with
 | none=>fr
 | some d=>(d,v)::fr
def want(fr:Fr):Option (Nat×Bool)→Option Bool
 | none=>some true
 | some (t,b)=>match fr.get t with
  | .bool c=>some (c==b)
  | .tup []=>some false
  | _=>none
def Wd(r:Option Nat):Fence:={ Fence.wide with round:=r }
def nE(r:Nat):Deferred:={ target:= .collected r,args:= #[] }
structure Bs where
 n:Nat
 ds:List Deferred
def wV(B:Bs)(m:Emb)(h:Heap)(a:Act)(w:World):Prop:=
 ∃rs:List Nat,rs.Nodup∧a.defers=rs.map nE++B.ds∧∀r∈rs,B.n≤r∧w.heap[r]? = some (.deferred (some []))∧∀(i:Nat) b,h[i]? = some (some b)→m.blk i≠r
theorem wV.step'{w0:World}{B:Bs}{m m':Emb}{h h':Heap}{a a':Act}{w w':World}(k:wV B m h a w)(s1:aBY w0 m h w w')(s2:aKE m m' h h' w)(hd:a'.defers=a.defers):wV B m' h' a' w':=by
 obtain⟨rs,hn,e,k⟩:=k
 refine⟨rs,hn,hd.trans e,fun r hr=> ?_⟩
 obtain⟨h2,h3,h4⟩:=k r hr
 have hr:r<w.heap.size:=by
  rcases Nat.lt_or_ge r w.heap.size with hl | hl
  ·exact hl
  ·rw[Array.getElem?_eq_none hl]at h3; cases h3
 refine⟨h2,by rw[s1.same r hr h4]; exact h3,fun i b hi e=> ?_⟩
 obtain⟨j,c,hj,e'⟩:=s2 i b hi (by omega)
 exact h4 j c hj (e'.trans e)
theorem wV.step{w0:World}{B:Bs}{m m':Emb}{h h':Heap}{a a':Act}{w w':World}(k:wV B m h a w)(s:bU w0 m m' h h' w w')(hd:a'.defers=a.defers):wV B m' h' a' w':=k.step' s.mods s.roots hd
structure SA(w0:World)(r l:Option Nat)(nt Z:Nat)(B:Bs)(m:Emb)(fr:Fr)(h:Heap)(a:Act)(w:World):Prop where
 sim:Sim w0 m h w
 frame:FR m h.length fr a.tmps
 size:a.tmps.size=nt
 low:B.n≤w.heap.size
 marks:wV B m h a w
 rnd:l=r.map m.blk
 inr:∀i,r=some i→i<Z
 hz:Z≤h.length
structure dB(Z:Nat)(w0:World)(m m':Emb)(h h':Heap)(w w':World):Prop where
 sim:Sim w0 m' h' w'
 ext:Ext m m' Z
 mods:aBY w0 m h w w'
 le:Z≤h'.length
 roots:aKE m m' h h' w
theorem bU.toZ{w0:World}{m m':Emb}{h h':Heap}{w w':World}{Z:Nat}(s:bU w0 m m' h h' w w')(hz:Z≤h.length):dB Z w0 m m' h h' w w':=
 ⟨s.sim,s.ext.mono hz,s.mods,Nat.le_trans hz s.le,s.roots⟩
theorem dB.toS{w0:World}{m m':Emb}{h h':Heap}{w w':World}(s:dB h.length w0 m m' h h' w w'):bU w0 m m' h h' w w':=
 ⟨s.sim,s.ext,s.mods,s.le,s.roots⟩
theorem dB.trans{w0:World}{m m' m'':Emb}{h h' h'':Heap}{w w' w'':World}{Z:Nat}(a:dB Z w0 m m' h h' w w')(b:dB Z w0 m' m'' h' h'' w' w'') :
 dB Z w0 m m'' h h'' w w'':=by
 refine⟨b.sim,a.ext.trans b.ext (Nat.le_refl _),a.mods.trans b.mods (fun i b' hi hlt=>a.roots i b' hi hlt),b.le,fun i b' hi hlt=> ?_⟩
 obtain⟨j,c,hj,e⟩:=b.roots i b' hi (Nat.lt_of_lt_of_le hlt a.mods.size)
 obtain⟨j',c',hj',e'⟩:=a.roots j c hj (by rw[e]; exact hlt)
 exact⟨j',c',hj',e'.trans e⟩
def rK(w0:World)(r l:Option Nat)(nt Z:Nat)(B:Bs)(m:Emb)(h:Heap)(w:World)(Q:Exit→Fr→Heap→Prop):Exit→Act→World→Prop:=
 fun e a' w'=>∃m' fr' h',dB Z w0 m m' h h' w w'∧SA w0 r l nt Z B m' fr' h' a' w'∧Q e fr' h'
theorem rK.back{w0:World}{r l:Option Nat}{nt Z:Nat}{B:Bs}{m m':Emb}{h h':Heap}{w w':World}{Q:Exit→Fr→Heap→Prop}(s:dB Z w0 m m' h h' w w'){e:Exit}{a:Act}{w'':World}
 (p:rK w0 r l nt Z B m' h' w' Q e a w''):rK w0 r l nt Z B m h w Q e a w'':=by
 obtain⟨m2,fr,h2,s2,sa,q⟩:=p
 exact⟨m2,fr,h2,s.trans s2,sa,q⟩
def EvW(P:Program)(w0:World)(r:Option Nat)(nt Z:Nat)(c:Code)(fr:Fr)(h:Heap)(Q:Exit→Fr→Heap→Prop):Prop:=
 ∀m a w B l,SA w0 r l nt Z B m fr h a w→c.wpIn (Wd l) 0 P (rK w0 r l nt Z B m h w Q) a w
def EvM(P:Program)(w0:World)(r:Option Nat)(nt Z:Nat)(mc:MC)(fr:Fr)(h:Heap)(Q:Exit→Fr→Heap→Prop):Prop:=
 ∀c,aW P nt c=some mc→EvW P w0 r nt Z c fr h Q
def dH(P:Program)(f:FuncId):Bool:=
 match P.funcs[f]? with
 | some fn => fn.body.isSome && fn.name != "runtime.NumGoroutine"
 | none=>false
def aDt(w0:World)(m:Emb)(h:Heap)(w:World)(Q:AV→Heap→Prop):Ending→World→Prop:=
 fun e w'=>∃v',e= .returned v'∧∃m' v h',bU w0 m m' h h' w w'∧VR m' v v'∧v.bdd h'.length∧Q v h'
def ACall(P:Program)(w0:World)(f:FuncId)(args:List AV)(h:Heap)(Q:AV→Heap→Prop):Prop:=
 dH P f=true∧∀m w (vs:Array Value),Sim w0 m h w→VRs m args vs.toList→AV.bdds h.length args→CallsIn Fence.wide 0 P f vs w (aDt w0 m h w Q)
def cR(P:Program)(w0:World)(i:Nat)(args:List AV)(h:Heap)(Q:AV→Heap→Prop):Prop:=
 ∀m w (vs:Array Value),Sim w0 m h w→VRs m args vs.toList→AV.bdds h.length args →
  ∃f tmps assign body,(Instr.yield (m.blk i) vs).run P w= .ok (.round (m.blk i) f tmps assign body) w∧RoundIn Fence.wide 0 P (m.blk i) f tmps assign body w (aDt w0 m h w Q)
def aFN(P:Program)(n:String)(t:TypeId):Option FuncId:=
 (P.info? t).bind fun i=>(i.methods.find? (·.name==n)).bind fun m=>if m.path.isEmpty then
  match m.func with
  | some (f,true)=>match P.underlying t with
   | some (.pointer _)=>some f
   | _=>none
  | _=>none
 else none
theorem aD4{P:Program}{w:World}{n:String}{t:TypeId}{f:FuncId}{y:Value}{k:Nat}(hm:aFN P n t=some f)(hk:k≠0):(method k t y n).run P w= .ok (f,y) w:=by
 obtain⟨k,rfl⟩:=Nat.exists_eq_succ_of_ne_zero hk
 unfold aFN at hm
 simp only[qC]at hm
 obtain⟨i,hi,m,hf,hm⟩:=hm
 split at hm
 ·rename_i hp
  split at hm
  ·rename_i f' hfn
   split at hm
   ·rename_i e hu
    cases hm
    have hp':m.path= #[]:=Array.isEmpty_iff.1 hp
    simp[method,yK hi,hf,hp',follow,hfn,receiverAt,bX hu,Place.get]
   ·cases hm
  ·cases hm
 ·cases hm
def wB(P:Program)(w0:World)(n:String)(args:List AV)(h:Heap)(Q:AV→Heap→Prop):Prop:=
 match args with
 | .ifc t v::rest=>match aFN P n t with
  | some f=>ACall P w0 f (v::rest) h Q
  | none=>False
 | _=>False
theorem wB.mono{P:Program}{w0:World}{n:String}{args:List AV}{h:Heap}{Q Q':AV→Heap→Prop}(a:wB P w0 n args h Q)(hq:∀v h',Q v h'→Q' v h'):wB P w0 n args h Q':=by
 unfold wB at *
 split at a
 ·split at a
  ·exact⟨a.1,fun m w vs s v b=>(a.2 m w vs s v b).mono fun _ _ ⟨v',e1,m',v,h',h1,h2,h3,h4⟩=>⟨v',e1,m',v,h',h1,h2,h3,hq _ _ h4⟩⟩
  ·exact a.elim
 ·exact a.elim
def bE(P:Program)(w0:World)(fv:AV)(args:List AV)(h:Heap)(Q:AV→Heap→Prop):Prop:=
 match fv with
 | .fn (.func f) first capt=>ACall P w0 f (first++args++capt) h Q
 | .fn (.method n) first _=>wB P w0 n (first++args) h Q
 | .yld i=>cR P w0 i args h Q
 | _=>False
theorem ACall.mono{P:Program}{w0:World}{f:FuncId}{args:List AV}{h:Heap}{Q Q':AV→Heap→Prop}(a:ACall P w0 f args h Q)(hq:∀v h',Q v h'→Q' v h'):ACall P w0 f args h Q':=
 ⟨a.1,fun m w vs s v b=>(a.2 m w vs s v b).mono fun _ _ ⟨v',e1,m',v,h',h1,h2,h3,h4⟩=>⟨v',e1,m',v,h',h1,h2,h3,hq _ _ h4⟩⟩
theorem cR.mono{P:Program}{w0:World}{i:Nat}{args:List AV}{h:Heap}{Q Q':AV→Heap→Prop}(a:cR P w0 i args h Q)(hq:∀v h',Q v h'→Q' v h'):cR P w0 i args h Q':=
 fun m w vs s v b=>by
  obtain⟨f,t,as,bd,h1,h2⟩:=a m w vs s v b
  exact⟨f,t,as,bd,h1,h2.mono fun _ _ ⟨v',e1,m',v,h',h1,h2,h3,h4⟩=>⟨v',e1,m',v,h',h1,h2,h3,hq _ _ h4⟩⟩
theorem bE.mono{P:Program}{w0:World}{fv:AV}{args:List AV}{h:Heap}{Q Q':AV→Heap→Prop}(a:bE P w0 fv args h Q)(hq:∀v h',Q v h'→Q' v h'):bE P w0 fv args h Q':=by
 unfold bE at *
 split
 ·exact a.mono hq
 ·exact a.mono hq
 ·exact a.mono hq
 ·rename_i h1 h2 h3
  split at a
  ·exact h1 _ _ _ rfl
  ·exact h2 _ _ _ rfl
  ·exact h3 _ rfl
  ·exact a
def jL(P:Program)(w0:World):List MIx→Fr→Heap→(Fr→Heap→Prop)→Prop
 | [],fr,h,K=>K fr h
 | .op d g o::r,fr,h,K=>match want fr g with
  | some true=>∃v h',aop w0 o fr h=some (v,h')∧jL P w0 r (fr.put d v) h' K
  | some false=>jL P w0 r (fr.put d (.tup [])) h K
  | none=>False
 | .call d g f args::r,fr,h,K=>match want fr g with
  | some true=>bE P w0 (f.ev fr) (args.map (·.ev fr)) h fun v h'=>jL P w0 r (fr.put d v) h' K
  | some false=>jL P w0 r (fr.put d (.tup [])) h K
  | none=>False
section
variable {P:Program} {w0:World} {r l:Option Nat} {nt Z:Nat} {B:Bs} {m m':Emb} {fr:Fr} {h h':Heap} {a:Act} {w w':World}
theorem FR.ext(hf:FR m h.length fr a.tmps)(s:bU w0 m m' h h' w w'):FR m' h'.length fr a.tmps:=
 fun t=>⟨gL s.ext _ _ (hf t).2 (hf t).1,AV.bdd_mono s.le _ (hf t).2⟩
theorem aJB(tmps:Array Value)(d t:Nat)(v:Value):(tmps.setIfInBounds d v).getD t undef=if t=d∧d<tmps.size then v else tmps.getD t undef:=by
 simp only[Array.getD_eq_getD_getElem?]
 by_cases ht:t=d
 ·subst ht
  by_cases hd:t<tmps.size
  ·simp[hd]
  ·simp[hd]
 ·have:¬(t=d∧d<tmps.size):=fun x=>ht x.1
  rw[if_neg this,Array.getElem?_setIfInBounds_ne (fun e=>ht e.symm)]
theorem FR.put{N:Nat}{tmps:Array Value}(hf:FR m N fr tmps){d:Option Nat}(hd:uU nt d=true)(hs:tmps.size=nt){v:AV}{v':Value}(hv:VR m v v')(hb:v.bdd N) :
 FR m N (fr.put d v) ((match d with | some d=>tmps.setIfInBounds d v' | none=>tmps)):=by
 cases d with
 | none=>exact hf
 | some d=>
  intro t
  simp only[uU,decide_eq_true_eq]at hd
  simp only[aJB]
  by_cases e:t=d
  ·subst e
   have h1:Fr.get (Fr.put fr (some t) v) t=v:=by simp[Fr.put,Fr.get]
   rw[h1,if_pos ⟨rfl,by omega⟩]
   exact⟨hv,hb⟩
  ·have h1:Fr.get (Fr.put fr (some d) v) t=fr.get t:=by
    have:Nat.beq t d=false:=by
     cases hbq:Nat.beq t d with
     | false=>rfl
     | true=>exact absurd (Nat.eq_of_beq_eq_true hbq) e
    simp[Fr.put,Fr.get,this]
   rw[h1,if_neg (fun x=>e x.1)]
   exact hf t
theorem SA.put(sa:SA w0 r l nt Z B m fr h a w){d:Option Nat}(hd:uU nt d=true)(s:bU w0 m m' h h' w w'){v:AV}{v':Value}(hv:VR m' v v')(hb:v.bdd h'.length) :
 SA w0 r l nt Z B m' (fr.put d v) h' (a.put d v') w':=by
 refine⟨s.sim,?_,?_,Nat.le_trans sa.low s.mods.size,sa.marks.step s ?_,?_,sa.inr,Nat.le_trans sa.hz s.le⟩
 ·have:=FR.put (fr:=fr) (d:=d) (FR.ext sa.frame s) hd sa.size hv hb
  cases d<;>exact this
 ·cases d<;>simp[Act.put,sa.size]
 ·cases d<;>rfl
 ·rw[sa.rnd]
  cases hr:r with
  | none=>rfl
  | some i=>simp[(s.ext i (Nat.lt_of_lt_of_le (sa.inr i hr) sa.hz)).1]
theorem iP{ops:Array Oper}{o:Oper}{g:Option (Nat×Bool)}(hg:vW ops o.guard=some g){N:Nat}(hf:FR m N fr a.tmps){b:Bool}(hw:want fr g=some b) :
 Region.wanted o (yielded ops a.tmps)=b:=by
 unfold vW at hg
 unfold Region.wanted
 split at hg
 ·rename_i h0
  simp at hg; subst hg
  simp[want]at hw; subst hw
  rw[h0]
 ·rename_i jb h0
  simp only[qD]at hg
  obtain⟨t,ht,rfl⟩:=hg
  rw[h0]
  simp only
  simp only[want]at hw
  have hv:=(hf t).1
  simp only[yielded,ht,Option.bind_some]
  split at hw
  ·rename_i c hc
   rw[hc]at hv
   simp only[VR]at hv
   simp at hw; subst hw
   have:a.tmps[t]? = some (.bool c):=by
    rw[Array.getD_eq_getD_getElem?]at hv
    cases h1:a.tmps[t]? with
    | none=>rw[h1]at hv; simp[undef]at hv
    | some x=>rw[h1]at hv; simp at hv; rw[hv]
   simp[this]
  ·rename_i hc
   rw[hc]at hv
   simp only[VR,VRs]at hv
   obtain⟨q,hq,hq'⟩:=hv
   simp at hw; subst hw
   rw[Array.getD_eq_getD_getElem?]at hq
   cases h1:a.tmps[t]? with
   | none=>simp
   | some x=>rw[h1]at hq; simp at hq; subst hq; simp
  ·cases hw
theorem jF{f:FuncId}{vs:Array Value}(hb:dH P f=true):(callFunc f vs).run P w= .ok (.enter f vs) w:=by
 unfold dH at hb
 split at hb
 ·rename_i fn hfn
  simp only[Bool.and_eq_true,bne_iff_ne,ne_eq]at hb
  obtain⟨h1,h2⟩:=hb
  obtain⟨c,hc⟩:=Option.isSome_iff_exists.1 h1
  simp[callFunc,hfn,h2,hc]
 ·cases hb
theorem rZ{x y z:List AV}{p q s:Array Value}(h1:VRs m x p.toList)(h2:VRs m y q.toList)(h3:VRs m z s.toList):VRs m (x++y++z) (p++q++s).toList:=by
 have:=oR (oR h1 h2) h3
 simpa using this
theorem oH{a:Act}{d:Option Nat}{v:Value}:(a.put d v).defers=a.defers:=by cases d<;>rfl
theorem aHq{c:Go.Call}{mo:MOp}(hmo:cop P (.defer c)=some mo){v:AV}(ha:aop w0 mo fr h=some (v,h')):False:=by
 unfold cop at hmo
 split at hmo
 all_goals first
  | (rename_i e; cases e; done)
  | cases hmo
  | skip
 simp only[qC,qD]at hmo
 obtain⟨f',_,a',_,rfl⟩:=hmo
 simp[aop]at ha
theorem aBv{P:Program}{w:World}{n:String}{t:TypeId}{f:FuncId}{y:Value}{vs q:Array Value}{ls:List Value}(hm:aFN P n t=some f)(hb:dH P f=true)(hv:vs.toList= .iface t y::ls):(invoke (.fn (.method n) q) vs).run P w= .ok (.enter f (#[y]++ls.toArray)) w:=by
 obtain⟨vs⟩:=vs
 simp only at hv
 subst hv
 have hk:P.types.size+Made.depth≠0:=by
  have:0<Made.depth:=by decide
  omega
 simp[invoke,callMethod,aD4 hm hk,jF hb]
theorem lE{ops:Array Oper}{o:Oper}{x:MIx}(hx:fI P nt ops o=some x){K:Fr→Heap→Prop}(sa:SA w0 r l nt Z B m fr h a w)
 (hv:jL P w0 [x] fr h K) {Q:Exit→Act→World→Prop} {next:Act→World→Prop}
 (hn:∀m' fr' h' a' w',bU w0 m m' h h' w w'→SA w0 r l nt Z B m' fr' h' a' w'→K fr' h'→a'.defers=a.defers→next a' w') :
 if Region.wanted o (yielded ops a.tmps)then o.wpIn (Wd l) 0 P a w next Q else(∀f,o.about P w a.eval=some f→(Wd l).fn f)∧next (a.put o.dst undef) w:=by
 unfold fI at hx
 split at hx
 ·rename_i hd
  simp only[qC]at hx
  obtain⟨g,hg,hx⟩:=hx
  have hskip:want fr g=some false→K (fr.put o.dst (.tup [])) h →
   (if Region.wanted o (yielded ops a.tmps)then o.wpIn (Wd l) 0 P a w next Q else(∀f,o.about P w a.eval=some f→(Wd l).fn f)∧next (a.put o.dst undef) w):=fun hw hk=>by
   rw[iP hg sa.frame hw]
   refine⟨fun _ _=>trivial,hn m _ h _ w (.refl sa.sim) (sa.put hd (.refl sa.sim) ?_ ?_) hk oH⟩
   ·exact⟨#[],rfl,rfl⟩
   ·trivial
  split at hx
  ·rename_i f args hcall
   simp only[nU,qC,qD]at hx
   obtain⟨f',hf',as,has,rfl⟩:=hx
   simp only[jL]at hv
   split at hv
   ·rename_i hw
    rw[iP hg sa.frame hw]
    refine⟨fun _ _=>trivial,?_⟩
    obtain⟨f1,f2⟩:=aR sa.frame hf'
    obtain⟨a1,a2⟩:=jP sa.frame has
    obtain⟨c,hop,hres⟩:=wQ hcall
    have hres:=hres a.eval (fun _=>rfl)
    have hsem:o.semAt (Wd l).round a.eval=execOp a.eval o:=by
     cases l with
     | none=>rfl
     | some l=>simp[Oper.semAt,Wd,hop]
    rw[hsem]
    generalize hfv:f'.ev fr=fv at hv f1 f2
    have hcont:∀ {e:Ending} {w'':World},aDt w0 m h w (fun v h'=>K (fr.put o.dst v) h') e w''→(match e,w'' with | .returned v,w''=>next (a.put o.dst v) w'' | .panicked chain,w''=>Q (.panic chain) a w'' | .outgrown,_=>LetsOut Q):=fun {e w''} ⟨v',e1,m',v,h',s1,s2,s3,s4⟩=>by
     subst e1
     exact hn m' _ h' _ w'' s1 (sa.put hd s1 s2 s3) s4 oH
    unfold bE at hv
    split at hv
    ·rename_i fid first capt
     simp only[VR]at f1
     obtain⟨p,q,e1,p1,q1⟩:=f1
     have hb:=hv.1
     have hrun:(execOp a.eval o).run P w= .ok (.enter fid (p++args.map a.eval++q)) w:=by
      simp only[execOp,hop,hres,e1,Deferred.ofValue,Sem.run_bind,Sem.run_pure,Result.andThen_ok,invoke]
      exact jF hb
     rw[hrun]
     have hargs:VRs m (first++as.map (·.ev fr)++capt) (p++args.map a.eval++q).toList:=rZ p1 (by simpa using a1) q1
     refine⟨fun hh=>by simp[Wd,Fence.wide]at hh,?_⟩
     have hc:=hv.2 m w _ sa.sim hargs (dK (dK f2.1 a2) f2.2)
     exact hc.mono fun _ _ he=>hcont he
    ·rename_i n first capt
     simp only[VR]at f1
     obtain⟨p,q,e1,p1,q1⟩:=f1
     unfold wB at hv
     have hall:VRs m (first++as.map (·.ev fr)) (p++args.map a.eval).toList:=by
      have:=oR p1 (show VRs m (as.map (·.ev fr)) (args.map a.eval).toList by simpa using a1)
      simpa using this
     split at hv
     ·rename_i t x rest hl
      rw[hl]at hall
      simp only[VRs,VR]at hall
      obtain⟨_,ys,hys,⟨y,rfl,hy⟩,hrest⟩:=hall
      split at hv
      ·rename_i fid hm
       have hrun:(execOp a.eval o).run P w= .ok (.enter fid (#[y]++ys.toArray)) w:=by
        simp only[execOp,hop,hres,e1,Deferred.ofValue,Sem.run_bind,Sem.run_pure,Result.andThen_ok]
        exact aBv hm hv.1 hys
       rw[hrun]
       have hargs:VRs m (x::rest) (#[y]++ys.toArray).toList:=by
        simp only[VRs]
        exact⟨y,ys,by simp,hy,hrest⟩
       refine⟨fun hh=>by simp[Wd,Fence.wide]at hh,?_⟩
       have hbd:AV.bdds h.length (x::rest):=by
        have hb1:AV.bdds h.length (first++as.map (·.ev fr)):=dK f2.1 a2
        rw[hl]at hb1
        simp only[AV.bdds,AV.bdd]at hb1 ⊢
        exact hb1
       have hc:=hv.2 m w _ sa.sim hargs hbd
       exact hc.mono fun _ _ he=>hcont he
      ·exact hv.elim
     ·exact hv.elim
    ·rename_i i
     simp only[VR]at f1
     obtain⟨fid,tmps,assign,body,hy,hr⟩:=hv m w (args.map a.eval) sa.sim (by simpa using a1) a2
     have hrun:(execOp a.eval o).run P w= .ok (.round (m.blk i) fid tmps assign body) w:=by
      simp only[execOp,hop,hres,f1,Deferred.ofValue,Sem.run_bind,Sem.run_pure,Result.andThen_ok,invoke]
      simpa using hy
     rw[hrun]
     refine⟨fun hh=>by simp[Wd,Fence.wide]at hh,?_⟩
     exact hr.mono fun _ _ he=>hcont he
    ·exact hv.elim
   ·rename_i hw
    exact hskip hw hv
   ·exact hv.elim
  ·simp only[qD]at hx
   obtain⟨mo,hmo,rfl⟩:=hx
   simp only[jL]at hv
   split at hv
   ·rename_i hw
    rw[iP hg sa.frame hw]
    refine⟨fun _ _=>trivial,?_⟩
    obtain⟨v,h',ha,hk⟩:=hv
    obtain⟨m',v',w',hr,hs,hvr,hbd⟩:=aHp sa.sim sa.frame hmo ha
    have hdef:∀c,o.op≠ .defer c:=fun c e=>aHq (c:=c) (by rw[←e]; exact hmo) ha
    have hsem:o.semAt (Wd l).round a.eval=execOp a.eval o:=by
     cases l with
     | none=>rfl
     | some l=>
      simp only[Oper.semAt,Wd]
      split
      ·rename_i c hc; exact absurd hc (hdef _)
      ·rfl
    rw[hsem]
    have hnx:=hn m' _ h' _ w' hs (sa.put hd hs hvr hbd) hk oH
    rcases hr with hr | ⟨hr,rfl⟩
    ·rw[hr]; exact hnx
    ·rw[hr]
     exact hn m' _ h' _ w' hs (sa.put hd hs (v':=undef) (by simp[VR]) hbd) hk oH
   ·rename_i hw
    exact hskip hw hv
   ·exact hv.elim
 ·cases hx
end
section
variable {P:Program} {w0:World} {r:Option Nat} {nt Z:Nat} {fr:Fr} {h:Heap} {Q:Exit→Fr→Heap→Prop}
theorem EvM.mono{mc:MC}{Q':Exit→Fr→Heap→Prop}(e:EvM P w0 r nt Z mc fr h Q)(hq:∀e fr h,Q e fr h→Q' e fr h):EvM P w0 r nt Z mc fr h Q':=
 fun c hc m a w B l sa=>wpIn_mono (e c hc m a w B l sa) fun _ _ _ ⟨m',fr',h',s,sa',q⟩=>⟨m',fr',h',s,sa',hq _ _ _ q⟩
theorem rK.here{l:Option Nat}{B:Bs}{m:Emb}{a:Act}{w:World}{e:Exit}(sa:SA w0 r l nt Z B m fr h a w)(q:Q e fr h):rK w0 r l nt Z B m h w Q e a w:=⟨m,fr,h,(bU.refl sa.sim).toZ sa.hz,sa,q⟩
theorem aEv{c:Code}(h:aW P nt c=some .skip):c= .skip:=by
 cases c with
 | region i o d=>cases d<;>simp[aW,qC]at h
 | skip=>rfl
 | _=>simp[aW,qC]at h
theorem aHy{c:Code}(h:aW P nt c=some .ret):c= .ret:=by
 cases c with
 | region i o d=>cases d<;>simp[aW,qC]at h
 | ret=>rfl
 | _=>simp[aW,qC]at h
theorem aEx{c:Code}{id:Nat}(h:aW P nt c=some (.exit id)):c= .exit id:=by
 cases c with
 | region i o d=>cases d<;>simp[aW,qC]at h
 | exit i=>simp[aW]at h; simp[h]
 | _=>simp[aW,qC]at h
theorem rD{c:Code}{a b:MC}(h:aW P nt c=some (.seq a b)):∃x y,c= .seq x y∧aW P nt x=some a∧aW P nt y=some b:=by
 cases c with
 | region i o d=>cases d<;>simp[aW,qC]at h
 | seq x y=>
  simp only[aW,qC,qD,MC.seq.injEq]at h
  obtain⟨a',h1,b',h2,rfl,rfl⟩:=h
  exact⟨x,y,rfl,h1,h2⟩
 | _=>simp[aW,qC]at h
theorem aEz{c:Code}{o:Opd}{a b:MC}(h:aW P nt c=some (.cond o a b)):∃q x y,c= .cond q x y∧dI q=some o∧aW P nt x=some a∧aW P nt y=some b:=by
 cases c with
 | region i o d=>cases d<;>simp[aW,qC]at h
 | cond q x y=>
  simp only[aW,qC,qD,MC.cond.injEq]at h
  obtain⟨o',h0,a',h1,b',h2,rfl,rfl,rfl⟩:=h
  exact⟨q,x,y,rfl,h0,h1,h2⟩
 | _=>simp[aW,qC]at h
theorem aHA{c:Code}{id:Nat}{a:MC}(h:aW P nt c=some (.blk id a)):∃x,c= .block id x∧aW P nt x=some a:=by
 cases c with
 | region i o d=>cases d<;>simp[aW,qC]at h
 | block i x=>
  simp only[aW,qD,MC.blk.injEq]at h
  obtain⟨a',h1,rfl,rfl⟩:=h
  exact⟨x,rfl,h1⟩
 | _=>simp[aW,qC]at h
theorem aEw{c:Code}{a:MC}(h:aW P nt c=some (.loop a)):∃x,c= .loop x∧aW P nt x=some a:=by
 cases c with
 | region i o d=>cases d<;>simp[aW,qC]at h
 | loop x=>
  simp only[aW,qD,MC.loop.injEq]at h
  obtain⟨a',h1,rfl⟩:=h
  exact⟨x,rfl,h1⟩
 | _=>simp[aW,qC]at h
theorem nV{c:Code}{l:List MIx}(h:aW P nt c=some (.reg l)):∃id ops,c= .region id ops false∧ops.toList.mapM (fI P nt ops)=some l:=by
 cases c with
 | region i o d=>
  cases d
  ·simp only[aW,qD,MC.reg.injEq]at h
   obtain⟨a',h1,rfl⟩:=h
   exact⟨i,o,rfl,h1⟩
  ·simp[aW,qC]at h
 | _=>simp[aW,qC]at h
theorem aEy{c:Code}{l:List MIx}{bf:List (List Nat)}(h:aW P nt c=some (.draw l bf)):∃id ops,c= .region id ops true∧ops.toList.mapM (fI P nt ops)=some l∧bf=jW ops.toList∧aGc ops.toList (jW ops.toList)=true∧yQ l bf=true:=by
 cases c with
 | region i o d=>
  cases d
  ·simp[aW]at h
  ·simp only[aW]at h
   split at h
   ·rename_i hb
    simp only[qC]at h
    obtain⟨a',h1,h⟩:=h
    split at h
    ·rename_i ho
     simp only[Option.some.injEq,MC.draw.injEq]at h
     obtain⟨rfl,rfl⟩:=h
     exact⟨i,o,rfl,h1,rfl,hb,ho⟩
    ·cases h
   ·cases h
 | _=>simp[aW,qC]at h
theorem aDq(q:Q .normal fr h):EvM P w0 r nt Z .skip fr h Q:=fun c hc m a w B l sa=>by
 obtain rfl:=aEv hc
 exact wpIn_skip (.here sa q)
theorem aOo(q:Q .ret fr h):EvM P w0 r nt Z .ret fr h Q:=fun c hc m a w B l sa=>by
 obtain rfl:=aHy hc
 exact wpIn_ret (.here sa q)
theorem aLJ{id:Nat}(q:Q (.exit id) fr h):EvM P w0 r nt Z (.exit id) fr h Q:=fun c hc m a w B l sa=>by
 obtain rfl:=aEx hc
 exact wpIn_exit (.here sa q)
theorem aHz{c:Code}{n:Nat}(h:aW P nt c=some (.lab n)):c= .label n:=by
 cases c with
 | region i o d=>cases d<;>simp[aW,qC]at h
 | label i=>simp[aW]at h; simp[h]
 | _=>simp[aW,qC]at h
theorem aC9{c:Code}{a:MC}(h:aW P nt c=some (.scope a)):∃x,c= .scope x∧aW P nt x=some a:=by
 cases c with
 | region i o d=>cases d<;>simp[aW,qC]at h
 | scope x=>
  simp only[aW,qD,MC.scope.injEq]at h
  obtain⟨a',h1,rfl⟩:=h
  exact⟨x,rfl,h1⟩
 | _=>simp[aW,qC]at h
theorem aOp{n:Nat}(q:Q .normal fr h):EvM P w0 r nt Z (.lab n) fr h Q:=fun c hc m a w B l sa=>by
 obtain rfl:=aHz hc
 exact wpIn_label (.here sa q)
theorem iQ{b:Frame}{a:Act}{k:List Item}{cs:List Frame}{w:World}{c:Code}:step P (lone (b.atR a (.code (.scope c)::k)) cs w)= .next (lone (b.atR a (.code c :: .inScope c::k)) cs w):=
 step_lone_go (by simp[stepG,stepG.exec,Frame.atR])
theorem aAe{b:Frame}{a:Act}{k:List Item}{cs:List Frame}{w:World}{c:Code}:step P (lone (b.atR a (.inScope c::k)) cs w)= .next (lone (b.atR a k) cs w):=
 step_lone_go (by simp[stepG,stepG.exec,Frame.atR])
def tZ(Q:Exit→Fr→Heap→Prop):Exit→Fr→Heap→Prop
 | .goto _,_,_=>False
 | e,fr,h=>Q e fr h
theorem rI{F:Fence}{n:Nat}{Q:Exit→Act→World→Prop}{a:Act}{w:World}{c:Code}(h:c.wpIn F n P (fun e a w=>(∀l,e≠ .goto l)∧Q e a w) a w):(Code.scope c).wpIn F n P Q a w:=by
 intro b k cs hro hb hr
 have h0:(lone (b.atR a (.code (.scope c)::k)) cs w).fenced P F:=fenced_calm hb hr rfl
 obtain⟨e,a₁,w₁,⟨hg,hq⟩,harr⟩:=h b (.inScope c::k) cs hro hb hr
 cases e with
 | normal=>exact⟨.normal,a₁,w₁,hq,.head h0 iQ (StepsIn.trans harr (.one (fenced_calm hb hr rfl) aAe))⟩
 | exit id=>
  have hx:exitTo id (.inScope c::k)=exitTo id k:=by simp[exitTo]
  exact⟨.exit id,a₁,w₁,hq,fun k' hk=> .head h0 iQ (harr.1 k' (by rw[hx]; exact hk)),
   fun hr' hk=>let⟨k₁,h1,h2⟩:=harr.2 hr' (by rw[hx]; exact hk); ⟨k₁,h1,.head h0 iQ h2⟩⟩
 | goto l=>exact absurd rfl (hg l)
 | ret=>exact⟨_,a₁,w₁,hq,.of_steps (.one h0 iQ) harr⟩
 | panic ch=>exact⟨_,a₁,w₁,hq,.of_steps (.one h0 iQ) harr⟩
 | outgrown=>exact⟨_,a₁,w₁,hq,.of_steps (.one h0 iQ) harr⟩
theorem aHY{x:MC}(e:EvM P w0 r nt Z x fr h (tZ Q)):EvM P w0 r nt Z (.scope x) fr h Q:=fun c hc m a w B l sa=>by
 obtain⟨cx,rfl,h1⟩:=aC9 hc
 refine rI (wpIn_mono (e cx h1 m a w B l sa) fun e a' w' ⟨m',fr',h',s,sa',q⟩=> ?_)
 cases e<;>first | exact q.elim | exact⟨fun _=>by simp,m',fr',h',s,sa',q⟩
def thenQ(P:Program)(w0:World)(r:Option Nat)(nt Z:Nat)(b:MC)(Q:Exit→Fr→Heap→Prop):Exit→Fr→Heap→Prop
 | .normal,fr,h=>EvM P w0 r nt Z b fr h Q
 | e,fr,h=>Q e fr h
theorem aGi{x y:MC}(e:EvM P w0 r nt Z x fr h (thenQ P w0 r nt Z y Q)):EvM P w0 r nt Z (.seq x y) fr h Q:=fun c hc m a w B l sa=>by
 obtain⟨cx,cy,rfl,h1,h2⟩:=rD hc
 refine wpIn_seq (wpIn_mono (e cx h1 m a w B l sa) fun e a' w' ⟨m',fr',h',s,sa',q⟩=> ?_)
 cases e with
 | normal=>exact wpIn_mono (q cy h2 m' a' w' B l sa') fun _ _ _ p=>p.back s
 | exit id=>exact⟨m',fr',h',s,sa',q⟩
 | goto l=>exact⟨m',fr',h',s,sa',q⟩
 | ret=>exact⟨m',fr',h',s,sa',q⟩
 | panic ch=>exact⟨m',fr',h',s,sa',q⟩
 | outgrown=>exact⟨m',fr',h',s,sa',q⟩
theorem uZ{o:Opd}{x y:MC}{t:Bool}(ht:o.ev fr= .bool t)(e:EvM P w0 r nt Z (if t then x else y) fr h Q):EvM P w0 r nt Z (.cond o x y) fr h Q:=fun c hc m a w B l sa=>by
 obtain⟨q,cx,cy,rfl,h0,h1,h2⟩:=aEz hc
 obtain⟨k,_⟩:=aR sa.frame h0
 rw[ht]at k
 simp only[VR]at k
 refine wpIn_cond k ?_
 cases t
 ·exact e cy h2 m a w B l sa
 ·exact e cx h1 m a w B l sa
def aEC(id:Nat)(Q:Exit→Fr→Heap→Prop):Exit→Fr→Heap→Prop
 | .exit id',fr,h=>if id'=id then Q .normal fr h else Q (.exit id') fr h
 | e,fr,h=>Q e fr h
theorem aOq{id:Nat}{x:MC}(e:EvM P w0 r nt Z x fr h (aEC id Q)):EvM P w0 r nt Z (.blk id x) fr h Q:=fun c hc m a w B l sa=>by
 obtain⟨cx,rfl,h1⟩:=aHA hc
 refine wpIn_block (wpIn_mono (e cx h1 m a w B l sa) fun e a' w' ⟨m',fr',h',s,sa',q⟩=> ?_)
 cases e with
 | exit id'=>
  simp only[Exit.inBlock,aEC]at q ⊢
  split
  ·rename_i he; rw[if_pos he]at q; exact⟨m',fr',h',s,sa',q⟩
  ·rename_i he; rw[if_neg he]at q; exact⟨m',fr',h',s,sa',q⟩
 | normal=>exact⟨m',fr',h',s,sa',q⟩
 | goto l=>exact⟨m',fr',h',s,sa',q⟩
 | ret=>exact⟨m',fr',h',s,sa',q⟩
 | panic ch=>exact⟨m',fr',h',s,sa',q⟩
 | outgrown=>exact⟨m',fr',h',s,sa',q⟩
def wW(F:Fence)(P:Program)(c:Code)(Q:Exit→Act→World→Prop)(a:Act)(w:World):Prop:=
 ∀(b:Frame) (k:List Item) (cs:List Frame),b.roundOf=F.round→F.fn b.fn→F.room (cs.length+1+0) →
  ∃e a' w',Q e a' w'∧ArrivesIn (Machine.fenced P F) P (lone (b.atR a (.code c :: .inLoop c::k)) cs w) b k cs e a' w'
theorem xV{F:Fence}{c:Code}{Q:Exit→Act→World→Prop}{a:Act}{w:World}(h:wW F P c Q a w):(Code.loop c).wpIn F 0 P Q a w:=by
 intro b k cs hro hb hr
 obtain⟨e,a',w',hq,harr⟩:=h b k cs hro hb hr
 exact⟨e,a',w',hq,.of_steps (.one (fenced_calm hb hr rfl) stepR_loop) harr⟩
def loopQ(F:Fence)(P:Program)(c:Code)(Q:Exit→Act→World→Prop):Exit→Act→World→Prop
 | .normal,a,w=>wW F P c Q a w
 | e,a,w=>Q e a w
theorem sN{F:Fence}{c:Code}{Q:Exit→Act→World→Prop}{a:Act}{w:World}(h:c.wpIn F 0 P (loopQ F P c Q) a w):wW F P c Q a w:=by
 intro b k cs hro hb hr
 obtain⟨e,a₁,w₁,hq,harr⟩:=h b (.inLoop c::k) cs hro hb hr
 cases e with
 | normal=>
  obtain⟨e₂,a₂,w₂,hq₂,harr₂⟩:=hq b k cs hro hb hr
  exact⟨e₂,a₂,w₂,hq₂,.of_steps (StepsIn.trans harr (.one (fenced_calm hb hr rfl) stepR_inLoop)) harr₂⟩
 | exit id=>exact⟨_,a₁,w₁,hq,.pass (x:= .inLoop c) rfl (fun _ _=> .inl (by simp)) harr⟩
 | goto l=>exact⟨_,a₁,w₁,hq,.pass (x:= .inLoop c) rfl (fun _ _=> .inl (by simp)) harr⟩
 | ret=>exact⟨_,a₁,w₁,hq,.pass (x:= .inLoop c) rfl (fun _ _=> .inl (by simp)) harr⟩
 | panic ch=>exact⟨_,a₁,w₁,hq,.pass (x:= .inLoop c) rfl (fun _ _=> .inl (by simp)) harr⟩
 | outgrown=>exact⟨_,a₁,w₁,hq,.pass (x:= .inLoop c) rfl (fun _ _=> .inl (by simp)) harr⟩
theorem wW.mono{F:Fence}{c:Code}{Q Q':Exit→Act→World→Prop}{a:Act}{w:World}(h:wW F P c Q a w)(hq:∀e a w,Q e a w→Q' e a w):wW F P c Q' a w:=by
 intro b k cs hro hb hr
 obtain⟨e,a',w',q,r⟩:=h b k cs hro hb hr
 exact⟨e,a',w',hq _ _ _ q,r⟩
def EvL(P:Program)(w0:World)(r:Option Nat)(nt Z:Nat)(x:MC)(fr:Fr)(h:Heap)(Q:Exit→Fr→Heap→Prop):Prop:=
 ∀c,aW P nt c=some x→∀m a w B l,SA w0 r l nt Z B m fr h a w→wW (Wd l) P c (rK w0 r l nt Z B m h w Q) a w
theorem aLH{x:MC}(e:EvL P w0 r nt Z x fr h Q):EvM P w0 r nt Z (.loop x) fr h Q:=fun c hc m a w B l sa=>by
 obtain⟨cx,rfl,h1⟩:=aEw hc
 exact xV (e cx h1 m a w B l sa)
def nextQ(P:Program)(w0:World)(r:Option Nat)(nt Z:Nat)(x:MC)(Q:Exit→Fr→Heap→Prop):Exit→Fr→Heap→Prop
 | .normal,fr,h=>EvL P w0 r nt Z x fr h Q
 | e,fr,h=>Q e fr h
theorem aLK{x:MC}(e:EvM P w0 r nt Z x fr h (nextQ P w0 r nt Z x Q)):EvL P w0 r nt Z x fr h Q:=fun c hc m a w B l sa=>by
 refine sN (wpIn_mono (e c hc m a w B l sa) fun e a' w' ⟨m',fr',h',s,sa',q⟩=> ?_)
 cases e with
 | normal=>exact(q c hc m' a' w' B l sa').mono fun _ _ _ p=>p.back s
 | exit id=>exact⟨m',fr',h',s,sa',q⟩
 | goto l=>exact⟨m',fr',h',s,sa',q⟩
 | ret=>exact⟨m',fr',h',s,sa',q⟩
 | panic ch=>exact⟨m',fr',h',s,sa',q⟩
 | outgrown=>exact⟨m',fr',h',s,sa',q⟩
theorem EvL.mono{mc:MC}{Q':Exit→Fr→Heap→Prop}(e:EvL P w0 r nt Z mc fr h Q)(hq:∀e fr h,Q e fr h→Q' e fr h):EvL P w0 r nt Z mc fr h Q':=
 fun c hc m a w B l sa=>(e c hc m a w B l sa).mono fun _ _ _ ⟨m',fr',h',s,sa',q⟩=>⟨m',fr',h',s,sa',hq _ _ _ q⟩
def HB(h:Heap):Prop:=∀(i:Nat) b,h[i]? = some (some b)→b.bdd h.length
theorem aA{α:Type}{h k:List α}{i:Nat}{x:α}(e:h[i]? = some x):(h++k)[i]? = some x:=by
 have hi:i<h.length:=by
  rcases Nat.lt_or_ge i h.length with h1 | h1
  ·exact h1
  ·rw[List.getElem?_eq_none h1]at e; cases e
 rw[qH hi]; exact e
theorem Sim.drop{m:Emb}{w:World}{k:Heap}(s:Sim w0 m (h++k) w)(hb:HB h):Sim w0 m h w:=
 ⟨s.size,s.old,fun i b hi=>⟨(s.at_ i b (aA hi)).1,(s.at_ i b (aA hi)).2.1,hb i b hi⟩,
  fun i j b c hij hi hj=>s.inj i j b c hij (aA hi) (aA hj)⟩
theorem SA.drop{l:Option Nat}{B:Bs}{m:Emb}{a:Act}{w:World}{k:Heap}{fr':Fr}(sa:SA w0 r l nt Z B m fr (h++k) a w)(hb:HB h)(hz:Z≤h.length)
 (hf:∀t,(fr'.get t).bdd h.length) (hfr:∀t,fr'.get t= .undef∨fr'.get t=fr.get t):SA w0 r l nt Z B m fr' h a w:=by
 refine⟨sa.sim.drop hb,fun t=>⟨?_,hf t⟩,sa.size,sa.low,?_,sa.rnd,sa.inr,hz⟩
 ·rcases hfr t with e | e
  ·rw[e]; simp[VR]
  ·rw[e]; exact(sa.frame t).1
 ·obtain⟨rs,h1,h2,h3⟩:=sa.marks
  refine⟨rs,h1,h2,fun q hq=> ?_⟩
  obtain⟨k1,k2,k3⟩:=h3 q hq
  exact⟨k1,k2,fun i b hi=>k3 i b (aA hi)⟩
theorem rK.dropped{l:Option Nat}{B:Bs}{m:Emb}{a':Act}{w w':World}{k:Heap}{e:Exit}(p:rK w0 r l nt Z B m h w Q e a' w'):rK w0 r l nt Z B m (h++k) w Q e a' w':=by
 obtain⟨m',fr',h',s,sa,q⟩:=p
 refine⟨m',fr',h',⟨s.sim,s.ext,⟨s.mods.size,fun c hc hn=>s.mods.same c hc fun i b hi=>hn i b (aA hi),s.mods.os,s.mods.tape,s.mods.output⟩,s.le,fun i b hi hlt=> ?_⟩,sa,q⟩
 obtain⟨j,c,hj,e⟩:=s.roots i b hi hlt
 exact⟨j,c,aA hj,e⟩
theorem aDr{mc:MC}{k:Heap}{fr':Fr}(hb:HB h)(hz:Z≤h.length)(hf:∀t,(fr'.get t).bdd h.length)(hfr:∀t,fr'.get t= .undef∨fr'.get t=fr.get t)
 (e:EvL P w0 r nt Z mc fr' h Q):EvL P w0 r nt Z mc fr (h++k) Q:=fun c hc m a w B l sa=>
 (e c hc m a w B l (sa.drop hb hz hf hfr)).mono fun _ _ _ p=>p.dropped
theorem SA.frame'{l:Option Nat}{B:Bs}{m:Emb}{a:Act}{w:World}{fr':Fr}(sa:SA w0 r l nt Z B m fr h a w)(hfr:∀t,fr'.get t= .undef∨fr'.get t=fr.get t):SA w0 r l nt Z B m fr' h a w:=by
 refine⟨sa.sim,fun t=> ?_,sa.size,sa.low,sa.marks,sa.rnd,sa.inr,sa.hz⟩
 rcases hfr t with e | e
 ·rw[e]; exact⟨by simp[VR],trivial⟩
 ·rw[e]; exact sa.frame t
theorem vZ{mc:MC}{fr':Fr}(hfr:∀t,fr'.get t= .undef∨fr'.get t=fr.get t)(e:EvM P w0 r nt Z mc fr' h Q):EvM P w0 r nt Z mc fr h Q:=fun c hc m a w B l sa=>
 e c hc m a w B l (sa.frame' hfr)
theorem aA2{mc:MC}{fr':Fr}(hfr:∀t,fr'.get t= .undef∨fr'.get t=fr.get t)(e:EvL P w0 r nt Z mc fr' h Q):EvL P w0 r nt Z mc fr h Q:=fun c hc m a w B l sa=>
 e c hc m a w B l (sa.frame' hfr)
end
inductive RV where
 | t (n:Nat)
 | c (n:Nat) (g:Option Nat)
def crv(P:Program):ResultVar→Option RV
 | .tmp t=>some (.t t)
 | .cell a t=>(xA P t).map (.c a)
structure MF where
 nt:Nat
 res:List RV
 body:MC
def tD(P:Program)(f:FuncId):Option MF:=
 (P.funcs[f]?).bind fun fn=>fn.body.bind fun c=>(fn.results.toList.mapM (crv P)).bind fun rs=>(aW P fn.ntmps c).map fun b=>⟨fn.ntmps,rs,b⟩
def tS(w0:World)(fr:Fr)(h:Heap):RV→Option AV
 | .t n=>some (fr.get n)
 | .c n g=>match fr.get n with
  | .ptr p=>rdv w0 h p g
  | _=>none
def jN(w0:World)(rs:List RV)(fr:Fr)(h:Heap):Option AV:=
 (rs.mapM (tS w0 fr h)).map fun l=>match l with
  | [v]=>v
  | l=> .tup l
def dO:List AV→Nat→Fr
 | [],_=>[]
 | x::xs,n=>(n,x)::dO xs (n+1)
theorem zC(l:List AV):∀(n t:Nat),(dO l n).get t=if n≤t then(l[t - n]?).getD .undef else .undef:=by
 induction l with
 | nil=>intro n t; simp[dO,Fr.get]
 | cons x xs ih=>
  intro n t
  simp only[dO,Fr.get]
  by_cases h:t=n
  ·subst h; simp
  ·have:Nat.beq t n=false:=by
    cases hb:Nat.beq t n with
    | false=>rfl
    | true=>exact absurd (Nat.eq_of_beq_eq_true hb) h
   rw[this,ih]
   simp only[Bool.false_eq_true,if_false]
   by_cases h1:n≤t
   ·rw[if_pos h1,if_pos (by omega)]
    have:t - n=(t - (n+1))+1:=by omega
    rw[this]; simp
   ·rw[if_neg h1,if_neg (by omega)]
section
variable {P:Program} {w0:World} {r:Option Nat} {nt Z:Nat} {fr:Fr} {h:Heap} {Q:Exit→Fr→Heap→Prop}
def resF(tmps:Array Value):ResultVar→Sem Value
 | .tmp t=>pure (tmps.getD t undef)
 | .cell a t=>do loadVar t (←asAddr (tmps.getD a undef))
theorem aDO(fn:Func)(tmps:Array Value):results fn tmps=(do let vs ←fn.results.mapM (resF tmps); pure (if h:vs.size=1 then vs[0]else .tuple vs)):=rfl
theorem iZ{m:Emb}{w:World}{fn:Func}{rs:List RV}(hrs:fn.results.toList.mapM (crv P)=some rs)(s:Sim w0 m h w){tmps:Array Value}(hf:FR m h.length fr tmps){v:AV}
 (hv:jN w0 rs fr h=some v):∃v',(results fn tmps).run P w= .ok v' w∧VR m v v'∧v.bdd h.length:=by
 simp only[jN,qD]at hv
 obtain⟨l,hl,hv⟩:=hv
 have key:∀(q:List ResultVar) (rs:List RV) (l:List AV),q.mapM (crv P)=some rs→rs.mapM (tS w0 fr h)=some l →
  ∃k,(q.mapM (resF tmps)).run P w= .ok k w∧VRs m l k∧AV.bdds h.length l:=by
  intro q
  induction q with
  | nil=>intro rs l h1 h2; simp at h1; subst h1; simp at h2; subst h2; exact⟨[],by simp,rfl,trivial⟩
  | cons x xs ih=>
   intro rs l h1 h2
   simp only[List.mapM_cons,Option.bind_eq_bind,qC,Option.pure_def,Option.some.injEq]at h1
   obtain⟨y,hy,ys,hys,rfl⟩:=h1
   simp only[List.mapM_cons,Option.bind_eq_bind,qC,Option.pure_def,Option.some.injEq]at h2
   obtain⟨z,hz,zs,hzs,rfl⟩:=h2
   obtain⟨k,k1,k2,k3⟩:=ih ys zs hys hzs
   cases x with
   | tmp t=>
    simp[crv]at hy; subst hy
    simp[tS]at hz; subst hz
    exact⟨tmps.getD t undef::k,by simp only[List.mapM_cons,resF,Sem.run_bind,Sem.run_pure,Result.andThen_ok,k1],⟨_,_,rfl,(hf t).1,k2⟩,⟨(hf t).2,k3⟩⟩
   | cell a t=>
    simp only[crv,qD]at hy
    obtain⟨g,hg,rfl⟩:=hy
    simp only[tS]at hz
    split at hz
    ·rename_i p hp
     have h1:=(hf a).1
     rw[hp]at h1
     simp only[VR]at h1
     obtain⟨m',v',w',q1,q2,q3,q4⟩:=aCh (P:=P) s hg hz
     have hlv:(loadVar t (m.pl p)).run P w= .ok v' w':=by simpa[Instr.loadAt,Instr.sureAddr]using q1
     have hsame:w'=w∧VR m z v'∧z.bdd h.length:=by
      simp only[xA,qC]at hg
      obtain⟨d,hd,hg⟩:=hg
      split at hg
      ·rename_i hgd
       simp only[qD]at hg
       obtain⟨n,hn,rfl⟩:=hg
       obtain⟨i,hi,rfl⟩:=cI hn
       simp only[rdv,qD]at hz
       obtain⟨l',hl',rfl⟩:=hz
       obtain⟨c,e1,e2,e3,_⟩:=xQ s P hl'
       rw[rQ hd hgd hi e1]at hlv
       simp at hlv
       obtain⟨rfl,rfl⟩:=hlv
       exact⟨rfl,⟨c,rfl,e2⟩,e3⟩
      ·rename_i hgd
       simp at hg; subst hg
       obtain⟨u,e1,e2,e3⟩:=aIH s hz
       rw[rP hd (by simpa using hgd) e1]at hlv
       simp at hlv
       obtain⟨rfl,rfl⟩:=hlv
       exact⟨rfl,e2,e3⟩
     obtain⟨rfl,q5,q6⟩:=hsame
     refine⟨v'::k,?_,⟨_,_,rfl,q5,k2⟩,⟨q6,k3⟩⟩
     have hx:(resF tmps (.cell a t)).run P w'= .ok v' w':=by
      simp only[resF,h1,asAddr,Sem.run_bind,Sem.run_pure,Result.andThen_ok,hlv]
     simp only[List.mapM_cons,Sem.run_bind,hx,Sem.run_pure,Result.andThen_ok,k1]
    ·cases hz
 obtain⟨k,k1,k2,k3⟩:=key _ _ _ hrs hl
 have hres:(results fn tmps).run P w= .ok (if h:k.toArray.size=1 then k.toArray[0]else .tuple k.toArray) w:=by
  rw[aDO,Array.mapM_eq_mapM_toList]
  simp only[Sem.run_bind,Sem.run_map,k1,Result.andThen_ok,Sem.run_pure]
 refine⟨_,hres,?_⟩
 have hlen:=cN k2
 split at hv
 ·rename_i x
  subst hv
  obtain⟨y,ys,rfl,h1,h2⟩:=k2
  simp only[VRs]at h2; subst h2
  exact⟨by simpa using h1,k3.1⟩
 ·rename_i hne
  subst hv
  have:¬k.length=1:=by
   intro hk
   rw[←hlen]at hk
   match l,hk with
   | [x],_=>exact hne x rfl
  refine⟨?_,k3⟩
  simp only[List.size_toArray,this]
  exact⟨_,rfl,by simpa using k2⟩
theorem bU.aside{m m':Emb}{h':Heap}{w w1:World}(s:bU w0 m m' h h' w w1){q:Nat}{o:Obj}(h1:w.heap.size≤q)(h3:∀(i:Nat) b,h'[i]? = some (some b)→m'.blk i≠q)(h2:w0.heap.size≤w.heap.size:=by exact Sim.size ‹_›) :
 bU w0 m m' h h' w (eO w1 q o):=by
 refine⟨⟨by simp[eO]; exact s.sim.size,fun c hc=> ?_,fun i b hi=> ?_,s.sim.inj⟩,s.ext,⟨by simp[eO]; exact s.mods.size,fun c hc hn=> ?_,s.mods.os,s.mods.tape,s.mods.output⟩,s.le,s.roots⟩
 ·rw[dS (by omega)]; exact s.sim.old c hc
 ·obtain⟨a1,a2,a3⟩:=s.sim.at_ i b hi
  rw[dS (h3 i b hi)]; exact⟨a1,a2,a3⟩
 ·rw[dS (by omega)]; exact s.mods.same c hc hn
theorem aAc{f:FuncId}{fn:Func}{c:Code}{rs:List RV}(hfn:P.funcs[f]? = some fn)(hc:fn.body=some c)(hrs:fn.results.toList.mapM (crv P)=some rs)(hb:dH P f=true){args:List AV}(hn:args.length≤fn.ntmps){Q:AV→Heap→Prop}
 (e:HB h→AV.bdds h.length args→EvW P w0 none fn.ntmps h.length c (dO args 0) h fun e fr' h'=>(e= .normal∨e= .ret)∧∃v,jN w0 rs fr' h'=some v∧Q v h'):ACall P w0 f args h Q:=by
 refine⟨hb,fun m w vs s hv hbd=> ?_⟩
 have hlen:=cN hv
 simp at hlen
 refine callsIn_of_wp_marks hfn hc trivial ?_
 have sa:SA w0 none none fn.ntmps h.length ⟨w.heap.size,[]⟩ m (dO args 0) h { tmps:=vs++Array.replicate (fn.ntmps - vs.size) undef,defers:=[] } w:=by
  refine⟨s,fun t=> ?_,by simp; omega,Nat.le_refl _,⟨[],by simp,rfl,by simp⟩,rfl,fun i hi=>(by cases hi),Nat.le_refl _⟩
  rw[zC]
  simp only[Nat.zero_le,if_true,Nat.sub_zero]
  cases ht:args[t]? with
  | none=>exact⟨by simp[VR],trivial⟩
  | some x=>
   obtain⟨y,hy,hvy⟩:=(dJ.1 hv).2 t x ht
   have htl:=aI ht
   refine⟨?_,cG.1 hbd x (List.mem_of_getElem? ht)⟩
   rw[Array.getD_eq_getD_getElem?,Array.getElem?_append_left (by omega)]
   simp at hy
   simpa[hy]using hvy
 refine wpIn_mono (e (fun i b hi=>(s.at_ i b hi).2.2) hbd m _ w ⟨w.heap.size,[]⟩ none sa) fun e a' w' ⟨m',fr',h',stz,sa',q⟩=> ?_
 have st:=stz.toS
 obtain⟨he,v,hres,hq⟩:=q
 obtain⟨v',h1,h2,h3⟩:=iZ hrs sa'.sim sa'.frame hres
 obtain⟨qs,hnd,hdef,hqs⟩:=sa'.marks
 rw[List.append_nil]at hdef
 have key:∀(qs:List Nat) (w1:World),qs.Nodup→bU w0 m m' h h' w w1→(∀q∈qs,w.heap.size≤q∧w1.heap[q]? = some (.deferred (some []))∧∀(i:Nat) b,h'[i]? = some (some b)→m'.blk i≠q) →
  LeavesInM Fence.wide 0 P fn a'.tmps (aDt w0 m h w Q) (qs.map nE) .returning w1:=by
  intro qs
  induction qs with
  | nil=>
   intro w1 _ st1 _
   obtain⟨v',h1,h2,h3⟩:=iZ hrs st1.sim sa'.frame hres
   exact⟨v',h1,v',rfl,m',v,h',st1,h2,h3,hq⟩
  | cons q qs ih=>
   intro w1 hnd st1 hall
   obtain⟨g1,g2,g3⟩:=hall q List.mem_cons_self
   have hlt:q<w1.heap.size:=by
    rcases Nat.lt_or_ge q w1.heap.size with hl | hl
    ·exact hl
    ·rw[Array.getElem?_eq_none hl]at g2; cases g2
   simp only[List.nodup_cons]at hnd
   refine⟨by simp,.inl ⟨q,eO w1 q (.deferred none),rfl,?_,ih _ hnd.2 (st1.aside g1 g3) fun q' hq'=> ?_⟩⟩
   ·have e1:=dX (P:=P) g2 (by simp)
    have e2:=gJ (P:=P) (.deferred none) g2 (by simp)
    simp only[Instr.takeDeferred,Sem.run_bind,e1,Result.andThen_ok,e2,Sem.run_pure]
    rfl
   ·obtain⟨k1,k2,k3⟩:=hall q' (List.mem_cons_of_mem _ hq')
    refine⟨k1,?_,k3⟩
    have hne:q'≠q:=fun e=>by rw[e]at hq'; exact hnd.1 hq'
    rw[dS hne]
    exact k2
 have hfin:=key qs w' hnd st hqs
 rw[←hdef]at hfin
 rcases he with rfl | rfl
 ·exact hfin
 ·exact hfin
theorem aFp{f:FuncId}{mf:MF}(hf:tD P f=some mf)(hb:dH P f=true){args:List AV}(hn:args.length≤mf.nt){Q:AV→Heap→Prop}
 (e:HB h→AV.bdds h.length args→EvM P w0 none mf.nt h.length mf.body (dO args 0) h fun e fr' h'=>(e= .normal∨e= .ret)∧∃v,jN w0 mf.res fr' h'=some v∧Q v h'):ACall P w0 f args h Q:=by
 simp only[tD,qC,qD]at hf
 obtain⟨fn,hfn,c,hc,rs,hrs,b,hcb,rfl⟩:=hf
 exact aAc hfn hc hrs hb hn fun h1 h2=>e h1 h2 c hcb
end
def rR(fr:Fr):List Tmp→List AV→Fr
 | t::ts,v::vs=>rR ((t,v)::fr) ts vs
 | _,_=>fr
section
variable {P:Program} {w0:World} {r:Option Nat} {nt Z:Nat} {fr:Fr} {h:Heap} {Q:Exit→Fr→Heap→Prop}
theorem aHx{c:Code}{f:Opd}{ps:Array Tmp}{x y:Code}{ma mb:MC}(h:aW P nt c=some (.rng f ps x y ma mb)) :
 ∃g,c= .rangeFunc g ps x y∧dI g=some f∧aW P nt x=some ma∧aW P nt y=some mb∧∀t∈ps.toList,t<nt:=by
 cases c with
 | region i o d=>cases d<;>simp[aW,qC]at h
 | rangeFunc g ps' x' y'=>
  simp only[aW]at h
  split at h
  ·rename_i hps
   simp only[qC,qD,MC.rng.injEq]at h
   obtain⟨f',h1,a',h2,b',h3,rfl,rfl,rfl,rfl,rfl,rfl⟩:=h
   refine⟨g,rfl,h1,h2,h3,fun t ht=> ?_⟩
   have:=List.all_eq_true.1 hps t ht
   simpa[Nat.blt_eq]using this
  ·cases h
 | _=>simp[aW,qC]at h
theorem bU.junk{m:Emb}{w:World}(s:Sim w0 m h w)(o:Obj):bU w0 m m h h w (w.alloc o):=by
 have hold:∀c,c<w.heap.size→(w.alloc o).heap[c]? = w.heap[c]? := fun c hc=>by
  simp only[World.alloc]; rw[Array.getElem?_push]; rw[if_neg (by omega)]
 refine⟨⟨Nat.le_trans s.size (by simp),fun c hc=>by rw[hold c (Nat.lt_of_lt_of_le hc s.size)]; exact s.old c hc,fun i c hi=> ?_,s.inj⟩,.refl _ _,⟨by simp,fun c hc _=>hold c hc,rfl,rfl,rfl⟩,Nat.le_refl _,fun i c hi _=>⟨i,c,hi,rfl⟩⟩
 obtain⟨h1,h2,h3⟩:=s.at_ i c hi
 rw[hold _ (s.lt hi)]; exact⟨h1,h2,h3⟩
theorem rF{m:Emb}{d n nt:Nat}{fr:Fr}{ps:Array Tmp}{x y:Code}{st:LoopState}{pd:Option Code}{o:Option Obj}(hb:BR m d n (.loop nt fr ps x y st pd) o) :
 ∃L:Loop,o=some (.loop L)∧L.state=st∧L.pending=pd∧L.params=ps∧L.assign=x∧L.body=y∧L.tmps.size=nt∧∀t,VR m (fr.get t) (L.tmps.getD t undef):=hb
theorem bU.turn{m:Emb}{w:World}(s:Sim w0 m h w){i:Nat}{nt:Nat}{fr:Fr}{ps:Array Tmp}{x y:Code}{st:LoopState}{pd:Option Code}(hi:h[i]? = some (some (.loop nt fr ps x y st pd))){L:Loop}
 (hL:w.heap[m.blk i]? = some (.loop L)) (st':LoopState) (pd':Option Code) :
 bU w0 m m h (h.set i (some (.loop nt fr ps x y st' pd'))) w (eO w (m.blk i) (.loop { L with state:=st',pending:=pd' })):=by
 obtain⟨_,hb,hbd⟩:=s.at_ i _ hi
 obtain⟨L',e,h1,h2,h3,h4,h5,h6,h7⟩:=rF hb
 rw[hL]at e; cases e
 refine bU.set s hi (by simp[eO]) (fun c hc=>dS hc) rfl rfl rfl ?_ hbd
 rw[qZ (s.lt hi)]
 exact⟨_,rfl,rfl,rfl,h3,h4,h5,h6,h7⟩
theorem jO{k:Heap}{i:Nat}:∀(j:Nat) b,(k.set i none)[j]? = some (some b)→k[j]? = some (some b):=fun j b hj=>by
 by_cases e:i=j
 ·subst e
  have:=aI hj
  simp at this
  rw[qF this]at hj; cases hj
 ·rwa [qB e]at hj
def yZ(Q:Exit→Fr→Heap→Prop)(fr:Fr)(h:Heap):Option Code→Prop
 | none=>Q .normal fr h
 | some .ret=>Q .ret fr h
 | some (.exit id)=>Q (.exit id) fr h
 | _=>False
theorem aOn{f:Opd}{ps:Array Tmp}{ca cb:Code}{ma mb:MC}{fid:FuncId}{first capt:List AV}(hfv:f.ev fr= .fn (.func fid) first capt)
 (hr:r=none∨∃i0 n0 f0 p0 a0 b0 s0 d0,r=some i0∧h[i0]? = some (some (.loop n0 f0 p0 a0 b0 s0 d0)))
 (call:aW P nt ca=some ma→aW P nt cb=some mb→(∀t∈ps.toList,t<nt)→ACall P w0 fid (first++[.yld h.length]++capt) (h++[some (.loop nt fr ps ca cb .ready none)]) fun _ h'=>
  ∃n0 f0 p0 a0 b0 st pd,h'[h.length]? = some (some (.loop n0 f0 p0 a0 b0 st pd))∧st≠ .busy∧yZ Q fr (h'.set h.length none) pd) :
 EvM P w0 r nt Z (.rng f ps ca cb ma mb) fr h Q:=fun c hc m a w B l sa=>by
 obtain⟨g,rfl,hg,hma,hmb,hps⟩:=aHx hc
 have call:=call hma hmb hps
 obtain⟨k1,k2⟩:=aR sa.frame hg
 rw[hfv]at k1 k2
 simp only[VR]at k1
 obtain⟨p,q,hev,hp,hq⟩:=k1
 refine wpIn_rangeFunc fun fn _=> ?_
 have henter:∃(lnum:Nat) (mark:List Deferred) (w1:World) (m1:Emb),(Instr.enterLoop fn a.tmps ps ca cb (Wd l).round).run P w= .ok (lnum,mark) w1 ∧
  bU w0 m m1 h (h++[some (.loop nt fr ps ca cb .ready none)]) w w1∧m1.blk h.length=lnum∧(∃rs:List Nat,mark=rs.map nE∧rs.Nodup∧(∀q∈rs,w.heap.size≤q∧q<lnum∧w1.heap[q]? = some (.deferred (some []))))∧w.heap.size≤lnum:=by
  have hbdL:(Blk.loop nt fr ps ca cb .ready none).bdd (h.length+1):=fun t=>AV.bdd_mono (Nat.le_succ _) _ (sa.frame t).2
  rcases hr with rfl | ⟨i0,n0,f0,p0,a0,b0,s0,d0,rfl,hi0⟩
  ·have hl:l=none:=by rw[sa.rnd]; rfl
   subst hl
   let w1':=w.alloc (.deferred (some []))
   have s1:bU w0 m m h h w w1':=bU.junk sa.sim _
   let L:Loop:={ state:= .ready,pending:=none,fn:=fn,tmps:=a.tmps,params:=ps,assign:=ca,body:=cb,defers:=w.heap.size }
   have hsz:w1'.heap.size=w.heap.size+1:=by simp[w1']
   have s2:=bU.new s1.sim (.loop nt fr ps ca cb .ready none) (.loop L) 0 0 ⟨L,rfl,rfl,rfl,rfl,rfl,rfl,sa.size,fun t=>gL (Emb.put_ext m _ _ _ (Nat.le_refl _)) _ _ (sa.frame t).2 (sa.frame t).1⟩ hbdL
   refine⟨w.heap.size+1,[nE w.heap.size],w1'.alloc (.loop L),_,?_,s1.trans s2,by simp[Emb.put,hsz],⟨[w.heap.size],rfl,by simp,fun q hq=> ?_⟩,by omega⟩
   ·simp[Instr.enterLoop,Wd,nE,w1',L]
   ·simp at hq; subst hq
    refine⟨Nat.le_refl _,by omega,?_⟩
    show((w.heap.push _).push _)[w.heap.size]? = _
    rw[Array.getElem?_push,if_neg (by simp),Array.getElem?_push,if_pos rfl]
  ·have hl:l=some (m.blk i0):=by rw[sa.rnd]; rfl
   subst hl
   obtain⟨_,hb0,_⟩:=sa.sim.at_ i0 _ hi0
   obtain⟨L0,hL0,_⟩:=rF hb0
   have hget:=dX (P:=P) hL0 (by simp)
   let L:Loop:={ state:= .ready,pending:=none,fn:=fn,tmps:=a.tmps,params:=ps,assign:=ca,body:=cb,defers:=L0.defers }
   have s2:=bU.new sa.sim (.loop nt fr ps ca cb .ready none) (.loop L) 0 0 ⟨L,rfl,rfl,rfl,rfl,rfl,rfl,sa.size,fun t=>gL (Emb.put_ext m _ _ _ (Nat.le_refl _)) _ _ (sa.frame t).2 (sa.frame t).1⟩ hbdL
   refine⟨w.heap.size,[],w.alloc (.loop L),_,?_,s2,by simp[Emb.put],⟨[],rfl,by simp,by simp⟩,Nat.le_refl _⟩
   simp[Instr.enterLoop,Instr.getLoop,Wd,hget,L]
 obtain⟨lnum,mark,w1,m1,he1,s1,hm1,⟨rs,hrs,hrn,hrall⟩,hlw⟩:=henter
 have hargs:VRs m1 (first++[.yld h.length]++capt) (p ++ #[Value.func (.yield lnum) #[] #[]]++q).toList:=by
  have e1:VRs m1 [.yld h.length] (#[Value.func (.yield lnum) #[] #[]]:Array Value).toList:=⟨_,[],rfl,by simp[VR,hm1],rfl⟩
  exact rZ (VRs_ext s1.ext _ _ k2.1 hp) e1 (VRs_ext s1.ext _ _ k2.2 hq)
 have hbd:AV.bdds (h++[some (Blk.loop nt fr ps ca cb .ready none)]).length (first++[.yld h.length]++capt):=by
  have e1:=AV.bdds_mono s1.le _ k2.1
  have e2:=AV.bdds_mono s1.le _ k2.2
  exact dK (dK e1 ⟨by simp[AV.bdd],trivial⟩) e2
 refine⟨lnum,mark,w1,{ target:= .fn (.func fid) q,args:=p ++ #[Value.func (.yield lnum) #[] #[]] },w1,fid,p ++ #[Value.func (.yield lnum) #[] #[]]++q,w1,he1,?_,fun _ _=>trivial,?_,fun hh=>by simp[Wd,Fence.wide]at hh,?_⟩
 ·have hec:∀v,a.eval (.const v)=v:=fun _=>rfl
  simp[resolve,hev,Deferred.ofValue,hec]
 ·simp only[invoke]; exact jF call.1
 have hcall:=call.2 m1 w1 _ s1.sim hargs hbd
 have hconv:∀ {R:Ending→World→Prop},CallsIn Fence.wide 0 P fid (p ++ #[Value.func (.yield lnum) #[] #[]]++q) w1 R→CallsIn (Wd l) 0 P fid (p ++ #[Value.func (.yield lnum) #[] #[]]++q) w1 R:=fun hx=>by
  cases l with
  | none=>exact hx
  | some l=>exact hx
 refine(hconv hcall).mono fun e w3 ⟨v',e1,m3,v,h3,s3,_,_,n0,f0,p0,a0,b0,st,pd,hrec,hst,hq⟩=> ?_
 subst e1
 have hblk:m3.blk h.length=lnum:=by rw[(s3.ext h.length (by simp)).1]; exact hm1
 obtain⟨_,hb3,_⟩:=s3.sim.at_ _ _ hrec
 obtain⟨L,hL,hs1,hs2,_⟩:=rF hb3
 have s4:=bU.turn s3.sim hrec hL .exhausted pd
 have hget:=dX (P:=P) hL (by simp)
 have hset:=gJ (P:=P) (.loop { L with state:= .exhausted,pending:=pd }) hL (by simp)
 have hend:(Instr.endLoop lnum).run P w3= .ok pd (eO w3 (m3.blk h.length) (.loop { L with state:= .exhausted,pending:=pd })):=by
  have hnb:(L.state==LoopState.busy)=false:=by rw[hs1]; cases st<;>simp_all
  rw[←hblk]
  simp only[Instr.endLoop,Instr.getLoop,Sem.run_bind,hget,Result.andThen_ok,Sem.run_pure,hnb,Bool.false_eq_true,if_false,hset,hs2]
  rfl
 have sT:bU w0 m m3 h (h3.set h.length none) w (eO w3 (m3.blk h.length) (.loop { L with state:= .exhausted,pending:=pd })):=
  (((s1.trans s3).trans s4).weaken (h'':=h3.set h.length none) (by simp) fun j b hj=>by
   by_cases e:h.length=j
   ·subst e
    have:=aI hj
    simp at this
    rw[qF this]at hj; cases hj
   ·rw[qB e]at hj ⊢; exact hj)
 have sa':SA w0 r l nt Z B m3 fr (h3.set h.length none) { a with defers:=mark++a.defers } (eO w3 (m3.blk h.length) (.loop { L with state:= .exhausted,pending:=pd })):=by
  refine⟨sT.sim,FR.ext sa.frame sT,sa.size,Nat.le_trans sa.low sT.mods.size,?_,?_,sa.inr,Nat.le_trans sa.hz sT.le⟩
  ·obtain⟨rs0,hn0,hd0,hall0⟩:=sa.marks
   have hlt0:∀q∈rs0,q<w.heap.size:=fun q hq=>by
    obtain⟨_,h3',_⟩:=hall0 q hq
    rcases Nat.lt_or_ge q w.heap.size with hl | hl
    ·exact hl
    ·rw[Array.getElem?_eq_none hl]at h3'; cases h3'
   have hM1:wV B m1 (h++[some (.loop nt fr ps ca cb .ready none)]) { a with defers:=mark++a.defers } w1:=by
    refine⟨rs++rs0,?_,by simp[hrs,hd0],fun q hq=> ?_⟩
    ·rw[List.nodup_append]
     exact⟨hrn,hn0,fun x hx y hy e=>by have:=(hrall x hx).1; have:=hlt0 y hy; omega⟩
    ·have htold:∀(i:Nat) b,(h++[some (Blk.loop nt fr ps ca cb .ready none)])[i]? = some (some b)→(i<h.length∧h[i]? = some (some b))∨i=h.length:=fun i b hi=>by
      have hil:=aI hi
      simp at hil
      by_cases hl:i<h.length
      ·rw[qH hl]at hi; exact .inl ⟨hl,hi⟩
      ·exact .inr (by omega)
     rcases List.mem_append.1 hq with hq | hq
     ·obtain⟨g1,g2,g3⟩:=hrall q hq
      refine⟨Nat.le_trans sa.low g1,g3,fun i b hi e=> ?_⟩
      rcases htold i b hi with⟨hl,hi⟩ | rfl
      ·rw[(s1.ext i hl).1]at e; have:=sa.sim.lt hi; omega
      ·rw[hm1]at e; omega
     ·obtain⟨g1,g2,g3⟩:=hall0 q hq
      refine⟨g1,by rw[s1.mods.same q (hlt0 q hq) g3]; exact g2,fun i b hi e=> ?_⟩
      rcases htold i b hi with⟨hl,hi⟩ | rfl
      ·rw[(s1.ext i hl).1]at e; exact g3 i b hi e
      ·rw[hm1]at e; have:=hlt0 q hq; omega
   have hM3:=hM1.step (a':={ a with defers:=mark++a.defers }) (s3.trans s4) rfl
   obtain⟨rs',x1,x2,x3⟩:=hM3
   refine⟨rs',x1,x2,fun q hq=> ?_⟩
   obtain⟨y1,y2,y3⟩:=x3 q hq
   refine⟨y1,y2,fun i b hi=> ?_⟩
   have hi':=jO i b hi
   by_cases e:h.length=i
   ·subst e
    have:=aI hi
    simp at this
    rw[qF this]at hi; cases hi
   ·exact y3 i b (by rw[qB e]; exact hi')
  ·rw[sa.rnd]
   cases hr':r with
   | none=>rfl
   | some i=>simp[(sT.ext i (Nat.lt_of_lt_of_le (sa.inr i hr') sa.hz)).1]
 refine⟨pd,_,hend,?_⟩
 cases pd with
 | none=>exact⟨m3,fr,_,sT.toZ sa.hz,sa',hq⟩
 | some cj=>
  cases cj with
  | ret=>exact wpIn_ret ⟨m3,fr,_,sT.toZ sa.hz,sa',hq⟩
  | exit id=>exact wpIn_exit ⟨m3,fr,_,sT.toZ sa.hz,sa',hq⟩
  | _=>exact hq.elim
theorem aDS{m:Emb}{N:Nat}:∀(ps:List Tmp) (args:List AV) (vs:List Value) (fr:Fr) (tmps:Array Value),(∀t∈ps,t<tmps.size)→VRs m args vs→AV.bdds N args→FR m N fr tmps →
 FR m N (rR fr ps args) ((ps.zip vs).foldl (fun tmps (x:Tmp×Value)=>tmps.setIfInBounds x.1 x.2) tmps)∧((ps.zip vs).foldl (fun tmps (x:Tmp×Value)=>tmps.setIfInBounds x.1 x.2) tmps).size=tmps.size:=by
 intro ps
 induction ps with
 | nil=>intro args vs fr tmps _ _ _ hf; exact⟨by simpa[rR]using hf,rfl⟩
 | cons t ts ih=>
  intro args vs fr tmps ht hv hb hf
  cases args with
  | nil=>simp only[VRs]at hv; subst hv; exact⟨by simpa[rR]using hf,rfl⟩
  | cons x xs=>
   obtain⟨y,ys,rfl,h1,h2⟩:=hv
   have hput:FR m N ((t,x)::fr) (tmps.setIfInBounds t y):=FR.put (nt:=tmps.size) (d:=some t) hf (by simpa[uU]using ht t List.mem_cons_self) rfl h1 hb.1
   obtain⟨g1,g2⟩:=ih xs ys ((t,x)::fr) (tmps.setIfInBounds t y) (fun q hq=>by simpa using ht q (List.mem_cons_of_mem _ hq)) h2 hb.2 hput
   exact⟨g1,by rw[List.zip_cons_cons,List.foldl_cons,g2]; simp⟩
def roundQ(Q:AV→Heap→Prop)(rec_:LoopState→Option Code→Blk)(i:Nat)(h:Heap):Exit→Prop
 | .normal=>Q (.bool true) (h.set i (some (rec_ .ready none)))
 | .ret=>Q (.bool false) (h.set i (some (rec_ .done (some .ret))))
 | .exit id=>Q (.bool false) (h.set i (some (rec_ .done (some (.exit id)))))
 | _=>False
theorem aB1{i:Nat}{ps:Array Tmp}{ca cb:Code}{fr0:Fr}{pd0:Option Code}(hi:h[i]? = some (some (.loop nt fr0 ps ca cb .ready pd0))){args:List AV}(hl:args.length=ps.size)(hps:∀t∈ps.toList,t<nt)
 {ma mb:MC} (hma:aW P nt ca=some ma) (hmb:aW P nt cb=some mb) {Q:AV→Heap→Prop}
 (e:HB h→AV.bdds h.length args→EvM P w0 (some i) nt h.length ma (rR fr0 ps.toList args) h fun e fr1 h1=>e= .normal∧h1[i]? = some (some (.loop nt fr0 ps ca cb .ready pd0)) ∧
  EvM P w0 (some i) nt h.length mb fr1 (h1.set i (some (.loop nt fr0 ps ca cb .busy pd0))) fun e _ h2=>
   ∃st pd,h2[i]? = some (some (.loop nt fr0 ps ca cb st pd))∧roundQ Q (.loop nt fr0 ps ca cb) i h2 e):cR P w0 i args h Q:=by
 intro m w vs s hv hbd
 obtain⟨_,hb,hbdl⟩:=s.at_ i _ hi
 obtain⟨L,hL,h1,h2,h3,h4,h5,h6,h7⟩:=rF hb
 have hget:=dX (P:=P) hL (by simp)
 have hlen:=cN hv
 simp at hlen
 have hil:=aI hi
 refine⟨L.fn,(L.params.zip vs).foldl (fun tmps (t,a)=>tmps.setIfInBounds t a) L.tmps,L.assign,L.body,?_,?_⟩
 ·have hne:¬(vs.size≠L.params.size):=by rw[h3]; omega
  simp only[Instr.yield,Instr.getLoop,Sem.run_bind,hget,Result.andThen_ok,Sem.run_pure,Sem.run_ite,hne,if_false]
 refine roundIn_of_wpIn trivial ?_
 rw[h4,h5]
 have hfold:(L.params.zip vs).foldl (fun tmps (x:Tmp×Value)=>tmps.setIfInBounds x.1 x.2) L.tmps=(ps.toList.zip vs.toList).foldl (fun tmps (x:Tmp×Value)=>tmps.setIfInBounds x.1 x.2) L.tmps:=by
  rw[h3,←Array.foldl_toList,Array.toList_zip]
 obtain⟨f1,f2⟩:=aDS ps.toList args vs.toList fr0 L.tmps (fun t ht=>by rw[h6]; exact hps t ht) hv hbd (fun t=>⟨h7 t,hbdl t⟩)
 have hW:∀ {c:Code} {R:Exit→Act→World→Prop} {a:Act} {w:World},c.wpIn (Wd (some (m.blk i))) 0 P R a w→c.wpIn (Fence.wide.inRound (m.blk i)) 0 P R a w:=fun hx=>hx
 have sa:SA w0 (some i) (some (m.blk i)) nt h.length ⟨w.heap.size,[]⟩ m (rR fr0 ps.toList args) h { tmps:=(L.params.zip vs).foldl (fun tmps (x:Tmp×Value)=>tmps.setIfInBounds x.1 x.2) L.tmps,defers:=[] } w:=by
  refine⟨s,?_,?_,Nat.le_refl _,⟨[],by simp,rfl,by simp⟩,rfl,fun j hj=>by cases hj; exact hil,Nat.le_refl _⟩
  ·rw[hfold]; exact f1
  ·rw[hfold,f2,h6]
 refine wpIn_mono (hW (e (fun i b hi=>(s.at_ i b hi).2.2) hbd ca hma m _ w ⟨w.heap.size,[]⟩ _ sa)) fun e1 a1 w1 ⟨m1,fr1,hh1,s1z,sa1,he,hi1,hbody⟩=> ?_
 have s1:=s1z.toS
 subst he
 have hm1:m1.blk i=m.blk i:=(s1.ext i hil).1
 obtain⟨_,hb1,_⟩:=s1.sim.at_ i _ hi1
 obtain⟨L1,hL1,g1,g2,g3,g4,g5,g6,g7⟩:=rF hb1
 have sB:=bU.turn s1.sim hi1 hL1 .busy pd0
 have hget1:=dX (P:=P) hL1 (by simp)
 have hset1:=gJ (P:=P) (.loop { L1 with state:= .busy,pending:=pd0 }) hL1 (by simp)
 refine⟨eO w1 (m1.blk i) (.loop { L1 with state:= .busy,pending:=pd0 }),?_,?_⟩
 ·rw[←hm1]
  simp only[Instr.beginRound,Instr.getLoop,Sem.run_bind,hget1,Result.andThen_ok,Sem.run_pure,g2,hset1,g1]
  rfl
 have sa2:SA w0 (some i) (some (m.blk i)) nt h.length ⟨w.heap.size,[]⟩ m1 fr1 (hh1.set i (some (.loop nt fr0 ps ca cb .busy pd0))) a1 (eO w1 (m1.blk i) (.loop { L1 with state:= .busy,pending:=pd0 })):=
  ⟨sB.sim,FR.ext sa1.frame sB,sa1.size,Nat.le_trans sa1.low sB.mods.size,sa1.marks.step sB rfl,sa1.rnd,sa1.inr,Nat.le_trans sa1.hz sB.le⟩
 refine wpIn_mono (hW (hbody cb hmb m1 a1 _ ⟨w.heap.size,[]⟩ _ sa2)) fun e2 a2 w2 ⟨m2,fr2,hh2,s2z,sa3,st,pd,hi2,hq⟩=> ?_
 have hm2:m2.blk i=m.blk i:=by rw[(s2z.ext i hil).1]; exact hm1
 obtain⟨_,hb2,_⟩:=s2z.sim.at_ i _ hi2
 obtain⟨L2,hL2,k1,k2,k3,k4,k5,k6,k7⟩:=rF hb2
 have hget2:=dX (P:=P) hL2 (by simp)
 have sT:=(((s1z.trans (sB.toZ sa1.hz)).trans s2z)).toS
 have fin:∀(jump:Option Code),∃v w',(Instr.endRound (m.blk i) jump).run P w2= .ok v w'∧v= .bool jump.isNone ∧
  bU w0 m m2 h (hh2.set i (some (.loop nt fr0 ps ca cb (if jump.isNone then .ready else .done) jump))) w w':=fun jump=>by
  have hset2:=gJ (P:=P) (.loop { L2 with state:=if jump.isNone then .ready else .done,pending:=jump }) hL2 (by simp)
  refine⟨_,eO w2 (m2.blk i) (.loop { L2 with state:=if jump.isNone then .ready else .done,pending:=jump }),?_,rfl,sT.trans (bU.turn s2z.sim hi2 hL2 _ jump)⟩
  rw[←hm2]
  simp only[Instr.endRound,Instr.getLoop,Sem.run_bind,hget2,Result.andThen_ok,Sem.run_pure,hset2]
  rfl
 cases e2 with
 | normal=>
  obtain⟨v,w',q1,q2,q3⟩:=fin none
  exact⟨v,w',q1,v,rfl,m2,.bool true,_,q3,by simp[VR,q2],trivial,hq⟩
 | ret=>
  obtain⟨v,w',q1,q2,q3⟩:=fin (some .ret)
  exact⟨v,w',q1,v,rfl,m2,.bool false,_,q3,by simp[VR,q2],trivial,hq⟩
 | exit id=>
  obtain⟨v,w',q1,q2,q3⟩:=fin (some (.exit id))
  exact⟨v,w',q1,v,rfl,m2,.bool false,_,q3,by simp[VR,q2],trivial,hq⟩
 | goto t=>exact hq.elim
 | panic ch=>exact hq.elim
 | outgrown=>exact hq.elim
end
end Go.Proofs.Ab

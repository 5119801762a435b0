/- Own layer, part E2. -/
import Derived.Test.YtiakeffhecpddaaGreatG
import Derived.Test.YtiakeffhecpddaaGreatF
import Derived.Maps.RangeRun
set_option linter.unusedSimpArgs false
set_option linter.unusedVariables false
namespace Go.Proofs.Ab
open Go
def Pl.nd:Pl→Nat
 | .old _=>0
 | .own i _=>i+1
mutual
def AV.nd:AV→Nat
 | .agg l | .tup l=>AV.nds l
 | .ptr p | .sl p _ _ _=>p.nd
 | .map i | .yld i=>i+1
 | .fn _ x y=>max (AV.nds x) (AV.nds y)
 | .ifc _ x=>x.nd
 | _=>0
def AV.nds:List AV→Nat
 | []=>0
 | x::xs=>max x.nd (AV.nds xs)
end
theorem Pl.nd_bdd{p:Pl}{N:Nat}(h:p.nd≤N):p.bdd N:=by cases p<;>simp_all [Pl.nd,Pl.bdd]; omega
mutual
theorem AV.nd_bdd{N:Nat}:∀v:AV,v.nd≤N→v.bdd N
 | .agg l,h=>by simp only[AV.nd,AV.bdd]at *; exact AV.nds_bdd l h
 | .tup l,h=>by simp only[AV.nd,AV.bdd]at *; exact AV.nds_bdd l h
 | .ptr p,h=>by simp only[AV.nd,AV.bdd]at *; exact Pl.nd_bdd h
 | .sl p _ _ _,h=>by simp only[AV.nd,AV.bdd]at *; exact Pl.nd_bdd h
 | .map i,h=>by simp only[AV.nd,AV.bdd]at *; omega
 | .yld i,h=>by simp only[AV.nd,AV.bdd]at *; omega
 | .fn _ x y,h=>by simp only[AV.nd,AV.bdd]at *; exact⟨AV.nds_bdd x (by omega),AV.nds_bdd y (by omega)⟩
 | .ifc _ x,h=>by simp only[AV.nd,AV.bdd]at *; exact AV.nd_bdd x h
 | .undef,_ | .int _ _,_ | .bool _,_ | .str _,_ | .nilP,_ | .nilS,_ | .nilM,_ | .nilF,_ | .nilI,_=>by simp only[AV.bdd]
theorem AV.nds_bdd{N:Nat}:∀l:List AV,AV.nds l≤N→AV.bdds N l
 | [],_=>trivial
 | x::xs,h=>by simp only[AV.nds]at h; exact⟨AV.nd_bdd x (by omega),AV.nds_bdd xs (by omega)⟩
end
def frNd:Fr→Nat
 | []=>0
 | (_,v)::r=>max v.nd (frNd r)
def mapNd:List (AV×AV)→Nat
 | []=>0
 | e::r=>max (max e.1.nd e.2.nd) (mapNd r)
def blkNd:Option Blk→Nat
 | none=>0
 | some (.row c)=>AV.nds c
 | some (.map es)=>mapNd es
 | some (.loop _ fr _ _ _ _ _)=>frNd fr
def aEc:Heap→Nat
 | []=>0
 | b::r=>max (blkNd b) (aEc r)
def keepN(h:Heap):Nat→Nat→Option Nat
 | 0,_=>none
 | f+1,n=>match Nat.ble (aEc (h.take n)) n with
  | true=>some n
  | false=>keepN h f (aEc (h.take n))
mutual
def AV.eqb:AV→AV→Bool
 | .int k n,.int k' n'=>(decide (k=k'))&&decide (n=n')
 | .bool a,.bool b=>a==b
 | .agg l,.agg l'=>AV.eqbs l l'
 | .tup l,.tup l'=>AV.eqbs l l'
 | .ptr (.own i o),.ptr (.own i' o')=>Nat.beq i i'&&Nat.beq o o'
 | .nilP,.nilP=>true
 | .sl (.own i o) n es f,.sl (.own i' o') n' es' f'=>(Nat.beq i i'&&Nat.beq o o')&&((Nat.beq n n'&&Nat.beq es es')&&(f==f'))
 | .nilS,.nilS=>true
 | .map i,.map i'=>Nat.beq i i'
 | .nilM,.nilM=>true
 | .nilF,.nilF=>true
 | .undef,.undef=>true
 | .fn (.func f) a b,.fn (.func f') a' b'=>Nat.beq f f'&&(AV.eqbs a a'&&AV.eqbs b b')
 | _,_=>false
def AV.eqbs:List AV→List AV→Bool
 | [],[]=>true
 | x::xs,y::ys=>AV.eqb x y&&AV.eqbs xs ys
 | _,_=>false
end
mutual
theorem AV.eqb_eq:∀ {x y:AV},AV.eqb x y=true→x=y:=fun {x y} e=>by
 unfold AV.eqb at e
 split at e<;>try simp only[Bool.and_eq_true,decide_eq_true_eq,beq_iff_eq,cW,Bool.false_eq_true]at e
 ·obtain⟨rfl,rfl⟩:=e; rfl
 ·subst e; rfl
 ·rw[AV.eqbs_eq e]
 ·rw[AV.eqbs_eq e]
 ·obtain⟨rfl,rfl⟩:=e; rfl
 ·rfl
 ·obtain⟨⟨rfl,rfl⟩,⟨rfl,rfl⟩,rfl⟩:=e; rfl
 ·rfl
 ·subst e; rfl
 ·rfl
 ·rfl
 ·rfl
 ·obtain⟨rfl,e1,e2⟩:=e; rw[AV.eqbs_eq e1,AV.eqbs_eq e2]
theorem AV.eqbs_eq:∀ {x y:List AV},AV.eqbs x y=true→x=y:=fun {x y} e=>by
 unfold AV.eqbs at e
 split at e<;>simp only[Bool.and_eq_true,Bool.false_eq_true]at e
 ·rfl
 ·rw[AV.eqb_eq e.1,AV.eqbs_eq e.2]
end
structure P2 where
 c:Nat
 b:Nat
 o1:List Nat×List (List Nat)
 o2:List Nat×List (List Nat)
 keep:List Nat
structure Ev where
 w0:World
 tab:Nat→Option SF
 orc:Nat→List AV→Heap→Option (AV×Heap)
 prm:List MIx→Option (List Nat×List (List Nat))
 reg:List MIx→List (List Nat)→Fr→Heap→Option (Fr×Heap)
 prm2:List MIx→Option P2
 trm:Bool
abbrev LE:=List (Nat×SC×SC)
def gO(g:Option (Nat×Bool))(fr:Fr):Option (Bool×Fr):=
 match g with
 | none=>some (true,fr)
 | some p=>match fr.get p.1 with
  | .bool c=>some (c==p.2,(p.1,.bool c)::fr)
  | .tup []=>some (false,fr)
  | _=>none
def lookE(i:Nat):LE→Option (SC×SC)
 | []=>none
 | p::r=>match Nat.beq p.1 i with
  | true=>some p.2
  | false=>lookE i r
end Go.Proofs.Ab
namespace Go.Proofs.Ab
open Go
section
variable {P:Program} {w0:World} {r:Option Nat} {nt Z:Nat} {fr:Fr} {h h':Heap}
def LSe(h h':Heap):Prop:=h.length≤h'.length∧∀i,i<h.length→∀nt fr ps ca cb st pd,h'[i]? = some (some (.loop nt fr ps ca cb st pd))→∃st0 pd0,h[i]? = some (some (.loop nt fr ps ca cb st0 pd0))
theorem LSe.refl:LSe h h:=⟨Nat.le_refl _,fun _ _ _ _ _ _ _ _ _ e=>⟨_,_,e⟩⟩
theorem LSe.trans{h'':Heap}(a:LSe h h')(b:LSe h' h''):LSe h h'':=
 ⟨Nat.le_trans a.1 b.1,fun i hi _ _ _ _ _ _ _ e=>by
  obtain⟨_,_,e⟩:=b.2 i (Nat.lt_of_lt_of_le hi a.1) _ _ _ _ _ _ _ e
  exact a.2 i hi _ _ _ _ _ _ _ e⟩
theorem LSe.app{L:Heap}:LSe h (h++L):=⟨by simp,fun i hi _ _ _ _ _ _ _ e=>by rw[qH hi]at e; exact⟨_,_,e⟩⟩
theorem LSe.set{k:Nat}{b:Option Blk}(hb:∀nt fr ps ca cb st pd,b=some (.loop nt fr ps ca cb st pd)→∃st0 pd0,h[k]? = some (some (.loop nt fr ps ca cb st0 pd0))):LSe h (h.set k b):=
 ⟨by simp,fun i hi nt fr ps ca cb st pd e=>by
  by_cases hk:k=i
  ·subst hk
   rw[qF hi]at e
   exact hb _ _ _ _ _ _ _ (Option.some.inj e)
  ·rw[qB hk]at e; exact⟨_,_,e⟩⟩
theorem LSe.setR{k:Nat}{c:List AV}:LSe h (h.set k (some (.row c))):=LSe.set fun _ _ _ _ _ _ _ e=>by cases e
theorem LSe.setN{k:Nat}:LSe h (h.set k none):=LSe.set fun _ _ _ _ _ _ _ e=>by cases e
theorem LSe.take{n:Nat}(a:LSe h h')(hn:h.length≤n)(hn':n≤h'.length):LSe h (h'.take n):=
 ⟨by rw[List.length_take]; omega,fun i hi _ _ _ _ _ _ _ e=>by
  rw[List.getElem?_take_of_lt (by omega)]at e; exact a.2 i hi _ _ _ _ _ _ _ e⟩
def EOK(P:Program)(E:LE)(h:Heap):Prop:=∀i p,lookE i E=some p→i<h.length∧p.1.good=true∧p.2.good=true ∧
 ∀nt fr ps ca cb st pd,h[i]? = some (some (.loop nt fr ps ca cb st pd))→aW P nt ca=some p.1.er∧aW P nt cb=some p.2.er∧∀t∈ps.toList,t<nt
theorem EOK.ls{E:LE}(k:EOK P E h)(l:LSe h h'):EOK P E h':=fun i p e=>by
 obtain⟨h1,h2,h3,h4⟩:=k i p e
 refine⟨Nat.lt_of_lt_of_le h1 l.1,h2,h3,fun nt fr ps ca cb st pd e=> ?_⟩
 obtain⟨_,_,e⟩:=l.2 i h1 _ _ _ _ _ _ _ e
 exact h4 _ _ _ _ _ _ _ e
theorem EOK.nil:EOK P [] h:=fun i p e=>by cases e
end
theorem mapM_map{α β:Type}{f:α→Option β}:∀ {l:List α} {k:List β},l.mapM f=some k→l.map f=k.map some
 | [],k,e=>by simp at e; subst e; rfl
 | x::l,k,e=>by
  simp only[List.mapM_cons,Option.bind_eq_bind,qC,Option.pure_def,Option.some.injEq]at e
  obtain⟨y,hy,ys,hys,rfl⟩:=e
  rw[List.map_cons,List.map_cons,hy,mapM_map hys]
section
variable {P:Program} {V:Ev} {r:Option Nat} {nt:Nat} {E:LE} {fuel:Nat}
theorem LSe.weak{h H G:Heap}(e:LSe h H)(hl:G.length=H.length)(hs:∀(i:Nat) (b:Blk),G[i]? = some (some b)→H[i]? = some (some b)):LSe h G:=
 ⟨by rw[hl]; exact e.1,fun i hi _ _ _ _ _ _ _ k=>e.2 i hi _ _ _ _ _ _ _ (hs i _ k)⟩
end
end Go.Proofs.Ab
namespace Go.Proofs.Ab
open Go
def Pl.rn(ρ:Nat→Nat):Pl→Pl
 | .old a=> .old a
 | .own i o=> .own (ρ i) o
mutual
def AV.rn(ρ:Nat→Nat):AV→AV
 | .agg l=> .agg (AV.rns ρ l)
 | .tup l=> .tup (AV.rns ρ l)
 | .ptr p=> .ptr (p.rn ρ)
 | .sl p n es f=> .sl (p.rn ρ) n es f
 | .map i=> .map (ρ i)
 | .yld i=> .yld (ρ i)
 | .fn f x y=> .fn f (AV.rns ρ x) (AV.rns ρ y)
 | .ifc t x=> .ifc t (x.rn ρ)
 | v=>v
def AV.rns(ρ:Nat→Nat):List AV→List AV
 | []=>[]
 | x::xs=>x.rn ρ::AV.rns ρ xs
end
def Emb.rn(m:Emb)(ρ:Nat→Nat):Emb:=⟨fun i=>m.blk (ρ i),fun i=>m.base (ρ i),fun i=>m.sz (ρ i)⟩
theorem Emb.pl_rn{m:Emb}{ρ:Nat→Nat}{p:Pl}:(m.rn ρ).pl p=m.pl (p.rn ρ):=by cases p<;>rfl
mutual
theorem wR{m:Emb}{ρ:Nat→Nat}:∀(x:AV) (v:Value),VR m (x.rn ρ) v→VR (m.rn ρ) x v
 | .undef,_,_=>by simp only[VR]
 | .int _ _,_,hv | .bool _,_,hv | .str _,_,hv | .nilP,_,hv | .nilS,_,hv | .nilM,_,hv | .nilF,_,hv | .nilI,_,hv=>by
  simpa only[VR,AV.rn]using hv
 | .agg l,v,hv=>by
  simp only[VR,AV.rn]at *
  obtain⟨a,e,hl⟩:=hv
  exact⟨a,e,VRs_rn l _ hl⟩
 | .tup l,v,hv=>by
  simp only[VR,AV.rn]at *
  obtain⟨a,e,hl⟩:=hv
  exact⟨a,e,VRs_rn l _ hl⟩
 | .ptr p,v,hv=>by simp only[VR,AV.rn]at *; rw[Emb.pl_rn]; exact hv
 | .sl p len es full,v,hv=>by
  simp only[VR,AV.rn]at *
  obtain⟨a,cap,e,h1,h2,h3⟩:=hv
  refine⟨a,cap,e,h1,h2,h3.imp id fun⟨e1,e2⟩=>⟨by rw[Emb.pl_rn]; exact e1,fun i off hp=> ?_⟩⟩
  subst hp
  exact e2 (ρ i) off rfl
 | .map i,v,hv=>by simp only[VR,AV.rn]at *; exact hv
 | .yld i,v,hv=>by simp only[VR,AV.rn]at *; exact hv
 | .fn f x y,v,hv=>by
  simp only[VR,AV.rn]at *
  obtain⟨a,b,e,h1,h2⟩:=hv
  exact⟨a,b,e,VRs_rn x _ h1,VRs_rn y _ h2⟩
 | .ifc t x,v,hv=>by
  simp only[VR,AV.rn]at *
  obtain⟨y,e,h1⟩:=hv
  exact⟨y,e,wR x _ h1⟩
theorem VRs_rn{m:Emb}{ρ:Nat→Nat}:∀(x:List AV) (v:List Value),VRs m (AV.rns ρ x) v→VRs (m.rn ρ) x v
 | [],_,hv=>by simpa only[VRs,AV.rns]using hv
 | x::xs,v,hv=>by
  simp only[VRs,AV.rns]at *
  obtain⟨y,ys,e,h1,h2⟩:=hv
  exact⟨y,ys,e,wR x _ h1,VRs_rn xs _ h2⟩
end
theorem aFC{ρ:Nat→Nat}:∀ {c:List AV} {k:Nat} {x:AV},c[k]? = some x→(AV.rns ρ c)[k]? = some (x.rn ρ)
 | y::c,0,x,e=>by simp only[List.getElem?_cons_zero,Option.some.injEq]at e; subst e; rfl
 | y::c,k+1,x,e=>by simp only[List.getElem?_cons_succ]at e; simpa only[AV.rns,List.getElem?_cons_succ]using aFC e
 | [],k,x,e=>by simp at e
def BRn(ρ:Nat→Nat):Blk→Blk→Prop
 | .row c,.row c'=>c'=AV.rns ρ c
 | .map es,.map es'=>es'=es.map fun e=>(e.1.rn ρ,e.2.rn ρ)
 | .loop nt fr ps ca cb st pd,.loop nt' fr' ps' ca' cb' st' pd'=>(nt=nt'∧ps=ps'∧ca=ca'∧cb=cb'∧st=st'∧pd=pd')∧∀t,(Fr.get fr t).rn ρ=Fr.get fr' t
 | _,_=>False
theorem BR_rn{m:Emb}{ρ:Nat→Nat}{d n:Nat}{b b':Blk}(k:BRn ρ b b'){o:Option Obj}(hr:BR m d n b' o):BR (m.rn ρ) d n b o:=by
 cases b with
 | row c=>
  cases b' with
  | row c'=>
   simp only[BRn]at k
   subst k
   obtain⟨ca,e,h1,h2,h3⟩:=hr
   exact⟨ca,e,h1,h2,fun q x hx=>by
    obtain⟨y,y1,y2⟩:=h3 q _ (aFC hx)
    exact⟨y,y1,wR _ _ y2⟩⟩
  | map=>exact k.elim
  | loop=>exact k.elim
 | map es=>
  cases b' with
  | map es'=>
   simp only[BRn]at k
   subst k
   obtain⟨ea,ck,h1,h2,h3,h4,h5⟩:=hr
   refine⟨ea,ck,h1,by simpa using h2,fun q x hx=> ?_,h4,h5⟩
   obtain⟨y,y1,y2,y3⟩:=h3 q (x.1.rn ρ,x.2.rn ρ) (by rw[List.getElem?_map,hx]; rfl)
   exact⟨y,y1,wR _ _ y2,wR _ _ y3⟩
  | row=>exact k.elim
  | loop=>exact k.elim
 | loop nt fr ps ca cb st pd=>
  cases b' with
  | loop nt' fr' ps' ca' cb' st' pd'=>
   obtain⟨⟨rfl,rfl,rfl,rfl,rfl,rfl⟩,k⟩:=k
   obtain⟨L,h1,h2,h3,h4,h5,h6,h7,h8⟩:=hr
   exact⟨L,h1,h2,h3,h4,h5,h6,h7,fun t=>wR _ _ (by rw[k t]; exact h8 t)⟩
  | row=>exact k.elim
  | map=>exact k.elim
structure HRn(N:Nat)(ρ:Nat→Nat)(h' h2:Heap):Prop where
 id:∀i,i<N→ρ i=i
 le:N≤h2.length
 at_:∀(i:Nat) b,h2[i]? = some (some b)→∃b',h'[ρ i]? = some (some b')∧BRn ρ b b'∧b.bdd h2.length
 inj:∀(i j:Nat) b c,i≠j→h2[i]? = some (some b)→h2[j]? = some (some c)→ρ i≠ρ j
section
variable {P:Program} {w0:World} {m m':Emb} {h h' h2:Heap} {w w':World} {ρ:Nat→Nat}
theorem Sim.rn{N:Nat}(s:Sim w0 m h' w)(k:HRn N ρ h' h2):Sim w0 (m.rn ρ) h2 w:=
 ⟨s.size,s.old,fun i b hi=>by
  obtain⟨b',h1,h3,h4⟩:=k.at_ i b hi
  obtain⟨g1,g2,_⟩:=s.at_ _ _ h1
  exact⟨g1,BR_rn h3 g2,h4⟩,fun i j b c hij hi hj=>by
  obtain⟨b',h1,_,_⟩:=k.at_ i b hi
  obtain⟨c',h3,_,_⟩:=k.at_ j c hj
  exact s.inj _ _ _ _ (k.inj i j b c hij hi hj) h1 h3⟩
theorem dB.rn{N Z:Nat}(s:dB Z w0 m m' h h' w w')(k:HRn N ρ h' h2)(hz:Z≤N):dB Z w0 m (m'.rn ρ) h h2 w w':=
 ⟨s.sim.rn k,fun i hi=>by
  have:=k.id i (by omega)
  obtain⟨e1,e2,e3⟩:=s.ext i hi
  simp only[Emb.rn,this]
  exact⟨e1,e2,e3⟩,s.mods,Nat.le_trans hz k.le,fun i b hi hlt=>by
  obtain⟨b',h1,_,_⟩:=k.at_ i b hi
  exact s.roots (ρ i) b' h1 hlt⟩
theorem bU.rn(s:bU w0 m m' h h' w w')(k:HRn h.length ρ h' h2):bU w0 m (m'.rn ρ) h h2 w w':=((s.toZ (Nat.le_refl _)).rn k (Nat.le_refl _)).toS
theorem ACall.rn{f:FuncId}{args:List AV}{K:AV→Heap→Prop}(e:ACall P w0 f args h fun v h'=>∃ρ v2 h2,HRn h.length ρ h' h2∧v2.rn ρ=v∧v2.bdd h2.length∧K v2 h2):ACall P w0 f args h K:=
 ⟨e.1,fun m w vs s hv hb=>(e.2 m w vs s hv hb).mono fun en w' ⟨v',e1,m',v,h',st,hvr,_,ρ,v2,h2,k,hv2,hb2,hk⟩=>by
  subst hv2
  exact⟨v',e1,m'.rn ρ,v2,h2,st.rn k,wR _ _ hvr,hb2,hk⟩⟩
theorem EvM.rn{r:Option Nat}{nt Z:Nat}{mc:MC}{fr:Fr}{Q:Exit→Fr→Heap→Prop}
 (e:EvM P w0 r nt Z mc fr h fun e fr' h'=>∃N ρ fr2 h2,Z≤N∧HRn N ρ h' h2∧(∀t,(Fr.get fr2 t).rn ρ=Fr.get fr' t∨Fr.get fr2 t= .undef)∧(∀t,(Fr.get fr2 t).bdd h2.length)∧Q e fr2 h2):EvM P w0 r nt Z mc fr h Q:=fun c hc m a w B l sa=>
 wpIn_mono (e c hc m a w B l sa) fun x a' w' ⟨m',fr',h',s,sa',N,ρ,fr2,h2,hz,k,hf,hb,q⟩=>by
  refine⟨m'.rn ρ,fr2,h2,s.rn k hz,⟨sa'.sim.rn k,fun t=>⟨?_,hb t⟩,sa'.size,sa'.low,?_,?_,sa'.inr,Nat.le_trans hz k.le⟩,q⟩
  ·rcases hf t with h1 | h1
   ·exact wR _ _ (by rw[h1]; exact(sa'.frame t).1)
   ·rw[h1]; simp only[VR]
  ·obtain⟨rs,h1,h3,h4⟩:=sa'.marks
   refine⟨rs,h1,h3,fun q hq=> ?_⟩
   obtain⟨g1,g2,g3⟩:=h4 q hq
   exact⟨g1,g2,fun i b hi=>by
    obtain⟨b',k1,_,_⟩:=k.at_ i b hi
    exact g3 _ _ k1⟩
  ·rw[sa'.rnd]
   cases hr:r with
   | none=>rfl
   | some i=>simp only[Option.map_some,Emb.rn]; rw[k.id i (Nat.lt_of_lt_of_le (sa'.inr i hr) hz)]
end
end Go.Proofs.Ab
namespace Go.Proofs.Ab
open Go
open Go.ChangeMaps (setBlock)
section
variable {P:Program} {w0:World} {r l:Option Nat} {nt Z:Nat} {B:Bs} {m m':Emb} {fr:Fr} {h h':Heap} {a:Act} {w w':World}
theorem tV{ops:Array Oper}{o:Oper}(hg:o.guard=none)(hdef:∀c,o.op≠ .defer c)(sa:SA w0 r l nt Z B m fr h a w){v':Value}
 (hr:(execOp a.eval o).run P w= .ok (.value v') w') {Q:Exit→Act→World→Prop} {next:Act→World→Prop}
 (hn:next (a.put o.dst v') w') :
 if Region.wanted o (yielded ops a.tmps)then o.wpIn (Wd l) 0 P a w next Q else(∀f,o.about P w a.eval=some f→(Wd l).fn f)∧next (a.put o.dst undef) w:=by
 have hgc:vW ops o.guard=some none:=by rw[hg]; rfl
 rw[iP hgc sa.frame (b:=true) rfl]
 refine⟨fun _ _=>trivial,?_⟩
 have hsem:o.semAt (Wd l).round a.eval=execOp a.eval o:=by
  cases l with
  | none=>rfl
  | some l=>
   simp only[Oper.semAt,Wd]
   split
   ·rename_i c hc; exact absurd hc (hdef _)
   ·rfl
 rw[hsem,hr]
 exact hn
def Un(m:Emb)(h:Heap)(q:Nat):Prop:=∀(i:Nat) b,h[i]? = some (some b)→m.blk i≠q
theorem Un.step{q:Nat}(u:Un m h q)(s:dB Z w0 m m' h h' w w')(hq:q<w.heap.size):Un m' h' q:=fun i b hi e=>by
 obtain⟨j,c,hj,e'⟩:=s.roots i b hi (by rw[e]; exact hq)
 exact u j c hj (e'.trans e)
theorem SA.un{q:Nat}{o:Obj}(sa:SA w0 r l nt Z B m fr h a w)(u:Un m h q)(hq:w0.heap.size≤q)(hB:∀x,w.heap[q]? ≠ some (.deferred x)):SA w0 r l nt Z B m fr h a (setBlock w q o):=by
 have hne:∀c,c≠q→(setBlock w q o).heap[c]? = w.heap[c]? := fun c hc=>dS (w:=w) (o:=o) hc
 refine⟨⟨by simp[setBlock]; exact sa.sim.size,fun c hc=>by rw[hne c (by omega)]; exact sa.sim.old c hc,fun i b hi=> ?_,sa.sim.inj⟩,sa.frame,sa.size,by simp[setBlock]; exact sa.low,?_,sa.rnd,sa.inr,sa.hz⟩
 ·obtain⟨g1,g2,g3⟩:=sa.sim.at_ i b hi
  exact⟨g1,by rw[hne _ (u i b hi)]; exact g2,g3⟩
 ·obtain⟨rs,g1,g2,g3⟩:=sa.marks
  exact⟨rs,g1,g2,fun x hx=>by
   obtain⟨k1,k2,k3⟩:=g3 x hx
   exact⟨k1,by rw[hne x (fun e=>by subst e; exact hB _ k2)]; exact k2,k3⟩⟩
theorem SA.drew(sa:SA w0 r l nt Z B m fr h a w):SA w0 r l nt Z B m fr h a w.drew:=
 ⟨⟨sa.sim.size,sa.sim.old,sa.sim.at_,sa.sim.inj⟩,sa.frame,sa.size,sa.low,sa.marks,sa.rnd,sa.inr,sa.hz⟩
theorem dB.un{q:Nat}{o:Obj}(s:dB Z w0 m m' h h' w w')(u:Un m' h' q)(hq:w.heap.size≤q)(hw:w0.heap.size≤w.heap.size):dB Z w0 m m' h h' w (setBlock w' q o):=by
 have hne:∀c,c≠q→(setBlock w' q o).heap[c]? = w'.heap[c]? := fun c hc=>dS (w:=w') (o:=o) hc
 refine⟨⟨by simp[setBlock]; exact s.sim.size,fun c hc=>by rw[hne c (by omega)]; exact s.sim.old c hc,fun i b hi=> ?_,s.sim.inj⟩,s.ext,⟨by simp[setBlock]; exact s.mods.size,fun c hc hn=>by rw[hne c (by omega)]; exact s.mods.same c hc hn,s.mods.os,s.mods.tape,s.mods.output⟩,s.le,s.roots⟩
 obtain⟨g1,g2,g3⟩:=s.sim.at_ i b hi
 exact⟨g1,by rw[hne _ (u i b hi)]; exact g2,g3⟩
theorem dB.drew(s:dB Z w0 m m' h h' w w'):dB Z w0 m m' h h' w w'.drew:=
 ⟨⟨s.sim.size,s.sim.old,s.sim.at_,s.sim.inj⟩,s.ext,⟨s.mods.size,s.mods.same,s.mods.os,s.mods.tape,s.mods.output⟩,s.le,s.roots⟩
theorem SA.put1(sa:SA w0 r l nt Z B m fr h a w){d:Option Nat}(hd:uU nt d=true){v:AV}{v':Value}(hv:VR m v v')(hb:v.bdd h.length):SA w0 r l nt Z B m (fr.put d v) h (a.put d v') w:=
 sa.put hd (bU.refl sa.sim) hv hb
theorem SA.forget(sa:SA w0 r l nt Z B m fr h a w)(i:Nat):SA w0 r l nt Z B m fr (h.set i none) a w:=
 ⟨sa.sim.weaken (by simp) (jO (k:=h) (i:=i)),by rw[List.length_set]; exact sa.frame,sa.size,sa.low,by
  obtain⟨rs,g1,g2,g3⟩:=sa.marks
  exact⟨rs,g1,g2,fun x hx=>⟨(g3 x hx).1,(g3 x hx).2.1,fun j b hj=>(g3 x hx).2.2 j b (jO j b hj)⟩⟩,sa.rnd,sa.inr,by rw[List.length_set]; exact sa.hz⟩
theorem dB.forget(s:dB Z w0 m m' h h' w w')(i:Nat):dB Z w0 m m' h (h'.set i none) w w':=
 ⟨s.sim.weaken (by simp) (jO (k:=h') (i:=i)),s.ext,s.mods,by rw[List.length_set]; exact s.le,fun j b hj=>s.roots j b (jO j b hj)⟩
end
def kA0 (tM : TypeId) : List Oper := [{ dst := some 4, op := .load tM (.tmp 1), type := tM, pos := "iter.go:27", after := #[], guard := none }, { dst := some 5, op := .range tM (.tmp 4), type := 0, pos := "iter.go:27", after := #[⟨0, .data⟩], guard := none }]
def kA1 (tB : TypeId) : List Oper := [{ dst := some 6, op := .next (.tmp 5) false, type := 0, pos := "iter.go:27", after := #[], guard := none }, { dst := some 7, op := .extract (.tmp 6) 0, type := tB, pos := "iter.go:27", after := #[⟨0, .data⟩], guard := none }]
def kA2 (tI : TypeId) : List Oper := [{ dst := some 8, op := .entry (.tmp 5), type := 0, pos := "iter.go:27", after := #[], guard := none }, { dst := some 9, op := .extract (.tmp 8) 0, type := tI, pos := "iter.go:27", after := #[⟨0, .data⟩], guard := none }, { dst := some 3, op := .assign (.tmp 9), type := tI, pos := "iter.go:27", after := #[⟨1, .data⟩, ⟨0, .phase⟩, ⟨1, .phase⟩], guard := none }]
def kS3 (tF tI tB : TypeId) : Code := .seq (.region 3 #[{ dst := some 10, op := .move (.tmp 0), type := tF, pos := "iter.go:28", after := #[], guard := none }, { dst := some 11, op := .move (.tmp 3), type := tI, pos := "iter.go:28", after := #[], guard := none }, { dst := some 12, op := .call { callee := .value (.tmp 10), args := #[.tmp 11], argTypes := #[tI] }, type := tB, pos := "iter.go:28", after := #[⟨0, .data⟩, ⟨1, .data⟩], guard := none }, { dst := some 13, op := .unOp .not tB (.tmp 12), type := tB, pos := "iter.go:28", after := #[⟨2, .data⟩], guard := none }] false) (.cond (.tmp 13) .ret .skip)
def kL(tF tI tB:TypeId):Code:= .seq (.region 1 (kA1 tB).toArray false) (.seq (.cond (.tmp 7) .skip (.exit 0)) (.block 1 (.seq (.region 2 (kA2 tI).toArray false) (kS3 tF tI tB))))
def kCode(tM tF tI tB:TypeId):Code:= .seq (.region 0 (kA0 tM).toArray false) (.block 0 (.loop (kL tF tI tB)))
def kM3:MC:= .seq (.reg [.op (some 10) none (.mov (.t 0)),.op (some 11) none (.mov (.t 3)),.call (some 12) none (.t 10) [.t 11],.op (some 13) none (.un .not (.t 12))]) (.cond (.t 13) .ret .skip)
def dY(e:MapEntry):AV:=match e.key with
 | .int k n=> .int k n
 | _=> .undef
def uJ(ea:Array MapEntry)(seen:Array Nat):List AV:=(leftOf ea seen).toList.map dY
theorem aAC:∀ {l:List MapEntry} {e:MapEntry},(l.map (·.born)).Nodup→e∈l→l.Perm (e::l.filter fun x=> !(x.born==e.born))
 | [],e,_,he=>by cases he
 | x::l,e,hn,he=>by
  simp only[List.map_cons,List.nodup_cons]at hn
  rcases List.mem_cons.1 he with rfl | he
  ·have:l.filter (fun x=> !(x.born==e.born))=l:=List.filter_eq_self.2 fun y hy=>by
    have:y.born≠e.born:=fun h=>hn.1 (h▸List.mem_map.2 ⟨y,hy,rfl⟩)
    simpa using this
   simp[this]
  ·have hx:x.born≠e.born:=fun h=>hn.1 (h▸List.mem_map.2 ⟨e,he,rfl⟩)
   rw[List.filter_cons,if_pos (by simpa using hx)]
   exact((aAC hn.2 he).cons x).trans (List.Perm.swap _ _ _)
theorem aG1{ea:Array MapEntry}{seen:Array Nat}{e:MapEntry}(hn:(ea.toList.map (·.born)).Nodup)(he:e∈(leftOf ea seen).toList):(uJ ea seen).Perm (dY e::uJ ea (seen.push e.born)):=by
 have e1:(leftOf ea (seen.push e.born)).toList=(leftOf ea seen).toList.filter fun x=> !(x.born==e.born):=by
  simp only[leftOf,Array.toList_filter,List.filter_filter]
  refine List.filter_congr fun x _=> ?_
  rw[contains_push]
  cases seen.contains x.born<;>cases(x.born==e.born)<;>rfl
 have hn2:((leftOf ea seen).toList.map (·.born)).Nodup:=by
  simp only[leftOf,Array.toList_filter]
  exact hn.sublist ((List.filter_sublist).map _)
 have:=(aAC hn2 he).map dY
 simp only[uJ]
 rw[e1]; exact this
section
variable {P:Program} {w0:World} {l:Option Nat} {Z:Nat} {B:Bs} {m m1 m2:Emb} {fr:Fr} {h G G2:Heap} {a:Act} {w w1 w2:World} {ea:Array MapEntry} {ck bm r:Nat} {seen:Array Nat}
structure WF(ea:Array MapEntry)(ck bm r:Nat)(m:Emb)(G:Heap)(w:World)(seen:Array Nat):Prop where
 it:w.heap[r]? = some (.mapIter (some bm) ck seen ck)
 mp:w.heap[bm]? = some (.map ea ck)
 ur:Un m G r
 ub:Un m G bm
theorem uO{q:Nat}{o:Obj}(e:w.heap[q]? = some o):q<w.heap.size:=by
 rcases Nat.lt_or_ge q w.heap.size with hl | hl
 ·exact hl
 ·rw[Array.getElem?_eq_none hl]at e; cases e
theorem WF.step(k:WF ea ck bm r m1 G w1 seen)(s:dB Z w0 m1 m2 G G2 w1 w2):WF ea ck bm r m2 G2 w2 seen:=
 ⟨by rw[s.mods.same r (uO k.it) k.ur]; exact k.it,by rw[s.mods.same bm (uO k.mp) k.ub]; exact k.mp,k.ur.step s (uO k.it),k.ub.step s (uO k.mp)⟩
structure KH(w0:World)(l:Option Nat)(Z:Nat)(B:Bs)(m:Emb)(h:Heap)(w:World)(ea:Array MapEntry)(ck bm r:Nat)(y:AV)(I:List AV→Heap→Prop)(m1:Emb)(fr:Fr)(G:Heap)(a:Act)(w1:World)(seen:Array Nat)(p:List AV):Prop where
 st:dB Z w0 m m1 h G w w1
 sa:SA w0 none l 14 Z B m1 fr G a w1
 wf:WF ea ck bm r m1 G w1 seen
 g0:fr.get 0=y
 g5:fr.get 5= .ptr (.old ⟨r,0,none⟩)
 pp:(p++uJ ea seen).Perm (ea.toList.map dY)
 i:I p G
def KQ(w0:World)(l:Option Nat)(Z:Nat)(B:Bs)(m:Emb)(h:Heap)(w:World)(ea:Array MapEntry)(ck bm r:Nat)(I:List AV→Heap→Prop):Exit→Act→World→Prop:=
 fun e a' w'=>e= .exit 0∧∃m' fr' G',dB Z w0 m m' h G' w w'∧SA w0 none l 14 Z B m' fr' G' a' w'∧∃p,p.Perm (ea.toList.map dY)∧I p G'∧∃seen,WF ea ck bm r m' G' w' seen
variable {y:AV} {I:List AV→Heap→Prop} {tM tF tI tB:TypeId}
structure KOk(P:Program)(tM tF tI tB:TypeId):Prop where
 c0:(kA0 tM)[0]?.bind (fI P 14 (kA0 tM).toArray)=some (.op (some 4) none (.load (.t 1) none))
 c1:(kA1 tB)[1]?.bind (fI P 14 (kA1 tB).toArray)=some (.op (some 7) none (.ext (.t 6) 0))
 c2:(kA2 tI)[1]?.bind (fI P 14 (kA2 tI).toArray)=some (.op (some 9) none (.ext (.t 8) 0))
 c3:(kA2 tI)[2]?.bind (fI P 14 (kA2 tI).toArray)=some (.op (some 3) none (.mov (.t 9)))
 c4:aW P 14 (kS3 tF tI tB)=some kM3
 tm:∃k e,P.underlying tM=some (.map k e)
theorem ev_5{N:Nat}(hf:FR m N fr a.tmps)(g5:fr.get 5= .ptr (.old ⟨r,0,none⟩)):a.eval (.tmp 5)= .pointer (some ⟨r,0,none⟩):=by
 have:=(hf 5).1
 rw[g5]at this
 simp only[VR,Emb.pl]at this
 exact this
theorem SA.recall{nt:Nat}{rr:Option Nat}{i:Nat}{b:Blk}(sa:SA w0 rr l nt Z B m fr G a w)(hi:i<G.length)(h1:w0.heap.size≤m.blk i)(h2:BR m (m.base i) (m.sz i) b (w.heap[m.blk i]?))(h3:b.bdd G.length)(hu:Un m G (m.blk i))(hd:∀x,w.heap[m.blk i]? ≠ some (.deferred x)):SA w0 rr l nt Z B m fr (G.set i (some b)) a w:=by
 refine⟨⟨sa.sim.size,sa.sim.old,fun j c hj=> ?_,fun j k c d hjk hj hk=> ?_⟩,by rw[List.length_set]; exact sa.frame,sa.size,sa.low,?_,sa.rnd,sa.inr,by rw[List.length_set]; exact sa.hz⟩
 ·by_cases e:i=j
  ·subst e
   rw[qF hi]at hj
   cases hj
   exact⟨h1,h2,by rw[List.length_set]; exact h3⟩
  ·rw[qB e]at hj
   rw[List.length_set]; exact sa.sim.at_ j c hj
 ·by_cases e:i=j
  ·subst e
   rw[qB hjk]at hk
   exact fun q=>hu k d hk q.symm
  ·rw[qB e]at hj
   by_cases e2:i=k
   ·subst e2; exact fun q=>hu j c hj q
   ·rw[qB e2]at hk
    exact sa.sim.inj j k c d hjk hj hk
 ·obtain⟨rs,g1,g2,g3⟩:=sa.marks
  refine⟨rs,g1,g2,fun x hx=>⟨(g3 x hx).1,(g3 x hx).2.1,fun j c hj=> ?_⟩⟩
  by_cases e:i=j
  ·subst e
   exact fun q=>hd (some []) (by rw[q]; exact(g3 x hx).2.1)
  ·rw[qB e]at hj
   exact(g3 x hx).2.2 j c hj
theorem dB.recall{i:Nat}{b:Blk}{fr:Fr}{rr:Option Nat}{nt:Nat}(s:dB Z w0 m1 m h G w1 w)(sa:SA w0 rr l nt Z B m fr (G.set i (some b)) a w)(hi:i<G.length)(hr:∃(j:Nat) (c:Blk),h[j]? = some (some c)∧m1.blk j=m.blk i):dB Z w0 m1 m h (G.set i (some b)) w1 w:=
 ⟨sa.sim,s.ext,s.mods,by rw[List.length_set]; exact s.le,fun j c hj hlt=>by
  by_cases e:i=j
  ·subst e; exact hr
  ·rw[qB e]at hj
   exact s.roots j c hj hlt⟩
theorem aJm(ok:KOk P tM tF tI tB)(hw:w0.heap.size≤w.heap.size)(hr:w.heap.size≤r)(hn:(ea.toList.map (·.born)).Nodup)(hb:∀x∈ea.toList,x.born<ck)(hk:∀x∈ea.toList,∃k n,x.key= .int k n)
 (hI:∀p k G,(∃q,(p++k::q).Perm (ea.toList.map dY))→I p G→bE P w0 y [k] G fun v G'=>v= .bool true∧I (p++[k]) G') :
 ∀(n:Nat) (seen:Array Nat) (p:List AV) (m1:Emb) (fr:Fr) (G:Heap) (a:Act) (w1:World),(leftOf ea seen).size=n→KH w0 l Z B m h w ea ck bm r y I m1 fr G a w1 seen p→wW (Wd l) P (kL tF tI tB) (KQ w0 l Z B m h w ea ck bm r I) a w1:=by
 intro n
 induction n with
 | zero=>
  intro seen p m1 fr G a w1 hs kh
  refine sN (wpIn_seq (wpIn_region_lit ?_))
  change wpListIn _ _ P (kA1 tB).toArray _ [_,_] _ _
  simp only[wpListIn]
  rcases run_next_at (P:=P) w1 0 r bm ck ck seen ea ck kh.wf.it kh.wf.mp hb (Nat.le_refl _)with⟨_,hnx⟩ | ⟨e,he,_⟩
  ·refine tV (P:=P) (l:=l) (v':= .tuple #[.bool false]) (w':=w1) rfl (fun c=>by simp) kh.sa (by simp[execOp,ev_5 kh.sa.frame kh.g5,hnx]) ?_
   refine lE (P:=P) (ops:=(kA1 tB).toArray) (K:=fun f g=>f=(7,.bool false)::(6,.tup [.bool false])::fr∧g=G) ok.c1 (kh.sa.put1 (v:= .tup [.bool false]) rfl ⟨_,rfl,_,_,rfl,rfl,rfl⟩ ⟨trivial,trivial⟩) ⟨_,_,rfl,rfl,rfl⟩ fun m2 f2 g2 a2 w2 s2 sa2 ⟨e1,e2⟩ _=> ?_
   subst e1; subst e2
   refine wpIn_seq (wpIn_cond_false ((sa2.frame 7).1) (wpIn_exit ⟨rfl,m2,_,_,kh.st.trans (s2.toZ kh.sa.hz),sa2,p,?_,kh.i,_,kh.wf.step (s2.toZ kh.sa.hz)⟩))
   have:uJ ea seen=[]:=by
    have:(leftOf ea seen).toList=[]:=by rw[←List.length_eq_zero_iff,Array.length_toList]; exact hs
    simp[uJ,this]
   have hp:=kh.pp
   rwa [this,List.append_nil]at hp
  ·have:(leftOf ea seen).toList=[]:=by
    rw[←List.length_eq_zero_iff,Array.length_toList]; exact hs
   rw[this]at he; cases he
 | succ n ih=>
  intro seen p m1 fr G a w1 hs kh
  refine sN (wpIn_seq (wpIn_region_lit ?_))
  change wpListIn _ _ P (kA1 tB).toArray _ [_,_] _ _
  simp only[wpListIn]
  rcases run_next_at (P:=P) w1 0 r bm ck ck seen ea ck kh.wf.it kh.wf.mp hb (Nat.le_refl _)with⟨h0,_⟩ | ⟨e,he,wd,hwd,hnx⟩
  ·omega
  have hmem:=(mem_left he).1
  obtain⟨kk,kn,hkey⟩:=hk e hmem
  have hAV:dY e= .int kk kn:=by simp[dY,hkey]
  have hsa:SA w0 none l 14 Z B m1 fr G a wd:=by
   rcases hwd with rfl | rfl
   ·exact kh.sa
   ·exact kh.sa.drew
  have hst:dB Z w0 m m1 h G w wd:=by
   rcases hwd with rfl | rfl
   ·exact kh.st
   ·exact kh.st.drew
  have hit:wd.heap[r]? = some (.mapIter (some bm) ck seen ck):=by rcases hwd with rfl | rfl<;>exact kh.wf.it
  have hmp:wd.heap[bm]? = some (.map ea ck):=by rcases hwd with rfl | rfl<;>exact kh.wf.mp
  have hbr:bm≠r:=fun e=>by rw[e,hit]at hmp; cases hmp
  have sa1:=hsa.un (o:= .mapIter (some bm) ck (seen.push e.born) ck) kh.wf.ur (by omega) (fun x hx=>by rw[hit]at hx; cases hx)
  have st1:=hst.un (o:= .mapIter (some bm) ck (seen.push e.born) ck) kh.wf.ur hr hw
  have wf1:WF ea ck bm r m1 G (setBlock wd r (.mapIter (some bm) ck (seen.push e.born) ck)) (seen.push e.born):=
   ⟨qZ (uO hit),(dS hbr).trans hmp,kh.wf.ur,kh.wf.ub⟩
  refine tV (P:=P) (l:=l) (v':= .tuple #[.bool true,e.key,e.val]) (w':=setBlock wd r (.mapIter (some bm) ck (seen.push e.born) ck)) rfl (fun c=>by simp) kh.sa (by simp[execOp,ev_5 kh.sa.frame kh.g5,hnx]) ?_
  refine lE (P:=P) (ops:=(kA1 tB).toArray) (K:=fun f g=>f=(7,.bool true)::(6,.tup [.bool true,dY e,.undef])::fr∧g=G) ok.c1 (sa1.put1 (v:= .tup [.bool true,dY e,.undef]) rfl ⟨_,rfl,_,_,rfl,rfl,_,_,rfl,by rw[hAV]; exact hkey,_,_,rfl,trivial,rfl⟩ ⟨trivial,by rw[hAV]; trivial,trivial,trivial⟩) ⟨_,_,rfl,rfl,rfl⟩ fun m2 f2 g2 a2 w2 s2 sa2 ⟨e1,e2⟩ _=> ?_
  subst e1; subst e2
  have st2:=st1.trans (s2.toZ sa1.hz)
  have wf2:=wf1.step (s2.toZ sa1.hz)
  refine wpIn_seq (wpIn_cond_true ((sa2.frame 7).1) (wpIn_skip (wpIn_block (wpIn_seq (wpIn_region_lit ?_)))))
  change wpListIn _ _ P (kA2 tI).toArray _ [_,_,_] _ _
  simp only[wpListIn]
  refine tV (P:=P) (l:=l) (v':= .tuple #[e.key,e.val]) (w':=w2) rfl (fun c=>by simp) sa2 (by simp[execOp,ev_5 sa2.frame (show Fr.get (_::_::fr) 5=_ from kh.g5),run_entry_at w2 r bm ck seen ea ck e wf2.it wf2.mp hmem hn]) ?_
  refine lE (P:=P) (ops:=(kA2 tI).toArray) (K:=fun f g=>f=(9,dY e)::(8,.tup [dY e,.undef])::(7,.bool true)::(6,.tup [.bool true,dY e,.undef])::fr∧g=g2) ok.c2 (sa2.put1 (v:= .tup [dY e,.undef]) rfl ⟨_,rfl,_,_,rfl,by rw[hAV]; exact hkey,_,_,rfl,trivial,rfl⟩ ⟨by rw[hAV]; trivial,trivial,trivial⟩) ⟨_,_,rfl,rfl,rfl⟩ fun m3 f3 g3 a3 w3 s3 sa3 ⟨e1,e2⟩ _=> ?_
  subst e1; subst e2
  have st3:=st2.trans (s3.toZ sa2.hz)
  have wf3:=wf2.step (s3.toZ sa2.hz)
  refine lE (P:=P) (ops:=(kA2 tI).toArray) (K:=fun f g=>f=(3,dY e)::(9,dY e)::(8,.tup [dY e,.undef])::(7,.bool true)::(6,.tup [.bool true,dY e,.undef])::fr∧g=g3) ok.c3 sa3 ⟨_,_,rfl,rfl,rfl⟩ fun m4 f4 g4 a4 w4 s4 sa4 ⟨e1,e2⟩ _=> ?_
  subst e1; subst e2
  have st4:=st3.trans (s4.toZ sa3.hz)
  have wf4:=wf3.step (s4.toZ sa3.hz)
  have hlp:=aG1 hn he
  have hpp:(p++dY e::uJ ea (seen.push e.born)).Perm (ea.toList.map dY):=(hlp.symm.append_left p).trans kh.pp
  have E3:EvM P w0 none 14 Z kM3 ((3,dY e)::(9,dY e)::(8,.tup [dY e,.undef])::(7,.bool true)::(6,.tup [.bool true,dY e,.undef])::fr) g4 fun x f g=>x= .normal∧f.get 0=y∧f.get 5= .ptr (.old ⟨r,0,none⟩)∧I (p++[dY e]) g:=by
   refine aGi (aLE ?_)
   show bE P w0 (fr.get 0) [dY e] g4 _
   rw[kh.g0]
   refine bE.mono (hI p (dY e) g4 ⟨_,hpp⟩ kh.i) fun v g ⟨e1,hi⟩=> ?_
   subst e1
   exact uZ (t:=false) rfl (aDq ⟨rfl,kh.g0,kh.g5,hi⟩)
  refine wpIn_mono (E3 _ ok.c4 m4 a4 w4 B l sa4) fun x a5 w5 ⟨m5,f5,g5,s5,sa5,q1,q2,q3,q4⟩=> ?_
  subst q1
  have hlen:(leftOf ea (seen.push e.born)).size=n:=by
   have:=hlp.length_eq
   simp only[uJ,List.length_map,Array.length_toList,List.length_cons]at this
   omega
  exact ih (seen.push e.born) (p++[dY e]) m5 f5 g5 a5 w5 hlen ⟨st4.trans s5,sa5,wf4.step s5,q2,q3,by rw[List.append_assoc]; exact hpp,q4⟩
end
end Go.Proofs.Ab
namespace Go.Proofs.Ab
open Go
section
variable {P:Program} {w0:World} {Z:Nat} {h:Heap} {y:AV} {tM tF tI tB:TypeId}
theorem aNR{m:Emb}{es:List (AV×AV)}{ea:Array MapEntry}(hk:∀e∈es,∃k n,e.1= .int k n)(hs:ea.size=es.length)(hv:∀(k:Nat) x,es[k]? = some x→∃e,ea[k]? = some e∧VR m x.1 e.key∧VR m x.2 e.val) :
 ea.toList.map dY=es.map (·.1)∧∀x∈ea.toList,∃k n,x.key= .int k n:=by
 have key:∀(k:Nat) x,es[k]? = some x→∃e,ea.toList[k]? = some e∧dY e=x.1∧∃k n,e.key= .int k n:=fun k x hx=>by
  obtain⟨e,h1,h2,_⟩:=hv k x hx
  obtain⟨kk,n,hkn⟩:=hk x (List.mem_of_getElem? hx)
  rw[hkn]at h2
  simp only[VR]at h2
  exact⟨e,by simpa using h1,by rw[hkn]; simp[dY,h2],kk,n,h2⟩
 constructor
 ·refine List.ext_getElem (by simpa using hs) fun i h1 h2=> ?_
  rw[List.length_map]at h2
  obtain⟨e,k1,k2,_⟩:=key i es[i] (qA h2)
  rw[List.getElem_map,List.getElem_map,←k2]
  rw[qA (by simpa using h1)]at k1
  rw[Option.some.inj k1]
 ·intro x hx
  obtain⟨i,hi,rfl⟩:=List.getElem_of_mem hx
  rw[Array.length_toList,hs]at hi
  obtain⟨e,k1,_,k2⟩:=key i es[i] (qA hi)
  rw[qA (by simpa[hs]using hi)]at k1
  rw[Option.some.inj k1]; exact k2
theorem aD7(ok:KOk P tM tF tI tB){f:FuncId}(hc:(P.funcs[f]?).bind (·.body)=some (kCode tM tF tI tB))(hrn:((P.funcs[f]?).map fun fn=>(fn.results.toList.mapM (crv P),fn.ntmps))=some (some [],14))(hbd:dH P f=true)
 {p:Pl} {mi:Nat} {es:List (AV×AV)} (hp:rd w0 h p=some (.map mi)) (hm:h[mi]? = some (some (.map es))) (hk:∀e∈es,∃k n,e.1= .int k n) {I:List AV→Heap→Prop} (h0:I [] (h.set mi none))
 (hI:∀p k G,(∃q,(p++k::q).Perm (es.map (·.1)))→I p G→bE P w0 y [k] G fun v G'=>v= .bool true∧I (p++[k]) G') {Q:AV→Heap→Prop} (hQ:∀p G,p.Perm (es.map (·.1))→I p G→h.length≤G.length→Q (.tup []) (G.set mi (some (.map es)))):ACall P w0 f [y,.ptr p] h Q:=by
 obtain⟨fn,hfn,hc⟩:=qC.1 hc
 rw[hfn]at hrn
 simp only[Option.map_some,Option.some.injEq,Prod.mk.injEq]at hrn
 obtain⟨hrs,hnt⟩:=hrn
 refine aAc hfn hc hrs hbd (by rw[hnt]; simp) fun hh hbb m a w B l sa=> ?_
 rw[hnt]at sa ⊢
 refine wpIn_seq (wpIn_region_lit ?_)
 change wpListIn _ _ P (kA0 tM).toArray _ [_,_] _ _
 simp only[wpListIn]
 refine lE (P:=P) (ops:=(kA0 tM).toArray) (K:=fun f g=>f=(4,.map mi)::(0,y)::(1,.ptr p)::[]∧g=h) ok.c0 sa ⟨.map mi,h,?_,rfl,rfl⟩ fun m2 f2 g2 a2 w2 s2 sa2 ⟨e1,e2⟩ _=> ?_
 ·show((rdv w0 h p none).bind fun v=>some (v,h))=_
  simp only[rdv,hp,Option.bind_some]
 subst e1; subst e2
 obtain⟨g1,⟨ea,ck,b1,b2,b3,b4,b5⟩,_⟩:=sa2.sim.at_ mi _ hm
 obtain⟨tk,te,htm⟩:=ok.tm
 have he4:a2.eval (.tmp 4)= .map (some (m2.blk mi)):=by
  have:=(sa2.frame 4).1
  exact this
 have hrg:=run_range_map (P:=P) w2 tM tk te (m2.blk mi) ea ck htm b1
 refine tV (P:=P) (l:=l) (v':= .pointer (some ⟨w2.heap.size,0,none⟩)) (w':=w2.alloc (.mapIter (some (m2.blk mi)) ck #[] ck)) rfl (fun c=>by simp) sa2 (by simp[execOp,he4,hrg]) ?_
 have sj:=bU.junk sa2.sim (.mapIter (some (m2.blk mi)) ck #[] ck)
 have sa3:=(sa2.put (d:=some 5) rfl sj (v:= .ptr (.old ⟨w2.heap.size,0,none⟩)) (v':= .pointer (some ⟨w2.heap.size,0,none⟩)) rfl trivial).forget mi
 obtain⟨k1,k2⟩:=aNR hk b2 b3
 have hsz:w0.heap.size≤w2.heap.size:=sa2.sim.size
 have hbm:m2.blk mi<w2.heap.size:=sa2.sim.lt hm
 have kh:KH w0 l g2.length B m g2 w ea ck (m2.blk mi) w2.heap.size y I m2 _ (g2.set mi none) _ _ #[] []:=
  ⟨(s2.toZ sa.hz).trans ((sj.toZ sa2.hz).forget mi),sa3,⟨heap_alloc_new _ _,by rw[heap_alloc_old _ _ hbm]; exact b1,fun i b hi e=>by
   have:=sa2.sim.lt (jO i b hi)
   omega,fun i b hi e=>by
   by_cases hmi:mi=i
   ·subst hmi
    have:=aI hi
    rw[List.length_set]at this
    rw[qF this]at hi; cases hi
   ·rw[qB hmi]at hi
    exact sa2.sim.inj i mi _ _ (fun e=>hmi e.symm) hi hm e⟩,rfl,rfl,by
   have:leftOf ea #[]=ea:=by simp[leftOf]
   rw[List.nil_append,uJ,this],h0⟩
 refine wpIn_block (xV ((aJm ok (sa.sim.size) (Nat.le_trans s2.mods.size (Nat.le_refl _)) b4 b5 k2 (fun p k G ⟨q,hq⟩=>hI p k G ⟨q,by rw[←k1]; exact hq⟩) _ _ _ _ _ _ _ _ rfl kh).mono fun e a' w' ⟨q1,m',fr',G',q2,q3,p',q4,q5,seen,q6⟩=> ?_))
 subst q1
 have hlt:=aI hm
 have hGl:g2.length≤G'.length:=q2.le
 have hml:mi<G'.length:=Nat.lt_of_lt_of_le hlt hGl
 have hext:Ext m2 m' g2.length:=fun i hi=>⟨(q2.ext i hi).1.trans (s2.ext i hi).1.symm,(q2.ext i hi).2.1.trans (s2.ext i hi).2.1.symm,(q2.ext i hi).2.2.trans (s2.ext i hi).2.2.symm⟩
 have ext2:=hext mi hlt
 ·have hmp:w'.heap[m'.blk mi]? = some (.map ea ck):=by rw[ext2.1]; exact q6.mp
  have hbd:=(sa2.sim.at_ mi _ hm).2.2
  have q7:=q3.recall (i:=mi) (b:= .map es) hml (by rw[ext2.1]; exact g1) (by
   rw[hmp]
   exact⟨ea,ck,rfl,b2,fun k x hx=>by
    obtain⟨e,c1,c2,c3⟩:=b3 k x hx
    have hb:=hbd x (List.mem_of_getElem? hx)
    exact⟨e,c1,gL hext x.1 e.key hb.1 c2,gL hext x.2 e.val hb.2 c3⟩,b4,b5⟩) (Blk.bdd_mono hGl hbd) (by rw[ext2.1]; exact q6.ub) (fun x hx=>by rw[hmp]at hx; cases hx)
  exact⟨m',fr',G'.set mi (some (.map es)),q2.recall q7 hml ⟨mi,_,hm,by rw[ext2.1]; exact(s2.ext mi hlt).1.symm⟩,q7,.inl rfl,.tup [],rfl,hQ p' G' (by rw[←k1]; exact q4) q5 hGl⟩
end
end Go.Proofs.Ab

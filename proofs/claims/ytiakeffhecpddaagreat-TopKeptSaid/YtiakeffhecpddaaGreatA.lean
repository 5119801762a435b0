/- Own layer, part A. -/
import Derived.CallsIn
import Derived.OrdersIn
import Derived.RangeFuncLeaves
import Derived.LoopNIn
import Derived.TacticsIn
import Derived.Laws.Sem
import Derived.Laws.World
import Derived.Laws.Cells
import Derived.Laws.Build
import Derived.Laws.StructEq
import Derived.Laws.MakeOwn
import Derived.Laws.AppendOwn
import Derived.Laws.Slices
set_option linter.unusedSimpArgs false
set_option linter.unusedVariables false
namespace Go.Proofs.Ab
open Go
theorem qA{α:Type _}{l:List α}{i:Nat}(h:i<l.length):l[i]? = some l[i]:=List.getElem?_eq_getElem h
theorem qB{α:Type _}{l:List α}{i j:Nat}(h:i≠j){a:α}:(l.set i a)[j]? = l[j]? := List.getElem?_set_ne h
theorem qC{α:Type _}{β:Type _}{b:β}{x:Option α}{f:α→Option β}:x.bind f=some b↔∃a,x=some a∧f a=some b:=Option.bind_eq_some_iff
theorem qD{α:Type _}{β:Type _}{x:Option α}{f:α→β}{b:β}:Option.map f x=some b↔∃a,x=some a∧f a=b:=Option.map_eq_some_iff
theorem qE{n m:Nat}(h:Nat.ble n m=true):n≤m:=Nat.le_of_ble_eq_true h
theorem qF{α:Type _}{l:List α}{i:Nat}{a:α}(h:i<l.length):(l.set i a)[i]? = some a:=List.getElem?_set_self h
theorem qG{α:Type _}{l:List α}{i:Nat}(h:i<l.length):l[i]∈l:=List.getElem_mem h
theorem qH{α:Type _}{l k:List α}{i:Nat}(h:i<l.length):(l++k)[i]? = l[i]? := List.getElem?_append_left h
theorem qI{α:Type _}{l k:List α}{i:Nat}(h:l.length≤i):(l++k)[i]? = k[i - l.length]? := List.getElem?_append_right h
inductive Pl where
 | old (a:Addr)
 | own (i off:Nat)
def Pl.add:Pl→Nat→Pl
 | .old a,n=> .old (a.add n)
 | .own i o,n=> .own i (o+n)
inductive AV where
 | undef
 | int (k:IntKind) (n:Int)
 | bool (b:Bool)
 | str (s:ByteArray)
 | agg (l:List AV)
 | tup (l:List AV)
 | ptr (p:Pl)
 | nilP
 | sl (p:Pl) (len es:Nat) (full:Bool)
 | nilS
 | map (i:Nat)
 | nilM
 | fn (f:Fn) (first capt:List AV)
 | yld (i:Nat)
 | nilF
 | ifc (t:TypeId) (v:AV)
 | nilI
instance:Inhabited AV:=⟨.undef⟩
structure Emb where
 blk:Nat→Nat
 base:Nat→Nat
 sz:Nat→Nat
def Emb.pl(m:Emb):Pl→Addr
 | .old a=>a
 | .own i o=>⟨m.blk i,m.base i+o,none⟩
theorem Emb.pl_add(m:Emb)(p:Pl)(n:Nat):m.pl (p.add n)=(m.pl p).add n:=by
 cases p with
 | old a=>rfl
 | own i o=>simp only[Pl.add,Emb.pl,Addr.add]; split<;>simp_all [Nat.add_assoc]
mutual
def VR(m:Emb):AV→Value→Prop
 | .undef,_=>True
 | .int k n,v=>v= .int k n
 | .bool b,v=>v= .bool b
 | .str s,v=>v= .string s
 | .agg l,v=>∃a,v= .agg a∧VRs m l a.toList
 | .tup l,v=>∃a,v= .tuple a∧VRs m l a.toList
 | .ptr p,v=>v= .pointer (some (m.pl p))
 | .nilP,v=>v= .pointer none
 | .sl p len es full,v=>∃a cap,v= .slice (some a) len cap∧len≤cap∧(full=true→cap=len) ∧
  (cap=0∨(a=m.pl p∧∀i off,p= .own i off→off+cap*es≤m.sz i))
 | .nilS,v=>v= .slice none 0 0
 | .map i,v=>v= .map (some (m.blk i))
 | .nilM,v=>v= .map none
 | .fn f x y,v=>∃a b,v= .func f a b∧VRs m x a.toList∧VRs m y b.toList
 | .yld i,v=>v= .func (.yield (m.blk i)) #[] #[]
 | .nilF,v=>v= .nilFunc
 | .ifc t x,v=>∃y,v= .iface t y∧VR m x y
 | .nilI,v=>v= .nilIface
def VRs(m:Emb):List AV→List Value→Prop
 | [],l=>l=[]
 | x::xs,l=>∃y ys,l=y::ys∧VR m x y∧VRs m xs ys
end
def Pl.bdd(N:Nat):Pl→Prop
 | .old _=>True
 | .own i _=>i<N
mutual
def AV.bdd(N:Nat):AV→Prop
 | .agg l | .tup l=>AV.bdds N l
 | .ptr p | .sl p _ _ _=>p.bdd N
 | .map i | .yld i=>i<N
 | .fn _ x y=>AV.bdds N x∧AV.bdds N y
 | .ifc _ x=>x.bdd N
 | _=>True
def AV.bdds(N:Nat):List AV→Prop
 | []=>True
 | x::xs=>x.bdd N∧AV.bdds N xs
end
theorem Pl.bdd_mono{N N':Nat}(h:N≤N'){p:Pl}(hp:p.bdd N):p.bdd N':=by
 cases p<;>simp_all [Pl.bdd]; omega
mutual
theorem AV.bdd_mono{N N':Nat}(h:N≤N'):∀v:AV,v.bdd N→v.bdd N'
 | .agg l,hv=>by simp only[AV.bdd]at *; exact AV.bdds_mono h l hv
 | .tup l,hv=>by simp only[AV.bdd]at *; exact AV.bdds_mono h l hv
 | .ptr p,hv=>by simp only[AV.bdd]at *; exact Pl.bdd_mono h hv
 | .sl p _ _ _,hv=>by simp only[AV.bdd]at *; exact Pl.bdd_mono h hv
 | .map i,hv=>by simp only[AV.bdd]at *; omega
 | .yld i,hv=>by simp only[AV.bdd]at *; omega
 | .fn _ x y,hv=>by simp only[AV.bdd]at *; exact⟨AV.bdds_mono h x hv.1,AV.bdds_mono h y hv.2⟩
 | .ifc _ x,hv=>by simp only[AV.bdd]at *; exact AV.bdd_mono h x hv
 | .undef,_ | .int _ _,_ | .bool _,_ | .str _,_ | .nilP,_ | .nilS,_ | .nilM,_ | .nilF,_ | .nilI,_=>by simp only[AV.bdd]
theorem AV.bdds_mono{N N':Nat}(h:N≤N'):∀l:List AV,AV.bdds N l→AV.bdds N' l
 | [],_=>by simp only[AV.bdds]
 | x::xs,hv=>by simp only[AV.bdds]at *; exact⟨AV.bdd_mono h x hv.1,AV.bdds_mono h xs hv.2⟩
end
theorem cG{N:Nat}{l:List AV}:AV.bdds N l↔∀x∈l,x.bdd N:=by
 induction l with
 | nil=>simp[AV.bdds]
 | cons x xs ih=>simp[AV.bdds,ih]
theorem dJ{m:Emb}{l:List AV}{k:List Value}:VRs m l k↔l.length=k.length∧∀(i:Nat) x,l[i]? = some x→∃y,k[i]? = some y∧VR m x y:=by
 induction l generalizing k with
 | nil=>simp only[VRs]; cases k<;>simp
 | cons x xs ih=>
  simp only[VRs]
  constructor
  ·rintro⟨y,ys,rfl,hx,hxs⟩
   obtain⟨hl,hr⟩:=ih.1 hxs
   refine⟨by simp[hl],fun i z hz=> ?_⟩
   cases i with
   | zero=>simp at hz; subst hz; exact⟨y,by simp,hx⟩
   | succ i=>simp at hz; simpa using hr i z hz
  ·rintro⟨hl,hr⟩
   cases k with
   | nil=>simp at hl
   | cons y ys=>
    obtain⟨y',hy',hv⟩:=hr 0 x (by simp)
    simp at hy'; subst hy'
    exact⟨_,_,rfl,hv,ih.2 ⟨by simpa using hl,fun i z hz=>by simpa using hr (i+1) z (by simpa using hz)⟩⟩
def Ext(m m':Emb)(N:Nat):Prop:=∀i,i<N→m'.blk i=m.blk i∧m'.base i=m.base i∧m'.sz i=m.sz i
theorem Ext.refl(m:Emb)(N:Nat):Ext m m N:=fun _ _=>⟨rfl,rfl,rfl⟩
theorem Ext.trans{m m' m'':Emb}{N N':Nat}(h:Ext m m' N)(h':Ext m' m'' N')(hn:N≤N'):Ext m m'' N:=
 fun i hi=>⟨(h' i (by omega)).1.trans (h i hi).1,(h' i (by omega)).2.1.trans (h i hi).2.1,(h' i (by omega)).2.2.trans (h i hi).2.2⟩
theorem Ext.mono{m m':Emb}{N N':Nat}(h:Ext m m' N)(hn:N'≤N):Ext m m' N':=fun i hi=>h i (by omega)
theorem Ext.pl{m m':Emb}{N:Nat}(h:Ext m m' N){p:Pl}(hp:p.bdd N):m'.pl p=m.pl p:=by
 cases p with
 | old a=>rfl
 | own i o=>simp only[Pl.bdd]at hp; simp[Emb.pl,(h i hp).1,(h i hp).2.1]
mutual
theorem gL{m m':Emb}{N:Nat}(h:Ext m m' N):∀(x:AV) (v:Value),x.bdd N→VR m x v→VR m' x v
 | .undef,_,_,_=>by simp only[VR]
 | .int _ _,_,_,hv | .bool _,_,_,hv | .str _,_,_,hv | .nilP,_,_,hv | .nilS,_,_,hv | .nilM,_,_,hv | .nilF,_,_,hv | .nilI,_,_,hv=>by
  simpa only[VR]using hv
 | .agg l,v,hb,hv=>by
  simp only[VR,AV.bdd]at *
  obtain⟨a,e,hl⟩:=hv
  exact⟨a,e,VRs_ext h l _ hb hl⟩
 | .tup l,v,hb,hv=>by
  simp only[VR,AV.bdd]at *
  obtain⟨a,e,hl⟩:=hv
  exact⟨a,e,VRs_ext h l _ hb hl⟩
 | .ptr p,v,hb,hv=>by simp only[VR,AV.bdd]at *; rw[h.pl hb]; exact hv
 | .sl p len es full,v,hb,hv=>by
  simp only[VR,AV.bdd]at *
  obtain⟨a,cap,e,h1,h2,h3⟩:=hv
  refine⟨a,cap,e,h1,h2,h3.imp id fun⟨e1,e2⟩=>⟨by rw[h.pl hb]; exact e1,fun i off hp=> ?_⟩⟩
  subst hp
  simp only[Pl.bdd]at hb
  rw[(h i hb).2.2]; exact e2 i off rfl
 | .map i,v,hb,hv=>by simp only[VR,AV.bdd]at *; rw[(h i hb).1]; exact hv
 | .yld i,v,hb,hv=>by simp only[VR,AV.bdd]at *; rw[(h i hb).1]; exact hv
 | .fn f x y,v,hb,hv=>by
  simp only[VR,AV.bdd]at *
  obtain⟨a,b,e,h1,h2⟩:=hv
  exact⟨a,b,e,VRs_ext h x _ hb.1 h1,VRs_ext h y _ hb.2 h2⟩
 | .ifc t x,v,hb,hv=>by
  simp only[VR,AV.bdd]at *
  obtain⟨y,e,h1⟩:=hv
  exact⟨y,e,gL h x _ hb h1⟩
theorem VRs_ext{m m':Emb}{N:Nat}(h:Ext m m' N):∀(x:List AV) (v:List Value),AV.bdds N x→VRs m x v→VRs m' x v
 | [],_,_,hv=>by simpa only[VRs]using hv
 | x::xs,v,hb,hv=>by
  simp only[VRs,AV.bdds]at *
  obtain⟨y,ys,e,h1,h2⟩:=hv
  exact⟨y,ys,e,gL h x _ hb.1 h1,VRs_ext h xs _ hb.2 h2⟩
end
abbrev Fr:=List (Nat×AV)
def Fr.get:Fr→Nat→AV
 | [],_=> .undef
 | (k,v)::r,t=>if Nat.beq t k then v else Fr.get r t
def FR(m:Emb)(N:Nat)(fr:Fr)(tmps:Array Value):Prop:=∀t,VR m (fr.get t) (tmps.getD t undef)∧(fr.get t).bdd N
inductive Blk where
 | row (c:List AV)
 | map (es:List (AV×AV))
 | loop (nt:Nat) (fr:Fr) (ps:Array Tmp) (assign body:Code) (st:LoopState) (pend:Option Code)
abbrev Heap:=List (Option Blk)
def Blk.bdd(N:Nat):Blk→Prop
 | .row c=>∀x∈c,x.bdd N
 | .map es=>∀e∈es,e.1.bdd N∧e.2.bdd N
 | .loop _ fr _ _ _ _ _=>∀t,(Fr.get fr t).bdd N
def BR(m:Emb)(d n:Nat):Blk→Option Obj→Prop
 | .row c,o=>∃ca e,o=some (.cells ca e (0,0))∧ca.size=d+n∧∀(k:Nat) x,c[k]? = some x→∃y,ca[d+k]? = some y∧VR m x y
 | .map es,o=>∃ea ck,o=some (.map ea ck)∧ea.size=es.length∧(∀(k:Nat) x,es[k]? = some x→∃e,ea[k]? = some e∧VR m x.1 e.key∧VR m x.2 e.val) ∧
  (ea.toList.map (·.born)).Nodup∧∀e∈ea.toList,e.born<ck
 | .loop nt fr ps assign body st pend,o=>∃L:Loop,o=some (.loop L)∧L.state=st∧L.pending=pend∧L.params=ps∧L.assign=assign∧L.body=body∧L.tmps.size=nt ∧
  ∀t,VR m (fr.get t) (L.tmps.getD t undef)
theorem Blk.bdd_mono{N N':Nat}(h:N≤N'){b:Blk}(hb:b.bdd N):b.bdd N':=by
 cases b with
 | row c=>exact fun x hx=>AV.bdd_mono h x (hb x hx)
 | map es=>exact fun e he=>⟨AV.bdd_mono h _ (hb e he).1,AV.bdd_mono h _ (hb e he).2⟩
 | loop nt fr ps a c st p=>exact fun t=>AV.bdd_mono h _ (hb t)
theorem aFo{m m':Emb}{N d n:Nat}(h:Ext m m' N){b:Blk}(hb:b.bdd N){o:Option Obj}(hr:BR m d n b o):BR m' d n b o:=by
 cases b with
 | row c=>
  obtain⟨ca,e,rfl,hs,hk⟩:=hr
  refine⟨ca,e,rfl,hs,fun k x hx=> ?_⟩
  obtain⟨y,hy,hv⟩:=hk k x hx
  exact⟨y,hy,gL h x y (hb x (List.mem_of_getElem? hx)) hv⟩
 | map es=>
  obtain⟨ea,ck,rfl,hs,hk,hn,hl⟩:=hr
  refine⟨ea,ck,rfl,hs,fun k x hx=> ?_,hn,hl⟩
  obtain⟨e,he,h1,h2⟩:=hk k x hx
  exact⟨e,he,gL h _ _ (hb x (List.mem_of_getElem? hx)).1 h1,gL h _ _ (hb x (List.mem_of_getElem? hx)).2 h2⟩
 | loop nt fr ps a c st p=>
  obtain⟨L,rfl,h1,h2,h3,h4,h5,h5',h6⟩:=hr
  exact⟨L,rfl,h1,h2,h3,h4,h5,h5',fun t=>gL h _ _ (hb t) (h6 t)⟩
structure Sim(w0:World)(m:Emb)(h:Heap)(w:World):Prop where
 size:w0.heap.size≤w.heap.size
 old:∀c,c<w0.heap.size→w.heap[c]? = w0.heap[c]?
 at_:∀(i:Nat) b,h[i]? = some (some b)→w0.heap.size≤m.blk i∧BR m (m.base i) (m.sz i) b (w.heap[m.blk i]?)∧b.bdd h.length
 inj:∀(i j:Nat) b c,i≠j→h[i]? = some (some b)→h[j]? = some (some c)→m.blk i≠m.blk j
structure aBY(w0:World)(m:Emb)(h:Heap)(w w':World):Prop where
 size:w.heap.size≤w'.heap.size
 same:∀c,c<w.heap.size→(∀(i:Nat) b,h[i]? = some (some b)→m.blk i≠c)→w'.heap[c]? = w.heap[c]?
 os:w'.os=w.os
 tape:w'.tape=w.tape
 output:w'.output=w.output
theorem aBY.refl(w0:World)(m:Emb)(h:Heap)(w:World):aBY w0 m h w w:=⟨Nat.le_refl _,fun _ _ _=>rfl,rfl,rfl,rfl⟩
theorem BR.some{m:Emb}{d n:Nat}{b:Blk}{o:Option Obj}(h:BR m d n b o):∃x,o=some x:=by
 cases b with
 | row c=>obtain⟨ca,e,rfl,_⟩:=h; exact⟨_,rfl⟩
 | map es=>obtain⟨ea,ck,rfl,_⟩:=h; exact⟨_,rfl⟩
 | loop nt fr ps a c st p=>obtain⟨L,rfl,_⟩:=h; exact⟨_,rfl⟩
theorem Sim.lt{w0:World}{m:Emb}{h:Heap}{w:World}(s:Sim w0 m h w){i:Nat}{b:Blk}(hi:h[i]? = some (some b)):m.blk i<w.heap.size:=by
 obtain⟨x,hx⟩:=(s.at_ i b hi).2.1.some
 rcases Nat.lt_or_ge (m.blk i) w.heap.size with h1 | h1
 ·exact h1
 ·rw[Array.getElem?_eq_none h1]at hx; cases hx
theorem aBY.trans{w0:World}{m m':Emb}{h h':Heap}{w w' w'':World}(a:aBY w0 m h w w')(b:aBY w0 m' h' w' w'')
 (hx:∀(i:Nat) b',h'[i]? = some (some b')→m'.blk i<w.heap.size→∃(j:Nat) (b:Blk),h[j]? = some (some b)∧m.blk j=m'.blk i):aBY w0 m h w w'':=by
 refine⟨Nat.le_trans a.size b.size,fun c hc hn=> ?_,b.os.trans a.os,b.tape.trans a.tape,b.output.trans a.output⟩
 rw[b.same c (Nat.lt_of_lt_of_le hc a.size) (fun i b' hi e=> ?_),a.same c hc hn]
 subst e
 obtain⟨j,b,hj,e⟩:=hx i b' hi hc
 exact hn j b hj e
theorem Sim.weaken{w0:World}{m:Emb}{h h':Heap}{w:World}(s:Sim w0 m h w)(hl:h'.length=h.length)
 (hs:∀(i:Nat) b,h'[i]? = some (some b)→h[i]? = some (some b)):Sim w0 m h' w:=
 ⟨s.size,s.old,fun i b hi=>by rw[hl]; exact s.at_ i b (hs i b hi),fun i j b c hij hi hj=>s.inj i j b c hij (hs i b hi) (hs j c hj)⟩
end Go.Proofs.Ab
namespace Go.Proofs.Ab
open Go
inductive Opd where
 | t (n:Nat)
 | k (v:AV)
def Opd.ev(fr:Fr):Opd→AV
 | .t n=>fr.get n
 | .k v=>v
inductive MOp where
 | mov (x:Opd)
 | pick (c a b:Opd)
 | box (x:Opd) (n:Nat)
 | alloc (z:List AV)
 | build (z:List AV) (parts:List (Nat×Nat×Opd))
 | bslice (es:Nat) (z:List AV) (len:Nat) (parts:List (Nat×Nat×Opd))
 | load (x:Opd) (n:Option Nat)
 | store (x v:Opd) (n:Nat)
 | nilck (x:Opd)
 | bin (op:BinOp) (x y:Opd)
 | eqb (neq:Bool) (x y:Opd)
 | eqag (s:List Bool) (neq:Bool) (x y:Opd)
 | eqnil (sl neq:Bool) (x:Opd)
 | un (op:UnOp) (x:Opd)
 | conv (k:IntKind) (x:Opd)
 | mkif (t:TypeId) (x:Opd)
 | mkfn (f:Fn) (a b:List Opd)
 | mkmap
 | mksl (es:Nat) (z:List AV) (bytes:Nat) (len cap:Opd)
 | slc (es:Nat) (x:Opd) (lo hi mx:Option Opd)
 | slca (n es:Nat) (x:Opd) (lo hi mx:Option Opd)
 | addr (x:Opd) (off:Nat)
 | fld (x:Opd) (off:Nat) (n:Option Nat)
 | idxs (es:Nat) (x i:Opd)
 | idxa (n es:Nat) (x i:Opd)
 | idx (n es:Nat) (agg:Bool) (x i:Opd)
 | look (s:Bool×List Bool) (z:AV) (ok:Bool) (x k:Opd)
 | mput (s:Bool×List Bool) (m k v:Opd)
 | ext (x:Opd) (i:Nat)
 | len (x:Opd)
 | lenm (x:Opd)
 | lena (n:Nat)
 | app (es:Nat) (z:List AV) (bytes:Nat) (x y:Opd)
 | minmax (isMin:Bool) (l:List Opd)
 | eqni (neq:Bool) (x:Opd)
 | tass (t:TypeId) (z:AV) (ok:Bool) (x:Opd)
 | copy (es:Nat) (x y:Opd)
 | panic (x:Opd)
 | defer (f:Opd) (as:List Opd)
 | recov
def one:AV→Bool
 | .undef | .agg _ | .tup _=>false
 | _=>true
def cellsOf:AV→Option (List AV)
 | .undef | .tup _=>none
 | .agg l=>if l.all one then some l else none
 | v=>some [v]
def inj:Value→AV
 | .int k n=> .int k n
 | .bool b=> .bool b
 | .string s=> .str s
 | .pointer none=> .nilP
 | .pointer (some a)=> .ptr (.old a)
 | .slice none 0 0=> .nilS
 | .slice (some a) l c=>if l≤c then .sl (.old a) l 0 false else .undef
 | .map none=> .nilM
 | .nilFunc=> .nilF
 | .nilIface=> .nilI
 | _=> .undef
def rd(w0:World)(h:Heap):Pl→Option AV
 | .old a=>(w0.cell? a).map inj
 | .own i o=>match h[i]? with
  | some (some (.row c))=>c[o]?
  | _=>none
def rdn(w0:World)(h:Heap):Pl→Nat→Option (List AV)
 | .old a,n=>(List.range n).mapM fun j=>(w0.cell? (a.add j)).map inj
 | .own i o,n=>match h[i]? with
  | some (some (.row c))=>if o+n≤c.length then some ((c.drop o).take n)else none
  | _=>none
def rdv(w0:World)(h:Heap)(p:Pl):Option Nat→Option AV
 | none=>rd w0 h p
 | some n=>(rdn w0 h p n).map .agg
def inK(k:IntKind)(n:Int):Bool:=decide (k.min≤n)&&decide (n≤k.max)
def cO(c:List AV)(o:Nat)(l:List AV):List AV:=c.take o++l++c.drop (o+l.length)
def iU(k:IntKind)(n:Int):Option AV:=if inK k n then some (.int k n)else none
def nW(op:BinOp)(k:IntKind)(x y:Int):Int:=
 let a:=BitVec.ofInt k.bits x
 let b:=BitVec.ofInt k.bits y
 match op with
 | .and=>k.wrap (a &&& b).toNat
 | .or=>k.wrap (a ||| b).toNat
 | .xor=>k.wrap (a ^^^ b).toNat
 | _=>k.wrap (a &&& ~~~b).toNat
def kI(op:BinOp)(k:IntKind)(a b:Int):Option AV:=
 match op with
 | .add=>iU k (a+b)
 | .sub=>some (.int k (k.wrap (a - b)))
 | .mul=>iU k (a*b)
 | .quo=>if b=0 then none else iU k (a.tdiv b)
 | .rem=>if b=0 then none else some (.int k (a.tmod b))
 | .and | .or | .xor | .andNot=>some (.int k (nW op k a b))
 | .eql=>some (.bool (a==b))
 | .neq=>some (.bool (a != b))
 | .lss=>some (.bool (decide (a<b)))
 | .leq=>some (.bool (decide (a≤b)))
 | .gtr=>some (.bool (decide (a>b)))
 | .geq=>some (.bool (decide (a≥b)))
 | _=>none
def qW(op:BinOp)(k:IntKind)(a b:Int):Option AV:=
 if b<0 then none else
 match op with
 | .shl=>iU k (a*2^(min b.toNat k.bits))
 | .shr=>some (.int k (a.fdiv (2^(min b.toNat k.bits))))
 | _=>none
def bin(op:BinOp)(x y:AV):Option AV:=
 match x,y with
 | .int k a,.int k' b=>match op with
  | .shl=>qW .shl k a b
  | .shr=>qW .shr k a b
  | _=>if k=k' then kI op k a b else none
 | _,_=>none
def aGu(op:UnOp)(x:AV):Option AV:=
 match op,x with
 | .neg,.int k n=>iU k (0 - n)
 | .not,.bool b=>some (.bool !b)
 | _,_=>none
def ceq(i:Bool):AV→AV→Option Bool
 | .int k a,.int k' b=>if i&&k==k' then some (a==b)else none
 | .bool a,.bool b=>if i then none else some (a==b)
 | _,_=>none
def dU:List Bool→List AV→List AV→Option Bool
 | [],[],[]=>some true
 | i::is,x::xs,y::ys=>match ceq i x y with
  | some true=>dU is xs ys
  | some false=>if(dU is xs ys).isSome then some false else none
  | none=>none
 | _,_,_=>none
def keq(s:Bool×List Bool)(x y:AV):Option Bool:=
 if s.1 then match x,y with
  | .agg l,.agg k=>dU s.2 l k
  | _,_=>none
 else dU s.2 [x] [y]
def iA(s:Bool×List Bool)(k:AV):List (AV×AV)→Nat→Option (Option (Nat×AV))
 | [],_=>some none
 | e::es,i=>match keq s k e.1 with
  | some true=>some (some (i,e.2))
  | some false=>iA s k es (i+1)
  | none=>none
def aFW:AV→Option Bool
 | .nilP | .nilS | .nilM | .nilF | .nilI=>some true
 | .ptr _ | .sl _ _ _ _ | .map _ | .fn _ _ _ | .yld _ | .ifc _ _=>some false
 | _=>none
def pQ(sl:Bool):AV→Option Bool
 | .nilS=>if sl then some true else none
 | .sl _ _ _ _=>if sl then some false else none
 | .nilF=>if sl then none else some true
 | .fn _ _ _ | .yld _=>if sl then none else some false
 | _=>none
def jM(c:List AV):List (Nat×Nat×AV)→Option (List AV)
 | []=>some c
 | (o,n,v)::r=>match cellsOf v with
  | some l=>if l.length=n∧o+n≤c.length then jM (cO c o l) r else none
  | none=>none
def fS(z:List AV):Nat→List AV
 | 0=>[]
 | n+1=>z++fS z n
def fH(p:Pl)(es es':Nat):Bool:=
 match p with
 | .old _=>true
 | .own _ _=>es==es'
def cH:AV→Option Nat
 | .int _ n=>if 0≤n then some n.toNat else none
 | _=>none
def dF(fr:Fr)(n:Nat)(lo hi mx:Option Opd):Option (Nat×Nat×Option Nat):=
 let get (o:Option Opd) (d:Nat):Option Nat:=match o with
  | some x=>cH (x.ev fr)
  | none=>some d
 match get lo 0,get hi n with
 | some l,some h=>match mx with
  | none=>if l≤h∧h≤n then some (l,h,none)else none
  | some x=>if hi.isNone then none else match cH (x.ev fr)with
   | some m=>if l≤h∧h≤m∧m≤n then some (l,h,some m)else none
   | none=>none
 | _,_=>none
def fW(mo:Option Nat)(hh:Nat)(d:Bool):Bool:=
 match mo with
 | none=>d
 | some m=>m==hh
def fZ(l:List AV)(off:Nat):Option Nat→Option AV
 | none=>l[off]?
 | some n=>some (.agg ((l.drop off).take n))
def mm(isMin:Bool):AV→List AV→Option AV
 | v,[]=>some v
 | .int k x,.int _ y::r=>mm isMin (.int k (if isMin then(if y<x then y else x)else(if y>x then y else x))) r
 | _,_=>none
def mN(h:Heap)(c:List AV)(len es:Nat)(full:Bool):Option (AV×Heap):=
 some (.sl (.own h.length 0) len es full,h++[some (.row c)])
def srcOf(w0:World)(h:Heap)(es:Nat):AV→Option (Nat×List AV)
 | .nilS=>some (0,[])
 | .sl q n es' _=>if fH q es es' then(rdn w0 h q (n*es)).map fun l=>(n,l)else none
 | _=>none
def eD(w0:World)(h:Heap)(es bytes:Nat)(x y:AV):Option (AV×Heap):=
 (srcOf w0 h es y).bind fun nl=>
  if nl.1=0 then(match x with | .nilS=>some (.nilS,h) | .sl p len es' full=>some (.sl p len es' full,h) | _=>none)else
  match x with
  | .nilS=>if nl.1*(bytes+1)≤2^40∧nl.2.all one then mN h nl.2 nl.1 es false else none
  | .sl p len es' full=>if fH p es es'∧(len+nl.1)*(bytes+1)≤2^40∧nl.2.all one then
   if full then(rdn w0 h p (len*es)).bind fun old=>mN h (old++nl.2) (len+nl.1) es false
   else match p with
    | .own i o=>(rdn w0 h (.own i o) (len*es)).bind fun old=>some (.sl (.own h.length 0) (len+nl.1) es false,h.set i none++[some (.row (old++nl.2))])
    | .old _=>none
   else none
  | _=>none
def vJ:AV→Option Nat
 | .nilS=>some 0
 | .sl _ n _ _=>some n
 | _=>none
def xG(w0:World)(h:Heap)(es k:Nat):AV→Option (List AV)
 | .sl q _ es' _=>if fH q es es' then rdn w0 h q (k*es)else none
 | _=>none
def zN(w0:World)(h:Heap)(es:Nat)(x y:AV):Option (AV×Heap):=
 (vJ x).bind fun len=>(vJ y).bind fun n=>
  if min n len=0 then some (.int .i64 0,h)else
  match x with
  | .sl (.own i o) _ es' _=>(xG w0 h es (min n len) y).bind fun l=>
   if es=es'∧l.all one then match h[i]? with
    | some (some (.row c))=>if o+min n len*es≤c.length then some (.int .i64 (min n len:Nat),h.set i (some (.row (cO c o l))))else none
    | _=>none
   else none
  | _=>none
def yC(t:TypeId)(z:AV)(ok:Bool)(x:AV):Option AV:=
 match x with
 | .ifc t' v=>if t'=t then some (if ok then .tup [v,.bool true]else v)else if ok then some (.tup [z,.bool false])else none
 | .nilI=>if ok then some (.tup [z,.bool false])else none
 | _=>none
def zB:AV→Option Bool
 | .nilI=>some true
 | .ifc _ _=>some false
 | _=>none
def aop(w0:World)(op:MOp)(fr:Fr)(h:Heap):Option (AV×Heap):=
 let ev (x:Opd):AV:=x.ev fr
 let pure (v:AV):Option (AV×Heap):=some (v,h)
 match op with
 | .mov x=>pure (ev x)
 | .pick c a b=>match ev c with
  | .bool t=>pure (if t then ev a else ev b)
  | _=>none
 | .box x n=>match cellsOf (ev x)with
  | some l=>if l.length=n then some (.ptr (.own h.length 0),h++[some (.row l)])else none
  | none=>none
 | .alloc z=>some (.ptr (.own h.length 0),h++[some (.row z)])
 | .build z ps=>match jM z (ps.map fun(o,n,x)=>(o,n,ev x))with
  | some c=>pure (.agg c)
  | none=>none
 | .bslice es z len ps=>match jM (fS z len) (ps.map fun(o,n,x)=>(o,n,ev x))with
  | some c=>mN h c len es true
  | none=>none
 | .load x n=>match ev x with
  | .ptr p=>(rdv w0 h p n).bind pure
  | _=>none
 | .store x v n=>match ev x,cellsOf (ev v)with
  | .ptr (.own i o),some l=>match h[i]? with
   | some (some (.row c))=>if l.length=n∧o+n≤c.length then some (.undef,h.set i (some (.row (cO c o l))))else none
   | _=>none
  | _,_=>none
 | .nilck x=>match aFW (ev x)with
  | some false=>match ev x with
   | .ptr p=>pure (.ptr p)
   | .fn (.func f) a b=>pure (.fn (.func f) a b)
   | _=>none
  | _=>none
 | .bin op x y=>(bin op (ev x) (ev y)).bind pure
 | .eqb neq x y=>match ev x,ev y with
  | .bool a,.bool b=>pure (.bool (if neq then !(a==b)else a==b))
  | _,_=>none
 | .eqag s neq x y=>match ev x,ev y with
  | .agg a,.agg b=>(dU s a b).bind fun r=>pure (.bool (if neq then !r else r))
  | _,_=>none
 | .eqnil sl neq x=>(pQ sl (ev x)).bind fun r=>pure (.bool (if neq then !r else r))
 | .un op x=>(aGu op (ev x)).bind pure
 | .conv k x=>match ev x with
  | .int _ n=>(iU k n).bind pure
  | _=>none
 | .mkif t x=>pure (.ifc t (ev x))
 | .mkfn f a b=>pure (.fn f (a.map ev) (b.map ev))
 | .mkmap=>some (.map h.length,h++[some (.map [])])
 | .mksl es z bytes len cap=>match cH (ev len),cH (ev cap)with
  | some l,some c=>if l≤c∧c*(bytes+1)≤2^40 then mN h (fS z c) l es (l==c)else none
  | _,_=>none
 | .slc es x lo hi mx=>match ev x with
  | .sl p len es' full=>if fH p es es' then
   (dF fr len lo hi mx).bind fun(l,hh,m)=>pure (.sl (p.add (l*es)) (hh - l) es' (fW m hh (full&&hh==len)))
   else none
  | .nilS=>(dF fr 0 lo hi mx).bind fun _=>pure .nilS
  | _=>none
 | .slca n es x lo hi mx=>match ev x with
  | .ptr (.own i o)=>match h[i]? with
   | some (some (.row c))=>if o+n*es≤c.length then
    (dF fr n lo hi mx).bind fun(l,hh,m)=>pure (.sl (.own i (o+l*es)) (hh - l) es (fW m hh (hh==n)))
    else none
   | _=>none
  | _=>none
 | .addr x off=>match ev x with
  | .ptr p=>pure (.ptr (p.add off))
  | _=>none
 | .fld x off n=>match ev x with
  | .agg l=>(fZ l off n).bind pure
  | _=>none
 | .idxs es x i=>match ev x,cH (ev i)with
  | .sl p len es' _,some j=>if fH p es es'∧j<len then pure (.ptr (p.add (j*es)))else none
  | _,_=>none
 | .idxa n es x i=>match ev x,cH (ev i)with
  | .ptr p,some j=>if j<n then pure (.ptr (p.add (j*es)))else none
  | _,_=>none
 | .idx n es agg x i=>match ev x,cH (ev i)with
  | .agg l,some j=>if j<n then(fZ l (j*es) (if agg then some es else none)).bind pure else none
  | _,_=>none
 | .look sh z ok x k=>if(keq sh (ev k) (ev k)).isNone then none else match ev x with
  | .nilM=>pure (if ok then .tup [z,.bool false]else z)
  | .map i=>match h[i]? with
   | some (some (.map es))=>match iA sh (ev k) es 0 with
    | some (some (_,v))=>pure (if ok then .tup [v,.bool true]else v)
    | some none=>pure (if ok then .tup [z,.bool false]else z)
    | none=>none
   | _=>none
  | _=>none
 | .mput sh m k v=>if(keq sh (ev k) (ev k)).isNone then none else match ev m with
  | .map i=>match h[i]? with
   | some (some (.map es))=>match iA sh (ev k) es 0 with
    | some (some (j,_))=>some (.undef,h.set i (some (.map (es.set j (ev k,ev v)))))
    | some none=>some (.undef,h.set i (some (.map (es++[(ev k,ev v)]))))
    | none=>none
   | _=>none
  | _=>none
 | .ext x i=>match ev x with
  | .tup l=>(l[i]?).bind pure
  | _=>none
 | .len x=>match ev x with
  | .sl _ n _ _=>pure (.int .i64 n)
  | .nilS=>pure (.int .i64 0)
  | _=>none
 | .lenm x=>match ev x with
  | .nilM=>pure (.int .i64 0)
  | .map i=>match h[i]? with
   | some (some (.map es))=>pure (.int .i64 es.length)
   | _=>none
  | _=>none
 | .lena n=>pure (.int .i64 n)
 | .app es _ bytes x y=>eD w0 h es bytes (ev x) (ev y)
 | .minmax isMin l=>match l.map ev with
  | v::r=>(mm isMin v r).bind pure
  | []=>none
 | .eqni neq x=>(zB (ev x)).bind fun r=>pure (.bool (if neq then !r else r))
 | .tass t z ok x=>(yC t z ok (ev x)).bind pure
 | .copy es x y=>zN w0 h es (ev x) (ev y)
 | .panic _ | .defer _ _ | .recov=>none
def Emb.put(m:Emb)(i b d s:Nat):Emb:=
 { blk:=fun j=>if j=i then b else m.blk j,base:=fun j=>if j=i then d else m.base j,sz:=fun j=>if j=i then s else m.sz j }
theorem Emb.put_ext(m:Emb){i N:Nat}(b d s:Nat)(h:N≤i):Ext m (m.put i b d s) N:=fun j hj=>by
 have:¬j=i:=by omega
 simp[Emb.put,this]
def aKE(m m':Emb)(h h':Heap)(w:World):Prop:=
 ∀(i:Nat) b',h'[i]? = some (some b')→m'.blk i<w.heap.size→∃(j:Nat) (b:Blk),h[j]? = some (some b)∧m.blk j=m'.blk i
structure bU(w0:World)(m m':Emb)(h h':Heap)(w w':World):Prop where
 sim:Sim w0 m' h' w'
 ext:Ext m m' h.length
 mods:aBY w0 m h w w'
 le:h.length≤h'.length
 roots:aKE m m' h h' w
theorem bU.refl{w0:World}{m:Emb}{h:Heap}{w:World}(s:Sim w0 m h w):bU w0 m m h h w w:=
 ⟨s,.refl _ _,.refl _ _ _ _,Nat.le_refl _,fun i b hi _=>⟨i,b,hi,rfl⟩⟩
theorem bU.trans{w0:World}{m m' m'':Emb}{h h' h'':Heap}{w w' w'':World}(a:bU w0 m m' h h' w w')(b:bU w0 m' m'' h' h'' w' w'') :
 bU w0 m m'' h h'' w w'':=by
 refine⟨b.sim,a.ext.trans b.ext a.le,a.mods.trans b.mods (fun i b' hi hlt=>a.roots i b' hi hlt),Nat.le_trans a.le b.le,fun i b' hi hlt=> ?_⟩
 obtain⟨j,c,hj,e⟩:=b.roots i b' hi (Nat.lt_of_lt_of_le hlt a.mods.size)
 obtain⟨j',c',hj',e'⟩:=a.roots j c hj (by rw[e]; exact hlt)
 exact⟨j',c',hj',e'.trans e⟩
theorem bU.weaken{w0:World}{m m':Emb}{h h' h'':Heap}{w w':World}(a:bU w0 m m' h h' w w')(hl:h''.length=h'.length)
 (hs:∀(i:Nat) b,h''[i]? = some (some b)→h'[i]? = some (some b)):bU w0 m m' h h'' w w':=
 ⟨a.sim.weaken hl hs,a.ext,a.mods,by rw[hl]; exact a.le,fun i b hi=>a.roots i b (hs i b hi)⟩
theorem bU.drop{w0:World}{m m':Emb}{h h' k:Heap}{w w':World}(a:bU w0 m m' h (h'++k) w w')(hl:h.length≤h'.length)
 (hb:∀(i:Nat) b,h'[i]? = some (some b)→b.bdd h'.length):bU w0 m m' h h' w w':=by
 have hs:∀(i:Nat) b,h'[i]? = some (some b)→(h'++k)[i]? = some (some b):=fun i b hi=>by
  have:i<h'.length:=by
   rcases Nat.lt_or_ge i h'.length with h1 | h1
   ·exact h1
   ·rw[List.getElem?_eq_none h1]at hi; cases hi
  rw[qH this]; exact hi
 refine⟨⟨a.sim.size,a.sim.old,fun i b hi=> ?_,fun i j b c hij hi hj=>a.sim.inj i j b c hij (hs i b hi) (hs j c hj)⟩,a.ext,a.mods,hl,fun i b hi=>a.roots i b (hs i b hi)⟩
 obtain⟨h1,h2,_⟩:=a.sim.at_ i b (hs i b hi)
 exact⟨h1,h2,hb i b hi⟩
def aBX(w0:World)(m:Emb)(h:Heap)(w:World)(r:Result Next)(v:AV)(h':Heap):Prop:=
 ∃m' v' w',(r= .ok (.value v') w'∨(r= .ok .skip w'∧v= .undef))∧bU w0 m m' h h' w w'∧VR m' v v'∧v.bdd h'.length
section
variable {w0:World} {m:Emb} {h:Heap} {w:World}
theorem aBX.val(s:Sim w0 m h w){v:AV}{v':Value}{r:Result Next}(hr:r= .ok (.value v') w)(hv:VR m v v')(hb:v.bdd h.length):aBX w0 m h w r v h:=
 ⟨m,v',w,.inl hr,.refl s,hv,hb⟩
theorem bU.new(s:Sim w0 m h w)(b:Blk)(o:Obj)(d n:Nat)
 (hb:BR (m.put h.length w.heap.size d n) d n b (some o)) (hbd:b.bdd (h.length+1)) :
 bU w0 m (m.put h.length w.heap.size d n) h (h++[some b]) w (w.alloc o):=by
 have hx:Ext m (m.put h.length w.heap.size d n) h.length:=Emb.put_ext m _ _ _ (Nat.le_refl _)
 have hat:∀(i:Nat) c,(h++[some b])[i]? = some (some c)→(i<h.length∧h[i]? = some (some c))∨(i=h.length∧c=b):=fun i c hi=>by
  rcases Nat.lt_trichotomy i h.length with h1 | h1 | h1
  ·rw[qH h1]at hi; exact .inl ⟨h1,hi⟩
  ·subst h1; simp at hi; exact .inr ⟨rfl,hi.symm⟩
  ·rw[List.getElem?_eq_none (by simp; omega)]at hi; cases hi
 have hold:∀c,c<w.heap.size→(w.alloc o).heap[c]? = w.heap[c]? := fun c hc=>by
  simp only[World.alloc]; rw[Array.getElem?_push]; rw[if_neg (by omega)]
 refine⟨⟨Nat.le_trans s.size (by simp),fun c hc=>by rw[hold c (Nat.lt_of_lt_of_le hc s.size)]; exact s.old c hc,fun i c hi=> ?_,fun i j c e hij hi hj=> ?_⟩,hx,
  ⟨by simp,fun c hc _=>hold c hc,rfl,rfl,rfl⟩,by simp,fun i c hi hlt=> ?_⟩
 ·rcases hat i c hi with⟨hlt,hi⟩ | ⟨rfl,rfl⟩
  ·obtain⟨h1,h2,h3⟩:=s.at_ i c hi
   rw[(hx i hlt).1,(hx i hlt).2.1,(hx i hlt).2.2,hold _ (s.lt hi)]
   exact⟨h1,aFo hx h3 h2,by simpa using Blk.bdd_mono (Nat.le_succ _) h3⟩
  ·refine⟨by simp[Emb.put]; exact s.size,?_,by simpa using hbd⟩
   have hn:(w.alloc o).heap[w.heap.size]? = some o:=by show(w.heap.push o)[w.heap.size]? = some o; simp
   have e1:(m.put h.length w.heap.size d n).blk h.length=w.heap.size:=by simp[Emb.put]
   have e2:(m.put h.length w.heap.size d n).base h.length=d:=by simp[Emb.put]
   have e3:(m.put h.length w.heap.size d n).sz h.length=n:=by simp[Emb.put]
   rw[e1,e2,e3,hn]; exact hb
 ·have e1:(m.put h.length w.heap.size d n).blk h.length=w.heap.size:=by simp[Emb.put]
  rcases hat i c hi with⟨hlt,hi1⟩ | ⟨h1,h2⟩<;>rcases hat j e hj with⟨hlt',hj1⟩ | ⟨h3,h4⟩
  ·rw[(hx i hlt).1,(hx j hlt').1]; exact s.inj i j c e hij hi1 hj1
  ·rw[(hx i hlt).1,h3,e1]; have:=s.lt hi1; omega
  ·rw[(hx j hlt').1,h1,e1]; have:=s.lt hj1; omega
  ·exact absurd (h1.trans h3.symm) hij
 ·rcases hat i c hi with⟨hl,hi⟩ | ⟨rfl,rfl⟩
  ·exact⟨i,c,hi,((hx i hl).1).symm⟩
  ·simp[Emb.put]at hlt
theorem bU.set(s:Sim w0 m h w){i:Nat}{b b':Blk}(hi:h[i]? = some (some b)){w':World}(hw:w'.heap.size=w.heap.size)
 (hother:∀c,c≠m.blk i→w'.heap[c]? = w.heap[c]?) (hos:w'.os=w.os) (htape:w'.tape=w.tape) (hout:w'.output=w.output)
 (hb:BR m (m.base i) (m.sz i) b' (w'.heap[m.blk i]?)) (hbd:b'.bdd h.length):bU w0 m m h (h.set i (some b')) w w':=by
 have hil:i<h.length:=by
  rcases Nat.lt_or_ge i h.length with h1 | h1
  ·exact h1
  ·rw[List.getElem?_eq_none h1]at hi; cases hi
 have hat:∀(j:Nat) c,(h.set i (some b'))[j]? = some (some c)→(j≠i∧h[j]? = some (some c))∨(j=i∧c=b'):=fun j c hj=>by
  by_cases e:j=i
  ·subst e; rw[qF hil]at hj; simp at hj; exact .inr ⟨rfl,hj.symm⟩
  ·rw[qB (fun x=>e x.symm)]at hj; exact .inl ⟨e,hj⟩
 have hpres:∀(j:Nat) c,(h.set i (some b'))[j]? = some (some c)→∃d,h[j]? = some (some d):=fun j c hj=>by
  rcases hat j c hj with⟨_,h1⟩ | ⟨rfl,_⟩
  ·exact⟨c,h1⟩
  ·exact⟨b,hi⟩
 refine⟨⟨by rw[hw]; exact s.size,fun c hc=> ?_,fun j c hj=> ?_,fun j k c d hjk hj hk=> ?_⟩,.refl _ _,⟨by omega,fun c hc hn=>hother c (fun e=>hn i b hi e.symm),hos,htape,hout⟩,
  by simp,fun j c hj _=> ?_⟩
 ·rw[hother c (fun e=>by have:=(s.at_ i b hi).1; omega)]; exact s.old c hc
 ·rcases hat j c hj with⟨hne,hj⟩ | ⟨rfl,rfl⟩
  ·obtain⟨h1,h2,h3⟩:=s.at_ j c hj
   refine⟨h1,?_,by simpa using h3⟩
   rw[hother _ (s.inj j i c b hne hj hi)]; exact h2
  ·exact⟨(s.at_ j b hi).1,hb,by simpa using hbd⟩
 ·obtain⟨c',hc'⟩:=hpres j c hj
  obtain⟨d',hd'⟩:=hpres k d hk
  exact s.inj j k c' d' hjk hc' hd'
 ·obtain⟨c',hc'⟩:=hpres j c hj
  exact⟨j,c',hc',rfl⟩
end
theorem aBI(m:Emb)(N:Nat)(v:Value):VR m (inj v) v∧(inj v).bdd N:=by
 cases v with
 | pointer a=>cases a<;>simp[inj,VR,AV.bdd,Emb.pl,Pl.bdd]
 | slice a l c=>
  cases a with
  | none=>
   unfold inj
   split<;>simp_all [VR,AV.bdd]
  | some a=>
   simp only[inj]
   split
   ·rename_i hlc; exact⟨by simp only[VR]; exact⟨a,c,rfl,hlc,by simp,.inr ⟨rfl,by simp⟩⟩,by simp[AV.bdd,Pl.bdd]⟩
   ·exact⟨by simp[VR],by simp[AV.bdd]⟩
 | map r=>cases r<;>simp[inj,VR,AV.bdd]
 | _=>simp[inj,VR,AV.bdd]
theorem aIH{w0:World}{m:Emb}{h:Heap}{w:World}(s:Sim w0 m h w){p:Pl}{v:AV}(hr:rd w0 h p=some v) :
 ∃v',w.cell? (m.pl p)=some v'∧VR m v v'∧v.bdd h.length:=by
 cases p with
 | old a=>
  simp only[Ab.rd,qD]at hr
  obtain⟨x,hx,rfl⟩:=hr
  refine⟨x,?_,aBI m _ x⟩
  have hlt:=World.block_lt_of_cell? (w:=w0) (a:=a) hx
  have e:=s.old a.block hlt
  simp only[Emb.pl,World.cell?]at *
  rw[e]; exact hx
 | own i o=>
  simp only[Ab.rd]at hr
  split at hr
  ·rename_i c hc
   obtain⟨_,⟨ca,e,h1,h2,h3⟩,h4⟩:=s.at_ i _ hc
   obtain⟨y,hy,hv⟩:=h3 o v hr
   exact⟨y,by simp[World.cell?,Emb.pl,h1,hy],hv,h4 v (List.mem_of_getElem? hr)⟩
  ·cases hr
theorem pI{w0:World}{h:Heap}{p:Pl}{n:Nat}{l:List AV}(hr:rdn w0 h p n=some l) :
 l.length=n∧(∀(j:Nat) x,l[j]? = some x→rd w0 h (p.add j)=some x):=by
 cases p with
 | old a=>
  simp only[Ab.rdn]at hr
  have key:∀(ns:List Nat) (l:List AV),(ns.mapM fun j=>(w0.cell? (a.add j)).map inj)=some l →
   l.length=ns.length∧∀(j:Nat) x,l[j]? = some x→∃k,ns[j]? = some k∧(w0.cell? (a.add k)).map inj=some x:=by
   intro ns
   induction ns with
   | nil=>intro l hl; simp at hl; subst hl; simp
   | cons k ks ih=>
    intro l hl
    simp only[List.mapM_cons,Option.bind_eq_bind,qC,Option.pure_def,Option.some.injEq]at hl
    obtain⟨x,hx,l',hl',rfl⟩:=hl
    obtain⟨h1,h2⟩:=ih l' hl'
    refine⟨by simp[h1],fun j y hy=> ?_⟩
    cases j with
    | zero=>simp at hy; subst hy; exact⟨k,by simp,hx⟩
    | succ j=>simpa using h2 j y (by simpa using hy)
  obtain⟨h1,h2⟩:=key _ l hr
  refine⟨by simpa using h1,fun j x hx=> ?_⟩
  obtain⟨k,hk,hx'⟩:=h2 j x hx
  have:j<n:=by
   have:=List.getElem?_eq_some_iff.1 hx
   obtain⟨hj,_⟩:=this
   simp at h1; omega
  rw[List.getElem?_range this]at hk
  simp at hk; subst hk
  simpa[Ab.rd,Pl.add]using hx'
 | own i o=>
  simp only[Ab.rdn]at hr
  split at hr
  ·rename_i c hc
   split at hr
   ·rename_i hle
    simp at hr; subst hr
    refine⟨by simp; omega,fun j x hx=> ?_⟩
    simp only[Ab.rd,Pl.add,hc]
    rw[List.getElem?_take]at hx
    split at hx
    ·rw[List.getElem?_drop]at hx; exact hx
    ·cases hx
   ·cases hr
  ·cases hr
theorem xQ{w0:World}{m:Emb}{h:Heap}{w:World}(s:Sim w0 m h w)(P:Program){p:Pl}{n:Nat}{l:List AV}(hr:rdn w0 h p n=some l) :
 ∃a:Array Value,(loadCells (m.pl p) n).run P w= .ok a w∧VRs m l a.toList∧AV.bdds h.length l∧∀(j:Nat) y,a[j]? = some y→w.cell? ((m.pl p).add j)=some y:=by
 obtain⟨h1,h2⟩:=pI hr
 have hc:∀j,j<n→∃x v',l[j]? = some x∧w.cell? ((m.pl p).add j)=some v'∧VR m x v'∧x.bdd h.length:=fun j hj=>by
  have hx:l[j]? = some l[j]:=qA (by omega)
  obtain⟨v',a1,a2,a3⟩:=aIH s (h2 j _ hx)
  rw[m.pl_add]at a1
  exact⟨_,v',hx,a1,a2,a3⟩
 let f:Nat→Value:=fun j=>(w.cell? ((m.pl p).add j)).getD undef
 have hf:∀j,j<n→w.cell? ((m.pl p).add j)=some (f j):=fun j hj=>by
  obtain⟨_,v',_,a1,_⟩:=hc j hj
  simp[f,a1]
 have hrun:=run_loadCells (P:=P) (w:=w) (m.pl p) n f hf
 refine⟨_,hrun,dJ.2 ⟨by simp[h1],fun j x hx=> ?_⟩,cG.2 fun x hx=> ?_,fun j y hy=> ?_⟩
 ·obtain⟨hj,_⟩:=List.getElem?_eq_some_iff.1 hx
  obtain⟨x',v',e1,e2,e3,_⟩:=hc j (by omega)
  rw[hx]at e1; cases e1
  refine⟨v',?_,e3⟩
  have hfj:f j=v':=by simp[f,e2]
  rw[←hfj]
  have hj':j<n:=by omega
  simp[List.getElem?_range hj']
 ·obtain⟨j,hj,rfl⟩:=List.getElem_of_mem hx
  obtain⟨x',v',e1,_,_,e4⟩:=hc j (by omega)
  rw[qA hj]at e1; cases e1; exact e4
 ·have hj:j<n:=by
   rcases Nat.lt_or_ge j n with hh | hh
   ·exact hh
   ·rw[Array.getElem?_eq_none (by simpa using hh)]at hy; cases hy
  rw[hf j hj]
  simpa[hj]using hy
section
variable {P:Program} {w:World}
theorem yK{t:TypeId}{i:TypeInfo}(h:P.info? t=some i):(typeInfo t).run P w= .ok i w:=by simp[typeInfo,h]
theorem bX{t:TypeId}{d:TypeDesc}(h:P.underlying t=some d):(underlying t).run P w= .ok d w:=by simp[underlying,h]
theorem fA{t:TypeId}{i:TypeInfo}(h:P.info? t=some i):(sizeOf t).run P w= .ok i.size w:=by simp[sizeOf,yK h]
theorem sI{t:TypeId}{i:TypeInfo}{z:Value}(h:P.info? t=some i)(hz:i.zero=some z):(zeroValue t).run P w= .ok z w:=by
 simp[zeroValue,yK h,hz]
def lV:TypeDesc→Bool
 | .struct _ | .array _ _=>true
 | _=>false
theorem qY{t:TypeId}{d:TypeDesc}(h:P.underlying t=some d):(isAgg t).run P w= .ok (lV d) w:=by
 simp only[isAgg,Sem.run_bind,bX h,Result.andThen_ok]
 cases d<;>simp[lV]
theorem rP{t:TypeId}{d:TypeDesc}{a:Addr}{v:Value}(hd:P.underlying t=some d)(hg:lV d=false)(h:w.cell? a=some v) :
 (loadVar t a).run P w= .ok v w:=by
 simp[loadVar,qY hd,hg,h]
theorem rQ{t:TypeId}{d:TypeDesc}{i:TypeInfo}{a:Addr}{c:Array Value}(hd:P.underlying t=some d)(hg:lV d=true)(hi:P.info? t=some i)
 (h:(loadCells a i.size).run P w= .ok c w):(loadVar t a).run P w= .ok (.agg c) w:=by
 simp[loadVar,qY hd,hg,fA hi,h]
def wr(ca:Array Value)(o:Nat):List Value→Array Value
 | []=>ca
 | v::r=>wr (ca.setIfInBounds o v) (o+1) r
theorem xE(ca:Array Value)(o:Nat)(l:List Value):(wr ca o l).size=ca.size:=by
 induction l generalizing ca o with
 | nil=>rfl
 | cons v r ih=>simp[wr,ih]
theorem aDx(ca:Array Value)(o:Nat)(l:List Value)(h:o+l.length≤ca.size)(k:Nat) :
 (wr ca o l)[k]? = if o≤k∧k<o+l.length then l[k - o]? else ca[k]? := by
 induction l generalizing ca o with
 | nil=>simp only[wr,List.length_nil]; rw[if_neg (by omega)]
 | cons v r ih=>
  simp only[wr,List.length_cons]at *
  rw[ih (ca.setIfInBounds o v) (o+1) (by simp; omega)]
  by_cases h1:o=k
  ·subst h1
   rw[if_neg (by omega),if_pos (by omega)]
   simp[show o<ca.size by omega]
  ·by_cases h2:o+1≤k∧k<o+1+r.length
   ·rw[if_pos h2,if_pos (by omega)]
    have:k - o=(k - (o+1))+1:=by omega
    rw[this]; simp
   ·rw[if_neg h2,if_neg (by omega)]
    rw[Array.getElem?_setIfInBounds_ne h1]
theorem aDM{b off:Nat}{ca:Array Value}{e:TypeId}{v:Value}(h:w.heap[b]? = some (.cells ca e (0,0))) :
 (w.setCell ⟨b,off,none⟩ v).heap[b]? = some (.cells (ca.setIfInBounds off v) e (0,0)):=by
 simp only[World.setCell,Array.getElem?_modify,h]
 simp
theorem aMj{b off:Nat}{ca:Array Value}{e:TypeId}{v:Value}(h:w.heap[b]? = some (.cells ca e (0,0)))(ho:off<ca.size)(hv:v.oneCell'=true) :
 (store ⟨b,off,none⟩ v).run P w= .ok () (w.setCell ⟨b,off,none⟩ v):=by
 rw[run_store P w _ v _ hv]
 have h1:w.cell? ⟨b,off,none⟩=some ca[off]:=by simp[World.cell?,h,ho]
 have h2:w.frozen? ⟨b,off,none⟩=false:=by simp[World.frozen?,h]
 simp[h1,h2]
theorem oF{b off:Nat}{e:TypeId}(vs:List Value):∀(w:World) (i:Nat) (ca:Array Value),w.heap[b]? = some (.cells ca e (0,0))→off+i+vs.length≤ca.size →
 (∀v∈vs,v.oneCell'=true)→∃w',(storeCells ⟨b,off,none⟩ vs i).run P w= .ok () w'∧w'.heap.size=w.heap.size∧(∀c,c≠b→w'.heap[c]? = w.heap[c]?) ∧
  w'.heap[b]? = some (.cells (wr ca (off+i) vs) e (0,0))∧w'.os=w.os∧w'.tape=w.tape∧w'.output=w.output:=by
 induction vs with
 | nil=>intro w i ca h _ _; exact⟨w,by simp[storeCells],rfl,fun _ _=>rfl,by simpa[wr]using h,rfl,rfl,rfl⟩
 | cons v r ih=>
  intro w i ca h hl hv
  simp only[List.length_cons]at hl
  have ha:Addr.add ⟨b,off,none⟩ i=⟨b,off+i,none⟩:=by simp only[Addr.add]; split<;>simp_all
  obtain⟨w',h1,h2,h3,h4,h5,h6,h7⟩:=ih (w.setCell ⟨b,off+i,none⟩ v) (i+1) (ca.setIfInBounds (off+i) v) (aDM h) (by simp; omega) (fun x hx=>hv x (List.mem_cons_of_mem _ hx))
  refine⟨w',?_,by rw[h2]; simp,fun c hc=> ?_,by rw[h4]; rfl,h5,h6,h7⟩
  ·have hst:(store ⟨b,off+i,none⟩ v).run P w= .ok () (w.setCell ⟨b,off+i,none⟩ v):=aMj (ca:=ca) h (by omega) (hv v List.mem_cons_self)
   simp only[storeCells,Sem.run_bind,ha,hst,Result.andThen_ok]
   exact h1
  ·rw[h3 c hc]
   simp only[World.setCell]
   rw[Array.getElem?_modify]
   simp[Ne.symm hc]
end
theorem wD{m:Emb}{x:AV}{v:Value}(h:VR m x v)(ho:one x=true):v.oneCell'=true:=by
 cases x<;>simp[one]at ho<;>simp only[VR]at h
 case sl=>obtain⟨a,cap,rfl,_⟩:=h; rfl
 case fn=>obtain⟨a,b,rfl,_⟩:=h; rfl
 case ifc=>obtain⟨y,rfl,_⟩:=h; rfl
 all_goals subst h; rfl
theorem oN{m:Emb}{x:AV}{v:Value}{l:List AV}{N:Nat}(h:VR m x v)(hb:x.bdd N)(hc:cellsOf x=some l) :
 VRs m l v.cells.toList∧(∀y∈l,one y=true)∧AV.bdds N l:=by
 cases x<;>simp only[cellsOf]at hc
 case undef=>cases hc
 case tup=>cases hc
 case agg k=>
  split at hc
  ·rename_i ha
   simp at hc; subst hc
   simp only[VR]at h
   obtain⟨a,rfl,hl⟩:=h
   simp only[AV.bdd]at hb
   exact⟨by simpa[Value.cells]using hl,by simpa using ha,hb⟩
  ·cases hc
 all_goals
  simp at hc; subst hc
  have ho:v.oneCell'=true:=wD h rfl
  have hv:v.cells= #[v]:=by cases v<;>first | rfl | (simp[Value.oneCell']at ho)
  rw[hv]
  exact⟨⟨v,[],rfl,h,rfl⟩,by simp[one],⟨hb,trivial⟩⟩
theorem cN{m:Emb}{l:List AV}{k:List Value}(h:VRs m l k):l.length=k.length:=(dJ.1 h).1
theorem aBH{m:Emb}{l:List AV}{k:List Value}(h:VRs m l k)(ho:∀y∈l,one y=true):∀v∈k,v.oneCell'=true:=by
 obtain⟨hl,hr⟩:=dJ.1 h
 intro v hv
 obtain⟨i,hi,rfl⟩:=List.getElem_of_mem hv
 have hi':i<l.length:=by omega
 obtain⟨y,hy,hv⟩:=hr i l[i] (qA hi')
 rw[qA hi]at hy; cases hy
 exact wD hv (ho _ (qG hi'))
theorem oR{m:Emb}{l l':List AV}{k k':List Value}(h:VRs m l k)(h':VRs m l' k'):VRs m (l++l') (k++k'):=by
 induction l generalizing k with
 | nil=>simp only[VRs]at h; subst h; simpa using h'
 | cons x xs ih=>
  simp only[VRs]at h
  obtain⟨y,ys,rfl,h1,h2⟩:=h
  exact⟨y,ys++k',rfl,h1,ih h2⟩
theorem dK{N:Nat}{l l':List AV}(h:AV.bdds N l)(h':AV.bdds N l'):AV.bdds N (l++l'):=
 cG.2 fun x hx=>(List.mem_append.1 hx).elim (cG.1 h x) (cG.1 h' x)
theorem aAf{c l:List AV}{o:Nat}(h:o+l.length≤c.length):(cO c o l).length=c.length:=by
 simp[cO]; omega
theorem yF{c l:List AV}{o:Nat}(h:o+l.length≤c.length)(k:Nat) :
 (cO c o l)[k]? = if o≤k∧k<o+l.length then l[k - o]? else c[k]? := by
 unfold cO
 have hlen:(c.take o).length=o:=by simp; omega
 by_cases h1:k<o
 ·rw[List.append_assoc,qH (by omega),List.getElem?_take,if_pos h1,if_neg (by omega)]
 ·by_cases h2:k<o+l.length
  ·rw[List.append_assoc,qI (by omega),hlen,qH (by omega),if_pos (by omega)]
  ·rw[qI (by simp; omega),if_neg (by omega)]
   rw[List.getElem?_drop]
   simp only[List.length_append,hlen]
   congr 1; omega
theorem sL{c l:List AV}{o:Nat}{x:AV}(h:x∈cO c o l):x∈c∨x∈l:=by
 simp only[cO,List.mem_append]at h
 rcases h with(h | h) | h
 ·exact .inl (List.mem_of_mem_take h)
 ·exact .inr h
 ·exact .inl (List.mem_of_mem_drop h)
theorem aA3{m:Emb}{d n o:Nat}{c l:List AV}{ca:Array Value}{vs:List Value}{e:TypeId}
 (hs:ca.size=d+n) (hc:∀(k:Nat) x,c[k]? = some x→∃y,ca[d+k]? = some y∧VR m x y) (hl:VRs m l vs) (ho:o+l.length≤c.length) (hcn:c.length≤n) :
 BR m d n (.row (cO c o l)) (some (.cells (wr ca (d+o) vs) e (0,0))):=by
 obtain⟨hlen,hv⟩:=dJ.1 hl
 refine⟨_,e,rfl,by rw[xE]; exact hs,fun k x hx=> ?_⟩
 rw[yF ho]at hx
 rw[aDx _ _ _ (by omega)]
 split at hx
 ·rename_i hk
  rw[if_pos (by omega)]
  obtain⟨y,hy,hvy⟩:=hv _ x hx
  exact⟨y,by rw[show d+k - (d+o)=k - o by omega]; exact hy,hvy⟩
 ·rw[if_neg (by omega)]; exact hc k x hx
theorem aBf{m:Emb}{d n:Nat}{c:List AV}{ca:Array Value}(hs:ca.size=d+n)(hc:∀(k:Nat) x,c[k]? = some x→∃y,ca[d+k]? = some y∧VR m x y):c.length≤n:=by
 rcases Nat.lt_or_ge n c.length with h | h
 ·obtain⟨y,hy,_⟩:=hc n c[n] (qA h)
  obtain⟨h1,_⟩:=Array.getElem?_eq_some_iff.1 hy
  omega
 ·exact h
def ofC1:Value→Option AV
 | .int k n=>some (.int k n)
 | .bool b=>some (.bool b)
 | .string s=>some (.str s)
 | .pointer none=>some .nilP
 | .slice none 0 0=>some .nilS
 | .map none=>some .nilM
 | .nilFunc=>some .nilF
 | .nilIface=>some .nilI
 | _=>none
def ofCs(l:List Value):Option (List AV):=l.mapM ofC1
def ofC:Value→Option AV
 | .agg cs=>(ofCs cs.toList).map .agg
 | v=>ofC1 v
def ofF:Value→Option AV
 | .func (.method n) a b=>if a.isEmpty&&b.isEmpty then some (.fn (.method n) [] [])else none
 | v=>ofC v
def dI:Operand→Option Opd
 | .tmp t=>some (.t t)
 | .const v=>(ofF v).map .k
 | .func f=>some (.k (.fn (.func f) [] []))
 | .global _=>none
def aAR:Option Operand→Option (Option Opd)
 | none=>some none
 | some x=>(dI x).map some
def nU(l:Array Operand):Option (List Opd):=l.toList.mapM dI
def eL(P:Program)(t:TypeId):Option Nat:=(P.info? t).map (·.size)
def zc(P:Program)(t:TypeId):Option (List AV):=
 (P.info? t).bind fun i=>i.zero.bind fun z=>(ofCs z.cells.toList).bind fun l=>if l.length=i.size then some l else none
def xA(P:Program)(t:TypeId):Option (Option Nat):=
 (P.underlying t).bind fun d=>if lV d then(eL P t).map some else some none
def zv(P:Program)(t:TypeId):Option AV:=(P.info? t).bind fun i=>i.zero.bind ofC
def isInt(P:Program)(t:TypeId):Bool:=match P.underlying t with
 | some (.int _)=>true
 | _=>false
def vD(P:Program)(fs:List Field):Option (List (Nat×Nat)):=fs.mapM fun f=>(eL P f.type).map fun s=>(f.offset,s)
def vV(pl:Nat→Option (Nat×Nat))(ps:List (Nat×Operand)):Option (List (Nat×Nat×Opd)):=
 ps.mapM fun ix=>(pl ix.1).bind fun on=>(dI ix.2).map fun y=>(on.1,on.2,y)
def nG(P:Program):Nat→TypeId→Option (List Bool)
 | 0,_=>none
 | d+1,t=>match P.underlying t with
  | some (.int _)=>if eL P t=some 1 then some [true]else none
  | some .bool=>if eL P t=some 1 then some [false]else none
  | some (.struct fs)=>if P.stoodInHeld t then none else
   (fs.toList.foldl (fun (o : Option (List Bool)) f => o.bind fun o => if f.name != "_" ∧ f.offset = o.length then (nG P d f.type).map (o ++ ·) else none) (some [])).bind fun l =>
    if eL P t=some l.length then some l else none
  | some (.array n e)=>(nG P d e).bind fun l=>if eL P t=some (n*l.length)then some ((List.replicate n l).flatten)else none
  | _=>none
def fG:Nat:=20
def sP(P:Program)(t:TypeId):Option (Bool×List Bool):=(nG P fG t).bind fun s=>(P.underlying t).map fun d=>(lV d,s)
def aGT(P:Program)(t:TypeId)(y:Operand):Option Bool:=
 match P.underlying t,y with
 | some (.slice _),.const (.slice none 0 0)=>some true
 | some (.func _ _ _),.const .nilFunc=>some false
 | _,_=>none
def aBn:Operand→Bool
 | .const .nilIface=>true
 | _=>false
def aJq(P:Program)(t:TypeId):Bool:=match P.underlying t with
 | some (.interface _)=>true
 | none=>true
 | _=>false
def cop(P:Program)(op:Op):Option MOp:=
 match op with
 | .move x | .assign x=>(dI x).map .mov
 | .pick c a b=>(dI c).bind fun c=>(dI a).bind fun a=>(dI b).map fun b=> .pick c a b
 | .alloc e=>(zc P e).map .alloc
 | .box e x=>(dI x).bind fun x=>(eL P e).map fun n=> .box x n
 | .build t ps=>match P.underlying t with
  | some (.struct fs)=>(zc P t).bind fun z=>(vD P fs.toList).bind fun pl=>(vV (pl[·]?) ps.toList).map fun ps=> .build z ps
  | some (.array _ e)=>(zc P t).bind fun z=>(eL P e).bind fun n=>(vV (fun i=>some (i*n,n)) ps.toList).map fun ps=> .build z ps
  | _=>none
 | .buildSlice t len ps=>match P.underlying t with
  | some (.slice e)=>(zc P e).bind fun z=>if z.length≠0∧len*z.length≤2^24 then(vV (fun i=>some (i*z.length,z.length)) ps.toList).map fun ps=> .bslice z.length z len ps else none
  | _=>none
 | .load t a=>(dI a).bind fun a=>(xA P t).map fun n=> .load a n
 | .store t a v=>(dI a).bind fun a=>(dI v).bind fun v=>(eL P t).map fun n=> .store a v n
 | .nilCheck x=>(dI x).map .nilck
 | .binOp op t x y _=>(dI x).bind fun a=>(dI y).bind fun b=>
  if isInt P t then some (.bin op a b)else
  match op with
  | .eql | .neq=>match P.underlying t with
   | some .bool=>some (.eqb (op matches .neq) a b)
   | some (.struct _) | some (.array _ _)=>(nG P fG t).bind fun s=>if P.eqGuardType P.depth t then none else some (.eqag s (op matches .neq) a b)
   | some (.interface _)=>if aBn y then some (.eqni (op matches .neq) a)else none
   | _=>(aGT P t y).map fun sl=> .eqnil sl (op matches .neq) a
  | _=>none
 | .unOp op _ x=>(dI x).map fun x=> .un op x
 | .convert s d x=>match P.underlying s,P.underlying d with
  | some (.int _),some (.int k)=>(dI x).map fun x=> .conv k x
  | _,_=>none
 | .makeInterface t x=>if P.concrete t then(dI x).map fun x=> .mkif t x else none
 | .makeFunc f a b=>(nU a).bind fun a=>(nU b).map fun b=> .mkfn f a b
 | .makeMap _ none=>some .mkmap
 | .makeSlice t l c=>match P.underlying t with
  | some (.slice e)=>(zc P e).bind fun z=>(P.info? e).bind fun i=>(dI l).bind fun l=>(dI c).map fun c=> .mksl i.size z i.bytes l c
  | _=>none
 | .slice t x lo hi mx=>(dI x).bind fun x=>(aAR lo).bind fun lo=>(aAR hi).bind fun hi=>(aAR mx).bind fun mx=>match P.underlying t with
  | some (.slice e)=>(eL P e).map fun n=> .slc n x lo hi mx
  | some (.array n e)=>(eL P e).map fun s=> .slca n s x lo hi mx
  | _=>none
 | .fieldAddr s x f=>match P.underlying s with
  | some (.struct fs)=>(fs[f]?).bind fun f=>(eL P f.type).bind fun n=>if n=0 then none else(dI x).map fun x=> .addr x f.offset
  | _=>none
 | .field s x f=>match P.underlying s with
  | some (.struct fs)=>(fs[f]?).bind fun f=>(xA P f.type).bind fun n=>(dI x).map fun x=> .fld x f.offset n
  | _=>none
 | .indexAddr t x i=>(dI x).bind fun x=>(dI i).bind fun i=>match P.underlying t with
  | some (.slice e)=>(eL P e).map fun n=> .idxs n x i
  | some (.array n e)=>(eL P e).map fun s=> .idxa n s x i
  | _=>none
 | .index t x i=>(dI x).bind fun x=>(dI i).bind fun i=>match P.underlying t with
  | some (.array n e)=>(eL P e).bind fun s=>(xA P e).map fun g=> .idx n s g.isSome x i
  | _=>none
 | .lookup t x k ok=>match P.underlying t with
  | some (.map kt e)=>(sP P kt).bind fun s=>(zv P e).bind fun z=>(dI x).bind fun x=>(dI k).map fun k=> .look s z ok x k
  | _=>none
 | .mapUpdate t x k v | .insert t x k v=>match P.underlying t with
  | some (.map kt _)=>(sP P kt).bind fun s=>(dI x).bind fun x=>(dI k).bind fun k=>(dI v).map fun v=> .mput s x k v
  | _=>none
 | .extract x i=>(dI x).map fun x=> .ext x i
 | .call { callee:= .builtin b,args,argTypes }=>match b with
  | .len=>match argTypes[0]?,args[0]? with
   | some t,some x=>match P.underlying t with
    | some (.slice _)=>(dI x).map .len
    | some (.map _ _)=>(dI x).map .lenm
    | some (.array n _)=>some (.lena n)
    | _=>none
   | _,_=>none
  | .append=>match argTypes.toList,args.toList with
   | [t,t'],[x,y]=>match P.underlying t,P.underlying t' with
    | some (.slice e),some (.slice _)=>(zc P e).bind fun z=>(P.info? e).bind fun i=>(dI x).bind fun x=>(dI y).map fun y=> .app i.size z i.bytes x y
    | _,_=>none
   | _,_=>none
  | .min=>(nU args).map fun l=> .minmax true l
  | .max=>(nU args).map fun l=> .minmax false l
  | .copy=>match argTypes.toList,args.toList with
   | [t,t'],[x,y]=>match P.underlying t,P.underlying t' with
    | some (.slice e),some (.slice _)=>(eL P e).bind fun n=>(dI x).bind fun x=>(dI y).map fun y=> .copy n x y
    | _,_=>none
   | _,_=>none
  | .recover=>some .recov
  | _=>none
 | .typeAssert x _ t ok=>if aJq P t then none else(zv P t).bind fun z=>(dI x).map fun x=> .tass t z ok x
 | .panic x=>(dI x).map .panic
 | .defer { callee:= .value f,args,.. }=>(dI f).bind fun f=>(nU args).map fun a=> .defer f a
 | _=>none
theorem aCz{v:Value}{a:AV}(h:ofC1 v=some a):one a=true∧∀m N,VR m a v∧a.bdd N:=by
 unfold ofC1 at h
 split at h<;>first
  | (simp at h; subst h; exact⟨rfl,fun m N=>⟨by simp[VR],by simp[AV.bdd]⟩⟩)
  | cases h
theorem aAF{l:List Value}{k:List AV}(h:ofCs l=some k):(∀y∈k,one y=true)∧∀m N,VRs m k l∧AV.bdds N k:=by
 induction l generalizing k with
 | nil=>simp[ofCs]at h; subst h; simp[VRs,AV.bdds]
 | cons v vs ih=>
  simp only[ofCs,List.mapM_cons,Option.bind_eq_bind,qC,Option.pure_def,Option.some.injEq]at h
  obtain⟨a,ha,k',hk',rfl⟩:=h
  obtain⟨h1,h2⟩:=aCz ha
  obtain⟨h3,h4⟩:=ih hk'
  exact⟨by simpa using⟨h1,h3⟩,fun m N=>⟨⟨v,vs,rfl,(h2 m N).1,(h4 m N).1⟩,⟨(h2 m N).2,(h4 m N).2⟩⟩⟩
theorem tY{v:Value}{a:AV}(h:ofC v=some a)(m:Emb)(N:Nat):VR m a v∧a.bdd N:=by
 unfold ofC at h
 split at h
 ·rename_i cs
  simp only[qD]at h
  obtain⟨l,hl,rfl⟩:=h
  obtain⟨_,h2⟩:=aAF hl
  exact⟨⟨cs,rfl,(h2 m N).1⟩,(h2 m N).2⟩
 ·exact(aCz h).2 m N
section
variable {m:Emb} {N:Nat} {fr:Fr} {a:Act}
theorem aIW{v:Value}{b:AV}(h:ofF v=some b)(m:Emb)(N:Nat):VR m b v∧b.bdd N:=by
 unfold ofF at h
 split at h
 ·rename_i n x y
  split at h
  ·rename_i he
   simp only[Bool.and_eq_true,Array.isEmpty_iff]at he
   obtain⟨rfl,rfl⟩:=he
   cases h
   exact⟨⟨#[],#[],rfl,rfl,rfl⟩,⟨trivial,trivial⟩⟩
  ·cases h
 ·exact tY h m N
theorem aR(hf:FR m N fr a.tmps){x:Operand}{y:Opd}(h:dI x=some y):VR m (y.ev fr) (a.eval x)∧(y.ev fr).bdd N:=by
 cases x with
 | tmp t=>simp[dI]at h; subst h; exact hf t
 | const v=>simp only[dI,qD]at h; obtain⟨b,hb,rfl⟩:=h; exact aIW hb m N
 | func f=>simp[dI]at h; subst h; exact⟨⟨#[],#[],rfl,rfl,rfl⟩,⟨trivial,trivial⟩⟩
 | global g=>simp[dI]at h
theorem jP(hf:FR m N fr a.tmps){l:List Operand}{k:List Opd}(h:l.mapM dI=some k):VRs m (k.map (·.ev fr)) (l.map a.eval)∧AV.bdds N (k.map (·.ev fr)):=by
 induction l generalizing k with
 | nil=>simp at h; subst h; exact⟨rfl,trivial⟩
 | cons x xs ih=>
  simp only[List.mapM_cons,Option.bind_eq_bind,qC,Option.pure_def,Option.some.injEq]at h
  obtain⟨y,hy,ys,hys,rfl⟩:=h
  obtain⟨h1,h2⟩:=aR hf hy
  obtain⟨h3,h4⟩:=ih hys
  exact⟨⟨_,_,rfl,h1,h3⟩,⟨h2,h4⟩⟩
end
theorem qR{P:Program}{t:TypeId}{z:List AV}(h:zc P t=some z):∃i v,P.info? t=some i∧i.zero=some v∧z.length=i.size ∧
 (∀y∈z,one y=true)∧∀m N,VRs m z v.cells.toList∧AV.bdds N z:=by
 simp only[zc,qC]at h
 obtain⟨i,hi,v,hv,l,hl,h⟩:=h
 split at h
 ·rename_i hs
  simp at h; subst h
  obtain⟨h1,h2⟩:=aAF hl
  exact⟨i,v,hi,hv,hs,h1,h2⟩
 ·cases h
theorem cI{P:Program}{t:TypeId}{n:Nat}(h:eL P t=some n):∃i,P.info? t=some i∧i.size=n:=by
 simpa[eL]using h
end Go.Proofs.Ab

/- Own layer, part B. -/
import Derived.Test.YtiakeffhecpddaaGreatA
set_option linter.unusedSimpArgs false
set_option linter.unusedVariables false
namespace Go.Proofs.Ab
open Go
section
variable {P:Program} {w0:World} {m:Emb} {h:Heap} {w:World}
def fJ(w0:World)(m:Emb)(h:Heap)(w:World)(r:Result Value)(v:AV)(h':Heap):Prop:=
 ∃m' v' w',r= .ok v' w'∧bU w0 m m' h h' w w'∧VR m' v v'∧v.bdd h'.length
theorem fJ.val(s:Sim w0 m h w){v:AV}{v':Value}{r:Result Value}(hr:r= .ok v' w)(hv:VR m v v')(hb:v.bdd h.length):fJ w0 m h w r v h:=
 ⟨m,v',w,hr,.refl s,hv,hb⟩
theorem fJ.outc{s:Sem Value}{v:AV}{h':Heap}(hs:fJ w0 m h w (s.run P w) v h'):aBX w0 m h w ((do pure (.value (←s)):Sem Next).run P w) v h':=by
 obtain⟨m',v',w',h1,h2,h3,h4⟩:=hs
 exact⟨m',v',w',.inl (by simp[h1]),h2,h3,h4⟩
theorem mV(s:Sim w0 m h w)(e:TypeId){l:List AV}{cs:Array Value}(hl:VRs m l cs.toList)(hb:AV.bdds h.length l) :
 ∃m' w',(newRow e cs).run P w= .ok ⟨w.heap.size,0,none⟩ w'∧bU w0 m m' h (h++[some (.row l)]) w w'∧m'.pl (.own h.length 0)=⟨w.heap.size,0,none⟩∧m'.sz h.length=cs.size:=by
 refine⟨m.put h.length w.heap.size 0 cs.size,w.alloc (.cells cs e),by simp[newRow],?_,by simp[Emb.pl,Emb.put],by simp[Emb.put]⟩
 refine bU.new s _ _ 0 _ ⟨cs,e,rfl,by simp,fun k x hx=> ?_⟩ fun x hx=>AV.bdd_mono (Nat.le_succ _) x (cG.1 hb x hx)
 obtain⟨_,hr⟩:=dJ.1 hl
 obtain⟨y,hy,hv⟩:=hr k x hx
 refine⟨y,by simpa using hy,gL (Emb.put_ext m _ _ _ (Nat.le_refl _)) x y (cG.1 hb x (List.mem_of_getElem? hx)) hv⟩
theorem aGI(s:Sim w0 m h w){t:TypeId}{z:List AV}(hz:zc P t=some z) :
 fJ w0 m h w ((Instr.alloc t true (.tuple #[])).run P w) (.ptr (.own h.length 0)) (h++[some (.row z)]):=by
 obtain⟨i,v,hi,hv,_,_,h2⟩:=qR hz
 obtain⟨m',w',h3,h4,h5,_⟩:=mV (P:=P) s t (h2 m h.length).1 (h2 m h.length).2
 refine⟨m',.pointer (some ⟨w.heap.size,0,none⟩),w',?_,h4,by simp[VR,h5],by simp[AV.bdd,Pl.bdd]⟩
 simp only[Instr.alloc,Sem.run_bind,sI hi hv,Result.andThen_ok,newVar,h3,Sem.run_pure]
theorem aL8(s:Sim w0 m h w){t:TypeId}{x:AV}{v:Value}(hv:VR m x v)(hb:x.bdd h.length){l:List AV}(hl:cellsOf x=some l) :
 fJ w0 m h w ((Instr.box t v).run P w) (.ptr (.own h.length 0)) (h++[some (.row l)]):=by
 obtain⟨h1,_,h2⟩:=oN hv hb hl
 obtain⟨m',w',h3,h4,h5,_⟩:=mV (P:=P) s t h1 h2
 refine⟨m',.pointer (some ⟨w.heap.size,0,none⟩),w',?_,h4,by simp[VR,h5],by simp[AV.bdd,Pl.bdd]⟩
 simp only[Instr.box,newVar,Sem.run_bind,h3,Result.andThen_ok,Sem.run_pure]
theorem aCh(s:Sim w0 m h w){t:TypeId}{n:Option Nat}(hn:xA P t=some n){p:Pl}{x:AV}
 (hx:rdv w0 h p n=some x) :
 fJ w0 m h w ((Instr.loadAt t (.pointer (some (m.pl p)))).run P w) x h:=by
 simp only[xA,qC]at hn
 obtain⟨d,hd,hn⟩:=hn
 split at hn
 ·rename_i hg
  simp only[qD]at hn
  obtain⟨k,hk,rfl⟩:=hn
  obtain⟨i,hi,rfl⟩:=cI hk
  simp only[rdv,qD]at hx
  obtain⟨l,hl,rfl⟩:=hx
  obtain⟨c,h1,h2,h3,_⟩:=xQ s P hl
  refine .val s (v':= .agg c) ?_ ⟨c,rfl,h2⟩ h3
  simp[Instr.loadAt,Instr.sureAddr,rQ hd hg hi h1]
 ·rename_i hg
  simp at hn; subst hn
  obtain⟨v',h1,h2,h3⟩:=aIH s hx
  refine .val s (v':=v') ?_ h2 h3
  simp[Instr.loadAt,Instr.sureAddr,rP hd (by simpa using hg) h1]
theorem aGD(s:Sim w0 m h w){t:TypeId}{n:Nat}(hn:eL P t=some n){i o:Nat}{c:List AV}(hi:h[i]? = some (some (.row c))){x:AV}{v:Value}
 (hv:VR m x v) (hb:x.bdd h.length) {l:List AV} (hl:cellsOf x=some l) (hln:l.length=n) (ho:o+n≤c.length) :
 aBX w0 m h w ((do Instr.storeAt t (.pointer (some (m.pl (.own i o)))) v; pure .skip:Sem Next).run P w) .undef (h.set i (some (.row (cO c o l)))):=by
 obtain⟨h1,h2,h3⟩:=oN hv hb hl
 obtain⟨inf,hinf,rfl⟩:=cI hn
 obtain⟨g1,⟨ca,e,g2,g3,g4⟩,g5⟩:=s.at_ i _ hi
 have hcn:=aBf g3 g4
 have hlen:=cN h1
 have hca:v.cells.size=inf.size:=by simp at hlen; omega
 obtain⟨w',q1,q2,q3,q4,q5,q6,q7⟩:=oF (P:=P) (off:=m.base i+o) v.cells.toList w 0 ca g2 (by omega) (aBH h1 h2)
 have hstep:bU w0 m m h (h.set i (some (.row (cO c o l)))) w w':=by
  refine bU.set s hi q2 q3 q5 q6 q7 ?_ (fun y hy=>(sL hy).elim (g5 y) (cG.1 h3 y))
  rw[q4,Nat.add_zero]
  exact aA3 g3 g4 h1 (by omega) hcn
 refine⟨m,undef,w',.inr ⟨?_,rfl⟩,hstep,by simp[VR],by simp[AV.bdd]⟩
 simp only[Instr.storeAt,Instr.sureAddr,Emb.pl,storeVar,Sem.run_bind,Sem.run_pure,Result.andThen_ok,fA hinf,hca,ne_eq,not_true_eq_false,if_false,q1]
theorem aLT{k:IntKind}{n:Int}(h1:k.min≤n)(h2:n≤k.max):k.wrap n=n:=by
 unfold IntKind.wrap
 cases k<;>simp[IntKind.min,IntKind.max,IntKind.bits,IntKind.signed]at * <;> (try split)<;>omega
theorem jQ{k:IntKind}{n:Int}{v:AV}(hn:iU k n=some v):v= .int k n∧k.wrap n=n:=by
 simp only[iU]at hn
 split at hn
 ·rename_i hin
  simp only[inK,Bool.and_eq_true,decide_eq_true_eq]at hin
  simp at hn; exact⟨hn.symm,aLT hin.1 hin.2⟩
 ·cases hn
theorem aAy(s:Sim w0 m h w){op:BinOp}{k k':IntKind}{a b:Int}{v:AV}(hb:qW op k a b=some v) :
 fJ w0 m h w ((Op.shift op k a k' b).run P w) v h:=by
 unfold qW at hb
 split at hb
 ·cases hb
 ·rename_i hneg
  split at hb
  ·obtain⟨rfl,hw⟩:=jQ hb
   refine .val s (v':= .int k (a*2^(min b.toNat k.bits))) ?_ (by simp[VR]) (by simp[AV.bdd])
   simp[Op.shift,hneg,hw]
  ·simp at hb; subst hb
   refine .val s (v':= .int k (a.fdiv (2^(min b.toNat k.bits)))) ?_ (by simp[VR]) (by simp[AV.bdd])
   simp[Op.shift,hneg]
  ·cases hb
theorem aL9(s:Sim w0 m h w){op:BinOp}{t:TypeId}{x y:Operand}{ax ay v:AV}{vx vy:Value}(hx:VR m ax vx)(hy:VR m ay vy)(hb:bin op ax ay=some v) :
 fJ w0 m h w ((do eqGuard op t x y vx vy; binOp op t vx vy).run P w) v h:=by
 unfold bin at hb
 split at hb
 ·rename_i k a k' b
  simp only[VR]at hx hy
  subst hx; subst hy
  have hg:(eqGuard op t x y (.int k a) (.int k' b)).run P w= .ok () w:=by cases op<;>simp[eqGuard]
  simp only[Sem.run_bind,hg,Result.andThen_ok]
  split at hb
  ·simpa[binOp]using aAy (P:=P) (k':=k') s hb
  ·simpa[binOp]using aAy (P:=P) (k':=k') s hb
  ·rename_i n1 n2
   split at hb
   ·rename_i hk
    subst hk
    cases op<;>simp only[kI]at hb
    case add=>obtain⟨rfl,hw⟩:=jQ hb; exact .val s (v':= .int k (a+b)) (by simp[binOp,Op.intArith,hw]) (by simp[VR]) (by simp[AV.bdd])
    case sub=>simp at hb; subst hb; exact .val s (v':= .int k (k.wrap (a - b))) (by simp[binOp,Op.intArith]) (by simp[VR]) (by simp[AV.bdd])
    case mul=>obtain⟨rfl,hw⟩:=jQ hb; exact .val s (v':= .int k (a*b)) (by simp[binOp,Op.intArith,hw]) (by simp[VR]) (by simp[AV.bdd])
    case quo=>
     split at hb
     ·cases hb
     ·rename_i h0
      obtain⟨rfl,hw⟩:=jQ hb; exact .val s (v':= .int k (a.tdiv b)) (by simp[binOp,Op.intDiv,h0,hw]) (by simp[VR]) (by simp[AV.bdd])
    case rem=>
     split at hb
     ·cases hb
     ·rename_i h0
      simp at hb; subst hb; exact .val s (v':= .int k (a.tmod b)) (by simp[binOp,Op.intDiv,h0]) (by simp[VR]) (by simp[AV.bdd])
    case shl=>exact absurd rfl n1
    case shr=>exact absurd rfl n2
    case eql=>simp at hb; subst hb; exact .val s (v':= .bool (a==b)) (by simp[binOp,Op.intCmp]) (by simp[VR]) (by simp[AV.bdd])
    case neq=>simp at hb; subst hb; exact .val s (v':= .bool (a != b)) (by simp[binOp,Op.intCmp]) (by simp[VR]) (by simp[AV.bdd])
    case lss=>simp at hb; subst hb; exact .val s (v':= .bool (a<b)) (by simp[binOp,Op.intCmp]) (by simp[VR]) (by simp[AV.bdd])
    case leq=>simp at hb; subst hb; exact .val s (v':= .bool (a≤b)) (by simp[binOp,Op.intCmp]) (by simp[VR]) (by simp[AV.bdd])
    case gtr=>simp at hb; subst hb; exact .val s (v':= .bool (a>b)) (by simp[binOp,Op.intCmp]) (by simp[VR]) (by simp[AV.bdd])
    case geq=>simp at hb; subst hb; exact .val s (v':= .bool (a≥b)) (by simp[binOp,Op.intCmp]) (by simp[VR]) (by simp[AV.bdd])
    case and=>simp at hb; subst hb; exact .val s (v':= .int k (nW .and k a b)) (by simp[binOp,Op.intBits,nW]) (by simp[VR]) (by simp[AV.bdd])
    case or=>simp at hb; subst hb; exact .val s (v':= .int k (nW .or k a b)) (by simp[binOp,Op.intBits,nW]) (by simp[VR]) (by simp[AV.bdd])
    case xor=>simp at hb; subst hb; exact .val s (v':= .int k (nW .xor k a b)) (by simp[binOp,Op.intBits,nW]) (by simp[VR]) (by simp[AV.bdd])
    case andNot=>simp at hb; subst hb; exact .val s (v':= .int k (nW .andNot k a b)) (by simp[binOp,Op.intBits,nW]) (by simp[VR]) (by simp[AV.bdd])
   ·cases hb
 ·cases hb
end
section
variable {P:Program} {w0:World} {m:Emb} {h:Heap} {w:World}
theorem aBG{N:Nat}{p:Pl}{n:Nat}(hp:p.bdd N):(AV.ptr (p.add n)).bdd N:=by
 cases p with
 | old a=>simp[AV.bdd,Pl.bdd,Pl.add]
 | own i o=>simpa[AV.bdd,Pl.bdd,Pl.add]using hp
theorem aL7(s:Sim w0 m h w){op:BinOp}{t:TypeId}{x y:Operand}{a b:Bool}(hop:op= .eql∨op= .neq)(ht:P.underlying t=some .bool) :
 fJ w0 m h w ((do eqGuard op t x y (.bool a) (.bool b); binOp op t (.bool a) (.bool b)).run P w) (.bool (if(op matches .neq)then !(a==b)else a==b)) h:=by
 have hg:(eqGuard op t x y (.bool a) (.bool b)).run P w= .ok () w:=by cases op<;>simp[eqGuard]
 simp only[Sem.run_bind,hg,Result.andThen_ok]
 have he:(Op.equal t (.bool a) (.bool b)).run P w= .ok (a==b) w:=run_equalIn_bool' w 9999 t a b ht
 rcases hop with rfl | rfl
 ·exact .val s (v':= .bool (a==b)) (by simp[binOp,he]) (by simp[VR]) (by simp[AV.bdd])
 ·exact .val s (v':= .bool (!(a==b))) (by simp[binOp,he]) (by simp[VR]) (by simp[AV.bdd])
theorem snd_un(s:Sim w0 m h w){op:UnOp}{x v:AV}{vx:Value}(hx:VR m x vx)(hv:aGu op x=some v):fJ w0 m h w ((Op.unary op vx).run P w) v h:=by
 unfold aGu at hv
 split at hv
 ·rename_i k n
  simp only[VR]at hx; subst hx
  obtain⟨rfl,hw⟩:=jQ hv
  exact .val s (v':= .int k (0 - n)) (by simpa[Op.unary,Op.intArith]using hw) (by simp[VR]) (by simp[AV.bdd])
 ·rename_i b
  simp only[VR]at hx; subst hx
  simp at hv; subst hv
  exact .val s (v':= .bool !b) (by simp[Op.unary]) (by simp[VR]) (by simp[AV.bdd])
 ·cases hv
theorem aIt(s:Sim w0 m h w){src dst:TypeId}{k k0 k1:IntKind}{n:Int}{v:AV}(h1:P.underlying src=some (.int k0))(h2:P.underlying dst=some (.int k))
 (hv:iU k n=some v):fJ w0 m h w ((convert src dst (.int k1 n)).run P w) v h:=by
 obtain⟨rfl,hw⟩:=jQ hv
 exact .val s (v':= .int k n) (by simp[convert,bX h1,bX h2,Conv.intToInt,hw]) (by simp[VR]) (by simp[AV.bdd])
theorem aGE(s:Sim w0 m h w){t:TypeId}:fJ w0 m h w ((Instr.makeMap t none).run P w) (.map h.length) (h++[some (.map [])]):=by
 refine⟨m.put h.length w.heap.size 0 0,.map (some w.heap.size),w.alloc (.map #[] 0),by simp[Instr.makeMap],?_,by simp[VR,Emb.put],by simp[AV.bdd]⟩
 exact bU.new s _ _ 0 0 ⟨#[],0,rfl,rfl,by simp,by simp,by simp⟩ (by simp[Blk.bdd])
theorem VR_sl {m : Emb} {p : Pl} {len es : Nat} {full : Bool} {v : Value} (h : VR m (.sl p len es full) v) : ∃ a cap, v = .slice (some a) len cap ∧ len ≤ cap ∧ (full = true → cap = len) ∧
      (cap=0∨(a=m.pl p∧∀i off,p= .own i off→off+cap*es≤m.sz i)):=by simpa[VR]using h
theorem iM{m:Emb}{x:AV}{v:Value}{n:Nat}(hx:VR m x v)(h:cH x=some n):∃k,v= .int k n:=by
 unfold cH at h
 split at h
 ·rename_i k i
  split at h
  ·rename_i h0
   simp at h; subst h
   simp only[VR]at hx
   exact⟨k,by rw[hx,Int.toNat_of_nonneg h0]⟩
  ·cases h
 ·cases h
theorem aIo(s:Sim w0 m h w){t e:TypeId}(ht:P.underlying t=some (.slice e)){z:List AV}(hz:zc P e=some z){i:TypeInfo}(hi:P.info? e=some i)
 {kl kc:IntKind} {l c:Nat} (hlc:l≤c) (hb:c*(i.bytes+1)≤2^40) :
 fJ w0 m h w ((Instr.makeSlice t (.int kl l) (.int kc c)).run P w) (.sl (.own h.length 0) l i.size (l==c)) (h++[some (.row (fS z c))]):=by
 obtain⟨i',v,hi',hv,hs,_,h2⟩:=qR hz
 rw[hi]at hi'; cases hi'
 have hb':c*i.bytes+c≤2^40:=by rw[Nat.mul_add]at hb; omega
 have hcb:(i.bytes:Int)*c≤281474976710656:=by
  have:((i.bytes*c:Nat):Int)=(i.bytes:Int)*c:=by simp
  rw[←this,Nat.mul_comm]; omega
 have hc40:c≤2^40:=by omega
 have hrun:=run_make (P:=P) w t e i v ht hi hv kl kc l c (by omega) (by omega) hcb (by omega)
 simp only[Int.toNat_natCast]at hrun
 have hsz:∀(n:Nat),(fS z n).length=n*i.size:=fun n=>by
  induction n with
  | zero=>simp[fS]
  | succ n ih=>simp[fS,ih,hs,Nat.succ_mul]; omega
 have hget:∀(n k:Nat),k<n*i.size→(fS z n)[k]? = z[k % i.size]? := fun n=>by
  induction n with
  | zero=>intro k hk; omega
  | succ n ih=>
   intro k hk
   simp only[fS]
   by_cases h1:k<i.size
   ·rw[qH (by omega),Nat.mod_eq_of_lt h1]
   ·have hsm:=Nat.succ_mul n i.size
    rw[qI (by omega),hs,ih (k - i.size) (by simp only[Nat.succ_eq_add_one]at hsm; omega)]
    rw[←Nat.mod_eq_sub_mod (by omega)]
 have hl:VRs m (fS z c) (madeCells v.cells (c*i.size)).toList:=by
  obtain⟨hlen,hr⟩:=dJ.1 (h2 m h.length).1
  refine dJ.2 ⟨by simp[hsz,madeCells],fun k x hx=> ?_⟩
  obtain⟨hk,_⟩:=List.getElem?_eq_some_iff.1 hx
  rw[hsz]at hk
  have hpos : 0 < i.size := by rcases Nat.eq_zero_or_pos i.size with h0 | h0; · rw [h0] at hk; omega
                               ·exact h0
  rw[hget c k hk]at hx
  obtain⟨y,hy,hvy⟩:=hr _ x hx
  refine⟨y,?_,hvy⟩
  have hcs:v.cells.size=i.size:=by simp at hlen; omega
  have hmod:k % i.size<v.cells.size:=by rw[hcs]; exact Nat.mod_lt _ hpos
  simp[madeCells,hk,hcs]
  simp at hy
  rw[Array.getElem?_eq_getElem hmod]at hy
  simp at hy
  rw[getElem!_pos v.cells (k % i.size) hmod]
  exact hy
 have hbd:AV.bdds h.length (fS z c):=by
  have:∀n,AV.bdds h.length (fS z n):=fun n=>by
   induction n with
   | zero=>exact trivial
   | succ n ih=>exact dK (h2 m h.length).2 ih
  exact this c
 obtain⟨m',w',g1,g2,g3,g4⟩:=mV (P:=P) s e hl hbd
 have hw':w'=w.alloc (.cells (madeCells v.cells (c*i.size)) e):=by
  simp[newRow]at g1
  exact g1.symm
 subst hw'
 refine⟨m',_,_,hrun,g2,?_,by simp[AV.bdd,Pl.bdd]⟩
 simp only[VR]
 refine⟨_,c,rfl,hlc,by simp; omega,.inr ⟨g3.symm,fun j off hp=> ?_⟩⟩
 cases hp
 rw[g4]; simp[madeCells]
theorem aIu(s:Sim w0 m h w){st:TypeId}{fs:Array Field}{f:Nat}{fd:Field}(ht:P.underlying st=some (.struct fs))(hf:fs[f]? = some fd){n:Nat}(hn:eL P fd.type=some n)(h0:n≠0)
 {p:Pl} (hp:p.bdd h.length):fJ w0 m h w ((Instr.fieldAt st (.pointer (some (m.pl p))) f).run P w) (.ptr (p.add fd.offset)) h:=by
 obtain⟨i,hi,rfl⟩:=cI hn
 refine .val s (v':= .pointer (some ((m.pl p).add fd.offset))) ?_ (by simp[VR,m.pl_add]) (aBG hp)
 simp[Instr.fieldAt,bX ht,hf,Instr.sureAddr,fieldPlace,fA hi,h0]
theorem aIJ{t:TypeId}{n:Option Nat}(hn:xA P t=some n){l:List AV}{cs:Array Value}{off:Nat}(hl:VRs m l cs.toList){N:Nat}(hb:AV.bdds N l){x:AV}
 (hx:fZ l off n=some x):∃v,(part t cs off).run P w= .ok v w∧VR m x v∧x.bdd N:=by
 simp only[xA,qC]at hn
 obtain⟨d,hd,hn⟩:=hn
 obtain⟨hlen,hr⟩:=dJ.1 hl
 split at hn
 ·rename_i hg
  simp only[qD]at hn
  obtain⟨k,hk,rfl⟩:=hn
  obtain⟨i,hi,rfl⟩:=cI hk
  simp[fZ]at hx; subst hx
  refine⟨.agg (cs.extract off (off+i.size)),by simp[part,qY hd,hg,fA hi],⟨_,rfl,dJ.2 ⟨?_,fun k y hy=> ?_⟩⟩,cG.2 fun y hy=>cG.1 hb y (List.mem_of_mem_drop (List.mem_of_mem_take hy))⟩
  ·simp at hlen ⊢; omega
  ·rw[List.getElem?_take]at hy
   split at hy
   ·rename_i hk
    rw[List.getElem?_drop]at hy
    obtain⟨z,hz,hv⟩:=hr _ y hy
    refine⟨z,?_,hv⟩
    simp at hz ⊢
    rw[List.getElem?_take,List.getElem?_drop]
    rw[if_pos (by omega)]
    simpa using hz
   ·cases hy
 ·rename_i hg
  simp at hn; subst hn
  simp only[fZ]at hx
  obtain⟨z,hz,hv⟩:=hr _ x hx
  refine⟨z,?_,hv,cG.1 hb x (List.mem_of_getElem? hx)⟩
  simp at hz
  simp[part,qY hd,hg,hz]
theorem aL5(s:Sim w0 m h w){st:TypeId}{fs:Array Field}{f:Nat}{fd:Field}(ht:P.underlying st=some (.struct fs))(hf:fs[f]? = some fd){n:Option Nat}(hn:xA P fd.type=some n)
 {l:List AV} {cs:Array Value} (hl:VRs m l cs.toList) (hb:AV.bdds h.length l) {x:AV} (hx:fZ l fd.offset n=some x) :
 fJ w0 m h w ((Instr.field st (.agg cs) f).run P w) x h:=by
 obtain⟨v,h1,h2,h3⟩:=aIJ (P:=P) (w:=w) hn hl hb hx
 exact .val s (v':=v) (by simp[Instr.field,bX ht,hf,asAgg,h1]) h2 h3
theorem aIp(s:Sim w0 m h w){t e:TypeId}(ht:P.underlying t=some (.slice e)){es:Nat}(he:eL P e=some es){p:Pl}{len es':Nat}{full:Bool}{v:Value}
 (hv:VR m (.sl p len es' full) v) (hp:p.bdd h.length) {k:IntKind} {j:Nat} (hj:j<len) :
 fJ w0 m h w ((Instr.indexAt t v (.int k j)).run P w) (.ptr (p.add (j*es))) h:=by
 obtain⟨a,cap,rfl,h1,_,h3⟩:=VR_sl hv
 obtain⟨i,hi,rfl⟩:=cI he
 have ha:a=m.pl p:=by rcases h3 with h3 | h3<;>first | omega | exact h3.1
 subst ha
 refine .val s (v':= .pointer (some ((m.pl p).add (j*i.size)))) ?_ (by simp[VR,m.pl_add]) (aBG hp)
 simp[Instr.indexAt,asIntOf,bX ht,hj,fA hi]
theorem aIq(s:Sim w0 m h w){t e:TypeId}{n:Nat}(ht:P.underlying t=some (.array n e)){es:Nat}(he:eL P e=some es){p:Pl}(hp:p.bdd h.length){k:IntKind}{j:Nat}(hj:j<n) :
 fJ w0 m h w ((Instr.indexAt t (.pointer (some (m.pl p))) (.int k j)).run P w) (.ptr (p.add (j*es))) h:=by
 obtain⟨i,hi,rfl⟩:=cI he
 refine .val s (v':= .pointer (some ((m.pl p).add (j*i.size)))) ?_ (by simp[VR,m.pl_add]) (aBG hp)
 simp[Instr.indexAt,asIntOf,bX ht,hj,fA hi,Instr.sureAddr]
theorem aL4(s:Sim w0 m h w){t e:TypeId}{n:Nat}(ht:P.underlying t=some (.array n e)){es:Nat}(he:eL P e=some es){g:Option Nat}(hg:xA P e=some g)
 {l:List AV} {cs:Array Value} (hl:VRs m l cs.toList) (hb:AV.bdds h.length l) {k:IntKind} {j:Nat} (hj:j<n) {x:AV} (hx:fZ l (j*es) (if g.isSome then some es else none)=some x) :
 fJ w0 m h w ((Instr.index t (.agg cs) (.int k j)).run P w) x h:=by
 obtain⟨i,hi,rfl⟩:=cI he
 have hge:(if g.isSome then some i.size else none)=g:=by
  simp only[xA,qC]at hg
  obtain⟨d,_,hg⟩:=hg
  split at hg
  ·simp only[qD]at hg
   obtain⟨k,hk,rfl⟩:=hg
   obtain⟨i',hi',rfl⟩:=cI hk
   rw[hi]at hi'; cases hi'; rfl
  ·simp at hg; subst hg; rfl
 rw[hge]at hx
 obtain⟨v,h1,h2,h3⟩:=aIJ (P:=P) (w:=w) hg hl hb hx
 exact .val s (v':=v) (by simp[Instr.index,asIntOf,bX ht,hj,fA hi,h1]) h2 h3
theorem aL6(s:Sim w0 m h w){l:List AV}{cs:Array Value}(hl:VRs m l cs.toList)(hb:AV.bdds h.length l){i:Nat}{x:AV}(hx:l[i]? = some x) :
 fJ w0 m h w ((Instr.extract (.tuple cs) i).run P w) x h:=by
 obtain⟨_,hr⟩:=dJ.1 hl
 obtain⟨z,hz,hv⟩:=hr _ x hx
 simp at hz
 exact .val s (v':=z) (by simp[Instr.extract,hz]) hv (cG.1 hb x (List.mem_of_getElem? hx))
theorem snd_mm(s:Sim w0 m h w):∀(r:List AV) (vs:List Value) (k:IntKind) (x:Int) (v:AV),VRs m r vs→mm true (.int k x) r=some v →
 fJ w0 m h w ((vs.foldlM Builtin.min2 (.int k x)).run P w) v h:=by
 intro r
 induction r with
 | nil=>intro vs k x v hr hv; simp only[VRs]at hr; subst hr; simp[mm]at hv; subst hv; exact .val s (v':= .int k x) (by simp) (by simp[VR]) (by simp[AV.bdd])
 | cons y ys ih=>
  intro vs k x v hr hv
  simp only[VRs]at hr
  obtain⟨u,us,rfl,h1,h2⟩:=hr
  cases y<;>simp only[mm]at hv<;>try cases hv
  simp only[VR]at h1; subst h1
  have:=ih us k _ v h2 hv
  simpa[Builtin.min2]using this
theorem snd_mx(s:Sim w0 m h w):∀(r:List AV) (vs:List Value) (k:IntKind) (x:Int) (v:AV),VRs m r vs→mm false (.int k x) r=some v →
 fJ w0 m h w ((vs.foldlM Builtin.max2 (.int k x)).run P w) v h:=by
 intro r
 induction r with
 | nil=>intro vs k x v hr hv; simp only[VRs]at hr; subst hr; simp[mm]at hv; subst hv; exact .val s (v':= .int k x) (by simp) (by simp[VR]) (by simp[AV.bdd])
 | cons y ys ih=>
  intro vs k x v hr hv
  simp only[VRs]at hr
  obtain⟨u,us,rfl,h1,h2⟩:=hr
  cases y<;>simp only[mm]at hv<;>try cases hv
  simp only[VR]at h1; subst h1
  have:=ih us k _ v h2 hv
  simpa[Builtin.max2]using this
end
section
variable {P:Program} {w0:World} {m:Emb} {h:Heap} {w:World}
def VO(m:Emb)(fr:Fr):Option Opd→Option Value→Prop
 | none,v=>v=none
 | some x,v=>∃u,v=some u∧VR m (x.ev fr) u
theorem oG{k:IntKind}{n y:Nat}{code:BoundsCode}(h:n≤y):(Instr.sliceBound (.int k n) y code).run P w= .ok n w:=by
 simp[Instr.sliceBound,asIntOf,h]
theorem qJ{fr:Fr}{b:Bool}{len cap:Nat}(hlc:len≤cap){lo hi mx:Option Opd}{lov hiv mxv:Option Value}(h1:VO m fr lo lov)(h2:VO m fr hi hiv)(h3:VO m fr mx mxv)
 {l hh:Nat} {mo:Option Nat} (hb:dF fr len lo hi mx=some (l,hh,mo)) :
 (Instr.sliceBounds b len cap lov hiv mxv).run P w= .ok (l,hh,mo.getD cap) w∧l≤hh∧hh≤len∧(∀k,mo=some k→hh≤k∧k≤len):=by
 have key:∀(o:Option Opd) (v:Option Value) (d n:Nat),VO m fr o v→(match o with | some x=>cH (x.ev fr) | none=>some d)=some n →
  (v=none∧o=none∧n=d)∨∃k,v=some (.int k n)∧o.isSome=true:=fun o v d n hv hn=>by
  cases o with
  | none=>simp[VO]at hv; simp at hn; exact .inl ⟨hv,rfl,hn.symm⟩
  | some x=>
   obtain⟨u,rfl,hu⟩:=hv
   obtain⟨k,rfl⟩:=iM hu hn
   exact .inr ⟨k,rfl,rfl⟩
 simp only[dF]at hb
 split at hb
 ·rename_i l' hh' e1 e2
  have k1:=key lo lov 0 l' h1 e1
  have k2:=key hi hiv len hh' h2 e2
  cases mx with
  | none=>
   simp only[VO]at h3; subst h3
   simp only at hb
   split at hb
   ·rename_i hle
    simp at hb; obtain⟨rfl,rfl,rfl⟩:=hb
    refine⟨?_,hle.1,hle.2,by simp⟩
    rcases k1 with⟨rfl,_,rfl⟩ | ⟨k,rfl,_⟩<;>rcases k2 with⟨rfl,_,rfl⟩ | ⟨k',rfl,_⟩
    ·simp[Instr.sliceBounds]
    ·have q:=oG (P:=P) (w:=w) (k:=k') (code:=if b=true then .sliceAcap else .sliceAlen) (show hh'≤cap by omega)
     simp[Instr.sliceBounds,q]
    ·have q:=oG (P:=P) (w:=w) (k:=k) (code:= .sliceB) hle.1
     simp[Instr.sliceBounds,q]
    ·have q:=oG (P:=P) (w:=w) (k:=k') (code:=if b=true then .sliceAcap else .sliceAlen) (show hh'≤cap by omega)
     have q':=oG (P:=P) (w:=w) (k:=k) (code:= .sliceB) hle.1
     simp[Instr.sliceBounds,q,q']
   ·cases hb
  | some x=>
   obtain⟨u,rfl,hu⟩:=h3
   simp only at hb
   split at hb
   ·cases hb
   ·rename_i hhi
    split at hb
    ·rename_i mm e3
     obtain⟨k3,rfl⟩:=iM hu e3
     split at hb
     ·rename_i hle
      simp at hb; obtain⟨rfl,rfl,rfl⟩:=hb
      refine⟨?_,hle.1,by omega,fun k hk=>by cases hk; omega⟩
      have q3:=oG (P:=P) (w:=w) (k:=k3) (code:=if b=true then .slice3Acap else .slice3Alen) (show mm≤cap by omega)
      rcases k2 with⟨_,rfl,_⟩ | ⟨k',rfl,_⟩
      ·simp at hhi
      ·have q2:=oG (P:=P) (w:=w) (k:=k') (code:= .slice3B) hle.2.1
       rcases k1 with⟨rfl,_,rfl⟩ | ⟨k,rfl,_⟩
       ·simp[Instr.sliceBounds,q3,q2]
       ·have q1:=oG (P:=P) (w:=w) (k:=k) (code:= .slice3C) hle.1
        simp[Instr.sliceBounds,q3,q2,q1]
     ·cases hb
    ·cases hb
 ·cases hb
theorem aL3(s:Sim w0 m h w){t e:TypeId}(ht:P.underlying t=some (.slice e)){es:Nat}(he:eL P e=some es){fr:Fr}{p:Pl}{len es':Nat}{full:Bool}{v:Value}
 (hv:VR m (.sl p len es' full) v) (hp:p.bdd h.length) (hes:fH p es es'=true) {lo hi mx:Option Opd} {lov hiv mxv:Option Value} (h1:VO m fr lo lov) (h2:VO m fr hi hiv) (h3:VO m fr mx mxv)
 {l hh:Nat} {mo:Option Nat} (hb:dF fr len lo hi mx=some (l,hh,mo)) :
 fJ w0 m h w ((Instr.sliceAt t v lov hiv mxv).run P w) (.sl (p.add (l*es)) (hh - l) es' (fW mo hh (full&&hh==len))) h:=by
 obtain⟨a,cap,rfl,g1,g2,g3⟩:=VR_sl hv
 obtain⟨i,hi',rfl⟩:=cI he
 obtain⟨q1,q2,q3,q4⟩:=qJ (P:=P) (w:=w) (b:=true) g1 h1 h2 h3 hb
 have hmc:mo.getD cap≤cap:=by
  cases mo with
  | none=>simp
  | some k=>have:=q4 k rfl; simp; omega
 have hhm:hh≤mo.getD cap:=by
  cases mo with
  | none=>simp; omega
  | some k=>have:=q4 k rfl; simp; omega
 refine .val s (v':= .slice (some (if mo.getD cap=l then a else a.add (l*i.size))) (hh - l) (mo.getD cap - l)) ?_ ?_ ?_
 ·simp only[Instr.sliceAt,Sem.run_bind,bX ht,Result.andThen_ok,Instr.slice,q1,fA hi',Sem.run_pure,Option.map_some]
  split<;>rfl
 ·simp only[VR]
  refine⟨_,_,rfl,by omega,fun hf=> ?_,?_⟩
  ·cases mo with
   | none=>
    simp only[fW,Bool.and_eq_true,beq_iff_eq]at hf
    simp only[Option.getD_none]
    rw[g2 hf.1,hf.2]
   | some k=>
    simp only[fW,beq_iff_eq]at hf
    simp only[Option.getD_some]; omega
  ·by_cases hm:mo.getD cap=l
   ·left; omega
   ·rw[if_neg hm]
    rcases g3 with g3 | ⟨g3,g4⟩
    ·left; omega
    ·right
     refine⟨by rw[g3,m.pl_add],fun j off hpj=> ?_⟩
     cases p with
     | old a=>simp[Pl.add]at hpj
     | own j' o=>
      simp only[Pl.add,Pl.own.injEq]at hpj
      obtain⟨rfl,rfl⟩:=hpj
      simp only[fH,beq_iff_eq]at hes
      have hz:=g4 j' o rfl
      rw[hes]
      have h5:l*es'+(mo.getD cap - l)*es'=mo.getD cap*es':=by rw[←Nat.add_mul]; congr 1; omega
      have h6:mo.getD cap*es'≤cap*es':=Nat.mul_le_mul_right _ hmc
      omega
 ·cases p with
  | old a=>simp[AV.bdd,Pl.bdd,Pl.add]
  | own i o=>simpa[AV.bdd,Pl.bdd,Pl.add]using hp
theorem aIm(s:Sim w0 m h w){t e:TypeId}(ht:P.underlying t=some (.slice e)){es:Nat}(he:eL P e=some es){fr:Fr}
 {lo hi mx:Option Opd} {lov hiv mxv:Option Value} (h1:VO m fr lo lov) (h2:VO m fr hi hiv) (h3:VO m fr mx mxv)
 {l hh:Nat} {mo:Option Nat} (hb:dF fr 0 lo hi mx=some (l,hh,mo)) :
 fJ w0 m h w ((Instr.sliceAt t (.slice none 0 0) lov hiv mxv).run P w) .nilS h:=by
 obtain⟨i,hi',rfl⟩:=cI he
 obtain⟨q1,q2,q3,q4⟩:=qJ (P:=P) (w:=w) (b:=true) (cap:=0) (Nat.le_refl _) h1 h2 h3 hb
 have hl:l=0:=by omega
 have hh0:hh=0:=by omega
 have hm0:mo.getD 0=0:=by
  cases mo with
  | none=>rfl
  | some k=>have:=q4 k rfl; simp; omega
 subst hl; subst hh0
 refine .val s (v':= .slice none 0 0) ?_ (by simp[VR]) (by simp[AV.bdd])
 simp only[Instr.sliceAt,Sem.run_bind,bX ht,Result.andThen_ok,Instr.slice,q1,fA hi',Sem.run_pure,hm0]
 simp
theorem aIn(s:Sim w0 m h w){t e:TypeId}{n:Nat}(ht:P.underlying t=some (.array n e)){es:Nat}(he:eL P e=some es){fr:Fr}{i o:Nat}{c:List AV}(hi:h[i]? = some (some (.row c)))
 (hsz:o+n*es≤c.length) {lo hi' mx:Option Opd} {lov hiv mxv:Option Value} (h1:VO m fr lo lov) (h2:VO m fr hi' hiv) (h3:VO m fr mx mxv)
 {l hh:Nat} {mo:Option Nat} (hb:dF fr n lo hi' mx=some (l,hh,mo)) :
 fJ w0 m h w ((Instr.sliceAt t (.pointer (some (m.pl (.own i o)))) lov hiv mxv).run P w) (.sl (.own i (o+l*es)) (hh - l) es (fW mo hh (hh==n))) h:=by
 obtain⟨inf,hinf,rfl⟩:=cI he
 obtain⟨q1,q2,q3,q4⟩:=qJ (P:=P) (w:=w) (b:=false) (Nat.le_refl n) h1 h2 h3 hb
 obtain⟨_,⟨ca,e',g2,g3,g4⟩,_⟩:=s.at_ i _ hi
 have hcn:=aBf g3 g4
 have hil:i<h.length:=by
  rcases Nat.lt_or_ge i h.length with h1 | h1
  ·exact h1
  ·rw[List.getElem?_eq_none h1]at hi; cases hi
 have hmc:mo.getD n≤n:=by
  cases mo with
  | none=>simp
  | some k=>have:=q4 k rfl; simp; omega
 have hhm:hh≤mo.getD n:=by
  cases mo with
  | none=>simp; omega
  | some k=>have:=q4 k rfl; simp; omega
 refine .val s (v':= .slice (some (if mo.getD n=l then m.pl (.own i o)else(m.pl (.own i o)).add (l*inf.size))) (hh - l) (mo.getD n - l)) ?_ ?_ (by simpa[AV.bdd,Pl.bdd]using hil)
 ·simp only[Instr.sliceAt,Sem.run_bind,bX ht,Result.andThen_ok,Instr.sureAddr,q1,fA hinf,Sem.run_pure]
 ·simp only[VR]
  refine⟨_,_,rfl,by omega,fun hf=> ?_,?_⟩
  ·cases mo with
   | none=>simp only[fW,beq_iff_eq]at hf; simp only[Option.getD_none]; omega
   | some k=>simp only[fW,beq_iff_eq]at hf; simp only[Option.getD_some]; omega
  ·by_cases hm:mo.getD n=l
   ·left; omega
   ·right
    rw[if_neg hm]
    refine⟨by rw[←m.pl_add]; rfl,fun j off hpj=> ?_⟩
    simp only[Pl.own.injEq]at hpj
    obtain⟨rfl,rfl⟩:=hpj
    have h5:l*inf.size+(mo.getD n - l)*inf.size=mo.getD n*inf.size:=by rw[←Nat.add_mul]; congr 1; omega
    have h6:mo.getD n*inf.size≤n*inf.size:=Nat.mul_le_mul_right _ hmc
    omega
theorem aBi(s:Sim w0 m h w){size n:Nat}{p:Pl}{es:Nat}{full:Bool}{v:Value}(hv:VR m (.sl p n es full) v){l:List AV}(hl:rdn w0 h p (n*size)=some l) :
 ∃c:Array Value,(Builtin.firstCells size n v).run P w= .ok c w∧VRs m l c.toList∧AV.bdds h.length l:=by
 obtain⟨a,cap,rfl,g1,g2,g3⟩:=VR_sl hv
 rcases g3 with g3 | ⟨g3,_⟩
 ·have hn:n=0:=by omega
  subst hn
  rw[Nat.zero_mul]at hl
  have hl0:l=[]:=by
   have:=(pI hl).1
   exact List.length_eq_zero_iff.1 this
  subst hl0
  refine⟨#[],?_,rfl,trivial⟩
  simp[Builtin.firstCells,Go.loadCells,loadCellsFrom]
 ·obtain⟨c,h1,h2,h3,_⟩:=xQ s P hl
  exact⟨c,by rw[←g3]at h1; exact h1,h2,h3⟩
theorem aDV(need old:Nat)(h:old<need):Builtin.nextslicecap need old≤2*need:=by
 unfold Builtin.nextslicecap
 split
 ·omega
 ·split
  ·omega
  ·have:∀r c,c≤2*need→Builtin.growBy need r c≤2*need:=fun r=>by
    induction r with
    | zero=>intro c hc; exact hc
    | succ r ih=>
     intro c hc
     simp only[Builtin.growBy]
     split
     ·exact hc
     ·exact ih _ (by omega)
   exact this 4 old (by omega)
theorem Sim.drew(s:Sim w0 m h w):Sim w0 m h w.drew:=⟨s.size,s.old,s.at_,s.inj⟩
theorem bU.drew(s:Sim w0 m h w):bU w0 m m h h w w.drew:=
 ⟨s.drew,.refl _ _,⟨Nat.le_refl _,fun _ _ _=>rfl,rfl,rfl,rfl⟩,Nat.le_refl _,fun i b hi _=>⟨i,b,hi,rfl⟩⟩
theorem xU{z:List AV}{v:Array Value}(hz:VRs m z v.toList)(n:Nat):(Builtin.zeroCells v n).size=n*z.length:=by
 have:=cN hz
 simp[Builtin.zeroCells]; simp at this; rw[this]
theorem aI{α:Type}{l:List α}{i:Nat}{x:α}(h:l[i]? = some x):i<l.length:=by
 rcases Nat.lt_or_ge i l.length with h1 | h1
 ·exact h1
 ·rw[List.getElem?_eq_none h1]at h; cases h
theorem r_grow(s:Sim w0 m h w)(e:TypeId){lo ln:List AV}{co cn rest:Array Value}(h1:VRs m lo co.toList)(h2:VRs m ln cn.toList)(b1:AV.bdds h.length lo)(b2:AV.bdds h.length ln) :
 ∃m' w',(newRow e (co++cn++rest)).run P w= .ok ⟨w.heap.size,0,none⟩ w'∧bU w0 m m' h (h++[some (.row (lo++ln))]) w w'∧m'.pl (.own h.length 0)=⟨w.heap.size,0,none⟩∧m'.sz h.length=co.size+cn.size+rest.size:=by
 refine⟨m.put h.length w.heap.size 0 (co.size+cn.size+rest.size),w.alloc (.cells (co++cn++rest) e),by simp[newRow],?_,by simp[Emb.pl,Emb.put],by simp[Emb.put]⟩
 refine bU.new s _ _ 0 _ ⟨_,e,rfl,by simp[Nat.add_assoc],fun k x hx=> ?_⟩ fun x hx=>AV.bdd_mono (Nat.le_succ _) x (cG.1 (dK b1 b2) x hx)
 have hl:=oR h1 h2
 obtain⟨hlen,hr⟩:=dJ.1 hl
 obtain⟨y,hy,hv⟩:=hr k x hx
 have hk:=aI hy
 refine⟨y,?_,gL (Emb.put_ext m _ _ _ (Nat.le_refl _)) x y (cG.1 (dK b1 b2) x (List.mem_of_getElem? hx)) hv⟩
 have:(co++cn++rest)[k]? = (co++cn)[k]? := Array.getElem?_append_left (by simpa using hk)
 rw[Nat.zero_add,this,←Array.getElem?_toList,Array.toList_append]
 exact hy
theorem yH(s:Sim w0 m h w){t t' e e':TypeId}{ty:TypeId}(ht:P.underlying t=some (.slice e))(ht':P.underlying t'=some (.slice e')){z:List AV}(hz:zc P e=some z){inf:TypeInfo}(hi:P.info? e=some inf)
 {b:Option Addr} {len cap n:Nat} {u:Value} (hn:(Builtin.lenOf u).run P w= .ok n w) (hgrow:cap<len+n) (hroom:(len+n)*(inf.bytes+1)≤2^40)
 {lo ln:List AV} {co cn:Array Value} (q1:(Builtin.firstCells inf.size len (.slice b len cap)).run P w.drew= .ok co w.drew) (q2:(Builtin.firstCells inf.size n u).run P w.drew= .ok cn w.drew)
 (h1:VRs m lo co.toList) (h2:VRs m ln cn.toList) (b1:AV.bdds h.length lo) (b2:AV.bdds h.length ln) (l1:lo.length=len*inf.size) (l2:ln.length=n*inf.size) :
 fJ w0 m h w ((Builtin.append_ #[t,t'] ty #[.slice b len cap,u]).run P w) (.sl (.own h.length 0) (len+n) inf.size false) (h++[some (.row (lo++ln))]):=by
 obtain⟨i',zv,hi',hzv,hzs,_,hzz⟩:=qR hz
 rw[hi]at hi'; cases hi'
 have hb1:(len+n)*inf.bytes+(len+n)≤2^40:=by rw[Nat.mul_add]at hroom; omega
 have hcap:=aDV (len+n) cap hgrow
 have hcb:¬(Builtin.nextslicecap (len+n) cap*inf.bytes>2^48):=by
  have h5:Builtin.nextslicecap (len+n) cap*inf.bytes≤2*(len+n)*inf.bytes:=Nat.mul_le_mul_right _ hcap
  have h6:2*(len+n)*inf.bytes=2*((len+n)*inf.bytes):=Nat.mul_assoc _ _ _
  omega
 have hneed:¬(len+n≤cap):=by omega
 have hmx:¬(((len+n:Nat):Int)>IntKind.i64.max):=by simp[IntKind.max,IntKind.signed,IntKind.bits]; omega
 let nc:=(Question.appendCap (len+n) cap e).cut (w.tape w.drawn (.appendCap (len+n) cap e))
 have hnc:len+n≤nc:=by simp only[nc,Question.cut]; omega
 obtain⟨m',w',g1,g2,g3,g4⟩:=r_grow (P:=P) (rest:=Builtin.zeroCells zv.cells (nc - (len+n))) s.drew e h1 h2 b1 b2
 refine⟨m',.slice (some ⟨w.heap.size,0,none⟩) (len+n) nc,w',?_,(bU.drew s).trans g2,?_,by simp[AV.bdd,Pl.bdd]⟩
 ·have hq:(choose (.appendCap (len+n) cap e)).run P w= .ok nc w.drew:=by simp[Question.forced,nc]
  have hz2:(zeroValue e).run P w.drew= .ok zv w.drew:=sI hi hzv
  have hi2:(typeInfo e).run P w= .ok inf w:=yK hi
  have hi3:(typeInfo e).run P w.drew= .ok inf w.drew:=yK hi
  have hs2:(sizeOf e).run P w= .ok inf.size w:=fA hi
  have u1:(underlying t).run P w= .ok (.slice e) w:=bX ht
  have u2:(underlying t').run P w= .ok (.slice e') w:=bX ht'
  simp only[Builtin.append_]
  simp only[Sem.run_bind,u1,u2,hs2,hi2,hi3,hz2,hn,q1,q2,hq,g1,hneed,hcb,hmx,Result.andThen_ok,Sem.run_pure,Sem.run_ite,if_false,Bool.false_eq_true,List.getElem?_toArray,List.getElem?_cons_zero,List.getElem?_cons_succ,false_and,run_askRoom,Bool.not_false,if_true]
  rfl
 ·simp only[VR]
  refine⟨_,nc,rfl,hnc,by simp,.inr ⟨g3.symm,fun j off hp=> ?_⟩⟩
  cases hp
  rw[g4,xU (hzz m h.length).1]
  have e1:=cN h1
  have e2:=cN h2
  simp at e1 e2
  rw[←e1,←e2,l1,l2,hzs,←Nat.add_mul,←Nat.add_mul]
  simp only[Nat.zero_add]
  exact Nat.mul_le_mul_right _ (by omega)
end
section
variable {P:Program} {w0:World} {m:Emb} {h:Heap} {w:World}
theorem aCi(s:Sim w0 m h w){t t' e e':TypeId}{ty:TypeId}(ht:P.underlying t=some (.slice e))(ht':P.underlying t'=some (.slice e')){inf:TypeInfo}(hi:P.info? e=some inf)
 {i o:Nat} {len cap n:Nat} {u:Value} (hn:(Builtin.lenOf u).run P w= .ok n w) (hfit:len+n≤cap) (hsz:o+cap*inf.size≤m.sz i)
 {lo ln:List AV} {cn:Array Value} (hlo:rdn w0 h (.own i o) (len*inf.size)=some lo) (hnw:(Builtin.firstCells inf.size n u).run P w= .ok cn w)
 (h2:VRs m ln cn.toList) (h1:∀y∈ln,one y=true) (b2:AV.bdds h.length ln) (l2:ln.length=n*inf.size) :
 fJ w0 m h w ((Builtin.append_ #[t,t'] ty #[.slice (some (m.pl (.own i o))) len cap,u]).run P w) (.sl (.own h.length 0) (len+n) inf.size false) (h.set i none++[some (.row (lo++ln))]):=by
 simp only[rdn]at hlo
 split at hlo
 ·rename_i c hc
  split at hlo
  ·rename_i hle
   simp at hlo; subst hlo
   obtain⟨g1,⟨ca,e0,g2,g3,g4⟩,g5⟩:=s.at_ i _ hc
   have hil:=aI hc
   have hcsz:=cN h2
   simp at hcsz
   have hmul:(len+n)*inf.size≤cap*inf.size:=Nat.mul_le_mul_right _ hfit
   rw[Nat.add_mul]at hmul
   obtain⟨w',q1,q2,q3,q4,q5,q6,q7⟩:=oF (P:=P) (off:=m.base i+o+len*inf.size) cn.toList w 0 ca g2 (by simp; omega) (aBH h2 h1)
   let m':=m.put h.length (m.blk i) (m.base i+o) (m.sz i - o)
   have hx:Ext m m' h.length:=Emb.put_ext m _ _ _ (Nat.le_refl _)
   have e1:m'.blk h.length=m.blk i:=by simp[m',Emb.put]
   have e2:m'.base h.length=m.base i+o:=by simp[m',Emb.put]
   have e3:m'.sz h.length=m.sz i - o:=by simp[m',Emb.put]
   have hat:∀(j:Nat) b,(h.set i none++[some (.row ((c.drop o).take (len*inf.size)++ln))])[j]? = some (some b) →
    (j<h.length∧j≠i∧h[j]? = some (some b))∨(j=h.length∧b= .row ((c.drop o).take (len*inf.size)++ln)):=fun j b hj=>by
    rcases Nat.lt_trichotomy j h.length with hl | hl | hl
    ·rw[qH (by simpa using hl)]at hj
     by_cases e:i=j
     ·subst e; rw[qF hl]at hj; cases hj
     ·rw[qB e]at hj; exact .inl ⟨hl,fun x=>e x.symm,hj⟩
    ·subst hl; rw[qI (by simp)]at hj; simp at hj; exact .inr ⟨rfl,hj.symm⟩
    ·rw[List.getElem?_eq_none (by simp; omega)]at hj; cases hj
   have hlen:(c.drop o).length=c.length - o:=by simp
   have hbd:(Blk.row ((c.drop o).take (len*inf.size)++ln)).bdd h.length:=fun y hy=>by
    rcases List.mem_append.1 hy with hy | hy
    ·exact g5 y (List.mem_of_mem_drop (List.mem_of_mem_take hy))
    ·exact cG.1 b2 y hy
   have hstep:bU w0 m m' h (h.set i none++[some (.row ((c.drop o).take (len*inf.size)++ln))]) w w':=by
    refine⟨⟨by rw[q2]; exact s.size,fun k hk=> ?_,fun j b hj=> ?_,fun j k b d hjk hj hk=> ?_⟩,hx,⟨by omega,fun k hk hn=>q3 k (fun e=>hn i _ hc e.symm),q5,q6,q7⟩,by simp,fun j b hj _=> ?_⟩
    ·rw[q3 k (fun e=>by omega)]; exact s.old k hk
    ·rcases hat j b hj with⟨hl,hne,hj⟩ | ⟨hj,hb⟩
     ·obtain⟨a1,a2,a3⟩:=s.at_ j b hj
      rw[(hx j hl).1,(hx j hl).2.1,(hx j hl).2.2]
      refine⟨a1,?_,Blk.bdd_mono (by simp) a3⟩
      rw[q3 _ (s.inj j i b _ hne hj hc)]
      exact aFo hx a3 a2
     ·subst hj; subst hb
      rw[e1,e2,e3]
      refine⟨g1,?_,Blk.bdd_mono (by simp) hbd⟩
      rw[q4]
      refine⟨_,e0,rfl,by rw[xE,g3]; have:=aBf g3 g4; omega,fun k x hx'=> ?_⟩
      rw[aDx _ _ _ (by simp; omega)]
      have htl:((c.drop o).take (len*inf.size)).length=len*inf.size:=by simp; omega
      have hbx:=hbd x (List.mem_of_getElem? hx')
      by_cases hk:k<len*inf.size
      ·rw[qH (by omega),List.getElem?_take,if_pos hk,List.getElem?_drop]at hx'
       rw[if_neg (by omega)]
       obtain⟨y,hy,hv⟩:=g4 _ x hx'
       exact⟨y,by rw[show m.base i+o+k=m.base i+(o+k)by omega]; exact hy,gL hx x y hbx hv⟩
      ·rw[qI (by omega),htl]at hx'
       obtain⟨_,hr⟩:=dJ.1 h2
       obtain⟨y,hy,hv⟩:=hr _ x hx'
       have hky:=aI hx'
       rw[if_pos (by simp; omega)]
       exact⟨y,by rw[show m.base i+o+k - (m.base i+o+len*inf.size+0)=k - len*inf.size by omega]; exact hy,gL hx x y hbx hv⟩
    ·rcases hat j b hj with⟨hl,hne,hj⟩ | ⟨hj,hb⟩<;>rcases hat k d hk with⟨hl',hne',hk⟩ | ⟨hk,hd⟩
     ·rw[(hx j hl).1,(hx k hl').1]; exact s.inj j k b d hjk hj hk
     ·rw[(hx j hl).1,hk,e1]; exact s.inj j i b _ hne hj hc
     ·rw[(hx k hl').1,hj,e1]; exact(s.inj k i d _ hne' hk hc).symm
     ·exact absurd (hj.trans hk.symm) hjk
    ·rcases hat j b hj with⟨hl,hne,hj⟩ | ⟨hj,hb⟩
     ·exact⟨j,b,hj,((hx j hl).1).symm⟩
     ·exact⟨i,_,hc,by rw[hj,e1]⟩
   refine⟨m',.slice (some (m.pl (.own i o))) (len+n) cap,w',?_,hstep,?_,by simp[AV.bdd,Pl.bdd]⟩
   ·have u1:(underlying t).run P w= .ok (.slice e) w:=bX ht
    have u2:(underlying t').run P w= .ok (.slice e') w:=bX ht'
    have hs2:(sizeOf e).run P w= .ok inf.size w:=fA hi
    have hadd:(m.pl (.own i o)).add (len*inf.size)=⟨m.blk i,m.base i+o+len*inf.size,none⟩:=by
     simp only[Emb.pl,Addr.add]; split<;>simp_all
    simp only[Builtin.append_]
    simp only[Sem.run_bind,u1,u2,hs2,hn,hnw,hfit,hadd,q1,Result.andThen_ok,Sem.run_pure,Sem.run_ite,if_false,Bool.false_eq_true,List.getElem?_toArray,List.getElem?_cons_zero,List.getElem?_cons_succ,Bool.not_false,if_true]
   ·simp only[VR]
    refine⟨_,cap,rfl,hfit,by simp,.inr ⟨by simp[Emb.pl,e1,e2],fun j off hp=> ?_⟩⟩
    cases hp
    rw[e3]; omega
  ·cases hlo
 ·cases hlo
theorem aCc(s:Sim w0 m h w){es n:Nat}{x:AV}{v:Value}{l:List AV}(hx:VR m x v)(hs:srcOf w0 h es x=some (n,l)) :
 (Builtin.lenOf v).run P w= .ok n w∧∃c:Array Value,(Builtin.firstCells es n v).run P w= .ok c w∧VRs m l c.toList∧AV.bdds h.length l∧l.length=n*es:=by
 unfold srcOf at hs
 split at hs
 ·simp at hs; obtain⟨rfl,rfl⟩:=hs
  simp only[VR]at hx; subst hx
  exact⟨by simp[Builtin.lenOf],#[],by simp[Builtin.firstCells],rfl,trivial,by simp⟩
 ·split at hs
  ·simp only[qD,Prod.mk.injEq]at hs
   obtain⟨l',hl,rfl,rfl⟩:=hs
   obtain⟨c,h1,h2,h3⟩:=aBi (P:=P) s hx hl
   obtain⟨a,cap,rfl,_⟩:=VR_sl hx
   exact⟨by simp[Builtin.lenOf],c,h1,h2,h3,(pI hl).1⟩
  ·cases hs
 ·cases hs
theorem aMa(s:Sim w0 m h w){t t' e e':TypeId}{ty:TypeId}(ht:P.underlying t=some (.slice e))(ht':P.underlying t'=some (.slice e')){z:List AV}(hz:zc P e=some z){inf:TypeInfo}(hi:P.info? e=some inf)
 {x y v:AV} {vx vy:Value} {h':Heap} (hx:VR m x vx) (hy:VR m y vy) (hbx:x.bdd h.length) (ha:eD w0 h inf.size inf.bytes x y=some (v,h')) :
 fJ w0 m h w ((Builtin.append_ #[t,t'] ty #[vx,vy]).run P w) v h':=by
 simp only[eD,qC]at ha
 obtain⟨⟨n,l⟩,hs,ha⟩:=ha
 obtain⟨k1,c,k2,k3,k4,k5⟩:=aCc (P:=P) s hy hs
 obtain⟨k1',c',k2',k3',k4',_⟩:=aCc (P:=P) s.drew hy hs
 have u1:(underlying t).run P w= .ok (.slice e) w:=bX ht
 have u2:(underlying t').run P w= .ok (.slice e') w:=bX ht'
 have hs2:(sizeOf e).run P w= .ok inf.size w:=fA hi
 simp only at ha
 split at ha
 ·rename_i h0
  subst h0
  have hl0:l=[]:=List.length_eq_zero_iff.1 (by rw[k5]; simp)
  have hc0:c= #[]:=by
   have:=cN k3; rw[hl0]at this; simp at this
   exact Array.size_eq_zero_iff.1 this.symm
  subst hc0
  split at ha
  ·simp at ha; obtain⟨rfl,rfl⟩:=ha
   simp only[VR]at hx; subst hx
   refine .val s (v':= .slice none 0 0) ?_ (by simp[VR]) (by simp[AV.bdd])
   simp only[Builtin.append_]
   simp only[Sem.run_bind,u1,u2,hs2,k1,k2,Result.andThen_ok,Sem.run_pure,Sem.run_ite,if_false,Bool.false_eq_true,List.getElem?_toArray,List.getElem?_cons_zero,List.getElem?_cons_succ,Bool.not_false,if_true]
   simp
  ·simp at ha; obtain⟨rfl,rfl⟩:=ha
   obtain⟨a,cap,rfl,g1,g2,g3⟩:=VR_sl hx
   refine .val s (v':= .slice (some a) _ cap) ?_ hx hbx
   simp only[Builtin.append_]
   simp only[Sem.run_bind,u1,u2,hs2,k1,k2,g1,Nat.add_zero,Result.andThen_ok,Sem.run_pure,Sem.run_ite,if_false,Bool.false_eq_true,List.getElem?_toArray,List.getElem?_cons_zero,List.getElem?_cons_succ,Bool.not_false,if_true]
   simp[storeCells]
  ·cases ha
 ·rename_i hn0
  split at ha
  ·split at ha
   ·rename_i hc
    simp only[mN,Option.some.injEq,Prod.mk.injEq]at ha
    obtain⟨rfl,rfl⟩:=ha
    simp only[VR]at hx; subst hx
    have:=yH (P:=P) (ty:=ty) s ht ht' hz hi (b:=none) (len:=0) (cap:=0) (n:=n) (u:=vy) k1 (by omega) (by simpa using hc.1) (lo:=[]) (ln:=l) (co:= #[]) (cn:=c') (by simp[Builtin.firstCells]) k2' rfl k3' trivial k4 (by simp) k5
    simpa using this
   ·cases ha
  ·rename_i p len es' full
   split at ha
   ·rename_i hc
    obtain⟨hes,hroom,hone⟩:=hc
    split at ha
    ·rename_i hf
     simp only[qC,mN,Option.some.injEq,Prod.mk.injEq]at ha
     obtain⟨old,ho,rfl,rfl⟩:=ha
     obtain⟨co,o1,o2,o3⟩:=aBi (P:=P) s.drew hx ho
     obtain⟨a,cap,rfl,g1,g2,g3⟩:=VR_sl hx
     have hcap:=g2 hf
     subst hcap
     exact yH (P:=P) (ty:=ty) s ht ht' hz hi k1 (by omega) hroom o1 k2' o2 k3' o3 k4 (pI ho).1 k5
    ·split at ha
     ·rename_i i o
      simp only[qC,Option.some.injEq,Prod.mk.injEq]at ha
      obtain⟨old,ho,rfl,rfl⟩:=ha
      obtain⟨co,o1,o2,o3⟩:=aBi (P:=P) s.drew hx ho
      obtain⟨a,cap,rfl,g1,g2,g3⟩:=VR_sl hx
      by_cases hfit:len+n≤cap
      ·rcases g3 with g3 | ⟨g3,g4⟩
       ·omega
       ·subst g3
        simp only[fH,beq_iff_eq]at hes
        exact aCi (P:=P) (ty:=ty) s ht ht' hi k1 hfit (by have:=g4 i o rfl; rw[hes]; exact this) ho k2 k3 (by simpa using hone) k4 k5
      ·obtain⟨m',v',w',q1,q2,q3,q4⟩:=yH (P:=P) (ty:=ty) s ht ht' hz hi k1 (by omega) hroom o1 k2' o2 k3' o3 k4 (pI ho).1 k5
       refine⟨m',v',w',q1,q2.weaken (by simp) (fun j b hj=> ?_),q3,by simpa using q4⟩
       have hjl:=aI hj
       simp only[List.length_append,List.length_set,List.length_cons,List.length_nil]at hjl
       by_cases hl:j<h.length
       ·rw[qH (by simpa using hl)]at hj
        rw[qH hl]
        by_cases e:i=j
        ·subst e; rw[qF hl]at hj; cases hj
        ·rw[qB e]at hj; exact hj
       ·have e:j=h.length:=by omega
        subst e
        rw[qI (by simp)]at hj
        rw[qI (Nat.le_refl _)]
        simpa using hj
     ·cases ha
   ·cases ha
  ·cases ha
end
section
variable {P:Program} {w0:World} {m:Emb} {h:Heap} {w:World}
theorem aHc(vs:List Value):∀(cs:Array Value) (o j:Nat),(vs.zipIdx j).foldl (fun cs (x:Value×Nat)=>cs.setIfInBounds (o+x.2) x.1) cs=wr cs (o+j) vs:=by
 induction vs with
 | nil=>intro cs o j; rfl
 | cons v r ih=>intro cs o j; simp only[List.zipIdx_cons,List.foldl_cons,wr]; rw[ih]; rfl
def PR(m:Emb)(N:Nat)(pl:Nat→Option (Nat×Nat)):List (Nat×Nat×AV)→List (Nat×Value)→Prop
 | [],l=>l=[]
 | (o,n,x)::r,l=>∃i v l',l=(i,v)::l'∧pl i=some (o,n)∧VR m x v∧x.bdd N∧PR m N pl r l'
theorem vU{pl:Nat→Option (Nat×Nat)}{N:Nat}:∀(ps:List (Nat×Nat×AV)) (qs:List (Nat×Value)) (c c':List AV) (ca:Array Value),PR m N pl ps qs→VRs m c ca.toList→AV.bdds N c →
 jM c ps=some c'→∃ca',Instr.fill pl ca qs=some ca'∧VRs m c' ca'.toList∧AV.bdds N c'∧ca'.size=ca.size:=by
 intro ps
 induction ps with
 | nil=>intro qs c c' ca hp hc hb hf; simp only[PR]at hp; subst hp; simp[jM]at hf; subst hf; exact⟨ca,by simp[Instr.fill],hc,hb,rfl⟩
 | cons p ps ih=>
  obtain⟨o,n,x⟩:=p
  intro qs c c' ca hp hc hb hf
  simp only[PR]at hp
  obtain⟨i,v,l',rfl,hpl,hv,hbx,hp⟩:=hp
  simp only[jM]at hf
  split at hf
  ·rename_i l hl
   obtain⟨k1,k2,k3⟩:=oN hv hbx hl
   split at hf
   ·rename_i hn
    have hlen:=cN k1
    have hclen:=cN hc
    simp at hlen hclen
    have hw:VRs m (cO c o l) (wr ca o v.cells.toList).toList:=by
     obtain⟨_,hr⟩:=dJ.1 hc
     obtain⟨_,hr'⟩:=dJ.1 k1
     refine dJ.2 ⟨by rw[aAf (by omega)]; simp[xE,hclen],fun k y hy=> ?_⟩
     rw[yF (by omega)]at hy
     rw[Array.getElem?_toList,aDx _ _ _ (by simp; omega)]
     split at hy
     ·rename_i hk
      rw[if_pos (by simp; omega)]; exact hr' _ y hy
     ·rename_i hk
      rw[if_neg (by simp; omega)]
      obtain⟨z,hz,hvz⟩:=hr k y hy
      exact⟨z,by simpa using hz,hvz⟩
    obtain⟨ca',g1,g2,g3,g4⟩:=ih l' _ c' _ hp hw (cG.2 fun y hy=>(sL hy).elim (cG.1 hb y) (cG.1 k3 y)) hf
    refine⟨ca',?_,g2,g3,by rw[g4,xE]⟩
    have hfold:=aHc v.cells.toList ca o 0
    simp only[Instr.fill,hpl]
    rw[if_neg (by simp; omega)]
    rw[←Array.foldl_toList,Array.toList_zipIdx]
    rw[hfold]
    exact g1
   ·cases hf
  ·cases hf
theorem pX{N:Nat}{fr:Fr}{a:Act}(hf:FR m N fr a.tmps){pl:Nat→Option (Nat×Nat)}:∀ {ps:List (Nat×Operand)} {qs:List (Nat×Nat×Opd)},vV pl ps=some qs →
 PR m N pl (qs.map fun(o,n,x)=>(o,n,x.ev fr)) (ps.map fun(i,x)=>(i,a.eval x)):=by
 intro ps
 induction ps with
 | nil=>intro qs h; simp[vV]at h; subst h; rfl
 | cons p ps ih=>
  intro qs h
  simp only[vV,List.mapM_cons,Option.bind_eq_bind,qC,Option.pure_def,Option.some.injEq,qD]at h
  obtain⟨_,⟨⟨o,n⟩,hpl,y,hy,rfl⟩,qs',hqs,rfl⟩:=h
  obtain⟨k1,k2⟩:=aR hf hy
  exact⟨p.1,_,_,rfl,hpl,k1,k2,ih hqs⟩
theorem aCe{fs:Array Field}{pl:List (Nat×Nat)}(h:vD P fs.toList=some pl) :
 (fs.mapM fun f=>(do pure (f.offset,←sizeOf f.type):Sem (Nat×Nat))).run P w= .ok pl.toArray w:=by
 have key:∀(l:List Field) (pl:List (Nat×Nat)),vD P l=some pl→(l.mapM fun f=>(do pure (f.offset,←sizeOf f.type):Sem (Nat×Nat))).run P w= .ok pl w:=by
  intro l
  induction l with
  | nil=>intro pl h; simp[vD]at h; subst h; simp
  | cons f fs ih=>
   intro pl h
   simp only[vD,List.mapM_cons,Option.bind_eq_bind,qC,Option.pure_def,Option.some.injEq,qD]at h
   obtain⟨_,⟨s,hs,rfl⟩,pl',hpl,rfl⟩:=h
   obtain⟨i,hi,rfl⟩:=cI hs
   have h1:(sizeOf f.type).run P w= .ok i.size w:=fA hi
   have h2:=ih pl' hpl
   simp only[List.mapM_cons,Sem.run_bind,h1,Result.andThen_ok,Sem.run_pure,h2]
 have hk:=key _ _ h
 rw[Array.mapM_eq_mapM_toList,Sem.run_map,hk]
 rfl
theorem aGH(s:Sim w0 m h w){t:TypeId}{fs:Array Field}(ht:P.underlying t=some (.struct fs)){z:List AV}(hz:zc P t=some z){pl:List (Nat×Nat)}(hpl:vD P fs.toList=some pl)
 {ps:List (Nat×Nat×AV)} {qs:Array (Nat×Value)} (hp:PR m h.length (pl[·]?) ps qs.toList) {c:List AV} (hc:jM z ps=some c) :
 fJ w0 m h w ((Instr.build t qs).run P w) (.agg c) h:=by
 obtain⟨i,v,hi,hv,hs,_,h2⟩:=qR hz
 obtain⟨ca',g1,g2,g3,_⟩:=vU ps qs.toList z c v.cells hp (h2 m h.length).1 (h2 m h.length).2 hc
 have hz2:(zeroValue t).run P w= .ok v w:=sI hi hv
 have hq:=aCe (P:=P) (w:=w) hpl
 refine .val s (v':= .agg ca') ?_ ⟨ca',rfl,g2⟩ g3
 simp only[Instr.build,Sem.run_bind,hz2,bX ht,Result.andThen_ok,hq]
 simp only[List.getElem?_toArray,g1]
 simp
theorem aDK(s:Sim w0 m h w){t e:TypeId}{k:Nat}(ht:P.underlying t=some (.array k e)){z:List AV}(hz:zc P t=some z){n:Nat}(hn:eL P e=some n)
 {ps:List (Nat×Nat×AV)} {qs:Array (Nat×Value)} (hp:PR m h.length (fun i=>some (i*n,n)) ps qs.toList) {c:List AV} (hc:jM z ps=some c) :
 fJ w0 m h w ((Instr.build t qs).run P w) (.agg c) h:=by
 obtain⟨i,v,hi,hv,hs,_,h2⟩:=qR hz
 obtain⟨i',hi',rfl⟩:=cI hn
 obtain⟨ca',g1,g2,g3,_⟩:=vU ps qs.toList z c v.cells hp (h2 m h.length).1 (h2 m h.length).2 hc
 have hz2:(zeroValue t).run P w= .ok v w:=sI hi hv
 have hs2:(sizeOf e).run P w= .ok i'.size w:=fA hi'
 refine .val s (v':= .agg ca') ?_ ⟨ca',rfl,g2⟩ g3
 simp only[Instr.build,Sem.run_bind,hz2,bX ht,Result.andThen_ok,hs2,g1]
 simp
theorem aDL(s:Sim w0 m h w){t e:TypeId}(ht:P.underlying t=some (.slice e)){z:List AV}(hz:zc P e=some z)(hz0:z.length≠0){len:Nat}(hlen:len*z.length≤2^24)
 {ps:List (Nat×Nat×AV)} {qs:Array (Nat×Value)} (hp:PR m h.length (fun i=>some (i*z.length,z.length)) ps qs.toList) {c:List AV} (hc:jM (fS z len) ps=some c) :
 fJ w0 m h w ((Instr.buildSlice t len qs).run P w) (.sl (.own h.length 0) len z.length true) (h++[some (.row c)]):=by
 obtain⟨i,v,hi,hv,hs,_,h2⟩:=qR hz
 have hz2:(zeroValue e).run P w= .ok v w:=sI hi hv
 have hs2:(sizeOf e).run P w= .ok i.size w:=fA hi
 have hcs:v.cells.size=i.size:=by have:=cN (h2 m h.length).1; simp at this; omega
 have hrs:VRs m (fS z len) ((Array.range (len*i.size)).map (v.cells[· % v.cells.size]!)).toList:=by
  obtain⟨hlenz,hr⟩:=dJ.1 (h2 m h.length).1
  have hsz:∀(n:Nat),(fS z n).length=n*i.size:=fun n=>by
   induction n with
   | zero=>simp[fS]
   | succ n ih=>simp[fS,ih,hs,Nat.succ_mul]; omega
  have hget:∀(n k:Nat),k<n*i.size→(fS z n)[k]? = z[k % i.size]? := fun n=>by
   induction n with
   | zero=>intro k hk; omega
   | succ n ih=>
    intro k hk
    simp only[fS]
    by_cases h1:k<i.size
    ·rw[qH (by omega),Nat.mod_eq_of_lt h1]
    ·have hsm:=Nat.succ_mul n i.size
     rw[qI (by omega),hs,ih (k - i.size) (by simp only[Nat.succ_eq_add_one]at hsm; omega)]
     rw[←Nat.mod_eq_sub_mod (by omega)]
  refine dJ.2 ⟨by simp[hsz],fun k x hx=> ?_⟩
  have hk:=aI hx
  rw[hsz]at hk
  rw[hget len k hk]at hx
  obtain⟨y,hy,hvy⟩:=hr _ x hx
  refine⟨y,?_,hvy⟩
  have hmod:k % i.size<v.cells.size:=by rw[hcs]; exact Nat.mod_lt _ (by omega)
  simp[hk,hcs]
  simp at hy
  rw[Array.getElem?_eq_getElem hmod]at hy
  simp at hy
  rw[getElem!_pos v.cells (k % i.size) hmod]
  exact hy
 have hbd:AV.bdds h.length (fS z len):=by
  have:∀n,AV.bdds h.length (fS z n):=fun n=>by
   induction n with
   | zero=>exact trivial
   | succ n ih=>exact dK (h2 m h.length).2 ih
  exact this len
 obtain⟨ca',g1,g2,g3,g4⟩:=vU ps qs.toList _ c _ hp hrs hbd hc
 obtain⟨m',w',q1,q2,q3,q4⟩:=mV (P:=P) s e g2 g3
 rw[hs]at hz0 hlen g1
 refine⟨m',.slice (some ⟨w.heap.size,0,none⟩) len len,w',?_,q2,?_,by simp[AV.bdd,Pl.bdd]⟩
 ·have n1:¬(len*i.size>2^24):=by omega
  by_cases h0:len*i.size=0
  ·have hl0:len=0:=(Nat.mul_eq_zero.1 h0).resolve_right hz0
   subst hl0
   have r0:Array.range 0=(#[]:Array Nat):=rfl
   have g1':Instr.fill (fun j=>some (j*i.size,i.size)) #[] qs.toList=some ca':=by simpa[r0]using g1
   simp[Instr.buildSlice,bX ht,hs2,g1',q1,r0]
  ·simp only[Instr.buildSlice,Sem.run_bind,bX ht,hs2,Result.andThen_ok,Sem.run_ite,n1,h0,if_false,Sem.run_pure,hz2,g1]
   simp[q1]
 ·simp only[VR]
  refine⟨_,len,rfl,Nat.le_refl _,fun _=>rfl,.inr ⟨q3.symm,fun j off hp=> ?_⟩⟩
  cases hp
  rw[q4,g4]; simp[hs]
end
end Go.Proofs.Ab

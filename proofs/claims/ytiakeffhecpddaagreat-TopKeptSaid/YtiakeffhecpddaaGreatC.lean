/- Own layer, part C. -/
import Derived.Test.YtiakeffhecpddaaGreatB
set_option linter.unusedSimpArgs false
set_option linter.unusedVariables false
namespace Go.Proofs.Ab
open Go
section
variable {P:Program} {w0:World} {m:Emb} {h:Heap} {w:World}
theorem kE{s:List Bool}{l k:List AV}{r:Bool}(h:dU s l k=some r):l.length=s.length∧k.length=s.length:=by
 induction s generalizing l k r with
 | nil=>cases l<;>cases k<;>simp[dU]at h ⊢
 | cons i is ih=>
  cases l with
  | nil=>simp[dU]at h
  | cons x xs=>
   cases k with
   | nil=>simp[dU]at h
   | cons y ys=>
    simp only[dU]at h
    split at h
    ·simpa using ih h
    ·split at h
     ·rename_i hs
      obtain⟨r',hr'⟩:=Option.isSome_iff_exists.1 hs
      simpa using ih hr'
     ·cases h
    ·cases h
theorem mZ{s s':List Bool}{l l' k k':List AV}{r:Bool}(hl:l.length=s.length)(hk:k.length=s.length)(h:dU (s++s') (l++l') (k++k')=some r) :
 ∃a b,dU s l k=some a∧dU s' l' k'=some b∧r=(a&&b):=by
 induction s generalizing l k r with
 | nil=>
  obtain rfl:=List.length_eq_zero_iff.1 hl
  obtain rfl:=List.length_eq_zero_iff.1 hk
  exact⟨true,r,rfl,by simpa using h,by simp⟩
 | cons i is ih=>
  match l,k,hl,hk with
  | x::xs,y::ys,hl,hk=>
   simp only[List.cons_append,dU]at h ⊢
   split at h
   ·rename_i he
    obtain⟨a,b,h1,h2,h3⟩:=ih (by simpa using hl) (by simpa using hk) h
    exact⟨a,b,by simp[h1],h2,h3⟩
   ·rename_i he
    split at h
    ·rename_i hs
     obtain⟨r',hr'⟩:=Option.isSome_iff_exists.1 hs
     obtain⟨a,b,h1,h2,h3⟩:=ih (by simpa using hl) (by simpa using hk) hr'
     simp at h; subst h
     exact⟨false,b,by simp[h1],h2,by simp⟩
    ·cases h
   ·cases h
def At(m:Emb)(l:List AV)(cs:Array Value)(off:Nat):Prop:=∀(j:Nat) x,l[j]? = some x→∃y,cs[off+j]? = some y∧VR m x y
theorem At.left{l k:List AV}{cs:Array Value}{off:Nat}(h:At m (l++k) cs off):At m l cs off:=fun j x hx=>h j x (by rw[qH (aI hx)]; exact hx)
theorem At.right{l k:List AV}{cs:Array Value}{off:Nat}(h:At m (l++k) cs off):At m k cs (off+l.length):=fun j x hx=>by
 obtain⟨y,hy,hv⟩:=h (l.length+j) x (by rw[qI (by omega)]; simpa using hx)
 exact⟨y,by rw[←Nat.add_assoc]at hy; exact hy,hv⟩
theorem At.extract{l:List AV}{cs:Array Value}{off n:Nat}(h:At m l cs off)(hn:l.length≤n):At m l (cs.extract off (off+n)) 0:=fun j x hx=>by
 obtain⟨y,hy,hv⟩:=h j x hx
 have hj:=aI hx
 refine⟨y,?_,hv⟩
 rw[Array.getElem?_extract]
 have hc:off+j<cs.size:=by
  rcases Nat.lt_or_ge (off+j) cs.size with h1 | h1
  ·exact h1
  ·rw[Array.getElem?_eq_none h1]at hy; cases hy
 rw[if_pos (by omega),Nat.zero_add]
 exact hy
theorem nN{l:List AV}{n k:Nat}(h:l.length=n+k):∃a b,l=a++b∧a.length=n∧b.length=k:=
 ⟨l.take n,l.drop n,(List.take_append_drop n l).symm,by simp; omega,by simp; omega⟩
def Laid(P:Program)(d:Nat):Nat→List Field→List Bool→Prop
 | _,[],s=>s=[]
 | o, f :: fs, s => f.name ≠ "_" ∧ f.offset = o ∧ ∃ a b, s = a ++ b ∧ nG P d f.type = some a ∧ Laid P d (o + a.length) fs b
theorem uK{d:Nat}:∀(fs:List Field) (o e:List Bool),
 fs.foldl (fun (o : Option (List Bool)) f => o.bind fun o => if f.name != "_" ∧ f.offset = o.length then (nG P d f.type).map (o ++ ·) else none) (some o) = some e → ∃ s, e = o ++ s ∧ Laid P d o.length fs s := by
 intro fs
 induction fs with
 | nil=>intro o e h; simp at h; exact⟨[],by simp[h],rfl⟩
 | cons f fs ih=>
  intro o e h
  simp only[List.foldl_cons,Option.bind_some]at h
  have hnone : ∀ fs : List Field, fs.foldl (fun (o : Option (List Bool)) f => o.bind fun o => if f.name != "_" ∧ f.offset = o.length then (nG P d f.type).map (o ++ ·) else none) none = none := fun fs => by
   induction fs with
   | nil=>rfl
   | cons f fs ih=>simpa using ih
  split at h
  ·rename_i ho
   cases hn:nG P d f.type with
   | none=>rw[hn]at h; simp only[Option.map_none]at h; rw[hnone]at h; cases h
   | some a=>
    rw[hn]at h
    obtain⟨s,h1,h2⟩:=ih _ _ h
    exact⟨a++s,by rw[h1,List.append_assoc],by simpa using ho.1,ho.2,a,s,rfl,hn,by simpa using h2⟩
  ·rw[hnone]at h; cases h
theorem lM:∀(d:Nat) (t:TypeId) (s:List Bool),nG P d t=some s→eL P t=some s.length:=by
 intro d
 cases d with
 | zero=>intro t s h; simp[nG]at h
 | succ d=>
  intro t s h
  simp only[nG]at h
  split at h
  ·split at h
   ·simp at h; subst h; assumption
   ·cases h
  ·split at h
   ·simp at h; subst h; assumption
   ·cases h
  ·split at h
   ·cases h
   ·simp only[qC]at h
    obtain⟨l,_,h⟩:=h
    split at h
    ·simp at h; subst h; assumption
    ·cases h
  ·simp only[qC]at h
   obtain⟨l,_,h⟩:=h
   split at h
   ·simp at h; subst h
    rename_i n e _ hh
    simpa using hh
   ·cases h
  ·cases h
def aLD(P:Program)(w:World)(m:Emb)(t:TypeId)(d:Nat)(s:List Bool):Prop:=
 ∀(D:Nat),d≤D→∀(l k:List AV) (cs ds:Array Value) (oc od:Nat) (r:Bool),At m l cs oc→At m k ds od→dU s l k=some r →
  ∃a b,(part t cs oc).run P w= .ok a w∧(part t ds od).run P w= .ok b w∧(Op.equalIn D t a b).run P w= .ok r w
theorem aOd{x y:AV}{r:Bool}(h:dU [true] [x] [y]=some r):∃k a b,x= .int k a∧y= .int k b∧r=(a==b):=by
 simp only[dU]at h
 unfold ceq at h
 cases x<;>cases y<;>simp at h
 rename_i k a k' b
 by_cases hk:k=k'
 ·subst hk
  simp at h
  refine⟨k,a,b,rfl,rfl,?_⟩
  cases hab:(a==b)<;>simp[hab]at h<;>exact h
 ·simp[hk]at h
theorem aJ7{x y:AV}{r:Bool}(h:dU [false] [x] [y]=some r):∃a b,x= .bool a∧y= .bool b∧r=(a==b):=by
 simp only[dU]at h
 unfold ceq at h
 cases x<;>cases y<;>simp at h
 rename_i a b
 refine⟨a,b,rfl,rfl,?_⟩
 cases hab:(a==b)<;>simp[hab]at h<;>exact h
theorem jB{t:TypeId}{d:TypeDesc}(hd:P.underlying t=some d)(hg:lV d=false){cs:Array Value}{o:Nat}{v:Value}(h:cs[o]? = some v):(part t cs o).run P w= .ok v w:=by
 simp[part,qY hd,hg,h]
theorem jZ{t:TypeId}{d:TypeDesc}(hd:P.underlying t=some d)(hg:lV d=true){n:Nat}(hn:eL P t=some n){cs:Array Value}{o:Nat}:(part t cs o).run P w= .ok (.agg (cs.extract o (o+n))) w:=by
 obtain⟨i,hi,rfl⟩:=cI hn
 simp[part,qY hd,hg,fA hi]
theorem aAh{d D:Nat}(hD:d≤D)(ih:∀t s,nG P d t=some s→aLD P w m t d s):∀(fs:List Field) (o:Nat) (s:List Bool) (l k:List AV) (xs ys:Array Value) (r:Bool),
 Laid P d o fs s→At m l xs o→At m k ys o→dU s l k=some r→(Op.eqFields D xs ys fs).run P w= .ok r w:=by
 intro fs
 induction fs with
 | nil=>intro o s l k xs ys r hL _ _ hr; simp only[Laid]at hL; subst hL; cases l<;>cases k<;>simp[dU]at hr; subst hr; simp[Op.eqFields]
 | cons f fs ihf=>
  intro o s l k xs ys r hL hl hk hr
  obtain⟨hne,rfl,a,b,rfl,hfa,hL⟩:=hL
  obtain⟨e1,e2⟩:=kE hr
  obtain⟨l1,l2,rfl,hl1,_⟩:=nN (e1.trans List.length_append)
  obtain⟨k1,k2,rfl,hk1,_⟩:=nN (e2.trans List.length_append)
  obtain⟨ra,rb,q1,q2,rfl⟩:=mZ hl1 hk1 hr
  obtain⟨u,v,g1,g2,g3⟩:=ih _ _ hfa D hD l1 k1 xs ys f.offset f.offset ra hl.left hk.left q1
  simp only[Op.eqFields,hne,ne_eq,not_false_eq_true,if_true,Sem.run_bind,g1,g2,g3,Result.andThen_ok]
  cases ra with
  | false=>simp
  | true=>
   simp only[Bool.not_true,Bool.false_eq_true,if_false,Bool.true_and]
   have h1:=hl.right
   have h2:=hk.right
   rw[hl1]at h1
   rw[hk1]at h2
   exact ihf _ _ _ _ _ _ _ hL h1 h2 q2
theorem eqloop{l':List Bool}{xs ys:Array Value}(F:Nat→Option Bool×Unit→Sem (ForInStep (Option Bool×Unit)))(G:Option Bool×Unit→World→Result Bool)
 (hG1:G (none,()) w= .ok true w) (hG2:G (some false,()) w= .ok false w)
 (hF:∀(i:Nat) (l k:List AV) (r:Bool),At m l xs (i*l'.length)→At m k ys (i*l'.length)→dU l' l k=some r →
  (F i (none,())).run P w= .ok (if r then .yield (none,())else .done (some false,())) w) :
 ∀(n a:Nat) (l k:List AV) (r:Bool),At m l xs (a*l'.length)→At m k ys (a*l'.length)→dU (List.replicate n l').flatten l k=some r →
  ((forIn (List.range' a n) ((none:Option Bool),()) F).run P w).andThen G= .ok r w:=by
 intro n
 induction n with
 | zero=>intro a l k r _ _ hr; cases l<;>cases k<;>simp[dU]at hr; subst hr; simpa using hG1
 | succ n ihn=>
  intro a l k r hl hk hr
  simp only[List.replicate_succ,List.flatten_cons]at hr
  obtain⟨f1,f2⟩:=kE hr
  obtain⟨l1,l2,rfl,hl1,_⟩:=nN (f1.trans List.length_append)
  obtain⟨k1,k2,rfl,hk1,_⟩:=nN (f2.trans List.length_append)
  obtain⟨ra,rb,q1,q2,rfl⟩:=mZ hl1 hk1 hr
  have g:=hF a l1 k1 ra hl.left hk.left q1
  simp only[List.range'_succ,List.forIn_cons,Sem.run_bind,g,Result.andThen_ok]
  cases ra with
  | false=>simpa using hG2
  | true=>
   have h1:=hl.right
   have h2:=hk.right
   rw[hl1,←Nat.succ_mul]at h1
   rw[hk1,←Nat.succ_mul]at h2
   have:=ihn (a+1) l2 k2 rb h1 h2 q2
   simpa using this
theorem aF2:∀(d:Nat) (t:TypeId) (s:List Bool),nG P d t=some s→aLD P w m t d s:=by
 intro d
 induction d with
 | zero=>intro t s h; simp[nG]at h
 | succ d ih=>
  intro t s h D hD l k cs ds oc od r hc hd hr
  have hsz:=lM _ _ _ h
  obtain⟨D,rfl⟩:∃E,D=E+1:=⟨D - 1,by omega⟩
  obtain⟨e1,e2⟩:=kE hr
  simp only[nG]at h
  split at h
  ·rename_i kd ht
   split at h
   ·simp at h; subst h
    match l,k,e1,e2 with
    | [x],[y],_,_=>
     obtain⟨q,a,b,rfl,rfl,rfl⟩:=aOd hr
     obtain⟨u,hu,hv⟩:=hc 0 _ rfl
     obtain⟨u',hu',hv'⟩:=hd 0 _ rfl
     simp only[VR]at hv hv'; subst hv; subst hv'
     exact⟨_,_,jB ht rfl (by simpa using hu),jB ht rfl (by simpa using hu'),run_equalIn_int w D t q kd a b ht⟩
   ·cases h
  ·rename_i ht
   split at h
   ·simp at h; subst h
    match l,k,e1,e2 with
    | [x],[y],_,_=>
     obtain⟨a,b,rfl,rfl,rfl⟩:=aJ7 hr
     obtain⟨u,hu,hv⟩:=hc 0 _ rfl
     obtain⟨u',hu',hv'⟩:=hd 0 _ rfl
     simp only[VR]at hv hv'; subst hv; subst hv'
     exact⟨_,_,jB ht rfl (by simpa using hu),jB ht rfl (by simpa using hu'),run_equalIn_bool' w D t a b ht⟩
   ·cases h
  ·rename_i fs ht
   split at h
   ·cases h
   ·rename_i hst
    simp only[qC]at h
    obtain⟨l',hf,h⟩:=h
    split at h
    ·simp at h; subst h
     obtain⟨s',hs',hL⟩:=uK _ _ _ hf
     simp at hs'; subst hs'
     refine⟨_,_,jZ ht rfl hsz,jZ ht rfl hsz,?_⟩
     have hfo:P.fieldsOf t=fs:=by simp[Program.fieldsOf,ht]
     rw[run_equalIn_struct w D t _ _ (by rw[hfo]; exact ht) (by simpa using hst),hfo]
     exact aAh (by omega) ih fs.toList 0 _ l k _ _ r hL (hc.extract (by omega)) (hd.extract (by omega)) hr
    ·cases h
  ·rename_i len e ht
   simp only[qC]at h
   obtain⟨l',hf,h⟩:=h
   split at h
   ·simp at h; subst h
    refine⟨_,_,jZ ht rfl hsz,jZ ht rfl hsz,?_⟩
    have hfs:=lM _ _ _ hf
    obtain⟨i,hi,hin⟩:=cI hfs
    have hse:(sizeOf e).run P w= .ok l'.length w:=by rw[fA hi,hin]
    simp only[Op.equalIn,Sem.run_bind,bX ht,hse,Result.andThen_ok]
    have hlx:=hc.extract (n:=(List.replicate len l').flatten.length) (by omega)
    have hky:=hd.extract (n:=(List.replicate len l').flatten.length) (by omega)
    generalize cs.extract oc (oc+(List.replicate len l').flatten.length)=xs at hlx ⊢
    generalize ds.extract od (od+(List.replicate len l').flatten.length)=ys at hky ⊢
    simp only[Std.Legacy.Range.forIn_eq_forIn_range',Std.Legacy.Range.size,Nat.sub_zero,Nat.add_sub_cancel,Nat.div_one]
    refine eqloop (l':=l') (xs:=xs) (ys:=ys) _ _ ?_ ?_ ?_ len 0 l k r (by simpa using hlx) (by simpa using hky) hr
    ·simp
    ·simp
    ·intro i l k r hl hk hr
     obtain⟨u,v,g1,g2,g3⟩:=ih _ _ hf D (by omega) l k xs ys _ _ r hl hk hr
     simp only[Sem.run_bind,g1,g2,g3,Result.andThen_ok]
     cases r<;>simp
   ·cases h
  ·cases h
end
section
variable {P:Program} {w0:World} {m:Emb} {h:Heap} {w:World}
theorem zJ{t:TypeId}{s:Bool×List Bool}(hs:sP P t=some s){D:Nat}(hD:fG≤D){x y:AV}{u v:Value}(hx:VR m x u)(hy:VR m y v){r:Bool}(hr:keq s x y=some r) :
 (Op.equalIn D t u v).run P w= .ok r w:=by
 simp only[sP,qC,qD]at hs
 obtain⟨sh,hf,d,hd,rfl⟩:=hs
 have hsz:=lM _ _ _ hf
 have hat:∀ {l:List AV} {a:Array Value},VRs m l a.toList→At m l a 0:=fun hl j z hz=>by
  obtain⟨y,hy,hv⟩:=(dJ.1 hl).2 j z hz
  exact⟨y,by simpa using hy,hv⟩
 simp only[keq]at hr
 split at hr
 ·rename_i hg
  split at hr
  ·simp only[VR]at hx hy
   obtain⟨a,rfl,ha⟩:=hx
   obtain⟨b,rfl,hb⟩:=hy
   obtain⟨e1,e2⟩:=kE hr
   obtain⟨p,q,g1,g2,g3⟩:=aF2 (P:=P) (w:=w) (m:=m) _ _ _ hf D hD _ _ a b 0 0 r (hat ha) (hat hb) hr
   have la:=cN ha
   have lb:=cN hb
   simp at la lb
   rw[jZ hd hg hsz]at g1 g2
   simp only[Result.ok.injEq,and_true]at g1 g2
   rw[←g1,←g2]at g3
   have e3:a.extract 0 (0+sh.length)=a:=by rw[Nat.zero_add,←e1,la]; simp
   have e4:b.extract 0 (0+sh.length)=b:=by rw[Nat.zero_add,←e2,lb]; simp
   rw[e3,e4]at g3
   exact g3
  ·cases hr
 ·rename_i hg
  obtain⟨p,q,g1,g2,g3⟩:=aF2 (P:=P) (w:=w) (m:=m) _ _ _ hf D hD [x] [y] #[u] #[v] 0 0 r (hat ⟨u,[],rfl,hx,rfl⟩) (hat ⟨v,[],rfl,hy,rfl⟩) hr
  have h1:(part t #[u] 0).run P w= .ok u w:=jB hd (by simpa using hg) rfl
  have h2:(part t #[v] 0).run P w= .ok v w:=jB hd (by simpa using hg) rfl
  rw[h1]at g1; rw[h2]at g2
  simp only[Result.ok.injEq,and_true]at g1 g2
  subst g1; subst g2
  exact g3
theorem zG{α:Type}(F:α→PUnit→Sem (ForInStep PUnit)):∀(l:List α),(∀x∈l,(F x ⟨⟩).run P w= .ok (.yield ⟨⟩) w)→(forIn l PUnit.unit F).run P w= .ok ⟨⟩ w:=by
 intro l
 induction l with
 | nil=>intro _; simp
 | cons x xs ih=>
  intro hx
  simp only[List.forIn_cons,Sem.run_bind,hx x List.mem_cons_self,Result.andThen_ok]
  exact ih fun y hy=>hx y (List.mem_cons_of_mem _ hy)
def aGg(P:Program)(w:World)(m:Emb)(t:TypeId)(d:Nat)(s:List Bool):Prop:=
 ∀(e:Bool) (D:Nat),d≤D→∀(l:List AV) (cs:Array Value) (o:Nat),At m l cs o→l.length=s.length→(∀r,dU s l l=some r→True)→(∃r,dU s l l=some r) →
  ∃a,(part t cs o).run P w= .ok a w∧(Instr.checkKey e D t a).run P w= .ok () w
theorem aG3{d D:Nat}(e:Bool)(hD:d≤D)(ih:∀t s,nG P d t=some s→aGg P w m t d s):∀(fs:List Field) (o:Nat) (s:List Bool) (l:List AV) (xs:Array Value),
 Laid P d o fs s→At m l xs o→(∃r,dU s l l=some r)→∀f∈fs,∃a,(part f.type xs f.offset).run P w= .ok a w∧(Instr.checkKey e D f.type a).run P w= .ok () w:=by
 intro fs
 induction fs with
 | nil=>intro o s l xs _ _ _ f hf; cases hf
 | cons f fs ihf=>
  intro o s l xs hL hl hr g hg
  obtain⟨hne,rfl,a,b,rfl,hfa,hL⟩:=hL
  obtain⟨r,hr⟩:=hr
  obtain⟨e1,_⟩:=kE hr
  obtain⟨l1,l2,rfl,hl1,_⟩:=nN (e1.trans List.length_append)
  obtain⟨ra,rb,q1,q2,rfl⟩:=mZ hl1 hl1 hr
  rcases List.mem_cons.1 hg with rfl | hg
  ·exact ih _ _ hfa e D hD l1 xs _ hl.left hl1 (fun _ _=>trivial) ⟨ra,q1⟩
  ·have h1:=hl.right
   rw[hl1]at h1
   exact ihf _ _ _ _ hL h1 ⟨rb,q2⟩ g hg
theorem aD8{l':List Bool}{xs:Array Value}:∀(n a:Nat) (l:List AV),At m l xs (a*l'.length)→(∃r,dU (List.replicate n l').flatten l l=some r) →
 ∀i,a≤i→i<a+n→∃k,At m k xs (i*l'.length)∧k.length=l'.length∧∃r,dU l' k k=some r:=by
 intro n
 induction n with
 | zero=>intro a l _ _ i h1 h2; omega
 | succ n ih=>
  intro a l hl hr i h1 h2
  obtain⟨r,hr⟩:=hr
  simp only[List.replicate_succ,List.flatten_cons]at hr
  obtain⟨f1,_⟩:=kE hr
  obtain⟨l1,l2,rfl,hl1,_⟩:=nN (f1.trans List.length_append)
  obtain⟨ra,rb,q1,q2,rfl⟩:=mZ hl1 hl1 hr
  by_cases e:i=a
  ·subst e; exact⟨l1,hl.left,hl1,ra,q1⟩
  ·have h3:=hl.right
   rw[hl1,←Nat.succ_mul]at h3
   exact ih (a+1) l2 h3 ⟨rb,q2⟩ i (by omega) (by omega)
theorem aCX:∀(d:Nat) (t:TypeId) (s:List Bool),nG P d t=some s→aGg P w m t d s:=by
 intro d
 induction d with
 | zero=>intro t s h; simp[nG]at h
 | succ d ih=>
  intro t s h e D hD l cs o hc hls _ hr
  have hsz:=lM _ _ _ h
  obtain⟨D,rfl⟩:∃E,D=E+1:=⟨D - 1,by omega⟩
  simp only[nG]at h
  split at h
  ·rename_i kd ht
   split at h
   ·simp at h; subst h
    match l,hls with
    | [x],_=>
     obtain⟨u,hu,hv⟩:=hc 0 _ rfl
     refine⟨_,jB ht rfl (by simpa using hu),?_⟩
     cases u<;>simp[Instr.checkKey,bX ht]
   ·cases h
  ·rename_i ht
   split at h
   ·simp at h; subst h
    match l,hls with
    | [x],_=>
     obtain⟨u,hu,hv⟩:=hc 0 _ rfl
     refine⟨_,jB ht rfl (by simpa using hu),?_⟩
     cases u<;>simp[Instr.checkKey,bX ht]
   ·cases h
  ·rename_i fs ht
   split at h
   ·cases h
   ·simp only[qC]at h
    obtain⟨l',hf,h⟩:=h
    split at h
    ·simp at h; subst h
     obtain⟨s',hs',hL⟩:=uK _ _ _ hf
     simp at hs'; subst hs'
     refine⟨_,jZ ht rfl hsz,?_⟩
     have hk:=aG3 (P:=P) (w:=w) (m:=m) e (D:=D) (by omega) ih fs.toList 0 _ l _ hL (hc.extract (n:=l'.length) (by omega)) hr
     simp only[Instr.checkKey,Sem.run_bind,bX ht,Result.andThen_ok]
     rw[←Array.forIn_toList]
     rw[zG]
     ·simp
     ·intro f hf
      obtain⟨a,g1,g2⟩:=hk f hf
      by_cases hne : f.name = "_"
      ·simp[hne]
      ·simp[hne,g1,g2]
    ·cases h
  ·rename_i len el ht
   simp only[qC]at h
   obtain⟨l',hf,h⟩:=h
   split at h
   ·simp at h; subst h
    refine⟨_,jZ ht rfl hsz,?_⟩
    have hfs:=lM _ _ _ hf
    obtain⟨i,hi,hin⟩:=cI hfs
    have hse:(sizeOf el).run P w= .ok l'.length w:=by rw[fA hi,hin]
    have hx:=hc.extract (n:=(List.replicate len l').flatten.length) (by omega)
    generalize cs.extract o (o+(List.replicate len l').flatten.length)=xs at hx ⊢
    have hk:=aD8 (m:=m) (l':=l') len 0 l (by simpa using hx) hr
    simp only[Instr.checkKey,Sem.run_bind,bX ht,Result.andThen_ok]
    simp only[Std.Legacy.Range.forIn_eq_forIn_range',Std.Legacy.Range.size,Nat.sub_zero,Nat.add_sub_cancel,Nat.div_one]
    rw[zG]
    ·simp
    ·intro j hj
     simp at hj
     obtain⟨k,k1,k2,k3⟩:=hk j (Nat.zero_le _) (by omega)
     obtain⟨a,g1,g2⟩:=ih _ _ hf e D (by omega) k xs _ k1 k2 (fun _ _=>trivial) k3
     simp[hse,g1,g2]
   ·cases h
  ·cases h
theorem sV{t:TypeId}{s:Bool×List Bool}(hs:sP P t=some s)(e:Bool){D:Nat}(hD:fG≤D){x:AV}{u:Value}(hx:VR m x u)(hr:(keq s x x).isNone=false) :
 (Instr.checkKey e D t u).run P w= .ok () w:=by
 simp only[sP,qC,qD]at hs
 obtain⟨sh,hf,d,hd,rfl⟩:=hs
 have hsz:=lM _ _ _ hf
 obtain⟨r,hr⟩:∃r,keq (lV d,sh) x x=some r:=by
  cases h:keq (lV d,sh) x x with
  | none=>simp[h]at hr
  | some r=>exact⟨r,rfl⟩
 have hat:∀ {l:List AV} {a:Array Value},VRs m l a.toList→At m l a 0:=fun hl j z hz=>by
  obtain⟨y,hy,hv⟩:=(dJ.1 hl).2 j z hz
  exact⟨y,by simpa using hy,hv⟩
 simp only[keq]at hr
 split at hr
 ·rename_i hg
  obtain⟨l,rfl⟩:∃l,x= .agg l:=by
   cases x with
   | agg l=>exact⟨l,rfl⟩
   | _=>simp at hr
  simp only[VR]at hx
  obtain⟨a,rfl,ha⟩:=hx
  simp only at hr
  obtain⟨e1,_⟩:=kE hr
  obtain⟨p,g1,g2⟩:=aCX (P:=P) (w:=w) (m:=m) _ _ _ hf e D hD l a 0 (hat ha) e1 (fun _ _=>trivial) ⟨r,hr⟩
  have la:=cN ha
  simp at la
  rw[jZ hd hg hsz]at g1
  simp only[Result.ok.injEq,and_true]at g1
  have e3:a.extract 0 (0+sh.length)=a:=by rw[Nat.zero_add,←e1,la]; simp
  rw[e3]at g1
  rw[←g1]at g2
  exact g2
 ·rename_i hg
  obtain⟨e1,_⟩:=kE hr
  obtain⟨p,g1,g2⟩:=aCX (P:=P) (w:=w) (m:=m) _ _ _ hf e D hD [x] #[u] 0 (hat ⟨u,[],rfl,hx,rfl⟩) e1 (fun _ _=>trivial) ⟨r,hr⟩
  have h1:(part t #[u] 0).run P w= .ok u w:=jB hd (by simpa using hg) rfl
  rw[h1]at g1
  simp only[Result.ok.injEq,and_true]at g1
  subst g1
  exact g2
def ER(m:Emb):List (AV×AV)→List MapEntry→Prop
 | [],l=>l=[]
 | x::xs,l=>∃e es,l=e::es∧VR m x.1 e.key∧VR m x.2 e.val∧ER m xs es
theorem aLL{es:List (AV×AV)}{ea:List MapEntry}(hl:ea.length=es.length)(h:∀(k:Nat) x,es[k]? = some x→∃e,ea[k]? = some e∧VR m x.1 e.key∧VR m x.2 e.val):ER m es ea:=by
 induction es generalizing ea with
 | nil=>exact List.length_eq_zero_iff.1 hl
 | cons x xs ih=>
  cases ea with
  | nil=>simp at hl
  | cons e ea=>
   obtain⟨e',he',h1,h2⟩:=h 0 x rfl
   simp at he'; subst he'
   exact⟨e,ea,rfl,h1,h2,ih (by simpa using hl) fun k y hy=>by simpa using h (k+1) y (by simpa using hy)⟩
def aBZ(m:Emb):Option (Nat×AV)→Option (Nat×Value)→Prop
 | none,r=>r=none
 | some (i,x),r=>∃v,r=some (i,v)∧VR m x v
theorem aHh{t:TypeId}{s:Bool×List Bool}(hs:sP P t=some s){k:AV}{kv:Value}(hk:VR m k kv):∀(es:List (AV×AV)) (ea:List MapEntry) (i:Nat) (r:Option (Nat×AV)),ER m es ea→iA s k es i=some r →
 ∃r',(Instr.findAsking t kv ea i).run P w= .ok r' w∧aBZ m r r':=by
 intro es
 induction es with
 | nil=>intro ea i r he hf; simp only[ER]at he; subst he; simp[iA]at hf; subst hf; exact⟨none,by simp[Instr.findAsking],rfl⟩
 | cons x xs ih=>
  intro ea i r he hf
  obtain⟨e,ea,rfl,h1,h2,h3⟩:=he
  simp only[iA]at hf
  have hq:∀q,keq s k x.1=some q→(Op.equal t kv e.key).run P w= .ok q w:=fun q hq=>zJ hs (D:=10000) (by simp[fG]) hk h1 hq
  split at hf
  ·rename_i hkq
   simp at hf; subst hf
   exact⟨some (i,e.val),by simp[Instr.findAsking,hq _ hkq],e.val,rfl,h2⟩
  ·rename_i hkq
   obtain⟨r',g1,g2⟩:=ih ea (i+1) r h3 hf
   exact⟨r',by simp[Instr.findAsking,hq _ hkq,g1],g2⟩
  ·cases hf
theorem aDN{d:TypeDesc}{t:TypeId}(hd:P.underlying t=some d){u v:Value}{q:Bool}(hq:Instr.sameNow d u v=some q):(Op.equal t u v).run P w= .ok q w:=by
 show(Op.equalIn (9999+1) t u v).run P w= .ok q w
 unfold Instr.sameNow at hq
 split at hq
 ·split at hq
  ·rename_i hk; subst hk; simp at hq; subst hq; exact run_equalIn_int w 9999 t _ _ _ _ hd
  ·cases hq
 ·simp at hq; subst hq; rw[beq_toListBytes]; exact run_equalIn_string w 9999 t _ _ hd
 ·simp at hq; subst hq; exact run_equalIn_bool' w 9999 t _ _ hd
 ·cases hq
theorem aCZ{d:TypeDesc}{t:TypeId}(hd:P.underlying t=some d)(kv:Value):∀(ea:List MapEntry) (i:Nat) (r:Option (Nat×Value)),Instr.findNow d kv ea i=some r→(Instr.findAsking t kv ea i).run P w= .ok r w:=by
 intro ea
 induction ea with
 | nil=>intro i r h; simp[Instr.findNow]at h; subst h; simp[Instr.findAsking]
 | cons e ea ih=>
  intro i r h
  have hq:∀q,Instr.sameNow d kv e.key=some q→(Op.equal t kv e.key).run P w= .ok q w:=fun q hq=>aDN hd hq
  simp only[Instr.findNow]at h
  split at h
  ·rename_i hs; simp at h; subst h; simp[Instr.findAsking,hq _ hs]
  ·rename_i hs; simp[Instr.findAsking,hq _ hs,ih _ _ h]
  ·cases h
theorem uR{t:TypeId}{s:Bool×List Bool}(hs:sP P t=some s){k:AV}{kv:Value}(hk:VR m k kv){es:List (AV×AV)}{ea:List MapEntry}{r:Option (Nat×AV)}(he:ER m es ea)(hf:iA s k es 0=some r) :
 ∃r',(Instr.findKey t kv ea).run P w= .ok r' w∧aBZ m r r':=by
 obtain⟨r',g1,g2⟩:=aHh (P:=P) (w:=w) hs hk es ea 0 r he hf
 obtain⟨d,hd⟩:∃d,P.underlying t=some d:=by
  simp only[sP,qC,qD]at hs
  obtain⟨_,_,d,hd,_⟩:=hs
  exact⟨d,hd⟩
 refine⟨r',?_,g2⟩
 simp only[Instr.findKey,Sem.run_bind,bX hd,Result.andThen_ok]
 split
 ·rename_i q hq
  have:=aCZ (P:=P) (w:=w) hd kv ea 0 q hq
  rw[g1]at this
  simp at this; subst this; simp
 ·exact g1
theorem dX{r:Nat}{o:Obj}(h:w.heap[r]? = some o)(hc:∀c e f,o≠ .cells c e f):(getObj r).run P w= .ok o w:=by
 cases o<;>simp[getObj,Sem.run,h]
 exact absurd rfl (hc _ _ _)
theorem gJ{r:Nat}{o:Obj}(o':Obj)(h:w.heap[r]? = some o)(hc:∀c e f,o≠ .cells c e f):(setObj r o').run P w= .ok () { w with heap:=w.heap.setIfInBounds r o' }:=by
 cases o<;>simp[setObj,Sem.run,h]
 exact absurd rfl (hc _ _ _)
theorem aCg(s:Sim w0 m h w){t kt e:TypeId}(ht:P.underlying t=some (.map kt e)){sh:Bool×List Bool}(hs:sP P kt=some sh){z:AV}(hz:zv P e=some z){i:Nat}{es:List (AV×AV)}(hi:h[i]? = some (some (.map es)))
 {k:AV} {kv:Value} (hk:VR m k kv) (hkk:(keq sh k k).isNone=false) {r:Option (Nat×AV)} (hf:iA sh k es 0=some r) (ok:Bool) :
 fJ w0 m h w ((Instr.lookup t (.map (some (m.blk i))) kv ok).run P w)
  (match r with | some (_,v)=>(if ok then .tup [v,.bool true]else v) | none=>(if ok then .tup [z,.bool false]else z)) h:=by
 obtain⟨_,⟨ea,ck,g1,g2,g3,_⟩,g4⟩:=s.at_ i _ hi
 have her:ER m es ea.toList:=aLL (by simpa using g2) fun j x hx=>by simpa using g3 j x hx
 obtain⟨r',q1,q2⟩:=uR (P:=P) (w:=w) hs hk her hf
 have hg:=dX (P:=P) g1 (by simp)
 have hck:=sV (P:=P) (w:=w) hs ea.isEmpty (D:=10000) (by simp[fG]) hk hkk
 obtain⟨inf,hinf,zval,hzv,hzc⟩:∃inf,P.info? e=some inf∧∃zval,inf.zero=some zval∧ofC zval=some z:=by
  simp only[zv,qC]at hz
  obtain⟨a,b,c,d,e'⟩:=hz
  exact⟨a,b,c,d,e'⟩
 have hz2:(zeroValue e).run P w= .ok zval w:=sI hinf hzv
 obtain⟨k1,k2⟩:=tY hzc m h.length
 have hmem:∀(es:List (AV×AV)) (a j:Nat) (v:AV),iA sh k es a=some (some (j,v))→∃x∈es,x.2=v:=fun es=>by
  induction es with
  | nil=>intro a j v h; simp[iA]at h
  | cons x xs ih=>
   intro a j v h
   simp only[iA]at h
   split at h
   ·simp at h; exact⟨x,List.mem_cons_self,h.2⟩
   ·obtain⟨y,hy,hv⟩:=ih _ _ _ h; exact⟨y,List.mem_cons_of_mem _ hy,hv⟩
   ·cases h
 cases r with
 | none=>
  simp only[aBZ]at q2; subst q2
  cases ok with
  | false=>exact .val s (v':=zval) (by simp[Instr.lookup,bX ht,hg,hck,q1,hz2]) (by simpa using k1) (by simpa using k2)
  | true=>exact .val s (v':= .tuple #[zval,.bool false]) (by simp[Instr.lookup,bX ht,hg,hck,q1,hz2]) (by simp[VR,VRs,k1]) (by simp[AV.bdd,AV.bdds,k2])
 | some jv=>
  obtain⟨j,v⟩:=jv
  obtain⟨v',rfl,hv⟩:=q2
  obtain⟨x,hx,hxv⟩:=hmem _ _ _ _ hf
  have hb:v.bdd h.length:=by rw[←hxv]; exact(g4 x hx).2
  cases ok with
  | false=>exact .val s (v':=v') (by simp[Instr.lookup,bX ht,hg,hck,q1]) (by simpa using hv) (by simpa using hb)
  | true=>exact .val s (v':= .tuple #[v',.bool true]) (by simp[Instr.lookup,bX ht,hg,hck,q1]) (by simp[VR,VRs,hv]) (by simp[AV.bdd,AV.bdds,hb])
theorem aGF(s:Sim w0 m h w){t kt e:TypeId}(ht:P.underlying t=some (.map kt e)){sh:Bool×List Bool}(hs:sP P kt=some sh){z:AV}(hz:zv P e=some z)
 {k:AV} {kv:Value} (hk:VR m k kv) (hkk:(keq sh k k).isNone=false) (ok:Bool) :
 fJ w0 m h w ((Instr.lookup t (.map none) kv ok).run P w) (if ok then .tup [z,.bool false]else z) h:=by
 have hck:=sV (P:=P) (w:=w) hs true (D:=10000) (by simp[fG]) hk hkk
 obtain⟨inf,hinf,zval,hzv,hzc⟩:∃inf,P.info? e=some inf∧∃zval,inf.zero=some zval∧ofC zval=some z:=by
  simp only[zv,qC]at hz
  obtain⟨a,b,c,d,e'⟩:=hz
  exact⟨a,b,c,d,e'⟩
 have hz2:(zeroValue e).run P w= .ok zval w:=sI hinf hzv
 obtain⟨k1,k2⟩:=tY hzc m h.length
 obtain⟨d,hd⟩:∃d,P.underlying kt=some d:=by
  simp only[sP,qC,qD]at hs
  obtain⟨_,_,d,hd,_⟩:=hs
  exact⟨d,hd⟩
 have q1:(Instr.findKey kt kv []).run P w= .ok none w:=by simp[Instr.findKey,bX hd,Instr.findNow]
 cases ok with
 | false=>exact .val s (v':=zval) (by simp[Instr.lookup,bX ht,hck,q1,hz2]) (by simpa using k1) (by simpa using k2)
 | true=>exact .val s (v':= .tuple #[zval,.bool false]) (by simp[Instr.lookup,bX ht,hck,q1,hz2]) (by simp[VR,VRs,k1]) (by simp[AV.bdd,AV.bdds,k2])
end
section
variable {P:Program} {w0:World} {m:Emb} {h:Heap} {w:World}
def vH:Value→Bool
 | .int _ _ | .bool _=>true
 | _=>false
theorem aAU{s:List Bool}:∀ {l k:List AV} {xs ys:List Value},dU s l k=some true→VRs m l xs→VRs m k ys→xs=ys∧∀x∈xs,vH x=true:=by
 induction s with
 | nil=>intro l k xs ys h hx hy; cases l<;>cases k<;>simp[dU]at h; simp only[VRs]at hx hy; subst hx; subst hy; simp
 | cons i is ih=>
  intro l k xs ys h hx hy
  cases l with
  | nil=>simp[dU]at h
  | cons a as=>
   cases k with
   | nil=>simp[dU]at h
   | cons b bs=>
    obtain⟨x,xs,rfl,h1,h2⟩:=hx
    obtain⟨y,ys,rfl,h3,h4⟩:=hy
    simp only[dU]at h
    split at h
    ·rename_i he
     obtain⟨e1,e2⟩:=ih h h2 h4
     subst e1
     unfold ceq at he
     split at he
     ·split at he
      ·rename_i hk
       simp only[Bool.and_eq_true,beq_iff_eq]at hk
       simp at he
       obtain⟨_,rfl⟩:=hk; subst he
       simp only[VR]at h1 h3; subst h1; subst h3
       exact⟨rfl,by simpa[vH]using e2⟩
      ·cases he
     ·split at he
      ·cases he
      ·simp at he; subst he
       simp only[VR]at h1 h3; subst h1; subst h3
       exact⟨rfl,by simpa[vH]using e2⟩
     ·cases he
    ·split at h<;>simp at h
    ·cases h
theorem pH(n:Nat){x:Value}(h:vH x=true):Instr.sameBits n x x=true:=by
 cases x<;>simp[vH]at h<;>(cases n<;>simp[Instr.sameBits])
theorem aBd(n:Nat){a:Array Value}(h:∀x∈a.toList,vH x=true):Instr.sameBits (n+1) (.agg a) (.agg a)=true:=by
 simp only[Instr.sameBits,beq_self_eq_true,Bool.true_and,List.all_eq_true]
 intro p hp
 obtain⟨x,y⟩:=p
 have:x=y∧x∈a.toList:=by
  generalize a.toList=l at hp
  induction l with
  | nil=>simp at hp
  | cons z zs ih=>
   simp only[List.zip_cons_cons,List.mem_cons,Prod.mk.injEq]at hp
   rcases hp with⟨rfl,rfl⟩ | hp
   ·exact⟨rfl,List.mem_cons_self⟩
   ·obtain⟨e,hm⟩:=ih hp; exact⟨e,List.mem_cons_of_mem _ hm⟩
 obtain⟨rfl,hm⟩:=this
 exact pH n (h x hm)
theorem aG4{s:Bool×List Bool}{k k0:AV}{u u0:Value}(h:keq s k k0=some true)(hk:VR m k u)(hk0:VR m k0 u0):Instr.sameBits 10000 u0 u=true:=by
 simp only[keq]at h
 split at h
 ·obtain⟨l,rfl⟩:∃l,k= .agg l:=by
   cases k with
   | agg l=>exact⟨l,rfl⟩
   | _=>simp at h
  obtain⟨l0,rfl⟩:∃l,k0= .agg l:=by
   cases k0 with
   | agg l=>exact⟨l,rfl⟩
   | _=>simp at h
  simp only at h
  simp only[VR]at hk hk0
  obtain⟨a,rfl,ha⟩:=hk
  obtain⟨b,rfl,hb⟩:=hk0
  obtain⟨e1,e2⟩:=aAU h ha hb
  have:a=b:=Array.ext' e1
  subst this
  exact aBd 9999 e2
 ·obtain⟨e1,e2⟩:=aAU h (m:=m) (xs:=[u]) (ys:=[u0]) ⟨u,[],rfl,hk,rfl⟩ ⟨u0,[],rfl,hk0,rfl⟩
  simp at e1; subst e1
  exact pH _ (by simpa using e2)
theorem aN2{s:Bool×List Bool}{k:AV}:∀(es:List (AV×AV)) (a j:Nat) (v:AV),iA s k es a=some (some (j,v))→∃(i:Nat) (x:AV×AV),j=a+i∧es[i]? = some x∧keq s k x.1=some true:=by
 intro es
 induction es with
 | nil=>intro a j v h; simp[iA]at h
 | cons x xs ih=>
  intro a j v h
  simp only[iA]at h
  split at h
  ·rename_i hk; simp at h; exact⟨0,x,by omega,rfl,hk⟩
  ·obtain⟨i,y,h1,h2,h3⟩:=ih _ _ _ h
   exact⟨i+1,y,by omega,by simpa using h2,h3⟩
  ·cases h
def eO(w:World)(r:Nat)(o:Obj):World:={ w with heap:=w.heap.setIfInBounds r o }
theorem qZ{r:Nat}{o:Obj}(h:r<w.heap.size):(eO w r o).heap[r]? = some o:=by simp[eO,h]
theorem dS{r c:Nat}{o:Obj}(h:c≠r):(eO w r o).heap[c]? = w.heap[c]? := by
 simp only[eO]; exact Array.getElem?_setIfInBounds_ne (Ne.symm h)
theorem tQ(s:Sim w0 m h w){t kt e:TypeId}(ht:P.underlying t=some (.map kt e)){sh:Bool×List Bool}(hs:sP P kt=some sh){i:Nat}{es:List (AV×AV)}(hi:h[i]? = some (some (.map es)))
 {k x:AV} {kv xv:Value} (hk:VR m k kv) (hkb:k.bdd h.length) (hx:VR m x xv) (hxb:x.bdd h.length) (hkk:(keq sh k k).isNone=false) {r:Option (Nat×AV)} (hf:iA sh k es 0=some r) :
 aBX w0 m h w ((do Instr.mapUpdate t (.map (some (m.blk i))) kv xv; pure .skip:Sem Next).run P w) .undef
  (match r with | some (j,_)=>h.set i (some (.map (es.set j (k,x)))) | none=>h.set i (some (.map (es++[(k,x)])))):=by
 obtain⟨_,⟨ea,ck,g1,g2,g3,g5,g6⟩,g4⟩:=s.at_ i _ hi
 have hlt:=s.lt hi
 have her:ER m es ea.toList:=aLL (by simpa using g2) fun j x hx=>by simpa using g3 j x hx
 obtain⟨r',q1,q2⟩:=uR (P:=P) (w:=w) hs hk her hf
 have hg:=dX (P:=P) g1 (by simp)
 have hck:=sV (P:=P) (w:=w) hs false (D:=10000) (by simp[fG]) hk hkk
 cases r with
 | none=>
  simp only[aBZ]at q2; subst q2
  let o':Obj:= .map (ea.push { key:=kv,val:=xv,born:=ck }) (ck+1)
  have hset:=gJ (P:=P) o' g1 (by simp)
  refine⟨m,undef,eO w (m.blk i) o',.inr ⟨?_,rfl⟩,bU.set s hi (by simp[eO]) (fun c hc=>dS hc) rfl rfl rfl ?_ ?_,by simp[VR],by simp[AV.bdd]⟩
  ·simp[Instr.mapUpdate,bX ht,hg,hck,q1]
   rw[hset]; rfl
  ·rw[qZ hlt]
   refine⟨_,_,rfl,by simp[g2],fun j y hy=> ?_,?_,?_⟩
   ·by_cases hj:j<es.length
    ·rw[qH hj]at hy
     obtain⟨e',he',h1,h2⟩:=g3 j y hy
     have:=aI hy
     exact⟨e',by rw[Array.getElem?_push]; rw[if_neg (by omega)]; exact he',h1,h2⟩
    ·rw[qI (by omega)]at hy
     have hj0:j=es.length:=by
      have:=aI hy; simp at this; omega
     subst hj0
     simp at hy; subst hy
     exact⟨_,by rw[Array.getElem?_push,if_pos g2.symm],hk,hx⟩
   ·simp only[Array.toList_push,List.map_append,List.map_cons,List.map_nil]
    rw[List.nodup_append]
    refine⟨g5,by simp,fun a ha b hb=> ?_⟩
    simp at hb; subst hb
    obtain⟨e',he',rfl⟩:=List.mem_map.1 ha
    have:=g6 e' he'; omega
   ·intro e' he'
    simp only[Array.toList_push,List.mem_append,List.mem_singleton]at he'
    rcases he' with he' | rfl
    ·have:=g6 e' he'; omega
    ·simp
  ·intro e' he'
   rcases List.mem_append.1 he' with he' | he'
   ·exact g4 e' he'
   ·simp at he'; subst he'; exact⟨hkb,hxb⟩
 | some jv=>
  obtain⟨j,v⟩:=jv
  obtain⟨v',rfl,hv⟩:=q2
  obtain⟨j',y,hj',hy,hky⟩:=aN2 _ _ _ _ hf
  rw[Nat.zero_add]at hj'; subst hj'
  obtain⟨e0,he0,hk0,_⟩:=g3 j y hy
  have hst:=aG4 hky hk hk0
  have hjl:=aI hy
  let o':Obj:= .map (ea.modify j fun e=>{ e with key:=kv,val:=xv }) ck
  have hset:=gJ (P:=P) o' g1 (by simp)
  have hke:(Instr.keyThatStays e0.key kv).run P w= .ok kv w:=by simp[Instr.keyThatStays,hst]
  refine⟨m,undef,eO w (m.blk i) o',.inr ⟨?_,rfl⟩,bU.set s hi (by simp[eO]) (fun c hc=>dS hc) rfl rfl rfl ?_ ?_,by simp[VR],by simp[AV.bdd]⟩
  ·simp only[Instr.mapUpdate,Sem.run_bind,bX ht,Result.andThen_ok,hg,hck,q1,he0,Option.map_some,Option.getD_some,hke]
   rw[hset]
   rfl
  ·rw[qZ hlt]
   refine⟨_,_,rfl,by simp[g2],fun l z hz=> ?_,?_,?_⟩
   ·rw[Array.getElem?_modify]
    by_cases hl:j=l
    ·subst hl
     rw[qF hjl]at hz
     simp at hz; subst hz
     exact⟨{ e0 with key:=kv,val:=xv },by simp[he0],hk,hx⟩
    ·rw[qB hl]at hz
     rw[if_neg hl]
     exact g3 l z hz
   ·have:(ea.modify j fun e=>{ e with key:=kv,val:=xv }).toList.map (·.born)=ea.toList.map (·.born):=by
     apply List.ext_getElem?
     intro n
     simp only[List.getElem?_map,Array.getElem?_toList,Array.getElem?_modify]
     split
     ·cases ea[n]? <;> rfl
     ·rfl
    rw[this]; exact g5
   ·intro e' he'
    obtain⟨n,hn⟩:=List.getElem?_of_mem he'
    simp only[Array.getElem?_toList,Array.getElem?_modify]at hn
    split at hn
    ·cases h1:ea[n]? with
     | none=>simp[h1]at hn
     | some e1=>
      simp[h1]at hn; subst hn
      exact g6 e1 (List.mem_of_getElem? (by simpa using h1))
    ·exact g6 e' (List.mem_of_getElem? (by simpa using hn))
  ·intro e' he'
   rcases List.mem_or_eq_of_mem_set he' with he' | rfl
   ·exact g4 e' he'
   ·exact⟨hkb,hxb⟩
theorem aCj(s:Sim w0 m h w){op:BinOp}(hop:op= .eql∨op= .neq){t:TypeId}{d:TypeDesc}(hd:P.underlying t=some d)(hg:lV d=true){sh:List Bool}(hs:nG P fG t=some sh)(hq:P.eqGuardType P.depth t=false)
 {x y:Operand} {l k:List AV} {a b:Array Value} (ha:VRs m l a.toList) (hb:VRs m k b.toList) {r:Bool} (hr:dU sh l k=some r) :
 fJ w0 m h w ((do eqGuard op t x y (.agg a) (.agg b); binOp op t (.agg a) (.agg b)).run P w) (.bool (if(op matches .neq)then !r else r)) h:=by
 have hks:sP P t=some (true,sh):=by simp[sP,hs,hd,hg]
 have he:=zJ (P:=P) (w:=w) (D:=10000) hks (by simp[fG]) (m:=m) (x:= .agg l) (y:= .agg k) (u:= .agg a) (v:= .agg b) ⟨a,rfl,ha⟩ ⟨b,rfl,hb⟩ (by simpa[keq]using hr)
 have hgd:=run_eqGuard_agg (P:=P) w op t x y a b hq
 simp only[Sem.run_bind,hgd,Result.andThen_ok]
 rcases hop with rfl | rfl
 ·exact .val s (v':= .bool r) (by rw[run_eql_struct,he]; rfl) (by simp[VR]) (by simp[AV.bdd])
 ·exact .val s (v':= .bool (!r)) (by rw[run_neq_struct,he]; rfl) (by simp[VR]) (by simp[AV.bdd])
end
section
variable {P:Program} {w0:World} {m:Emb} {h:Heap} {w:World}
theorem aHj{t:TypeId}{y:Operand}{sl:Bool}(hn:aGT P t y=some sl){x:AV}{u:Value}(hx:VR m x u){r:Bool}(hr:pQ sl x=some r)(a:Act) :
 (Op.equal t u (a.eval y)).run P w= .ok r w:=by
 show(Op.equalIn (9999+1) t u (a.eval y)).run P w= .ok r w
 generalize 9999=D
 unfold aGT at hn
 split at hn
 ·rename_i e hd
  simp at hn; subst hn
  cases x<;>simp[pQ]at hr
  ·subst hr
   obtain⟨b,cap,rfl,_⟩:=VR_sl hx
   simp[Op.equalIn,bX hd,Act.eval]
  ·subst hr
   simp only[VR]at hx; subst hx
   simp[Op.equalIn,bX hd,Act.eval]
 ·rename_i p q v hd
  simp at hn; subst hn
  cases x<;>simp[pQ]at hr
  ·subst hr
   simp only[VR]at hx
   obtain⟨b1,b2,rfl,_⟩:=hx
   simp[Op.equalIn,bX hd,Act.eval]
  ·subst hr
   simp only[VR]at hx; subst hx
   simp[Op.equalIn,bX hd,Act.eval]
  ·subst hr
   simp only[VR]at hx; subst hx
   simp[Op.equalIn,bX hd,Act.eval]
 ·cases hn
theorem aGG(s:Sim w0 m h w){op:BinOp}(hop:op= .eql∨op= .neq){t:TypeId}{x y:Operand}{sl:Bool}(hn:aGT P t y=some sl){ax:AV}{u:Value}(hx:VR m ax u){r:Bool}(hr:pQ sl ax=some r)(a:Act) :
 fJ w0 m h w ((do eqGuard op t x y u (a.eval y); binOp op t u (a.eval y)).run P w) (.bool (if(op matches .neq)then !r else r)) h:=by
 have he:=aHj (w:=w) hn hx hr a
 have hy:a.eval y= .slice none 0 0∨a.eval y= .nilFunc:=by
  unfold aGT at hn
  split at hn
  ·exact .inl rfl
  ·exact .inr rfl
  ·cases hn
 have hu:(∃b l c,u= .slice b l c)∨(∃f p q,u= .func f p q)∨u= .nilFunc:=by
  cases ax<;>simp[pQ]at hr
  ·obtain⟨b,cap,rfl,_⟩:=VR_sl hx; exact .inl ⟨_,_,_,rfl⟩
  ·simp only[VR]at hx; exact .inl ⟨_,_,_,hx⟩
  ·simp only[VR]at hx; obtain⟨b1,b2,rfl,_⟩:=hx; exact .inr (.inl ⟨_,_,_,rfl⟩)
  ·simp only[VR]at hx; exact .inr (.inl ⟨_,_,_,hx⟩)
  ·simp only[VR]at hx; exact .inr (.inr hx)
 have hg:(eqGuard op t x y u (a.eval y)).run P w= .ok () w:=by
  rcases hu with⟨_,_,_,rfl⟩ | ⟨_,_,_,rfl⟩ | rfl<;>rcases hop with rfl | rfl<;>simp[eqGuard]
 simp only[Sem.run_bind,hg,Result.andThen_ok]
 rcases hop with rfl | rfl
 ·refine .val s (v':= .bool r) ?_ (by simp[VR]) (by simp[AV.bdd])
  have:binOp .eql t u (a.eval y)=(do pure (.bool (←Op.equal t u (a.eval y)))):=by
   rcases hu with⟨_,_,_,rfl⟩ | ⟨_,_,_,rfl⟩ | rfl<;>rcases hy with e | e<;>rw[e]<;>rfl
  rw[this]; simp[he]
 ·refine .val s (v':= .bool (!r)) ?_ (by simp[VR]) (by simp[AV.bdd])
  have:binOp .neq t u (a.eval y)=(do pure (.bool (!(←Op.equal t u (a.eval y))))):=by
   rcases hu with⟨_,_,_,rfl⟩ | ⟨_,_,_,rfl⟩ | rfl<;>rcases hy with e | e<;>rw[e]<;>rfl
  rw[this]; simp[he]
theorem aIr(s:Sim w0 m h w){op:BinOp}(hop:op= .eql∨op= .neq){t:TypeId}{ms:Array (String×TypeId)}(ht:P.underlying t=some (.interface ms)){x y:Operand}(hy:aBn y=true){ax:AV}{u:Value}(hx:VR m ax u){r:Bool}(hr:zB ax=some r)(a:Act) :
 fJ w0 m h w ((do eqGuard op t x y u (a.eval y); binOp op t u (a.eval y)).run P w) (.bool (if(op matches .neq)then !r else r)) h:=by
 have hy:y= .const .nilIface:=by
  unfold aBn at hy
  split at hy
  ·rfl
  ·cases hy
 subst hy
 have hev:a.eval (.const .nilIface)= .nilIface:=rfl
 have hu:(u= .nilIface∧r=true)∨(∃q z,u= .iface q z∧r=false):=by
  cases ax<;>simp[zB]at hr
  ·simp only[VR]at hx; obtain⟨z,rfl,_⟩:=hx; exact .inr ⟨_,z,rfl,hr⟩
  ·simp only[VR]at hx; exact .inl ⟨hx,hr⟩
 rw[hev]
 have he:(Op.equal t u .nilIface).run P w= .ok r w:=by
  show(Op.equalIn (9999+1) t u .nilIface).run P w= .ok r w
  generalize 9999=D
  rcases hu with⟨rfl,rfl⟩ | ⟨q,z,rfl,rfl⟩<;>simp[Op.equalIn,bX ht]
 have hg:(eqGuard op t x (.const .nilIface) u .nilIface).run P w= .ok () w:=by
  rcases hu with⟨rfl,rfl⟩ | ⟨q,z,rfl,rfl⟩<;>rcases hop with rfl | rfl<;>simp[eqGuard]
 simp only[Sem.run_bind,hg,Result.andThen_ok]
 rcases hop with rfl | rfl
 ·refine .val s (v':= .bool r) ?_ (by simp[VR]) (by simp[AV.bdd])
  have:binOp .eql t u .nilIface=(do pure (.bool (←Op.equal t u .nilIface))):=by
   rcases hu with⟨rfl,_⟩ | ⟨q,z,rfl,_⟩<;>rfl
  rw[this]; simp[he]
 ·refine .val s (v':= .bool (!r)) ?_ (by simp[VR]) (by simp[AV.bdd])
  have:binOp .neq t u .nilIface=(do pure (.bool (!(←Op.equal t u .nilIface)))):=by
   rcases hu with⟨rfl,_⟩ | ⟨q,z,rfl,_⟩<;>rfl
  rw[this]; simp[he]
theorem aLS{t:TypeId}{z:AV}(h:zv P t=some z):∃v,(zeroValue t).run P w= .ok v w∧∀m N,VR m z v∧z.bdd N:=by
 simp only[zv,qC]at h
 obtain⟨i,hi,v,hv,hz⟩:=h
 refine⟨v,?_,tY hz⟩
 simp[zeroValue,typeInfo,hi,hv]
theorem aIl(s:Sim w0 m h w){t xt:TypeId}{z:AV}{ok:Bool}(hi:aJq P t=false)(hz:zv P t=some z){ax v:AV}{u:Value}(hx:VR m ax u)(hb:ax.bdd h.length)(hr:yC t z ok ax=some v) :
 fJ w0 m h w ((Instr.typeAssert u xt t ok).run P w) v h:=by
 obtain⟨d,hd,hnd⟩:∃d,P.underlying t=some d∧∀ms,d≠ .interface ms:=by
  unfold aJq at hi
  split at hi
  ·cases hi
  ·cases hi
  ·rename_i d' h1 h2
   cases hq:P.underlying t with
   | none=>exact absurd hq h2
   | some d=>exact⟨d,rfl,fun ms e=>h1 ms (by rw[hq,e])⟩
 obtain⟨zv',hz1,hz2⟩:=aLS (P:=P) (w:=w) hz
 unfold yC at hr
 split at hr
 ·rename_i t' v0
  simp only[VR]at hx
  obtain⟨y,rfl,hy⟩:=hx
  simp only[AV.bdd]at hb
  by_cases e:t'=t
  ·subst e
   rw[if_pos rfl]at hr
   cases ok
   ·simp at hr; subst hr
    refine .val s (v':=y) ?_ hy hb
    simp only[Instr.typeAssert,Sem.run_bind,bX hd,Result.andThen_ok]
    cases d<;>first | (exact absurd rfl (hnd _)) | simp
   ·simp at hr; subst hr
    refine .val s (v':= .tuple #[y,.bool true]) ?_ ⟨#[y,.bool true],rfl,y,_,rfl,hy,_,_,rfl,rfl,rfl⟩ ⟨hb,trivial,trivial⟩
    simp only[Instr.typeAssert,Sem.run_bind,bX hd,Result.andThen_ok]
    cases d<;>first | (exact absurd rfl (hnd _)) | simp
  ·rw[if_neg e]at hr
   cases ok
   ·simp at hr
   ·simp at hr; subst hr
    refine .val s (v':= .tuple #[zv',.bool false]) ?_ ⟨#[zv',.bool false],rfl,zv',_,rfl,(hz2 m 0).1,_,_,rfl,rfl,rfl⟩ ⟨(hz2 m h.length).2,trivial,trivial⟩
    simp only[Instr.typeAssert,Sem.run_bind,bX hd,Result.andThen_ok]
    cases d<;>first | (exact absurd rfl (hnd _)) | simp[e,hz1]
 ·simp only[VR]at hx; subst hx
  cases ok
  ·simp at hr
  ·simp at hr; subst hr
   refine .val s (v':= .tuple #[zv',.bool false]) ?_ ⟨#[zv',.bool false],rfl,zv',_,rfl,(hz2 m 0).1,_,_,rfl,rfl,rfl⟩ ⟨(hz2 m h.length).2,trivial,trivial⟩
   simp only[Instr.typeAssert,Sem.run_bind,bX hd,Result.andThen_ok]
   cases d<;>first | (exact absurd rfl (hnd _)) | simp[hz1]
 ·cases hr
theorem aGZ{x:AV}{u:Value}{n:Nat}(hx:VR m x u)(hn:vJ x=some n):(Builtin.lenOf u).run P w= .ok n w:=by
 cases x<;>simp[vJ]at hn
 ·subst hn
  obtain⟨a,cap,rfl,_⟩:=VR_sl hx
  simp[Builtin.lenOf]
 ·subst hn
  simp only[VR]at hx; subst hx
  simp[Builtin.lenOf]
theorem aN1{x:AV}{u:Value}{n es:Nat}(hx:VR m x u)(hn:vJ x=some n):(Builtin.firstCells es 0 u).run P w= .ok #[] w:=by
 cases x<;>simp[vJ]at hn
 ·obtain⟨a,cap,rfl,_⟩:=VR_sl hx
  simp[Builtin.firstCells,Go.loadCells,loadCellsFrom]
 ·simp only[VR]at hx; subst hx
  simp[Builtin.firstCells]
theorem aIs(s:Sim w0 m h w){t t' e ty:TypeId}(ht:P.underlying t=some (.slice e)){es:Nat}(hes:eL P e=some es){x y v:AV}{vx vy:Value}{h':Heap}(hx:VR m x vx)(hy:VR m y vy)(ha:zN w0 h es x y=some (v,h')) :
 fJ w0 m h w ((Builtin.copy_ #[t,t'] ty #[vx,vy]).run P w) v h':=by
 simp only[zN,qC]at ha
 obtain⟨len,hlen,n,hn,ha⟩:=ha
 obtain⟨inf,hinf,rfl⟩:=cI hes
 have hn':=aGZ (P:=P) (w:=w) hy hn
 obtain⟨base,cap,hvx⟩:∃base cap,vx= .slice base len cap:=by
  cases x<;>simp[vJ]at hlen
  ·subst hlen
   obtain⟨a,cap,rfl,_⟩:=VR_sl hx
   exact⟨_,_,rfl⟩
  ·subst hlen
   simp only[VR]at hx; exact⟨_,_,hx⟩
 split at ha
 ·rename_i h0
  simp at ha; obtain⟨rfl,rfl⟩:=ha
  have hf:=aN1 (P:=P) (w:=w) (es:=inf.size) hy hn
  refine .val s (v':=goInt 0) ?_ rfl trivial
  have hm:Nat.min n len=0:=h0
  subst hvx
  cases base<;>simp[Builtin.copy_,bX ht,fA hinf,hn',hm,hf,storeCells]
 ·rename_i h0
  split at ha
  ·rename_i i o len' es' full
   simp only[qC]at ha
   obtain⟨l,hl,ha⟩:=ha
   split at ha
   ·rename_i hc
    obtain⟨rfl,hone⟩:=hc
    split at ha
    ·rename_i c hi
     split at ha
     ·rename_i hle
      simp at ha; obtain⟨rfl,rfl⟩:=ha
      have hlen':len'=len:=by simpa[vJ]using hlen
      subst hlen'
      obtain⟨a,cap',e1,g1,g2,g3⟩:=VR_sl hx
      have hcap:cap'≠0:=by intro e; subst e; exact h0 (by omega)
      obtain⟨ea,_⟩:=g3.resolve_left hcap
      subst ea
      subst e1
      obtain⟨cl,k1,k2,k3,k4⟩:∃cl:Array Value,(Builtin.firstCells inf.size (min n len') vy).run P w= .ok cl w∧VRs m l cl.toList∧AV.bdds h.length l∧l.length=min n len'*inf.size:=by
       cases y<;>simp[xG]at hl
       rename_i q n2 es2 f2
       have hn2:n2=n:=by simpa[vJ]using hn
       subst hn2
       obtain⟨hes2,hrd⟩:=hl
       obtain⟨a2,cap2,rfl,p1,p2,p3⟩:=VR_sl hy
       have hcap2:cap2≠0:=by intro e; subst e; exact h0 (by omega)
       obtain⟨rfl,_⟩:=p3.resolve_left hcap2
       obtain⟨cl,q1,q2,q3,_⟩:=xQ s P hrd
       exact⟨cl,by simpa[Builtin.firstCells]using q1,q2,q3,(pI hrd).1⟩
      obtain⟨g1',⟨ca,ee,g2',g3',g4'⟩,g5'⟩:=s.at_ i _ hi
      have hcn:=aBf g3' g4'
      have hlen2:=cN k2
      have hone':∀z∈l,one z=true:=by simpa using hone
      obtain⟨w',q1,q2,q3,q4,q5,q6,q7⟩:=oF (P:=P) (off:=m.base i+o) cl.toList w 0 ca g2' (by omega) (aBH k2 hone')
      have hstep:bU w0 m m h (h.set i (some (.row (cO c o l)))) w w':=by
       refine bU.set s hi q2 q3 q5 q6 q7 ?_ (fun y hy=>(sL hy).elim (g5' y) (cG.1 k3 y))
       rw[q4,Nat.add_zero]
       exact aA3 g3' g4' k2 (by omega) hcn
      refine⟨m,goInt (min n len':Nat),w',?_,hstep,rfl,trivial⟩
      have hm:Nat.min n len'=min n len':=rfl
      simp[Builtin.copy_,q1,hn',k1,hm,Emb.pl,bX ht,fA hinf]
     ·cases ha
    ·cases ha
   ·cases ha
  ·cases ha
theorem aKA{fr:Fr}{a:Act}(hf:FR m h.length fr a.tmps){o:Option Operand}{o':Option Opd}(hc:aAR o=some o'):VO m fr o' (o.map a.eval):=by
 cases o with
 | none=>simp[aAR]at hc; subst hc; rfl
 | some x=>
  simp only[aAR,qD]at hc
  obtain⟨y,hy,rfl⟩:=hc
  exact⟨_,rfl,(aR hf hy).1⟩
theorem aHp(s:Sim w0 m h w){fr:Fr}{a:Act}(hf:FR m h.length fr a.tmps){o:Oper}{mo:MOp}(hc:cop P o.op=some mo){v:AV}{h':Heap}(he:aop w0 mo fr h=some (v,h')) :
 aBX w0 m h w ((execOp a.eval o).run P w) v h':=by
 have hex:execOp a.eval o=execOp a.eval { o with op:=o.op }:=rfl
 generalize hop:o.op=op at hc
 unfold cop at hc
 split at hc
 case h_1 x=>
  simp only[qD]at hc
  obtain⟨y,hy,rfl⟩:=hc
  simp[aop]at he; obtain⟨rfl,rfl⟩:=he
  obtain⟨k1,k2⟩:=aR hf hy
  exact .val s (v':=a.eval x) (by simp[execOp,hop]) k1 k2
 case h_2 x=>
  simp only[qD]at hc
  obtain⟨y,hy,rfl⟩:=hc
  simp[aop]at he; obtain⟨rfl,rfl⟩:=he
  obtain⟨k1,k2⟩:=aR hf hy
  exact .val s (v':=a.eval x) (by simp[execOp,hop]) k1 k2
 case h_3 c x y=>
  simp only[qC,qD]at hc
  obtain⟨c',hc',x',hx',y',hy',rfl⟩:=hc
  obtain⟨c1,_⟩:=aR hf hc'
  obtain⟨x1,x2⟩:=aR hf hx'
  obtain⟨y1,y2⟩:=aR hf hy'
  simp only[aop]at he
  split at he
  ·rename_i t hct
   rw[hct]at c1
   simp only[VR]at c1
   simp at he; obtain⟨rfl,rfl⟩:=he
   refine .val s (v':=if t then a.eval x else a.eval y) (by simp[execOp,hop,c1,asBool]) ?_ ?_
   ·cases t
    ·exact y1
    ·exact x1
   ·cases t
    ·exact y2
    ·exact x2
  ·cases he
 case h_4 e=>
  simp only[qD]at hc
  obtain⟨z,hz,rfl⟩:=hc
  simp[aop]at he; obtain⟨rfl,rfl⟩:=he
  simpa[execOp,hop]using(aGI (P:=P) s hz).outc
 case h_5 e x=>
  simp only[qC,qD]at hc
  obtain⟨x',hx',n,hn,rfl⟩:=hc
  obtain⟨x1,x2⟩:=aR hf hx'
  simp only[aop]at he
  split at he
  ·rename_i l hl
   split at he
   ·simp at he; obtain⟨rfl,rfl⟩:=he
    simpa[execOp,hop]using(aL8 (P:=P) (t:=e) s x1 x2 hl).outc
   ·cases he
  ·cases he
 case h_6 t ps=>
  split at hc
  ·rename_i fs ht
   simp only[qC,qD]at hc
   obtain⟨z,hz,pl,hpl,qs,hqs,rfl⟩:=hc
   simp only[aop]at he
   split at he
   ·rename_i c hc
    simp at he; obtain⟨rfl,rfl⟩:=he
    have hp:=pX hf hqs
    have:=(aGH (P:=P) s ht hz hpl (ps:=qs.map fun(o,n,x)=>(o,n,x.ev fr)) (qs:=ps.map fun(i,x)=>(i,a.eval x)) (by simpa using hp) hc).outc
    simpa[execOp,hop]using this
   ·cases he
  ·rename_i k e ht
   simp only[qC,qD]at hc
   obtain⟨z,hz,n,hn,qs,hqs,rfl⟩:=hc
   simp only[aop]at he
   split at he
   ·rename_i c hc
    simp at he; obtain⟨rfl,rfl⟩:=he
    have hp:=pX hf hqs
    have:=(aDK (P:=P) s ht hz hn (ps:=qs.map fun(o,n,x)=>(o,n,x.ev fr)) (qs:=ps.map fun(i,x)=>(i,a.eval x)) (by simpa using hp) hc).outc
    simpa[execOp,hop]using this
   ·cases he
  ·cases hc
 case h_7 t len ps=>
  split at hc
  ·rename_i e ht
   simp only[qC]at hc
   obtain⟨z,hz,hc⟩:=hc
   split at hc
   ·rename_i hz0
    simp only[qD]at hc
    obtain⟨qs,hqs,rfl⟩:=hc
    simp only[aop,mN]at he
    split at he
    ·rename_i c hc
     simp at he; obtain⟨rfl,rfl⟩:=he
     have hp:=pX hf hqs
     have:=(aDL (P:=P) s ht hz hz0.1 hz0.2 (ps:=qs.map fun(o,n,x)=>(o,n,x.ev fr)) (qs:=ps.map fun(i,x)=>(i,a.eval x)) (by simpa using hp) hc).outc
     simpa[execOp,hop]using this
    ·cases he
   ·cases hc
  ·cases hc
 case h_8 t x=>
  simp only[qC,qD]at hc
  obtain⟨x',hx',n,hn,rfl⟩:=hc
  obtain⟨x1,x2⟩:=aR hf hx'
  simp only[aop]at he
  split at he
  ·rename_i p hp
   rw[hp]at x1
   simp only[VR]at x1
   simp only[qC]at he
   obtain⟨u,k1,he⟩:=he
   simp at he; obtain⟨rfl,rfl⟩:=he
   have:=(aCh (P:=P) s hn k1).outc
   simpa[execOp,hop,x1]using this
  ·cases he
 case h_9 t x y=>
  simp only[qC,qD]at hc
  obtain⟨x',hx',y',hy',n,hn,rfl⟩:=hc
  obtain⟨x1,x2⟩:=aR hf hx'
  obtain⟨y1,y2⟩:=aR hf hy'
  simp only[aop]at he
  split at he
  ·rename_i i o l hp hl
   rw[hp]at x1
   simp only[VR]at x1
   split at he
   ·rename_i c hc
    split at he
    ·rename_i hle
     simp at he; obtain⟨rfl,rfl⟩:=he
     have:=aGD (P:=P) s hn hc y1 y2 hl hle.1 hle.2
     simpa[execOp,hop,x1]using this
    ·cases he
   ·cases he
  ·cases he
 case h_10 x=>
  simp only[qD]at hc
  obtain⟨x',hx',rfl⟩:=hc
  obtain⟨x1,x2⟩:=aR hf hx'
  simp only[aop]at he
  split at he
  ·split at he
   ·rename_i p hp
    simp at he; obtain⟨rfl,rfl⟩:=he
    rw[hp]at x1 x2
    have x1':=x1
    simp only[VR]at x1'
    exact .val s (v':=a.eval x) (by simp[execOp,hop,x1']) x1 x2
   ·rename_i f p q hp
    simp at he; obtain⟨rfl,rfl⟩:=he
    rw[hp]at x1 x2
    have x1':=x1
    simp only[VR]at x1'
    obtain⟨b1,b2,e1,_⟩:=x1'
    exact .val s (v':=a.eval x) (by simp[execOp,hop,e1]) x1 x2
   ·cases he
  ·cases he
 case h_11 op t x y yt=>
  simp only[qC]at hc
  obtain⟨x',hx',y',hy',hc⟩:=hc
  obtain⟨x1,x2⟩:=aR hf hx'
  obtain⟨y1,y2⟩:=aR hf hy'
  have hsem:∀v,fJ w0 m h w ((do eqGuard op t x y (a.eval x) (a.eval y); binOp op t (a.eval x) (a.eval y)).run P w) v h→aBX w0 m h w ((execOp a.eval o).run P w) v h:=fun v hv=>by
   simpa[execOp,hop]using hv.outc
  split at hc
  ·simp at hc; subst hc
   simp only[aop,qC]at he
   obtain⟨u,hu,he⟩:=he
   simp at he; obtain⟨rfl,rfl⟩:=he
   exact hsem _ (aL9 s x1 y1 hu)
  ·have heqs:op= .eql∨op= .neq:=by
    split at hc
    ·exact .inl rfl
    ·exact .inr rfl
    ·cases hc
   have hc':(match P.underlying t with
    | some .bool=>some (.eqb (op matches .neq) x' y')
    | some (.struct _) | some (.array _ _)=>(nG P fG t).bind fun s=>if P.eqGuardType P.depth t then none else some (.eqag s (op matches .neq) x' y')
    | some (.interface _)=>if aBn y then some (.eqni (op matches .neq) x')else none
    | _=>(aGT P t y).map fun sl=> .eqnil sl (op matches .neq) x':Option MOp)=some mo:=by
    rcases heqs with rfl | rfl<;>exact hc
   clear hc
   split at hc'
   ·rename_i ht
    simp at hc'; subst hc'
    simp only[aop]at he
    split at he
    ·rename_i p q hp hq
     rw[hp]at x1; rw[hq]at y1
     simp only[VR]at x1 y1
     simp at he; obtain⟨rfl,rfl⟩:=he
     have:=aL7 (P:=P) s (x:=x) (y:=y) (a:=p) (b:=q) heqs ht
     rw[←x1,←y1]at this
     refine hsem _ ?_
     rcases heqs with rfl | rfl<;>simpa using this
    ·cases he
   ·rename_i fs ht
    simp only[qC]at hc'
    obtain⟨sh,hsh,hc'⟩:=hc'
    split at hc'
    ·cases hc'
    ·rename_i hq
     simp at hc'; subst hc'
     simp only[aop]at he
     split at he
     ·rename_i l k hp hq'
      rw[hp]at x1; rw[hq']at y1
      simp only[VR]at x1 y1
      obtain⟨b1,e1,r1⟩:=x1
      obtain⟨b2,e2,r2⟩:=y1
      simp only[qC]at he
      obtain⟨r,hr,he⟩:=he
      simp at he; obtain⟨rfl,rfl⟩:=he
      have:=aCj (P:=P) s (x:=x) (y:=y) heqs ht rfl hsh (by simpa using hq) r1 r2 hr
      rw[←e1,←e2]at this
      refine hsem _ ?_
      rcases heqs with rfl | rfl<;>simpa using this
     ·cases he
   ·rename_i n e ht
    simp only[qC]at hc'
    obtain⟨sh,hsh,hc'⟩:=hc'
    split at hc'
    ·cases hc'
    ·rename_i hq
     simp at hc'; subst hc'
     simp only[aop]at he
     split at he
     ·rename_i l k hp hq'
      rw[hp]at x1; rw[hq']at y1
      simp only[VR]at x1 y1
      obtain⟨b1,e1,r1⟩:=x1
      obtain⟨b2,e2,r2⟩:=y1
      simp only[qC]at he
      obtain⟨r,hr,he⟩:=he
      simp at he; obtain⟨rfl,rfl⟩:=he
      have:=aCj (P:=P) s (x:=x) (y:=y) heqs ht rfl hsh (by simpa using hq) r1 r2 hr
      rw[←e1,←e2]at this
      refine hsem _ ?_
      rcases heqs with rfl | rfl<;>simpa using this
     ·cases he
   ·rename_i ms ht
    split at hc'
    ·rename_i hyl
     simp at hc'; subst hc'
     simp only[aop,qC]at he
     obtain⟨r,hr,he⟩:=he
     simp at he; obtain⟨rfl,rfl⟩:=he
     have:=aIr (P:=P) s (x:=x) heqs ht hyl x1 hr a
     refine hsem _ ?_
     rcases heqs with rfl | rfl<;>simpa using this
    ·cases hc'
   ·simp only[qD]at hc'
    obtain⟨sl,hsl,rfl⟩:=hc'
    simp only[aop,qC]at he
    obtain⟨r,hr,he⟩:=he
    simp at he; obtain⟨rfl,rfl⟩:=he
    have:=aGG (P:=P) s (x:=x) heqs hsl x1 hr a
    refine hsem _ ?_
    rcases heqs with rfl | rfl<;>simpa using this
 case h_12 op t x=>
  simp only[qD]at hc
  obtain⟨x',hx',rfl⟩:=hc
  obtain⟨x1,x2⟩:=aR hf hx'
  simp only[aop,qC]at he
  obtain⟨u,hu,he⟩:=he
  simp at he; obtain⟨rfl,rfl⟩:=he
  simpa[execOp,hop]using(snd_un (P:=P) s x1 hu).outc
 case h_13 sr ds x=>
  split at hc
  ·rename_i k0 k h1 h2
   simp only[qD]at hc
   obtain⟨x',hx',rfl⟩:=hc
   obtain⟨x1,x2⟩:=aR hf hx'
   simp only[aop]at he
   split at he
   ·rename_i k1 n hx
    rw[hx]at x1
    simp only[VR]at x1
    simp only[qC]at he
    obtain⟨u,hu,he⟩:=he
    simp at he; obtain⟨rfl,rfl⟩:=he
    have:=(aIt (P:=P) (k1:=k1) s h1 h2 hu).outc
    simpa[execOp,hop,x1]using this
   ·cases he
  ·cases hc
 case h_14 t x=>
  split at hc
  ·rename_i hcon
   simp only[qD]at hc
   obtain⟨x',hx',rfl⟩:=hc
   obtain⟨x1,x2⟩:=aR hf hx'
   simp[aop]at he; obtain⟨rfl,rfl⟩:=he
   exact .val s (v':= .iface t (a.eval x)) (by simp[execOp,hop,run_makeInterface w t (a.eval x) hcon]) ⟨_,rfl,x1⟩ x2
  ·cases hc
 case h_15 f x y=>
  simp only[nU,qC,qD]at hc
  obtain⟨x',hx',y',hy',rfl⟩:=hc
  obtain⟨x1,x2⟩:=jP hf hx'
  obtain⟨y1,y2⟩:=jP hf hy'
  simp[aop]at he; obtain⟨rfl,rfl⟩:=he
  refine .val s (v':= .func f (x.map a.eval) (y.map a.eval)) (by simp[execOp,hop,Instr.makeFunc]) ⟨_,_,rfl,by simpa using x1,by simpa using y1⟩ ⟨x2,y2⟩
 case h_16 t=>
  simp at hc; subst hc
  simp[aop]at he; obtain⟨rfl,rfl⟩:=he
  simpa[execOp,hop]using(aGE (P:=P) (t:=t) s).outc
 case h_17 t l c=>
  split at hc
  ·rename_i e ht
   simp only[qC,qD]at hc
   obtain⟨z,hz,i,hi,l',hl',c',hc',rfl⟩:=hc
   obtain⟨l1,_⟩:=aR hf hl'
   obtain⟨c1,_⟩:=aR hf hc'
   simp only[aop,mN]at he
   split at he
   ·rename_i ln cn e1 e2
    split at he
    ·rename_i hle
     simp at he; obtain⟨rfl,rfl⟩:=he
     obtain⟨kl,g1⟩:=iM l1 e1
     obtain⟨kc,g2⟩:=iM c1 e2
     have:=(aIo (P:=P) (kl:=kl) (kc:=kc) s ht hz hi hle.1 hle.2).outc
     simpa[execOp,hop,g1,g2]using this
    ·cases he
   ·cases he
  ·cases hc
 case h_18 t x lo hi mx=>
  simp only[qC]at hc
  obtain⟨x',hx',lo',hlo',hi',hhi',mx',hmx',hc⟩:=hc
  obtain⟨x1,x2⟩:=aR hf hx'
  have v1:=aKA hf hlo'
  have v2:=aKA hf hhi'
  have v3:=aKA hf hmx'
  split at hc
  ·rename_i e ht
   simp only[qD]at hc
   obtain⟨n,hn,rfl⟩:=hc
   simp only[aop]at he
   split at he
   ·rename_i p len es full hx
    rw[hx]at x1 x2
    split at he
    ·rename_i hes
     simp only[qC]at he
     obtain⟨⟨l,hh,mo⟩,hb,he⟩:=he
     simp only[Option.some.injEq,Prod.mk.injEq]at he; obtain⟨rfl,rfl⟩:=he
     have:=(aL3 (P:=P) s ht hn x1 x2 hes v1 v2 v3 hb).outc
     simpa[execOp,hop]using this
    ·cases he
   ·rename_i hx
    rw[hx]at x1
    simp only[VR]at x1
    simp only[qC]at he
    obtain⟨⟨l,hh,mo⟩,hb,he⟩:=he
    simp only[Option.some.injEq,Prod.mk.injEq]at he; obtain⟨rfl,rfl⟩:=he
    have:=(aIm (P:=P) s ht hn v1 v2 v3 hb).outc
    simpa[execOp,hop,x1]using this
   ·cases he
  ·rename_i n e ht
   simp only[qD]at hc
   obtain⟨es,hn,rfl⟩:=hc
   simp only[aop]at he
   split at he
   ·rename_i i o hx
    rw[hx]at x1
    simp only[VR]at x1
    split at he
    ·rename_i c hc
     split at he
     ·rename_i hsz
      simp only[qC]at he
      obtain⟨⟨l,hh,mo⟩,hb,he⟩:=he
      simp only[Option.some.injEq,Prod.mk.injEq]at he; obtain⟨rfl,rfl⟩:=he
      have:=(aIn (P:=P) s ht hn hc hsz v1 v2 v3 hb).outc
      simpa[execOp,hop,x1]using this
     ·cases he
    ·cases he
   ·cases he
  ·cases hc
 case h_19 st x f=>
  split at hc
  ·rename_i fs ht
   simp only[qC]at hc
   obtain⟨fd,hfd,n,hn,hc⟩:=hc
   split at hc
   ·cases hc
   ·rename_i h0
    simp only[qD]at hc
    obtain⟨x',hx',rfl⟩:=hc
    obtain⟨x1,x2⟩:=aR hf hx'
    simp only[aop]at he
    split at he
    ·rename_i p hx
     rw[hx]at x1 x2
     simp only[VR]at x1
     simp at he; obtain⟨rfl,rfl⟩:=he
     have:=(aIu (P:=P) s ht hfd hn h0 (p:=p) x2).outc
     simpa[execOp,hop,x1]using this
    ·cases he
  ·cases hc
 case h_20 st x f=>
  split at hc
  ·rename_i fs ht
   simp only[qC,qD]at hc
   obtain⟨fd,hfd,n,hn,x',hx',rfl⟩:=hc
   obtain⟨x1,x2⟩:=aR hf hx'
   simp only[aop]at he
   split at he
   ·rename_i l hx
    rw[hx]at x1 x2
    simp only[VR]at x1
    obtain⟨b1,e1,r1⟩:=x1
    simp only[qC]at he
    obtain⟨u,hu,he⟩:=he
    simp at he; obtain⟨rfl,rfl⟩:=he
    have:=(aL5 (P:=P) s ht hfd hn r1 x2 hu).outc
    simpa[execOp,hop,e1]using this
   ·cases he
  ·cases hc
 case h_21 t x i=>
  simp only[qC]at hc
  obtain⟨x',hx',i',hi',hc⟩:=hc
  obtain⟨x1,x2⟩:=aR hf hx'
  obtain⟨i1,_⟩:=aR hf hi'
  split at hc
  ·rename_i e ht
   simp only[qD]at hc
   obtain⟨n,hn,rfl⟩:=hc
   simp only[aop]at he
   split at he
   ·rename_i p len es full j hx hj
    rw[hx]at x1 x2
    split at he
    ·rename_i hle
     simp at he; obtain⟨rfl,rfl⟩:=he
     obtain⟨k,g1⟩:=iM i1 hj
     have:=(aIp (P:=P) (k:=k) s ht hn x1 x2 hle.2).outc
     simpa[execOp,hop,g1]using this
    ·cases he
   ·cases he
  ·rename_i n e ht
   simp only[qD]at hc
   obtain⟨es,hn,rfl⟩:=hc
   simp only[aop]at he
   split at he
   ·rename_i p j hx hj
    rw[hx]at x1 x2
    simp only[VR]at x1
    split at he
    ·rename_i hle
     simp at he; obtain⟨rfl,rfl⟩:=he
     obtain⟨k,g1⟩:=iM i1 hj
     have:=(aIq (P:=P) (k:=k) s ht hn (p:=p) x2 hle).outc
     simpa[execOp,hop,g1,x1]using this
    ·cases he
   ·cases he
  ·cases hc
 case h_22 t x i=>
  simp only[qC]at hc
  obtain⟨x',hx',i',hi',hc⟩:=hc
  obtain⟨x1,x2⟩:=aR hf hx'
  obtain⟨i1,_⟩:=aR hf hi'
  split at hc
  ·rename_i n e ht
   simp only[qC,qD]at hc
   obtain⟨es,hn,g,hg,rfl⟩:=hc
   simp only[aop]at he
   split at he
   ·rename_i l j hx hj
    rw[hx]at x1 x2
    simp only[VR]at x1
    obtain⟨b1,e1,r1⟩:=x1
    split at he
    ·rename_i hle
     simp only[qC]at he
     obtain⟨u,hu,he⟩:=he
     simp at he; obtain⟨rfl,rfl⟩:=he
     obtain⟨k,g1⟩:=iM i1 hj
     have:=(aL4 (P:=P) (k:=k) s ht hn hg r1 x2 hle hu).outc
     simpa[execOp,hop,g1,e1]using this
    ·cases he
   ·cases he
  ·cases hc
 case h_23 t x k ok=>
  split at hc
  ·rename_i kt e ht
   simp only[qC,qD]at hc
   obtain⟨sh,hsh,z,hz,x',hx',k',hk',rfl⟩:=hc
   obtain⟨x1,x2⟩:=aR hf hx'
   obtain⟨k1,k2⟩:=aR hf hk'
   simp only[aop]at he
   split at he
   ·cases he
   ·rename_i hkk
    have hkk':(keq sh (k'.ev fr) (k'.ev fr)).isNone=false:=by simpa only[Bool.not_eq_true]using hkk
    split at he
    ·rename_i hx
     rw[hx]at x1
     simp only[VR]at x1
     simp at he; obtain⟨rfl,rfl⟩:=he
     have:=(aGF (P:=P) s ht hsh hz k1 hkk' ok).outc
     simpa[execOp,hop,x1]using this
    ·rename_i i hx
     rw[hx]at x1
     simp only[VR]at x1
     split at he
     ·rename_i es hi
      split at he
      ·rename_i j v' hr
       simp at he; obtain⟨rfl,rfl⟩:=he
       have:=(aCg (P:=P) s ht hsh hz hi k1 hkk' hr ok).outc
       simpa[execOp,hop,x1]using this
      ·rename_i hr
       simp at he; obtain⟨rfl,rfl⟩:=he
       have:=(aCg (P:=P) s ht hsh hz hi k1 hkk' hr ok).outc
       simpa[execOp,hop,x1]using this
      ·cases he
     ·cases he
    ·cases he
  ·cases hc
 case h_24 t x k y=>
  split at hc
  ·rename_i kt e ht
   simp only[qC,qD]at hc
   obtain⟨sh,hsh,x',hx',k',hk',y',hy',rfl⟩:=hc
   obtain⟨x1,x2⟩:=aR hf hx'
   obtain⟨k1,k2⟩:=aR hf hk'
   obtain⟨y1,y2⟩:=aR hf hy'
   simp only[aop]at he
   split at he
   ·cases he
   ·rename_i hkk
    have hkk':(keq sh (k'.ev fr) (k'.ev fr)).isNone=false:=by simpa only[Bool.not_eq_true]using hkk
    split at he
    ·rename_i i hx
     rw[hx]at x1
     simp only[VR]at x1
     split at he
     ·rename_i es hi
      split at he
      ·rename_i j v' hr
       simp at he; obtain⟨rfl,rfl⟩:=he
       have:=tQ (P:=P) s ht hsh hi k1 k2 y1 y2 hkk' hr
       simpa[execOp,hop,x1]using this
      ·rename_i hr
       simp at he; obtain⟨rfl,rfl⟩:=he
       have:=tQ (P:=P) s ht hsh hi k1 k2 y1 y2 hkk' hr
       simpa[execOp,hop,x1]using this
      ·cases he
     ·cases he
    ·cases he
  ·cases hc
 case h_25 t x k y=>
  split at hc
  ·rename_i kt e ht
   simp only[qC,qD]at hc
   obtain⟨sh,hsh,x',hx',k',hk',y',hy',rfl⟩:=hc
   obtain⟨x1,x2⟩:=aR hf hx'
   obtain⟨k1,k2⟩:=aR hf hk'
   obtain⟨y1,y2⟩:=aR hf hy'
   simp only[aop]at he
   split at he
   ·cases he
   ·rename_i hkk
    have hkk':(keq sh (k'.ev fr) (k'.ev fr)).isNone=false:=by simpa only[Bool.not_eq_true]using hkk
    split at he
    ·rename_i i hx
     rw[hx]at x1
     simp only[VR]at x1
     split at he
     ·rename_i es hi
      split at he
      ·rename_i j v' hr
       simp at he; obtain⟨rfl,rfl⟩:=he
       have:=tQ (P:=P) s ht hsh hi k1 k2 y1 y2 hkk' hr
       simpa[execOp,hop,x1]using this
      ·rename_i hr
       simp at he; obtain⟨rfl,rfl⟩:=he
       have:=tQ (P:=P) s ht hsh hi k1 k2 y1 y2 hkk' hr
       simpa[execOp,hop,x1]using this
      ·cases he
     ·cases he
    ·cases he
  ·cases hc
 case h_26 x i=>
  simp only[qD]at hc
  obtain⟨x',hx',rfl⟩:=hc
  obtain⟨x1,x2⟩:=aR hf hx'
  simp only[aop]at he
  split at he
  ·rename_i l hx
   rw[hx]at x1 x2
   simp only[VR]at x1
   obtain⟨b1,e1,r1⟩:=x1
   simp only[qC]at he
   obtain⟨u,hu,he⟩:=he
   simp at he; obtain⟨rfl,rfl⟩:=he
   have:=(aL6 (P:=P) s r1 x2 hu).outc
   simpa[execOp,hop,e1]using this
  ·cases he
 case h_27 b args argTypes=>
  have hsem:∀(sv:Sem Value) v,builtin b argTypes o.type (args.map fun | .const _=>true | _=>false) (args.map a.eval)=(do pure (.value (←sv)))→fJ w0 m h w (sv.run P w) v h'→aBX w0 m h w ((execOp a.eval o).run P w) v h':=fun sv v hb hv=>by
   have:execOp a.eval o=(do pure (.value (←sv)):Sem Next):=by simp only[execOp,hop,resolve,invoke,pure_bind]; exact hb
   rw[this]; exact hv.outc
  split at hc
  ·split at hc
   ·rename_i t x ht0 hx0
    have hl:∀u,fJ w0 m h w (u:Result Value) v h'→u=(Builtin.len_ argTypes o.type (args.map a.eval)).run P w→aBX w0 m h w ((execOp a.eval o).run P w) v h':=fun u hu e=>by
     subst e; exact hsem _ _ rfl hu
    have hx1:(args.map a.eval)[0]? = some (a.eval x):=by simp[hx0]
    split at hc
    ·rename_i e ht
     simp only[qD]at hc
     obtain⟨x',hx',rfl⟩:=hc
     obtain⟨x1,x2⟩:=aR hf hx'
     simp only[aop]at he
     split at he
     ·rename_i p n es full hx
      rw[hx]at x1
      obtain⟨b1,cap,e1,_⟩:=VR_sl x1
      simp at he; obtain⟨rfl,rfl⟩:=he
      refine hl _ (.val s (v':=goInt n) rfl rfl trivial) ?_
      simp[Builtin.len_,ht0,hx1,bX ht,e1]
     ·rename_i hx
      rw[hx]at x1
      simp only[VR]at x1
      simp at he; obtain⟨rfl,rfl⟩:=he
      refine hl _ (.val s (v':=goInt 0) rfl rfl trivial) ?_
      simp[Builtin.len_,ht0,hx1,bX ht,x1]
     ·cases he
    ·rename_i kt e ht
     simp only[qD]at hc
     obtain⟨x',hx',rfl⟩:=hc
     obtain⟨x1,x2⟩:=aR hf hx'
     simp only[aop]at he
     split at he
     ·rename_i hx
      rw[hx]at x1
      simp only[VR]at x1
      simp at he; obtain⟨rfl,rfl⟩:=he
      refine hl _ (.val s (v':=goInt 0) rfl rfl trivial) ?_
      simp[Builtin.len_,ht0,hx1,bX ht,x1]
     ·rename_i i hx
      rw[hx]at x1
      simp only[VR]at x1
      split at he
      ·rename_i es hi
       simp at he; obtain⟨rfl,rfl⟩:=he
       obtain⟨_,⟨ea,ck,g1,g2,_⟩,_⟩:=s.at_ i _ hi
       have hg:=dX (P:=P) g1 (by simp)
       refine hl _ (.val s (v':=goInt es.length) rfl rfl trivial) ?_
       simp[Builtin.len_,ht0,hx1,bX ht,x1,hg,g2]
      ·cases he
     ·cases he
    ·rename_i n e ht
     simp at hc; subst hc
     simp[aop]at he; obtain⟨rfl,rfl⟩:=he
     refine hl _ (.val s (v':=goInt n) rfl rfl trivial) ?_
     simp[Builtin.len_,ht0,hx1,bX ht]
    ·cases hc
   ·cases hc
  ·split at hc
   ·rename_i t t' x y ht0 hx0
    split at hc
    ·rename_i e e' ht ht'
     simp only[qC,qD]at hc
     obtain⟨z,hz,i,hi,x',hx',y',hy',rfl⟩:=hc
     obtain⟨x1,x2⟩:=aR hf hx'
     obtain⟨y1,y2⟩:=aR hf hy'
     simp only[aop]at he
     have hargs:args.map a.eval= #[a.eval x,a.eval y]:=by
      have:args= #[x,y]:=Array.ext' hx0
      simp[this]
     have hat:argTypes= #[t,t']:=Array.ext' ht0
     refine hsem (Builtin.append_ argTypes o.type (args.map a.eval)) _ rfl ?_
     rw[hargs,hat]
     exact aMa (P:=P) s ht ht' hz hi x1 y1 x2 he
    ·cases hc
   ·cases hc
  ·simp only[nU,qD]at hc
   obtain⟨l,hl,rfl⟩:=hc
   obtain⟨x1,x2⟩:=jP hf hl
   simp only[aop]at he
   split at he
   ·rename_i v0 r hv0
    simp only[qC]at he
    obtain⟨u,hu,he⟩:=he
    simp at he; obtain⟨rfl,rfl⟩:=he
    have hv0':l.map (·.ev fr)=v0::r:=hv0
    rw[hv0']at x1
    obtain⟨p,q,e1,r1,r2⟩:=x1
    refine hsem (Builtin.min_ argTypes o.type (args.map a.eval)) _ rfl ?_
    have e2:(args.map a.eval).toList=p::q:=by simpa using e1
    simp only[Builtin.min_,e2]
    have hint:∃k n,v0= .int k n∨r=[]:=by
     cases v0<;>first | exact⟨_,_,.inl rfl⟩ | (cases r with | nil=>exact⟨.i64,0,.inr rfl⟩ | cons a b=>simp[mm]at hu)
    obtain⟨k,n,rfl | rfl⟩:=hint
    ·simp only[VR]at r1; subst r1
     exact snd_mm s r q k n u r2 hu
    ·simp only[VRs]at r2; subst r2
     simp[mm]at hu; subst hu
     exact .val s (v':=p) (by simp) r1 (by have:=x2; rw[hv0']at this; exact this.1)
   ·cases he
  ·simp only[nU,qD]at hc
   obtain⟨l,hl,rfl⟩:=hc
   obtain⟨x1,x2⟩:=jP hf hl
   simp only[aop]at he
   split at he
   ·rename_i v0 r hv0
    simp only[qC]at he
    obtain⟨u,hu,he⟩:=he
    simp at he; obtain⟨rfl,rfl⟩:=he
    have hv0':l.map (·.ev fr)=v0::r:=hv0
    rw[hv0']at x1
    obtain⟨p,q,e1,r1,r2⟩:=x1
    refine hsem (Builtin.max_ argTypes o.type (args.map a.eval)) _ rfl ?_
    have e2:(args.map a.eval).toList=p::q:=by simpa using e1
    simp only[Builtin.max_,e2]
    have hint:∃k n,v0= .int k n∨r=[]:=by
     cases v0<;>first | exact⟨_,_,.inl rfl⟩ | (cases r with | nil=>exact⟨.i64,0,.inr rfl⟩ | cons a b=>simp[mm]at hu)
    obtain⟨k,n,rfl | rfl⟩:=hint
    ·simp only[VR]at r1; subst r1
     exact snd_mx s r q k n u r2 hu
    ·simp only[VRs]at r2; subst r2
     simp[mm]at hu; subst hu
     exact .val s (v':=p) (by simp) r1 (by have:=x2; rw[hv0']at this; exact this.1)
   ·cases he
  ·split at hc
   ·rename_i t t' x y ht0 hx0
    split at hc
    ·rename_i e e' ht ht'
     simp only[qC,qD]at hc
     obtain⟨n,hn,x',hx',y',hy',rfl⟩:=hc
     obtain⟨x1,x2⟩:=aR hf hx'
     obtain⟨y1,y2⟩:=aR hf hy'
     simp only[aop]at he
     have hargs:args.map a.eval= #[a.eval x,a.eval y]:=by
      have:args= #[x,y]:=Array.ext' hx0
      simp[this]
     have hat:argTypes= #[t,t']:=Array.ext' ht0
     refine hsem (Builtin.copy_ argTypes o.type (args.map a.eval)) _ rfl ?_
     rw[hargs,hat]
     exact aIs (P:=P) s ht hn x1 y1 he
    ·cases hc
   ·cases hc
  ·simp at hc; subst hc
   simp[aop]at he
  ·cases hc
 case h_28 x xt t ok=>
  split at hc
  ·cases hc
  ·rename_i hi
   simp only[qC,qD]at hc
   obtain⟨z,hz,x',hx',rfl⟩:=hc
   obtain⟨x1,x2⟩:=aR hf hx'
   simp only[aop,qC]at he
   obtain⟨u,hu,he⟩:=he
   simp at he; obtain⟨rfl,rfl⟩:=he
   have:=(aIl (P:=P) (xt:=xt) s (by simpa using hi) hz x1 x2 hu).outc
   simpa[execOp,hop]using this
 case h_29 x=>
  simp only[qD]at hc
  obtain⟨x',hx',rfl⟩:=hc
  simp[aop]at he
 case h_30 f args at_=>
  simp only[qC,qD]at hc
  obtain⟨f',hf',a',ha',rfl⟩:=hc
  simp[aop]at he
 case h_31=>cases hc
end
end Go.Proofs.Ab

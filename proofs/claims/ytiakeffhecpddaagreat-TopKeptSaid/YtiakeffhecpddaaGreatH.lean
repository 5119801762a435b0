/- Own layer, part H. -/
import Derived.Test.YtiakeffhecpddaaGreatG
import Derived.Test.YtiakeffhecpddaaGreatTab
set_option linter.unusedSimpArgs false
set_option linter.unusedVariables false
namespace Go.Proofs.Ab
open Go Go.Proofs
variable {w0:World} {h:Heap}
theorem gN(rows:List (List AV)){es:Nat}(full:Bool){L:Heap}(k:Nat)(hk:L[k]? = some (some (.row rows.flatten)))(hr:∀c∈rows,c.length=es):Sl w0 (h++L) es (.sl (.own (h.length+k) 0) rows.length es full) rows:=by
 have hkl:k<L.length:=by
  rcases Nat.lt_or_ge k L.length with a | a
  ·exact a
  ·rw[List.getElem?_eq_none a]at hk; cases hk
 refine .inr ⟨_,full,⟨es,rfl,mF⟩,by simp[Pl.bdd]; exact hkl,fun j c hc=> ?_⟩
 simp only[Pl.add,rdn]
 rw[qI (by omega),Nat.add_sub_cancel_left,hk]
 simp only[Nat.zero_add]
 have hlen:∀(rows:List (List AV)),(∀c∈rows,c.length=es)→rows.flatten.length=rows.length*es:=fun rows=>by
  induction rows with
  | nil=>intro _; simp
  | cons x xs ih=>intro hx; simp[ih (fun c hc=>hx c (by simp[hc])),hx x (by simp),Nat.add_mul]; omega
 have hjl:=aI hc
 have key:∀(rows:List (List AV)) (j:Nat) c,(∀c∈rows,c.length=es)→rows[j]? = some c→(rows.flatten.drop (j*es)).take es=c:=fun rows=>by
  induction rows with
  | nil=>intro j c _ hc; simp at hc
  | cons x xs ih=>
   intro j c hx hc
   have hxl:=hx x (by simp)
   cases j with
   | zero=>simp at hc; subst hc; simp[←hxl]
   | succ j=>
    have:=ih j c (fun c hc=>hx c (by simp[hc])) (by simpa using hc)
    rw[List.flatten_cons,Nat.succ_mul,Nat.add_comm,←hxl,←List.drop_drop,List.drop_left,hxl]; exact this
 rw [if_pos (by rw [hlen rows hr]; calc j * es + es = (j + 1) * es := by rw [Nat.add_mul]; omega
                                        _≤rows.length*es:=Nat.mul_le_mul_right _ hjl),key rows j c hr hc]
theorem aD{α:Type}{l:List α}{i:Nat}{x:α}(e:l[i]? = some x):i<l.length:=(List.getElem?_eq_some_iff.1 e).1
theorem Sl.lt{es:Nat}{v:AV}{rows:List (List AV)}(s:Sl w0 h es v rows){j:Nat}(hj:j<rows.length):∃p:Pl,cF es v (some j)=some (.ptr p)∧∀L c,rows[j]? = some c→rdn w0 (h++L) p es=some c:=by
 obtain⟨_,p,h1,h2,_⟩:=s.use
 exact⟨_,h1 j hj,fun L c hc=>cK (h2 j c hc)⟩
def SlI(w0:World)(h:Heap)(v:AV)(l:List Int):Prop:=Sl w0 h 1 v (l.map fun z=>[.int .i64 z])
theorem SlI.use{v:AV}{l:List Int}(s:SlI w0 h v l):dA v=some (.int .i64 l.length)∧∃q:Pl,(∀j,j<l.length→cF 1 v (some j)=some (.ptr (q.add j)))∧∀j (hj:j<l.length) L,rd w0 (h++L) (q.add j)=some (.int .i64 l[j]):=by
 obtain⟨ln,q,ix,row,_⟩:=Sl.use s
 simp only[List.length_map,Nat.mul_one]at ln ix row
 refine⟨ln,q,ix,fun j hj L=> ?_⟩
 have:=dG (row j [.int .i64 l[j]] (by simp[hj])) (o:=0) (x:= .int .i64 l[j]) rfl
 rw[show(q.add j).add 0=q.add j by rw[Pl.add_add]; rfl]at this
 exact fT this
theorem qM{H:Heap}{es b n io k:Nat}{ov:AV}{vs x:List AV}{f:Bool}(hov:n=0∧ov= .nilS∧vs=[]∨n≠0∧ov= .sl (.own io 0) n es false∧H[io]? = some (some (.row vs))∧vs.length=n*es)
 (hk:H[k]? = some (some (.row x))) (hx:x.length=es) (ho:x.all one=true) (hb:b≤1000000) (hn:n≤1000000) :
 ∃G,eD w0 H es b ov (.sl (.own k 0) 1 es f)=some (.sl (.own H.length 0) (n+1) es false,G)∧G.length=H.length+1∧G[H.length]? = some (some (.row (vs++x)))∧∀(i:Nat) c,(n≠0→i≠io)→H[i]? = some (some c)→G[i]? = some (some c):=by
 have r1:rdn w0 H (.own k 0) (1*es)=some x:=by
  simp only[rdn,hk]; simp[hx]; rw[←hx]; simp
 rcases hov with⟨h1,h2,h3⟩ | ⟨h1,h2,h3,h4⟩
 ·subst h1; subst h2; subst h3
  refine⟨H++[some (.row x)],?_,by simp,by simp,fun i c _ e=>aA e⟩
  simp only[eD,srcOf,mF,if_true,r1,Option.map_some,Option.bind_some]
  rw[if_neg (by omega),if_pos ⟨by omega,ho⟩]
  simp[mN]
 ·have hlt:=aD h3
  have r2:rdn w0 H (.own io 0) (n*es)=some vs:=by
   simp only[rdn,h3]; simp[h4]; rw[←h4]; simp
  have hsz:(n+1)*(b+1)≤2^40:=Nat.le_trans (Nat.mul_le_mul (show n+1≤1000001 by omega) (show b+1≤1000001 by omega)) (by decide)
  refine⟨H.set io none++[some (.row (vs++x))],?_,by simp,by simp,fun i c hi e=> ?_⟩
  ·rw[h2]
   simp only[eD,srcOf,mF,if_true,r1,Option.map_some,Option.bind_some]
   rw[if_neg (by omega),if_pos ⟨trivial,hsz,ho⟩]
   simp only[Bool.false_eq_true,if_false,r2,Option.bind_some]
  ·refine aA ?_
   rw[qB fun e2=>hi h1 e2.symm]; exact e
structure Gro(h H:Heap)(es n:Nat)(ov:AV)(vs:List AV):Prop where
 sub:aB h H
 own:n=0∧ov= .nilS∧vs=[]∨∃io,h.length≤io∧n≠0∧ov= .sl (.own io 0) n es false∧H[io]? = some (some (.row vs))∧vs.length=n*es
theorem Gro.nil{H:Heap}{es:Nat}(s:aB h H):Gro h H es 0 .nilS []:=⟨s,.inl ⟨rfl,rfl,rfl⟩⟩
theorem Gro.app{H L:Heap}{es n:Nat}{ov:AV}{vs:List AV}(g:Gro h H es n ov vs):Gro h (H++L) es n ov vs:=by
 refine⟨g.sub.app,?_⟩
 rcases g.own with h1 | ⟨io,h1,h2,h3,h4,h5⟩
 ·exact .inl h1
 ·exact .inr ⟨io,h1,h2,h3,aA h4,h5⟩
theorem Gro.more{H:Heap}{es b n k:Nat}{ov:AV}{vs x:List AV}{f:Bool}(g:Gro h H es n ov vs)(hk:H[k]? = some (some (.row x)))(hx:x.length=es)(ho:x.all one=true)(hb:b≤1000000)(hn:n≤1000000) :
 ∃G,eD w0 H es b ov (.sl (.own k 0) 1 es f)=some (.sl (.own H.length 0) (n+1) es false,G)∧Gro h G es (n+1) (.sl (.own H.length 0) (n+1) es false) (vs++x):=by
 have hlen:vs.length=n*es:=by
  rcases g.own with⟨h1,_,h3⟩ | ⟨_,_,_,_,_,h5⟩
  ·subst h1; subst h3; simp
  ·exact h5
 have hov:∃io,(n≠0→h.length≤io)∧(n=0∧ov= .nilS∧vs=[]∨n≠0∧ov= .sl (.own io 0) n es false∧H[io]? = some (some (.row vs))∧vs.length=n*es):=by
  rcases g.own with h1 | ⟨io,h1,h2,h3,h4,h5⟩
  ·exact⟨0,fun h=>absurd h1.1 h,.inl h1⟩
  ·exact⟨io,fun _=>h1,.inr ⟨h2,h3,h4,h5⟩⟩
 obtain⟨io,hio,hov⟩:=hov
 obtain⟨G,e1,e2,e3,e4⟩:=qM (w0:=w0) (b:=b) (f:=f) hov hk hx ho hb hn
 have hs:=g.sub
 refine⟨G,e1,⟨⟨by have:=hs.1; omega,fun i c e=>e4 i c (fun h0=>by have:=hio h0; have:=aD e; omega) (hs.2 i c e)⟩,.inr ⟨H.length,hs.1,by omega,rfl,e3,by rw[List.length_append,hlen,hx,Nat.succ_mul]⟩⟩⟩
theorem Gro.sl{H:Heap}{es n:Nat}{ov:AV}{rows:List (List AV)}(g:Gro h H es n ov rows.flatten)(hr:∀c∈rows,c.length=es)(hn:n=rows.length)(hes:es≠0):Sl w0 H es ov rows:=by
 rcases g.own with⟨h1,h2,h3⟩ | ⟨io,h1,h2,h3,h4,h5⟩
 ·refine .inl ⟨h2,?_⟩
  rw[hn]at h1; exact List.eq_nil_of_length_eq_zero h1
 ·subst h3
  have hlt:=aD h4
  have e:H=H.take io++H.drop io:=(List.take_append_drop io H).symm
  have hl:(H.take io).length=io:=by rw[List.length_take]; omega
  have:=gN (w0:=w0) (h:=H.take io) rows (es:=es) false (L:=H.drop io) 0 (by rw[List.getElem?_drop,Nat.add_zero]; exact h4) hr
  rw[←e,hl,Nat.add_zero,←hn]at this
  exact this
theorem fQ(l:List Int):aN l=(l.map fun z=>[AV.int .i64 z]).flatten:=by
 induction l with
 | nil=>rfl
 | cons a l ih=>simp[aN]at ih ⊢; exact ih
theorem Gro.sli{H:Heap}{n:Nat}{ov:AV}{l:List Int}(g:Gro h H 1 n ov (aN l))(hn:n=l.length):SlI w0 H ov l:=by
 rw[fQ]at g
 exact g.sl (by simp) (by simpa using hn) (by omega)
theorem aDj{H:Heap}{es b:Nat}{rows:List (List AV)}{y:AV}(s:Sl w0 H es y rows)(hr:rows≠[])(ho:∀c∈rows,c.all one=true)(hb:b≤1000000)(hn2:rows.length≤1000000) :
 eD w0 H es b .nilS y=some (.sl (.own H.length 0) rows.length es false,H++[some (.row rows.flatten)]):=by
 rcases s with⟨s1,s2⟩ | ⟨q,full,s1,s2,s3⟩
 ·exact absurd s2 hr
 ·obtain⟨es',rfl,he⟩:=s1
  have hr2:=Sl.all hr s3
  have hne:rows.length≠0:=fun e=>hr (List.eq_nil_of_length_eq_zero e)
  have hsz:rows.length*(b+1)≤2^40:=Nat.le_trans (Nat.mul_le_mul hn2 (show b+1≤1000001 by omega)) (by decide)
  have ho2:rows.flatten.all one=true:=by
   rw[List.all_eq_true]; intro x hx
   obtain⟨c,hc,hx⟩:=List.mem_flatten.1 hx
   exact List.all_eq_true.1 (ho c hc) x hx
  simp only[eD,srcOf,he,if_true,hr2,Option.map_some,Option.bind_some]
  rw[if_neg hne,if_pos ⟨hsz,ho2⟩]
  simp[mN]
theorem kM{a:Nat}(ha:a<2^62):bin .and (.int .i64 (a:Int)) (.int .i64 1)=some (.int .i64 ((a % 2:Nat):Int)):=by
 simp only[bin,if_true,kI,nW]
 rw[show(BitVec.ofInt IntKind.i64.bits (a:Int) &&& BitVec.ofInt IntKind.i64.bits (1:Int)).toNat=a % 2 by
  rw[show(1:Int)=((1:Nat):Int)from rfl,BitVec.toNat_and,BitVec.ofInt_natCast,BitVec.ofInt_natCast,BitVec.toNat_ofNat,BitVec.toNat_ofNat,Nat.mod_eq_of_lt (a:=a),Nat.mod_eq_of_lt (a:=1)]
  ·exact Nat.and_one_is_mod a
  ·simp[IntKind.bits]
  ·simp[IntKind.bits]; omega]
 rw[tL (by omega)]
def Gr2(H:Heap)(es n io:Nat)(ov:AV)(vs:List AV):Prop:=n=0∧ov= .nilS∧vs=[]∨n≠0∧ov= .sl (.own io 0) n es false∧H[io]? = some (some (.row vs))∧vs.length=n*es
theorem Gr2.sub{G H:Heap}{es n io:Nat}{ov:AV}{vs:List AV}(g:Gr2 G es n io ov vs)(s:aB G H):Gr2 H es n io ov vs:=by
 rcases g with h1 | ⟨h1,h2,h3,h4⟩
 ·exact .inl h1
 ·exact .inr ⟨h1,h2,s.2 _ _ h3,h4⟩
def mk(n io:Nat)(H:Heap):Heap:=if n=0 then H else H.set io none
theorem Gr2.more{H:Heap}{es b n io k:Nat}{ov:AV}{vs x:List AV}{f:Bool}(g:Gr2 H es n io ov vs)(hk:H[k]? = some (some (.row x)))(hx:x.length=es)(ho:x.all one=true)(hb:b≤1000000)(hn:n≤1000000) :
 ∃G,eD w0 H es b ov (.sl (.own k 0) 1 es f)=some (.sl (.own H.length 0) (n+1) es false,G)∧Gr2 G es (n+1) H.length (.sl (.own H.length 0) (n+1) es false) (vs++x)∧aB (mk n io H) (mk (n+1) H.length G)∧G.length=H.length+1:=by
 have hlen:vs.length=n*es:=by
  rcases g with⟨h1,_,h3⟩ | ⟨_,_,_,h5⟩
  ·subst h1; subst h3; simp
  ·exact h5
 obtain⟨G,e1,e2,e3,e4⟩:=qM (w0:=w0) (b:=b) (f:=f) g hk hx ho hb hn
 refine⟨G,e1,.inr ⟨by omega,rfl,e3,by rw[List.length_append,hlen,hx,Nat.succ_mul]⟩,⟨?_,fun i c e=> ?_⟩,e2⟩
 ·simp only[mk]; split<;>(rw[if_neg (by omega)]; simp; omega)
 ·have hi:=aD e
  have hil:i<H.length:=by simp only[mk]at hi; split at hi<;>simpa using hi
  simp only[mk]at e ⊢
  rw[if_neg (by omega),qB (by omega)]
  split at e
  ·exact e4 i c (fun h=>absurd (by assumption) h) e
  ·by_cases h2:io=i
   ·subst h2
    rw[qF hil]at e; cases e
   ·rw[qB h2]at e
    exact e4 i c (fun _=>fun h=>h2 h.symm) e
theorem aB.set{G H:Heap}(s:aB G H)(i:Nat):aB (G.set i none) (H.set i none):=by
 refine⟨by simpa using s.1,fun j c e=> ?_⟩
 by_cases e2:i=j
 ·subst e2
  have hl:=aD e
  rw[qF (by simpa using hl)]at e; cases e
 ·rw[qB e2]at e ⊢; exact s.2 j c e
theorem aDW{n io:Nat}{H:Heap}:aB (mk n io H) H:=by unfold mk; split; exact aB.refl; exact aB.msk
theorem aBo{n io:Nat}{G H:Heap}(s:aB G H):aB (mk n io G) (mk n io H):=by unfold mk; split; exact s; exact s.set io
section
variable {fr:Fr}
def bdK(n:Nat)(l h:Option Nat)(m:Option (Option Nat)):Option (Nat×Nat×Option Nat):=match l,h,m with
 | some l,some h,none=>if l≤h∧h≤n then some (l,h,none)else none
 | some l,some h,some (some m)=>if l≤h∧h≤m∧m≤n then some (l,h,some m)else none
 | _,_,_=>none
@[go_sem] theorem bdK_2 {n l h:Nat}:bdK n (some l) (some h) none=if l≤h∧h≤n then some (l,h,none)else none:=(rfl)
@[go_sem] theorem bdK_3 {n l h m:Nat}:bdK n (some l) (some h) (some (some m))=if l≤h∧h≤m∧m≤n then some (l,h,some m)else none:=(rfl)
@[go_sem] theorem bounds_0 {n:Nat}:dF fr n none none none=some (0,n,none):=by simp[dF]
@[go_sem] theorem aDb {n:Nat} {y:Opd}:dF fr n none (some y) none=bdK n (some 0) (cH (y.ev fr)) none:=by
 simp only[dF,bdK]; cases cH (y.ev fr)<;>rfl
@[go_sem] theorem bounds_l {n:Nat} {x:Opd}:dF fr n (some x) none none=bdK n (cH (x.ev fr)) (some n) none:=by
 simp only[dF,bdK]; cases cH (x.ev fr)<;>rfl
@[go_sem] theorem bounds_lh {n:Nat} {x y:Opd}:dF fr n (some x) (some y) none=bdK n (cH (x.ev fr)) (cH (y.ev fr)) none:=by
 simp only[dF,bdK]; cases cH (x.ev fr)<;>cases cH (y.ev fr)<;>rfl
@[go_sem] theorem aAZ {n:Nat} {y z:Opd}:dF fr n none (some y) (some z)=bdK n (some 0) (cH (y.ev fr)) (some (cH (z.ev fr))):=by
 simp only[dF,bdK]; cases cH (y.ev fr)<;>cases cH (z.ev fr)<;>rfl
def slK(p:Pl)(len es:Nat)(full:Bool)(b:Option (Nat×Nat×Option Nat)):Option AV:=b.map fun b=> .sl (p.add (b.1*es)) (b.2.1 - b.1) es (fW b.2.2 b.2.1 (full&&b.2.1==len))
@[go_sem] theorem slcV_sl {es:Nat} {p:Pl} {len:Nat} {full:Bool} {lo hi mx:Option Opd}:aAg es fr (.sl p len es full) lo hi mx=slK p len es full (dF fr len lo hi mx):=by
 simp only[aAg,mF,if_true]; rfl
@[go_sem] theorem slK_s {p:Pl} {len es l h:Nat} {full:Bool} {m:Option Nat}:slK p len es full (some (l,h,m))=some (.sl (p.add (l*es)) (h - l) es (fW m h (full&&h==len))):=(rfl)
@[go_sem] theorem slK_i {p:Pl} {len es:Nat} {full:Bool} {c:Prop} [Decidable c] {x:Nat×Nat×Option Nat}:slK p len es full (if c then some x else none)=if c then slK p len es full (some x)else none:=by split<;>rfl
@[go_sem] theorem fullOf_n {h:Nat} {d:Bool}:fW none h d=d:=(rfl)
@[go_sem] theorem fullOf_s {m h:Nat} {d:Bool}:fW (some m) h d=(m==h):=(rfl)
def aFw(n es i o:Nat)(b:Option (Option Blk))(q:Option (Nat×Nat×Option Nat)):Option AV:=match b with
 | some (some (.row c))=>if o+n*es≤c.length then q.map fun b=> .sl (.own i (o+b.1*es)) (b.2.1 - b.1) es (fW b.2.2 b.2.1 (b.2.1==n))else none
 | _=>none
def aIw(n es:Nat)(x:AV)(h:Heap)(q:Option (Nat×Nat×Option Nat)):Option AV:=match x with
 | .ptr (.own i o)=>aFw n es i o h[i]? q
 | _=>none
@[go_sem] theorem slcaV_p {n es i o:Nat} {q:Option (Nat×Nat×Option Nat)}:aIw n es (.ptr (.own i o)) h q=aFw n es i o h[i]? q:=(rfl)
@[go_sem] theorem slcaB_r {n es i o l hh:Nat} {m:Option Nat} {c:List AV}:aFw n es i o (some (some (.row c))) (some (l,hh,m))=if o+n*es≤c.length then some (.sl (.own i (o+l*es)) (hh - l) es (fW m hh (hh==n)))else none:=(rfl)
@[go_sem] theorem aop_slca {n es:Nat} {x:Opd} {lo hi mx:Option Opd}:aop w0 (.slca n es x lo hi mx) fr h=onV (aIw n es (x.ev fr) h (dF fr n lo hi mx)) h:=by
 simp only[aop,aIw]
 generalize Opd.ev fr x=a
 generalize dF fr n lo hi mx=q
 cases a<;>try rfl
 rename_i p
 cases p with
 | old a=>rfl
 | own i o=>
  simp only[aFw]
  cases h[i]? with
  | none=>rfl
  | some b=>
   cases b with
   | none=>rfl
   | some b=>
    cases b with
    | row c=>
     simp only
     split
     ·cases q<;>rfl
     ·rfl
    | map es=>rfl
    | loop _ _ _ _ _ _ _=>rfl
end
theorem aDs{P:Program}(hm:P.follows .mixedOrders=true){f:FuncId}{mf:SF}(hf:tD P f=some mf.er)(hb:dH P f=true)(g:mf.body.good=true){args:List AV}(hn:args.length≤mf.nt){v:AV}{h1:Heap}(hle:h.length≤h1.length)(hhb:HB h→HB h1)
 (hv:v.bdd h1.length) (e:HB h→AV.bdds h.length args→sx P w0 none mf.nt h.length mf.body (dO args 0) (h++[]) (newK w0 mf.res h1 v)):aK P w0 f args h v h1:=by
 refine mM (qQ hm hf hb g hn fun b1 b2=>jT _ (e b1 b2) fun e fr h' q=> ?_)
 have:∀ {fr:Fr} {h':Heap},nP w0 fr h' mf.res [] (uS h1 v)→∃v',jN w0 mf.res fr h'=some v'∧∃h2 k,h'=h2++k∧h.length≤h2.length∧HB h2∧v'.bdd h2.length∧v'=v∧h2=h1:=fun q=>by
  obtain⟨v',q1,q2,k,q3⟩:=tT.2 q
  subst q2
  exact⟨v',q1,h1,k,q3,hle,hhb b1,hv,rfl,rfl⟩
 cases e with
 | normal=>exact this q
 | ret=>exact this q
 | _=>exact q.elim
theorem pF{α:Type}{l:List α}{i:Nat}{x:α}(h:l[i]? = some x):l.set i x=l:=by
 refine List.ext_getElem? fun k=> ?_
 rw[List.getElem?_set]
 split
 ·rename_i e; subst e; rw[if_pos (aD h),h]
 ·rfl
attribute [go_sem] Nat.reduceEqDiff Nat.reduceAdd Nat.reduceSub Nat.reduceMul Nat.reduceLT Nat.reduceLeDiff Int.reduceLE Int.reduceLT Int.reduceAdd Int.reduceSub Int.reduceMul Int.reduceEq Int.reduceBEq Int.reduceBNe Int.reduceNeg Int.reduceToNat reduceCtorEq
attribute [go_sem ↓] reduceIte
end Go.Proofs.Ab
namespace Go.Proofs.Ab
open Go Go.Proofs
variable {w0:World} {h:Heap}
attribute [local irreducible] ACall bE cR aK bI rvC lp rg dr ex un rv
theorem aE{α:Type}{l:List α}{i:Nat}{d:α}(h:i<l.length):l.getD i d=l[i]:=by rw[List.getD_eq_getElem?_getD,qA h]; rfl
def inB(x lo hi:Int):Bool:=decide (lo≤x)&&decide (x≤hi)
theorem Gro.put{H:Heap}{es n:Nat}{ov:AV}{vs:List AV}(g:Gro h H es n ov vs)(hn:n≠0):∃io,h.length≤io∧ov= .sl (.own io 0) n es false∧H[io]? = some (some (.row vs))∧vs.length=n*es∧∀vs':List AV,vs'.length=vs.length→Gro h (H.set io (some (.row vs'))) es n ov vs':=by
 rcases g.own with⟨h1,_⟩ | ⟨io,h1,h2,h3,h4,h5⟩
 ·exact absurd h1 hn
 ·refine⟨io,h1,h3,h4,h5,fun vs' hl=>⟨⟨by rw[List.length_set]; exact g.sub.1,fun i b e=> ?_⟩,.inr ⟨io,h1,h2,h3,?_,by rw[hl]; exact h5⟩⟩⟩
  ·have hi:=aD e
   rw[qB (by omega)]
   exact g.sub.2 i b e
  ·rw[qF (aD h4)]
theorem bZ{n:Nat}{p:Nat→Bool}:(List.range n).all p=true↔∀i,i<n→p i=true:=by
 rw[List.all_eq_true]; exact⟨fun x i hi=>x i (List.mem_range.2 hi),fun x i hi=>x i (List.mem_range.1 hi)⟩
theorem rd_0{p:Pl}{n:Nat}{l:List AV}(e:rdn w0 h p n=some l){x:AV}(hx:l[0]? = some x):rd w0 h p=some x:=by
 have:=dG e hx
 rwa [show p.add 0=p by cases p<;>simp[Pl.add,Addr.add]]at this
def NS{α:Type}(w0:World)(h:Heap)(es:Nat)(R:α→List AV→Prop)(v:AV)(l:List α):Prop:=
 ∃rows:List (List AV),rows.length=l.length∧Sl w0 h es v rows∧∀(j:Nat) x c,l[j]? = some x→rows[j]? = some c→R x c
section
variable {α:Type} {es:Nat} {R R':α→List AV→Prop} {v:AV} {l:List α}
theorem NS.mono{H:Heap}(s:NS w0 h es R v l)(t:aB h H)(m:∀x c,R x c→R' x c):NS w0 H es R' v l:=by
 obtain⟨rows,h1,h2,h3⟩:=s
 exact⟨rows,h1,h2.sub t,fun j x c a b=>m _ _ (h3 j x c a b)⟩
theorem NS.len(s:NS w0 h es R v l):dA v=some (.int .i64 l.length):=by
 obtain⟨rows,h1,h2,h3⟩:=s
 have:=h2.use.1
 rw[h1]at this; exact this
theorem NS.bdd(s:NS w0 h es R v l){N:Nat}(hN:h.length≤N):v.bdd N:=by
 obtain⟨rows,h1,h2,h3⟩:=s
 exact h2.bdd hN
theorem NS.one(s:NS w0 h es R v l):Ab.one v=true∧cellsOf v=some [v]:=by
 obtain⟨rows,h1,h2,h3⟩:=s
 exact h2.one
theorem NS.at_(s:NS w0 h es R v l){j:Nat}(hj:j<l.length):∃(p:Pl) (c:List AV),cF es v (some j)=some (.ptr p)∧(∀L,rdn w0 (h++L) p es=some c)∧R l[j] c:=by
 obtain⟨rows,h1,h2,h3⟩:=s
 obtain⟨p,p1,p2⟩:=h2.lt (j:=j) (by omega)
 obtain⟨c,hc⟩:∃c,rows[j]? = some c:=⟨_,qA (by omega)⟩
 exact⟨p,c,p1,fun L=>p2 L c hc,h3 j _ c (qA hj) hc⟩
theorem NS.nil:NS w0 h es R .nilS ([]:List α):=⟨[],rfl,.inl ⟨rfl,rfl⟩,fun j x c a b=>by simp at a⟩
end
theorem Gro.gr2{H:Heap}{es n:Nat}{ov:AV}{vs:List AV}(g:Gro h H es n ov vs):∃io,h.length≤io∧Gr2 H es n io ov vs:=by
 rcases g.own with h1 | ⟨io,h1,h2,h3,h4,h5⟩
 ·exact⟨h.length,Nat.le_refl _,.inl h1⟩
 ·exact⟨io,h1,.inr ⟨h2,h3,h4,h5⟩⟩
theorem Gr2.mask{H:Heap}{es n io i:Nat}{ov:AV}{vs:List AV}(g:Gr2 H es n io ov vs)(hi:i≠io):Gr2 (H.set i none) es n io ov vs:=by
 rcases g with h1 | ⟨h1,h2,h3,h4⟩
 ·exact .inl h1
 ·exact .inr ⟨h1,h2,by rw[qB hi]; exact h3,h4⟩
theorem Gr2.gro{H:Heap}{es n io:Nat}{ov:AV}{vs:List AV}(g:Gr2 H es n io ov vs):Gro [] H es n ov vs:=by
 refine⟨⟨Nat.zero_le _,fun i b e=>by simp at e⟩,?_⟩
 rcases g with h1 | ⟨h1,h2,h3,h4⟩
 ·exact .inl h1
 ·exact .inr ⟨io,Nat.zero_le _,h1,h2,h3,h4⟩
theorem Gr2.sl{H:Heap}{es n io:Nat}{ov:AV}{rows:List (List AV)}(g:Gr2 H es n io ov rows.flatten)(hr:∀c∈rows,c.length=es)(hn:n=rows.length)(hes:es≠0):Sl w0 H es ov rows:=g.gro.sl hr hn hes
theorem Gro.masked{H:Heap}{es n j io:Nat}{ov:AV}{vs:List AV}(g:Gro h H es n ov vs)(hio:j≠0→io<h.length):∃io2,Gr2 (Ab.mk j io H) es n io2 ov vs:=by
 obtain⟨io2,h1,h2⟩:=g.gr2
 refine⟨io2,?_⟩
 unfold Ab.mk
 split
 ·exact h2
 ·rename_i hj
  exact h2.mask (by have:=hio hj; omega)
structure GN{α:Type}(w0:World)(K:Heap)(R:Heap→α→List AV→Prop)(H:Heap)(es io:Nat)(ov:AV)(l:List α):Prop where
 make ::
 sub:aB K (mk l.length io H)
 ex:∃rows:List (List AV),rows.length=l.length∧Gr2 H es l.length io ov rows.flatten∧(∀c∈rows,c.length=es)∧∀(j:Nat) x c,l[j]? = some x→rows[j]? = some c→R (mk l.length io H) x c
section
variable {α:Type} {R:Heap→α→List AV→Prop}
theorem GN.nil{K H:Heap}{es io:Nat}(s:aB K H):GN w0 K R H es io .nilS ([]:List α):=
 ⟨by simpa[mk]using s,[],rfl,.inl ⟨rfl,rfl,rfl⟩,by simp,fun j x c a b=>by simp at a⟩
theorem GN.ns{K H:Heap}{es io:Nat}{ov:AV}{l:List α}(g:GN w0 K R H es io ov l)(hm:∀ {A B:Heap} {x c},aB A B→R A x c→R B x c)(hes:es≠0):NS w0 H es (R H) ov l:=by
 obtain⟨rows,h1,h2,h3,h4⟩:=g.ex
 exact⟨rows,h1,h2.sl h3 h1.symm hes,fun j x c a b=>hm aDW (h4 j x c a b)⟩
theorem GN.more{K H:Heap}{es io:Nat}{ov:AV}{l:List α}(g:GN w0 K R H es io ov l){G:Heap}{es' b:Nat}{k:Nat}{f:Bool}{x:α}{c:List AV}(hs:aB (mk l.length io H) (mk l.length io G))(hown:Gr2 G es l.length io ov ((g.ex.choose).flatten))
 (hm:∀ {A B:Heap} {x c},aB A B→R A x c→R B x c) (hk:G[k]? = some (some (.row c))) (hc:c.length=es) (ho:c.all one=true) (hx:R (mk l.length io G) x c) (hb:b≤1000000) (hn:l.length≤1000000) :
 ∃G',eD w0 G es b ov (.sl (.own k 0) 1 es f)=some (.sl (.own G.length 0) (l.length+1) es false,G')∧GN w0 K R G' es G.length (.sl (.own G.length 0) (l.length+1) es false) (l++[x])∧aB (mk l.length io G) (mk (l.length+1) G.length G')∧G'.length=G.length+1:=by
 obtain⟨G',e1,e2,e3,e4⟩:=hown.more (w0:=w0) (b:=b) (f:=f) hk hc ho hb hn
 have hsp:=g.ex.choose_spec
 obtain⟨h1,h2,h3,h4⟩:=hsp
 refine⟨G',e1,⟨by rw[List.length_append,List.length_singleton]; exact(g.sub.trans hs).trans e3,g.ex.choose++[c],by simp[h1],by
  rw[List.length_append,List.length_singleton,List.flatten_append]; simpa using e2,fun d hd=> ?_,fun j y d hy hd=> ?_⟩,e3,e4⟩
 ·rcases List.mem_append.1 hd with hd | hd
  ·exact h3 d hd
  ·rw[List.mem_singleton.1 hd]; exact hc
 ·rw[List.length_append,List.length_singleton]
  have hj:=aD hy
  rw[List.length_append,List.length_singleton]at hj
  by_cases hjl:j<l.length
  ·rw[qH hjl]at hy
   rw[qH (by rw[h1]; exact hjl)]at hd
   exact hm (hs.trans e3) (h4 j y d hy hd)
  ·obtain rfl:j=l.length:=by omega
   rw[qI (Nat.le_refl _),Nat.sub_self]at hy
   rw[qI (by rw[h1]; exact Nat.le_refl _),h1,Nat.sub_self]at hd
   simp at hy hd
   subst hy; subst hd
   exact hm e3 hx
theorem GN.sub'{K H G:Heap}{es io:Nat}{ov:AV}{l:List α}(g:GN w0 K R H es io ov l)(s:aB H G)(hm:∀ {A B:Heap} {x c},aB A B→R A x c→R B x c):GN w0 K R G es io ov l:=by
 obtain⟨rows,h1,h2,h3,h4⟩:=g.ex
 exact⟨g.sub.trans (aBo s),rows,h1,h2.sub s,h3,fun j x c a b=>hm (aBo s) (h4 j x c a b)⟩
theorem GN.lt{K H:Heap}{es io:Nat}{ov:AV}{l:List α}(g:GN w0 K R H es io ov l)(h:l.length≠0):io<H.length:=by
 obtain⟨rows,h1,h2,h3,h4⟩:=g.ex
 rcases h2 with h2 | ⟨_,_,h2,_⟩
 ·exact absurd h2.1 h
 ·exact aD h2
theorem GN.push{K G:Heap}{es io:Nat}{ov:AV}{l:List α}(g:GN w0 K R G es io ov l){b:Nat}{k:Nat}{f:Bool}{x:α}{c:List AV}
 (hm:∀ {A B:Heap} {x c},aB A B→R A x c→R B x c) (hk:G[k]? = some (some (.row c))) (hc:c.length=es) (ho:c.all one=true) (hx:R (mk l.length io G) x c) (hb:b≤1000000) (hn:l.length≤1000000) :
 ∃G',eD w0 G es b ov (.sl (.own k 0) 1 es f)=some (.sl (.own G.length 0) (l.length+1) es false,G')∧GN w0 K R G' es G.length (.sl (.own G.length 0) (l.length+1) es false) (l++[x])∧aB (mk l.length io G) (mk (l.length+1) G.length G')∧G'.length=G.length+1:=
 g.more (es':=0) aB.refl g.ex.choose_spec.2.1 hm hk hc ho hx hb hn
end
theorem fY{H:Heap}{es io:Nat}{full:Bool}{rows:List (List AV)}(hi:H[io]? = some (some (.row rows.flatten)))(hr:∀c∈rows,c.length=es):Sl w0 H es (.sl (.own io 0) rows.length es full) rows:=by
 have hlt:=aD hi
 have e:H=H.take io++H.drop io:=(List.take_append_drop io H).symm
 have hl:(H.take io).length=io:=by rw[List.length_take]; omega
 have:=gN (w0:=w0) (h:=H.take io) rows (es:=es) full (L:=H.drop io) 0 (by rw[List.getElem?_drop,Nat.add_zero]; exact hi) hr
 rw[←e,hl,Nat.add_zero]at this
 exact this
structure SlO(w0:World)(h:Heap)(v:AV)(l:List Int):Prop where
 s:SlI w0 h v l
 e:l=[]→srcOf w0 h 1 v=some (0,[])
theorem SlO.sub{H:Heap}{v:AV}{l:List Int}(a:SlO w0 h v l)(t:aB h H):SlO w0 H v l:=by
 refine⟨Sl.sub a.s t,fun e=> ?_⟩
 have:=a.e e
 cases v<;>simp only[srcOf]at this ⊢
 all_goals first
  | exact this
  | (split at this
     ·rename_i h1
      rw[if_pos h1]
      simp only[qD,Prod.mk.injEq]at this ⊢
      obtain⟨x,h2,h3,h4⟩:=this
      exact⟨x,t.rdn h2,h3,h4⟩
     ·cases this)
  | cases this
theorem aB.setR{G H:Heap}(s:aB G H){i:Nat}{x:Option Blk}(hi:G.length≤i):aB G (H.set i x):=
 ⟨by rw[List.length_set]; exact s.1,fun j c e=>by rw[qB (by have:=aD e; omega)]; exact s.2 j c e⟩
theorem Gr2.keep{G H:Heap}{es n io:Nat}{ov:AV}{vs:List AV}(g:Gr2 G es n io ov vs)(s:∀c,G[io]? = some (some c)→H[io]? = some (some c)):Gr2 H es n io ov vs:=by
 rcases g with h1 | ⟨h1,h2,h3,h4⟩
 ·exact .inl h1
 ·exact .inr ⟨h1,h2,s _ h3,h4⟩
theorem Gr2.one{H:Heap}{es n io:Nat}{ov:AV}{vs:List AV}(g:Gr2 H es n io ov vs):Ab.one ov=true∧cellsOf ov=some [ov]:=by
 rcases g with⟨_,rfl,_⟩ | ⟨_,rfl,_⟩<;>exact⟨rfl,rfl⟩
theorem Gro.gro1{K H:Heap}{es n:Nat}{ov:AV}{vs:List AV}(g:Gro K H es n ov vs):Ab.one ov=true∧cellsOf ov=some [ov]:=by
 rcases g.own with⟨_,rfl,_⟩ | ⟨_,_,_,rfl,_⟩<;>exact⟨rfl,rfl⟩
theorem Gro.at1{K H:Heap}{es n i:Nat}{ov:AV}{vs:List AV}{b:Blk}(g:Gro K H es n ov vs)(hi:H[i]? = some (some b)):Gro (K.set i (some b)) H es n ov vs:=by
 refine⟨⟨by rw[List.length_set]; exact g.sub.1,fun j c e=> ?_⟩,?_⟩
 ·by_cases e2:i=j
  ·subst e2
   rw[List.getElem?_set_self' ]at e
   cases e3:K[i]? with
   | none=>rw[e3]at e; cases e
   | some z=>rw[e3]at e; cases e; exact hi
  ·rw[qB e2]at e; exact g.sub.2 j c e
 ·rw[List.length_set]; exact g.own
theorem Gro.unat{K H:Heap}{es n i:Nat}{ov:AV}{vs:List AV}{b:Blk}(g:Gro (K.set i (some b)) H es n ov vs)(hi:K[i]? = some none):Gro K H es n ov vs∧H[i]? = some (some b):=by
 have hlt:=aI hi
 refine⟨⟨⟨by have:=g.sub.1; rwa [List.length_set]at this,fun j c e=> ?_⟩,?_⟩,g.sub.2 _ _ (qF hlt)⟩
 ·refine g.sub.2 j c ?_
  rw[qB (fun e2=>by subst e2; rw[hi]at e; cases e)]; exact e
 ·have:=g.own
  rwa [List.length_set]at this
theorem Gro.setN{K H:Heap}{es n i:Nat}{ov:AV}{vs:List AV}{b:Option Blk}(g:Gro K H es n ov vs)(hi:K[i]? = some none):Gro K (H.set i b) es n ov vs:=by
 have hlt:=aI hi
 refine⟨⟨by rw[List.length_set]; exact g.sub.1,fun j c e=> ?_⟩,?_⟩
 ·rw[qB (fun e2=>by subst e2; rw[hi]at e; cases e)]; exact g.sub.2 j c e
 ·rcases g.own with h1 | ⟨io,h1,h2,h3,h4,h5⟩
  ·exact .inl h1
  ·exact .inr ⟨io,h1,h2,h3,by rw[qB (by omega)]; exact h4,h5⟩
theorem Gro.slo{K H:Heap}{n:Nat}{ov:AV}{l:List Int}(g:Gro K H 1 n ov (aN l))(hn:n=l.length):SlO w0 H ov l:=by
 refine⟨g.sli hn,fun e=> ?_⟩
 rcases g.own with⟨_,rfl,_⟩ | ⟨io,_,h0,_⟩
 ·rfl
 ·subst e; exact absurd hn h0
theorem SlI.at_{x:AV}{l:List Int}(a:SlI w0 h x l){j:Nat}(hj:j<l.length):∃p:Pl,cF 1 x (some j)=some (.ptr p)∧(∀L,rd w0 (h++L) p=some (.int .i64 l[j]))∧rd w0 h p=some (.int .i64 l[j]):=by
 obtain⟨_,q,qi,qr⟩:=SlI.use a
 have:=qr j hj []
 rw[List.append_nil]at this
 exact⟨_,qi j hj,qr j hj,this⟩
theorem aAJ{ms:List Nat}{A B:Heap}(s:aB A B):aB (msk ms A) (msk ms B):=vO s.1 fun i b _ e=>s.2 i b e
theorem aB.set2{A B:Heap}{i:Nat}(s:aB A B)(hi:i<A.length):aB (A.set i none) (B.set i none):=⟨by simp only[List.length_set]; exact s.1,fun j b e=>by
 by_cases q:i=j
 ·subst q; rw[qF hi]at e; cases e
 ·rw[qB q]at e ⊢; exact s.2 _ _ e⟩
structure OL{α:Type}(w0:World)(R:Heap→α→List AV→Prop)(H:Heap)(es io:Nat)(ov:AV)(l:List α):Prop where
 ex:∃(rows:List (List AV)) (f:Bool),rows.length=l.length∧ov= .sl (.own io 0) l.length es f∧H[io]? = some (some (.row rows.flatten))∧(∀c∈rows,c.length=es∧c.all one=true)∧∀(j:Nat) x c,l[j]? = some x→rows[j]? = some c→R (H.set io none) x c
section
variable {α:Type} {R:Heap→α→List AV→Prop}
theorem OL.one{H:Heap}{es k:Nat}{f:Bool}{x:α}{c:List AV}(hk:H[k]? = some (some (.row c)))(hc:c.length=es)(ho:c.all Ab.one=true)(hx:R (H.set k none) x c):OL w0 R H es k (.sl (.own k 0) 1 es f) [x]:=
 ⟨[c],f,rfl,rfl,by simpa using hk,fun d hd=>by simp only[List.mem_singleton]at hd; subst hd; exact⟨hc,ho⟩,fun j y d hy hd=>by
  have:=aD hy
  obtain rfl:j=0:=by simpa using this
  simp at hy hd
  subst hy; subst hd; exact hx⟩
theorem OL.ns{H:Heap}{es io:Nat}{ov:AV}{l:List α}(g:OL w0 R H es io ov l)(hm:∀ {A B:Heap} {x c},aB A B→R A x c→R B x c):NS w0 H es (R H) ov l:=by
 obtain⟨rows,f,h1,h2,h3,h4,h5⟩:=g.ex
 refine⟨rows,h1,?_,fun j x c a b=>hm aB.msk (h5 j x c a b)⟩
 rw[h2,←h1]
 exact fY h3 fun c hc=>(h4 c hc).1
theorem OL.lt{H:Heap}{es io:Nat}{ov:AV}{l:List α}(g:OL w0 R H es io ov l):io<H.length:=by
 obtain⟨rows,f,h1,h2,h3,h4,h5⟩:=g.ex
 exact aD h3
theorem OL.sub'{H G:Heap}{es io:Nat}{ov:AV}{l:List α}(g:OL w0 R H es io ov l)(s:aB H G)(hm:∀ {A B:Heap} {x c},aB A B→R A x c→R B x c):OL w0 R G es io ov l:=by
 obtain⟨rows,f,h1,h2,h3,h4,h5⟩:=g.ex
 exact⟨rows,f,h1,h2,s.2 _ _ h3,h4,fun j x c a b=>hm (s.set2 (aD h3)) (h5 j x c a b)⟩
theorem OL.more{H:Heap}{es io b:Nat}{ov y:AV}{l l':List α}(g:OL w0 R H es io ov l)(hm:∀ {A B:Heap} {x c},aB A B→R A x c→R B x c)(ho:∀ {A:Heap} {x c},R A x c→c.all Ab.one=true)(hcl:∀ {A:Heap} {x c},R A x c→c.length=es)
 (s:NS w0 (H.set io none) es (R (H.set io none)) y l') (hne:l'≠[]) (hb:b≤1000000) (hn:l.length+l'.length≤1000000) :
 ∃G,eD w0 H es b ov y=some (.sl (.own H.length 0) (l.length+l'.length) es false,G)∧OL w0 R G es H.length (.sl (.own H.length 0) (l.length+l'.length) es false) (l++l')∧aB (H.set io none) (G.set H.length none)∧G.length=H.length+1:=by
 obtain⟨rows,f,h1,h2,h3,h4,h5⟩:=g.ex
 obtain⟨rows',r1,r2,r3⟩:=s
 have hlt:=aD h3
 have hrne:rows'≠[]:=fun e=>hne (List.eq_nil_of_length_eq_zero (by rw[←r1,e]; rfl))
 have hr':∀c∈rows',c.length=es∧c.all Ab.one=true:=fun c hc=>by
  obtain⟨j,hj,e⟩:=List.mem_iff_getElem.1 hc
  have e1:rows'[j]? = some c:=by rw[qA hj,e]
  have e2:=qA (show j<l'.length by omega)
  exact⟨hcl (r3 j _ c e2 e1),ho (r3 j _ c e2 e1)⟩
 have hp:rdn w0 H (.own io 0) (l.length*es)=some rows.flatten:=by
  have:rows.flatten.length=l.length*es:=by
   rw[←h1]
   clear h1 h2 h3 h5
   induction rows with
   | nil=>simp
   | cons c rows ih=>rw[List.flatten_cons,List.length_append,ih fun d hd=>h4 d (by simp[hd]),(h4 c (by simp)).1,List.length_cons,Nat.succ_mul]; omega
  simp only[rdn,h3]
  rw[if_pos (by omega),List.drop_zero,←this,List.take_length]
 have key:∀G:Heap,G.length=H.length+1→(∀i c,i≠io→H[i]? = some (some c)→G[i]? = some (some c))→G[H.length]? = some (some (.row (rows.flatten++rows'.flatten))) →
  OL w0 R G es H.length (.sl (.own H.length 0) (l.length+l'.length) es false) (l++l')∧aB (H.set io none) (G.set H.length none):=fun G g1 g2 g3=>by
  have hs:aB (H.set io none) (G.set H.length none):=by
   refine⟨by simp only[List.length_set]; omega,fun i c e=> ?_⟩
   have hi:=aD e
   rw[List.length_set]at hi
   rw[qB (by omega)]
   by_cases q:io=i
   ·subst q; rw[qF hlt]at e; cases e
   ·rw[qB q]at e
    exact g2 i c (Ne.symm q) e
  refine⟨⟨rows++rows',false,by simp[h1,r1],by simp,by simpa using g3,fun c hc=> ?_,fun j x c hx hc=> ?_⟩,hs⟩
  ·rcases List.mem_append.1 hc with hc | hc
   ·exact h4 c hc
   ·exact hr' c hc
  ·by_cases hj:j<l.length
   ·rw[qH hj]at hx
    rw[qH (by omega)]at hc
    exact hm hs (h5 j x c hx hc)
   ·rw[qI (by omega)]at hx
    rw[qI (by omega),h1]at hc
    exact hm hs (r3 _ x c hx hc)
 have r2H:Sl w0 H es y rows':=r2.sub aB.msk
 cases f with
 | true=>
  have:=zT (b:=b) r2H hrne (fun c hc=>(hr' c hc).2) hp hb (by omega)
  rw[r1]at this
  refine⟨_,by rw[h2]; exact this,?_⟩
  obtain⟨k1,k2⟩:=key (H++[some (.row (rows.flatten++rows'.flatten))]) (by simp) (fun i c _ e=>aA e) (by simp)
  exact⟨k1,k2,by simp⟩
 | false=>
  rcases r2H with⟨_,e⟩ | ⟨q,full,s1,s2,s3⟩
  ·exact absurd e hrne
  obtain⟨es',rfl,he⟩:=s1
  have hr2:=Sl.all hrne s3
  have hne2:rows'.length≠0:=fun e=>hrne (List.eq_nil_of_length_eq_zero e)
  have hsz:(l.length+rows'.length)*(b+1)≤2^40:=Nat.le_trans (Nat.mul_le_mul (show l.length+rows'.length≤1000001 by omega) (show b+1≤1000001 by omega)) (by decide)
  have ho2:rows'.flatten.all Ab.one=true:=by
   rw[List.all_eq_true]; intro x hx
   obtain⟨c,hc,hx⟩:=List.mem_flatten.1 hx
   exact List.all_eq_true.1 (hr' c hc).2 x hx
  have ea:eD w0 H es b (.sl (.own io 0) l.length es false) (.sl q rows'.length es' full)=some (.sl (.own H.length 0) (l.length+l'.length) es false,H.set io none++[some (.row (rows.flatten++rows'.flatten))]):=by
   simp only[eD,srcOf,he,mF,if_true,hr2,Option.map_some,Option.bind_some]
   rw[if_neg hne2,if_pos ⟨trivial,hsz,ho2⟩]
   simp only[Bool.false_eq_true,if_false,hp,Option.bind_some]
   simp[r1]
  refine⟨_,by rw[h2]; exact ea,?_⟩
  obtain⟨k1,k2⟩:=key (H.set io none++[some (.row (rows.flatten++rows'.flatten))]) (by simp) (fun i c q e=>aA (by rw[qB (Ne.symm q)]; exact e)) (by simp)
  exact⟨k1,k2,by simp⟩
end
theorem aMb{H:Heap}{b:List Int}{io n:Nat}{f:Bool}(e:H[io]? = some (some (.row (aN b))))(hn:n=b.length):SlI w0 H (.sl (.own io 0) n 1 f) b:=by
 have:=fY (w0:=w0) (H:=H) (es:=1) (io:=io) (full:=f) (rows:=b.map fun z=>[AV.int .i64 z]) (by rw[e,fQ]) (by intro c hc; obtain⟨a,_,rfl⟩:=List.mem_map.1 hc; rfl)
 rw[List.length_map]at this
 rw[hn]; exact this
theorem OL.push{α:Type}{R:Heap→α→List AV→Prop}{H:Heap}{es io b:Nat}{ov:AV}{l:List α}{x:α}{c:List AV}{f:Bool}(g:OL w0 R H es io ov l)(hm:∀ {A B:Heap} {x c},aB A B→R A x c→R B x c)(ho:∀ {A:Heap} {x c},R A x c→c.all Ab.one=true)(hcl:∀ {A:Heap} {x c},R A x c→c.length=es)
 (hx:R (H.set io none) x c) (hb:b≤1000000) (hn:l.length+1≤1000000) :
 ∃G,eD w0 (H++[some (.row c)]) es b ov (.sl (.own H.length 0) 1 es f)=some (.sl (.own (H.length+1) 0) (l.length+1) es false,G)∧OL w0 R G es (H.length+1) (.sl (.own (H.length+1) 0) (l.length+1) es false) (l++[x])∧aB (H.set io none) (G.set (H.length+1) none)∧G.length=H.length+2:=by
 have hio:=g.lt
 obtain⟨H1,eH1⟩:∃H1,H1=H++[some (Blk.row c)]:=⟨_,rfl⟩
 have s1:aB H H1:=eH1▸aB.refl.app
 have k1:H1[H.length]? = some (some (.row c)):=by rw[eH1]; simp
 have l1:H1.length=H.length+1:=by rw[eH1]; simp
 have hs:aB (H.set io none) (H1.set io none):=s1.set2 hio
 have hns:NS w0 (H1.set io none) es (R (H1.set io none)) (.sl (.own H.length 0) 1 es f) [x]:=by
  refine⟨[c],rfl,fY (rows:=[c]) (by rw[qB (by omega)]; simpa using k1) (fun d hd=>by simp only[List.mem_singleton]at hd; subst hd; exact hcl hx),fun j y d hy hd=> ?_⟩
  have:=aD hy
  obtain rfl:j=0:=by simpa using this
  simp at hy hd
  subst hy; subst hd; exact hm hs hx
 obtain⟨G,a1,a2,a3,a4⟩:=(g.sub' s1 hm).more (b:=b) hm ho hcl hns (by simp) hb (by simpa using hn)
 rw[l1]at a1 a2 a3 a4
 rw[←eH1]
 exact⟨G,a1,a2,hs.trans a3,a4⟩
structure lI where
 arm:Int
 most:Int
structure gW where
 w:Int
 m:Int
structure iF where
 st:Int
 lo:Int
 hi:Int
structure aZ where
 empty:Int
 moment:Int
 takeoff:Int
 landing:Int
 cor:List gW
 sta:List lI
 tank:lI
 reserve:Int
 flo:List lI
structure dV where
 items:List iF
 pump:Bool
 fuel:Int
 blo:Int
 bhi:Int
 llo:Int
 lhi:Int
@[go_sem] def lI.c (s:lI):List AV:=[.int .i64 s.arm,.int .i64 s.most]
@[go_sem] def gW.c (s:gW):List AV:=[.int .i64 s.w,.int .i64 s.m]
@[go_sem] def iF.c (s:iF):List AV:=[.int .i64 s.st,.int .i64 s.lo,.int .i64 s.hi]
@[go_sem] def aZ.c (p:aZ) (cv sv fv:AV):List AV:=[.int .i64 p.empty,.int .i64 p.moment,.int .i64 p.takeoff,.int .i64 p.landing,cv,sv,.int .i64 p.tank.arm,.int .i64 p.tank.most,.int .i64 p.reserve,fv]
@[go_sem] def dV.c (l:dV) (iv:AV):List AV:=[iv,.bool l.pump,.int .i64 l.fuel,.int .i64 l.blo,.int .i64 l.bhi,.int .i64 l.llo,.int .i64 l.lhi]
structure jI(w0:World)(h:Heap)(p:aZ)(cv sv fv:AV):Prop where
 c:Sl w0 h 2 cv (p.cor.map gW.c)
 s:Sl w0 h 2 sv (p.sta.map lI.c)
 f:Sl w0 h 2 fv (p.flo.map lI.c)
theorem jI.sub{H:Heap}{p:aZ}{cv sv fv:AV}(a:jI w0 h p cv sv fv)(s:aB h H):jI w0 H p cv sv fv:=⟨a.c.sub s,a.s.sub s,a.f.sub s⟩
structure SlZ(w0:World)(h:Heap)(es:Nat)(v:AV)(rows:List (List AV)):Prop where
 s:Sl w0 h es v rows
 e:rows=[]→srcOf w0 h es v=some (0,[])
theorem SlZ.sub{H:Heap}{es:Nat}{v:AV}{rows:List (List AV)}(a:SlZ w0 h es v rows)(t:aB h H):SlZ w0 H es v rows:=by
 refine⟨a.s.sub t,fun e=> ?_⟩
 have:=a.e e
 revert this
 unfold srcOf
 split
 ·exact id
 ·split
  ·intro hh
   simp only[qD]at hh ⊢
   obtain⟨l,h1,h2⟩:=hh
   exact⟨l,t.rdn h1,h2⟩
  ·exact id
 ·exact id
def LegR(w0:World)(h:Heap)(l:dV)(c:List AV):Prop:=∃iv,c=l.c iv∧SlZ w0 h 3 iv (l.items.map iF.c)
def lA(w0:World)(h:Heap)(v:AV)(l:List dV):Prop:=NS w0 h 7 (LegR w0 h) v l
theorem lA.sub{G H:Heap}{v:AV}{l:List dV}(s:lA w0 G v l)(t:aB G H):lA w0 H v l:=NS.mono s t fun _ _ ⟨iv,e,a⟩=>⟨iv,e,a.sub t⟩
theorem lA.at_{v:AV}{l:List dV}(s:lA w0 h v l){j:Nat}(hj:j<l.length):∃(p:Pl) (iv:AV),cF 7 v (some j)=some (.ptr p)∧(∀L,rdn w0 (h++L) p 7=some (l[j].c iv))∧rdn w0 h p 7=some (l[j].c iv)∧SlZ w0 h 3 iv (l[j].items.map iF.c):=by
 obtain⟨p,c,h1,h2,iv,rfl,h3⟩:=NS.at_ s hj
 exact⟨p,iv,h1,h2,by have:=h2 []; rwa [List.append_nil]at this,h3⟩
theorem aDl{l:List lI}{v fv:AV}{p:lI→Bool}(hv:Sl w0 h 2 v (l.map lI.c))(hn:l.length<1000000000000)(hf:∀x∈l,∀H,aB h H→bI Tryz.prog w0 fv [.agg x.c] H (.bool (p x)) H):aK Tryz.prog w0 152 [v,fv] h (.bool (l.all p)) h:=by
 refine cJ (by simp[AV.bdd]) (aO aM4 fun hb ha=> ?_)
 obtain⟨ln,q,ix,row,_⟩:=hv.use
 rw[List.length_map]at ln ix
 rw[List.append_nil]
 simp only[go_sem,mf152,ln]
 refine bS (S:=Heap) (fun j _=>[(1,fv),(7,v),(8,.int .i64 l.length),(9,.int .i64 j)]) (fun _ s=>s) (fun j s=>aB h s∧(l.take j).all p=true) l.length h ⟨aB.refl,rfl⟩ rfl rfl ?_ ?_
 ·rintro j H hj ⟨sH,hall⟩ ih
  refine aP [1,7,8,9] aE5.eq_1 ?_
  have e1:(j:Int)<l.length:=by omega
  obtain⟨x,hx⟩:∃x,x=l[j]:=⟨_,rfl⟩
  have hr:(l.map lI.c)[j]? = some x.c:=by rw[List.getElem?_map,qA hj,hx]; rfl
  have r1:=sH.rdn (row j _ hr)
  have s1:aB H (H++[some (Blk.row x.c)]):=aB.refl.app
  have cc:=hf x (hx▸qG hj) _ (sH.trans s1)
  have b1:(H++[some (Blk.row x.c)])[H.length]? = some (some (.row x.c)):=by simp
  simp only[lI.c]at cc b1 s1
  simp only[go_sem,e1,ix j hj,r1,b1]
  refine aC cc ?_
  have tk:(l.take (j+1)).all p=((l.take j).all p&&p x):=by rw[List.take_succ_eq_append_getElem hj,List.all_append,hx]; simp
  cases e:p x with
  | false=>
   simp only[go_sem]
   have:l.all p=false:=List.all_eq_false.2 ⟨x,hx▸qG hj,by rw[e]; simp⟩
   rw[this]
   exact⟨sH.trans s1,rfl⟩
  | true=>
   simp only[go_sem]
   exact⟨(by unfold I64; omega),ih _ ⟨sH.trans s1,by rw[tk,hall,e]; rfl⟩⟩
 ·rintro H ⟨sH,hall⟩
  refine aP [1,7,8,9] aE5.eq_1 ?_
  have e1:¬(l.length:Int)<l.length:=by omega
  rw[List.take_length]at hall
  simp only[go_sem,e1]
  rw[hall]
  exact⟨sH,rfl⟩
theorem aKr{l:List gW}{v fv:AV}{p:gW→Bool}(hv:Sl w0 h 2 v (l.map gW.c))(hn:l.length<1000000000000)(hf:∀x∈l,∀H,aB h H→bI Tryz.prog w0 fv [.agg x.c] H (.bool (p x)) H):aK Tryz.prog w0 149 [v,fv] h (.bool (l.all p)) h:=by
 refine cJ (by simp[AV.bdd]) (aO aM7 fun hb ha=> ?_)
 obtain⟨ln,q,ix,row,_⟩:=hv.use
 rw[List.length_map]at ln ix
 rw[List.append_nil]
 simp only[go_sem,mf149,ln]
 refine bS (S:=Heap) (fun j _=>[(1,fv),(7,v),(8,.int .i64 l.length),(9,.int .i64 j)]) (fun _ s=>s) (fun j s=>aB h s∧(l.take j).all p=true) l.length h ⟨aB.refl,rfl⟩ rfl rfl ?_ ?_
 ·rintro j H hj ⟨sH,hall⟩ ih
  refine aP [1,7,8,9] aE6.eq_1 ?_
  have e1:(j:Int)<l.length:=by omega
  obtain⟨x,hx⟩:∃x,x=l[j]:=⟨_,rfl⟩
  have hr:(l.map gW.c)[j]? = some x.c:=by rw[List.getElem?_map,qA hj,hx]; rfl
  have r1:=sH.rdn (row j _ hr)
  have s1:aB H (H++[some (Blk.row x.c)]):=aB.refl.app
  have cc:=hf x (hx▸qG hj) _ (sH.trans s1)
  have b1:(H++[some (Blk.row x.c)])[H.length]? = some (some (.row x.c)):=by simp
  simp only[gW.c]at cc b1 s1
  simp only[go_sem,e1,ix j hj,r1,b1]
  refine aC cc ?_
  have tk:(l.take (j+1)).all p=((l.take j).all p&&p x):=by rw[List.take_succ_eq_append_getElem hj,List.all_append,hx]; simp
  cases e:p x with
  | false=>
   simp only[go_sem]
   have:l.all p=false:=List.all_eq_false.2 ⟨x,hx▸qG hj,by rw[e]; simp⟩
   rw[this]
   exact⟨sH.trans s1,rfl⟩
  | true=>
   simp only[go_sem]
   exact⟨(by unfold I64; omega),ih _ ⟨sH.trans s1,by rw[tk,hall,e]; rfl⟩⟩
 ·rintro H ⟨sH,hall⟩
  refine aP [1,7,8,9] aE6.eq_1 ?_
  have e1:¬(l.length:Int)<l.length:=by omega
  rw[List.take_length]at hall
  simp only[go_sem,e1]
  rw[hall]
  exact⟨sH,rfl⟩
theorem aKq{l:List iF}{v fv:AV}{p:iF→Bool}(hv:Sl w0 h 3 v (l.map iF.c))(hn:l.length<1000000000000)(hf:∀x∈l,∀H,aB h H→bI Tryz.prog w0 fv [.agg x.c] H (.bool (p x)) H):aK Tryz.prog w0 174 [v,fv] h (.bool (l.all p)) h:=by
 refine cJ (by simp[AV.bdd]) (aO aMJ fun hb ha=> ?_)
 obtain⟨ln,q,ix,row,_⟩:=hv.use
 rw[List.length_map]at ln ix
 rw[List.append_nil]
 simp only[go_sem,mf174,ln]
 refine bS (S:=Heap) (fun j _=>[(1,fv),(7,v),(8,.int .i64 l.length),(9,.int .i64 j)]) (fun _ s=>s) (fun j s=>aB h s∧(l.take j).all p=true) l.length h ⟨aB.refl,rfl⟩ rfl rfl ?_ ?_
 ·rintro j H hj ⟨sH,hall⟩ ih
  refine aP [1,7,8,9] aEV.eq_1 ?_
  have e1:(j:Int)<l.length:=by omega
  obtain⟨x,hx⟩:∃x,x=l[j]:=⟨_,rfl⟩
  have hr:(l.map iF.c)[j]? = some x.c:=by rw[List.getElem?_map,qA hj,hx]; rfl
  have r1:=sH.rdn (row j _ hr)
  have s1:aB H (H++[some (Blk.row x.c)]):=aB.refl.app
  have cc:=hf x (hx▸qG hj) _ (sH.trans s1)
  have b1:(H++[some (Blk.row x.c)])[H.length]? = some (some (.row x.c)):=by simp
  simp only[iF.c]at cc b1 s1
  simp only[go_sem,e1,ix j hj,r1,b1]
  refine aC cc ?_
  have tk:(l.take (j+1)).all p=((l.take j).all p&&p x):=by rw[List.take_succ_eq_append_getElem hj,List.all_append,hx]; simp
  cases e:p x with
  | false=>
   simp only[go_sem]
   have:l.all p=false:=List.all_eq_false.2 ⟨x,hx▸qG hj,by rw[e]; simp⟩
   rw[this]
   exact⟨sH.trans s1,rfl⟩
  | true=>
   simp only[go_sem]
   exact⟨(by unfold I64; omega),ih _ ⟨sH.trans s1,by rw[tk,hall,e]; rfl⟩⟩
 ·rintro H ⟨sH,hall⟩
  refine aP [1,7,8,9] aEV.eq_1 ?_
  have e1:¬(l.length:Int)<l.length:=by omega
  rw[List.take_length]at hall
  simp only[go_sem,e1]
  rw[hall]
  exact⟨sH,rfl⟩
theorem wH(x lo hi:Int):aK Tryz.prog w0 151 [.int .i64 x,.int .i64 lo,.int .i64 hi] h (.bool (inB x lo hi)) h:=by
 refine aM aM5 fun hb ha=> ?_
 by_cases a:x≥lo
 ·simp only[go_sem,aI6,a]
  rw[inB,decide_eq_true (show lo≤x from a)]; rfl
 ·simp only[go_sem,aI6,a]
  rw[inB,decide_eq_false (show ¬lo≤x from a)]; rfl
theorem aJ5(x lo hi:Int):aK Tryz.prog w0 44 [.int .i64 x,.int .i64 lo,.int .i64 hi] h (.bool (inB x lo hi)) h:=by
 refine aM mf44_k fun hb ha=> ?_
 by_cases a:x≥lo
 ·simp only[go_sem,mf44,a]
  rw[inB,decide_eq_true (show lo≤x from a)]; rfl
 ·simp only[go_sem,mf44,a]
  rw[inB,decide_eq_false (show ¬lo≤x from a)]; rfl
def spB(a b lo hi:Int):Bool:=inB a lo b&&decide (b≤hi)
theorem xP(a b lo hi:Int):aK Tryz.prog w0 148 [.agg [.int .i64 a,.int .i64 b],.int .i64 lo,.int .i64 hi] h (.bool (spB a b lo hi)) h:=by
 refine aM aM8 fun hb ha=> ?_
 by_cases q1:a≥lo
 ·by_cases q2:a≤b
  ·simp only[go_sem,aFK,q1,q2]
   rw[spB,inB,decide_eq_true (show lo≤a from q1),decide_eq_true q2]; rfl
  ·simp only[go_sem,aFK,q1,q2]
   rw[spB,inB,decide_eq_true (show lo≤a from q1),decide_eq_false q2]; rfl
 ·simp only[go_sem,aFK,q1]
  rw[spB,inB,decide_eq_false (show ¬lo≤a from q1)]; rfl
def rJ(s:lI):Bool:=inB s.arm (-1000) 1000&&inB s.most 0 20000
theorem aD6(s:lI):aK Tryz.prog w0 153 [.agg s.c] h (.bool (rJ s)) h:=by
 rw[lI.c]
 refine aM aM3 fun hb ha=> ?_
 simp only[go_sem,mf153]
 refine aC (wH s.arm (-1000) 1000).v ?_
 cases q:inB s.arm (-1000) 1000
 ·simp only[go_sem]
  rw[rJ,q]; rfl
 ·simp only[go_sem]
  refine aC (wH s.most 0 20000).v ?_
  simp only[go_sem]
  rw[rJ,q]; rfl
theorem aGY(n:Int):aK Tryz.prog w0 177 [.int .i64 n] h (.bool (inB n 0 20000)) h:=by
 refine aM aMG fun hb ha=> ?_
 simp only[go_sem,mf177]
 refine aC (wH n 0 20000).v ?_
 simp only[go_sem]
theorem lall_c{v:AV}{l:List Int}(hv:SlI w0 h v l)(hn:l.length<1000000000000):aK Tryz.prog w0 176 [v,.fn (.func 177) [] []] h (.bool (l.all fun n=>inB n 0 20000)) h:=by
 refine aM aMH fun hb ha=> ?_
 have ln:=(SlI.use hv).1
 simp only[go_sem,mf176,ln]
 refine cY (fun j=>[(1,.fn (.func 177) [] []),(7,v),(8,.int .i64 l.length),(9,.int .i64 j)]) (fun j=>inB (l.getD j 0) 0 20000=true) l.length rfl (fun j hj hall ih=> ?_) (fun hall=> ?_)
 ·refine aP [1,7,8,9] aEU.eq_1 ?_
  obtain⟨p,i1,r1,r1'⟩:=hv.at_ hj
  have e1:(j:Int)<l.length:=by omega
  rw[aE hj]at ih
  simp only[go_sem,e1,i1,r1,r1']
  refine aC (aGY l[j]).v ?_
  cases q:inB l[j] 0 20000
  ·simp only[go_sem]
   rw[List.all_eq_false.2 ⟨l[j],qG hj,by rw[q]; simp⟩]
  ·simp only[go_sem]
   exact⟨(by unfold I64; omega),ih q⟩
 ·refine aP [1,7,8,9] aEU.eq_1 ?_
  have e1:¬(l.length:Int)<l.length:=by omega
  simp only[go_sem,e1]
  rw[List.all_eq_true.2 fun n hn=>by
   obtain⟨i,hi,rfl⟩:=List.getElem_of_mem hn
   have:=hall i hi
   rwa [aE hi]at this]
theorem yX{v:AV}{l:List Int}(hv:SlI w0 h v l)(hn:l.length<1000000000000):aK Tryz.prog w0 147 [v] h (.bool (l.all fun n=>inB n 0 20000)) h:=by
 refine aM aM9 fun hb ha=> ?_
 simp only[go_sem,mf147]
 refine aC (lall_c hv.app hn).v ?_
 simp only[go_sem]
def aG6(n:Int)(x:iF):Bool:=inB x.st 0 (n - 1)&&spB x.lo x.hi 0 20000
def zA(n:Int)(l:List iF):Bool:=decide (l.length≤12)&&l.all (aG6 n)
def mP(n:Int)(x:dV):Bool:=zA n x.items&&(inB x.fuel 0 20000&&(spB x.blo x.bhi 0 20000&&spB x.llo x.lhi 0 20000))
theorem lA.one{v:AV}{l:List dV}(s:lA w0 h v l){j:Nat}(hj:j<l.length):∃(p:Pl) (iv:AV),cF 7 v (some j)=some (.ptr p)∧SlZ w0 h 3 iv (l[j].items.map iF.c)∧(∀L,rdn w0 (h++L) p 7=some (l[j].c iv))∧(∀L,rd w0 (h++L) (p.add 0)=some iv)∧(∀L,rd w0 (h++L) (p.add 2)=some (.int .i64 l[j].fuel)) ∧
 (∀L,rdn w0 (h++L) (p.add 3) 2=some [.int .i64 l[j].blo,.int .i64 l[j].bhi])∧(∀L,rdn w0 (h++L) (p.add 5) 2=some [.int .i64 l[j].llo,.int .i64 l[j].lhi]):=by
 obtain⟨p,iv,h1,h2,_,h4⟩:=s.at_ hj
 exact⟨p,iv,h1,h4,h2,fun L=>dG (h2 L) rfl,fun L=>dG (h2 L) rfl,fun L=>(gR (h2 L)).2 3 2 (by omega),fun L=>(gR (h2 L)).2 5 2 (by omega)⟩
structure jH where
 kilos:Int
 til:Int
@[go_sem] def jH.c (b:jH):List AV:=[.int .i64 b.kilos,.int .i64 b.til]
def aEI(b:jH):Bool:=inB b.kilos 1 1000&&inB b.til 0 400
def zQ(l:List jH):Bool:=l.all aEI&&decide (l.length≤30)
def bY(l:List gW)(k:Nat):gW:=l.getD (k % l.length) ⟨0,0⟩
theorem aB8(a b:Nat):(a:Int).tmod (b:Int)=((a % b:Nat):Int):=by
 rw[Int.tmod_eq_emod_of_nonneg (Int.natCast_nonneg _)]; rfl
def mT(l:List gW)(e:Nat)(w m:Int):Int:=((bY l (e+1)).w - (bY l e).w)*(m - (bY l e).m) - ((bY l (e+1)).m - (bY l e).m)*(w - (bY l e).w)
def aEq(c:gW):Bool:=inB c.w 0 20000&&inB c.m (-20000000) 20000000
theorem lQ{x y m n:Int}(h0: -m≤x)(h1:x≤m)(g0: -n≤y)(g1:y≤n): -(m*n)≤x*y∧x*y≤m*n:=by
 have e1:0≤(m - x)*(n - y):=Int.mul_nonneg (by omega) (by omega)
 have e2:0≤(m+x)*(n+y):=Int.mul_nonneg (by omega) (by omega)
 have e3:0≤(m - x)*(n+y):=Int.mul_nonneg (by omega) (by omega)
 have e4:0≤(m+x)*(n - y):=Int.mul_nonneg (by omega) (by omega)
 simp only[Int.sub_mul,Int.mul_sub,Int.add_mul,Int.mul_add]at e1 e2 e3 e4
 omega
def vA(l:List gW):Prop:=∀c∈l,aEq c=true
theorem pY{l:List gW}(hb:vA l)(k:Nat):(0≤(bY l k).w∧(bY l k).w≤20000)∧ -20000000≤(bY l k).m∧(bY l k).m≤20000000:=by
 by_cases hl:k % l.length<l.length
 ·have:=hb _ (qG hl)
  rw[bY,aE hl]
  simp only[aEq,inB,Bool.and_eq_true,decide_eq_true_eq]at this
  omega
 ·rw[bY,List.getD_eq_getElem?_getD,List.getElem?_eq_none (by omega)]
  simp
def WM(w m:Int):Prop:=(-800000≤w∧w≤800000)∧ -800000000≤m∧m≤800000000
theorem aFx{l:List gW}(hb:vA l){e:Nat}{w m:Int}(hw:WM w m):(-(20000*820000000)≤((bY l (e+1)).w - (bY l e).w)*(m - (bY l e).m)∧((bY l (e+1)).w - (bY l e).w)*(m - (bY l e).m)≤20000*820000000) ∧
 (-(40000000*820000)≤((bY l (e+1)).m - (bY l e).m)*(w - (bY l e).w)∧((bY l (e+1)).m - (bY l e).m)*(w - (bY l e).w)≤40000000*820000):=by
 have h1:=pY hb e
 have h2:=pY hb (e+1)
 obtain⟨h3,h4⟩:=hw
 exact⟨lQ (by omega) (by omega) (by omega) (by omega),lQ (by omega) (by omega) (by omega) (by omega)⟩
def headB(p:aZ):Bool:=inB p.empty 1 20000&&(inB p.moment (-20000000) 20000000&&(inB p.takeoff 0 20000&&(inB p.landing 0 20000&&(inB p.reserve 0 20000&&(inB p.cor.length 3 12&&(decide (p.sta.length≤8)&&(rJ p.tank&&decide (p.flo.length≤2))))))))
def convE(l:List gW)(e k:Nat):Bool:= !(decide (k≠e)&&(decide (k≠(e+1) % l.length)&&decide (mT l e (l.getD k ⟨0,0⟩).w (l.getD k ⟨0,0⟩).m≤0)))
def aJ0(l:List gW):Bool:=(List.range l.length).all fun e=>(List.range l.length).all fun k=>convE l e k
def qU(p:aZ):Bool:=headB p&&(p.sta.all rJ&&(p.flo.all rJ&&(p.cor.all aEq&&aJ0 p.cor)))
theorem tE{α:Type}{q:Pl}{es:Nat}{l:List α}{f:α→List AV}(row:∀(j:Nat) c,(l.map f)[j]? = some c→rdn w0 h (q.add (j*es)) es=some c){j:Nat}(hj:j<l.length):∀L,rdn w0 (h++L) (q.add (j*es)) es=some (f l[j]):=fun L=>
 cK (row j _ (by rw[List.getElem?_map,qA hj]; rfl))
theorem gT{H:Heap}{p:Pl}{n:Nat}{c:List AV}(r:∀L,rdn w0 (H++L) p n=some c):rdn w0 H p n=some c:=by have:=r []; rwa [List.append_nil]at this
theorem aBm{H:Heap}{p:Pl}{c:AV}(r:∀L,rd w0 (H++L) p=some c):rd w0 H p=some c:=by have:=r []; rwa [List.append_nil]at this
@[go_sem] def uT (l:List gW) (e:Nat):List AV:=[.int .i64 e,.int .i64 (bY l e).w,.int .i64 (bY l e).m,.int .i64 ((bY l (e+1)).w - (bY l e).w),.int .i64 ((bY l (e+1)).m - (bY l e).m)]
structure PtD where
 items:List iF
 tlo:Int
 thi:Int
 water:List (Int×Int)
 landing:Bool
@[go_sem] def spC (x:Int×Int):List AV:=[.int .i64 x.1,.int .i64 x.2]
@[go_sem] def PtD.c (x:PtD) (iv wv:AV):List AV:=[iv,.int .i64 x.tlo,.int .i64 x.thi,wv,.bool x.landing]
structure PtV(w0:World)(h:Heap)(x:PtD)(iv wv:AV):Prop where
 i:Sl w0 h 3 iv (x.items.map iF.c)
 w:Sl w0 h 2 wv (x.water.map spC)
theorem PtV.sub{H:Heap}{x:PtD}{iv wv:AV}(a:PtV w0 h x iv wv)(s:aB h H):PtV w0 H x iv wv:=⟨a.i.sub s,a.w.sub s⟩
def armS(p:aZ)(n:Int):Int:=(p.sta.getD n.toNat ⟨0,0⟩).arm
def armF(p:aZ)(i:Nat):Int:=(p.flo.getD i ⟨0,0⟩).arm
structure jR where
 kind:Int
 idx:Nat
 arm:Int
 lo:Int
 hi:Int
@[go_sem] def jR.c (x:jR):List AV:=[.int .i64 x.kind,.int .i64 x.idx,.int .i64 x.arm,.int .i64 x.lo,.int .i64 x.hi]
def aAI(p:aZ)(x:PtD)(i:Nat):jR:=⟨0,i,armS p (x.items.getD i ⟨0,0,0⟩).st,(x.items.getD i ⟨0,0,0⟩).lo,(x.items.getD i ⟨0,0,0⟩).hi⟩
def rM(p:aZ)(x:PtD)(i:Nat):jR:=⟨2,i,armF p i,(x.water.getD i (0,0)).1,(x.water.getD i (0,0)).2⟩
def dN(p:aZ)(x:PtD):List jR:=(List.range x.items.length).map (aAI p x)++⟨1,0,p.tank.arm,x.tlo,x.thi⟩::(List.range x.water.length).map (rM p x)
def PaV(x:jR)(_:Heap)(args:List AV):Prop:=args=[.agg x.c]
structure tJ(p:aZ)(x:PtD):Prop where
 n:x.items.length≤12
 w:x.water.length=p.flo.length
 f:p.flo.length≤2
 s:∀i∈x.items,0≤i.st∧i.st<p.sta.length
set_option maxRecDepth 20000 in
theorem aCu{C:List Nat}{q b:Nat}{p:aZ}{x:PtD}{cv sv fv iv wv:AV}{K:Heap→Prop}(hp:(msk C h)[b]? = some (some (.row (p.c cv sv fv++x.c iv wv))))(hv:jI w0 (msk C h) p cv sv fv)(hx:PtV w0 (msk C h) x iv wv)(ok:tJ p x)
 (hI:dC Tryz.prog w0 q C PaV (· = []) K (dN p x) [] h):ACall Tryz.prog w0 195 [.yld q,.ptr (.own b 0)] h fun _ H=>K H:=by
 refine aO aMq fun hb2 ha=> ?_
 have bx:h[b]? = some (some (.row (p.c cv sv fv++x.c iv wv))):=bD.2 _ _ hp
 have li:dA iv=some (.int .i64 x.items.length):=by have:=hx.i.use.1; rwa [List.length_map]at this
 have lw:dA wv=some (.int .i64 x.water.length):=by have:=hx.w.use.1; rwa [List.length_map]at this
 have on:=ok.n
 have ow:=ok.w
 have of:=ok.f
 simp only[aZ.c,PtD.c,List.cons_append,List.nil_append]at bx hp
 rw[List.append_nil]
 simp only[go_sem,mf195,bx,li]
 refine bS (S:=Heap) (fun j _=>[(0,.yld q),(1,.ptr (.own b 0)),(9,iv),(10,.int .i64 x.items.length),(11,.int .i64 j)]) (fun _ s=>s) (fun j s=>Keep C h s∧dC Tryz.prog w0 q C PaV (· = []) K ((dN p x).drop j) [] s) x.items.length h ⟨Keep.refl,hI⟩ rfl rfl ?_ ?_
 ·rintro j H hj ⟨kH,iH⟩ ih
  refine aP [0,1,9,10,11] aER.eq_1 ?_
  have e1:(j:Int)<x.items.length:=by omega
  have sm:aB (msk C h) H:=(kH.msk (ms:=C) fun i hi=> .inl hi).trans bD
  have bxH:=sm.2 _ _ hp
  have bxL:∀L,(H++L:Heap)[b]? = _:=fun L=>aA (k:=L) bxH
  obtain⟨_,q3,ix,row,_⟩:=(hx.sub sm).i.use
  rw[List.length_map]at ix
  obtain⟨_,q4,ix4,row4,_⟩:=(hv.sub sm).s.use
  rw[List.length_map]at ix4
  have r1:=tE row hj
  have r1':=gT r1
  obtain⟨y,hy⟩:∃y,y=x.items[j]:=⟨_,rfl⟩
  rw[←hy]at r1 r1'
  have os:=ok.s y (hy▸qG hj)
  obtain⟨ks,hks⟩:∃n:Nat,y.st=n:=⟨y.st.toNat,by omega⟩
  have hksl:ks<p.sta.length:=by omega
  have r4:=tE row4 hksl
  have g4:∀L,rd w0 (H++L) ((q4.add (ks*2)).add 0)=some (.int .i64 p.sta[ks].arm):=fun L=>dG (r4 L) (o:=0) rfl
  have dr:(dN p x).drop j=aAI p x j::(dN p x).drop (j+1):=by
   have hl:j<(dN p x).length:=by simp[dN]; omega
   rw[List.drop_eq_getElem_cons hl]
   congr 1
   simp[dN,List.getElem_append_left,hj]
  have pe:aAI p x j=⟨0,j,p.sta[ks].arm,y.lo,y.hi⟩:=by
   rw[aAI,aE hj,←hy,armS,hks]
   rw[show(ks:Int).toNat=ks from rfl,aE hksl]
  rw[dr,pe]at iH
  simp only[go_sem,e1,ix j hj,r1',bxL,hks,ix4 ks hksl,g4]
  refine aJ (dC.call iH aB.refl.app.toK [] rfl (fun i hi=>by cases hi) (fun i hi=>by cases hi) (show PaV _ _ _ by simp only[PaV,jR.c])) ?_
  rintro z G1 ⟨kG,rG⟩
  have k2:Keep C h G1:=kH.trans ((aB.refl.app.toK (C:=C)).trans kG)
  rcases rG with⟨rfl,it⟩ | ⟨rfl,kk⟩
  ·simp only[go_sem]
   exact⟨(by unfold I64; omega),ih G1 ⟨k2,it⟩⟩
  ·simp only[go_sem]
   exact kk _ Keep.refl
 ·rintro H ⟨kH,iH⟩
  refine aP [0,1,9,10,11] aER.eq_1 ?_
  have e1:¬(x.items.length:Int)<x.items.length:=by omega
  have dr:(dN p x).drop x.items.length=⟨1,0,p.tank.arm,x.tlo,x.thi⟩::(List.range x.water.length).map (rM p x):=by
   rw[dN,List.drop_append_of_le_length (by simp),List.drop_eq_nil_of_le (by simp),List.nil_append]
  rw[dr]at iH
  have sm:aB (msk C h) H:=(kH.msk (ms:=C) fun i hi=> .inl hi).trans bD
  have bxH:=sm.2 _ _ hp
  simp only[go_sem,e1,bxH]
  refine aJ (dC.call iH Keep.refl [] rfl (fun i hi=>by cases hi) (fun i hi=>by cases hi) (show PaV _ _ _ by simp only[PaV,jR.c]; rfl)) ?_
  rintro z G1 ⟨kG,rG⟩
  have k2:Keep C h G1:=kH.trans kG
  rcases rG with⟨rfl,it⟩ | ⟨rfl,kk⟩
  rotate_left
  ·simp only[go_sem]
   exact kk _ Keep.refl
  have sm1:aB (msk C h) G1:=(k2.msk (ms:=C) fun i hi=> .inl hi).trans bD
  have bxG:=sm1.2 _ _ hp
  simp only[go_sem,bxG,lw]
  refine bS (S:=Heap) (fun j _=>[(0,.yld q),(1,.ptr (.own b 0)),(47,wv),(48,.int .i64 x.water.length),(49,.int .i64 j)]) (fun _ s=>s) (fun j s=>Keep C h s∧dC Tryz.prog w0 q C PaV (· = []) K (((List.range x.water.length).map (rM p x)).drop j) [] s) x.water.length G1 ⟨k2,it⟩ rfl rfl ?_ ?_
  ·rintro j H hj ⟨kH,iH⟩ ih
   refine aP [0,1,47,48,49] aEQ.eq_1 ?_
   have e1:(j:Int)<x.water.length:=by omega
   have sm:aB (msk C h) H:=(kH.msk (ms:=C) fun i hi=> .inl hi).trans bD
   have bxH:=sm.2 _ _ hp
   have bxL:∀L,(H++L:Heap)[b]? = _:=fun L=>aA (k:=L) bxH
   obtain⟨_,q3,ix,row,_⟩:=(hx.sub sm).w.use
   rw[List.length_map]at ix
   obtain⟨_,q4,ix4,row4,_⟩:=(hv.sub sm).f.use
   rw[List.length_map]at ix4
   have r1:=tE row hj
   have r1':=gT r1
   have hjf:j<p.flo.length:=by omega
   have r4:=tE row4 hjf
   have g4:∀L,rd w0 (H++L) ((q4.add (j*2)).add 0)=some (.int .i64 p.flo[j].arm):=fun L=>dG (r4 L) (o:=0) rfl
   have dr:((List.range x.water.length).map (rM p x)).drop j=rM p x j::((List.range x.water.length).map (rM p x)).drop (j+1):=by
    rw[List.drop_eq_getElem_cons (by simpa using hj)]
    congr 1
    simp
   have pe:rM p x j=⟨2,j,p.flo[j].arm,x.water[j].1,x.water[j].2⟩:=by
    rw[rM,armF,aE hj,aE hjf]
   rw[dr,pe]at iH
   simp only[go_sem,e1,ix j hj,r1',bxL,ix4 j hjf,g4]
   refine aJ (dC.call iH aB.refl.app.toK [] rfl (fun i hi=>by cases hi) (fun i hi=>by cases hi) (show PaV _ _ _ by simp only[PaV,jR.c])) ?_
   rintro z G1 ⟨kG,rG⟩
   have k2:Keep C h G1:=kH.trans ((aB.refl.app.toK (C:=C)).trans kG)
   rcases rG with⟨rfl,it⟩ | ⟨rfl,kk⟩
   ·simp only[go_sem]
    exact⟨(by unfold I64; omega),ih G1 ⟨k2,it⟩⟩
   ·simp only[go_sem]
    exact kk _ Keep.refl
  ·rintro H ⟨kH,iH⟩
   refine aP [0,1,47,48,49] aEQ.eq_1 ?_
   have e1:¬(x.water.length:Int)<x.water.length:=by omega
   rw[List.drop_eq_nil_of_le (by simp)]at iH
   simp only[go_sem,e1]
   exact iH _ Keep.refl
end Go.Proofs.Ab

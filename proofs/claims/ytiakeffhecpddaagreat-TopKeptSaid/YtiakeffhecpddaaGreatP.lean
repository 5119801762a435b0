/- Own layer, part P. -/
import Derived.Test.YtiakeffhecpddaaGreatO
set_option linter.unusedSimpArgs false
set_option linter.unusedVariables false
namespace Go.Proofs.Ab
open Go Go.Proofs
variable {w0:World} {h:Heap}
attribute [local irreducible] ACall bE cR aK bI rvC lp rg dr ex un rv
theorem kT.rest{H:Heap}{N:Nat}{y:AV}{l:List Int}(b:l≠[]→∃io,N≤io∧io<H.length∧y= .sl (.own io 0) l.length 1 false∧H[io]? = some (some (.row (aN l))))(z:l=[]→y= .nilS∨∃io f c,N≤io∧y= .sl (.own io 0) 0 1 f∧H[io]? = some (some (.row c))):kT w0 H N y l:=by
 refine⟨?_,b,z⟩
 by_cases hl:l=[]
 ·rcases z hl with rfl | ⟨io,f,c,h1,rfl,h2⟩
  ·subst hl; exact⟨.inl ⟨rfl,rfl⟩,fun _=>rfl⟩
  ·subst hl
   exact⟨.inr ⟨.own io 0,f,⟨1,rfl,rfl⟩,aD h2,fun j c hc=>by simp at hc⟩,fun _=>by simp[srcOf,fH,rdn,h2]⟩
 ·obtain⟨io,h1,h2,h3,h4⟩:=b hl
  rw[h3]
  exact⟨(SlN.own (f:=false) h4 hl).s,fun e=>absurd e hl⟩
theorem kT.keep{C:List Nat}{H H':Heap}{N:Nat}{y:AV}{l:List Int}(a:kT w0 H N y l)(t:Keep C H H')(hC:∀c∈C,c<N):kT w0 H' N y l:=by
 have out:∀i,N≤i→i∉C:=fun i hi hc=>by have:=hC i hc; omega
 refine kT.rest (fun e=> ?_) fun e=> ?_
 ·obtain⟨io,h1,h2,h3,h4⟩:=a.b e
  exact⟨io,h1,Nat.lt_of_lt_of_le h2 t.le,h3,t.at_ _ _ (out io h1) h4⟩
 ·rcases a.z e with h1 | ⟨io,f,c,h1,h2,h3⟩
  ·exact .inl h1
  ·exact .inr ⟨io,f,c,h1,h2,t.at_ _ _ (out io h1) h3⟩
theorem kT.less{H:Heap}{N M:Nat}{y:AV}{l:List Int}(a:kT w0 H N y l)(h:M≤N):kT w0 H M y l:=
 ⟨a.o,fun e=>by obtain⟨io,h1,h2⟩:=a.b e; exact⟨io,by omega,h2⟩,fun e=>(a.z e).imp (fun x=>x) fun⟨io,f,c,h1,h2⟩=>⟨io,f,c,by omega,h2⟩⟩
structure UnO(w0:World)(H:Heap)(N:Nat)(y:AV)(u:List aH):Prop where
 b:∃(io:Nat) (f:Bool) (rows:List (List AV)),N≤io∧y= .sl (.own io 0) u.length 2 f∧H[io]? = some (some (.row rows.flatten))∧rows.length=u.length∧(∀c∈rows,c.length=2)∧∀(j:Nat) x,u[j]? = some x→∃pv,rows[j]? = some [.int .i64 x.to,pv]∧kT w0 H N pv x.people
theorem UnO.keep{C:List Nat}{H H':Heap}{N:Nat}{y:AV}{u:List aH}(a:UnO w0 H N y u)(t:Keep C H H')(hC:∀c∈C,c<N):UnO w0 H' N y u:=by
 obtain⟨io,f,rows,h1,h2,h3,h4,h5,h6⟩:=a.b
 exact⟨io,f,rows,h1,h2,t.at_ _ _ (fun hc=>by have:=hC _ hc; omega) h3,h4,h5,fun j x hx=>by
  obtain⟨pv,e1,e2⟩:=h6 j x hx
  exact⟨pv,e1,e2.keep t hC⟩⟩
theorem UnO.less{H:Heap}{N M:Nat}{y:AV}{u:List aH}(a:UnO w0 H N y u)(h:M≤N):UnO w0 H M y u:=by
 obtain⟨io,f,rows,h1,h2,h3,h4,h5,h6⟩:=a.b
 exact⟨io,f,rows,by omega,h2,h3,h4,h5,fun j x hx=>by
  obtain⟨pv,e1,e2⟩:=h6 j x hx
  exact⟨pv,e1,e2.less h⟩⟩
theorem kT.msk{C:List Nat}{H:Heap}{N:Nat}{y:AV}{l:List Int}(a:kT w0 H N y l)(hC:∀c∈C,c<N):SlO w0 (Ab.msk C H) y l:=by
 have out:∀i,N≤i→(Ab.msk C H)[i]? = H[i]? := fun i hi=>aT fun hc=>by have:=hC i hc; omega
 refine(kT.rest (N:=N) (H:=Ab.msk C H) (w0:=w0) (fun e=> ?_) fun e=> ?_).o
 ·obtain⟨io,h1,h2,h3,h4⟩:=a.b e
  exact⟨io,h1,by rw[cD]; exact h2,h3,by rw[out _ h1]; exact h4⟩
 ·rcases a.z e with h1 | ⟨io,f,c,h1,h2,h3⟩
  ·exact .inl h1
  ·exact .inr ⟨io,f,c,h1,h2,by rw[out _ h1]; exact h3⟩
theorem UnO.p{C:List Nat}{H:Heap}{N:Nat}{y:AV}{u:List aH}(a:UnO w0 H N y u)(hC:∀c∈C,c<N):UnP w0 (msk C H) y u:=by
 obtain⟨io,f,rows,h1,rfl,h3,h4,h5,h6⟩:=a.b
 have hk:(msk C H)[io]? = some (some (.row rows.flatten)):=by rw[aT fun hc=>by have:=hC _ hc; omega]; exact h3
 refine⟨⟨rows,h4,?_,fun j x c hx hc=> ?_⟩,fun e=> ?_,by simp⟩
 ·have:=fY (w0:=w0) (H:=msk C H) (full:=f) (io:=io) (rows:=rows) (es:=2) hk h5
  rwa [h4]at this
 ·obtain⟨pv,e1,e2⟩:=h6 j x hx
  rw[e1]at hc; cases hc
  exact⟨pv,rfl,e2.msk hC⟩
 ·subst e
  simp[srcOf,fH,rdn,hk]
theorem aHg{rows:List (List AV)}(h:∀c∈rows,c.length=2){j:Nat}{a b:AV}(hj:rows[j]? = some [a,b]):rows.flatten[j*2+1]? = some b:=by
 induction rows generalizing j with
 | nil=>simp at hj
 | cons c rows ih=>
  have hc:=h c List.mem_cons_self
  cases j with
  | zero=>simp at hj; subst hj; rfl
  | succ j=>
   have:=ih (fun x hx=>h x (List.mem_cons_of_mem _ hx)) (j:=j) (by simpa using hj)
   rw[List.flatten_cons,qI (by omega),hc,show(j+1)*2+1 - 2=j*2+1 by omega]; exact this
theorem aHf{rows:List (List AV)}(h:∀c∈rows,c.length=2){j:Nat}{a b b':AV}(hj:rows[j]? = some [a,b]):rows.flatten.take (j*2+1)++(b'::rows.flatten.drop (j*2+1+1))=(rows.set j [a,b']).flatten:=by
 induction rows generalizing j with
 | nil=>simp at hj
 | cons c rows ih=>
  cases j with
  | zero=>simp at hj; subst hj; simp
  | succ j=>
   have hc:=h c List.mem_cons_self
   obtain⟨x,y,rfl⟩:∃x y,c=[x,y]:=by
    match c,hc with
    | [x,y],_=>exact⟨x,y,rfl⟩
   have:=ih (fun x hx=>h x (List.mem_cons_of_mem _ hx)) (j:=j) (by simpa using hj)
   rw[show(j+1)*2+1=j*2+1+1+1 by omega,show j*2+1+1+1+1=j*2+1+1+1+1 by omega]
   simp only[List.flatten_cons,List.cons_append,List.nil_append,List.take_succ_cons,List.drop_succ_cons,List.set_cons_succ,this]
theorem aLP(u:List aH)(v:AV)(hv:UnP w0 h v u)(hl:u.length<1000):ACall Tryz.prog w0 110 [v] h fun y H=>aB h H∧∃(io:Nat) (f:Bool) (rows:List (List AV)),h.length≤io∧y= .sl (.own io 0) u.length 2 f∧H[io]? = some (some (.row rows.flatten))∧rows.length=u.length∧(∀c∈rows,c.length=2) ∧
 ∀(j:Nat) x,u[j]? = some x→∃pv,rows[j]? = some [.int .i64 x.to,pv]∧SlO w0 h pv x.people:=by
 refine aO aNE fun hb ha=> ?_
 obtain⟨rows,r1,r2,r3⟩:=hv.n
 have r2':=r2
 rcases r2 with⟨rfl,e2⟩ | ⟨p,full,⟨es',e1,he⟩,hp,hr⟩
 ·exact absurd rfl hv.nn
 ·have two:∀c∈rows,c.length=2∧c.all one=true∧∃j,∃x,u[j]? = some x∧rows[j]? = some c∧FlgtO w0 h x c:=fun c hc=>by
   obtain⟨j,hj,rfl⟩:=List.mem_iff_getElem.1 hc
   have hju:j<u.length:=by omega
   obtain⟨pv,e3,e4⟩:=r3 j u[j] rows[j] (qA hju) (qA hj)
   have o4:=Sl.one e4.s
   refine⟨by rw[e3]; rfl,by rw[e3]; simp only[List.all_cons,List.all_nil,o4.1,Bool.and_true]; rfl,j,u[j],qA hju,qA hj,pv,e3,e4⟩
  by_cases hu0:u=[]
  ·have h0:=aAv (hv.e hu0) (aB.refl.app (L:=[some (.row [])]))
   have hap:eD w0 (h++[some (Blk.row [])]) 2 32 (AV.sl (Pl.own (List.length h) 0) 0 2 true) v=some (AV.sl (Pl.own (List.length h) 0) 0 2 true,h++[some (Blk.row [])]):=by
    simp[eD,h0]
   rw[e1]at hap
   subst e1
   simp only[go_sem,aI8]
   rw[hap]
   simp only[go_sem]
   subst hu0
   exact⟨aB.refl.app,h.length,true,[],Nat.le_refl _,rfl,by simp,rfl,by simp,fun j x hx=>by simp at hx⟩
  ·have hr0:rows≠[]:=fun e=>hu0 (List.eq_nil_of_length_eq_zero (by rw[←r1,e]; rfl))
   have hap:=zT (w0:=w0) (H:=h++[some (.row [])]) (es:=2) (b:=32) (n:=0) (old:=[]) (rows:=rows) (p:= .own h.length 0) (y:=v) r2'.app hr0 (fun c hc=>(two c hc).2.1) (by simp[rdn]) (by omega) (by omega)
   rw[e1]at hap
   subst e1
   simp only[go_sem,aI8]
   rw[hap]
   simp only[go_sem]
   exact⟨aB.refl.app,h.length+1,false,rows,by omega,by rw[r1],by simp,r1,fun c hc=>(two c hc).1,fun j x hx=>by
    have hj:j<rows.length:=by rw[r1]; exact aD hx
    obtain⟨pv,e3,e4⟩:=r3 j x rows[j] hx (qA hj)
    exact⟨pv,by rw[qA hj,e3],e4⟩⟩
theorem aJ4(u:List aH)(v:AV)(hv:UnP w0 h v u)(hl:u.length<1000)(hp:∀x∈u,x.people.length<1000):ACall Tryz.prog w0 56 [v] h fun y H=>aB h H∧UnO w0 H h.length y u:=by
 refine aO mf56_k fun hb ha=> ?_
 simp only[go_sem,mf56]
 rw[List.append_nil]
 refine aJ (ACall.v1 (aLP u v hv hl)) ?_
 rintro y H ⟨sH,io,f,rows,i1,rfl,i3,i4,i5,i6⟩
 simp only[go_sem]
 refine bS (S:=Heap×List (List AV)) (fun j _=>[(3,.sl (.own io 0) u.length 2 f),(8,.int .i64 (u.length:Int)),(9,.int .i64 (j:Int))]) (fun _ st=>st.1)
  (fun j st=>Keep [io] H st.1∧st.1[io]? = some (some (.row st.2.flatten))∧st.2.length=u.length∧(∀c∈st.2,c.length=2)∧∀(q:Nat) x,u[q]? = some x→∃pv,st.2[q]? = some [.int .i64 x.to,pv]∧((q<j∧kT w0 st.1 H.length pv x.people)∨(j≤q∧SlO w0 h pv x.people))) u.length (H,rows)
  ⟨Keep.refl,i3,i4,i5,fun q x hx=>by obtain⟨pv,e1,e2⟩:=i6 q x hx; exact⟨pv,e1,.inr ⟨Nat.zero_le _,e2⟩⟩⟩ rfl rfl (fun j st hj I ih=> ?_) (fun st I=> ?_)
 ·obtain⟨H2,rs⟩:=st
  obtain⟨k1,k2,k3,k4,k5⟩:=I
  simp only at k1 k2 k3 k4 k5 ih ⊢
  refine aP [3,8,9] aK7.eq_1 ?_
  have e1:(j:Int)<u.length:=by omega
  have ix:cF 2 (.sl (.own io 0) u.length 2 f) (some j)=some (.ptr (.own io (j*2))):=by simp[cF,fH,Pl.add,hj]
  obtain⟨pv,r1,r2⟩:=k5 j u[j] (qA hj)
  have r3:SlO w0 h pv u[j].people:=by
   rcases r2 with⟨h1,_⟩ | ⟨_,h2⟩
   ·omega
   ·exact h2
  have g1:=aHg k4 r1
  have fl:rs.flatten.length=u.length*2:=by rw[aCW k4,k3]
  have hh2:aB h H2:=⟨Nat.le_trans sH.1 k1.le,fun c b e=>k1.at_ c b (by simp; have:=aD e; omega) (sH.2 c b e)⟩
  have cell:aBE (some (some (.row rs.flatten))) (j*2+1)=some pv:=by simp[aBE,g1]
  simp only[go_sem,e1,ix,k2,cell]
  refine aJ (ACall.v1 (oT u[j].people pv (r3.sub hh2) (by have:=hp _ (qG hj); omega))) ?_
  rintro pv' H3 ⟨s3,o3⟩
  have c2:H3[io]? = some (some (.row rs.flatten)):=s3.2 _ _ k2
  have op:=Sl.one o3.o.s
  have hset:=aHf (b':=pv') k4 r1
  have hH2:=k1.le
  simp only[go_sem,ix,c2,op.2,op.1,fl,hset]
  refine⟨by omega,(by unfold I64; omega),?_⟩
  have:=ih (H3.set io (some (.row (rs.set j [.int .i64 u[j].to,pv']).flatten)),rs.set j [.int .i64 u[j].to,pv']) ⟨(k1.trans s3.toK).set (.inl (by simp)),by simp only; rw[qF (aD c2)],by simp only; rw[List.length_set,k3],fun c hc=> ?_,fun q x hx=> ?_⟩
  ·simpa using this
  ·rcases List.mem_or_eq_of_mem_set hc with hc | rfl
   ·exact k4 c hc
   ·rfl
  ·simp only
   have hio:io<H.length:=aD i3
   have kk:Keep [io] H2 (H3.set io (some (.row (rs.set j [.int .i64 u[j].to,pv']).flatten))):=s3.toK.set (.inl (by simp))
   by_cases e:q=j
   ·subst e
    rw[qA hj]at hx
    cases hx
    refine⟨pv',by rw[qF (by omega)],.inl ⟨by omega,?_⟩⟩
    exact(o3.less hH2).keep (Keep.refl.set (C:=[io]) (.inl (by simp))) (by simp; exact hio)
   ·obtain⟨pw,q1,q2⟩:=k5 q x hx
    refine⟨pw,by rw[qB (Ne.symm e)]; exact q1,?_⟩
    rcases q2 with⟨h1,h2⟩ | ⟨h1,h2⟩
    ·exact .inl ⟨by omega,h2.keep kk (by simp; exact hio)⟩
    ·exact .inr ⟨by omega,h2⟩
 ·obtain⟨H2,rs⟩:=st
  obtain⟨k1,k2,k3,k4,k5⟩:=I
  simp only at k1 k2 k3 k4 k5 ⊢
  refine aP [3,8,9] aK7.eq_1 ?_
  have e1:¬(u.length:Int)<u.length:=by omega
  simp only[go_sem,e1]
  refine⟨⟨Nat.le_trans sH.1 k1.le,fun c b e=>k1.at_ c b (by simp; have:=aD e; omega) (sH.2 c b e)⟩,io,f,rs,i1,rfl,k2,k3,k4,fun q x hx=> ?_⟩
  obtain⟨pv,q1,q2⟩:=k5 q x hx
  rcases q2 with⟨_,h2⟩ | ⟨h1,_⟩
  ·exact⟨pv,q1,h2.less sH.1⟩
  ·have:=aD hx; omega
def LiU(w0:World)(ps ms:List Nat)(im iout:Nat)(H:Heap)(gv:AV)(l:List (List aH))(id:Nat):Prop:=
 (l=[]∧gv= .nilS)∨(l≠[]∧gv= .sl (.own id 0) l.length 1 false∧id∈ms∧id≠im∧id≠iout∧∃us:List AV,H[id]? = some (some (.row us))∧us.length=l.length∧∀(j:Nat) u,l[j]? = some u→∃y,us[j]? = some y∧one y=true∧UnP w0 (msk ps H) y u)
structure mO(w0:World)(ps ms:List Nat)(im:Nat)(H:Heap)(iout W:Nat)(pol:gC)(cells:List AV):Prop where
 len:pol.length=W
 row:H[iout]? = some (some (.row cells))
 cl:cells.length=W
 ids:∃id:Nat→Nat,(∀(w:Nat) l,pol[w]? = some l→∃gv,cells[w]? = some gv∧LiU w0 ps ms im iout H gv l (id w))∧∀(w w':Nat) l l',w≠w'→pol[w]? = some l→pol[w']? = some l'→l≠[]→l'≠[]→id w≠id w'
 io:iout∈ms
 ne:iout≠im
 sub:∀c∈ms,c∈ps
 lt:∀c∈ps,c<H.length
 iml:im<H.length
section
variable {ps ms ns:List Nat} {im iout W:Nat} {H H':Heap} {pol:gC} {cells:List AV}
theorem LiU.move{gv:AV}{l:List (List aH)}{id:Nat}{ps' ms':List Nat}(a:LiU w0 ps ms im iout H gv l id)(hm:∀c∈ms,c∈ms')(hk:l≠[]→H'[id]? = H[id]?)(hs:aB (msk ps H) (msk ps' H')):LiU w0 ps' ms' im iout H' gv l id:=by
 rcases a with a | ⟨h1,h2,h3,h4,h5,us,h6,h7,h8⟩
 ·exact .inl a
 ·exact .inr ⟨h1,h2,hm _ h3,h4,h5,us,by rw[hk h1]; exact h6,h7,fun j u hu=>by
   obtain⟨y,e1,e2,e3⟩:=h8 j u hu
   exact⟨y,e1,e2,e3.sub hs⟩⟩
theorem mO.keep{C:List Nat}(a:mO w0 ps ms im H iout W pol cells)(t:Keep C H H')(hC:∀c∈C,c∈ms→c=im)(hn:∀c∈ns,c∈ps∨H.length≤c)(hn2:∀c∈ps,c∈ns)(hn3:∀c∈ns,c<H'.length)(hC3:∀c∈C,c∈ps∨H.length≤c):mO w0 ns ms im H' iout W pol cells:=by
 obtain⟨id,i1,i2⟩:=a.ids
 have hs:aB (msk ps H) (msk ns H'):=t.mskm hC3 hn
 refine⟨a.len,t.at_ _ _ (fun hc=>a.ne (hC _ hc a.io)) a.row,a.cl,⟨id,fun w l hl=> ?_,i2⟩,a.io,a.ne,fun c hc=>hn2 c (a.sub c hc),hn3,Nat.lt_of_lt_of_le a.iml t.le⟩
 obtain⟨gv,g1,g2⟩:=i1 w l hl
 refine⟨gv,g1,g2.move (fun c hc=>hc) (fun hne=> ?_) hs⟩
 rcases g2 with⟨e,_⟩ | ⟨_,_,h3,h4,_,us,h6,_⟩
 ·exact absurd e hne
 ·rw[h6]; exact t.at_ _ _ (fun hc=>h4 (hC _ hc h3)) h6
theorem mO.less(a:mO w0 ps ms im H iout W pol cells)(h1:∀c∈ns,c∈ps)(h2:∀c∈ms,c∈ns):mO w0 ns ms im H iout W pol cells:=by
 obtain⟨id,i1,i2⟩:=a.ids
 refine⟨a.len,a.row,a.cl,⟨id,fun w l hl=> ?_,i2⟩,a.io,a.ne,h2,fun c hc=>a.lt c (h1 c hc),a.iml⟩
 obtain⟨gv,g1,g2⟩:=i1 w l hl
 exact⟨gv,g1,g2.move (fun c hc=>hc) (fun _=>rfl) (lL h1)⟩
theorem mO.add(a:mO w0 ps ms im H iout W pol cells){w:Nat}{l:List (List aH)}(hw:pol[w]? = some l){y:AV}{u:List aH}(hy:UnP w0 (msk ps H) y u)(oy:one y=true){kb:Nat}(hkb:H[kb]? = some (some (.row [y])))(hl:l.length<1000000) :
 ∃gv gv' H',cells[w]? = some gv∧(∀f,eD w0 H 1 24 gv (.sl (.own kb 0) 1 1 f)=some (gv',H'))∧one gv'=true∧cellsOf gv'=some [gv']∧Keep ms H H'∧H'[im]? = H[im]? ∧ H'[iout]? = H[iout]? ∧ H'.length=H.length+1 ∧
  mO w0 (H.length::ps) (H.length::ms) im (H'.set iout (some (.row (cells.set w gv')))) iout W (pol.set w (l++[u])) (cells.set w gv'):=by
 obtain⟨id,i1,i2⟩:=a.ids
 obtain⟨gv,g1,g2⟩:=i1 w l hw
 have hr:rdn w0 H (.own kb 0) (1*1)=some [y]:=by simp[rdn,hkb]
 have hio:=aD a.row
 have hwl:w<pol.length:=aD hw
 have hwc:w<cells.length:=by rw[a.cl,←a.len]; exact hwl
 obtain⟨us,H',e1,e2,e3,e4,e5⟩:∃(us:List AV) (H':Heap),(∀f,eD w0 H 1 24 gv (.sl (.own kb 0) 1 1 f)=some (.sl (.own H.length 0) (l.length+1) 1 false,H'))∧H'.length=H.length+1∧H'[H.length]? = some (some (.row (us++[y])))∧(us.length=l.length∧∀(j:Nat) v,l[j]? = some v→∃z,us[j]? = some z∧one z=true∧UnP w0 (msk ps H) z v) ∧
  ∀c,c<H.length→(l≠[]→c≠id w)→H'[c]? = H[c]? := by
  rcases g2 with⟨rfl,rfl⟩ | ⟨hl0,rfl,h3,h4,h5,us,h6,h7,h8⟩
  ·exact⟨[],H++[some (.row [y])],fun f=>by simp[eD,srcOf,fH,hr,mN,oy],by simp,by simp,⟨rfl,fun j v hv=>by simp at hv⟩,fun c hc _=>qH hc⟩
  ·have hr2:rdn w0 H (.own (id w) 0) l.length=some us:=by
    simp only[rdn,h6]
    rw[if_pos (by omega)]
    simp[List.take_of_length_le,h7]
   have hb:(l.length+1)*(24+1)≤2^40:=by omega
   have hil:=aD h6
   refine⟨us,H.set (id w) none++[some (.row (us++[y]))],fun f=> ?_,by simp,by rw[qI (by simp)]; simp,⟨h7,h8⟩,fun c hc hne=>by rw[qH (by rw[List.length_set]; exact hc),qB (Ne.symm (hne hl0))]⟩
   simp[eD,srcOf,fH,hr,oy,hr2]
   omega
 have hidms:l≠[]→id w∈ms∧id w≠im∧id w≠iout:=fun hne=>by
  rcases g2 with⟨e,_⟩ | ⟨_,_,h3,h4,h5,_⟩
  ·exact absurd e hne
  ·exact⟨h3,h4,h5⟩
 have kp:Keep ms H H':=⟨by omega,fun c b hc e=>by
  rw[e5 c (aD e) fun hne e'=>hc (e'▸(hidms hne).1)]; exact e⟩
 have eio:H'[iout]? = H[iout]? := e5 iout hio fun hne=>Ne.symm (hidms hne).2.2
 refine⟨gv,.sl (.own H.length 0) (l.length+1) 1 false,H',g1,e1,rfl,rfl,kp,?_,eio,e2,?_⟩
 ·exact e5 im a.iml fun hne=>Ne.symm (hidms hne).2.1
 ·obtain⟨H2,eH2⟩:∃H2,H2=H'.set iout (some (.row (cells.set w (.sl (.own H.length 0) (l.length+1) 1 false)))):=⟨_,rfl⟩
  rw[←eH2]
  have k2:Keep ms H H2:=by rw[eH2]; exact kp.set (.inl a.io)
  have l2:H2.length=H.length+1:=by rw[eH2,List.length_set,e2]
  have hs:aB (msk ps H) (msk (H.length::ps) H2):=k2.mskm (fun c hc=> .inl (a.sub c hc)) fun c hc=>by
   rcases List.mem_cons.1 hc with rfl | hc
   ·exact .inr (Nat.le_refl _)
   ·exact .inl hc
  have out:∀c,c≠iout→H2[c]? = H'[c]? := fun c hc=>by rw[eH2,qB (Ne.symm hc)]
  refine⟨by rw[List.length_set,a.len],by rw[eH2,qF (by omega)],by rw[List.length_set,a.cl],⟨fun q=>if q=w then H.length else id q,fun q m hm=> ?_,fun q q' m m' hne hm hm' nm nm'=> ?_⟩,List.mem_cons_of_mem _ a.io,a.ne,fun c hc=> ?_,fun c hc=> ?_,by have:=a.iml; omega⟩
  ·by_cases e:q=w
   ·subst e
    rw[qF hwl]at hm
    cases hm
    refine⟨_,qF hwc,.inr ⟨by simp,by simp,by simp,?_,?_,us++[y],?_,by simp[e4.1],fun j v hv=> ?_⟩⟩
    ·simp only[if_true]; have:=a.iml; omega
    ·simp only[if_true]; omega
    ·simp only[if_true]; rw[out _ (by omega)]; exact e3
    ·by_cases hj:j<l.length
     ·rw[qH hj]at hv
      obtain⟨z,z1,z2,z3⟩:=e4.2 j v hv
      exact⟨z,by rw[qH (by rw[e4.1]; exact hj)]; exact z1,z2,z3.sub hs⟩
     ·have hjl:j=l.length:=by have:=aD hv; simp at this; omega
      subst hjl
      simp at hv
      subst hv
      exact⟨y,by rw[qI (by rw[e4.1]; exact Nat.le_refl _),e4.1]; simp,oy,hy.sub hs⟩
   ·rw[qB (Ne.symm e)]at hm
    obtain⟨gq,q1,q2⟩:=i1 q m hm
    refine⟨gq,by rw[qB (Ne.symm e)]; exact q1,?_⟩
    simp only[if_neg e]
    refine q2.move (fun c hc=>List.mem_cons_of_mem _ hc) (fun hne=> ?_) hs
    rcases q2 with⟨e',_⟩ | ⟨_,_,h3,h4,h5,us',h6,_⟩
    ·exact absurd e' hne
    ·rw[out _ h5]
     exact e5 _ (aD h6) fun hl0=>i2 q w m l e hm hw hne hl0
  ·by_cases e:q=w
   ·subst e
    simp only[if_true]
    have e':¬q'=q:=fun x=>hne x.symm
    rw[if_neg e']
    rw[qB hne]at hm'
    obtain⟨gq,q1,q2⟩:=i1 q' m' hm'
    rcases q2 with⟨e',_⟩ | ⟨_,_,h3,h4,h5,us',h6,_⟩
    ·exact absurd e' nm'
    ·have:=aD h6; omega
   ·rw[qB (Ne.symm e)]at hm
    simp only[if_neg e]
    by_cases e':q'=w
    ·subst e'
     simp only[if_true]
     obtain⟨gq,q1,q2⟩:=i1 q m hm
     rcases q2 with⟨e',_⟩ | ⟨_,_,h3,h4,h5,us',h6,_⟩
     ·exact absurd e' nm
     ·have:=aD h6; omega
    ·rw[if_neg e']
     rw[qB (Ne.symm e')]at hm'
     exact i2 q q' m m' hne hm hm' nm nm'
  ·rcases List.mem_cons.1 hc with rfl | hc
   ·simp
   ·exact List.mem_cons_of_mem _ (a.sub c hc)
  ·rw[l2]
   rcases List.mem_cons.1 hc with rfl | hc
   ·omega
   ·have:=a.lt c hc; omega
end
theorem aKl{Q:Exit→Fr→Heap→Prop}{k:List It}{rr:Option Nat}{nt Z:Nat}{G:Heap}{fr0:Fr}{ps ms:List Nat}{im iout W w ob:Nat}{pol:gC}{cells:List AV}{l:List (List aH)}{uv:AV}{u:List aH}
 (f5:fr0.get 5= .ptr (.own ob 0)) (f15:fr0.get 15= .int .i64 (w:Int)) (f13:fr0.get 13=uv) (gob:G[ob]? = some (some (.row [.sl (.own iout 0) W 1 true]))) (hob:ob∉ms) (P:mO w0 ps ms im G iout W pol cells) (hw:pol[w]? = some l) (hl:l.length<1000000) (gim:∃b,G[im]? = some (some b))
 (hu:UnP w0 G uv u) (hul:u.length<1000) (hup:∀x∈u,x.people.length<1000)
 (KS:List Nat) (hKS:∀t∈KS,t<70)
 (hQ:∀H id' cells',Keep ms G H→H[im]? = G[im]? → G.length≤id'→mO w0 (id'::ps) (id'::ms) im H iout W (pol.set w (l++[u])) cells'→un Tryz.prog w0 rr nt Z Q .normal k (iO fr0 KS) H) :
 dr Tryz.prog w0 rr nt Z Q D50_0 B50_0 k fr0 G:=by
 have hwW:w<W:=by rw[←P.len]; exact aD hw
 have hms:∀c∈ms,c<G.length:=fun c hc=>P.lt c (P.sub c hc)
 have hcw:w<cells.length:=by rw[P.cl]; exact hwW
 obtain⟨gv,hgv⟩:∃gv,cells[w]? = some gv:=⟨_,qA hcw⟩
 have gobL:=xL gob
 have i1:cF 1 (.sl (.own iout 0) W 1 true) (some w)=some (.ptr (.own iout w)):=by simp[cF,fH,Pl.add,hwW]
 have rw0:rd w0 G (.own iout w)=some gv:=by simp[rd,P.row,hgv]
 refine uV ?_
 refine iS dE [0,1,2,3,4,5,6,7,8,9,10,11] [o_ 70 (l_ 5),o_ 71 (m_ 15),o_ 72 (l_ 5),o_ 73 (m_ 15),o_ 74 (.idxs 1 (.t 72) (.t 73)),o_ 75 (l_ 74),o_ 76 (m_ 13),.call (some 77) none (f_ 56) [(.t 76)]] [([(0,o_ 70 (l_ 5)),(2,o_ 72 (l_ 5)),(5,o_ 75 (l_ 74))],[o_ 78 (.bslice 1 [.nilS] 1 [(0,1,(.t 77))]),o_ 79 (.app 1 [.nilS] 24 (.t 75) (.t 78))]),([(0,o_ 70 (l_ 5))],[o_ 80 (.idxs 1 (.t 70) (.t 71)),.op none none (.store (.t 80) (.t 79) 1)])] rfl rfl (by kernel_rfl) ?_
 simp only[go_sem,f5,f15,f13,gob,gobL,i1,rw0]
 refine aJ (ACall.v1 (aJ4 u uv hu hul hup)) ?_
 rintro y H ⟨hs,y4⟩
 have gob1:=hs.2 _ _ gob
 have gob1L:=xL gob1
 have row1:=hs.2 _ _ P.row
 have rw1:rd w0 H (.own iout w)=some gv:=by simp[rd,row1,hgv]
 have oy:one y=true∧cellsOf y=some [y]:=by obtain⟨_,_,_,_,e,_⟩:=y4.b; rw[e]; exact⟨rfl,rfl⟩
 obtain⟨A,eA⟩:∃A,A=H++[some (Blk.row [y])]:=⟨_,rfl⟩
 have hA:aB G A:=eA▸hs.app
 have PH:mO w0 ps ms im A iout W pol cells:=P.keep (ns:=ps) (C:=[]) hA.toK (by simp) (fun c hc=> .inl hc) (fun c hc=>hc) (fun c hc=>Nat.lt_of_lt_of_le (P.lt c hc) hA.1) (by simp)
 have y5:UnO w0 A G.length y u:=y4.keep (C:=[]) (eA▸aB.refl.app.toK) (by simp)
 obtain⟨gv0,gv',H2,a1,a2,a3,a4,a5,a6,a7,a8,a9⟩:=PH.add hw (y5.p fun c hc=>P.lt c hc) oy.1 (kb:=H.length) (by rw[eA]; simp) hl
 rw[hgv]at a1
 cases a1
 have gob2:=a5.at_ _ _ hob (hA.2 _ _ gob)
 have gob2L:=xL gob2
 have row2:H2[iout]? = some (some (.row cells)):=a7.trans PH.row
 have him:A[im]? = G[im]? := by
  obtain⟨b,hb'⟩:=gim
  rw[hb']; exact hA.2 _ _ hb'
 have hset:cells.take w++gv'::cells.drop (w+1)=cells.set w gv':=by
  rw[List.set_eq_take_append_cons_drop,if_pos hcw]
 have h1:w+1≤cells.length:=by omega
 simp only[go_sem,f5,f15,f13,gob1,gob1L,i1,rw1,oy.1,oy.2]
 rw[←eA]
 simp only[go_sem,a2,f5,f15,f13,gob2,gob2L,i1,a3,a4,row2,hset]
 refine⟨h1,iO fr0 KS,?_,hQ _ A.length _ (hA.toK.trans (a5.set (.inl P.io))) ?_ hA.1 a9⟩
 ·exact aFq [_,_,_,_,_,_,_,_,_,_,_] rfl hKS
 ·rw[qB P.ne]; exact a6.trans him
theorem aIa{Q:Exit→Fr→Heap→Prop}{k:List It}{rr:Option Nat}{nt Z:Nat}{G:Heap}{fr0:Fr}{d:aQ}{v:cU}{i im n slot g:Nat}{xs:List Nat}{s:aF}{nv:StV}{xb tb gb nb wb:Nat}{want:Int}
 (f4:fr0.get 4= .ptr (.own xb 0)) (f7:fr0.get 7= .ptr (.own tb 0)) (f11:fr0.get 11= .ptr (.own gb 0)) (f12:fr0.get 12= .ptr (.own wb 0)) (f14:fr0.get 14= .ptr (.own nb 0))
 (gx:G[xb]? = some (some (.row [.ptr (.own i 0)]))) (gt:G[tb]? = some (some (.row [.int .i64 (slot:Int)]))) (gg:G[gb]? = some (some (.row [.int .i64 (g:Int)]))) (gw:G[wb]? = some (some (.row [.int .i64 want]))) (gn:G[nb]? = some (some (.row (stC nv))))
 (B:vB w0 d v i im n) (hk:slot+1+n=aL d) (sl:slot<1000) (hg:g<2^50) (hs:StN d (slot+1) s) (I:mL w0 d v i im xs G) (hst:StS w0 (msk xs G) s nv)
 (KS:List Nat) (hKS:∀t∈KS,t<51)
 (hQ:∀H,Keep [im] G H→mL w0 d v i im xs H→un Tryz.prog w0 rr nt Z Q .normal k ((58,.bool (decide (want<cX d n g s)))::iO fr0 KS) H) :
 dr Tryz.prog w0 rr nt Z Q aLN aLQ k fr0 G:=by
 obtain⟨c,ec⟩:∃c,c=cX d n g s:=⟨_,rfl⟩
 rw[←ec]at hQ
 obtain⟨M,hM,_⟩:=I.memo
 have nim:∀ {b:Nat} {c:List AV},G[b]? = some (some (.row c))→b∉[im]:=fun {b c} e hb=>by
  simp at hb; subst hb; rw[hM]at e; cases e
 have hc:=B (slot+1) g s nv xs G hk hg hs I hst
 rw[Int.natCast_add,Int.natCast_one,←ec]at hc
 refine uV ?_
 refine iS dE [0,1,2,3,4,6,5,7] [o_ 51 (l_ 4),o_ 52 (l_ 7),o_ 53 (.bin .add (.t 52) (i_ 1)),o_ 54 (l_ 11),o_ 55 (.load (.t 14) (some 3)),o_ 57 (l_ 12),.call (some 56) none (f_ 55) [(.t 51),(.t 53),(.t 54),(.t 55)]] [([(5,o_ 57 (l_ 12))],[o_ 58 (.bin .gtr (.t 56) (.t 57))])] rfl rfl (by kernel_rfl) ?_
 simp only[go_sem,f4,f7,f11,f12,f14,gx,gt,gg,gw,gn,stC]
 refine⟨(by unfold I64; omega),?_⟩
 refine aJ (ACall.v4 hc) ?_
 rintro y H2 ⟨y1,y2,y3⟩
 subst y1
 have gx':=y2.at_ _ _ (nim gx) gx
 have gt':=y2.at_ _ _ (nim gt) gt
 have gg':=y2.at_ _ _ (nim gg) gg
 have gw':=y2.at_ _ _ (nim gw) gw
 have gn':=y2.at_ _ _ (nim gn) gn
 simp only[go_sem,f4,f7,f11,f12,f14,gx',gt',gg',gw',gn',stC]
 refine⟨_,Wk.cons (aFq [_,_,_,_,_,_,_,_] rfl hKS) rfl,hQ H2 y2 y3⟩
def uN(d:aQ)(k slot g:Nat)(s:aF)(x:List aH×aF):Bool:= !decide (eP d k slot g s<cX d k g x.2)
def uA(d:aQ)(k g:Nat)(pol:gC):Option (List aH×aF)→gC
 | none=>pol
 | some x=>iL d k g x.2 (mK g x.1 pol d.weathers.length)
def iT(d:aQ)(k slot:Nat)(s:aF)(pol:gC)(g:Nat):gC:=uA d k g pol ((fD d s (wAt d (iK g d.weathers.length) slot)).find? (uN d k slot g s))
theorem wJ{d:aQ}{ws slot:Nat}:∀n,(cQ d ws slot n).2.length≤n
 | 0=>Nat.le_refl _
 | n+1=>by
  have ih:=wJ (d:=d) (ws:=ws) (slot:=slot) n
  rw[cQ]
  split
  ·simp; exact ih
  ·omega
theorem vX{d:aQ}{k ws:Nat}{s:aF}{pol:gC}:iL d (k+1) ws s pol=(eS d ws (aL d - (k+1))).foldl (iT d k (aL d - (k+1)) s) pol:=by
 rw[iL]
 rfl
def oI:Nat→Nat
 | 0=>0
 | k+1=>6*(1+oI k)
theorem zW{g:Nat}{u:List aH}{pol:gC}:∀n,(mK g u pol n).length=pol.length
 | 0=>rfl
 | n+1=>by rw[mK]; split<;>simp[zW n]
theorem oQ{g L:Nat}{u:List aH}{pol:gC}(h:∀l∈pol,l.length≤L):∀n w l,(mK g u pol n)[w]? = some l→l.length≤L+1∧(n≤w→l.length≤L)
 | 0,w,l,e=>by have:=h l (List.mem_of_getElem? e); exact⟨by omega,fun _=>this⟩
 | n+1,w,l,e=>by
  rw[mK]at e
  split at e
  ·by_cases hw:n=w
   ·subst hw
    by_cases hl:n<(mK g u pol n).length
    ·rw[qF hl]at e
     cases e
     rw[aE hl]
     have:=(oQ h n n _ (qA hl)).2 (Nat.le_refl _)
     exact⟨by simp; omega,fun hh=>by omega⟩
    ·rw[List.getElem?_eq_none (by rw[List.length_set]; omega)]at e; cases e
   ·rw[qB hw]at e
    have:=oQ h n w l e
    exact⟨this.1,fun hh=>this.2 (by omega)⟩
  ·have:=oQ h n w l e
   exact⟨this.1,fun hh=>this.2 (by omega)⟩
theorem aCQ{α:Type}{f:gC→α→gC}{b:Nat}(hf:∀(p:gC) a L,(∀l∈p,l.length≤L)→∀l∈f p a,l.length≤L+b):∀(az:List α) (p:gC) (L:Nat),(∀l∈p,l.length≤L)→∀l∈az.foldl f p,l.length≤L+az.length*b
 | [],p,L,h,l,hl=>by have:=h l hl; simp; omega
 | a::az,p,L,h,l,hl=>by
  have:=aCQ hf az (f p a) (L+b) (hf p a L h) l hl
  rw[List.length_cons,Nat.succ_mul]; omega
theorem aAX{d:aQ}(dg:jJ d):∀(k ws:Nat) (s:aF) (pol:gC) (L:Nat),(∀l∈pol,l.length≤L)→∀l∈iL d k ws s pol,l.length≤L+oI k
 | 0,ws,s,pol,L,h,l,hl=>by rw[iL]at hl; have:=h l hl; omega
 | k+1,ws,s,pol,L,h,l,hl=>by
  rw[vX]at hl
  have:=aCQ (b:=1+oI k) (fun p g L hp l hl=>by
   unfold iT uA at hl
   split at hl
   ·have:=hp l hl; omega
   ·have:=aAX dg k g _ _ (L+1) (fun l hl=>by
     obtain⟨w,hw,rfl⟩:=List.mem_iff_getElem.1 hl
     exact(oQ hp _ w _ (qA hw)).1) l hl
    omega) _ pol L h l hl
  have hg:(eS d ws (aL d - (k+1))).length≤6:=by
   have h6:=dg.w1
   refine Nat.le_trans (wJ _) h6
  have:=Nat.mul_le_mul_right (1+oI k) hg
  rw[oI]; omega
structure BuB where
 b3:Nat
 xb:Nat
 ob:Nat
 bb:Nat
def BuB.args(b:BuB):List AV:=[.ptr (.own b.b3 0),.ptr (.own b.xb 0),.ptr (.own b.ob 0),.ptr (.own b.bb 0)]
structure BuI(w0:World)(d:aQ)(v:cU)(i iout:Nat)(b:BuB)(xs:List Nat)(H:Heap):Prop where
 h3:(msk xs H)[b.b3]? = some (some (.row (aX v)))
 hx:(msk xs H)[b.xb]? = some (some (.row [.ptr (.own i 0)]))
 ho:(msk xs H)[b.ob]? = some (some (.row [.sl (.own iout 0) d.weathers.length 1 true]))
 hb:(msk xs H)[b.bb]? = some (some (.row [.fn (.func 50) [] b.args]))
theorem BuI.sub{d:aQ}{v:cU}{i iout:Nat}{b:BuB}{xs xs':List Nat}{H H':Heap}(a:BuI w0 d v i iout b xs H)(t:aB (msk xs H) (msk xs' H')):BuI w0 d v i iout b xs' H':=⟨t.2 _ _ a.h3,t.2 _ _ a.hx,t.2 _ _ a.ho,t.2 _ _ a.hb⟩
def aB0(w0:World)(d:aQ)(v:cU)(i im iout:Nat)(b:BuB)(k:Nat):Prop:=∀(slot ws:Nat) (s:aF) (sv:StV) (xs ps ms:List Nat) (h:Heap) (pol:gC) (cells:List AV),slot+k=aL d→ws<2^50→StN d slot s→mL w0 d v i im xs h→StS w0 (msk xs h) s sv→BuI w0 d v i iout b xs h →
 mO w0 ps ms im h iout d.weathers.length pol cells→(∀c∈ms,c∈xs)→im∈ms→∀L,(∀l∈pol,l.length≤L)→L+oI k<1000000 →
 ACall Tryz.prog w0 50 ([.int .i64 (slot:Int),.int .i64 (ws:Int),.agg (stC sv)]++b.args) h fun _ H=>∃(nw:List Nat) (cells':List AV),(∀c∈nw,h.length≤c∧c<H.length)∧Keep ms h H∧mL w0 d v i im (nw++xs) H∧mO w0 (nw++ps) (nw++ms) im H iout d.weathers.length (iL d k ws s pol) cells'
theorem aKa(d:aQ)(v:cU)(i im iout:Nat)(b:BuB)(dg:jJ d):aB0 w0 d v i im iout b 0:=by
 intro slot ws s sv xs ps ms h pol cells hk hw hs I S U P hmx him LL hpl hLL
 refine aO aI2 fun hb ha=> ?_
 have un:=bD (ms:=xs) (A:=h)
 have hD:=I.hD.sub un
 obtain⟨p,x,w1,w2,w3⟩:=xI hD dg
 have p1:=Sl.one (S.sub un).planes.s
 have p2:=Sl.one (S.sub un).legs.s
 have p3:=Sl.one (S.sub un).people.s
 have c3:∀L,(h++L)[b.b3]? = some (some (.row (aX v))):=fun L=>aA (un.2 _ _ U.h3)
 have e0:((slot:Int)==(aL d:Int))=true:=by simp; omega
 simp only[go_sem,mf50,BuB.args,p1.1,p2.1,p3.1,p1.2,p2.2,p3.2,c3,w1,w2,w3,e0]
 refine⟨[],cells,by simp,aB.refl.app.toK,by simpa using I.app,?_⟩
 rw[iL]
 exact P.keep (ns:=ps) (C:=[]) aB.refl.app.toK (by simp) (fun c hc=> .inl hc) (fun c hc=>hc) (fun c hc=>by have:=P.lt c hc; simp; omega) (by simp)
theorem aJ9(d:aQ)(v:cU)(i im iout k:Nat)(b:BuB)(dg:jJ d)(R:aB0 w0 d v i im iout b k):aB0 w0 d v i im iout b (k+1):=by
 intro slot ws s sv xs ps ms h pol cells hk hw hs I S U P hmx him LL hpl hLL
 refine aO aI2 fun hb ha=> ?_
 have un0:=bD (ms:=xs) (A:=h)
 have hD:=I.hD.sub un0
 have hS:=S.sub un0
 obtain⟨p,x,w1,w2,w3⟩:=xI hD dg
 have p1:=Sl.one hS.planes.s
 have p2:=Sl.one hS.legs.s
 have p3:=Sl.one hS.people.s
 have c3:∀L,(h++L)[b.b3]? = some (some (.row (aX v))):=fun L=>aA (un0.2 _ _ U.h3)
 have cx:∀L,(h++L)[b.xb]? = some (some (.row [.ptr (.own i 0)])):=fun L=>aA (un0.2 _ _ U.hx)
 have e0:((slot:Int)==(aL d:Int))=false:=by simp; omega
 simp only[go_sem,mf50,BuB.args,p1.1,p2.1,p3.1,p1.2,p2.2,p3.2,c3,w1,w2,w3,e0,cx]
 refine aJ (ACall.v3 (aCI (h:=h++[some (Blk.row [.int .i64 (slot:Int)]),some (Blk.row [sv.pl,sv.le,sv.pe])]) d v (.map im) i ws slot (hD.sub aB.refl.app) dg (by omega) hw)) ?_
 rintro y G ⟨sG,gI⟩
 have hhG:aB h G:=aB.refl.app.trans sG
 have es:slot=aL d - (k+1):=by omega
 obtain⟨gs,egs⟩:∃gs,gs=eS d ws slot:=⟨_,rfl⟩
 have hgs:∀g∈gs,_:=fun g hg=>wK (d:=d) (ws:=ws) (slot:=slot) (egs▸hg)
 have hgl:gs.length≤6:=by
  have:=(oK (d:=d) (slot:=slot) hw d.weathers.length).2
  have h6:=dg.w1
  rw[egs]; exact Nat.le_trans this h6
 have efin:iL d (k+1) ws s pol=gs.foldl (iT d k slot s) pol:=by rw[vX,←es,egs]
 rw[←egs]at gI
 have ln:=(SlI.use (gI.n.s (w0:=w0))).1
 rw[List.length_map]at ln
 simp only[go_sem,ln]
 have g0:G[h.length]? = some (some (.row [.int .i64 (slot:Int)])):=sG.2 _ _ (by simp)
 have g1:G[h.length+1]? = some (some (.row (stC sv))):=sG.2 _ _ (by simp[stC])
 have hlt:=sG.1
 rw[List.length_append]at hlt
 simp only[List.length_cons,List.length_nil]at hlt
 rw[oI]at hLL
 refine bS (S:=Heap×gC×List AV×List Nat) (fun j _=>[(3,.ptr (.own b.b3 0)),(4,.ptr (.own b.xb 0)),(5,.ptr (.own b.ob 0)),(6,.ptr (.own b.bb 0)),(7,.ptr (.own h.length 0)),(9,.ptr (.own (h.length+1) 0)),(26,y),(27,.int .i64 (gs.length:Int)),(28,.int .i64 (j:Int))]) (fun _ st=>st.1)
  (fun j st=>(∀c∈st.2.2.2,G.length≤c∧c<st.1.length)∧Keep ms G st.1∧mL w0 d v i im (st.2.2.2++xs) st.1∧mO w0 (st.2.2.2++ps) (st.2.2.2++ms) im st.1 iout d.weathers.length st.2.1 st.2.2.1∧st.2.1=(gs.take j).foldl (iT d k slot s) pol∧∀l∈st.2.1,l.length≤LL+j*(1+oI k)) gs.length (G,pol,cells,[])
  ⟨by simp,Keep.refl,by simpa using I.keep (C:=[]) hhG.toK (by simp) (by obtain⟨M,e,_⟩:=I.memo; rw[e]; exact hhG.2 _ _ e),by simpa using P.keep (ns:=ps) (C:=[]) hhG.toK (by simp) (fun c hc=> .inl hc) (fun c hc=>hc) (fun c hc=>by have:=P.lt c hc; have:=hhG.1; omega) (by simp),rfl,by simpa using hpl⟩ rfl rfl (fun j st hj J ih=> ?_) (fun st J=> ?_)
 ·obtain⟨H,pol',cells',nw⟩:=st
  obtain⟨n1,kH,IH,PH,ep,lb⟩:=J
  simp only at n1 kH IH PH ep lb ih ⊢
  refine aP [3,4,5,6,7,9,26,27,28] aGf.eq_1 ?_
  have e1:(j:Int)<gs.length:=by omega
  have hmh:∀c∈ms,c<h.length:=fun c hc=>I.n2 c (hmx c hc)
  have kHe:=kH.le
  have gI2:=gI.keep kH fun c hc=>(by have:=hmh c hc; rw[List.length_append]; omega)
  obtain⟨_,q,qi,qr⟩:=SlI.use (gI2.n.s (w0:=w0))
  have hjm:j<(gs.map Int.ofNat).length:=by simpa using hj
  have q1:=qi j hjm
  have q2:=qr j hjm []
  rw[List.append_nil]at q2
  have q3:(gs.map Int.ofNat)[j]=(gs[j]:Int):=by simp
  rw[q3]at q2
  obtain⟨g,eg⟩:∃g,g=gs[j]:=⟨_,rfl⟩
  rw[←eg]at q2
  obtain⟨hgb,hg⟩:=hgs g (eg▸qG hj)
  have hms0:∀c,h.length≤c→c∉ms:=fun c hc hx=>by have:=hmh c hx; omega
  have b7:∀L,(H++L)[h.length]? = some (some (.row [.int .i64 (slot:Int)])):=fun L=>aA (kH.at_ _ _ (hms0 _ (Nat.le_refl _)) g0)
  have b9:∀L,(H++L)[h.length+1]? = some (some (.row (stC sv))):=fun L=>aA (kH.at_ _ _ (hms0 _ (by omega)) g1)
  have khH:Keep ms h H:=(aB.toK hhG).trans kH
  have hx0:∀c∈nw++xs,c∈xs∨h.length≤c:=fun c hc=>by rcases List.mem_append.1 hc with hc | hc; exact .inr (by have:=(n1 c hc).1; omega); exact .inl hc
  have sH:aB (msk xs h) (msk (nw++xs) H):=khH.mskm (fun c hc=> .inl (hmx c hc)) hx0
  have UH:=U.sub sH
  have unH:=bD (ms:=nw++xs) (A:=H)
  have cx2:∀L,(H++L)[b.xb]? = some (some (.row [.ptr (.own i 0)])):=fun L=>aA (unH.2 _ _ UH.hx)
  simp only[go_sem,e1,q1,q2,cx2,b7,b9,p1.1,p2.1,p3.1,p1.2,p2.2,p3.2]
  have unx:∀ {c:Nat},c∈nw++xs→c<H.length:=fun {c} hc=>IH.n2 c hc
  have I1:=IH.app (L:=[some (Blk.row [.int .i64 (g:Int)])])
  have S1:=S.sub (sH.trans (nT (L:=[some (Blk.row [.int .i64 (g:Int)])])))
  refine aJ (ACall.v4 ((aA9 d v i im dg k).2 slot g s sv (nw++xs) (H++[some (Blk.row [.int .i64 (g:Int)])]) (by omega) hg hgb hs I1 S1)) ?_
  rintro y2 H1 ⟨rfl,k1,I2⟩
  obtain⟨want,ewant⟩:∃want,want=eP d k slot g s:=⟨_,rfl⟩
  rw[←ewant]
  have imx:im∈nw++xs:=IH.n0
  have sH1:aB (msk (nw++xs) H) (msk (nw++xs) H1):=(nT (L:=[some (Blk.row [.int .i64 (g:Int)])])).trans (k1.msk fun c hc=> .inl (by simp at hc; subst hc; exact imx))
  have U1:=UH.sub sH1
  have un1:=bD (ms:=nw++xs) (A:=H1)
  have hD1:=I2.hD.sub un1
  have himh:im<h.length:=I.n2 _ I.n0
  have ni:∀c,h.length≤c→c∉[im]:=fun c hc hx=>by simp at hx; omega
  have d7:∀L,(H1++L)[h.length]? = some (some (.row [.int .i64 (slot:Int)])):=fun L=>aA (k1.at_ _ _ (ni _ (Nat.le_refl _)) (b7 _))
  have d9:∀L,(H1++L)[h.length+1]? = some (some (.row (stC sv))):=fun L=>aA (k1.at_ _ _ (ni _ (by omega)) (b9 _))
  have d11:∀L,(H1++L)[H.length]? = some (some (.row [.int .i64 (g:Int)])):=fun L=>aA (k1.at_ _ _ (ni _ (by omega)) (by simp))
  have dx:∀L,(H1++L)[b.xb]? = some (some (.row [.ptr (.own i 0)])):=fun L=>aA (un1.2 _ _ U1.hx)
  have d3:∀L,(H1++L)[b.b3]? = some (some (.row (aX v))):=fun L=>aA (un1.2 _ _ U1.h3)
  obtain⟨f1,f2,f3⟩:=mX d.weathers.length g hgb
  obtain⟨w,ew⟩:∃w,w=iK g d.weathers.length:=⟨_,rfl⟩
  rw[←ew]at f1 f2 f3
  have hW6:=dg.w1
  have hg50:g<2^50:=Nat.lt_of_lt_of_le hg (Nat.pow_le_pow_right (by omega) (by omega))
  obtain⟨pw,xw,r1,r2,r3⟩:=hD1.R.weathers.at_ f3
  obtain⟨_,qw,qwi,qwr⟩:=SlI.use r3
  have hsl:slot<d.weathers[w].length:=by rw[(dg.rows _ (qG f3)).1]; omega
  have r4:=qwi slot hsl
  have r5:∀L,rd w0 (H1++L) (qw.add slot)=some (.int .i64 (wAt d w slot)):=fun L=>by rw[xY f3 hsl]; exact qwr slot hsl L
  have hop:=(dg.rows _ (qG f3)).2 _ (qG hsl)
  rw[←xY f3 hsl]at hop
  simp only[go_sem]
  refine iS dE [0,1,2,3,4,8,5,6,7,9,10,11] [o_ 37 (l_ 4),o_ 38 (.load (.t 9) (some 3)),o_ 39 (.addr (.t 3) 4),o_ 40 (l_ 39),o_ 41 (l_ 11),o_ 45 (l_ 7),.call (some 42) none (f_ 54) [(.t 41)]] [([(0,o_ 37 (l_ 4)),(1,o_ 38 (.load (.t 9) (some 3))),(3,o_ 40 (l_ 39)),(5,o_ 45 (l_ 7))],[o_ 43 (.idxs 1 (.t 40) (.t 42)),o_ 44 (l_ 43),o_ 46 (.idxs 1 (.t 44) (.t 45)),o_ 47 (l_ 46),.call (some 48) none (f_ 53) [(.t 37),(.t 38),(.t 47)]])] rfl rfl (by kernel_rfl) ?_
  simp only[go_sem,dx,d7,d9,d3,d11,p1.1,p2.1,p3.1,p1.2,p2.2,p3.2]
  refine aC (aF5 g w (by omega) f1 f2 hg50).v ?_
  simp only[go_sem,dx,d7,d9,d3,d11,r1,r2,r4,r5,p1.1,p2.1,p3.1,p1.2,p2.2,p3.2]
  refine aC (aB5 i sv (wAt d w slot) p1 p2 p3).v ?_
  simp only[go_sem]
  refine lD [3,4,5,6,7,9,11,12,26,27,28,48] ?_
  simp only[go_sem]
  refine oE (fid:=107) (first:=[]) rfl (.inl rfl) fun hca hcb hps=> ?_
  simp only[go_sem]
  obtain⟨fr0,efr⟩:∃fr0:Fr,fr0=[(3,AV.ptr (Pl.own b.b3 0)),(4,AV.ptr (Pl.own b.xb 0)),(5,AV.ptr (Pl.own b.ob 0)),(6,AV.ptr (Pl.own b.bb 0)),(7,AV.ptr (Pl.own h.length 0)),(9,AV.ptr (Pl.own (h.length+1) 0)),(11,AV.ptr (Pl.own H.length 0)),(12,AV.ptr (Pl.own H1.length 0)),(26,y),(27,AV.int .i64 (gs.length:Int)),(28,AV.int .i64 (j:Int)),
   (48,AV.fn (Fn.func 107) [] [AV.ptr (Pl.own (H1.length+1) 0),AV.ptr (Pl.own (H1.length+2) 0),AV.ptr (Pl.own (H1.length+3) 0)])]:=⟨_,rfl⟩
  obtain⟨rec_,erec⟩:∃rec_:LoopState→Option Code→Blk,rec_=fun st pd=>Blk.loop 89 fr0 #[49,50] (aV (bJ 50) [1,1,1,0,0,1,1,0,0,1,1,1,0,0]) (aV (bJ 50) [1,1,1,0,0,1,1,0,0,1,1,1,0,1]) st pd:=⟨_,rfl⟩
  obtain⟨G2,eG2⟩:∃G2,G2=H1++[some (Blk.row [.int .i64 want]),some (Blk.row [AV.ptr (Pl.own i 0)]),some (Blk.row [sv.pl,sv.le,sv.pe]),some (Blk.row [AV.int .i64 (wAt d w slot)]),some (rec_ .ready none)]:=⟨_,rfl⟩
  have eG2':=eG2
  simp only[erec,efr]at eG2'
  rw[←eG2',←efr]
  have hG2:aB H1 G2:=by rw[eG2]; exact aB.refl.app
  have gl2:G2.length=H1.length+5:=by rw[eG2]; simp
  have m0:G2[H1.length]? = some (some (.row [.int .i64 want])):=by rw[eG2]; simp
  have m4:G2[H1.length+4]? = some (some (rec_ .ready none)):=by rw[eG2]; simp
  have hA1:=k1.le
  rw[List.length_append]at hA1
  simp only[List.length_cons,List.length_nil]at hA1
  obtain⟨qq,eqq⟩:∃qq,qq=H1.length+4:=⟨_,rfl⟩
  rw[←eqq]at m4 ⊢
  obtain⟨tl,etl⟩:∃tl:List It,tl=[It.inBlk 2,It.inBlk 1,It.code (SC.reg [MIx.op (some 88) none (MOp.bin BinOp.add (Opd.t 28) (Opd.k (AV.int IntKind.i64 1))),MIx.op (some 28) none (MOp.mov (Opd.t 88))]),It.inLoop [3,4,5,6,7,9,26,27,28] aGf,It.inBlk 0]:=⟨_,rfl⟩
  rw[←etl]
  obtain⟨QQ,eQQ⟩:∃QQ,QQ=resK w0 [] fun(_:AV) H=>∃(nw:List Nat) (cells':List AV),(∀c∈nw,h.length≤c∧c<H.length)∧Keep ms h H∧mL w0 d v i im (nw++xs) H∧mO w0 (nw++ps) (nw++ms) im H iout d.weathers.length (iL d (k+1) ws s pol) cells':=⟨_,rfl⟩
  rw[←eQQ]at ih ⊢
  have hend:∀(e:Exit) (H':Heap) (cells2:List AV) (nw2:List Nat),e= .normal∨e= .exit 2→(∀c∈nw2,G.length≤c∧c<H'.length)→Keep ms G H'→mL w0 d v i im (nw2++xs) H'→mO w0 (nw2++ps) (nw2++ms) im H' iout d.weathers.length (iT d k slot s pol' g) cells2→un Tryz.prog w0 none 89 h.length QQ e tl fr0 H':=by
   intro e H' cells2 nw2 he a1 a2 a3 a4
   have hin:(gs.take (j+1)).foldl (iT d k slot s) pol=iT d k slot s pol' g:=by
    rw[List.take_add_one,qA hj,List.foldl_append,←ep,←eg]; rfl
   have hlb:∀l∈iT d k slot s pol' g,l.length≤LL+(j+1)*(1+oI k):=fun l hl=>by
    have h1:∀l∈iT d k slot s pol' g,l.length≤(LL+j*(1+oI k))+(1+oI k):=fun l hl=>by
     unfold iT uA at hl
     split at hl
     ·have:=lb l hl; omega
     ·have:=aAX dg k g _ _ (LL+j*(1+oI k)+1) (fun l hl=>by
       obtain⟨w,hw,rfl⟩:=List.mem_iff_getElem.1 hl
       exact(oQ lb _ w _ (qA hw)).1) l hl
      omega
    have:=h1 l hl
    rw[Nat.succ_mul]; omega
   have:=ih (H',iT d k slot s pol' g,cells2,nw2) ⟨a1,a2,a3,a4,hin.symm,hlb⟩
   rw[etl,efr]
   rcases he with rfl | rfl
   ·simp only[go_sem]
    exact⟨(by unfold I64; omega),by simpa using this⟩
   ·simp only[go_sem]
    exact⟨(by unfold I64; omega),by simpa using this⟩
  obtain⟨KF,eKF⟩:∃KF:Heap→Prop,KF=fun h'=>rgE Tryz.prog w0 none 89 h.length QQ tl fr0 h'[qq]? (h'.set qq none):=⟨_,rfl⟩
  rw[←eKF]
  obtain⟨C,eC⟩:∃C,C=qq::(nw++xs):=⟨_,rfl⟩
  have hCl:∀c∈C,c<G2.length:=fun c hc=>by rw[eC]at hc; rcases List.mem_cons.1 hc with rfl | hc; omega; have:=unx hc; omega
  have hCo:∀c,H.length≤c→c≠qq→c∉C:=fun c h1 h2 hc=>by rw[eC]at hc; rcases List.mem_cons.1 hc with rfl | hc; exact h2 rfl; have:=unx hc; omega
  have hC1:∀c∈C,c∈nw++xs∨H1.length≤c:=fun c hc=>by rw[eC]at hc; rcases List.mem_cons.1 hc with rfl | hc; exact .inr (by omega); exact .inl hc
  have sG2:aB (msk (nw++xs) H1) (msk C G2):=(aB.toK (C:=[]) hG2).mskm (by simp) hC1
  have hlx:=dg.s1
  refine aFr C d v (.map im) i s sv (wAt d w slot) qq (H1.length+1) (H1.length+2) (H1.length+3) KF (hs.ok (by omega)) dg.seats (by have:=dg.p0; omega) hop.1 (by have:=hop.2; omega) hCl (by rw[aT (hCo _ (by omega) (by omega)),eG2]; simp) (by rw[aT (hCo _ (by omega) (by omega)),eG2]; simp[stC]) (by rw[aT (hCo _ (by omega) (by omega)),eG2]; simp) (I2.hD.sub sG2) (S1.sub ((k1.msk fun c hc=> .inl (by simp at hc; subst hc; exact imx)).trans sG2)) ?_
  have hun:=fun z hz=>And.intro (qT (op:=wAt d w slot) dg hs z hz) (aAq (op:=wAt d w slot) dg hs (y:=z) hz)
  have eF:iT d k slot s pol' g=uA d k g pol' ((fD d s (wAt d w slot)).find? (uN d k slot g s)):=by rw[iT,←ew]
  generalize fD d s (wAt d w slot)=us at hun eF
  have claim:∀(l:List (List aH×aF)) (O:List Nat) (Hc:Heap),(∀y∈l,(y.1.length=d.planes.length∧(∀x∈y.1,xD d x)∧(eJ d s (wAt d w slot) y.1).2.1=1∧y.2=(eJ d s (wAt d w slot) y.1).1)∧StN d (slot+1) y.2)→(∀c∈O,G2.length≤c)→Keep [qq,im] G2 Hc→Hc[qq]? = some (some (rec_ .ready none))→(∃M,Hc[im]? = some (some (.map (iC M)))∧qO d M) →
   iT d k slot s pol' g=uA d k g pol' (l.find? (uN d k slot g s))→dC Tryz.prog w0 qq C (UnYV w0 C) (fun _=>True) KF l O Hc:=by
   intro l
   induction l with
   | nil=>
    intro O Hc _ hO kc hq hm hn
    intro H2 t2
    have out:∀c,c<G2.length→c∉O:=fun c hc hx=>by have:=hO c hx; omega
    have k9:=t2.at_ _ _ (out _ (by omega)) hq
    have kG2:=kc.iter t2 hO
    have kHn:Keep [im] H (H2.set qq none):=((((aB.refl.app (L:=[some (Blk.row [.int .i64 (g:Int)])])).toK.trans k1).trans hG2.toK).more (D:=[qq,im]) (by simp) |>.trans kG2 |>.set (.inl (by simp))).old fun c hc=>by simp at hc; rcases hc with rfl | rfl; exact .inr (by omega); exact .inl (by simp)
    have hm':∃M,(H2.set qq none)[im]? = some (some (.map (iC M)))∧qO d M:=by
     obtain⟨M,e1,e2⟩:=hm
     exact⟨M,by rw[qB (by omega)]; exact t2.at_ _ _ (out _ (by omega)) e1,e2⟩
    have hle:=kHn.le
    simp only[eKF,k9,erec]
    simp only[go_sem]
    simp only[List.find?_nil,uA]at hn
    refine hend .normal _ cells' nw (.inl rfl) (fun c hc=>⟨(n1 c hc).1,by have:=(n1 c hc).2; omega⟩) (kH.trans (kHn.more (by simp[him]))) ⟨IH.hD.sub (kHn.msk fun c hc=> .inl (by simp at hc; subst hc; exact imx)),imx,fun c hc=>by have:=unx hc; omega,hm'⟩ ?_
    rw[hn]
    exact PH.keep (ns:=nw++ps) kHn (fun c hc _=>by simpa using hc) (fun c hc=> .inl hc) (fun c hc=>hc) (fun c hc=>Nat.lt_of_lt_of_le (PH.lt c hc) hle) (fun c hc=> .inl (by simp at hc; subst hc; exact PH.sub _ (List.mem_append_right _ him)))
   | cons yy l ihl=>
    intro O Hc hl hO kc hq hm hn
    intro H2 args O2 _ t2 h2o h2l ⟨uv,nv,ea,huv,hst⟩
    subst ea
    have out:∀c,c<G2.length→c∉O:=fun c hc hx=>by have:=hO c hx; omega
    have k9:=t2.at_ _ _ (out _ (by omega)) hq
    have k9':=k9
    simp only[erec]at k9
    refine hE (psl:=[49,50]) dE rfl aKJ aKI aEO.eq_1 aEN.eq_1 k9 rfl hps hca hcb fun hb2 ha2=> ?_
    rw[←List.append_nil H2]
    have v1:=Sl.one hst.planes.s
    have v2:=Sl.one hst.legs.s
    have v3:=Sl.one hst.people.s
    obtain⟨A,eA⟩:∃A,A=H2++[some (Blk.row [nv.pl,nv.le,nv.pe])]:=⟨_,rfl⟩
    have hHA:aB H2 A:=by rw[eA]; exact aB.refl.app
    have a9:A[qq]? = some (some (rec_ .ready none)):=hHA.2 _ _ k9'
    have a9':=a9
    simp only[erec,efr]at a9'
    rw[efr]
    simp only[go_sem,v1.1,v2.1,v3.1,v1.2,v2.2,v3.2,←eA,a9']
    obtain⟨B0,eB0⟩:∃B0,B0=A.set qq (some (rec_ .busy none)):=⟨_,rfl⟩
    have eB0':=eB0
    simp only[erec,efr]at eB0'
    rw[←eB0',←efr]
    have l9:=aD a9
    have k2B:Keep [qq] H2 B0:=by rw[eB0]; exact hHA.toK.set (.inl (by simp))
    have kG2:=kc.iter t2 hO
    have kGB:Keep [qq,im] G2 B0:=kG2.trans (k2B.more (by simp))
    have hGl:=kG2.le
    have hqC:qq∈C:=by rw[eC]; simp
    have hxC:∀c∈nw++xs,c∈C:=fun c hc=>by rw[eC]; exact List.mem_cons_of_mem _ hc
    have himC:im∈C:=hxC _ imx
    have sGB:aB (msk C G2) (msk C B0):=kGB.msk fun c hc=> .inl (by simp at hc; rcases hc with rfl | rfl; exact hqC; exact himC)
    have UB:=(U1.sub sG2).sub sGB
    have unB:=bD (ms:=C) (A:=B0)
    have kn:∀c,h.length≤c→c<H1.length+4→c∉[qq,im]:=fun c h1 h2 hc=>by simp at hc; omega
    have j7:B0[h.length]? = some (some (.row [.int .i64 (slot:Int)])):=kGB.at_ _ _ (kn _ (by omega) (by omega)) (hG2.2 _ _ (by simpa using d7 []))
    have j11:B0[H.length]? = some (some (.row [.int .i64 (g:Int)])):=kGB.at_ _ _ (kn _ (by omega) (by omega)) (hG2.2 _ _ (by simpa using d11 []))
    have j12:B0[H1.length]? = some (some (.row [.int .i64 want])):=kGB.at_ _ _ (kn _ (by omega) (by omega)) m0
    have j14:B0[H2.length]? = some (some (.row (stC nv))):=by
     rw[eB0,qB (by omega),eA]; simp[stC]
    have IB:mL w0 d v i im C B0:=by
     refine⟨((I2.hD.sub sG2).sub sGB),himC,fun c hc=>by have:=hCl c hc; have:=kGB.le; omega,?_⟩
     obtain⟨M,z1,z2⟩:=hm
     exact⟨M,k2B.at_ _ _ (by simp; omega) (t2.at_ _ _ (out _ (by omega)) z1),z2⟩
    have hstB:StS w0 (msk C B0) yy.2 nv:=hst.sub (k2B.msk fun c hc=> .inl (by simp at hc; subst hc; exact hqC))
    obtain⟨⟨u1,u2,u3,u4⟩,u5⟩:=hl yy (by simp)
    refine aIa (KS:=[3,4,5,6,7,9,11,13,14,26,27,28]) (xb:=b.xb) (tb:=h.length) (gb:=H.length) (nb:=H2.length) (wb:=H1.length) (want:=want) (slot:=slot) (g:=g) (s:=yy.2) (nv:=nv) (n:=k) (xs:=C) (by simp only[efr]; rfl) (by simp only[efr]; rfl) (by simp only[efr]; rfl) (by simp only[efr]; rfl) (by simp only[efr]; rfl) (unB.2 _ _ UB.hx) j7 j11 j12 j14 (aA9 d v i im dg k).1 (by omega) (by omega) hg50 u5 IB hstB (by simp) (fun H3 k3 I3=> ?_)
    obtain⟨c,ec⟩:∃c,c=cX d k g yy.2:=⟨_,rfl⟩
    rw[←ec]
    have b9':B0[qq]? = some (some (rec_ .busy none)):=by rw[eB0,qF l9]
    have x9:H3[qq]? = some (some (rec_ .busy none)):=k3.at_ _ _ (by simp; omega) b9'
    have l3:=aD x9
    have x9':=x9
    simp only[erec,efr]at x9'
    have k23:Keep C H2 H3:=(k2B.more (by simp[hqC])).trans (k3.more (by simp[himC]))
    have hO2:∀c∈O2,G2.length≤c:=fun c hc=>(h2o c hc).elim (hO c) fun hx=>by have:=kc.le; omega
    simp only[efr]
    by_cases hit:want<c
    ·simp only[go_sem,hit,x9',List.append_nil]
     obtain⟨F,eF⟩:∃F,F=H3.set qq (some (rec_ .ready none)):=⟨_,rfl⟩
     have eF':=eF
     simp only[erec,efr]at eF'
     rw[←eF']
     have kF:Keep [qq] H3 F:=by rw[eF]; exact Keep.refl.set (.inl (by simp))
     refine⟨k23.trans (kF.more (by simp[hqC])),.inl (ihl O2 F (fun z hz=>hl z (List.mem_cons_of_mem _ hz)) hO2 (kGB.trans ((k3.more (by simp)).trans (kF.more (by simp)))) (by rw[eF,qF l3]) ?_ ?_)⟩
     ·obtain⟨M,z1,z2⟩:=I3.memo
      exact⟨M,kF.at_ _ _ (by simp; omega) z1,z2⟩
     ·rw[hn,List.find?_cons_of_neg]
      simp only[uN,←ec,←ewant,hit,decide_true,Bool.not_true,Bool.false_eq_true,not_false_eq_true]
    ·have hn':iT d k slot s pol' g=iL d k g yy.2 (mK g yy.1 pol' d.weathers.length):=by
      rw[hn,List.find?_cons_of_pos]
      ·rfl
      ·simp only[uN,←ec,←ewant,hit,decide_false,Bool.not_false]
     have kH3:Keep [im] H H3:=((((aB.refl.app (L:=[some (Blk.row [.int .i64 (g:Int)])])).toK.trans k1).trans hG2.toK).more (D:=[qq,im]) (by simp) |>.trans kGB |>.trans (k3.more (by simp))).old fun c hc=>by simp at hc; rcases hc with rfl | rfl; exact .inr (by omega); exact .inl (by simp)
     have hle3:=kH3.le
     have hA2:=hHA.1
     have hB2:=k2B.le
     have h23:=k23.le
     obtain⟨P3,eP3⟩:∃P3,P3=qq::(O2++(nw++ps)):=⟨_,rfl⟩
     have hP3:∀c∈P3,c=qq∨c∈O2∨c∈nw++ps:=fun c hc=>by rw[eP3]at hc; rcases List.mem_cons.1 hc with rfl | hc; exact .inl rfl; exact .inr (List.mem_append.1 hc)
     have PH3:mO w0 P3 (nw++ms) im H3 iout d.weathers.length pol' cells':=
      PH.keep (ns:=P3) kH3 (fun c hc _=>by simpa using hc) (fun c hc=>by
       rcases hP3 c hc with rfl | h1 | h1
       ·exact .inr (by omega)
       ·exact .inr (by have:=hO2 c h1; omega)
       ·exact .inl h1) (fun c hc=>by rw[eP3]; exact List.mem_cons_of_mem _ (List.mem_append_right _ hc)) (fun c hc=>by
       rcases hP3 c hc with rfl | h1 | h1
       ·exact l3
       ·have:=h2l c h1; omega
       ·have:=PH.lt c h1; omega) (fun c hc=> .inl (by simp at hc; subst hc; exact PH.sub _ (List.mem_append_right _ him)))
     have U3:=UB.sub (k3.msk (ms:=C) fun c hc=> .inl (by simp at hc; subst hc; exact himC))
     have unC3:=bD (ms:=C) (A:=H3)
     have y3:H3[b.b3]? = some (some (.row (aX v))):=unC3.2 _ _ U3.h3
     have lnw:dA v.we=some (.int .i64 d.weathers.length):=by obtain⟨rows,z1,z2,_⟩:=hD1.R.weathers; rw[←z1]; exact z2.use.1
     have nCm:∀c∈nw++ms,c∈C:=fun c hc=>by
      rcases List.mem_append.1 hc with hc | hc
      ·exact hxC c (List.mem_append_left _ hc)
      ·exact hxC c (List.mem_append_right _ (hmx c hc))
     have hmsk:∀ {c:Nat} {bb:Blk} {X:Heap},(msk C X)[c]? = some (some bb)→c∉C:=fun {c bb X} e hc=>by
      by_cases hcl:c<X.length
      ·rw[lT hc hcl]at e; cases e
      ·rw[List.getElem?_eq_none (by rw[cD]; omega)]at e; cases e
     have z7:H3[h.length]? = some (some (.row [.int .i64 (slot:Int)])):=k3.at_ _ _ (by simp; omega) j7
     have z11:H3[H.length]? = some (some (.row [.int .i64 (g:Int)])):=k3.at_ _ _ (by simp; omega) j11
     have z14:H3[H2.length]? = some (some (.row (stC nv))):=k3.at_ _ _ (by simp; omega) j14
     have gn:∀c,c∉C→c<H3.length→∀nw2:List Nat,(∀c∈nw2,H3.length≤c)→c∉nw2++(nw++ms):=fun c hc hc3 nw2 h2 hx=>by
      rcases List.mem_append.1 hx with hx | hx
      ·have:=h2 c hx; omega
      ·exact hc (nCm c hx)
     have gO:H.length∉C:=hCo _ (Nat.le_refl _) (by omega)
     have g7':h.length∉C:=fun hc=>by
      rw[eC]at hc
      rcases List.mem_cons.1 hc with hc | hc
      ·omega
      ·rcases List.mem_append.1 hc with hc | hc
       ·have:=(n1 _ hc).1; omega
       ·have:=I.n2 _ hc; omega
     have g14:H2.length∉C:=hCo _ (by omega) (by omega)
     simp only[go_sem,hit,y3,lnw]
     have sl5:g<2^62:=by omega
     refine bS (S:=Heap×List AV×List Nat) (fun n _=>[(3,AV.ptr (Pl.own b.b3 0)),(4,AV.ptr (Pl.own b.xb 0)),(5,AV.ptr (Pl.own b.ob 0)),(6,AV.ptr (Pl.own b.bb 0)),(7,AV.ptr (Pl.own h.length 0)),(9,AV.ptr (Pl.own (h.length+1) 0)),(11,AV.ptr (Pl.own H.length 0)),(13,uv),(14,AV.ptr (Pl.own H2.length 0)),(26,y),(27,AV.int .i64 (gs.length:Int)),(28,AV.int .i64 (j:Int)),(61,.int .i64 (d.weathers.length:Int)),(62,.int .i64 (n:Int))]) (fun _ st=>st.1)
      (fun n st=>(∀c∈st.2.2,H3.length≤c∧c<st.1.length)∧Keep (nw++ms) H3 st.1∧st.1[im]? = H3[im]? ∧ mO w0 (st.2.2++P3) (st.2.2++(nw++ms)) im st.1 iout d.weathers.length (mK g yy.1 pol' n) st.2.1) d.weathers.length (H3,cells',[]) ⟨by simp,Keep.refl,rfl,by simpa[mK]using PH3⟩ rfl rfl (fun n st hn2 N ih2=> ?_) (fun st N=> ?_)
     ·obtain⟨Hn,celn,nw2⟩:=st
      obtain⟨N1,N2,N3,N4⟩:=N
      simp only at N1 N2 N3 N4 ih2 ⊢
      refine aP [3,4,5,6,7,9,11,13,14,26,27,28,61,62] aLc.eq_1 ?_
      have e2:(n:Int)<d.weathers.length:=by omega
      have s1:=jV (a:=g) (n:=n) (by omega)
      have s2:=kM (a:=g / 2^n) (Nat.lt_of_le_of_lt (Nat.div_le_self _ _) sl5)
      have t11:Hn[H.length]? = some (some (.row [.int .i64 (g:Int)])):=N2.at_ _ _ (fun hx=>gO (nCm _ hx)) z11
      cases hb2':bN g n with
      | false=>
       simp only[go_sem,e2,t11,s1,s2,qK,hb2']
       have:=ih2 (Hn,celn,nw2) ⟨N1,N2,N3,by rw[mK,hb2']; exact N4⟩
       exact⟨(by unfold I64; omega),by simpa using this⟩
      | true=>
       simp only[go_sem,e2,t11,s1,s2,qK,hb2']
       have hnl:n<(mK g yy.1 pol' n).length:=by rw[N4.len]; exact hn2
       have hobC:b.ob∉C:=hmsk U3.ho
       have hobl:b.ob<H3.length:=aD (unC3.2 _ _ U3.ho)
       have kCn:Keep C H2 Hn:=k23.trans (N2.more nCm)
       have hgim:∃bb,Hn[im]? = some (some bb):=by obtain⟨M,z1,_⟩:=I3.memo; exact⟨_,by rw[N3]; exact z1⟩
       refine aKl (ps:=nw2++P3) (ms:=nw2++(nw++ms)) (im:=im) (iout:=iout) (W:=d.weathers.length) (w:=n) (ob:=b.ob) (pol:=mK g yy.1 pol' n) (cells:=celn) (l:=(mK g yy.1 pol' n)[n]) (uv:=uv) (u:=yy.1) (by rfl) (by rfl) (by rfl) (N2.at_ _ _ (fun hx=>hobC (nCm _ hx)) (unC3.2 _ _ U3.ho)) (gn _ hobC hobl nw2 fun c hc=>(N1 c hc).1) N4 (qA hnl) ?_ hgim ((huv.sub (kCn.msk (ms:=C) fun c hc=> .inl hc)).sub bD) (by have:=dg.pn; omega) (fun x hx=>by have:=(u2 x hx).pl; have:=dg.pe; omega)
        [3,4,5,6,7,9,11,13,14,26,27,28,61,62] (by simp) (fun Hm id' celm a1 a2 a3 a4=> ?_)
       ·have:=(oQ lb n n _ (qA hnl)).1
        have h6:(j+1)*(1+oI k)≤6*(1+oI k):=Nat.mul_le_mul_right _ (by omega)
        rw[Nat.succ_mul]at h6
        omega
       ·simp only[go_sem]
        have hln:=N2.le
        have hlm:=a1.le
        have kAll:Keep (nw++ms) H3 Hm:=((N2.more (D:=nw2++(nw++ms)) (fun c hc=>List.mem_append_right _ hc)).trans a1).old fun c hc=>by
         rcases List.mem_append.1 hc with hc | hc
         ·exact .inr (N1 c hc).1
         ·exact .inl hc
        have:=ih2 (Hm,celm,id'::nw2) ⟨fun c hc=>by
         rcases List.mem_cons.1 hc with rfl | hc
         ·have:=a4.lt c (by simp)
          simp only; omega
         ·have:=N1 c hc; simp only; omega,kAll,a2.trans N3,by rw[mK,hb2',if_pos rfl,aE hnl]; simpa using a4⟩
        exact⟨(by unfold I64; omega),by simpa using this⟩
     ·obtain⟨Hn,celn,nw2⟩:=st
      obtain⟨N1,N2,N3,N4⟩:=N
      simp only at N1 N2 N3 N4 ⊢
      refine aP [3,4,5,6,7,9,11,13,14,26,27,28,61,62] aLc.eq_1 ?_
      have e2:¬(d.weathers.length:Int)<d.weathers.length:=by omega
      have t7:Hn[h.length]? = some (some (.row [.int .i64 (slot:Int)])):=N2.at_ _ _ (fun hx=>g7' (nCm _ hx)) z7
      have t11:Hn[H.length]? = some (some (.row [.int .i64 (g:Int)])):=N2.at_ _ _ (fun hx=>gO (nCm _ hx)) z11
      have t14:Hn[H2.length]? = some (some (.row (stC nv))):=N2.at_ _ _ (fun hx=>g14 (nCm _ hx)) z14
      have hbbC:b.bb∉C:=hmsk U3.hb
      have t6:Hn[b.bb]? = some (some (.row [.fn (.func 50) [] b.args])):=N2.at_ _ _ (fun hx=>hbbC (nCm _ hx)) (unC3.2 _ _ U3.hb)
      simp only[go_sem,e2,t6,t7,t11,t14,v1.1,v2.1,v3.1,v1.2,v2.2,v3.2]
      have hln:=N2.le
      have kCn:Keep C H2 Hn:=k23.trans (N2.more nCm)
      have hxr:∀c∈nw2++C,c∈C∨H3.length≤c:=fun c hc=>by
       rcases List.mem_append.1 hc with hc | hc
       ·exact .inr (N1 c hc).1
       ·exact .inl hc
      have s3n:aB (msk C H3) (msk (nw2++C) Hn):=N2.mskm (fun c hc=> .inl (nCm c hc)) hxr
      have IR:mL w0 d v i im (nw2++C) Hn:=⟨I3.hD.sub s3n,List.mem_append_right _ himC,fun c hc=>by
       rcases List.mem_append.1 hc with hc | hc
       ·exact(N1 c hc).2
       ·have:=I3.n2 c hc; omega,by rw[N3]; exact I3.memo⟩
      have SR:StS w0 (msk (nw2++C) Hn) yy.2 nv:=(hstB.sub (k3.msk (ms:=C) fun c hc=> .inl (by simp at hc; subst hc; exact himC))).sub s3n
      have h6:(j+1)*(1+oI k)≤6*(1+oI k):=Nat.mul_le_mul_right _ (by omega)
      rw[Nat.succ_mul]at h6
      have hR:=R (slot+1) g yy.2 nv (nw2++C) (nw2++P3) (nw2++(nw++ms)) Hn (mK g yy.1 pol' d.weathers.length) celn (by omega) hg50 u5 IR SR (U3.sub s3n) N4 (fun c hc=>by
       rcases List.mem_append.1 hc with hc | hc
       ·exact List.mem_append_left _ hc
       ·exact List.mem_append_right _ (nCm c hc)) (List.mem_append_right _ (List.mem_append_right _ him)) (LL+j*(1+oI k)+1) (fun l hl'=>by
       obtain⟨ww,hww,rfl⟩:=List.mem_iff_getElem.1 hl'
       exact(oQ lb _ ww _ (qA hww)).1) (by omega)
      rw[Int.natCast_add,Int.natCast_one]at hR
      refine⟨(by unfold I64; omega),?_⟩
      refine aJ (ACall.vc (first:=[]) (args:=[_,_,_]) (capt:=b.args) hR) ?_
      rintro yr H5 ⟨nw3,cel5,M1,M2,M3,M4⟩
      have hl5:=M2.le
      have hqm:qq∉nw2++(nw++ms):=fun hx=>by
       rcases List.mem_append.1 hx with hx | hx
       ·have:=(N1 _ hx).1; omega
       ·rcases List.mem_append.1 hx with hx | hx
        ·have:=(n1 _ hx).2; omega
        ·have:=hmh _ hx; omega
      have w9:H5[qq]? = some (some (rec_ .busy none)):=M2.at_ _ _ hqm (N2.at_ _ _ (fun hx=>hqm (List.mem_append_right _ hx)) x9)
      have l5:=aD w9
      simp only[erec,efr]at w9
      simp only[go_sem,w9,List.append_nil]
      obtain⟨F,eF⟩:∃F,F=H5.set qq (some (rec_ .done (some (.exit 2)))):=⟨_,rfl⟩
      have eF':=eF
      simp only[erec,efr]at eF'
      rw[←eF']
      have kF:Keep [qq] H5 F:=by rw[eF]; exact Keep.refl.set (.inl (by simp))
      have kn5:Keep (nw++ms) H3 H5:=((N2.more (D:=nw2++(nw++ms)) fun c hc=>List.mem_append_right _ hc).trans M2).old fun c hc=>by
       rcases List.mem_append.1 hc with hc | hc
       ·exact .inr (N1 c hc).1
       ·exact .inl hc
      have kCF:Keep C H2 F:=(k23.trans (kn5.more nCm)).trans (kF.more (by simp[hqC]))
      refine⟨kCF,.inr fun H4 k4=> ?_⟩
      have f9:F[qq]? = some (some (rec_ .done (some (.exit 2)))):=by rw[eF,qF l5]
      have hqO:qq∉O2:=fun hx=>by have:=hO2 _ hx; omega
      have f9':=k4.at_ _ _ hqO f9
      simp only[eKF,f9',erec]
      simp only[go_sem]
      have k5X:Keep (qq::O2) H5 (H4.set qq none):=(((kF.more (by simp)).trans (k4.more fun c hc=>List.mem_cons_of_mem _ hc)).set (.inl (by simp)))
      have hlX:=k5X.le
      have kHX:Keep (nw++ms) H (H4.set qq none):=((((kH3.more (D:=qq::(O2++(nw++ms))) (by simp[him])).trans (kn5.more fun c hc=>List.mem_cons_of_mem _ (List.mem_append_right _ hc))).trans (k5X.more fun c hc=>by
       rcases List.mem_cons.1 hc with rfl | hc
       ·simp
       ·exact List.mem_cons_of_mem _ (List.mem_append_left _ hc)))).old fun c hc=>by
        rcases List.mem_cons.1 hc with rfl | hc
        ·exact .inr (by omega)
        ·rcases List.mem_append.1 hc with hc | hc
         ·exact .inr (by have:=hO2 c hc; omega)
         ·exact .inl hc
      have hlen:=kHX.le
      refine hend (.exit 2) (H4.set qq none) cel5 (nw3++(nw2++nw)) (.inr rfl) (fun c hc=> ?_) ?_ ⟨?_,?_,fun c hc=> ?_,?_⟩ ?_
      ·rcases List.mem_append.1 hc with hc | hc
       ·have:=M1 c hc; omega
       ·rcases List.mem_append.1 hc with hc | hc
        ·have:=N1 c hc; omega
        ·have:=n1 c hc; omega
      ·refine((kH.more (D:=nw++ms) fun c hc=>List.mem_append_right _ hc).trans kHX).old fun c hc=> ?_
       rcases List.mem_append.1 hc with hc | hc
       ·exact .inr (n1 c hc).1
       ·exact .inl hc
      ·refine IH.hD.sub (kHX.mskm (fun c hc=> .inl ?_) fun c hc=> ?_)
       ·rcases List.mem_append.1 hc with hc | hc
        ·exact List.mem_append_left _ hc
        ·exact List.mem_append_right _ (hmx c hc)
       ·rcases List.mem_append.1 hc with hc | hc
        ·rcases List.mem_append.1 hc with hc | hc
         ·have:=M1 c hc; exact .inr (by omega)
         ·rcases List.mem_append.1 hc with hc | hc
          ·have:=N1 c hc; exact .inr (by omega)
          ·exact .inl (List.mem_append_left _ hc)
        ·exact .inl (List.mem_append_right _ hc)
      ·exact List.mem_append_right _ I.n0
      ·rcases List.mem_append.1 hc with hc | hc
       ·rcases List.mem_append.1 hc with hc | hc
        ·have:=M1 c hc; omega
        ·rcases List.mem_append.1 hc with hc | hc
         ·have:=N1 c hc; omega
         ·have:=n1 c hc; omega
       ·have:=I.n2 c hc; omega
      ·obtain⟨M,z1,z2⟩:=M3.memo
       exact⟨M,k5X.at_ _ _ (fun hx=>by
        rcases List.mem_cons.1 hx with hx | hx
        ·omega
        ·have:=hO2 _ hx; omega) z1,z2⟩
      ·rw[hn']
       have PX:=M4.keep (ns:=nw3++(nw2++P3)) k5X (fun c hc hm'=>by
        exfalso
        rcases List.mem_append.1 hm' with hm' | hm'
        ·have h1:=M1 c hm'
         rcases List.mem_cons.1 hc with rfl | hc
         ·omega
         ·have:=h2l c hc; omega
        ·rcases List.mem_cons.1 hc with rfl | hc
         ·exact hqm hm'
         ·have h2:=hO2 c hc
          have h3:=h2l c hc
          rcases List.mem_append.1 hm' with hx | hx
          ·have:=(N1 _ hx).1; omega
          ·rcases List.mem_append.1 hx with hx | hx
           ·have:=(n1 _ hx).2; omega
           ·have:=hmh _ hx; omega) (fun c hc=> .inl hc) (fun c hc=>hc) (fun c hc=>Nat.lt_of_lt_of_le (M4.lt c hc) hlX) (fun c hc=> .inl (List.mem_append_right _ (List.mem_append_right _ (by
         rw[eP3]
         rcases List.mem_cons.1 hc with rfl | hc
         ·simp
         ·exact List.mem_cons_of_mem _ (List.mem_append_left _ hc)))))
       have PY:=PX.less (ns:=(nw3++(nw2++nw))++ps) (fun c hc=>by
        rw[eP3]
        simp only[List.mem_append,List.mem_cons]at hc ⊢
        rcases hc with(h1 | h1 | h1) | h1<;>simp[h1]) (fun c hc=>by
        have:=PH.sub
        simp only[List.mem_append]at hc this ⊢
        rcases hc with h1 | h1 | h1 | h1
        ·simp[h1]
        ·simp[h1]
        ·simp[h1]
        ·rcases this c (.inr h1)with h2 | h2<;>simp[h2])
       simpa using PY
  exact claim us [] G2 (fun z hz=>hun z hz) (by simp) Keep.refl m4 (by obtain⟨M,e1,e2⟩:=I2.memo; exact⟨M,hG2.2 _ _ e1,e2⟩) eF
 ·obtain⟨H,pol',cells',nw⟩:=st
  obtain⟨n1,kH,IH,PH,ep,lb⟩:=J
  simp only at n1 kH IH PH ep lb ⊢
  refine aP [3,4,5,6,7,9,26,27,28] aGf.eq_1 ?_
  have e1:¬(gs.length:Int)<gs.length:=by omega
  simp only[go_sem,e1]
  rw[List.take_length]at ep
  rw[efin,←ep]
  exact⟨nw,cells',fun c hc=>⟨by have:=(n1 c hc).1; omega,(n1 c hc).2⟩,(aB.toK hhG).trans kH,IH,PH⟩
theorem aEG{Q:Exit→Fr→Heap→Prop}{k:List It}{nt Z:Nat}{G:Heap}{fr0:Fr}{d:aQ}{v:cU}{m:AV}{i b3 xb:Nat}
 (f1:fr0.get 1= .ptr (.own b3 0)) (f5:fr0.get 5= .ptr (.own xb 0)) (g3:G[b3]? = some (some (.row (aX v)))) (gx:G[xb]? = some (some (.row [.ptr (.own i 0)]))) (hD:rL w0 G d v m i) (dg:jJ d)
 (KS:List Nat) (hKS:∀t∈KS,t∉[8,9,22,23,24,25,26,27,28])
 (hQ:∀H id nv,aB G H→G.length≤id→H[id]? = some (some (.row (stC nv)))→(∀C:List Nat,(∀c∈C,c<G.length)→StS w0 (msk C H) (bV d) nv)→un Tryz.prog w0 none nt Z Q .normal k ((8,.ptr (.own id 0))::(9,.int .i64 ((2^d.weathers.length - 1:Nat):Int))::iO fr0 KS) H) :
 dr Tryz.prog w0 none nt Z Q D16_0 B16_0 k fr0 G:=by
 obtain⟨W,eW⟩:∃W,W=d.weathers.length:=⟨_,rfl⟩
 have lnw:dA v.we=some (.int .i64 (W:Int)):=by obtain⟨rows,z1,z2,_⟩:=hD.R.weathers; rw[eW,←z1]; exact z2.use.1
 have hW:=dg.w1
 rw[←eW]at hW hQ
 have s1:=nY (n:=W) (by omega)
 have h2:2^W≤2^6:=Nat.pow_le_pow_right (by omega) hW
 have h1:1≤2^W:=Nat.one_le_two_pow
 have he:((2^W:Nat):Int) - 1=((2^W - 1:Nat):Int):=by omega
 refine uV ?_
 refine iS dE [0,2,3,4,5,6,1,7,8,9] [o_ 22 (l_ 5),o_ 24 (.addr (.t 1) 4),o_ 25 (l_ 24),o_ 26 (.len (.t 25)),o_ 27 (.bin .shl (i_ 1) (.t 26)),o_ 28 (.bin .sub (.t 27) (i_ 1)),.call (some 23) none (f_ 57) [(.t 22)]] [([(2,o_ 25 (l_ 24))],[o_ 8 (.alloc [.nilS,.nilS,.nilS]),.op none none (.store (.t 8) (.t 23) 3)]),([(2,o_ 25 (l_ 24))],[o_ 9 (m_ 28)])] rfl rfl (by kernel_rfl) ?_
 have wq:=cZ (n:=((2^W - 1:Nat):Int)) (by unfold I64; omega)
 simp only[go_sem,f1,f5,g3,gx,aX,lnw,s1,he,wq]
 refine aJ (ACall.v1 (aOj d v m i hD dg)) ?_
 rintro y H ⟨s2,nv,rfl,hst⟩
 have g3':=s2.2 _ _ g3
 have gx':=s2.2 _ _ gx
 have s0:=hst [] (by simp)
 have p1:=Sl.one s0.planes.s
 have p2:=Sl.one s0.legs.s
 have p3:=Sl.one s0.people.s
 have g3L:=xL g3'
 simp only[go_sem,f1,f5,g3',g3L,gx',aX,lnw,s1,he,stC,p1.1,p2.1,p3.1,p1.2,p2.2,p3.2]
 refine⟨_,Wk.cons (Wk.cons (fun t=> ?_) rfl) rfl,hQ _ H.length nv s2.app s2.1 (by simp[stC]) fun C hC=>(hst C hC).sub nT⟩
 rcases xW KS fr0 t with e | ⟨e1,e2⟩
 ·exact .inl e
 ·refine .inr (e2.trans (aDz (L:=[_,_,_,_,_,_,_,_,_]) fun p hp e=> ?_).symm)
  have h4:=hKS t e1
  simp only[List.mem_cons,List.not_mem_nil,or_false]at hp h4
  rcases hp with rfl | rfl | rfl | rfl | rfl | rfl | rfl | rfl | rfl<;>simp only at e<;>omega
theorem srch_k(d:aQ)(v:cU)(i im iout k:Nat)(b:BuB)(dg:jJ d):aB0 w0 d v i im iout b k:=by
 induction k with
 | zero=>exact aKa d v i im iout b dg
 | succ k ih=>exact aJ9 d v i im iout k b dg ih
theorem aJT{Q:Exit→Fr→Heap→Prop}{k:List It}{nt Z:Nat}{G:Heap}{fr0:Fr}{d:aQ}{v:cU}{i im e ob xb sb:Nat}{xs:List Nat}{sv:StV}{ov:AV}
 (f6:fr0.get 6= .ptr (.own ob 0)) (f5:fr0.get 5= .ptr (.own xb 0)) (f9:fr0.get 9= .int .i64 (e:Int)) (f8:fr0.get 8= .ptr (.own sb 0)) (go:G[ob]? = some (some (.row [ov]))) (oo:one ov=true∧cellsOf ov=some [ov]) (gx:G[xb]? = some (some (.row [.ptr (.own i 0)]))) (gs:G[sb]? = some (some (.row (stC sv))))
 (dg:jJ d) (he:e<2^50) (I:mL w0 d v i im xs G) (hs:StN d 0 (bV d)) (hst:StS w0 (msk xs G) (bV d) sv)
 (hQ:∀H,Keep [im] G H→mL w0 d v i im xs H→un Tryz.prog w0 none nt Z Q .normal k [(2,ov),(3,.int .i64 (cX d (aL d) e (bV d))),(4,.int .i64 0)] H) :
 dr Tryz.prog w0 none nt Z Q aLO aLR k fr0 G:=by
 obtain⟨c,ec⟩:∃c,c=cX d (aL d) e (bV d):=⟨_,rfl⟩
 rw[←ec]at hQ
 obtain⟨M,hM,_⟩:=I.memo
 have nim:∀ {b:Nat} {c:List AV},G[b]? = some (some (.row c))→b∉[im]:=fun {b c} e hb=>by
  simp at hb; subst hb; rw[hM]at e; cases e
 have hc:=(aA9 d v i im dg (aL d)).1 0 e (bV d) sv xs G (by omega) he hs I hst
 rw[←ec]at hc
 refine uV ?_
 refine iS dE [0,1,2,3,4,5,6,7] [o_ 33 (l_ 6),o_ 34 (l_ 5),o_ 35 (m_ 9),o_ 36 (.load (.t 8) (some 3)),.call (some 37) none (f_ 55) [(.t 34),(i_ 0),(.t 35),(.t 36)]] [([(0,o_ 33 (l_ 6))],[o_ 2 (m_ 33),o_ 3 (m_ 37),o_ 4 (.mov (i_ 0))])] rfl rfl (by kernel_rfl) ?_
 simp only[go_sem,f5,f6,f8,f9,go,gx,gs,stC]
 refine aJ (ACall.v4 hc) ?_
 rintro y H2 ⟨y1,y2,y3⟩
 subst y1
 have go':=y2.at_ _ _ (nim go) go
 have gx':=y2.at_ _ _ (nim gx) gx
 have gs':=y2.at_ _ _ (nim gs) gs
 simp only[go_sem,f5,f6,f8,f9,go',gx',gs',stC]
 refine⟨_,?_,hQ H2 y2 y3⟩
 exact Wk.cons (Wk.cons (Wk.cons (fun t=> .inl rfl) rfl) rfl) rfl
def UnsR(w0:World)(H:Heap)(u:List aH)(c:List AV):Prop:=∃y,c=[y]∧UnV w0 H y u
def WeaR(w0:World)(H:Heap)(l:List (List aH))(c:List AV):Prop:=∃x,c=[x]∧NS w0 H 1 (UnsR w0 H) x l
def aDp(w0:World)(H:Heap)(v:AV)(pol:gC):Prop:=NS w0 H 1 (WeaR w0 H) v pol
theorem flat1(l:List AV):(l.map fun c=>[c]).flatten=l:=by induction l with | nil=>rfl | cons a l ih=>simp[ih]
theorem aKD{H:Heap}{io n:Nat}{l:List AV}{f:Bool}(e:H[io]? = some (some (.row l)))(hn:n=l.length):Sl w0 H 1 (.sl (.own io 0) n 1 f) (l.map fun c=>[c]):=by
 have:=fY (w0:=w0) (H:=H) (full:=f) (io:=io) (rows:=l.map fun c=>[c]) (es:=1) (by rw[flat1]; exact e) (fun c hc=>by obtain⟨x,_,rfl⟩:=List.mem_map.1 hc; rfl)
 rw[List.length_map]at this
 rw[hn]; exact this
theorem mO.r{ps ms:List Nat}{im:Nat}{H:Heap}{iout W:Nat}{pol:gC}{cells:List AV}(a:mO w0 ps ms im H iout W pol cells){f:Bool}:aDp w0 H (.sl (.own iout 0) W 1 f) pol:=by
 obtain⟨id,i1,_⟩:=a.ids
 refine⟨cells.map fun c=>[c],by rw[List.length_map,a.cl,a.len],aKD a.row a.cl.symm,fun w l c hl hc=> ?_⟩
 obtain⟨gv,g1,g2⟩:=i1 w l hl
 rw[List.getElem?_map,g1]at hc
 cases hc
 refine⟨gv,rfl,?_⟩
 rcases g2 with⟨rfl,rfl⟩ | ⟨h1,rfl,h3,h4,h5,us,h6,h7,h8⟩
 ·exact NS.nil
 ·refine⟨us.map fun c=>[c],by rw[List.length_map,h7],aKD h6 h7.symm,fun j u c hu hc=> ?_⟩
  obtain⟨y,e1,e2,e3⟩:=h8 j u hu
  rw[List.getElem?_map,e1]at hc
  cases hc
  exact⟨y,rfl,e3.v.sub bD⟩
def BestK(w0:World)(h:Heap)(d:aQ)(y:AV)(H:Heap):Prop:=aB h H∧(fX d=true→∃pv,y= .tup [pv,.int .i64 (nA d).2,.int .i64 0]∧aDp w0 H pv (nA d).1)∧(fX d=false→y= .tup [.nilS,.int .i64 0,.int .i64 2])
theorem aCo(n:Nat):fS [AV.nilS] n=List.replicate n .nilS:=by
 induction n with
 | zero=>rfl
 | succ n ih=>rw[aDQ,ih]; rfl
theorem best_c(d:aQ)(v:cU)(hR:kU w0 h d v):ACall Tryz.prog w0 16 [.agg (aX v)] h (BestK w0 h d):=by
 refine aO mf16_k fun hb ha=> ?_
 have o1:=hR.places.one
 have o2:=hR.links.one
 have o3:=hR.planes.one
 have o4:=hR.people.one
 have o5:one v.we=true∧cellsOf v.we=some [v.we]:=by obtain⟨rows,_,h2,_⟩:=hR.weathers; exact h2.one
 have lnw:dA v.we=some (.int .i64 (d.weathers.length:Int)):=by obtain⟨rows,z1,z2,_⟩:=hR.weathers; rw[←z1]; exact z2.use.1
 simp only[go_sem,mf16,o1.1,o2.1,o3.1,o4.1,o5.1,o1.2,o2.2,o3.2,o4.2,o5.2]
 refine aC (aAT (h:=h++_) d v hR.app).v ?_
 cases hB:fX d with
 | false=>
  simp only[go_sem]
  exact⟨aB.refl.app,fun e=>(by rw[hB]at e; cases e),fun _=>rfl⟩
 | true=>
  have dg:=tA hB
  have hW:=dg.w1
  simp only[go_sem,o1.1,o2.1,o3.1,o4.1,o5.1,o1.2,o2.2,o3.2,o4.2,o5.2,lnw]
  refine⟨by omega,?_⟩
  rw[beq_self_eq_true,aCo]
  obtain⟨W,eW⟩:∃W,W=d.weathers.length:=⟨_,rfl⟩
  rw[←eW]at hW ⊢
  obtain⟨bb,ebb⟩:∃bb:BuB,bb=⟨h.length,h.length+3,h.length+5,h.length+6⟩:=⟨_,rfl⟩
  have eargs:[AV.ptr (Pl.own h.length 0),AV.ptr (Pl.own (h.length+3) 0),AV.ptr (Pl.own (h.length+5) 0),AV.ptr (Pl.own (h.length+6) 0)]=bb.args:=by rw[ebb]; rfl
  rw[eargs]
  obtain⟨G,eG⟩:∃G,G=h++[some (Blk.row [v.pl,v.ln,v.pn,v.pe,v.we]),some (Blk.map []),some (Blk.row [v.pl,v.ln,v.pn,v.pe,v.we,AV.map (h.length+1)]),some (Blk.row [AV.ptr (Pl.own (h.length+2) 0)]),some (Blk.row (List.replicate W .nilS)),some (Blk.row [AV.sl (Pl.own (h.length+4) 0) W 1 true]),some (Blk.row [AV.fn (Fn.func 50) [] bb.args])]:=⟨_,rfl⟩
  rw[←eG]
  have hhG:aB h G:=by rw[eG]; exact aB.refl.app
  have gl:G.length=h.length+7:=by rw[eG]; simp
  have g0:G[h.length]? = some (some (.row (aX v))):=by rw[eG]; simp[aX]
  have g1:G[h.length+1]? = some (some (.map (iC []))):=by rw[eG]; simp[iC]
  have g2:G[h.length+2]? = some (some (.row (aX v++[.map (h.length+1)]))):=by rw[eG]; simp[aX]
  have g3:G[h.length+3]? = some (some (.row [.ptr (.own (h.length+2) 0)])):=by rw[eG]; simp
  have g4:G[h.length+4]? = some (some (.row (List.replicate W .nilS))):=by rw[eG]; simp
  have g5:G[h.length+5]? = some (some (.row [.sl (.own (h.length+4) 0) W 1 true])):=by rw[eG]; simp
  have g6:G[h.length+6]? = some (some (.row [.fn (.func 50) [] bb.args])):=by rw[eG]; simp
  obtain⟨xs,exs⟩:∃xs,xs=[h.length+1,h.length+4]:=⟨_,rfl⟩
  have hxs:∀c∈xs,c=h.length+1∨c=h.length+4:=fun c hc=>by rw[exs]at hc; simpa using hc
  have himx:h.length+1∈xs:=by rw[exs]; simp
  have hiox:h.length+4∈xs:=by rw[exs]; simp
  have nxs:∀c,c≠h.length+1→c≠h.length+4→c∉xs:=fun c h1 h2 hc=>by rcases hxs c hc with h3 | h3; exact h1 h3; exact h2 h3
  have sb:∀p∈d.people,0≤p.seats∧p.seats≤1000:=fun p hp=>by have:=(dg.people p hp).2.2.1; omega
  have hD:∀(X:Heap) (zs:List Nat),aB G X→(∀c∈zs,c=h.length+1∨c=h.length+4)→rL w0 (msk zs X) d v (.map (h.length+1)) (h.length+2):=fun X zs hX hz=>by
   refine⟨?_,hR.sub ?_,dg.pe,dg.pn,sb⟩
   ·rw[aT fun hc=>by rcases hz _ hc with h3 | h3<;>omega]; exact hX.2 _ _ g2
   ·have:=(aB.toK (C:=[]) (hhG.trans hX)).mskm (ms:=[]) (ns:=zs) (by simp) fun c hc=> .inr (by rcases hz c hc with h3 | h3<;>omega)
    exact this
  refine aEG (KS:=[5,6,7]) (b3:=h.length) (xb:=h.length+3) (i:=h.length+2) (m:= .map (h.length+1)) (by rfl) (by rfl) g0 g3 (by simpa[msk]using hD G [] aB.refl (by simp)) dg (by decide) (fun H id nv sH hid hst hS=> ?_)
  have hgl:=sH.1
  have a1:H[h.length+1]? = some (some (.map (iC []))):=sH.2 _ _ g1
  have IH:mL w0 d v (h.length+2) (h.length+1) xs H:=⟨hD H xs sH hxs,himx,fun c hc=>by rcases hxs c hc with h3 | h3<;>omega,[],a1,fun K c hc=>by simp at hc⟩
  have SH:StS w0 (msk xs H) (bV d) nv:=hS xs fun c hc=>by rcases hxs c hc with h3 | h3<;>omega
  have PH:mO w0 xs xs (h.length+1) H (h.length+4) d.weathers.length (List.replicate W []) (List.replicate W .nilS):=by
   refine⟨by simp[eW],sH.2 _ _ g4,by simp[eW],⟨fun _=>0,fun w l hl=> ?_,fun w w' l l' _ hl _ nl _=> ?_⟩,hiox,by omega,fun c hc=>hc,fun c hc=>by rcases hxs c hc with h3 | h3<;>omega,by omega⟩
   ·have hw:=aD hl
    simp at hw
    rw[List.getElem?_replicate,if_pos hw]at hl
    cases hl
    exact⟨.nilS,by rw[List.getElem?_replicate,if_pos hw],.inl ⟨rfl,rfl⟩⟩
   ·have hw:=aD hl
    simp at hw
    rw[List.getElem?_replicate,if_pos hw]at hl
    cases hl
    exact absurd rfl nl
  have UH:BuI w0 d v (h.length+2) (h.length+4) bb xs H:=by
   rw[ebb]
   refine⟨?_,?_,?_,?_⟩
   ·simp only; rw[aT (nxs _ (by omega) (by omega))]; exact sH.2 _ _ g0
   ·simp only; rw[aT (nxs _ (by omega) (by omega))]; exact sH.2 _ _ g3
   ·simp only; rw[aT (nxs _ (by omega) (by omega)),←eW]; exact sH.2 _ _ g5
   ·simp only; rw[aT (nxs _ (by omega) (by omega)),←ebb]; exact sH.2 _ _ g6
  have hs0:StN d 0 (bV d):=⟨by simp[bV],by simp[bV],by simp[bV],fun x hx=>by
   simp only[bV,List.mem_map]at hx
   obtain⟨p,hp,rfl⟩:=hx
   exact(dg.planes p hp).1,fun x hx=>by
   simp only[bV]at hx
   rw[(List.mem_replicate.1 hx).2]; simp,fun x hx=>by
   simp only[bV,List.mem_map]at hx
   obtain⟨p,hp,rfl⟩:=hx
   exact(dg.people p hp).1⟩
  have h2W:2^W≤2^6:=Nat.pow_le_pow_right (by omega) hW
  have hlB:0+oI (aL d)<1000000:=by
   have hs5:=dg.s1
   have:∀k,k≤5→0+oI k<1000000:=by decide
   exact this _ hs5
  have hcall:=srch_k d v (h.length+2) (h.length+1) (h.length+4) (aL d) bb dg 0 (2^W - 1) (bV d) nv xs xs xs H (List.replicate W []) (List.replicate W .nilS) (by omega) (by omega) hs0 IH SH UH PH (fun c hc=>hc) himx 0 (fun l hl=>by rw[(List.mem_replicate.1 hl).2]; simp) hlB
  have q1:=Sl.one (SH.sub bD).planes.s
  have q2:=Sl.one (SH.sub bD).legs.s
  have q3:=Sl.one (SH.sub bD).people.s
  have b6:H[h.length+6]? = some (some (.row [.fn (.func 50) [] bb.args])):=sH.2 _ _ g6
  rw[←eW]
  simp only[go_sem,b6,hst,q1.1,q2.1,q3.1,q1.2,q2.2,q3.2]
  refine aJ (ACall.vc (first:=[]) (args:=[_,_,_]) (capt:=bb.args) hcall) ?_
  rintro y H5 ⟨nw,cells,n1,k5,I5,P5⟩
  have nid:id∉xs:=nxs _ (by omega) (by omega)
  have hl5:=k5.le
  have c5:H5[h.length+5]? = some (some (.row [.sl (.own (h.length+4) 0) W 1 true])):=k5.at_ _ _ (nxs _ (by omega) (by omega)) (sH.2 _ _ g5)
  have c3:H5[h.length+3]? = some (some (.row [.ptr (.own (h.length+2) 0)])):=k5.at_ _ _ (nxs _ (by omega) (by omega)) (sH.2 _ _ g3)
  have cid:H5[id]? = some (some (.row (stC nv))):=k5.at_ _ _ nid hst
  have S5:StS w0 (msk (nw++xs) H5) (bV d) nv:=SH.sub (k5.mskm (fun c hc=> .inl hc) fun c hc=>by
   rcases List.mem_append.1 hc with hc | hc
   ·exact .inr (n1 c hc).1
   ·exact .inl hc)
  simp only[go_sem]
  refine aJT (ob:=h.length+5) (xb:=h.length+3) (sb:=id) (e:=2^W - 1) (ov:= .sl (.own (h.length+4) 0) W 1 true) (by rfl) (by rfl) (by rfl) (by rfl) c5 ⟨rfl,rfl⟩ c3 cid dg (by omega) I5 hs0 S5 (fun H6 k6 I6=> ?_)
  simp only[go_sem]
  have P6:=P5.keep (ns:=nw++xs) k6 (fun c hc _=>by simpa using hc) (fun c hc=> .inl hc) (fun c hc=>hc) (fun c hc=>Nat.lt_of_lt_of_le (P5.lt c hc) k6.le) (fun c hc=> .inl (by simp at hc; subst hc; exact List.mem_append_right _ himx))
  refine⟨?_,fun _=>⟨.sl (.own (h.length+4) 0) W 1 true,?_,?_⟩,fun e=> ?_⟩
  ·have kA:Keep xs h H6:=((aB.toK (hhG.trans sH)).trans k5).trans (k6.more (by simp[himx]))
   have kB:Keep [] h H6:=kA.old fun c hc=> .inr (by rcases hxs c hc with h3 | h3<;>omega)
   exact⟨kB.le,fun c b e=>kB.at_ c b (by simp) e⟩
  ·rw[nA,←eW]
  ·have:=P6.r (f:=true) (w0:=w0)
   rw[nA,←eW]
   rw[←eW]at this
   exact this
  ·rw[hB]at e; cases e
end Go.Proofs.Ab

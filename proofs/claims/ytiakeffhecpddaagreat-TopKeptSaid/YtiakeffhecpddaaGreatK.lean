/- Own layer, part K. -/
import Derived.Test.YtiakeffhecpddaaGreatTab
import Derived.Test.YtiakeffhecpddaaGreatH
set_option linter.unusedSimpArgs false
set_option linter.unusedVariables false
namespace Go.Proofs.Ab
open Go Go.Proofs
variable {w0:World} {h:Heap}
attribute [local irreducible] ACall bE cR aK bI rvC lp rg dr ex un rv
structure bW where
 low:Int
 high:Int
@[go_sem] def bW.c (s:bW):List AV:=[.int .i64 s.low,.int .i64 s.high]
@[simp] theorem bW.c_bdd (N:Nat) (s:bW):AV.bdds N s.c:=by simp[bW.c,AV.bdds,AV.bdd]
theorem nS(x lo hi:Int):aK Tryz.prog w0 61 [.int .i64 x,.int .i64 lo,.int .i64 hi] h (.bool (inB x lo hi)) h:=by
 refine aM mf61_k fun hb ha=> ?_
 simp only[go_sem,mf61]
 exact⟨fun a=>by simp[inB,a],fun a=>by simp[inB,a]⟩
def aAx(s:bW)(hi:Int):Bool:=decide (0≤s.low)&&(decide (s.low≤s.high)&&decide (s.high≤hi))
theorem aIk(s:bW)(hi:Int):aK Tryz.prog w0 140 [.agg s.c,.int .i64 hi] h (.bool (aAx s hi)) h:=by
 refine aM aNg fun hb ha=> ?_
 simp only[go_sem,mf140]
 refine⟨fun a=>⟨fun b=> ?_,fun b=> ?_⟩,fun a=> ?_⟩<;>simp_all [aAx]<;>omega
theorem gE{z l:List AV}(e:l.length=z.length):cO z 0 l=l:=by
 simp only[cO,List.take_zero,List.nil_append,Nat.zero_add,e,List.drop_length,List.append_nil]
theorem aGd(rows:List (List AV))(v fv:AV)(p:Nat→Bool)(hv:Sl w0 h 1 v rows)(ho:∀c∈rows,c.all one=true)(hn:rows.length<1000000)
 (hf:∀(j:Nat) x,rows[j]? = some [x]→(∀i,i<j→p i=true)→∀L,bI Tryz.prog w0 fv [.int .i64 j,x] (h++L) (.bool (p j)) (h++L)):aK Tryz.prog w0 102 [v,fv] h (.bool ((List.range rows.length).all p)) h:=by
 refine aM aNK fun hb ha=> ?_
 have hfb:fv.bdd h.length:=by simp only[AV.bdds]at ha; exact ha.2.1
 obtain⟨hlen,q,hix,hrow,_⟩:=hv.use
 have vb:=hv.bdd (Nat.le_refl _)
 simp only[go_sem,mf102,hlen]
 refine cY (fun j=>[(1,fv),(7,v),(8,.int .i64 rows.length),(9,.int .i64 j)]) (fun j=>p j=true) rows.length rfl (fun j hj hall ih=> ?_) (fun hall=> ?_)
 ·refine aP [1,7,8,9] aFi.eq_1 ?_
  have e1:=hix j hj
  have e3:(j:Int)<rows.length:=by omega
  obtain⟨x,hx⟩:∃x,rows[j]=[x]:=by
   have:=(gR (hrow j _ (qA hj))).1
   exact List.length_eq_one_iff.1 this
  have hc:rows[j]? = some [x]:=by rw[qA hj,hx]
  have e2:∀L,rd w0 (h++L) (q.add j)=some x:=fun L=>by
   have:=dG (cK (l:=L) (hrow j _ hc)) (o:=0) (x:=x) rfl
   rw[Nat.mul_one]at this
   rwa [show(q.add j).add 0=q.add j by cases q<;>simp[Pl.add,Addr.add]]at this
  rw[Nat.mul_one]at e1
  simp only[go_sem,e1,e2,e3]
  refine aC (by simpa using hf j x hc hall []) ?_
  simp only[go_sem]
  refine⟨fun e=> ?_,fun e=>⟨(by unfold I64; omega),by simpa using ih e⟩⟩
  have:(List.range rows.length).all p=false:=by
   rw[List.all_eq_false]; exact⟨j,List.mem_range.2 hj,by simp[e]⟩
  rw[this]
  exact⟨rfl,[],(List.append_nil h).symm⟩
 ·refine aP [1,7,8,9] aFi.eq_1 ?_
  have e3:¬(rows.length:Int)<rows.length:=by omega
  simp only[go_sem,e3]
  have:(List.range rows.length).all p=true:=by rw[List.all_eq_true]; exact fun x hx=>hall x (List.mem_range.1 hx)
  rw[this]
theorem aKy(rows:List (List AV))(v fv:AV)(p:Nat→Bool)(hv:Sl w0 h 2 v rows)(ho:∀c∈rows,c.all one=true)(hn:rows.length<1000000)
 (hf:∀(j:Nat) c,rows[j]? = some c→(∀i,i<j→p i=true)→∀L,bI Tryz.prog w0 fv [.int .i64 j,.agg c] (h++L) (.bool (p j)) (h++L)):aK Tryz.prog w0 136 [v,fv] h (.bool ((List.range rows.length).all p)) h:=by
 refine aM aNk fun hb ha=> ?_
 have hfb:fv.bdd h.length:=by simp only[AV.bdds]at ha; exact ha.2.1
 obtain⟨hlen,q,hix,hrow,_⟩:=hv.use
 have vb:=hv.bdd (Nat.le_refl _)
 simp only[go_sem,mf136,hlen]
 refine cY (fun j=>[(1,fv),(7,v),(8,.int .i64 rows.length),(9,.int .i64 j)]) (fun j=>p j=true) rows.length rfl (fun j hj hall ih=> ?_) (fun hall=> ?_)
 ·refine aP [1,7,8,9] aFa.eq_1 ?_
  have e1:=hix j hj
  have e3:(j:Int)<rows.length:=by omega
  obtain⟨c,hc⟩:∃c,rows[j]? = some c:=⟨_,qA hj⟩
  have e2:∀L,rdn w0 (h++L) (q.add (j*2)) 2=some c:=fun L=>cK (hrow j c hc)
  have e4:c.all one=true:=ho c (List.mem_of_getElem? hc)
  have e5:c.length=2:=(gR (hrow j c hc)).1
  have e6:List.take 2 c=c:=List.take_of_length_le (by omega)
  simp only[go_sem,e1,e2,e3,e4,e5,gE,e6]
  refine aC (hf j c hc hall _) ?_
  simp only[go_sem]
  refine⟨fun e=> ?_,fun e=>⟨(by unfold I64; omega),gA 0 hb (by simp[bC,bO,bT,cC,cT,bP,AV.bdds,AV.bdd,Pl.bdd,aY]) (by simp[bC,bO,bT,cC,cT,bP,AV.bdds,AV.bdd,Pl.bdd,aY,hfb,vb]) (ih e)⟩⟩
  have:(List.range rows.length).all p=false:=by
   rw[List.all_eq_false]; exact⟨j,List.mem_range.2 hj,by simp[e]⟩
  rw[this]
 ·refine aP [1,7,8,9] aFa.eq_1 ?_
  have e3:¬(rows.length:Int)<rows.length:=by omega
  simp only[go_sem,e3]
  have:(List.range rows.length).all p=true:=by rw[List.all_eq_true]; exact fun x hx=>hall x (List.mem_range.1 hx)
  rw[this]
theorem aDm(rows:List (List AV))(v fv:AV)(p:Nat→Bool)(hv:Sl w0 h 2 v rows)(ho:∀c∈rows,c.all one=true)(hn:rows.length<1000000)
 (hf:∀(j:Nat) c,rows[j]? = some c→(∀i,i<j→p i=true)→∀L,bI Tryz.prog w0 fv [.int .i64 j,.agg c] (h++L) (.bool (p j)) (h++L)):aK Tryz.prog w0 138 [v,fv] h (.bool ((List.range rows.length).all p)) h:=by
 refine aM aNi fun hb ha=> ?_
 have hfb:fv.bdd h.length:=by simp only[AV.bdds]at ha; exact ha.2.1
 obtain⟨hlen,q,hix,hrow,_⟩:=hv.use
 have vb:=hv.bdd (Nat.le_refl _)
 simp only[go_sem,mf138,hlen]
 refine cY (fun j=>[(1,fv),(7,v),(8,.int .i64 rows.length),(9,.int .i64 j)]) (fun j=>p j=true) rows.length rfl (fun j hj hall ih=> ?_) (fun hall=> ?_)
 ·refine aP [1,7,8,9] aE9.eq_1 ?_
  have e1:=hix j hj
  have e3:(j:Int)<rows.length:=by omega
  obtain⟨c,hc⟩:∃c,rows[j]? = some c:=⟨_,qA hj⟩
  have e2:∀L,rdn w0 (h++L) (q.add (j*2)) 2=some c:=fun L=>cK (hrow j c hc)
  have e4:c.all one=true:=ho c (List.mem_of_getElem? hc)
  have e5:c.length=2:=(gR (hrow j c hc)).1
  have e6:List.take 2 c=c:=List.take_of_length_le (by omega)
  simp only[go_sem,e1,e2,e3,e4,e5,gE,e6]
  refine aC (hf j c hc hall _) ?_
  simp only[go_sem]
  refine⟨fun e=> ?_,fun e=>⟨(by unfold I64; omega),gA 0 hb (by simp[bC,bO,bT,cC,cT,bP,AV.bdds,AV.bdd,Pl.bdd,aY]) (by simp[bC,bO,bT,cC,cT,bP,AV.bdds,AV.bdd,Pl.bdd,aY,hfb,vb]) (ih e)⟩⟩
  have:(List.range rows.length).all p=false:=by
   rw[List.all_eq_false]; exact⟨j,List.mem_range.2 hj,by simp[e]⟩
  rw[this]
 ·refine aP [1,7,8,9] aE9.eq_1 ?_
  have e3:¬(rows.length:Int)<rows.length:=by omega
  simp only[go_sem,e3]
  have:(List.range rows.length).all p=true:=by rw[List.all_eq_true]; exact fun x hx=>hall x (List.mem_range.1 hx)
  rw[this]
theorem aKw(rows:List (List AV))(v fv:AV)(p:Nat→Bool)(hv:Sl w0 h 5 v rows)(ho:∀c∈rows,c.all one=true)(hn:rows.length<1000000)
 (hf:∀(j:Nat) c,rows[j]? = some c→(∀i,i<j→p i=true)→∀L,bI Tryz.prog w0 fv [.int .i64 j,.agg c] (h++L) (.bool (p j)) (h++L)):aK Tryz.prog w0 94 [v,fv] h (.bool ((List.range rows.length).all p)) h:=by
 refine aM mf94_k fun hb ha=> ?_
 have hfb:fv.bdd h.length:=by simp only[AV.bdds]at ha; exact ha.2.1
 obtain⟨hlen,q,hix,hrow,_⟩:=hv.use
 have vb:=hv.bdd (Nat.le_refl _)
 simp only[go_sem,mf94,hlen]
 refine cY (fun j=>[(1,fv),(7,v),(8,.int .i64 rows.length),(9,.int .i64 j)]) (fun j=>p j=true) rows.length rfl (fun j hj hall ih=> ?_) (fun hall=> ?_)
 ·refine aP [1,7,8,9] aKM.eq_1 ?_
  have e1:=hix j hj
  have e3:(j:Int)<rows.length:=by omega
  obtain⟨c,hc⟩:∃c,rows[j]? = some c:=⟨_,qA hj⟩
  have e2:∀L,rdn w0 (h++L) (q.add (j*5)) 5=some c:=fun L=>cK (hrow j c hc)
  have e4:c.all one=true:=ho c (List.mem_of_getElem? hc)
  have e5:c.length=5:=(gR (hrow j c hc)).1
  have e6:List.take 5 c=c:=List.take_of_length_le (by omega)
  simp only[go_sem,e1,e2,e3,e4,e5,gE,e6]
  refine aC (hf j c hc hall _) ?_
  simp only[go_sem]
  refine⟨fun e=> ?_,fun e=>⟨(by unfold I64; omega),gA 0 hb (by simp[bC,bO,bT,cC,cT,bP,AV.bdds,AV.bdd,Pl.bdd,aY]) (by simp[bC,bO,bT,cC,cT,bP,AV.bdds,AV.bdd,Pl.bdd,aY,hfb,vb]) (ih e)⟩⟩
  have:(List.range rows.length).all p=false:=by
   rw[List.all_eq_false]; exact⟨j,List.mem_range.2 hj,by simp[e]⟩
  rw[this]
 ·refine aP [1,7,8,9] aKM.eq_1 ?_
  have e3:¬(rows.length:Int)<rows.length:=by omega
  simp only[go_sem,e3]
  have:(List.range rows.length).all p=true:=by rw[List.all_eq_true]; exact fun x hx=>hall x (List.mem_range.1 hx)
  rw[this]
theorem aKv(rows:List (List AV))(v fv:AV)(p:Nat→Bool)(hv:Sl w0 h 2 v rows)(ho:∀c∈rows,c.all one=true)(hn:rows.length<1000000)
 (hf:∀(j:Nat) c,rows[j]? = some c→(∀i,i<j→p i=true)→∀L,bI Tryz.prog w0 fv [.int .i64 j,.agg c] (h++L) (.bool (p j)) (h++L)):aK Tryz.prog w0 96 [v,fv] h (.bool ((List.range rows.length).all p)) h:=by
 refine aM mf96_k fun hb ha=> ?_
 have hfb:fv.bdd h.length:=by simp only[AV.bdds]at ha; exact ha.2.1
 obtain⟨hlen,q,hix,hrow,_⟩:=hv.use
 have vb:=hv.bdd (Nat.le_refl _)
 simp only[go_sem,mf96,hlen]
 refine cY (fun j=>[(1,fv),(7,v),(8,.int .i64 rows.length),(9,.int .i64 j)]) (fun j=>p j=true) rows.length rfl (fun j hj hall ih=> ?_) (fun hall=> ?_)
 ·refine aP [1,7,8,9] aKL.eq_1 ?_
  have e1:=hix j hj
  have e3:(j:Int)<rows.length:=by omega
  obtain⟨c,hc⟩:∃c,rows[j]? = some c:=⟨_,qA hj⟩
  have e2:∀L,rdn w0 (h++L) (q.add (j*2)) 2=some c:=fun L=>cK (hrow j c hc)
  have e4:c.all one=true:=ho c (List.mem_of_getElem? hc)
  have e5:c.length=2:=(gR (hrow j c hc)).1
  have e6:List.take 2 c=c:=List.take_of_length_le (by omega)
  simp only[go_sem,e1,e2,e3,e4,e5,gE,e6]
  refine aC (hf j c hc hall _) ?_
  simp only[go_sem]
  refine⟨fun e=> ?_,fun e=>⟨(by unfold I64; omega),gA 0 hb (by simp[bC,bO,bT,cC,cT,bP,AV.bdds,AV.bdd,Pl.bdd,aY]) (by simp[bC,bO,bT,cC,cT,bP,AV.bdds,AV.bdd,Pl.bdd,aY,hfb,vb]) (ih e)⟩⟩
  have:(List.range rows.length).all p=false:=by
   rw[List.all_eq_false]; exact⟨j,List.mem_range.2 hj,by simp[e]⟩
  rw[this]
 ·refine aP [1,7,8,9] aKL.eq_1 ?_
  have e3:¬(rows.length:Int)<rows.length:=by omega
  simp only[go_sem,e3]
  have:(List.range rows.length).all p=true:=by rw[List.all_eq_true]; exact fun x hx=>hall x (List.mem_range.1 hx)
  rw[this]
theorem aKu(rows:List (List AV))(v fv:AV)(p:Nat→Bool)(hv:Sl w0 h 1 v rows)(ho:∀c∈rows,c.all one=true)(hn:rows.length<1000000)
 (hf:∀(j:Nat) x,rows[j]? = some [x]→(∀i,i<j→p i=true)→∀L,bI Tryz.prog w0 fv [.int .i64 j,x] (h++L) (.bool (p j)) (h++L)):aK Tryz.prog w0 100 [v,fv] h (.bool ((List.range rows.length).all p)) h:=by
 refine aM aNM fun hb ha=> ?_
 have hfb:fv.bdd h.length:=by simp only[AV.bdds]at ha; exact ha.2.1
 obtain⟨hlen,q,hix,hrow,_⟩:=hv.use
 have vb:=hv.bdd (Nat.le_refl _)
 simp only[go_sem,mf100,hlen]
 refine cY (fun j=>[(1,fv),(7,v),(8,.int .i64 rows.length),(9,.int .i64 j)]) (fun j=>p j=true) rows.length rfl (fun j hj hall ih=> ?_) (fun hall=> ?_)
 ·refine aP [1,7,8,9] aFj.eq_1 ?_
  have e1:=hix j hj
  have e3:(j:Int)<rows.length:=by omega
  obtain⟨x,hx⟩:∃x,rows[j]=[x]:=by
   have:=(gR (hrow j _ (qA hj))).1
   exact List.length_eq_one_iff.1 this
  have hc:rows[j]? = some [x]:=by rw[qA hj,hx]
  have e2:∀L,rd w0 (h++L) (q.add j)=some x:=fun L=>by
   have:=dG (cK (l:=L) (hrow j _ hc)) (o:=0) (x:=x) rfl
   rw[Nat.mul_one]at this
   rwa [show(q.add j).add 0=q.add j by cases q<;>simp[Pl.add,Addr.add]]at this
  rw[Nat.mul_one]at e1
  simp only[go_sem,e1,e2,e3]
  refine aC (by simpa using hf j x hc hall []) ?_
  simp only[go_sem]
  refine⟨fun e=> ?_,fun e=>⟨(by unfold I64; omega),by simpa using ih e⟩⟩
  have:(List.range rows.length).all p=false:=by
   rw[List.all_eq_false]; exact⟨j,List.mem_range.2 hj,by simp[e]⟩
  rw[this]
  exact⟨rfl,[],(List.append_nil h).symm⟩
 ·refine aP [1,7,8,9] aFj.eq_1 ?_
  have e3:¬(rows.length:Int)<rows.length:=by omega
  simp only[go_sem,e3]
  have:(List.range rows.length).all p=true:=by rw[List.all_eq_true]; exact fun x hx=>hall x (List.mem_range.1 hx)
  rw[this]
theorem aKt(rows:List (List AV))(v fv:AV)(p:Nat→Bool)(hv:Sl w0 h 2 v rows)(ho:∀c∈rows,c.all one=true)(hn:rows.length<1000000)
 (hf:∀(j:Nat) c,rows[j]? = some c→(∀i,i<j→p i=true)→∀L,bI Tryz.prog w0 fv [.int .i64 j,.agg c] (h++L) (.bool (p j)) (h++L)):aK Tryz.prog w0 104 [v,fv] h (.bool ((List.range rows.length).all p)) h:=by
 refine aM aNI fun hb ha=> ?_
 have hfb:fv.bdd h.length:=by simp only[AV.bdds]at ha; exact ha.2.1
 obtain⟨hlen,q,hix,hrow,_⟩:=hv.use
 have vb:=hv.bdd (Nat.le_refl _)
 simp only[go_sem,mf104,hlen]
 refine cY (fun j=>[(1,fv),(7,v),(8,.int .i64 rows.length),(9,.int .i64 j)]) (fun j=>p j=true) rows.length rfl (fun j hj hall ih=> ?_) (fun hall=> ?_)
 ·refine aP [1,7,8,9] aFh.eq_1 ?_
  have e1:=hix j hj
  have e3:(j:Int)<rows.length:=by omega
  obtain⟨c,hc⟩:∃c,rows[j]? = some c:=⟨_,qA hj⟩
  have e2:∀L,rdn w0 (h++L) (q.add (j*2)) 2=some c:=fun L=>cK (hrow j c hc)
  have e4:c.all one=true:=ho c (List.mem_of_getElem? hc)
  have e5:c.length=2:=(gR (hrow j c hc)).1
  have e6:List.take 2 c=c:=List.take_of_length_le (by omega)
  simp only[go_sem,e1,e2,e3,e4,e5,gE,e6]
  refine aC (hf j c hc hall _) ?_
  simp only[go_sem]
  refine⟨fun e=> ?_,fun e=>⟨(by unfold I64; omega),gA 0 hb (by simp[bC,bO,bT,cC,cT,bP,AV.bdds,AV.bdd,Pl.bdd,aY]) (by simp[bC,bO,bT,cC,cT,bP,AV.bdds,AV.bdd,Pl.bdd,aY,hfb,vb]) (ih e)⟩⟩
  have:(List.range rows.length).all p=false:=by
   rw[List.all_eq_false]; exact⟨j,List.mem_range.2 hj,by simp[e]⟩
  rw[this]
 ·refine aP [1,7,8,9] aFh.eq_1 ?_
  have e3:¬(rows.length:Int)<rows.length:=by omega
  simp only[go_sem,e3]
  have:(List.range rows.length).all p=true:=by rw[List.all_eq_true]; exact fun x hx=>hall x (List.mem_range.1 hx)
  rw[this]
theorem aKs(rows:List (List AV))(v fv:AV)(p:Nat→Bool)(hv:Sl w0 h 2 v rows)(ho:∀c∈rows,c.all one=true)(hn:rows.length<1000000)
 (hf:∀(j:Nat) c,rows[j]? = some c→(∀i,i<j→p i=true)→∀L,bI Tryz.prog w0 fv [.int .i64 j,.agg c] (h++L) (.bool (p j)) (h++L)):aK Tryz.prog w0 114 [v,fv] h (.bool ((List.range rows.length).all p)) h:=by
 refine aM aNA fun hb ha=> ?_
 have hfb:fv.bdd h.length:=by simp only[AV.bdds]at ha; exact ha.2.1
 obtain⟨hlen,q,hix,hrow,_⟩:=hv.use
 have vb:=hv.bdd (Nat.le_refl _)
 simp only[go_sem,mf114,hlen]
 refine cY (fun j=>[(1,fv),(7,v),(8,.int .i64 rows.length),(9,.int .i64 j)]) (fun j=>p j=true) rows.length rfl (fun j hj hall ih=> ?_) (fun hall=> ?_)
 ·refine aP [1,7,8,9] aFg.eq_1 ?_
  have e1:=hix j hj
  have e3:(j:Int)<rows.length:=by omega
  obtain⟨c,hc⟩:∃c,rows[j]? = some c:=⟨_,qA hj⟩
  have e2:∀L,rdn w0 (h++L) (q.add (j*2)) 2=some c:=fun L=>cK (hrow j c hc)
  have e4:c.all one=true:=ho c (List.mem_of_getElem? hc)
  have e5:c.length=2:=(gR (hrow j c hc)).1
  have e6:List.take 2 c=c:=List.take_of_length_le (by omega)
  simp only[go_sem,e1,e2,e3,e4,e5,gE,e6]
  refine aC (hf j c hc hall _) ?_
  simp only[go_sem]
  refine⟨fun e=> ?_,fun e=>⟨(by unfold I64; omega),gA 0 hb (by simp[bC,bO,bT,cC,cT,bP,AV.bdds,AV.bdd,Pl.bdd,aY]) (by simp[bC,bO,bT,cC,cT,bP,AV.bdds,AV.bdd,Pl.bdd,aY,hfb,vb]) (ih e)⟩⟩
  have:(List.range rows.length).all p=false:=by
   rw[List.all_eq_false]; exact⟨j,List.mem_range.2 hj,by simp[e]⟩
  rw[this]
 ·refine aP [1,7,8,9] aFg.eq_1 ?_
  have e3:¬(rows.length:Int)<rows.length:=by omega
  simp only[go_sem,e3]
  have:(List.range rows.length).all p=true:=by rw[List.all_eq_true]; exact fun x hx=>hall x (List.mem_range.1 hx)
  rw[this]
structure wT where
 windows:List bW
 turn:Int
structure dP where
 stops:List wT
 legs:List bW
structure nJ where
 sv:AV
 lv:AV
 ws:List AV
@[go_sem] def mJ (v:nJ):List AV:=[v.sv,v.lv]
@[go_sem] def pC (w:AV) (s:wT):List AV:=[w,.int .i64 s.turn]
def fP(ws:List AV)(l:List wT):List (List AV):=List.zipWith pC ws l
structure ChainS(w0:World)(h:Heap)(c:dP)(v:nJ):Prop where
 wl:v.ws.length=c.stops.length
 stops:Sl w0 h 2 v.sv (fP v.ws c.stops)
 wins:∀(j:Nat) x s,v.ws[j]? = some x→c.stops[j]? = some s→Sl w0 h 2 x (s.windows.map bW.c)
 legs:Sl w0 h 2 v.lv (c.legs.map bW.c)
structure kV(w0:World)(h:Heap)(c:dP)(v:nJ):Prop extends ChainS w0 h c v where
 ls:c.stops.length<1000000
 ll:c.legs.length<1000000
 lw:∀s∈c.stops,s.windows.length<1000000
section
variable {c:dP} {v:nJ}
theorem ChainS.sub{H:Heap}(s:ChainS w0 h c v)(t:aB h H):ChainS w0 H c v:=⟨s.wl,s.stops.sub t,fun j x y a b=>(s.wins j x y a b).sub t,s.legs.sub t⟩
theorem ChainS.app{L:Heap}(s:ChainS w0 h c v):ChainS w0 (h++L) c v:=s.sub aB.refl.app
theorem kV.sub{H:Heap}(s:kV w0 h c v)(t:aB h H):kV w0 H c v:=⟨s.toChainS.sub t,s.ls,s.ll,s.lw⟩
theorem kV.app{L:Heap}(s:kV w0 h c v):kV w0 (h++L) c v:=s.sub aB.refl.app
theorem gQ(s:ChainS w0 h c v):(fP v.ws c.stops).length=c.stops.length:=by simp[fP,s.wl]
theorem ChainS.stop(s:ChainS w0 h c v){j:Nat}(hj:j<c.stops.length):∃(p:Pl) (x:AV),cF 2 v.sv (some j)=some (.ptr p)∧(∀L,rdn w0 (h++L) p 2=some (pC x c.stops[j]))∧Sl w0 h 2 x (c.stops[j].windows.map bW.c):=by
 have hw:=s.wl
 obtain⟨p,p1,p2⟩:=s.stops.lt (j:=j) (by rw[gQ s]; exact hj)
 obtain⟨x,hx⟩:∃x,v.ws[j]? = some x:=⟨_,qA (by omega)⟩
 refine⟨p,x,p1,fun L=>p2 L _ ?_,s.wins j x _ hx (qA hj)⟩
 simp only[fP,List.getElem?_zipWith,hx,qA hj]
theorem ChainS.leg(s:ChainS w0 h c v){j:Nat}(hj:j<c.legs.length):∃p:Pl,cF 2 v.lv (some j)=some (.ptr p)∧∀L,rdn w0 (h++L) p 2=some c.legs[j].c:=by
 obtain⟨p,p1,p2⟩:=s.legs.lt (j:=j) (by simpa using hj)
 exact⟨p,p1,fun L=>p2 L _ (by simp[hj])⟩
end
def iV(l:List bW)(t:Int):Bool:=l.any fun w=>inB t w.low w.high
theorem aIS(s:wT)(wv:AV)(t:Int)(hw:Sl w0 h 2 wv (s.windows.map bW.c))(hn:s.windows.length<1000000):aK Tryz.prog w0 142 [.agg (pC wv s),.int .i64 t] h (.bool (iV s.windows t)) h:=by
 refine aM aNe fun hb ha=> ?_
 obtain⟨hlen,q,hix,hrow,_⟩:=hw.use
 have vb:=hw.bdd (Nat.le_refl _)
 have vb1:wv.bdd (h.length+1):=AV.bdd_mono (Nat.le_succ _) _ vb
 have o1:=hw.one.1
 simp only[List.length_map]at hlen hix
 simp only[go_sem,mf142,hlen,o1]
 refine cY (fun j=>[(1,.int .i64 t),(8,wv),(9,.int .i64 s.windows.length),(10,.int .i64 j)]) (fun j=>∀hj:j<s.windows.length,inB t s.windows[j].low s.windows[j].high=false) s.windows.length rfl (fun j hj hall ih=> ?_) (fun hall=> ?_)
 ·refine aP [1,8,9,10] aE8.eq_1 ?_
  have e1:=hix j hj
  have e3:(j:Int)<s.windows.length:=by omega
  have e2:∀L,rdn w0 (h++L) (q.add (j*2)) 2=some s.windows[j].c:=fun L=>cK (hrow j _ (by simp[hj]))
  simp only[go_sem,e1,e2,e3]
  refine aC (nS _ _ _).v ?_
  simp only[go_sem]
  refine⟨fun e=> ?_,fun e=>⟨(by unfold I64; omega),gA 1 hb (by simp[bC,bO,bT,cC,cT,bP,AV.bdds,AV.bdd,Pl.bdd,aY,pC,vb,vb1]) (by simp[bC,bO,bT,cC,cT,bP,AV.bdds,AV.bdd,Pl.bdd,aY,vb,vb1]) (ih fun _=>e)⟩⟩
  have:iV s.windows t=true:=by rw[iV,List.any_eq_true]; exact⟨_,qG hj,e⟩
  rw[this]
 ·refine aP [1,8,9,10] aE8.eq_1 ?_
  have e3:¬(s.windows.length:Int)<s.windows.length:=by omega
  simp only[go_sem,e3]
  have:iV s.windows t=false:=by
   rw[iV,List.any_eq_false]; intro w hw
   obtain⟨j,hj,rfl⟩:=List.getElem_of_mem hw
   simp[hall j hj hj]
  rw[this]
def aB3(l:List bW)(i:Nat):Bool:=aAx (l.getD i ⟨0,0⟩) 1440&&(i==0||decide ((l.getD (i - 1) ⟨0,0⟩).high+1<(l.getD i ⟨0,0⟩).low))
def xX(l:List bW):Bool:=(List.range l.length).all (aB3 l)
def tO(s:wT):Bool:=decide (s.windows.length≤10)&&(inB s.turn 0 300&&xX s.windows)
def aG0(s:bW):Bool:=aAx s 300
def kS(c:dP):Bool:=inB c.stops.length 2 8&&(decide ((c.legs.length:Int)=c.stops.length - 1)&&(c.stops.all tO&&c.legs.all aG0))
theorem win_c(s:wT)(wv:AV)(j:Nat){ib:Nat}(hi:h[ib]? = some (some (.row (pC wv s))))(hw:Sl w0 h 2 wv (s.windows.map bW.c))(hn:s.windows.length≤10)(hj:j<s.windows.length)(hall:∀i,i<j→aB3 s.windows i=true) :
 aK Tryz.prog w0 139 [.int .i64 j,.agg s.windows[j].c,.ptr (.own ib 0)] h (.bool (aB3 s.windows j)) h:=by
 refine aM aNh fun hb ha=> ?_
 have hi':=xL hi
 obtain⟨hlen,q,hix,hrow,_⟩:=hw.use
 simp only[List.length_map]at hlen hix
 obtain⟨w,ew⟩:∃w,s.windows[j]=w:=⟨_,rfl⟩
 have hg:s.windows.getD j ⟨0,0⟩=w:=by rw[aE hj,ew]
 have hil:=aD hi
 rw[ew]
 simp only[go_sem,mf139]
 refine aC (aIk w 1440).v ?_
 simp only[go_sem]
 refine⟨fun e1=>⟨fun e2=> ?_,fun e2=> ?_⟩,fun e1=> ?_⟩
 ·obtain⟨k,rfl⟩:∃k,j=k+1:=⟨j - 1,by omega⟩
  have hk:k<s.windows.length:=by omega
  have g2:s.windows.getD k ⟨0,0⟩=s.windows[k]:=aE hk
  have hp:=hall k (by omega)
  simp only[aB3,g2,aAx,Bool.and_eq_true,decide_eq_true_eq]at hp
  have d2:cH (.int .i64 (((k+1:Nat):Int) - 1))=some k:=by rw[show((k+1:Nat):Int) - 1=(k:Int)by omega]; exact oP
  have i1:=hix k hk
  have r1:∀L,rd w0 (h++L) ((q.add (k*2)).add 1)=some (.int .i64 s.windows[k].high):=fun L=>dG (cK (hrow k s.windows[k].c (by simp[hk]))) rfl
  have w1:wi (((k+1:Nat):Int) - 1)=(k:Int):=by rw[cZ (by unfold I64; omega)]; omega
  have d2:cH (.int .i64 (k:Int))=some k:=oP
  simp only[go_sem,hi',w1,d2,i1,r1]
  refine⟨(by unfold I64; omega),?_⟩
  have hz:(k+1==0)=false:=rfl
  simp only[aB3,hg,Nat.add_sub_cancel,g2,e1,hz,Bool.true_and,Bool.false_or]
 ·obtain rfl:j=0:=by omega
  simp only[aB3,hg,e1]
  rfl
 ·simp only[aB3,hg,e1]; rfl
theorem aAw(l:List bW):∀c∈l.map bW.c,c.all one=true:=fun c hc=>by
 obtain⟨s,_,rfl⟩:=List.mem_map.1 hc; rfl
theorem stop_c(s:wT)(wv:AV)(j:Int)(hw:Sl w0 h 2 wv (s.windows.map bW.c))(hn:s.windows.length<1000000):aK Tryz.prog w0 137 [.int .i64 j,.agg (pC wv s)] h (.bool (tO s)) h:=by
 refine aM aNj fun hb ha=> ?_
 have hlen:=hw.use.1
 simp only[List.length_map]at hlen
 have o1:=hw.one.1
 simp only[go_sem,mf137,hlen,o1]
 refine⟨fun e1=> ?_,fun e1=> ?_⟩
 ·refine aC (nS _ _ _).v ?_
  simp only[go_sem]
  refine⟨fun e2=> ?_,fun e2=> ?_⟩
  ·refine aC (aDm (s.windows.map bW.c) wv (.fn (.func 139) [] [.ptr (.own h.length 0)]) (aB3 s.windows) hw.app (aAw _) (by simpa using hn) (fun j c hc hall L=> ?_)).v ?_
   ·have hj:j<s.windows.length:=by have:=aD hc; simpa using this
    have:c=s.windows[j].c:=by simpa[hj]using hc.symm
    subst this
    exact(win_c s wv j (ib:=h.length) (by simp[pC]) hw.app.app (by omega) hj hall).vc (first:=[]) (capt:=[.ptr (.own h.length 0)])
   ·simp only[go_sem]
    simp only[List.length_map]
    simp[tO,e1,e2,xX]
    intro _; omega
  ·simp[tO,e1,e2]
 ·simp[tO]; omega
theorem leg_c(s:bW)(j:Int):aK Tryz.prog w0 141 [.int .i64 j,.agg s.c] h (.bool (aG0 s)) h:=by
 refine aM aNf fun hb ha=> ?_
 simp only[go_sem,mf141]
 refine aC (aIk s 300).v ?_
 simp only[go_sem]
 rfl
theorem aHv(c:dP)(v:nJ)(hR:kV w0 h c v):aK Tryz.prog w0 76 [.agg (mJ v)] h (.bool (kS c)) h:=by
 refine aM mf76_k fun hb ha=> ?_
 have l1:=hR.stops.use.1
 have l2:=hR.legs.use.1
 rw[gQ hR.toChainS]at l1
 simp only[List.length_map]at l2
 have o1:=hR.stops.one.1
 have o2:=hR.legs.one.1
 have hl:=hR.ls
 have hl2:=hR.ll
 simp only[go_sem,mf76,o1,o2]
 have a1:(List.range (fP v.ws c.stops).length).all (fun j=>tO (c.stops.getD j ⟨[],0⟩))=c.stops.all tO:=by
  refine Bool.eq_iff_iff.2 ?_
  rw[bZ,gQ hR.toChainS,List.all_eq_true]
  constructor
  ·intro x s hs
   obtain⟨j,hj,rfl⟩:=List.getElem_of_mem hs
   have:=x j hj
   rwa [aE hj]at this
  ·intro x i hi
   rw[aE hi]; exact x _ (qG hi)
 have a2:(List.range (c.legs.map bW.c).length).all (fun j=>aG0 (c.legs.getD j ⟨0,0⟩))=c.legs.all aG0:=by
  refine Bool.eq_iff_iff.2 ?_
  rw[bZ,List.length_map,List.all_eq_true]
  constructor
  ·intro x s hs
   obtain⟨j,hj,rfl⟩:=List.getElem_of_mem hs
   have:=x j hj
   rwa [aE hj]at this
  ·intro x i hi
   rw[aE hi]; exact x _ (qG hi)
 refine aC (aKy (fP v.ws c.stops) v.sv (.fn (.func 137) [] []) (fun j=>tO (c.stops.getD j ⟨[],0⟩)) hR.stops.app ?_ (by rw[gQ hR.toChainS]; exact hl) (fun j r hc hall L=> ?_)).v ?_
 ·intro r hr
  obtain⟨j,hj,rfl⟩:=List.getElem_of_mem hr
  rw[gQ hR.toChainS]at hj
  obtain⟨x,hx⟩:∃x,v.ws[j]? = some x:=⟨_,qA (by rw[hR.wl]; exact hj)⟩
  have:=(hR.wins j x _ hx (qA hj)).one.1
  have hx':=(List.getElem?_eq_some_iff.1 hx).2
  simp only[fP,List.getElem_zipWith,pC,List.all_cons,hx',this]; rfl
 ·have hj:j<c.stops.length:=by have:=aD hc; rwa [gQ hR.toChainS]at this
  obtain⟨x,hx⟩:∃x,v.ws[j]? = some x:=⟨_,qA (by rw[hR.wl]; exact hj)⟩
  have:r=pC x c.stops[j]:=by
   simp only[fP,List.getElem?_zipWith,hx,qA hj,Option.some.injEq]at hc
   exact hc.symm
  subst this
  simp only[aE hj]
  exact(stop_c c.stops[j] x j (hR.wins j x _ hx (qA hj)).app.app (hR.lw _ (qG hj))).v
 rw[a1]
 simp only[go_sem]
 refine aC (aDm (c.legs.map bW.c) v.lv (.fn (.func 141) [] []) (fun j=>aG0 (c.legs.getD j ⟨0,0⟩)) hR.legs.app (aAw _) (by simpa using hl2) (fun j r hc hall L=> ?_)).v ?_
 ·have hj:j<c.legs.length:=by have:=aD hc; simpa using this
  have:r=c.legs[j].c:=by simpa[hj]using hc.symm
  subst this
  simp only[aE hj]
  exact(leg_c c.legs[j] j).v
 rw[a2]
 simp only[go_sem,l1,l2]
 refine aC (nS _ _ _).v ?_
 have w1:=cZ (n:=(c.stops.length:Int) - 1) (by unfold I64; omega)
 simp only[go_sem,l1,l2,w1]
 refine⟨fun e1=>⟨fun e2=>⟨fun e3=> ?_,fun e3=> ?_⟩,fun e2=> ?_⟩,fun e1=> ?_⟩
 ·simp only[kS,e1,e3,decide_eq_true e2,Bool.true_and]
 ·simp only[kS,e1,e3,decide_eq_true e2,Bool.true_and,Bool.false_and]
 ·simp only[kS,e1,decide_eq_false e2,Bool.true_and,Bool.false_and]
 ·simp only[kS,e1,Bool.false_and]
theorem mY{c:dP}(h:kS c=true):2≤c.stops.length∧c.stops.length≤8∧c.legs.length+1=c.stops.length∧(∀s∈c.stops,s.windows.length≤10∧0≤s.turn∧s.turn≤300∧xX s.windows=true)∧∀s∈c.legs,0≤s.low∧s.low≤s.high∧s.high≤300:=by
 simp only[kS,inB,tO,aG0,aAx,Bool.and_eq_true,decide_eq_true_eq,List.all_eq_true]at h
 obtain⟨h1,h2,h3,h4⟩:=h
 exact⟨by omega,by omega,by omega,fun s hs=>by have:=h3 s hs; exact⟨this.1,this.2.1.1,this.2.1.2,this.2.2⟩,fun s hs=>h4 s hs⟩
def oW{α:Type}(p:α→Bool)(l:List α):Int:=match l.findIdx? p with
 | some i=>i
 | none=> -1
theorem aJv{α:Type}{p:α→Bool}{l:List α}{j:Nat}(hj:j<l.length)(h1:∀i,i<j→∀hi:i<l.length,p l[i]=false)(h2:p l[j]=true):oW p l=j:=by
 have:l.findIdx? p=some j:=List.findIdx?_eq_some_iff_getElem.2 ⟨hj,h2,fun i hi=>by simp[h1 i hi (by omega)]⟩
 simp[oW,this]
theorem aEb{α:Type}{p:α→Bool}{l:List α}(h1:∀i (hi:i<l.length),p l[i]=false):oW p l= -1:=by
 have:l.findIdx? p=none:=List.findIdx?_eq_none_iff.2 fun x hx=>by
  obtain⟨i,hi,rfl⟩:=List.getElem_of_mem hx
  exact h1 i hi
 simp[oW,this]
def zF(row:Nat→Bool)(m:Int):Int:=oW (fun(t:Nat)=>decide (m≤(t:Int))&&row t) (List.range 1441)
theorem from_c(p:Pl)(row:Nat→Bool)(m:Int)(hp:p.bdd h.length)(hr:∀t,t<1441→rd w0 h (p.add t)=some (.bool (row t)))(hm:m<1000000):aK Tryz.prog w0 173 [.ptr p,.int .i64 m] h (.int .i64 (zF row m)) h:=by
 refine aM aMK fun hb ha=> ?_
 simp only[go_sem,mf173]
 obtain⟨s,es⟩:∃s:Nat,max 0 m=s:=⟨(max 0 m).toNat,by omega⟩
 rw[es]
 refine fF (S:=Nat) (F:=fun t=>[(0,.ptr p),(5,.int .i64 t)]) (H:=fun _=>h++[]) (meas:=fun t=>1441 - t) (Inv:=fun t=>s≤t∧∀u,s≤u→u<t→u<1441→row u=false) s ⟨Nat.le_refl _,fun u h1 h2 _=>by omega⟩ rfl (by simp) ?_
 rintro t ⟨h1,h2⟩ ih
 refine aP [0,5] aLw.eq_1 ?_
 by_cases ht:t<1441
 ·have e1:(t:Int)<1441:=by omega
  have e2:∀L,rd w0 (h++L) (p.add t)=some (.bool (row t)):=fun L=>fT (hr t ht)
  simp only[go_sem,e1,e2,ht,Nat.mul_one]
  have nx:row t=false→s≤t+1∧∀u,s≤u→u<t+1→u<1441→row u=false:=fun e=>⟨by omega,fun u q1 q2 q3=>by
   rcases Nat.lt_or_ge u t with q | q
   ·exact h2 u q1 q q3
   ·obtain rfl:u=t:=by omega
    exact e⟩
  refine⟨fun e=> ?_,fun e=>⟨(by unfold I64; omega),by simpa using ih (t+1) (nx e) (by omega)⟩⟩
  have:zF row m=t:=aJv (by simpa using ht) (fun i hi hi2=>by
   simp only[List.length_range]at hi2
   rw[List.getElem_range]
   by_cases hs:s≤i
   ·rw[h2 i hs hi hi2]; simp
   ·rw[decide_eq_false (by omega)]; rfl) (by rw[List.getElem_range,e,decide_eq_true (by omega)]; rfl)
  rw[this]
 ·have e1:¬(t:Int)<1441:=by omega
  simp only[go_sem,e1]
  have:zF row m= -1:=aEb fun i hi=>by
   simp only[List.length_range]at hi
   rw[List.getElem_range]
   by_cases hs:s≤i
   ·rw[h2 i hs (by omega) hi]; simp
   ·rw[decide_eq_false (by omega)]; rfl
  rw[this]
def iY(n:Nat)(g:Nat→Nat→Bool):List AV:=(List.range (n*1441)).map fun k=> .bool (g (k / 1441) (k % 1441))
theorem pB{n:Nat}{g:Nat→Nat→Bool}:(iY n g).length=n*1441:=by simp[iY]
theorem yD{n:Nat}{g:Nat→Nat→Bool}{i t:Nat}(hi:i<n)(ht:t<1441):(iY n g)[i*1441+t]? = some (.bool (g i t)):=by
 have hlt:i*1441+t<n*1441:=by
  have:(i+1)*1441≤n*1441:=Nat.mul_le_mul_right _ hi
  omega
 rw[iY,List.getElem?_map,List.getElem?_range hlt]
 have e1:(i*1441+t) / 1441=i:=by omega
 have e2:(i*1441+t) % 1441=t:=by omega
 simp only[Option.map_some,e1,e2]
def aDA(g:Nat→Nat→Bool)(i t:Nat)(b:Bool):Nat→Nat→Bool:=fun i' t'=>if i'=i∧t'=t then b else g i' t'
theorem aIe{n:Nat}{g:Nat→Nat→Bool}{i t:Nat}{b:Bool}(hi:i<n)(ht:t<1441):cO (iY n g) (i*1441+t) [.bool b]=iY n (aDA g i t b):=by
 have hlt:i*1441+t<n*1441:=by
  have:(i+1)*1441≤n*1441:=Nat.mul_le_mul_right _ hi
  omega
 have hs:cO (iY n g) (i*1441+t) [.bool b]=(iY n g).set (i*1441+t) (.bool b):=by
  rw[List.set_eq_take_append_cons_drop,if_pos (by rw[pB]; exact hlt)]
  simp[cO]
 rw[hs]
 refine List.ext_getElem? fun k=> ?_
 rw[List.getElem?_set]
 by_cases hk:i*1441+t=k
 ·subst hk
  rw[if_pos rfl,if_pos (by rw[pB]; exact hlt),yD hi ht]
  simp[aDA]
 ·rw[if_neg hk]
  by_cases hkn:k<n*1441
  ·simp only[iY,List.getElem?_map,List.getElem?_range hkn,Option.map_some,aDA]
   rw[if_neg (by omega)]
  ·simp only[iY,List.getElem?_map]
   rw[List.getElem?_eq_none (by simpa using hkn)]; rfl
theorem aGx{n:Nat}:fS (List.replicate 1441 (.bool false)) n=iY n fun _ _=>false:=by
 have h1:∀n,fS (List.replicate 1441 (AV.bool false)) n=List.replicate (n*1441) (.bool false):=fun n=>by
  induction n with
  | zero=>rfl
  | succ n ih=>rw[fS,ih,Nat.succ_mul,Nat.add_comm,List.replicate_append_replicate]
 rw[h1,iY]
 refine List.ext_getElem? fun k=> ?_
 by_cases hk:k<n*1441
 ·rw[List.getElem?_map,List.getElem?_range hk,List.getElem?_replicate,if_pos hk]; rfl
 ·rw[List.getElem?_eq_none (by simpa using hk),List.getElem?_eq_none (by simpa using hk)]
def uQ(c:dP)(i:Nat)(row:Nat→Bool)(t:Int):Bool:=
 iV (c.stops.getD (i+1) ⟨[],0⟩).windows t&&(decide (i+1=c.legs.length)||decide (0≤zF row (t+(c.stops.getD (i+1) ⟨[],0⟩).turn)))
def mE(go:Int→Bool)(m:Int):Nat→Int→Int
 | 0,_=> -1
 | k+1,d=>if go (m+d)then mE go m k (d+1)else d
def legD(c:dP)(i:Nat):bW:=c.legs.getD i ⟨0,0⟩
def kR(c:dP)(i:Nat)(row:Nat→Bool)(m:Int):Int:=mE (uQ c i row) m ((legD c i).high - (legD c i).low+1).toNat (legD c i).low
theorem goes_c(c:dP)(v:nJ)(i ic ik is n ib:Nat)(g:Nat→Nat→Bool)(t:Int)(hR:kV w0 h c v)(hB:kS c=true)(hi:i<c.legs.length)(hn:n=c.legs.length)(h1:h[ic]? = some (some (.row (mJ v))))(h2:h[is]? = some (some (.row [.int .i64 i])))
 (h3:h[ik]? = some (some (.row [.sl (.own ib 0) n 1441 true]))) (h4:h[ib]? = some (some (.row (iY n g)))) (ht: -10000≤t∧t<10000):aK Tryz.prog w0 172 [.int .i64 t,.ptr (.own ic 0),.ptr (.own is 0),.ptr (.own ik 0)] h (.bool (uQ c i (g (i+1)) t)) h:=by
 refine aM aML fun hb ha=> ?_
 have b1:=xL h1
 have b2:=xL h2
 have b3:=xL h3
 have bs:=mY hB
 have hi1:i+1<c.stops.length:=by omega
 obtain⟨p,x,p1,p2,p3⟩:=hR.stop hi1
 obtain⟨s,es⟩:∃s,c.stops[i+1]=s:=⟨_,rfl⟩
 have gs:c.stops.getD (i+1) ⟨[],0⟩=s:=by rw[aE hi1,es]
 have hs:=bs.2.2.2.1 s (es▸qG hi1)
 rw[es]at p2 p3
 have d1:cH (.int .i64 ((i:Int)+1))=some (i+1):=by rw[show(i:Int)+1=((i+1:Nat):Int)by omega]; exact oP
 have l2:=hR.legs.use.1
 simp only[List.length_map]at l2
 have hll:=hR.ll
 have ibl:=aD h4
 have o1:=p3.one.1
 simp only[go_sem,mf172,b1,b2,d1,p1,p2,o1]
 refine⟨(by unfold I64; omega),?_⟩
 refine aC (aIS s x t p3.app (by omega)).v ?_
 simp only[go_sem,b1,b2,b3,l2]
 have hd:(decide (i+1=c.legs.length))=decide ((i:Int)+1=c.legs.length):=by
  refine Bool.eq_iff_iff.2 ?_
  rw[decide_eq_true_eq,decide_eq_true_eq]; omega
 refine⟨fun e1=>⟨(by unfold I64; omega),fun e2=>⟨(by unfold I64; omega),?_⟩,fun e2=> ?_⟩,fun e1=> ?_⟩
 ·have hin:i+1<n:=by omega
  have i1:cF 1441 (.sl (.own ib 0) n 1441 true) (some (i+1))=some (.ptr (.own ib ((i+1)*1441))):=by simp[cF,fH,hin,Pl.add]
  have d2:(if 0≤(i:Int)+1 then some ((i:Int)+1).toNat else none)=some (i+1):=by rw[if_pos (by omega)]; congr 1
  simp only[go_sem,d2,i1]
  have ibl':=aD h4
  refine⟨(by unfold I64; omega),?_⟩
  refine aC (from_c (.own ib ((i+1)*1441)) (g (i+1)) (t+s.turn) (by simp[Pl.bdd]; omega) (fun u hu=> ?_) (by omega)).v ?_
  ·simp only[Pl.add,rd]
   rw[aA h4]
   simp only[Nat.zero_add]
   exact yD hin hu
  ·simp only[go_sem]
   simp only[uQ,gs,e1,hd,decide_eq_false e2,Bool.true_and,Bool.false_or]
 ·simp only[uQ,gs,e1,hd,decide_eq_true e2,Bool.true_and,Bool.true_or]
 ·simp only[uQ,gs,e1,Bool.false_and]
theorem aN3(c:dP)(v:nJ)(i n ib:Nat)(g:Nat→Nat→Bool)(m:Int)(hR:kV w0 h c v)(hB:kS c=true)(hi:i<c.legs.length)(hn:n=c.legs.length)(h4:h[ib]? = some (some (.row (iY n g))))(hm:0≤m∧m≤1440) :
 aK Tryz.prog w0 143 [.agg (mJ v),.sl (.own ib 0) n 1441 true,.int .i64 i,.int .i64 m] h (.int .i64 (kR c i (g (i+1)) m)) h:=by
 refine aM aNd fun hb ha=> ?_
 have bs:=mY hB
 obtain⟨p,p1,p2⟩:=hR.leg hi
 obtain⟨s,es⟩:∃s,c.legs[i]=s:=⟨_,rfl⟩
 have gs:legD c i=s:=by rw[legD,aE hi,es]
 have hs:=bs.2.2.2.2 s (es▸qG hi)
 rw[es]at p2
 have o1:=hR.stops.one.1
 have o2:=hR.legs.one.1
 have l1:∀L,rd w0 (h++L) (p.add 0)=some (.int .i64 s.low):=fun L=>dG (p2 L) rfl
 have l2:∀L,rd w0 (h++L) (p.add 1)=some (.int .i64 s.high):=fun L=>dG (p2 L) rfl
 have ibl:=aD h4
 simp only[go_sem,mf143,o1,o2,p1,l1]
 obtain⟨go,ego⟩:∃go,go=uQ c i (g (i+1)):=⟨_,rfl⟩
 have hF:kR c i (g (i+1)) m=mE go m (s.high - s.low+1).toNat s.low:=by rw[kR,gs,ego]
 rw[hF]
 refine fF (S:=Int) (F:=fun d=>[(3,.int .i64 m),(4,.ptr (.own h.length 0)),(6,.ptr (.own (h.length+2) 0)),(9,.fn (.func 172) [] [.ptr (.own h.length 0),.ptr (.own (h.length+2) 0),.ptr (.own (h.length+1) 0)]),(10,.int .i64 d)])
  (H:=fun _=>h++[some (.row [v.sv,v.lv]),some (.row [.sl (.own ib 0) n 1441 true]),some (.row [.int .i64 i])]) (meas:=fun d=>(s.high - d+1).toNat)
  (Inv:=fun d=>s.low≤d∧mE go m (s.high - d+1).toNat d=mE go m (s.high - s.low+1).toNat s.low) s.low ⟨Int.le_refl _,rfl⟩ rfl rfl ?_
 rintro d ⟨h1,h2⟩ ih
 refine aP [3,4,6,9,10] aLy.eq_1 ?_
 simp only[go_sem,p1,l2]
 refine⟨fun e=> ?_,fun e=> ?_⟩
 ·obtain⟨k,ek⟩:∃k,(s.high - d+1).toNat=k+1:=⟨(s.high - d+1).toNat - 1,by omega⟩
  have ek2:(s.high - (d+1)+1).toNat=k:=by omega
  refine⟨(by unfold I64; omega),?_⟩
  have hg:=goes_c (w0:=w0) (h:=h++[some (.row [v.sv,v.lv]),some (.row [.sl (.own ib 0) n 1441 true]),some (.row [.int .i64 i])]) c v i h.length (h.length+1) (h.length+2) n ib g (m+d) hR.app hB hi hn (by simp[mJ]) (by simp) (by simp) (aA h4) (by omega)
  rw[←ego]at hg
  refine aC (hg.vc (first:=[]) (capt:=[.ptr (.own h.length 0),.ptr (.own (h.length+2) 0),.ptr (.own (h.length+1) 0)])) ?_
  simp only[go_sem]
  refine⟨fun e2=> ?_,fun e2=> ?_⟩
  ·rw[←h2,ek,mE,e2]; rfl
  ·refine⟨(by unfold I64; omega),ih (d+1) ⟨by omega,?_⟩ (by omega)⟩
   rw[ek2,←h2,ek,mE,if_pos e2]
 ·have ek:(s.high - d+1).toNat=0:=by omega
  rw[←h2,ek]; rfl
def aFt(c:dP)(i:Nat):wT:=c.stops.getD i ⟨[],0⟩
def gdr(c:dP):Nat→Nat→Bool
 | 0,_=>false
 | k+1,t=>iV (aFt c (c.legs.length - (k+1))).windows t&&decide (kR c (c.legs.length - (k+1)) (gdr c k) t<0)
def dZ(c:dP)(i t:Nat):Bool:=gdr c (c.legs.length - i) t
theorem aCO{r r':Nat→Bool}{m:Int}(h:∀t,t<1441→r t=r' t):zF r m=zF r' m:=by
 unfold zF oW
 have:(List.range 1441).findIdx? (fun(t:Nat)=>decide (m≤(t:Int))&&r t)=(List.range 1441).findIdx? (fun(t:Nat)=>decide (m≤(t:Int))&&r' t):=by
  have key:∀l:List Nat,(∀t∈l,t<1441)→l.findIdx? (fun(t:Nat)=>decide (m≤(t:Int))&&r t)=l.findIdx? (fun(t:Nat)=>decide (m≤(t:Int))&&r' t):=fun l=>by
   induction l with
   | nil=>intro _; rfl
   | cons a l ih=>
    intro hl
    rw[List.findIdx?_cons,List.findIdx?_cons,h a (hl a List.mem_cons_self),ih fun t ht=>hl t (List.mem_cons_of_mem _ ht)]
  exact key _ fun t ht=>List.mem_range.1 ht
 rw[this]
theorem aBC{c:dP}{i:Nat}{r r':Nat→Bool}{m:Int}(h:i+1<c.legs.length→∀t,t<1441→r t=r' t)(hi:i<c.legs.length):kR c i r m=kR c i r' m:=by
 have:uQ c i r=uQ c i r':=by
  funext t
  unfold uQ
  by_cases e:i+1=c.legs.length
  ·simp[e]
  ·rw[aCO (h (by omega))]
 rw[kR,kR,this]
theorem aDH{n:Nat}{g g':Nat→Nat→Bool}(h:∀i t,i<n→t<1441→g i t=g' i t):iY n g=iY n g':=by
 unfold iY
 refine List.map_congr_left fun k hk=> ?_
 rw[List.mem_range]at hk
 rw[h _ _ (Nat.div_lt_of_lt_mul (by omega)) (Nat.mod_lt _ (by omega))]
theorem aJz{c:dP}{i t:Nat}(hi:i<c.legs.length):dZ c i t=(iV (aFt c i).windows t&&decide (kR c i (dZ c (i+1)) t<0)):=by
 obtain⟨k,hk⟩:∃k,c.legs.length - i=k+1:=⟨c.legs.length - i - 1,by omega⟩
 have e1:c.legs.length - (k+1)=i:=by omega
 have e2:gdr c k=dZ c (i+1):=by funext u; rw[dZ,show c.legs.length - (i+1)=k by omega]
 rw[dZ,hk,gdr,e1,e2]
theorem aGw{n:Nat}{g:Nat→Nat→Bool}{i t:Nat}{b:Bool}(hi:i<n)(ht:t<1441):(iY n g).take (i*1441+t) ++ .bool b::(iY n g).drop (i*1441+(t+1))=iY n (aDA g i t b):=by
 rw[←aIe hi ht]; simp[cO,Nat.add_assoc]
def GoodK(w0:World)(h:Heap)(c:dP)(y:AV)(h':Heap):Prop:=aB h h'∧∃ib,y= .sl (.own ib 0) c.legs.length 1441 true∧h'[ib]? = some (some (.row (iY c.legs.length (dZ c))))
set_option maxHeartbeats 1000000 in
theorem good_c(c:dP)(v:nJ)(hR:kV w0 h c v)(hB:kS c=true):ACall Tryz.prog w0 77 [.agg (mJ v)] h (GoodK w0 h c):=by
 refine aO mf77_k fun hb ha=> ?_
 have bs:=mY hB
 have o1:=hR.stops.one.1
 have o2:=hR.legs.one.1
 have l2:=hR.legs.use.1
 simp only[List.length_map]at l2
 obtain⟨n,en⟩:∃n,c.legs.length=n:=⟨_,rfl⟩
 rw[en]at l2
 have hb1:n≤n∧n*1442≤1099511627776:=⟨Nat.le_refl _,by omega⟩
 have hn8:n≤8:=by omega
 simp (disch:=(unfold I64; omega)) only[go_sem,cZ,mf77,o1,o2,l2,hb1,aGx,beq_self_eq_true]
 refine fF (S:=Nat×(Nat→Nat→Bool)) (F:=fun s=>[(1,.ptr (.own h.length 0)),(3,.sl (.own (h.length+1) 0) n 1441 true),(4,.int .i64 ((n:Int) - 1 - s.1))])
  (H:=fun s=>h++[some (.row [v.sv,v.lv]),some (.row (iY n s.2))]) (meas:=fun s=>n - s.1)
  (Inv:=fun s=>s.1≤n∧∀i,i<n→n - s.1≤i→∀t,t<1441→s.2 i t=dZ c i t) (0,fun _ _=>false) ⟨Nat.zero_le _,fun i h1 h2=>by simp only at h2; omega⟩ (by simp) rfl ?_
 rintro⟨k,g⟩ ⟨hk,hg⟩ ih
 simp only at hk hg ih
 refine aP [1,3,4] L77_1.eq_1 ?_
 by_cases hkn:k<n
 ·obtain⟨i,ei⟩:∃i:Nat,(n:Int) - 1 - k=i:=⟨n - 1 - k,by omega⟩
  have e1:(0:Int)≤(i:Int):=by omega
  simp only[ei]
  simp only[go_sem,e1]
  have hin:i<n:=by omega
  refine fF (S:=Nat×(Nat→Nat→Bool)) (F:=fun s=>[(1,.ptr (.own h.length 0)),(3,.sl (.own (h.length+1) 0) n 1441 true),(4,.int .i64 i),(18,.int .i64 s.1)])
   (H:=fun s=>h++[some (.row [v.sv,v.lv]),some (.row (iY n s.2))]) (meas:=fun s=>1441 - s.1)
   (Inv:=fun s=>s.1≤1441∧(∀j,j<n→i<j→∀t,t<1441→s.2 j t=dZ c j t)∧∀t,t<s.1→s.2 i t=dZ c i t) (0,g) ⟨Nat.zero_le _,fun j h1 h2=>hg j h1 (by omega),fun t ht=>absurd ht (by simp)⟩ rfl rfl ?_
  rintro⟨t,f⟩ ⟨ht,hf1,hf2⟩ ih2
  simp only at ht hf1 hf2 ih2
  refine aP [1,3,4,18] aKV.eq_1 ?_
  by_cases htn:t<1441
  ·have e2:(t:Int)<1441:=by omega
   obtain⟨p,x,p1,p2,p3⟩:=hR.stop (j:=i) (by omega)
   obtain⟨s,es⟩:∃s,c.stops[i]'(by omega)=s:=⟨_,rfl⟩
   rw[es]at p2 p3
   have gs:aFt c i=s:=by rw[aFt,aE (by omega),es]
   have hs:=bs.2.2.2.1 s (es▸qG (by omega))
   have o3:=p3.one.1
   have i1:cF 1441 (.sl (.own (h.length+1) 0) n 1441 true) (some i)=some (.ptr (.own (h.length+1) (i*1441))):=by simp[cF,fH,hin,Pl.add]
   have hlt:i*1441+t+1≤n*1441:=by
    have:(i+1)*1441≤n*1441:=Nat.mul_le_mul_right _ hin
    omega
   have hlt':i*1441+(t+1)≤n*1441:=by rw[←Nat.add_assoc]; exact hlt
   have hI:I64 ((t:Int)+1):=(by unfold I64; omega)
   simp only[go_sem,e2]
   refine iS dE [0,1,2,3,4,5,6,7,8,18,9,10,11,12,13,14,15,16,17,19,20] [o_ 21 (m_ 3),o_ 22 (m_ 4),o_ 23 (m_ 5),o_ 24 (.addr (.t 1) 0),o_ 25 (l_ 24),o_ 26 (m_ 4),o_ 27 (.idxs 2 (.t 25) (.t 26)),o_ 28 (.load (.t 27) (some 2)),o_ 29 (m_ 5),o_ 39 (.idxs 1441 (.t 21) (.t 22)),.call (some 30) none (f_ 142) [(.t 28),(.t 29)],o_ 31 (m_ 30),q_ 32 31 true (.load (.t 1) (some 2)),q_ 33 31 true (m_ 3),q_ 34 31 true (m_ 4),q_ 35 31 true (m_ 5),.call (some 36) (some (31,true)) (f_ 143) [(.t 32),(.t 33),(.t 34),(.t 35)],q_ 37 31 true (.bin .lss (.t 36) (i_ 0)),o_ 38 (.pick (.t 31) (.t 37) (.k (.bool false))),o_ 40 (.idxa 1441 1 (.t 39) (.t 23)),.op none none (.store (.t 40) (.t 38) 1)] [] rfl rfl (by kernel_rfl) ?_
   simp only[go_sem,e2,p1,p2,hin]
   refine aC (aIS s x t p3.app (by omega)).v ?_
   simp only[go_sem,i1,htn,Nat.mul_one,pB,hlt]
   have fc:=aN3 (w0:=w0) (h:=h++[some (.row [v.sv,v.lv]),some (.row (iY n f))]) c v i n (h.length+1) f t hR.app hB (by omega) en.symm (by simp) (by omega)
   have hfd:kR c i (f (i+1)) t=kR c i (dZ c (i+1)) t:=aBC (fun h1 u hu=>hf1 (i+1) (by omega) (by omega) u hu) (by omega)
   rw[hfd]at fc
   have hgt:dZ c i t=(iV s.windows t&&decide (kR c i (dZ c (i+1)) t<0)):=by rw[aJz (by omega),gs]
   have next:∀b,dZ c i t=b→lp Tryz.prog w0 none 43 (List.length h) (resK w0 [RV.t 2] (GoodK w0 h c)) aKV _ [(1,.ptr (.own h.length 0)),(3,.sl (.own (h.length+1) 0) n 1441 true),(4,.int .i64 i),(18,.int .i64 ((t:Int)+1))]
    (h++[some (.row [v.sv,v.lv]),some (.row ((iY n f).take (i*1441+t) ++ .bool b::(iY n f).drop (i*1441+(t+1))))]):=fun b hbb=>by
    have:=ih2 (t+1,aDA f i t b) ⟨by simp only; omega,fun j h1 h2 u hu=>by simp only[aDA]; rw[if_neg (by omega)]; exact hf1 j h1 h2 u hu,fun u hu=>by
     simp only[aDA]
     by_cases e:u=t
     ·subst e; rw[if_pos (by simp),hbb]
     ·rw[if_neg (by omega)]; exact hf2 u (by simp only at hu; omega)⟩ (by simp only; omega)
    rw[aGw hin htn]
    simpa using this
   refine⟨fun c1=> ?_,fun c1=> ?_⟩
   ·refine aC fc.v ?_
    simp only[go_sem,i1,htn,Nat.mul_one,pB,hlt]
    exact⟨hlt',hI,next _ (by rw[hgt,c1]; rfl)⟩
   ·exact⟨hlt',hI,next _ (by rw[hgt,c1]; rfl)⟩
  ·have e2:¬(t:Int)<1441:=by omega
   simp (disch:=(unfold I64; omega)) only[go_sem,cZ,e2]
   have:=ih (k+1,f) ⟨by simp only; omega,fun j h1 h2 u hu=>by
    rcases Nat.lt_or_ge i j with q | q
    ·exact hf1 j h1 q u hu
    ·obtain rfl:j=i:=by simp only at h2; omega
     exact hf2 u (by omega)⟩ (by simp only; omega)
   rw[show(n:Int) - 1 - ((k+1:Nat):Int)=(i:Int) - 1 by omega]at this
   exact this
 ·have e1:¬(0:Int)≤(n:Int) - 1 - k:=by omega
  simp only[go_sem,e1]
  refine⟨aB.refl.app,h.length+1,by rw[en],?_⟩
  have:iY n g=iY c.legs.length (dZ c):=by rw[en]; exact aDH fun i t hi ht=>hg i hi (by omega) t ht
  rw[←this]; simp
def xB(out:List bW)(t:Nat):List bW:=match out.getLast? with
 | some s=>if s.high=(t:Int) - 1 then out.dropLast++[⟨s.low,t⟩]else out++[⟨t,t⟩]
 | none=>[⟨t,t⟩]
def spL(t:Nat)(out:List bW):List Bool→List bW
 | []=>out
 | b::l=>spL (t+1) (if b then xB out t else out) l
def nC(l:List Bool):List bW:=spL 0 [] l
def iE(l:List bW):List AV:=(l.map bW.c).flatten
theorem vS{l:List bW}{s:bW}:iE (l++[s])=iE l++s.c:=by simp[iE]
theorem rB{l:List bW}:(iE l).length=l.length*2:=by
 induction l with
 | nil=>rfl
 | cons a l ih=>simp only[iE,List.map_cons,List.flatten_cons,List.length_append,List.length_cons]at ih ⊢; rw[ih]; simp[bW.c]; omega
theorem yG{t:Nat}:∀ {l:List Bool} {out:List bW} {b:Bool},spL t out (l++[b])=if b then xB (spL t out l) (t+l.length)else spL t out l
 | [],out,b=>by simp[spL]
 | c::l,out,b=>by
  simp only[List.cons_append,spL,List.length_cons]
  rw[yG,Nat.add_assoc,Nat.add_comm 1]
theorem aL2(l:List Bool)(v:AV)(hv:Sl w0 h 1 v (l.map fun x=>[.bool x]))(hn:l.length<1000000):ACall Tryz.prog w0 78 [v] h fun y h'=>Gro h h' 2 (nC l).length y (iE (nC l)):=by
 refine aO mf78_k fun hb ha=> ?_
 obtain⟨hlen,q,hix,hrow,_⟩:=hv.use
 simp only[List.length_map]at hlen hix
 simp only[go_sem,mf78,hlen]
 rw[List.append_nil]
 refine fF (S:=Nat×Heap×AV×List bW) (F:=fun s=>[(3,s.2.2.1),(6,v),(7,.int .i64 l.length),(8,.int .i64 s.1)]) (H:=fun s=>s.2.1) (meas:=fun s=>l.length - s.1)
  (Inv:=fun s=>s.1≤l.length∧s.2.2.2=spL 0 [] (l.take s.1)∧s.2.2.2.length≤s.1∧Gro h s.2.1 2 s.2.2.2.length s.2.2.1 (iE s.2.2.2)) (0,h,.nilS,[]) ⟨Nat.zero_le _,rfl,by simp,Gro.nil aB.refl⟩ rfl rfl ?_
 rintro⟨t,H,ov,out⟩ ⟨ht,ho,hol,g⟩ ih
 simp only at ht ho hol g ih
 refine aP [3,6,7,8] aKU.eq_1 ?_
 by_cases htn:t<l.length
 ·have e1:=hix t htn
  have e3:(t:Int)<l.length:=by omega
  have e2:∀L,rd w0 (H++L) (q.add t)=some (.bool l[t]):=fun L=>by
   have:=(g.sub.app (L:=L)).rdn (w0:=w0) (hrow t [.bool l[t]] (by simp[htn]))
   rw[Nat.mul_one]at this
   exact rd_0 this rfl
  have e2':=e2 []
  rw[List.append_nil]at e2'
  rw[Nat.mul_one]at e1
  have hnext:spL 0 [] (l.take (t+1))=if l[t]then xB out t else out:=by
   rw[List.take_add_one,qA htn,Option.toList,yG,←ho,List.length_take,Nat.zero_add,Nat.min_eq_left (by omega)]
  simp only[go_sem,e1,e2,e2',e3]
  have hll:dA ov=some (.int .i64 out.length):=by
   rcases g.own with⟨h1,h2,h3⟩ | ⟨io,h1,h2,h3,_⟩
   ·rw[h2,h1]; rfl
   ·rw[h3]; rfl
  have happ:l[t]=true→(∀s init,out=init++[s]→s.high≠(t:Int) - 1)→∀G,eD w0 (H++[some (.row [.int .i64 (t:Int),.int .i64 (t:Int)])]) 2 16 ov (.sl (.own H.length 0) 1 2 true)=some (.sl (.own (H.length+1) 0) (out.length+1) 2 false,G)→Gro h G 2 (out.length+1) (.sl (.own (H.length+1) 0) (out.length+1) 2 false) (iE out++[.int .i64 (t:Int),.int .i64 (t:Int)]) →
   lp Tryz.prog w0 none 47 (List.length h) (resK w0 [RV.t 2] fun y h'=>Gro h h' 2 (nC l).length y (iE (nC l))) aKU _ [(3,.sl (.own (H.length+1) 0) (out.length+1) 2 false),(6,v),(7,.int .i64 l.length),(8,.int .i64 ((t:Int)+1))] G:=fun e hne G _ gG=>by
   have hadd:xB out t=out++[⟨t,t⟩]:=by
    unfold xB
    split
    ·rename_i s hs
     obtain⟨init,rfl⟩:∃init,out=init++[s]:=by
      have hne':out≠[]:=by rintro rfl; simp at hs
      refine⟨out.dropLast,?_⟩
      rw[List.getLast?_eq_some_getLast hne']at hs
      cases hs; exact(List.dropLast_concat_getLast hne').symm
     rw[if_neg (hne s init rfl)]
    ·rename_i hs
     rw[List.getLast?_eq_none_iff.1 hs]; rfl
   have:=ih (t+1,G,_,out++[⟨t,t⟩]) ⟨by simp only; omega,by simp only; rw[hnext,if_pos e,hadd],by simp; omega,by
    simp only[List.length_append,List.length_cons,List.length_nil,vS]; exact gG⟩ (by simp only; omega)
   simpa using this
  refine⟨fun e=> ?_,fun e=> ?_⟩
  ·have:=ih (t+1,H,ov,out) ⟨by simp only; omega,by simp only; rw[hnext,e]; rfl,by simp only; omega,g⟩ (by simp only; omega)
   exact⟨(by unfold I64; omega),by simpa using this⟩
  ·obtain⟨G,eG,gG⟩:=(g.app (L:=[some (.row [.int .i64 (t:Int),.int .i64 (t:Int)])])).more (w0:=w0) (b:=16) (k:=H.length) (x:=[.int .i64 (t:Int),.int .i64 (t:Int)]) (f:=true) (by simp) rfl rfl (by omega) (by omega)
   rw[List.length_append,List.length_singleton]at eG gG
   rcases List.eq_nil_or_concat out with rfl | ⟨init,s,rfl⟩
   ·have hll0:dA ov=some (.int .i64 0):=by simpa using hll
    have h1:=happ e (fun s init h=>by simp at h) G eG gG
    simp only[List.length_nil,Nat.zero_add]at eG h1
    simp only[go_sem,hll0,eG]
    exact⟨(by unfold I64; omega),h1⟩
   ·rw[List.concat_eq_append]at *
    have hno:(init++[s]).length≠0:=by simp
    obtain⟨io,io1,io2,io3,_,io5⟩:=g.put hno
    obtain⟨N,eN⟩:∃N,init.length=N:=⟨_,rfl⟩
    have hln:(init++[s]).length=N+1:=by simp[eN]
    have hflat:iE (init++[s])=iE init++[.int .i64 s.low,.int .i64 s.high]:=vS
    have hfl:(iE init).length=N*2:=by rw[rB,eN]
    have h1:=fun hne:s.high≠(t:Int) - 1=>happ e (fun s' init' h=>by
     have:=List.append_inj_right' h rfl
     simp only[List.cons.injEq,and_true]at this
     subst this; exact hne) G eG gG
    have hlen2:(iE (init++[s])).length=N*2+1+1:=by rw[rB,hln]; omega
    have hrow':(iE (init++[s])).take (N*2+1) ++ .int .i64 (t:Int)::(iE (init++[s])).drop (N*2+(1+1))=iE (init++[⟨s.low,t⟩]):=by
     rw[hflat,vS,List.take_append,List.take_of_length_le (by omega),hfl,show N*2+1 - N*2=1 by omega,List.drop_eq_nil_of_le (by simp[hfl])]
     simp[bW.c]
    have hadd:s.high=(t:Int) - 1→xB (init++[s]) t=init++[⟨s.low,t⟩]:=fun e2=>by
     simp[xB,e2]
    have h2:=fun e2:s.high=(t:Int) - 1=>ih (t+1,H.set io (some (.row (iE (init++[⟨s.low,t⟩])))),ov,init++[⟨s.low,t⟩]) ⟨by simp only; omega,by simp only; rw[hnext,if_pos e,hadd e2],by simp only[List.length_append,List.length_singleton]at hol ⊢; omega,by
     have:=io5 (iE (init++[⟨s.low,t⟩])) (by rw[rB,rB]; simp)
     simpa using this⟩ (by simp only; omega)
    have hll1:dA ov=some (.int .i64 ((N:Int)+1)):=by rw[hll,hln]; rfl
    have q1:(0:Int)<(N:Int)+1:=by omega
    have hI:I64 ((N:Int)+1 - 1):=(by unfold I64; omega)
    have q2:cH (.int .i64 (N:Int))=some N:=oP
    have q6:wi ((N:Int)+1 - 1)=(N:Int):=by rw[cZ (by unfold I64; omega)]; omega
    have q7:=cZ (n:=(t:Int) - 1) (by unfold I64; omega)
    have q3:cF 2 ov (some N)=some (.ptr (.own io (N*2))):=by rw[io2,hln]; simp[cF,fH,Pl.add]
    have q4:(iE (init++[s]))[N*2+1]? = some (.int .i64 s.high):=by
     rw[hflat,qI (by omega),hfl,show N*2+1 - N*2=1 by omega]; rfl
    have q5:∀L,rd w0 (H++L) (.own io (N*2+1))=some (.int .i64 s.high):=fun L=>by
     simp only[rd]; rw[aA io3]; exact q4
    have q5':=q5 []
    rw[List.append_nil]at q5'
    rw[hln]at eG h1
    simp only[go_sem,hll1,q1,q2,q3,q5,q5',hI,q6,q7]
    refine⟨fun e2=> ?_,fun e2=> ?_⟩
    ·have hle:N*2+(1+1)≤(iE (init++[s])).length:=by omega
     simp only[go_sem,io3,hlen2]
     rw[hrow']
     exact⟨Nat.le_refl _,(by unfold I64; omega),by simpa using h2 e2⟩
    ·simp only[go_sem,eG]
     exact⟨(by unfold I64; omega),h1 e2⟩
 ·have e3:¬(t:Int)<l.length:=by omega
  obtain rfl:t=l.length:=by omega
  simp only[go_sem,e3]
  rw[List.take_length]at ho
  rw[ho]at g
  exact g
def SpR(w0:World)(h:Heap)(l:List bW)(c:List AV):Prop:=∃x,c=[x]∧Sl w0 h 2 x (l.map bW.c)
def LS(w0:World)(h:Heap)(v:AV)(t:List (List bW)):Prop:=NS w0 h 1 (SpR w0 h) v t
theorem SpR.sub{H:Heap}{l:List bW}{c:List AV}(s:SpR w0 h l c)(t:aB h H):SpR w0 H l c:=by
 obtain⟨x,h1,h2⟩:=s; exact⟨x,h1,h2.sub t⟩
theorem LS.sub{H:Heap}{v:AV}{t:List (List bW)}(s:LS w0 h v t)(u:aB h H):LS w0 H v t:=NS.mono s u fun _ _ r=>r.sub u
theorem LS.at_{v:AV}{t:List (List bW)}(s:LS w0 h v t){j:Nat}(hj:j<t.length):∃(p:Pl) (x:AV),cF 1 v (some j)=some (.ptr p)∧(∀L,rd w0 (h++L) p=some x)∧Sl w0 h 2 x (t[j].map bW.c):=by
 obtain⟨p,c,p1,p2,x,rfl,p3⟩:=NS.at_ s hj
 exact⟨p,x,p1,fun L=>rd_0 (p2 L) rfl,p3⟩
def oX(r:Nat→Bool):List Bool:=(List.range 1441).map r
def sD(r:Nat→Bool):List AV:=(List.range 1441).map fun t=> .bool (r t)
theorem aCn{r:Nat→Bool}:(sD r).length=1441:=by simp[sD]
theorem aIE{r:Nat→Bool}:(sD r).all one=true:=by
 rw[List.all_eq_true]; intro x hx
 simp only[sD,List.mem_map]at hx
 obtain⟨_,_,rfl⟩:=hx; rfl
theorem aGM{r:Nat→Bool}:sD r=((oX r).map fun x=>[AV.bool x]).flatten:=by
 simp only[sD,oX,List.map_map]
 generalize List.range 1441=l
 induction l with
 | nil=>rfl
 | cons a l ih=>simp only[List.map_cons,List.flatten_cons,ih]; rfl
theorem aL1{ib n i:Nat}{g:Nat→Nat→Bool}(h4:h[ib]? = some (some (.row (iY n g))))(hi:i<n):rdn w0 h (.own ib (i*1441)) 1441=some (sD (g i)):=by
 have hle:i*1441+1441≤n*1441:=by
  have:(i+1)*1441≤n*1441:=Nat.mul_le_mul_right _ hi
  omega
 simp only[rdn,h4,pB,hle,if_true,Option.some.injEq]
 refine List.ext_getElem? fun t=> ?_
 by_cases ht:t<1441
 ·rw[List.getElem?_take_of_lt ht,List.getElem?_drop,yD hi ht,sD,List.getElem?_map,List.getElem?_range ht]; rfl
 ·rw[List.getElem?_eq_none (by rw[List.length_take]; omega),List.getElem?_eq_none (by rw[aCn]; omega)]
def gB(c:dP):List (List bW):=(List.range c.legs.length).map fun i=>nC (oX (dZ c i))
theorem pV(c:dP):(gB c).length=c.legs.length:=by simp[gB]
theorem aC4{c:dP}{i:Nat}(hi:i<(gB c).length):(gB c)[i]=nC (oX (dZ c i)):=by simp[gB]
def DepK(w0:World)(h:Heap)(c:dP)(y:AV)(h':Heap):Prop:=aB h h'∧if kS c then ∃x,y= .tup [x,.int .i64 0]∧LS w0 h' x (gB c)else y= .tup [.nilS,.int .i64 2]
theorem aLM(c:dP)(v:nJ)(hR:kV w0 h c v):ACall Tryz.prog w0 33 [.agg (mJ v)] h (DepK w0 h c):=by
 refine aO mf33_k fun hb ha=> ?_
 have o1:=hR.stops.one.1
 have o2:=hR.legs.one.1
 simp only[go_sem,mf33,o1,o2]
 refine aC (aHv c v hR.app).v ?_
 simp only[go_sem]
 refine⟨fun e1=>⟨aB.refl.app,by rw[e1]; rfl⟩,fun e1=> ?_⟩
 have bs:=mY e1
 refine aJ (ACall.vc (first:=[]) (args:=[.agg (mJ v)]) (good_c c v hR.app e1)) ?_
 rintro y H1 ⟨hs1,ib,rfl,hib⟩
 obtain⟨n,en⟩:∃n,c.legs.length=n:=⟨_,rfl⟩
 rw[en]at hib ⊢
 simp only[go_sem]
 refine fF (S:=Nat×Heap×Nat×AV) (F:=fun s=>[(4,s.2.2.2),(11,.sl (.own ib 0) n 1441 true),(12,.int .i64 n),(13,.int .i64 s.1)]) (H:=fun s=>s.2.1) (meas:=fun s=>n - s.1)
  (Inv:=fun s=>s.1≤n∧GN w0 H1 (SpR w0) s.2.1 1 s.2.2.1 s.2.2.2 ((gB c).take s.1)) (0,H1,0,.nilS) ⟨Nat.zero_le _,GN.nil aB.refl⟩ rfl rfl ?_
 rintro⟨j,G,io,ov⟩ ⟨hj,g⟩ ih
 simp only at hj g ih
 have hlt:((gB c).take j).length=j:=by rw[List.length_take,pV]; omega
 refine aP [4,11,12,13] L33_0.eq_1 ?_
 by_cases hjn:j<n
 ·have e3:(j:Int)<n:=by omega
  have hG:aB H1 G:=g.sub.trans aDW
  have hib2:=hG.2 _ _ hib
  have i1:cF 1441 (.sl (.own ib 0) n 1441 true) (some j)=some (.ptr (.own ib (j*1441))):=by simp[cF,fH,hjn,Pl.add]
  have r1:∀L,rdn w0 (G++L) (.own ib (j*1441)) 1441=some (sD (dZ c j)):=fun L=>aL1 (aA hib2) hjn
  have r1':=r1 []
  rw[List.append_nil]at r1'
  have o3:(sD (dZ c j)).all one=true:=aIE
  have o4:(sD (dZ c j)).length=1441:=aCn
  have o5:cO (List.replicate 1441 (.bool false)) 0 (sD (dZ c j))=sD (dZ c j):=gE (by rw[o4,List.length_replicate])
  simp only[go_sem,e3,i1,r1,r1',o3,o4,o5,List.length_replicate]
  have hv:Sl w0 (G++[some (.row (sD (dZ c j)))]) 1 (.sl (.own G.length 0) 1441 1 true) ((oX (dZ c j)).map fun x=>[AV.bool x]):=by
   have:=gN (w0:=w0) (h:=G) ((oX (dZ c j)).map fun x=>[AV.bool x]) (es:=1) true (L:=[some (.row (sD (dZ c j)))]) 0 (by rw[←aGM]; rfl) (fun c hc=>by obtain⟨x,_,rfl⟩:=List.mem_map.1 hc; rfl)
   have hl:((oX (dZ c j)).map fun x=>[AV.bool x]).length=1441:=by simp[oX]
   rw[hl]at this
   exact this
  have hq:((1441:Nat)==1441)=true:=rfl
  simp only[go_sem,o4,hq]
  refine aJ (ACall.vc (first:=[]) (args:=[.sl (.own G.length 0) 1441 1 true]) (aL2 (oX (dZ c j)) _ hv (by simp[oX]))) ?_
  rintro y H2 gS
  have hs2:aB G H2:=aB.refl.app.trans gS.sub
  have o6:one y=true∧cellsOf y=some [y]:=by
   rcases gS.own with⟨_,h2,_⟩ | ⟨_,_,_,h3,_⟩
   ·subst h2; exact⟨rfl,rfl⟩
   ·subst h3; exact⟨rfl,rfl⟩
  have hx:SpR w0 (mk j io (H2++[some (.row [y])])) (nC (oX (dZ c j))) [y]:=by
   obtain⟨io2,gm⟩:=gS.masked (j:=j) (io:=io) fun hj0=>by
    have:=g.lt (by rw[hlt]; exact hj0)
    rw[List.length_append]; omega
   refine⟨y,rfl,?_⟩
   have:=gm.sl (w0:=w0) (rows:=(nC (oX (dZ c j))).map bW.c) (fun c hc=>by obtain⟨s,_,rfl⟩:=List.mem_map.1 hc; rfl) (by simp) (by omega)
   exact this.sub (aBo aB.refl.app)
  have g2:=g.sub' (G:=H2++[some (.row [y])]) hs2.app (fun s r=>r.sub s)
  obtain⟨G',e1',g3,_,_⟩:=g2.push (b:=24) (k:=H2.length) (f:=true) (x:=nC (oX (dZ c j))) (c:=[y]) (fun s r=>r.sub s) (by simp) rfl (by simp[o6.1]) (by rw[hlt]; exact hx) (by omega) (by rw[hlt]; omega)
  rw[hlt]at e1' g3
  have hnext:(gB c).take (j+1)=(gB c).take j++[nC (oX (dZ c j))]:=by
   have hjd:j<(gB c).length:=by rw[pV]; omega
   rw[List.take_add_one,qA hjd,aC4 hjd]; rfl
  have:=ih (j+1,G',_,_) ⟨by simp only; omega,by simp only; rw[hnext]; exact g3⟩ (by simp only; omega)
  simp only[go_sem,o6.1,o6.2,e1']
  exact⟨(by unfold I64; omega),by simpa using this⟩
 ·have e3:¬(j:Int)<n:=by omega
  obtain rfl:j=n:=by omega
  simp only[go_sem,e3]
  have ht:(gB c).take j=gB c:=List.take_of_length_le (by rw[pV]; omega)
  rw[ht]at g
  refine⟨(aB.refl.app.trans hs1).trans (g.sub.trans aDW),?_⟩
  rw[if_pos e1]
  exact⟨ov,rfl,g.ns (fun s r=>r.sub s) (by omega)⟩
end Go.Proofs.Ab

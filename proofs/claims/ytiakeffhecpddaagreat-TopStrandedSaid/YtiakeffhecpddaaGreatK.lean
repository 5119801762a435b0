/- The own layer under the proofs of this seat, part K: what calls of the program come to on an abstract heap. No condition. -/
import Derived.Test.YtiakeffhecpddaaGreatTab
import Derived.Test.YtiakeffhecpddaaGreatH
set_option linter.unusedSimpArgs false
set_option linter.unusedVariables false
namespace Go.Proofs.Ab
open Go Go.Proofs
variable {w0:World} {h:Heap}
attribute [local irreducible] ACall cG dD aQ bS rvC lp rg dr ex un rv
structure bU where
 low:Int
 high:Int
@[go_sem] def bU.c (s:bU):List AV:=[.int .i64 s.low,.int .i64 s.high]
@[simp] theorem bU.c_bdd (N:Nat) (s:bU):AV.bdds N s.c:=by simp[bU.c,AV.bdds,AV.bdd]
theorem mY(x lo hi:Int):aQ Tryz.prog w0 61 [.int .i64 x,.int .i64 lo,.int .i64 hi] h (.bool (inB x lo hi)) h:=by
 refine aF aH aLv mf61_b mf61_g (qE rfl) (by simp[AV.bdd,AV.bdds]) fun hb ha=>aM ?_
 simp only[go_sem,mf61]
 exact⟨fun a=>by simp[inB,a],fun a=>by simp[inB,a]⟩
def yU(s:bU)(hi:Int):Bool:=decide (0≤s.low)&&(decide (s.low≤s.high)&&decide (s.high≤hi))
theorem aGT(s:bU)(hi:Int):aQ Tryz.prog w0 140 [.agg s.c,.int .i64 hi] h (.bool (yU s hi)) h:=by
 refine aF aH aIi aNw aNv (qE rfl) (by simp[AV.bdd,AV.bdds]) fun hb ha=>aM ?_
 simp only[go_sem,mf140]
 refine⟨fun a=>⟨fun b=> ?_,fun b=> ?_⟩,fun a=> ?_⟩<;>simp_all [yU]<;>omega
theorem fU{z l:List AV}(e:l.length=z.length):cP z 0 l=l:=by
 simp only[cP,List.take_zero,List.nil_append,Nat.zero_add,e,List.drop_length,List.append_nil]
theorem aEw(rows:List (List AV))(v fv:AV)(p:Nat→Bool)(hv:Sl w0 h 1 v rows)(ho:∀c∈rows,c.all one=true)(hn:rows.length<1000000)
 (hf:∀(j:Nat) x,rows[j]? = some [x]→(∀i,i<j→p i=true)→∀L,bS Tryz.prog w0 fv [.int .i64 j,x] (h++L) (.bool (p j)) (h++L)):aQ Tryz.prog w0 102 [v,fv] h (.bool ((List.range rows.length).all p)) h:=by
 refine aF aH aIJ aOr aOq (qE rfl) (by simp[AV.bdd,AV.bdds]) fun hb ha=>aM ?_
 have hfb:fv.bdd h.length:=by simp only[AV.bdds]at ha; exact ha.2.1
 obtain⟨hlen,q,hix,hrow,_⟩:=hv.use
 have vb:=hv.bdd (Nat.le_refl _)
 simp only[go_sem,mf102,hlen]
 refine dH (fun j=>[(1,fv),(7,v),(8,.int .i64 rows.length),(9,.int .i64 j)]) (fun j=>p j=true) rows.length rfl (fun j hj hall ih=> ?_) (fun hall=> ?_)
 · refine aD aH aCw [1,7,8,9] L102_0.eq_1 ?_
   have e1:=hix j hj
   have e3:(j:Int)<rows.length:=by omega
   obtain⟨x,hx⟩:∃x,rows[j]=[x]:=by
    have:=(gR (hrow j _ (qA hj))).1
    exact List.length_eq_one_iff.1 this
   have hc:rows[j]? = some [x]:=by rw[qA hj,hx]
   have e2:∀L,rd w0 (h++L) (q.add j)=some x:=fun L=>by
    have:=dG (dJ (l:=L) (hrow j _ hc)) (o:=0) (x:=x) rfl
    rw[Nat.mul_one]at this
    rwa [show(q.add j).add 0=q.add j by cases q<;>simp[Pl.add,Addr.add]]at this
   rw[Nat.mul_one]at e1
   simp only[go_sem,e1,e2,e3]
   refine aC (by simpa using hf j x hc hall []) ?_
   simp only[go_sem]
   refine⟨fun e=> ?_,fun e=>⟨(by unfold I64; omega),by simpa using ih e⟩⟩
   have:(List.range rows.length).all p=false:=by
    rw[List.all_eq_false]; exact⟨j,List.mem_range.2 hj,by simp[e]⟩
   rw[this]
   exact⟨rfl,[],(List.append_nil h).symm⟩
 · refine aD aH aCw [1,7,8,9] L102_0.eq_1 ?_
   have e3:¬(rows.length:Int)<rows.length:=by omega
   simp only[go_sem,e3]
   have:(List.range rows.length).all p=true:=by rw[List.all_eq_true]; exact fun x hx=>hall x (List.mem_range.1 hx)
   rw[this]
theorem aJX(rows:List (List AV))(v fv:AV)(p:Nat→Bool)(hv:Sl w0 h 2 v rows)(ho:∀c∈rows,c.all one=true)(hn:rows.length<1000000)
 (hf:∀(j:Nat) c,rows[j]? = some c→(∀i,i<j→p i=true)→∀L,bS Tryz.prog w0 fv [.int .i64 j,.agg c] (h++L) (.bool (p j)) (h++L)):aQ Tryz.prog w0 136 [v,fv] h (.bool ((List.range rows.length).all p)) h:=by
 refine aF aH aIm aNE aND (qE rfl) (by simp[AV.bdd,AV.bdds]) fun hb ha=>aM ?_
 have hfb:fv.bdd h.length:=by simp only[AV.bdds]at ha; exact ha.2.1
 obtain⟨hlen,q,hix,hrow,_⟩:=hv.use
 have vb:=hv.bdd (Nat.le_refl _)
 simp only[go_sem,mf136,hlen]
 refine dH (fun j=>[(1,fv),(7,v),(8,.int .i64 rows.length),(9,.int .i64 j)]) (fun j=>p j=true) rows.length rfl (fun j hj hall ih=> ?_) (fun hall=> ?_)
 · refine aD aH aCp [1,7,8,9] L136_0.eq_1 ?_
   have e1:=hix j hj
   have e3:(j:Int)<rows.length:=by omega
   obtain⟨c,hc⟩:∃c,rows[j]? = some c:=⟨_,qA hj⟩
   have e2:∀L,rdn w0 (h++L) (q.add (j*2)) 2=some c:=fun L=>dJ (hrow j c hc)
   have e4:c.all one=true:=ho c (List.mem_of_getElem? hc)
   have e5:c.length=2:=(gR (hrow j c hc)).1
   have e6:List.take 2 c=c:=List.take_of_length_le (by omega)
   simp only[go_sem,e1,e2,e3,e4,e5,fU,e6]
   refine aC (hf j c hc hall _) ?_
   simp only[go_sem]
   refine⟨fun e=> ?_,fun e=>⟨(by unfold I64; omega),gT 0 hb (by simp[bI,bR,cC,cK,dA,bT,AV.bdds,AV.bdd,Pl.bdd,bD]) (by simp[bI,bR,cC,cK,dA,bT,AV.bdds,AV.bdd,Pl.bdd,bD,hfb,vb]) (ih e)⟩⟩
   have:(List.range rows.length).all p=false:=by
    rw[List.all_eq_false]; exact⟨j,List.mem_range.2 hj,by simp[e]⟩
   rw[this]
 · refine aD aH aCp [1,7,8,9] L136_0.eq_1 ?_
   have e3:¬(rows.length:Int)<rows.length:=by omega
   simp only[go_sem,e3]
   have:(List.range rows.length).all p=true:=by rw[List.all_eq_true]; exact fun x hx=>hall x (List.mem_range.1 hx)
   rw[this]
theorem aB3(rows:List (List AV))(v fv:AV)(p:Nat→Bool)(hv:Sl w0 h 2 v rows)(ho:∀c∈rows,c.all one=true)(hn:rows.length<1000000)
 (hf:∀(j:Nat) c,rows[j]? = some c→(∀i,i<j→p i=true)→∀L,bS Tryz.prog w0 fv [.int .i64 j,.agg c] (h++L) (.bool (p j)) (h++L)):aQ Tryz.prog w0 138 [v,fv] h (.bool ((List.range rows.length).all p)) h:=by
 refine aF aH aIk aNA aNz (qE rfl) (by simp[AV.bdd,AV.bdds]) fun hb ha=>aM ?_
 have hfb:fv.bdd h.length:=by simp only[AV.bdds]at ha; exact ha.2.1
 obtain⟨hlen,q,hix,hrow,_⟩:=hv.use
 have vb:=hv.bdd (Nat.le_refl _)
 simp only[go_sem,mf138,hlen]
 refine dH (fun j=>[(1,fv),(7,v),(8,.int .i64 rows.length),(9,.int .i64 j)]) (fun j=>p j=true) rows.length rfl (fun j hj hall ih=> ?_) (fun hall=> ?_)
 · refine aD aH aCo [1,7,8,9] L138_0.eq_1 ?_
   have e1:=hix j hj
   have e3:(j:Int)<rows.length:=by omega
   obtain⟨c,hc⟩:∃c,rows[j]? = some c:=⟨_,qA hj⟩
   have e2:∀L,rdn w0 (h++L) (q.add (j*2)) 2=some c:=fun L=>dJ (hrow j c hc)
   have e4:c.all one=true:=ho c (List.mem_of_getElem? hc)
   have e5:c.length=2:=(gR (hrow j c hc)).1
   have e6:List.take 2 c=c:=List.take_of_length_le (by omega)
   simp only[go_sem,e1,e2,e3,e4,e5,fU,e6]
   refine aC (hf j c hc hall _) ?_
   simp only[go_sem]
   refine⟨fun e=> ?_,fun e=>⟨(by unfold I64; omega),gT 0 hb (by simp[bI,bR,cC,cK,dA,bT,AV.bdds,AV.bdd,Pl.bdd,bD]) (by simp[bI,bR,cC,cK,dA,bT,AV.bdds,AV.bdd,Pl.bdd,bD,hfb,vb]) (ih e)⟩⟩
   have:(List.range rows.length).all p=false:=by
    rw[List.all_eq_false]; exact⟨j,List.mem_range.2 hj,by simp[e]⟩
   rw[this]
 · refine aD aH aCo [1,7,8,9] L138_0.eq_1 ?_
   have e3:¬(rows.length:Int)<rows.length:=by omega
   simp only[go_sem,e3]
   have:(List.range rows.length).all p=true:=by rw[List.all_eq_true]; exact fun x hx=>hall x (List.mem_range.1 hx)
   rw[this]
theorem aJV(rows:List (List AV))(v fv:AV)(p:Nat→Bool)(hv:Sl w0 h 5 v rows)(ho:∀c∈rows,c.all one=true)(hn:rows.length<1000000)
 (hf:∀(j:Nat) c,rows[j]? = some c→(∀i,i<j→p i=true)→∀L,bS Tryz.prog w0 fv [.int .i64 j,.agg c] (h++L) (.bool (p j)) (h++L)):aQ Tryz.prog w0 94 [v,fv] h (.bool ((List.range rows.length).all p)) h:=by
 refine aF aH aK6 mf94_b mf94_g (qE rfl) (by simp[AV.bdd,AV.bdds]) fun hb ha=>aM ?_
 have hfb:fv.bdd h.length:=by simp only[AV.bdds]at ha; exact ha.2.1
 obtain⟨hlen,q,hix,hrow,_⟩:=hv.use
 have vb:=hv.bdd (Nat.le_refl _)
 simp only[go_sem,mf94,hlen]
 refine dH (fun j=>[(1,fv),(7,v),(8,.int .i64 rows.length),(9,.int .i64 j)]) (fun j=>p j=true) rows.length rfl (fun j hj hall ih=> ?_) (fun hall=> ?_)
 · refine aD aH aEz [1,7,8,9] L94_0.eq_1 ?_
   have e1:=hix j hj
   have e3:(j:Int)<rows.length:=by omega
   obtain⟨c,hc⟩:∃c,rows[j]? = some c:=⟨_,qA hj⟩
   have e2:∀L,rdn w0 (h++L) (q.add (j*5)) 5=some c:=fun L=>dJ (hrow j c hc)
   have e4:c.all one=true:=ho c (List.mem_of_getElem? hc)
   have e5:c.length=5:=(gR (hrow j c hc)).1
   have e6:List.take 5 c=c:=List.take_of_length_le (by omega)
   simp only[go_sem,e1,e2,e3,e4,e5,fU,e6]
   refine aC (hf j c hc hall _) ?_
   simp only[go_sem]
   refine⟨fun e=> ?_,fun e=>⟨(by unfold I64; omega),gT 0 hb (by simp[bI,bR,cC,cK,dA,bT,AV.bdds,AV.bdd,Pl.bdd,bD]) (by simp[bI,bR,cC,cK,dA,bT,AV.bdds,AV.bdd,Pl.bdd,bD,hfb,vb]) (ih e)⟩⟩
   have:(List.range rows.length).all p=false:=by
    rw[List.all_eq_false]; exact⟨j,List.mem_range.2 hj,by simp[e]⟩
   rw[this]
 · refine aD aH aEz [1,7,8,9] L94_0.eq_1 ?_
   have e3:¬(rows.length:Int)<rows.length:=by omega
   simp only[go_sem,e3]
   have:(List.range rows.length).all p=true:=by rw[List.all_eq_true]; exact fun x hx=>hall x (List.mem_range.1 hx)
   rw[this]
theorem aJU(rows:List (List AV))(v fv:AV)(p:Nat→Bool)(hv:Sl w0 h 2 v rows)(ho:∀c∈rows,c.all one=true)(hn:rows.length<1000000)
 (hf:∀(j:Nat) c,rows[j]? = some c→(∀i,i<j→p i=true)→∀L,bS Tryz.prog w0 fv [.int .i64 j,.agg c] (h++L) (.bool (p j)) (h++L)):aQ Tryz.prog w0 96 [v,fv] h (.bool ((List.range rows.length).all p)) h:=by
 refine aF aH aK4 mf96_b mf96_g (qE rfl) (by simp[AV.bdd,AV.bdds]) fun hb ha=>aM ?_
 have hfb:fv.bdd h.length:=by simp only[AV.bdds]at ha; exact ha.2.1
 obtain⟨hlen,q,hix,hrow,_⟩:=hv.use
 have vb:=hv.bdd (Nat.le_refl _)
 simp only[go_sem,mf96,hlen]
 refine dH (fun j=>[(1,fv),(7,v),(8,.int .i64 rows.length),(9,.int .i64 j)]) (fun j=>p j=true) rows.length rfl (fun j hj hall ih=> ?_) (fun hall=> ?_)
 · refine aD aH aEy [1,7,8,9] L96_0.eq_1 ?_
   have e1:=hix j hj
   have e3:(j:Int)<rows.length:=by omega
   obtain⟨c,hc⟩:∃c,rows[j]? = some c:=⟨_,qA hj⟩
   have e2:∀L,rdn w0 (h++L) (q.add (j*2)) 2=some c:=fun L=>dJ (hrow j c hc)
   have e4:c.all one=true:=ho c (List.mem_of_getElem? hc)
   have e5:c.length=2:=(gR (hrow j c hc)).1
   have e6:List.take 2 c=c:=List.take_of_length_le (by omega)
   simp only[go_sem,e1,e2,e3,e4,e5,fU,e6]
   refine aC (hf j c hc hall _) ?_
   simp only[go_sem]
   refine⟨fun e=> ?_,fun e=>⟨(by unfold I64; omega),gT 0 hb (by simp[bI,bR,cC,cK,dA,bT,AV.bdds,AV.bdd,Pl.bdd,bD]) (by simp[bI,bR,cC,cK,dA,bT,AV.bdds,AV.bdd,Pl.bdd,bD,hfb,vb]) (ih e)⟩⟩
   have:(List.range rows.length).all p=false:=by
    rw[List.all_eq_false]; exact⟨j,List.mem_range.2 hj,by simp[e]⟩
   rw[this]
 · refine aD aH aEy [1,7,8,9] L96_0.eq_1 ?_
   have e3:¬(rows.length:Int)<rows.length:=by omega
   simp only[go_sem,e3]
   have:(List.range rows.length).all p=true:=by rw[List.all_eq_true]; exact fun x hx=>hall x (List.mem_range.1 hx)
   rw[this]
theorem aJT(rows:List (List AV))(v fv:AV)(p:Nat→Bool)(hv:Sl w0 h 1 v rows)(ho:∀c∈rows,c.all one=true)(hn:rows.length<1000000)
 (hf:∀(j:Nat) x,rows[j]? = some [x]→(∀i,i<j→p i=true)→∀L,bS Tryz.prog w0 fv [.int .i64 j,x] (h++L) (.bool (p j)) (h++L)):aQ Tryz.prog w0 100 [v,fv] h (.bool ((List.range rows.length).all p)) h:=by
 refine aF aH aIL aOv aOu (qE rfl) (by simp[AV.bdd,AV.bdds]) fun hb ha=>aM ?_
 have hfb:fv.bdd h.length:=by simp only[AV.bdds]at ha; exact ha.2.1
 obtain⟨hlen,q,hix,hrow,_⟩:=hv.use
 have vb:=hv.bdd (Nat.le_refl _)
 simp only[go_sem,mf100,hlen]
 refine dH (fun j=>[(1,fv),(7,v),(8,.int .i64 rows.length),(9,.int .i64 j)]) (fun j=>p j=true) rows.length rfl (fun j hj hall ih=> ?_) (fun hall=> ?_)
 · refine aD aH aCx [1,7,8,9] L100_0.eq_1 ?_
   have e1:=hix j hj
   have e3:(j:Int)<rows.length:=by omega
   obtain⟨x,hx⟩:∃x,rows[j]=[x]:=by
    have:=(gR (hrow j _ (qA hj))).1
    exact List.length_eq_one_iff.1 this
   have hc:rows[j]? = some [x]:=by rw[qA hj,hx]
   have e2:∀L,rd w0 (h++L) (q.add j)=some x:=fun L=>by
    have:=dG (dJ (l:=L) (hrow j _ hc)) (o:=0) (x:=x) rfl
    rw[Nat.mul_one]at this
    rwa [show(q.add j).add 0=q.add j by cases q<;>simp[Pl.add,Addr.add]]at this
   rw[Nat.mul_one]at e1
   simp only[go_sem,e1,e2,e3]
   refine aC (by simpa using hf j x hc hall []) ?_
   simp only[go_sem]
   refine⟨fun e=> ?_,fun e=>⟨(by unfold I64; omega),by simpa using ih e⟩⟩
   have:(List.range rows.length).all p=false:=by
    rw[List.all_eq_false]; exact⟨j,List.mem_range.2 hj,by simp[e]⟩
   rw[this]
   exact⟨rfl,[],(List.append_nil h).symm⟩
 · refine aD aH aCx [1,7,8,9] L100_0.eq_1 ?_
   have e3:¬(rows.length:Int)<rows.length:=by omega
   simp only[go_sem,e3]
   have:(List.range rows.length).all p=true:=by rw[List.all_eq_true]; exact fun x hx=>hall x (List.mem_range.1 hx)
   rw[this]
theorem aJS(rows:List (List AV))(v fv:AV)(p:Nat→Bool)(hv:Sl w0 h 2 v rows)(ho:∀c∈rows,c.all one=true)(hn:rows.length<1000000)
 (hf:∀(j:Nat) c,rows[j]? = some c→(∀i,i<j→p i=true)→∀L,bS Tryz.prog w0 fv [.int .i64 j,.agg c] (h++L) (.bool (p j)) (h++L)):aQ Tryz.prog w0 104 [v,fv] h (.bool ((List.range rows.length).all p)) h:=by
 refine aF aH aIH aOn aOm (qE rfl) (by simp[AV.bdd,AV.bdds]) fun hb ha=>aM ?_
 have hfb:fv.bdd h.length:=by simp only[AV.bdds]at ha; exact ha.2.1
 obtain⟨hlen,q,hix,hrow,_⟩:=hv.use
 have vb:=hv.bdd (Nat.le_refl _)
 simp only[go_sem,mf104,hlen]
 refine dH (fun j=>[(1,fv),(7,v),(8,.int .i64 rows.length),(9,.int .i64 j)]) (fun j=>p j=true) rows.length rfl (fun j hj hall ih=> ?_) (fun hall=> ?_)
 · refine aD aH aCv [1,7,8,9] L104_0.eq_1 ?_
   have e1:=hix j hj
   have e3:(j:Int)<rows.length:=by omega
   obtain⟨c,hc⟩:∃c,rows[j]? = some c:=⟨_,qA hj⟩
   have e2:∀L,rdn w0 (h++L) (q.add (j*2)) 2=some c:=fun L=>dJ (hrow j c hc)
   have e4:c.all one=true:=ho c (List.mem_of_getElem? hc)
   have e5:c.length=2:=(gR (hrow j c hc)).1
   have e6:List.take 2 c=c:=List.take_of_length_le (by omega)
   simp only[go_sem,e1,e2,e3,e4,e5,fU,e6]
   refine aC (hf j c hc hall _) ?_
   simp only[go_sem]
   refine⟨fun e=> ?_,fun e=>⟨(by unfold I64; omega),gT 0 hb (by simp[bI,bR,cC,cK,dA,bT,AV.bdds,AV.bdd,Pl.bdd,bD]) (by simp[bI,bR,cC,cK,dA,bT,AV.bdds,AV.bdd,Pl.bdd,bD,hfb,vb]) (ih e)⟩⟩
   have:(List.range rows.length).all p=false:=by
    rw[List.all_eq_false]; exact⟨j,List.mem_range.2 hj,by simp[e]⟩
   rw[this]
 · refine aD aH aCv [1,7,8,9] L104_0.eq_1 ?_
   have e3:¬(rows.length:Int)<rows.length:=by omega
   simp only[go_sem,e3]
   have:(List.range rows.length).all p=true:=by rw[List.all_eq_true]; exact fun x hx=>hall x (List.mem_range.1 hx)
   rw[this]
theorem aJR(rows:List (List AV))(v fv:AV)(p:Nat→Bool)(hv:Sl w0 h 2 v rows)(ho:∀c∈rows,c.all one=true)(hn:rows.length<1000000)
 (hf:∀(j:Nat) c,rows[j]? = some c→(∀i,i<j→p i=true)→∀L,bS Tryz.prog w0 fv [.int .i64 j,.agg c] (h++L) (.bool (p j)) (h++L)):aQ Tryz.prog w0 114 [v,fv] h (.bool ((List.range rows.length).all p)) h:=by
 refine aF aH aIy aN4 aN3 (qE rfl) (by simp[AV.bdd,AV.bdds]) fun hb ha=>aM ?_
 have hfb:fv.bdd h.length:=by simp only[AV.bdds]at ha; exact ha.2.1
 obtain⟨hlen,q,hix,hrow,_⟩:=hv.use
 have vb:=hv.bdd (Nat.le_refl _)
 simp only[go_sem,mf114,hlen]
 refine dH (fun j=>[(1,fv),(7,v),(8,.int .i64 rows.length),(9,.int .i64 j)]) (fun j=>p j=true) rows.length rfl (fun j hj hall ih=> ?_) (fun hall=> ?_)
 · refine aD aH aCu [1,7,8,9] L114_0.eq_1 ?_
   have e1:=hix j hj
   have e3:(j:Int)<rows.length:=by omega
   obtain⟨c,hc⟩:∃c,rows[j]? = some c:=⟨_,qA hj⟩
   have e2:∀L,rdn w0 (h++L) (q.add (j*2)) 2=some c:=fun L=>dJ (hrow j c hc)
   have e4:c.all one=true:=ho c (List.mem_of_getElem? hc)
   have e5:c.length=2:=(gR (hrow j c hc)).1
   have e6:List.take 2 c=c:=List.take_of_length_le (by omega)
   simp only[go_sem,e1,e2,e3,e4,e5,fU,e6]
   refine aC (hf j c hc hall _) ?_
   simp only[go_sem]
   refine⟨fun e=> ?_,fun e=>⟨(by unfold I64; omega),gT 0 hb (by simp[bI,bR,cC,cK,dA,bT,AV.bdds,AV.bdd,Pl.bdd,bD]) (by simp[bI,bR,cC,cK,dA,bT,AV.bdds,AV.bdd,Pl.bdd,bD,hfb,vb]) (ih e)⟩⟩
   have:(List.range rows.length).all p=false:=by
    rw[List.all_eq_false]; exact⟨j,List.mem_range.2 hj,by simp[e]⟩
   rw[this]
 · refine aD aH aCu [1,7,8,9] L114_0.eq_1 ?_
   have e3:¬(rows.length:Int)<rows.length:=by omega
   simp only[go_sem,e3]
   have:(List.range rows.length).all p=true:=by rw[List.all_eq_true]; exact fun x hx=>hall x (List.mem_range.1 hx)
   rw[this]
structure uY where
 windows:List bU
 turn:Int
structure dS where
 stops:List uY
 legs:List bU
structure mR where
 sv:AV
 lv:AV
 ws:List AV
@[go_sem] def lO (v:mR):List AV:=[v.sv,v.lv]
@[go_sem] def oE (w:AV) (s:uY):List AV:=[w,.int .i64 s.turn]
def fJ(ws:List AV)(l:List uY):List (List AV):=List.zipWith oE ws l
structure ChainS(w0:World)(h:Heap)(c:dS)(v:mR):Prop where
 wl:v.ws.length=c.stops.length
 stops:Sl w0 h 2 v.sv (fJ v.ws c.stops)
 wins:∀(j:Nat) x s,v.ws[j]? = some x→c.stops[j]? = some s→Sl w0 h 2 x (s.windows.map bU.c)
 legs:Sl w0 h 2 v.lv (c.legs.map bU.c)
structure kI(w0:World)(h:Heap)(c:dS)(v:mR):Prop extends ChainS w0 h c v where
 ls:c.stops.length<1000000
 ll:c.legs.length<1000000
 lw:∀s∈c.stops,s.windows.length<1000000
section
variable {c:dS} {v:mR}
theorem ChainS.sub{H:Heap}(s:ChainS w0 h c v)(t:aB h H):ChainS w0 H c v:=⟨s.wl,s.stops.sub t,fun j x y a b=>(s.wins j x y a b).sub t,s.legs.sub t⟩
theorem ChainS.app{L:Heap}(s:ChainS w0 h c v):ChainS w0 (h++L) c v:=s.sub aB.refl.app
theorem kI.sub{H:Heap}(s:kI w0 h c v)(t:aB h H):kI w0 H c v:=⟨s.toChainS.sub t,s.ls,s.ll,s.lw⟩
theorem kI.app{L:Heap}(s:kI w0 h c v):kI w0 (h++L) c v:=s.sub aB.refl.app
theorem fX(s:ChainS w0 h c v):(fJ v.ws c.stops).length=c.stops.length:=by simp[fJ,s.wl]
theorem ChainS.stop(s:ChainS w0 h c v){j:Nat}(hj:j<c.stops.length):∃(p:Pl) (x:AV),cN 2 v.sv (some j)=some (.ptr p)∧(∀L,rdn w0 (h++L) p 2=some (oE x c.stops[j]))∧Sl w0 h 2 x (c.stops[j].windows.map bU.c):=by
 have hw:=s.wl
 obtain⟨p,p1,p2⟩:=s.stops.lt (j:=j) (by rw[fX s]; exact hj)
 obtain⟨x,hx⟩:∃x,v.ws[j]? = some x:=⟨_,qA (by omega)⟩
 refine⟨p,x,p1,fun L=>p2 L _ ?_,s.wins j x _ hx (qA hj)⟩
 simp only[fJ,List.getElem?_zipWith,hx,qA hj]
theorem ChainS.leg(s:ChainS w0 h c v){j:Nat}(hj:j<c.legs.length):∃p:Pl,cN 2 v.lv (some j)=some (.ptr p)∧∀L,rdn w0 (h++L) p 2=some c.legs[j].c:=by
 obtain⟨p,p1,p2⟩:=s.legs.lt (j:=j) (by simpa using hj)
 exact⟨p,p1,fun L=>p2 L _ (by simp[hj])⟩
end
def iD(l:List bU)(t:Int):Bool:=l.any fun w=>inB t w.low w.high
theorem aHp(s:uY)(wv:AV)(t:Int)(hw:Sl w0 h 2 wv (s.windows.map bU.c))(hn:s.windows.length<1000000):aQ Tryz.prog w0 142 [.agg (oE wv s),.int .i64 t] h (.bool (iD s.windows t)) h:=by
 refine aF aH aIg aNs aNr (qE rfl) (by simp[AV.bdd,AV.bdds]) fun hb ha=>aM ?_
 obtain⟨hlen,q,hix,hrow,_⟩:=hw.use
 have vb:=hw.bdd (Nat.le_refl _)
 have vb1:wv.bdd (h.length+1):=AV.bdd_mono (Nat.le_succ _) _ vb
 have o1:=hw.one.1
 simp only[List.length_map]at hlen hix
 simp only[go_sem,mf142,hlen,o1]
 refine dH (fun j=>[(1,.int .i64 t),(8,wv),(9,.int .i64 s.windows.length),(10,.int .i64 j)]) (fun j=>∀hj:j<s.windows.length,inB t s.windows[j].low s.windows[j].high=false) s.windows.length rfl (fun j hj hall ih=> ?_) (fun hall=> ?_)
 · refine aD aH aCn [1,8,9,10] L142_0.eq_1 ?_
   have e1:=hix j hj
   have e3:(j:Int)<s.windows.length:=by omega
   have e2:∀L,rdn w0 (h++L) (q.add (j*2)) 2=some s.windows[j].c:=fun L=>dJ (hrow j _ (by simp[hj]))
   simp only[go_sem,e1,e2,e3]
   refine aC (mY _ _ _).v ?_
   simp only[go_sem]
   refine⟨fun e=> ?_,fun e=>⟨(by unfold I64; omega),gT 1 hb (by simp[bI,bR,cC,cK,dA,bT,AV.bdds,AV.bdd,Pl.bdd,bD,oE,vb,vb1]) (by simp[bI,bR,cC,cK,dA,bT,AV.bdds,AV.bdd,Pl.bdd,bD,vb,vb1]) (ih fun _=>e)⟩⟩
   have:iD s.windows t=true:=by rw[iD,List.any_eq_true]; exact⟨_,qG hj,e⟩
   rw[this]
 · refine aD aH aCn [1,8,9,10] L142_0.eq_1 ?_
   have e3:¬(s.windows.length:Int)<s.windows.length:=by omega
   simp only[go_sem,e3]
   have:iD s.windows t=false:=by
    rw[iD,List.any_eq_false]; intro w hw
    obtain⟨j,hj,rfl⟩:=List.getElem_of_mem hw
    simp[hall j hj hj]
   rw[this]
def aAQ(l:List bU)(i:Nat):Bool:=yU (l.getD i ⟨0,0⟩) 1440&&(i==0||decide ((l.getD (i - 1) ⟨0,0⟩).high+1<(l.getD i ⟨0,0⟩).low))
def vV(l:List bU):Bool:=(List.range l.length).all (aAQ l)
def rR(s:uY):Bool:=decide (s.windows.length≤10)&&(inB s.turn 0 300&&vV s.windows)
def aFP(s:bU):Bool:=yU s 300
def kD(c:dS):Bool:=inB c.stops.length 2 8&&(decide ((c.legs.length:Int)=c.stops.length - 1)&&(c.stops.all rR&&c.legs.all aFP))
theorem win_c(s:uY)(wv:AV)(j:Nat){ib:Nat}(hi:h[ib]? = some (some (.row (oE wv s))))(hw:Sl w0 h 2 wv (s.windows.map bU.c))(hn:s.windows.length≤10)(hj:j<s.windows.length)(hall:∀i,i<j→aAQ s.windows i=true) :
 aQ Tryz.prog w0 139 [.int .i64 j,.agg s.windows[j].c,.ptr (.own ib 0)] h (.bool (aAQ s.windows j)) h:=by
 refine aF aH aIj aNy aNx (qE rfl) (by simp[AV.bdd,AV.bdds]) fun hb ha=>aM ?_
 have hi':=xL hi
 obtain⟨hlen,q,hix,hrow,_⟩:=hw.use
 simp only[List.length_map]at hlen hix
 obtain⟨w,ew⟩:∃w,s.windows[j]=w:=⟨_,rfl⟩
 have hg:s.windows.getD j ⟨0,0⟩=w:=by rw[aJ hj,ew]
 have hil:=aI hi
 rw[ew]
 simp only[go_sem,mf139]
 refine aC (aGT w 1440).v ?_
 simp only[go_sem]
 refine⟨fun e1=>⟨fun e2=> ?_,fun e2=> ?_⟩,fun e1=> ?_⟩
 · obtain⟨k,rfl⟩:∃k,j=k+1:=⟨j - 1,by omega⟩
   have hk:k<s.windows.length:=by omega
   have g2:s.windows.getD k ⟨0,0⟩=s.windows[k]:=aJ hk
   have hp:=hall k (by omega)
   simp only[aAQ,g2,yU,Bool.and_eq_true,decide_eq_true_eq]at hp
   have d2:cI (.int .i64 (((k+1:Nat):Int) - 1))=some k:=by rw[show((k+1:Nat):Int) - 1=(k:Int)by omega]; exact pS
   have i1:=hix k hk
   have r1:∀L,rd w0 (h++L) ((q.add (k*2)).add 1)=some (.int .i64 s.windows[k].high):=fun L=>dG (dJ (hrow k s.windows[k].c (by simp[hk]))) rfl
   have w1:wi (((k+1:Nat):Int) - 1)=(k:Int):=by rw[cV (by unfold I64; omega)]; omega
   have d2:cI (.int .i64 (k:Int))=some k:=pS
   simp only[go_sem,hi',w1,d2,i1,r1]
   refine⟨(by unfold I64; omega),?_⟩
   have hz:(k+1==0)=false:=rfl
   simp only[aAQ,hg,Nat.add_sub_cancel,g2,e1,hz,Bool.true_and,Bool.false_or]
 · obtain rfl:j=0:=by omega
   simp only[aAQ,hg,e1]
   rfl
 · simp only[aAQ,hg,e1]; rfl
theorem yT(l:List bU):∀c∈l.map bU.c,c.all one=true:=fun c hc=>by
 obtain⟨s,_,rfl⟩:=List.mem_map.1 hc; rfl
theorem stop_c(s:uY)(wv:AV)(j:Int)(hw:Sl w0 h 2 wv (s.windows.map bU.c))(hn:s.windows.length<1000000):aQ Tryz.prog w0 137 [.int .i64 j,.agg (oE wv s)] h (.bool (rR s)) h:=by
 refine aF aH aIl aNC aNB (qE rfl) (by simp[AV.bdd,AV.bdds]) fun hb ha=>aM ?_
 have hlen:=hw.use.1
 simp only[List.length_map]at hlen
 have o1:=hw.one.1
 simp only[go_sem,mf137,hlen,o1]
 refine⟨fun e1=> ?_,fun e1=> ?_⟩
 · refine aC (mY _ _ _).v ?_
   simp only[go_sem]
   refine⟨fun e2=> ?_,fun e2=> ?_⟩
   · refine aC (aB3 (s.windows.map bU.c) wv (.fn (.func 139) [] [.ptr (.own h.length 0)]) (aAQ s.windows) hw.app (yT _) (by simpa using hn) (fun j c hc hall L=> ?_)).v ?_
     · have hj:j<s.windows.length:=by have:=aI hc; simpa using this
       have:c=s.windows[j].c:=by simpa[hj]using hc.symm
       subst this
       exact(win_c s wv j (ib:=h.length) (by simp[oE]) hw.app.app (by omega) hj hall).vc (first:=[]) (capt:=[.ptr (.own h.length 0)])
     · simp only[go_sem]
       simp only[List.length_map]
       simp[rR,e1,e2,vV]
       intro _; omega
   · simp[rR,e1,e2]
 · simp[rR]; omega
theorem leg_c(s:bU)(j:Int):aQ Tryz.prog w0 141 [.int .i64 j,.agg s.c] h (.bool (aFP s)) h:=by
 refine aF aH aIh aNu aNt (qE rfl) (by simp[AV.bdd,AV.bdds]) fun hb ha=>aM ?_
 simp only[go_sem,mf141]
 refine aC (aGT s 300).v ?_
 simp only[go_sem]
 rfl
theorem aGg(c:dS)(v:mR)(hR:kI w0 h c v):aQ Tryz.prog w0 76 [.agg (lO v)] h (.bool (kD c)) h:=by
 refine aF aH aLm mf76_b mf76_g (qE rfl) (by simp[AV.bdd,AV.bdds]) fun hb ha=>aM ?_
 have l1:=hR.stops.use.1
 have l2:=hR.legs.use.1
 rw[fX hR.toChainS]at l1
 simp only[List.length_map]at l2
 have o1:=hR.stops.one.1
 have o2:=hR.legs.one.1
 have hl:=hR.ls
 have hl2:=hR.ll
 simp only[go_sem,mf76,o1,o2]
 have a1:(List.range (fJ v.ws c.stops).length).all (fun j=>rR (c.stops.getD j ⟨[],0⟩))=c.stops.all rR:=by
  refine Bool.eq_iff_iff.2 ?_
  rw[bZ,fX hR.toChainS,List.all_eq_true]
  constructor
  · intro x s hs
    obtain⟨j,hj,rfl⟩:=List.getElem_of_mem hs
    have:=x j hj
    rwa [aJ hj]at this
  · intro x i hi
    rw[aJ hi]; exact x _ (qG hi)
 have a2:(List.range (c.legs.map bU.c).length).all (fun j=>aFP (c.legs.getD j ⟨0,0⟩))=c.legs.all aFP:=by
  refine Bool.eq_iff_iff.2 ?_
  rw[bZ,List.length_map,List.all_eq_true]
  constructor
  · intro x s hs
    obtain⟨j,hj,rfl⟩:=List.getElem_of_mem hs
    have:=x j hj
    rwa [aJ hj]at this
  · intro x i hi
    rw[aJ hi]; exact x _ (qG hi)
 refine aC (aJX (fJ v.ws c.stops) v.sv (.fn (.func 137) [] []) (fun j=>rR (c.stops.getD j ⟨[],0⟩)) hR.stops.app ?_ (by rw[fX hR.toChainS]; exact hl) (fun j r hc hall L=> ?_)).v ?_
 · intro r hr
   obtain⟨j,hj,rfl⟩:=List.getElem_of_mem hr
   rw[fX hR.toChainS]at hj
   obtain⟨x,hx⟩:∃x,v.ws[j]? = some x:=⟨_,qA (by rw[hR.wl]; exact hj)⟩
   have:=(hR.wins j x _ hx (qA hj)).one.1
   have hx':=(List.getElem?_eq_some_iff.1 hx).2
   simp only[fJ,List.getElem_zipWith,oE,List.all_cons,hx',this]; rfl
 · have hj:j<c.stops.length:=by have:=aI hc; rwa [fX hR.toChainS]at this
   obtain⟨x,hx⟩:∃x,v.ws[j]? = some x:=⟨_,qA (by rw[hR.wl]; exact hj)⟩
   have:r=oE x c.stops[j]:=by
    simp only[fJ,List.getElem?_zipWith,hx,qA hj,Option.some.injEq]at hc
    exact hc.symm
   subst this
   simp only[aJ hj]
   exact(stop_c c.stops[j] x j (hR.wins j x _ hx (qA hj)).app.app (hR.lw _ (qG hj))).v
 rw[a1]
 simp only[go_sem]
 refine aC (aB3 (c.legs.map bU.c) v.lv (.fn (.func 141) [] []) (fun j=>aFP (c.legs.getD j ⟨0,0⟩)) hR.legs.app (yT _) (by simpa using hl2) (fun j r hc hall L=> ?_)).v ?_
 · have hj:j<c.legs.length:=by have:=aI hc; simpa using this
   have:r=c.legs[j].c:=by simpa[hj]using hc.symm
   subst this
   simp only[aJ hj]
   exact(leg_c c.legs[j] j).v
 rw[a2]
 simp only[go_sem,l1,l2]
 refine aC (mY _ _ _).v ?_
 have w1:=cV (n:=(c.stops.length:Int) - 1) (by unfold I64; omega)
 simp only[go_sem,l1,l2,w1]
 refine⟨fun e1=>⟨fun e2=>⟨fun e3=> ?_,fun e3=> ?_⟩,fun e2=> ?_⟩,fun e1=> ?_⟩
 · simp only[kD,e1,e3,decide_eq_true e2,Bool.true_and]
 · simp only[kD,e1,e3,decide_eq_true e2,Bool.true_and,Bool.false_and]
 · simp only[kD,e1,decide_eq_false e2,Bool.true_and,Bool.false_and]
 · simp only[kD,e1,Bool.false_and]
theorem mD{c:dS}(h:kD c=true):2≤c.stops.length∧c.stops.length≤8∧c.legs.length+1=c.stops.length∧(∀s∈c.stops,s.windows.length≤10∧0≤s.turn∧s.turn≤300∧vV s.windows=true)∧∀s∈c.legs,0≤s.low∧s.low≤s.high∧s.high≤300:=by
 simp only[kD,inB,rR,aFP,yU,Bool.and_eq_true,decide_eq_true_eq,List.all_eq_true]at h
 obtain⟨h1,h2,h3,h4⟩:=h
 exact⟨by omega,by omega,by omega,fun s hs=>by have:=h3 s hs; exact⟨this.1,this.2.1.1,this.2.1.2,this.2.2⟩,fun s hs=>h4 s hs⟩
def nY{α:Type}(p:α→Bool)(l:List α):Int:=match l.findIdx? p with
 | some i=>i
 | none=> -1
theorem aI2{α:Type}{p:α→Bool}{l:List α}{j:Nat}(hj:j<l.length)(h1:∀i,i<j→∀hi:i<l.length,p l[i]=false)(h2:p l[j]=true):nY p l=j:=by
 have:l.findIdx? p=some j:=List.findIdx?_eq_some_iff_getElem.2 ⟨hj,h2,fun i hi=>by simp[h1 i hi (by omega)]⟩
 simp[nY,this]
theorem aC8{α:Type}{p:α→Bool}{l:List α}(h1:∀i (hi:i<l.length),p l[i]=false):nY p l= -1:=by
 have:l.findIdx? p=none:=List.findIdx?_eq_none_iff.2 fun x hx=>by
  obtain⟨i,hi,rfl⟩:=List.getElem_of_mem hx
  exact h1 i hi
 simp[nY,this]
def wV(row:Nat→Bool)(m:Int):Int:=nY (fun(t:Nat)=>decide (m≤(t:Int))&&row t) (List.range 1441)
theorem from_c(p:Pl)(row:Nat→Bool)(m:Int)(hp:p.bdd h.length)(hr:∀t,t<1441→rd w0 h (p.add t)=some (.bool (row t)))(hm:m<1000000):aQ Tryz.prog w0 173 [.ptr p,.int .i64 m] h (.int .i64 (wV row m)) h:=by
 refine aF aH aHP aMy aMx (qE rfl) (by simp[AV.bdd,AV.bdds]) fun hb ha=>aM ?_
 simp only[go_sem,mf173]
 obtain⟨s,es⟩:∃s:Nat,max 0 m=s:=⟨(max 0 m).toNat,by omega⟩
 rw[es]
 refine gE (S:=Nat) (F:=fun t=>[(0,.ptr p),(5,.int .i64 t)]) (H:=fun _=>h++[]) (meas:=fun t=>1441 - t) (Inv:=fun t=>s≤t∧∀u,s≤u→u<t→u<1441→row u=false) s ⟨Nat.le_refl _,fun u h1 h2 _=>by omega⟩ rfl (by simp) ?_
 rintro t ⟨h1,h2⟩ ih
 refine aD aH aKe [0,5] L173_0.eq_1 ?_
 by_cases ht:t<1441
 · have e1:(t:Int)<1441:=by omega
   have e2:∀L,rd w0 (h++L) (p.add t)=some (.bool (row t)):=fun L=>jB (hr t ht)
   simp only[go_sem,e1,e2,ht,Nat.mul_one]
   have nx:row t=false→s≤t+1∧∀u,s≤u→u<t+1→u<1441→row u=false:=fun e=>⟨by omega,fun u q1 q2 q3=>by
    rcases Nat.lt_or_ge u t with q | q
    · exact h2 u q1 q q3
    · obtain rfl:u=t:=by omega
      exact e⟩
   refine⟨fun e=> ?_,fun e=>⟨(by unfold I64; omega),by simpa using ih (t+1) (nx e) (by omega)⟩⟩
   have:wV row m=t:=aI2 (by simpa using ht) (fun i hi hi2=>by
    simp only[List.length_range]at hi2
    rw[List.getElem_range]
    by_cases hs:s≤i
    · rw[h2 i hs hi hi2]; simp
    · rw[decide_eq_false (by omega)]; rfl) (by rw[List.getElem_range,e,decide_eq_true (by omega)]; rfl)
   rw[this]
 · have e1:¬(t:Int)<1441:=by omega
   simp only[go_sem,e1]
   have:wV row m= -1:=aC8 fun i hi=>by
    simp only[List.length_range]at hi
    rw[List.getElem_range]
    by_cases hs:s≤i
    · rw[h2 i hs (by omega) hi]; simp
    · rw[decide_eq_false (by omega)]; rfl
   rw[this]
def iG(n:Nat)(g:Nat→Nat→Bool):List AV:=(List.range (n*1441)).map fun k=> .bool (g (k / 1441) (k % 1441))
theorem oD{n:Nat}{g:Nat→Nat→Bool}:(iG n g).length=n*1441:=by simp[iG]
theorem vY{n:Nat}{g:Nat→Nat→Bool}{i t:Nat}(hi:i<n)(ht:t<1441):(iG n g)[i*1441+t]? = some (.bool (g i t)):=by
 have hlt:i*1441+t<n*1441:=by
  have:(i+1)*1441≤n*1441:=Nat.mul_le_mul_right _ hi
  omega
 rw[iG,List.getElem?_map,List.getElem?_range hlt]
 have e1:(i*1441+t) / 1441=i:=by omega
 have e2:(i*1441+t) % 1441=t:=by omega
 simp only[Option.map_some,e1,e2]
def aCJ(g:Nat→Nat→Bool)(i t:Nat)(b:Bool):Nat→Nat→Bool:=fun i' t'=>if i'=i∧t'=t then b else g i' t'
theorem aGP{n:Nat}{g:Nat→Nat→Bool}{i t:Nat}{b:Bool}(hi:i<n)(ht:t<1441):cP (iG n g) (i*1441+t) [.bool b]=iG n (aCJ g i t b):=by
 have hlt:i*1441+t<n*1441:=by
  have:(i+1)*1441≤n*1441:=Nat.mul_le_mul_right _ hi
  omega
 have hs:cP (iG n g) (i*1441+t) [.bool b]=(iG n g).set (i*1441+t) (.bool b):=by
  rw[List.set_eq_take_append_cons_drop,if_pos (by rw[oD]; exact hlt)]
  simp[cP]
 rw[hs]
 refine List.ext_getElem? fun k=> ?_
 rw[List.getElem?_set]
 by_cases hk:i*1441+t=k
 · subst hk
   rw[if_pos rfl,if_pos (by rw[oD]; exact hlt),vY hi ht]
   simp[aCJ]
 · rw[if_neg hk]
   by_cases hkn:k<n*1441
   · simp only[iG,List.getElem?_map,List.getElem?_range hkn,Option.map_some,aCJ]
     rw[if_neg (by omega)]
   · simp only[iG,List.getElem?_map]
     rw[List.getElem?_eq_none (by simpa using hkn)]; rfl
theorem aFs{n:Nat}:fL (List.replicate 1441 (.bool false)) n=iG n fun _ _=>false:=by
 have h1:∀n,fL (List.replicate 1441 (AV.bool false)) n=List.replicate (n*1441) (.bool false):=fun n=>by
  induction n with
  | zero=>rfl
  | succ n ih=>rw[fL,ih,Nat.succ_mul,Nat.add_comm,List.replicate_append_replicate]
 rw[h1,iG]
 refine List.ext_getElem? fun k=> ?_
 by_cases hk:k<n*1441
 · rw[List.getElem?_map,List.getElem?_range hk,List.getElem?_replicate,if_pos hk]; rfl
 · rw[List.getElem?_eq_none (by simpa using hk),List.getElem?_eq_none (by simpa using hk)]
def tA(c:dS)(i:Nat)(row:Nat→Bool)(t:Int):Bool:=
 iD (c.stops.getD (i+1) ⟨[],0⟩).windows t&&(decide (i+1=c.legs.length)||decide (0≤wV row (t+(c.stops.getD (i+1) ⟨[],0⟩).turn)))
def lL(go:Int→Bool)(m:Int):Nat→Int→Int
 | 0,_=> -1
 | k+1,d=>if go (m+d)then lL go m k (d+1)else d
def legD(c:dS)(i:Nat):bU:=c.legs.getD i ⟨0,0⟩
def jZ(c:dS)(i:Nat)(row:Nat→Bool)(m:Int):Int:=lL (tA c i row) m ((legD c i).high - (legD c i).low+1).toNat (legD c i).low
theorem goes_c(c:dS)(v:mR)(i ic ik is n ib:Nat)(g:Nat→Nat→Bool)(t:Int)(hR:kI w0 h c v)(hB:kD c=true)(hi:i<c.legs.length)(hn:n=c.legs.length)(h1:h[ic]? = some (some (.row (lO v))))(h2:h[is]? = some (some (.row [.int .i64 i])))
 (h3:h[ik]? = some (some (.row [.sl (.own ib 0) n 1441 true]))) (h4:h[ib]? = some (some (.row (iG n g)))) (ht: -10000≤t∧t<10000):aQ Tryz.prog w0 172 [.int .i64 t,.ptr (.own ic 0),.ptr (.own is 0),.ptr (.own ik 0)] h (.bool (tA c i (g (i+1)) t)) h:=by
 refine aF aH aHQ aMA aMz (qE rfl) (by simp[AV.bdd,AV.bdds]) fun hb ha=>aM ?_
 have b1:=xL h1
 have b2:=xL h2
 have b3:=xL h3
 have bs:=mD hB
 have hi1:i+1<c.stops.length:=by omega
 obtain⟨p,x,p1,p2,p3⟩:=hR.stop hi1
 obtain⟨s,es⟩:∃s,c.stops[i+1]=s:=⟨_,rfl⟩
 have gs:c.stops.getD (i+1) ⟨[],0⟩=s:=by rw[aJ hi1,es]
 have hs:=bs.2.2.2.1 s (es▸qG hi1)
 rw[es]at p2 p3
 have d1:cI (.int .i64 ((i:Int)+1))=some (i+1):=by rw[show(i:Int)+1=((i+1:Nat):Int)by omega]; exact pS
 have l2:=hR.legs.use.1
 simp only[List.length_map]at l2
 have hll:=hR.ll
 have ibl:=aI h4
 have o1:=p3.one.1
 simp only[go_sem,mf172,b1,b2,d1,p1,p2,o1]
 refine⟨(by unfold I64; omega),?_⟩
 refine aC (aHp s x t p3.app (by omega)).v ?_
 simp only[go_sem,b1,b2,b3,l2]
 have hd:(decide (i+1=c.legs.length))=decide ((i:Int)+1=c.legs.length):=by
  refine Bool.eq_iff_iff.2 ?_
  rw[decide_eq_true_eq,decide_eq_true_eq]; omega
 refine⟨fun e1=>⟨(by unfold I64; omega),fun e2=>⟨(by unfold I64; omega),?_⟩,fun e2=> ?_⟩,fun e1=> ?_⟩
 · have hin:i+1<n:=by omega
   have i1:cN 1441 (.sl (.own ib 0) n 1441 true) (some (i+1))=some (.ptr (.own ib ((i+1)*1441))):=by simp[cN,fG,hin,Pl.add]
   have d2:(if 0≤(i:Int)+1 then some ((i:Int)+1).toNat else none)=some (i+1):=by rw[if_pos (by omega)]; congr 1
   simp only[go_sem,d2,i1]
   have ibl':=aI h4
   refine⟨(by unfold I64; omega),?_⟩
   refine aC (from_c (.own ib ((i+1)*1441)) (g (i+1)) (t+s.turn) (by simp[Pl.bdd]; omega) (fun u hu=> ?_) (by omega)).v ?_
   · simp only[Pl.add,rd]
     rw[aA h4]
     simp only[Nat.zero_add]
     exact vY hin hu
   · simp only[go_sem]
     simp only[tA,gs,e1,hd,decide_eq_false e2,Bool.true_and,Bool.false_or]
 · simp only[tA,gs,e1,hd,decide_eq_true e2,Bool.true_and,Bool.true_or]
 · simp only[tA,gs,e1,Bool.false_and]
theorem aOJ(c:dS)(v:mR)(i n ib:Nat)(g:Nat→Nat→Bool)(m:Int)(hR:kI w0 h c v)(hB:kD c=true)(hi:i<c.legs.length)(hn:n=c.legs.length)(h4:h[ib]? = some (some (.row (iG n g))))(hm:0≤m∧m≤1440) :
 aQ Tryz.prog w0 143 [.agg (lO v),.sl (.own ib 0) n 1441 true,.int .i64 i,.int .i64 m] h (.int .i64 (jZ c i (g (i+1)) m)) h:=by
 refine aF aH aIf aNq aNp (qE rfl) (by simp[AV.bdd,AV.bdds]) fun hb ha=>aM ?_
 have bs:=mD hB
 obtain⟨p,p1,p2⟩:=hR.leg hi
 obtain⟨s,es⟩:∃s,c.legs[i]=s:=⟨_,rfl⟩
 have gs:legD c i=s:=by rw[legD,aJ hi,es]
 have hs:=bs.2.2.2.2 s (es▸qG hi)
 rw[es]at p2
 have o1:=hR.stops.one.1
 have o2:=hR.legs.one.1
 have l1:∀L,rd w0 (h++L) (p.add 0)=some (.int .i64 s.low):=fun L=>dG (p2 L) rfl
 have l2:∀L,rd w0 (h++L) (p.add 1)=some (.int .i64 s.high):=fun L=>dG (p2 L) rfl
 have ibl:=aI h4
 simp only[go_sem,mf143,o1,o2,p1,l1]
 obtain⟨go,ego⟩:∃go,go=tA c i (g (i+1)):=⟨_,rfl⟩
 have hF:jZ c i (g (i+1)) m=lL go m (s.high - s.low+1).toNat s.low:=by rw[jZ,gs,ego]
 rw[hF]
 refine gE (S:=Int) (F:=fun d=>[(3,.int .i64 m),(4,.ptr (.own h.length 0)),(6,.ptr (.own (h.length+2) 0)),(9,.fn (.func 172) [] [.ptr (.own h.length 0),.ptr (.own (h.length+2) 0),.ptr (.own (h.length+1) 0)]),(10,.int .i64 d)])
  (H:=fun _=>h++[some (.row [v.sv,v.lv]),some (.row [.sl (.own ib 0) n 1441 true]),some (.row [.int .i64 i])]) (meas:=fun d=>(s.high - d+1).toNat)
  (Inv:=fun d=>s.low≤d∧lL go m (s.high - d+1).toNat d=lL go m (s.high - s.low+1).toNat s.low) s.low ⟨Int.le_refl _,rfl⟩ rfl rfl ?_
 rintro d ⟨h1,h2⟩ ih
 refine aD aH aKh [3,4,6,9,10] L143_0.eq_1 ?_
 simp only[go_sem,p1,l2]
 refine⟨fun e=> ?_,fun e=> ?_⟩
 · obtain⟨k,ek⟩:∃k,(s.high - d+1).toNat=k+1:=⟨(s.high - d+1).toNat - 1,by omega⟩
   have ek2:(s.high - (d+1)+1).toNat=k:=by omega
   refine⟨(by unfold I64; omega),?_⟩
   have hg:=goes_c (w0:=w0) (h:=h++[some (.row [v.sv,v.lv]),some (.row [.sl (.own ib 0) n 1441 true]),some (.row [.int .i64 i])]) c v i h.length (h.length+1) (h.length+2) n ib g (m+d) hR.app hB hi hn (by simp[lO]) (by simp) (by simp) (aA h4) (by omega)
   rw[←ego]at hg
   refine aC (hg.vc (first:=[]) (capt:=[.ptr (.own h.length 0),.ptr (.own (h.length+2) 0),.ptr (.own (h.length+1) 0)])) ?_
   simp only[go_sem]
   refine⟨fun e2=> ?_,fun e2=> ?_⟩
   · rw[←h2,ek,lL,e2]; rfl
   · refine⟨(by unfold I64; omega),ih (d+1) ⟨by omega,?_⟩ (by omega)⟩
     rw[ek2,←h2,ek,lL,if_pos e2]
 · have ek:(s.high - d+1).toNat=0:=by omega
   rw[←h2,ek]; rfl
def aDL(c:dS)(i:Nat):uY:=c.stops.getD i ⟨[],0⟩
def gdr(c:dS):Nat→Nat→Bool
 | 0,_=>false
 | k+1,t=>iD (aDL c (c.legs.length - (k+1))).windows t&&decide (jZ c (c.legs.length - (k+1)) (gdr c k) t<0)
def dX(c:dS)(i t:Nat):Bool:=gdr c (c.legs.length - i) t
theorem aBz{r r':Nat→Bool}{m:Int}(h:∀t,t<1441→r t=r' t):wV r m=wV r' m:=by
 unfold wV nY
 have:(List.range 1441).findIdx? (fun(t:Nat)=>decide (m≤(t:Int))&&r t)=(List.range 1441).findIdx? (fun(t:Nat)=>decide (m≤(t:Int))&&r' t):=by
  have key:∀l:List Nat,(∀t∈l,t<1441)→l.findIdx? (fun(t:Nat)=>decide (m≤(t:Int))&&r t)=l.findIdx? (fun(t:Nat)=>decide (m≤(t:Int))&&r' t):=fun l=>by
   induction l with
   | nil=>intro _; rfl
   | cons a l ih=>
    intro hl
    rw[List.findIdx?_cons,List.findIdx?_cons,h a (hl a List.mem_cons_self),ih fun t ht=>hl t (List.mem_cons_of_mem _ ht)]
  exact key _ fun t ht=>List.mem_range.1 ht
 rw[this]
theorem aAx{c:dS}{i:Nat}{r r':Nat→Bool}{m:Int}(h:i+1<c.legs.length→∀t,t<1441→r t=r' t)(hi:i<c.legs.length):jZ c i r m=jZ c i r' m:=by
 have:tA c i r=tA c i r':=by
  funext t
  unfold tA
  by_cases e:i+1=c.legs.length
  · simp[e]
  · rw[aBz (h (by omega))]
 rw[jZ,jZ,this]
theorem aCM{n:Nat}{g g':Nat→Nat→Bool}(h:∀i t,i<n→t<1441→g i t=g' i t):iG n g=iG n g':=by
 unfold iG
 refine List.map_congr_left fun k hk=> ?_
 rw[List.mem_range]at hk
 rw[h _ _ (Nat.div_lt_of_lt_mul (by omega)) (Nat.mod_lt _ (by omega))]
theorem aI5{c:dS}{i t:Nat}(hi:i<c.legs.length):dX c i t=(iD (aDL c i).windows t&&decide (jZ c i (dX c (i+1)) t<0)):=by
 obtain⟨k,hk⟩:∃k,c.legs.length - i=k+1:=⟨c.legs.length - i - 1,by omega⟩
 have e1:c.legs.length - (k+1)=i:=by omega
 have e2:gdr c k=dX c (i+1):=by funext u; rw[dX,show c.legs.length - (i+1)=k by omega]
 rw[dX,hk,gdr,e1,e2]
theorem aFr{n:Nat}{g:Nat→Nat→Bool}{i t:Nat}{b:Bool}(hi:i<n)(ht:t<1441):(iG n g).take (i*1441+t) ++ .bool b::(iG n g).drop (i*1441+(t+1))=iG n (aCJ g i t b):=by
 rw[←aGP hi ht]; simp[cP,Nat.add_assoc]
def GoodK(w0:World)(h:Heap)(c:dS)(y:AV)(h':Heap):Prop:=aB h h'∧∃ib,y= .sl (.own ib 0) c.legs.length 1441 true∧h'[ib]? = some (some (.row (iG c.legs.length (dX c))))
set_option maxHeartbeats 1000000 in
theorem good_c(c:dS)(v:mR)(hR:kI w0 h c v)(hB:kD c=true):ACall Tryz.prog w0 77 [.agg (lO v)] h (GoodK w0 h c):=by
 refine aR aH aLl mf77_b mf77_g (qE rfl) fun hb ha=>aM ?_
 have bs:=mD hB
 have o1:=hR.stops.one.1
 have o2:=hR.legs.one.1
 have l2:=hR.legs.use.1
 simp only[List.length_map]at l2
 obtain⟨n,en⟩:∃n,c.legs.length=n:=⟨_,rfl⟩
 rw[en]at l2
 have hb1:n≤n∧n*1442≤1099511627776:=⟨Nat.le_refl _,by omega⟩
 have hn8:n≤8:=by omega
 simp (disch:=(unfold I64; omega)) only[go_sem,cV,mf77,o1,o2,l2,hb1,aFs,beq_self_eq_true]
 refine gE (S:=Nat×(Nat→Nat→Bool)) (F:=fun s=>[(1,.ptr (.own h.length 0)),(3,.sl (.own (h.length+1) 0) n 1441 true),(4,.int .i64 ((n:Int) - 1 - s.1))])
  (H:=fun s=>h++[some (.row [v.sv,v.lv]),some (.row (iG n s.2))]) (meas:=fun s=>n - s.1)
  (Inv:=fun s=>s.1≤n∧∀i,i<n→n - s.1≤i→∀t,t<1441→s.2 i t=dX c i t) (0,fun _ _=>false) ⟨Nat.zero_le _,fun i h1 h2=>by simp only at h2; omega⟩ (by simp) rfl ?_
 rintro⟨k,g⟩ ⟨hk,hg⟩ ih
 simp only at hk hg ih
 refine aD aH aO2 [1,3,4] L77_1.eq_1 ?_
 by_cases hkn:k<n
 · obtain⟨i,ei⟩:∃i:Nat,(n:Int) - 1 - k=i:=⟨n - 1 - k,by omega⟩
   have e1:(0:Int)≤(i:Int):=by omega
   simp only[ei]
   simp only[go_sem,e1]
   have hin:i<n:=by omega
   refine gE (S:=Nat×(Nat→Nat→Bool)) (F:=fun s=>[(1,.ptr (.own h.length 0)),(3,.sl (.own (h.length+1) 0) n 1441 true),(4,.int .i64 i),(18,.int .i64 s.1)])
    (H:=fun s=>h++[some (.row [v.sv,v.lv]),some (.row (iG n s.2))]) (meas:=fun s=>1441 - s.1)
    (Inv:=fun s=>s.1≤1441∧(∀j,j<n→i<j→∀t,t<1441→s.2 j t=dX c j t)∧∀t,t<s.1→s.2 i t=dX c i t) (0,g) ⟨Nat.zero_le _,fun j h1 h2=>hg j h1 (by omega),fun t ht=>absurd ht (by simp)⟩ rfl rfl ?_
   rintro⟨t,f⟩ ⟨ht,hf1,hf2⟩ ih2
   simp only at ht hf1 hf2 ih2
   refine aD aH aO3 [1,3,4,18] L77_0.eq_1 ?_
   by_cases htn:t<1441
   · have e2:(t:Int)<1441:=by omega
     obtain⟨p,x,p1,p2,p3⟩:=hR.stop (j:=i) (by omega)
     obtain⟨s,es⟩:∃s,c.stops[i]'(by omega)=s:=⟨_,rfl⟩
     rw[es]at p2 p3
     have gs:aDL c i=s:=by rw[aDL,aJ (by omega),es]
     have hs:=bs.2.2.2.1 s (es▸qG (by omega))
     have o3:=p3.one.1
     have i1:cN 1441 (.sl (.own (h.length+1) 0) n 1441 true) (some i)=some (.ptr (.own (h.length+1) (i*1441))):=by simp[cN,fG,hin,Pl.add]
     have hlt:i*1441+t+1≤n*1441:=by
      have:(i+1)*1441≤n*1441:=Nat.mul_le_mul_right _ hin
      omega
     have hlt':i*1441+(t+1)≤n*1441:=by rw[←Nat.add_assoc]; exact hlt
     have hI:I64 ((t:Int)+1):=(by unfold I64; omega)
     simp only[go_sem,e2]
     refine iB aH [0,1,2,3,4,5,6,7,8,18,9,10,11,12,13,14,15,16,17,19,20] [o_ 21 (m_ 3),o_ 22 (m_ 4),o_ 23 (m_ 5),o_ 24 (.addr (.t 1) 0),o_ 25 (l_ 24),o_ 26 (m_ 4),o_ 27 (.idxs 2 (.t 25) (.t 26)),o_ 28 (.load (.t 27) (some 2)),o_ 29 (m_ 5),o_ 39 (.idxs 1441 (.t 21) (.t 22)),.call (some 30) none (f_ 142) [(.t 28),(.t 29)],o_ 31 (m_ 30),q_ 32 31 true (.load (.t 1) (some 2)),q_ 33 31 true (m_ 3),q_ 34 31 true (m_ 4),q_ 35 31 true (m_ 5),.call (some 36) (some (31,true)) (f_ 143) [(.t 32),(.t 33),(.t 34),(.t 35)],q_ 37 31 true (.bin .lss (.t 36) (i_ 0)),o_ 38 (.pick (.t 31) (.t 37) (.k (.bool false))),o_ 40 (.idxa 1441 1 (.t 39) (.t 23)),.op none none (.store (.t 40) (.t 38) 1)] [] rfl rfl (by kernel_rfl) ?_
     simp only[go_sem,e2,p1,p2,hin]
     refine aC (aHp s x t p3.app (by omega)).v ?_
     simp only[go_sem,i1,htn,Nat.mul_one,oD,hlt]
     have fc:=aOJ (w0:=w0) (h:=h++[some (.row [v.sv,v.lv]),some (.row (iG n f))]) c v i n (h.length+1) f t hR.app hB (by omega) en.symm (by simp) (by omega)
     have hfd:jZ c i (f (i+1)) t=jZ c i (dX c (i+1)) t:=aAx (fun h1 u hu=>hf1 (i+1) (by omega) (by omega) u hu) (by omega)
     rw[hfd]at fc
     have hgt:dX c i t=(iD s.windows t&&decide (jZ c i (dX c (i+1)) t<0)):=by rw[aI5 (by omega),gs]
     have next:∀b,dX c i t=b→lp Tryz.prog w0 none 43 (List.length h) (resK w0 [RV.t 2] (GoodK w0 h c)) L77_0 _ [(1,.ptr (.own h.length 0)),(3,.sl (.own (h.length+1) 0) n 1441 true),(4,.int .i64 i),(18,.int .i64 ((t:Int)+1))]
      (h++[some (.row [v.sv,v.lv]),some (.row ((iG n f).take (i*1441+t) ++ .bool b::(iG n f).drop (i*1441+(t+1))))]):=fun b hbb=>by
      have:=ih2 (t+1,aCJ f i t b) ⟨by simp only; omega,fun j h1 h2 u hu=>by simp only[aCJ]; rw[if_neg (by omega)]; exact hf1 j h1 h2 u hu,fun u hu=>by
       simp only[aCJ]
       by_cases e:u=t
       · subst e; rw[if_pos (by simp),hbb]
       · rw[if_neg (by omega)]; exact hf2 u (by simp only at hu; omega)⟩ (by simp only; omega)
      rw[aFr hin htn]
      simpa using this
     refine⟨fun c1=> ?_,fun c1=> ?_⟩
     · refine aC fc.v ?_
       simp only[go_sem,i1,htn,Nat.mul_one,oD,hlt]
       exact⟨hlt',hI,next _ (by rw[hgt,c1]; rfl)⟩
     · exact⟨hlt',hI,next _ (by rw[hgt,c1]; rfl)⟩
   · have e2:¬(t:Int)<1441:=by omega
     simp (disch:=(unfold I64; omega)) only[go_sem,cV,e2]
     have:=ih (k+1,f) ⟨by simp only; omega,fun j h1 h2 u hu=>by
      rcases Nat.lt_or_ge i j with q | q
      · exact hf1 j h1 q u hu
      · obtain rfl:j=i:=by simp only at h2; omega
        exact hf2 u (by omega)⟩ (by simp only; omega)
     rw[show(n:Int) - 1 - ((k+1:Nat):Int)=(i:Int) - 1 by omega]at this
     exact this
 · have e1:¬(0:Int)≤(n:Int) - 1 - k:=by omega
   simp only[go_sem,e1]
   refine⟨aB.refl.app,h.length+1,by rw[en],?_⟩
   have:iG n g=iG c.legs.length (dX c):=by rw[en]; exact aCM fun i t hi ht=>hg i hi (by omega) t ht
   rw[←this]; simp
def vD(out:List bU)(t:Nat):List bU:=match out.getLast? with
 | some s=>if s.high=(t:Int) - 1 then out.dropLast++[⟨s.low,t⟩]else out++[⟨t,t⟩]
 | none=>[⟨t,t⟩]
def spL(t:Nat)(out:List bU):List Bool→List bU
 | []=>out
 | b::l=>spL (t+1) (if b then vD out t else out) l
def mK(l:List Bool):List bU:=spL 0 [] l
def gP(l:List bU):List AV:=(l.map bU.c).flatten
theorem uB{l:List bU}{s:bU}:gP (l++[s])=gP l++s.c:=by simp[gP]
theorem pP{l:List bU}:(gP l).length=l.length*2:=by
 induction l with
 | nil=>rfl
 | cons a l ih=>simp only[gP,List.map_cons,List.flatten_cons,List.length_append,List.length_cons]at ih ⊢; rw[ih]; simp[bU.c]; omega
theorem wC{t:Nat}:∀ {l:List Bool} {out:List bU} {b:Bool},spL t out (l++[b])=if b then vD (spL t out l) (t+l.length)else spL t out l
 | [],out,b=>by simp[spL]
 | c::l,out,b=>by
  simp only[List.cons_append,spL,List.length_cons]
  rw[wC,Nat.add_assoc,Nat.add_comm 1]
theorem aKG(l:List Bool)(v:AV)(hv:Sl w0 h 1 v (l.map fun x=>[.bool x]))(hn:l.length<1000000):ACall Tryz.prog w0 78 [v] h fun y h'=>Gro h h' 2 (mK l).length y (gP (mK l)):=by
 refine aR aH aLk mf78_b mf78_g (qE rfl) fun hb ha=>aM ?_
 obtain⟨hlen,q,hix,hrow,_⟩:=hv.use
 simp only[List.length_map]at hlen hix
 simp only[go_sem,mf78,hlen]
 rw[List.append_nil]
 refine gE (S:=Nat×Heap×AV×List bU) (F:=fun s=>[(3,s.2.2.1),(6,v),(7,.int .i64 l.length),(8,.int .i64 s.1)]) (H:=fun s=>s.2.1) (meas:=fun s=>l.length - s.1)
  (Inv:=fun s=>s.1≤l.length∧s.2.2.2=spL 0 [] (l.take s.1)∧s.2.2.2.length≤s.1∧Gro h s.2.1 2 s.2.2.2.length s.2.2.1 (gP s.2.2.2)) (0,h,.nilS,[]) ⟨Nat.zero_le _,rfl,by simp,Gro.nil aB.refl⟩ rfl rfl ?_
 rintro⟨t,H,ov,out⟩ ⟨ht,ho,hol,g⟩ ih
 simp only at ht ho hol g ih
 refine aD aH aO1 [3,6,7,8] L78_0.eq_1 ?_
 by_cases htn:t<l.length
 · have e1:=hix t htn
   have e3:(t:Int)<l.length:=by omega
   have e2:∀L,rd w0 (H++L) (q.add t)=some (.bool l[t]):=fun L=>by
    have:=(g.sub.app (L:=L)).rdn (w0:=w0) (hrow t [.bool l[t]] (by simp[htn]))
    rw[Nat.mul_one]at this
    exact aFG this rfl
   have e2':=e2 []
   rw[List.append_nil]at e2'
   rw[Nat.mul_one]at e1
   have hnext:spL 0 [] (l.take (t+1))=if l[t]then vD out t else out:=by
    rw[List.take_add_one,qA htn,Option.toList,wC,←ho,List.length_take,Nat.zero_add,Nat.min_eq_left (by omega)]
   simp only[go_sem,e1,e2,e2',e3]
   have hll:dF ov=some (.int .i64 out.length):=by
    rcases g.own with⟨h1,h2,h3⟩ | ⟨io,h1,h2,h3,_⟩
    · rw[h2,h1]; rfl
    · rw[h3]; rfl
   have happ:l[t]=true→(∀s init,out=init++[s]→s.high≠(t:Int) - 1)→∀G,fA w0 (H++[some (.row [.int .i64 (t:Int),.int .i64 (t:Int)])]) 2 16 ov (.sl (.own H.length 0) 1 2 true)=some (.sl (.own (H.length+1) 0) (out.length+1) 2 false,G)→Gro h G 2 (out.length+1) (.sl (.own (H.length+1) 0) (out.length+1) 2 false) (gP out++[.int .i64 (t:Int),.int .i64 (t:Int)]) →
    lp Tryz.prog w0 none 47 (List.length h) (resK w0 [RV.t 2] fun y h'=>Gro h h' 2 (mK l).length y (gP (mK l))) L78_0 _ [(3,.sl (.own (H.length+1) 0) (out.length+1) 2 false),(6,v),(7,.int .i64 l.length),(8,.int .i64 ((t:Int)+1))] G:=fun e hne G _ gG=>by
    have hadd:vD out t=out++[⟨t,t⟩]:=by
     unfold vD
     split
     · rename_i s hs
       obtain⟨init,rfl⟩:∃init,out=init++[s]:=by
        have hne':out≠[]:=by rintro rfl; simp at hs
        refine⟨out.dropLast,?_⟩
        rw[List.getLast?_eq_some_getLast hne']at hs
        cases hs; exact(List.dropLast_concat_getLast hne').symm
       rw[if_neg (hne s init rfl)]
     · rename_i hs
       rw[List.getLast?_eq_none_iff.1 hs]; rfl
    have:=ih (t+1,G,_,out++[⟨t,t⟩]) ⟨by simp only; omega,by simp only; rw[hnext,if_pos e,hadd],by simp; omega,by
     simp only[List.length_append,List.length_cons,List.length_nil,uB]; exact gG⟩ (by simp only; omega)
    simpa using this
   refine⟨fun e=> ?_,fun e=> ?_⟩
   · have:=ih (t+1,H,ov,out) ⟨by simp only; omega,by simp only; rw[hnext,e]; rfl,by simp only; omega,g⟩ (by simp only; omega)
     exact⟨(by unfold I64; omega),by simpa using this⟩
   · obtain⟨G,eG,gG⟩:=(g.app (L:=[some (.row [.int .i64 (t:Int),.int .i64 (t:Int)])])).more (w0:=w0) (b:=16) (k:=H.length) (x:=[.int .i64 (t:Int),.int .i64 (t:Int)]) (f:=true) (by simp) rfl rfl (by omega) (by omega)
     rw[List.length_append,List.length_singleton]at eG gG
     rcases List.eq_nil_or_concat out with rfl | ⟨init,s,rfl⟩
     · have hll0:dF ov=some (.int .i64 0):=by simpa using hll
       have h1:=happ e (fun s init h=>by simp at h) G eG gG
       simp only[List.length_nil,Nat.zero_add]at eG h1
       simp only[go_sem,hll0,eG]
       exact⟨(by unfold I64; omega),h1⟩
     · rw[List.concat_eq_append]at *
       have hno:(init++[s]).length≠0:=by simp
       obtain⟨io,io1,io2,io3,_,io5⟩:=g.put hno
       obtain⟨N,eN⟩:∃N,init.length=N:=⟨_,rfl⟩
       have hln:(init++[s]).length=N+1:=by simp[eN]
       have hflat:gP (init++[s])=gP init++[.int .i64 s.low,.int .i64 s.high]:=uB
       have hfl:(gP init).length=N*2:=by rw[pP,eN]
       have h1:=fun hne:s.high≠(t:Int) - 1=>happ e (fun s' init' h=>by
        have:=List.append_inj_right' h rfl
        simp only[List.cons.injEq,and_true]at this
        subst this; exact hne) G eG gG
       have hlen2:(gP (init++[s])).length=N*2+1+1:=by rw[pP,hln]; omega
       have hrow':(gP (init++[s])).take (N*2+1) ++ .int .i64 (t:Int)::(gP (init++[s])).drop (N*2+(1+1))=gP (init++[⟨s.low,t⟩]):=by
        rw[hflat,uB,List.take_append,List.take_of_length_le (by omega),hfl,show N*2+1 - N*2=1 by omega,List.drop_eq_nil_of_le (by simp[hfl])]
        simp[bU.c]
       have hadd:s.high=(t:Int) - 1→vD (init++[s]) t=init++[⟨s.low,t⟩]:=fun e2=>by
        simp[vD,e2]
       have h2:=fun e2:s.high=(t:Int) - 1=>ih (t+1,H.set io (some (.row (gP (init++[⟨s.low,t⟩])))),ov,init++[⟨s.low,t⟩]) ⟨by simp only; omega,by simp only; rw[hnext,if_pos e,hadd e2],by simp only[List.length_append,List.length_singleton]at hol ⊢; omega,by
        have:=io5 (gP (init++[⟨s.low,t⟩])) (by rw[pP,pP]; simp)
        simpa using this⟩ (by simp only; omega)
       have hll1:dF ov=some (.int .i64 ((N:Int)+1)):=by rw[hll,hln]; rfl
       have q1:(0:Int)<(N:Int)+1:=by omega
       have hI:I64 ((N:Int)+1 - 1):=(by unfold I64; omega)
       have q2:cI (.int .i64 (N:Int))=some N:=pS
       have q6:wi ((N:Int)+1 - 1)=(N:Int):=by rw[cV (by unfold I64; omega)]; omega
       have q7:=cV (n:=(t:Int) - 1) (by unfold I64; omega)
       have q3:cN 2 ov (some N)=some (.ptr (.own io (N*2))):=by rw[io2,hln]; simp[cN,fG,Pl.add]
       have q4:(gP (init++[s]))[N*2+1]? = some (.int .i64 s.high):=by
        rw[hflat,qI (by omega),hfl,show N*2+1 - N*2=1 by omega]; rfl
       have q5:∀L,rd w0 (H++L) (.own io (N*2+1))=some (.int .i64 s.high):=fun L=>by
        simp only[rd]; rw[aA io3]; exact q4
       have q5':=q5 []
       rw[List.append_nil]at q5'
       rw[hln]at eG h1
       simp only[go_sem,hll1,q1,q2,q3,q5,q5',hI,q6,q7]
       refine⟨fun e2=> ?_,fun e2=> ?_⟩
       · have hle:N*2+(1+1)≤(gP (init++[s])).length:=by omega
         simp only[go_sem,io3,hlen2]
         rw[hrow']
         exact⟨Nat.le_refl _,(by unfold I64; omega),by simpa using h2 e2⟩
       · simp only[go_sem,eG]
         exact⟨(by unfold I64; omega),h1 e2⟩
 · have e3:¬(t:Int)<l.length:=by omega
   obtain rfl:t=l.length:=by omega
   simp only[go_sem,e3]
   rw[List.take_length]at ho
   rw[ho]at g
   exact g
def SpR(w0:World)(h:Heap)(l:List bU)(c:List AV):Prop:=∃x,c=[x]∧Sl w0 h 2 x (l.map bU.c)
def LS(w0:World)(h:Heap)(v:AV)(t:List (List bU)):Prop:=NS w0 h 1 (SpR w0 h) v t
theorem SpR.sub{H:Heap}{l:List bU}{c:List AV}(s:SpR w0 h l c)(t:aB h H):SpR w0 H l c:=by
 obtain⟨x,h1,h2⟩:=s; exact⟨x,h1,h2.sub t⟩
theorem LS.sub{H:Heap}{v:AV}{t:List (List bU)}(s:LS w0 h v t)(u:aB h H):LS w0 H v t:=NS.mono s u fun _ _ r=>r.sub u
theorem LS.at_{v:AV}{t:List (List bU)}(s:LS w0 h v t){j:Nat}(hj:j<t.length):∃(p:Pl) (x:AV),cN 1 v (some j)=some (.ptr p)∧(∀L,rd w0 (h++L) p=some x)∧Sl w0 h 2 x (t[j].map bU.c):=by
 obtain⟨p,c,p1,p2,x,rfl,p3⟩:=NS.at_ s hj
 exact⟨p,x,p1,fun L=>aFG (p2 L) rfl,p3⟩
def nZ(r:Nat→Bool):List Bool:=(List.range 1441).map r
def qV(r:Nat→Bool):List AV:=(List.range 1441).map fun t=> .bool (r t)
theorem aA8{r:Nat→Bool}:(qV r).length=1441:=by simp[qV]
theorem aHd{r:Nat→Bool}:(qV r).all one=true:=by
 rw[List.all_eq_true]; intro x hx
 simp only[qV,List.mem_map]at hx
 obtain⟨_,_,rfl⟩:=hx; rfl
theorem aFE{r:Nat→Bool}:qV r=((nZ r).map fun x=>[AV.bool x]).flatten:=by
 simp only[qV,nZ,List.map_map]
 generalize List.range 1441=l
 induction l with
 | nil=>rfl
 | cons a l ih=>simp only[List.map_cons,List.flatten_cons,ih]; rfl
theorem aKF{ib n i:Nat}{g:Nat→Nat→Bool}(h4:h[ib]? = some (some (.row (iG n g))))(hi:i<n):rdn w0 h (.own ib (i*1441)) 1441=some (qV (g i)):=by
 have hle:i*1441+1441≤n*1441:=by
  have:(i+1)*1441≤n*1441:=Nat.mul_le_mul_right _ hi
  omega
 simp only[rdn,h4,oD,hle,if_true,Option.some.injEq]
 refine List.ext_getElem? fun t=> ?_
 by_cases ht:t<1441
 · rw[List.getElem?_take_of_lt ht,List.getElem?_drop,vY hi ht,qV,List.getElem?_map,List.getElem?_range ht]; rfl
 · rw[List.getElem?_eq_none (by rw[List.length_take]; omega),List.getElem?_eq_none (by rw[aA8]; omega)]
def fQ(c:dS):List (List bU):=(List.range c.legs.length).map fun i=>mK (nZ (dX c i))
theorem oT(c:dS):(fQ c).length=c.legs.length:=by simp[fQ]
theorem aBN{c:dS}{i:Nat}(hi:i<(fQ c).length):(fQ c)[i]=mK (nZ (dX c i)):=by simp[fQ]
def DepK(w0:World)(h:Heap)(c:dS)(y:AV)(h':Heap):Prop:=aB h h'∧if kD c then ∃x,y= .tup [x,.int .i64 0]∧LS w0 h' x (fQ c)else y= .tup [.nilS,.int .i64 2]
theorem aKs(c:dS)(v:mR)(hR:kI w0 h c v):ACall Tryz.prog w0 33 [.agg (lO v)] h (DepK w0 h c):=by
 refine aR aH aLU mf33_b mf33_g (qE rfl) fun hb ha=>aM ?_
 have o1:=hR.stops.one.1
 have o2:=hR.legs.one.1
 simp only[go_sem,mf33,o1,o2]
 refine aC (aGg c v hR.app).v ?_
 simp only[go_sem]
 refine⟨fun e1=>⟨aB.refl.app,by rw[e1]; rfl⟩,fun e1=> ?_⟩
 have bs:=mD e1
 refine aP (ACall.vc (first:=[]) (args:=[.agg (lO v)]) (good_c c v hR.app e1)) ?_
 rintro y H1 ⟨hs1,ib,rfl,hib⟩
 obtain⟨n,en⟩:∃n,c.legs.length=n:=⟨_,rfl⟩
 rw[en]at hib ⊢
 simp only[go_sem]
 refine gE (S:=Nat×Heap×Nat×AV) (F:=fun s=>[(4,s.2.2.2),(11,.sl (.own ib 0) n 1441 true),(12,.int .i64 n),(13,.int .i64 s.1)]) (H:=fun s=>s.2.1) (meas:=fun s=>n - s.1)
  (Inv:=fun s=>s.1≤n∧GN w0 H1 (SpR w0) s.2.1 1 s.2.2.1 s.2.2.2 ((fQ c).take s.1)) (0,H1,0,.nilS) ⟨Nat.zero_le _,GN.nil aB.refl⟩ rfl rfl ?_
 rintro⟨j,G,io,ov⟩ ⟨hj,g⟩ ih
 simp only at hj g ih
 have hlt:((fQ c).take j).length=j:=by rw[List.length_take,oT]; omega
 refine aD aH aPa [4,11,12,13] L33_0.eq_1 ?_
 by_cases hjn:j<n
 · have e3:(j:Int)<n:=by omega
   have hG:aB H1 G:=g.sub.trans aC2
   have hib2:=hG.2 _ _ hib
   have i1:cN 1441 (.sl (.own ib 0) n 1441 true) (some j)=some (.ptr (.own ib (j*1441))):=by simp[cN,fG,hjn,Pl.add]
   have r1:∀L,rdn w0 (G++L) (.own ib (j*1441)) 1441=some (qV (dX c j)):=fun L=>aKF (aA hib2) hjn
   have r1':=r1 []
   rw[List.append_nil]at r1'
   have o3:(qV (dX c j)).all one=true:=aHd
   have o4:(qV (dX c j)).length=1441:=aA8
   have o5:cP (List.replicate 1441 (.bool false)) 0 (qV (dX c j))=qV (dX c j):=fU (by rw[o4,List.length_replicate])
   simp only[go_sem,e3,i1,r1,r1',o3,o4,o5,List.length_replicate]
   have hv:Sl w0 (G++[some (.row (qV (dX c j)))]) 1 (.sl (.own G.length 0) 1441 1 true) ((nZ (dX c j)).map fun x=>[AV.bool x]):=by
    have:=fH (w0:=w0) (h:=G) ((nZ (dX c j)).map fun x=>[AV.bool x]) (es:=1) true (L:=[some (.row (qV (dX c j)))]) 0 (by rw[←aFE]; rfl) (fun c hc=>by obtain⟨x,_,rfl⟩:=List.mem_map.1 hc; rfl)
    have hl:((nZ (dX c j)).map fun x=>[AV.bool x]).length=1441:=by simp[nZ]
    rw[hl]at this
    exact this
   have hq:((1441:Nat)==1441)=true:=rfl
   simp only[go_sem,o4,hq]
   refine aP (ACall.vc (first:=[]) (args:=[.sl (.own G.length 0) 1441 1 true]) (aKG (nZ (dX c j)) _ hv (by simp[nZ]))) ?_
   rintro y H2 gS
   have hs2:aB G H2:=aB.refl.app.trans gS.sub
   have o6:one y=true∧cellsOf y=some [y]:=by
    rcases gS.own with⟨_,h2,_⟩ | ⟨_,_,_,h3,_⟩
    · subst h2; exact⟨rfl,rfl⟩
    · subst h3; exact⟨rfl,rfl⟩
   have hx:SpR w0 (mk j io (H2++[some (.row [y])])) (mK (nZ (dX c j))) [y]:=by
    obtain⟨io2,gm⟩:=gS.masked (j:=j) (io:=io) fun hj0=>by
     have:=g.lt (by rw[hlt]; exact hj0)
     rw[List.length_append]; omega
    refine⟨y,rfl,?_⟩
    have:=gm.sl (w0:=w0) (rows:=(mK (nZ (dX c j))).map bU.c) (fun c hc=>by obtain⟨s,_,rfl⟩:=List.mem_map.1 hc; rfl) (by simp) (by omega)
    exact this.sub (aAp aB.refl.app)
   have g2:=g.sub' (G:=H2++[some (.row [y])]) hs2.app (fun s r=>r.sub s)
   obtain⟨G',e1',g3,_,_⟩:=g2.push (b:=24) (k:=H2.length) (f:=true) (x:=mK (nZ (dX c j))) (c:=[y]) (fun s r=>r.sub s) (by simp) rfl (by simp[o6.1]) (by rw[hlt]; exact hx) (by omega) (by rw[hlt]; omega)
   rw[hlt]at e1' g3
   have hnext:(fQ c).take (j+1)=(fQ c).take j++[mK (nZ (dX c j))]:=by
    have hjd:j<(fQ c).length:=by rw[oT]; omega
    rw[List.take_add_one,qA hjd,aBN hjd]; rfl
   have:=ih (j+1,G',_,_) ⟨by simp only; omega,by simp only; rw[hnext]; exact g3⟩ (by simp only; omega)
   simp only[go_sem,o6.1,o6.2,e1']
   exact⟨(by unfold I64; omega),by simpa using this⟩
 · have e3:¬(j:Int)<n:=by omega
   obtain rfl:j=n:=by omega
   simp only[go_sem,e3]
   have ht:(fQ c).take j=fQ c:=List.take_of_length_le (by rw[oT]; omega)
   rw[ht]at g
   refine⟨(aB.refl.app.trans hs1).trans (g.sub.trans aC2),?_⟩
   rw[if_pos e1]
   exact⟨ov,rfl,g.ns (fun s r=>r.sub s) (by omega)⟩
end Go.Proofs.Ab

/- Own layer, part S. -/
import Derived.Test.YtiakeffhecpddaaGreatProg
import Derived.Shelf.Sort.Plain
import Derived.KernelRfl
import Derived.Test.YtiakeffhecpddaaGreatTab
import Derived.Test.YtiakeffhecpddaaGreatH
import Derived.Test.YtiakeffhecpddaaGreatE2
import Derived.Test.YtiakeffhecpddaaGreatG
set_option linter.unusedSimpArgs false
set_option linter.unusedVariables false
namespace Go.Proofs
open Go.Shelf
noncomputable def aFv:Ren where
 f:=fun n=>match n with
  | 125=>194
  | 128=>205
  | 129=>206
  | 189=>186
  | 215=>212
  | 216=>202
  | 257=>193
  | 294=>196
  | 295=>197
  | 296=>198
  | 297=>199
  | 298=>200
  | 299=>201
  | 300=>203
  | 301=>204
  | 328=>207
  | 329=>208
  | 330=>209
  | 331=>210
  | 332=>211
  | 343=>213
  | n=>n
 t:=fun n=>match n with
  | 0=>0
  | 3=>3
  | 4=>4
  | 5=>5
  | 9=>9
  | 28=>56
  | 46=>286
  | 51=>296
  | 53=>298
  | 131=>153
  | 182=>289
  | 183=>290
  | 218=>299
  | 222=>303
  | 228=>305
  | 229=>306
  | n=>n
 g:=fun n=>n
theorem aCf:Lays.n189 Tryz.prog aFv:={
 mixed:=by kernel_rfl
 f125:=by kernel_rfl
 f128:=by kernel_rfl
 f129:=by kernel_rfl
 f189:=by kernel_rfl
 f215:=by kernel_rfl
 f216:=by kernel_rfl
 f257:=by kernel_rfl
 f294:=by kernel_rfl
 f295:=by kernel_rfl
 f296:=by kernel_rfl
 f297:=by kernel_rfl
 f298:=by kernel_rfl
 f299:=by kernel_rfl
 f300:=by kernel_rfl
 f301:=by kernel_rfl
 f328:=by kernel_rfl
 f329:=by kernel_rfl
 f330:=by kernel_rfl
 f331:=by kernel_rfl
 f332:=by kernel_rfl
 f343:=by kernel_rfl
 t0:=by kernel_rfl
 a0:=fun w=>by kernel_rfl
 z0:=fun w=>by kernel_rfl
 v0:=fun w=>by kernel_rfl
 t3:=by kernel_rfl
 a3:=fun w=>by kernel_rfl
 z3:=fun w=>by kernel_rfl
 v3:=fun w=>by kernel_rfl
 t4:=by kernel_rfl
 a4:=fun w=>by kernel_rfl
 z4:=fun w=>by kernel_rfl
 v4:=fun w=>by kernel_rfl
 t5:=by kernel_rfl
 a5:=fun w=>by kernel_rfl
 z5:=fun w=>by kernel_rfl
 v5:=fun w=>by kernel_rfl
 t9:=by kernel_rfl
 a9:=fun w=>by kernel_rfl
 z9:=fun w=>by kernel_rfl
 v9:=fun w=>by kernel_rfl
 t28:=by kernel_rfl
 a28:=fun w=>by kernel_rfl
 z28:=fun w=>by kernel_rfl
 v28:=fun w=>by kernel_rfl
 t46:=by kernel_rfl
 a46:=fun w=>by kernel_rfl
 z46:=fun w=>by kernel_rfl
 v46:=fun w=>by kernel_rfl
 t51:=by kernel_rfl
 a51:=fun w=>by kernel_rfl
 z51:=fun w=>by kernel_rfl
 v51:=fun w=>by kernel_rfl
 t53:=by kernel_rfl
 a53:=fun w=>by kernel_rfl
 z53:=fun w=>by kernel_rfl
 v53:=fun w=>by kernel_rfl
 t131:=by kernel_rfl
 a131:=fun w=>by kernel_rfl
 z131:=fun w=>by kernel_rfl
 v131:=fun w=>by kernel_rfl
 t182:=by kernel_rfl
 a182:=fun w=>by kernel_rfl
 z182:=fun w=>by kernel_rfl
 v182:=fun w=>by kernel_rfl
 t183:=by kernel_rfl
 a183:=fun w=>by kernel_rfl
 z183:=fun w=>by kernel_rfl
 v183:=fun w=>by kernel_rfl
 t218:=by kernel_rfl
 a218:=fun w=>by kernel_rfl
 z218:=fun w=>by kernel_rfl
 v218:=fun w=>by kernel_rfl
 t222:=by kernel_rfl
 a222:=fun w=>by kernel_rfl
 z222:=fun w=>by kernel_rfl
 v222:=fun w=>by kernel_rfl
 t228:=by kernel_rfl
 a228:=fun w=>by kernel_rfl
 z228:=fun w=>by kernel_rfl
 v228:=fun w=>by kernel_rfl
 t229:=by kernel_rfl
 a229:=fun w=>by kernel_rfl
 z229:=fun w=>by kernel_rfl
 v229:=fun w=>by kernel_rfl }
end Go.Proofs
namespace Go.Proofs.Ab
open Go Go.Proofs
variable {w0:World} {h:Heap}
attribute [local irreducible] ACall bE cR aK bI rvC lp rg dr ex un rv
theorem keysOk:KOk Tryz.prog 254 35 3 4:=⟨by kernel_rfl,by kernel_rfl,by kernel_rfl,by kernel_rfl,by kernel_rfl,⟨3,4,by kernel_rfl⟩⟩
theorem keys_b:(Tryz.prog.funcs[187]?).bind (·.body)=some (kCode 254 35 3 4):=by kernel_rfl
theorem keys_r:((Tryz.prog.funcs[187]?).map fun fn=>(fn.results.toList.mapM (crv Tryz.prog),fn.ntmps))=some (some [],14):=by kernel_rfl
theorem keys_h:dH Tryz.prog 187=true:=by kernel_rfl
def GI(h0:Heap)(n0:Nat)(lb:Blk)(ps:List AV)(G:Heap):Prop:=
 ∃sv io,n0+1<io∧n0+1<G.length∧G[n0]? = some (some (.row [sv]))∧G[n0+1]? = some (some lb)∧Gr2 G 1 ps.length io sv ps∧aB h0 G
theorem aDi{p:Pl}{mi:Nat}{es:List (AV×AV)}(hp:rd w0 h p=some (.map mi))(hm:h[mi]? = some (some (.map es)))(hk:∀e∈es,∃n,e.1= .int .i64 n)(hn:es.length≤1000) :
 ACall Tryz.prog w0 192 [.nilS,.fn (.func 187) [] [.ptr p]] h fun v H=>∃ks io,ks.Perm (es.map (·.1))∧Gr2 H 1 ks.length io v ks∧aB h H∧h.length<io:=by
 have hml:=aD hm
 refine aO aMs fun hb ha=> ?_
 simp only[go_sem,mf192]
 refine lD [2,6] ?_
 simp only[go_sem]
 refine oE (fid:=187) (first:=[]) rfl (.inl rfl) fun hca hcb hps=> ?_
 simp only[go_sem]
 obtain⟨LB,hLB⟩:∃LB:LoopState→Option Code→Blk,LB=Blk.loop 13 [(2,AV.ptr (Pl.own (List.length h) 0)),(6,AV.fn (Fn.func 187) [] [AV.ptr p])] #[7] (aV (bJ 192) [1,0,1,0,0]) (aV (bJ 192) [1,0,1,0,1]):=⟨_,rfl⟩
 have hp':rd w0 (h++[some (.row [.nilS]),some (LB .ready none)]) p=some (.map mi):=fT hp
 have hm':(h++[some (Blk.row [AV.nilS]),some (LB .ready none)])[mi]? = some (some (.map es)):=aA hm
 rw[←hLB]
 refine aD7 keysOk keys_b keys_r keys_h hp' hm' (fun e he=>⟨_,hk e he⟩) (I:=GI (h.set mi none) h.length (LB .ready none)) ⟨.nilS,h.length+2,by omega,by simp,?_,?_,.inl ⟨rfl,rfl,rfl⟩,?_⟩ ?_ ?_
 ·rw[List.set_append_left _ _ hml,qI (by simp)]; simp
 ·rw[List.set_append_left _ _ hml,qI (by simp)]; simp
 ·rw[List.set_append_left _ _ hml]; exact aB.refl.app
 ·rintro ps k G ⟨q,hq⟩ ⟨sv,io,g1,g2,g3,g4,g5,g6⟩
  obtain⟨x,rfl⟩:∃x,k= .int .i64 x:=by
   have:k∈es.map (·.1):=hq.mem_iff.1 (by simp)
   obtain⟨e,he,rfl⟩:=List.mem_map.1 this
   exact hk e he
  have hpl:ps.length<1001:=by have:=hq.length_eq; simp at this; omega
  have g4':=g4
  rw[hLB]at g4'
  refine aAd (hE (psl:=[7]) dE rfl aHJ aHI aBK.eq_1 aBJ.eq_1 g4' rfl hps hca hcb fun hb2 ha2=> ?_)
  simp only[go_sem]
  refine⟨g4',?_⟩
  have a1:(G.set (h.length+1) (some (Blk.loop 13 [(2,AV.ptr (Pl.own (List.length h) 0)),(6,AV.fn (Fn.func 187) [] [AV.ptr p])] #[7] (aV (bJ 192) [1,0,1,0,0]) (aV (bJ 192) [1,0,1,0,1]) .busy none)))[h.length]? = some (some (.row [sv])):=by rw[qB (by omega)]; exact g3
  simp only[go_sem,a1]
  obtain⟨LY,hLY⟩:∃b,b=Blk.loop 13 [(2,AV.ptr (Pl.own (List.length h) 0)),(6,AV.fn (Fn.func 187) [] [AV.ptr p])] #[7] (aV (bJ 192) [1,0,1,0,0]) (aV (bJ 192) [1,0,1,0,1]) .busy none:=⟨_,rfl⟩
  rw[←hLY]at a1 ⊢
  obtain⟨X,hX⟩:∃X,X=G.set (h.length+1) (some LY)++[some (Blk.row [AV.int .i64 x])]:=⟨_,rfl⟩
  have lX:X.length=G.length+1:=by rw[hX]; simp
  have gX:∀i b,i≠h.length+1→G[i]? = some (some b)→X[i]? = some (some b):=fun i b hi e=>by rw[hX]; exact aA (by rw[qB (fun e=>hi e.symm)]; exact e)
  have gY:X[h.length+1]? = some (some LY):=by rw[hX]; exact aA (qF g2)
  have gZ:X[G.length]? = some (some (.row [.int .i64 x])):=by rw[hX,qI (by simp)]; simp
  have gr:Gr2 X 1 ps.length io sv ps:=by
   rcases g5 with h1 | ⟨h1,h2,h3,h4⟩
   ·exact .inl h1
   ·exact .inr ⟨h1,h2,gX _ _ (by omega) h3,h4⟩
  obtain⟨G2,q1,q2,q3,q4⟩:=gr.more (w0:=w0) (b:=8) (f:=true) gZ rfl rfl (by omega) (by omega)
  have gk:∀i b,i≠io→i<X.length→X[i]? = some (some b)→G2[i]? = some (some b):=fun i b hi hl e=>by
   have e1:(mk ps.length io X)[i]? = some (some b):=by
    unfold mk
    split
    ·exact e
    ·rw[qB (fun e=>hi e.symm)]; exact e
   have e2:=q3.2 i b e1
   rw[mk,if_neg (by omega),qB (by omega)]at e2
   exact e2
  rw[←hX,q1]
  have b1:=gk _ _ (by omega) (by omega) (gX _ _ (by omega) g3)
  have b2:=gk _ _ (by omega) (by omega) gY
  have b3:(G2.set h.length (some (.row [.sl (.own X.length 0) (ps.length+1) 1 false])))[h.length+1]? = some (some LY):=by rw[qB (by omega)]; exact b2
  simp only[go_sem,b1,b3]
  rw[hLY]
  simp only[go_sem]
  rw[hLB]
  refine⟨.sl (.own X.length 0) (ps.length+1) 1 false,X.length,by omega,by simp; omega,?_,?_,?_,?_⟩
  ·rw[qB (by omega),qF (by omega)]
  ·rw[qF (by simp; omega)]
  ·rw[List.length_append]
   rcases q2 with h1 | ⟨h1,h2,h3,h4⟩
   ·exact absurd h1.1 (by omega)
   ·exact .inr ⟨h1,h2,by rw[qB (by omega),qB (by omega)]; exact h3,h4⟩
  ·refine aB.setR (aB.setR ⟨by rw[List.length_set]; have:=g6.1; simp at this; omega,fun i b e=> ?_⟩ (by simp)) (by simp)
   have hi:=aD e
   rw[List.length_set]at hi
   exact gk _ _ (by omega) (by omega) (gX _ _ (by omega) (g6.2 i b e))
 ·rintro ps G hq ⟨sv,io,g1,g2,g3,g4,g5,g6⟩ hgl
  have hne:io≠mi:=by omega
  have g4':(G.set mi (some (.map es)))[h.length+1]? = some (some (LB .ready none)):=by rw[qB (by omega)]; exact g4
  rw[g4',hLB]
  have e1:((G.set mi (some (.map es))).set (h.length+1) none)[h.length]? = some (some (.row [sv])):=by rw[qB (by omega),qB (by omega)]; exact g3
  simp only[go_sem,e1]
  have hsub:aB h (G.set mi (some (.map es))):=⟨by rw[List.length_set]; have:=g6.1; simpa using this,fun i b e=>by
   by_cases q:mi=i
   ·subst q
    rw[hm]at e
    rw[qF (by omega)]; exact e
   ·rw[qB q]
    exact g6.2 i b (by rw[qB q]; exact e)⟩
  refine⟨ps,io,hq,?_,hsub.setR (by omega),by omega⟩
  rcases g5 with h1 | ⟨h1,h2,h3,h4⟩
  ·exact .inl h1
  ·exact .inr ⟨h1,h2,by rw[qB (by omega),qB (by omega)]; exact h3,h4⟩
end Go.Proofs.Ab
namespace Go.Proofs.Ab
open Go Go.Proofs
variable {w0:World} {h:Heap}
def aEa(x:Int):List Int→List Int
 | []=>[x]
 | y::r=>if x≤y then x::y::r else y::aEa x r
def mS:List Int→List Int
 | []=>[]
 | x::r=>aEa x (mS r)
theorem vN(x:Int):∀l:List Int,(aEa x l).Perm (x::l)
 | []=>List.Perm.refl _
 | y::r=>by
  simp only[aEa]
  split
  ·exact List.Perm.refl _
  ·exact((vN x r).cons y).trans (List.Perm.swap x y r)
theorem eU:∀l:List Int,(mS l).Perm l
 | []=>List.Perm.refl _
 | x::r=>(vN x _).trans ((eU r).cons x)
theorem aFX{x:Int}:∀ {l:List Int},l.Pairwise (· ≤ ·)→(aEa x l).Pairwise (· ≤ ·)
 | [],_=>by simp[aEa]
 | y::r,hl=>by
  rw[List.pairwise_cons]at hl
  simp only[aEa]
  split
  ·rename_i hx
   rw[List.pairwise_cons,List.pairwise_cons]
   refine⟨fun z hz=> ?_,hl⟩
   rcases List.mem_cons.1 hz with rfl | hz
   ·exact hx
   ·exact Int.le_trans hx (hl.1 z hz)
  ·rename_i hx
   rw[List.pairwise_cons]
   refine⟨fun z hz=> ?_,aFX hl.2⟩
   rcases List.mem_cons.1 ((vN x r).mem_iff.1 hz)with rfl | hz
   ·omega
   ·exact hl.1 z hz
theorem tP:∀ {l:List Int},(mS l).Pairwise (· ≤ ·)
 | []=>List.Pairwise.nil
 | x::r=>aFX tP
theorem aIK:∀ {a b:List Int},a.Perm b→a.Pairwise (· ≤ ·)→b.Pairwise (· ≤ ·)→a=b
 | [],b,p,_,_=>(List.Perm.nil_eq p)
 | x::a,[],p,_,_=>by have:=p.length_eq; simp at this
 | x::a,y::b,p,ha,hb=>by
  rw[List.pairwise_cons]at ha hb
  have h1:x≤y:=by
   rcases List.mem_cons.1 (p.mem_iff.2 (List.mem_cons_self (a:=y) (l:=b)))with e | e
   ·omega
   ·exact ha.1 y e
  have h2:y≤x:=by
   rcases List.mem_cons.1 (p.mem_iff.1 (List.mem_cons_self (a:=x) (l:=a)))with e | e
   ·omega
   ·exact hb.1 x e
  obtain rfl:x=y:=by omega
  rw[aIK (List.Perm.cons_inv p) ha.2 hb.2]
def uM(ks:List Int)(t:Int):List Int:=if t∈ks then ks else ks++[t]
def lU(ks:List Int):List (AV×AV):=ks.map fun k=>(.int .i64 k,.bool true)
theorem aJP{t:Int}:∀(ks:List Int) (a:Nat),(t∉ks∧iA (false,[true]) (.int .i64 t) (lU ks) a=some none)∨∃j,ks[j]? = some t∧iA (false,[true]) (.int .i64 t) (lU ks) a=some (some (a+j,.bool true))
 | [],a=> .inl ⟨by simp,rfl⟩
 | k::ks,a=>by
  by_cases e:t=k
  ·subst e
   exact .inr ⟨0,rfl,by simp[lU,iA,keq,dU,ceq]⟩
  ·have e1:iA (false,[true]) (.int .i64 t) (lU (k::ks)) a=iA (false,[true]) (.int .i64 t) (lU ks) (a+1):=by
    have e0:(t==k)=false:=by simpa using e
    simp[lU,iA,keq,dU,ceq,e0]
   rcases aJP (t:=t) ks (a+1)with⟨h1,h2⟩ | ⟨j,h1,h2⟩
   ·exact .inl ⟨by simp[e,h1],by rw[e1,h2]⟩
   ·exact .inr ⟨j+1,by simpa using h1,by rw[e1,h2,show a+1+j=a+(j+1)by omega]⟩
theorem mput_E{i:Nat}{ks:List Int}{t:Int}(hi:h[i]? = some (some (.map (lU ks)))):wE h (false,[true]) (.map i) (.int .i64 t) (.bool true)=some (.undef,h.set i (some (.map (lU (uM ks t))))):=by
 simp only[wE,hi]
 rw[if_neg (by simp[keq,dU,ceq])]
 rcases aJP (t:=t) ks 0 with⟨h1,h2⟩ | ⟨j,h1,h2⟩
 ·rw[h2]; simp[uM,h1,lU]
 ·rw[h2]
  have hm:t∈ks:=List.mem_of_getElem? h1
  have:(lU ks).set j (.int .i64 t,.bool true)=lU ks:=by
   refine List.ext_getElem? fun q=> ?_
   by_cases e:j=q
   ·subst e
    rw[qF (by simp[lU]; exact aD h1)]
    simp[lU,h1]
   ·rw[qB e]
  simp[uM,hm,this]
theorem aJs{ks:List Int}{t x:Int}:x∈uM ks t↔x∈ks∨x=t:=by
 unfold uM; split
 ·rename_i h; exact⟨.inl,fun e=>e.elim id fun e=>e▸h⟩
 ·simp
theorem aD9{ks:List Int}{t:Int}(h:ks.Nodup):(uM ks t).Nodup:=by
 unfold uM; split
 ·exact h
 ·rename_i hn
  rw[List.nodup_append]
  exact⟨h,by simp,fun a ha b hb e=>by simp at hb; subst hb; subst e; exact hn ha⟩
theorem aJt{ks:List Int}{t:Int}:(uM ks t).length≤ks.length+1:=by unfold uM; split<;>simp
def nR(l:List Int):List Int:=l.foldl uM []
theorem aJG{l:List Int}:∀ {ks:List Int},ks.Nodup→(l.foldl uM ks).Nodup∧(∀x,x∈l.foldl uM ks↔x∈ks∨x∈l)∧(l.foldl uM ks).length≤ks.length+l.length:=by
 induction l with
 | nil=>intro ks h; exact⟨h,by simp,by simp⟩
 | cons t l ih=>
  intro ks h
  obtain⟨h1,h2,h3⟩:=ih (aD9 (t:=t) h)
  refine⟨h1,fun x=> ?_,?_⟩
  ·rw[List.foldl_cons,h2,aJs,List.mem_cons,or_assoc]
  ·rw[List.foldl_cons,List.length_cons]; have:=aJt (ks:=ks) (t:=t); omega
theorem aCC(zs:List Int):(zs.mergeSort fun x y=>decide (x≤y))=mS zs:=by
 refine aIK ((List.mergeSort_perm zs _).trans (eU zs).symm) ?_ tP
 have:=List.pairwise_mergeSort (le:=fun x y:Int=>decide (x≤y)) (fun a b c h1 h2=>by simp at *; omega) (fun a b=>by simp; omega) zs
 exact this.imp fun h=>by simpa using h
theorem aG9{l:List Int}{k:Nat}{x:AV}(h:(aN l)[k]? = some x):∃z,l[k]? = some z∧x= .int .i64 z:=by
 simp only[aN,List.getElem?_map,qD]at h
 obtain⟨z,h1,h2⟩:=h
 exact⟨z,h1,h2.symm⟩
theorem aNY{α:Type}{a:Array α}{i:Nat}{x:α}(e:a[i]? = some x):i<a.size:=by
 rcases Nat.lt_or_ge i a.size with h | h
 ·exact h
 ·rw[Array.getElem?_eq_none h]at e; cases e
theorem sort_c{H:Heap}{b:Nat}{zs:List Int}{f:Bool}(hb:H[b]? = some (some (.row (aN zs))))(hne:zs≠[])(hn:zs.length≤1000) :
 ACall Tryz.prog w0 186 [.sl (.own b 0) zs.length 1 f] H fun v H'=>v= .tup []∧H'=H.set b (some (.row (aN (mS zs)))):=by
 have hz0:zs.length≠0:=fun e=>hne (List.eq_nil_of_length_eq_zero e)
 refine⟨by kernel_rfl,fun m w vs s hvs hbd=>callsIn_wide.2 ?_⟩
 obtain⟨v1,r1,e1,h1,h2⟩:=hvs
 simp only[VRs]at h2
 subst h2
 simp only[VR]at h1
 obtain⟨a,cap,rfl,hc1,_,hc2⟩:=h1
 obtain⟨ha,hsz⟩:a=m.pl (.own b 0)∧∀i off,Pl.own b 0= .own i off→off+cap*1≤m.sz i:=by
  rcases hc2 with h | h
  ·omega
  ·exact h
 have hsz:=hsz b 0 rfl
 obtain⟨g1,⟨ca,ty,g2,g3,g4⟩,_⟩:=s.at_ b _ hb
 have hvs':vs= #[.slice (some a) zs.length cap]:=by
  rw[←Array.toArray_toList (xs:=vs),e1]
 have ha':a=⟨m.blk b,m.base b,none⟩:=by rw[ha]; rfl
 rw[hvs',ha']
 have hcv:∀k,(hk:k<zs.length)→ca[m.base b+k]? = some (.int .i64 zs[k]):=fun k hk=>by
  obtain⟨y,hy,hvr⟩:=g4 k (.int .i64 zs[k]) (by simp[aN,hk])
  simp only[VR]at hvr
  rw[hy,hvr]
 have hH:Sort.Holds (Value.int .i64) w (m.blk b) (m.base b) zs.toArray:=fun k hk=>by
  have hk':k<zs.length:=by simpa using hk
  refine⟨?_,by simp[World.frozen?,g2]⟩
  simp only[World.cell?,g2]
  rw[getElem!_pos _ k hk]
  simp only[Option.isSome_none,Bool.false_eq_true,if_false]
  rw[hcv k hk']
  simp
 have hlt:m.blk b<w.heap.size:=s.lt hb
 have hS:=Any.slices_Sort_int aCf (m.blk b) (m.base b) cap zs w hH hlt (by omega)
 rw[aCC]at hS
 refine Calls.mono (show Calls Tryz.prog 186 _ w _ from hS) fun e w' ⟨he,n,os,hw'⟩=> ?_
 obtain⟨d,hd⟩:∃d,d=(mS zs).toArray:=⟨_,rfl⟩
 rw[←hd]at hw'
 have dsz:d.size=zs.length:=by rw[hd]; simpa using(eU zs).length_eq
 have j1:w'.heap[m.blk b]? = some (.cells (Sort.putCells (Value.int .i64) (m.base b) d ca) ty (0,0)):=by
  rw[hw',Sort.heap_grow_old _ _ (by simpa[Sort.putRow,Sort.mapBlock,Sort.ahead]using hlt)]
  simp[Sort.putRow,Sort.mapBlock,Sort.ahead,Array.getElem?_modify,g2,Sort.onCells]
 have hsame:∀c,c<w.heap.size→c≠m.blk b→w'.heap[c]? = w.heap[c]? := fun c hc hne=>by
  rw[hw',Sort.heap_grow_old _ _ (by simpa[Sort.putRow,Sort.mapBlock,Sort.ahead]using hc)]
  have hne':¬m.blk b=c:=fun e=>hne e.symm
  simp[Sort.putRow,Sort.mapBlock,Sort.ahead,Array.getElem?_modify,hne']
 have hsize:w.heap.size≤w'.heap.size:=by rw[hw']; simp[Sort.grow,Sort.putRow,Sort.mapBlock,Sort.ahead]
 have hnew:∀k,(hk:k<zs.length)→(Sort.putCells (Value.int .i64) (m.base b) d ca)[m.base b+k]? = ((mS zs)[k]?).map (Value.int .i64):=fun k hk=>by
  have hkc:m.base b+k<ca.size:=aNY (hcv k hk)
  have hks:k<(mS zs).length:=by rw[(eU zs).length_eq]; exact hk
  simp only[Sort.putCells,Array.getElem?_mapIdx,Array.getElem?_eq_getElem hkc,Option.map_some]
  rw[if_pos (by omega),Nat.add_sub_cancel_left,getElem!_pos d k (by omega),qA hks]
  simp[hd]
 have hpsz:(Sort.putCells (Value.int .i64) (m.base b) d ca).size=ca.size:=by simp[Sort.putCells]
 refine⟨_,he,m,.tup [],H.set b (some (.row (aN (mS zs)))),⟨⟨by have:=s.size; omega,fun c hc=>by rw[hsame c (by have:=s.size; omega) (by omega)]; exact s.old c hc,fun t x hx=> ?_,fun t u x y htu hx hy=> ?_⟩,.refl _ _,⟨hsize,fun c hc hno=>hsame c hc fun e=>hno b _ hb e.symm,by rw[hw']; rfl,by rw[hw']; rfl,by rw[hw']; rfl⟩,by simp,fun t x hx hlt=> ?_⟩,?_,trivial,rfl,rfl⟩
 ·by_cases q:b=t
  ·subst q
   rw[qF (aD hb)]at hx
   cases hx
   refine⟨g1,⟨_,ty,j1,by rw[hpsz,g3],fun k x hk=> ?_⟩,?_⟩
   ·obtain⟨z,hz,rfl⟩:=aG9 hk
    have hk2:k<zs.length:=by have:=aD hz; rwa [(eU zs).length_eq]at this
    exact⟨.int .i64 z,by rw[hnew k hk2,hz]; rfl,by simp only[VR]⟩
   ·rw[List.length_set]
    intro x hx
    simp only[aN,List.mem_map]at hx
    obtain⟨z,_,rfl⟩:=hx
    trivial
  ·rw[qB q]at hx
   obtain⟨a1,a2,a3⟩:=s.at_ t x hx
   rw[List.length_set]
   exact⟨a1,by rw[hsame _ (s.lt hx) (s.inj t b x _ (fun e=>q e.symm) hx hb)]; exact a2,a3⟩
 ·have old:∀t x,(H.set b (some (.row (aN (mS zs)))))[t]? = some (some x)→∃x',H[t]? = some (some x'):=fun t x h=>by
   by_cases q:b=t
   ·subst q; exact⟨_,hb⟩
   ·rw[qB q]at h; exact⟨x,h⟩
  obtain⟨x',hx'⟩:=old t x hx
  obtain⟨y',hy'⟩:=old u y hy
  exact s.inj t u x' y' htu hx' hy'
 ·by_cases q:b=t
  ·subst q; exact⟨_,_,hb,rfl⟩
  ·rw[qB q]at hx; exact⟨t,x,hx,rfl⟩
 ·simp only[VR]
  exact⟨#[],rfl,by simp[VRs]⟩
end Go.Proofs.Ab
namespace Go.Proofs.Ab
open Go Go.Proofs
variable {w0:World} {h:Heap}
theorem len0_c:ACall Tryz.prog w0 194 [.int .u64 ((0:Nat):Int)] h fun v H=>(∃k,v= .int .i64 k)∧H=h:=by
 refine⟨by kernel_rfl,fun m w vs s hvs hbd=>callsIn_wide.2 ?_⟩
 obtain⟨v1,r1,e1,h1,h2⟩:=hvs
 simp only[VRs]at h2
 subst h2
 simp only[VR]at h1
 subst h1
 have hvs':vs= #[.int .u64 0]:=by
  rw[←Array.toArray_toList (xs:=vs),e1]; rfl
 rw[hvs']
 have hL:Calls Tryz.prog 194 #[.int .u64 0] w _:=calls_of_every_depth fun D=>AnyS.bits_LenIn (ρ:=aFv) { aCf with } D 0 w (by omega) (by omega)
 refine Calls.mono hL fun e w' ⟨he,hw⟩=> ?_
 subst hw
 exact⟨_,he,m,.int .i64 (Lib.bitLen (Int.toNat 0)),h,bU.refl s,by simp only[VR],trivial,⟨_,rfl⟩,rfl⟩
attribute [local irreducible] ACall bE cR aK bI rvC lp rg dr ex un rv
theorem aNU:ACall Tryz.prog w0 196 [.nilS,.int .i64 0,.int .i64 0] h fun v H=>v= .tup []∧H=h:=by
 refine aAb aMp fun hb ha=> ?_
 simp only[go_sem,mf196]
 refine⟨(by unfold I64; omega),?_⟩
 refine aP [0,1,2,6] aLr.eq_1 ?_
 have e1:¬(1:Int)<0:=by omega
 simp only[go_sem,e1]
 exact⟨h,[],by simp,Nat.le_refl _,hb,trivial,rfl⟩
theorem pdq_n{q:Int}:ACall Tryz.prog w0 193 [.nilS,.int .i64 0,.int .i64 0,.int .i64 q] h fun v H=>v= .tup []∧H=h:=by
 refine aAb aMr fun hb ha=> ?_
 simp only[go_sem,mf193]
 refine aP [0,1,2,3,8,9] aLs.eq_1 ?_
 have e1:(0:Int) - 0=0:=by omega
 have e2:(0:Int)≤12:=by omega
 simp only[go_sem,e1,e2]
 rw[List.append_nil]
 refine aJ (ACall.v3 aNU) ?_
 rintro _ _ ⟨rfl,rfl⟩
 simp only[go_sem]
 exact⟨_,[],by simp,Nat.le_refl _,hb,trivial,rfl⟩
theorem Sort_n:ACall Tryz.prog w0 186 [.nilS] h fun v H=>v= .tup []∧H=h:=by
 refine aAb aMx fun hb ha=> ?_
 simp only[go_sem,mf186]
 rw[List.append_nil]
 have e1:iU .u64 0=some (.int .u64 ((0:Nat):Int)):=rfl
 simp only[go_sem,e1]
 refine aJ (ACall.v1 len0_c) ?_
 rintro _ _ ⟨⟨q,rfl⟩,rfl⟩
 simp only[go_sem]
 refine aJ (ACall.v4 pdq_n) ?_
 rintro _ _ ⟨rfl,rfl⟩
 simp only[go_sem]
 exact⟨_,[],by simp,Nat.le_refl _,hb,trivial,rfl⟩
theorem aHr{p:Pl}{mi:Nat}{es:List (AV×AV)}(hp:rd w0 h p=some (.map mi))(hm:h[mi]? = some (some (.map es)))(hk:∀e∈es,∃n,e.1= .int .i64 n)(hn:es.length≤1000) :
 ACall Tryz.prog w0 185 [.fn (.func 187) [] [.ptr p]] h fun v H=>∃ks io,ks.Perm (es.map (·.1))∧Gr2 H 1 ks.length io v ks∧aB h H∧h.length<io:=by
 refine aO aMy fun hb ha=> ?_
 simp only[go_sem,mf185]
 rw[List.append_nil]
 refine aJ (ACall.v2 (aDi hp hm hk hn)) ?_
 rintro v H hH
 simp only[go_sem]
 exact hH
theorem aGC{p:Pl}{mi:Nat}{M:List Int}(hp:rd w0 h p=some (.map mi))(hm:h[mi]? = some (some (.map (lU M))))(hn:M.length≤1000) :
 ACall Tryz.prog w0 170 [.fn (.func 187) [] [.ptr p]] h fun v H=>aB h H∧SlI w0 H v (mS M):=by
 refine aO aMN fun hb ha=> ?_
 simp only[go_sem,mf170]
 rw[List.append_nil]
 refine aJ (ACall.v1 (aHr hp hm (fun e he=>by
  simp only[lU,List.mem_map]at he
  obtain⟨k,_,rfl⟩:=he
  exact⟨_,rfl⟩) (by simpa[lU]using hn))) ?_
 rintro v H ⟨kl,io,k1,k2,k3,k4⟩
 have k1':kl.Perm (aN (M)):=by
  have:(lU M).map (·.1)=aN M:=by simp[lU,aN,List.map_map,Function.comp_def]
  rw[this]at k1; exact k1
 obtain⟨xs,rfl⟩:∃xs,kl=aN xs:=by
  have:∀l:List AV,(∀x∈l,∃n,x=AV.int .i64 n)→∃xs,l=aN xs:=fun l=>by
   induction l with
   | nil=>exact fun _=>⟨[],rfl⟩
   | cons x l ih=>
    intro hx
    obtain⟨n,rfl⟩:=hx x (by simp)
    obtain⟨xs,rfl⟩:=ih fun y hy=>hx y (by simp[hy])
    exact⟨n::xs,rfl⟩
  refine this kl fun x hx=> ?_
  have:=k1'.mem_iff.1 hx
  simp only[aN,List.mem_map]at this
  obtain⟨n,_,rfl⟩:=this
  exact⟨n,rfl⟩
 have kp:xs.Perm (M):=by
  have f:List.Perm ((aN xs).map fun x=>match x with | .int _ n=>n | _=>0) ((aN (M)).map fun x=>match x with | .int _ n=>n | _=>0):=k1'.map _
  simpa[aN,Function.comp_def]using f
 have hxl:(aN xs).length=xs.length:=by simp[aN]
 rw[hxl]at k2
 have hsort:mS xs=mS (M):=aIK ((eU xs).trans (kp.trans (eU _).symm)) tP tP
 have hxl2:xs.length≤1000:=by have:=kp.length_eq; omega
 rcases k2 with⟨k5,rfl,_⟩ | ⟨k5,rfl,k6,_⟩
 ·obtain rfl:xs=[]:=List.length_eq_zero_iff.1 k5
  simp only[go_sem]
  refine aJ (ACall.v1 Sort_n) ?_
  rintro _ _ ⟨rfl,rfl⟩
  simp only[go_sem]
  refine⟨k3,?_⟩
  rw[←hsort]
  exact .inl ⟨rfl,rfl⟩
 ·simp only[go_sem]
  have hne:xs≠[]:=fun e=>k5 (by rw[e]; rfl)
  refine aJ (ACall.v1 (sort_c k6 hne hxl2)) ?_
  rintro _ _ ⟨rfl,rfl⟩
  simp only[go_sem]
  rw[←hsort]
  exact⟨k3.setR (by omega),aMb (qF (aD k6)) (by rw[(eU xs).length_eq])⟩
end Go.Proofs.Ab
namespace Go.Proofs.Ab
open Go Go.Proofs
variable {w0:World} {h:Heap}
attribute [local irreducible] ACall bE cR aK bI rvC lp rg dr ex un rv
def xZ(l:List Int):List Int:=mS (nR l)
theorem aDD{l:List Int}{x:Int}:x∈xZ l↔x∈l:=by
 rw[xZ,(eU _).mem_iff,nR,(aJG List.nodup_nil).2.1]; simp
theorem aDE{l:List Int}:(xZ l).length≤l.length:=by
 rw[xZ,(eU _).length_eq]
 have:=(aJG (l:=l) List.nodup_nil).2.2
 simpa[nR]using this
structure aU where
 cl:Int
 ch:Int
 gl:Int
 gh:Int
@[go_sem] def aU.c (s:aU):List AV:=[.int .i64 s.cl,.int .i64 s.ch,.int .i64 s.gl,.int .i64 s.gh]
@[simp] theorem aU.c_bdd (N:Nat) (s:aU):AV.bdds N s.c:=by simp[aU.c,AV.bdds,AV.bdd]
theorem keys_c{i:Nat}:ACall Tryz.prog w0 171 [.map i] h fun v H=>v= .fn (.func 187) [] [.ptr (.own h.length 0)]∧H=h++[some (.row [.map i])]:=by
 refine aO aMM fun hb ha=> ?_
 simp only[go_sem,mf171]
theorem aH5{v:AV}(hv:cellsOf v=some [v]):ACall Tryz.prog w0 169 [v] h fun y H=>y= .fn (.func 184) [] [.ptr (.own h.length 0)]∧H=h++[some (.row [v])]:=by
 refine aO aMO fun hb ha=> ?_
 simp only[go_sem,mf169,hv]
def pA(l:List aU):List Int:=xZ (l.map (·.cl))
theorem aEu{v:AV}{l:List aU}(hv:Sl w0 h 4 v (l.map aU.c))(hn:l.length≤12) :
 ACall Tryz.prog w0 132 [v] h fun y H=>aB h H∧∃p vv,y= .fn (.func 184) [] [.ptr p]∧rd w0 H p=some vv∧SlI w0 H vv (pA l):=by
 refine aO aNo fun hb ha=> ?_
 obtain⟨hlen,q,hix,hrow,_⟩:=hv.use
 rw[List.length_map]at hlen hix
 have vb:=hv.bdd (Nat.le_refl _)
 simp only[go_sem,mf132,hlen]
 have hks:∀j,j<l.length→∃s,l[j]? = some s∧nR ((l.take (j+1)).map (·.cl))=uM (nR ((l.take j).map (·.cl))) s.cl:=fun j hj=>by
  refine⟨l[j],qA hj,?_⟩
  rw[List.take_succ_eq_append_getElem hj,List.map_append,nR,List.foldl_append]
  rfl
 have hkl:∀j,(nR ((l.take j).map (·.cl))).length≤l.length:=fun j=>by
  have:=(aJG (l:=(l.take j).map (·.cl)) (ks:=[]) List.nodup_nil).2.2
  rw[List.length_map,List.length_take,List.length_nil]at this
  exact Nat.le_trans this (by omega)
 have hbE:∀ {N:Nat} (ks:List Int),Blk.bdd N (.map (lU ks)):=fun ks e he=>by
  simp only[lU,List.mem_map]at he
  obtain⟨k,_,rfl⟩:=he
  exact⟨trivial,trivial⟩
 refine fF (S:=Nat) (F:=fun j=>[(3,.map h.length),(7,v),(8,.int .i64 l.length),(9,.int .i64 j)]) (H:=fun j=>h++[some (.map (lU (nR ((l.take j).map (·.cl)))))]) (meas:=fun j=>l.length - j) (Inv:=fun j=>j≤l.length) 0 (Nat.zero_le _) rfl (by simp[nR,lU]) ?_
 intro j hj ih
 refine aP [3,7,8,9] aLA.eq_1 ?_
 by_cases hjl:j<l.length
 ·have e1:(j:Int)<l.length:=by omega
  obtain⟨s,hs,hk⟩:=hks j hjl
  have e2:=hix j hjl
  have e3:∀L,rdn w0 (h++L) (q.add (j*4)) 4=some s.c:=fun L=>cK (hrow j _ (by rw[List.getElem?_map,hs]; rfl))
  simp only[go_sem,e1,e2,e3]
  rw[mput_E (ks:=nR ((l.take j).map (·.cl))) (by rw[qI (Nat.le_refl _),Nat.sub_self]; rfl),←hk,List.set_append_right _ _ (Nat.le_refl _),Nat.sub_self]
  simp only[go_sem]
  refine⟨(by unfold I64; omega),?_⟩
  refine gA 1 hb (by simp[bC,bO,bT,cC,cT,bP,AV.bdds,AV.bdd,Pl.bdd,aY]; exact hbE _) (by simp[bC,bO,bT,cC,cT,bP,AV.bdds,AV.bdd,Pl.bdd,aY]; exact AV.bdd_mono (by omega) _ vb) ?_
  exact ih (j+1) (by omega) (by omega)
 ·have e1:¬(j:Int)<l.length:=by omega
  obtain rfl:j=l.length:=by omega
  simp only[go_sem,e1]
  rw[List.take_length]
  have hK:(nR (l.map (·.cl))).length≤12:=by have:=hkl l.length; rw[List.take_length]at this; omega
  refine aJ (ACall.v1 keys_c) ?_
  rintro _ _ ⟨rfl,rfl⟩
  simp only[go_sem]
  obtain⟨X,eX⟩:∃X,X=h++[some (Blk.map (lU (nR (l.map (·.cl))))),some (Blk.row [AV.map h.length])]:=⟨_,rfl⟩
  have sX:aB h X:=eX▸aB.refl.app
  rw[←eX]
  refine aJ (ACall.v1 (aGC (mi:=h.length) (M:=nR (l.map (·.cl))) (by simp[rd,eX]) (by simp[eX]) (by omega))) ?_
  rintro y Y ⟨sY,hy⟩
  simp only[go_sem]
  refine aJ (ACall.v1 (aH5 hy.one.2)) ?_
  rintro _ _ ⟨rfl,rfl⟩
  simp only[go_sem]
  exact⟨(sX.trans sY).app,_,y,rfl,by simp[rd],Sl.sub hy aB.refl.app⟩
theorem din_c(x lo hi:Int):aK Tryz.prog w0 127 [.int .i64 x,.int .i64 lo,.int .i64 hi] h (.bool (inB x lo hi)) h:=by
 refine aM aNt fun hb ha=> ?_
 simp only[go_sem,mf127]
 exact⟨fun a=>by simp[inB,a],fun a=>by simp[inB,a]⟩
theorem aDR{α:Type}{l:List α}(d:α){p:α→Bool}:(List.range l.length).all (fun j=>p (l.getD j d))=l.all p:=by
 rw[Bool.eq_iff_iff,List.all_eq_true,List.all_eq_true]
 constructor
 ·intro x a ha
  obtain⟨i,hi,rfl⟩:=List.getElem_of_mem ha
  have:=x i (List.mem_range.2 hi)
  rwa [aE hi]at this
 ·intro x j hj
  have hj:=List.mem_range.1 hj
  rw[aE hj]
  exact x _ (qG hj)
theorem aJA{α:Type}{l:List α}{d x:α}{j:Nat}(e:l[j]? = some x):l.getD j d=x:=by simp[List.getD_eq_getElem?_getD,e]
theorem nat_ix{n:Nat}:(if(0:Int)≤(n:Int)then some (n:Int).toNat else none)=some n:=by rw[if_pos (by omega),Int.toNat_natCast]
theorem aAk(rows:List (List AV))(v fv:AV)(p:Nat→Bool)(hv:Sl w0 h 4 v rows)(ho:∀c∈rows,c.all one=true)(hn:rows.length<1000000)
 (hf:∀(j:Nat) c,rows[j]? = some c→(∀i,i<j→p i=true)→∀L,bI Tryz.prog w0 fv [.agg c] (h++L) (.bool (p j)) (h++L)):aK Tryz.prog w0 128 [v,fv] h (.bool ((List.range rows.length).all p)) h:=by
 refine aM aNs fun hb ha=> ?_
 have hfb:fv.bdd h.length:=by simp only[AV.bdds]at ha; exact ha.2.1
 obtain⟨hlen,q,hix,hrow,_⟩:=hv.use
 have vb:=hv.bdd (Nat.le_refl _)
 simp only[go_sem,mf128,hlen]
 refine cY (fun j=>[(1,fv),(7,v),(8,.int .i64 rows.length),(9,.int .i64 j)]) (fun j=>p j=true) rows.length rfl (fun j hj hall ih=> ?_) (fun hall=> ?_)
 ·refine aP [1,7,8,9] aFb.eq_1 ?_
  have e1:=hix j hj
  have e3:(j:Int)<rows.length:=by omega
  obtain⟨c,hc⟩:∃c,rows[j]? = some c:=⟨_,qA hj⟩
  have hl:c.length=4:=(gR (hrow j _ hc)).1
  have e2:∀L,rdn w0 (h++L) (q.add (j*4)) 4=some c:=fun L=>cK (hrow j _ hc)
  have ho:=ho c (List.mem_of_getElem? hc)
  obtain⟨x0,x1,x2,x3,rfl⟩:∃x0 x1 x2 x3,c=[x0,x1,x2,x3]:=by
   match c,hl with
   | [x0,x1,x2,x3],_=>exact⟨x0,x1,x2,x3,rfl⟩
  simp only[go_sem,e1,e2,e3,ho]
  refine aC (by simpa using hf j _ hc hall [some (.row [x0,x1,x2,x3])]) ?_
  simp only[go_sem]
  refine⟨fun e=> ?_,fun e=>⟨(by unfold I64; omega),?_⟩⟩
  ·have:(List.range rows.length).all p=false:=by
    rw[List.all_eq_false]; exact⟨j,List.mem_range.2 hj,by simp[e]⟩
   rw[this]
  ·refine gA 0 hb (by simp[HBs]) (by simp[bC,bO,bT,cC,cT,bP,AV.bdds,AV.bdd,Pl.bdd,aY]; exact⟨hfb,vb⟩) ?_
   simpa using ih e
 ·refine aP [1,7,8,9] aFb.eq_1 ?_
  have e3:¬(rows.length:Int)<rows.length:=by omega
  simp only[go_sem,e3]
  have:(List.range rows.length).all p=true:=by rw[List.all_eq_true]; exact fun x hx=>hall x (List.mem_range.1 hx)
  rw[this]
end Go.Proofs.Ab
namespace Go.Proofs.Ab
open Go Go.Proofs
def InC(u v d:Int×Int):Prop:=∃k a b:Int,0<k∧0≤a∧0≤b∧k*d.1=a*u.1+b*v.1∧k*d.2=a*u.2+b*v.2
theorem InC.left(u v:Int×Int):InC u v u:=⟨1,1,0,by omega,by omega,by omega,by simp,by simp⟩
theorem aDF{l:List aU}{t:Int}:t∈pA l↔∃s∈l,s.cl=t:=by rw[pA,aDD,List.mem_map]
def eM(s:aU)(t:Int):Bool:=inB t s.cl s.gh
def fK(a b:aU):Bool:=eM a b.cl||eM b a.cl
def cV(l:List aU)(i:Nat):aU:=l.getD i ⟨0,0,0,0⟩
def fU(t:Int):List aU→Nat→List Int
 | [],_=>[]
 | s::r,i=>if eM s t then(i:Int)::fU t r (i+1)else fU t r (i+1)
def pM(l:List aU)(t:Int):List Int:=fU t l 0
def aAD(l:List aU)(bs:Int)(t:Int):Bool:=decide (bs<(pM l t).length)
def nI(l:List aU)(bs:Int):Option Int:=(pA l).find? (aAD l bs)
def oL(lo hi a b:Int):Bool:=decide (a≤lo)&&(decide (lo≤hi)&&decide (hi≤b))
def hJ(s:aU):Bool:=oL s.cl s.ch 0 1440&&(oL s.gl s.gh 0 1440&&(decide (s.cl≤s.gl)&&decide (s.ch≤s.gh)))
theorem nM{s:aU}:hJ s=true↔(0≤s.cl∧s.cl≤s.ch∧s.ch≤1440)∧(0≤s.gl∧s.gl≤s.gh∧s.gh≤1440)∧s.cl≤s.gl∧s.ch≤s.gh:=by
 simp[hJ,oL,and_assoc]
def zK(l:List aU)(out:List Int)(b:Int):Bool:=(List.range out.length).all fun i=> !(decide (out.getD i 0=b)&&fK (cV l i) (cV l out.length))
def bsD(l:List aU)(bs:Nat):Nat→List Int→Option (List Int)
 | 0,out=>some out
 | k+1,out=>(List.range bs).findSome? fun b:Nat=>if zK l out (b:Int)then bsD l bs k (out++[(b:Int)])else none
def kW(l:List aU)(at':List Int):Prop:=∀i,i<at'.length→∀k,k<i→at'.getD i 0=at'.getD k 0→fK (cV l k) (cV l i)=false
def zX(bs:Nat)(at':List Int):Prop:=∀x∈at',0≤x∧x<bs
theorem dR{l m:List Int}{i:Nat}(h:i<l.length):(l++m).getD i 0=l.getD i 0:=by
 simp[List.getD_eq_getElem?_getD,qH h]
theorem rU{l:List Int}{x:Int}:(l++[x]).getD l.length 0=x:=by simp[List.getD_eq_getElem?_getD]
theorem aJO{l:List aU}{out:List Int}{b:Int}:zK l out b=true↔∀i,i<out.length→out.getD i 0=b→fK (cV l i) (cV l out.length)=false:=by
 simp only[zK,List.all_eq_true,List.mem_range,Bool.not_eq_true',Bool.and_eq_false_imp,decide_eq_true_eq]
theorem zU{l:List aU}{out:List Int}{b:Int}:kW l (out++[b])↔kW l out∧zK l out b=true:=by
 rw[aJO]
 constructor
 ·intro h
  refine⟨fun i hi k hk e=> ?_,fun i hi e=> ?_⟩
  ·exact h i (by simp; omega) k hk (by rw[dR hi,dR (by omega),e])
  ·exact h out.length (by simp) i hi (by rw[rU,dR hi,e])
 ·rintro⟨h1,h2⟩ i hi k hk e
  simp only[List.length_append,List.length_singleton]at hi
  by_cases hi':i<out.length
  ·rw[dR hi',dR (by omega)]at e; exact h1 i hi' k hk e
  ·obtain rfl:i=out.length:=by omega
   rw[rU,dR hk]at e
   exact h2 k hk e.symm
theorem aDa{l:List aU}{bs:Nat}:∀(k:Nat) (out x:List Int),bsD l bs k out=some x→kW l out→zX bs out→kW l x∧zX bs x∧x.length=out.length+k∧x.take out.length=out
 | 0,out,x,h,ha,hr=>by simp only[bsD,Option.some.injEq]at h; subst h; exact⟨ha,hr,by simp,by simp⟩
 | k+1,out,x,h,ha,hr=>by
  simp only[bsD]at h
  obtain⟨b,hb,h1⟩:=List.exists_of_findSome?_eq_some h
  rw[List.mem_range]at hb
  split at h1
  ·rename_i hf
   obtain⟨a,c,d,e⟩:=aDa k _ x h1 (zU.2 ⟨ha,hf⟩) (fun y hy=>by
    rcases List.mem_append.1 hy with hy | hy
    ·exact hr y hy
    ·rw[List.mem_singleton]at hy; subst hy; omega)
   refine⟨a,c,by rw[d]; simp; omega,?_⟩
   have:=congrArg (List.take out.length) e
   rw[List.take_take]at this
   simpa using this
  ·cases h1
def befD:List Int→List Int→Bool
 | a::r,b::s=>if a=b then befD r s else decide (a<b)
 | _,_=>false
theorem aAY{l:List aU}{bs:Nat}:∀(k:Nat) (out y:List Int),kW l (out++y)→zX bs y→y.length=k→∃x,bsD l bs k out=some (out++x)∧x.length=k∧befD y x=false
 | 0,out,y,ha,hr,hk=>⟨[],by simp[bsD],rfl,by cases y<;>rfl⟩
 | k+1,out,[],ha,hr,hk=>by simp at hk
 | k+1,out,b::y,ha,hr,hk=>by
  have ha':kW l ((out++[b])++y):=by simpa using ha
  have hb:0≤b∧b<bs:=hr b (by simp)
  obtain⟨x,hx,hxl,hx2⟩:=aAY k (out++[b]) y ha' (fun z hz=>hr z (by simp[hz])) (by simpa using hk)
  have hpre:∀m:Nat,∀p:List Int,kW l (p++y.take m)→kW l p:=by
   intro m p h i hi j hj e
   exact h i (by simp; omega) j hj (by rw[dR hi,dR (by omega),e])
  have hf:zK l out b=true:=(zU.1 (hpre y.length _ (by simpa using ha'))).2
  have hG:∀c:Nat,∀z,(if zK l out (c:Int)then bsD l bs k (out++[(c:Int)])else none)=some z→∃x',z=out++((c:Int)::x')∧x'.length=k:=by
   intro c z hz
   split at hz
   ·rename_i hc
    have:∀(k:Nat) (out z:List Int),bsD l bs k out=some z→∃x',z=out++x'∧x'.length=k:=by
     intro k
     induction k with
     | zero=>intro out z h; simp only[bsD,Option.some.injEq]at h; exact⟨[],by simp[h]⟩
     | succ k ih=>
      intro out z h
      simp only[bsD]at h
      obtain⟨b',_,h1⟩:=List.exists_of_findSome?_eq_some h
      split at h1
      ·obtain⟨x',rfl,hl⟩:=ih _ _ h1; exact⟨(b':Int)::x',by simp,by simp[hl]⟩
      ·cases h1
    obtain⟨x',rfl,hl⟩:=this k _ z hz
    exact⟨x',by simp,hl⟩
   ·cases hz
  obtain⟨n,rfl⟩:∃n:Nat,b=n:=⟨b.toNat,by omega⟩
  have hlt:n<bs:=by omega
  cases hd:bsD l bs (k+1) out with
  | none=>
   exfalso
   simp only[bsD,List.findSome?_eq_none_iff,List.mem_range]at hd
   have:=hd n hlt
   rw[if_pos hf,hx]at this; cases this
  | some z=>
   simp only[bsD]at hd
   rw[List.findSome?_eq_some_iff]at hd
   obtain⟨l1,c,l2,e,hz,hno⟩:=hd
   obtain⟨x',rfl,hl⟩:=hG c z hz
   refine⟨_,rfl,by simp[hl],?_⟩
   have hc:c=l1.length:=by
    have h1:=congrArg (fun q=>q[l1.length]?) e
    have hlen:=congrArg List.length e
    simp only[List.length_range,List.length_append,List.length_cons]at hlen
    simp only[List.getElem?_range (show l1.length<bs by omega)]at h1
    simp at h1; omega
   have hcn:c≤n:=by
    refine Nat.le_of_not_lt fun hlt'=> ?_
    have hmem:n∈l1:=by
     have:(List.range bs)[n]? = some n:=by simp[hlt]
     rw[e,qH (by omega)]at this
     exact List.mem_of_getElem? this
    have:=hno n hmem
    rw[if_pos hf,hx]at this; cases this
   simp only[befD]
   split
   ·rename_i hh
    obtain rfl:n=c:=by omega
    rw[if_pos hf,hx]at hz
    simp only[Option.some.injEq,List.append_assoc,List.singleton_append,List.append_cancel_left_eq,List.cons.injEq,true_and]at hz
    rw[←hz]; exact hx2
   ·simp; omega
theorem sJ{t:Int}:∀(l:List aU) (i:Nat) (x:Int),x∈fU t l i↔∃j,j<l.length∧eM (cV l j) t=true∧x=((i+j:Nat):Int)
 | [],i,x=>by simp[fU]
 | s::r,i,x=>by
  have key:(∃j,j<(s::r).length∧eM (cV (s::r) j) t=true∧x=((i+j:Nat):Int))↔(eM s t=true∧x=i)∨∃j,j<r.length∧eM (cV r j) t=true∧x=((i+1+j:Nat):Int):=by
   constructor
   ·rintro⟨j,hj,h1,h2⟩
    cases j with
    | zero=>exact .inl ⟨h1,by omega⟩
    | succ j=>exact .inr ⟨j,by simpa using hj,h1,by omega⟩
   ·rintro(⟨h1,h2⟩ | ⟨j,hj,h1,h2⟩)
    ·exact⟨0,by simp,h1,by omega⟩
    ·exact⟨j+1,by simpa using hj,h1,by omega⟩
  rw[key,fU]
  split
  ·rename_i h; rw[List.mem_cons,sJ r (i+1)]; simp[h]
  ·rename_i h; rw[sJ r (i+1)]; simp[h]
theorem aGP{l:List aU}{t x:Int}:x∈pM l t↔∃j,j<l.length∧eM (cV l j) t=true∧x=(j:Int):=by
 simp[pM,sJ]
theorem yR{α} [DecidableEq α]:∀ {a b:List α},a.Nodup→(∀x∈a,x∈b)→a.length≤b.length
 | [],b,_,_=>by simp
 | x::a,b,hn,h=>by
  rw[List.nodup_cons]at hn
  have hx:=h x (by simp)
  have:=yR (a:=a) (b:=b.erase x) hn.2 fun y hy=>by
   rw[List.mem_erase_of_ne (show y≠x from fun e=>hn.1 (e▸hy))]; exact h y (by simp[hy])
  rw[List.length_erase_of_mem hx]at this
  have:0<b.length:=List.length_pos_of_mem hx
  simp; omega
theorem aJE{bs:Nat}{l:List Int}(h:l.length<bs):∃b:Nat,b<bs∧(b:Int)∉l:=by
 refine Classical.byContradiction fun hc=> ?_
 have:((List.range bs).map fun n:Nat=>(n:Int)).length≤l.length:=yR (by
  rw[List.nodup_iff_pairwise_ne,List.pairwise_map]
  exact List.pairwise_lt_range.imp fun h=>by omega) (by
  intro x hx
  obtain⟨b,hb,rfl⟩:=List.mem_map.1 hx
  exact Classical.byContradiction fun hn=>hc ⟨b,List.mem_range.1 hb,hn⟩)
 simp at this; omega
theorem aJb{f:Nat→Int}:∀l:List Nat,l≠[]→∃i∈l,∀j∈l,f j≤f i
 | [x],_=>⟨x,by simp,by simp⟩
 | x::y::r,_=>by
  obtain⟨i,hi,hm⟩:=aJb (f:=f) (y::r) (by simp)
  by_cases h:f x≤f i
  ·exact⟨i,by simp[List.mem_cons.1 hi],fun j hj=>by
    rcases List.mem_cons.1 hj with rfl | hj
    ·exact h
    ·exact hm j hj⟩
  ·exact⟨x,by simp,fun j hj=>by
    rcases List.mem_cons.1 hj with rfl | hj
    ·omega
    ·have:=hm j hj; omega⟩
theorem yW(a b:aU):fK a b=fK b a:=by simp[fK,Bool.or_comm]
theorem aF8{l:List aU}{bs:Nat}(hl:∀s∈l,hJ s=true)(hc:∀s∈l,(pM l s.cl).length≤bs) :
 ∀(m:Nat) (I:List Nat),I.length=m→I.Nodup→(∀i∈I,i<l.length)→∃c:Nat→Nat,(∀i∈I,c i<bs)∧∀i∈I,∀j∈I,i≠j→fK (cV l i) (cV l j)=true→c i≠c j
 | 0,I,h0,_,_=>by
  obtain rfl:I=[]:=List.length_eq_zero_iff.1 h0
  exact⟨fun _=>0,by simp,by simp⟩
 | m+1,I,hm,hn,hi=>by
  obtain⟨i,hiI,hmax⟩:=aJb (f:=fun j=>(cV l j).cl) I (by intro e; simp[e]at hm)
  obtain⟨c,c1,c2⟩:=aF8 hl hc m (I.erase i) (by rw[List.length_erase_of_mem hiI]; omega) (hn.erase i) fun j hj=>hi j (List.mem_of_mem_erase hj)
  have ht:∀j∈I,fK (cV l j) (cV l i)=true→eM (cV l j) (cV l i).cl=true:=by
   intro j hj h
   have h1:=hmax j hj
   have h2:∀k∈I,(cV l k).cl≤(cV l k).gh:=fun k hk=>by
    have:cV l k∈l:=by
     have:=hi k hk
     simp only[cV,List.getD_eq_getElem?_getD,qA this,Option.getD_some]
     exact qG this
    have:=nM.1 (hl _ this); omega
   have:=h2 j hj; have:=h2 i hiI
   simp only[fK,eM,inB,Bool.or_eq_true,Bool.and_eq_true,decide_eq_true_eq]at h ⊢
   omega
  have hself:eM (cV l i) (cV l i).cl=true:=ht i hiI (by
   have:cV l i∈l:=by
    have:=hi i hiI
    simp only[cV,List.getD_eq_getElem?_getD,qA this,Option.getD_some]
    exact qG this
   have:=nM.1 (hl _ this)
   simp only[fK,eM,inB,Bool.or_eq_true,Bool.and_eq_true,decide_eq_true_eq]; omega)
  obtain⟨N,hN⟩:∃N,N=(I.erase i).filter fun j=>fK (cV l j) (cV l i):=⟨_,rfl⟩
  have hlen:N.length<bs:=by
   have h1:((i::N).map fun n:Nat=>(n:Int)).length≤(pM l (cV l i).cl).length:=yR (by
    rw[List.nodup_iff_pairwise_ne,List.pairwise_map]
    have:(i::N).Nodup:=by
     rw[List.nodup_cons,hN]
     refine⟨fun h=> ?_,(hn.erase i).filter _⟩
     have:=(List.mem_filter.1 h).1
     rw[hn.mem_erase_iff]at this
     exact this.1 rfl
    exact this.imp fun h=>by omega) (by
    intro x hx
    obtain⟨j,hj,rfl⟩:=List.mem_map.1 hx
    rw[aGP]
    rcases List.mem_cons.1 hj with rfl | hj
    ·exact⟨j,hi _ hiI,hself,rfl⟩
    ·rw[hN,List.mem_filter]at hj
     have hjI:=List.mem_of_mem_erase hj.1
     exact⟨j,hi _ hjI,ht j hjI hj.2,rfl⟩)
   have h2:=hc (cV l i) (by
    have:=hi i hiI
    simp only[cV,List.getD_eq_getElem?_getD,qA this,Option.getD_some]
    exact qG this)
   simp at h1; omega
  obtain⟨b,hb,hbf⟩:=aJE (bs:=bs) (l:=N.map fun j=>(c j:Int)) (by simpa using hlen)
  have hfree:∀j∈I,j≠i→fK (cV l j) (cV l i)=true→c j≠b:=by
   intro j hj hne h e
   refine hbf (List.mem_map.2 ⟨j,?_,by rw[e]⟩)
   rw[hN,List.mem_filter,hn.mem_erase_iff]
   exact⟨⟨hne,hj⟩,h⟩
  refine⟨fun j=>if j=i then b else c j,fun j hj=> ?_,fun j hj k hk hne h=> ?_⟩
  ·by_cases e:j=i
   ·simp[e,hb]
   ·simp only[e,if_false]; exact c1 j (by rw[hn.mem_erase_iff]; exact⟨e,hj⟩)
  ·by_cases ej:j=i
   ·subst ej
    have ek:k≠j:=fun e=>hne e.symm
    simp only[if_true,ek,if_false]
    exact fun e=>hfree k hk ek (by rw[yW]; exact h) e.symm
   ·by_cases ek:k=i
    ·subst ek
     simp only[ej,if_false,if_true]
     exact hfree j hj ej h
    ·simp only[ej,ek,if_false]
     exact c2 j (by rw[hn.mem_erase_iff]; exact⟨ej,hj⟩) k (by rw[hn.mem_erase_iff]; exact⟨ek,hk⟩) hne h
theorem aEF{l:List aU}{bs:Nat}(hl:∀s∈l,hJ s=true)(hc:nI l bs=none):∃y,kW l y∧zX bs y∧y.length=l.length:=by
 have hc':∀s∈l,(pM l s.cl).length≤bs:=fun s hs=>by
  simp only[nI,List.find?_eq_none]at hc
  have:=hc s.cl (aDF.2 ⟨s,hs,rfl⟩)
  simp only[aAD,decide_eq_true_eq]at this; omega
 obtain⟨c,c1,c2⟩:=aF8 hl hc' l.length (List.range l.length) (by simp) List.nodup_range (by simp)
 have hg:∀i,i<l.length→((List.range l.length).map fun i=>(c i:Int)).getD i 0=c i:=fun i hi=>by simp[List.getD_eq_getElem?_getD,hi]
 refine⟨(List.range l.length).map fun i=>(c i:Int),fun i hi k hk e=> ?_,fun x hx=> ?_,by simp⟩
 ·simp only[List.length_map,List.length_range]at hi
  rw[hg i hi,hg k (by omega)]at e
  cases hm:fK (cV l k) (cV l i)
  ·rfl
  ·exact absurd (by omega) (c2 k (by simp; omega) i (by simp[hi]) (by omega) hm)
 ·obtain⟨i,hi,rfl⟩:=List.mem_map.1 hx
  have:=c1 i hi; omega
theorem aKe{a b:aU}(ha:hJ a=true)(hb:hJ b=true):fK a b=(decide (a.cl≤b.gh)&&decide (b.cl≤a.gh)):=by
 have h1:=nM.1 ha
 have h2:=nM.1 hb
 rw[Bool.eq_iff_iff]
 simp only[fK,eM,inB,Bool.or_eq_true,Bool.and_eq_true,decide_eq_true_eq]
 omega
end Go.Proofs.Ab
namespace Go.Proofs.Ab
open Go Go.Proofs
variable {w0:World} {h:Heap}
attribute [local irreducible] ACall bE cR aK bI rvC lp rg dr ex un rv
theorem aF7(a b lo hi:Int):aK Tryz.prog w0 130 [.agg [.int .i64 a,.int .i64 b],.int .i64 lo,.int .i64 hi] h (.bool (decide (lo≤a)&&(decide (a≤b)&&decide (b≤hi)))) h:=by
 refine aM aNq fun hb ha=> ?_
 simp only[go_sem,mf130]
 exact⟨fun x=>⟨fun y=>by simp[x,y],fun y=>by simp[x,y]⟩,fun x=>by simp[x]⟩
theorem aA6(s:aU)(t:Int):aK Tryz.prog w0 135 [.agg s.c,.int .i64 t] h (.bool (eM s t)) h:=by
 refine aM aNl fun hb ha=> ?_
 simp only[go_sem,mf135]
 refine aC (din_c t s.cl s.gh).v ?_
 simp only[go_sem]
 rfl
theorem meet_c(a b:aU):aK Tryz.prog w0 73 [.agg a.c,.agg b.c] h (.bool (fK a b)) h:=by
 refine aM mf73_k fun hb ha=> ?_
 simp only[go_sem,mf73]
 refine aC (aA6 a b.cl).v ?_
 cases e:eM a b.cl with
 | true=>simp only[go_sem]; simp[fK,e]
 | false=>
 simp only[go_sem]
 refine aC (aA6 b a.cl).v ?_
 simp only[go_sem]
 simp[fK,e]
theorem aGA(s:aU):aK Tryz.prog w0 129 [.agg s.c] h (.bool (hJ s)) h:=by
 refine aM aNr fun hb ha=> ?_
 have s1:∀ {H:Heap},aK Tryz.prog w0 130 [.agg [.int .i64 s.cl,.int .i64 s.ch],.int .i64 0,.int .i64 1440] H (.bool (oL s.cl s.ch 0 1440)) H:=by
  intro H
  have:=aF7 (w0:=w0) (h:=H) s.cl s.ch 0 1440
  rwa [show oL s.cl s.ch 0 1440=(decide (0≤s.cl)&&(decide (s.cl≤s.ch)&&decide (s.ch≤1440)))from rfl]
 have s2:∀ {H:Heap},aK Tryz.prog w0 130 [.agg [.int .i64 s.gl,.int .i64 s.gh],.int .i64 0,.int .i64 1440] H (.bool (oL s.gl s.gh 0 1440)) H:=by
  intro H
  have:=aF7 (w0:=w0) (h:=H) s.gl s.gh 0 1440
  rwa [show oL s.gl s.gh 0 1440=(decide (0≤s.gl)&&(decide (s.gl≤s.gh)&&decide (s.gh≤1440)))from rfl]
 simp only[go_sem,mf129]
 refine aC s1.v ?_
 cases e1:oL s.cl s.ch 0 1440 with
 | false=>simp only[go_sem]; simp[hJ,e1]
 | true=>
 simp only[go_sem]
 refine aC s2.v ?_
 cases e2:oL s.gl s.gh 0 1440 with
 | false=>simp only[go_sem]; simp[hJ,e2]
 | true=>
 simp only[go_sem]
 exact⟨fun a=>by simp[hJ,e1,e2,a],fun a=>by simp[hJ,a]⟩
def jU(l:List aU)(bs:Int):Int:=if 12<l.length then 3 else cond (inB bs 0 6&&l.all hJ) 0 2
theorem aIi(bs:Int){v:AV}{l:List aU}(hv:Sl w0 h 4 v (l.map aU.c)):aK Tryz.prog w0 70 [v,.int .i64 bs] h (.int .i64 (jU l bs)) h:=by
 refine aM mf70_k fun hb ha=> ?_
 have hlen:dA v=some (.int .i64 l.length):=by have:=hv.use.1; rwa [List.length_map]at this
 by_cases hL:12<l.length
 ·have e1:(l.length:Int)>12:=by omega
  simp only[go_sem,mf70,hlen,e1]
  rw[jU,if_pos hL]
 have e1:¬(l.length:Int)>12:=by omega
 simp only[go_sem,mf70,hlen,e1]
 refine aC (din_c bs 0 6).v ?_
 rw[jU,if_neg hL]
 cases e2:inB bs 0 6 with
 | false=>simp only[go_sem]; simp
 | true=>
 simp only[go_sem]
 have hall:=aAk (w0:=w0) (h:=h++[]) (l.map aU.c) v (.fn (.func 129) [] []) (fun j=>hJ (l.getD j ⟨0,0,0,0⟩)) hv.app (fun c hc=>by
  obtain⟨z,_,rfl⟩:=List.mem_map.1 hc; rfl) (by rw[List.length_map]; omega) (fun j c hc _ L=>by
  rw[List.getElem?_map]at hc
  obtain⟨z,hz,rfl⟩:=qD.1 hc
  rw[aJA hz]
  exact aK.vc (P:=Tryz.prog) (first:=[]) (capt:=[]) (aGA z))
 rw[List.length_map,aDR]at hall
 refine aC hall.v ?_
 cases e3:l.all hJ with
 | false=>simp only[go_sem]; simp
 | true=>simp only[go_sem]; simp
theorem aGz{l:List aU}{bs:Int}(e:jU l bs=0):l.length≤12∧(0≤bs∧bs≤6)∧l.all hJ=true:=by
 unfold jU at e
 split at e
 ·omega
 ·cases h2:inB bs 0 6&&l.all hJ with
  | false=>rw[h2]at e; simp at e
  | true=>
   rw[Bool.and_eq_true,inB,Bool.and_eq_true,decide_eq_true_eq,decide_eq_true_eq]at h2
   exact⟨by omega,h2⟩
theorem mQ{l:List aU}{j:Nat}(hj:j<l.length):(l.map aU.c)[j]? = some l[j].c:=by rw[List.getElem?_map,qA hj]; rfl
theorem pL(t:Int)(s:aU):∀(l:List aU) (i:Nat),fU t (l++[s]) i=fU t l i++(if eM s t then [((i+l.length:Nat):Int)]else [])
 | [],i=>by simp[fU]
 | a::l,i=>by
  have:=pL t s l (i+1)
  rw[show i+1+l.length=i+(a::l).length by simp; omega]at this
  simp only[List.cons_append,fU,this]
  split<;>simp
theorem yN(t:Int):∀(l:List aU) (i:Nat),(fU t l i).length≤l.length
 | [],_=>by simp[fU]
 | a::l,i=>by
  have:=yN t l (i+1)
  simp only[fU]; split<;>simp<;>omega
theorem Gro.len{H:Heap}{es n:Nat}{ov:AV}{vs:List AV}(g:Gro h H es n ov vs):dA ov=some (.int .i64 n):=by
 rcases g.own with⟨rfl,rfl,_⟩ | ⟨_,_,_,rfl,_⟩<;>rfl
theorem aGO(t:Int){v:AV}{l:List aU}(hv:Sl w0 h 4 v (l.map aU.c))(hn:l.length<1000) :
 ACall Tryz.prog w0 134 [v,.int .i64 t] h fun y H=>Gro h H 1 (pM l t).length y (aN (pM l t)):=by
 refine aO aNm fun hb ha=> ?_
 have hlen:dA v=some (.int .i64 l.length):=by have:=hv.use.1; rwa [List.length_map]at this
 simp only[go_sem,mf134,hlen]
 refine fF (S:=Nat×Heap×AV) (F:=fun s=>[(1,.int .i64 t),(5,s.2.2),(8,v),(9,.int .i64 l.length),(10,.int .i64 s.1)]) (H:=fun s=>s.2.1) (meas:=fun s=>l.length - s.1)
  (Inv:=fun s=>s.1≤l.length∧Gro h s.2.1 1 (fU t (l.take s.1) 0).length s.2.2 (aN (fU t (l.take s.1) 0))) (0,h,.nilS) ⟨Nat.zero_le _,by simpa[fU,aN]using Gro.nil aB.refl⟩ rfl (by simp) ?_
 rintro⟨j,H,ov⟩ ⟨hj,hG⟩ ih
 simp only at hj hG ih ⊢
 refine aP [1,5,8,9,10] aLz.eq_1 ?_
 by_cases hjl:j<l.length
 ·have e1:(j:Int)<l.length:=by omega
  obtain⟨_,q,hix,hrow,_⟩:=(hv.sub hG.sub).use
  rw[List.length_map]at hix
  have e2:=hix j hjl
  have e3:∀L,rdn w0 (H++L) (q.add (j*4)) 4=some l[j].c:=fun L=>cK (hrow j _ (mQ hjl))
  have e3':=hrow j _ (mQ hjl)
  have hs:=pL t l[j] (l.take j) 0
  rw[←List.take_succ_eq_append_getElem hjl,List.length_take,Nat.min_eq_left hj,Nat.zero_add]at hs
  simp only[go_sem,e1,e2,e3,e3']
  refine aC (aA6 l[j] t).v ?_
  cases e4:eM l[j] t with
  | false=>
   rw[e4]at hs
   simp only[go_sem]
   refine⟨(by unfold I64; omega),ih (j+1,_,ov) ⟨by simp only; omega,by rw[hs]; simpa using hG.app⟩ (by simp only; omega)⟩
  | true=>
   rw[e4]at hs
   obtain⟨X,eX⟩:∃X,X=H++[some (.row l[j].c),some (.row [.int .i64 j])]:=⟨_,rfl⟩
   have gX:Gro h X 1 (fU t (l.take j) 0).length ov (aN (fU t (l.take j) 0)):=eX▸hG.app
   have hk:X[H.length+1]? = some (some (.row [.int .i64 j])):=by rw[eX,qI (by omega)]; simp
   have hpl:=yN t (l.take j) 0
   rw[List.length_take]at hpl
   obtain⟨G,e5,e6⟩:=gX.more (w0:=w0) (b:=8) (f:=true) hk rfl rfl (by omega) (by omega)
   simp only[go_sem]
   simp only[aU.c]at eX
   rw[←eX,e5]
   simp only[go_sem]
   refine⟨(by unfold I64; omega),ih (j+1,G,_) ⟨by simp only; omega,?_⟩ (by simp only; omega)⟩
   rw[hs]
   simpa[aN]using e6
 ·have e1:¬(j:Int)<l.length:=by omega
  obtain rfl:j=l.length:=by omega
  simp only[go_sem,e1]
  simpa[List.take_length,pM]using hG
theorem aEo(t bs:Int){p q:Pl}{v:AV}{l:List aU}(hp:rd w0 h p=some v)(hq:rd w0 h q=some (.int .i64 bs))(hv:Sl w0 h 4 v (l.map aU.c))(hn:l.length<1000) :
 aK Tryz.prog w0 133 [.int .i64 t,.ptr p,.ptr q] h (.bool (aAD l bs t)) h:=by
 refine cJ trivial (aO aNn fun hb ha=> ?_)
 have e2:∀L,rd w0 (h++L) q=some (.int .i64 bs):=fun L=>fT hq
 simp only[go_sem,mf133]
 refine iS dE [0,1,4,2,3,5,6] [o_ 5 (l_ 1),o_ 6 (m_ 0),o_ 9 (l_ 2),.call (some 7) none (f_ 134) [(.t 5),(.t 6)]] [([(2,o_ 9 (l_ 2))],[o_ 8 (.len (.t 7)),o_ 10 (.bin .gtr (.t 8) (.t 9)),o_ 4 (m_ 10)])] rfl rfl (by kernel_rfl) ?_
 have e1:∀L,rd w0 (h++L) p=some v:=fun L=>fT hp
 simp only[go_sem,e1,e2]
 rw[List.append_nil]
 refine aJ (ACall.vc (first:=[]) (args:=[v,.int .i64 t]) (aGO t hv hn)) ?_
 intro y H hG
 have hq':=hG.sub.rd hq
 have e3:∀L,rd w0 (H++L) q=some (.int .i64 bs):=fun L=>fT hq'
 simp only[go_sem,hq',e3,hG.len,true_and]
 exact⟨hG.sub,rfl⟩
def IV(x:Int)(_:Heap)(args:List AV):Prop:=args=[.int .i64 x]
theorem aGt{C:List Nat}{q:Nat}{p:Pl}{v:AV}{l:List Int}{K:Heap→Prop}(hp:rd w0 (msk C h) p=some v)(hv:SlI w0 (msk C h) v l)(hn:l.length≤1000)
 (hI:dC Tryz.prog w0 q C IV (· = []) K l [] h):ACall Tryz.prog w0 184 [.yld q,.ptr p] h fun _ H=>K H:=by
 refine aO aMz fun hb ha=> ?_
 have e0:∀L,rd w0 (h++L) p=some v:=fun L=>fT (bD.rd hp)
 have hlen:=(SlI.use hv).1
 simp only[go_sem,mf184,e0,hlen]
 refine fF (S:=Nat×Heap) (F:=fun s=>[(0,.yld q),(5,v),(6,.int .i64 l.length),(7,.int .i64 s.1)]) (H:=fun s=>s.2) (meas:=fun s=>l.length - s.1)
  (Inv:=fun s=>s.1≤l.length∧Keep C h s.2∧dC Tryz.prog w0 q C IV (· = []) K (l.drop s.1) [] s.2) (0,h) ⟨Nat.zero_le _,Keep.refl,hI⟩ rfl (by simp) ?_
 rintro⟨j,H⟩ ⟨hj,kH,iH⟩ ih
 simp only at hj kH iH ih ⊢
 refine aP [0,5,6,7] aLt.eq_1 ?_
 by_cases hjl:j<l.length
 ·have e1:(j:Int)<l.length:=by omega
  have hvH:=Sl.sub hv ((kH.msk (ms:=C) fun i hi=> .inl hi).trans (bD (ms:=C)))
  obtain⟨pp,i1,r1,r1'⟩:=SlI.at_ hvH hjl
  rw[List.drop_eq_getElem_cons hjl]at iH
  simp only[go_sem,e1,i1,r1,r1']
  refine aJ (dC.call iH Keep.refl [] rfl (fun i hi=>by cases hi) (fun i hi=>by cases hi) rfl) ?_
  rintro y G1 ⟨k1,r1⟩
  have k2:Keep C h G1:=kH.trans k1
  rcases r1 with⟨rfl,it⟩ | ⟨rfl,kk⟩
  ·simp only[go_sem]
   exact⟨(by unfold I64; omega),ih (j+1,G1) ⟨by simp only; omega,k2,it⟩ (by simp only; omega)⟩
  ·simp only[go_sem]
   exact kk _ Keep.refl
 ·have e1:¬(j:Int)<l.length:=by omega
  obtain rfl:j=l.length:=by omega
  rw[List.drop_length]at iH
  simp only[go_sem,e1]
  exact iH _ Keep.refl
def mD(o:Option Int):AV:=match o with
 | some d=> .tup [.int .i64 d,.bool true]
 | none=> .tup [.int .i64 0,.bool false]
theorem aCY{p:Pl}{v fv:AV}{l:List Int}(P:Int→Bool)(hp:rd w0 h p=some v)(hv:SlI w0 h v l)(hn:l.length≤1000)(hfo:cellsOf fv=some [fv])
 (hf:∀d∈l,∀H,aB h H→bI Tryz.prog w0 fv [.int .i64 d] H (.bool (P d)) H) :
 aK Tryz.prog w0 131 [.fn (.func 184) [] [.ptr p],fv] h (mD (l.find? P)) h:=by
 have hbv:∀N,(mD (l.find? P)).bdd N:=fun N=>by unfold mD; split<;>simp[AV.bdd,AV.bdds]
 refine cJ (hbv _) (aO aNp fun hb ha=> ?_)
 simp only[go_sem,mf131,hfo]
 refine lD [3,4,5,8] ?_
 simp only[go_sem]
 refine oE (fid:=184) (first:=[]) rfl (.inl rfl) fun hca hcb hps=> ?_
 simp only[go_sem]
 obtain⟨N,eN⟩:∃N,N=h.length:=⟨_,rfl⟩
 obtain⟨LB,hLB⟩:∃LB:LoopState→Option Code→Blk,LB=Blk.loop 15 [(3,AV.ptr (Pl.own (List.length h) 0)),(4,AV.ptr (Pl.own (List.length h+1) 0)),(5,AV.ptr (Pl.own (List.length h+2) 0)),(8,AV.fn (Fn.func 184) [] [AV.ptr p])] #[9] (aV (bJ 131) [1,0,1,0,0]) (aV (bJ 131) [1,0,1,0,1]):=⟨_,rfl⟩
 rw[←hLB]
 obtain⟨C,eC⟩:∃C,C=[N+1,N+2,N+3]:=⟨_,rfl⟩
 obtain⟨G0,eG0⟩:∃G0:Heap,G0=h++[some (.row [fv]),some (.row [.int .i64 0]),some (.row [.bool false]),some (LB .ready none)]:=⟨_,rfl⟩
 have hm:aB h (msk C G0):=by
  rw[eG0]
  refine⟨by rw[cD]; simp,fun i b e=> ?_⟩
  have:=aD e
  rw[aT (by rw[eC]; simp; omega)]; exact aA e
 rw[←eG0,←eN]
 refine aGt (C:=C) (hm.rd hp) (Sl.sub hv hm) hn ?_
 have claim:∀(r:List Int),(∀d∈r,d∈l)→l.find? P=r.find? P→∀H,aB h H→H[N]? = some (some (.row [fv]))→H[N+1]? = some (some (.row [.int .i64 0]))→H[N+2]? = some (some (.row [.bool false]))→H[N+3]? = some (some (LB .ready none)) →
  dC Tryz.prog w0 (N+3) C IV (· = []) (fun h'=>rgE Tryz.prog w0 none 15 N (resK w0 [RV.c 4 none,RV.c 5 none] fun v' h'=>aB h h'∧v'=mD (List.find? P l))
  [It.inBlk 0,It.code ((SC.reg [MIx.op (some 7) none (MOp.mov (Opd.k (AV.int IntKind.i64 0)))]).seq ((SC.reg [MIx.op (some 14) none (MOp.mov (Opd.t 7)),MIx.op none none (MOp.store (Opd.t 4) (Opd.t 14) 1),MIx.op none none (MOp.store (Opd.t 5) (Opd.k (AV.bool false)) 1)]).seq SC.ret))]
  [(3,AV.ptr (Pl.own N 0)),(4,AV.ptr (Pl.own (N+1) 0)),(5,AV.ptr (Pl.own (N+2) 0)),(8,AV.fn (Fn.func 184) [] [AV.ptr p])] h'[N+3]? (List.set h' (N+3) none)) r [] H:=by
  intro r
  induction r with
  | nil=>
   intro hr hfd H sH g0 g1 g2 g3 H2 kp
   have f1:=kp.at_ _ _ (by simp) g1
   have f2:=kp.at_ _ _ (by simp) g2
   have f3:=kp.at_ _ _ (by simp) g3
   have s2:aB h H2:=⟨Nat.le_trans sH.1 kp.le,fun i b e=>kp.at_ _ _ (by simp) (sH.2 _ _ e)⟩
   obtain⟨X,eX⟩:∃X,X=H2.set (N+3) none:=⟨_,rfl⟩
   have lX:X.length=H2.length:=by rw[eX,List.length_set]
   have q3:=aD f3
   have x1:X[N+1]? = some (some (.row [.int .i64 0])):=by rw[eX,qB (by omega)]; exact f1
   have x2:∀b,(X.set (N+1) b)[N+2]? = some (some (.row [.bool false])):=fun b=>by
    rw[qB (by omega),eX,qB (by omega)]; exact f2
   have x3:∀b b',((X.set (N+1) b).set (N+2) b')[N+1]? = some b:=fun b b'=>by
    rw[qB (by omega),qF (by omega)]
   have x4:∀b b',((X.set (N+1) b).set (N+2) b')[N+2]? = some b':=fun b b'=>by
    rw[qF (by simp; omega)]
   simp only[f3,←eX,hLB]
   simp only[go_sem,x1,x2,x3,x4]
   have s3:aB h X:=by rw[eX]; exact s2.setR (by omega)
   exact⟨(s3.setR (by omega)).setR (by omega),by rw[hfd]; rfl⟩
  | cons x r ih=>
   intro hr hfd H sH g0 g1 g2 g3 H2 args O2 hO kp hO1 hO2 hV
   subst hV
   have f0:=kp.at_ _ _ (by simp) g0
   have f1:=kp.at_ _ _ (by simp) g1
   have f2:=kp.at_ _ _ (by simp) g2
   have f3:=kp.at_ _ _ (by simp) g3
   have s2:aB h H2:=⟨Nat.le_trans sH.1 kp.le,fun i b e=>kp.at_ _ _ (by simp) (sH.2 _ _ e)⟩
   have q3:=aD f3
   have f3':=f3
   rw[hLB,←eN]at f3'
   refine hE (psl:=[9]) dE rfl aHT aHS aBU.eq_1 aBT.eq_1 f3' rfl hps hca hcb fun hb2 ha2=> ?_
   obtain⟨LY,hLY⟩:∃b,b=Blk.loop 15 [(3,AV.ptr (Pl.own N 0)),(4,AV.ptr (Pl.own (N+1) 0)),(5,AV.ptr (Pl.own (N+2) 0)),(8,AV.fn (Fn.func 184) [] [AV.ptr p])] #[9] (aV (bJ 131) [1,0,1,0,0]) (aV (bJ 131) [1,0,1,0,1]) LoopState.busy none:=⟨_,rfl⟩
   simp only[go_sem,f3']
   rw[←hLY]
   obtain⟨Y,eY⟩:∃Y,Y=H2.set (N+3) (some LY):=⟨_,rfl⟩
   have lY:Y.length=H2.length:=by rw[eY]; simp
   have old:∀(i:Nat) b,i≠N+3→H2[i]? = some (some b)→Y[i]? = some (some b):=fun i b hi e=>by
    rw[eY,qB (fun e=>hi e.symm)]; exact e
   have y0:=old _ _ (by omega) f0
   have y1:=old _ _ (by omega) f1
   have y2:=old _ _ (by omega) f2
   have y3:Y[N+3]? = some (some LY):=by rw[eY,qF (by omega)]
   have sY:aB h Y:=⟨by have:=s2.1; omega,fun i b e=>old i b (by have:=aD e; omega) (s2.2 _ _ e)⟩
   have kY:Keep C H2 Y:=⟨by omega,fun i b hi e=>old i b (fun e=>hi (by rw[eC,e]; simp)) e⟩
   rw[←eY]
   simp only[go_sem,y0]
   refine aC (hf x (hr x (by simp)) Y sY) ?_
   cases hP:P x with
   | true=>
    have y5:∀b,(Y.set (N+1) b)[N+2]? = some (some (.row [.bool false])):=fun b=>by rw[qB (by omega)]; exact y2
    have y6:∀b b',((Y.set (N+1) b).set (N+2) b')[N+3]? = some (some LY):=fun b b'=>by rw[qB (by omega),qB (by omega)]; exact y3
    simp only[go_sem,y1,y5,y6]
    refine⟨⟨_,_,by rw[hLY]⟩,?_⟩
    refine⟨((kY.set (.inl (by rw[eC]; simp))).set (.inl (by rw[eC]; simp))).set (.inl (by rw[eC]; simp)),.inr fun H4 k4=> ?_⟩
    subst hO
    have z1:=k4.at_ (N+1) (.row [AV.int IntKind.i64 x]) (by simp) (by rw[qB (by omega),qB (by omega),qF (by omega)])
    have z2:=k4.at_ (N+2) (.row [AV.bool true]) (by simp) (by rw[qB (by omega),qF (by simp; omega)])
    have z3:=k4.at_ (N+3) _ (by simp) (qF (by simp; omega))
    have z4:(H4.set (N+3) none)[N+1]? = some (some (.row [AV.int IntKind.i64 x])):=by rw[qB (by omega)]; exact z1
    have z5:(H4.set (N+3) none)[N+2]? = some (some (.row [AV.bool true])):=by rw[qB (by omega)]; exact z2
    have s4:aB h H4:=⟨by have:=k4.le; simp at this; have:=sY.1; omega,fun i b e=>k4.at_ _ _ (by simp) (by
     have:=aD e
     rw[qB (by omega),qB (by omega),qB (by omega)]; exact sY.2 _ _ e)⟩
    simp only[go_sem,z3,z4,z5]
    exact⟨s4.setR (by omega),by rw[hfd,List.find?_cons_of_pos hP]; rfl⟩
   | false=>
    simp only[go_sem,y3]
    refine⟨⟨_,_,by rw[hLY]⟩,?_⟩
    refine⟨kY.set (.inl (by rw[eC]; simp)),.inl ?_⟩
    subst hO
    refine ih (fun d hd=>hr d (by simp[hd])) (by rw[hfd,List.find?_cons_of_neg (by simp[hP])]) _ (sY.setR (by omega)) ?_ ?_ ?_ ?_
    ·rw[qB (by omega)]; exact y0
    ·rw[qB (by omega)]; exact y1
    ·rw[qB (by omega)]; exact y2
    ·rw[qF (by omega),hLB,←eN]
 refine claim _ (fun _ hd=>hd) rfl G0 (eG0▸aB.refl.app) ?_ ?_ ?_ ?_
 all_goals
  rw[eG0,eN,qI (by omega)]; simp
theorem aEh(o:Option Int)(N:Nat):(mD o).bdd N:=by unfold mD; split<;>simp[AV.bdd,AV.bdds]
theorem aDG(l:List aU):(pA l).length≤l.length:=by
 have:=aDE (l:=l.map (·.cl))
 simpa[pA]using this
theorem aEn(bs:Int){v:AV}{l:List aU}(hv:Sl w0 h 4 v (l.map aU.c))(hn:l.length≤12):aK Tryz.prog w0 71 [v,.int .i64 bs] h (mD (nI l bs)) h:=by
 refine cJ (aEh _ _) (aO mf71_k fun hb ha=> ?_)
 have o:=Sl.one hv
 simp only[go_sem,mf71,o.1,o.2]
 have a0:(h++[some (Blk.row [v]),some (.row [.int .i64 bs])])[h.length]? = some (some (.row [v])):=by rw[qI (by omega)]; simp
 have a1:(h++[some (Blk.row [v]),some (.row [.int .i64 bs])])[h.length+1]? = some (some (.row [.int .i64 bs])):=by rw[qI (by omega)]; simp
 refine aJ (ACall.vc (first:=[]) (args:=[v]) (aEu hv.app hn)) ?_
 rintro _ X ⟨sX',p,vv,rfl,hp,hvv⟩
 simp only[go_sem]
 have sX:aB h X:=aB.refl.app.trans sX'
 have x0:=sX'.2 _ _ a0
 have x1:=sX'.2 _ _ a1
 have hl:=aDG l
 have hfirst:=aCY (w0:=w0) (h:=X) (p:=p) (v:=vv) (fv:= .fn (.func 133) [] [.ptr (.own h.length 0),.ptr (.own (h.length+1) 0)]) (l:=pA l) (aAD l bs)
  hp hvv (by omega) rfl fun d hd H sH=>aK.vc (P:=Tryz.prog) (first:=[]) (capt:=[.ptr (.own h.length 0),.ptr (.own (h.length+1) 0)]) (aEo d bs (v:=v) (by simp[rd,sH.2 _ _ x0]) (by simp[rd,sH.2 _ _ x1]) (hv.sub (sX.trans sH)) (by omega))
 refine aC hfirst.v ?_
 rw[show(pA l).find? (aAD l bs)=nI l bs from rfl]
 cases nI l bs with
 | none=>
  simp only[go_sem,mD]
  exact sX
 | some t=>
  simp only[go_sem,mD]
  exact sX
theorem Keep.setN{o:Nat}{A B:Heap}(k:Keep [o] A B):aB (A.set o none) B:=⟨by simpa using k.le,fun i b e=>by
 by_cases hi:o=i
 ·subst hi
  have:=aD e
  rw[List.length_set]at this
  rw[qF this]at e; cases e
 ·rw[qB hi]at e
  exact k.at_ _ _ (by simp only[List.mem_singleton]; exact fun x=>hi x.symm) e⟩
structure oS(h0 H:Heap)(o:Nat)(ov:AV)(out:List Int):Prop where
 keep:Keep [o] h0 H
 box:H[o]? = some (some (.row [ov]))
 val:(ov= .nilS∧out=[])∨∃io c,h0.length≤io∧ov= .sl (.own io 0) out.length 1 false∧H[io]? = some (some (.row c))∧out.length≤c.length∧c.take out.length=aN out
theorem oS.len{h0 H:Heap}{o:Nat}{ov:AV}{out:List Int}(a:oS h0 H o ov out):dA ov=some (.int .i64 out.length):=by
 rcases a.val with⟨rfl,rfl⟩ | ⟨io,c,_,rfl,_⟩<;>rfl
theorem oS.slI{h0 H:Heap}{o:Nat}{ov:AV}{out:List Int}(a:oS h0 H o ov out):SlI w0 H ov out:=by
 rcases a.val with⟨rfl,rfl⟩ | ⟨io,c,h1,rfl,h3,h4,h5⟩
 ·exact .inl ⟨rfl,rfl⟩
 ·refine .inr ⟨_,false,⟨1,by rw[List.length_map],mF⟩,by simp only[Pl.bdd]; exact aD h3,fun j d hd=> ?_⟩
  rw[List.getElem?_map,qD]at hd
  obtain⟨x,hx,rfl⟩:=hd
  have hj:=aD hx
  simp only[Pl.add,rdn,h3]
  rw[if_pos (by omega)]
  have:(c.take out.length)[j]? = (aN out)[j]? := by rw[h5]
  rw[List.getElem?_take,if_pos hj,aJr,hx]at this
  have hc:j<c.length:=by omega
  rw[qA hc]at this
  simp only[Option.map_some,Option.some.injEq]at this
  simp only[Nat.zero_add,Nat.mul_one,List.drop_eq_getElem_cons hc,this,List.take_succ_cons,List.take_zero]
theorem oS.app{h0 H L:Heap}{o:Nat}{ov:AV}{out:List Int}(a:oS h0 H o ov out):oS h0 (H++L) o ov out:=by
 refine⟨a.keep.app,aA a.box,?_⟩
 rcases a.val with h1 | ⟨io,c,h1,h2,h3,h4,h5⟩
 ·exact .inl h1
 ·exact .inr ⟨io,c,h1,h2,aA h3,h4,h5⟩
theorem oS.more{h0 H:Heap}{o k:Nat}{ov:AV}{out:List Int}(a:oS h0 H o ov out)(ho:o<h0.length){f:Bool}{x:Int}(hk:H[k]? = some (some (.row [.int .i64 x])))(hn:out.length≤1000) :
 ∃G,eD w0 H 1 8 ov (.sl (.own k 0) 1 1 f)=some (.sl (.own H.length 0) (out.length+1) 1 false,G)∧G[o]? = some (some (.row [ov]))∧G.length=H.length+1 ∧
  oS h0 (G.set o (some (.row [.sl (.own H.length 0) (out.length+1) 1 false]))) o (.sl (.own H.length 0) (out.length+1) 1 false) (out++[x]):=by
 have r1:rdn w0 H (.own k 0) (1*1)=some [.int .i64 x]:=by simp[rdn,hk]
 have hkl:=a.keep.le
 rcases a.val with⟨rfl,rfl⟩ | ⟨io,c,h1,rfl,h3,h4,h5⟩
 ·refine⟨H++[some (.row [.int .i64 x])],?_,aA a.box,by simp,(a.keep.app).set (.inl (by simp)),by rw[qF (by simp; omega)],.inr ⟨H.length,[.int .i64 x],by omega,rfl,?_,by simp,rfl⟩⟩
  ·simp only[eD,srcOf,mF,if_true,r1,Option.map_some,Option.bind_some]
   rw[if_neg (by omega),if_pos ⟨by omega,rfl⟩]
   simp[mN]
  ·rw[qB (by omega),qI (Nat.le_refl _),Nat.sub_self]; rfl
 ·have hio:=aD h3
  have r2:rdn w0 H (.own io 0) (out.length*1)=some (aN out):=by
   simp only[rdn,h3]
   rw[if_pos (by omega),List.drop_zero,Nat.mul_one,h5]
  rw[Nat.mul_one]at r2
  refine⟨H.set io none++[some (.row (aN out++[.int .i64 x]))],?_,aA (by rw[qB (by omega)]; exact a.box),by simp,?_,by rw[qF (by simp; omega)],.inr ⟨H.length,aN out++[.int .i64 x],by omega,by simp,?_,by simp,?_⟩⟩
  ·simp only[eD,srcOf,mF,if_true,r1,Option.map_some,Option.bind_some]
   rw[if_neg (by omega),if_pos ⟨trivial,by omega,rfl⟩]
   simp[r2]
  ·exact((a.keep.set (.inr h1)).app).set (.inl (by simp))
  ·rw[qB (by omega),qI (by simp)]; simp
  ·rw[List.take_of_length_le (by simp)]; simp[aN]
theorem oS.less{h0 H:Heap}{o:Nat}{ov:AV}{out:List Int}{x:Int}(a:oS h0 H o ov (out++[x]))(ho:o<h0.length):∃io,ov= .sl (.own io 0) (out.length+1) 1 false∧oS h0 (H.set o (some (.row [.sl (.own io 0) out.length 1 false]))) o (.sl (.own io 0) out.length 1 false) out:=by
 have hkl:=a.keep.le
 rcases a.val with⟨_,h1⟩ | ⟨io,c,h1,h2,h3,h4,h5⟩
 ·simp at h1
 ·simp only[List.length_append,List.length_singleton]at h2 h4 h5
  refine⟨io,h2,a.keep.set (.inl (by simp)),by rw[qF (by omega)],.inr ⟨io,c,h1,rfl,by rw[qB (by omega)]; exact h3,by omega,?_⟩⟩
  have:=congrArg (List.take out.length) h5
  rw[List.take_take,Nat.min_eq_left (by omega)]at this
  rw[this]; simp[aN]
structure BSt(w0:World)(h0:Heap)(o s b f:Nat)(v:AV)(l:List aU)(bs:Int):Prop where
 ol:o<h0.length
 so:s≠o
 bo:b≠o
 fo:f≠o
 bs':h0[s]? = some (some (.row [v]))
 bb:h0[b]? = some (some (.row [.int .i64 bs]))
 bf:h0[f]? = some (some (.row [.fn (.func 72) [] [.ptr (.own o 0),.ptr (.own s 0),.ptr (.own b 0),.ptr (.own f 0)]]))
 hv:Sl w0 (h0.set o none) 4 v (l.map aU.c)
theorem aHC{h0:Heap}{o s b f:Nat}{v:AV}{l:List aU}{bs:Nat}(st:BSt w0 h0 o s b f v l bs)(hn:l.length≤12)(hbs:bs≤6) :
 ∀(k:Nat) (out:List Int) (H:Heap) (ov:AV),out.length+k=l.length→oS h0 H o ov out →
  ACall Tryz.prog w0 72 [.ptr (.own o 0),.ptr (.own s 0),.ptr (.own b 0),.ptr (.own f 0)] H fun y H'=>∃ov',match bsD l bs k out with
   | some x=>y= .bool true∧oS h0 H' o ov' x
   | none=>y= .bool false∧oS h0 H' o ov' out:=by
 intro k
 induction k with
 | zero=>
  intro out H ov hk hO
  refine aO aIZ fun hb ha=> ?_
  have e1:∀L,(H++L)[o]? = some (some (.row [ov])):=fun L=>aA hO.box
  have e2:∀L,(H++L)[s]? = some (some (.row [v])):=fun L=>aA (hO.keep.at_ _ _ (by simp[st.so]) st.bs')
  have hlen:dA v=some (.int .i64 l.length):=by have:=st.hv.use.1; rwa [List.length_map]at this
  have e3:(out.length:Int)=l.length:=by omega
  simp only[go_sem,mf72,e1,e2,hO.len,hlen,e3]
  exact⟨ov,hO.app⟩
 | succ k ih=>
  intro out H ov hk hO
  refine aO aIZ fun hb ha=> ?_
  have e1:∀L,(H++L)[o]? = some (some (.row [ov])):=fun L=>aA hO.box
  have e2:∀L,(H++L)[s]? = some (some (.row [v])):=fun L=>aA (hO.keep.at_ _ _ (by simp[st.so]) st.bs')
  have e4:∀L,(H++L)[b]? = some (some (.row [.int .i64 bs])):=fun L=>aA (hO.keep.at_ _ _ (by simp[st.bo]) st.bb)
  have hlen:dA v=some (.int .i64 l.length):=by have:=st.hv.use.1; rwa [List.length_map]at this
  have e3:¬(out.length:Int)=l.length:=by omega
  simp only[go_sem,mf72,e1,e2,e4,hO.len,hlen,e3]
  refine fF (S:=Nat×Heap×AV) (F:=fun t=>[(0,.ptr (.own o 0)),(1,.ptr (.own s 0)),(3,.ptr (.own f 0)),(5,.int .i64 out.length),(15,.int .i64 bs),(16,.int .i64 t.1)]) (H:=fun t=>t.2.1) (meas:=fun t=>bs - t.1)
   (Inv:=fun t=>t.1≤bs∧oS h0 t.2.1 o t.2.2 out∧bsD l bs (k+1) out=((List.range bs).drop t.1).findSome? fun c:Nat=>if zK l out (c:Int)then bsD l bs k (out++[(c:Int)])else none) (0,H,ov) ⟨Nat.zero_le _,hO,rfl⟩ rfl (by simp) ?_
  rintro⟨c,G,gv⟩ ⟨hc,gO,hG⟩ ih2
  simp only at hc gO hG ih2 ⊢
  refine aP [0,1,3,5,15,16] L72_1.eq_1 ?_
  by_cases hcl:c<bs
  ·have e5:(c:Int)<bs:=by omega
   rw[List.drop_eq_getElem_cons (by simpa using hcl),List.findSome?_cons,List.getElem_range]at hG
   have g1:∀L,(G++L)[o]? = some (some (.row [gv])):=fun L=>aA gO.box
   have g2:∀L,(G++L)[s]? = some (some (.row [v])):=fun L=>aA (gO.keep.at_ _ _ (by simp[st.so]) st.bs')
   have g1':=g1 []; have g2':=g2 []
   rw[List.append_nil]at g1' g2'
   have hvG:=st.hv.sub gO.keep.setN
   obtain⟨_,q,hix,hrow,_⟩:=hvG.use
   rw[List.length_map]at hix
   simp only[go_sem,e5,g1,g1',gO.len]
   refine cY (fun j=>[(0,.ptr (.own o 0)),(1,.ptr (.own s 0)),(3,.ptr (.own f 0)),(5,.int .i64 out.length),(6,.int .i64 c),(15,.int .i64 bs),(16,.int .i64 c),(19,gv),(20,.int .i64 out.length),(21,.int .i64 j)]) (fun j=>(!(decide (out.getD j 0=(c:Int))&&fK (cV l j) (cV l out.length)))=true) out.length rfl (fun j hj hall ih3=> ?_) (fun hall=> ?_)
   ·refine aP [0,1,3,5,6,15,16,19,20,21] aKW.eq_1 ?_
    have e6:(j:Int)<out.length:=by omega
    obtain⟨pp,i1,r1,r1'⟩:=SlI.at_ (gO.slI (w0:=w0)) hj
    have hjl:j<l.length:=by omega
    have hol:out.length<l.length:=by omega
    have x1:=hix j hjl
    have x2:=hix out.length hol
    have y1:∀L,rdn w0 (G++L) (q.add (j*4)) 4=some l[j].c:=fun L=>cK (hrow j _ (mQ hjl))
    have y2:∀L,rdn w0 (G++L) (q.add (out.length*4)) 4=some l[out.length].c:=fun L=>cK (hrow _ _ (mQ hol))
    have y1':=hrow j _ (mQ hjl)
    have y2':=hrow _ _ (mQ hol)
    have s1:cV l j=l[j]:=by rw[cV,aE hjl]
    have s2:cV l out.length=l[out.length]:=by rw[cV,aE hol]
    rw[aE hj,s1,s2]at ih3
    have nofit:out[j]=(c:Int)→fK l[j] l[out.length]=true→zK l out c=false:=fun a b=>by
     rw[zK,List.all_eq_false]
     refine⟨j,List.mem_range.2 hj,?_⟩
     rw[aE hj,s1,s2]; simp[a,b]
    by_cases q1:out[j]=(c:Int)
    ·simp only[go_sem,e6,i1,r1,r1',q1,g2,g2',x1,x2,y1,y2,y1',y2']
     refine aC (meet_c l[j] l[out.length]).v ?_
     cases q2:fK l[j] l[out.length]with
     | true=>
      simp only[go_sem]
      refine⟨(by unfold I64; omega),ih2 (c+1,G,gv) ⟨by simp only; omega,gO,?_⟩ (by simp only; omega)⟩
      rw[hG,nofit q1 q2]; rfl
     | false=>
      simp only[go_sem]
      exact⟨(by unfold I64; omega),ih3 (by simp[q2])⟩
    ·simp only[go_sem,e6,i1,r1,r1',q1]
     exact⟨(by unfold I64; omega),ih3 (by simp[q1])⟩
   ·refine aP [0,1,3,5,6,15,16,19,20,21] aKW.eq_1 ?_
    have e6:¬(out.length:Int)<out.length:=by omega
    have hfit:zK l out (c:Int)=true:=by rw[zK,List.all_eq_true]; exact fun j hj=>hall j (List.mem_range.1 hj)
    rw[hfit,if_pos rfl]at hG
    simp only[go_sem,e6,g1,g1']
    have hO1:oS h0 (G++[some (.row [.int .i64 c])]) o gv out:=gO.app
    obtain⟨G1,a1,a2,a3,a4⟩:=hO1.more (w0:=w0) st.ol (k:=G.length) (f:=true) (x:=c) (by rw[qI (Nat.le_refl _),Nat.sub_self]; rfl) (by omega)
    rw[a1]
    obtain⟨G2,eG2⟩:∃G2,G2=G1.set o (some (.row [.sl (.own (G++[some (Blk.row [AV.int .i64 c])]).length 0) (out.length+1) 1 false])):=⟨_,rfl⟩
    rw[←eG2]at a4
    have b1:G2[f]? = _:=a4.keep.at_ _ _ (by simp[st.fo]) st.bf
    have bl:(G++[some (Blk.row [AV.int .i64 c])]).length=G.length+1:=by simp
    rw[bl]at eG2 a4 ⊢
    simp only[go_sem,a2]
    rw[←eG2]
    simp only[go_sem,b1]
    refine aJ (ACall.vc (first:=[]) (args:=[]) (capt:=[.ptr (.own o 0),.ptr (.own s 0),.ptr (.own b 0),.ptr (.own f 0)]) (ih (out++[(c:Int)]) G2 _ (by simp; omega) a4)) ?_
    rintro y H' ⟨ov',hy⟩
    cases hbs:bsD l bs k (out++[(c:Int)])with
    | some x=>
     rw[hbs]at hy hG
     obtain⟨rfl,hy⟩:=hy
     simp only[go_sem]
     rw[hG]
     exact⟨ov',hy⟩
    | none=>
     rw[hbs]at hy hG
     obtain⟨rfl,hy⟩:=hy
     obtain⟨io,rfl,hl⟩:=hy.less st.ol
     have c1:∀L,(H'++L)[o]? = _:=fun L=>aA (k:=L) hy.box
     simp only[go_sem,hy.box,c1,nat_ix]
     refine⟨by omega,(by unfold I64; omega),?_⟩
     rw[Nat.sub_zero,Bool.false_and]
     exact ih2 (c+1,_,_) ⟨by simp only; omega,hl,by rw[hG]⟩ (by simp only; omega)
  ·have e5:¬(c:Int)<bs:=by omega
   obtain rfl:c=bs:=by omega
   rw[List.drop_of_length_le (by simp),List.findSome?_nil]at hG
   simp only[go_sem,e5]
   rw[hG]
   exact⟨gv,gO⟩
def wA(w0:World)(H:Heap)(y:AV)(l:List aU)(bs:Int):Prop:=
 if jU l bs=0 then match nI l bs with
  | some _=>y= .tup [.nilS,.int .i64 5]
  | none=>∃lv,y= .tup [lv,.int .i64 0]∧SlI w0 H lv ((bsD l bs.toNat l.length []).getD [])
 else y= .tup [.nilS,.int .i64 (jU l bs)]
theorem aOt(bs:Int){v:AV}{l:List aU}(hv:Sl w0 h 4 v (l.map aU.c)):ACall Tryz.prog w0 23 [v,.int .i64 bs] h fun y H=>aB h H∧wA w0 H y l bs:=by
 refine aO mf23_k fun hb ha=> ?_
 have o:=Sl.one hv
 simp only[go_sem,mf23,o.1,o.2]
 refine aC (aIi bs hv.app).v ?_
 by_cases e:jU l bs=0
 ·obtain⟨h12,hbs,hst⟩:=aGz e
  simp only[go_sem,e]
  refine aC (aEn bs hv.app h12).v ?_
  cases e2:nI l bs with
  | some t=>
   simp only[go_sem,mD]
   exact⟨aB.refl.app,by rw[wA,if_pos e,e2]⟩
  | none=>
   simp only[go_sem,mD]
   obtain⟨n,rfl⟩:∃n:Nat,bs=n:=⟨bs.toNat,by omega⟩
   obtain⟨X,eX⟩:∃X,X=h++[some (Blk.row [v]),some (.row [.int .i64 n]),some (.row [.nilS]),some (.row [.fn (.func 72) [] [.ptr (.own (h.length+2) 0),.ptr (.own h.length 0),.ptr (.own (h.length+1) 0),.ptr (.own (h.length+3) 0)]])]:=⟨_,rfl⟩
   have sX:aB h X:=eX▸aB.refl.app
   have x0:X[h.length]? = some (some (.row [v])):=by rw[eX,qI (by omega)]; simp
   have x1:X[h.length+1]? = some (some (.row [.int .i64 n])):=by rw[eX,qI (by omega)]; simp
   have x2:X[h.length+2]? = some (some (.row [.nilS])):=by rw[eX,qI (by omega)]; simp
   have x3:X[h.length+3]? = some (some (.row [.fn (.func 72) [] [.ptr (.own (h.length+2) 0),.ptr (.own h.length 0),.ptr (.own (h.length+1) 0),.ptr (.own (h.length+3) 0)]])):=by rw[eX,qI (by omega)]; simp
   have st:BSt w0 X (h.length+2) h.length (h.length+1) (h.length+3) v l n:=⟨aD x2,by omega,by omega,by omega,x0,x1,x3,hv.sub (sX.setR (by omega) |> fun t=>⟨by simpa using t.1,fun i b e=>t.2 i b e⟩)⟩
   rw[←eX]
   refine aJ (ACall.vc (first:=[]) (args:=[]) (capt:=[.ptr (.own (h.length+2) 0),.ptr (.own h.length 0),.ptr (.own (h.length+1) 0),.ptr (.own (h.length+3) 0)]) (aHC st h12 (by omega) l.length [] X .nilS (by simp) ⟨Keep.refl,x2,.inl ⟨rfl,rfl⟩⟩)) ?_
   rintro y H ⟨ov,hy⟩
   have fin:∀x,(bsD l n l.length []).getD []=x→oS X H (h.length+2) ov x→aB h H∧wA w0 H (.tup [ov,.int .i64 0]) l n:=fun x ex hy=>by
    refine⟨⟨Nat.le_trans sX.1 hy.keep.le,fun i b e=>hy.keep.at_ _ _ (by have:=aD e; simp; omega) (sX.2 _ _ e)⟩,?_⟩
    rw[wA,if_pos e,e2]
    exact⟨ov,rfl,by rw[show(n:Int).toNat=n from rfl,ex]; exact hy.slI⟩
   have hbox:H[h.length+2]? = some (some (.row [ov])):=by
    cases hB:bsD l n l.length []with
    | some x=>rw[hB]at hy; exact hy.2.box
    | none=>rw[hB]at hy; exact hy.2.box
   have hbL:∀L,(H++L)[h.length+2]? = some (some (.row [ov])):=fun L=>aA hbox
   simp only[go_sem,hbox,hbL]
   cases hB:bsD l n l.length []with
   | some x=>rw[hB]at hy fin; exact fin x rfl hy.2
   | none=>rw[hB]at hy fin; exact fin [] rfl hy.2
 ·simp only[go_sem,e]
  exact⟨aB.refl.app,by rw[wA,if_neg e]⟩
theorem aHF{l:List aU}{n:Nat}(hl:l.all hJ=true)(hc:nI l n=none):∃x,bsD l n l.length []=some x∧kW l x∧zX n x∧x.length=l.length:=by
 obtain⟨y,y1,y2,y3⟩:=aEF (fun s hs=>List.all_eq_true.1 hl s hs) hc
 obtain⟨x,hx,_⟩:=aAY l.length [] y (by simpa using y1) y2 y3
 obtain⟨a,b,c,_⟩:=aDa l.length [] _ hx (fun i hi=>by simp at hi) (fun x hx=>by simp at hx)
 exact⟨_,hx,a,b,by simpa using c⟩
theorem aMi(a b:aU):aK Tryz.prog w0 74 [.agg a.c,.agg b.c] h (.bool (decide (a.cl≤b.gh)&&decide (b.cl≤a.gh))) h:=by
 refine aM mf74_k fun hb ha=> ?_
 simp only[go_sem,mf74]
 exact⟨fun x=>by simp[x],fun x=>by simp[x]⟩
def tG(l:List aU)(at':List Int):Bool:=(List.range at'.length).all fun i=>(List.range i).all fun k=> !(decide (at'.getD i 0=at'.getD k 0)&&fK (cV l k) (cV l i))
theorem zV{l:List aU}{at':List Int}:tG l at'=true↔kW l at':=by
 simp only[tG,kW,List.all_eq_true,List.mem_range,Bool.not_eq_true',Bool.and_eq_false_imp,decide_eq_true_eq]
theorem aII{v av:AV}{l:List aU}{at':List Int}(hv:Sl w0 h 4 v (l.map aU.c))(hat:SlI w0 h av at')(hl:l.all hJ=true)(hn:at'.length≤l.length)(hn2:l.length<1000) :
 aK Tryz.prog w0 24 [v,av] h (.bool (tG l at')) h:=by
 refine aM mf24_k fun hb ha=> ?_
 obtain⟨_,q,hix,hrow,_⟩:=hv.use
 rw[List.length_map]at hix
 have hlen:=(SlI.use hat).1
 have vb:=hv.bdd (Nat.le_refl _)
 have ab:=hat.bdd (Nat.le_refl _)
 simp only[go_sem,mf24]
 refine cY (fun j=>[(0,v),(1,av),(5,.int .i64 j)]) (fun j=>((List.range j).all fun k=> !(decide (at'.getD j 0=at'.getD k 0)&&fK (cV l k) (cV l j)))=true) at'.length rfl (fun j hj hall ih=> ?_) (fun hall=> ?_)
 ·refine aP [0,1,5] aLn.eq_1 ?_
  have e1:(j:Int)<at'.length:=by omega
  simp only[go_sem,hlen,e1]
  refine cY (fun k=>[(0,v),(1,av),(5,.int .i64 j),(6,.int .i64 k)]) (fun k=>(!(decide (at'.getD j 0=at'.getD k 0)&&fK (cV l k) (cV l j)))=true) j rfl (fun k hk _ ih2=> ?_) (fun hall2=> ?_)
  ·refine aP [0,1,5,6] aLo.eq_1 ?_
   have e2:(k:Int)<j:=by omega
   have hjl:j<l.length:=by omega
   have hkl:k<l.length:=by omega
   obtain⟨p1,i1,r1,r1'⟩:=SlI.at_ hat hj
   obtain⟨p2,i2,r2,r2'⟩:=SlI.at_ hat (j:=k) (by omega)
   rw[←aE (d:=0)]at r1 r1' r2 r2'
   have x1:=hix j hjl
   have x2:=hix k hkl
   have y1:∀L,rdn w0 (h++L) (q.add (j*4)) 4=some (cV l j).c:=fun L=>cK (hrow j _ (by rw[cV,aE hjl]; exact mQ hjl))
   have y2:∀L,rdn w0 (h++L) (q.add (k*4)) 4=some (cV l k).c:=fun L=>cK (hrow k _ (by rw[cV,aE hkl]; exact mQ hkl))
   have y1':=y1 []; have y2':=y2 []
   rw[List.append_nil]at y1' y2'
   have b1:hJ (cV l j)=true:=List.all_eq_true.1 hl _ (by rw[cV,aE hjl]; exact qG hjl)
   have b2:hJ (cV l k)=true:=List.all_eq_true.1 hl _ (by rw[cV,aE hkl]; exact qG hkl)
   have hm:(decide ((cV l j).cl≤(cV l k).gh)&&decide ((cV l k).cl≤(cV l j).gh))=fK (cV l k) (cV l j):=by rw[←aKe b1 b2,yW]
   by_cases q1:at'.getD j 0=at'.getD k 0
   ·simp only[go_sem,e2,i1,i2,r1,r2,r1',r2',q1,x1,x2,y1,y2,y1',y2']
    refine aC (aMi (cV l j) (cV l k)).v ?_
    rw[hm]
    cases q2:fK (cV l k) (cV l j)with
    | true=>
     simp only[go_sem]
     have:tG l at'=false:=by
      cases h':tG l at'
      ·rfl
      ·exact absurd (zV.1 h' j hj k hk q1) (by simp[q2])
     rw[this]
    | false=>
     simp only[go_sem]
     exact⟨(by unfold I64; omega),ih2 (by rw[q2,Bool.and_false]; rfl)⟩
   ·simp only[go_sem,e2,i1,i2,r1,r2,r1',r2',q1]
    exact⟨(by unfold I64; omega),ih2 (by rw[decide_eq_false q1]; rfl)⟩
  ·refine aP [0,1,5,6] aLo.eq_1 ?_
   have e2:¬(j:Int)<j:=by omega
   simp only[go_sem,e2]
   exact⟨(by unfold I64; omega),ih (by rw[List.all_eq_true]; exact fun k hk=>hall2 k (List.mem_range.1 hk))⟩
 ·refine aP [0,1,5] aLn.eq_1 ?_
  have e1:¬(at'.length:Int)<at'.length:=by omega
  have:tG l at'=true:=by rw[tG,List.all_eq_true]; exact fun j hj=>hall j (List.mem_range.1 hj)
  simp only[go_sem,hlen,e1]
  rw[this]
end Go.Proofs.Ab

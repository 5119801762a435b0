/- The own layer under the proofs of this seat, part M: what calls of the program come to on an abstract heap. No condition. -/
import Derived.Test.YtijiinmeodpanaaGreatL
import Derived.Test.YtijiinmeodpanaaGreatJ
import Derived.Test.YtijiinmeodpanaaGreatK
import Derived.Test.YtijiinmeodpanaaGreatX
import Derived.Test.YtijiinmeodpanaaGreatI
import Derived.Test.YtijiinmeodpanaaGreatG
set_option linter.unusedSimpArgs false
set_option linter.unusedVariables false
namespace Go.Proofs.Ab
open Go Go.Proofs
variable {w0 : World} {h : aA}
attribute [local irreducible] ACall bB dH bQ dG rvC lp rg dr ex un rv
def wG (t : aH) : Bool := decide (t.days.length ≤ 40) && decide (t.ser.length ≤ 10)
def fH (l : List aH) (sw : List aM) : Bool := l.all wG && (decide (l.length ≤ 6) && (decide (sw.length ≤ 30) || (decide (200 < sw.length) && decide (sw.length ≤ 210))))
theorem aB6 {v sv : AV} {l : List aH} {sw : List aM} (hv : dF w0 h v l) (hw : eD w0 h sv sw) (hln : l.length ≤ 9223372036854775807) : bQ Tryz.prog w0 4 [v,sv] h (.bool (fH l sw)) h := by
 refine bG aQ mf4_ok mf4_b mf4_g (qE rfl) (by simp [AV.bdd,AV.bdds]) fun hb ha => bV ?_
 have hlen := hv.len
 have hlw := hw.len
 simp only [go_sem,mf4]
 refine hO (fun j => [(0,v),(1,sv),(5,.int .i64 j)]) (fun j => wG (l.getD j rX) = true) l.length rfl (fun j hj hall ih => ?_) (fun hall => ?_)
 · refine aJ aQ aEW [0,1,5] L4_0.eq_1 ?_
   obtain ⟨p,dv,tv,i1,r1,ra,rb,hd,hsv⟩ := hv.at_ hj
   have e2 : (j : Int) < l.length := by omega
   have ld := hd.len
   have lt := (SlI.use hsv.s).1
   rw [aS hj] at ih
   have no : wG l[j] = false → fH l sw = false := fun e => by
    rw [fH,List.all_eq_false.2 ⟨l[j],qG hj,by rw [e]; simp⟩]; rfl
   by_cases c1 : l[j].days.length ≤ 40
   · have c1' : ¬ (l[j].days.length : Int) > 40 := by omega
     by_cases c2 : l[j].ser.length ≤ 10
     · have c2' : ¬ (l[j].ser.length : Int) > 10 := by omega
       simp only [go_sem,e2,hlen,i1,ra,rb,ld,lt,c1',c2']
       exact ⟨(by unfold I64; omega),ih (by rw [wG,decide_eq_true c1,decide_eq_true c2]; rfl)⟩
     · have c2' : (l[j].ser.length : Int) > 10 := by omega
       simp only [go_sem,e2,hlen,i1,ra,rb,ld,lt,c1',c2']
       rw [no (by rw [wG,decide_eq_false c2]; simp)]
   · have c1' : (l[j].days.length : Int) > 40 := by omega
     simp only [go_sem,e2,hlen,i1,ra,rb,ld,lt,c1']
     rw [no (by rw [wG,decide_eq_false c1]; rfl)]
 · refine aJ aQ aEW [0,1,5] L4_0.eq_1 ?_
   have e2 : ¬ (l.length : Int) < l.length := by omega
   have ha : l.all wG = true := List.all_eq_true.2 fun t ht => by
    obtain ⟨i,hi,rfl⟩ := List.getElem_of_mem ht
    have := hall i hi
    rwa [aS hi] at this
   have tb : fH l sw = (decide (l.length ≤ 6) && (decide (sw.length ≤ 30) || (decide (200 < sw.length) && decide (sw.length ≤ 210)))) := by rw [fH,ha]; rfl
   by_cases c1 : l.length ≤ 6
   · have c1' : (l.length : Int) ≤ 6 := by omega
     by_cases c2 : sw.length ≤ 30
     · have c2' : (sw.length : Int) ≤ 30 := by omega
       simp only [go_sem,hlen,hlw,e2,c1',c2']
       rw [tb,decide_eq_true c1,decide_eq_true c2]; rfl
     · have c2' : ¬ (sw.length : Int) ≤ 30 := by omega
       by_cases c3 : 200 < sw.length
       · have c3' : (sw.length : Int) > 200 := by omega
         by_cases c4 : sw.length ≤ 210
         · have c4' : (sw.length : Int) ≤ 210 := by omega
           simp only [go_sem,hlen,hlw,e2,c1',c2',c3',c4']
           rw [tb,decide_eq_true c1,decide_eq_false c2,decide_eq_true c3,decide_eq_true c4]; rfl
         · have c4' : ¬ (sw.length : Int) ≤ 210 := by omega
           simp only [go_sem,hlen,hlw,e2,c1',c2',c3',c4']
           rw [tb,decide_eq_true c1,decide_eq_false c2,decide_eq_true c3,decide_eq_false c4]; rfl
       · have c3' : ¬ (sw.length : Int) > 200 := by omega
         simp only [go_sem,hlen,hlw,e2,c1',c2',c3']
         rw [tb,decide_eq_true c1,decide_eq_false c2,decide_eq_false c3]; rfl
   · have c1' : ¬ (l.length : Int) ≤ 6 := by omega
     simp only [go_sem,hlen,hlw,e2,c1']
     rw [tb,decide_eq_false c1]; rfl
theorem wE {l : List aH} {sw : List aM} (e : fH l sw = true) : jD l ∧ sw.length ≤ 1000 := by
 simp only [fH,Bool.and_eq_true,List.all_eq_true,decide_eq_true_eq,Bool.or_eq_true,wG] at e
 exact ⟨⟨by omega,fun t ht => by have := e.1 t ht; omega⟩,by omega⟩
theorem aCr {l : List aH} {sw : List aM} {k : Nat} : (eG l sw k).length ≤ k := by
 rw [eG]
 refine Nat.le_trans (List.length_filter_le _ _) ?_
 simp
theorem eqa6n (a b c d e f : Int) : eqaV [true,true,true,true,true,true] true (.agg [.int .i64 a,.int .i64 b,.int .i64 c,.int .i64 d,.int .i64 e,.int .i64 f]) (.agg [.int .i64 a,.int .i64 b,.int .i64 c,.int .i64 d,.int .i64 e,.int .i64 f]) = some (.bool false) := by
 have hc : ∀ x : Int,ceq true (.int .i64 x) (.int .i64 x) = some true := fun x => by simp [ceq]
 simp [eqaV,cI,hc]
theorem aCe {x y : AV} {a : List aB} (hx : Sl w0 h 6 x (a.map aB.c)) (hy : Sl w0 h 6 y (a.map aB.c)) (hn : a.length < 1000000) : bQ Tryz.prog w0 10 [x,y] h (.bool true) h := by
 refine bG aQ aGT mf10_b mf10_g (qE rfl) (by simp [AV.bdd,AV.bdds]) fun hb ha => bV ?_
 obtain ⟨la,q1,ix1,rw1,_⟩ := hx.use
 obtain ⟨lb,q2,ix2,rw2,_⟩ := hy.use
 rw [List.length_map] at la lb ix1 ix2
 simp only [go_sem,mf10,la,lb]
 refine hO (fun j => [(0,x),(1,y),(5,.int .i64 j)]) (fun j => True) a.length rfl (fun j hj hall ih => ?_) (fun hall => ?_)
 · refine aJ aQ aBW [0,1,5] L10_0.eq_1 ?_
   have i1 := ix1 j hj
   have i2 := ix2 j hj
   have hr : (a.map aB.c)[j]? = some a[j].c := by rw [List.getElem?_map,qA hj]; rfl
   have r1 : ∀ L,rdn w0 (h ++ L) (q1.add (j * 6)) 6 = some a[j].c := fun L => iQ (rw1 j _ hr)
   have r2 : ∀ L,rdn w0 (h ++ L) (q2.add (j * 6)) 6 = some a[j].c := fun L => iQ (rw2 j _ hr)
   have e2 : (j : Int) < a.length := by omega
   simp only [go_sem,la,e2,i1,i2,r1,r2,rw1 j _ hr,rw2 j _ hr,eqa6n]
   refine ⟨(by unfold I64; omega),ih trivial⟩
 · refine aJ aQ aBW [0,1,5] L10_0.eq_1 ?_
   have e2 : ¬ (a.length : Int) < a.length := by omega
   simp only [go_sem,la,e2]
theorem pZ {v sv : AV} {l : List aH} {sw : List aM} (hv : dF w0 h v l) (hw : eD w0 h sv sw) (k : TOK l) (hn : sw.length ≤ 1000) (hs : cW l sw = true) : ACall Tryz.prog w0 9 [v,sv] h (aAz w0 h (iO l sw)) := by
 by_cases hl : l = []
 · subst hl
   have e := wF k hs
   rw [hC,if_pos rfl] at e
   have : sw = [] := List.eq_nil_iff_forall_not_mem.2 fun s hs' => by
    have := (sD.of (iB hs hs')); have h1 := this.t0; have h2 := this.t1; simp at h2; omega
   subst this
   rw [← e]
   exact zQ hv hw
 · exact aDO hv hw k hn (fun s hs' => sD.of (iB hs hs')) hl
set_option maxRecDepth 20000 in
theorem vG {v sv : AV} {l : List aH} {sw : List aM} (hv : dF w0 h v l) (hw : eD w0 h sv sw) (hln : l.length ≤ 9223372036854775807) : bQ Tryz.prog w0 3 [v,sv] h (.bool true) h := by
 refine eU trivial (bZ aQ mf3_ok mf3_b mf3_g (qE rfl) fun hb ha => bV ?_)
 have hlen := hv.len
 have hlw := hw.len
 simp only [go_sem,mf3]
 rw [List.append_nil]
 refine aO (aB6 hv hw hln).v ?_
 cases tb : fH l sw with
 | false =>
  simp only [go_sem]
  refine aO iV.v ?_
  simp only [go_sem]
  exact aG.refl
 | true =>
 obtain ⟨hs,hn⟩ := wE tb
 have hll := hs.1
 simp only [go_sem]
 refine bX (ACall.vc (first := []) (args := [_,_]) (ACall.ofE (aHj hv hw hs hn))) ?_
 rintro y H ⟨s1,hy⟩
 rcases hy with ⟨c,rfl⟩ | ⟨c,d,rfl⟩ | ⟨c,d,hy⟩
 · by_cases c1 : (l.length : Int) > 4
   · simp only [go_sem,hlen,hlw,c1]
     refine aO iV.v ?_
     simp only [go_sem]
     exact s1
   · have c2 : (sw.length : Int) > 200 := by omega
     simp only [go_sem,hlen,hlw,c1,c2]
     refine aO iV.v ?_
     simp only [go_sem]
     exact s1
 · have c1 : ¬ (l.length : Int) > 4 := by omega
   have c2 : ¬ (sw.length : Int) > 200 := by omega
   simp only [go_sem,hlen,hlw,c1,c2]
   refine aO (qJ (hv.sub s1) hs).v ?_
   cases d1 : fS l with
   | false =>
    simp only [go_sem]
    refine aO iV.v ?_
    simp only [go_sem]
    exact s1
   | true =>
    rw [d1,Bool.true_and] at d
    simp only [go_sem]
    refine aO (qL (hv.sub s1) (hw.sub s1) hs hn).v ?_
    rw [d]
    simp only [go_sem]
    refine aO iV.v ?_
    simp only [go_sem]
    exact s1
 · have c1 : ¬ (l.length : Int) > 4 := by omega
   have c2 : ¬ (sw.length : Int) > 200 := by omega
   rw [Bool.and_eq_true] at d
   obtain ⟨d1,d2⟩ := d
   have k : TOK l := ⟨by omega,d1⟩
   have eq := wF k d2
   rcases hy with ⟨tn,rfl⟩ | ⟨ts,tv,tn,rfl,tsl⟩
   · simp only [go_sem,hlen,hlw,c1,c2]
     refine aO (qJ (hv.sub s1) hs).v ?_
     rw [d1]
     simp only [go_sem]
     refine aO (qL (hv.sub s1) (hw.sub s1) hs hn).v ?_
     rw [d2]
     simp only [go_sem]
     refine bX (ACall.vc (first := []) (args := [_,_]) (pZ (hv.sub s1) (hw.sub s1) k hn d2)) ?_
     rw [← eq,tn]
     rintro z H2 ⟨rfl,s2⟩
     simp only [go_sem]
     refine aO iV.v ?_
     simp only [go_sem]
     exact s1.trans s2
   · have tl : ts.length < 1000000 := by
      rw [eq,iO] at tn
      cases q : eX l sw (bD l) with
      | none => rw [q] at tn; cases tn
      | some g =>
       rw [q] at tn
       cases tn
       have := @aCr l sw 1001
       rw [List.length_map]; omega
     simp only [go_sem,hlen,hlw,c1,c2]
     refine aO (qJ (hv.sub s1) hs).v ?_
     rw [d1]
     simp only [go_sem]
     refine aO (qL (hv.sub s1) (hw.sub s1) hs hn).v ?_
     rw [d2]
     simp only [go_sem]
     refine bX (ACall.vc (first := []) (args := [_,_]) (pZ (hv.sub s1) (hw.sub s1) k hn d2)) ?_
     rw [← eq,tn]
     rintro z H2 ⟨ov,rfl,s2,ovs⟩
     simp only [go_sem]
     refine aO (aCe (tsl.sub s2) ovs tl).v ?_
     simp only [go_sem]
     refine aO iV.v ?_
     simp only [go_sem]
     exact s1.trans s2
end Go.Proofs.Ab
namespace Go.Proofs.Ab
open Go Go.Proofs
variable {w : World} {h : aA} {cs : List Value}
theorem slo_of {v : Value} (g : nA w (.int .nil) v) : ∃ l : List Int,SlO w h (inj v) l := by
 obtain ⟨l,hs,_⟩ := aG1 (h := h) g
 refine ⟨l,hs,fun e => ?_⟩
 subst e
 have hl := (SlI.use hs).1
 rcases g with rfl | ⟨a,len,cap,rfl,h1,h2,h3⟩
 · rfl
 · simp only [inj,if_pos h1,oL,Option.some.injEq,AV.int.injEq,true_and] at hl
   obtain rfl : len = 0 := by simpa using hl
   simp [inj,fJ,jA,rdn]
theorem ns_of {α : Type} {es : Nat} {v : AV} {l : List α} {f : α → List AV} (s : Sl w h es v (l.map f)) : NS w h es (fun u c => c = f u) v l :=
 ⟨l.map f,by simp,s,fun j x c hx hc => by rw [List.getElem?_map,hx] at hc; cases hc; rfl⟩
def useRw : Rw := .int (.int (.int (.int (.int (.int (.bool .nil))))))
theorem aFl {v : Value} (g : nA w useRw v) : ∃ l : List bW,iM w h (inj v) l := by
 obtain ⟨l,s,_⟩ := pU (h := h) bW.c rfl g fun _ g => by
  obtain ⟨a,_,rfl,_,b,_,rfl,_,c,_,rfl,_,d,_,rfl,_,e,_,rfl,_,f,_,rfl,_,k,_,rfl,rfl⟩ := g
  exact ⟨⟨a,b,c,d,e,f,k⟩,rfl⟩
 exact ⟨l,ns_of s⟩
def aDm : Rw := .sl useRw (.sl (.int .nil) .nil)
theorem aDl {v : Value} (g : Gd w (.sl aDm .nil) [v]) : ∃ l : List aH,dF w h (inj v) l ∧ l.length ≤ 9223372036854775807 := by
 obtain ⟨_,_,e,g,rfl⟩ := g
 cases e
 obtain ⟨rows,h1,h2,h3⟩ := aAX (h := h) g
 obtain ⟨l,rfl,hl⟩ := pX (f := fun x : (AV × AV) × aH => [x.1.1,x.1.2]) (p := fun x => iM w h x.1.1 x.2.days ∧ SlO w h x.1.2 x.2.ser) (rows := rows) fun c hc => by
  obtain ⟨cs,rfl,u,_,rfl,g2,u2,_,rfl,g3,rfl⟩ := h3 c hc
  obtain ⟨q,hq⟩ := aFl (h := h) g2
  obtain ⟨q2,hq2⟩ := slo_of (h := h) g3
  exact ⟨((inj u,inj u2),⟨q,q2⟩),rfl,hq,hq2⟩
 refine ⟨l.map Prod.snd,⟨_,by simp,h1,fun j x c hx hc => ?_⟩,by simpa using h2⟩
 simp only [List.getElem?_map,qD] at hx hc
 obtain ⟨a,a1,rfl⟩ := hx
 obtain ⟨b,b1,rfl⟩ := hc
 rw [a1] at b1; cases b1
 have := hl _ (List.mem_of_getElem? a1)
 exact ⟨a.1.1,a.1.2,rfl,this.1,this.2⟩
def aDo : Rw := .int (.int (.int (.int .nil)))
theorem aDn {v : Value} (g : Gd w (.sl aDo .nil) [v]) : ∃ l : List aM,eD w h (inj v) l ∧ l.length ≤ 9223372036854775807 := by
 obtain ⟨_,_,e,g,rfl⟩ := g
 cases e
 obtain ⟨l,s,hl⟩ := pU (h := h) aM.c rfl g fun _ g => by
  obtain ⟨a,_,rfl,_,b,_,rfl,_,c,_,rfl,_,d,_,rfl,_,rfl⟩ := g
  exact ⟨⟨a,b,c,d⟩,rfl⟩
 exact ⟨l,ns_of s,hl⟩
end Go.Proofs.Ab

/- The own layer under the proofs of this seat, part M: what calls of the program come to on an abstract heap. No condition. -/
import Derived.Test.YtajecdfdnlfndaaGreatK
set_option linter.unusedSimpArgs false
set_option linter.unusedVariables false
namespace Go.Proofs.Ab
open Go Go.Proofs
variable {w0 : World} {h : aA}
attribute [local irreducible] ACall bA bW aY cP rvC lp rg dr ex un rv
def bC (tm : Int) : (Int → Bool) → List aF → Bool
 | _,[] => true
 | f,s :: r => (inB s.thing 0 tm && ((decide (s.kind = 1) || decide (s.kind = 2)) && decide (f s.thing = decide (s.kind = 2)))) && bC tm (fun x => if x = s.thing then decide (s.kind = 1) else f x) r
theorem gG (tm : Int) : ∀ (l : List aF) (f g : Int → Bool),(∀ x,f x = g x) → bC tm f l = bC tm g l := fun l f g e => by rw [funext e]
def dZ (things : Int) (l : List (List aF)) : Bool := l.all (bC (wi (things - 1)) fun _ => false) && (inB things 1 4 && inB l.length 1 4)
theorem fP {x : List aF} {j : Nat} (hj : j < x.length) : (x.map aF.c)[j]? = some x[j].c := by rw [List.getElem?_map,qA hj]; rfl
theorem kQ {v : AV} {l : List (List aF)} (things : Int) (hv : PS w0 h v l) (hn : l.length < 1000000) (hn2 : ∀ x ∈ l,x.length < 1000000) : aY Tryz.prog w0 84 [.int .i64 things,v] h (.bool (dZ things l)) h := by
 refine aS aV xJ aBL aBK (qE rfl) (by simp [AV.bdd,AV.bdds]) fun hb ha => bF ?_
 have hlen := hv.len
 have vb := NS.bdd hv (Nat.le_refl _)
 simp only [go_sem,mf84,hlen]
 refine fT (fun j => [(0,.int .i64 things),(1,v),(10,v),(11,.int .i64 l.length),(12,.int .i64 j)]) (fun j => bC (wi (things - 1)) (fun _ => false) (l.getD j []) = true) l.length rfl (fun j hj hall ih => ?_) (fun hall => ?_)
 · refine aQ aV zE [0,1,10,11,12] L84_1.eq_1 ?_
   have e1 : (j : Int) < l.length := by omega
   obtain ⟨p,sv,i1,r1,r1',hs⟩ := hv.at_ hj
   obtain ⟨x,hx⟩ : ∃ x,x = l[j] := ⟨_,rfl⟩
   have hxm : x ∈ l := hx ▸ qG hj
   have hxl := hn2 x hxm
   rw [← hx] at hs
   rw [getD_at hj,← hx] at ih
   have hls : fF sv = some (.int .i64 x.length) := by have := hs.use.1; rwa [List.length_map] at this
   have sb := hs.bdd (Nat.le_refl _)
   simp only [go_sem,e1,i1,r1,r1',hls]
   have no : bC (wi (things - 1)) (fun _ => false) x = false → dZ things l = false := fun e => by
    rw [dZ,List.all_eq_false.2 ⟨x,hxm,by simp [e]⟩]; rfl
   refine cZ (S := Nat × List (Int × Bool)) (F := fun s => [(0,.int .i64 things),(1,v),(7,.map h.length),(10,v),(11,.int .i64 l.length),(12,.int .i64 j),(17,sv),(18,.int .i64 x.length),(19,.int .i64 s.1)])
    (H := fun s => h ++ [some (.map (gM s.2))]) (meas := fun s => x.length - s.1) (Inv := fun s => s.1 ≤ x.length ∧ bC (wi (things - 1)) (fun _ => false) x = bC (wi (things - 1)) (gP s.2) (x.drop s.1)) (0,[]) ⟨Nat.zero_le _,rfl⟩ rfl rfl ?_
   rintro ⟨k,M⟩ ⟨hk,hM⟩ ih2
   simp only at hk hM ih2 ⊢
   refine aQ aV aFM [0,1,7,10,11,12,17,18,19] L84_0.eq_1 ?_
   by_cases hkl : k < x.length
   · have e2 : (k : Int) < x.length := by omega
     obtain ⟨_,q,hix,hrow,_⟩ := hs.use
     rw [List.length_map] at hix
     have e3 := hix k hkl
     have e4 : ∀ L,rdn w0 (h ++ L) (q.add (k * 2)) 2 = some x[k].c := fun L => fB (hrow k _ (fP hkl))
     obtain ⟨s,hsk⟩ : ∃ s,s = x[k] := ⟨_,rfl⟩
     rw [List.drop_eq_getElem_cons hkl,← hsk,bC] at hM
     rw [← hsk] at e4
     have lk : ∀ L,lV (h ++ (some (.map (gM M)) :: L)) (false,[true]) (.bool false) false (.map h.length) (.int .i64 s.thing) = some (.bool (gP M s.thing)) := fun L => look_B (by rw [qI (Nat.le_refl _),Nat.sub_self]; rfl) s.thing
     have pk : ∀ L b,jJ (h ++ (some (.map (gM M)) :: L)) (false,[true]) (.map h.length) (.int .i64 s.thing) (.bool b) = some (.undef,h ++ (some (.map (gM (jF M s.thing b))) :: L)) := fun L b => by
      rw [mput_B (by rw [qI (Nat.le_refl _),Nat.sub_self]; rfl),List.set_append_right _ _ (Nat.le_refl _),Nat.sub_self]; rfl
     have go : ∀ b,b = decide (s.kind = 1) → bC (wi (things - 1)) (fun y => if y = s.thing then decide (s.kind = 1) else gP M y) (x.drop (k + 1)) = bC (wi (things - 1)) (gP (jF M s.thing b)) (x.drop (k + 1)) := fun b e => gG _ _ _ _ fun y => by rw [tK,e]
     simp only [go_sem,e2,e3,e4]
     refine aI (in_c s.thing 0 (wi (things - 1))).v ?_
     cases c1 : inB s.thing 0 (wi (things - 1)) with
     | false =>
      simp only [go_sem]
      rw [no (by rw [hM,c1]; rfl)]
     | true =>
     have hbE : ∀ {N : Nat} (M : List (Int × Bool)),Blk.bdd N (.map (gM M)) := fun M e he => by
      simp only [gM,List.mem_map] at he
      obtain ⟨m,_,rfl⟩ := he
      exact ⟨trivial,trivial⟩
     by_cases k1 : s.kind = 1
     · cases c2 : gP M s.thing with
       | true =>
        simp only [go_sem,k1,lk,c2]
        rw [no (by rw [hM,c1,c2,k1]; rfl)]
       | false =>
        have hM' : bC (wi (things - 1)) (fun _ => false) x = bC (wi (things - 1)) (gP (jF M s.thing true)) (x.drop (k + 1)) := by
         rw [hM,← go true (by simp [k1]),c1,c2,k1]; simp
        simp only [go_sem,k1,lk,c2,pk]
        refine ⟨(by unfold I64; omega),kU 1 hb (by simp [eH,eI,fL,fM,iA,fJ,AV.bdds,AV.bdd,Pl.bdd,dE]; exact hbE _) (by simp [eH,eI,fL,fM,iA,fJ,AV.bdds,AV.bdd,Pl.bdd,dE]; exact ⟨AV.bdd_mono (by omega) _ vb,AV.bdd_mono (by omega) _ sb⟩) ?_⟩
        exact ih2 (k + 1,jF M s.thing true) ⟨by simp only; omega,hM'⟩ (by simp only; omega)
     · by_cases k2 : s.kind = 2
       · cases c2 : gP M s.thing with
         | false =>
          simp only [go_sem,k2,lk,c2]
          rw [no (by rw [hM,c1,c2,k2]; rfl)]
         | true =>
          have hM' : bC (wi (things - 1)) (fun _ => false) x = bC (wi (things - 1)) (gP (jF M s.thing false)) (x.drop (k + 1)) := by
           rw [hM,← go false (by simp [k2]),c1,c2,k2]; simp
          simp only [go_sem,k2,lk,c2,pk]
          refine ⟨(by unfold I64; omega),kU 1 hb (by simp [eH,eI,fL,fM,iA,fJ,AV.bdds,AV.bdd,Pl.bdd,dE]; exact hbE _) (by simp [eH,eI,fL,fM,iA,fJ,AV.bdds,AV.bdd,Pl.bdd,dE]; exact ⟨AV.bdd_mono (by omega) _ vb,AV.bdd_mono (by omega) _ sb⟩) ?_⟩
          exact ih2 (k + 1,jF M s.thing false) ⟨by simp only; omega,hM'⟩ (by simp only; omega)
       · simp only [go_sem,k1,k2]
         rw [no (by rw [hM,decide_eq_false k1,decide_eq_false k2]; simp)]
   · have e2 : ¬ (k : Int) < x.length := by omega
     obtain rfl : k = x.length := by omega
     rw [List.drop_length] at hM
     simp only [go_sem,e2]
     refine ⟨(by unfold I64; omega),kU 0 hb (by simp [HBs]) (by simp [eH,eI,fL,fM,iA,fJ,AV.bdds,AV.bdd,Pl.bdd,dE]; exact vb) ?_⟩
     simpa using ih hM
 · refine aQ aV zE [0,1,10,11,12] L84_1.eq_1 ?_
   have e1 : ¬ (l.length : Int) < l.length := by omega
   have hA : l.all (bC (wi (things - 1)) fun _ => false) = true := by rw [← fQ [],List.all_eq_true]; exact fun j hj => hall j (List.mem_range.1 hj)
   simp only [go_sem,e1]
   refine aI (in_c things 1 4).v ?_
   cases c1 : inB things 1 4 with
   | false => simp only [go_sem]; simp [dZ,c1]
   | true =>
   simp only [go_sem,hlen]
   refine aI (in_c l.length 1 4).v ?_
   simp only [go_sem]
   simp [dZ,c1,hA]
theorem uW {x : AV} {a : List Int} (n : Int) (hx : SlI w0 h x a) (hn : a.length < 1000000) : aY Tryz.prog w0 46 [x,.int .i64 n] h (.bool (decide (n ∈ a))) h := by
 refine aS aV aDY mf46_b mf46_g (qE rfl) (by simp [AV.bdd,AV.bdds]) fun hb ha => bF ?_
 have la := (SlI.use hx).1
 simp only [go_sem,mf46]
 refine fT (fun j => [(0,x),(1,.int .i64 n),(5,.int .i64 j)]) (fun j => a[j]? ≠ some n) a.length rfl (fun j hj hall ih => ?_) (fun hall => ?_)
 · refine aQ aV zF [0,1,5] L46_0.eq_1 ?_
   have e1 : (j : Int) < a.length := by omega
   obtain ⟨p,i1,r1,r1'⟩ := hx.at_ hj
   by_cases q : a[j] = n
   · have : n ∈ a := q ▸ qG hj
     simp only [go_sem,la,e1,i1,r1,r1',q]
     rw [decide_eq_true this]
   · simp only [go_sem,la,e1,i1,r1,r1',q]
     exact ⟨(by unfold I64; omega),ih (by rw [qA hj]; simpa using q)⟩
 · refine aQ aV zF [0,1,5] L46_0.eq_1 ?_
   have e1 : ¬ (a.length : Int) < a.length := by omega
   have : ¬ n ∈ a := fun hm => by
    obtain ⟨i,hi,e⟩ := List.getElem_of_mem hm
    exact hall i hi (by rw [qA hi,e])
   simp only [go_sem,la,e1]
   rw [decide_eq_false this]
theorem Gro.base {H X : aA} {es n : Nat} {ov : AV} {vs : List AV} (g : Gro X H es n ov vs) (s : aE h X) : Gro h H es n ov vs := by
 refine ⟨s.trans g.sub,?_⟩
 rcases g.own with h1 | ⟨io,h1,h2⟩
 · exact .inl h1
 · exact .inr ⟨io,Nat.le_trans s.1 h1,h2⟩
theorem sA {v : AV} {l : List (List aF)} (things : Int) (hv : PS w0 h v l) (hn : l.length < 1000000) (hn2 : ∀ x ∈ l,x.length ≤ 1000) : aY Tryz.prog w0 35 [.int .i64 things,v] h (.bool (dZ things l)) h := by
 refine dF trivial (bK aV aD5 mf35_b mf35_g (qE rfl) fun hb ha => bF ?_)
 simp only [go_sem,mf35]
 refine cZ (S := Nat × aA) (F := fun s => [(0,.int .i64 things),(1,v),(5,.int .i64 s.1)]) (H := fun s => s.2) (meas := fun s => l.length - s.1)
  (Inv := fun s => s.1 ≤ l.length ∧ aE h s.2 ∧ ∀ i,i < s.1 → bC (wi (things - 1)) (fun _ => false) (l.getD i []) = true) (0,h) ⟨Nat.zero_le _,aE.refl,fun i hi => by simp at hi⟩ rfl (by simp) ?_
 rintro ⟨j,H⟩ ⟨hj,sH,hall⟩ ih
 simp only at hj sH hall ih ⊢
 refine aQ aV aFV [0,1,5] L35_2.eq_1 ?_
 have hlen := (hv.sub sH).len
 by_cases hjl : j < l.length
 · have e1 : (j : Int) < l.length := by omega
   obtain ⟨x,hx⟩ : ∃ x,x = l[j] := ⟨_,rfl⟩
   have hxm : x ∈ l := hx ▸ qG hjl
   have hxl := hn2 x hxm
   simp only [go_sem,hlen,e1]
   have no : bC (wi (things - 1)) (fun _ => false) x = false → dZ things l = false := fun e => by
    rw [dZ,List.all_eq_false.2 ⟨x,hxm,by simp [e]⟩]; rfl
   refine cZ (S := Nat × aA × AV × List Int) (F := fun s => [(0,.int .i64 things),(1,v),(5,.int .i64 j),(6,s.2.2.1),(7,.int .i64 s.1)])
    (H := fun s => s.2.1) (meas := fun s => x.length - s.1) (Inv := fun s => s.1 ≤ x.length ∧ Gro h s.2.1 1 s.2.2.2.length s.2.2.1 (aM s.2.2.2) ∧ s.2.2.2.length ≤ s.1 ∧ bC (wi (things - 1)) (fun _ => false) x = bC (wi (things - 1)) (fun y => decide (y ∈ s.2.2.2)) (x.drop s.1)) (0,H,.nilS,[]) ⟨Nat.zero_le _,Gro.nil sH,Nat.le_refl _,by simp⟩ rfl rfl ?_
   rintro ⟨k,G,hvv,held⟩ ⟨hk,hG,hhl,hM⟩ ih2
   simp only at hk hG hhl hM ih2 ⊢
   have sG := hG.sub
   obtain ⟨p,sv,i1,r1,r1',hs⟩ := (hv.sub sG).at_ hjl
   rw [← hx] at hs
   have hls : fF sv = some (.int .i64 x.length) := by have := hs.use.1; rwa [List.length_map] at this
   refine aQ aV aFW [0,1,5,6,7] L35_1.eq_1 ?_
   by_cases hkl : k < x.length
   · have e2 : (k : Int) < x.length := by omega
     obtain ⟨_,q,hix,hrow,_⟩ := hs.use
     rw [List.length_map] at hix
     have e3 := hix k hkl
     have e4 : ∀ L,rdn w0 (G ++ L) (q.add (k * 2)) 2 = some x[k].c := fun L => fB (hrow k _ (fP hkl))
     have e4' := hrow k _ (fP hkl)
     obtain ⟨s,hsk⟩ : ∃ s,s = x[k] := ⟨_,rfl⟩
     rw [List.drop_eq_getElem_cons hkl,← hsk,bC] at hM
     rw [← hsk] at e4 e4'
     have hL : SlI w0 G hvv held := hG.sli rfl
     simp only [go_sem,e2,i1,r1,r1',hls,e3,e4,e4']
     refine aCQ aV [0,1,2,3,4,5,6,7,8,9,10,11,12,13,14,15,16,17,18,19,20,21,22,23,24,25] [o_ 33 (.addr (.t 8) 1),o_ 34 (l_ 33),o_ 35 (m_ 0),o_ 36 (.bin .sub (.t 35) (i_ 1)),.call (some 37) none (f_ 82) [(.t 34),(i_ 0),(.t 36)],o_ 38 (.un .not (.t 37)),o_ 39 (m_ 38),q_ 40 39 false (.addr (.t 8) 0),q_ 41 39 false (l_ 40),q_ 42 39 false (.bin .neq (.t 41) (i_ 1)),q_ 43 39 false (m_ 42),q_ 44 43 true (.addr (.t 8) 0),q_ 45 43 true (l_ 44),q_ 46 43 true (.bin .neq (.t 45) (i_ 2)),q_ 47 39 false (.pick (.t 43) (.t 46) (.k (.bool false))),o_ 48 (.pick (.t 39) (.k (.bool true)) (.t 47)),o_ 49 (m_ 48),q_ 50 49 false (.addr (.t 8) 0),q_ 51 49 false (l_ 50),q_ 52 49 false (.bin .eql (.t 51) (i_ 1)),q_ 53 49 false (m_ 6),q_ 54 49 false (.addr (.t 8) 1),q_ 55 49 false (l_ 54),.call (some 56) (some (49,false)) (f_ 46) [(.t 53),(.t 55)]] [([(18,q_ 51 49 false (l_ 50))],[q_ 57 49 false (.eqb false (.t 52) (.t 56)),o_ 58 (.pick (.t 49) (.k (.bool true)) (.t 57))])] rfl rfl (by kernel_rfl) ?_
     simp only [go_sem]
     refine aI (wS s.thing 0 (wi (things - 1))).v ?_
     cases c1 : inB s.thing 0 (wi (things - 1)) with
     | false =>
      simp only [go_sem]
      exact ⟨sG.app,by rw [no (by rw [hM,c1]; rfl)]⟩
     | true =>
     by_cases k1 : s.kind = 1
     · simp only [go_sem,k1]
       refine aI (uW s.thing (Sl.app hL) (by omega)).v ?_
       cases c2 : decide (s.thing ∈ held) with
       | true =>
        simp only [go_sem]
        exact ⟨sG.app,by rw [no (by rw [hM]; simp [c1,k1,of_decide_eq_true c2])]⟩
       | false =>
        have c3 : ¬ s.thing ∈ held := of_decide_eq_false c2
        simp only [go_sem]
        obtain ⟨Y,eY⟩ : ∃ Y,Y = G ++ [some (Blk.row [.int .i64 1,.int .i64 s.thing]),some (.row [.int .i64 s.thing])] := ⟨_,rfl⟩
        have gY : Gro h Y 1 held.length hvv (aM held) := eY ▸ hG.app
        have hkk : Y[G.length + 1]? = some (some (.row [.int .i64 s.thing])) := by rw [eY,qI (by omega)]; simp
        obtain ⟨G2,e5,e6⟩ := gY.more (w0 := w0) (b := 8) (f := true) hkk rfl rfl (by omega) (by omega)
        rw [← eY,e5]
        simp only [go_sem]
        refine ⟨(by unfold I64; omega),ih2 (k + 1,G2,_,held ++ [s.thing]) ⟨by simp only; omega,?_,by simp only [List.length_append,List.length_singleton]; omega,?_⟩ (by simp only; omega)⟩
        · simpa [aM] using e6
        · rw [hM]
          simp only [c1,k1,c3,decide_true,decide_false,Bool.true_or,Bool.and_self,Bool.true_and]
          rw [show decide (false = decide ((1 : Int) = 2)) = true from rfl,Bool.true_and]
          refine gG _ _ _ _ fun y => ?_
          by_cases e : y = s.thing <;> simp [e]
     · by_cases k2 : s.kind = 2
       · simp only [go_sem,k2]
         refine aI (uW s.thing (Sl.app hL) (by omega)).v ?_
         cases c2 : decide (s.thing ∈ held) with
         | false =>
          simp only [go_sem]
          exact ⟨sG.app,by rw [no (by rw [hM]; simp [c1,k2,of_decide_eq_false c2])]⟩
         | true =>
          have c3 : s.thing ∈ held := of_decide_eq_true c2
          simp only [go_sem]
          obtain ⟨X,eX⟩ : ∃ X,X = G ++ [some (Blk.row [.int .i64 2,.int .i64 s.thing])] := ⟨_,rfl⟩
          have sX : aE G X := eX ▸ aE.refl.app
          have x8 : X[G.length]? = some (some (.row [.int .i64 2,.int .i64 s.thing])) := by rw [eX,qI (Nat.le_refl _),Nat.sub_self]; rfl
          rw [← eX]
          refine cZ (S := Nat × aA × AV) (F := fun t => [(0,.int .i64 things),(1,v),(5,.int .i64 j),(6,hvv),(7,.int .i64 k),(8,.ptr (.own G.length 0)),(9,t.2.2),(10,.int .i64 t.1)]) (H := fun t => t.2.1) (meas := fun t => held.length - t.1)
           (Inv := fun t => t.1 ≤ held.length ∧ Gro X t.2.1 1 ((held.take t.1).filter (· ≠ s.thing)).length t.2.2 (aM ((held.take t.1).filter (· ≠ s.thing)))) (0,X,.nilS) ⟨Nat.zero_le _,by simpa [aM] using Gro.nil aE.refl⟩ rfl rfl ?_
          rintro ⟨i,T,rv⟩ ⟨hi,hT⟩ ih3
          simp only at hi hT ih3 ⊢
          refine aQ aV aFX [0,1,5,6,7,8,9,10] L35_0.eq_1 ?_
          have hLT := Sl.sub hL (sX.trans hT.sub)
          have hll := (SlI.use hLT).1
          by_cases hil : i < held.length
          · have e6 : (i : Int) < held.length := by omega
            obtain ⟨pp,i2,r2,r2'⟩ := SlI.at_ hLT hil
            have x8T := hT.sub.2 _ _ x8
            have x8L := xL x8T
            have hfl : ((held.take i).filter (· ≠ s.thing)).length ≤ held.length := Nat.le_trans (List.length_filter_le _ _) (by rw [List.length_take]; omega)
            by_cases q1 : held[i] = s.thing
            · simp only [go_sem,hll,e6,i2,r2,r2',x8T,x8L,q1,bne_self_eq_false]
              refine ⟨(by unfold I64; omega),ih3 (i + 1,T,rv) ⟨by simp only; omega,?_⟩ (by simp only; omega)⟩
              rw [List.take_succ_eq_append_getElem hil,List.filter_append]
              simpa [q1] using hT
            · have q2 : (held[i] != s.thing) = true := by simpa using q1
              simp only [go_sem,hll,e6,i2,r2,r2',x8T,x8L,q2]
              obtain ⟨Y,eY⟩ : ∃ Y,Y = T ++ [some (Blk.row [.int .i64 held[i]])] := ⟨_,rfl⟩
              have gY := hT.app (L := [some (Blk.row [.int .i64 held[i]])])
              rw [← eY] at gY
              have hkk : Y[T.length]? = some (some (.row [.int .i64 held[i]])) := by rw [eY,qI (Nat.le_refl _),Nat.sub_self]; rfl
              obtain ⟨G2,e7,e8⟩ := gY.more (w0 := w0) (b := 8) (f := true) hkk rfl rfl (by omega) (by omega)
              rw [← eY,e7]
              simp only [go_sem]
              refine ⟨(by unfold I64; omega),ih3 (i + 1,G2,_) ⟨by simp only; omega,?_⟩ (by simp only; omega)⟩
              rw [List.take_succ_eq_append_getElem hil,List.filter_append]
              simpa [q1,aM] using e8
          · have e6 : ¬ (i : Int) < held.length := by omega
            obtain rfl : i = held.length := by omega
            rw [List.take_length] at hT
            simp only [go_sem,hll,e6]
            refine ⟨(by unfold I64; omega),ih2 (k + 1,T,rv,held.filter (· ≠ s.thing)) ⟨by simp only; omega,hT.base (sG.trans sX),by simp only; exact Nat.le_trans (List.length_filter_le _ _) (by omega),?_⟩ (by simp only; omega)⟩
            rw [hM]
            simp only [c1,k2,c3,decide_true,Bool.or_true,Bool.and_self,Bool.true_and]
            refine gG _ _ _ _ fun y => ?_
            by_cases e : y = s.thing <;> simp [e]
       · simp only [go_sem,k1,k2]
         exact ⟨sG.app,by rw [no (by rw [hM]; simp [k1,k2])]⟩
   · have e2 : ¬ (k : Int) < x.length := by omega
     obtain rfl : k = x.length := by omega
     rw [List.drop_length] at hM
     simp only [go_sem,e2,i1,r1,r1',hls]
     refine ⟨(by unfold I64; omega),ih (j + 1,G) ⟨by simp only; omega,sG,fun i hi => ?_⟩ (by simp only; omega)⟩
     by_cases hij : i < j
     · exact hall i hij
     · obtain rfl : i = j := by simp only at hi; omega
       rw [getD_at hjl,← hx]; exact hM
 · have e1 : ¬ (j : Int) < l.length := by omega
   obtain rfl : j = l.length := by omega
   have hA : l.all (bC (wi (things - 1)) fun _ => false) = true := by rw [← fQ [],List.all_eq_true]; exact fun j hj => hall j (List.mem_range.1 hj)
   simp only [go_sem,hlen,e1]
   refine aI (wS things 1 4).v ?_
   cases c1 : inB things 1 4 with
   | false => simp only [go_sem]; exact ⟨sH,by simp [dZ,c1]⟩
   | true =>
   simp only [go_sem,hlen]
   refine aI (wS l.length 1 4).v ?_
   simp only [go_sem]
   exact ⟨sH,by simp [dZ,c1,hA]⟩
def kK (n : Nat) (sch : List Int) : Bool := sch.all fun x => inB x 0 ((n : Int) - 1)
theorem run1_c (x : Int) {p : Pl} {v : AV} {n : Nat} (hp : rd w0 h p = some v) (hl : fF v = some (.int .i64 n)) (hn : n < 1000000) : aY Tryz.prog w0 96 [.int .i64 x,.ptr p] h (.bool (inB x 0 ((n : Int) - 1))) h := by
 refine aS aV aDH mf96_b mf96_g (qE rfl) (by simp [AV.bdd,AV.bdds]) fun hb ha => bF ?_
 have e1 : ∀ L,rd w0 (h ++ L) p = some v := fun L => gS hp
 have w1 : wi ((n : Int) - 1) = n - 1 := mW (by unfold I64; omega)
 simp only [go_sem,mf96,e1,hl,w1]
 refine aI (in_c x 0 (n - 1)).v ?_
 simp only [go_sem]
theorem nH {v sv : AV} {l : List (List aF)} {sch : List Int} (hs : SlI w0 h sv sch) (hv : PS w0 h v l) (hn : l.length < 1000000) (hsn : sch.length ≤ 9223372036854775807) : aY Tryz.prog w0 40 [sv,v] h (.bool (kK l.length sch)) h := by
 refine aS aV aD3 mf40_b mf40_g (qE rfl) (by simp [AV.bdd,AV.bdds]) fun hb ha => bF ?_
 have hlen := hv.len
 have hls := (SlI.use hs).1
 have w1 : wi ((l.length : Int) - 1) = l.length - 1 := mW (by unfold I64; omega)
 simp only [go_sem,mf40]
 refine fT (fun j => [(0,sv),(1,v),(5,.int .i64 j)]) (fun j => inB (sch.getD j 0) 0 ((l.length : Int) - 1) = true) sch.length rfl (fun j hj hall ih => ?_) (fun hall => ?_)
 · refine aQ aV zI [0,1,5] L40_0.eq_1 ?_
   have e1 : (j : Int) < sch.length := by omega
   obtain ⟨p,i1,r1,r1'⟩ := hs.at_ hj
   rw [getD_at hj] at ih
   simp only [go_sem,hls,e1,i1,r1,r1',hlen,w1]
   refine aI (wS sch[j] 0 (l.length - 1)).v ?_
   cases c1 : inB sch[j] 0 (l.length - 1) with
   | false =>
    simp only [go_sem]
    rw [show kK l.length sch = false by rw [kK,List.all_eq_false]; exact ⟨_,qG hj,by simp [c1]⟩]
   | true =>
    simp only [go_sem]
    exact ⟨(by unfold I64; omega),ih c1⟩
 · refine aQ aV zI [0,1,5] L40_0.eq_1 ?_
   have e1 : ¬ (sch.length : Int) < sch.length := by omega
   have : kK l.length sch = true := by rw [kK,← fQ 0,List.all_eq_true]; exact fun j hj => hall j (List.mem_range.1 hj)
   simp only [go_sem,hls,e1]
   rw [this]
def nobD (n : Nat) : List Int := List.replicate n (-1)
theorem aCL : aY Tryz.prog w0 85 [] h (.agg (aM (nobD 4))) h := by
 refine dF (by simp [AV.bdd]) (bK aV xI aBJ aBI (qE rfl) fun hb ha => bF ?_)
 simp only [go_sem,mf85]
 iterate 4
  refine aQ aV zD [0,1,3] L85_0.eq_1 ?_
  simp only [go_sem]
  try refine ⟨(by unfold I64; omega),?_⟩
 refine aQ aV zD [0,1,3] L85_0.eq_1 ?_
 simp only [go_sem]
 exact ⟨aE.refl.app,rfl⟩
def stepS (progs : List (List aF)) (st : List Int) (who : Nat) : Option aF := (progs.getD who [])[(st.getD who 0).toNat]?
def aZ (progs : List (List aF)) (st : List Int) (who : Nat) : Option (List Int) := match stepS progs st who with
 | none => none
 | some s => if s.kind = 1 ∧ st.getD (4 + s.thing.toNat) 0 ≠ -1 then none else some ((st.set who (st.getD who 0 + 1)).set (4 + s.thing.toNat) (if s.kind = 1 then (who : Int) else -1))
def lE (progs : List (List aF)) : Prop := ∀ x ∈ progs,x.length ≤ 6 ∧ ∀ s ∈ x,(0 ≤ s.thing ∧ s.thing < 4) ∧ (s.kind = 1 ∨ s.kind = 2)
structure iS (progs : List (List aF)) (st : List Int) : Prop where
 len : st.length = 8
 done : ∀ i,i < progs.length → 0 ≤ st.getD i 0 ∧ st.getD i 0 ≤ (progs.getD i []).length
theorem mO {l : List Int} {i : Nat} (h : i < l.length) : (aM l)[i]? = some (.int .i64 (l.getD i 0)) := by rw [tE,qA h,getD_at h]; rfl
def fG (o : Option aF) : List AV := match o with
 | some s => [.agg s.c,.bool true]
 | none => [.agg [.int .i64 0,.int .i64 0],.bool false]
theorem pT {v : AV} {progs : List (List aF)} {st : List Int} {who : Nat} (hv : PS w0 h v progs) (hs : iS progs st) (hw : who < progs.length) (hp : progs.length ≤ 4) :
 aY Tryz.prog w0 89 [.agg (aM st),v,.int .i64 who] h (.tup (fG (stepS progs st who))) h := by
 have hbv : ∀ N,(AV.tup (fG (stepS progs st who))).bdd N := fun N => by unfold fG; split <;> simp [AV.bdd,AV.bdds,aF.c]
 refine dF (hbv _) (bK aV xE aBB aBA (qE rfl) fun hb ha => bF ?_)
 have hl8 := hs.len
 have c1 : (aM st).length = 8 := by rw [cA,hl8]
 have c2 := mO (l := st) (i := who) (by omega)
 have hw4 : who < 4 := by omega
 obtain ⟨p,sv,i1,r1,r1',hx⟩ := hv.at_ hw
 obtain ⟨d1,d2⟩ := hs.done who hw
 rw [getD_at hw] at d2
 have hls : fF sv = some (.int .i64 progs[who].length) := by have := hx.use.1; rwa [List.length_map] at this
 obtain ⟨d,hd⟩ : ∃ d : Nat,st.getD who 0 = d := ⟨(st.getD who 0).toNat,by omega⟩
 rw [hd] at c2 d2
 have hst : stepS progs st who = progs[who][d]? := by rw [stepS,getD_at hw,hd]; rfl
 rw [hst]
 by_cases q : d = progs[who].length
 · have e1 : (d : Int) = progs[who].length := by omega
   have e2 : progs[who][d]? = none := List.getElem?_eq_none (by omega)
   simp only [go_sem,mf89,bM,c1,Nat.mul_one,c2,hw4,i1,r1,r1',hls,e1]
   rw [e2]
   exact ⟨aE.refl.app,rfl⟩
 · have hdl : d < progs[who].length := by omega
   have e1 : ¬ (d : Int) = progs[who].length := by omega
   have e2 : progs[who][d]? = some progs[who][d] := qA hdl
   obtain ⟨_,q2,hix,hrow,_⟩ := hx.use
   rw [List.length_map] at hix
   have e3 := hix d hdl
   have e4 : ∀ L,rdn w0 (h ++ L) (q2.add (d * 2)) 2 = some progs[who][d].c := fun L => fB (hrow d _ (fP hdl))
   simp only [go_sem,mf89,bM,c1,Nat.mul_one,c2,hw4,i1,r1,r1',hls,e1,e3,e4]
   rw [e2]
   exact ⟨aE.refl.app,rfl⟩
def kD (o : Option (List Int)) (st : List Int) : List AV := match o with
 | some s => [.agg (aM s),.bool true]
 | none => [.agg (aM st),.bool false]
theorem yY {v : AV} {progs : List (List aF)} {st : List Int} {who : Nat} (hv : PS w0 h v progs) (hg : lE progs) (hs : iS progs st) (hw : who < progs.length) (hp : progs.length ≤ 4) :
 aY Tryz.prog w0 88 [.agg (aM st),v,.int .i64 who] h (.tup (kD (aZ progs st who) st)) h := by
 have hbv : ∀ N,(AV.tup (kD (aZ progs st who) st)).bdd N := fun N => by unfold kD; split <;> simp [AV.bdd,AV.bdds]
 refine dF (hbv _) (bK aV xF aBD aBC (qE rfl) fun hb ha => bF ?_)
 have hl8 := hs.len
 have c1 : (aM st).length = 8 := by rw [cA,hl8]
 have hw4 : who < 4 := by omega
 have t8 : (aM st).take 8 = aM st := List.take_of_length_le (by omega)
 have d8 : (aM st).drop 8 = [] := List.drop_of_length_le (by omega)
 simp only [go_sem,mf88,bM,c1,t8,List.drop_zero]
 refine aI (pT hv.app hs hw hp).v ?_
 cases hst : stepS progs st who with
 | none =>
  have hn : aZ progs st who = none := by rw [aZ,hst]
  simp only [go_sem,fG,bM,c1,t8,d8,List.drop_zero,List.take_zero,List.nil_append,List.append_nil]
  rw [hn]
  exact ⟨aE.refl.app,rfl⟩
 | some s =>
  obtain ⟨hth,hki⟩ : (0 ≤ s.thing ∧ s.thing < 4) ∧ (s.kind = 1 ∨ s.kind = 2) := by
   rw [stepS,getD_at hw] at hst
   exact (hg _ (qG hw)).2 s (List.mem_of_getElem? hst)
  obtain ⟨t,ht⟩ : ∃ t : Nat,s.thing = t := ⟨s.thing.toNat,by omega⟩
  have ht4 : t < 4 := by omega
  have c2 := mO (l := st) (i := who) (by omega)
  have c3 := mO (l := st) (i := 4 + t) (by omega)
  obtain ⟨d1,d2⟩ := hs.done who hw
  have d3 := (hg _ (qG hw)).1
  rw [getD_at hw] at d2
  have hd0 : I64 (st.getD who 0 + 1) := by unfold I64; omega
  have c4 : who + 1 ≤ (aM st).length := by omega
  have sp : ∀ (l : List Int) (i : Nat) (x : Int),l.length = 8 → i < 8 → (aM l).take i ++ .int .i64 x :: (aM l).drop (i + 1) = aM (l.set i x) := fun l i x h1 h2 => by
   rw [nC (by rw [cA]; omega)]; simp [aM,List.map_set]
  obtain ⟨s1,es1⟩ : ∃ s1,s1 = st.set who (st.getD who 0 + 1) := ⟨_,rfl⟩
  have l1 : s1.length = 8 := by rw [es1,List.length_set,hl8]
  have z1 := sp st who (st.getD who 0 + 1) hl8 (by omega)
  rw [← es1] at z1
  obtain ⟨s2,es2⟩ : ∃ s2,s2 = s1.set (4 + t) (-1) := ⟨_,rfl⟩
  have l2 : s2.length = 8 := by rw [es2,List.length_set,l1]
  have z2 := sp s1 (4 + t) (-1) l1 (by omega)
  rw [← es2,Nat.add_assoc] at z2
  have z3 := sp s2 (4 + t) who l2 (by omega)
  rw [es2,List.set_set,← es2,Nat.add_assoc] at z3
  obtain ⟨s3,es3⟩ : ∃ s3,s3 = s1.set (4 + t) who := ⟨_,rfl⟩
  have l3 : s3.length = 8 := by rw [es3,List.length_set,l1]
  rw [← es3] at z3
  have m1 : (aM s1).length = 8 := by rw [cA,l1]
  have m2 : (aM s2).length = 8 := by rw [cA,l2]
  have m3 : (aM s3).length = 8 := by rw [cA,l3]
  have u2 : (aM s2).take 8 = aM s2 := List.take_of_length_le (by omega)
  have u3 : (aM s3).take 8 = aM s3 := List.take_of_length_le (by omega)
  have v2 : (aM s2).drop 8 = [] := List.drop_of_length_le (by omega)
  have v3 : (aM s3).drop 8 = [] := List.drop_of_length_le (by omega)
  have t9 : 4 + (t + 1) ≤ 8 := by omega
  by_cases k1 : s.kind = 1
  · by_cases q : st.getD (4 + t) 0 = -1
    · have hn : aZ progs st who = some s3 := by
       rw [aZ,hst]; simp only [ht,Int.toNat_natCast]; rw [if_neg (fun x => x.2 q),if_pos k1,← es1,es3]
      simp only [go_sem,fG,bM,c1,t8,List.drop_zero,k1,ht,jV,ht4,Nat.mul_one,c3,q,c2,hw4,c4,z1,m1,t9,z2,m2,z3,m3,u3,v3,List.take_zero,List.nil_append,List.append_nil]
      refine ⟨hd0,by omega,?_⟩
      rw [hn]
      exact ⟨aE.refl.app,rfl⟩
    · have hn : aZ progs st who = none := by
       rw [aZ,hst]; simp only [ht,Int.toNat_natCast]; rw [if_pos ⟨k1,q⟩]
      have q' : (st.getD (4 + t) 0 != -1) = true := by simpa using q
      simp only [go_sem,fG,bM,c1,t8,d8,List.drop_zero,List.take_zero,List.nil_append,List.append_nil,k1,ht,jV,ht4,Nat.mul_one,c3,q']
      rw [hn]
      exact ⟨aE.refl.app,rfl⟩
  · have k2 : s.kind = 2 := by omega
    have hn : aZ progs st who = some ((st.set who (st.getD who 0 + 1)).set (4 + t) (-1)) := by
     rw [aZ,hst]; simp only [ht,Int.toNat_natCast]; rw [if_neg (fun x => k1 x.1),if_neg k1]
    rw [← es1,← es2] at hn
    simp only [go_sem,fG,bM,c1,t8,List.drop_zero,k2,ht,jV,ht4,Nat.mul_one,c3,c2,hw4,c4,z1,m1,t9,z2,m2,u2,v2,List.take_zero,List.nil_append,List.append_nil]
    refine ⟨hd0,by omega,?_⟩
    rw [hn]
    exact ⟨aE.refl.app,rfl⟩
def eJ (progs : List (List aF)) : List Int → Int → List Int → List Int × Int
 | st,_,[] => (st,-1)
 | st,i,w :: r => match aZ progs st w.toNat with
  | none => (st,i)
  | some s => eJ progs s (i + 1) r
theorem kT {progs : List (List aF)} {st s : List Int} {who : Nat} (hg : lE progs) (hs : iS progs st) (hw : who < progs.length) (hp : progs.length ≤ 4) (e : aZ progs st who = some s) : iS progs s := by
 rw [aZ] at e
 cases hst : stepS progs st who with
 | none => rw [hst] at e; cases e
 | some x =>
  rw [hst] at e
  simp only at e
  split at e
  · cases e
  · cases e
    have hx := hst
    rw [stepS,getD_at hw] at hx
    have hd := aK hx
    obtain ⟨d1,d2⟩ := hs.done who hw
    have hth := ((hg _ (qG hw)).2 x (List.mem_of_getElem? hx)).1
    refine ⟨by simp [hs.len],fun i hi => ?_⟩
    rw [List.getD_eq_getElem?_getD,qB (by omega)]
    by_cases hij : who = i
    · subst hij
      rw [qF (by rw [hs.len]; omega),Option.getD_some,getD_at hw]; omega
    · rw [qB hij,← List.getD_eq_getElem?_getD]; exact hs.done i hi
def bE : List Int := [0,0,0,0,-1,-1,-1,-1]
theorem nR {progs : List (List aF)} (hp : progs.length ≤ 4) : iS progs bE := ⟨rfl,fun i hi => by
 have : ∀ i,i < 4 → bE.getD i 0 = 0 := by decide
 rw [this i (by omega)]; omega⟩
theorem iL {tm : Int} : ∀ {x : List aF} {f : Int → Bool},bC tm f x = true → ∀ s ∈ x,(0 ≤ s.thing ∧ s.thing ≤ tm) ∧ (s.kind = 1 ∨ s.kind = 2)
 | [],_,_,s,hs => by simp at hs
 | a :: x,f,h,s,hs => by
  simp only [bC,Bool.and_eq_true,Bool.or_eq_true,inB,decide_eq_true_eq] at h
  rcases List.mem_cons.1 hs with rfl | hs
  · exact ⟨h.1.1,h.1.2.1⟩
  · exact iL h.2 s hs
theorem oR {things : Int} {l : List (List aF)} (h : dZ things l = true) (hl : dJ l = false) : ∃ n : Nat,things = n ∧ (1 ≤ n ∧ n ≤ 4) ∧ (1 ≤ l.length ∧ l.length ≤ 4) ∧ lE l ∧ (∀ x ∈ l,bC ((n : Int) - 1) (fun _ => false) x = true) ∧ ∀ x ∈ l,∀ s ∈ x,s.thing < n := by
 simp only [dZ,Bool.and_eq_true,List.all_eq_true,inB,decide_eq_true_eq] at h
 obtain ⟨h1,h2,h3⟩ := h
 obtain ⟨n,rfl⟩ : ∃ n : Nat,things = n := ⟨things.toNat,by omega⟩
 rw [mW (by unfold I64; omega)] at h1
 rw [dJ,List.any_eq_false] at hl
 refine ⟨n,rfl,by omega,by omega,fun x hx => ⟨by have := hl x hx; simp at this; exact this,fun s hs => ?_⟩,h1,fun x hx s hs => ?_⟩
 · have := iL (h1 x hx) s hs
   exact ⟨⟨this.1.1,by omega⟩,this.2⟩
 · have := iL (h1 x hx) s hs
   omega
theorem wP {progs : List (List aF)} (hg : lE progs) (hp : progs.length ≤ 4) : ∀ (sch : List Int) (st : List Int) (i : Int),iS progs st → (∀ x ∈ sch,0 ≤ x ∧ x < progs.length) → iS progs (eJ progs st i sch).1
 | [],st,i,hs,_ => hs
 | w :: r,st,i,hs,hr => by
  rw [eJ]
  have hw := hr w (by simp)
  cases e : aZ progs st w.toNat with
  | none => exact hs
  | some s => exact wP hg hp r s (i + 1) (kT hg hs (by omega) hp e) fun x hx => hr x (by simp [hx])
theorem rZ {H : aA} {i o n : Nat} {st : List Int} {f : Bool} (hi : H[i]? = some (some (.row (aM st)))) (hn : o + n ≤ st.length) : SlI w0 H (.sl (.own i o) n 1 f) ((st.drop o).take n) := by
 have hl : ((st.drop o).take n).length = n := by rw [List.length_take,List.length_drop]; omega
 refine .inr ⟨.own i o,f,⟨1,by rw [List.length_map,hl],eU⟩,(List.getElem?_eq_some_iff.1 hi).1,fun j c hc => ?_⟩
 rw [List.getElem?_map] at hc
 obtain ⟨z,hz,rfl⟩ := qD.1 hc
 have hj := aK hz
 rw [hl] at hj
 rw [List.getElem?_take_of_lt hj,List.getElem?_drop] at hz
 have e0 : rdn w0 H (.own i 0) st.length = some (aM st) := by
  simp only [rdn,hi,Nat.zero_add,List.drop_zero]
  rw [if_pos (by rw [cA]; exact Nat.le_refl _),List.take_of_length_le (by rw [cA]; exact Nat.le_refl _)]
 have e2 := (wW e0).2 (o + j) 1 (by omega)
 simp only [Pl.add,Nat.zero_add] at e2
 simp only [Pl.add,Nat.mul_one]
 rw [e2]
 have : (aM st)[o + j]? = some (.int .i64 z) := by rw [tE,hz]; rfl
 rw [List.drop_eq_getElem_cons (List.getElem?_eq_some_iff.1 this).1,(List.getElem?_eq_some_iff.1 this).2]; rfl
def rI (w0 : World) (H : aA) (y : AV) (things : Int) (progs : List (List aF)) (sch : List Int) : Prop :=
 if dJ progs = true ∨ 24 < sch.length then y = .tup [.nilS,.nilS,.int .i64 0,.int .i64 3]
 else if (dZ things progs && kK progs.length sch) = true then ∃ hv dv,y = .tup [hv,dv,.int .i64 (eJ progs bE 0 sch).2,.int .i64 0] ∧ SlI w0 H hv (((eJ progs bE 0 sch).1.drop 4).take things.toNat) ∧ SlI w0 H dv ((eJ progs bE 0 sch).1.take progs.length)
 else y = .tup [.nilS,.nilS,.int .i64 0,.int .i64 2]
theorem Run_c {v sv : AV} {progs : List (List aF)} {sch : List Int} (things : Int) (hv : PS w0 h v progs) (hs : SlI w0 h sv sch) (hn : progs.length < 1000000) (hn2 : ∀ x ∈ progs,x.length < 1000000) (hsn : sch.length < 1000000) :
 ACall Tryz.prog w0 39 [.int .i64 things,v,sv] h fun y H => aE h H ∧ rI w0 H y things progs sch := by
 refine bK aV aD4 mf39_b mf39_g (qE rfl) fun hb ha => bF ?_
 have o := NS.one hv
 have hls := (SlI.use hs).1
 have hlen := hv.len
 have vb := NS.bdd hv (Nat.le_refl _)
 have sb := hs.bdd (Nat.le_refl _)
 simp only [go_sem,mf39,o.1,o.2]
 refine aI (aCt hv.app hn).v ?_
 cases hL : dJ progs with
 | true =>
  simp only [go_sem]
  exact ⟨aE.refl.app,by rw [rI,if_pos (.inl hL)]⟩
 | false =>
 by_cases q1 : (sch.length : Int) > 24
 · simp only [go_sem,hls,q1]
   exact ⟨aE.refl.app,by rw [rI,if_pos (.inr (by omega))]⟩
 have hno : ¬ (dJ progs = true ∨ 24 < sch.length) := by rw [hL]; simp; omega
 simp only [go_sem,hls,q1]
 refine aI (kQ things hv.app hn hn2).v ?_
 cases hP : dZ things progs with
 | false =>
  simp only [go_sem]
  exact ⟨aE.refl.app,by rw [rI,if_neg hno,if_neg (by simp [hP])]⟩
 | true =>
 simp only [go_sem]
 obtain ⟨X,eX⟩ : ∃ X,X = h ++ [some (Blk.row [v])] := ⟨_,rfl⟩
 have x0 : X[h.length]? = some (some (.row [v])) := by rw [eX,qI (Nat.le_refl _),Nat.sub_self]; rfl
 have sX : aE h X := eX ▸ aE.refl.app
 have hall := aC0 (w0 := w0) (h := X) (sch.map fun z => [.int .i64 z]) sv (.fn (.func 96) [] [.ptr (.own h.length 0)]) (fun j => inB (sch.getD j 0) 0 ((progs.length : Int) - 1)) (Sl.sub hs sX) (fun c hc => by
  obtain ⟨z,_,rfl⟩ := List.mem_map.1 hc; rfl) (by simpa using hsn) (fun j c hc _ L => by
  rw [List.getElem?_map] at hc
  obtain ⟨z,hz,rfl⟩ := qD.1 hc
  rw [aCJ (l := sch) hz]
  exact aY.vc (P := Tryz.prog) (first := []) (capt := [.ptr (.own h.length 0)]) (run1_c (h := X ++ L) z (v := v) (by have : (X ++ L)[h.length]? = _ := aB (k := L) x0; simp [rd,this]) hlen hn))
 rw [List.length_map,fQ (l := sch) 0 (p := fun x => inB x 0 ((progs.length : Int) - 1))] at hall
 rw [eX] at hall
 refine aI hall.v ?_
 rw [show (sch.all fun x => inB x 0 ((progs.length : Int) - 1)) = kK progs.length sch from rfl]
 cases hS : kK progs.length sch with
 | false =>
  simp only [go_sem]
  exact ⟨aE.refl.app,by rw [rI,if_neg hno,if_neg (by simp [hS])]⟩
 | true =>
 have hok : (dZ things progs && kK progs.length sch) = true := by rw [hP,hS]; rfl
 obtain ⟨n,rfl,⟨n1,n4⟩,⟨p1,p4⟩,hg,hoks,hth⟩ := oR hP hL
 have hsx : ∀ x ∈ sch,0 ≤ x ∧ x < progs.length := fun x hx => by
  have := List.all_eq_true.1 hS x hx
  simp only [inB,Bool.and_eq_true,decide_eq_true_eq] at this; omega
 simp only [go_sem]
 refine aI aCL.v ?_
 simp only [go_sem,show aM (nobD 4) = [.int .i64 (-1),.int .i64 (-1),.int .i64 (-1),.int .i64 (-1)] from rfl,hls]
 have hi8 : ∀ N (st : List Int),AV.bdds N (aM st) := fun N st => aCC N st
 have fin : ∀ (st : List Int) (at' : Int) (fr : Fr) (L : aA),iS progs st → eJ progs bE 0 sch = (st,at') → fr.get 0 = .int .i64 n → fr.get 4 = .ptr (.own h.length 0) → fr.get 10 = .ptr (.own (h.length + 1) 0) → fr.get 11 = .int .i64 at' →
  dr Tryz.prog w0 none 64 h.length (aAf w0 [RV.t 6,RV.t 7,RV.t 8,RV.t 9] fun y H => aE h H ∧ rI w0 H y n progs sch) D39_0 B39_0 [.code .ret] fr (h ++ (some (.row [v]) :: some (.row (aM st)) :: L)) := by
  intro st at' fr L hst hrun f0 f4 f10 f11
  refine aCQ aV [0,1,2,4,5,6,7,9,3,8,10,11,12,13] [o_ 54 (.addr (.t 10) 4),o_ 55 (m_ 0),o_ 56 (.slca 4 1 (.t 54) none (some (.t 55)) none),o_ 58 (.addr (.t 10) 0),o_ 59 (l_ 4),o_ 60 (.len (.t 59)),o_ 61 (.slca 4 1 (.t 58) none (some (.t 60)) none),o_ 63 (m_ 11),.call (some 57) none (f_ 90) [(.t 56)]] [([(4,o_ 59 (l_ 4)),(6,o_ 61 (.slca 4 1 (.t 58) none (some (.t 60)) none))],[.call (some 62) none (f_ 90) [(.t 61)],o_ 6 (m_ 57),o_ 7 (m_ 62),o_ 8 (m_ 63),o_ 9 (.mov (i_ 0))])] rfl rfl (by kernel_rfl) ?_
  have hl8 := hst.len
  have c1 : (aM st).length = 8 := by rw [cA,hl8]
  have hn4 : (0 ≤ n ∧ n ≤ 4) = True := eq_true ⟨Nat.zero_le _,n4⟩
  have hp4 : (0 ≤ progs.length ∧ progs.length ≤ 4) = True := eq_true ⟨Nat.zero_le _,p4⟩
  simp only [go_sem,f0,f4,f10,f11,c1,hn4,hp4,hlen]
  obtain ⟨H0,hH0⟩ : ∃ H0,H0 = h ++ some (Blk.row [v]) :: some (Blk.row (aM st)) :: L := ⟨_,rfl⟩
  have b0 : H0[h.length]? = some (some (.row [v])) := by rw [hH0,qI (Nat.le_refl _),Nat.sub_self]; rfl
  have b1 : H0[h.length + 1]? = some (some (.row (aM st))) := by rw [hH0,qI (by omega),show h.length + 1 - h.length = 1 by omega]; rfl
  have s0 : aE h H0 := hH0 ▸ aE.refl.app
  rw [← hH0]
  have hd4 : ((st.drop 4).take n).length = n := by rw [List.length_take,List.length_drop]; omega
  have hd0 : ((st.drop 0).take progs.length).length = progs.length := by rw [List.length_take,List.length_drop]; omega
  refine aX (ACall.vc (first := []) (mS (w0 := w0) (h := H0) (rZ (n := n - 0) b1 (by omega)) (by rw [Nat.sub_zero,hd4]; omega) (by intro e; rw [Nat.sub_zero] at e; rw [e] at hd4; simp at hd4; omega))) ?_
  rintro _ _ ⟨rfl,rfl⟩
  have b0' : ∀ K,(H0 ++ K)[h.length]? = some (some (.row [v])) := fun K => aB b0
  have b1' : ∀ K,(H0 ++ K)[h.length + 1]? = some (some (.row (aM st))) := fun K => aB b1
  simp only [go_sem,f0,f4,f10,f11,c1,hn4,hp4,hlen,b0',b1']
  obtain ⟨H1,hH1⟩ : ∃ H1,H1 = H0 ++ [some (Blk.row []),some (Blk.row (iis (List.take (n - 0) (List.drop 4 st))))] := ⟨_,rfl⟩
  have b2 : H1[H0.length + 1]? = some (some (.row (iis ((st.drop 4).take (n - 0))))) := by rw [hH1,qI (by omega),show H0.length + 1 - H0.length = 1 by omega]; rfl
  have b1'' : H1[h.length + 1]? = some (some (.row (aM st))) := hH1 ▸ b1' _
  have s1 : aE h H1 := hH1 ▸ s0.app
  rw [← hH1]
  refine aX (ACall.vc (first := []) (mS (w0 := w0) (h := H1) (rZ (n := progs.length - 0) b1'' (by omega)) (by rw [Nat.sub_zero,hd0]; omega) (by intro e; rw [Nat.sub_zero] at e; rw [e] at hd0; simp at hd0; omega))) ?_
  rintro _ _ ⟨rfl,rfl⟩
  simp only [go_sem]
  refine ⟨s1.app,?_⟩
  rw [rI,if_neg hno,if_pos hok,hrun]
  refine ⟨_,_,rfl,pV (by rw [aB b2,Nat.sub_zero]; rfl) (by rw [Nat.sub_zero]; rfl),pV (b := st.take progs.length) (by rw [qI (by omega),show H1.length + 1 - H1.length = 1 by omega,Nat.sub_zero]; rfl) (by rw [Nat.sub_zero])⟩
 refine cZ (S := Nat × List Int) (F := fun s => [(0,.int .i64 n),(4,.ptr (.own h.length 0)),(10,.ptr (.own (h.length + 1) 0)),(11,.int .i64 (-1)),(35,sv),(36,.int .i64 sch.length),(37,.int .i64 s.1)])
  (H := fun s => h ++ [some (.row [v]),some (.row (aM s.2))]) (meas := fun s => sch.length - s.1) (Inv := fun s => s.1 ≤ sch.length ∧ iS progs s.2 ∧ eJ progs bE 0 sch = eJ progs s.2 s.1 (sch.drop s.1)) (0,bE) ⟨Nat.zero_le _,nR p4,rfl⟩ rfl rfl ?_
 rintro ⟨j,st⟩ ⟨hj,hst,hr⟩ ih
 simp only at hj hst hr ih ⊢
 have hl8 := hst.len
 have c1 : (aM st).length = 8 := by rw [cA,hl8]
 have t8 : (aM st).take 8 = aM st := List.take_of_length_le (by omega)
 have d8 : (aM st).drop 8 = [] := List.drop_of_length_le (by omega)
 refine aQ aV aFS [0,4,10,11,35,36,37] L39_0.eq_1 ?_
 by_cases hjl : j < sch.length
 · have e1 : (j : Int) < sch.length := by omega
   obtain ⟨pp,i1,r1,r1'⟩ := SlI.at_ hs hjl
   rw [List.drop_eq_getElem_cons hjl,eJ] at hr
   obtain ⟨w1,w2⟩ := hsx _ (qG hjl)
   obtain ⟨w,hw⟩ : ∃ w : Nat,sch[j] = w := ⟨sch[j].toNat,by omega⟩
   rw [hw] at r1 r1' hr
   rw [Int.toNat_natCast] at hr
   simp only [go_sem,e1,i1,r1,r1',c1,t8,List.drop_zero]
   refine aI (yY hv.app hg hst (by omega) p4).v ?_
   cases hns : aZ progs st w with
   | none =>
    rw [hns] at hr
    simp only [go_sem,kD,bM,c1,t8,d8,List.drop_zero,List.take_zero,List.nil_append,List.append_nil]
    exact fin st j _ _ hst hr rfl rfl rfl rfl
   | some s =>
    rw [hns] at hr
    have hs2 := kT hg hst (show w < progs.length by omega) p4 hns
    have c1' : (aM s).length = 8 := by rw [cA,hs2.len]
    have t8' : (aM s).take 8 = aM s := List.take_of_length_le (by omega)
    have d8' : (aM s).drop 8 = [] := List.drop_of_length_le (by omega)
    simp only [go_sem,kD,bM,c1,c1',t8',d8',d8,List.drop_zero,List.take_zero,List.nil_append,List.append_nil]
    refine ⟨(by unfold I64; omega),kU 2 hb (by simp [eH,eI,fL,fM,iA,fJ,AV.bdds,AV.bdd,Pl.bdd,dE]; exact AV.bdd_mono (by omega) _ vb) (by simp [eH,eI,fL,fM,iA,fJ,AV.bdds,AV.bdd,Pl.bdd,dE]; exact AV.bdd_mono (by omega) _ sb) ?_⟩
    exact ih (j + 1,s) ⟨by simp only; omega,hs2,by rw [hr]; simp⟩ (by simp only; omega)
 · have e1 : ¬ (j : Int) < sch.length := by omega
   obtain rfl : j = sch.length := by omega
   rw [List.drop_length] at hr
   simp only [go_sem,e1]
   exact fin st (-1) _ [] hst hr rfl rfl rfl rfl
def hoS (n : Nat) (st : List Int) : List Int := (st.drop 4).take n
theorem mR {n : Nat} {st : List Int} (hn : n ≤ 4) (hl : st.length = 8) : (hoS n st).length = n := by rw [hoS,List.length_take,List.length_drop]; omega
theorem tJ {n t : Nat} {st : List Int} (ht : t < n) (hl : st.length = 8) (hn : n ≤ 4) : (hoS n st).getD t 0 = st.getD (4 + t) 0 := by
 rw [List.getD_eq_getElem?_getD,List.getD_eq_getElem?_getD,hoS,List.getElem?_take_of_lt ht,List.getElem?_drop]
theorem dC {p i : Nat} {st : List Int} (hi : i < p) : (st.take p).getD i 0 = st.getD i 0 := by
 rw [List.getD_eq_getElem?_getD,List.getD_eq_getElem?_getD,List.getElem?_take_of_lt hi]
theorem SlI.getD_at {x : AV} {l : List Int} (a : SlI w0 h x l) {j : Nat} (hj : j < l.length) : ∃ p : Pl,dH 1 x (some j) = some (.ptr p) ∧ (∀ L,rd w0 (h ++ L) p = some (.int .i64 (l.getD j 0))) ∧ rd w0 h p = some (.int .i64 (l.getD j 0)) := by
 obtain ⟨p,a1,a2,a3⟩ := a.at_ hj
 rw [Ab.getD_at hj]; exact ⟨p,a1,a2,a3⟩
theorem can_c {v hv dv : AV} {progs : List (List aF)} {st : List Int} {n who : Nat} (hp : PS w0 h v progs) (hh : SlI w0 h hv (hoS n st)) (hd : SlI w0 h dv (st.take progs.length)) (hg : lE progs) (hs : iS progs st) (hw : who < progs.length) (hp4 : progs.length ≤ 4) (hn4 : n ≤ 4)
 (hth : ∀ x ∈ progs,∀ s ∈ x,s.thing < n) :
 aY Tryz.prog w0 93 [v,hv,dv,.int .i64 who] h (.bool (aZ progs st who).isSome) h := by
 refine dF (by simp [AV.bdd]) (bK aV aDI mf93_b mf93_g (qE rfl) fun hb ha => bF ?_)
 have hl8 := hs.len
 obtain ⟨p,sv,i1,r1,r1',hx⟩ := hp.at_ hw
 obtain ⟨p2,j1,q1,q1'⟩ := hd.getD_at (j := who) (by rw [List.length_take]; omega)
 rw [dC hw] at q1 q1'
 obtain ⟨d1,d2⟩ := hs.done who hw
 rw [Ab.getD_at hw] at d2
 have hls : fF sv = some (.int .i64 progs[who].length) := by have := hx.use.1; rwa [List.length_map] at this
 obtain ⟨d,hdd⟩ : ∃ d : Nat,st.getD who 0 = d := ⟨(st.getD who 0).toNat,by omega⟩
 rw [hdd] at q1 q1' d2
 have hst : stepS progs st who = progs[who][d]? := by rw [stepS,Ab.getD_at hw,hdd]; rfl
 by_cases q : d = progs[who].length
 · have e1 : (d : Int) ≥ progs[who].length := by omega
   have e2 : progs[who][d]? = none := List.getElem?_eq_none (by omega)
   simp only [go_sem,mf93,i1,r1,r1',j1,q1,q1',hls,e1]
   rw [aZ,hst,e2]
   exact ⟨aE.refl.app,rfl⟩
 · have hdl : d < progs[who].length := by omega
   have e1 : ¬ (d : Int) ≥ progs[who].length := by omega
   have e2 : progs[who][d]? = some progs[who][d] := qA hdl
   obtain ⟨_,q2,hix,hrow,_⟩ := hx.use
   rw [List.length_map] at hix
   have e3 := hix d hdl
   have e4 : ∀ L,rdn w0 (h ++ L) (q2.add (d * 2)) 2 = some progs[who][d].c := fun L => fB (hrow d _ (fP hdl))
   have e4' := e4 []
   rw [List.append_nil] at e4'
   obtain ⟨s,hsd⟩ : ∃ s,s = progs[who][d] := ⟨_,rfl⟩
   rw [← hsd] at e4 e4' e2
   have hsm : s ∈ progs[who] := hsd ▸ qG _
   obtain ⟨⟨t0,_⟩,hk⟩ := (hg _ (qG hw)).2 s hsm
   have t1 := hth _ (qG hw) s hsm
   obtain ⟨t,ht⟩ : ∃ t : Nat,s.thing = t := ⟨s.thing.toNat,by omega⟩
   obtain ⟨p3,k1,k2,k2'⟩ := hh.getD_at (j := t) (by rw [mR hn4 hl8]; omega)
   rw [tJ (by omega) hl8 hn4] at k2 k2'
   simp only [go_sem,mf93,i1,r1,r1',j1,q1,q1',hls,e1,e3,e4,e4',ht,k1,k2,k2']
   have hnx : (aZ progs st who).isSome = !(decide (s.kind = 1) && !decide (st.getD (4 + t) 0 = -1)) := by
    rw [aZ,hst,e2]
    simp only [ht,Int.toNat_natCast]
    generalize st.getD (4 + t) 0 = g
    by_cases c1 : s.kind = 1 <;> by_cases c2 : g = -1 <;> simp [c1,c2]
   refine ⟨fun k2 => ⟨aE.refl.app,?_⟩,fun k2 => ⟨aE.refl.app,?_⟩⟩
   · rw [hnx]
     have k1 : s.kind = 1 := by omega
     generalize st.getD (4 + t) 0 = g
     by_cases c2 : g = -1 <;> simp [k1,c2]
   · rw [hnx]; simp [k2]
theorem oV {progs : List (List aF)} {st s' : List Int} {n w : Nat} (hg : lE progs) (hs : iS progs st) (hw : w < progs.length) (hth : ∀ x ∈ progs,∀ s ∈ x,s.thing < n) (e : aZ progs st w = some s') :
 ∃ (s : aF) (t d : Nat),s ∈ progs[w] ∧ s.thing = t ∧ t < n ∧ st.getD w 0 = d ∧ d < progs[w].length ∧ progs[w][d]? = some s ∧ (s.kind = 1 ∨ s.kind = 2) ∧ s' = (st.set w ((d : Int) + 1)).set (4 + t) (if s.kind = 1 then (w : Int) else -1) := by
 rw [aZ] at e
 obtain ⟨d1,d2⟩ := hs.done w hw
 obtain ⟨d,hdd⟩ : ∃ d : Nat,st.getD w 0 = d := ⟨(st.getD w 0).toNat,by omega⟩
 have hst : stepS progs st w = progs[w][d]? := by rw [stepS,Ab.getD_at hw,hdd]; rfl
 rw [hst] at e
 cases h2 : progs[w][d]? with
 | none => rw [h2] at e; cases e
 | some s =>
  rw [h2] at e
  simp only at e
  have hsm := List.mem_of_getElem? h2
  obtain ⟨⟨t0,_⟩,hk⟩ := (hg _ (qG hw)).2 s hsm
  have t1 := hth _ (qG hw) s hsm
  obtain ⟨t,ht⟩ : ∃ t : Nat,s.thing = t := ⟨s.thing.toNat,by omega⟩
  rw [ht,Int.toNat_natCast,hdd] at e
  split at e
  · cases e
  · cases e
    exact ⟨s,t,d,hsm,ht,by omega,hdd,aK h2,h2,hk,rfl⟩
theorem aFw {l : List (List aF)} (h : nO l = true) : (∀ x ∈ l,x.length ≤ 20) ∧ l.length ≤ 12 := by
 simp only [nO,Bool.and_eq_true,List.all_eq_true,decide_eq_true_eq] at h
 exact h
end Go.Proofs.Ab
namespace Go.Proofs.Ab
open Go Go.Proofs
def eN (f : Int → Bool) : List aF → Int → Bool
 | [],t => f t
 | s :: r,t => eN (fun x => if x = s.thing then decide (s.kind = 1) else f x) r t
theorem jZ (t : Int) (s : aF) : ∀ (l : List aF) (f : Int → Bool),eN f (l ++ [s]) t = if t = s.thing then decide (s.kind = 1) else eN f l t
 | [],f => rfl
 | a :: l,f => by rw [List.cons_append,eN,jZ t s l]; rfl
theorem nL {tm : Int} : ∀ {x : List aF} {f : Int → Bool} {d : Nat} {s : aF},bC tm f x = true → x[d]? = some s → eN f (x.take d) s.thing = decide (s.kind = 2)
 | [],_,_,_,_,h => by simp at h
 | a :: x,f,0,s,h,e => by
  simp only [List.getElem?_cons_zero,Option.some.injEq] at e
  subst e
  simp only [bC,Bool.and_eq_true,decide_eq_true_eq] at h
  exact h.1.2.2
 | a :: x,f,d + 1,s,h,e => by
  simp only [bC,Bool.and_eq_true] at h
  rw [List.getElem?_cons_succ] at e
  rw [List.take_succ_cons,eN]
  exact nL h.2 e
def iE (progs : List (List aF)) (st : List Int) (w : Nat) (t : Int) : Bool := eN (fun _ => false) ((progs.getD w []).take (st.getD w 0).toNat) t
structure oE (n : Nat) (progs : List (List aF)) (st : List Int) : Prop where
 own : ∀ t,t < n → ∀ w,w < progs.length → (iE progs st w t = true ↔ st.getD (4 + t) 0 = w)
 rng : ∀ t,t < n → st.getD (4 + t) 0 = -1 ∨ ∃ w,w < progs.length ∧ st.getD (4 + t) 0 = (w : Int)
def iG (progs : List (List aF)) (st : List Int) : Int := (st.take progs.length).sum
theorem jM {l : List Int} {i : Nat} {x y : Int} (h : i < l.length) : (l.set i x).getD i y = x := by
 rw [List.getD_eq_getElem?_getD,qF h]; rfl
theorem cB {l : List Int} {i j : Nat} {x y : Int} (h : i ≠ j) : (l.set i x).getD j y = l.getD j y := by
 rw [List.getD_eq_getElem?_getD,qB h,List.getD_eq_getElem?_getD]
theorem wI : ∀ {l : List Int} {i : Nat} {x : Int},i < l.length → (l.set i x).sum = l.sum - l.getD i 0 + x
 | [],_,_,h => by simp at h
 | a :: l,0,x,_ => by simp [List.getD]; omega
 | a :: l,i + 1,x,h => by
  have := wI (l := l) (i := i) (x := x) (by simpa using h)
  simp only [List.set_cons_succ,List.sum_cons,List.getD_cons_succ,this]; omega
theorem oE.next {n : Nat} {progs : List (List aF)} {st s' : List Int} {w : Nat} (hi : oE n progs st) (hg : lE progs) (hs : iS progs st) (hw : w < progs.length) (hp : progs.length ≤ 4) (hn : n ≤ 4) (hth : ∀ x ∈ progs,∀ s ∈ x,s.thing < n)
 (hok : ∀ x ∈ progs,bC ((n : Int) - 1) (fun _ => false) x = true) (e : aZ progs st w = some s') : oE n progs s' ∧ iG progs s' = iG progs st + 1 := by
 have e0 := e
 obtain ⟨s,t,d,hsm,ht,htn,hd,hdl,hx,hk,es⟩ := oV hg hs hw hth e
 have l8 := hs.len
 have hdw : (st.getD w 0).toNat = d := by rw [hd]; rfl
 have hold : iE progs st w t = decide (s.kind = 2) := by
  have := nL (hok _ (qG hw)) hx
  rw [iE,getD_at hw,hdw,← ht]; exact this
 have hnew : ∀ t',iE progs s' w t' = if t' = s.thing then decide (s.kind = 1) else iE progs st w t' := fun t' => by
  have : (s'.getD w 0).toNat = d + 1 := by rw [es,cB (by omega),jM (by omega)]; omega
  rw [iE,iE,this,hdw,getD_at hw,List.take_add_one,hx]
  exact jZ _ _ _ _
 have hoth : ∀ w' t',w' ≠ w → w' < progs.length → iE progs s' w' t' = iE progs st w' t' := fun w' t' h1 h2 => by
  have : s'.getD w' 0 = st.getD w' 0 := by rw [es,cB (by omega),cB (by omega)]
  rw [iE,iE,this]
 have hfree : s.kind = 1 → st.getD (4 + t) 0 = -1 := fun k => by
  apply Classical.byContradiction
  intro hne
  have hst : stepS progs st w = some s := by rw [stepS,getD_at hw,hdw,hx]
  rw [aZ,hst] at e0
  simp only [ht,Int.toNat_natCast] at e0
  rw [if_pos ⟨k,hne⟩] at e0
  cases e0
 have hv : s'.getD (4 + t) 0 = if s.kind = 1 then (w : Int) else -1 := by rw [es,jM (by rw [List.length_set]; omega)]
 have hvo : ∀ t',t' ≠ t → s'.getD (4 + t') 0 = st.getD (4 + t') 0 := fun t' h => by rw [es,cB (by omega),cB (by omega)]
 refine ⟨⟨fun t' h1 w' h2 => ?_,fun t' h1 => ?_⟩,?_⟩
 · by_cases q : t' = t
   · subst q
     rw [hv]
     by_cases q2 : w' = w
     · subst q2
       rw [hnew,if_pos ht.symm]
       rcases hk with k | k <;> simp [k] <;> omega
     · rw [hoth w' _ q2 h2,hi.own _ h1 _ h2]
       rcases hk with k | k
       · rw [if_pos k,hfree k]; omega
       · rw [if_neg (by omega)]
         have : iE progs st w t' = true := by rw [hold,k]; rfl
         rw [(hi.own _ h1 _ hw).1 this]; omega
   · rw [hvo _ q]
     by_cases q2 : w' = w
     · subst q2
       rw [hnew,if_neg (by omega)]; exact hi.own _ h1 _ h2
     · rw [hoth _ _ q2 h2]; exact hi.own _ h1 _ h2
 · by_cases q : t' = t
   · subst q
     rw [hv]
     split
     · exact .inr ⟨w,hw,rfl⟩
     · exact .inl rfl
   · rw [hvo _ q]; exact hi.rng _ h1
 · rw [iG,iG,es,List.take_set,List.take_set,List.set_eq_of_length_le (by rw [List.length_set,List.length_take]; omega),wI (by rw [List.length_take]; omega),dC hw,hd]; omega
theorem oE.start {n : Nat} {progs : List (List aF)} (hp : progs.length ≤ 4) (hn : n ≤ 4) : oE n progs bE ∧ iG progs bE = 0 := by
 have i0 : ∀ i,i < 4 → bE.getD i 0 = 0 := by decide
 have i1 : ∀ i,i < 4 → bE.getD (4 + i) 0 = -1 := by decide
 refine ⟨⟨fun t h1 w h2 => ?_,fun t h1 => .inl (i1 t (by omega))⟩,?_⟩
 · rw [iE,i0 w (by omega),i1 t (by omega)]
   simp [eN]
 · rw [iG]
   rcases (by omega : progs.length = 0 ∨ progs.length = 1 ∨ progs.length = 2 ∨ progs.length = 3 ∨ progs.length = 4) with e | e | e | e | e <;> rw [e] <;> rfl
theorem oE.run {n : Nat} {progs : List (List aF)} (hg : lE progs) (hp : progs.length ≤ 4) (hn : n ≤ 4) (hth : ∀ x ∈ progs,∀ s ∈ x,s.thing < n) (hok : ∀ x ∈ progs,bC ((n : Int) - 1) (fun _ => false) x = true) :
 ∀ (sch : List Int) (st : List Int) (i : Int),iS progs st → oE n progs st → iG progs st = i → (∀ x ∈ sch,0 ≤ x ∧ x < progs.length) →
  oE n progs (eJ progs st i sch).1 ∧ (((eJ progs st i sch).2 = -1 ∧ iG progs (eJ progs st i sch).1 = i + sch.length) ∨ (i ≤ (eJ progs st i sch).2 ∧ (eJ progs st i sch).2 < i + sch.length ∧ iG progs (eJ progs st i sch).1 = (eJ progs st i sch).2))
 | [],st,i,_,h1,h2,_ => ⟨h1,.inl ⟨rfl,by rw [eJ]; simp [h2]⟩⟩
 | w :: r,st,i,hs,h1,h2,hr => by
  rw [eJ]
  have hw := hr w (by simp)
  cases e : aZ progs st w.toNat with
  | none => exact ⟨h1,.inr ⟨Int.le_refl _,by simp only [List.length_cons]; omega,h2⟩⟩
  | some s =>
   obtain ⟨a1,a2⟩ := h1.next hg hs (show w.toNat < progs.length by omega) hp hn hth hok e
   have := oE.run hg hp hn hth hok r s (i + 1) (kT hg hs (by omega) hp e) a1 (by omega) fun x hx => hr x (by simp [hx])
   simp only [List.length_cons]
   refine ⟨this.1,this.2.imp (fun x => ⟨x.1,by rw [x.2]; omega⟩) fun x => ⟨by omega,by omega,x.2.2⟩⟩
end Go.Proofs.Ab
namespace Go.Proofs.Ab
open Go Go.Proofs
variable {w0 : World} {h : aA}
attribute [local irreducible] ACall bA bW aY cP rvC lp rg dr ex un rv
theorem yM {sv : AV} {x : List aF} (d : Nat) (t : Int) (hx : Sl w0 h 2 sv (x.map aF.c)) (hn : x.length < 1000000) : aY Tryz.prog w0 42 [sv,.int .i64 d,.int .i64 t] h (.bool (eN (fun _ => false) (x.take d) t)) h := by
 refine aS aV aD2 mf42_b mf42_g (qE rfl) (by simp [AV.bdd,AV.bdds]) fun hb ha => bF ?_
 have hls : fF sv = some (.int .i64 x.length) := by have := hx.use.1; rwa [List.length_map] at this
 obtain ⟨_,q2,hix,hrow,_⟩ := hx.use
 rw [List.length_map] at hix
 simp only [go_sem,mf42]
 refine cZ (S := Nat) (F := fun j => [(0,sv),(1,.int .i64 d),(2,.int .i64 t),(7,.bool (eN (fun _ => false) (x.take j) t)),(8,.int .i64 j)]) (H := fun _ => h) (meas := fun j => x.length - j) (Inv := fun j => j ≤ x.length ∧ j ≤ d) 0 ⟨Nat.zero_le _,Nat.zero_le _⟩ rfl (by simp) ?_
 rintro j ⟨hj,hjd⟩ ih
 simp only at hj hjd ih ⊢
 refine aQ aV aFR [0,1,2,7,8] L42_0.eq_1 ?_
 by_cases hj1 : j < d
 · by_cases hj2 : j < x.length
   · have e1 : (j : Int) < d := by omega
     have e2 : (j : Int) < x.length := by omega
     have e3 := hix j hj2
     have r0 := hrow j _ (fP hj2)
     have f0 : ∀ L,rd w0 (h ++ L) ((q2.add (j * 2)).add 0) = some (.int .i64 x[j].kind) := fun L => gS (jS r0 (o := 0) rfl)
     have f1 : ∀ L,rd w0 (h ++ L) ((q2.add (j * 2)).add 1) = some (.int .i64 x[j].thing) := fun L => gS (jS r0 (o := 1) rfl)
     have f0' := f0 []
     have f1' := f1 []
     rw [List.append_nil] at f0' f1'
     have e5 : eN (fun _ => false) (x.take (j + 1)) t = if t = x[j].thing then decide (x[j].kind = 1) else eN (fun _ => false) (x.take j) t := by
      rw [List.take_add_one,qA hj2]; exact jZ _ _ _ _
     by_cases q : x[j].thing = t
     · rw [if_pos q.symm] at e5
       simp only [go_sem,e1,e2,hls,e3,f0,f1,f0',f1',q]
       refine ⟨(by unfold I64; omega),?_⟩
       have := ih (j + 1) ⟨by omega,by omega⟩ (by omega)
       rw [e5] at this
       exact this
     · rw [if_neg (fun e => q e.symm)] at e5
       have q' : ¬ x[j].thing = t := q
       simp only [go_sem,e1,e2,hls,e3,f0,f1,f0',f1',q']
       refine ⟨(by unfold I64; omega),?_⟩
       have := ih (j + 1) ⟨by omega,by omega⟩ (by omega)
       rw [e5] at this
       exact this
   · have e1 : (j : Int) < d := by omega
     have e2 : ¬ (j : Int) < x.length := by omega
     simp only [go_sem,e1,e2,hls]
     rw [List.take_of_length_le (by omega),List.take_of_length_le (by omega)]
     exact ⟨rfl,[],by simp⟩
 · have e1 : ¬ (j : Int) < d := by omega
   obtain rfl : j = d := by omega
   simp only [go_sem,e1]
   exact ⟨rfl,[],by simp⟩
end Go.Proofs.Ab

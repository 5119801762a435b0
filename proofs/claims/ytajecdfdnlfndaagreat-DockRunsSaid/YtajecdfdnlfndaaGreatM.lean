/- The own layer under the proofs of this seat, part M: what calls of the program come to on an abstract heap. No condition. -/
import Derived.Test.YtajecdfdnlfndaaGreatK
set_option linter.unusedSimpArgs false
set_option linter.unusedVariables false
namespace Go.Proofs.Ab
open Go Go.Proofs
variable {w0 : World} {h : aA}
attribute [local irreducible] ACall aY cK bC dW rvC lp rg dr ex un rv
def bB (tm : Int) : (Int → Bool) → List aR → Bool
 | _,[] => true
 | f,s :: r => (inB s.thing 0 tm && ((decide (s.kind = 1) || decide (s.kind = 2)) && decide (f s.thing = decide (s.kind = 2)))) && bB tm (fun x => if x = s.thing then decide (s.kind = 1) else f x) r
theorem eW (tm : Int) : ∀ (l : List aR) (f g : Int → Bool),(∀ x,f x = g x) → bB tm f l = bB tm g l := fun l f g e => by rw [funext e]
def eC (things : Int) (l : List (List aR)) : Bool := l.all (bB (wi (things - 1)) fun _ => false) && (inB things 1 4 && inB l.length 1 4)
theorem fT {x : List aR} {j : Nat} (hj : j < x.length) : (x.map aR.c)[j]? = some x[j].c := by rw [List.getElem?_map,qA hj]; rfl
theorem nT {v : AV} {l : List (List aR)} (things : Int) (hv : PS w0 h v l) (hn : l.length < 1000000) (hn2 : ∀ x ∈ l,x.length < 1000000) : bC Tryz.prog w0 84 [.int .i64 things,v] h (.bool (eC things l)) h := by
 refine aU aW tT zG zF (qE rfl) (by simp [AV.bdd,AV.bdds]) fun hb ha => bD ?_
 have hlen := hv.len
 have vb := NS.bdd hv (Nat.le_refl _)
 simp only [go_sem,mf84,hlen]
 refine gC (fun j => [(0,.int .i64 things),(1,v),(10,v),(11,.int .i64 l.length),(12,.int .i64 j)]) (fun j => bB (wi (things - 1)) (fun _ => false) (l.getD j []) = true) l.length rfl (fun j hj hall ih => ?_) (fun hall => ?_)
 · refine aS aW vA [0,1,10,11,12] L84_1.eq_1 ?_
   have e1 : (j : Int) < l.length := by omega
   obtain ⟨p,sv,i1,r1,r1',hs⟩ := hv.at_ hj
   obtain ⟨x,hx⟩ : ∃ x,x = l[j] := ⟨_,rfl⟩
   have hxm : x ∈ l := hx ▸ qG hj
   have hxl := hn2 x hxm
   rw [← hx] at hs
   rw [getD_at hj,← hx] at ih
   have hls : gD sv = some (.int .i64 x.length) := by have := hs.use.1; rwa [List.length_map] at this
   have sb := hs.bdd (Nat.le_refl _)
   simp only [go_sem,e1,i1,r1,r1',hls]
   have no : bB (wi (things - 1)) (fun _ => false) x = false → eC things l = false := fun e => by
    rw [eC,List.all_eq_false.2 ⟨x,hxm,by simp [e]⟩]; rfl
   refine fA (S := Nat × List (Int × Bool)) (F := fun s => [(0,.int .i64 things),(1,v),(7,.map h.length),(10,v),(11,.int .i64 l.length),(12,.int .i64 j),(17,sv),(18,.int .i64 x.length),(19,.int .i64 s.1)])
    (H := fun s => h ++ [some (.map (fD s.2))]) (meas := fun s => x.length - s.1) (Inv := fun s => s.1 ≤ x.length ∧ bB (wi (things - 1)) (fun _ => false) x = bB (wi (things - 1)) (fE s.2) (x.drop s.1)) (0,[]) ⟨Nat.zero_le _,rfl⟩ rfl rfl ?_
   rintro ⟨k,M⟩ ⟨hk,hM⟩ ih2
   simp only at hk hM ih2 ⊢
   refine aS aW aDI [0,1,7,10,11,12,17,18,19] L84_0.eq_1 ?_
   by_cases hkl : k < x.length
   · have e2 : (k : Int) < x.length := by omega
     obtain ⟨_,q,hix,hrow,_⟩ := hs.use
     rw [List.length_map] at hix
     have e3 := hix k hkl
     have e4 : ∀ L,rdn w0 (h ++ L) (q.add (k * 2)) 2 = some x[k].c := fun L => cQ (hrow k _ (fT hkl))
     obtain ⟨s,hsk⟩ : ∃ s,s = x[k] := ⟨_,rfl⟩
     rw [List.drop_eq_getElem_cons hkl,← hsk,bB] at hM
     rw [← hsk] at e4
     have lk : ∀ L,pQ (h ++ (some (.map (fD M)) :: L)) (false,[true]) (.bool false) false (.map h.length) (.int .i64 s.thing) = some (.bool (fE M s.thing)) := fun L => look_B (by rw [qI (Nat.le_refl _),Nat.sub_self]; rfl) s.thing
     have pk : ∀ L b,mO (h ++ (some (.map (fD M)) :: L)) (false,[true]) (.map h.length) (.int .i64 s.thing) (.bool b) = some (.undef,h ++ (some (.map (fD (hJ M s.thing b))) :: L)) := fun L b => by
      rw [mput_B (by rw [qI (Nat.le_refl _),Nat.sub_self]; rfl),List.set_append_right _ _ (Nat.le_refl _),Nat.sub_self]; rfl
     have go : ∀ b,b = decide (s.kind = 1) → bB (wi (things - 1)) (fun y => if y = s.thing then decide (s.kind = 1) else fE M y) (x.drop (k + 1)) = bB (wi (things - 1)) (fE (hJ M s.thing b)) (x.drop (k + 1)) := fun b e => eW _ _ _ _ fun y => by rw [pU,e]
     simp only [go_sem,e2,e3,e4]
     refine aL (in_c s.thing 0 (wi (things - 1))).v ?_
     cases c1 : inB s.thing 0 (wi (things - 1)) with
     | false =>
      simp only [go_sem]
      rw [no (by rw [hM,c1]; rfl)]
     | true =>
     have hbE : ∀ {N : Nat} (M : List (Int × Bool)),Blk.bdd N (.map (fD M)) := fun M e he => by
      simp only [fD,List.mem_map] at he
      obtain ⟨m,_,rfl⟩ := he
      exact ⟨trivial,trivial⟩
     by_cases k1 : s.kind = 1
     · cases c2 : fE M s.thing with
       | true =>
        simp only [go_sem,k1,lk,c2]
        rw [no (by rw [hM,c1,c2,k1]; rfl)]
       | false =>
        have hM' : bB (wi (things - 1)) (fun _ => false) x = bB (wi (things - 1)) (fE (hJ M s.thing true)) (x.drop (k + 1)) := by
         rw [hM,← go true (by simp [k1]),c1,c2,k1]; simp
        simp only [go_sem,k1,lk,c2,pk]
        refine ⟨(by unfold I64; omega),iY 1 hb (by simp [dL,dM,eI,eJ,fN,eF,AV.bdds,AV.bdd,Pl.bdd,cM]; exact hbE _) (by simp [dL,dM,eI,eJ,fN,eF,AV.bdds,AV.bdd,Pl.bdd,cM]; exact ⟨AV.bdd_mono (by omega) _ vb,AV.bdd_mono (by omega) _ sb⟩) ?_⟩
        exact ih2 (k + 1,hJ M s.thing true) ⟨by simp only; omega,hM'⟩ (by simp only; omega)
     · by_cases k2 : s.kind = 2
       · cases c2 : fE M s.thing with
         | false =>
          simp only [go_sem,k2,lk,c2]
          rw [no (by rw [hM,c1,c2,k2]; rfl)]
         | true =>
          have hM' : bB (wi (things - 1)) (fun _ => false) x = bB (wi (things - 1)) (fE (hJ M s.thing false)) (x.drop (k + 1)) := by
           rw [hM,← go false (by simp [k2]),c1,c2,k2]; simp
          simp only [go_sem,k2,lk,c2,pk]
          refine ⟨(by unfold I64; omega),iY 1 hb (by simp [dL,dM,eI,eJ,fN,eF,AV.bdds,AV.bdd,Pl.bdd,cM]; exact hbE _) (by simp [dL,dM,eI,eJ,fN,eF,AV.bdds,AV.bdd,Pl.bdd,cM]; exact ⟨AV.bdd_mono (by omega) _ vb,AV.bdd_mono (by omega) _ sb⟩) ?_⟩
          exact ih2 (k + 1,hJ M s.thing false) ⟨by simp only; omega,hM'⟩ (by simp only; omega)
       · simp only [go_sem,k1,k2]
         rw [no (by rw [hM,decide_eq_false k1,decide_eq_false k2]; simp)]
   · have e2 : ¬ (k : Int) < x.length := by omega
     obtain rfl : k = x.length := by omega
     rw [List.drop_length] at hM
     simp only [go_sem,e2]
     refine ⟨(by unfold I64; omega),iY 0 hb (by simp [HBs]) (by simp [dL,dM,eI,eJ,fN,eF,AV.bdds,AV.bdd,Pl.bdd,cM]; exact vb) ?_⟩
     simpa using ih hM
 · refine aS aW vA [0,1,10,11,12] L84_1.eq_1 ?_
   have e1 : ¬ (l.length : Int) < l.length := by omega
   have hA : l.all (bB (wi (things - 1)) fun _ => false) = true := by rw [← fG [],List.all_eq_true]; exact fun j hj => hall j (List.mem_range.1 hj)
   simp only [go_sem,e1]
   refine aL (in_c things 1 4).v ?_
   cases c1 : inB things 1 4 with
   | false => simp only [go_sem]; simp [eC,c1]
   | true =>
   simp only [go_sem,hlen]
   refine aL (in_c l.length 1 4).v ?_
   simp only [go_sem]
   simp [eC,c1,hA]
theorem yG {x : AV} {a : List Int} (n : Int) (hx : SlI w0 h x a) (hn : a.length < 1000000) : bC Tryz.prog w0 46 [x,.int .i64 n] h (.bool (decide (n ∈ a))) h := by
 refine aU aW aBX mf46_b mf46_g (qE rfl) (by simp [AV.bdd,AV.bdds]) fun hb ha => bD ?_
 have la := (SlI.use hx).1
 simp only [go_sem,mf46]
 refine gC (fun j => [(0,x),(1,.int .i64 n),(5,.int .i64 j)]) (fun j => a[j]? ≠ some n) a.length rfl (fun j hj hall ih => ?_) (fun hall => ?_)
 · refine aS aW vB [0,1,5] L46_0.eq_1 ?_
   have e1 : (j : Int) < a.length := by omega
   obtain ⟨p,i1,r1,r1'⟩ := hx.at_ hj
   by_cases q : a[j] = n
   · have : n ∈ a := q ▸ qG hj
     simp only [go_sem,la,e1,i1,r1,r1',q]
     rw [decide_eq_true this]
   · simp only [go_sem,la,e1,i1,r1,r1',q]
     exact ⟨(by unfold I64; omega),ih (by rw [qA hj]; simpa using q)⟩
 · refine aS aW vB [0,1,5] L46_0.eq_1 ?_
   have e1 : ¬ (a.length : Int) < a.length := by omega
   have : ¬ n ∈ a := fun hm => by
    obtain ⟨i,hi,e⟩ := List.getElem_of_mem hm
    exact hall i hi (by rw [qA hi,e])
   simp only [go_sem,la,e1]
   rw [decide_eq_false this]
theorem Gro.base {H X : aA} {es n : Nat} {ov : AV} {vs : List AV} (g : Gro X H es n ov vs) (s : aI h X) : Gro h H es n ov vs := by
 refine ⟨s.trans g.sub,?_⟩
 rcases g.own with h1 | ⟨io,h1,h2⟩
 · exact .inl h1
 · exact .inr ⟨io,Nat.le_trans s.1 h1,h2⟩
theorem fW {v : AV} {l : List (List aR)} (things : Int) (hv : PS w0 h v l) (hn : l.length < 1000000) (hn2 : ∀ x ∈ l,x.length ≤ 1000) : bC Tryz.prog w0 35 [.int .i64 things,v] h (.bool (eC things l)) h := by
 refine cN trivial (bH aW aB2 mf35_b mf35_g (qE rfl) fun hb ha => bD ?_)
 simp only [go_sem,mf35]
 refine fA (S := Nat × aA) (F := fun s => [(0,.int .i64 things),(1,v),(5,.int .i64 s.1)]) (H := fun s => s.2) (meas := fun s => l.length - s.1)
  (Inv := fun s => s.1 ≤ l.length ∧ aI h s.2 ∧ ∀ i,i < s.1 → bB (wi (things - 1)) (fun _ => false) (l.getD i []) = true) (0,h) ⟨Nat.zero_le _,aI.refl,fun i hi => by simp at hi⟩ rfl (by simp) ?_
 rintro ⟨j,H⟩ ⟨hj,sH,hall⟩ ih
 simp only at hj sH hall ih ⊢
 refine aS aW aDM [0,1,5] L35_2.eq_1 ?_
 have hlen := (hv.sub sH).len
 by_cases hjl : j < l.length
 · have e1 : (j : Int) < l.length := by omega
   obtain ⟨x,hx⟩ : ∃ x,x = l[j] := ⟨_,rfl⟩
   have hxm : x ∈ l := hx ▸ qG hjl
   have hxl := hn2 x hxm
   simp only [go_sem,hlen,e1]
   have no : bB (wi (things - 1)) (fun _ => false) x = false → eC things l = false := fun e => by
    rw [eC,List.all_eq_false.2 ⟨x,hxm,by simp [e]⟩]; rfl
   refine fA (S := Nat × aA × AV × List Int) (F := fun s => [(0,.int .i64 things),(1,v),(5,.int .i64 j),(6,s.2.2.1),(7,.int .i64 s.1)])
    (H := fun s => s.2.1) (meas := fun s => x.length - s.1) (Inv := fun s => s.1 ≤ x.length ∧ Gro h s.2.1 1 s.2.2.2.length s.2.2.1 (aP s.2.2.2) ∧ s.2.2.2.length ≤ s.1 ∧ bB (wi (things - 1)) (fun _ => false) x = bB (wi (things - 1)) (fun y => decide (y ∈ s.2.2.2)) (x.drop s.1)) (0,H,.nilS,[]) ⟨Nat.zero_le _,Gro.nil sH,Nat.le_refl _,by simp⟩ rfl rfl ?_
   rintro ⟨k,G,hvv,held⟩ ⟨hk,hG,hhl,hM⟩ ih2
   simp only at hk hG hhl hM ih2 ⊢
   have sG := hG.sub
   obtain ⟨p,sv,i1,r1,r1',hs⟩ := (hv.sub sG).at_ hjl
   rw [← hx] at hs
   have hls : gD sv = some (.int .i64 x.length) := by have := hs.use.1; rwa [List.length_map] at this
   refine aS aW aDN [0,1,5,6,7] L35_1.eq_1 ?_
   by_cases hkl : k < x.length
   · have e2 : (k : Int) < x.length := by omega
     obtain ⟨_,q,hix,hrow,_⟩ := hs.use
     rw [List.length_map] at hix
     have e3 := hix k hkl
     have e4 : ∀ L,rdn w0 (G ++ L) (q.add (k * 2)) 2 = some x[k].c := fun L => cQ (hrow k _ (fT hkl))
     have e4' := hrow k _ (fT hkl)
     obtain ⟨s,hsk⟩ : ∃ s,s = x[k] := ⟨_,rfl⟩
     rw [List.drop_eq_getElem_cons hkl,← hsk,bB] at hM
     rw [← hsk] at e4 e4'
     have hL : SlI w0 G hvv held := hG.sli rfl
     simp only [go_sem,e2,i1,r1,r1',hls,e3,e4,e4']
     refine dr_fp aW [0,1,2,3,4,5,6,7,8,9,10,11,12,13,14,15,16,17,18,19,20,21,22,23,24,25] [o_ 33 (.addr (.t 8) 1),o_ 34 (l_ 33),o_ 35 (m_ 0),o_ 36 (.bin .sub (.t 35) (i_ 1)),.call (some 37) none (f_ 82) [(.t 34),(i_ 0),(.t 36)],o_ 38 (.un .not (.t 37)),o_ 39 (m_ 38),q_ 40 39 false (.addr (.t 8) 0),q_ 41 39 false (l_ 40),q_ 42 39 false (.bin .neq (.t 41) (i_ 1)),q_ 43 39 false (m_ 42),q_ 44 43 true (.addr (.t 8) 0),q_ 45 43 true (l_ 44),q_ 46 43 true (.bin .neq (.t 45) (i_ 2)),q_ 47 39 false (.pick (.t 43) (.t 46) (.k (.bool false))),o_ 48 (.pick (.t 39) (.k (.bool true)) (.t 47)),o_ 49 (m_ 48),q_ 50 49 false (.addr (.t 8) 0),q_ 51 49 false (l_ 50),q_ 52 49 false (.bin .eql (.t 51) (i_ 1)),q_ 53 49 false (m_ 6),q_ 54 49 false (.addr (.t 8) 1),q_ 55 49 false (l_ 54),.call (some 56) (some (49,false)) (f_ 46) [(.t 53),(.t 55)]] [([(18,q_ 51 49 false (l_ 50))],[q_ 57 49 false (.eqb false (.t 52) (.t 56)),o_ 58 (.pick (.t 49) (.k (.bool true)) (.t 57))])] rfl rfl (by kernel_rfl) ?_
     simp only [go_sem]
     refine aL (tD s.thing 0 (wi (things - 1))).v ?_
     cases c1 : inB s.thing 0 (wi (things - 1)) with
     | false =>
      simp only [go_sem]
      exact ⟨sG.app,by rw [no (by rw [hM,c1]; rfl)]⟩
     | true =>
     by_cases k1 : s.kind = 1
     · simp only [go_sem,k1]
       refine aL (yG s.thing (Sl.app hL) (by omega)).v ?_
       cases c2 : decide (s.thing ∈ held) with
       | true =>
        simp only [go_sem]
        exact ⟨sG.app,by rw [no (by rw [hM]; simp [c1,k1,of_decide_eq_true c2])]⟩
       | false =>
        have c3 : ¬ s.thing ∈ held := of_decide_eq_false c2
        simp only [go_sem]
        obtain ⟨Y,eY⟩ : ∃ Y,Y = G ++ [some (Blk.row [.int .i64 1,.int .i64 s.thing]),some (.row [.int .i64 s.thing])] := ⟨_,rfl⟩
        have gY : Gro h Y 1 held.length hvv (aP held) := eY ▸ hG.app
        have hkk : Y[G.length + 1]? = some (some (.row [.int .i64 s.thing])) := by rw [eY,qI (by omega)]; simp
        obtain ⟨G2,e5,e6⟩ := gY.more (w0 := w0) (b := 8) (f := true) hkk rfl rfl (by omega) (by omega)
        rw [← eY,e5]
        simp only [go_sem]
        refine ⟨(by unfold I64; omega),ih2 (k + 1,G2,_,held ++ [s.thing]) ⟨by simp only; omega,?_,by simp only [List.length_append,List.length_singleton]; omega,?_⟩ (by simp only; omega)⟩
        · simpa [aP] using e6
        · rw [hM]
          simp only [c1,k1,c3,decide_true,decide_false,Bool.true_or,Bool.and_self,Bool.true_and]
          rw [show decide (false = decide ((1 : Int) = 2)) = true from rfl,Bool.true_and]
          refine eW _ _ _ _ fun y => ?_
          by_cases e : y = s.thing <;> simp [e]
     · by_cases k2 : s.kind = 2
       · simp only [go_sem,k2]
         refine aL (yG s.thing (Sl.app hL) (by omega)).v ?_
         cases c2 : decide (s.thing ∈ held) with
         | false =>
          simp only [go_sem]
          exact ⟨sG.app,by rw [no (by rw [hM]; simp [c1,k2,of_decide_eq_false c2])]⟩
         | true =>
          have c3 : s.thing ∈ held := of_decide_eq_true c2
          simp only [go_sem]
          obtain ⟨X,eX⟩ : ∃ X,X = G ++ [some (Blk.row [.int .i64 2,.int .i64 s.thing])] := ⟨_,rfl⟩
          have sX : aI G X := eX ▸ aI.refl.app
          have x8 : X[G.length]? = some (some (.row [.int .i64 2,.int .i64 s.thing])) := by rw [eX,qI (Nat.le_refl _),Nat.sub_self]; rfl
          rw [← eX]
          refine fA (S := Nat × aA × AV) (F := fun t => [(0,.int .i64 things),(1,v),(5,.int .i64 j),(6,hvv),(7,.int .i64 k),(8,.ptr (.own G.length 0)),(9,t.2.2),(10,.int .i64 t.1)]) (H := fun t => t.2.1) (meas := fun t => held.length - t.1)
           (Inv := fun t => t.1 ≤ held.length ∧ Gro X t.2.1 1 ((held.take t.1).filter (· ≠ s.thing)).length t.2.2 (aP ((held.take t.1).filter (· ≠ s.thing)))) (0,X,.nilS) ⟨Nat.zero_le _,by simpa [aP] using Gro.nil aI.refl⟩ rfl rfl ?_
          rintro ⟨i,T,rv⟩ ⟨hi,hT⟩ ih3
          simp only at hi hT ih3 ⊢
          refine aS aW aDO [0,1,5,6,7,8,9,10] L35_0.eq_1 ?_
          have hLT := Sl.sub hL (sX.trans hT.sub)
          have hll := (SlI.use hLT).1
          by_cases hil : i < held.length
          · have e6 : (i : Int) < held.length := by omega
            obtain ⟨pp,i2,r2,r2'⟩ := SlI.at_ hLT hil
            have x8T := hT.sub.2 _ _ x8
            have x8L := xL x8T
            have hfl : ((held.take i).filter (· ≠ s.thing)).length ≤ held.length := Nat.le_trans (List.length_filter_le _ _) (by rw [List.length_take]; omega)
            by_cases q1 : held[i] = s.thing
            · simp only [go_sem,hll,e6,i2,r2,r2',x8T,x8L,q1,bne_self_eq_false]
              refine ⟨(by unfold I64; omega),ih3 (i + 1,T,rv) ⟨by simp only; omega,?_⟩ (by simp only; omega)⟩
              rw [List.take_succ_eq_append_getElem hil,List.filter_append]
              simpa [q1] using hT
            · have q2 : (held[i] != s.thing) = true := by simpa using q1
              simp only [go_sem,hll,e6,i2,r2,r2',x8T,x8L,q2]
              obtain ⟨Y,eY⟩ : ∃ Y,Y = T ++ [some (Blk.row [.int .i64 held[i]])] := ⟨_,rfl⟩
              have gY := hT.app (L := [some (Blk.row [.int .i64 held[i]])])
              rw [← eY] at gY
              have hkk : Y[T.length]? = some (some (.row [.int .i64 held[i]])) := by rw [eY,qI (Nat.le_refl _),Nat.sub_self]; rfl
              obtain ⟨G2,e7,e8⟩ := gY.more (w0 := w0) (b := 8) (f := true) hkk rfl rfl (by omega) (by omega)
              rw [← eY,e7]
              simp only [go_sem]
              refine ⟨(by unfold I64; omega),ih3 (i + 1,G2,_) ⟨by simp only; omega,?_⟩ (by simp only; omega)⟩
              rw [List.take_succ_eq_append_getElem hil,List.filter_append]
              simpa [q1,aP] using e8
          · have e6 : ¬ (i : Int) < held.length := by omega
            obtain rfl : i = held.length := by omega
            rw [List.take_length] at hT
            simp only [go_sem,hll,e6]
            refine ⟨(by unfold I64; omega),ih2 (k + 1,T,rv,held.filter (· ≠ s.thing)) ⟨by simp only; omega,hT.base (sG.trans sX),by simp only; exact Nat.le_trans (List.length_filter_le _ _) (by omega),?_⟩ (by simp only; omega)⟩
            rw [hM]
            simp only [c1,k2,c3,decide_true,Bool.or_true,Bool.and_self,Bool.true_and]
            refine eW _ _ _ _ fun y => ?_
            by_cases e : y = s.thing <;> simp [e]
       · simp only [go_sem,k1,k2]
         exact ⟨sG.app,by rw [no (by rw [hM]; simp [k1,k2])]⟩
   · have e2 : ¬ (k : Int) < x.length := by omega
     obtain rfl : k = x.length := by omega
     rw [List.drop_length] at hM
     simp only [go_sem,e2,i1,r1,r1',hls]
     refine ⟨(by unfold I64; omega),ih (j + 1,G) ⟨by simp only; omega,sG,fun i hi => ?_⟩ (by simp only; omega)⟩
     by_cases hij : i < j
     · exact hall i hij
     · obtain rfl : i = j := by simp only at hi; omega
       rw [getD_at hjl,← hx]; exact hM
 · have e1 : ¬ (j : Int) < l.length := by omega
   obtain rfl : j = l.length := by omega
   have hA : l.all (bB (wi (things - 1)) fun _ => false) = true := by rw [← fG [],List.all_eq_true]; exact fun j hj => hall j (List.mem_range.1 hj)
   simp only [go_sem,hlen,e1]
   refine aL (tD things 1 4).v ?_
   cases c1 : inB things 1 4 with
   | false => simp only [go_sem]; exact ⟨sH,by simp [eC,c1]⟩
   | true =>
   simp only [go_sem,hlen]
   refine aL (tD l.length 1 4).v ?_
   simp only [go_sem]
   exact ⟨sH,by simp [eC,c1,hA]⟩
def kY (n : Nat) (sch : List Int) : Bool := sch.all fun x => inB x 0 ((n : Int) - 1)
theorem run1_c (x : Int) {p : Pl} {v : AV} {n : Nat} (hp : rd w0 h p = some v) (hl : gD v = some (.int .i64 n)) (hn : n < 1000000) : bC Tryz.prog w0 96 [.int .i64 x,.ptr p] h (.bool (inB x 0 ((n : Int) - 1))) h := by
 refine aU aW aBC mf96_b mf96_g (qE rfl) (by simp [AV.bdd,AV.bdds]) fun hb ha => bD ?_
 have e1 : ∀ L,rd w0 (h ++ L) p = some v := fun L => nQ hp
 have w1 : wi ((n : Int) - 1) = n - 1 := mG (by unfold I64; omega)
 simp only [go_sem,mf96,e1,hl,w1]
 refine aL (in_c x 0 (n - 1)).v ?_
 simp only [go_sem]
theorem yD {v sv : AV} {l : List (List aR)} {sch : List Int} (hs : SlI w0 h sv sch) (hv : PS w0 h v l) (hn : l.length < 1000000) (hsn : sch.length ≤ 9223372036854775807) : bC Tryz.prog w0 40 [sv,v] h (.bool (kY l.length sch)) h := by
 refine aU aW aBZ mf40_b mf40_g (qE rfl) (by simp [AV.bdd,AV.bdds]) fun hb ha => bD ?_
 have hlen := hv.len
 have hls := (SlI.use hs).1
 have w1 : wi ((l.length : Int) - 1) = l.length - 1 := mG (by unfold I64; omega)
 simp only [go_sem,mf40]
 refine gC (fun j => [(0,sv),(1,v),(5,.int .i64 j)]) (fun j => inB (sch.getD j 0) 0 ((l.length : Int) - 1) = true) sch.length rfl (fun j hj hall ih => ?_) (fun hall => ?_)
 · refine aS aW vC [0,1,5] L40_0.eq_1 ?_
   have e1 : (j : Int) < sch.length := by omega
   obtain ⟨p,i1,r1,r1'⟩ := hs.at_ hj
   rw [getD_at hj] at ih
   simp only [go_sem,hls,e1,i1,r1,r1',hlen,w1]
   refine aL (tD sch[j] 0 (l.length - 1)).v ?_
   cases c1 : inB sch[j] 0 (l.length - 1) with
   | false =>
    simp only [go_sem]
    rw [show kY l.length sch = false by rw [kY,List.all_eq_false]; exact ⟨_,qG hj,by simp [c1]⟩]
   | true =>
    simp only [go_sem]
    exact ⟨(by unfold I64; omega),ih c1⟩
 · refine aS aW vC [0,1,5] L40_0.eq_1 ?_
   have e1 : ¬ (sch.length : Int) < sch.length := by omega
   have : kY l.length sch = true := by rw [kY,← fG 0,List.all_eq_true]; exact fun j hj => hall j (List.mem_range.1 hj)
   simp only [go_sem,hls,e1]
   rw [this]
def nV (n : Nat) : List Int := List.replicate n (-1)
theorem free_c : bC Tryz.prog w0 85 [] h (.agg (aP (nV 4))) h := by
 refine cN (by simp [AV.bdd]) (bH aW tS zE zD (qE rfl) fun hb ha => bD ?_)
 simp only [go_sem,mf85]
 iterate 4
  refine aS aW uZ [0,1,3] L85_0.eq_1 ?_
  simp only [go_sem]
  try refine ⟨(by unfold I64; omega),?_⟩
 refine aS aW uZ [0,1,3] L85_0.eq_1 ?_
 simp only [go_sem]
 exact ⟨aI.refl.app,rfl⟩
theorem yS (n : Nat) (hn : n ≤ 1000) : ACall Tryz.prog w0 53 [.int .i64 n] h fun y H => Gro h H 1 n y (aP (nV n)) := by
 refine bH aW aBV mf53_b mf53_g (qE rfl) fun hb ha => bD ?_
 simp only [go_sem,mf53]
 refine fA (S := Nat × aA × AV) (F := fun s => [(0,.int .i64 n),(3,s.2.2),(4,.int .i64 s.1)]) (H := fun s => s.2.1) (meas := fun s => n - s.1) (Inv := fun s => s.1 ≤ n ∧ Gro h s.2.1 1 s.1 s.2.2 (aP (nV s.1))) (0,h,.nilS) ⟨Nat.zero_le _,by simpa [aP,nV] using Gro.nil aI.refl⟩ rfl (by simp) ?_
 rintro ⟨j,H,ov⟩ ⟨hj,hG⟩ ih
 simp only at hj hG ih ⊢
 refine aS aW aDJ [0,3,4] L53_0.eq_1 ?_
 by_cases hjl : j < n
 · have e1 : (j : Int) < n := by omega
   simp only [go_sem,e1]
   obtain ⟨Y,eY⟩ : ∃ Y,Y = H ++ [some (Blk.row [.int .i64 (-1)])] := ⟨_,rfl⟩
   have gY : Gro h Y 1 j ov (aP (nV j)) := eY ▸ hG.app
   have hkk : Y[H.length]? = some (some (.row [.int .i64 (-1)])) := by rw [eY,qI (Nat.le_refl _),Nat.sub_self]; rfl
   obtain ⟨G2,e5,e6⟩ := gY.more (w0 := w0) (b := 8) (f := true) hkk rfl rfl (by omega) (by omega)
   rw [← eY,e5]
   simp only [go_sem]
   refine ⟨(by unfold I64; omega),ih (j + 1,G2,_) ⟨by simp only; omega,?_⟩ (by simp only; omega)⟩
   rw [nV,List.replicate_succ']
   simpa [aP,nV] using e6
 · have e1 : ¬ (j : Int) < n := by omega
   obtain rfl : j = n := by omega
   simp only [go_sem,e1]
   exact hG
def stepS (progs : List (List aR)) (st : List Int) (who : Nat) : Option aR := (progs.getD who [])[(st.getD who 0).toNat]?
def cP (progs : List (List aR)) (st : List Int) (who : Nat) : Option (List Int) := match stepS progs st who with
 | none => none
 | some s => if s.kind = 1 ∧ st.getD (4 + s.thing.toNat) 0 ≠ -1 then none else some ((st.set who (st.getD who 0 + 1)).set (4 + s.thing.toNat) (if s.kind = 1 then (who : Int) else -1))
def lZ (progs : List (List aR)) : Prop := ∀ x ∈ progs,x.length ≤ 6 ∧ ∀ s ∈ x,(0 ≤ s.thing ∧ s.thing < 4) ∧ (s.kind = 1 ∨ s.kind = 2)
structure jS (progs : List (List aR)) (st : List Int) : Prop where
 len : st.length = 8
 done : ∀ i,i < progs.length → 0 ≤ st.getD i 0 ∧ st.getD i 0 ≤ (progs.getD i []).length
theorem kN {l : List Int} {i : Nat} (h : i < l.length) : (aP l)[i]? = some (.int .i64 (l.getD i 0)) := by rw [pS,qA h,getD_at h]; rfl
def kU (o : Option aR) : List AV := match o with
 | some s => [.agg s.c,.bool true]
 | none => [.agg [.int .i64 0,.int .i64 0],.bool false]
theorem step_c {v : AV} {progs : List (List aR)} {st : List Int} {who : Nat} (hv : PS w0 h v progs) (hs : jS progs st) (hw : who < progs.length) (hp : progs.length ≤ 4) :
 bC Tryz.prog w0 89 [.agg (aP st),v,.int .i64 who] h (.tup (kU (stepS progs st who))) h := by
 have hbv : ∀ N,(AV.tup (kU (stepS progs st who))).bdd N := fun N => by unfold kU; split <;> simp [AV.bdd,AV.bdds,aR.c]
 refine cN (hbv _) (bH aW tQ zA yZ (qE rfl) fun hb ha => bD ?_)
 have hl8 := hs.len
 have c1 : (aP st).length = 8 := by rw [bP,hl8]
 have c2 := kN (l := st) (i := who) (by omega)
 have hw4 : who < 4 := by omega
 obtain ⟨p,sv,i1,r1,r1',hx⟩ := hv.at_ hw
 obtain ⟨d1,d2⟩ := hs.done who hw
 rw [getD_at hw] at d2
 have hls : gD sv = some (.int .i64 progs[who].length) := by have := hx.use.1; rwa [List.length_map] at this
 obtain ⟨d,hd⟩ : ∃ d : Nat,st.getD who 0 = d := ⟨(st.getD who 0).toNat,by omega⟩
 rw [hd] at c2 d2
 have hst : stepS progs st who = progs[who][d]? := by rw [stepS,getD_at hw,hd]; rfl
 rw [hst]
 by_cases q : d = progs[who].length
 · have e1 : (d : Int) = progs[who].length := by omega
   have e2 : progs[who][d]? = none := List.getElem?_eq_none (by omega)
   simp only [go_sem,mf89,dH,c1,Nat.mul_one,c2,hw4,i1,r1,r1',hls,e1]
   rw [e2]
   exact ⟨aI.refl.app,rfl⟩
 · have hdl : d < progs[who].length := by omega
   have e1 : ¬ (d : Int) = progs[who].length := by omega
   have e2 : progs[who][d]? = some progs[who][d] := qA hdl
   obtain ⟨_,q2,hix,hrow,_⟩ := hx.use
   rw [List.length_map] at hix
   have e3 := hix d hdl
   have e4 : ∀ L,rdn w0 (h ++ L) (q2.add (d * 2)) 2 = some progs[who][d].c := fun L => cQ (hrow d _ (fT hdl))
   simp only [go_sem,mf89,dH,c1,Nat.mul_one,c2,hw4,i1,r1,r1',hls,e1,e3,e4]
   rw [e2]
   exact ⟨aI.refl.app,rfl⟩
def lV (o : Option (List Int)) (st : List Int) : List AV := match o with
 | some s => [.agg (aP s),.bool true]
 | none => [.agg (aP st),.bool false]
theorem aDH {v : AV} {progs : List (List aR)} {st : List Int} {who : Nat} (hv : PS w0 h v progs) (hg : lZ progs) (hs : jS progs st) (hw : who < progs.length) (hp : progs.length ≤ 4) :
 bC Tryz.prog w0 88 [.agg (aP st),v,.int .i64 who] h (.tup (lV (cP progs st who) st)) h := by
 have hbv : ∀ N,(AV.tup (lV (cP progs st who) st)).bdd N := fun N => by unfold lV; split <;> simp [AV.bdd,AV.bdds]
 refine cN (hbv _) (bH aW tR zC zB (qE rfl) fun hb ha => bD ?_)
 have hl8 := hs.len
 have c1 : (aP st).length = 8 := by rw [bP,hl8]
 have hw4 : who < 4 := by omega
 have t8 : (aP st).take 8 = aP st := List.take_of_length_le (by omega)
 have d8 : (aP st).drop 8 = [] := List.drop_of_length_le (by omega)
 simp only [go_sem,mf88,dH,c1,t8,List.drop_zero]
 refine aL (step_c hv.app hs hw hp).v ?_
 cases hst : stepS progs st who with
 | none =>
  have hn : cP progs st who = none := by rw [cP,hst]
  simp only [go_sem,kU,dH,c1,t8,d8,List.drop_zero,List.take_zero,List.nil_append,List.append_nil]
  rw [hn]
  exact ⟨aI.refl.app,rfl⟩
 | some s =>
  obtain ⟨hth,hki⟩ : (0 ≤ s.thing ∧ s.thing < 4) ∧ (s.kind = 1 ∨ s.kind = 2) := by
   rw [stepS,getD_at hw] at hst
   exact (hg _ (qG hw)).2 s (List.mem_of_getElem? hst)
  obtain ⟨t,ht⟩ : ∃ t : Nat,s.thing = t := ⟨s.thing.toNat,by omega⟩
  have ht4 : t < 4 := by omega
  have c2 := kN (l := st) (i := who) (by omega)
  have c3 := kN (l := st) (i := 4 + t) (by omega)
  obtain ⟨d1,d2⟩ := hs.done who hw
  have d3 := (hg _ (qG hw)).1
  rw [getD_at hw] at d2
  have hd0 : I64 (st.getD who 0 + 1) := by unfold I64; omega
  have c4 : who + 1 ≤ (aP st).length := by omega
  have sp : ∀ (l : List Int) (i : Nat) (x : Int),l.length = 8 → i < 8 → (aP l).take i ++ .int .i64 x :: (aP l).drop (i + 1) = aP (l.set i x) := fun l i x h1 h2 => by
   rw [iQ (by rw [bP]; omega)]; simp [aP,List.map_set]
  obtain ⟨s1,es1⟩ : ∃ s1,s1 = st.set who (st.getD who 0 + 1) := ⟨_,rfl⟩
  have l1 : s1.length = 8 := by rw [es1,List.length_set,hl8]
  have z1 := sp st who (st.getD who 0 + 1) hl8 (by omega)
  rw [← es1] at z1
  obtain ⟨s2,es2⟩ : ∃ s2,s2 = s1.set (4 + t) (-1) := ⟨_,rfl⟩
  have l2 : s2.length = 8 := by rw [es2,List.length_set,l1]
  have z2 := sp s1 (4 + t) (-1) l1 (by omega)
  rw [← es2,Nat.add_assoc] at z2
  have z3 := sp s2 (4 + t) who l2 (by omega)
  rw [es2,List.set_set,← es2,Nat.add_assoc] at z3
  obtain ⟨s3,es3⟩ : ∃ s3,s3 = s1.set (4 + t) who := ⟨_,rfl⟩
  have l3 : s3.length = 8 := by rw [es3,List.length_set,l1]
  rw [← es3] at z3
  have m1 : (aP s1).length = 8 := by rw [bP,l1]
  have m2 : (aP s2).length = 8 := by rw [bP,l2]
  have m3 : (aP s3).length = 8 := by rw [bP,l3]
  have u2 : (aP s2).take 8 = aP s2 := List.take_of_length_le (by omega)
  have u3 : (aP s3).take 8 = aP s3 := List.take_of_length_le (by omega)
  have v2 : (aP s2).drop 8 = [] := List.drop_of_length_le (by omega)
  have v3 : (aP s3).drop 8 = [] := List.drop_of_length_le (by omega)
  have t9 : 4 + (t + 1) ≤ 8 := by omega
  by_cases k1 : s.kind = 1
  · by_cases q : st.getD (4 + t) 0 = -1
    · have hn : cP progs st who = some s3 := by
       rw [cP,hst]; simp only [ht,Int.toNat_natCast]; rw [if_neg (fun x => x.2 q),if_pos k1,← es1,es3]
      simp only [go_sem,kU,dH,c1,t8,List.drop_zero,k1,ht,gB,ht4,Nat.mul_one,c3,q,c2,hw4,c4,z1,m1,t9,z2,m2,z3,m3,u3,v3,List.take_zero,List.nil_append,List.append_nil]
      refine ⟨hd0,by omega,?_⟩
      rw [hn]
      exact ⟨aI.refl.app,rfl⟩
    · have hn : cP progs st who = none := by
       rw [cP,hst]; simp only [ht,Int.toNat_natCast]; rw [if_pos ⟨k1,q⟩]
      have q' : (st.getD (4 + t) 0 != -1) = true := by simpa using q
      simp only [go_sem,kU,dH,c1,t8,d8,List.drop_zero,List.take_zero,List.nil_append,List.append_nil,k1,ht,gB,ht4,Nat.mul_one,c3,q']
      rw [hn]
      exact ⟨aI.refl.app,rfl⟩
  · have k2 : s.kind = 2 := by omega
    have hn : cP progs st who = some ((st.set who (st.getD who 0 + 1)).set (4 + t) (-1)) := by
     rw [cP,hst]; simp only [ht,Int.toNat_natCast]; rw [if_neg (fun x => k1 x.1),if_neg k1]
    rw [← es1,← es2] at hn
    simp only [go_sem,kU,dH,c1,t8,List.drop_zero,k2,ht,gB,ht4,Nat.mul_one,c3,c2,hw4,c4,z1,m1,t9,z2,m2,u2,v2,List.take_zero,List.nil_append,List.append_nil]
    refine ⟨hd0,by omega,?_⟩
    rw [hn]
    exact ⟨aI.refl.app,rfl⟩
def eM (progs : List (List aR)) : List Int → Int → List Int → List Int × Int
 | st,_,[] => (st,-1)
 | st,i,w :: r => match cP progs st w.toNat with
  | none => (st,i)
  | some s => eM progs s (i + 1) r
theorem lE {progs : List (List aR)} {st s : List Int} {who : Nat} (hg : lZ progs) (hs : jS progs st) (hw : who < progs.length) (hp : progs.length ≤ 4) (e : cP progs st who = some s) : jS progs s := by
 rw [cP] at e
 cases hst : stepS progs st who with
 | none => rw [hst] at e; cases e
 | some x =>
  rw [hst] at e
  simp only at e
  split at e
  · cases e
  · cases e
    have hx := hst
    rw [stepS,getD_at hw] at hx
    have hd := aX hx
    obtain ⟨d1,d2⟩ := hs.done who hw
    have hth := ((hg _ (qG hw)).2 x (List.mem_of_getElem? hx)).1
    refine ⟨by simp [hs.len],fun i hi => ?_⟩
    rw [List.getD_eq_getElem?_getD,qB (by omega)]
    by_cases hij : who = i
    · subst hij
      rw [qF (by rw [hs.len]; omega),Option.getD_some,getD_at hw]; omega
    · rw [qB hij,← List.getD_eq_getElem?_getD]; exact hs.done i hi
def cI : List Int := [0,0,0,0,-1,-1,-1,-1]
theorem lK {progs : List (List aR)} (hp : progs.length ≤ 4) : jS progs cI := ⟨rfl,fun i hi => by
 have : ∀ i,i < 4 → cI.getD i 0 = 0 := by decide
 rw [this i (by omega)]; omega⟩
theorem gA {tm : Int} : ∀ {x : List aR} {f : Int → Bool},bB tm f x = true → ∀ s ∈ x,(0 ≤ s.thing ∧ s.thing ≤ tm) ∧ (s.kind = 1 ∨ s.kind = 2)
 | [],_,_,s,hs => by simp at hs
 | a :: x,f,h,s,hs => by
  simp only [bB,Bool.and_eq_true,Bool.or_eq_true,inB,decide_eq_true_eq] at h
  rcases List.mem_cons.1 hs with rfl | hs
  · exact ⟨h.1.1,h.1.2.1⟩
  · exact gA h.2 s hs
theorem mL {things : Int} {l : List (List aR)} (h : eC things l = true) (hl : dY l = false) : ∃ n : Nat,things = n ∧ (1 ≤ n ∧ n ≤ 4) ∧ (1 ≤ l.length ∧ l.length ≤ 4) ∧ lZ l ∧ (∀ x ∈ l,bB ((n : Int) - 1) (fun _ => false) x = true) ∧ ∀ x ∈ l,∀ s ∈ x,s.thing < n := by
 simp only [eC,Bool.and_eq_true,List.all_eq_true,inB,decide_eq_true_eq] at h
 obtain ⟨h1,h2,h3⟩ := h
 obtain ⟨n,rfl⟩ : ∃ n : Nat,things = n := ⟨things.toNat,by omega⟩
 rw [mG (by unfold I64; omega)] at h1
 rw [dY,List.any_eq_false] at hl
 refine ⟨n,rfl,by omega,by omega,fun x hx => ⟨by have := hl x hx; simp at this; exact this,fun s hs => ?_⟩,h1,fun x hx s hs => ?_⟩
 · have := gA (h1 x hx) s hs
   exact ⟨⟨this.1.1,by omega⟩,this.2⟩
 · have := gA (h1 x hx) s hs
   omega
theorem sY {progs : List (List aR)} (hg : lZ progs) (hp : progs.length ≤ 4) : ∀ (sch : List Int) (st : List Int) (i : Int),jS progs st → (∀ x ∈ sch,0 ≤ x ∧ x < progs.length) → jS progs (eM progs st i sch).1
 | [],st,i,hs,_ => hs
 | w :: r,st,i,hs,hr => by
  rw [eM]
  have hw := hr w (by simp)
  cases e : cP progs st w.toNat with
  | none => exact hs
  | some s => exact sY hg hp r s (i + 1) (lE hg hs (by omega) hp e) fun x hx => hr x (by simp [hx])
theorem pB {H : aA} {i o n : Nat} {st : List Int} {f : Bool} (hi : H[i]? = some (some (.row (aP st)))) (hn : o + n ≤ st.length) : SlI w0 H (.sl (.own i o) n 1 f) ((st.drop o).take n) := by
 have hl : ((st.drop o).take n).length = n := by rw [List.length_take,List.length_drop]; omega
 refine .inr ⟨.own i o,f,⟨1,by rw [List.length_map,hl],iL⟩,(List.getElem?_eq_some_iff.1 hi).1,fun j c hc => ?_⟩
 rw [List.getElem?_map] at hc
 obtain ⟨z,hz,rfl⟩ := qD.1 hc
 have hj := aX hz
 rw [hl] at hj
 rw [List.getElem?_take_of_lt hj,List.getElem?_drop] at hz
 have e0 : rdn w0 H (.own i 0) st.length = some (aP st) := by
  simp only [rdn,hi,Nat.zero_add,List.drop_zero]
  rw [if_pos (by rw [bP]; exact Nat.le_refl _),List.take_of_length_le (by rw [bP]; exact Nat.le_refl _)]
 have e2 := (tH e0).2 (o + j) 1 (by omega)
 simp only [Pl.add,Nat.zero_add] at e2
 simp only [Pl.add,Nat.mul_one]
 rw [e2]
 have : (aP st)[o + j]? = some (.int .i64 z) := by rw [pS,hz]; rfl
 rw [List.drop_eq_getElem_cons (List.getElem?_eq_some_iff.1 this).1,(List.getElem?_eq_some_iff.1 this).2]; rfl
def qR (w0 : World) (H : aA) (y : AV) (things : Int) (progs : List (List aR)) (sch : List Int) : Prop :=
 if dY progs = true ∨ 24 < sch.length then y = .tup [.nilS,.nilS,.int .i64 0,.int .i64 3]
 else if (eC things progs && kY progs.length sch) = true then ∃ hv dv,y = .tup [hv,dv,.int .i64 (eM progs cI 0 sch).2,.int .i64 0] ∧ SlI w0 H hv (((eM progs cI 0 sch).1.drop 4).take things.toNat) ∧ SlI w0 H dv ((eM progs cI 0 sch).1.take progs.length)
 else y = .tup [.nilS,.nilS,.int .i64 0,.int .i64 2]
theorem Run_c {v sv : AV} {progs : List (List aR)} {sch : List Int} (things : Int) (hv : PS w0 h v progs) (hs : SlI w0 h sv sch) (hn : progs.length < 1000000) (hn2 : ∀ x ∈ progs,x.length < 1000000) (hsn : sch.length < 1000000) :
 ACall Tryz.prog w0 39 [.int .i64 things,v,sv] h fun y H => aI h H ∧ qR w0 H y things progs sch := by
 refine bH aW aB0 mf39_b mf39_g (qE rfl) fun hb ha => bD ?_
 have o := NS.one hv
 have hls := (SlI.use hs).1
 have hlen := hv.len
 have vb := NS.bdd hv (Nat.le_refl _)
 have sb := hs.bdd (Nat.le_refl _)
 simp only [go_sem,mf39,o.1,o.2]
 refine aL (long_c hv.app hn).v ?_
 cases hL : dY progs with
 | true =>
  simp only [go_sem]
  exact ⟨aI.refl.app,by rw [qR,if_pos (.inl hL)]⟩
 | false =>
 by_cases q1 : (sch.length : Int) > 24
 · simp only [go_sem,hls,q1]
   exact ⟨aI.refl.app,by rw [qR,if_pos (.inr (by omega))]⟩
 have hno : ¬ (dY progs = true ∨ 24 < sch.length) := by rw [hL]; simp; omega
 simp only [go_sem,hls,q1]
 refine aL (nT things hv.app hn hn2).v ?_
 cases hP : eC things progs with
 | false =>
  simp only [go_sem]
  exact ⟨aI.refl.app,by rw [qR,if_neg hno,if_neg (by simp [hP])]⟩
 | true =>
 simp only [go_sem]
 obtain ⟨X,eX⟩ : ∃ X,X = h ++ [some (Blk.row [v])] := ⟨_,rfl⟩
 have x0 : X[h.length]? = some (some (.row [v])) := by rw [eX,qI (Nat.le_refl _),Nat.sub_self]; rfl
 have sX : aI h X := eX ▸ aI.refl.app
 have hall := aA0 (w0 := w0) (h := X) (sch.map fun z => [.int .i64 z]) sv (.fn (.func 96) [] [.ptr (.own h.length 0)]) (fun j => inB (sch.getD j 0) 0 ((progs.length : Int) - 1)) (Sl.sub hs sX) (fun c hc => by
  obtain ⟨z,_,rfl⟩ := List.mem_map.1 hc; rfl) (by simpa using hsn) (fun j c hc _ L => by
  rw [List.getElem?_map] at hc
  obtain ⟨z,hz,rfl⟩ := qD.1 hc
  rw [aAN (l := sch) hz]
  exact bC.vc (P := Tryz.prog) (first := []) (capt := [.ptr (.own h.length 0)]) (run1_c (h := X ++ L) z (v := v) (by have : (X ++ L)[h.length]? = _ := aD (k := L) x0; simp [rd,this]) hlen hn))
 rw [List.length_map,fG (l := sch) 0 (p := fun x => inB x 0 ((progs.length : Int) - 1))] at hall
 rw [eX] at hall
 refine aL hall.v ?_
 rw [show (sch.all fun x => inB x 0 ((progs.length : Int) - 1)) = kY progs.length sch from rfl]
 cases hS : kY progs.length sch with
 | false =>
  simp only [go_sem]
  exact ⟨aI.refl.app,by rw [qR,if_neg hno,if_neg (by simp [hS])]⟩
 | true =>
 have hok : (eC things progs && kY progs.length sch) = true := by rw [hP,hS]; rfl
 obtain ⟨n,rfl,⟨n1,n4⟩,⟨p1,p4⟩,hg,hoks,hth⟩ := mL hP hL
 have hsx : ∀ x ∈ sch,0 ≤ x ∧ x < progs.length := fun x hx => by
  have := List.all_eq_true.1 hS x hx
  simp only [inB,Bool.and_eq_true,decide_eq_true_eq] at this; omega
 simp only [go_sem]
 refine aL free_c.v ?_
 simp only [go_sem,show aP (nV 4) = [.int .i64 (-1),.int .i64 (-1),.int .i64 (-1),.int .i64 (-1)] from rfl,hls]
 have hi8 : ∀ N (st : List Int),AV.bdds N (aP st) := fun N st => aAH N st
 have fin : ∀ (st : List Int) (at' : Int) (fr : Fr) (L : aA),jS progs st → eM progs cI 0 sch = (st,at') → fr.get 0 = .int .i64 n → fr.get 4 = .ptr (.own h.length 0) → fr.get 10 = .ptr (.own (h.length + 1) 0) → fr.get 11 = .int .i64 at' →
  dr Tryz.prog w0 none 64 h.length (vX w0 [RV.t 6,RV.t 7,RV.t 8,RV.t 9] fun y H => aI h H ∧ qR w0 H y n progs sch) D39_0 B39_0 [.code .ret] fr (h ++ (some (.row [v]) :: some (.row (aP st)) :: L)) := by
  intro st at' fr L hst hrun f0 f4 f10 f11
  refine dr_fp aW [0,1,2,4,5,6,7,9,3,8,10,11,12,13] [o_ 54 (.addr (.t 10) 4),o_ 55 (m_ 0),o_ 56 (.slca 4 1 (.t 54) none (some (.t 55)) none),o_ 58 (.addr (.t 10) 0),o_ 59 (l_ 4),o_ 60 (.len (.t 59)),o_ 61 (.slca 4 1 (.t 58) none (some (.t 60)) none),o_ 63 (m_ 11),.call (some 57) none (f_ 90) [(.t 56)]] [([(4,o_ 59 (l_ 4)),(6,o_ 61 (.slca 4 1 (.t 58) none (some (.t 60)) none))],[.call (some 62) none (f_ 90) [(.t 61)],o_ 6 (m_ 57),o_ 7 (m_ 62),o_ 8 (m_ 63),o_ 9 (.mov (i_ 0))])] rfl rfl (by kernel_rfl) ?_
  have hl8 := hst.len
  have c1 : (aP st).length = 8 := by rw [bP,hl8]
  have hn4 : (0 ≤ n ∧ n ≤ 4) = True := eq_true ⟨Nat.zero_le _,n4⟩
  have hp4 : (0 ≤ progs.length ∧ progs.length ≤ 4) = True := eq_true ⟨Nat.zero_le _,p4⟩
  simp only [go_sem,f0,f4,f10,f11,c1,hn4,hp4,hlen]
  obtain ⟨H0,hH0⟩ : ∃ H0,H0 = h ++ some (Blk.row [v]) :: some (Blk.row (aP st)) :: L := ⟨_,rfl⟩
  have b0 : H0[h.length]? = some (some (.row [v])) := by rw [hH0,qI (Nat.le_refl _),Nat.sub_self]; rfl
  have b1 : H0[h.length + 1]? = some (some (.row (aP st))) := by rw [hH0,qI (by omega),show h.length + 1 - h.length = 1 by omega]; rfl
  have s0 : aI h H0 := hH0 ▸ aI.refl.app
  rw [← hH0]
  have hd4 : ((st.drop 4).take n).length = n := by rw [List.length_take,List.length_drop]; omega
  have hd0 : ((st.drop 0).take progs.length).length = progs.length := by rw [List.length_take,List.length_drop]; omega
  refine bE (ACall.vc (first := []) (uR (w0 := w0) (h := H0) (pB (n := n - 0) b1 (by omega)) (by rw [Nat.sub_zero,hd4]; omega) (by intro e; rw [Nat.sub_zero] at e; rw [e] at hd4; simp at hd4; omega))) ?_
  rintro _ _ ⟨rfl,rfl⟩
  have b0' : ∀ K,(H0 ++ K)[h.length]? = some (some (.row [v])) := fun K => aD b0
  have b1' : ∀ K,(H0 ++ K)[h.length + 1]? = some (some (.row (aP st))) := fun K => aD b1
  simp only [go_sem,f0,f4,f10,f11,c1,hn4,hp4,hlen,b0',b1']
  obtain ⟨H1,hH1⟩ : ∃ H1,H1 = H0 ++ [some (Blk.row []),some (Blk.row (iis (List.take (n - 0) (List.drop 4 st))))] := ⟨_,rfl⟩
  have b2 : H1[H0.length + 1]? = some (some (.row (iis ((st.drop 4).take (n - 0))))) := by rw [hH1,qI (by omega),show H0.length + 1 - H0.length = 1 by omega]; rfl
  have b1'' : H1[h.length + 1]? = some (some (.row (aP st))) := hH1 ▸ b1' _
  have s1 : aI h H1 := hH1 ▸ s0.app
  rw [← hH1]
  refine bE (ACall.vc (first := []) (uR (w0 := w0) (h := H1) (pB (n := progs.length - 0) b1'' (by omega)) (by rw [Nat.sub_zero,hd0]; omega) (by intro e; rw [Nat.sub_zero] at e; rw [e] at hd0; simp at hd0; omega))) ?_
  rintro _ _ ⟨rfl,rfl⟩
  simp only [go_sem]
  refine ⟨s1.app,?_⟩
  rw [qR,if_neg hno,if_pos hok,hrun]
  refine ⟨_,_,rfl,gN (by rw [aD b2,Nat.sub_zero]; rfl) (by rw [Nat.sub_zero]; rfl),gN (b := st.take progs.length) (by rw [qI (by omega),show H1.length + 1 - H1.length = 1 by omega,Nat.sub_zero]; rfl) (by rw [Nat.sub_zero])⟩
 refine fA (S := Nat × List Int) (F := fun s => [(0,.int .i64 n),(4,.ptr (.own h.length 0)),(10,.ptr (.own (h.length + 1) 0)),(11,.int .i64 (-1)),(35,sv),(36,.int .i64 sch.length),(37,.int .i64 s.1)])
  (H := fun s => h ++ [some (.row [v]),some (.row (aP s.2))]) (meas := fun s => sch.length - s.1) (Inv := fun s => s.1 ≤ sch.length ∧ jS progs s.2 ∧ eM progs cI 0 sch = eM progs s.2 s.1 (sch.drop s.1)) (0,cI) ⟨Nat.zero_le _,lK p4,rfl⟩ rfl rfl ?_
 rintro ⟨j,st⟩ ⟨hj,hst,hr⟩ ih
 simp only at hj hst hr ih ⊢
 have hl8 := hst.len
 have c1 : (aP st).length = 8 := by rw [bP,hl8]
 have t8 : (aP st).take 8 = aP st := List.take_of_length_le (by omega)
 have d8 : (aP st).drop 8 = [] := List.drop_of_length_le (by omega)
 refine aS aW aDL [0,4,10,11,35,36,37] L39_0.eq_1 ?_
 by_cases hjl : j < sch.length
 · have e1 : (j : Int) < sch.length := by omega
   obtain ⟨pp,i1,r1,r1'⟩ := SlI.at_ hs hjl
   rw [List.drop_eq_getElem_cons hjl,eM] at hr
   obtain ⟨w1,w2⟩ := hsx _ (qG hjl)
   obtain ⟨w,hw⟩ : ∃ w : Nat,sch[j] = w := ⟨sch[j].toNat,by omega⟩
   rw [hw] at r1 r1' hr
   rw [Int.toNat_natCast] at hr
   simp only [go_sem,e1,i1,r1,r1',c1,t8,List.drop_zero]
   refine aL (aDH hv.app hg hst (by omega) p4).v ?_
   cases hns : cP progs st w with
   | none =>
    rw [hns] at hr
    simp only [go_sem,lV,dH,c1,t8,d8,List.drop_zero,List.take_zero,List.nil_append,List.append_nil]
    exact fin st j _ _ hst hr rfl rfl rfl rfl
   | some s =>
    rw [hns] at hr
    have hs2 := lE hg hst (show w < progs.length by omega) p4 hns
    have c1' : (aP s).length = 8 := by rw [bP,hs2.len]
    have t8' : (aP s).take 8 = aP s := List.take_of_length_le (by omega)
    have d8' : (aP s).drop 8 = [] := List.drop_of_length_le (by omega)
    simp only [go_sem,lV,dH,c1,c1',t8',d8',d8,List.drop_zero,List.take_zero,List.nil_append,List.append_nil]
    refine ⟨(by unfold I64; omega),iY 2 hb (by simp [dL,dM,eI,eJ,fN,eF,AV.bdds,AV.bdd,Pl.bdd,cM]; exact AV.bdd_mono (by omega) _ vb) (by simp [dL,dM,eI,eJ,fN,eF,AV.bdds,AV.bdd,Pl.bdd,cM]; exact AV.bdd_mono (by omega) _ sb) ?_⟩
    exact ih (j + 1,s) ⟨by simp only; omega,hs2,by rw [hr]; simp⟩ (by simp only; omega)
 · have e1 : ¬ (j : Int) < sch.length := by omega
   obtain rfl : j = sch.length := by omega
   rw [List.drop_length] at hr
   simp only [go_sem,e1]
   exact fin st (-1) _ [] hst hr rfl rfl rfl rfl
def hoS (n : Nat) (st : List Int) : List Int := (st.drop 4).take n
theorem oA {n : Nat} {st : List Int} (hn : n ≤ 4) (hl : st.length = 8) : (hoS n st).length = n := by rw [hoS,List.length_take,List.length_drop]; omega
theorem aAM {n t : Nat} {st : List Int} (ht : t < n) (hl : st.length = 8) (hn : n ≤ 4) : (hoS n st).getD t 0 = st.getD (4 + t) 0 := by
 rw [List.getD_eq_getElem?_getD,List.getD_eq_getElem?_getD,hoS,List.getElem?_take_of_lt ht,List.getElem?_drop]
theorem mI {p i : Nat} {st : List Int} (hi : i < p) : (st.take p).getD i 0 = st.getD i 0 := by
 rw [List.getD_eq_getElem?_getD,List.getD_eq_getElem?_getD,List.getElem?_take_of_lt hi]
theorem aDB {n t : Nat} {st : List Int} {x : Int} : hoS n (st.set (4 + t) x) = (hoS n st).set t x := by
 rw [hoS,hoS,List.drop_set,if_neg (by omega),Nat.add_sub_cancel_left,List.take_set]
theorem SlI.getD_at {x : AV} {l : List Int} (a : SlI w0 h x l) {j : Nat} (hj : j < l.length) : ∃ p : Pl,dJ 1 x (some j) = some (.ptr p) ∧ (∀ L,rd w0 (h ++ L) p = some (.int .i64 (l.getD j 0))) ∧ rd w0 h p = some (.int .i64 (l.getD j 0)) := by
 obtain ⟨p,a1,a2,a3⟩ := a.at_ hj
 rw [Ab.getD_at hj]; exact ⟨p,a1,a2,a3⟩
theorem can_c {v hv dv : AV} {progs : List (List aR)} {st : List Int} {n who : Nat} (hp : PS w0 h v progs) (hh : SlI w0 h hv (hoS n st)) (hd : SlI w0 h dv (st.take progs.length)) (hg : lZ progs) (hs : jS progs st) (hw : who < progs.length) (hp4 : progs.length ≤ 4) (hn4 : n ≤ 4)
 (hth : ∀ x ∈ progs,∀ s ∈ x,s.thing < n) :
 bC Tryz.prog w0 93 [v,hv,dv,.int .i64 who] h (.bool (cP progs st who).isSome) h := by
 refine cN (by simp [AV.bdd]) (bH aW aBD mf93_b mf93_g (qE rfl) fun hb ha => bD ?_)
 have hl8 := hs.len
 obtain ⟨p,sv,i1,r1,r1',hx⟩ := hp.at_ hw
 obtain ⟨p2,j1,q1,q1'⟩ := hd.getD_at (j := who) (by rw [List.length_take]; omega)
 rw [mI hw] at q1 q1'
 obtain ⟨d1,d2⟩ := hs.done who hw
 rw [Ab.getD_at hw] at d2
 have hls : gD sv = some (.int .i64 progs[who].length) := by have := hx.use.1; rwa [List.length_map] at this
 obtain ⟨d,hdd⟩ : ∃ d : Nat,st.getD who 0 = d := ⟨(st.getD who 0).toNat,by omega⟩
 rw [hdd] at q1 q1' d2
 have hst : stepS progs st who = progs[who][d]? := by rw [stepS,Ab.getD_at hw,hdd]; rfl
 by_cases q : d = progs[who].length
 · have e1 : (d : Int) ≥ progs[who].length := by omega
   have e2 : progs[who][d]? = none := List.getElem?_eq_none (by omega)
   simp only [go_sem,mf93,i1,r1,r1',j1,q1,q1',hls,e1]
   rw [cP,hst,e2]
   exact ⟨aI.refl.app,rfl⟩
 · have hdl : d < progs[who].length := by omega
   have e1 : ¬ (d : Int) ≥ progs[who].length := by omega
   have e2 : progs[who][d]? = some progs[who][d] := qA hdl
   obtain ⟨_,q2,hix,hrow,_⟩ := hx.use
   rw [List.length_map] at hix
   have e3 := hix d hdl
   have e4 : ∀ L,rdn w0 (h ++ L) (q2.add (d * 2)) 2 = some progs[who][d].c := fun L => cQ (hrow d _ (fT hdl))
   have e4' := e4 []
   rw [List.append_nil] at e4'
   obtain ⟨s,hsd⟩ : ∃ s,s = progs[who][d] := ⟨_,rfl⟩
   rw [← hsd] at e4 e4' e2
   have hsm : s ∈ progs[who] := hsd ▸ qG _
   obtain ⟨⟨t0,_⟩,hk⟩ := (hg _ (qG hw)).2 s hsm
   have t1 := hth _ (qG hw) s hsm
   obtain ⟨t,ht⟩ : ∃ t : Nat,s.thing = t := ⟨s.thing.toNat,by omega⟩
   obtain ⟨p3,k1,k2,k2'⟩ := hh.getD_at (j := t) (by rw [oA hn4 hl8]; omega)
   rw [aAM (by omega) hl8 hn4] at k2 k2'
   simp only [go_sem,mf93,i1,r1,r1',j1,q1,q1',hls,e1,e3,e4,e4',ht,k1,k2,k2']
   have hnx : (cP progs st who).isSome = !(decide (s.kind = 1) && !decide (st.getD (4 + t) 0 = -1)) := by
    rw [cP,hst,e2]
    simp only [ht,Int.toNat_natCast]
    generalize st.getD (4 + t) 0 = g
    by_cases c1 : s.kind = 1 <;> by_cases c2 : g = -1 <;> simp [c1,c2]
   refine ⟨fun k2 => ⟨aI.refl.app,?_⟩,fun k2 => ⟨aI.refl.app,?_⟩⟩
   · rw [hnx]
     have k1 : s.kind = 1 := by omega
     generalize st.getD (4 + t) 0 = g
     by_cases c2 : g = -1 <;> simp [k1,c2]
   · rw [hnx]; simp [k2]
theorem wA {progs : List (List aR)} {st s' : List Int} {n w : Nat} (hg : lZ progs) (hs : jS progs st) (hw : w < progs.length) (hth : ∀ x ∈ progs,∀ s ∈ x,s.thing < n) (e : cP progs st w = some s') :
 ∃ (s : aR) (t d : Nat),s ∈ progs[w] ∧ s.thing = t ∧ t < n ∧ st.getD w 0 = d ∧ d < progs[w].length ∧ progs[w][d]? = some s ∧ (s.kind = 1 ∨ s.kind = 2) ∧ s' = (st.set w ((d : Int) + 1)).set (4 + t) (if s.kind = 1 then (w : Int) else -1) := by
 rw [cP] at e
 obtain ⟨d1,d2⟩ := hs.done w hw
 obtain ⟨d,hdd⟩ : ∃ d : Nat,st.getD w 0 = d := ⟨(st.getD w 0).toNat,by omega⟩
 have hst : stepS progs st w = progs[w][d]? := by rw [stepS,Ab.getD_at hw,hdd]; rfl
 rw [hst] at e
 cases h2 : progs[w][d]? with
 | none => rw [h2] at e; cases e
 | some s =>
  rw [h2] at e
  simp only at e
  have hsm := List.mem_of_getElem? h2
  obtain ⟨⟨t0,_⟩,hk⟩ := (hg _ (qG hw)).2 s hsm
  have t1 := hth _ (qG hw) s hsm
  obtain ⟨t,ht⟩ : ∃ t : Nat,s.thing = t := ⟨s.thing.toNat,by omega⟩
  rw [ht,Int.toNat_natCast,hdd] at e
  split at e
  · cases e
  · cases e
    exact ⟨s,t,d,hsm,ht,by omega,hdd,aX h2,h2,hk,rfl⟩
theorem jB {l : List Int} {i : Nat} {x : Int} (hi : i < l.length) : (aP l).take i ++ .int .i64 x :: (aP l).drop (i + 1) = aP (l.set i x) := by
 rw [iQ (by rw [bP]; omega)]; simp [aP,List.map_set]
theorem rRun_c {v sv : AV} {progs : List (List aR)} {sch : List Int} {n : Nat} (hv : PS w0 h v progs) (hs : SlI w0 h sv sch) (n1 : 1 ≤ n) (n4 : n ≤ 4) (p1 : 1 ≤ progs.length) (p4 : progs.length ≤ 4) (hg : lZ progs) (hth : ∀ x ∈ progs,∀ s ∈ x,s.thing < n)
 (hsx : ∀ x ∈ sch,0 ≤ x ∧ x < progs.length) (hsn : sch.length < 1000000) :
 ACall Tryz.prog w0 41 [.int .i64 n,v,sv] h fun y H => aI h H ∧ ∃ hv dv,y = .tup [hv,dv,.int .i64 (eM progs cI 0 sch).2] ∧ SlI w0 H hv (hoS n (eM progs cI 0 sch).1) ∧ SlI w0 H dv ((eM progs cI 0 sch).1.take progs.length) := by
 refine bH aW aBY mf41_b mf41_g (qE rfl) fun hb ha => bD ?_
 have hls := (SlI.use hs).1
 have hlen := hv.len
 simp only [go_sem,mf41]
 refine bE (ACall.vc (first := []) (yS n (by omega))) ?_
 intro nv H0 hG
 rw [List.append_nil] at hG
 obtain ⟨ia,hia,rfl,hHa,_,_⟩ := hG.put (by omega)
 have e6 : progs.length ≤ progs.length ∧ progs.length * (8 + 1) ≤ 1099511627776 := ⟨Nat.le_refl _,by omega⟩
 simp only [go_sem,hlen,gB,e6,beq_self_eq_true]
 obtain ⟨B,hB⟩ : ∃ B,B = H0.length := ⟨_,rfl⟩
 have hAB : ia < B := by have := (List.getElem?_eq_some_iff.1 hHa).1; omega
 have hB0 : h.length ≤ B := by have := hG.1.1; omega
 have hz : dC [AV.int .i64 0] progs.length = aP (cI.take progs.length) := by
  rcases (by omega : progs.length = 1 ∨ progs.length = 2 ∨ progs.length = 3 ∨ progs.length = 4) with e | e | e | e <;> rw [e] <;> rfl
 have hz2 : nV n = hoS n cI := by
  rcases (by omega : n = 1 ∨ n = 2 ∨ n = 3 ∨ n = 4) with e | e | e | e <;> rw [e] <;> rfl
 rw [hz,← hB]
 rw [hz2] at hHa
 have fin : ∀ (H : aA) (st : List Int) (at' : Int),aI h H → jS progs st → H[ia]? = some (some (.row (aP (hoS n st)))) → H[B]? = some (some (.row (aP (st.take progs.length)))) → eM progs cI 0 sch = (st,at') →
  aI h H ∧ ∃ hv dv,AV.tup [.sl (.own ia 0) n 1 false,.sl (.own B 0) progs.length 1 true,.int .i64 at'] = .tup [hv,dv,.int .i64 (eM progs cI 0 sch).2] ∧ SlI w0 H hv (hoS n (eM progs cI 0 sch).1) ∧ SlI w0 H dv ((eM progs cI 0 sch).1.take progs.length) := by
  intro H st at' s0 hst a1 a2 e
  have hl8 := hst.len
  rw [e]
  exact ⟨s0,_,_,rfl,gN a1 (oA n4 hl8).symm,gN a2 (by simp only [List.length_take]; omega)⟩
 refine fA (S := Nat × List Int × aA) (F := fun s => [(1,v),(2,sv),(9,.sl (.own ia 0) n 1 false),(10,.sl (.own B 0) progs.length 1 true),(11,.int .i64 s.1)])
  (H := fun s => s.2.2) (meas := fun s => sch.length - s.1) (Inv := fun s => s.1 ≤ sch.length ∧ jS progs s.2.1 ∧ eM progs cI 0 sch = eM progs s.2.1 s.1 (sch.drop s.1) ∧ aI h s.2.2 ∧ s.2.2[ia]? = some (some (.row (aP (hoS n s.2.1)))) ∧ s.2.2[B]? = some (some (.row (aP (s.2.1.take progs.length)))))
  (0,cI,_) ⟨Nat.zero_le _,lK p4,rfl,hG.1.app,aD hHa,by rw [qI (by omega),hB,Nat.sub_self]; rfl⟩ rfl rfl ?_
 rintro ⟨j,st,H⟩ ⟨hj,hst,hr,hsub,hA,hD⟩ ih
 simp only at hj hst hr hsub hA hD ih ⊢
 have hl8 := hst.len
 have lA := oA n4 hl8
 have lD : (st.take progs.length).length = progs.length := by rw [List.length_take]; omega
 refine aS aW aDK [1,2,9,10,11] L41_0.eq_1 ?_
 by_cases hjl : j < sch.length
 · have e1 : (j : Int) < sch.length := by omega
   obtain ⟨pp,i1,r1,r1'⟩ := SlI.at_ (hs.sub hsub) hjl
   rw [List.drop_eq_getElem_cons hjl,eM] at hr
   obtain ⟨w1,w2⟩ := hsx _ (qG hjl)
   obtain ⟨w,hw⟩ : ∃ w : Nat,sch[j] = w := ⟨sch[j].toNat,by omega⟩
   rw [hw] at r1 r1' hr
   rw [Int.toNat_natCast] at hr
   have hwl : w < progs.length := by omega
   simp only [go_sem,hls,e1,i1,r1,r1']
   refine aL (can_c (hv.sub hsub) (gN hA lA.symm) (gN hD lD.symm) hg hst hwl p4 n4 hth).v ?_
   cases hns : cP progs st w with
   | none =>
    rw [hns] at hr
    simp only [go_sem,Option.isSome]
    exact fin _ st j hsub hst hA hD hr
   | some s' =>
    rw [hns] at hr
    have hs2 := lE hg hst hwl p4 hns
    obtain ⟨p,av,x1,x2,x2',hx⟩ := hv.at_ hwl
    obtain ⟨s,t,d,hst2,ht,htn,hdd,hdl,e2,hk,es'⟩ := wA hg hst hwl hth hns
    have hls2 : gD av = some (.int .i64 progs[w].length) := by have := hx.use.1; rwa [List.length_map] at this
    obtain ⟨_,q2,hix,hrow,_⟩ := hx.use
    rw [List.length_map] at hix
    have e3 := hix d hdl
    have e4 : ∀ L,rdn w0 (h ++ L) (q2.add (d * 2)) 2 = some s.c := fun L => cQ (hrow d _ (by rw [List.getElem?_map,e2]; rfl))
    have e4' := (hsub.rdn (by simpa using e4 []) : rdn w0 H (q2.add (d * 2)) 2 = some s.c)
    have e4'' : ∀ L,rdn w0 (H ++ L) (q2.add (d * 2)) 2 = some s.c := fun L => cQ e4'
    have y1 : rd w0 H p = some av := hsub.rd x2'
    have o1 : ∀ f,dJ 1 (.sl (.own ia 0) n 1 f) (some t) = some (.ptr (.own ia t)) := fun f => by rw [yO (by omega),Nat.mul_one]
    have o2 : ∀ f,dJ 1 (.sl (.own B 0) progs.length 1 f) (some w) = some (.ptr (.own B w)) := fun f => by rw [yO (by omega),Nat.mul_one]
    have g1 : (aP (st.take progs.length))[w]? = some (.int .i64 d) := by rw [kN (by omega),mI hwl,hdd]
    have g2 : w + 1 ≤ (aP (st.take progs.length)).length := by rw [bP]; omega
    have g3 : t + 1 ≤ (aP (hoS n st)).length := by rw [bP]; omega
    simp only [go_sem,Option.isSome,x1,y1,o1,o2,hD,g1,gB,e3,e4',e4'',xL hA,g3,ht]
    have hiH : ia < H.length := (List.getElem?_eq_some_iff.1 hA).1
    have hBH : B < H.length := (List.getElem?_eq_some_iff.1 hD).1
    obtain ⟨K1,hK1⟩ : ∃ K1,K1 = (H ++ [some (Blk.row [AV.int .i64 s.kind,AV.int .i64 t])]).set ia (some (Blk.row (aP ((hoS n st).set t (-1))))) := ⟨_,rfl⟩
    have k1 : K1[H.length]? = some (some (.row [AV.int .i64 s.kind,AV.int .i64 t])) := by rw [hK1,qB (by omega),qI (Nat.le_refl _),Nat.sub_self]; rfl
    have k2 : K1[ia]? = some (some (.row (aP ((hoS n st).set t (-1))))) := by rw [hK1,qF (by simp; omega)]
    have k3 : K1[B]? = some (some (.row (aP (st.take progs.length)))) := by rw [hK1,qB (by omega)]; exact aD hD
    have k4 : aI h K1 := hK1 ▸ hsub.app.setR hia
    rw [jB (by omega),← hK1]
    have g4 : t + 1 ≤ (aP ((hoS n st).set t (-1))).length := by rw [bP,List.length_set]; omega
    have hd6 : I64 ((d : Int) + 1) := by have := (hg _ (qG hwl)).1; unfold I64; omega
    have fin2 : ∀ (K : aA) (fr : Fr),aI h K → K[ia]? = some (some (.row (aP (hoS n s')))) → K[B]? = some (some (.row (aP (s'.take progs.length)))) → fr = [(1,v),(2,sv),(9,.sl (.own ia 0) n 1 false),(10,.sl (.own B 0) progs.length 1 true),(11,.int .i64 ((j + 1 : Nat) : Int))] → lp Tryz.prog w0 none 68 h.length _ _ _ fr K := fun K fr z1 z2 z3 z4 => z4 ▸ ih (j + 1,s',K) ⟨by simp only; omega,hs2,by rw [hr]; simp,z1,z2,z3⟩ (by simp only; omega)
    have eD : s'.take progs.length = (st.take progs.length).set w ((d : Int) + 1) := by
     rw [es',List.take_set,List.take_set,List.set_eq_of_length_le (by rw [List.length_set]; omega)]
    have eH : ∀ x : Int,hoS n ((st.set w ((d : Int) + 1)).set (4 + t) x) = (hoS n st).set t x := fun x => by
     rw [aDB]
     congr 1
     rw [hoS,hoS,List.drop_set,if_pos (by omega)]
    rcases hk with hk | hk
    · rw [if_pos hk] at es'
      have k1' := k1
      rw [hk] at k1'
      obtain ⟨K2,hK2⟩ : ∃ K2,K2 = K1.set ia (some (Blk.row (aP ((hoS n st).set t w)))) := ⟨_,rfl⟩
      have m2 : K2[ia]? = some (some (.row (aP ((hoS n st).set t w)))) := by rw [hK2,qF (List.getElem?_eq_some_iff.1 k2).1]
      have m3 : K2[B]? = some (some (.row (aP (st.take progs.length)))) := by rw [hK2,qB (by omega)]; exact k3
      have m4 : aI h K2 := hK2 ▸ k4.setR hia
      have sw : (aP ((hoS n st).set t (-1))).take t ++ .int .i64 w :: (aP ((hoS n st).set t (-1))).drop (t + 1) = aP ((hoS n st).set t w) := by rw [jB (by rw [List.length_set]; omega),List.set_set]
      simp only [go_sem,k1',k2,o1,gB,g4,sw]
      rw [← hK2]
      simp only [go_sem,gB,m3,g1,g2,hwl,Nat.mul_one]
      refine ⟨hd6,?_⟩
      rw [jB (by omega)]
      refine ⟨(by unfold I64; omega),fin2 _ _ (m4.setR hB0) (by rw [qB (by omega),m2,es',eH]) (by rw [qF (List.getElem?_eq_some_iff.1 m3).1,eD]) rfl⟩
    · rw [if_neg (by omega)] at es'
      have k1' := k1
      rw [hk] at k1'
      simp only [go_sem,k1',k2,gB,k3,g1,g2,hwl,Nat.mul_one]
      refine ⟨hd6,?_⟩
      rw [jB (by omega)]
      refine ⟨(by unfold I64; omega),fin2 _ _ (k4.setR hB0) (by rw [qB (by omega),k2,es',eH]) (by rw [qF (List.getElem?_eq_some_iff.1 k3).1,eD]) rfl⟩
 · have e1 : ¬ (j : Int) < sch.length := by omega
   obtain rfl : j = sch.length := by omega
   rw [List.drop_length] at hr
   simp only [go_sem,hls,e1]
   exact fin _ st (-1) hsub hst hA hD hr
theorem aDu {l : List (List aR)} (h : lH l = true) : (∀ x ∈ l,x.length ≤ 20) ∧ l.length ≤ 12 := by
 simp only [lH,Bool.and_eq_true,List.all_eq_true,decide_eq_true_eq] at h
 exact h
theorem sQ {v sv : AV} {progs : List (List aR)} {sch : List Int} (things : Int) (hv : PS w0 h v progs) (hs : SlI w0 h sv sch) (hn : progs.length ≤ 9223372036854775807) (hsn : sch.length ≤ 9223372036854775807) :
 bC Tryz.prog w0 8 [.int .i64 things,v,sv] h (.bool true) h := by
 refine cN trivial (bH aW mf8_ok mf8_b mf8_g (qE rfl) fun hb ha => bD ?_)
 have hls := (SlI.use hs).1
 simp only [go_sem,mf8]
 refine aL (lean_c hv.app hn).v ?_
 cases hL : lH progs with
 | false =>
  simp only [go_sem]
  refine aL fK.v ?_
  simp only [go_sem]
  exact aI.refl.app
 | true =>
 by_cases q1 : (sch.length : Int) > 50
 · simp only [go_sem,hls,q1]
   refine aL fK.v ?_
   simp only [go_sem]
   exact aI.refl.app
 obtain ⟨hx20,hp12⟩ := aDu hL
 simp only [go_sem,hls,q1]
 refine bE (ACall.vc (first := []) (Run_c things hv.app hs.app (by omega) (fun x hx => by have := hx20 x hx; omega) (by omega))) ?_
 rintro y H ⟨sH,hy⟩
 have sH' := (aI.refl.app).trans sH
 have vH := hv.sub sH'
 have hSch : ∀ {K : aA},aI h K → bC Tryz.prog w0 40 [sv,v] K (.bool (kY progs.length sch)) K := fun sK => yD (hs.sub sK) (hv.sub sK) (by omega) hsn
 rw [qR] at hy
 cases hlg : dY progs with
 | true =>
  rw [if_pos (.inl hlg)] at hy
  subst hy
  simp only [go_sem]
  refine aL (iT vH (by omega)).v ?_
  rw [hlg]
  simp only [go_sem]
  refine ⟨(by unfold I64; omega),aL fK.v ?_⟩
  simp only [go_sem]
  exact sH'
 | false =>
 by_cases q2 : (sch.length : Int) > 24
 · rw [if_pos (.inr (by omega))] at hy
   subst hy
   simp only [go_sem]
   refine aL (iT vH (by omega)).v ?_
   rw [hlg]
   simp only [go_sem,hls,q2]
   refine ⟨(by unfold I64; omega),aL fK.v ?_⟩
   simp only [go_sem]
   exact sH'
 rw [if_neg (by rw [hlg]; simp; omega)] at hy
 cases hok : eC things progs with
 | false =>
  rw [if_neg (by rw [hok]; simp)] at hy
  subst hy
  simp only [go_sem]
  refine aL (iT vH (by omega)).v ?_
  rw [hlg]
  simp only [go_sem,hls,q2]
  refine aL (fW things vH (by omega) (fun x hx => by have := hx20 x hx; omega)).v ?_
  rw [hok]
  simp only [go_sem]
  refine ⟨(by unfold I64; omega),aL fK.v ?_⟩
  simp only [go_sem]
  exact sH'
 | true =>
 cases hsc : kY progs.length sch with
 | false =>
  rw [if_neg (by rw [hok,hsc]; simp)] at hy
  subst hy
  simp only [go_sem]
  refine aL (iT vH (by omega)).v ?_
  rw [hlg]
  simp only [go_sem,hls,q2]
  refine aL (fW things vH (by omega) (fun x hx => by have := hx20 x hx; omega)).v ?_
  rw [hok]
  simp only [go_sem]
  refine aL (hSch sH').v ?_
  rw [hsc]
  simp only [go_sem]
  refine ⟨(by unfold I64; omega),aL fK.v ?_⟩
  simp only [go_sem]
  exact sH'
 | true =>
 rw [if_pos (by rw [hok,hsc]; rfl)] at hy
 obtain ⟨hov,dv,rfl,hho,hdd⟩ := hy
 obtain ⟨n,rfl,⟨n1,n4⟩,⟨p1,p4⟩,hg,hoks,hth⟩ := mL hok hlg
 have hsx : ∀ x ∈ sch,0 ≤ x ∧ x < progs.length := fun x hx => by
  have := List.all_eq_true.1 hsc x hx
  simp only [inB,Bool.and_eq_true,decide_eq_true_eq] at this; omega
 simp only [go_sem]
 refine aL (iT vH (by omega)).v ?_
 rw [hlg]
 simp only [go_sem,hls,q2]
 refine aL (fW n vH (by omega) (fun x hx => by have := hx20 x hx; omega)).v ?_
 rw [hok]
 simp only [go_sem]
 refine aL (hSch sH').v ?_
 rw [hsc]
 simp only [go_sem]
 refine bE (ACall.vc (first := []) (rRun_c vH (hs.sub sH') n1 n4 p1 p4 hg hth hsx (by omega))) ?_
 rintro _ H2 ⟨sH2,h2,d2,rfl,hh2,hd2⟩
 have l8 : (eM progs cI 0 sch).1.length = 8 := (sY hg p4 sch cI 0 (lK p4) hsx).len
 simp only [go_sem]
 refine aL (sZ (hho.sub sH2) hh2 (by rw [List.length_take]; omega)).v ?_
 rw [show (((eM progs cI 0 sch).1.drop 4).take (n : Int).toNat) = hoS n (eM progs cI 0 sch).1 from rfl,decide_eq_true rfl]
 simp only [go_sem]
 refine aL (sZ (hdd.sub sH2) hd2 (by rw [List.length_take]; omega)).v ?_
 rw [decide_eq_true rfl]
 simp only [go_sem]
 refine aL fK.v ?_
 simp only [go_sem]
 exact sH'.trans sH2
end Go.Proofs.Ab

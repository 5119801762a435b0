/- The own layer under the proofs of this seat, part M: what calls of the program come to on an abstract heap. No condition. -/
import Derived.Test.YtajecdfdnlfndaaGreatK
set_option linter.unusedSimpArgs false
set_option linter.unusedVariables false
namespace Go.Proofs.Ab
open Go Go.Proofs
variable {w0 : World} {h : aA}
attribute [local irreducible] ACall bC cM bG dO rvC lp rg dr ex un rv
def bA (tm : Int) : (Int → Bool) → List aF → Bool
 | _,[] => true
 | f,s :: r => (inB s.thing 0 tm && ((decide (s.kind = 1) || decide (s.kind = 2)) && decide (f s.thing = decide (s.kind = 2)))) && bA tm (fun x => if x = s.thing then decide (s.kind = 1) else f x) r
theorem fZ (tm : Int) : ∀ (l : List aF) (f g : Int → Bool),(∀ x,f x = g x) → bA tm f l = bA tm g l := fun l f g e => by rw [funext e]
def dR (things : Int) (l : List (List aF)) : Bool := l.all (bA (wi (things - 1)) fun _ => false) && (inB things 1 4 && inB l.length 1 4)
theorem iF {x : List aF} {j : Nat} (hj : j < x.length) : (x.map aF.c)[j]? = some x[j].c := by rw [List.getElem?_map,qA hj]; rfl
theorem qQ {v : AV} {l : List (List aF)} (things : Int) (hv : PS w0 h v l) (hn : l.length < 1000000) (hn2 : ∀ x ∈ l,x.length < 1000000) : bG Tryz.prog w0 84 [.int .i64 things,v] h (.bool (dR things l)) h := by
 refine aX aW xG aBD aBC (qE rfl) (by simp [AV.bdd,AV.bdds]) fun hb ha => bF ?_
 have hlen := hv.len
 have vb := NS.bdd hv (Nat.le_refl _)
 simp only [go_sem,mf84,hlen]
 refine gU (fun j => [(0,.int .i64 things),(1,v),(10,v),(11,.int .i64 l.length),(12,.int .i64 j)]) (fun j => bA (wi (things - 1)) (fun _ => false) (l.getD j []) = true) l.length rfl (fun j hj hall ih => ?_) (fun hall => ?_)
 · refine aT aW yZ [0,1,10,11,12] L84_1.eq_1 ?_
   have e1 : (j : Int) < l.length := by omega
   obtain ⟨p,sv,i1,r1,r1',hs⟩ := hv.at_ hj
   obtain ⟨x,hx⟩ : ∃ x,x = l[j] := ⟨_,rfl⟩
   have hxm : x ∈ l := hx ▸ qG hj
   have hxl := hn2 x hxm
   rw [← hx] at hs
   rw [getD_at hj,← hx] at ih
   have hls : gA sv = some (.int .i64 x.length) := by have := hs.use.1; rwa [List.length_map] at this
   have sb := hs.bdd (Nat.le_refl _)
   simp only [go_sem,e1,i1,r1,r1',hls]
   have no : bA (wi (things - 1)) (fun _ => false) x = false → dR things l = false := fun e => by
    rw [dR,List.all_eq_false.2 ⟨x,hxm,by simp [e]⟩]; rfl
   refine cU (S := Nat × List (Int × Bool)) (F := fun s => [(0,.int .i64 things),(1,v),(7,.map h.length),(10,v),(11,.int .i64 l.length),(12,.int .i64 j),(17,sv),(18,.int .i64 x.length),(19,.int .i64 s.1)])
    (H := fun s => h ++ [some (.map (gG s.2))]) (meas := fun s => x.length - s.1) (Inv := fun s => s.1 ≤ x.length ∧ bA (wi (things - 1)) (fun _ => false) x = bA (wi (things - 1)) (gJ s.2) (x.drop s.1)) (0,[]) ⟨Nat.zero_le _,rfl⟩ rfl rfl ?_
   rintro ⟨k,M⟩ ⟨hk,hM⟩ ih2
   simp only at hk hM ih2 ⊢
   refine aT aW aFE [0,1,7,10,11,12,17,18,19] L84_0.eq_1 ?_
   by_cases hkl : k < x.length
   · have e2 : (k : Int) < x.length := by omega
     obtain ⟨_,q,hix,hrow,_⟩ := hs.use
     rw [List.length_map] at hix
     have e3 := hix k hkl
     have e4 : ∀ L,rdn w0 (h ++ L) (q.add (k * 2)) 2 = some x[k].c := fun L => dY (hrow k _ (iF hkl))
     obtain ⟨s,hsk⟩ : ∃ s,s = x[k] := ⟨_,rfl⟩
     rw [List.drop_eq_getElem_cons hkl,← hsk,bA] at hM
     rw [← hsk] at e4
     have lk : ∀ L,lZ (h ++ (some (.map (gG M)) :: L)) (false,[true]) (.bool false) false (.map h.length) (.int .i64 s.thing) = some (.bool (gJ M s.thing)) := fun L => look_B (by rw [qI (Nat.le_refl _),Nat.sub_self]; rfl) s.thing
     have pk : ∀ L b,jI (h ++ (some (.map (gG M)) :: L)) (false,[true]) (.map h.length) (.int .i64 s.thing) (.bool b) = some (.undef,h ++ (some (.map (gG (jE M s.thing b))) :: L)) := fun L b => by
      rw [mput_B (by rw [qI (Nat.le_refl _),Nat.sub_self]; rfl),List.set_append_right _ _ (Nat.le_refl _),Nat.sub_self]; rfl
     have go : ∀ b,b = decide (s.kind = 1) → bA (wi (things - 1)) (fun y => if y = s.thing then decide (s.kind = 1) else gJ M y) (x.drop (k + 1)) = bA (wi (things - 1)) (gJ (jE M s.thing b)) (x.drop (k + 1)) := fun b e => fZ _ _ _ _ fun y => by rw [tL,e]
     simp only [go_sem,e2,e3,e4]
     refine aI (in_c s.thing 0 (wi (things - 1))).v ?_
     cases c1 : inB s.thing 0 (wi (things - 1)) with
     | false =>
      simp only [go_sem]
      rw [no (by rw [hM,c1]; rfl)]
     | true =>
     have hbE : ∀ {N : Nat} (M : List (Int × Bool)),Blk.bdd N (.map (gG M)) := fun M e he => by
      simp only [gG,List.mem_map] at he
      obtain ⟨m,_,rfl⟩ := he
      exact ⟨trivial,trivial⟩
     by_cases k1 : s.kind = 1
     · cases c2 : gJ M s.thing with
       | true =>
        simp only [go_sem,k1,lk,c2]
        rw [no (by rw [hM,c1,c2,k1]; rfl)]
       | false =>
        have hM' : bA (wi (things - 1)) (fun _ => false) x = bA (wi (things - 1)) (gJ (jE M s.thing true)) (x.drop (k + 1)) := by
         rw [hM,← go true (by simp [k1]),c1,c2,k1]; simp
        simp only [go_sem,k1,lk,c2,pk]
        refine ⟨(by unfold I64; omega),mT 1 hb (by simp [fO,fP,hJ,hO,kC,gN,AV.bdds,AV.bdd,Pl.bdd,eN]; exact hbE _) (by simp [fO,fP,hJ,hO,kC,gN,AV.bdds,AV.bdd,Pl.bdd,eN]; exact ⟨AV.bdd_mono (by omega) _ vb,AV.bdd_mono (by omega) _ sb⟩) ?_⟩
        exact ih2 (k + 1,jE M s.thing true) ⟨by simp only; omega,hM'⟩ (by simp only; omega)
     · by_cases k2 : s.kind = 2
       · cases c2 : gJ M s.thing with
         | false =>
          simp only [go_sem,k2,lk,c2]
          rw [no (by rw [hM,c1,c2,k2]; rfl)]
         | true =>
          have hM' : bA (wi (things - 1)) (fun _ => false) x = bA (wi (things - 1)) (gJ (jE M s.thing false)) (x.drop (k + 1)) := by
           rw [hM,← go false (by simp [k2]),c1,c2,k2]; simp
          simp only [go_sem,k2,lk,c2,pk]
          refine ⟨(by unfold I64; omega),mT 1 hb (by simp [fO,fP,hJ,hO,kC,gN,AV.bdds,AV.bdd,Pl.bdd,eN]; exact hbE _) (by simp [fO,fP,hJ,hO,kC,gN,AV.bdds,AV.bdd,Pl.bdd,eN]; exact ⟨AV.bdd_mono (by omega) _ vb,AV.bdd_mono (by omega) _ sb⟩) ?_⟩
          exact ih2 (k + 1,jE M s.thing false) ⟨by simp only; omega,hM'⟩ (by simp only; omega)
       · simp only [go_sem,k1,k2]
         rw [no (by rw [hM,decide_eq_false k1,decide_eq_false k2]; simp)]
   · have e2 : ¬ (k : Int) < x.length := by omega
     obtain rfl : k = x.length := by omega
     rw [List.drop_length] at hM
     simp only [go_sem,e2]
     refine ⟨(by unfold I64; omega),mT 0 hb (by simp [HBs]) (by simp [fO,fP,hJ,hO,kC,gN,AV.bdds,AV.bdd,Pl.bdd,eN]; exact vb) ?_⟩
     simpa using ih hM
 · refine aT aW yZ [0,1,10,11,12] L84_1.eq_1 ?_
   have e1 : ¬ (l.length : Int) < l.length := by omega
   have hA : l.all (bA (wi (things - 1)) fun _ => false) = true := by rw [← nM [],List.all_eq_true]; exact fun j hj => hall j (List.mem_range.1 hj)
   simp only [go_sem,e1]
   refine aI (in_c things 1 4).v ?_
   cases c1 : inB things 1 4 with
   | false => simp only [go_sem]; simp [dR,c1]
   | true =>
   simp only [go_sem,hlen]
   refine aI (in_c l.length 1 4).v ?_
   simp only [go_sem]
   simp [dR,c1,hA]
theorem uV {x : AV} {a : List Int} (n : Int) (hx : SlI w0 h x a) (hn : a.length < 1000000) : bG Tryz.prog w0 46 [x,.int .i64 n] h (.bool (decide (n ∈ a))) h := by
 refine aX aW aDT mf46_b mf46_g (qE rfl) (by simp [AV.bdd,AV.bdds]) fun hb ha => bF ?_
 have la := (SlI.use hx).1
 simp only [go_sem,mf46]
 refine gU (fun j => [(0,x),(1,.int .i64 n),(5,.int .i64 j)]) (fun j => a[j]? ≠ some n) a.length rfl (fun j hj hall ih => ?_) (fun hall => ?_)
 · refine aT aW zA [0,1,5] L46_0.eq_1 ?_
   have e1 : (j : Int) < a.length := by omega
   obtain ⟨p,i1,r1,r1'⟩ := hx.at_ hj
   by_cases q : a[j] = n
   · have : n ∈ a := q ▸ qG hj
     simp only [go_sem,la,e1,i1,r1,r1',q]
     rw [decide_eq_true this]
   · simp only [go_sem,la,e1,i1,r1,r1',q]
     exact ⟨(by unfold I64; omega),ih (by rw [qA hj]; simpa using q)⟩
 · refine aT aW zA [0,1,5] L46_0.eq_1 ?_
   have e1 : ¬ (a.length : Int) < a.length := by omega
   have : ¬ n ∈ a := fun hm => by
    obtain ⟨i,hi,e⟩ := List.getElem_of_mem hm
    exact hall i hi (by rw [qA hi,e])
   simp only [go_sem,la,e1]
   rw [decide_eq_false this]
theorem Gro.base {H X : aA} {es n : Nat} {ov : AV} {vs : List AV} (g : Gro X H es n ov vs) (s : aE h X) : Gro h H es n ov vs := by
 refine ⟨s.trans g.sub,?_⟩
 rcases g.own with h1 | ⟨io,h1,h2⟩
 · exact .inl h1
 · exact .inr ⟨io,Nat.le_trans s.1 h1,h2⟩
theorem lW {v : AV} {l : List (List aF)} (things : Int) (hv : PS w0 h v l) (hn : l.length < 1000000) (hn2 : ∀ x ∈ l,x.length ≤ 1000) : bG Tryz.prog w0 35 [.int .i64 things,v] h (.bool (dR things l)) h := by
 refine dD trivial (bH aW aDX mf35_b mf35_g (qE rfl) fun hb ha => bF ?_)
 simp only [go_sem,mf35]
 refine cU (S := Nat × aA) (F := fun s => [(0,.int .i64 things),(1,v),(5,.int .i64 s.1)]) (H := fun s => s.2) (meas := fun s => l.length - s.1)
  (Inv := fun s => s.1 ≤ l.length ∧ aE h s.2 ∧ ∀ i,i < s.1 → bA (wi (things - 1)) (fun _ => false) (l.getD i []) = true) (0,h) ⟨Nat.zero_le _,aE.refl,fun i hi => by simp at hi⟩ rfl (by simp) ?_
 rintro ⟨j,H⟩ ⟨hj,sH,hall⟩ ih
 simp only at hj sH hall ih ⊢
 refine aT aW aFN [0,1,5] L35_2.eq_1 ?_
 have hlen := (hv.sub sH).len
 by_cases hjl : j < l.length
 · have e1 : (j : Int) < l.length := by omega
   obtain ⟨x,hx⟩ : ∃ x,x = l[j] := ⟨_,rfl⟩
   have hxm : x ∈ l := hx ▸ qG hjl
   have hxl := hn2 x hxm
   simp only [go_sem,hlen,e1]
   have no : bA (wi (things - 1)) (fun _ => false) x = false → dR things l = false := fun e => by
    rw [dR,List.all_eq_false.2 ⟨x,hxm,by simp [e]⟩]; rfl
   refine cU (S := Nat × aA × AV × List Int) (F := fun s => [(0,.int .i64 things),(1,v),(5,.int .i64 j),(6,s.2.2.1),(7,.int .i64 s.1)])
    (H := fun s => s.2.1) (meas := fun s => x.length - s.1) (Inv := fun s => s.1 ≤ x.length ∧ Gro h s.2.1 1 s.2.2.2.length s.2.2.1 (aK s.2.2.2) ∧ s.2.2.2.length ≤ s.1 ∧ bA (wi (things - 1)) (fun _ => false) x = bA (wi (things - 1)) (fun y => decide (y ∈ s.2.2.2)) (x.drop s.1)) (0,H,.nilS,[]) ⟨Nat.zero_le _,Gro.nil sH,Nat.le_refl _,by simp⟩ rfl rfl ?_
   rintro ⟨k,G,hvv,held⟩ ⟨hk,hG,hhl,hM⟩ ih2
   simp only at hk hG hhl hM ih2 ⊢
   have sG := hG.sub
   obtain ⟨p,sv,i1,r1,r1',hs⟩ := (hv.sub sG).at_ hjl
   rw [← hx] at hs
   have hls : gA sv = some (.int .i64 x.length) := by have := hs.use.1; rwa [List.length_map] at this
   refine aT aW aFO [0,1,5,6,7] L35_1.eq_1 ?_
   by_cases hkl : k < x.length
   · have e2 : (k : Int) < x.length := by omega
     obtain ⟨_,q,hix,hrow,_⟩ := hs.use
     rw [List.length_map] at hix
     have e3 := hix k hkl
     have e4 : ∀ L,rdn w0 (G ++ L) (q.add (k * 2)) 2 = some x[k].c := fun L => dY (hrow k _ (iF hkl))
     have e4' := hrow k _ (iF hkl)
     obtain ⟨s,hsk⟩ : ∃ s,s = x[k] := ⟨_,rfl⟩
     rw [List.drop_eq_getElem_cons hkl,← hsk,bA] at hM
     rw [← hsk] at e4 e4'
     have hL : SlI w0 G hvv held := hG.sli rfl
     simp only [go_sem,e2,i1,r1,r1',hls,e3,e4,e4']
     refine aCI aW [0,1,2,3,4,5,6,7,8,9,10,11,12,13,14,15,16,17,18,19,20,21,22,23,24,25] [o_ 33 (.addr (.t 8) 1),o_ 34 (l_ 33),o_ 35 (m_ 0),o_ 36 (.bin .sub (.t 35) (i_ 1)),.call (some 37) none (f_ 82) [(.t 34),(i_ 0),(.t 36)],o_ 38 (.un .not (.t 37)),o_ 39 (m_ 38),q_ 40 39 false (.addr (.t 8) 0),q_ 41 39 false (l_ 40),q_ 42 39 false (.bin .neq (.t 41) (i_ 1)),q_ 43 39 false (m_ 42),q_ 44 43 true (.addr (.t 8) 0),q_ 45 43 true (l_ 44),q_ 46 43 true (.bin .neq (.t 45) (i_ 2)),q_ 47 39 false (.pick (.t 43) (.t 46) (.k (.bool false))),o_ 48 (.pick (.t 39) (.k (.bool true)) (.t 47)),o_ 49 (m_ 48),q_ 50 49 false (.addr (.t 8) 0),q_ 51 49 false (l_ 50),q_ 52 49 false (.bin .eql (.t 51) (i_ 1)),q_ 53 49 false (m_ 6),q_ 54 49 false (.addr (.t 8) 1),q_ 55 49 false (l_ 54),.call (some 56) (some (49,false)) (f_ 46) [(.t 53),(.t 55)]] [([(18,q_ 51 49 false (l_ 50))],[q_ 57 49 false (.eqb false (.t 52) (.t 56)),o_ 58 (.pick (.t 49) (.k (.bool true)) (.t 57))])] rfl rfl (by kernel_rfl) ?_
     simp only [go_sem]
     refine aI (aA9 s.thing 0 (wi (things - 1))).v ?_
     cases c1 : inB s.thing 0 (wi (things - 1)) with
     | false =>
      simp only [go_sem]
      exact ⟨sG.app,by rw [no (by rw [hM,c1]; rfl)]⟩
     | true =>
     by_cases k1 : s.kind = 1
     · simp only [go_sem,k1]
       refine aI (uV s.thing (Sl.app hL) (by omega)).v ?_
       cases c2 : decide (s.thing ∈ held) with
       | true =>
        simp only [go_sem]
        exact ⟨sG.app,by rw [no (by rw [hM]; simp [c1,k1,of_decide_eq_true c2])]⟩
       | false =>
        have c3 : ¬ s.thing ∈ held := of_decide_eq_false c2
        simp only [go_sem]
        obtain ⟨Y,eY⟩ : ∃ Y,Y = G ++ [some (Blk.row [.int .i64 1,.int .i64 s.thing]),some (.row [.int .i64 s.thing])] := ⟨_,rfl⟩
        have gY : Gro h Y 1 held.length hvv (aK held) := eY ▸ hG.app
        have hkk : Y[G.length + 1]? = some (some (.row [.int .i64 s.thing])) := by rw [eY,qI (by omega)]; simp
        obtain ⟨G2,e5,e6⟩ := gY.more (w0 := w0) (b := 8) (f := true) hkk rfl rfl (by omega) (by omega)
        rw [← eY,e5]
        simp only [go_sem]
        refine ⟨(by unfold I64; omega),ih2 (k + 1,G2,_,held ++ [s.thing]) ⟨by simp only; omega,?_,by simp only [List.length_append,List.length_singleton]; omega,?_⟩ (by simp only; omega)⟩
        · simpa [aK] using e6
        · rw [hM]
          simp only [c1,k1,c3,decide_true,decide_false,Bool.true_or,Bool.and_self,Bool.true_and]
          rw [show decide (false = decide ((1 : Int) = 2)) = true from rfl,Bool.true_and]
          refine fZ _ _ _ _ fun y => ?_
          by_cases e : y = s.thing <;> simp [e]
     · by_cases k2 : s.kind = 2
       · simp only [go_sem,k2]
         refine aI (uV s.thing (Sl.app hL) (by omega)).v ?_
         cases c2 : decide (s.thing ∈ held) with
         | false =>
          simp only [go_sem]
          exact ⟨sG.app,by rw [no (by rw [hM]; simp [c1,k2,of_decide_eq_false c2])]⟩
         | true =>
          have c3 : s.thing ∈ held := of_decide_eq_true c2
          simp only [go_sem]
          obtain ⟨X,eX⟩ : ∃ X,X = G ++ [some (Blk.row [.int .i64 2,.int .i64 s.thing])] := ⟨_,rfl⟩
          have sX : aE G X := eX ▸ aE.refl.app
          have x8 : X[G.length]? = some (some (.row [.int .i64 2,.int .i64 s.thing])) := by rw [eX,qI (Nat.le_refl _),Nat.sub_self]; rfl
          rw [← eX]
          refine cU (S := Nat × aA × AV) (F := fun t => [(0,.int .i64 things),(1,v),(5,.int .i64 j),(6,hvv),(7,.int .i64 k),(8,.ptr (.own G.length 0)),(9,t.2.2),(10,.int .i64 t.1)]) (H := fun t => t.2.1) (meas := fun t => held.length - t.1)
           (Inv := fun t => t.1 ≤ held.length ∧ Gro X t.2.1 1 ((held.take t.1).filter (· ≠ s.thing)).length t.2.2 (aK ((held.take t.1).filter (· ≠ s.thing)))) (0,X,.nilS) ⟨Nat.zero_le _,by simpa [aK] using Gro.nil aE.refl⟩ rfl rfl ?_
          rintro ⟨i,T,rv⟩ ⟨hi,hT⟩ ih3
          simp only at hi hT ih3 ⊢
          refine aT aW aFP [0,1,5,6,7,8,9,10] L35_0.eq_1 ?_
          have hLT := Sl.sub hL (sX.trans hT.sub)
          have hll := (SlI.use hLT).1
          by_cases hil : i < held.length
          · have e6 : (i : Int) < held.length := by omega
            obtain ⟨pp,i2,r2,r2'⟩ := SlI.at_ hLT hil
            have x8T := hT.sub.2 _ _ x8
            have x8L := xL x8T
            have hfl : ((held.take i).filter (· ≠ s.thing)).length ≤ held.length := Nat.le_trans (List.length_filter_le _ _) (by rw [List.length_take]; omega)
            by_cases q1 : held[i] = s.thing
            · simp only [go_sem,hll,e6,i2,r2,r2',x8T,x8L,q1,bne_self_eq_false]
              refine ⟨(by unfold I64; omega),ih3 (i + 1,T,rv) ⟨by simp only; omega,?_⟩ (by simp only; omega)⟩
              rw [List.take_succ_eq_append_getElem hil,List.filter_append]
              simpa [q1] using hT
            · have q2 : (held[i] != s.thing) = true := by simpa using q1
              simp only [go_sem,hll,e6,i2,r2,r2',x8T,x8L,q2]
              obtain ⟨Y,eY⟩ : ∃ Y,Y = T ++ [some (Blk.row [.int .i64 held[i]])] := ⟨_,rfl⟩
              have gY := hT.app (L := [some (Blk.row [.int .i64 held[i]])])
              rw [← eY] at gY
              have hkk : Y[T.length]? = some (some (.row [.int .i64 held[i]])) := by rw [eY,qI (Nat.le_refl _),Nat.sub_self]; rfl
              obtain ⟨G2,e7,e8⟩ := gY.more (w0 := w0) (b := 8) (f := true) hkk rfl rfl (by omega) (by omega)
              rw [← eY,e7]
              simp only [go_sem]
              refine ⟨(by unfold I64; omega),ih3 (i + 1,G2,_) ⟨by simp only; omega,?_⟩ (by simp only; omega)⟩
              rw [List.take_succ_eq_append_getElem hil,List.filter_append]
              simpa [q1,aK] using e8
          · have e6 : ¬ (i : Int) < held.length := by omega
            obtain rfl : i = held.length := by omega
            rw [List.take_length] at hT
            simp only [go_sem,hll,e6]
            refine ⟨(by unfold I64; omega),ih2 (k + 1,T,rv,held.filter (· ≠ s.thing)) ⟨by simp only; omega,hT.base (sG.trans sX),by simp only; exact Nat.le_trans (List.length_filter_le _ _) (by omega),?_⟩ (by simp only; omega)⟩
            rw [hM]
            simp only [c1,k2,c3,decide_true,Bool.or_true,Bool.and_self,Bool.true_and]
            refine fZ _ _ _ _ fun y => ?_
            by_cases e : y = s.thing <;> simp [e]
       · simp only [go_sem,k1,k2]
         exact ⟨sG.app,by rw [no (by rw [hM]; simp [k1,k2])]⟩
   · have e2 : ¬ (k : Int) < x.length := by omega
     obtain rfl : k = x.length := by omega
     rw [List.drop_length] at hM
     simp only [go_sem,e2,i1,r1,r1',hls]
     refine ⟨(by unfold I64; omega),ih (j + 1,G) ⟨by simp only; omega,sG,fun i hi => ?_⟩ (by simp only; omega)⟩
     by_cases hij : i < j
     · exact hall i hij
     · obtain rfl : i = j := by simp only at hi; omega
       rw [getD_at hjl,← hx]; exact hM
 · have e1 : ¬ (j : Int) < l.length := by omega
   obtain rfl : j = l.length := by omega
   have hA : l.all (bA (wi (things - 1)) fun _ => false) = true := by rw [← nM [],List.all_eq_true]; exact fun j hj => hall j (List.mem_range.1 hj)
   simp only [go_sem,hlen,e1]
   refine aI (aA9 things 1 4).v ?_
   cases c1 : inB things 1 4 with
   | false => simp only [go_sem]; exact ⟨sH,by simp [dR,c1]⟩
   | true =>
   simp only [go_sem,hlen]
   refine aI (aA9 l.length 1 4).v ?_
   simp only [go_sem]
   exact ⟨sH,by simp [dR,c1,hA]⟩
def qT (n : Nat) : List Int := List.replicate n (-1)
theorem free_c : bG Tryz.prog w0 85 [] h (.agg (aK (qT 4))) h := by
 refine dD (by simp [AV.bdd]) (bH aW xF aBB aBA (qE rfl) fun hb ha => bF ?_)
 simp only [go_sem,mf85]
 iterate 4
  refine aT aW yY [0,1,3] L85_0.eq_1 ?_
  simp only [go_sem]
  try refine ⟨(by unfold I64; omega),?_⟩
 refine aT aW yY [0,1,3] L85_0.eq_1 ?_
 simp only [go_sem]
 exact ⟨aE.refl.app,rfl⟩
theorem aBm (n : Nat) (hn : n ≤ 1000) : ACall Tryz.prog w0 53 [.int .i64 n] h fun y H => Gro h H 1 n y (aK (qT n)) := by
 refine bH aW aDR mf53_b mf53_g (qE rfl) fun hb ha => bF ?_
 simp only [go_sem,mf53]
 refine cU (S := Nat × aA × AV) (F := fun s => [(0,.int .i64 n),(3,s.2.2),(4,.int .i64 s.1)]) (H := fun s => s.2.1) (meas := fun s => n - s.1) (Inv := fun s => s.1 ≤ n ∧ Gro h s.2.1 1 s.1 s.2.2 (aK (qT s.1))) (0,h,.nilS) ⟨Nat.zero_le _,by simpa [aK,qT] using Gro.nil aE.refl⟩ rfl (by simp) ?_
 rintro ⟨j,H,ov⟩ ⟨hj,hG⟩ ih
 simp only at hj hG ih ⊢
 refine aT aW aFF [0,3,4] L53_0.eq_1 ?_
 by_cases hjl : j < n
 · have e1 : (j : Int) < n := by omega
   simp only [go_sem,e1]
   obtain ⟨Y,eY⟩ : ∃ Y,Y = H ++ [some (Blk.row [.int .i64 (-1)])] := ⟨_,rfl⟩
   have gY : Gro h Y 1 j ov (aK (qT j)) := eY ▸ hG.app
   have hkk : Y[H.length]? = some (some (.row [.int .i64 (-1)])) := by rw [eY,qI (Nat.le_refl _),Nat.sub_self]; rfl
   obtain ⟨G2,e5,e6⟩ := gY.more (w0 := w0) (b := 8) (f := true) hkk rfl rfl (by omega) (by omega)
   rw [← eY,e5]
   simp only [go_sem]
   refine ⟨(by unfold I64; omega),ih (j + 1,G2,_) ⟨by simp only; omega,?_⟩ (by simp only; omega)⟩
   rw [qT,List.replicate_succ']
   simpa [aK,qT] using e6
 · have e1 : ¬ (j : Int) < n := by omega
   obtain rfl : j = n := by omega
   simp only [go_sem,e1]
   exact hG
def stepS (progs : List (List aF)) (st : List Int) (who : Nat) : Option aF := (progs.getD who [])[(st.getD who 0).toNat]?
def aY (progs : List (List aF)) (st : List Int) (who : Nat) : Option (List Int) := match stepS progs st who with
 | none => none
 | some s => if s.kind = 1 ∧ st.getD (4 + s.thing.toNat) 0 ≠ -1 then none else some ((st.set who (st.getD who 0 + 1)).set (4 + s.thing.toNat) (if s.kind = 1 then (who : Int) else -1))
def lF (progs : List (List aF)) : Prop := ∀ x ∈ progs,x.length ≤ 6 ∧ ∀ s ∈ x,(0 ≤ s.thing ∧ s.thing < 4) ∧ (s.kind = 1 ∨ s.kind = 2)
structure lE (progs : List (List aF)) (st : List Int) : Prop where
 len : st.length = 8
 done : ∀ i,i < progs.length → 0 ≤ st.getD i 0 ∧ st.getD i 0 ≤ (progs.getD i []).length
theorem kS {l : List Int} {i : Nat} (h : i < l.length) : (aK l)[i]? = some (.int .i64 (l.getD i 0)) := by rw [aCw,qA h,getD_at h]; rfl
def fA (o : Option aF) : List AV := match o with
 | some s => [.agg s.c,.bool true]
 | none => [.agg [.int .i64 0,.int .i64 0],.bool false]
theorem pV {v : AV} {progs : List (List aF)} {st : List Int} {who : Nat} (hv : PS w0 h v progs) (hs : lE progs st) (hw : who < progs.length) (hp : progs.length ≤ 4) :
 bG Tryz.prog w0 89 [.agg (aK st),v,.int .i64 who] h (.tup (fA (stepS progs st who))) h := by
 have hbv : ∀ N,(AV.tup (fA (stepS progs st who))).bdd N := fun N => by unfold fA; split <;> simp [AV.bdd,AV.bdds,aF.c]
 refine dD (hbv _) (bH aW xB aBt aBs (qE rfl) fun hb ha => bF ?_)
 have hl8 := hs.len
 have c1 : (aK st).length = 8 := by rw [cF,hl8]
 have c2 := kS (l := st) (i := who) (by omega)
 have hw4 : who < 4 := by omega
 obtain ⟨p,sv,i1,r1,r1',hx⟩ := hv.at_ hw
 obtain ⟨d1,d2⟩ := hs.done who hw
 rw [getD_at hw] at d2
 have hls : gA sv = some (.int .i64 progs[who].length) := by have := hx.use.1; rwa [List.length_map] at this
 obtain ⟨d,hd⟩ : ∃ d : Nat,st.getD who 0 = d := ⟨(st.getD who 0).toNat,by omega⟩
 rw [hd] at c2 d2
 have hst : stepS progs st who = progs[who][d]? := by rw [stepS,getD_at hw,hd]; rfl
 rw [hst]
 by_cases q : d = progs[who].length
 · have e1 : (d : Int) = progs[who].length := by omega
   have e2 : progs[who][d]? = none := List.getElem?_eq_none (by omega)
   simp only [go_sem,mf89,bQ,c1,Nat.mul_one,c2,hw4,i1,r1,r1',hls,e1]
   rw [e2]
   exact ⟨aE.refl.app,rfl⟩
 · have hdl : d < progs[who].length := by omega
   have e1 : ¬ (d : Int) = progs[who].length := by omega
   have e2 : progs[who][d]? = some progs[who][d] := qA hdl
   obtain ⟨_,q2,hix,hrow,_⟩ := hx.use
   rw [List.length_map] at hix
   have e3 := hix d hdl
   have e4 : ∀ L,rdn w0 (h ++ L) (q2.add (d * 2)) 2 = some progs[who][d].c := fun L => dY (hrow d _ (iF hdl))
   simp only [go_sem,mf89,bQ,c1,Nat.mul_one,c2,hw4,i1,r1,r1',hls,e1,e3,e4]
   rw [e2]
   exact ⟨aE.refl.app,rfl⟩
def oJ (o : Option (List Int)) (st : List Int) : List AV := match o with
 | some s => [.agg (aK s),.bool true]
 | none => [.agg (aK st),.bool false]
theorem aFz {v : AV} {progs : List (List aF)} {st : List Int} {who : Nat} (hv : PS w0 h v progs) (hg : lF progs) (hs : lE progs st) (hw : who < progs.length) (hp : progs.length ≤ 4) :
 bG Tryz.prog w0 88 [.agg (aK st),v,.int .i64 who] h (.tup (oJ (aY progs st who) st)) h := by
 have hbv : ∀ N,(AV.tup (oJ (aY progs st who) st)).bdd N := fun N => by unfold oJ; split <;> simp [AV.bdd,AV.bdds]
 refine dD (hbv _) (bH aW xC aBv aBu (qE rfl) fun hb ha => bF ?_)
 have hl8 := hs.len
 have c1 : (aK st).length = 8 := by rw [cF,hl8]
 have hw4 : who < 4 := by omega
 have t8 : (aK st).take 8 = aK st := List.take_of_length_le (by omega)
 have d8 : (aK st).drop 8 = [] := List.drop_of_length_le (by omega)
 simp only [go_sem,mf88,bQ,c1,t8,List.drop_zero]
 refine aI (pV hv.app hs hw hp).v ?_
 cases hst : stepS progs st who with
 | none =>
  have hn : aY progs st who = none := by rw [aY,hst]
  simp only [go_sem,fA,bQ,c1,t8,d8,List.drop_zero,List.take_zero,List.nil_append,List.append_nil]
  rw [hn]
  exact ⟨aE.refl.app,rfl⟩
 | some s =>
  obtain ⟨hth,hki⟩ : (0 ≤ s.thing ∧ s.thing < 4) ∧ (s.kind = 1 ∨ s.kind = 2) := by
   rw [stepS,getD_at hw] at hst
   exact (hg _ (qG hw)).2 s (List.mem_of_getElem? hst)
  obtain ⟨t,ht⟩ : ∃ t : Nat,s.thing = t := ⟨s.thing.toNat,by omega⟩
  have ht4 : t < 4 := by omega
  have c2 := kS (l := st) (i := who) (by omega)
  have c3 := kS (l := st) (i := 4 + t) (by omega)
  obtain ⟨d1,d2⟩ := hs.done who hw
  have d3 := (hg _ (qG hw)).1
  rw [getD_at hw] at d2
  have hd0 : I64 (st.getD who 0 + 1) := by unfold I64; omega
  have c4 : who + 1 ≤ (aK st).length := by omega
  have sp : ∀ (l : List Int) (i : Nat) (x : Int),l.length = 8 → i < 8 → (aK l).take i ++ .int .i64 x :: (aK l).drop (i + 1) = aK (l.set i x) := fun l i x h1 h2 => by
   rw [kF (by rw [cF]; omega)]; simp [aK,List.map_set]
  obtain ⟨s1,es1⟩ : ∃ s1,s1 = st.set who (st.getD who 0 + 1) := ⟨_,rfl⟩
  have l1 : s1.length = 8 := by rw [es1,List.length_set,hl8]
  have z1 := sp st who (st.getD who 0 + 1) hl8 (by omega)
  rw [← es1] at z1
  obtain ⟨s2,es2⟩ : ∃ s2,s2 = s1.set (4 + t) (-1) := ⟨_,rfl⟩
  have l2 : s2.length = 8 := by rw [es2,List.length_set,l1]
  have z2 := sp s1 (4 + t) (-1) l1 (by omega)
  rw [← es2,Nat.add_assoc] at z2
  have z3 := sp s2 (4 + t) who l2 (by omega)
  rw [es2,List.set_set,← es2,Nat.add_assoc] at z3
  obtain ⟨s3,es3⟩ : ∃ s3,s3 = s1.set (4 + t) who := ⟨_,rfl⟩
  have l3 : s3.length = 8 := by rw [es3,List.length_set,l1]
  rw [← es3] at z3
  have m1 : (aK s1).length = 8 := by rw [cF,l1]
  have m2 : (aK s2).length = 8 := by rw [cF,l2]
  have m3 : (aK s3).length = 8 := by rw [cF,l3]
  have u2 : (aK s2).take 8 = aK s2 := List.take_of_length_le (by omega)
  have u3 : (aK s3).take 8 = aK s3 := List.take_of_length_le (by omega)
  have v2 : (aK s2).drop 8 = [] := List.drop_of_length_le (by omega)
  have v3 : (aK s3).drop 8 = [] := List.drop_of_length_le (by omega)
  have t9 : 4 + (t + 1) ≤ 8 := by omega
  by_cases k1 : s.kind = 1
  · by_cases q : st.getD (4 + t) 0 = -1
    · have hn : aY progs st who = some s3 := by
       rw [aY,hst]; simp only [ht,Int.toNat_natCast]; rw [if_neg (fun x => x.2 q),if_pos k1,← es1,es3]
      simp only [go_sem,fA,bQ,c1,t8,List.drop_zero,k1,ht,gT,ht4,Nat.mul_one,c3,q,c2,hw4,c4,z1,m1,t9,z2,m2,z3,m3,u3,v3,List.take_zero,List.nil_append,List.append_nil]
      refine ⟨hd0,by omega,?_⟩
      rw [hn]
      exact ⟨aE.refl.app,rfl⟩
    · have hn : aY progs st who = none := by
       rw [aY,hst]; simp only [ht,Int.toNat_natCast]; rw [if_pos ⟨k1,q⟩]
      have q' : (st.getD (4 + t) 0 != -1) = true := by simpa using q
      simp only [go_sem,fA,bQ,c1,t8,d8,List.drop_zero,List.take_zero,List.nil_append,List.append_nil,k1,ht,gT,ht4,Nat.mul_one,c3,q']
      rw [hn]
      exact ⟨aE.refl.app,rfl⟩
  · have k2 : s.kind = 2 := by omega
    have hn : aY progs st who = some ((st.set who (st.getD who 0 + 1)).set (4 + t) (-1)) := by
     rw [aY,hst]; simp only [ht,Int.toNat_natCast]; rw [if_neg (fun x => k1 x.1),if_neg k1]
    rw [← es1,← es2] at hn
    simp only [go_sem,fA,bQ,c1,t8,List.drop_zero,k2,ht,gT,ht4,Nat.mul_one,c3,c2,hw4,c4,z1,m1,t9,z2,m2,u2,v2,List.take_zero,List.nil_append,List.append_nil]
    refine ⟨hd0,by omega,?_⟩
    rw [hn]
    exact ⟨aE.refl.app,rfl⟩
def dX (progs : List (List aF)) : List Int → Int → List Int → List Int × Int
 | st,_,[] => (st,-1)
 | st,i,w :: r => match aY progs st w.toNat with
  | none => (st,i)
  | some s => dX progs s (i + 1) r
theorem nQ {progs : List (List aF)} {st s : List Int} {who : Nat} (hg : lF progs) (hs : lE progs st) (hw : who < progs.length) (hp : progs.length ≤ 4) (e : aY progs st who = some s) : lE progs s := by
 rw [aY] at e
 cases hst : stepS progs st who with
 | none => rw [hst] at e; cases e
 | some x =>
  rw [hst] at e
  simp only at e
  split at e
  · cases e
  · cases e
    have hx := hst
    rw [stepS,getD_at hw] at hx
    have hd := aL hx
    obtain ⟨d1,d2⟩ := hs.done who hw
    have hth := ((hg _ (qG hw)).2 x (List.mem_of_getElem? hx)).1
    refine ⟨by simp [hs.len],fun i hi => ?_⟩
    rw [List.getD_eq_getElem?_getD,qB (by omega)]
    by_cases hij : who = i
    · subst hij
      rw [qF (by rw [hs.len]; omega),Option.getD_some,getD_at hw]; omega
    · rw [qB hij,← List.getD_eq_getElem?_getD]; exact hs.done i hi
def aP : List Int := [0,0,0,0,-1,-1,-1,-1]
theorem tJ {progs : List (List aF)} (hp : progs.length ≤ 4) : lE progs aP := ⟨rfl,fun i hi => by
 have : ∀ i,i < 4 → aP.getD i 0 = 0 := by decide
 rw [this i (by omega)]; omega⟩
theorem iK {tm : Int} : ∀ {x : List aF} {f : Int → Bool},bA tm f x = true → ∀ s ∈ x,(0 ≤ s.thing ∧ s.thing ≤ tm) ∧ (s.kind = 1 ∨ s.kind = 2)
 | [],_,_,s,hs => by simp at hs
 | a :: x,f,h,s,hs => by
  simp only [bA,Bool.and_eq_true,Bool.or_eq_true,inB,decide_eq_true_eq] at h
  rcases List.mem_cons.1 hs with rfl | hs
  · exact ⟨h.1.1,h.1.2.1⟩
  · exact iK h.2 s hs
theorem zY {things : Int} {l : List (List aF)} (h : dR things l = true) (hl : dF l = false) : ∃ n : Nat,things = n ∧ (1 ≤ n ∧ n ≤ 4) ∧ (1 ≤ l.length ∧ l.length ≤ 4) ∧ lF l ∧ (∀ x ∈ l,bA ((n : Int) - 1) (fun _ => false) x = true) ∧ ∀ x ∈ l,∀ s ∈ x,s.thing < n := by
 simp only [dR,Bool.and_eq_true,List.all_eq_true,inB,decide_eq_true_eq] at h
 obtain ⟨h1,h2,h3⟩ := h
 obtain ⟨n,rfl⟩ : ∃ n : Nat,things = n := ⟨things.toNat,by omega⟩
 rw [wI (by unfold I64; omega)] at h1
 rw [dF,List.any_eq_false] at hl
 refine ⟨n,rfl,by omega,by omega,fun x hx => ⟨by have := hl x hx; simp at this; exact this,fun s hs => ?_⟩,h1,fun x hx s hs => ?_⟩
 · have := iK (h1 x hx) s hs
   exact ⟨⟨this.1.1,by omega⟩,this.2⟩
 · have := iK (h1 x hx) s hs
   omega
def hoS (n : Nat) (st : List Int) : List Int := (st.drop 4).take n
theorem mX {n : Nat} {st : List Int} (hn : n ≤ 4) (hl : st.length = 8) : (hoS n st).length = n := by rw [hoS,List.length_take,List.length_drop]; omega
theorem tK {n t : Nat} {st : List Int} (ht : t < n) (hl : st.length = 8) (hn : n ≤ 4) : (hoS n st).getD t 0 = st.getD (4 + t) 0 := by
 rw [List.getD_eq_getElem?_getD,List.getD_eq_getElem?_getD,hoS,List.getElem?_take_of_lt ht,List.getElem?_drop]
theorem dB {p i : Nat} {st : List Int} (hi : i < p) : (st.take p).getD i 0 = st.getD i 0 := by
 rw [List.getD_eq_getElem?_getD,List.getD_eq_getElem?_getD,List.getElem?_take_of_lt hi]
theorem aFs {n t : Nat} {st : List Int} {x : Int} : hoS n (st.set (4 + t) x) = (hoS n st).set t x := by
 rw [hoS,hoS,List.drop_set,if_neg (by omega),Nat.add_sub_cancel_left,List.take_set]
theorem SlI.getD_at {x : AV} {l : List Int} (a : SlI w0 h x l) {j : Nat} (hj : j < l.length) : ∃ p : Pl,dG 1 x (some j) = some (.ptr p) ∧ (∀ L,rd w0 (h ++ L) p = some (.int .i64 (l.getD j 0))) ∧ rd w0 h p = some (.int .i64 (l.getD j 0)) := by
 obtain ⟨p,a1,a2,a3⟩ := a.at_ hj
 rw [Ab.getD_at hj]; exact ⟨p,a1,a2,a3⟩
theorem aCO {v hv dv : AV} {progs : List (List aF)} {st : List Int} {n who : Nat} (hp : PS w0 h v progs) (hh : SlI w0 h hv (hoS n st)) (hd : SlI w0 h dv (st.take progs.length)) (hg : lF progs) (hs : lE progs st) (hw : who < progs.length) (hp4 : progs.length ≤ 4) (hn4 : n ≤ 4)
 (hth : ∀ x ∈ progs,∀ s ∈ x,s.thing < n) :
 bG Tryz.prog w0 93 [v,hv,dv,.int .i64 who] h (.bool (aY progs st who).isSome) h := by
 refine dD (by simp [AV.bdd]) (bH aW aDB mf93_b mf93_g (qE rfl) fun hb ha => bF ?_)
 have hl8 := hs.len
 obtain ⟨p,sv,i1,r1,r1',hx⟩ := hp.at_ hw
 obtain ⟨p2,j1,q1,q1'⟩ := hd.getD_at (j := who) (by rw [List.length_take]; omega)
 rw [dB hw] at q1 q1'
 obtain ⟨d1,d2⟩ := hs.done who hw
 rw [Ab.getD_at hw] at d2
 have hls : gA sv = some (.int .i64 progs[who].length) := by have := hx.use.1; rwa [List.length_map] at this
 obtain ⟨d,hdd⟩ : ∃ d : Nat,st.getD who 0 = d := ⟨(st.getD who 0).toNat,by omega⟩
 rw [hdd] at q1 q1' d2
 have hst : stepS progs st who = progs[who][d]? := by rw [stepS,Ab.getD_at hw,hdd]; rfl
 by_cases q : d = progs[who].length
 · have e1 : (d : Int) ≥ progs[who].length := by omega
   have e2 : progs[who][d]? = none := List.getElem?_eq_none (by omega)
   simp only [go_sem,mf93,i1,r1,r1',j1,q1,q1',hls,e1]
   rw [aY,hst,e2]
   exact ⟨aE.refl.app,rfl⟩
 · have hdl : d < progs[who].length := by omega
   have e1 : ¬ (d : Int) ≥ progs[who].length := by omega
   have e2 : progs[who][d]? = some progs[who][d] := qA hdl
   obtain ⟨_,q2,hix,hrow,_⟩ := hx.use
   rw [List.length_map] at hix
   have e3 := hix d hdl
   have e4 : ∀ L,rdn w0 (h ++ L) (q2.add (d * 2)) 2 = some progs[who][d].c := fun L => dY (hrow d _ (iF hdl))
   have e4' := e4 []
   rw [List.append_nil] at e4'
   obtain ⟨s,hsd⟩ : ∃ s,s = progs[who][d] := ⟨_,rfl⟩
   rw [← hsd] at e4 e4' e2
   have hsm : s ∈ progs[who] := hsd ▸ qG _
   obtain ⟨⟨t0,_⟩,hk⟩ := (hg _ (qG hw)).2 s hsm
   have t1 := hth _ (qG hw) s hsm
   obtain ⟨t,ht⟩ : ∃ t : Nat,s.thing = t := ⟨s.thing.toNat,by omega⟩
   obtain ⟨p3,k1,k2,k2'⟩ := hh.getD_at (j := t) (by rw [mX hn4 hl8]; omega)
   rw [tK (by omega) hl8 hn4] at k2 k2'
   simp only [go_sem,mf93,i1,r1,r1',j1,q1,q1',hls,e1,e3,e4,e4',ht,k1,k2,k2']
   have hnx : (aY progs st who).isSome = !(decide (s.kind = 1) && !decide (st.getD (4 + t) 0 = -1)) := by
    rw [aY,hst,e2]
    simp only [ht,Int.toNat_natCast]
    generalize st.getD (4 + t) 0 = g
    by_cases c1 : s.kind = 1 <;> by_cases c2 : g = -1 <;> simp [c1,c2]
   refine ⟨fun k2 => ⟨aE.refl.app,?_⟩,fun k2 => ⟨aE.refl.app,?_⟩⟩
   · rw [hnx]
     have k1 : s.kind = 1 := by omega
     generalize st.getD (4 + t) 0 = g
     by_cases c2 : g = -1 <;> simp [k1,c2]
   · rw [hnx]; simp [k2]
theorem lK {progs : List (List aF)} {st s' : List Int} {n w : Nat} (hg : lF progs) (hs : lE progs st) (hw : w < progs.length) (hth : ∀ x ∈ progs,∀ s ∈ x,s.thing < n) (e : aY progs st w = some s') :
 ∃ (s : aF) (t d : Nat),s ∈ progs[w] ∧ s.thing = t ∧ t < n ∧ st.getD w 0 = d ∧ d < progs[w].length ∧ progs[w][d]? = some s ∧ (s.kind = 1 ∨ s.kind = 2) ∧ s' = (st.set w ((d : Int) + 1)).set (4 + t) (if s.kind = 1 then (w : Int) else -1) := by
 rw [aY] at e
 obtain ⟨d1,d2⟩ := hs.done w hw
 obtain ⟨d,hdd⟩ : ∃ d : Nat,st.getD w 0 = d := ⟨(st.getD w 0).toNat,by omega⟩
 have hst : stepS progs st w = progs[w][d]? := by rw [stepS,Ab.getD_at hw,hdd]; rfl
 rw [hst] at e
 cases h2 : progs[w][d]? with
 | none => rw [h2] at e; cases e
 | some s =>
  rw [h2] at e
  simp only at e
  have hsm := List.mem_of_getElem? h2
  obtain ⟨⟨t0,_⟩,hk⟩ := (hg _ (qG hw)).2 s hsm
  have t1 := hth _ (qG hw) s hsm
  obtain ⟨t,ht⟩ : ∃ t : Nat,s.thing = t := ⟨s.thing.toNat,by omega⟩
  rw [ht,Int.toNat_natCast,hdd] at e
  split at e
  · cases e
  · cases e
    exact ⟨s,t,d,hsm,ht,by omega,hdd,aL h2,h2,hk,rfl⟩
theorem kR {l : List Int} {i : Nat} {x : Int} (hi : i < l.length) : (aK l).take i ++ .int .i64 x :: (aK l).drop (i + 1) = aK (l.set i x) := by
 rw [kF (by rw [cF]; omega)]; simp [aK,List.map_set]
theorem aBe {v sv : AV} {progs : List (List aF)} {sch : List Int} {n : Nat} (hv : PS w0 h v progs) (hs : SlI w0 h sv sch) (n1 : 1 ≤ n) (n4 : n ≤ 4) (p1 : 1 ≤ progs.length) (p4 : progs.length ≤ 4) (hg : lF progs) (hth : ∀ x ∈ progs,∀ s ∈ x,s.thing < n)
 (hsx : ∀ x ∈ sch,0 ≤ x ∧ x < progs.length) (hsn : sch.length < 1000000) :
 ACall Tryz.prog w0 41 [.int .i64 n,v,sv] h fun y H => aE h H ∧ ∃ hv dv,y = .tup [hv,dv,.int .i64 (dX progs aP 0 sch).2] ∧ SlI w0 H hv (hoS n (dX progs aP 0 sch).1) ∧ SlI w0 H dv ((dX progs aP 0 sch).1.take progs.length) := by
 refine bH aW aDV mf41_b mf41_g (qE rfl) fun hb ha => bF ?_
 have hls := (SlI.use hs).1
 have hlen := hv.len
 simp only [go_sem,mf41]
 refine aR (ACall.vc (first := []) (aBm n (by omega))) ?_
 intro nv H0 hG
 rw [List.append_nil] at hG
 obtain ⟨ia,hia,rfl,hHa,_,_⟩ := hG.put (by omega)
 have e6 : progs.length ≤ progs.length ∧ progs.length * (8 + 1) ≤ 1099511627776 := ⟨Nat.le_refl _,by omega⟩
 simp only [go_sem,hlen,gT,e6,beq_self_eq_true]
 obtain ⟨B,hB⟩ : ∃ B,B = H0.length := ⟨_,rfl⟩
 have hAB : ia < B := by have := (List.getElem?_eq_some_iff.1 hHa).1; omega
 have hB0 : h.length ≤ B := by have := hG.1.1; omega
 have hz : dV [AV.int .i64 0] progs.length = aK (aP.take progs.length) := by
  rcases (by omega : progs.length = 1 ∨ progs.length = 2 ∨ progs.length = 3 ∨ progs.length = 4) with e | e | e | e <;> rw [e] <;> rfl
 have hz2 : qT n = hoS n aP := by
  rcases (by omega : n = 1 ∨ n = 2 ∨ n = 3 ∨ n = 4) with e | e | e | e <;> rw [e] <;> rfl
 rw [hz,← hB]
 rw [hz2] at hHa
 have fin : ∀ (H : aA) (st : List Int) (at' : Int),aE h H → lE progs st → H[ia]? = some (some (.row (aK (hoS n st)))) → H[B]? = some (some (.row (aK (st.take progs.length)))) → dX progs aP 0 sch = (st,at') →
  aE h H ∧ ∃ hv dv,AV.tup [.sl (.own ia 0) n 1 false,.sl (.own B 0) progs.length 1 true,.int .i64 at'] = .tup [hv,dv,.int .i64 (dX progs aP 0 sch).2] ∧ SlI w0 H hv (hoS n (dX progs aP 0 sch).1) ∧ SlI w0 H dv ((dX progs aP 0 sch).1.take progs.length) := by
  intro H st at' s0 hst a1 a2 e
  have hl8 := hst.len
  rw [e]
  exact ⟨s0,_,_,rfl,iU a1 (mX n4 hl8).symm,iU a2 (by simp only [List.length_take]; omega)⟩
 refine cU (S := Nat × List Int × aA) (F := fun s => [(1,v),(2,sv),(9,.sl (.own ia 0) n 1 false),(10,.sl (.own B 0) progs.length 1 true),(11,.int .i64 s.1)])
  (H := fun s => s.2.2) (meas := fun s => sch.length - s.1) (Inv := fun s => s.1 ≤ sch.length ∧ lE progs s.2.1 ∧ dX progs aP 0 sch = dX progs s.2.1 s.1 (sch.drop s.1) ∧ aE h s.2.2 ∧ s.2.2[ia]? = some (some (.row (aK (hoS n s.2.1)))) ∧ s.2.2[B]? = some (some (.row (aK (s.2.1.take progs.length)))))
  (0,aP,_) ⟨Nat.zero_le _,tJ p4,rfl,hG.1.app,aC hHa,by rw [qI (by omega),hB,Nat.sub_self]; rfl⟩ rfl rfl ?_
 rintro ⟨j,st,H⟩ ⟨hj,hst,hr,hsub,hA,hD⟩ ih
 simp only at hj hst hr hsub hA hD ih ⊢
 have hl8 := hst.len
 have lA := mX n4 hl8
 have lD : (st.take progs.length).length = progs.length := by rw [List.length_take]; omega
 refine aT aW aFH [1,2,9,10,11] L41_0.eq_1 ?_
 by_cases hjl : j < sch.length
 · have e1 : (j : Int) < sch.length := by omega
   obtain ⟨pp,i1,r1,r1'⟩ := SlI.at_ (hs.sub hsub) hjl
   rw [List.drop_eq_getElem_cons hjl,dX] at hr
   obtain ⟨w1,w2⟩ := hsx _ (qG hjl)
   obtain ⟨w,hw⟩ : ∃ w : Nat,sch[j] = w := ⟨sch[j].toNat,by omega⟩
   rw [hw] at r1 r1' hr
   rw [Int.toNat_natCast] at hr
   have hwl : w < progs.length := by omega
   simp only [go_sem,hls,e1,i1,r1,r1']
   refine aI (aCO (hv.sub hsub) (iU hA lA.symm) (iU hD lD.symm) hg hst hwl p4 n4 hth).v ?_
   cases hns : aY progs st w with
   | none =>
    rw [hns] at hr
    simp only [go_sem,Option.isSome]
    exact fin _ st j hsub hst hA hD hr
   | some s' =>
    rw [hns] at hr
    have hs2 := nQ hg hst hwl p4 hns
    obtain ⟨p,av,x1,x2,x2',hx⟩ := hv.at_ hwl
    obtain ⟨s,t,d,hst2,ht,htn,hdd,hdl,e2,hk,es'⟩ := lK hg hst hwl hth hns
    have hls2 : gA av = some (.int .i64 progs[w].length) := by have := hx.use.1; rwa [List.length_map] at this
    obtain ⟨_,q2,hix,hrow,_⟩ := hx.use
    rw [List.length_map] at hix
    have e3 := hix d hdl
    have e4 : ∀ L,rdn w0 (h ++ L) (q2.add (d * 2)) 2 = some s.c := fun L => dY (hrow d _ (by rw [List.getElem?_map,e2]; rfl))
    have e4' := (hsub.rdn (by simpa using e4 []) : rdn w0 H (q2.add (d * 2)) 2 = some s.c)
    have e4'' : ∀ L,rdn w0 (H ++ L) (q2.add (d * 2)) 2 = some s.c := fun L => dY e4'
    have y1 : rd w0 H p = some av := hsub.rd x2'
    have o1 : ∀ f,dG 1 (.sl (.own ia 0) n 1 f) (some t) = some (.ptr (.own ia t)) := fun f => by rw [vC (by omega),Nat.mul_one]
    have o2 : ∀ f,dG 1 (.sl (.own B 0) progs.length 1 f) (some w) = some (.ptr (.own B w)) := fun f => by rw [vC (by omega),Nat.mul_one]
    have g1 : (aK (st.take progs.length))[w]? = some (.int .i64 d) := by rw [kS (by omega),dB hwl,hdd]
    have g2 : w + 1 ≤ (aK (st.take progs.length)).length := by rw [cF]; omega
    have g3 : t + 1 ≤ (aK (hoS n st)).length := by rw [cF]; omega
    simp only [go_sem,Option.isSome,x1,y1,o1,o2,hD,g1,gT,e3,e4',e4'',xL hA,g3,ht]
    have hiH : ia < H.length := (List.getElem?_eq_some_iff.1 hA).1
    have hBH : B < H.length := (List.getElem?_eq_some_iff.1 hD).1
    obtain ⟨K1,hK1⟩ : ∃ K1,K1 = (H ++ [some (Blk.row [AV.int .i64 s.kind,AV.int .i64 t])]).set ia (some (Blk.row (aK ((hoS n st).set t (-1))))) := ⟨_,rfl⟩
    have k1 : K1[H.length]? = some (some (.row [AV.int .i64 s.kind,AV.int .i64 t])) := by rw [hK1,qB (by omega),qI (Nat.le_refl _),Nat.sub_self]; rfl
    have k2 : K1[ia]? = some (some (.row (aK ((hoS n st).set t (-1))))) := by rw [hK1,qF (by simp; omega)]
    have k3 : K1[B]? = some (some (.row (aK (st.take progs.length)))) := by rw [hK1,qB (by omega)]; exact aC hD
    have k4 : aE h K1 := hK1 ▸ hsub.app.setR hia
    rw [kR (by omega),← hK1]
    have g4 : t + 1 ≤ (aK ((hoS n st).set t (-1))).length := by rw [cF,List.length_set]; omega
    have hd6 : I64 ((d : Int) + 1) := by have := (hg _ (qG hwl)).1; unfold I64; omega
    have fin2 : ∀ (K : aA) (fr : Fr),aE h K → K[ia]? = some (some (.row (aK (hoS n s')))) → K[B]? = some (some (.row (aK (s'.take progs.length)))) → fr = [(1,v),(2,sv),(9,.sl (.own ia 0) n 1 false),(10,.sl (.own B 0) progs.length 1 true),(11,.int .i64 ((j + 1 : Nat) : Int))] → lp Tryz.prog w0 none 68 h.length _ _ _ fr K := fun K fr z1 z2 z3 z4 => z4 ▸ ih (j + 1,s',K) ⟨by simp only; omega,hs2,by rw [hr]; simp,z1,z2,z3⟩ (by simp only; omega)
    have eD : s'.take progs.length = (st.take progs.length).set w ((d : Int) + 1) := by
     rw [es',List.take_set,List.take_set,List.set_eq_of_length_le (by rw [List.length_set]; omega)]
    have eH : ∀ x : Int,hoS n ((st.set w ((d : Int) + 1)).set (4 + t) x) = (hoS n st).set t x := fun x => by
     rw [aFs]
     congr 1
     rw [hoS,hoS,List.drop_set,if_pos (by omega)]
    rcases hk with hk | hk
    · rw [if_pos hk] at es'
      have k1' := k1
      rw [hk] at k1'
      obtain ⟨K2,hK2⟩ : ∃ K2,K2 = K1.set ia (some (Blk.row (aK ((hoS n st).set t w)))) := ⟨_,rfl⟩
      have m2 : K2[ia]? = some (some (.row (aK ((hoS n st).set t w)))) := by rw [hK2,qF (List.getElem?_eq_some_iff.1 k2).1]
      have m3 : K2[B]? = some (some (.row (aK (st.take progs.length)))) := by rw [hK2,qB (by omega)]; exact k3
      have m4 : aE h K2 := hK2 ▸ k4.setR hia
      have sw : (aK ((hoS n st).set t (-1))).take t ++ .int .i64 w :: (aK ((hoS n st).set t (-1))).drop (t + 1) = aK ((hoS n st).set t w) := by rw [kR (by rw [List.length_set]; omega),List.set_set]
      simp only [go_sem,k1',k2,o1,gT,g4,sw]
      rw [← hK2]
      simp only [go_sem,gT,m3,g1,g2,hwl,Nat.mul_one]
      refine ⟨hd6,?_⟩
      rw [kR (by omega)]
      refine ⟨(by unfold I64; omega),fin2 _ _ (m4.setR hB0) (by rw [qB (by omega),m2,es',eH]) (by rw [qF (List.getElem?_eq_some_iff.1 m3).1,eD]) rfl⟩
    · rw [if_neg (by omega)] at es'
      have k1' := k1
      rw [hk] at k1'
      simp only [go_sem,k1',k2,gT,k3,g1,g2,hwl,Nat.mul_one]
      refine ⟨hd6,?_⟩
      rw [kR (by omega)]
      refine ⟨(by unfold I64; omega),fin2 _ _ (k4.setR hB0) (by rw [qB (by omega),k2,es',eH]) (by rw [qF (List.getElem?_eq_some_iff.1 k3).1,eD]) rfl⟩
 · have e1 : ¬ (j : Int) < sch.length := by omega
   obtain rfl : j = sch.length := by omega
   rw [List.drop_length] at hr
   simp only [go_sem,hls,e1]
   exact fin _ st (-1) hsub hst hA hD hr
theorem aFm {l : List (List aF)} (h : nT l = true) : (∀ x ∈ l,x.length ≤ 20) ∧ l.length ≤ 12 := by
 simp only [nT,Bool.and_eq_true,List.all_eq_true,decide_eq_true_eq] at h
 exact h
end Go.Proofs.Ab
namespace Go.Proofs.Ab
open Go Go.Proofs
def mC (f : Int → Bool) : List aF → Int → Bool
 | [],t => f t
 | s :: r,t => mC (fun x => if x = s.thing then decide (s.kind = 1) else f x) r t
theorem nW (t : Int) (s : aF) : ∀ (l : List aF) (f : Int → Bool),mC f (l ++ [s]) t = if t = s.thing then decide (s.kind = 1) else mC f l t
 | [],f => rfl
 | a :: l,f => by rw [List.cons_append,mC,nW t s l]; rfl
theorem nP {tm : Int} : ∀ {x : List aF} {f : Int → Bool} {d : Nat} {s : aF},bA tm f x = true → x[d]? = some s → mC f (x.take d) s.thing = decide (s.kind = 2)
 | [],_,_,_,_,h => by simp at h
 | a :: x,f,0,s,h,e => by
  simp only [List.getElem?_cons_zero,Option.some.injEq] at e
  subst e
  simp only [bA,Bool.and_eq_true,decide_eq_true_eq] at h
  exact h.1.2.2
 | a :: x,f,d + 1,s,h,e => by
  simp only [bA,Bool.and_eq_true] at h
  rw [List.getElem?_cons_succ] at e
  rw [List.take_succ_cons,mC]
  exact nP h.2 e
def iO (progs : List (List aF)) (st : List Int) (w : Nat) (t : Int) : Bool := mC (fun _ => false) ((progs.getD w []).take (st.getD w 0).toNat) t
structure oK (n : Nat) (progs : List (List aF)) (st : List Int) : Prop where
 own : ∀ t,t < n → ∀ w,w < progs.length → (iO progs st w t = true ↔ st.getD (4 + t) 0 = w)
 rng : ∀ t,t < n → st.getD (4 + t) 0 = -1 ∨ ∃ w,w < progs.length ∧ st.getD (4 + t) 0 = (w : Int)
def iC (progs : List (List aF)) (st : List Int) : Int := (st.take progs.length).sum
theorem jK {l : List Int} {i : Nat} {x y : Int} (h : i < l.length) : (l.set i x).getD i y = x := by
 rw [List.getD_eq_getElem?_getD,qF h]; rfl
theorem bX {l : List Int} {i j : Nat} {x y : Int} (h : i ≠ j) : (l.set i x).getD j y = l.getD j y := by
 rw [List.getD_eq_getElem?_getD,qB h,List.getD_eq_getElem?_getD]
theorem wK : ∀ {l : List Int} {i : Nat} {x : Int},i < l.length → (l.set i x).sum = l.sum - l.getD i 0 + x
 | [],_,_,h => by simp at h
 | a :: l,0,x,_ => by simp [List.getD]; omega
 | a :: l,i + 1,x,h => by
  have := wK (l := l) (i := i) (x := x) (by simpa using h)
  simp only [List.set_cons_succ,List.sum_cons,List.getD_cons_succ,this]; omega
theorem oK.next {n : Nat} {progs : List (List aF)} {st s' : List Int} {w : Nat} (hi : oK n progs st) (hg : lF progs) (hs : lE progs st) (hw : w < progs.length) (hp : progs.length ≤ 4) (hn : n ≤ 4) (hth : ∀ x ∈ progs,∀ s ∈ x,s.thing < n)
 (hok : ∀ x ∈ progs,bA ((n : Int) - 1) (fun _ => false) x = true) (e : aY progs st w = some s') : oK n progs s' ∧ iC progs s' = iC progs st + 1 := by
 have e0 := e
 obtain ⟨s,t,d,hsm,ht,htn,hd,hdl,hx,hk,es⟩ := lK hg hs hw hth e
 have l8 := hs.len
 have hdw : (st.getD w 0).toNat = d := by rw [hd]; rfl
 have hold : iO progs st w t = decide (s.kind = 2) := by
  have := nP (hok _ (qG hw)) hx
  rw [iO,getD_at hw,hdw,← ht]; exact this
 have hnew : ∀ t',iO progs s' w t' = if t' = s.thing then decide (s.kind = 1) else iO progs st w t' := fun t' => by
  have : (s'.getD w 0).toNat = d + 1 := by rw [es,bX (by omega),jK (by omega)]; omega
  rw [iO,iO,this,hdw,getD_at hw,List.take_add_one,hx]
  exact nW _ _ _ _
 have hoth : ∀ w' t',w' ≠ w → w' < progs.length → iO progs s' w' t' = iO progs st w' t' := fun w' t' h1 h2 => by
  have : s'.getD w' 0 = st.getD w' 0 := by rw [es,bX (by omega),bX (by omega)]
  rw [iO,iO,this]
 have hfree : s.kind = 1 → st.getD (4 + t) 0 = -1 := fun k => by
  apply Classical.byContradiction
  intro hne
  have hst : stepS progs st w = some s := by rw [stepS,getD_at hw,hdw,hx]
  rw [aY,hst] at e0
  simp only [ht,Int.toNat_natCast] at e0
  rw [if_pos ⟨k,hne⟩] at e0
  cases e0
 have hv : s'.getD (4 + t) 0 = if s.kind = 1 then (w : Int) else -1 := by rw [es,jK (by rw [List.length_set]; omega)]
 have hvo : ∀ t',t' ≠ t → s'.getD (4 + t') 0 = st.getD (4 + t') 0 := fun t' h => by rw [es,bX (by omega),bX (by omega)]
 refine ⟨⟨fun t' h1 w' h2 => ?_,fun t' h1 => ?_⟩,?_⟩
 · by_cases q : t' = t
   · subst q
     rw [hv]
     by_cases q2 : w' = w
     · subst q2
       rw [hnew,if_pos ht.symm]
       rcases hk with k | k <;> simp [k] <;> omega
     · rw [hoth w' _ q2 h2,hi.own _ h1 _ h2]
       rcases hk with k | k
       · rw [if_pos k,hfree k]; omega
       · rw [if_neg (by omega)]
         have : iO progs st w t' = true := by rw [hold,k]; rfl
         rw [(hi.own _ h1 _ hw).1 this]; omega
   · rw [hvo _ q]
     by_cases q2 : w' = w
     · subst q2
       rw [hnew,if_neg (by omega)]; exact hi.own _ h1 _ h2
     · rw [hoth _ _ q2 h2]; exact hi.own _ h1 _ h2
 · by_cases q : t' = t
   · subst q
     rw [hv]
     split
     · exact .inr ⟨w,hw,rfl⟩
     · exact .inl rfl
   · rw [hvo _ q]; exact hi.rng _ h1
 · rw [iC,iC,es,List.take_set,List.take_set,List.set_eq_of_length_le (by rw [List.length_set,List.length_take]; omega),wK (by rw [List.length_take]; omega),dB hw,hd]; omega
theorem oK.start {n : Nat} {progs : List (List aF)} (hp : progs.length ≤ 4) (hn : n ≤ 4) : oK n progs aP ∧ iC progs aP = 0 := by
 have i0 : ∀ i,i < 4 → aP.getD i 0 = 0 := by decide
 have i1 : ∀ i,i < 4 → aP.getD (4 + i) 0 = -1 := by decide
 refine ⟨⟨fun t h1 w h2 => ?_,fun t h1 => .inl (i1 t (by omega))⟩,?_⟩
 · rw [iO,i0 w (by omega),i1 t (by omega)]
   simp [mC]
 · rw [iC]
   rcases (by omega : progs.length = 0 ∨ progs.length = 1 ∨ progs.length = 2 ∨ progs.length = 3 ∨ progs.length = 4) with e | e | e | e | e <;> rw [e] <;> rfl
theorem oK.run {n : Nat} {progs : List (List aF)} (hg : lF progs) (hp : progs.length ≤ 4) (hn : n ≤ 4) (hth : ∀ x ∈ progs,∀ s ∈ x,s.thing < n) (hok : ∀ x ∈ progs,bA ((n : Int) - 1) (fun _ => false) x = true) :
 ∀ (sch : List Int) (st : List Int) (i : Int),lE progs st → oK n progs st → iC progs st = i → (∀ x ∈ sch,0 ≤ x ∧ x < progs.length) →
  oK n progs (dX progs st i sch).1 ∧ (((dX progs st i sch).2 = -1 ∧ iC progs (dX progs st i sch).1 = i + sch.length) ∨ (i ≤ (dX progs st i sch).2 ∧ (dX progs st i sch).2 < i + sch.length ∧ iC progs (dX progs st i sch).1 = (dX progs st i sch).2))
 | [],st,i,_,h1,h2,_ => ⟨h1,.inl ⟨rfl,by rw [dX]; simp [h2]⟩⟩
 | w :: r,st,i,hs,h1,h2,hr => by
  rw [dX]
  have hw := hr w (by simp)
  cases e : aY progs st w.toNat with
  | none => exact ⟨h1,.inr ⟨Int.le_refl _,by simp only [List.length_cons]; omega,h2⟩⟩
  | some s =>
   obtain ⟨a1,a2⟩ := h1.next hg hs (show w.toNat < progs.length by omega) hp hn hth hok e
   have := oK.run hg hp hn hth hok r s (i + 1) (nQ hg hs (by omega) hp e) a1 (by omega) fun x hx => hr x (by simp [hx])
   simp only [List.length_cons]
   refine ⟨this.1,this.2.imp (fun x => ⟨x.1,by rw [x.2]; omega⟩) fun x => ⟨by omega,by omega,x.2.2⟩⟩
end Go.Proofs.Ab

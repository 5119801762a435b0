/- The own layer under the proofs of this seat, part P: what calls of the program come to on an abstract heap. No condition. -/
import Derived.Test.YtajecdfdnlfndaaGreatM
import Derived.Test.YtajecdfdnlfndaaGreatN
import Derived.Test.YtajecdfdnlfndaaGreatO
import Derived.Test.YtajecdfdnlfndaaGreatL
set_option linter.unusedSimpArgs false
set_option linter.unusedVariables false
namespace Go.Proofs.Ab
open Go Go.Proofs
variable {w0 : World} {h : aA}
attribute [local irreducible] ACall bA bW aY cP rvC lp rg dr ex un rv
theorem wK {v dv : AV} {progs : List (List aF)} {st : List Int} (hp : PS w0 h v progs) (hd : SlI w0 h dv (st.take progs.length)) (hs : iS progs st) (hp4 : progs.length ≤ 4) : aY Tryz.prog w0 43 [v,dv] h (.bool true) h := by
 refine aS aV aD1 mf43_b mf43_g (qE rfl) (by simp [AV.bdd,AV.bdds]) fun hb ha => bF ?_
 have hlen := hp.len
 have hl8 := hs.len
 have hl : (st.take progs.length).length = progs.length := by rw [List.length_take]; omega
 have hld := (SlI.use hd).1
 rw [hl] at hld
 simp only [go_sem,mf43]
 refine fT (fun j => [(0,v),(1,dv),(5,.int .i64 j)]) (fun _ => True) progs.length rfl (fun j hj _ ih => ?_) (fun _ => ?_)
 · refine aQ aV zH [0,1,5] L43_0.eq_1 ?_
   have e1 : (j : Int) < progs.length := by omega
   obtain ⟨p,sv,i1,r1,r1',hx⟩ := hp.at_ hj
   obtain ⟨p2,j1,q1,q1'⟩ := hd.getD_at (j := j) (by rw [hl]; exact hj)
   rw [dC hj] at q1 q1'
   have hls : fF sv = some (.int .i64 progs[j].length) := by have := hx.use.1; rwa [List.length_map] at this
   obtain ⟨d1,d2⟩ := hs.done j hj
   rw [getD_at hj] at d2
   have e2 : ¬ st.getD j 0 < 0 := by omega
   have e3 : ¬ st.getD j 0 > (progs[j].length : Int) := by omega
   simp only [go_sem,hlen,hld,e1,i1,r1,r1',j1,q1,q1',hls,e2,e3]
   exact ⟨(by unfold I64; omega),ih trivial⟩
 · refine aQ aV zH [0,1,5] L43_0.eq_1 ?_
   have e1 : ¬ (progs.length : Int) < progs.length := by omega
   simp only [go_sem,hlen,hld,e1]
   simp
theorem aAj {v : AV} {progs : List (List aF)} {n : Nat} (hp : PS w0 h v progs) (hn : n ≤ 4) (hn1 : progs.length ≤ 1000) (hn2 : ∀ x ∈ progs,x.length ≤ 1000 ∧ ∀ s ∈ x,0 ≤ s.thing) : aY Tryz.prog w0 45 [.int .i64 n,v] h (.bool (sO n progs)) h := by
 refine aS aV aDZ mf45_b mf45_g (qE rfl) (by simp [AV.bdd,AV.bdds]) fun hb ha => bF ?_
 have hlen := hp.len
 simp only [go_sem,mf45]
 refine fT (fun i => [(0,.int .i64 n),(1,v),(5,.int .i64 i)]) (fun i => sL n (progs.getD i []) = true) progs.length rfl (fun i hi hall ih => ?_) (fun hall => ?_)
 · refine aQ aV zG [0,1,5] L45_3.eq_1 ?_
   have e1 : (i : Int) < progs.length := by omega
   obtain ⟨p,sv,i1,r1,r1',hx⟩ := hp.at_ hi
   obtain ⟨x,hxe⟩ : ∃ x,x = progs[i] := ⟨_,rfl⟩
   rw [getD_at hi,← hxe] at ih
   rw [← hxe] at hx
   have hxm : x ∈ progs := hxe ▸ qG hi
   have hxl := hn2 x hxm
   have no : sL n x = false → sO n progs = false := fun e => by
    rw [sO,List.all_eq_false]; exact ⟨x,hxm,by rw [e]; simp⟩
   have hls : fF sv = some (.int .i64 x.length) := by have := hx.use.1; rwa [List.length_map] at this
   obtain ⟨_,q2,hix,hrow,_⟩ := hx.use
   rw [List.length_map] at hix
   simp only [go_sem,hlen,e1]
   refine cZ (S := Nat) (F := fun k => [(0,.int .i64 n),(1,v),(5,.int .i64 i),(6,.int .i64 k)]) (H := fun _ => h) (meas := fun k => x.length - k) (Inv := fun k => k ≤ x.length ∧ ∀ k',k' < k → sM n x k' = true) 0 ⟨Nat.zero_le _,fun k' hk' => by omega⟩ rfl (by simp) ?_
   rintro k ⟨hk,hK⟩ ih1
   refine aQ aV aFO [0,1,5,6] L45_1.eq_1 ?_
   by_cases hkl : k < x.length
   · have e2 : (k : Int) < x.length := by omega
     have e3 := hix k hkl
     have r0 := hrow k _ (fP hkl)
     have f0' := jS r0 (o := 0) rfl
     have f1' := jS r0 (o := 1) rfl
     have f0 : ∀ L,rd w0 (h ++ L) ((q2.add (k * 2)).add 0) = some (.int .i64 x[k].kind) := fun L => gS f0'
     have f1 : ∀ L,rd w0 (h ++ L) ((q2.add (k * 2)).add 1) = some (.int .i64 x[k].thing) := fun L => gS f1'
     have ht0 := hxl.2 _ (qG hkl)
     obtain ⟨tn,htn⟩ : ∃ tn : Nat,x[k].thing = tn := ⟨x[k].thing.toNat,by omega⟩
     have next : sM n x k = true → lp Tryz.prog w0 none 71 h.length _ L45_1 _ [(0,.int .i64 n),(1,v),(5,.int .i64 i),(6,.int .i64 ((k + 1 : Nat) : Int))] h := fun e => ih1 (k + 1) ⟨by omega,fun k' hk' => by
      by_cases q : k' = k
      · subst q; exact e
      · exact hK k' (by omega)⟩ (by omega)
     simp only [go_sem,i1,r1,r1',hls,e2,e3,f1,f1',htn]
     refine cZ (S := Nat) (F := fun t => [(0,.int .i64 n),(1,v),(5,.int .i64 i),(6,.int .i64 k),(7,.int .i64 t)]) (H := fun _ => h) (meas := fun t => n - t) (Inv := fun t => tn ≤ t ∧ ∀ t' : Nat,tn ≤ t' → t' < t → eN (fun _ => false) (x.take k) t' = false) tn ⟨Nat.le_refl _,fun t' a b => by omega⟩ rfl (by simp) ?_
     rintro t ⟨ht,hT⟩ ih0
     refine aQ aV aFP [0,1,5,6,7] L45_0.eq_1 ?_
     by_cases htl : t < n
     · have e4 : (t : Int) < n := by omega
       by_cases hk1 : x[k].kind = 1
       · simp only [go_sem,e4,i1,r1,r1',e3,f0,f0',hk1]
         refine aI (yM (w0 := w0) k (t : Int) hx (by omega)).v ?_
         cases hh : eN (fun _ => false) (x.take k) (t : Int) with
         | true =>
          simp only [go_sem]
          have : sM n x k = false := by
           rw [sM,qA hkl]
           simp only [hk1,ne_eq,not_true_eq_false,decide_false,Bool.false_or]
           rw [List.all_eq_false]
           exact ⟨t,List.mem_range.2 htl,by rw [hh,htn]; simp; omega⟩
          rw [no (by rw [sL,List.all_eq_false.2 ⟨k,List.mem_range.2 hkl,by rw [this]; simp⟩]; rfl)]
          exact ⟨rfl,[],by simp⟩
         | false =>
          simp only [go_sem]
          exact ⟨(by unfold I64; omega),ih0 (t + 1) ⟨by omega,fun t' a b => by
           by_cases q : t' = t
           · subst q; exact hh
           · exact hT t' a (by omega)⟩ (by omega)⟩
       · simp only [go_sem,e4,i1,r1,r1',e3,f0,f0',hk1]
         refine ⟨(by unfold I64; omega),next ?_⟩
         rw [sM,qA hkl]
         simp [hk1]
     · have e4 : ¬ (t : Int) < n := by omega
       simp only [go_sem,e4]
       refine ⟨(by unfold I64; omega),next ?_⟩
       rw [sM,qA hkl]
       simp only [Bool.or_eq_true,List.all_eq_true,decide_eq_true_eq,Bool.not_eq_true']
       refine .inr fun t' h' => ?_
       have := List.mem_range.1 h'
       by_cases q : tn ≤ t'
       · exact .inr (hT t' q (by omega))
       · exact .inl (by omega)
   · have e2 : ¬ (k : Int) < x.length := by omega
     obtain rfl : k = x.length := by omega
     simp only [go_sem,i1,r1,r1',hls,e2]
     refine cZ (S := Nat) (F := fun t => [(0,.int .i64 n),(1,v),(5,.int .i64 i),(8,.int .i64 t)]) (H := fun _ => h) (meas := fun t => n - t) (Inv := fun t => t ≤ n ∧ ∀ t' : Nat,t' < t → eN (fun _ => false) x t' = false) 0 ⟨Nat.zero_le _,fun t' b => by omega⟩ rfl (by simp) ?_
     rintro t ⟨ht,hT⟩ ih0
     refine aQ aV aFN [0,1,5,8] L45_2.eq_1 ?_
     by_cases htl : t < n
     · have e4 : (t : Int) < n := by omega
       simp only [go_sem,e4,i1,r1,r1',hls]
       refine aI (yM (w0 := w0) x.length (t : Int) hx (by omega)).v ?_
       rw [List.take_length]
       cases hh : eN (fun _ => false) x (t : Int) with
       | true =>
        simp only [go_sem]
        rw [no (by rw [sL,(List.all_eq_false (l := List.range n)).2 ⟨t,List.mem_range.2 htl,by rw [hh]; simp⟩,Bool.and_false])]
        exact ⟨rfl,[],by simp⟩
       | false =>
        simp only [go_sem]
        exact ⟨(by unfold I64; omega),ih0 (t + 1) ⟨by omega,fun t' b => by
         by_cases q : t' = t
         · subst q; exact hh
         · exact hT t' (by omega)⟩ (by omega)⟩
     · have e4 : ¬ (t : Int) < n := by omega
       simp only [go_sem,e4]
       have : sL n x = true := by
        rw [sL,Bool.and_eq_true,List.all_eq_true,List.all_eq_true]
        exact ⟨fun k hk => hK k (List.mem_range.1 hk),fun t' h' => by rw [hT t' (by have := List.mem_range.1 h'; omega)]; rfl⟩
       refine ⟨(by unfold I64; omega),?_⟩
       simpa using ih this
 · refine aQ aV zG [0,1,5] L45_3.eq_1 ?_
   have e1 : ¬ (progs.length : Int) < progs.length := by omega
   simp only [go_sem,hlen,e1]
   rw [show sO n progs = true by rw [sO,← fQ [],List.all_eq_true]; exact fun j hj => hall j (List.mem_range.1 hj)]
theorem aBg {progs : List (List aF)} : ∀ {sch st : List Int} {i : Int},0 ≤ i → (eJ progs st i sch).2 = -1 → goS progs st sch = some (eJ progs st i sch).1
 | [],st,i,_,_ => rfl
 | w :: r,st,i,hi,e => by
  rw [eJ] at e ⊢
  rw [goS]
  cases h : aZ progs st w.toNat with
  | none => rw [h] at e; simp only at e; omega
  | some s =>
   rw [h] at e
   simp only at e ⊢
   exact aBg (by omega) e
theorem aBe {x : AV} {l : List Int} (a : SlI w0 h x l) (hl : l ≠ []) : ∃ z,(∀ (fr : Fr) (y : Opd),bQ (y.ev fr) = some (l.length - 1) → aAc 1 fr x none (some y) none = some z) ∧ SlI w0 h z (l.take (l.length - 1)) := by
 rcases a with ⟨rfl,h1⟩ | ⟨q,f,⟨es',rfl,h4⟩,h2,h3⟩
 · simp at h1; exact absurd h1 hl
 · have hp := List.length_pos_iff.2 hl
   refine ⟨.sl (q.add (0 * 1)) (l.length - 1 - 0) es' (dA none (l.length - 1) (f && l.length - 1 == l.length)),?_,?_⟩
   · intro fr y hy
     simp only [aAc,h4,if_true,List.length_map,aCW,hy,bdK_2]
     rw [if_pos ⟨Nat.zero_le _,by omega⟩]; rfl
   · have q0 : q.add (0 * 1) = q := by cases q <;> simp [Pl.add,Addr.add]
     rw [q0]
     refine .inr ⟨q,dA none (l.length - 1) (f && l.length - 1 == l.length),⟨es',by simp,h4⟩,h2,fun j c hc => h3 j c ?_⟩
     rw [List.getElem?_map] at hc ⊢
     obtain ⟨z,hz,rfl⟩ := qD.1 hc
     have hj := aK hz
     rw [List.length_take] at hj
     rw [List.getElem?_take_of_lt (by omega)] at hz
     rw [hz]; rfl
theorem aDC {l : List Nat} {i : Nat} (h : i < l.length) : (nis l)[i]'(by rw [dK]; exact h) = (l[i] : Int) := by simp [nis]
theorem pW {sv : AV} {l : List Nat} (a : SlI w0 h sv (nis l)) {i : Nat} (hi : i < l.length) : ∃ p : Pl,dH 1 sv (some i) = some (.ptr p) ∧ (∀ L,rd w0 (h ++ L) p = some (.int .i64 (l[i] : Int))) ∧ rd w0 h p = some (.int .i64 (l[i] : Int)) := by
 obtain ⟨p,h1,h2,h3⟩ := a.at_ (j := i) (by rw [dK]; exact hi)
 rw [aDC hi] at h2 h3
 exact ⟨p,h1,h2,h3⟩
theorem or3 {A B C G : Prop} (h : A ∨ B ∨ C) (a : A → G) (b : B → G) (c : C → G) : G := h.elim a fun h => h.elim b c
set_option maxRecDepth 20000 in
set_option maxHeartbeats 4000000 in
theorem uJ {v sv : AV} {progs : List (List aF)} {sch : List Int} (things : Int) (hv : PS w0 h v progs) (hs : SlI w0 h sv sch) (hn : progs.length ≤ 9223372036854775807) (hsn : sch.length ≤ 9223372036854775807) :
 aY Tryz.prog w0 10 [.int .i64 things,v,sv] h (.bool true) h := by
 refine dF trivial (bK aV aFo mf10_b mf10_g (qE rfl) fun hb ha => bF ?_)
 obtain ⟨F,hF⟩ : ∃ F : Nat,5 ^ 25 ≤ F := ⟨_,Nat.le_refl _⟩
 have hls := (SlI.use hs).1
 have kn : ∀ {K : aA},aY Tryz.prog w0 16 [] K (.bool true) K := aFy
 simp only [go_sem,mf10]
 refine aI (lean_c hv.app hn).v ?_
 cases hL : nO progs with
 | false =>
  simp only [go_sem]
  refine aI kn.v ?_
  simp only [go_sem]
  exact aE.refl.app
 | true =>
 obtain ⟨hx20,hp12⟩ := aFw hL
 have hn1 : progs.length < 1000000 := by omega
 have hn2 : ∀ x ∈ progs,x.length ≤ 1000 := fun x hx => by have := hx20 x hx; omega
 have hn3 : ∀ x ∈ progs,x.length < 1000000 := fun x hx => by have := hx20 x hx; omega
 simp only [go_sem]
 refine aI (aDu hv.app hn1).v ?_
 cases hlg : dJ progs with
 | true =>
  simp only [go_sem]
  refine aI kn.v ?_
  simp only [go_sem]
  exact aE.refl.app
 | false =>
 simp only [go_sem]
 refine aI (sA things hv.app hn1 hn2).v ?_
 cases hok : dZ things progs with
 | false =>
  simp only [go_sem]
  refine aI kn.v ?_
  simp only [go_sem]
  exact aE.refl.app
 | true =>
 by_cases q1 : (sch.length : Int) > 24
 · simp only [go_sem,hls,q1]
   refine aI kn.v ?_
   simp only [go_sem]
   exact aE.refl.app
 simp only [go_sem,hls,q1]
 refine aI (nH (hs.app) (hv.app) hn1 hsn).v ?_
 cases hsc : kK progs.length sch with
 | false =>
  simp only [go_sem]
  refine aI kn.v ?_
  simp only [go_sem]
  exact aE.refl.app
 | true =>
 obtain ⟨n,rfl,g⟩ := PG.of hok hlg
 have p4 := g.p4
 have n4 := g.n4
 have hsx : ∀ x ∈ sch,0 ≤ x ∧ x < progs.length := fun x hx => by
  have := List.all_eq_true.1 hsc x hx
  simp only [inB,Bool.and_eq_true,decide_eq_true_eq] at this; omega
 have hspec := tY g (QI.start g) OI.start (k := F) (by rw [aBt]; exact hF)
 simp only [go_sem]
 refine aX (ACall.vc (first := []) (aFK (w0 := w0) n F hF hv.app hn1 hn3)) ?_
 rintro y H1 ⟨s1,hy⟩
 have s1' := (aE.refl.app).trans s1
 unfold lQ at hy
 rw [if_neg (by simp [hlg]),if_pos hok] at hy
 obtain ⟨y1,y2,y3,hyt,hy1⟩ : ∃ y1 y2 y3,y = .tup [y1,y2,y3] ∧ match bfs progs F [(bE,[])] [bE] with
  | none => y1 = .nilS ∧ y2 = .nilS ∧ y3 = .int .i64 5
  | some w => y3 = .int .i64 0 ∧ SlI w0 H1 y1 w.2 ∧ SlI w0 H1 y2 (nis (dP progs w.1 5 (fV progs w.1) [])) := by
  cases hb : bfs progs F [(bE,[])] [bE] with
  | none => rw [hb] at hy; exact ⟨_,_,_,hy,rfl,rfl,rfl⟩
  | some w => rw [hb] at hy; obtain ⟨a,b,c,d,e⟩ := hy; exact ⟨_,_,_,c,rfl,d,e⟩
 subst hyt
 simp only [go_sem]
 refine aX (ACall.vc (first := []) (Run_c (w0 := w0) n (hv.sub s1') (hs.sub s1') hn1 hn3 (by omega))) ?_
 rintro y H2 ⟨s2,hy2⟩
 have s2' := s1'.trans s2
 rw [rI,if_neg (by rw [hlg]; simp; omega),if_pos (by rw [hok,hsc]; rfl)] at hy2
 obtain ⟨hov,dv,rfl,hho,hdd⟩ := hy2
 have hrun := wP g.good p4 sch bE 0 (nR p4) hsx
 obtain ⟨st,hst⟩ : ∃ st,st = (eJ progs bE 0 sch).1 := ⟨_,rfl⟩
 obtain ⟨aT,haT⟩ : ∃ aT,aT = (eJ progs bE 0 sch).2 := ⟨_,rfl⟩
 rw [← hst] at hho hdd hrun
 rw [← haT]
 have l8 := hrun.len
 have hho' : SlI w0 H2 hov (hoS n st) := hho
 have hlo := (SlI.use hho').1
 rw [mR n4 l8] at hlo
 simp only [go_sem,hlo]
 refine aI (wK (hv.sub s2') hdd hrun p4).v ?_
 have hstk : aT = -1 → bU progs st = true → jC progs sch st := fun e1 e2 => ⟨hsx,by rw [hst]; exact aBg (by omega) (by rw [← haT]; exact e1),e2⟩
 have rl : ∀ {K : aA},aE H2 K → aY Tryz.prog w0 44 [v,hov,dv] K (.bool (bU progs st)) K := fun s => oO (hv.sub (s2'.trans s)) (Sl.sub hho' s) (Sl.sub hdd s) g hrun
 cases hb : bfs progs F [(bE,[])] [bE] with
 | none =>
  rw [hb] at hy1 hspec
  obtain ⟨rfl,rfl,rfl⟩ := hy1
  by_cases e1 : aT = -1
  · have hn0 : bU progs st = false := Bool.eq_false_iff.2 fun e => hspec sch st (hstk e1 e)
    simp only [go_sem,e1]
    refine aI (rl aE.refl).v ?_
    rw [hn0]
    simp only [go_sem]
    refine aI kn.v ?_
    simp only [go_sem]
    exact s2'
  · simp only [go_sem,e1]
    refine aI kn.v ?_
    simp only [go_sem]
    exact s2'
 | some w =>
  rw [hb] at hy1 hspec
  obtain ⟨rfl,hs1,hc1⟩ := hy1
  obtain ⟨hw,hws,hleast⟩ := hspec
  have hw24 := hw.len24 g
  have hnord : sO n progs = false := Bool.eq_false_iff.2 fun e => by have := aAk g hw.rs e; rw [hws] at this; cases this
  have hsw : kK progs.length w.2 = true := List.all_eq_true.2 fun x hx => by
   have := hw.val x hx
   simp only [inB,Bool.and_eq_true,decide_eq_true_eq]; omega
  have hlw := (SlI.use hs1).1
  have q2 : ¬ (w.2.length : Int) > 24 := by omega
  have hs1' := Sl.sub hs1 s2
  have hc1' := Sl.sub hc1 s2
  have ho : ∀ {K : aA},aE H2 K → aY Tryz.prog w0 45 [.int .i64 n,v] K (.bool (sO n progs)) K := fun s => aAj (hv.sub (s2'.trans s)) n4 (by omega) fun x hx => ⟨hn2 x hx,fun s hs => ((g.good x hx).2 s hs).1.1⟩
  have hsd : ∀ {K : aA},aE H2 K → aY Tryz.prog w0 40 [y1,v] K (.bool (kK progs.length w.2)) K := fun s => nH (Sl.sub hs1' s) (hv.sub (s2'.trans s)) hn1 (by omega)
  rw [hnord] at ho
  rw [hsw] at hsd
  obtain ⟨c,hcd⟩ : ∃ c,c = dP progs w.1 5 (fV progs w.1) [] := ⟨_,rfl⟩
  rw [← hcd] at hc1'
  obtain ⟨hf1,hf2,hf3⟩ := vL hws
  obtain ⟨hch,hcl1,hcl2⟩ := nY g hw.rs (dN.1 hws).1 (k := 5) (who := fV progs w.1) (out := []) (by simp) ⟨fun x hx => by simp at hx; omega,fun i a b h1 h2 => by have := aK h2; simp at this⟩ (by simp; omega)
  have hcl2 := hcl2 (by simp) hf2
  have hcl3 := pO (progs := progs) (st := w.1) (k := 5) (who := fV progs w.1) (out := [])
  rw [← hcd] at hch hcl2 hcl3
  simp only [List.length_nil,Nat.zero_add] at hcl2 hcl3
  have hlc := (SlI.use hc1').1
  rw [dK] at hlc
  have q3 : ¬ (c.length : Int) < 2 := by omega
  have hsc2 : kK progs.length (nis c) = true := List.all_eq_true.2 fun x hx => by
   obtain ⟨i,hi,rfl⟩ := List.mem_map.1 hx
   have := hch.inv.lt i hi
   simp only [inB,Bool.and_eq_true,decide_eq_true_eq]; omega
  have hruns : eJ progs bE 0 w.2 = (w.1,-1) := yN hw.go
  have hwl8 := hw.rs.ok.len
  have hcase : (aT = -1 ∧ bU progs st = true) ∨ (aT = -1 ∧ bU progs st = false) ∨ aT ≠ -1 := by
   by_cases e : aT = -1
   · cases h : bU progs st
     · exact .inr (.inl ⟨e,rfl⟩)
     · exact .inl ⟨e,rfl⟩
   · exact .inr (.inr e)
  refine or3 hcase (fun e => ?a) (fun e => ?b) (fun e => ?c)
  case' a =>
   obtain ⟨e1,e2⟩ := e
   obtain ⟨hl1,hl2⟩ := hleast sch st (hstk e1 e2)
   rw [e2] at rl
   simp only [go_sem,e1]
   refine aI (rl aE.refl).v ?_
   simp only [go_sem]
   refine aI (ho aE.refl).v ?_
   simp only [go_sem,hlw,q2]
   refine aI (hsd aE.refl).v ?_
   have e5 : ¬ (sch.length : Int) < w.2.length := by omega
   have e5' : ¬ (w.2.length : Int) < w.2.length := by omega
   by_cases e6 : (sch.length : Int) = w.2.length
   case' pos => 
    have e7 := hl2 (by omega)
    have hbf : aY Tryz.prog w0 25 [sv,y1] H2 (.bool (eG sch w.2)) H2 := aAg (Sl.sub hs s2') hs1' (by omega)
    rw [e7] at hbf
    simp only [go_sem,hls,hlw,e5,e6,e5']
    refine aI hbf.v ?_
    simp only [go_sem]
   case' neg => simp only [go_sem,hls,hlw,e5,e6]
  case' b =>
   obtain ⟨e1,e2⟩ := e
   rw [e2] at rl
   simp only [go_sem,e1]
   refine aI (rl aE.refl).v ?_
   simp only [go_sem]
   refine aI (ho aE.refl).v ?_
   simp only [go_sem,hlw,q2]
   refine aI (hsd aE.refl).v ?_
   simp only [go_sem]
  case' c =>
   simp only [go_sem,e]
   refine aI (ho aE.refl).v ?_
   simp only [go_sem,hlw,q2]
   refine aI (hsd aE.refl).v ?_
   simp only [go_sem]
  all_goals
   refine aX (ACall.vc (first := []) (Run_c (w0 := w0) n (hv.sub s2') hs1' hn1 hn3 (by omega))) ?_
   rintro y H3 ⟨s3,hy3⟩
   have s3' := s2'.trans s3
   rw [rI,if_neg (by rw [hlg]; simp; omega),if_pos (by rw [hok,hsw]; rfl),hruns] at hy3
   simp only at hy3
   obtain ⟨hx,dx,rfl,hhx,hdx⟩ := hy3
   have hhx' : SlI w0 H3 hx (hoS n w.1) := hhx
   have hlx := (SlI.use hhx').1
   rw [mR n4 hwl8] at hlx
   have hc3 := Sl.sub hc1' s3
   have hpv := hv.sub s3'
   have k1 := wK hpv hdx hw.rs.ok p4
   have k2 := oO hpv hhx' hdx g hw.rs.ok
   have k3 : aY Tryz.prog w0 40 [y2,v] H3 (.bool (kK progs.length (nis c))) H3 := nH hc3 hpv hn1 (by rw [dK]; omega)
   rw [hws] at k2
   rw [hsc2] at k3
   simp only [go_sem,hlx]
   refine aI k1.v ?_
   simp only [go_sem]
   refine aI k2.v ?_
   simp only [go_sem,hlc,q3]
   refine aI k3.v ?_
   simp only [go_sem]
   have acc : ∀ u,u < progs.length → ∃ (p : Pl) (sv : AV) (p2 : Pl),dH 1 v (some u) = some (.ptr p) ∧ rd w0 H3 p = some sv ∧ fF sv = some (.int .i64 (progs.getD u []).length) ∧ Sl w0 H3 2 sv ((progs.getD u []).map aF.c) ∧
    dH 1 dx (some u) = some (.ptr p2) ∧ rd w0 H3 p2 = some (.int .i64 (w.1.getD u 0)) := fun u hu => by
    obtain ⟨p,sv,i1,r1,r1',hx⟩ := hpv.at_ hu
    obtain ⟨p2,j1,q1,q1'⟩ := hdx.getD_at (j := u) (by rw [List.length_take]; omega)
    rw [dC hu] at q1 q1'
    rw [getD_at hu]
    exact ⟨p,sv,p2,i1,r1',by have := hx.use.1; rwa [List.length_map] at this,hx,j1,q1'⟩
   refine cZ (S := Nat) (F := fun i => [(1,v),(8,y2),(15,hx),(16,dx),(19,.int .i64 i)]) (H := fun _ => H3) (meas := fun i => c.length - 1 - i) (Inv := fun i => i + 1 ≤ c.length) 0 (by omega) rfl rfl ?_
   intro i hi ih
   refine aQ aV aFY [1,8,15,16,19] L10_0.eq_1 ?_
   have hi5 : i ≤ 5 := by omega
   by_cases hil : i + 1 < c.length
   · have e1' : ((i : Int) + 1) < c.length := by omega
     obtain ⟨pa,a1,_,a3⟩ := pW hc3 (i := i) (by omega)
     obtain ⟨pb,b1,_,b3⟩ := pW hc3 (i := i + 1) hil
     obtain ⟨s,hss,hho2⟩ := hch.inv.ln i _ _ (qA (show i < c.length by omega)) (qA hil)
     have ha := hch.inv.lt _ (qG (show i < c.length by omega))
     obtain ⟨u,hu⟩ : ∃ u,u = c[i] := ⟨_,rfl⟩
     rw [← hu] at a3 hss ha
     rw [← hho2] at b3
     obtain ⟨p,sv,p2,i1,r1,hls2,hxs,j1,q4⟩ := acc u ha
     have hsl := nB hw.rs.ok ha
     rw [hss,← getD_at (d := []) ha] at hsl
     have hdl := of_decide_eq_true hsl.symm
     obtain ⟨d1,d2⟩ := hw.rs.ok.done u ha
     obtain ⟨d,hdd2⟩ : ∃ d : Nat,w.1.getD u 0 = d := ⟨(w.1.getD u 0).toNat,by omega⟩
     rw [hdd2] at hdl q4
     have e5 : ¬ (d : Int) ≥ ((progs.getD u []).length : Int) := by omega
     obtain ⟨kk,⟨t,ht,htn⟩,h3,h4⟩ := eS g hw.rs (dN.1 hws).1 ha hss
     have ht2 : s.thing.toNat = t := by omega
     rw [ht2] at h4
     have hxd : (progs.getD u [])[d]? = some s := by rw [stepS,hdd2] at hss; exact hss
     obtain ⟨_,q5,hix,hrow,_⟩ := hxs.use
     rw [List.length_map] at hix
     have e6 := hix d (by omega)
     have r0 := hrow d _ (by rw [List.getElem?_map,hxd]; rfl)
     have f1 := jS r0 (o := 1) rfl
     rw [ht] at f1
     obtain ⟨p3,m1,_,m2⟩ := hhx'.getD_at (j := t) (by rw [mR n4 hwl8]; omega)
     rw [tJ htn hwl8 n4,h4] at m2
     have b1' : dH 1 y2 (some ((i : Int) + 1).toNat) = some (.ptr pb) := by rw [show ((i : Int) + 1).toNat = i + 1 by omega]; exact b1
     have e7 : (0 : Int) ≤ (i : Int) + 1 := by omega
     simp only [go_sem,hlc,e1',a1,a3,j1,q4,i1,r1,hls2,e5,e6,f1,m1,m2,b1',b3,e7]
     exact ⟨(by unfold I64; omega),(by unfold I64; omega),(by unfold I64; omega),ih (i + 1) (by omega) (by omega)⟩
   · have e1' : ¬ ((i : Int) + 1) < c.length := by omega
     obtain rfl : i = c.length - 1 := by omega
     obtain ⟨lst,x,hcx,hlast⟩ := hch.last
     have hcl : c.length = lst.length + 1 := by rw [hcx]; simp
     have hxp := hch.inv.lt x (by rw [hcx]; simp)
     have w1 : wi ((c.length : Int) - 1) = ((c.length - 1 : Nat) : Int) := (mW (by unfold I64; omega)).trans (by omega)
     obtain ⟨pa,a1,_,a3⟩ := pW hc3 (i := c.length - 1) (by omega)
     have hgl : c[c.length - 1]'(by omega) = x := by
      have : c[c.length - 1]? = some x := by rw [hcl,hcx,Nat.add_sub_cancel,qI (Nat.le_refl _),Nat.sub_self]; rfl
      exact (List.getElem?_eq_some_iff.1 this).2
     rw [hgl] at a3
     obtain ⟨p,sv,p2,i1,r1,hls2,hxs,j1,q4⟩ := acc x hxp
     have hsl := nB hw.rs.ok hxp
     rw [← getD_at (d := []) hxp] at hsl
     obtain ⟨d1,d2⟩ := hw.rs.ok.done x hxp
     by_cases hfull : w.1.getD x 0 = ((progs.getD x []).length : Int)
     · simp only [go_sem,hlc,e1',w1,jV,a1,a3,j1,q4,i1,r1,hls2,hfull]
       refine ⟨(by unfold I64; omega),aI kn.v ?_⟩
       simp only [go_sem]
       exact s3'
     · have hxl : x ∈ lst := by
        rcases hlast with h1 | h1
        · exact h1
        · rw [h1] at hsl
          have := of_decide_eq_false hsl.symm
          exact absurd (by omega) hfull
       have hnl : nis c ≠ [] := fun e => by have := congrArg List.length e; rw [dK,List.length_nil] at this; omega
       simp only [go_sem,hlc,e1',w1,jV,a1,a3,j1,q4,i1,r1,hls2,hfull]
       refine ⟨(by unfold I64; omega),?_⟩
       obtain ⟨z,hz,hzs⟩ := aBe hc3 hnl
       rw [hz _ (.t 247) (by rw [dK]; exact jV)]
       have hin : (x : Int) ∈ (nis c).take ((nis c).length - 1) := by
        rw [dK,hcl,Nat.add_sub_cancel,hcx,nis,List.map_append,List.take_left' (by simp)]
        exact List.mem_map.2 ⟨x,hxl,rfl⟩
       simp only [go_sem]
       refine aI (uW x hzs (by rw [List.length_take,dK]; omega)).v ?_
       rw [decide_eq_true hin]
       simp only [go_sem]
       refine aI kn.v ?_
       simp only [go_sem]
       exact s3'
end Go.Proofs.Ab

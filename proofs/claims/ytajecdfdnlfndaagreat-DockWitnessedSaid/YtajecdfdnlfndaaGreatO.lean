/- The own layer under the proofs of this seat, part O: what calls of the program come to on an abstract heap. No condition. -/
import Derived.Test.YtajecdfdnlfndaaGreatN
import Derived.Test.YtajecdfdnlfndaaGreatM
set_option linter.unusedSimpArgs false
set_option linter.unusedVariables false
namespace Go.Proofs.Ab
open Go Go.Proofs
variable {w0 : World} {h : Heap}
attribute [local irreducible] ACall aR bR bD cI rvC lp rg dr ex un rv
theorem mH {things : Int} {l : List CallD} (h : cH things l = 0) : ∃ n : Nat,things = n ∧ (1 ≤ n ∧ n ≤ 4) ∧ (∀ c ∈ l,bA ((n : Int) - 1) c = true) ∧ l.length ≤ 7 := by
 rw [cH] at h
 split at h
 · cases h
 · split at h
   · rename_i h1 h2
     rw [eV,Bool.and_eq_true,List.all_eq_true] at h2
     obtain ⟨h2,h3⟩ := h2
     simp only [inB,Bool.and_eq_true,decide_eq_true_eq] at h2
     obtain ⟨n,rfl⟩ : ∃ n : Nat,things = n := ⟨things.toNat,by omega⟩
     rw [hJ (by unfold I64; omega)] at h3
     exact ⟨n,rfl,by omega,h3,by omega⟩
   · cases h
def lZ (l : List CallD) : Option (List Nat) := dfs l.length (eL l) l.length (0,cY 4)
def LinK (w0 : World) (H : Heap) (y : AV) (things : Int) (l : List CallD) : Prop :=
 if cH things l = 0 then match lZ l with
  | some r => ∃ lv,y = .tup [lv,.int .i64 0] ∧ SlI w0 H lv (cR r)
  | none => y = .tup [.nilS,.int .i64 5]
 else y = .tup [.nilS,.int .i64 (cH things l)]
theorem aBu {v : AV} {l : List CallD} (things : Int) (hv : CL w0 h v l) : ACall Tryz.prog w0 47 [.int .i64 things,v] h fun y H => aH h H ∧ LinK w0 H y things l := by
 refine aX aZ uX aAn aAm (qE rfl) fun hb ha => bB ?_
 simp only [go_sem,mf47]
 refine aK (rT things hv.app).v ?_
 by_cases e : cH things l = 0
 case neg =>
  have e' : (cH things l != 0) = true := by simpa using e
  simp only [go_sem,e']
  exact ⟨aH.refl.app,by rw [LinK,if_neg e]⟩
 simp only [go_sem,e]
 refine aV (ACall.vc (first := []) wB) ?_
 rintro _ _ ⟨rfl,rfl⟩
 have o := Sl.one hv
 simp only [go_sem,o.1,o.2,List.append_nil]
 refine aK aA9.v ?_
 obtain ⟨n,rfl,⟨n1,n4⟩,hall,hn7⟩ := mH e
 simp only [go_sem,show aE (cY 4) = [.int .i64 (-1),.int .i64 (-1),.int .i64 (-1),.int .i64 (-1)] from rfl]
 obtain ⟨X,eX⟩ : ∃ X,X = h ++ [some (.map cP),some (.map []),some (Blk.row [v,AV.map h.length,AV.nilS,AV.map (h.length + 1)])] := ⟨_,rfl⟩
 rw [← eX]
 have st : FSt w0 (h ++ [some (.map cP)]) h.length v l ((n : Int) - 1) := ⟨hv.app,by rw [qI (Nat.le_refl _),Nat.sub_self]; rfl,hall,by omega,hn7⟩
 have hO : OutS (h ++ [some (.map cP)]) X (h.length + 2) (h.length + 1) h.length v l .nilS [] := by
  refine ⟨?_,?_,?_,?_,by omega,⟨[],?_,fun m hm => by cases hm⟩,.inl ⟨rfl,rfl⟩⟩
  · rw [eX,show h ++ [some (Blk.map cP),some (.map []),some (Blk.row [v,AV.map h.length,AV.nilS,AV.map (h.length + 1)])] = (h ++ [some (.map cP)]) ++ [some (.map []),some (Blk.row [v,AV.map h.length,AV.nilS,AV.map (h.length + 1)])] by rw [List.append_assoc]; rfl]
    exact aH.refl.app
  · rw [eX,qI (by omega),show h.length + 2 - h.length = 2 by omega]; rfl
  · intro b e; have := aF e; simp at this
  · intro b e; have := aF e; simp at this
  · rw [eX,qI (by omega),show h.length + 1 - h.length = 1 by omega]; rfl
 refine aV (ACall.vc (first := []) (find_c l.length (h ++ [some (.map cP)]) st [] 0 (cY 4) X .nilS (by simp) ⟨by simp,by simp,by simp⟩ rfl hO)) ?_
 rintro y H ⟨ov',hy⟩
 cases hf : dfs l.length (eL l) l.length (0,cY 4) with
 | none =>
  rw [hf] at hy
  obtain ⟨rfl,hy⟩ := hy
  simp only [go_sem]
  refine ⟨aH.refl.app.trans hy.sub,?_⟩
  rw [LinK,if_pos e,lZ,hf]
 | some r =>
  rw [hf] at hy
  obtain ⟨rfl,hy⟩ := hy
  rw [List.nil_append] at hy
  have c1 := hy.box
  simp only [go_sem,c1]
  refine ⟨aH.refl.app.trans hy.sub,?_⟩
  rw [LinK,if_pos e,lZ,hf]
  exact ⟨_,rfl,hy.slI⟩
def jG (l : List CallD) : Nat × List Int → List Int → Bool
 | _,[] => true
 | p,i :: r => (inB i 0 ((l.length : Int) - 1)) && match eL l p i.toNat with
  | none => false
  | some q => jG l q r
def nJ (l : List CallD) (os : List Int) : Bool := decide (os.length = l.length) && jG l (0,cY 4) os
theorem uE {v ov : AV} {l : List CallD} {os : List Int} (things : Int) (hv : CL w0 h v l) (ho : SlI w0 h ov os) : ACall Tryz.prog w0 48 [.int .i64 things,v,ov] h fun y H => aH h H ∧
 y = if cH things l = 0 then .tup [.bool (nJ l os),.int .i64 0] else .tup [.bool false,.int .i64 (cH things l)] := by
 refine aX aZ aCs mf48_b mf48_g (qE rfl) fun hb ha => bB ?_
 have hlo := (SlI.use ho).1
 have hlen := hv.len
 simp only [go_sem,mf48]
 refine aK (rT things hv.app).v ?_
 by_cases e : cH things l = 0
 case neg =>
  have e' : (cH things l != 0) = true := by simpa using e
  simp only [go_sem,e']
  exact ⟨aH.refl.app,by rw [if_neg e]⟩
 rw [if_pos e]
 obtain ⟨n,rfl,⟨n1,n4⟩,hall,hn7⟩ := mH e
 by_cases q : (os.length : Int) = l.length
 case neg =>
  have q' : ((os.length : Int) != l.length) = true := by simpa using q
  simp only [go_sem,e,hlo,hlen,q']
  exact ⟨aH.refl.app,by rw [nJ,decide_eq_false (by omega)]; rfl⟩
 simp only [go_sem,e,hlo,hlen,q,bne_self_eq_false]
 refine aV (ACall.vc (first := []) wB) ?_
 rintro _ _ ⟨rfl,rfl⟩
 have o := Sl.one hv
 simp only [go_sem,o.1,o.2,List.append_nil]
 refine aK aA9.v ?_
 simp only [go_sem,show aE (cY 4) = [.int .i64 (-1),.int .i64 (-1),.int .i64 (-1),.int .i64 (-1)] from rfl,hlo]
 have vb := Sl.bdd hv (Nat.le_refl _)
 have ob := ho.bdd (Nat.le_refl _)
 have hE : nJ l os = jG l (0,cY 4) os := by rw [nJ,decide_eq_true (by omega),Bool.true_and]
 rw [hE]
 have w1 : wi ((l.length : Int) - 1) = l.length - 1 := hJ (by unfold I64; omega)
 refine iJ (S := Nat × Nat × List Int) (F := fun s => [(1,v),(9,.ptr (.own (h.length + 1) 0)),(10,.ptr (.own (h.length + 2) 0)),(31,ov),(32,.int .i64 os.length),(33,.int .i64 s.1)])
  (H := fun s => h ++ [some (.map cP),some (.row [v,.map h.length]),some (.row (aE ((s.2.1 : Int) :: s.2.2)))]) (meas := fun s => os.length - s.1)
  (Inv := fun s => s.1 ≤ os.length ∧ s.2.2.length = 4 ∧ s.2.1 < 2 ^ 7 ∧ jG l (0,cY 4) os = jG l (s.2.1,s.2.2) (os.drop s.1)) (0,0,cY 4) ⟨Nat.zero_le _,rfl,by decide,rfl⟩ rfl rfl ?_
 rintro ⟨j,bits,hd⟩ ⟨hj,h4,hb7,hr⟩ ih
 simp only at hj h4 hb7 hr ih ⊢
 refine bI aZ aDU [1,9,10,31,32,33] L48_0.eq_1 ?_
 have b0 : (aE ((bits : Int) :: hd))[0]? = some (.int .i64 bits) := rfl
 have c5 : (aE ((bits : Int) :: hd)).length = 5 := by rw [bC,List.length_cons,h4]
 have t5 : (aE ((bits : Int) :: hd)).take 5 = aE ((bits : Int) :: hd) := List.take_of_length_le (by omega)
 have d5 : (aE ((bits : Int) :: hd)).drop 5 = [] := List.drop_of_length_le (by omega)
 by_cases hjl : j < os.length
 · have e1 : (j : Int) < os.length := by omega
   obtain ⟨pp,i1,r1,r1'⟩ := SlI.at_ ho hjl
   rw [List.drop_eq_getElem_cons hjl,jG] at hr
   simp only [go_sem,e1,i1,r1,r1',hlen,w1]
   refine aK (rK os[j] 0 ((l.length : Int) - 1)).v ?_
   cases c1 : inB os[j] 0 ((l.length : Int) - 1) with
   | false =>
    rw [c1,Bool.false_and] at hr
    simp only [go_sem]
    exact ⟨aH.refl.app,by rw [hr]⟩
   | true =>
   rw [c1,Bool.true_and] at hr
   simp only [inB,Bool.and_eq_true,decide_eq_true_eq] at c1
   obtain ⟨i,hi⟩ : ∃ i : Nat,os[j] = i := ⟨os[j].toNat,by omega⟩
   rw [hi,Int.toNat_natCast] at hr
   have hil : i < l.length := by omega
   have s1 := pF (a := bits) (n := i) (by omega)
   have s2 := mJ (a := bits / 2 ^ i) (by have := Nat.div_le_self bits (2 ^ i); omega)
   rw [oF] at s2
   cases hbt : bits.testBit i with
   | true =>
    rw [hbt,if_pos rfl] at s2
    have hn : eL l (bits,hd) i = none := by unfold eL; rw [if_pos hbt]
    rw [hn] at hr
    simp only [go_sem,hi,b0,s1,s2]
    exact ⟨aH.refl.app,by rw [hr]⟩
   | false =>
    rw [hbt,if_neg (by simp)] at s2
    simp only [go_sem,hi,b0,s1,s2,c5,t5,cQ]
    obtain ⟨X,eX⟩ : ∃ X,X = h ++ [some (.map cP),some (.row [v,.map h.length]),some (.row (aE ((bits : Int) :: hd)))] := ⟨_,rfl⟩
    have x0 : X[h.length]? = some (some (.map cP)) := by rw [eX,qI (Nat.le_refl _),Nat.sub_self]; rfl
    have hnx := aAd (w0 := w0) (h := X) (i := i) (hv.sub (eX ▸ aH.refl.app)) x0 hall (by omega) hn7 hil hb7 h4
    rw [eX] at hnx
    refine aK hnx.v ?_
    rcases nE (l := l) h4 hbt with ⟨ps,p5,hv',hn⟩ | ⟨ho',h4',hv',hn⟩
    · rw [hn] at hr
      have c6 : (aE ps).length = 5 := by rw [bC,p5]
      have t6 : (aE ps).take 5 = aE ps := List.take_of_length_le (by omega)
      rw [hv']
      simp only [go_sem,cQ,c6,t6]
      exact ⟨aH.refl.app,by rw [hr]⟩
    · rw [hn] at hr
      have c6 : (aE (((bits ||| 2 ^ i : Nat) : Int) :: ho')).length = 5 := by rw [bC,List.length_cons,h4']
      have t6 : (aE (((bits ||| 2 ^ i : Nat) : Int) :: ho')).take 5 = aE (((bits ||| 2 ^ i : Nat) : Int) :: ho') := List.take_of_length_le (by omega)
      have d6 : (aE (((bits ||| 2 ^ i : Nat) : Int) :: ho')).drop 5 = [] := List.drop_of_length_le (by omega)
      rw [hv']
      simp only [go_sem,cQ,c6,t6,d6,c5,d5,List.append_nil,List.take_zero,List.nil_append]
      have hIB : ∀ N (z : List Int),AV.bdds N (aE z) := fun N z => rI N z
      have hkB : ∀ N,Blk.bdd N (.map cP) := fun N e he => by
       simp only [cP,List.mem_cons,List.not_mem_nil,or_false] at he
       rcases he with rfl | rfl | rfl | rfl <;> exact ⟨trivial,by simp [AV.bdd,AV.bdds]⟩
      refine ⟨(by unfold I64; omega),fO 3 hb (by simp [cM,cS,cX,dR,eW,dJ,AV.bdds,AV.bdd,Pl.bdd,cA]; exact ⟨hkB _,AV.bdd_mono (by omega) _ vb⟩) (by simp [cM,cS,cX,dR,eW,dJ,AV.bdds,AV.bdd,Pl.bdd,cA]; exact ⟨AV.bdd_mono (by omega) _ vb,AV.bdd_mono (by omega) _ ob⟩) ?_⟩
      have hnb : bits ||| 2 ^ i < 2 ^ 7 := Nat.or_lt_two_pow hb7 (Nat.pow_lt_pow_right (by omega) (by omega))
      exact ih (j + 1,bits ||| 2 ^ i,ho') ⟨by simp only; omega,h4',hnb,hr⟩ (by simp only; omega)
 · have e1 : ¬ (j : Int) < os.length := by omega
   rw [List.drop_of_length_le (by omega),jG] at hr
   simp only [go_sem,e1]
   exact ⟨aH.refl.app,by rw [hr]⟩
theorem zT {v : AV} {l : List CallD} (things : Int) (hv : CL w0 h v l) (hn : l.length ≤ 1000000) : bD Tryz.prog w0 49 [.int .i64 things,v] h (.bool (eV things l)) h := by
 refine bH aZ aCr mf49_b mf49_g (qE rfl) (by simp [AV.bdd,AV.bdds]) fun hb ha => bB ?_
 have hlen := hv.len
 have vb := Sl.bdd hv (Nat.le_refl _)
 obtain ⟨_,q,hix,hrow,_⟩ := Sl.use hv
 rw [List.length_map] at hix
 simp only [go_sem,mf49]
 refine oU (fun j => [(0,.int .i64 things),(1,v),(5,.int .i64 j)]) (fun j => inB things 1 4 = true → bA (wi (things - 1)) (aL l j) = true) l.length rfl (fun j hj hall ih => ?_) (fun hall => ?_)
 · refine bI aZ wS [0,1,5] L49_0.eq_1 ?_
   have e1 : (j : Int) < l.length := by omega
   have e2 := hix j hj
   have e3 : ∀ L,rdn w0 (h ++ L) (q.add (j * 7)) 7 = some l[j].c := fun L => eM (hrow j _ (fJ hj))
   have e3' := hrow j _ (fJ hj)
   have hcj : aL l j = l[j] := by rw [aL,List.getD_eq_getElem?_getD,qA hj]; rfl
   rw [hcj] at ih
   obtain ⟨tm,htm⟩ : ∃ tm,tm = wi (things - 1) := ⟨_,rfl⟩
   have htm2 : inB things 1 4 = true → 0 ≤ tm := fun a => by
    simp only [inB,Bool.and_eq_true,decide_eq_true_eq] at a
    rw [htm,hJ (by unfold I64; omega)]; omega
   have hbad : (inB things 1 4 = true → bA tm l[j] = false) → eV things l = false := fun a => by
    rw [eV]
    cases hh : inB things 1 4 with
    | false => rfl
    | true => rw [Bool.true_and,List.all_eq_false]; exact ⟨l[j],qG hj,by rw [← htm,a hh]; simp⟩
   rw [← htm] at ih
   simp only [go_sem,hlen,e1,e2,e3,e3']
   obtain ⟨c,hc⟩ : ∃ c,c = l[j] := ⟨_,rfl⟩
   rw [← hc] at hbad ih ⊢
   refine aK (nA c.who 0 3).v ?_
   cases c1 : inB c.who 0 3 with
   | false => simp only [go_sem]; rw [hbad fun _ => by simp [bA,c1]]
   | true =>
   simp only [go_sem]
   refine aK (nA c.kind 1 4).v ?_
   cases c2 : inB c.kind 1 4 with
   | false =>
    simp only [go_sem]
    rw [hbad fun _ => by
     rw [Bool.eq_false_iff]
     intro a
     simp only [bA,Bool.and_eq_true,decide_eq_true_eq] at a
     have : inB c.kind 1 4 = true := by simp only [inB,Bool.and_eq_true,decide_eq_true_eq]; omega
     rw [c2] at this; cases this]
   | true =>
   have c2' := c2
   simp only [inB,Bool.and_eq_true,decide_eq_true_eq] at c2'
   simp only [go_sem,← htm]
   refine aK (nA c.thing 0 tm).v ?_
   cases c3 : inB c.thing 0 tm with
   | false => simp only [go_sem]; rw [hbad fun _ => by simp [bA,c3]]
   | true =>
   simp only [go_sem,← htm]
   refine aK (nA c.other 0 tm).v ?_
   cases c4 : inB c.other 0 tm with
   | false =>
    simp only [go_sem]
    rw [hbad fun a => by
     have h0 := htm2 a
     have : cU tm c = false := by
      rw [cU]
      split
      · rw [c4]; rfl
      · refine decide_eq_false fun e => ?_
        rw [e] at c4
        have : inB 0 0 tm = true := by simp only [inB,Bool.and_eq_true,decide_eq_true_eq]; omega
        rw [c4] at this; cases this
     simp [bA,this]]
   | true =>
   by_cases c5 : c.begin_ < 0
   · simp only [go_sem,c5]; rw [hbad fun _ => by
      rw [Bool.eq_false_iff]; intro a
      simp only [bA,Bool.and_eq_true,decide_eq_true_eq] at a; omega]
   by_cases c6 : c.begin_ ≥ c.end_
   · simp only [go_sem,c5,c6]; rw [hbad fun _ => by
      rw [Bool.eq_false_iff]; intro a
      simp only [bA,Bool.and_eq_true,decide_eq_true_eq] at a; omega]
   by_cases c7 : c.end_ > 1000
   · simp only [go_sem,c5,c6,c7]; rw [hbad fun _ => by
      rw [Bool.eq_false_iff]; intro a
      simp only [bA,Bool.and_eq_true,decide_eq_true_eq] at a; omega]
   simp only [go_sem,c5,c6,c7]
   refine aK (nA c.result (-1) 3).v ?_
   cases c8 : inB c.result (-1) 3 with
   | false => simp only [go_sem]; rw [hbad fun _ => by simp [bA,c8]]
   | true =>
   have good : cU tm c = true → bA tm c = true := fun a => by
    simp only [bA,Bool.and_eq_true,decide_eq_true_eq]
    exact ⟨c1,by omega,by omega,c3,a,by omega,by omega,by omega,c8⟩
   by_cases k4 : c.kind = 4
   · by_cases k5 : c.other = c.thing
     · simp only [go_sem,k4,k5,bne_self_eq_false,beq_self_eq_true]
       rw [hbad fun _ => by
        have : cU tm c = false := by rw [cU,if_pos k4,k5]; simp
        simp [bA,this]]
     · have k5' : (c.other == c.thing) = false := by simpa using k5
       simp only [go_sem,k4,k5',bne_self_eq_false]
       exact ⟨(by unfold I64; omega),fO 0 hb (by simp [HBs]) (by simp [cM,cS,cX,dR,eW,dJ,AV.bdds,AV.bdd,Pl.bdd,cA]; exact AV.bdd_mono (by omega) _ vb) (ih fun _ => good (by rw [cU,if_pos k4,c4]; simp [k5]))⟩
   · by_cases k5 : c.other = 0
     · simp only [go_sem,k4,k5,bne_self_eq_false]
       exact ⟨(by unfold I64; omega),fO 0 hb (by simp [HBs]) (by simp [cM,cS,cX,dR,eW,dJ,AV.bdds,AV.bdd,Pl.bdd,cA]; exact AV.bdd_mono (by omega) _ vb) (ih fun _ => good (by rw [cU,if_neg k4]; simp [k5]))⟩
     · have k5' : (c.other != 0) = true := by simpa using k5
       simp only [go_sem,k4,k5']
       rw [hbad fun _ => by
        have : cU tm c = false := by rw [cU,if_neg k4]; simp [k5]
        simp [bA,this]]
 · refine bI aZ wS [0,1,5] L49_0.eq_1 ?_
   have e1 : ¬ (l.length : Int) < l.length := by omega
   simp only [go_sem,hlen,e1]
   refine aK (nA things 1 4).v ?_
   have : eV things l = inB things 1 4 := by
    rw [eV]
    cases hh : inB things 1 4 with
    | false => rfl
    | true =>
     rw [Bool.true_and,List.all_eq_true]
     intro c hc
     obtain ⟨j,hj,rfl⟩ := List.getElem_of_mem hc
     have := hall j hj hh
     rwa [aL,List.getD_eq_getElem?_getD,qA hj] at this
   rw [this]
   simp only [go_sem]
theorem rdo2_c {hv : AV} {ho : List Int} {c : CallD} {tm : Int} (hh : SlI w0 h hv ho) (h1 : 1 ≤ ho.length) (h4 : ho.length ≤ 4) (hc : bA tm c = true) (ht : tm < ho.length) :
 ACall Tryz.prog w0 54 [hv,.agg c.c] h fun y H => aH h H ∧ ∃ ov,y = .tup [ov,.int .i64 (doD ho c).2] ∧ SlI w0 H ov (doD ho c).1 ∧ ∀ K : Heap,(∀ (i : Nat) b,h.length ≤ i → H[i]? = some (some b) → K[i]? = some (some b)) → SlI w0 K ov (doD ho c).1 := by
 refine aX aZ aCp mf54_b mf54_g (qE rfl) fun hb ha => bB ?_
 simp only [bA,inB,Bool.and_eq_true,decide_eq_true_eq] at hc
 obtain ⟨_,k1,k4,⟨t0,t1⟩,hoB,_⟩ := hc
 obtain ⟨t,hct⟩ : ∃ t : Nat,c.thing = t := ⟨c.thing.toNat,by omega⟩
 have htl : t < ho.length := by omega
 have hap := aBn (w0 := w0) (H := h ++ [some (.row c.c)]) (b := 8) (hh.app) (by intro e; simp at e; rw [e] at h1; simp at h1) (fun c hc => by obtain ⟨x,_,rfl⟩ := List.mem_map.1 hc; rfl) (by omega) (by rw [List.length_map]; omega)
 rw [List.length_map,← jR,List.append_assoc,List.length_append] at hap
 simp only [CallD.c,List.cons_append,List.nil_append,List.length_cons,List.length_nil,Nat.zero_add] at hap
 obtain ⟨pt,i1,r1,r1'⟩ := hh.getD_at htl
 have o1 : ∀ f,dO 1 (.sl (.own (h.length + 1) 0) ho.length 1 f) (some t) = some (.ptr (.own (h.length + 1) t)) := fun f => by rw [zY htl,Nat.mul_one]
 have g3 : t + 1 ≤ (aE ho).length := by rw [bC]; omega
 have fin : ∀ (R : List AV) (ho' : List Int) (r : Int),ho'.length = ho.length → aH h (h ++ [some (.row R),some (.row (aE ho'))]) ∧ ∃ ov,AV.tup [.sl (.own (h.length + 1) 0) ho.length 1 false,.int .i64 r] = .tup [ov,.int .i64 r] ∧ SlI w0 (h ++ [some (.row R),some (.row (aE ho'))]) ov ho' ∧ ∀ K : Heap,(∀ (i : Nat) b,h.length ≤ i → (h ++ [some (Blk.row R),some (Blk.row (aE ho'))])[i]? = some (some b) → K[i]? = some (some b)) → SlI w0 K ov ho' := fun R ho' r e =>
  ⟨aH.refl.app,_,rfl,oE (by rw [qI (by omega),show h.length + 1 - h.length = 1 by omega]; rfl) e.symm,fun K k => oE (k _ _ (by omega) (by rw [qI (by omega),show h.length + 1 - h.length = 1 by omega]; rfl)) e.symm⟩
 rcases (by omega : c.kind = 1 ∨ c.kind = 2 ∨ c.kind = 3 ∨ c.kind = 4) with k | k | k | k
 · have hd0 : doD ho c = if ho.getD t 0 = -1 then (ho.set t c.who,1) else (ho,0) := by rw [doD,if_pos k,hct]; rfl
   rw [hd0]
   rw [k] at hap
   rw [hct] at hap
   by_cases q : ho.getD t 0 = -1
   · rw [if_pos q]
     simp only [go_sem,mf54,hap,k,hct,cG,i1,r1,r1',q,o1,g3]
     rw [eF htl]
     exact fin _ _ _ (by simp only [List.length_set])
   · have q' : (ho.getD t 0 == -1) = false := by simpa using q
     rw [if_neg q]
     simp only [go_sem,mf54,hap,k,hct,cG,i1,r1,r1',q']
     exact fin _ _ _ rfl
 · have hd0 : doD ho c = if ho.getD t 0 = c.who then (ho.set t (-1),1) else (ho,0) := by rw [doD,if_neg (by omega),if_pos k,hct]; rfl
   rw [hd0]
   rw [k] at hap
   rw [hct] at hap
   by_cases q : ho.getD t 0 = c.who
   · rw [if_pos q]
     simp only [go_sem,mf54,hap,k,hct,cG,i1,r1,r1',q,o1,g3,beq_self_eq_true]
     rw [eF htl]
     exact fin _ _ _ (by simp only [List.length_set])
   · have q' : (ho.getD t 0 == c.who) = false := by simpa using q
     rw [if_neg q]
     simp only [go_sem,mf54,hap,k,hct,cG,i1,r1,r1',q']
     exact fin _ _ _ rfl
 · have hd0 : doD ho c = (ho,ho.getD t 0) := by rw [doD,if_neg (by omega),if_neg (by omega),if_pos k,hct]; rfl
   rw [hd0]
   rw [k] at hap
   rw [hct] at hap
   simp only [go_sem,mf54,hap,k,hct,cG,i1,r1,r1']
   exact fin _ _ _ rfl
 · rw [cU,if_pos k] at hoB
   simp only [inB,Bool.and_eq_true,decide_eq_true_eq] at hoB
   obtain ⟨u,hcu⟩ : ∃ u : Nat,c.other = u := ⟨c.other.toNat,by omega⟩
   have hul : u < ho.length := by omega
   obtain ⟨pu,j1,s1,s1'⟩ := hh.getD_at hul
   have hd0 : doD ho c = if ho.getD t 0 = c.who ∧ ho.getD u 0 = -1 then ((ho.set t (-1)).set u c.who,1) else (ho,0) := by
    rw [doD,if_neg (by omega),if_neg (by omega),if_neg (by omega),if_pos k,hct,hcu]; rfl
   rw [hd0]
   rw [k,hct,hcu] at hap
   by_cases q : ho.getD t 0 = c.who
   · by_cases q2 : ho.getD u 0 = -1
     · rw [if_pos ⟨q,q2⟩]
       simp only [go_sem,mf54,hap,k,hct,hcu,cG,i1,r1,r1',j1,s1,s1',q,q2,beq_self_eq_true]
       refine wI aZ [0,1,2,3,4,5,6,7,8,9,10,11] [o_ 67 (m_ 6),o_ 68 (.addr (.t 3) 2),o_ 69 (l_ 68),o_ 70 (m_ 6),o_ 71 (.addr (.t 3) 3),o_ 72 (l_ 71),o_ 73 (.addr (.t 3) 0),o_ 74 (l_ 73),o_ 75 (.idxs 1 (.t 67) (.t 69)),.op none none (.store (.t 75) (i_ (-1)) 1)] [([(5,o_ 72 (l_ 71)),(7,o_ 74 (l_ 73))],[o_ 76 (.idxs 1 (.t 70) (.t 72)),.op none none (.store (.t 76) (.t 74) 1)])] rfl rfl (by kernel_rfl) ?_
       have o2 : ∀ f,dO 1 (.sl (.own (h.length + 1) 0) ho.length 1 f) (some u) = some (.ptr (.own (h.length + 1) u)) := fun f => by rw [zY hul,Nat.mul_one]
       have p1 : (aE ho).take t ++ .int .i64 (-1) :: (aE ho).drop (t + 1) = aE (ho.set t (-1)) := eF htl
       have g4 : u + 1 ≤ (aE (ho.set t (-1))).length := by rw [bC,List.length_set]; omega
       have p2 : (aE (ho.set t (-1))).take u ++ .int .i64 c.who :: (aE (ho.set t (-1))).drop (u + 1) = aE ((ho.set t (-1)).set u c.who) := eF (by rw [List.length_set]; exact hul)
       simp only [go_sem,k,hct,hcu,cG,o1,o2,g3,p1,g4,p2]
       exact fin _ _ _ (by simp only [List.length_set])
     · have q2' : (ho.getD u 0 == -1) = false := by simpa using q2
       rw [if_neg (fun x => q2 x.2)]
       simp only [go_sem,mf54,hap,k,hct,hcu,cG,i1,r1,r1',j1,s1,s1',q,q2',beq_self_eq_true]
       exact fin _ _ _ rfl
   · have q' : (ho.getD t 0 == c.who) = false := by simpa using q
     rw [if_neg (fun x => q x.1)]
     simp only [go_sem,mf54,hap,k,hct,hcu,cG,i1,r1,r1',q']
     exact fin _ _ _ rfl
theorem nX {l : List CallD} {i : Nat} (hi : i < l.length) : aL l i = l[i] := by rw [aL,List.getD_eq_getElem?_getD,qA hi]; rfl
theorem mA {l : List CallD} : ∀ {os : List Int} {p : Nat × List Int},jG l p os = (os.all (fun x => inB x 0 ((l.length : Int) - 1)) && (hY l.length (eL l) p (os.map Int.toNat)).isSome)
 | [],p => rfl
 | i :: r,p => by
  rw [jG,List.map_cons,hY,List.all_cons]
  cases c : inB i 0 ((l.length : Int) - 1) with
  | false => rfl
  | true =>
   have : i.toNat < l.length := by
    simp only [inB,Bool.and_eq_true,decide_eq_true_eq] at c; omega
   rw [if_pos this,Bool.true_and,Bool.true_and]
   cases e : eL l p i.toNat with
   | none => simp
   | some q => rw [Option.bind_some]; exact mA
end Go.Proofs.Ab

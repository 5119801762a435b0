/- The own layer under the proofs of this seat, part O: what calls of the program come to on an abstract heap. No condition. -/
import Derived.Test.YtajecdfdnlfndaaGreatN
import Derived.Test.YtajecdfdnlfndaaGreatM
set_option linter.unusedSimpArgs false
set_option linter.unusedVariables false
namespace Go.Proofs.Ab
open Go Go.Proofs
variable {w0 : World} {h : Heap}
attribute [local irreducible] ACall aR bV bD cN rvC lp rg dr ex un rv
theorem iQ {things : Int} {l : List CallD} (h : cH things l = 0) : ∃ n : Nat,things = n ∧ (1 ≤ n ∧ n ≤ 4) ∧ (∀ c ∈ l,bI ((n : Int) - 1) c = true) ∧ l.length ≤ 7 := by
 rw [cH] at h
 split at h
 · cases h
 · split at h
   · rename_i h1 h2
     rw [fS,Bool.and_eq_true,List.all_eq_true] at h2
     obtain ⟨h2,h3⟩ := h2
     simp only [inB,Bool.and_eq_true,decide_eq_true_eq] at h2
     obtain ⟨n,rfl⟩ : ∃ n : Nat,things = n := ⟨things.toNat,by omega⟩
     rw [kC (by unfold I64; omega)] at h3
     exact ⟨n,rfl,by omega,h3,by omega⟩
   · cases h
def iO (l : List CallD) : Option (List Nat) := dfs l.length (eK l) l.length (0,eM 4)
def LinK (w0 : World) (H : Heap) (y : AV) (things : Int) (l : List CallD) : Prop :=
 if cH things l = 0 then match iO l with
  | some r => ∃ lv,y = .tup [lv,.int .i64 0] ∧ SlI w0 H lv (cP r)
  | none => y = .tup [.nilS,.int .i64 5]
 else y = .tup [.nilS,.int .i64 (cH things l)]
theorem aBq {v : AV} {l : List CallD} (things : Int) (hv : CL w0 h v l) : ACall Tryz.prog w0 47 [.int .i64 things,v] h fun y H => aI h H ∧ LinK w0 H y things l := by
 refine bA aX uP aAi aAh (qE rfl) fun hb ha => bB ?_
 simp only [go_sem,mf47]
 refine aK (rM things hv.app).v ?_
 by_cases e : cH things l = 0
 case neg =>
  have e' : (cH things l != 0) = true := by simpa using e
  simp only [go_sem,e']
  exact ⟨aI.refl.app,by rw [LinK,if_neg e]⟩
 simp only [go_sem,e]
 refine aV (ACall.vc (first := []) vS) ?_
 rintro _ _ ⟨rfl,rfl⟩
 have o := Sl.one hv
 simp only [go_sem,o.1,o.2,List.append_nil]
 refine aK aA4.v ?_
 obtain ⟨n,rfl,⟨n1,n4⟩,hall,hn7⟩ := iQ e
 simp only [go_sem,show aF (eM 4) = [.int .i64 (-1),.int .i64 (-1),.int .i64 (-1),.int .i64 (-1)] from rfl]
 obtain ⟨X,eX⟩ : ∃ X,X = h ++ [some (.map cQ),some (.map []),some (Blk.row [v,AV.map h.length,AV.nilS,AV.map (h.length + 1)])] := ⟨_,rfl⟩
 rw [← eX]
 have st : FSt w0 (h ++ [some (.map cQ)]) h.length v l ((n : Int) - 1) := ⟨hv.app,by rw [qI (Nat.le_refl _),Nat.sub_self]; rfl,hall,by omega,hn7⟩
 have hO : OutS (h ++ [some (.map cQ)]) X (h.length + 2) (h.length + 1) h.length v l .nilS [] := by
  refine ⟨?_,?_,?_,?_,by omega,⟨[],?_,fun m hm => by cases hm⟩,.inl ⟨rfl,rfl⟩⟩
  · rw [eX,show h ++ [some (Blk.map cQ),some (.map []),some (Blk.row [v,AV.map h.length,AV.nilS,AV.map (h.length + 1)])] = (h ++ [some (.map cQ)]) ++ [some (.map []),some (Blk.row [v,AV.map h.length,AV.nilS,AV.map (h.length + 1)])] by rw [List.append_assoc]; rfl]
    exact aI.refl.app
  · rw [eX,qI (by omega),show h.length + 2 - h.length = 2 by omega]; rfl
  · intro b e; have := aH e; simp at this
  · intro b e; have := aH e; simp at this
  · rw [eX,qI (by omega),show h.length + 1 - h.length = 1 by omega]; rfl
 refine aV (ACall.vc (first := []) (find_c l.length (h ++ [some (.map cQ)]) st [] 0 (eM 4) X .nilS (by simp) ⟨by simp,by simp,by simp⟩ rfl hO)) ?_
 rintro y H ⟨ov',hy⟩
 cases hf : dfs l.length (eK l) l.length (0,eM 4) with
 | none =>
  rw [hf] at hy
  obtain ⟨rfl,hy⟩ := hy
  simp only [go_sem]
  refine ⟨aI.refl.app.trans hy.sub,?_⟩
  rw [LinK,if_pos e,iO,hf]
 | some r =>
  rw [hf] at hy
  obtain ⟨rfl,hy⟩ := hy
  rw [List.nil_append] at hy
  have c1 := hy.box
  simp only [go_sem,c1]
  refine ⟨aI.refl.app.trans hy.sub,?_⟩
  rw [LinK,if_pos e,iO,hf]
  exact ⟨_,rfl,hy.slI⟩
def jI (l : List CallD) : Nat × List Int → List Int → Bool
 | _,[] => true
 | p,i :: r => (inB i 0 ((l.length : Int) - 1)) && match eK l p i.toNat with
  | none => false
  | some q => jI l q r
def jJ (l : List CallD) (os : List Int) : Bool := decide (os.length = l.length) && jI l (0,eM 4) os
theorem mK {v ov : AV} {l : List CallD} {os : List Int} (things : Int) (hv : CL w0 h v l) (ho : SlI w0 h ov os) : ACall Tryz.prog w0 48 [.int .i64 things,v,ov] h fun y H => aI h H ∧
 y = if cH things l = 0 then .tup [.bool (jJ l os),.int .i64 0] else .tup [.bool false,.int .i64 (cH things l)] := by
 refine bA aX aCo mf48_b mf48_g (qE rfl) fun hb ha => bB ?_
 have hlo := (SlI.use ho).1
 have hlen := hv.len
 simp only [go_sem,mf48]
 refine aK (rM things hv.app).v ?_
 by_cases e : cH things l = 0
 case neg =>
  have e' : (cH things l != 0) = true := by simpa using e
  simp only [go_sem,e']
  exact ⟨aI.refl.app,by rw [if_neg e]⟩
 rw [if_pos e]
 obtain ⟨n,rfl,⟨n1,n4⟩,hall,hn7⟩ := iQ e
 by_cases q : (os.length : Int) = l.length
 case neg =>
  have q' : ((os.length : Int) != l.length) = true := by simpa using q
  simp only [go_sem,e,hlo,hlen,q']
  exact ⟨aI.refl.app,by rw [jJ,decide_eq_false (by omega)]; rfl⟩
 simp only [go_sem,e,hlo,hlen,q,bne_self_eq_false]
 refine aV (ACall.vc (first := []) vS) ?_
 rintro _ _ ⟨rfl,rfl⟩
 have o := Sl.one hv
 simp only [go_sem,o.1,o.2,List.append_nil]
 refine aK aA4.v ?_
 simp only [go_sem,show aF (eM 4) = [.int .i64 (-1),.int .i64 (-1),.int .i64 (-1),.int .i64 (-1)] from rfl,hlo]
 have vb := Sl.bdd hv (Nat.le_refl _)
 have ob := ho.bdd (Nat.le_refl _)
 have hE : jJ l os = jI l (0,eM 4) os := by rw [jJ,decide_eq_true (by omega),Bool.true_and]
 rw [hE]
 have w1 : wi ((l.length : Int) - 1) = l.length - 1 := kC (by unfold I64; omega)
 refine iI (S := Nat × Nat × List Int) (F := fun s => [(1,v),(9,.ptr (.own (h.length + 1) 0)),(10,.ptr (.own (h.length + 2) 0)),(31,ov),(32,.int .i64 os.length),(33,.int .i64 s.1)])
  (H := fun s => h ++ [some (.map cQ),some (.row [v,.map h.length]),some (.row (aF ((s.2.1 : Int) :: s.2.2)))]) (meas := fun s => os.length - s.1)
  (Inv := fun s => s.1 ≤ os.length ∧ s.2.2.length = 4 ∧ s.2.1 < 2 ^ 7 ∧ jI l (0,eM 4) os = jI l (s.2.1,s.2.2) (os.drop s.1)) (0,0,eM 4) ⟨Nat.zero_le _,rfl,by decide,rfl⟩ rfl rfl ?_
 rintro ⟨j,bits,hd⟩ ⟨hj,h4,hb7,hr⟩ ih
 simp only at hj h4 hb7 hr ih ⊢
 refine aZ aX aDR [1,9,10,31,32,33] L48_0.eq_1 ?_
 have b0 : (aF ((bits : Int) :: hd))[0]? = some (.int .i64 bits) := rfl
 have c5 : (aF ((bits : Int) :: hd)).length = 5 := by rw [bF,List.length_cons,h4]
 have t5 : (aF ((bits : Int) :: hd)).take 5 = aF ((bits : Int) :: hd) := List.take_of_length_le (by omega)
 have d5 : (aF ((bits : Int) :: hd)).drop 5 = [] := List.drop_of_length_le (by omega)
 by_cases hjl : j < os.length
 · have e1 : (j : Int) < os.length := by omega
   obtain ⟨pp,i1,r1,r1'⟩ := SlI.at_ ho hjl
   rw [List.drop_eq_getElem_cons hjl,jI] at hr
   simp only [go_sem,e1,i1,r1,r1',hlen,w1]
   refine aK (rB os[j] 0 ((l.length : Int) - 1)).v ?_
   cases c1 : inB os[j] 0 ((l.length : Int) - 1) with
   | false =>
    rw [c1,Bool.false_and] at hr
    simp only [go_sem]
    exact ⟨aI.refl.app,by rw [hr]⟩
   | true =>
   rw [c1,Bool.true_and] at hr
   simp only [inB,Bool.and_eq_true,decide_eq_true_eq] at c1
   obtain ⟨i,hi⟩ : ∃ i : Nat,os[j] = i := ⟨os[j].toNat,by omega⟩
   rw [hi,Int.toNat_natCast] at hr
   have hil : i < l.length := by omega
   have s1 := oV (a := bits) (n := i) (by omega)
   have s2 := mF (a := bits / 2 ^ i) (by have := Nat.div_le_self bits (2 ^ i); omega)
   rw [nX] at s2
   cases hbt : bits.testBit i with
   | true =>
    rw [hbt,if_pos rfl] at s2
    have hn : eK l (bits,hd) i = none := by unfold eK; rw [if_pos hbt]
    rw [hn] at hr
    simp only [go_sem,hi,b0,s1,s2]
    exact ⟨aI.refl.app,by rw [hr]⟩
   | false =>
    rw [hbt,if_neg (by simp)] at s2
    simp only [go_sem,hi,b0,s1,s2,c5,t5,cR]
    obtain ⟨X,eX⟩ : ∃ X,X = h ++ [some (.map cQ),some (.row [v,.map h.length]),some (.row (aF ((bits : Int) :: hd)))] := ⟨_,rfl⟩
    have x0 : X[h.length]? = some (some (.map cQ)) := by rw [eX,qI (Nat.le_refl _),Nat.sub_self]; rfl
    have hnx := zY (w0 := w0) (h := X) (i := i) (hv.sub (eX ▸ aI.refl.app)) x0 hall (by omega) hn7 hil hb7 h4
    rw [eX] at hnx
    refine aK hnx.v ?_
    rcases mY (l := l) h4 hbt with ⟨ps,p5,hv',hn⟩ | ⟨ho',h4',hv',hn⟩
    · rw [hn] at hr
      have c6 : (aF ps).length = 5 := by rw [bF,p5]
      have t6 : (aF ps).take 5 = aF ps := List.take_of_length_le (by omega)
      rw [hv']
      simp only [go_sem,cR,c6,t6]
      exact ⟨aI.refl.app,by rw [hr]⟩
    · rw [hn] at hr
      have c6 : (aF (((bits ||| 2 ^ i : Nat) : Int) :: ho')).length = 5 := by rw [bF,List.length_cons,h4']
      have t6 : (aF (((bits ||| 2 ^ i : Nat) : Int) :: ho')).take 5 = aF (((bits ||| 2 ^ i : Nat) : Int) :: ho') := List.take_of_length_le (by omega)
      have d6 : (aF (((bits ||| 2 ^ i : Nat) : Int) :: ho')).drop 5 = [] := List.drop_of_length_le (by omega)
      rw [hv']
      simp only [go_sem,cR,c6,t6,d6,c5,d5,List.append_nil,List.take_zero,List.nil_append]
      have hIB : ∀ N (z : List Int),AV.bdds N (aF z) := fun N z => qZ N z
      have hkB : ∀ N,Blk.bdd N (.map cQ) := fun N e he => by
       simp only [cQ,List.mem_cons,List.not_mem_nil,or_false] at he
       rcases he with rfl | rfl | rfl | rfl <;> exact ⟨trivial,by simp [AV.bdd,AV.bdds]⟩
      refine ⟨(by unfold I64; omega),fO 3 hb (by simp [cK,cS,cX,dP,eU,dH,AV.bdds,AV.bdd,Pl.bdd,cB]; exact ⟨hkB _,AV.bdd_mono (by omega) _ vb⟩) (by simp [cK,cS,cX,dP,eU,dH,AV.bdds,AV.bdd,Pl.bdd,cB]; exact ⟨AV.bdd_mono (by omega) _ vb,AV.bdd_mono (by omega) _ ob⟩) ?_⟩
      have hnb : bits ||| 2 ^ i < 2 ^ 7 := Nat.or_lt_two_pow hb7 (Nat.pow_lt_pow_right (by omega) (by omega))
      exact ih (j + 1,bits ||| 2 ^ i,ho') ⟨by simp only; omega,h4',hnb,hr⟩ (by simp only; omega)
 · have e1 : ¬ (j : Int) < os.length := by omega
   rw [List.drop_of_length_le (by omega),jI] at hr
   simp only [go_sem,e1]
   exact ⟨aI.refl.app,by rw [hr]⟩
theorem zO {v : AV} {l : List CallD} (things : Int) (hv : CL w0 h v l) (hn : l.length ≤ 1000000) : bD Tryz.prog w0 49 [.int .i64 things,v] h (.bool (fS things l)) h := by
 refine bC aX aCn mf49_b mf49_g (qE rfl) (by simp [AV.bdd,AV.bdds]) fun hb ha => bB ?_
 have hlen := hv.len
 have vb := Sl.bdd hv (Nat.le_refl _)
 obtain ⟨_,q,hix,hrow,_⟩ := Sl.use hv
 rw [List.length_map] at hix
 simp only [go_sem,mf49]
 refine iJ (fun j => [(0,.int .i64 things),(1,v),(5,.int .i64 j)]) (fun j => inB things 1 4 = true → bI (wi (things - 1)) (aP l j) = true) l.length rfl (fun j hj hall ih => ?_) (fun hall => ?_)
 · refine aZ aX wL [0,1,5] L49_0.eq_1 ?_
   have e1 : (j : Int) < l.length := by omega
   have e2 := hix j hj
   have e3 : ∀ L,rdn w0 (h ++ L) (q.add (j * 7)) 7 = some l[j].c := fun L => eL (hrow j _ (eT hj))
   have e3' := hrow j _ (eT hj)
   have hcj : aP l j = l[j] := by rw [aP,List.getD_eq_getElem?_getD,qA hj]; rfl
   rw [hcj] at ih
   obtain ⟨tm,htm⟩ : ∃ tm,tm = wi (things - 1) := ⟨_,rfl⟩
   have htm2 : inB things 1 4 = true → 0 ≤ tm := fun a => by
    simp only [inB,Bool.and_eq_true,decide_eq_true_eq] at a
    rw [htm,kC (by unfold I64; omega)]; omega
   have hbad : (inB things 1 4 = true → bI tm l[j] = false) → fS things l = false := fun a => by
    rw [fS]
    cases hh : inB things 1 4 with
    | false => rfl
    | true => rw [Bool.true_and,List.all_eq_false]; exact ⟨l[j],qG hj,by rw [← htm,a hh]; simp⟩
   rw [← htm] at ih
   simp only [go_sem,hlen,e1,e2,e3,e3']
   obtain ⟨c,hc⟩ : ∃ c,c = l[j] := ⟨_,rfl⟩
   rw [← hc] at hbad ih ⊢
   refine aK (lI c.who 0 3).v ?_
   cases c1 : inB c.who 0 3 with
   | false => simp only [go_sem]; rw [hbad fun _ => by simp [bI,c1]]
   | true =>
   simp only [go_sem]
   refine aK (lI c.kind 1 4).v ?_
   cases c2 : inB c.kind 1 4 with
   | false =>
    simp only [go_sem]
    rw [hbad fun _ => by
     rw [Bool.eq_false_iff]
     intro a
     simp only [bI,Bool.and_eq_true,decide_eq_true_eq] at a
     have : inB c.kind 1 4 = true := by simp only [inB,Bool.and_eq_true,decide_eq_true_eq]; omega
     rw [c2] at this; cases this]
   | true =>
   have c2' := c2
   simp only [inB,Bool.and_eq_true,decide_eq_true_eq] at c2'
   simp only [go_sem,← htm]
   refine aK (lI c.thing 0 tm).v ?_
   cases c3 : inB c.thing 0 tm with
   | false => simp only [go_sem]; rw [hbad fun _ => by simp [bI,c3]]
   | true =>
   simp only [go_sem,← htm]
   refine aK (lI c.other 0 tm).v ?_
   cases c4 : inB c.other 0 tm with
   | false =>
    simp only [go_sem]
    rw [hbad fun a => by
     have h0 := htm2 a
     have : cU tm c = false := by
      rw [cU]
      split
      · rw [c4]; rfl
      · refine decide_eq_false fun e => ?_
        rw [e] at c4
        have : inB 0 0 tm = true := by simp only [inB,Bool.and_eq_true,decide_eq_true_eq]; omega
        rw [c4] at this; cases this
     simp [bI,this]]
   | true =>
   by_cases c5 : c.begin_ < 0
   · simp only [go_sem,c5]; rw [hbad fun _ => by
      rw [Bool.eq_false_iff]; intro a
      simp only [bI,Bool.and_eq_true,decide_eq_true_eq] at a; omega]
   by_cases c6 : c.begin_ ≥ c.end_
   · simp only [go_sem,c5,c6]; rw [hbad fun _ => by
      rw [Bool.eq_false_iff]; intro a
      simp only [bI,Bool.and_eq_true,decide_eq_true_eq] at a; omega]
   by_cases c7 : c.end_ > 1000
   · simp only [go_sem,c5,c6,c7]; rw [hbad fun _ => by
      rw [Bool.eq_false_iff]; intro a
      simp only [bI,Bool.and_eq_true,decide_eq_true_eq] at a; omega]
   simp only [go_sem,c5,c6,c7]
   refine aK (lI c.result (-1) 3).v ?_
   cases c8 : inB c.result (-1) 3 with
   | false => simp only [go_sem]; rw [hbad fun _ => by simp [bI,c8]]
   | true =>
   have good : cU tm c = true → bI tm c = true := fun a => by
    simp only [bI,Bool.and_eq_true,decide_eq_true_eq]
    exact ⟨c1,by omega,by omega,c3,a,by omega,by omega,by omega,c8⟩
   by_cases k4 : c.kind = 4
   · by_cases k5 : c.other = c.thing
     · simp only [go_sem,k4,k5,bne_self_eq_false,beq_self_eq_true]
       rw [hbad fun _ => by
        have : cU tm c = false := by rw [cU,if_pos k4,k5]; simp
        simp [bI,this]]
     · have k5' : (c.other == c.thing) = false := by simpa using k5
       simp only [go_sem,k4,k5',bne_self_eq_false]
       exact ⟨(by unfold I64; omega),fO 0 hb (by simp [HBs]) (by simp [cK,cS,cX,dP,eU,dH,AV.bdds,AV.bdd,Pl.bdd,cB]; exact AV.bdd_mono (by omega) _ vb) (ih fun _ => good (by rw [cU,if_pos k4,c4]; simp [k5]))⟩
   · by_cases k5 : c.other = 0
     · simp only [go_sem,k4,k5,bne_self_eq_false]
       exact ⟨(by unfold I64; omega),fO 0 hb (by simp [HBs]) (by simp [cK,cS,cX,dP,eU,dH,AV.bdds,AV.bdd,Pl.bdd,cB]; exact AV.bdd_mono (by omega) _ vb) (ih fun _ => good (by rw [cU,if_neg k4]; simp [k5]))⟩
     · have k5' : (c.other != 0) = true := by simpa using k5
       simp only [go_sem,k4,k5']
       rw [hbad fun _ => by
        have : cU tm c = false := by rw [cU,if_neg k4]; simp [k5]
        simp [bI,this]]
 · refine aZ aX wL [0,1,5] L49_0.eq_1 ?_
   have e1 : ¬ (l.length : Int) < l.length := by omega
   simp only [go_sem,hlen,e1]
   refine aK (lI things 1 4).v ?_
   have : fS things l = inB things 1 4 := by
    rw [fS]
    cases hh : inB things 1 4 with
    | false => rfl
    | true =>
     rw [Bool.true_and,List.all_eq_true]
     intro c hc
     obtain ⟨j,hj,rfl⟩ := List.getElem_of_mem hc
     have := hall j hj hh
     rwa [aP,List.getD_eq_getElem?_getD,qA hj] at this
   rw [this]
   simp only [go_sem]
def fG (os : List Int) (n : Nat) : Bool := decide os.Nodup && (os.all (fun x => inB x 0 ((n : Int) - 1)) && decide (os.length = n))
theorem pV {ov : AV} {os : List Int} (n : Nat) (ho : SlI w0 h ov os) (hn : n ≤ 1000) (hon : os.length ≤ 9223372036854775807) : bD Tryz.prog w0 52 [ov,.int .i64 n] h (.bool (fG os n)) h := by
 refine bC aX aCm mf52_b mf52_g (qE rfl) (by simp [AV.bdd,AV.bdds]) fun hb ha => bB ?_
 have hlo := (SlI.use ho).1
 have w1 : wi ((n : Int) - 1) = n - 1 := kC (by unfold I64; omega)
 simp only [go_sem,mf52]
 refine iJ (fun j => [(0,ov),(1,.int .i64 n),(5,.int .i64 j)]) (fun j => inB (os.getD j 0) 0 ((n : Int) - 1) = true ∧ ∀ k,k < j → os.getD k 0 ≠ os.getD j 0) os.length rfl (fun j hj hall ih => ?_) (fun hall => ?_)
 · refine aZ aX wJ [0,1,5] L52_1.eq_1 ?_
   have e1 : (j : Int) < os.length := by omega
   obtain ⟨pj,i1,r1,r1'⟩ := ho.getD_at hj
   simp only [go_sem,hlo,e1,i1,r1,r1',w1]
   refine aK (lI (os.getD j 0) 0 ((n : Int) - 1)).v ?_
   cases c1 : inB (os.getD j 0) 0 ((n : Int) - 1) with
   | false =>
    simp only [go_sem]
    have : fG os n = false := by
     rw [fG]
     have : os.all (fun x => inB x 0 ((n : Int) - 1)) = false := by
      rw [List.all_eq_false]; exact ⟨os[j],qG hj,by rw [← Ab.getD_at (d := 0) hj,c1]; simp⟩
     rw [this]; simp
    rw [this]
   | true =>
   simp only [go_sem]
   refine iJ (fun k => [(0,ov),(1,.int .i64 n),(5,.int .i64 j),(6,.int .i64 k)]) (fun k => os.getD k 0 ≠ os.getD j 0) j rfl (fun k hk hall2 ih2 => ?_) (fun hall2 => ?_)
   · refine aZ aX wK [0,1,5,6] L52_0.eq_1 ?_
     have e2 : (k : Int) < j := by omega
     obtain ⟨pk,i2,r2,r2'⟩ := ho.getD_at (show k < os.length by omega)
     by_cases q : os.getD k 0 = os.getD j 0
     · simp only [go_sem,e2,i1,r1,r1',i2,r2,r2',q,beq_self_eq_true]
       have : fG os n = false := by
        have : ¬ os.Nodup := fun hnd => by
         rw [List.Nodup,List.pairwise_iff_getElem] at hnd
         have := hnd k j (by omega) hj hk
         rw [Ab.getD_at hj,Ab.getD_at (show k < os.length by omega)] at q
         exact this q
        rw [fG,decide_eq_false this]; rfl
       rw [this]
     · have q' : (os.getD k 0 == os.getD j 0) = false := by simpa using q
       simp only [go_sem,e2,i1,r1,r1',i2,r2,r2',q']
       exact ⟨(by unfold I64; omega),ih2 q⟩
   · refine aZ aX wK [0,1,5,6] L52_0.eq_1 ?_
     have e2 : ¬ (j : Int) < j := by omega
     simp only [go_sem,e2]
     exact ⟨(by unfold I64; omega),ih ⟨c1,hall2⟩⟩
 · refine aZ aX wJ [0,1,5] L52_1.eq_1 ?_
   have e1 : ¬ (os.length : Int) < os.length := by omega
   simp only [go_sem,hlo,e1]
   have h1 : os.Nodup := by
    rw [List.Nodup,List.pairwise_iff_getElem]
    intro i j hi hj hij
    have := (hall j hj).2 i hij
    rwa [Ab.getD_at hj,Ab.getD_at hi] at this
   have h2 : os.all (fun x => inB x 0 ((n : Int) - 1)) = true := by
    rw [List.all_eq_true]
    intro x hx
    obtain ⟨j,hj,rfl⟩ := List.getElem_of_mem hx
    have := (hall j hj).1
    rwa [Ab.getD_at hj] at this
   rw [fG,decide_eq_true h1,h2,Bool.true_and,Bool.true_and]
   by_cases q : os.length = n
   · subst q; simp
   · have : ¬ (os.length : Int) = n := by omega
     simp [q,this]
theorem nQ {l : List CallD} {i : Nat} (hi : i < l.length) : aP l i = l[i] := by rw [aP,List.getD_eq_getElem?_getD,qA hi]; rfl
theorem mC {r : List Nat} {j : Nat} (hj : j < r.length) : (cP r).getD j 0 = r[j] := by
 rw [List.getD_eq_getElem?_getD,cP,List.getElem?_map,qA hj]; rfl
theorem iP {l : List CallD} : ∀ {os : List Int} {p : Nat × List Int},jI l p os = (os.all (fun x => inB x 0 ((l.length : Int) - 1)) && (fA l.length (eK l) p (os.map Int.toNat)).isSome)
 | [],p => rfl
 | i :: r,p => by
  rw [jI,List.map_cons,fA,List.all_cons]
  cases c : inB i 0 ((l.length : Int) - 1) with
  | false => rfl
  | true =>
   have : i.toNat < l.length := by
    simp only [inB,Bool.and_eq_true,decide_eq_true_eq] at c; omega
   rw [if_pos this,Bool.true_and,Bool.true_and]
   cases e : eK l p i.toNat with
   | none => simp
   | some q => rw [Option.bind_some]; exact iP
theorem tP {os : List Int} {n : Nat} (h : os.all (fun x => inB x 0 ((n : Int) - 1)) = true) : os = cP (os.map Int.toNat) ∧ ∀ i ∈ os.map Int.toNat,i < n := by
 have h := List.all_eq_true.1 h
 have h' : ∀ x ∈ os,0 ≤ x ∧ x < n := fun x hx => by
  have := h x hx
  simp only [inB,Bool.and_eq_true,decide_eq_true_eq] at this; omega
 refine ⟨?_,fun i hi => ?_⟩
 · rw [cP,List.map_map]
   refine Eq.trans (List.map_id os).symm (List.map_congr_left fun x hx => ?_)
   have := h' x hx
   show x = ((x.toNat : Nat) : Int)
   omega
 · obtain ⟨x,hx,rfl⟩ := List.mem_map.1 hi
   have := h' x hx; omega
theorem rJ {r : List Nat} : (cP r).Nodup ↔ r.Nodup := by
 rw [cP,List.Nodup,List.Nodup,List.pairwise_map]
 exact List.Pairwise.iff (by intro a b; omega)
theorem rP : ∀ {a b : List Nat},a.length = b.length → kQ (cP a) (cP b) = lexB a b
 | [],[],_ => rfl
 | x :: a,y :: b,e => by
  have ih := rP (a := a) (b := b) (by simpa using e)
  simp only [cP,List.map_cons] at ih ⊢
  rw [kQ,lexB]
  rw [ih]
  by_cases h : x = y
  · subst h; simp
  · have : ¬ (x : Int) = y := by omega
    rw [if_neg this]; simp [h]
theorem rF {l : List CallD} {os : List Int} (hn : iO l = none) : jJ l os = false := by
 rw [jJ]
 by_cases q : os.length = l.length
 · rw [iP,fQ (r := os.map Int.toNat) hn (by rw [List.length_map,q])]; simp
 · rw [decide_eq_false q]; rfl
theorem rG {l : List CallD} {t : Nat} {x : List Nat} (hall : ∀ c ∈ l,bI ((t : Int) - 1) c = true) (t4 : t ≤ 4) (h : iO l = some x) : goodO l t x ∧ x.length = l.length ∧ fG (cP x) l.length = true := by
 obtain ⟨h1,h2⟩ := jV h
 have hg := (pathP hall (show (t : Int) - 1 < t by omega) t4 h1).1 h2
 refine ⟨hg,h1,?_⟩
 rw [fG,decide_eq_true (rJ.2 hg.1),dZ,decide_eq_true h1,Bool.true_and,Bool.and_true,List.all_eq_true]
 intro y hy
 rw [cP,List.mem_map] at hy
 obtain ⟨i,hi,rfl⟩ := hy
 have := hg.2.1 i hi
 simp only [inB,Bool.and_eq_true,decide_eq_true_eq]; omega
theorem oO {l : List CallD} {x : List Nat} {os : List Int} (h : iO l = some x) (he : jJ l os = true) : kQ os (cP x) = false := by
 rw [jJ,Bool.and_eq_true,decide_eq_true_eq,iP,Bool.and_eq_true] at he
 obtain ⟨e,_⟩ := tP he.2.1
 have hl : (os.map Int.toNat).length = l.length := by rw [List.length_map,he.1]
 have := nI h hl he.2.2
 rw [← rP (by rw [hl,(jV h).1]),← e] at this
 exact this
set_option maxRecDepth 20000 in
theorem pH {v ov : AV} {l : List CallD} {os : List Int} (things : Int) (hv : CL w0 h v l) (ho : SlI w0 h ov os) (hn : l.length ≤ 9223372036854775807) (hon : os.length ≤ 9223372036854775807) :
 bD Tryz.prog w0 12 [.int .i64 things,v,ov] h (.bool true) h := by
 refine fU trivial (bA aX aCY mf12_b mf12_g (qE rfl) fun hb ha => bB ?_)
 have hlo := (SlI.use ho).1
 have hlen := hv.len
 by_cases q1 : (l.length : Int) > 7
 · simp only [go_sem,mf12,hlen,q1]
   refine aK jE.v ?_
   simp only [go_sem]
   exact aI.refl.app
 simp only [go_sem,mf12,hlen,q1]
 refine aK (zO things hv.app (by omega)).v ?_
 cases hcb : fS things l with
 | false =>
  simp only [go_sem]
  refine aK jE.v ?_
  simp only [go_sem]
  exact aI.refl.app
 | true =>
 simp only [go_sem,hlen]
 refine aK (pV l.length ho.app (by omega) hon).v ?_
 cases hor : fG os l.length with
 | false =>
  simp only [go_sem]
  refine aK jE.v ?_
  simp only [go_sem]
  exact aI.refl.app
 | true =>
 have e : cH things l = 0 := by rw [cH,if_neg (by omega),hcb]; rfl
 obtain ⟨n,rfl,⟨n1,n4⟩,hall,hn7⟩ := iQ e
 have hol : os.length = l.length := by
  rw [fG,Bool.and_eq_true,Bool.and_eq_true,decide_eq_true_eq,decide_eq_true_eq] at hor; exact hor.2.2
 simp only [go_sem]
 refine aV (ACall.vc (first := []) (capt := []) (aBq (n : Int) hv.app)) ?_
 rintro y H ⟨sH,hy⟩
 have sH' := (aI.refl.app).trans sH
 rw [LinK,if_pos e] at hy
 cases hf : iO l with
 | none =>
  rw [hf] at hy
  subst hy
  simp only [go_sem]
  refine aV (ACall.vc (first := []) (capt := []) (mK (n : Int) (hv.sub sH') (Sl.sub ho sH'))) ?_
  rintro z H2 ⟨sH2,rfl⟩
  rw [if_pos e,rF hf]
  simp only [go_sem]
  refine aK jE.v ?_
  simp only [go_sem]
  exact sH'.trans sH2
 | some x =>
 rw [hf] at hy
 obtain ⟨lv,rfl,hl⟩ := hy
 obtain ⟨hgood,hxl,hxo⟩ := rG hall n4 hf
 simp only [go_sem]
 refine aV (ACall.vc (first := []) (capt := []) (mK (n : Int) (hv.sub sH') (Sl.sub ho sH'))) ?_
 rintro z H2 ⟨sH2,rfl⟩
 rw [if_pos e]
 have s2 := sH'.trans sH2
 simp only [go_sem,hlen]
 refine aK (pV l.length (Sl.sub hl sH2) (by omega) (by rw [dZ]; omega)).v ?_
 rw [hxo]
 simp only [go_sem]
 cases hex : jJ l os
 case' true =>
  simp only [go_sem]
  refine aK (xE (Sl.sub ho s2) (Sl.sub hl sH2) (by omega)).v ?_
  rw [oO hf hex]
  simp only [go_sem]
 case' false =>
  simp only [go_sem]
 all_goals
  refine aV (ACall.vc (first := []) (capt := []) (zX n (by omega))) ?_
  intro nv H3 hG
  obtain ⟨ia,hia,rfl,hHa,_,_⟩ := hG.put (by omega)
  simp only [go_sem]
  obtain ⟨_,q,hix,hrow,_⟩ := Sl.use hv
  rw [List.length_map] at hix
  have hlv := (SlI.use hl).1
  rw [dZ] at hlv
  refine iI (S := Nat × Heap × List Int) (F := fun s => [(1,v),(7,lv),(11,.sl (.own ia 0) n 1 false),(12,.int .i64 s.1)]) (H := fun s => s.2.1) (meas := fun s => x.length - s.1)
   (Inv := fun s => s.1 ≤ x.length ∧ aI H2 s.2.1 ∧ s.2.1[ia]? = some (some (.row (aF s.2.2))) ∧ s.2.2.length = n ∧ mG l (x.take s.1) s.2.2 (x.drop s.1) = true) (0,H3,eM n) ⟨Nat.zero_le _,hG.sub,hHa,by simp [eM],hgood.2.2⟩ rfl rfl ?_
  rintro ⟨j,G,hd⟩ ⟨hj,sG,hA,hdl,hE⟩ ih
  simp only at hj sG hA hdl hE ih ⊢
  refine aZ aX aDS [1,7,11,12] L12_1.eq_1 ?_
  have sG' := s2.trans sG
  by_cases hjl : j < x.length
  · have e1 : (j : Int) < x.length := by omega
    obtain ⟨pj,i1,r1,r1'⟩ := SlI.getD_at (w0 := w0) (h := G) (Sl.sub hl (sH2.trans sG)) (j := j) (by rw [dZ]; exact hjl)
    rw [mC hjl] at r1 r1'
    have hil : x[j] < l.length := hgood.2.1 _ (qG hjl)
    obtain ⟨i,hi⟩ : ∃ i,i = x[j] := ⟨_,rfl⟩
    rw [← hi] at r1 r1' hil
    rw [List.drop_eq_getElem_cons hjl,← hi,mG,Bool.and_eq_true,Bool.and_eq_true,decide_eq_true_eq,nQ hil] at hE
    obtain ⟨hE1,hE2,hE3⟩ := hE
    have x1 := hix i hil
    have y0 : rdn w0 G (q.add (i * 7)) 7 = some l[i].c := sG'.rdn (hrow i _ (eT hil))
    have y1 : ∀ L,rdn w0 (G ++ L) (q.add (i * 7)) 7 = some l[i].c := fun L => eL y0
    simp only [go_sem,hlv,e1,i1,r1,r1',bT,x1,y0,y1]
    refine iJ (fun k => [(1,v),(7,lv),(11,.sl (.own ia 0) n 1 false),(12,.int .i64 j),(13,.ptr (.own G.length 0)),(14,.int .i64 k)]) (fun k => True) j rfl (fun k hk hall2 ih2 => ?_) (fun hall2 => ?_)
    · refine aZ aX wN [1,7,11,12,13,14] L12_0.eq_1 ?_
      have e2 : (k : Int) < j := by omega
      have hkl : k < x.length := by omega
      obtain ⟨pk,i2,r2,r2'⟩ := SlI.getD_at (w0 := w0) (h := G) (Sl.sub hl (sH2.trans sG)) (j := k) (by rw [dZ]; exact hkl)
      rw [mC hkl] at r2 r2'
      have hml : x[k] < l.length := hgood.2.1 _ (qG hkl)
      have hmem : x[k] ∈ x.take j := by
       rw [List.mem_iff_getElem?]
       exact ⟨k,by rw [List.getElem?_take_of_lt hk,qA hkl]⟩
      obtain ⟨m,hm⟩ : ∃ m,m = x[k] := ⟨_,rfl⟩
      rw [← hm] at r2 r2' hml hmem
      have x2 := hix m hml
      have y2 : ∀ L,rd w0 (G ++ L) ((q.add (m * 7)).add 4) = some (.int .i64 l[m].begin_) := fun L => lJ (oE (sG'.rdn (hrow m _ (eT hml))) (o := 4) rfl)
      have q1 : ¬ l[i].end_ < l[m].begin_ := by
       have := List.all_eq_true.1 hE1 m hmem
       rw [nQ hml] at this
       simpa using this
      simp only [go_sem,e2,i2,r2,r2',bT,x2,y2,q1]
      exact ⟨(by unfold I64; omega),ih2 trivial⟩
    · refine aZ aX wN [1,7,11,12,13,14] L12_0.eq_1 ?_
      have e2 : ¬ (j : Int) < j := by omega
      have hcB := hall _ (qG hil)
      obtain ⟨c,hc⟩ : ∃ c,c = l[i] := ⟨_,rfl⟩
      rw [← hc] at hcB hE2 hE3 ⊢
      simp only [bI,inB,Bool.and_eq_true,decide_eq_true_eq] at hcB
      obtain ⟨⟨w1,w2⟩,k1,k4,⟨t0,t1⟩,hoB,_⟩ := hcB
      obtain ⟨t,hct⟩ : ∃ t : Nat,c.thing = t := ⟨c.thing.toNat,by omega⟩
      have htl : t < hd.length := by omega
      have g1 : (aF hd)[t]? = some (.int .i64 (hd.getD t 0)) := fP htl
      have htn : t < n := by omega
      have stp : ∀ (K : Heap) (hd' : List Int),aI H2 K → K[ia]? = some (some (.row (aF hd'))) → hd'.length = n → mG l (x.take j ++ [i]) hd' (x.drop (j + 1)) = true → lp Tryz.prog w0 none 220 h.length _ _ _ [(1,v),(7,lv),(11,.sl (.own ia 0) n 1 false),(12,.int .i64 ((j : Int) + 1))] K := fun K hd' z1 z2 z3 z4 =>
       ih (j + 1,K,hd') ⟨hjl,z1,z2,z3,by rw [List.take_add_one,qA hjl,← hi]; exact z4⟩ (by simp only; omega)
      have hiG : ia < G.length := aH hA
      have sGX : ∀ L (X : Option Blk),aI H2 ((G ++ L).set ia X) := fun L X => (sG.app).setR (by have := hG.sub.1; omega)
      have stX : ∀ L (X : Option Blk),((G ++ L).set ia X)[ia]? = some X := fun L X => by rw [qF (by simp; omega)]
      have o1 : ∀ f,dM 1 (.sl (.own ia 0) n 1 f) (some t) = some (.ptr (.own ia t)) := fun f => by rw [zT htn,Nat.mul_one]
      have g3 : t + 1 ≤ (aF hd).length := by rw [bF]; omega
      rw [doD] at hE2 hE3
      rw [hct,Int.toNat_natCast] at hE2 hE3
      obtain ⟨bm,hbm⟩ : ∃ b,(hd.getD t 0 == c.who) = b := ⟨_,rfl⟩
      obtain ⟨bf,hbf⟩ : ∃ b,(hd.getD t 0 == -1) = b := ⟨_,rfl⟩
      have hno : bm = true → bf = true → False := fun a b => by
       rw [a,beq_iff_eq] at hbm; rw [b,beq_iff_eq] at hbf; omega
      rcases (by omega : c.kind = 1 ∨ c.kind = 2 ∨ c.kind = 3 ∨ c.kind = 4) with k | k | k | k
      · rw [if_pos k] at hE2 hE3
        cases bf
        · rw [beq_eq_false_iff_ne] at hbf
          have hbf' : (hd.getD t 0 == -1) = false := by simpa using hbf
          rw [if_neg hbf] at hE2 hE3
          have hr : c.result = 0 := hE2.symm
          simp only [go_sem,e2,hct,bT,xL hA,g1,o1,hbm,hbf',k,hr]
          exact ⟨(by unfold I64; omega),stp _ _ sG.app (xL hA _) hdl hE3⟩
        · have hbf' := hbf
          rw [beq_iff_eq] at hbf
          rw [if_pos hbf] at hE2 hE3
          have hr : c.result = 1 := hE2.symm
          simp only [go_sem,e2,hct,bT,xL hA,g1,o1,hbm,hbf',k,hr,g3]
          exact ⟨(by unfold I64; omega),stp _ _ (sGX _ _) (by rw [stX,eF htl]) (by rw [List.length_set]; exact hdl) hE3⟩
      · rw [if_neg (by omega),if_pos k] at hE2 hE3
        cases bm
        · have hbm' := hbm
          rw [beq_eq_false_iff_ne] at hbm
          rw [if_neg hbm] at hE2 hE3
          have hr : c.result = 0 := hE2.symm
          simp only [go_sem,e2,hct,bT,xL hA,g1,o1,hbm',hbf,k,hr]
          exact ⟨(by unfold I64; omega),stp _ _ sG.app (xL hA _) hdl hE3⟩
        · have hbm' := hbm
          rw [beq_iff_eq] at hbm
          rw [if_pos hbm] at hE2 hE3
          have hr : c.result = 1 := hE2.symm
          simp only [go_sem,e2,hct,bT,xL hA,g1,o1,hbm',hbf,k,hr,g3]
          exact ⟨(by unfold I64; omega),stp _ _ (sGX _ _) (by rw [stX,eF htl]) (by rw [List.length_set]; exact hdl) hE3⟩
      · rw [if_neg (by omega),if_neg (by omega),if_pos k] at hE2 hE3
        have hr : c.result = hd.getD t 0 := hE2.symm
        simp only [go_sem,e2,hct,bT,xL hA,g1,o1,hbm,hbf,k,hr,bne_self_eq_false]
        exact ⟨(by unfold I64; omega),stp _ _ sG.app (xL hA _) hdl hE3⟩
      · rw [cU,if_pos k] at hoB
        simp only [inB,Bool.and_eq_true,decide_eq_true_eq] at hoB
        obtain ⟨u,hcu⟩ : ∃ u : Nat,c.other = u := ⟨c.other.toNat,by omega⟩
        have hul : u < hd.length := by omega
        have hun : u < n := by omega
        have g1u : (aF hd)[u]? = some (.int .i64 (hd.getD u 0)) := fP hul
        have o2 : ∀ f,dM 1 (.sl (.own ia 0) n 1 f) (some u) = some (.ptr (.own ia u)) := fun f => by rw [zT hun,Nat.mul_one]
        rw [if_neg (by omega),if_neg (by omega),if_neg (by omega),if_pos k,hcu,Int.toNat_natCast] at hE2 hE3
        cases bm
        · have hbm' := hbm
          rw [beq_eq_false_iff_ne] at hbm
          rw [if_neg (fun x => hbm x.1)] at hE2 hE3
          have hr : c.result = 0 := hE2.symm
          simp only [go_sem,e2,hct,hcu,bT,xL hA,g1,o1,hbm',hbf,k,hr]
          exact ⟨(by unfold I64; omega),stp _ _ sG.app (xL hA _) hdl hE3⟩
        · have hbm' := hbm
          rw [beq_iff_eq] at hbm
          by_cases qu : hd.getD u 0 = -1
          · have qu' : (hd.getD u 0 == -1) = true := by simpa using qu
            rw [if_pos ⟨hbm,qu⟩] at hE2 hE3
            have hr : c.result = 1 := hE2.symm
            simp only [go_sem,e2,hct,hcu,bT,xL hA,g1,g1u,o1,o2,hbm',hbf,qu',k,hr]
            refine aA9 aX [0,1,2,3,4,5,6,7,8,9,10,11] [o_ 209 (m_ 11),o_ 210 (.addr (.t 13) 2),o_ 211 (l_ 210),o_ 212 (m_ 11),o_ 213 (.addr (.t 13) 3),o_ 214 (l_ 213),o_ 215 (.addr (.t 13) 0),o_ 216 (l_ 215),o_ 217 (.idxs 1 (.t 209) (.t 211)),.op none none (.store (.t 217) (i_ (-1)) 1)] [([(5,o_ 214 (l_ 213)),(7,o_ 216 (l_ 215))],[o_ 218 (.idxs 1 (.t 212) (.t 214)),.op none none (.store (.t 218) (.t 216) 1)])] rfl rfl (by kernel_rfl) ?_
            have p1 : (aF hd).take t ++ .int .i64 (-1) :: (aF hd).drop (t + 1) = aF (hd.set t (-1)) := eF htl
            have g4 : u + 1 ≤ (aF (hd.set t (-1))).length := by rw [bF,List.length_set]; omega
            have p2 : (aF (hd.set t (-1))).take u ++ .int .i64 c.who :: (aF (hd.set t (-1))).drop (u + 1) = aF ((hd.set t (-1)).set u c.who) := eF (by rw [List.length_set]; exact hul)
            have x0 : ∀ R X,(List.set (G ++ [some (Blk.row R)]) ia X)[G.length]? = some (some (Blk.row R)) := fun R X => by rw [qB (by omega),qI (Nat.le_refl _),Nat.sub_self]; rfl
            simp only [go_sem,k,hct,hcu,bT,xL hA,o1,o2,g3,p1,g4,p2,x0,stX]
            refine ⟨(by unfold I64; omega),stp _ _ ((sGX _ _).setR (by have := hG.sub.1; omega)) (by rw [qF (by simp; omega)]) (by simp; exact hdl) hE3⟩
          · have qu' : (hd.getD u 0 == -1) = false := by simpa using qu
            rw [if_neg (fun x => qu x.2)] at hE2 hE3
            have hr : c.result = 0 := hE2.symm
            simp only [go_sem,e2,hct,hcu,bT,xL hA,g1,g1u,o1,o2,hbm',hbf,qu',k,hr]
            exact ⟨(by unfold I64; omega),stp _ _ sG.app (xL hA _) hdl hE3⟩
  · have e1 : ¬ (j : Int) < x.length := by omega
    simp only [go_sem,hlv,e1]
    refine aK jE.v ?_
    simp only [go_sem]
    exact sG'
end Go.Proofs.Ab

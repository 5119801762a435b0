/- The own layer under the proofs of this seat, part O: what calls of the program come to on an abstract heap. No condition. -/
import Derived.Test.YtajecdfdnlfndaaGreatN
set_option linter.unusedSimpArgs false
set_option linter.unusedVariables false
namespace Go.Proofs.Ab
open Go Go.Proofs
variable {w0 : World} {h : Heap}
attribute [local irreducible] ACall aR bY bD cO rvC lp rg dr ex un rv
theorem iU {things : Int} {l : List CallD} (h : bI things l = 0) : ∃ n : Nat,things = n ∧ (1 ≤ n ∧ n ≤ 4) ∧ (∀ c ∈ l,bE ((n : Int) - 1) c = true) ∧ l.length ≤ 7 := by
 rw [bI] at h
 split at h
 · cases h
 · split at h
   · rename_i h1 h2
     rw [eN,Bool.and_eq_true,List.all_eq_true] at h2
     obtain ⟨h2,h3⟩ := h2
     simp only [inB,Bool.and_eq_true,decide_eq_true_eq] at h2
     obtain ⟨n,rfl⟩ : ∃ n : Nat,things = n := ⟨things.toNat,by omega⟩
     rw [kE (by unfold I64; omega)] at h3
     exact ⟨n,rfl,by omega,h3,by omega⟩
   · cases h
def jV (l : List CallD) : Option (List Nat) := dfs l.length (eG l) l.length (0,eA 4)
def tZ (w0 : World) (H : Heap) (y : AV) (things : Int) (l : List CallD) : Prop :=
 if bI things l = 0 then match jV l with
  | some r => ∃ lv,y = .tup [lv,.int .i64 0] ∧ SlI w0 H lv (bU r)
  | none => y = .tup [.nilS,.int .i64 5]
 else y = .tup [.nilS,.int .i64 (bI things l)]
theorem aBJ {v : AV} {l : List CallD} (things : Int) (hv : CL w0 h v l) : ACall Tryz.prog w0 47 [.int .i64 things,v] h fun y H => aG h H ∧ tZ w0 H y things l := by
 refine aU aV uY aAv aAu (qE rfl) fun hb ha => aZ ?_
 simp only [go_sem,mf47]
 refine aI (rR things hv.app).v ?_
 by_cases e : bI things l = 0
 case neg =>
  have e' : (bI things l != 0) = true := by simpa using e
  simp only [go_sem,e']
  exact ⟨aG.refl.app,by rw [tZ,if_neg e]⟩
 simp only [go_sem,e]
 refine aS (ACall.vc (first := []) wE) ?_
 rintro _ _ ⟨rfl,rfl⟩
 have o := Sl.one hv
 simp only [go_sem,o.1,o.2,List.append_nil]
 refine aI aBk.v ?_
 obtain ⟨n,rfl,⟨n1,n4⟩,hall,hn7⟩ := iU e
 simp only [go_sem,show aF (eA 4) = [.int .i64 (-1),.int .i64 (-1),.int .i64 (-1),.int .i64 (-1)] from rfl]
 obtain ⟨X,eX⟩ : ∃ X,X = h ++ [some (.map cQ),some (.map []),some (Blk.row [v,AV.map h.length,AV.nilS,AV.map (h.length + 1)])] := ⟨_,rfl⟩
 rw [← eX]
 have st : FSt w0 (h ++ [some (.map cQ)]) h.length v l ((n : Int) - 1) := ⟨hv.app,by rw [qI (Nat.le_refl _),Nat.sub_self]; rfl,hall,by omega,hn7⟩
 have hO : OutS (h ++ [some (.map cQ)]) X (h.length + 2) (h.length + 1) h.length v l .nilS [] := by
  refine ⟨?_,?_,?_,?_,by omega,⟨[],?_,fun m hm => by cases hm⟩,.inl ⟨rfl,rfl⟩⟩
  · rw [eX,show h ++ [some (Blk.map cQ),some (.map []),some (Blk.row [v,AV.map h.length,AV.nilS,AV.map (h.length + 1)])] = (h ++ [some (.map cQ)]) ++ [some (.map []),some (Blk.row [v,AV.map h.length,AV.nilS,AV.map (h.length + 1)])] by rw [List.append_assoc]; rfl]
    exact aG.refl.app
  · rw [eX,qI (by omega),show h.length + 2 - h.length = 2 by omega]; rfl
  · intro b e; have := aJ e; simp at this
  · intro b e; have := aJ e; simp at this
  · rw [eX,qI (by omega),show h.length + 1 - h.length = 1 by omega]; rfl
 refine aS (ACall.vc (first := []) (find_c l.length (h ++ [some (.map cQ)]) st [] 0 (eA 4) X .nilS (by simp) ⟨by simp,by simp,by simp⟩ rfl hO)) ?_
 rintro y H ⟨ov',hy⟩
 cases hf : dfs l.length (eG l) l.length (0,eA 4) with
 | none =>
  rw [hf] at hy
  obtain ⟨rfl,hy⟩ := hy
  simp only [go_sem]
  refine ⟨aG.refl.app.trans hy.sub,?_⟩
  rw [tZ,if_pos e,jV,hf]
 | some r =>
  rw [hf] at hy
  obtain ⟨rfl,hy⟩ := hy
  rw [List.nil_append] at hy
  have c1 := hy.box
  simp only [go_sem,c1]
  refine ⟨aG.refl.app.trans hy.sub,?_⟩
  rw [tZ,if_pos e,jV,hf]
  exact ⟨_,rfl,hy.slI⟩
def jM (l : List CallD) : Nat × List Int → List Int → Bool
 | _,[] => true
 | p,i :: r => (inB i 0 ((l.length : Int) - 1)) && match eG l p i.toNat with
  | none => false
  | some q => jM l q r
def lZ (l : List CallD) (os : List Int) : Bool := decide (os.length = l.length) && jM l (0,eA 4) os
theorem uE {v ov : AV} {l : List CallD} {os : List Int} (things : Int) (hv : CL w0 h v l) (ho : SlI w0 h ov os) : ACall Tryz.prog w0 48 [.int .i64 things,v,ov] h fun y H => aG h H ∧
 y = if bI things l = 0 then .tup [.bool (lZ l os),.int .i64 0] else .tup [.bool false,.int .i64 (bI things l)] := by
 refine aU aV aCN mf48_b mf48_g (qE rfl) fun hb ha => aZ ?_
 have hlo := (SlI.use ho).1
 have hlen := hv.len
 simp only [go_sem,mf48]
 refine aI (rR things hv.app).v ?_
 by_cases e : bI things l = 0
 case neg =>
  have e' : (bI things l != 0) = true := by simpa using e
  simp only [go_sem,e']
  exact ⟨aG.refl.app,by rw [if_neg e]⟩
 rw [if_pos e]
 obtain ⟨n,rfl,⟨n1,n4⟩,hall,hn7⟩ := iU e
 by_cases q : (os.length : Int) = l.length
 case neg =>
  have q' : ((os.length : Int) != l.length) = true := by simpa using q
  simp only [go_sem,e,hlo,hlen,q']
  exact ⟨aG.refl.app,by rw [lZ,decide_eq_false (by omega)]; rfl⟩
 simp only [go_sem,e,hlo,hlen,q,bne_self_eq_false]
 refine aS (ACall.vc (first := []) wE) ?_
 rintro _ _ ⟨rfl,rfl⟩
 have o := Sl.one hv
 simp only [go_sem,o.1,o.2,List.append_nil]
 refine aI aBk.v ?_
 simp only [go_sem,show aF (eA 4) = [.int .i64 (-1),.int .i64 (-1),.int .i64 (-1),.int .i64 (-1)] from rfl,hlo]
 have vb := Sl.bdd hv (Nat.le_refl _)
 have ob := ho.bdd (Nat.le_refl _)
 have hE : lZ l os = jM l (0,eA 4) os := by rw [lZ,decide_eq_true (by omega),Bool.true_and]
 rw [hE]
 have w1 : wi ((l.length : Int) - 1) = l.length - 1 := kE (by unfold I64; omega)
 refine gE (S := Nat × Nat × List Int) (F := fun s => [(1,v),(9,.ptr (.own (h.length + 1) 0)),(10,.ptr (.own (h.length + 2) 0)),(31,ov),(32,.int .i64 os.length),(33,.int .i64 s.1)])
  (H := fun s => h ++ [some (.map cQ),some (.row [v,.map h.length]),some (.row (aF ((s.2.1 : Int) :: s.2.2)))]) (meas := fun s => os.length - s.1)
  (Inv := fun s => s.1 ≤ os.length ∧ s.2.2.length = 4 ∧ s.2.1 < 2 ^ 7 ∧ jM l (0,eA 4) os = jM l (s.2.1,s.2.2) (os.drop s.1)) (0,0,eA 4) ⟨Nat.zero_le _,rfl,by decide,rfl⟩ rfl rfl ?_
 rintro ⟨j,bits,hd⟩ ⟨hj,h4,hb7,hr⟩ ih
 simp only at hj h4 hb7 hr ih ⊢
 refine aY aV aEi [1,9,10,31,32,33] L48_0.eq_1 ?_
 have b0 : (aF ((bits : Int) :: hd))[0]? = some (.int .i64 bits) := rfl
 have c5 : (aF ((bits : Int) :: hd)).length = 5 := by rw [bG,List.length_cons,h4]
 have t5 : (aF ((bits : Int) :: hd)).take 5 = aF ((bits : Int) :: hd) := List.take_of_length_le (by omega)
 have d5 : (aF ((bits : Int) :: hd)).drop 5 = [] := List.drop_of_length_le (by omega)
 by_cases hjl : j < os.length
 · have e1 : (j : Int) < os.length := by omega
   obtain ⟨pp,i1,r1,r1'⟩ := SlI.at_ ho hjl
   rw [List.drop_eq_getElem_cons hjl,jM] at hr
   simp only [go_sem,e1,i1,r1,r1',hlen,w1]
   refine aI (rI os[j] 0 ((l.length : Int) - 1)).v ?_
   cases c1 : inB os[j] 0 ((l.length : Int) - 1) with
   | false =>
    rw [c1,Bool.false_and] at hr
    simp only [go_sem]
    exact ⟨aG.refl.app,by rw [hr]⟩
   | true =>
   rw [c1,Bool.true_and] at hr
   simp only [inB,Bool.and_eq_true,decide_eq_true_eq] at c1
   obtain ⟨i,hi⟩ : ∃ i : Nat,os[j] = i := ⟨os[j].toNat,by omega⟩
   rw [hi,Int.toNat_natCast] at hr
   have hil : i < l.length := by omega
   have s1 := oY (a := bits) (n := i) (by omega)
   have s2 := mI (a := bits / 2 ^ i) (by have := Nat.div_le_self bits (2 ^ i); omega)
   rw [oA] at s2
   cases hbt : bits.testBit i with
   | true =>
    rw [hbt,if_pos rfl] at s2
    have hn : eG l (bits,hd) i = none := by unfold eG; rw [if_pos hbt]
    rw [hn] at hr
    simp only [go_sem,hi,b0,s1,s2]
    exact ⟨aG.refl.app,by rw [hr]⟩
   | false =>
    rw [hbt,if_neg (by simp)] at s2
    simp only [go_sem,hi,b0,s1,s2,c5,t5,cR]
    obtain ⟨X,eX⟩ : ∃ X,X = h ++ [some (.map cQ),some (.row [v,.map h.length]),some (.row (aF ((bits : Int) :: hd)))] := ⟨_,rfl⟩
    have x0 : X[h.length]? = some (some (.map cQ)) := by rw [eX,qI (Nat.le_refl _),Nat.sub_self]; rfl
    have hnx := aAl (w0 := w0) (h := X) (i := i) (hv.sub (eX ▸ aG.refl.app)) x0 hall (by omega) hn7 hil hb7 h4
    rw [eX] at hnx
    refine aI hnx.v ?_
    rcases nC (l := l) h4 hbt with ⟨ps,p5,hv',hn⟩ | ⟨ho',h4',hv',hn⟩
    · rw [hn] at hr
      have c6 : (aF ps).length = 5 := by rw [bG,p5]
      have t6 : (aF ps).take 5 = aF ps := List.take_of_length_le (by omega)
      rw [hv']
      simp only [go_sem,cR,c6,t6]
      exact ⟨aG.refl.app,by rw [hr]⟩
    · rw [hn] at hr
      have c6 : (aF (((bits ||| 2 ^ i : Nat) : Int) :: ho')).length = 5 := by rw [bG,List.length_cons,h4']
      have t6 : (aF (((bits ||| 2 ^ i : Nat) : Int) :: ho')).take 5 = aF (((bits ||| 2 ^ i : Nat) : Int) :: ho') := List.take_of_length_le (by omega)
      have d6 : (aF (((bits ||| 2 ^ i : Nat) : Int) :: ho')).drop 5 = [] := List.drop_of_length_le (by omega)
      rw [hv']
      simp only [go_sem,cR,c6,t6,d6,c5,d5,List.append_nil,List.take_zero,List.nil_append]
      have hIB : ∀ N (z : List Int),AV.bdds N (aF z) := fun N z => rG N z
      have hkB : ∀ N,Blk.bdd N (.map cQ) := fun N e he => by
       simp only [cQ,List.mem_cons,List.not_mem_nil,or_false] at he
       rcases he with rfl | rfl | rfl | rfl <;> exact ⟨trivial,by simp [AV.bdd,AV.bdds]⟩
      refine ⟨(by unfold I64; omega),fR 3 hb (by simp [cM,cT,cY,dS,eZ,dJ,AV.bdds,AV.bdd,Pl.bdd,cE]; exact ⟨hkB _,AV.bdd_mono (by omega) _ vb⟩) (by simp [cM,cT,cY,dS,eZ,dJ,AV.bdds,AV.bdd,Pl.bdd,cE]; exact ⟨AV.bdd_mono (by omega) _ vb,AV.bdd_mono (by omega) _ ob⟩) ?_⟩
      have hnb : bits ||| 2 ^ i < 2 ^ 7 := Nat.or_lt_two_pow hb7 (Nat.pow_lt_pow_right (by omega) (by omega))
      exact ih (j + 1,bits ||| 2 ^ i,ho') ⟨by simp only; omega,h4',hnb,hr⟩ (by simp only; omega)
 · have e1 : ¬ (j : Int) < os.length := by omega
   rw [List.drop_of_length_le (by omega),jM] at hr
   simp only [go_sem,e1]
   exact ⟨aG.refl.app,by rw [hr]⟩
theorem qJ {v : AV} {l : List CallD} (things : Int) (hv : CL w0 h v l) (hn : l.length ≤ 1000000) : bD Tryz.prog w0 49 [.int .i64 things,v] h (.bool (eN things l)) h := by
 refine bC aV aCM mf49_b mf49_g (qE rfl) (by simp [AV.bdd,AV.bdds]) fun hb ha => aZ ?_
 have hlen := hv.len
 have vb := Sl.bdd hv (Nat.le_refl _)
 obtain ⟨_,q,hix,hrow,_⟩ := Sl.use hv
 rw [List.length_map] at hix
 simp only [go_sem,mf49]
 refine gF (fun j => [(0,.int .i64 things),(1,v),(5,.int .i64 j)]) (fun j => inB things 1 4 = true → bE (wi (things - 1)) (aO l j) = true) l.length rfl (fun j hj hall ih => ?_) (fun hall => ?_)
 · refine aY aV wX [0,1,5] L49_0.eq_1 ?_
   have e1 : (j : Int) < l.length := by omega
   have e2 := hix j hj
   have e3 : ∀ L,rdn w0 (h ++ L) (q.add (j * 7)) 7 = some l[j].c := fun L => eO (hrow j _ (eW hj))
   have e3' := hrow j _ (eW hj)
   have hcj : aO l j = l[j] := by rw [aO,List.getD_eq_getElem?_getD,qA hj]; rfl
   rw [hcj] at ih
   obtain ⟨tm,htm⟩ : ∃ tm,tm = wi (things - 1) := ⟨_,rfl⟩
   have htm2 : inB things 1 4 = true → 0 ≤ tm := fun a => by
    simp only [inB,Bool.and_eq_true,decide_eq_true_eq] at a
    rw [htm,kE (by unfold I64; omega)]; omega
   have hbad : (inB things 1 4 = true → bE tm l[j] = false) → eN things l = false := fun a => by
    rw [eN]
    cases hh : inB things 1 4 with
    | false => rfl
    | true => rw [Bool.true_and,List.all_eq_false]; exact ⟨l[j],qG hj,by rw [← htm,a hh]; simp⟩
   rw [← htm] at ih
   simp only [go_sem,hlen,e1,e2,e3,e3']
   obtain ⟨c,hc⟩ : ∃ c,c = l[j] := ⟨_,rfl⟩
   rw [← hc] at hbad ih ⊢
   refine aI (lJ c.who 0 3).v ?_
   cases c1 : inB c.who 0 3 with
   | false => simp only [go_sem]; rw [hbad fun _ => by simp [bE,c1]]
   | true =>
   simp only [go_sem]
   refine aI (lJ c.kind 1 4).v ?_
   cases c2 : inB c.kind 1 4 with
   | false =>
    simp only [go_sem]
    rw [hbad fun _ => by
     rw [Bool.eq_false_iff]
     intro a
     simp only [bE,Bool.and_eq_true,decide_eq_true_eq] at a
     have : inB c.kind 1 4 = true := by simp only [inB,Bool.and_eq_true,decide_eq_true_eq]; omega
     rw [c2] at this; cases this]
   | true =>
   have c2' := c2
   simp only [inB,Bool.and_eq_true,decide_eq_true_eq] at c2'
   simp only [go_sem,← htm]
   refine aI (lJ c.thing 0 tm).v ?_
   cases c3 : inB c.thing 0 tm with
   | false => simp only [go_sem]; rw [hbad fun _ => by simp [bE,c3]]
   | true =>
   simp only [go_sem,← htm]
   refine aI (lJ c.other 0 tm).v ?_
   cases c4 : inB c.other 0 tm with
   | false =>
    simp only [go_sem]
    rw [hbad fun a => by
     have h0 := htm2 a
     have : cV tm c = false := by
      rw [cV]
      split
      · rw [c4]; rfl
      · refine decide_eq_false fun e => ?_
        rw [e] at c4
        have : inB 0 0 tm = true := by simp only [inB,Bool.and_eq_true,decide_eq_true_eq]; omega
        rw [c4] at this; cases this
     simp [bE,this]]
   | true =>
   by_cases c5 : c.begin_ < 0
   · simp only [go_sem,c5]; rw [hbad fun _ => by
      rw [Bool.eq_false_iff]; intro a
      simp only [bE,Bool.and_eq_true,decide_eq_true_eq] at a; omega]
   by_cases c6 : c.begin_ ≥ c.end_
   · simp only [go_sem,c5,c6]; rw [hbad fun _ => by
      rw [Bool.eq_false_iff]; intro a
      simp only [bE,Bool.and_eq_true,decide_eq_true_eq] at a; omega]
   by_cases c7 : c.end_ > 1000
   · simp only [go_sem,c5,c6,c7]; rw [hbad fun _ => by
      rw [Bool.eq_false_iff]; intro a
      simp only [bE,Bool.and_eq_true,decide_eq_true_eq] at a; omega]
   simp only [go_sem,c5,c6,c7]
   refine aI (lJ c.result (-1) 3).v ?_
   cases c8 : inB c.result (-1) 3 with
   | false => simp only [go_sem]; rw [hbad fun _ => by simp [bE,c8]]
   | true =>
   have good : cV tm c = true → bE tm c = true := fun a => by
    simp only [bE,Bool.and_eq_true,decide_eq_true_eq]
    exact ⟨c1,by omega,by omega,c3,a,by omega,by omega,by omega,c8⟩
   by_cases k4 : c.kind = 4
   · by_cases k5 : c.other = c.thing
     · simp only [go_sem,k4,k5,bne_self_eq_false,beq_self_eq_true]
       rw [hbad fun _ => by
        have : cV tm c = false := by rw [cV,if_pos k4,k5]; simp
        simp [bE,this]]
     · have k5' : (c.other == c.thing) = false := by simpa using k5
       simp only [go_sem,k4,k5',bne_self_eq_false]
       exact ⟨(by unfold I64; omega),fR 0 hb (by simp [HBs]) (by simp [cM,cT,cY,dS,eZ,dJ,AV.bdds,AV.bdd,Pl.bdd,cE]; exact AV.bdd_mono (by omega) _ vb) (ih fun _ => good (by rw [cV,if_pos k4,c4]; simp [k5]))⟩
   · by_cases k5 : c.other = 0
     · simp only [go_sem,k4,k5,bne_self_eq_false]
       exact ⟨(by unfold I64; omega),fR 0 hb (by simp [HBs]) (by simp [cM,cT,cY,dS,eZ,dJ,AV.bdds,AV.bdd,Pl.bdd,cE]; exact AV.bdd_mono (by omega) _ vb) (ih fun _ => good (by rw [cV,if_neg k4]; simp [k5]))⟩
     · have k5' : (c.other != 0) = true := by simpa using k5
       simp only [go_sem,k4,k5']
       rw [hbad fun _ => by
        have : cV tm c = false := by rw [cV,if_neg k4]; simp [k5]
        simp [bE,this]]
 · refine aY aV wX [0,1,5] L49_0.eq_1 ?_
   have e1 : ¬ (l.length : Int) < l.length := by omega
   simp only [go_sem,hlen,e1]
   refine aI (lJ things 1 4).v ?_
   have : eN things l = inB things 1 4 := by
    rw [eN]
    cases hh : inB things 1 4 with
    | false => rfl
    | true =>
     rw [Bool.true_and,List.all_eq_true]
     intro c hc
     obtain ⟨j,hj,rfl⟩ := List.getElem_of_mem hc
     have := hall j hj hh
     rwa [aO,List.getD_eq_getElem?_getD,qA hj] at this
   rw [this]
   simp only [go_sem]
def fH (os : List Int) (n : Nat) : Bool := decide os.Nodup && (os.all (fun x => inB x 0 ((n : Int) - 1)) && decide (os.length = n))
theorem zZ {ov : AV} {os : List Int} (n : Nat) (ho : SlI w0 h ov os) (hn : n ≤ 1000) (hon : os.length ≤ 9223372036854775807) : bD Tryz.prog w0 52 [ov,.int .i64 n] h (.bool (fH os n)) h := by
 refine bC aV aCJ mf52_b mf52_g (qE rfl) (by simp [AV.bdd,AV.bdds]) fun hb ha => aZ ?_
 have hlo := (SlI.use ho).1
 have w1 : wi ((n : Int) - 1) = n - 1 := kE (by unfold I64; omega)
 simp only [go_sem,mf52]
 refine gF (fun j => [(0,ov),(1,.int .i64 n),(5,.int .i64 j)]) (fun j => inB (os.getD j 0) 0 ((n : Int) - 1) = true ∧ ∀ k,k < j → os.getD k 0 ≠ os.getD j 0) os.length rfl (fun j hj hall ih => ?_) (fun hall => ?_)
 · refine aY aV wV [0,1,5] L52_1.eq_1 ?_
   have e1 : (j : Int) < os.length := by omega
   obtain ⟨pj,i1,r1,r1'⟩ := ho.getD_at hj
   simp only [go_sem,hlo,e1,i1,r1,r1',w1]
   refine aI (lJ (os.getD j 0) 0 ((n : Int) - 1)).v ?_
   cases c1 : inB (os.getD j 0) 0 ((n : Int) - 1) with
   | false =>
    simp only [go_sem]
    have : fH os n = false := by
     rw [fH]
     have : os.all (fun x => inB x 0 ((n : Int) - 1)) = false := by
      rw [List.all_eq_false]; exact ⟨os[j],qG hj,by rw [← Ab.getD_at (d := 0) hj,c1]; simp⟩
     rw [this]; simp
    rw [this]
   | true =>
   simp only [go_sem]
   refine gF (fun k => [(0,ov),(1,.int .i64 n),(5,.int .i64 j),(6,.int .i64 k)]) (fun k => os.getD k 0 ≠ os.getD j 0) j rfl (fun k hk hall2 ih2 => ?_) (fun hall2 => ?_)
   · refine aY aV wW [0,1,5,6] L52_0.eq_1 ?_
     have e2 : (k : Int) < j := by omega
     obtain ⟨pk,i2,r2,r2'⟩ := ho.getD_at (show k < os.length by omega)
     by_cases q : os.getD k 0 = os.getD j 0
     · simp only [go_sem,e2,i1,r1,r1',i2,r2,r2',q,beq_self_eq_true]
       have : fH os n = false := by
        have : ¬ os.Nodup := fun hnd => by
         rw [List.Nodup,List.pairwise_iff_getElem] at hnd
         have := hnd k j (by omega) hj hk
         rw [Ab.getD_at hj,Ab.getD_at (show k < os.length by omega)] at q
         exact this q
        rw [fH,decide_eq_false this]; rfl
       rw [this]
     · have q' : (os.getD k 0 == os.getD j 0) = false := by simpa using q
       simp only [go_sem,e2,i1,r1,r1',i2,r2,r2',q']
       exact ⟨(by unfold I64; omega),ih2 q⟩
   · refine aY aV wW [0,1,5,6] L52_0.eq_1 ?_
     have e2 : ¬ (j : Int) < j := by omega
     simp only [go_sem,e2]
     exact ⟨(by unfold I64; omega),ih ⟨c1,hall2⟩⟩
 · refine aY aV wV [0,1,5] L52_1.eq_1 ?_
   have e1 : ¬ (os.length : Int) < os.length := by omega
   simp only [go_sem,hlo,e1]
   have h1 : os.Nodup := by
    rw [List.Nodup,List.pairwise_iff_getElem]
    intro i j hi hj hij
    have := (hall j hj).2 i hij
    rwa [Ab.getD_at hj,Ab.getD_at hi] at this
   have h2 : os.all (fun x => inB x 0 ((n : Int) - 1)) = true := by
    rw [List.all_eq_true]
    intro x hx
    obtain ⟨j,hj,rfl⟩ := List.getElem_of_mem hx
    have := (hall j hj).1
    rwa [Ab.getD_at hj] at this
   rw [fH,decide_eq_true h1,h2,Bool.true_and,Bool.true_and]
   by_cases q : os.length = n
   · subst q; simp
   · have : ¬ (os.length : Int) = n := by omega
     simp [q,this]
theorem rdo_c {hv : AV} {ho : List Int} {c : CallD} {tm : Int} (hh : SlI w0 h hv ho) (h1 : 1 ≤ ho.length) (h4 : ho.length ≤ 4) (hc : bE tm c = true) (ht : tm < ho.length) :
 ACall Tryz.prog w0 54 [hv,.agg c.c] h fun y H => aG h H ∧ ∃ ov,y = .tup [ov,.int .i64 (doD ho c).2] ∧ SlI w0 H ov (doD ho c).1 := by
 refine aU aV aCH mf54_b mf54_g (qE rfl) fun hb ha => aZ ?_
 simp only [bE,inB,Bool.and_eq_true,decide_eq_true_eq] at hc
 obtain ⟨_,k1,k4,⟨t0,t1⟩,hoB,_⟩ := hc
 obtain ⟨t,hct⟩ : ∃ t : Nat,c.thing = t := ⟨c.thing.toNat,by omega⟩
 have htl : t < ho.length := by omega
 have hap := rW (w0 := w0) (H := h ++ [some (.row c.c)]) (b := 8) (hh.app) (by intro e; simp at e; rw [e] at h1; simp at h1) (fun c hc => by obtain ⟨x,_,rfl⟩ := List.mem_map.1 hc; rfl) (by omega) (by rw [List.length_map]; omega)
 rw [List.length_map,← hJ,List.append_assoc,List.length_append] at hap
 simp only [CallD.c,List.cons_append,List.nil_append,List.length_cons,List.length_nil,Nat.zero_add] at hap
 obtain ⟨pt,i1,r1,r1'⟩ := hh.getD_at htl
 have o1 : ∀ f,dP 1 (.sl (.own (h.length + 1) 0) ho.length 1 f) (some t) = some (.ptr (.own (h.length + 1) t)) := fun f => by rw [aAg htl,Nat.mul_one]
 have g3 : t + 1 ≤ (aF ho).length := by rw [bG]; omega
 have fin : ∀ (R : List AV) (ho' : List Int) (r : Int),ho'.length = ho.length → aG h (h ++ [some (.row R),some (.row (aF ho'))]) ∧ ∃ ov,AV.tup [.sl (.own (h.length + 1) 0) ho.length 1 false,.int .i64 r] = .tup [ov,.int .i64 r] ∧ SlI w0 (h ++ [some (.row R),some (.row (aF ho'))]) ov ho' := fun R ho' r e =>
  ⟨aG.refl.app,_,rfl,uM (by rw [qI (by omega),show h.length + 1 - h.length = 1 by omega]; rfl) e.symm⟩
 rcases (by omega : c.kind = 1 ∨ c.kind = 2 ∨ c.kind = 3 ∨ c.kind = 4) with k | k | k | k
 · have hd0 : doD ho c = if ho.getD t 0 = -1 then (ho.set t c.who,1) else (ho,0) := by rw [doD,if_pos k,hct]; rfl
   rw [hd0]
   rw [k] at hap
   rw [hct] at hap
   by_cases q : ho.getD t 0 = -1
   · rw [if_pos q]
     simp only [go_sem,mf54,hap,k,hct,bS,i1,r1,r1',q,o1,g3]
     rw [eI htl]
     exact fin _ _ _ (by simp)
   · have q' : (ho.getD t 0 == -1) = false := by simpa using q
     rw [if_neg q]
     simp only [go_sem,mf54,hap,k,hct,bS,i1,r1,r1',q']
     exact fin _ _ _ rfl
 · have hd0 : doD ho c = if ho.getD t 0 = c.who then (ho.set t (-1),1) else (ho,0) := by rw [doD,if_neg (by omega),if_pos k,hct]; rfl
   rw [hd0]
   rw [k] at hap
   rw [hct] at hap
   by_cases q : ho.getD t 0 = c.who
   · rw [if_pos q]
     simp only [go_sem,mf54,hap,k,hct,bS,i1,r1,r1',q,o1,g3,beq_self_eq_true]
     rw [eI htl]
     exact fin _ _ _ (by simp)
   · have q' : (ho.getD t 0 == c.who) = false := by simpa using q
     rw [if_neg q]
     simp only [go_sem,mf54,hap,k,hct,bS,i1,r1,r1',q']
     exact fin _ _ _ rfl
 · have hd0 : doD ho c = (ho,ho.getD t 0) := by rw [doD,if_neg (by omega),if_neg (by omega),if_pos k,hct]; rfl
   rw [hd0]
   rw [k] at hap
   rw [hct] at hap
   simp only [go_sem,mf54,hap,k,hct,bS,i1,r1,r1']
   exact fin _ _ _ rfl
 · rw [cV,if_pos k] at hoB
   simp only [inB,Bool.and_eq_true,decide_eq_true_eq] at hoB
   obtain ⟨u,hcu⟩ : ∃ u : Nat,c.other = u := ⟨c.other.toNat,by omega⟩
   have hul : u < ho.length := by omega
   obtain ⟨pu,j1,s1,s1'⟩ := hh.getD_at hul
   have hd0 : doD ho c = if ho.getD t 0 = c.who ∧ ho.getD u 0 = -1 then ((ho.set t (-1)).set u c.who,1) else (ho,0) := by
    rw [doD,if_neg (by omega),if_neg (by omega),if_neg (by omega),if_pos k,hct,hcu]; rfl
   rw [hd0]
   rw [k,hct,hcu] at hap
   by_cases q : ho.getD t 0 = c.who
   · by_cases q2 : ho.getD u 0 = -1
     · rw [if_pos ⟨q,q2⟩]
       simp only [go_sem,mf54,hap,k,hct,hcu,bS,i1,r1,r1',j1,s1,s1',q,q2,beq_self_eq_true]
       refine aBq aV [0,1,2,3,4,5,6,7,8,9,10,11] [o_ 67 (m_ 6),o_ 68 (.addr (.t 3) 2),o_ 69 (l_ 68),o_ 70 (m_ 6),o_ 71 (.addr (.t 3) 3),o_ 72 (l_ 71),o_ 73 (.addr (.t 3) 0),o_ 74 (l_ 73),o_ 75 (.idxs 1 (.t 67) (.t 69)),.op none none (.store (.t 75) (i_ (-1)) 1)] [([(5,o_ 72 (l_ 71)),(7,o_ 74 (l_ 73))],[o_ 76 (.idxs 1 (.t 70) (.t 72)),.op none none (.store (.t 76) (.t 74) 1)])] rfl rfl (by kernel_rfl) ?_
       have o2 : ∀ f,dP 1 (.sl (.own (h.length + 1) 0) ho.length 1 f) (some u) = some (.ptr (.own (h.length + 1) u)) := fun f => by rw [aAg hul,Nat.mul_one]
       have p1 : (aF ho).take t ++ .int .i64 (-1) :: (aF ho).drop (t + 1) = aF (ho.set t (-1)) := eI htl
       have g4 : u + 1 ≤ (aF (ho.set t (-1))).length := by rw [bG,List.length_set]; omega
       have p2 : (aF (ho.set t (-1))).take u ++ .int .i64 c.who :: (aF (ho.set t (-1))).drop (u + 1) = aF ((ho.set t (-1)).set u c.who) := eI (by rw [List.length_set]; exact hul)
       simp only [go_sem,k,hct,hcu,bS,o1,o2,g3,p1,g4,p2]
       exact fin _ _ _ (by simp)
     · have q2' : (ho.getD u 0 == -1) = false := by simpa using q2
       rw [if_neg (fun x => q2 x.2)]
       simp only [go_sem,mf54,hap,k,hct,hcu,bS,i1,r1,r1',j1,s1,s1',q,q2',beq_self_eq_true]
       exact fin _ _ _ rfl
   · have q' : (ho.getD t 0 == c.who) = false := by simpa using q
     rw [if_neg (fun x => q x.1)]
     simp only [go_sem,mf54,hap,k,hct,hcu,bS,i1,r1,r1',q']
     exact fin _ _ _ rfl
theorem fM {l : List CallD} {i : Nat} (hi : i < l.length) : aO l i = l[i] := by rw [aO,List.getD_eq_getElem?_getD,qA hi]; rfl
theorem mE {r : List Nat} {j : Nat} (hj : j < r.length) : (bU r).getD j 0 = r[j] := by
 rw [List.getD_eq_getElem?_getD,bU,List.getElem?_map,qA hj]; rfl
theorem mJ {v ov : AV} {l : List CallD} {r : List Nat} {t : Nat} (hv : CL w0 h v l) (ho : SlI w0 h ov (bU r)) (hr : ∀ i ∈ r,i < l.length) (hall : ∀ c ∈ l,bE ((t : Int) - 1) c = true) (t1 : 1 ≤ t) (t4 : t ≤ 4) (hn : r.length ≤ 1000) :
 bD Tryz.prog w0 102 [.int .i64 t,v,ov] h (.bool (iC l t r)) h := by
 refine eP trivial (aU aV aA5 aD0 aDZ (qE rfl) fun hb ha => aZ ?_)
 have hlo := (SlI.use ho).1
 rw [bP] at hlo
 obtain ⟨_,q,hix,hrow,_⟩ := Sl.use hv
 rw [List.length_map] at hix
 simp only [go_sem,mf102]
 refine aS (ACall.vc (first := []) (aAk t (by omega))) ?_
 intro nv H0 hG
 rw [List.append_nil] at hG
 simp only [go_sem]
 refine gE (S := Nat × Heap × AV × List Int) (F := fun s => [(1,v),(2,ov),(7,s.2.2.1),(8,.int .i64 s.1)]) (H := fun s => s.2.1) (meas := fun s => r.length - s.1)
  (Inv := fun s => s.1 ≤ r.length ∧ aG h s.2.1 ∧ SlI w0 s.2.1 s.2.2.1 s.2.2.2 ∧ s.2.2.2.length = t ∧ iC l t r = gQ l (r.take s.1) s.2.2.2 (r.drop s.1)) (0,H0,nv,eA t) ⟨Nat.zero_le _,hG.sub,hG.sli (by simp [eA]),by simp [eA],rfl⟩ rfl rfl ?_
 rintro ⟨j,G,gv,hd⟩ ⟨hj,sG,hgv,hl,hE⟩ ih
 simp only at hj sG hgv hl hE ih ⊢
 refine aY aV aBN [1,2,7,8] L102_1.eq_1 ?_
 by_cases hjl : j < r.length
 · have e1 : (j : Int) < r.length := by omega
   obtain ⟨pj,i1,r1,r1'⟩ := SlI.getD_at (w0 := w0) (h := G) (Sl.sub ho sG) (j := j) (by rw [bP]; exact hjl)
   rw [mE hjl] at r1 r1'
   have hil : r[j] < l.length := hr _ (qG hjl)
   obtain ⟨i,hi⟩ : ∃ i,i = r[j] := ⟨_,rfl⟩
   rw [← hi] at r1 r1' hil
   rw [List.drop_eq_getElem_cons hjl,← hi,gQ] at hE
   have x1 := hix i hil
   have y0 : rdn w0 G (q.add (i * 7)) 7 = some l[i].c := sG.rdn (hrow i _ (eW hil))
   have y1 : ∀ L,rdn w0 (G ++ L) (q.add (i * 7)) 7 = some l[i].c := fun L => eO y0
   simp only [go_sem,hlo,e1,i1,r1,r1',bS,x1,y0,y1]
   refine gF (fun k => [(1,v),(2,ov),(7,gv),(8,.int .i64 j),(9,.ptr (.own G.length 0)),(10,.int .i64 k)]) (fun k => (!decide ((aO l i).end_ < (aO l (r.getD k 0)).begin_)) = true) j rfl (fun k hk hall2 ih2 => ?_) (fun hall2 => ?_)
   · refine aY aV sE [1,2,7,8,9,10] L102_0.eq_1 ?_
     have e2 : (k : Int) < j := by omega
     have hkl : k < r.length := by omega
     obtain ⟨pk,i2,r2,r2'⟩ := SlI.getD_at (w0 := w0) (h := G) (Sl.sub ho sG) (j := k) (by rw [bP]; exact hkl)
     rw [mE hkl] at r2 r2'
     have hml : r[k] < l.length := hr _ (qG hkl)
     have hrk : r.getD k 0 = r[k] := by rw [List.getD_eq_getElem?_getD,qA hkl]; rfl
     obtain ⟨m,hm⟩ : ∃ m,m = r[k] := ⟨_,rfl⟩
     rw [hrk] at ih2
     have hmem : r[k] ∈ r.take j := by
      rw [List.mem_iff_getElem?]
      exact ⟨k,by rw [List.getElem?_take_of_lt hk,qA hkl]⟩
     rw [← hm] at r2 r2' hml ih2 hmem
     have x2 := hix m hml
     have y2 : ∀ L,rd w0 (G ++ L) ((q.add (m * 7)).add 4) = some (.int .i64 l[m].begin_) := fun L => lK (oH (sG.rdn (hrow m _ (eW hml))) (o := 4) rfl)
     rw [fM hil,fM hml] at ih2
     by_cases q1 : l[i].end_ < l[m].begin_
     · simp only [go_sem,e2,i2,r2,r2',bS,x2,y2,q1]
       refine ⟨sG.app,?_⟩
       have : (r.take j).all (fun k => !decide ((aO l i).end_ < (aO l k).begin_)) = false := by
        rw [List.all_eq_false]; exact ⟨m,hmem,by rw [fM hil,fM hml]; simp [q1]⟩
       rw [hE,this,Bool.false_and]
     · simp only [go_sem,e2,i2,r2,r2',bS,x2,y2,q1]
       exact ⟨(by unfold I64; omega),ih2 (by simp [q1])⟩
   · refine aY aV sE [1,2,7,8,9,10] L102_0.eq_1 ?_
     have e2 : ¬ (j : Int) < j := by omega
     simp only [go_sem,e2]
     have hA : (r.take j).all (fun k => !decide ((aO l i).end_ < (aO l k).begin_)) = true := by
      rw [List.all_eq_true]
      intro x hx
      obtain ⟨k,hk⟩ := List.mem_iff_getElem?.1 hx
      have hkj : k < j := by have := aJ hk; rw [List.length_take] at this; omega
      rw [List.getElem?_take_of_lt hkj] at hk
      have := hall2 k hkj
      rwa [List.getD_eq_getElem?_getD,hk] at this
     rw [hA,Bool.true_and,fM hil] at hE
     refine aS (ACall.vc (first := []) (rdo_c (hgv.app) (by omega) (by omega) (hall _ (qG hil)) (by omega))) ?_
     rintro _ H2 ⟨sH2,ov2,rfl,hov2⟩
     have hl2 := oR (ho := hd) (c := l[i])
     obtain ⟨⟨ho',res⟩,hres⟩ : ∃ x,x = doD hd l[i] := ⟨_,rfl⟩
     rw [← hres] at hov2 hl2 hE ⊢
     simp only at hov2 hl2 hE ⊢
     have z1 : H2[G.length]? = some (some (.row l[i].c)) := sH2.2 _ _ (by rw [qI (Nat.le_refl _),Nat.sub_self]; rfl)
     by_cases q2 : res = l[i].result
     · simp only [go_sem,z1,q2,bne_self_eq_false]
       rw [decide_eq_true q2,Bool.true_and] at hE
       refine ⟨(by unfold I64; omega),ih (j + 1,H2,ov2,ho') ⟨hjl,sG.app.trans sH2,hov2,by rw [hl2,hl],?_⟩ (by simp only; omega)⟩
       rw [hE,List.take_add_one,qA hjl,← hi]; rfl
     · have q2' : (res != l[i].result) = true := by simpa using q2
       simp only [go_sem,z1,q2']
       refine ⟨sG.app.trans sH2,?_⟩
       rw [hE,decide_eq_false q2,Bool.false_and]
 · have e1 : ¬ (j : Int) < r.length := by omega
   rw [List.drop_of_length_le (by omega),gQ] at hE
   simp only [go_sem,hlo,e1]
   exact ⟨sG,by rw [hE]⟩
def rZ (w0 : World) (H : Heap) (y : AV) (l : List CallD) (t k : Nat) (r : List Nat) : Prop :=
 if iC l t r = true then match dfs l.length (lE l t) k r with
  | some x => ∃ lv,y = .tup [lv,.bool true] ∧ SlI w0 H lv (bU (r ++ x))
  | none => y = .tup [.nilS,.bool false]
 else y = .tup [.nilS,.bool false]
theorem nT {r : List Nat} {i : Nat} : (i : Int) ∈ bU r ↔ i ∈ r := by
 rw [bU,List.mem_map]
 exact ⟨fun ⟨j,h1,h2⟩ => by rw [← Int.ofNat.inj h2]; exact h1,fun h => ⟨i,h,rfl⟩⟩
theorem xP {v : AV} {l : List CallD} {t : Nat} (hall : ∀ c ∈ l,bE ((t : Int) - 1) c = true) (t1 : 1 ≤ t) (t4 : t ≤ 4) (hn : l.length ≤ 7) :
 ∀ (k : Nat) (r : List Nat) (H : Heap) (ov : AV),r.length + k = l.length → (∀ i ∈ r,i < l.length) → CL w0 H v l → SlO w0 H ov (bU r) →
  ACall Tryz.prog w0 103 [.int .i64 t,v,ov] H fun y H' => aG H H' ∧ rZ w0 H' y l t k r := by
 intro k
 induction k with
 | zero =>
  intro r H ov hk hr hv ho
  refine aU aV rC vX vW (qE rfl) fun hb ha => aZ ?_
  have hlo := (SlI.use ho.s).1
  rw [bP] at hlo
  have hlen := hv.len
  have e3 : (r.length : Int) = l.length := by omega
  simp only [go_sem,mf103]
  refine aI (mJ (r := r) hv.app (Sl.app ho.s) hr hall t1 t4 (by omega)).v ?_
  cases hb : iC l t r with
  | false =>
   simp only [go_sem]
   exact ⟨aG.refl.app,by rw [rZ,if_neg (by rw [hb]; simp)]⟩
  | true =>
   simp only [go_sem,hlo,hlen,e3,beq_self_eq_true]
   refine ⟨aG.refl.app,?_⟩
   rw [rZ,if_pos hb,dfs]
   exact ⟨_,rfl,by simpa only [List.append_nil] using ho.s⟩
 | succ k ih =>
  intro r H ov hk hr hv ho
  refine aU aV rC vX vW (qE rfl) fun hb ha => aZ ?_
  have hlo := (SlI.use ho.s).1
  rw [bP] at hlo
  have hlen := hv.len
  have e3 : ((r.length : Int) == l.length) = false := by
   have : ¬ (r.length : Int) = l.length := by omega
   simpa using this
  simp only [go_sem,mf103]
  refine aI (mJ (r := r) hv.app (Sl.app ho.s) hr hall t1 t4 (by omega)).v ?_
  cases hbg : iC l t r with
  | false =>
   simp only [go_sem]
   exact ⟨aG.refl.app,by rw [rZ,if_neg (by rw [hbg]; simp)]⟩
  | true =>
  simp only [go_sem,hlo,hlen,e3]
  refine gE (S := Nat × Heap) (F := fun s => [(0,.int .i64 t),(1,v),(2,ov),(8,.int .i64 s.1)]) (H := fun s => s.2) (meas := fun s => l.length - s.1)
   (Inv := fun s => s.1 ≤ l.length ∧ aG H s.2 ∧ dfs l.length (lE l t) (k + 1) r = ((List.range l.length).drop s.1).findSome? fun i => (lE l t r i).bind fun q => (dfs l.length (lE l t) k q).map (i :: ·)) (0,H) ⟨Nat.zero_le _,aG.refl,rfl⟩ rfl (by simp) ?_
  rintro ⟨i,G⟩ ⟨hi,sG,hE⟩ ih2
  simp only at hi sG hE ih2 ⊢
  refine aY aV aBM [0,1,2,8] L103_0.eq_1 ?_
  by_cases hil : i < l.length
  · have e5 : (i : Int) < l.length := by omega
    rw [List.drop_eq_getElem_cons (by simpa using hil),List.findSome?_cons,List.getElem_range] at hE
    simp only [go_sem,hlen,e5]
    refine aI (rhas_c (i : Int) (Sl.sub ho.s sG) (by rw [bP]; omega)).v ?_
    by_cases hm : i ∈ r
    · have hs : lE l t r i = none := by rw [lE,if_pos hm]
      rw [hs,Option.bind_none] at hE
      rw [decide_eq_true (nT.2 hm)]
      simp only [go_sem]
      exact ⟨(by unfold I64; omega),ih2 (i + 1,_) ⟨by simp only; omega,sG,hE⟩ (by simp only; omega)⟩
    · rw [decide_eq_false (fun x => hm (nT.1 x))]
      simp only [go_sem]
      obtain ⟨u,L,a1,G1,a2,a3,a4,a5⟩ := aEf (w0 := w0) (ho.sub sG) (i : Int) (by rw [bP]; omega)
      rw [bP] at a2
      rw [a1]
      simp only [go_sem,List.append_assoc,List.length_append]
      rw [a2]
      simp only [go_sem]
      have hcs : bU r ++ [(i : Int)] = bU (r ++ [i]) := by simp [bU]
      rw [hcs] at a4
      have sG1 := sG.trans a3
      have hov2 : SlO w0 G1 (.sl (.own (G.length + (L.length + 1)) 0) (r.length + 1) 1 false) (bU (r ++ [i])) := ⟨uM a4 (by rw [bP,List.length_append]; rfl),fun e => by simp [bU] at e⟩
      refine aS (ACall.vc (first := []) (capt := []) (ih (r ++ [i]) G1 _ (by simp; omega) (fun x hx => by
       rcases List.mem_append.1 hx with hx | hx
       · exact hr x hx
       · simp at hx; omega) (hv.sub sG1) hov2)) ?_
      rintro y H2 ⟨sH2,hy⟩
      rw [rZ] at hy
      rw [lE,if_neg hm] at hE
      cases hbi : iC l t (r ++ [i]) with
      | false =>
       rw [if_neg (by rw [hbi]; simp)] at hy
       subst hy
       rw [hbi,if_neg (by simp),Option.bind_none] at hE
       simp only [go_sem]
       exact ⟨(by unfold I64; omega),ih2 (i + 1,_) ⟨by simp only; omega,sG1.trans sH2,hE⟩ (by simp only; omega)⟩
      | true =>
       rw [if_pos hbi] at hy
       rw [hbi,if_pos rfl,Option.bind_some] at hE
       cases hd : dfs l.length (lE l t) k (r ++ [i]) with
       | none =>
        rw [hd] at hy hE
        subst hy
        simp only [go_sem]
        exact ⟨(by unfold I64; omega),ih2 (i + 1,_) ⟨by simp only; omega,sG1.trans sH2,hE⟩ (by simp only; omega)⟩
       | some x =>
        rw [hd] at hy hE
        obtain ⟨lv,rfl,hlv⟩ := hy
        simp only [go_sem]
        refine ⟨sG1.trans sH2,?_⟩
        rw [rZ,if_pos hbg,hE]
        exact ⟨_,rfl,by rw [List.append_assoc] at hlv; exact hlv⟩
  · have e5 : ¬ (i : Int) < l.length := by omega
    rw [List.drop_of_length_le (by simp; omega),List.findSome?_nil] at hE
    simp only [go_sem,hlen,e5]
    exact ⟨sG,by rw [rZ,if_pos hbg,hE]⟩
theorem lY {l : List CallD} : ∀ {os : List Int} {p : Nat × List Int},jM l p os = (os.all (fun x => inB x 0 ((l.length : Int) - 1)) && (dL l.length (eG l) p (os.map Int.toNat)).isSome)
 | [],p => rfl
 | i :: r,p => by
  rw [jM,List.map_cons,dL,List.all_cons]
  cases c : inB i 0 ((l.length : Int) - 1) with
  | false => rfl
  | true =>
   have : i.toNat < l.length := by
    simp only [inB,Bool.and_eq_true,decide_eq_true_eq] at c; omega
   rw [if_pos this,Bool.true_and,Bool.true_and]
   cases e : eG l p i.toNat with
   | none => simp
   | some q => rw [Option.bind_some]; exact lY
theorem mF {os : List Int} {n : Nat} (h : os.all (fun x => inB x 0 ((n : Int) - 1)) = true) : os = bU (os.map Int.toNat) ∧ ∀ i ∈ os.map Int.toNat,i < n := by
 have h := List.all_eq_true.1 h
 have h' : ∀ x ∈ os,0 ≤ x ∧ x < n := fun x hx => by
  have := h x hx
  simp only [inB,Bool.and_eq_true,decide_eq_true_eq] at this; omega
 refine ⟨?_,fun i hi => ?_⟩
 · rw [bU,List.map_map]
   refine Eq.trans (List.map_id os).symm (List.map_congr_left fun x hx => ?_)
   have := h' x hx
   show x = ((x.toNat : Nat) : Int)
   omega
 · obtain ⟨x,hx,rfl⟩ := List.mem_map.1 hi
   have := h' x hx; omega
theorem rO {r : List Nat} : (bU r).Nodup ↔ r.Nodup := by
 rw [bU,List.Nodup,List.Nodup,List.pairwise_map]
 exact List.Pairwise.iff (by intro a b; omega)
theorem aBn {l : List CallD} {os : List Int} {t : Nat} (hall : ∀ c ∈ l,bE ((t : Int) - 1) c = true) (t4 : t ≤ 4) : lZ l os = (fH os l.length && iC l t (os.map Int.toNat)) := by
 rw [lZ,lY,fH]
 by_cases q : os.length = l.length
 · rw [decide_eq_true q]
   cases c : os.all (fun x => inB x 0 ((l.length : Int) - 1)) with
   | false => simp
   | true =>
    obtain ⟨e,hr⟩ := mF c
    obtain ⟨r,hrr⟩ : ∃ r,r = os.map Int.toNat := ⟨_,rfl⟩
    rw [← hrr] at e hr ⊢
    subst e
    rw [Bool.true_and,Bool.true_and,Bool.true_and,Bool.and_true,Bool.eq_iff_iff,pathP hall (show (t : Int) - 1 < t by omega) t4 (by rw [← bP]; exact q),goodO,Bool.and_eq_true,decide_eq_true_eq,rO]
    exact ⟨fun a => ⟨a.1,a.2.2⟩,fun a => ⟨a.1,hr,a.2⟩⟩
 · simp [q]
theorem pZ {v ov : AV} {l : List CallD} {os : List Int} {t : Nat} (hv : CL w0 h v l) (ho : SlI w0 h ov os) (hall : ∀ c ∈ l,bE ((t : Int) - 1) c = true) (t1 : 1 ≤ t) (t4 : t ≤ 4) (hn : l.length ≤ 7) (hon : os.length ≤ 1000) :
 bD Tryz.prog w0 50 [.int .i64 t,v,ov] h (.bool (lZ l os)) h := by
 refine bC aV aCL mf50_b mf50_g (qE rfl) (by simp [AV.bdd,AV.bdds]) fun hb ha => aZ ?_
 have hlen := hv.len
 simp only [go_sem,mf50,hlen]
 refine aI (zZ l.length ho.app (by omega) (by omega)).v ?_
 rw [aBn hall t4]
 cases c : fH os l.length with
 | false => simp only [go_sem]; rfl
 | true =>
  simp only [go_sem]
  have c2 := c
  rw [fH,Bool.and_eq_true,Bool.and_eq_true] at c2
  obtain ⟨e,hr⟩ := mF c2.2.1
  refine aI (mJ (r := os.map Int.toNat) hv.app (by rw [← e]; exact ho.app) hr hall t1 t4 (by rw [List.length_map]; omega)).v ?_
  simp only [go_sem]
theorem xS {v : AV} {l : List CallD} {t : Nat} (hv : CL w0 h v l) (hall : ∀ c ∈ l,bE ((t : Int) - 1) c = true) (t1 : 1 ≤ t) (t4 : t ≤ 4) (hn : l.length ≤ 7) :
 ACall Tryz.prog w0 51 [.int .i64 t,v] h fun y H => aG h H ∧ match jV l with
  | some x => ∃ lv,y = .tup [lv,.bool true] ∧ SlI w0 H lv (bU x)
  | none => y = .tup [.nilS,.bool false] := by
 refine aU aV aCK mf51_b mf51_g (qE rfl) fun hb ha => aZ ?_
 simp only [go_sem,mf51]
 refine aS (ACall.vc (first := []) (capt := []) (xP hall t1 t4 hn l.length [] (h ++ []) .nilS (by simp) (by simp) hv.app ⟨.inl ⟨rfl,rfl⟩,fun _ => rfl⟩)) ?_
 rintro y H ⟨sH,hy⟩
 rw [List.append_nil] at sH
 rw [rZ,if_pos (show iC l t [] = true from rfl),← aBr hall (show (t : Int) - 1 < t by omega) t4] at hy
 rw [jV]
 cases hf : dfs l.length (eG l) l.length (0,eA 4) with
 | none =>
  rw [hf] at hy
  subst hy
  simp only [go_sem]
  exact sH
 | some x =>
  rw [hf] at hy
  obtain ⟨lv,rfl,hlv⟩ := hy
  simp only [go_sem]
  exact ⟨sH,_,rfl,hlv⟩
theorem pL {v ov : AV} {l : List CallD} {os : List Int} (things : Int) (hv : CL w0 h v l) (ho : SlI w0 h ov os) (hn : l.length ≤ 9223372036854775807) (hon : os.length ≤ 9223372036854775807) :
 bD Tryz.prog w0 11 [.int .i64 things,v,ov] h (.bool true) h := by
 refine eP trivial (aU aV aDE mf11_b mf11_g (qE rfl) fun hb ha => aZ ?_)
 have hlo := (SlI.use ho).1
 have hlen := hv.len
 by_cases q0 : (l.length : Int) = 7
 · simp only [go_sem,mf11,hlen,q0,beq_self_eq_true]
   refine aI fS.v ?_
   simp only [go_sem]
   exact aG.refl.app
 have q0' : ((l.length : Int) == 7) = false := by simpa using q0
 by_cases q1 : (l.length : Int) > 20
 · simp only [go_sem,mf11,hlen,q0',q1]
   refine aI fS.v ?_
   simp only [go_sem]
   exact aG.refl.app
 by_cases q2 : (os.length : Int) > 20
 · simp only [go_sem,mf11,hlen,hlo,q0',q1,q2]
   refine aI fS.v ?_
   simp only [go_sem]
   exact aG.refl.app
 simp only [go_sem,mf11,hlen,hlo,q0',q1,q2]
 refine aS (ACall.vc (first := []) (capt := []) (aBJ things hv.app)) ?_
 rintro y H ⟨sH,hy⟩
 have sH' := (aG.refl.app).trans sH
 obtain ⟨lv,le,rfl⟩ : ∃ lv le,y = .tup [lv,le] := by
  rw [tZ] at hy
  split at hy
  · split at hy
    · obtain ⟨lv,rfl,_⟩ := hy; exact ⟨_,_,rfl⟩
    · exact ⟨_,_,hy⟩
  · exact ⟨_,_,hy⟩
 simp only [go_sem]
 refine aS (ACall.vc (first := []) (capt := []) (uE things (hv.sub sH') (Sl.sub ho sH'))) ?_
 rintro z H2 ⟨sH2,rfl⟩
 have s2 := sH'.trans sH2
 by_cases e : bI things l = 0
 case neg =>
  rw [tZ,if_neg e] at hy
  obtain ⟨rfl,rfl⟩ : lv = .nilS ∧ le = .int .i64 (bI things l) := by
   have := AV.tup.inj hy
   simp only [List.cons.injEq,and_true] at this; exact this
  rw [if_neg e]
  by_cases q7 : (l.length : Int) > 7
  · have e3 : bI things l = 3 := by rw [bI,if_pos (by omega)]
    rw [e3]
    simp only [go_sem,hlen,q7]
    refine aI fS.v ?_
    simp only [go_sem]
    exact s2
  · have hcb : eN things l = false := by
     cases hcb : eN things l with
     | false => rfl
     | true => rw [bI,if_neg (by omega),hcb] at e; exact absurd rfl e
    have e3 : bI things l = 2 := by rw [bI,if_neg (by omega),hcb]; rfl
    rw [e3]
    simp only [go_sem,hlen,q7]
    refine aI (qJ things (hv.sub s2) (by omega)).v ?_
    rw [hcb]
    simp only [go_sem]
    refine aI fS.v ?_
    simp only [go_sem]
    exact s2
 obtain ⟨n,rfl,⟨n1,n4⟩,hall,hn7⟩ := iU e
 have q7 : ¬ (l.length : Int) > 7 := by omega
 have hcb : eN (n : Int) l = true := by
  rw [bI,if_neg (by omega)] at e
  cases hcb : eN (n : Int) l with
  | true => rfl
  | false => rw [hcb] at e; cases e
 rw [if_pos e]
 rw [tZ,if_pos e] at hy
 simp only [go_sem,hlen,q7]
 refine aI (qJ (n : Int) (hv.sub s2) (by omega)).v ?_
 rw [hcb]
 simp only [go_sem]
 refine aI (pZ (hv.sub s2) (Sl.sub ho s2) hall n1 n4 hn7 (by omega)).v ?_
 simp only [go_sem,beq_self_eq_true]
 refine aS (ACall.vc (first := []) (capt := []) (xS (hv.sub s2) hall n1 n4 hn7)) ?_
 rintro y2 H3 ⟨sH3,hy3⟩
 have s3 := s2.trans sH3
 cases hf : jV l with
 | none =>
  rw [hf] at hy hy3
  subst hy3
  obtain ⟨rfl,rfl⟩ : lv = .nilS ∧ le = .int .i64 5 := by
   have := AV.tup.inj hy
   simp only [List.cons.injEq,and_true] at this; exact this
  simp only [go_sem]
  refine aI fS.v ?_
  simp only [go_sem]
  exact s3
 | some x =>
  rw [hf] at hy hy3
  obtain ⟨lv2,rfl,hl2⟩ := hy3
  obtain ⟨lv',hy',hl'⟩ := hy
  obtain ⟨rfl,rfl⟩ : lv = lv' ∧ le = .int .i64 0 := by
   have := AV.tup.inj hy'
   simp only [List.cons.injEq,and_true] at this; exact this
  have hxl : x.length = l.length := (hU hf).1
  simp only [go_sem]
  refine aI (aB9 (Sl.sub hl' (sH2.trans sH3)) hl2 (by rw [bP]; omega)).v ?_
  rw [decide_eq_true rfl]
  simp only [go_sem]
  refine aI fS.v ?_
  simp only [go_sem]
  exact s3
end Go.Proofs.Ab

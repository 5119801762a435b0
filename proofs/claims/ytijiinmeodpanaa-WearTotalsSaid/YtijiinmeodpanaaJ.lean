/- The own layer under the proofs of this seat, part J: what calls of the program come to on an abstract heap. No condition. -/
import Derived.Test.YtijiinmeodpanaaI
set_option linter.unusedSimpArgs false
set_option linter.unusedVariables false
namespace Go.Proofs.Ab
open Go Go.Proofs
variable {w0 : World} {h : aA}
attribute [local irreducible] ACall bD dI bQ dH rvC lp rg dr ex un rv
def uO : List Int → List Int → Bool
 | _,[] => true
 | acc,n :: r => (inB n (-1) 1000 && !(decide (0 ≤ n) && decide (n ∈ acc))) && uO (acc ++ [n]) r
def fJ (n0 : Nat) (t : aG) : Bool := (decide (t.days.length = n0) && (decide (t.days.length ≤ 30) && decide (t.ser.length ≤ 5))) && t.days.all cQ
def fS (n0 : Nat) : List Int → List aG → Bool
 | _,[] => true
 | acc,t :: r => fJ n0 t && (uO acc t.ser && fS n0 (acc ++ t.ser) r)
def aO (l : List aG) : Nat := (l.getD 0 qZ).days.length
def fT (l : List aG) : Bool := fS (aO l) [] l
def jK (l : List aG) : Prop := l.length ≤ 1000 ∧ ∀ t ∈ l,t.days.length ≤ 1000 ∧ t.ser.length ≤ 1000
structure TInv (l : List aG) (h : aA) (j : Nat) (H : aA) (ov : AV) (a : List Int) : Prop where
 g : Gro h H 1 a.length ov (bJ a)
 n : a.length ≤ j * 1000
 e : fT l = fS (aO l) a (l.drop j)
structure aBW (l : List aG) (h : aA) (j : Nat) (t : aG) (k : Nat) (H : aA) (ov : AV) (a : List Int) : Prop where
 g : Gro h H 1 a.length ov (bJ a)
 n : a.length ≤ j * 1000 + k
 e : fT l = (uO a (t.ser.drop k) && fS (aO l) (a ++ t.ser.drop k) (l.drop (j + 1)))
set_option maxRecDepth 20000 in
theorem aDo {v : AV} {l : List aG} (hv : eE w0 h v l) (hs : jK l) : bQ Try.prog w0 23 [v] h (.bool (fT l)) h := by
 refine eU (by simp [AV.bdd]) (cB aW aG0 mf23_b mf23_g (qE rfl) fun hb ha => bT ?_)
 obtain ⟨hn,hs⟩ := hs
 have hlen := hv.len
 simp only [go_sem,mf23,hlen]
 refine dM (S := aA × AV × List Int) (fun j s => [(0,v),(3,s.2.1),(8,v),(9,.int .i64 l.length),(10,.int .i64 j)]) (fun _ s => s.1) (fun j s => TInv l h j s.1 s.2.1 s.2.2) l.length (h,.nilS,[]) ⟨Gro.nil aH.refl,Nat.zero_le _,rfl⟩ rfl (List.append_nil h) ?_ ?_
 · rintro j ⟨H,ov,a⟩ hj ⟨g,ga,ge⟩ ih
   simp only at g ga ge ih ⊢
   refine aN aW aB3 [0,3,8,9,10] L23_1.eq_1 ?_
   have e1 : (j : Int) < l.length := by omega
   obtain ⟨p,dv,sv,i1,r1,ra,rb,hd,hsv⟩ := hv.at_ hj
   have rr1 := g.sub.rdn (uY r1)
   obtain ⟨p0,dv0,sv0,i0,_,r0a,_,hd0,_⟩ := (hv.sub g.sub).at_ (j := 0) (by omega)
   have hdays0 : aO l = l[0].days.length := by rw [aO,aR]
   obtain ⟨t,ht⟩ : ∃ t,t = l[j] := ⟨_,rfl⟩
   obtain ⟨t0,ht0⟩ : ∃ t,t = l[0] := ⟨_,rfl⟩
   have htm := hs t (ht ▸ qG hj)
   have ht0m := hs t0 (ht0 ▸ qG (by omega))
   rw [← ht] at hd hsv
   rw [← ht0] at hd0 hdays0
   have ld := hd.len
   have ld0 := hd0.len
   have lsv := (SlI.use hsv.s).1
   have cd := hd.one
   have cs := hsv.s.one
   have bx : ∀ L,((H ++ some (Blk.row [dv,sv]) :: L) : aA)[H.length]? = some (some (.row [dv,sv])) := fun L => by rw [qI (Nat.le_refl _),Nat.sub_self]; rfl
   have drop : l.drop j = t :: l.drop (j + 1) := by rw [List.drop_eq_getElem_cons hj,← ht]
   rw [drop,fS] at ge
   have no : fJ (aO l) t = false → fT l = false := fun e => by rw [ge,e]; rfl
   by_cases c1 : t.days.length = t0.days.length
   · have c1' : ((t.days.length : Int) != (t0.days.length : Int)) = false := by rw [c1]; simp
     simp only [go_sem,e1,i1,rr1,cd.1,cs.1,bx,i0,r0a,ld,ld0,c1',lsv]
     have hsub := g.sub.app (L := [some (Blk.row [dv,sv])])
     refine ⟨fun c2 => ⟨fun c3 => ⟨hsub,by rw [no (by simp only [fJ]; rw [decide_eq_false (p := t.ser.length ≤ 5) (by omega)]; simp)]⟩,fun c3 => ?_⟩,fun c2 => ⟨hsub,by rw [no (by simp only [fJ]; rw [decide_eq_false (p := t.days.length ≤ 30) (by omega)]; simp)]⟩⟩
     refine aV (wcf_c (iT.sub hd g.sub.app) (by omega)).v ?_
     cases c4 : t.days.all cQ with
     | false =>
      simp only [go_sem]
      exact ⟨hsub,by rw [no (by simp [fJ,c4])]⟩
     | true =>
     have tb : fJ (aO l) t = true := by simp only [fJ,c4,hdays0]; simp only [c1,decide_true,Bool.and_true,Bool.true_and]; rw [Bool.and_eq_true]; exact ⟨decide_eq_true (by omega),decide_eq_true (by omega)⟩
     rw [tb,Bool.true_and] at ge
     simp only [go_sem,bx,lsv]
     refine dM (S := aA × AV × List Int) (fun k s => [(0,v),(3,s.2.1),(8,v),(9,.int .i64 l.length),(10,.int .i64 j),(39,sv),(40,.int .i64 t.ser.length),(41,.int .i64 k)]) (fun _ s => s.1) (fun k s => aBW l h j t k s.1 s.2.1 s.2.2) t.ser.length (_,ov,a) ⟨g.app,by omega,ge⟩ rfl rfl ?_ ?_
     · rintro k ⟨H2,ov2,a2⟩ hk ⟨g2,ga2,ge2⟩ ih2
       simp only at g2 ga2 ge2 ih2 ⊢
       refine aN aW aB4 [0,3,8,9,10,39,40,41] L23_0.eq_1 ?_
       have e2 : (k : Int) < t.ser.length := by omega
       obtain ⟨q,i2,r2,r2'⟩ := SlI.at_ (hsv.s.sub g2.sub) hk
       obtain ⟨n,hnn⟩ : ∃ n,n = t.ser[k] := ⟨_,rfl⟩
       rw [← hnn] at r2 r2'
       have dk : t.ser.drop k = n :: t.ser.drop (k + 1) := by rw [List.drop_eq_getElem_cons hk,← hnn]
       rw [dk,uO] at ge2
       have bk : ∀ L,((H2 ++ some (Blk.row [AV.int .i64 n]) :: L) : aA)[H2.length]? = some (some (.row [.int .i64 n])) := fun L => by rw [qI (Nat.le_refl _),Nat.sub_self]; rfl
       obtain ⟨G,ap,gG⟩ := (g2.app (L := [some (Blk.row [AV.int .i64 n])])).more (w0 := w0) (b := 8) (f := true) (x := [.int .i64 n]) (bk []) rfl rfl (by omega) (by omega)
       have gG' : Gro h G 1 (a2 ++ [n]).length (.sl (.own (H2.length + 1) 0) (a2.length + 1) 1 false) (bJ (a2 ++ [n])) := by
        rw [List.length_append,List.length_singleton,bJ,List.map_append]
        rw [List.length_append,List.length_singleton] at gG
        exact gG
       have nxt : (inB n (-1) 1000 && !(decide (0 ≤ n) && decide (n ∈ a2))) = true → aBW l h j t (k + 1) G (.sl (.own (H2.length + 1) 0) (a2.length + 1) 1 false) (a2 ++ [n]) := fun q =>
        ⟨gG',by rw [List.length_append,List.length_singleton]; omega,by rw [ge2,q,Bool.true_and,List.append_assoc]; rfl⟩
       simp only [go_sem,e2,i2,r2,r2']
       refine aV (wK n (-1) 1000).v ?_
       cases d1 : inB n (-1) 1000 with
       | false =>
        simp only [go_sem]
        exact ⟨g2.sub,by rw [ge2,d1]; rfl⟩
       | true =>
       simp only [go_sem]
       by_cases d2 : 0 ≤ n
       · simp only [go_sem,d2]
         refine aV (aAZ n (g2.sli rfl) (by omega)).v ?_
         cases d3 : decide (n ∈ a2) with
         | true =>
          simp only [go_sem]
          exact ⟨g2.sub,by rw [ge2,d1,d3,decide_eq_true d2]; rfl⟩
         | false =>
          simp only [go_sem,bk,ap]
          exact ⟨(by unfold I64; omega),ih2 (G,_,a2 ++ [n]) (nxt (by rw [d1,d3]; simp))⟩
       · simp only [go_sem,d2,bk,ap]
         exact ⟨(by unfold I64; omega),ih2 (G,_,a2 ++ [n]) (nxt (by rw [d1,decide_eq_false d2]; rfl))⟩
     · rintro ⟨H2,ov2,a2⟩ ⟨g2,ga2,ge2⟩
       simp only at g2 ga2 ge2 ⊢
       refine aN aW aB4 [0,3,8,9,10,39,40,41] L23_0.eq_1 ?_
       have e2 : ¬ (t.ser.length : Int) < t.ser.length := by omega
       rw [List.drop_length,uO,Bool.true_and,List.append_nil] at ge2
       simp only [go_sem,e2]
       exact ⟨(by unfold I64; omega),ih (H2,ov2,a2) ⟨g2,by simp only; omega,ge2⟩⟩
   · have c1' : ((t.days.length : Int) != (t0.days.length : Int)) = true := by simp only [bne_iff_ne,ne_eq]; omega
     simp only [go_sem,e1,i1,rr1,cd.1,cs.1,bx,i0,r0a,ld,ld0,c1',lsv]
     exact ⟨g.sub.app,by rw [no (by simp [fJ,hdays0,c1])]⟩
 · rintro ⟨H,ov,a⟩ ⟨g,ga,ge⟩
   simp only at g ga ge ⊢
   refine aN aW aB3 [0,3,8,9,10] L23_1.eq_1 ?_
   have e1 : ¬ (l.length : Int) < l.length := by omega
   rw [List.drop_length,fS] at ge
   simp only [go_sem,e1]
   exact ⟨g.sub,by rw [ge]⟩
def oJ : aJ := ⟨0,0,0,0⟩
def iJ (l : List aG) (s : aJ) : Bool := inB s.tail 0 (l.length - 1) && (inB s.slot 0 ((l.getD s.tail.toNat qZ).ser.length - 1) && (inB s.serial (-1) 1000 && inB s.night 0 ((l.getD s.tail.toNat qZ).days.length - 1)))
def oR (sw : List aJ) (i : Nat) : Bool := decide (i = 0) || decide ((sw.getD (i - 1) oJ).night ≤ (sw.getD i oJ).night)
def cG (l : List aG) (sw : List aJ) : Bool := (List.range sw.length).all fun i => iJ l (sw.getD i oJ) && oR sw i
theorem sM {l : List aG} {sw : List aJ} {i : Nat} (hi : i < sw.length) (e : (iJ l (sw.getD i oJ) && oR sw i) = false) : cG l sw = false := by
 rw [cG,List.all_eq_false]
 exact ⟨i,List.mem_range.2 hi,by rw [e]; simp⟩
theorem jF {x lo hi : Int} : inB x lo hi = true ↔ lo ≤ x ∧ x ≤ hi := by simp [inB]
set_option maxRecDepth 20000 in
theorem zQ {v sv : AV} {l : List aG} {sw : List aJ} (hv : eE w0 h v l) (hw : fW w0 h sv sw) (hs : jK l) (hn : sw.length ≤ 1000) : bQ Try.prog w0 24 [v,sv] h (.bool (cG l sw)) h := by
 refine bN aW aGZ mf24_b mf24_g (qE rfl) (by simp [AV.bdd,AV.bdds]) fun hb ha => bT ?_
 obtain ⟨hll,hs⟩ := hs
 have hlen := hv.len
 have hlw := hw.len
 have vb := NS.bdd hv (Nat.le_refl _)
 have wb := NS.bdd hw (Nat.le_refl _)
 simp only [go_sem,mf24,hlw]
 refine jC (fun j => [(0,v),(1,sv),(7,sv),(8,.int .i64 sw.length),(9,.int .i64 j)]) (fun i => (iJ l (sw.getD i oJ) && oR sw i) = true) sw.length rfl (fun i hi hall ih => ?_) (fun hall => ?_)
 · refine aN aW aB2 [0,1,7,8,9] L24_0.eq_1 ?_
   have e1 : (i : Int) < sw.length := by omega
   obtain ⟨p,i1,r1,r1'⟩ := hw.at_ hi
   have no := sM (l := l) hi
   obtain ⟨s,hsw⟩ : ∃ s,s = sw[i] := ⟨_,rfl⟩
   rw [← hsw] at r1 r1'
   rw [aR hi,← hsw] at ih no
   have bx : ∀ L,((h ++ some (Blk.row s.c) :: L) : aA)[h.length]? = some (some (.row s.c)) := fun L => by rw [qI (Nat.le_refl _),Nat.sub_self]; rfl
   have w1 : wi ((l.length : Int) - 1) = l.length - 1 := dV (by unfold I64; omega)
   simp only [go_sem,e1,i1,r1,r1',hlen,w1]
   refine aV (wK s.tail 0 (l.length - 1)).v ?_
   cases c1 : inB s.tail 0 (l.length - 1) with
   | false => simp only [go_sem]; rw [no (by rw [iJ,c1]; rfl)]
   | true =>
   rw [jF] at c1
   obtain ⟨k,hk⟩ : ∃ k : Nat,s.tail = k := ⟨s.tail.toNat,by omega⟩
   have hkl : k < l.length := by omega
   obtain ⟨q,dv,tv,i2,r2,ra,rb,hd,hsv⟩ := hv.at_ hkl
   obtain ⟨t,ht⟩ : ∃ t,t = l[k] := ⟨_,rfl⟩
   have htm := hs t (ht ▸ qG hkl)
   rw [← ht] at hd hsv
   have ld := hd.len
   have ls := (SlI.use hsv.s).1
   have gt : l.getD s.tail.toNat qZ = t := by rw [hk,Int.toNat_natCast,aR hkl,ht]
   have w2 : wi ((t.ser.length : Int) - 1) = t.ser.length - 1 := dV (by unfold I64; omega)
   have w3 : wi ((t.days.length : Int) - 1) = t.days.length - 1 := dV (by unfold I64; omega)
   rw [iJ,gt,jF.2 c1,Bool.true_and] at no ih
   simp only [go_sem,hk,i2,rb,ls,w2]
   refine aV (wK s.slot 0 (t.ser.length - 1)).v ?_
   cases c2 : inB s.slot 0 (t.ser.length - 1) with
   | false => simp only [go_sem]; rw [no (by rw [c2]; rfl)]
   | true =>
   simp only [go_sem]
   refine aV (wK s.serial (-1) 1000).v ?_
   cases c3 : inB s.serial (-1) 1000 with
   | false => simp only [go_sem]; rw [no (by rw [c2,c3]; rfl)]
   | true =>
   simp only [go_sem,i2,ra,ld,w3]
   refine aV (wK s.night 0 (t.days.length - 1)).v ?_
   cases c4 : inB s.night 0 (t.days.length - 1) with
   | false => simp only [go_sem]; rw [no (by rw [c2,c3,c4]; rfl)]
   | true =>
   rw [c2,c3,c4] at ih no
   by_cases hi0 : i = 0
   · have d0 : ¬ (0 : Int) < (i : Int) := by omega
     simp only [go_sem,d0]
     refine ⟨(by unfold I64; omega),pF 0 hb (by simp [HBs]) (by simp [nI,nJ,pI,pJ,vX,pB,AV.bdds,AV.bdd,Pl.bdd,kJ]; exact ⟨vb,wb⟩) ?_⟩
     simpa using ih (by rw [oR,decide_eq_true hi0]; rfl)
   · have d0 : (0 : Int) < (i : Int) := by omega
     obtain ⟨p2,i3,r3,r3'⟩ := hw.at_ (j := i - 1) (by omega)
     obtain ⟨s2,hs2⟩ : ∃ s,s = sw[i - 1] := ⟨_,rfl⟩
     rw [← hs2] at r3 r3'
     have w4 : wi ((i : Int) - 1) = ((i - 1 : Nat) : Int) := by rw [dV (by unfold I64; omega)]; omega
     have r4 : ∀ L,rd w0 (h ++ L) (p2.add 0) = some (.int .i64 s2.night) := fun L => eY (r3 L) rfl
     have ho : oR sw i = decide (s2.night ≤ s.night) := by rw [oR,decide_eq_false hi0,aR hi,← hsw,aR (by omega),← hs2]; rfl
     rw [ho] at ih no
     by_cases d1 : s2.night ≤ s.night
     · have d1' : ¬ s.night < s2.night := by omega
       simp only [go_sem,d0,w4,i3,r4,d1']
       refine ⟨(by unfold I64; omega),pF 0 hb (by simp [HBs]) (by simp [nI,nJ,pI,pJ,vX,pB,AV.bdds,AV.bdd,Pl.bdd,kJ]; exact ⟨vb,wb⟩) ?_⟩
       simpa using ih (by rw [decide_eq_true d1]; rfl)
     · have d1' : s.night < s2.night := by omega
       simp only [go_sem,d0,w4,i3,r4,d1']
       rw [no (by rw [decide_eq_false d1]; rfl)]
 · refine aN aW aB2 [0,1,7,8,9] L24_0.eq_1 ?_
   have e1 : ¬ (sw.length : Int) < sw.length := by omega
   simp only [go_sem,e1]
   have : cG l sw = true := by rw [cG,List.all_eq_true]; exact fun i hi => hall i (List.mem_range.1 hi)
   rw [this]
@[go_sem] def aD.c (x : aD) : List AV := [.int .i64 x.n,.int .i64 x.ml,.int .i64 x.mh,.int .i64 x.cl,.int .i64 x.ch,.int .i64 x.d]
def eC (M : List aD) : List (AV × AV) := M.map fun x => (.int .i64 x.n,.agg x.c)
def bC : List aD → Int → Option aD
 | [],_ => none
 | m :: M,k => if m.n = k then some m else bC M k
def eZ : List aD → aD → List aD
 | [],x => [x]
 | m :: M,x => if m.n = x.n then x :: M else m :: eZ M x
theorem iO (k : Int) (x : aD) : ∀ M,bC (eZ M x) k = if k = x.n then some x else bC M k
 | [] => by
  simp only [eZ,bC]
  by_cases e : x.n = k
  · rw [if_pos e,if_pos e.symm]
  · rw [if_neg e,if_neg (fun q => e q.symm)]
 | m :: M => by
  have ih := iO k x M
  simp only [eZ]
  by_cases e : m.n = x.n
  · rw [if_pos e]; simp only [bC]
    by_cases e2 : k = x.n
    · subst e2; simp
    · rw [if_neg (fun q => e2 q.symm),if_neg e2,if_neg (by rw [e]; exact fun q => e2 q.symm)]
  · rw [if_neg e]; simp only [bC,ih]
    by_cases e3 : m.n = k
    · rw [if_pos e3,if_neg (by rw [← e3]; exact e),if_pos e3]
    · rw [if_neg e3,if_neg e3]
theorem aAw (k : Int) (x : aD) (hx : x.n = k) : ∀ (M : List aD) (a : Nat),(fO (false,[true]) (.int .i64 k) (eC M) a = some none ∧ bC M k = none ∧ eZ M x = M ++ [x]) ∨
 ∃ j y,fO (false,[true]) (.int .i64 k) (eC M) a = some (some (a + j,.agg y.c)) ∧ bC M k = some y ∧ (eC M).set j (.int .i64 k,.agg x.c) = eC (eZ M x)
 | [],a => .inl ⟨rfl,rfl,rfl⟩
 | m :: M,a => by
  by_cases e : m.n = k
  · refine .inr ⟨0,m,?_,?_,?_⟩
    · simp [eC,fO,keq,cF,ceq,e]
    · simp [bC,e]
    · simp [eC,eZ,e,hx]
  · have e1 : fO (false,[true]) (.int .i64 k) (eC (m :: M)) a = fO (false,[true]) (.int .i64 k) (eC M) (a + 1) := by
     have e0 : (k == m.n) = false := by simpa using fun x => e x.symm
     simp [eC,fO,keq,cF,ceq,e0]
    have e2 : ¬ m.n = x.n := by rw [hx]; exact e
    rcases aAw k x hx M (a + 1) with ⟨h1,h2,h3⟩ | ⟨j,y,h1,h2,h3⟩
    · exact .inl ⟨by rw [e1,h1],by simp [bC,e,h2],by simp [eZ,e2,h3]⟩
    · refine .inr ⟨j + 1,y,by rw [e1,h1,show a + 1 + j = a + (j + 1) by omega],by simp [bC,e,h2],?_⟩
      rw [eZ,if_neg e2]
      simp only [eC,List.map_cons,List.set_cons_succ] at h3 ⊢
      rw [h3]
theorem vC {i : Nat} {M : List aD} (hi : h[i]? = some (some (.map (eC M)))) (k : Int) (z : AV) (ok : Bool) : xQ h (false,[true]) z ok (.map i) (.int .i64 k) = some (match bC M k with
 | some y => if ok then .tup [.agg y.c,.bool true] else .agg y.c
 | none => if ok then .tup [z,.bool false] else z) := by
 simp only [xQ,hi]
 rw [if_neg (by simp [keq,cF,ceq])]
 rcases aAw k (zT k) rfl M 0 with ⟨h1,h2,_⟩ | ⟨j,y,h1,h2,_⟩
 · rw [h1,h2]
 · rw [h1,h2]
theorem aEf {i : Nat} {M : List aD} (hi : h[i]? = some (some (.map (eC M)))) (x : aD) : aBm h (false,[true]) (.map i) (.int .i64 x.n) (.agg x.c) = some (.undef,h.set i (some (.map (eC (eZ M x))))) := by
 simp only [aBm,hi]
 rw [if_neg (by simp [keq,cF,ceq])]
 rcases aAw x.n x rfl M 0 with ⟨h1,_,h3⟩ | ⟨j,y,h1,_,h2⟩
 · rw [h1,h3]; simp [eC]
 · rw [h1]; simp only [Nat.zero_add,h2]
def slG (so n : Nat) : AV := if n = 0 then .nilS else .sl (.own so 0) n 1 false
def iU (h H : aA) (y : AV) (l : List Int) : Prop := (l = [] ∧ y = .nilS) ∨ ∃ b f,y = .sl (.own b 0) l.length 1 f ∧ h.length ≤ b ∧ H[b]? = some (some (.row (bJ l)))
theorem iU.slo {H : aA} {y : AV} {l : List Int} (a : iU h H y l) : SlO w0 H y l := by
 rcases a with ⟨rfl,rfl⟩ | ⟨b,f,rfl,_,hb⟩
 · exact ⟨.inl ⟨rfl,rfl⟩,fun _ => rfl⟩
 · refine ⟨aA6 hb rfl,fun e => ?_⟩
   subst e
   simp [fK,jI,rdn,hb]
theorem iU.less {g H : aA} {y : AV} {l : List Int} (a : iU h H y l) (e : g.length ≤ h.length) : iU g H y l := by
 rcases a with a | ⟨b,f,e1,e2,e3⟩
 · exact .inl a
 · exact .inr ⟨b,f,e1,by omega,e3⟩
theorem iU.one {H : aA} {y : AV} {l : List Int} (a : iU h H y l) : Ab.one y = true ∧ cellsOf y = some [y] := by
 rcases a with ⟨_,rfl⟩ | ⟨b,f,rfl,_,_⟩ <;> exact ⟨rfl,rfl⟩
theorem aDq (l : List Int) (v : AV) (hv : SlO w0 h v l) (hl : l.length < 1000000) : ACall Try.prog w0 26 [v] h fun y h' => aH h h' ∧ iU h h' y l := by
 refine cB aW aGY mf26_b mf26_g (qE rfl) fun hb ha => bT ?_
 have hv1 := hv.s
 rcases hv1 with ⟨e1,e2⟩ | ⟨p,full,⟨es',e1,he⟩,hp,hr⟩
 · subst e1
   have : l = [] := by simpa using e2
   subst this
   simp only [go_sem,mf26]
   rw [List.append_nil]
   exact ⟨aH.refl,.inl ⟨rfl,rfl⟩⟩
 · have hv1 := hv.s
   by_cases hl0 : l = []
   · have h0 := (hv.sub (aH.refl.app (L := [some (.row [])]))).e hl0
     have hap : dS w0 (h ++ [some (Blk.row [])]) 1 8 (AV.sl (Pl.own (List.length h) 0) 0 1 true) v = some (AV.sl (Pl.own (List.length h) 0) 0 1 true,h ++ [some (Blk.row [])]) := by
      simp [dS,h0]
     rw [e1] at hap
     subst e1
     simp only [go_sem,mf26]
     rw [hap]
     simp only [go_sem]
     subst hl0
     exact ⟨aH.refl.app,.inr ⟨h.length,true,rfl,Nat.le_refl _,by simp [bJ]⟩⟩
   · have hap := zC (w0 := w0) (H := h ++ [some (.row [])]) (es := 1) (b := 8) (n := 0) (old := []) (rows := l.map fun z => [AV.int .i64 z]) (p := .own h.length 0) hv1.app (by simpa using hl0) (fun c hc => by obtain ⟨z,_,rfl⟩ := List.mem_map.1 hc; rfl) (by simp [rdn]) (by omega) (by simp; omega)
     rw [← kK,e1] at hap
     subst e1
     simp only [go_sem,mf26]
     rw [hap]
     simp only [go_sem]
     exact ⟨aH.refl.app,.inr ⟨h.length + 1,false,by simp,by omega,by simp⟩⟩
structure dT (h H : aA) (fb mi so : Nat) (c : List AV) (g : List (List Int)) (M : List aD) : Prop where
 sub : aH h H
 lf : h.length ≤ fb
 lm : h.length ≤ mi
 box : H[fb]? = some (some (.row [slG so g.length,.map mi]))
 lst : g ≠ [] → h.length ≤ so ∧ H[so]? = some (some (.row c))
 len : c.length = g.length
 own : ∀ (j : Nat) x,g[j]? = some x → ∃ y,c[j]? = some y ∧ iU h H y x
 dis : ∀ (i j b n n' : Nat) (f f' : Bool),c[i]? = some (.sl (.own b 0) n 1 f) → c[j]? = some (.sl (.own b 0) n' 1 f') → i = j
 map : H[mi]? = some (some (.map (eC M)))
section
variable {H H' : aA} {fb mi so : Nat} {c : List AV} {g : List (List Int)} {M : List aD}
theorem dT.to (a : dT h H fb mi so c g M) (s : aH H H') : dT h H' fb mi so c g M where
 sub := a.sub.trans s
 lf := a.lf
 lm := a.lm
 box := s.2 _ _ a.box
 lst := fun e => ⟨(a.lst e).1,s.2 _ _ (a.lst e).2⟩
 len := a.len
 own := fun j x hx => by
  obtain ⟨y,h1,h2⟩ := a.own j x hx
  refine ⟨y,h1,?_⟩
  rcases h2 with h2 | ⟨b,f,e1,e2,e3⟩
  · exact .inl h2
  · exact .inr ⟨b,f,e1,e2,s.2 _ _ e3⟩
 dis := a.dis
 map := s.2 _ _ a.map
theorem dT.setM (a : dT h H fb mi so c g M) (s : dD [mi] H H') {N : List aD} (hm : H'[mi]? = some (some (.map (eC N)))) : dT h H' fb mi so c g N := by
 have k : ∀ (i : Nat) (r : List AV),H[i]? = some (some (.row r)) → H'[i]? = some (some (.row r)) := fun i r e => s.at_ i _ (fun q => by
  rw [List.mem_singleton] at q
  subst q; rw [a.map] at e; cases e) e
 exact {
  sub := ⟨Nat.le_trans a.sub.1 s.le,fun i b e => s.at_ i b (fun q => by rw [List.mem_singleton] at q; have := aQ e; have := a.lm; omega) (a.sub.2 i b e)⟩
  lf := a.lf
  lm := a.lm
  box := k _ _ a.box
  lst := fun e => ⟨(a.lst e).1,k _ _ (a.lst e).2⟩
  len := a.len
  own := fun j x hx => by
   obtain ⟨y,h1,h2⟩ := a.own j x hx
   refine ⟨y,h1,?_⟩
   rcases h2 with h2 | ⟨b,f,e1,e2,e3⟩
   · exact .inl h2
   · exact .inr ⟨b,f,e1,e2,k _ _ e3⟩
  dis := a.dis
  map := hm }
def bS (M : List aD) (n : Int) : List aD := if (bC M n).isNone ∧ 0 ≤ n then eZ M (zT n) else M
theorem aEw (a : dT h H fb mi so c g M) (n : Int) : ACall Try.prog w0 27 [.ptr (.own fb 0),.int .i64 n] H fun _ H' => dT h H' fb mi so c g (bS M n) ∧ dD [mi] H H' := by
 refine cB aW aGX mf27_b mf27_g (qE rfl) fun hb ha => bT ?_
 have bx := a.box
 have bx' : ∀ L,((H ++ L) : aA)[fb]? = some (some (.row [slG so g.length,.map mi])) := fun L => aE bx
 have mp := a.map
 have mp' : ∀ L,((H ++ L) : aA)[mi]? = some (some (.map (eC M))) := fun L => aE mp
 have lk := fun L => vC (mp' L) n (.agg [.int .i64 0,.int .i64 0,.int .i64 0,.int .i64 0,.int .i64 0,.int .i64 0]) true
 have lk' := vC mp n (.agg [.int .i64 0,.int .i64 0,.int .i64 0,.int .i64 0,.int .i64 0,.int .i64 0]) true
 have pk : ∀ L,aBm (H ++ L) (false,[true]) (.map mi) (.int .i64 n) (.agg [.int .i64 n,.int .i64 0,.int .i64 0,.int .i64 0,.int .i64 0,.int .i64 0]) = some (.undef,(H ++ L).set mi (some (.map (eC (eZ M (zT n)))))) := fun L => aEf (mp' L) (zT n)
 rw [List.append_nil]
 cases e : bC M n with
 | some y =>
  rw [e] at lk'
  have e2 : bS M n = M := by rw [bS,e]; rfl
  rw [e2]
  simp only [go_sem,mf27,bx,lk']
  exact ⟨a.to aH.refl.app,aH.refl.app.toK⟩
 | none =>
  rw [e] at lk'
  by_cases h0 : 0 ≤ n
  · have e2 : bS M n = eZ M (zT n) := by rw [bS,e,if_pos ⟨rfl,h0⟩]
    rw [e2]
    simp only [go_sem,mf27,bx,lk',h0,bx',pk]
    have hml := aQ mp
    have kp : dD [mi] H ((H ++ [some (Blk.row [.int .i64 0,.int .i64 0,.int .i64 0,.int .i64 0,.int .i64 0,.int .i64 0])]).set mi (some (.map (eC (eZ M (zT n)))))) := (aH.refl.app.toK).set (.inl (List.mem_singleton.2 rfl))
    exact ⟨a.setM kp (qF (by simp; omega)),kp⟩
  · have e2 : bS M n = M := by rw [bS,e,if_neg (fun q => h0 q.2)]
    rw [e2]
    simp only [go_sem,mf27,bx,lk',h0]
    exact ⟨a.to aH.refl.app,aH.refl.app.toK⟩
end
theorem nU {b n j : Nat} {f : Bool} (hj : j < n) : fZ 1 (.sl (.own b 0) n 1 f) (some j) = some (.ptr (.own b j)) := by
 simp [fZ,jI,hj,Pl.add]
theorem oM {x : List Int} {a : AV} {i : Nat} : bJ x ≠ [a,.map i] := fun e => by
 have : (AV.map i) ∈ bJ x := by rw [e]; simp
 simp only [bJ,List.mem_map] at this
 obtain ⟨z,_,e⟩ := this
 cases e
theorem qP {x : List Int} {p : Pl} {n es : Nat} {f : Bool} : AV.sl p n es f ∉ bJ x := fun q => by
 simp only [bJ,List.mem_map] at q
 obtain ⟨z,_,e⟩ := q
 cases e
theorem aDG {x : List Int} {m : Nat} (hm : m < x.length) (v : Int) : bH (bJ x) m [.int .i64 v] = bJ (x.set m v) := by
 simp only [bH,bJ]
 rw [List.map_set,List.set_eq_take_append_cons_drop,if_pos (by simpa using hm)]
 simp
section
variable {H H' : aA} {fb mi so : Nat} {c : List AV} {g : List (List Int)} {M : List aD}
theorem dT.put (a : dT h H fb mi so c g M) {k b : Nat} {x x' : List Int} {f : Bool} (hk : g[k]? = some x) (hc : c[k]? = some (.sl (.own b 0) x.length 1 f)) (hb : H[b]? = some (some (.row (bJ x)))) (hl : h.length ≤ b) (hx : x'.length = x.length) :
 dT h (H.set b (some (.row (bJ x')))) fb mi so c (g.set k x') M := by
 have hkl := aQ hk
 have hbl := aQ hb
 have hg : g ≠ [] := fun e => by rw [e] at hkl; simp at hkl
 have nf : b ≠ fb := fun e => by
  have := a.box
  rw [← e,hb] at this
  simp only [Option.some.injEq,Blk.row.injEq] at this
  exact oM this
 have ns : b ≠ so := fun e => by
  have := (a.lst hg).2
  rw [← e,hb] at this
  simp only [Option.some.injEq,Blk.row.injEq] at this
  rw [← this] at hc
  exact qP (List.mem_of_getElem? hc)
 have nm : b ≠ mi := fun e => by
  have := a.map
  rw [← e,hb] at this
  cases this
 exact {
  sub := a.sub.setR hl
  lf := a.lf
  lm := a.lm
  box := by rw [qB nf,List.length_set]; exact a.box
  lst := fun _ => ⟨(a.lst hg).1,by rw [qB ns]; exact (a.lst hg).2⟩
  len := by rw [List.length_set]; exact a.len
  own := fun j y hy => by
   by_cases e : k = j
   · subst e
     rw [qF hkl] at hy
     cases hy
     exact ⟨_,hc,.inr ⟨b,f,by rw [hx],hl,qF hbl⟩⟩
   · rw [qB e] at hy
     obtain ⟨z,h1,h2⟩ := a.own j y hy
     refine ⟨z,h1,?_⟩
     rcases h2 with h2 | ⟨b',f',e1,e2,e3⟩
     · exact .inl h2
     · refine .inr ⟨b',f',e1,e2,?_⟩
       rw [qB]
       · exact e3
       · intro q
         subst q
         rw [e1] at h1
         exact e (a.dis _ _ _ _ _ _ _ hc h1)
  dis := a.dis
  map := by rw [qB nm]; exact a.map }
theorem dT.row (a : dT h H fb mi so c g M) {k : Nat} {x : List Int} (hk : g[k]? = some x) : ∃ y,c[k]? = some y ∧ SlO w0 H y x ∧ Ab.one y = true ∧ cellsOf y = some [y] ∧ (x ≠ [] → ∃ b f,y = .sl (.own b 0) x.length 1 f ∧ h.length ≤ b ∧ H[b]? = some (some (.row (bJ x)))) := by
 obtain ⟨y,h1,h2⟩ := a.own k x hk
 refine ⟨y,h1,h2.slo,h2.one.1,h2.one.2,fun hx => ?_⟩
 rcases h2 with ⟨e,_⟩ | ⟨b,f,e1,e2,e3⟩
 · exact absurd e hx
 · exact ⟨b,f,e1,e2,e3⟩
def impV (i : Nat) : AV := .ifc 79 (.agg [.int .i64 i])
def PutK (h : aA) (fb mi so : Nat) (c : List AV) (g : List (List Int)) (M : List aD) (s : aJ) (H' : aA) : Prop := fY g s = true ∧ dT h H' fb mi so c (lM g s) (bS M s.serial)
structure PutOK (g : List (List Int)) (s : aJ) : Prop where
 n : g.length ≤ 1000
 r : ∀ x ∈ g,x.length ≤ 1000
 t0 : 0 ≤ s.tail
 t1 : s.tail < g.length
 s0 : 0 ≤ s.slot
 s1 : s.slot < (g.getD s.tail.toNat []).length
theorem put_c (a : dT h H fb mi so c g M) (i : Nat) (s : aJ) (k : PutOK g s) : fX Try.prog w0 29 [.ptr (.own fb 0),.int .i64 i,.agg s.c] H (fun _ H' => PutK h fb mi so c g M s H') (fun ch H' => ch = pan (impV i) ∧ fY g s = false ∧ aH h H') := by
 refine aC7 aW aGV mf29_b mf29_g (qE rfl) fun hb ha => bT ?_
 rw [List.append_nil]
 obtain ⟨kt,hkt⟩ : ∃ n : Nat,s.tail = n := ⟨s.tail.toNat,by have := k.t0; omega⟩
 obtain ⟨ks,hks⟩ : ∃ n : Nat,s.slot = n := ⟨s.slot.toNat,by have := k.s0; omega⟩
 have ktl : kt < g.length := by have := k.t1; omega
 have hg : g ≠ [] := fun e => by rw [e] at ktl; simp at ktl
 obtain ⟨x,hx⟩ : ∃ x,x = g[kt] := ⟨_,rfl⟩
 have hgx : g[kt]? = some x := by rw [hx]; exact qA ktl
 have hsl : slG so g.length = .sl (.own so 0) g.length 1 false := by rw [slG,if_neg (fun e => hg (List.eq_nil_of_length_eq_zero e))]
 have gl := k.n
 have bx := a.box
 rw [hsl] at bx
 have bx' : ∀ L,((H ++ L) : aA)[fb]? = some (some (.row [.sl (.own so 0) g.length 1 false,.map mi])) := fun L => aE bx
 have sx' : ∀ L,((H ++ L) : aA)[so]? = some (some (.row c)) := fun L => aE (a.lst hg).2
 simp only [go_sem,mf29,bx']
 refine jC (fun j => [(0,.ptr (.own fb 0)),(1,.int .i64 i),(5,.ptr (.own H.length 0)),(11,.sl (.own so 0) g.length 1 false),(12,.int .i64 g.length),(13,.int .i64 j)]) (fun j => s.serial < 0 ∨ s.serial ∉ g.getD j []) g.length rfl (fun j hj hall ih => ?_) (fun hall => ?_)
 · refine aN aW aBZ [0,1,5,11,12,13] L29_0.eq_1 ?_
   have e1 : (j : Int) < g.length := by omega
   obtain ⟨y,hy,ys,yo,yc,_⟩ := a.row (qA hj)
   have i1 := nU (b := so) (f := false) hj
   have gj : g.getD j [] = g[j] := aR hj
   rw [gj] at ih
   have bx2 : ∀ L,((H ++ some (Blk.row s.c) :: L) : aA)[H.length]? = some (some (.row s.c)) := fun L => by rw [qI (Nat.le_refl _),Nat.sub_self]; rfl
   have gjl := k.r _ (qG hj)
   by_cases h0 : 0 ≤ s.serial
   · simp only [go_sem,e1,i1,sx',hy,bx2,h0]
     refine aV (aAZ s.serial (ys.sub aH.refl.app).s (by omega)).v ?_
     by_cases hm : s.serial ∈ g[j]
     · rw [decide_eq_true hm]
       simp only [go_sem]
       refine aF1 rfl ?_
       simp only [go_sem]
       have no : fY g s = false := by
        rw [fY,decide_eq_false (by omega),Bool.false_or,List.all_eq_false]
        exact ⟨g[j],qG hj,by simpa using hm⟩
       exact ⟨rfl,no,a.sub.app⟩
     · rw [decide_eq_false hm]
       simp only [go_sem]
       exact ⟨(by unfold I64; omega),ih (.inr hm)⟩
   · simp only [go_sem,e1,i1,sx',hy,bx2,h0]
     exact ⟨(by unfold I64; omega),ih (.inl (by omega))⟩
 · refine aN aW aBZ [0,1,5,11,12,13] L29_0.eq_1 ?_
   have e1 : ¬ (g.length : Int) < g.length := by omega
   obtain ⟨y,hy,ys,yo,yc,hy2⟩ := a.row (w0 := w0) hgx
   have ksl : ks < x.length := by
    have := k.s1
    rw [hkt,Int.toNat_natCast,aR ktl,← hx] at this
    omega
   obtain ⟨b,f,rfl,hbl,hbb⟩ := hy2 (fun e => by rw [e] at ksl; simp at ksl)
   have i1 := nU (b := so) (f := false) ktl
   have i2 := nU (b := b) (f := f) ksl
   have bb' : ∀ L,((H ++ L) : aA)[b]? = some (some (.row (bJ x))) := fun L => aE hbb
   have bx2 : ∀ L,((H ++ some (Blk.row s.c) :: L) : aA)[H.length]? = some (some (.row s.c)) := fun L => by rw [qI (Nat.le_refl _),Nat.sub_self]; rfl
   have il : (bJ x).length = x.length := by simp [bJ]
   simp only [go_sem,e1,bx',sx',bx2,hkt,hks,i1,hy,i2,bb',il,ksl]
   refine ⟨by omega,?_⟩
   have hsp : (bJ x).take ks ++ AV.int .i64 s.serial :: (bJ x).drop (ks + 1) = bJ (x.set ks s.serial) := by rw [← aDG ksl,sQ]; rfl
   rw [hsp]
   have F1 := (a.to (aH.refl.app (L := [some (Blk.row [AV.int IntKind.i64 s.night,AV.int IntKind.i64 kt,AV.int IntKind.i64 ks,AV.int IntKind.i64 s.serial])]))).put (x' := x.set ks s.serial) hgx hy (bb' _) hbl (List.length_set ..)
   have hbH := aQ hbb
   have f1 : ((H ++ [some (Blk.row [AV.int IntKind.i64 s.night,AV.int IntKind.i64 kt,AV.int IntKind.i64 ks,AV.int IntKind.i64 s.serial])]).set b (some (.row (bJ (x.set ks s.serial)))))[H.length]? = some (some (.row [AV.int IntKind.i64 s.night,AV.int IntKind.i64 kt,AV.int IntKind.i64 ks,AV.int IntKind.i64 s.serial])) := by
    rw [qB (by omega)]; simp
   obtain ⟨H1,eH1⟩ : ∃ H1,H1 = (H ++ [some (Blk.row [AV.int IntKind.i64 s.night,AV.int IntKind.i64 kt,AV.int IntKind.i64 ks,AV.int IntKind.i64 s.serial])]).set b (some (.row (bJ (x.set ks s.serial)))) := ⟨_,rfl⟩
   rw [← eH1] at F1 f1 ⊢
   simp only [go_sem,f1]
   refine cH (ACall.vc (first := []) (args := [_,_]) (aEw F1 s.serial)) ?_
   rintro _ H2 ⟨F2,_⟩
   simp only [go_sem]
   refine ⟨.tup [],rfl,?_,?_⟩
   · rw [fY]
     by_cases h0 : s.serial < 0
     · rw [decide_eq_true h0]; rfl
     · rw [decide_eq_false h0,Bool.false_or,List.all_eq_true]
       intro z hz
       obtain ⟨j,hj,rfl⟩ := List.getElem_of_mem hz
       have := hall j hj
       rw [aR hj] at this
       simpa [h0] using this
   · rw [lM,hkt,hks,Int.toNat_natCast,Int.toNat_natCast,aR ktl,← hx]
     exact F2
end
section
variable {P : Program} {r : Option Nat} {nt Z : Nat} {l : List MIx} {bef : List (List Nat)} {fr0 : Fr}
theorem dr_st (hm : P.follows .mixedOrders = true) {Q : Exit → Fr → aA → Prop} {k : List It} (V : Nat → AV → aA → Prop) (dst : Nat → Option Nat) (C : (Nat → Bool) → aA → Prop) (low : Nat)
 (hd : ∀ i x,l[i]? = some x → x.dst = dst i) (inj : ∀ i j d,i < l.length → j < l.length → dst i = some d → dst j = some d → i = j) (hlow : ∀ i d,dst i = some d → low ≤ d) (c0 : C (fun _ => false) h)
 (step : ∀ (S : Nat → Bool) (i : Nat) (x : MIx) (fr : Fr) (H : aA),l[i]? = some x → S i = false → (∀ j,bfr bef i j = true → S j = true) → (∀ a b,S a = true → bfr bef a b = true → S b = true) → C S H → (∀ t,t < low → fr.get t = fr0.get t) → (∀ j d,S j = true → dst j = some d → V j (fr.get d) H) →
  opV P w0 x fr H fun v H' => C (cV S i) H' ∧ (∀ j u,V j u H → V j u H') ∧ V i v H')
 (hQ : ∀ (S : Nat → Bool) (fr : Fr) (H : aA),(∀ i,i < l.length → S i = true) → C S H → (∀ t,t < low → fr.get t = fr0.get t) → ∃ fr2 : Fr,(∀ t,fr2.get t = .undef ∨ fr2.get t = fr.get t) ∧ un P w0 r nt Z Q .normal k fr2 H) : dr P w0 r nt Z Q l bef k fr0 h := by
 refine dr_J hm (fun S fr H => ((∀ j,S j = true → j < l.length) ∧ ∀ a b,S a = true → bfr bef a b = true → S b = true) ∧ C S H ∧ (∀ t,t < low → fr.get t = fr0.get t) ∧ ∀ j d,S j = true → dst j = some d → V j (fr.get d) H) ⟨⟨fun _ e => (by cases e),fun _ _ e => (by cases e)⟩,c0,fun _ _ => rfl,fun _ _ e => (by cases e)⟩ ?_ fun S fr H hall ⟨_,a2,a3,_⟩ => hQ S fr H hall a2 a3
 rintro S i x fr H hx hS hb ⟨⟨a1,acl⟩,a2,a3,a4⟩
 have hi := aF hx
 have hdx := hd i x hx
 refine qW (step S i x fr H hx hS hb acl a2 a3 a4) fun v H' ⟨b1,b2,b3⟩ => ⟨⟨fun j hj => ?_,fun p q hp hq => ?_⟩,b1,fun t ht => ?_,fun j d hj hdj => ?_⟩
 · by_cases e : j = i
   · rw [e]; exact hi
   · rw [aB e] at hj; exact a1 j hj
 · have hp' : S q = true := by
    by_cases e : p = i
    · subst e; exact hb q hq
    · rw [aB e] at hp; exact acl p q hp hq
   by_cases e : q = i
   · subst e; exact cD
   · rw [aB e]; exact hp'
 · rw [hdx,jH (fun e => by have := hlow i t e; omega)]; exact a3 t ht
 · by_cases e : j = i
   · subst e
     rw [hdx,hdj,cA]; exact b3
   · rw [aB e] at hj
     rw [hdx,jH (fun e2 => e (inj j i d (a1 j hj) hi hdj e2))]
     exact b2 _ _ (a4 j d hj hdj)
end
def fV (it iu : Nat) (x : aD) (u : aM) : Nat → AV → aA → Prop
 | 0,v,_ => v = .ptr (.own it 1)
 | 1,v,_ => v = ag2 x.ml x.mh
 | 2,v,_ => v = .ptr (.own iu 0)
 | 3,v,_ => v = ag2 u.ml u.mh
 | 4,v,H => ∃ b,b ≠ it ∧ v = .sl (.own b 0) 2 2 true ∧ H[b]? = some (some (.row [.int .i64 x.ml,.int .i64 x.mh,.int .i64 u.ml,.int .i64 u.mh]))
 | 5,v,_ => v = ag2 (aY x.ml u.ml) (aY x.mh u.mh)
 | 6,v,_ => v = .ptr (.own it 3)
 | 7,v,_ => v = ag2 x.cl x.ch
 | 8,v,_ => v = .ptr (.own iu 2)
 | 9,v,_ => v = ag2 u.cl u.ch
 | 10,v,H => ∃ b,b ≠ it ∧ v = .sl (.own b 0) 2 2 true ∧ H[b]? = some (some (.row [.int .i64 x.cl,.int .i64 x.ch,.int .i64 u.cl,.int .i64 u.ch]))
 | 11,v,_ => v = ag2 (aY x.cl u.cl) (aY x.ch u.ch)
 | 12,v,_ => v = .ptr (.own it 5)
 | 13,v,_ => v = .int .i64 x.d
 | 14,v,_ => v = .int .i64 (x.d + 1)
 | 15,v,_ => v = .ptr (.own it 1)
 | 17,v,_ => v = .ptr (.own it 3)
 | 19,v,_ => v = .ptr (.own it 5)
 | _,_,_ => True
def fDst (i : Nat) : Option Nat := if i < 16 then some (44 + i) else if i = 17 then some 60 else if i = 19 then some 61 else none
def rJ (x : aD) (u : aM) (a b c : Bool) : List AV := [.int .i64 x.n,.int .i64 (cond a (aY x.ml u.ml) x.ml),.int .i64 (cond a (aY x.mh u.mh) x.mh),.int .i64 (cond b (aY x.cl u.cl) x.cl),.int .i64 (cond b (aY x.ch u.ch) x.ch),.int .i64 (cond c (x.d + 1) x.d)]
structure fC (X : aA) (it : Nat) (x : aD) (u : aM) (S : Nat → Bool) (H : aA) : Prop where
 s : aH (X.set it none) (H.set it none)
 b : H[it]? = some (some (.row (rJ x u (S 16) (S 18) (S 20))))
theorem yN {it iu : Nat} {x : aD} {u : aM} {H H' : aA} (s : aH (H.set it none) (H'.set it none)) : ∀ j v,fV it iu x u j v H → fV it iu x u j v H' := fun j v e => by
 unfold fV at *
 split at e <;> first | exact e | (obtain ⟨b,e0,e1,e2⟩ := e; exact ⟨b,e0,e1,s.keep (Ne.symm e0) e2⟩)
theorem fC.to {X H H' : aA} {it : Nat} {x : aD} {u : aM} {S S' : Nat → Bool} (c : fC X it x u S H) (s : aH H H') (e : S' 16 = S 16 ∧ S' 18 = S 18 ∧ S' 20 = S 20) : fC X it x u S' H' := ⟨c.s.trans (s.set _),by rw [e.1,e.2.1,e.2.2]; exact s.2 _ _ c.b⟩
theorem aEN {d : Int} (bd : 0 ≤ d ∧ d ≤ 1000000) : bin .add (.int .i64 d) (.int .i64 1) = some (.int .i64 (d + 1)) := by
 have : inK .i64 (d + 1) = true := by
  unfold inK
  simp only [Bool.and_eq_true,decide_eq_true_eq]
  exact ⟨by show -(2 ^ (64 - 1) : Int) ≤ d + 1; have : (2 ^ (64 - 1) : Int) = 9223372036854775808 := (by decide); omega,by show d + 1 ≤ (2 ^ (64 - 1) - 1 : Int); have : (2 ^ (64 - 1) : Int) = 9223372036854775808 := (by decide); omega⟩
 simp [bin,eV,dJ,this]
theorem fly_dr {X : aA} {fr0 : Fr} {it iu : Nat} {x : aD} {u : aM} {Q : Exit → Fr → aA → Prop} {its : List It} {nt Z : Nat} (hi : X[it]? = some (some (.row x.c))) (hu : X[iu]? = some (some (.row u.c))) (hne : it ≠ iu)
 (f10 : fr0.get 10 = .ptr (.own it 0)) (f11 : fr0.get 11 = .ptr (.own iu 0)) (ba : Sm x.ml ∧ Sm x.mh ∧ Sm x.cl ∧ Sm x.ch) (bu : Sm u.ml ∧ Sm u.mh ∧ Sm u.cl ∧ Sm u.ch) (bd : 0 ≤ x.d ∧ x.d ≤ 1000000)
 (fin : ∀ fr H,aH (X.set it none) (H.set it none) → H[it]? = some (some (.row (gF x u).c)) → (∀ t,t < 44 → fr.get t = fr0.get t) → un Try.prog w0 none nt Z Q .normal its fr H) :
 dr Try.prog w0 none nt Z Q D28_0 B28_0 its fr0 X := by
 have hil := aQ hi
 refine dr_st aW (fV it iu x u) fDst (fC X it x u) 44 ?_ ?_ ?_ ⟨aH.refl,by simpa [rJ,aD.c] using hi⟩ ?_ ?_
 · intro i y hy
   have hlt := aF hy
   rcases i with _ | _ | _ | _ | _ | _ | _ | _ | _ | _ | _ | _ | _ | _ | _ | _ | _ | _ | _ | _ | _ | i <;> first | (cases hy; rfl) | (cases hy)
 · intro i j d hi hj e1 e2
   unfold fDst at e1 e2
   split at e1 <;> split at e2 <;> (try split at e1) <;> (try split at e2) <;> (try split at e1) <;> (try split at e2) <;> simp at e1 e2 <;> omega
 · intro i d e
   unfold fDst at e
   split at e <;> (try split at e) <;> (try split at e) <;> simp at e <;> omega
 · intro S i y fr H hy hS hb hcl c g v
   have hu' : H[iu]? = some (some (.row u.c)) := c.s.keep hne hu
   rcases i with _ | _ | _ | _ | _ | _ | _ | _ | _ | _ | _ | _ | _ | _ | _ | _ | _ | _ | _ | _ | _ | i
   all_goals first | (cases hy) | skip
   · exact ⟨_,_,by simp [aop,Opd.ev,g 10 (by omega),f10,Pl.add] <;> rfl,c.to aH.refl ⟨aB (by decide),aB (by decide),aB (by decide)⟩,fun _ _ e => e,rfl⟩
   · have e : fr.get 44 = .ptr (.own it 1) := v 0 44 (hb 0 (by decide)) rfl
     have z : ∀ k,k = 16 ∨ k = 18 ∨ k = 20 → S k = false := fun k hk => Bool.eq_false_iff.2 fun q => by
      have := hcl k 1 q (by rcases hk with rfl | rfl | rfl <;> decide)
      rw [hS] at this; cases this
     have hr := c.b
     rw [z 16 (.inl rfl),z 18 (.inr (.inl rfl)),z 20 (.inr (.inr rfl))] at hr
     exact ⟨_,_,by simp [aop,Opd.ev,e,rdv,rdn,rd,hr,rJ] <;> rfl,c.to aH.refl ⟨aB (by decide),aB (by decide),aB (by decide)⟩,fun _ _ e => e,rfl⟩
   · exact ⟨_,_,by simp [aop,Opd.ev,g 11 (by omega),f11,Pl.add] <;> rfl,c.to aH.refl ⟨aB (by decide),aB (by decide),aB (by decide)⟩,fun _ _ e => e,rfl⟩
   · have e : fr.get 46 = .ptr (.own iu 0) := v 2 46 (hb 2 (by decide)) rfl
     exact ⟨_,_,by simp [aop,Opd.ev,e,rdv,rdn,hu',aM.c] <;> rfl,c.to aH.refl ⟨aB (by decide),aB (by decide),aB (by decide)⟩,fun _ _ e => e,rfl⟩
   · have e : fr.get 45 = ag2 x.ml x.mh := v 1 45 (hb 1 (by decide)) rfl
     have e' : fr.get 47 = ag2 u.ml u.mh := v 3 47 (hb 3 (by decide)) rfl
     exact ⟨.sl (.own H.length 0) 2 2 true,H ++ [some (.row _)],by simp [aop,Opd.ev,e,e',ag2,dE,cellsOf,Ab.one,dL,bH,eO] <;> rfl,c.to aH.refl.app ⟨aB (by decide),aB (by decide),aB (by decide)⟩,yN (aH.refl.app.set _),H.length,by have := aQ c.b; omega,rfl,by rw [qI (Nat.le_refl _),Nat.sub_self]; rfl⟩
   · obtain ⟨b,_,e,e'⟩ := v 4 48 (hb 4 (by decide)) rfl
     have e : fr.get 48 = .sl (.own b 0) 2 2 true := e
     have := (pR (w0 := w0) (h := H) x.ml x.mh u.ml u.mh true e' ba.1 ba.2.1 bu.1 bu.2.1).v
     rw [← e] at this
     unfold dH at this
     exact bD.mono this (by rintro _ _ ⟨rfl,rfl⟩; exact ⟨c.to aH.refl ⟨aB (by decide),aB (by decide),aB (by decide)⟩,fun _ _ e => e,rfl⟩)
   · exact ⟨_,_,by simp [aop,Opd.ev,g 10 (by omega),f10,Pl.add] <;> rfl,c.to aH.refl ⟨aB (by decide),aB (by decide),aB (by decide)⟩,fun _ _ e => e,rfl⟩
   · have e : fr.get 50 = .ptr (.own it 3) := v 6 50 (hb 6 (by decide)) rfl
     have z : ∀ k,k = 16 ∨ k = 18 ∨ k = 20 → S k = false := fun k hk => Bool.eq_false_iff.2 fun q => by
      have := hcl k 7 q (by rcases hk with rfl | rfl | rfl <;> decide)
      rw [hS] at this; cases this
     have hr := c.b
     rw [z 16 (.inl rfl),z 18 (.inr (.inl rfl)),z 20 (.inr (.inr rfl))] at hr
     exact ⟨_,_,by simp [aop,Opd.ev,e,rdv,rdn,rd,hr,rJ] <;> rfl,c.to aH.refl ⟨aB (by decide),aB (by decide),aB (by decide)⟩,fun _ _ e => e,rfl⟩
   · exact ⟨_,_,by simp [aop,Opd.ev,g 11 (by omega),f11,Pl.add] <;> rfl,c.to aH.refl ⟨aB (by decide),aB (by decide),aB (by decide)⟩,fun _ _ e => e,rfl⟩
   · have e : fr.get 52 = .ptr (.own iu 2) := v 8 52 (hb 8 (by decide)) rfl
     exact ⟨_,_,by simp [aop,Opd.ev,e,rdv,rdn,hu',aM.c] <;> rfl,c.to aH.refl ⟨aB (by decide),aB (by decide),aB (by decide)⟩,fun _ _ e => e,rfl⟩
   · have e : fr.get 51 = ag2 x.cl x.ch := v 7 51 (hb 7 (by decide)) rfl
     have e' : fr.get 53 = ag2 u.cl u.ch := v 9 53 (hb 9 (by decide)) rfl
     exact ⟨.sl (.own H.length 0) 2 2 true,H ++ [some (.row _)],by simp [aop,Opd.ev,e,e',ag2,dE,cellsOf,Ab.one,dL,bH,eO] <;> rfl,c.to aH.refl.app ⟨aB (by decide),aB (by decide),aB (by decide)⟩,yN (aH.refl.app.set _),H.length,by have := aQ c.b; omega,rfl,by rw [qI (Nat.le_refl _),Nat.sub_self]; rfl⟩
   · obtain ⟨b,_,e,e'⟩ := v 10 54 (hb 10 (by decide)) rfl
     have e : fr.get 54 = .sl (.own b 0) 2 2 true := e
     have := (pR (w0 := w0) (h := H) x.cl x.ch u.cl u.ch true e' ba.2.2.1 ba.2.2.2 bu.2.2.1 bu.2.2.2).v
     rw [← e] at this
     unfold dH at this
     exact bD.mono this (by rintro _ _ ⟨rfl,rfl⟩; exact ⟨c.to aH.refl ⟨aB (by decide),aB (by decide),aB (by decide)⟩,fun _ _ e => e,rfl⟩)
   · exact ⟨_,_,by simp [aop,Opd.ev,g 10 (by omega),f10,Pl.add] <;> rfl,c.to aH.refl ⟨aB (by decide),aB (by decide),aB (by decide)⟩,fun _ _ e => e,rfl⟩
   · have e : fr.get 56 = .ptr (.own it 5) := v 12 56 (hb 12 (by decide)) rfl
     have z : ∀ k,k = 16 ∨ k = 18 ∨ k = 20 → S k = false := fun k hk => Bool.eq_false_iff.2 fun q => by
      have := hcl k 13 q (by rcases hk with rfl | rfl | rfl <;> decide)
      rw [hS] at this; cases this
     have hr := c.b
     rw [z 16 (.inl rfl),z 18 (.inr (.inl rfl)),z 20 (.inr (.inr rfl))] at hr
     exact ⟨_,_,by simp [aop,Opd.ev,e,rdv,rdn,rd,hr,rJ] <;> rfl,c.to aH.refl ⟨aB (by decide),aB (by decide),aB (by decide)⟩,fun _ _ e => e,rfl⟩
   · have e : fr.get 57 = .int .i64 x.d := v 13 57 (hb 13 (by decide)) rfl
     exact ⟨_,_,by simp [aop,Opd.ev,e,aEN bd] <;> rfl,c.to aH.refl ⟨aB (by decide),aB (by decide),aB (by decide)⟩,fun _ _ e => e,rfl⟩
   · exact ⟨_,_,by simp [aop,Opd.ev,g 10 (by omega),f10,Pl.add] <;> rfl,c.to aH.refl ⟨aB (by decide),aB (by decide),aB (by decide)⟩,fun _ _ e => e,rfl⟩
   · have e : fr.get 59 = .ptr (.own it 1) := v 15 59 (hb 15 (by decide)) rfl
     have e' : fr.get 49 = ag2 (aY x.ml u.ml) (aY x.mh u.mh) := v 5 49 (hb 5 (by decide)) rfl
     have hr := c.b
     refine ⟨.undef,H.set it (some (.row (rJ x u true (S 18) (S 20)))),by simp [aop,Opd.ev,e,e',ag2,cellsOf,Ab.one,hr,rJ,bH],⟨c.s.trans (by rw [List.set_set]; exact aH.refl),?_⟩,yN (by rw [List.set_set]; exact aH.refl),trivial⟩
     rw [qF (aQ hr)]
     rfl
   · exact ⟨_,_,by simp [aop,Opd.ev,g 10 (by omega),f10,Pl.add] <;> rfl,c.to aH.refl ⟨aB (by decide),aB (by decide),aB (by decide)⟩,fun _ _ e => e,rfl⟩
   · have e : fr.get 60 = .ptr (.own it 3) := v 17 60 (hb 17 (by decide)) rfl
     have e' : fr.get 55 = ag2 (aY x.cl u.cl) (aY x.ch u.ch) := v 11 55 (hb 11 (by decide)) rfl
     have hr := c.b
     refine ⟨.undef,H.set it (some (.row (rJ x u (S 16) true (S 20)))),by simp [aop,Opd.ev,e,e',ag2,cellsOf,Ab.one,hr,rJ,bH],⟨c.s.trans (by rw [List.set_set]; exact aH.refl),?_⟩,yN (by rw [List.set_set]; exact aH.refl),trivial⟩
     rw [qF (aQ hr)]
     rfl
   · exact ⟨_,_,by simp [aop,Opd.ev,g 10 (by omega),f10,Pl.add] <;> rfl,c.to aH.refl ⟨aB (by decide),aB (by decide),aB (by decide)⟩,fun _ _ e => e,rfl⟩
   · have e : fr.get 61 = .ptr (.own it 5) := v 19 61 (hb 19 (by decide)) rfl
     have e' : fr.get 58 = .int .i64 (x.d + 1) := v 14 58 (hb 14 (by decide)) rfl
     have hr := c.b
     refine ⟨.undef,H.set it (some (.row (rJ x u (S 16) (S 18) true))),by simp [aop,Opd.ev,e,e',ag2,cellsOf,Ab.one,hr,rJ,bH],⟨c.s.trans (by rw [List.set_set]; exact aH.refl),?_⟩,yN (by rw [List.set_set]; exact aH.refl),trivial⟩
     rw [qF (aQ hr)]
     rfl
 · intro S fr H hall c g
   have := c.b
   rw [hall 16 (by decide),hall 18 (by decide),hall 20 (by decide)] at this
   exact ⟨fr,fun _ => .inr rfl,fin fr H c.s this g⟩
def eJ (u : aM) (M : List aD) (n : Int) : List aD := if n < 0 then M else match bC M n with
 | some x => eZ M (gF x u)
 | none => M
def lI (u : aM) : List aD → List Int → List aD
 | M,[] => M
 | M,n :: r => lI u (eJ u M n) r
def jR (l : List aG) (d : Nat) : Nat → List aD → List (List Int) → List aD
 | _,M,[] => M
 | i,M,r :: g => jR l d (i + 1) (lI (dA l i d) M r) g
def TB (k : Nat) (M : List aD) : Prop := ∀ n x,bC M n = some x → (0 ≤ x.ml ∧ x.ml ≤ 10000000) ∧ (0 ≤ x.mh ∧ x.mh ≤ 10000000) ∧ (0 ≤ x.cl ∧ x.cl ≤ 10000000) ∧ (0 ≤ x.ch ∧ x.ch ≤ 10000000) ∧ 0 ≤ x.d ∧ x.d ≤ k
def Cov (g : List (List Int)) (M : List aD) : Prop := ∀ r ∈ g,∀ n ∈ r,0 ≤ n → (bC M n).isSome = true
theorem rG {M : List aD} {n : Int} {x : aD} (h : bC M n = some x) : x.n = n := by
 induction M with
 | nil => cases h
 | cons m M ih =>
  simp only [bC] at h
  split at h
  · rename_i e; cases h; exact e
  · exact ih h
theorem uN {a b : Int} (ha : 0 ≤ a) (hb : 0 ≤ b) : 0 ≤ aY a b ∧ aY a b ≤ 10000000 := by
 unfold aY kU
 split <;> split <;> omega
theorem uK {u : aM} (h : cQ u = true) : (0 ≤ u.ml ∧ u.ml ≤ 1440) ∧ (0 ≤ u.mh ∧ u.mh ≤ 1440) ∧ (0 ≤ u.cl ∧ u.cl ≤ 200) ∧ (0 ≤ u.ch ∧ u.ch ≤ 200) := by
 simp only [cQ,Bool.and_eq_true,decide_eq_true_eq] at h
 omega
theorem TB.step {k : Nat} {M : List aD} (a : TB k M) {u : aM} (hu : cQ u = true) (n : Int) : TB (k + 1) (eJ u M n) := by
 have up : TB (k + 1) M := fun m y hy => by have := a m y hy; omega
 unfold eJ
 split
 · exact up
 · split
   · rename_i x hx
     intro m y hy
     rw [iO] at hy
     split at hy
     · cases hy
       obtain ⟨b1,b2,b3,b4,b5⟩ := a n x hx
       obtain ⟨c1,c2,c3,c4⟩ := uK hu
       simp only [gF]
       exact ⟨uN b1.1 c1.1,uN b2.1 c2.1,uN b3.1 c3.1,uN b4.1 c4.1,by omega⟩
     · exact up m y hy
   · exact up
theorem aCg {M : List aD} {u : aM} {n k : Int} : (bC (eJ u M n) k).isSome = (bC M k).isSome := by
 unfold eJ
 split
 · rfl
 · split
   · rename_i x hx
     rw [iO]
     have := rG hx
     split
     · rename_i e
       simp only [gF] at e
       rw [e,this,hx]; rfl
     · rfl
   · rfl
theorem Cov.step {g : List (List Int)} {M : List aD} (a : Cov g M) (u : aM) (n : Int) : Cov g (eJ u M n) := fun r hr m hm h0 => by rw [aCg]; exact a r hr m hm h0
section
variable {H : aA} {fb mi so : Nat} {c : List AV} {g : List (List Int)} {M : List aD}
structure aAS (h : aA) (fb mi so : Nat) (c : List AV) (g : List (List Int)) (k : Nat) (H : aA) (M : List aD) : Prop where
 f : dT h H fb mi so c g M
 b : TB k M
 c : Cov g M
structure FlyOK (l : List aG) (g : List (List Int)) (d : Nat) : Prop where
 n : g.length ≤ l.length
 n2 : g.length ≤ 1000
 r : ∀ x ∈ g,x.length ≤ 100
 d : ∀ t ∈ l,d < t.days.length
 u : ∀ t ∈ l,t.days.all cQ = true
set_option maxRecDepth 20000 in
theorem fly_c {v : AV} {l : List aG} {d k : Nat} (hv : eE w0 h v l) (a : aAS h fb mi so c g k H M) (ok : FlyOK l g d) (hk : k ≤ 100000) (hd : d ≤ 1000) : ACall Try.prog w0 28 [.ptr (.own fb 0),v,.int .i64 d] H fun _ H' => aAS h fb mi so c g (k + 100 * g.length) H' (jR l d 0 M g) := by
 refine cB aW aGW mf28_b mf28_g (qE rfl) fun hb ha => bT ?_
 rw [List.append_nil]
 have hsl : ∃ sv,slG so g.length = sv ∧ sC sv = some (.int .i64 g.length) ∧ ∀ j,j < g.length → fZ 1 sv (some j) = some (.ptr (.own so j)) := by
  by_cases hg : g = []
  · subst hg; exact ⟨.nilS,rfl,rfl,fun j hj => by simp at hj⟩
  · exact ⟨.sl (.own so 0) g.length 1 false,by rw [slG,if_neg (fun e => hg (List.eq_nil_of_length_eq_zero e))],rfl,fun j hj => nU hj⟩
 obtain ⟨sv,hsl,svl,svi⟩ := hsl
 have bx := a.f.box
 rw [hsl] at bx
 have g2 := ok.n2
 simp only [go_sem,mf28,bx,svl]
 refine dM (S := aA × List aD) (fun i _ => [(0,.ptr (.own fb 0)),(1,v),(2,.int .i64 d),(15,sv),(16,.int .i64 g.length),(17,.int .i64 i)]) (fun _ s => s.1) (fun i s => aAS h fb mi so c g (k + 100 * i) s.1 s.2 ∧ jR l d i s.2 (g.drop i) = jR l d 0 M g) g.length (H,M) ⟨a,rfl⟩ rfl rfl ?_ ?_
 · rintro i ⟨H1,M1⟩ hi ⟨a1,q1⟩ ih
   simp only at a1 q1 ih ⊢
   refine aN aW aB0 [0,1,2,15,16,17] L28_1.eq_1 ?_
   have e1 : (i : Int) < g.length := by omega
   obtain ⟨r,hr⟩ : ∃ r,r = g[i] := ⟨_,rfl⟩
   have hgr : g[i]? = some r := by rw [hr]; exact qA hi
   obtain ⟨y,hy,ys,yo,yc,_⟩ := a1.f.row (w0 := w0) hgr
   have hg : g ≠ [] := fun e => by rw [e] at hi; simp at hi
   have sx := (a1.f.lst hg).2
   have rl := ok.r r (hr ▸ qG hi)
   have ly := (SlI.use ys.s).1
   have dr' : g.drop i = r :: g.drop (i + 1) := by rw [List.drop_eq_getElem_cons hi,← hr]
   rw [dr',jR] at q1
   simp only [go_sem,e1,svi i hi,sx,hy,ly]
   refine dM (S := aA × List aD) (fun j _ => [(0,.ptr (.own fb 0)),(1,v),(2,.int .i64 d),(6,.int .i64 i),(15,sv),(16,.int .i64 g.length),(17,.int .i64 i),(22,y),(23,.int .i64 r.length),(24,.int .i64 j)]) (fun _ s => s.1) (fun j s => aAS h fb mi so c g (k + 100 * i + j) s.1 s.2 ∧ lI (dA l i d) s.2 (r.drop j) = lI (dA l i d) M1 r) r.length (H1,M1) ⟨a1,rfl⟩ rfl rfl ?_ ?_
   · rintro j ⟨H2,M2⟩ hj ⟨a2,q2⟩ ih2
     simp only at a2 q2 ih2 ⊢
     refine aN aW aB1 [0,1,2,6,15,16,17,22,23,24] L28_0.eq_1 ?_
     have e2 : (j : Int) < r.length := by omega
     obtain ⟨y',hy',ys2,_,_,_⟩ := a2.f.row (w0 := w0) hgr
     obtain rfl : y' = y := by rw [hy] at hy'; exact (Option.some.inj hy').symm
     obtain ⟨p,i1,r1,r1'⟩ := ys2.s.at_ hj
     obtain ⟨n,hn⟩ : ∃ n,n = r[j] := ⟨_,rfl⟩
     have hnr : n ∈ r := hn ▸ qG hj
     rw [← hn] at r1 r1'
     have drj : r.drop j = n :: r.drop (j + 1) := by rw [List.drop_eq_getElem_cons hj,← hn]
     rw [drj,lI] at q2
     have hil : i < l.length := Nat.lt_of_lt_of_le hi ok.n
     have huo : dA l i d = (l[i].days).getD d aCt := by rw [dA,aR hil]
     have hdl := ok.d _ (qG hil)
     have hub : cQ (dA l i d) = true := by rw [huo,aR hdl]; exact List.all_eq_true.1 (ok.u _ (qG hil)) _ (qG hdl)
     have nxt := a2.b.step hub n
     have nxc := a2.c.step (dA l i d) n
     by_cases h0 : n < 0
     · simp only [go_sem,e2,i1,r1,r1',h0]
       have es : eJ (dA l i d) M2 n = M2 := by rw [eJ,if_pos h0]
       rw [es] at q2 nxt
       exact ⟨(by unfold I64; omega),ih2 (H2,M2) ⟨⟨a2.f,nxt,a2.c⟩,q2⟩⟩
     · obtain ⟨x,hx⟩ := Option.isSome_iff_exists.1 (a2.c r (hr ▸ qG hi) n hnr (by omega))
       have es : eJ (dA l i d) M2 n = eZ M2 (gF x (dA l i d)) := by rw [eJ,if_neg h0,hx]
       rw [es] at q2 nxt nxc
       have bx2 := a2.f.box
       rw [hsl] at bx2
       have bx2' : ∀ L,((H2 ++ L) : aA)[fb]? = some (some (.row [sv,.map mi])) := fun L => aE bx2
       have lk := vC a2.f.map n (.agg [.int .i64 0,.int .i64 0,.int .i64 0,.int .i64 0,.int .i64 0,.int .i64 0]) false
       rw [hx] at lk
       obtain ⟨p1,dv,tv,i3,r3,ra,_,hdv,_⟩ := hv.at_ hil
       obtain ⟨p2,i4,r4,_⟩ := hdv.at_ hdl
       obtain ⟨u,hu⟩ : ∃ u,u = l[i].days[d] := ⟨_,rfl⟩
       rw [← hu] at r4
       have hu2 : dA l i d = u := by rw [huo,aR hdl,← hu]
       have ra' : ∀ L,rd w0 (H2 ++ L) (p1.add 0) = some dv := fun L => a2.f.sub.app.rd (fU ra)
       have r4' : ∀ L,rdn w0 (H2 ++ L) p2 7 = some u.c := fun L => a2.f.sub.app.rdn (uY r4)
       simp only [go_sem,e2,i1,r1,r1',h0,bx2,lk,i3,ra',i4,r4']
       have hs0 : aH H2 ((H2 ++ [some (Blk.row x.c),some (Blk.row u.c)]).set H2.length none) := aH.refl.app.setR (Nat.le_refl _)
       have bM := a2.b n x hx
       have bU := uK hub
       rw [hu2] at bU q2 nxt nxc
       refine fly_dr (it := H2.length) (iu := H2.length + 1) (x := x) (u := u) (by simp [aD.c]) (by simp [aM.c]) (by omega) rfl rfl ⟨by unfold Sm; omega,by unfold Sm; omega,by unfold Sm; omega,by unfold Sm; omega⟩ ⟨by unfold Sm; omega,by unfold Sm; omega,by unfold Sm; omega,by unfold Sm; omega⟩ ?_ fun fr H3 s3 b3 kp => ?_
       · have := ok.n2; omega
       have f0 : fr.get 0 = .ptr (.own fb 0) := kp 0 (by omega)
       have f1 : fr.get 1 = v := kp 1 (by omega)
       have f2 : fr.get 2 = .int .i64 d := kp 2 (by omega)
       have f6 : fr.get 6 = .int .i64 i := kp 6 (by omega)
       have f9 : fr.get 9 = .int .i64 n := kp 9 (by omega)
       have f10 : fr.get 10 = .ptr (.own H2.length 0) := kp 10 (by omega)
       have f15 : fr.get 15 = sv := kp 15 (by omega)
       have f16 : fr.get 16 = .int .i64 g.length := kp 16 (by omega)
       have f17 : fr.get 17 = .int .i64 i := kp 17 (by omega)
       have f22 : fr.get 22 = y' := kp 22 (by omega)
       have f23 : fr.get 23 = .int .i64 r.length := kp 23 (by omega)
       have f24 : fr.get 24 = .int .i64 j := kp 24 (by omega)
       have hs3 : aH H2 H3 := (hs0.trans s3).trans aH.msk
       have a3 := a2.f.to hs3
       have bx3 := a3.box
       rw [hsl] at bx3
       have hnx := rG hx
       have pk := aEf a3.map (gF x u)
       simp only [gF] at pk b3
       rw [hnx] at pk b3
       simp only [aD.c] at pk b3
       simp only [go_sem,f0,f9,f10,bx3,b3,pk,f24,f1,f2,f6,f15,f16,f17,f22,f23]
       refine ⟨(by unfold I64; omega),?_⟩
       have eadd : gF x u = ⟨n,aY x.ml u.ml,aY x.mh u.mh,aY x.cl u.cl,aY x.ch u.ch,x.d + 1⟩ := by rw [gF,hnx]
       rw [← eadd]
       have es2 : eJ u M2 n = eZ M2 (gF x u) := by rw [hu2] at es; exact es
       have kp' : dD [mi] H3 (H3.set mi (some (.map (eC (eZ M2 (gF x u)))))) := dD.refl.set (.inl (List.mem_singleton.2 rfl))
       exact ih2 (H3.set mi (some (.map (eC (eZ M2 (gF x u))))),eZ M2 (gF x u)) ⟨⟨a3.setM kp' (qF (aQ a3.map)),nxt,nxc⟩,by rw [hu2]; exact q2⟩
   · rintro ⟨H2,M2⟩ ⟨a2,q2⟩
     simp only at a2 q2 ⊢
     refine aN aW aB1 [0,1,2,6,15,16,17,22,23,24] L28_0.eq_1 ?_
     have e2 : ¬ (r.length : Int) < r.length := by omega
     rw [List.drop_length,lI] at q2
     simp only [go_sem,e2]
     exact ⟨(by unfold I64; omega),ih (H2,M2) ⟨⟨a2.f,fun n x e => by have := a2.b n x e; omega,a2.c⟩,by rw [q2]; exact q1⟩⟩
 · rintro ⟨H1,M1⟩ ⟨a1,q1⟩
   simp only at a1 q1 ⊢
   refine aN aW aB0 [0,1,2,15,16,17] L28_1.eq_1 ?_
   have e1 : ¬ (g.length : Int) < g.length := by omega
   rw [List.drop_length,jR] at q1
   simp only [go_sem,e1]
   rw [← q1]
   exact a1
end
set_option maxRecDepth 20000 in
theorem aD2 {v : AV} {l : List aG} (hv : eE w0 h v l) (hs : jK l) : bQ Try.prog w0 5 [v] h (.bool (fT l)) h := by
 refine eU (by simp [AV.bdd]) (cB aW mf5_ok mf5_b mf5_g (qE rfl) fun hb ha => bT ?_)
 obtain ⟨hn,hs⟩ := hs
 have hlen := hv.len
 simp only [go_sem,mf5]
 refine dM (S := aA × AV × List Int) (fun j s => [(0,v),(3,s.2.1),(4,.int .i64 j)]) (fun _ s => s.1) (fun j s => TInv l h j s.1 s.2.1 s.2.2) l.length (h,.nilS,[]) ⟨Gro.nil aH.refl,Nat.zero_le _,rfl⟩ rfl (List.append_nil h) ?_ ?_
 · rintro j ⟨H,ov,a⟩ hj ⟨g,ga,ge⟩ ih
   simp only at g ga ge ih ⊢
   refine aN aW aFa [0,3,4] L5_2.eq_1 ?_
   have e1 : (j : Int) < l.length := by omega
   obtain ⟨p,dv,sv,i1,r1,ra,rb,hd,hsv⟩ := hv.at_ hj
   have ra' := g.sub.rd (fU ra)
   have rb' := g.sub.rd (fU rb)
   obtain ⟨p0,dv0,sv0,i0,_,r0a,_,hd0,_⟩ := hv.at_ (j := 0) (by omega)
   have r0a' := g.sub.rd (fU r0a)
   have hdays0 : aO l = l[0].days.length := by rw [aO,aR]
   obtain ⟨t,ht⟩ : ∃ t,t = l[j] := ⟨_,rfl⟩
   obtain ⟨t0,ht0⟩ : ∃ t,t = l[0] := ⟨_,rfl⟩
   have htm := hs t (ht ▸ qG hj)
   have ht0m := hs t0 (ht0 ▸ qG (by omega))
   rw [← ht] at hd hsv
   rw [← ht0] at hd0 hdays0
   have ld := hd.len
   have ld0 := hd0.len
   have lsv := (SlI.use hsv.s).1
   have drop : l.drop j = t :: l.drop (j + 1) := by rw [List.drop_eq_getElem_cons hj,← ht]
   rw [drop,fS] at ge
   have no : fJ (aO l) t = false → fT l = false := fun e => by rw [ge,e]; rfl
   by_cases c1 : t.days.length = t0.days.length
   · have c1' : ((t.days.length : Int) != (t0.days.length : Int)) = false := by rw [c1]; simp
     simp only [go_sem,e1,hlen,i1,ra',rb',i0,r0a',ld,ld0,c1',lsv]
     refine ⟨fun c2 => ⟨fun c3 => ⟨g.sub,by rw [no (by simp only [fJ]; rw [decide_eq_false (p := t.ser.length ≤ 5) (by omega)]; simp)]⟩,fun c3 => ?_⟩,fun c2 => ⟨g.sub,by rw [no (by simp only [fJ]; rw [decide_eq_false (p := t.days.length ≤ 30) (by omega)]; simp)]⟩⟩
     refine jC (fun i => [(0,v),(3,ov),(4,.int .i64 j),(5,.int .i64 i)]) (fun i => cQ (t.days.getD i aCt) = true) t.days.length rfl (fun i hi hall iu => ?_) (fun hall => ?_)
     · refine aN aW aFc [0,3,4,5] L5_0.eq_1 ?_
       have e2 : (i : Int) < t.days.length := by omega
       obtain ⟨q,i2,_,r2⟩ := hd.at_ hi
       obtain ⟨u,hu⟩ : ∃ u,u = t.days[i] := ⟨_,rfl⟩
       rw [← hu] at r2
       rw [aR hi,← hu] at iu
       have r2' := g.sub.rdn r2
       simp only [go_sem,i1,ra',ld,e2,i2,r2']
       refine aV (rUse_c u).v ?_
       cases c4 : cQ u with
       | false =>
        simp only [go_sem]
        have : t.days.all cQ = false := List.all_eq_false.2 ⟨u,hu ▸ qG hi,by rw [c4]; simp⟩
        exact ⟨g.sub,by rw [no (by simp [fJ,this])]⟩
       | true =>
        simp only [go_sem]
        exact ⟨(by unfold I64; omega),iu c4⟩
     · refine aN aW aFc [0,3,4,5] L5_0.eq_1 ?_
       have e2 : ¬ (t.days.length : Int) < t.days.length := by omega
       have c4 : t.days.all cQ = true := List.all_eq_true.2 fun u hu => by
        obtain ⟨i,hi,rfl⟩ := List.getElem_of_mem hu
        have := hall i hi
        rwa [aR hi] at this
       have tb : fJ (aO l) t = true := by simp only [fJ,c4,hdays0]; simp only [c1,decide_true,Bool.and_true,Bool.true_and]; rw [Bool.and_eq_true]; exact ⟨decide_eq_true (by omega),decide_eq_true (by omega)⟩
       rw [tb,Bool.true_and] at ge
       simp only [go_sem,i1,ra',ld,e2]
       refine dM (S := aA × AV × List Int) (fun k s => [(0,v),(3,s.2.1),(4,.int .i64 j),(6,.int .i64 k)]) (fun _ s => s.1) (fun k s => aBW l h j t k s.1 s.2.1 s.2.2) t.ser.length (H,ov,a) ⟨g,by omega,ge⟩ rfl rfl ?_ ?_
       · rintro k ⟨H2,ov2,a2⟩ hk ⟨g2,ga2,ge2⟩ ih2
         simp only at g2 ga2 ge2 ih2 ⊢
         refine aN aW aFb [0,3,4,6] L5_1.eq_1 ?_
         have e2 : (k : Int) < t.ser.length := by omega
         have rb2 := g2.sub.rd (fU rb)
         obtain ⟨q,i2,r2,r2'⟩ := SlI.at_ (hsv.s.sub g2.sub) hk
         obtain ⟨n,hnn⟩ : ∃ n,n = t.ser[k] := ⟨_,rfl⟩
         rw [← hnn] at r2 r2'
         have dk : t.ser.drop k = n :: t.ser.drop (k + 1) := by rw [List.drop_eq_getElem_cons hk,← hnn]
         rw [dk,uO] at ge2
         have bk : ∀ L,((H2 ++ some (Blk.row [AV.int .i64 n]) :: L) : aA)[H2.length]? = some (some (.row [.int .i64 n])) := fun L => by rw [qI (Nat.le_refl _),Nat.sub_self]; rfl
         obtain ⟨G,ap,gG⟩ := (g2.app (L := [some (Blk.row [AV.int .i64 n])])).more (w0 := w0) (b := 8) (f := true) (x := [.int .i64 n]) (bk []) rfl rfl (by omega) (by omega)
         have gG' : Gro h G 1 (a2 ++ [n]).length (.sl (.own (H2.length + 1) 0) (a2.length + 1) 1 false) (bJ (a2 ++ [n])) := by
          rw [List.length_append,List.length_singleton,bJ,List.map_append]
          rw [List.length_append,List.length_singleton] at gG
          exact gG
         have nxt : (inB n (-1) 1000 && !(decide (0 ≤ n) && decide (n ∈ a2))) = true → aBW l h j t (k + 1) G (.sl (.own (H2.length + 1) 0) (a2.length + 1) 1 false) (a2 ++ [n]) := fun q =>
          ⟨gG',by rw [List.length_append,List.length_singleton]; omega,by rw [ge2,q,Bool.true_and,List.append_assoc]; rfl⟩
         simp only [go_sem,i1,rb2,lsv,e2,i2,r2,r2']
         refine aV (lF n (-1) 1000).v ?_
         cases d1 : inB n (-1) 1000 with
         | false =>
          simp only [go_sem]
          exact ⟨g2.sub,by rw [ge2,d1]; rfl⟩
         | true =>
         simp only [go_sem]
         by_cases d2 : 0 ≤ n
         · simp only [go_sem,d2]
           refine aV (aDX n (g2.sli rfl) (by omega)).v ?_
           cases d3 : decide (n ∈ a2) with
           | true =>
            simp only [go_sem]
            exact ⟨g2.sub,by rw [ge2,d1,d3,decide_eq_true d2]; rfl⟩
           | false =>
            simp only [go_sem,bk,ap]
            exact ⟨(by unfold I64; omega),ih2 (G,_,a2 ++ [n]) (nxt (by rw [d1,d3]; simp))⟩
         · simp only [go_sem,d2,bk,ap]
           exact ⟨(by unfold I64; omega),ih2 (G,_,a2 ++ [n]) (nxt (by rw [d1,decide_eq_false d2]; rfl))⟩
       · rintro ⟨H2,ov2,a2⟩ ⟨g2,ga2,ge2⟩
         simp only at g2 ga2 ge2 ⊢
         refine aN aW aFb [0,3,4,6] L5_1.eq_1 ?_
         have e2 : ¬ (t.ser.length : Int) < t.ser.length := by omega
         have rb2 := g2.sub.rd (fU rb)
         rw [List.drop_length,uO,Bool.true_and,List.append_nil] at ge2
         simp only [go_sem,i1,rb2,lsv,e2]
         exact ⟨(by unfold I64; omega),ih (H2,ov2,a2) ⟨g2,by simp only; omega,ge2⟩⟩
   · have c1' : ((t.days.length : Int) != (t0.days.length : Int)) = true := by simp only [bne_iff_ne,ne_eq]; omega
     simp only [go_sem,e1,hlen,i1,ra',rb',i0,r0a',ld,ld0,c1',lsv]
     exact ⟨g.sub,by rw [no (by simp [fJ,hdays0,c1])]⟩
 · rintro ⟨H,ov,a⟩ ⟨g,ga,ge⟩
   simp only at g ga ge ⊢
   refine aN aW aFa [0,3,4] L5_2.eq_1 ?_
   have e1 : ¬ (l.length : Int) < l.length := by omega
   rw [List.drop_length,fS] at ge
   simp only [go_sem,e1,hlen]
   exact ⟨g.sub,by rw [ge]⟩
set_option maxRecDepth 20000 in
theorem aD3 {v sv : AV} {l : List aG} {sw : List aJ} (hv : eE w0 h v l) (hw : fW w0 h sv sw) (hs : jK l) (hn : sw.length ≤ 1000) : bQ Try.prog w0 6 [v,sv] h (.bool (cG l sw)) h := by
 refine bN aW mf6_ok mf6_b mf6_g (qE rfl) (by simp [AV.bdd,AV.bdds]) fun hb ha => bT ?_
 obtain ⟨hll,hs⟩ := hs
 have hlen := hv.len
 have hlw := hw.len
 have vb := NS.bdd hv (Nat.le_refl _)
 have wb := NS.bdd hw (Nat.le_refl _)
 simp only [go_sem,mf6,hlw]
 refine jC (fun j => [(0,v),(1,sv),(5,.int .i64 j)]) (fun i => (iJ l (sw.getD i oJ) && oR sw i) = true) sw.length rfl (fun i hi hall ih => ?_) (fun hall => ?_)
 · refine aN aW aE9 [0,1,5] L6_0.eq_1 ?_
   have e1 : (i : Int) < sw.length := by omega
   obtain ⟨p,i1,r1,r1'⟩ := hw.at_ hi
   have no := sM (l := l) hi
   obtain ⟨s,hsw⟩ : ∃ s,s = sw[i] := ⟨_,rfl⟩
   rw [← hsw] at r1 r1'
   rw [aR hi,← hsw] at ih no
   have w1 : wi ((l.length : Int) - 1) = l.length - 1 := dV (by unfold I64; omega)
   simp only [go_sem,e1,hlw,i1,r1,r1',hlen,w1]
   refine aV (lF s.tail 0 (l.length - 1)).v ?_
   cases c1 : inB s.tail 0 (l.length - 1) with
   | false => simp only [go_sem]; rw [no (by rw [iJ,c1]; rfl)]
   | true =>
   rw [jF] at c1
   obtain ⟨k,hk⟩ : ∃ k : Nat,s.tail = k := ⟨s.tail.toNat,by omega⟩
   have hkl : k < l.length := by omega
   obtain ⟨q,dv,tv,i2,r2,ra,rb,hd,hsv⟩ := hv.at_ hkl
   obtain ⟨t,ht⟩ : ∃ t,t = l[k] := ⟨_,rfl⟩
   have htm := hs t (ht ▸ qG hkl)
   rw [← ht] at hd hsv
   have ld := hd.len
   have ls := (SlI.use hsv.s).1
   have gt : l.getD s.tail.toNat qZ = t := by rw [hk,Int.toNat_natCast,aR hkl,ht]
   have w2 : wi ((t.ser.length : Int) - 1) = t.ser.length - 1 := dV (by unfold I64; omega)
   have w3 : wi ((t.days.length : Int) - 1) = t.days.length - 1 := dV (by unfold I64; omega)
   rw [iJ,gt,jF.2 c1,Bool.true_and] at no ih
   simp only [go_sem,hk,i2,ra,ld,w3]
   refine aV (lF s.night 0 (t.days.length - 1)).v ?_
   cases c4 : inB s.night 0 (t.days.length - 1) with
   | false => simp only [go_sem]; rw [no (by rw [c4]; simp)]
   | true =>
   by_cases hi0 : i = 0
   · have d0 : ¬ (0 : Int) < (i : Int) := by omega
     have ho : oR sw i = true := by rw [oR,decide_eq_true hi0]; rfl
     simp only [go_sem,d0,hk,i2,rb,ls,w2]
     refine aV (lF s.slot 0 (t.ser.length - 1)).v ?_
     cases c2 : inB s.slot 0 (t.ser.length - 1) with
     | false => simp only [go_sem]; rw [no (by rw [c2]; rfl)]
     | true =>
     simp only [go_sem]
     refine aV (lF s.serial (-1) 1000).v ?_
     cases c3 : inB s.serial (-1) 1000 with
     | false => simp only [go_sem]; rw [no (by rw [c2,c3]; rfl)]
     | true =>
     simp only [go_sem]
     refine ⟨(by unfold I64; omega),pF 0 hb (by simp [HBs]) (by simp [nI,nJ,pI,pJ,vX,pB,AV.bdds,AV.bdd,Pl.bdd,kJ]; exact ⟨vb,wb⟩) ?_⟩
     simpa using ih (by rw [c2,c3,c4,ho]; rfl)
   · have d0 : (0 : Int) < (i : Int) := by omega
     obtain ⟨p2,i3,r3,r3'⟩ := hw.at_ (j := i - 1) (by omega)
     obtain ⟨s2,hs2⟩ : ∃ s,s = sw[i - 1] := ⟨_,rfl⟩
     rw [← hs2] at r3 r3'
     have w4 : wi ((i : Int) - 1) = ((i - 1 : Nat) : Int) := by rw [dV (by unfold I64; omega)]; omega
     have r4 : ∀ L,rd w0 (h ++ L) (p2.add 0) = some (.int .i64 s2.night) := fun L => eY (r3 L) rfl
     have ho : oR sw i = decide (s2.night ≤ s.night) := by rw [oR,decide_eq_false hi0,aR hi,← hsw,aR (by omega),← hs2]; rfl
     by_cases d1 : s2.night ≤ s.night
     · have d1' : ¬ s.night < s2.night := by omega
       simp only [go_sem,d0,w4,i3,r4,d1',hk,i2,rb,ls,w2]
       refine aV (lF s.slot 0 (t.ser.length - 1)).v ?_
       cases c2 : inB s.slot 0 (t.ser.length - 1) with
       | false => simp only [go_sem]; rw [no (by rw [c2]; rfl)]
       | true =>
       simp only [go_sem]
       refine aV (lF s.serial (-1) 1000).v ?_
       cases c3 : inB s.serial (-1) 1000 with
       | false => simp only [go_sem]; rw [no (by rw [c2,c3]; rfl)]
       | true =>
       simp only [go_sem]
       refine ⟨(by unfold I64; omega),pF 0 hb (by simp [HBs]) (by simp [nI,nJ,pI,pJ,vX,pB,AV.bdds,AV.bdd,Pl.bdd,kJ]; exact ⟨vb,wb⟩) ?_⟩
       simpa using ih (by rw [c2,c3,c4,ho,decide_eq_true d1]; rfl)
     · have d1' : s.night < s2.night := by omega
       simp only [go_sem,d0,w4,i3,r4,d1']
       rw [no (by rw [ho,decide_eq_false d1]; simp)]
 · refine aN aW aE9 [0,1,5] L6_0.eq_1 ?_
   have e1 : ¬ (sw.length : Int) < sw.length := by omega
   simp only [go_sem,e1,hlw]
   have : cG l sw = true := by rw [cG,List.all_eq_true]; exact fun i hi => hall i (List.mem_range.1 hi)
   rw [this]
end Go.Proofs.Ab

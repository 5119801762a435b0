/- The own layer under the proofs of this seat, part J: what calls of the program come to on an abstract heap. No condition. -/
import Derived.Test.YtijiinmeodpanaaGreatI
set_option linter.unusedSimpArgs false
set_option linter.unusedVariables false
namespace Go.Proofs.Ab
open Go Go.Proofs
variable {w0 : World} {h : aA}
attribute [local irreducible] ACall bB dH bQ dG rvC lp rg dr ex un rv
def uF : List Int → List Int → Bool
 | _,[] => true
 | acc,n :: r => (inB n (-1) 1000 && !(decide (0 ≤ n) && decide (n ∈ acc))) && uF (acc ++ [n]) r
def fI (n0 : Nat) (t : aH) : Bool := (decide (t.days.length = n0) && (decide (t.days.length ≤ 30) && decide (t.ser.length ≤ 5))) && t.days.all dJ
def fR (n0 : Nat) : List Int → List aH → Bool
 | _,[] => true
 | acc,t :: r => fI n0 t && (uF acc t.ser && fR n0 (acc ++ t.ser) r)
def bD (l : List aH) : Nat := (l.getD 0 rX).days.length
def fS (l : List aH) : Bool := fR (bD l) [] l
def jD (l : List aH) : Prop := l.length ≤ 1000 ∧ ∀ t ∈ l,t.days.length ≤ 1000 ∧ t.ser.length ≤ 1000
structure TInv (l : List aH) (h : aA) (j : Nat) (H : aA) (ov : AV) (a : List Int) : Prop where
 g : Gro h H 1 a.length ov (bI a)
 n : a.length ≤ j * 1000
 e : fS l = fR (bD l) a (l.drop j)
structure aBJ (l : List aH) (h : aA) (j : Nat) (t : aH) (k : Nat) (H : aA) (ov : AV) (a : List Int) : Prop where
 g : Gro h H 1 a.length ov (bI a)
 n : a.length ≤ j * 1000 + k
 e : fS l = (uF a (t.ser.drop k) && fR (bD l) (a ++ t.ser.drop k) (l.drop (j + 1)))
set_option maxRecDepth 20000 in
theorem aDd {v : AV} {l : List aH} (hv : dF w0 h v l) (hs : jD l) : bQ Tryz.prog w0 21 [v] h (.bool (fS l)) h := by
 refine eU (by simp [AV.bdd]) (bZ aQ aGI mf21_b mf21_g (qE rfl) fun hb ha => bV ?_)
 obtain ⟨hn,hs⟩ := hs
 have hlen := hv.len
 simp only [go_sem,mf21,hlen]
 refine dB (S := aA × AV × List Int) (fun j s => [(0,v),(3,s.2.1),(8,v),(9,.int .i64 l.length),(10,.int .i64 j)]) (fun _ s => s.1) (fun j s => TInv l h j s.1 s.2.1 s.2.2) l.length (h,.nilS,[]) ⟨Gro.nil aG.refl,Nat.zero_le _,rfl⟩ rfl (List.append_nil h) ?_ ?_
 · rintro j ⟨H,ov,a⟩ hj ⟨g,ga,ge⟩ ih
   simp only at g ga ge ih ⊢
   refine aJ aQ aBU [0,3,8,9,10] L21_1.eq_1 ?_
   have e1 : (j : Int) < l.length := by omega
   obtain ⟨p,dv,sv,i1,r1,ra,rb,hd,hsv⟩ := hv.at_ hj
   have rr1 := g.sub.rdn (uQ r1)
   obtain ⟨p0,dv0,sv0,i0,_,r0a,_,hd0,_⟩ := (hv.sub g.sub).at_ (j := 0) (by omega)
   have hdays0 : bD l = l[0].days.length := by rw [bD,aS]
   obtain ⟨t,ht⟩ : ∃ t,t = l[j] := ⟨_,rfl⟩
   obtain ⟨t0,ht0⟩ : ∃ t,t = l[0] := ⟨_,rfl⟩
   have htm := hs t (ht ▸ qG hj)
   have ht0m := hs t0 (ht0 ▸ qG (by omega))
   rw [← ht] at hd hsv
   rw [← ht0] at hd0 hdays0
   have ld := hd.len
   have ld0 := hd0.len
   have lsv := (SlI.use hsv.s).1
   have cd := hd.one
   have cs := hsv.s.one
   have bx : ∀ L,((H ++ some (Blk.row [dv,sv]) :: L) : aA)[H.length]? = some (some (.row [dv,sv])) := fun L => by rw [qI (Nat.le_refl _),Nat.sub_self]; rfl
   have drop : l.drop j = t :: l.drop (j + 1) := by rw [List.drop_eq_getElem_cons hj,← ht]
   rw [drop,fR] at ge
   have no : fI (bD l) t = false → fS l = false := fun e => by rw [ge,e]; rfl
   by_cases c1 : t.days.length = t0.days.length
   · have c1' : ((t.days.length : Int) != (t0.days.length : Int)) = false := by rw [c1]; simp
     simp only [go_sem,e1,i1,rr1,cd.1,cs.1,bx,i0,r0a,ld,ld0,c1',lsv]
     have hsub := g.sub.app (L := [some (Blk.row [dv,sv])])
     refine ⟨fun c2 => ⟨fun c3 => ⟨hsub,by rw [no (by simp only [fI]; rw [decide_eq_false (p := t.ser.length ≤ 5) (by omega)]; simp)]⟩,fun c3 => ?_⟩,fun c2 => ⟨hsub,by rw [no (by simp only [fI]; rw [decide_eq_false (p := t.days.length ≤ 30) (by omega)]; simp)]⟩⟩
     refine aO (wcf_c (iM.sub hd g.sub.app) (by omega)).v ?_
     cases c4 : t.days.all dJ with
     | false =>
      simp only [go_sem]
      exact ⟨hsub,by rw [no (by simp [fI,c4])]⟩
     | true =>
     have tb : fI (bD l) t = true := by simp only [fI,c4,hdays0]; simp only [c1,decide_true,Bool.and_true,Bool.true_and]; rw [Bool.and_eq_true]; exact ⟨decide_eq_true (by omega),decide_eq_true (by omega)⟩
     rw [tb,Bool.true_and] at ge
     simp only [go_sem,bx,lsv]
     refine dB (S := aA × AV × List Int) (fun k s => [(0,v),(3,s.2.1),(8,v),(9,.int .i64 l.length),(10,.int .i64 j),(39,sv),(40,.int .i64 t.ser.length),(41,.int .i64 k)]) (fun _ s => s.1) (fun k s => aBJ l h j t k s.1 s.2.1 s.2.2) t.ser.length (_,ov,a) ⟨g.app,by omega,ge⟩ rfl rfl ?_ ?_
     · rintro k ⟨H2,ov2,a2⟩ hk ⟨g2,ga2,ge2⟩ ih2
       simp only at g2 ga2 ge2 ih2 ⊢
       refine aJ aQ aBV [0,3,8,9,10,39,40,41] L21_0.eq_1 ?_
       have e2 : (k : Int) < t.ser.length := by omega
       obtain ⟨q,i2,r2,r2'⟩ := SlI.at_ (hsv.s.sub g2.sub) hk
       obtain ⟨n,hnn⟩ : ∃ n,n = t.ser[k] := ⟨_,rfl⟩
       rw [← hnn] at r2 r2'
       have dk : t.ser.drop k = n :: t.ser.drop (k + 1) := by rw [List.drop_eq_getElem_cons hk,← hnn]
       rw [dk,uF] at ge2
       have bk : ∀ L,((H2 ++ some (Blk.row [AV.int .i64 n]) :: L) : aA)[H2.length]? = some (some (.row [.int .i64 n])) := fun L => by rw [qI (Nat.le_refl _),Nat.sub_self]; rfl
       obtain ⟨G,ap,gG⟩ := (g2.app (L := [some (Blk.row [AV.int .i64 n])])).more (w0 := w0) (b := 8) (f := true) (x := [.int .i64 n]) (bk []) rfl rfl (by omega) (by omega)
       have gG' : Gro h G 1 (a2 ++ [n]).length (.sl (.own (H2.length + 1) 0) (a2.length + 1) 1 false) (bI (a2 ++ [n])) := by
        rw [List.length_append,List.length_singleton,bI,List.map_append]
        rw [List.length_append,List.length_singleton] at gG
        exact gG
       have nxt : (inB n (-1) 1000 && !(decide (0 ≤ n) && decide (n ∈ a2))) = true → aBJ l h j t (k + 1) G (.sl (.own (H2.length + 1) 0) (a2.length + 1) 1 false) (a2 ++ [n]) := fun q =>
        ⟨gG',by rw [List.length_append,List.length_singleton]; omega,by rw [ge2,q,Bool.true_and,List.append_assoc]; rfl⟩
       simp only [go_sem,e2,i2,r2,r2']
       refine aO (wB n (-1) 1000).v ?_
       cases d1 : inB n (-1) 1000 with
       | false =>
        simp only [go_sem]
        exact ⟨g2.sub,by rw [ge2,d1]; rfl⟩
       | true =>
       simp only [go_sem]
       by_cases d2 : 0 ≤ n
       · simp only [go_sem,d2]
         refine aO (aAP n (g2.sli rfl) (by omega)).v ?_
         cases d3 : decide (n ∈ a2) with
         | true =>
          simp only [go_sem]
          exact ⟨g2.sub,by rw [ge2,d1,d3,decide_eq_true d2]; rfl⟩
         | false =>
          simp only [go_sem,bk,ap]
          exact ⟨(by unfold I64; omega),ih2 (G,_,a2 ++ [n]) (nxt (by rw [d1,d3]; simp))⟩
       · simp only [go_sem,d2,bk,ap]
         exact ⟨(by unfold I64; omega),ih2 (G,_,a2 ++ [n]) (nxt (by rw [d1,decide_eq_false d2]; rfl))⟩
     · rintro ⟨H2,ov2,a2⟩ ⟨g2,ga2,ge2⟩
       simp only at g2 ga2 ge2 ⊢
       refine aJ aQ aBV [0,3,8,9,10,39,40,41] L21_0.eq_1 ?_
       have e2 : ¬ (t.ser.length : Int) < t.ser.length := by omega
       rw [List.drop_length,uF,Bool.true_and,List.append_nil] at ge2
       simp only [go_sem,e2]
       exact ⟨(by unfold I64; omega),ih (H2,ov2,a2) ⟨g2,by simp only; omega,ge2⟩⟩
   · have c1' : ((t.days.length : Int) != (t0.days.length : Int)) = true := by simp only [bne_iff_ne,ne_eq]; omega
     simp only [go_sem,e1,i1,rr1,cd.1,cs.1,bx,i0,r0a,ld,ld0,c1',lsv]
     exact ⟨g.sub.app,by rw [no (by simp [fI,hdays0,c1])]⟩
 · rintro ⟨H,ov,a⟩ ⟨g,ga,ge⟩
   simp only at g ga ge ⊢
   refine aJ aQ aBU [0,3,8,9,10] L21_1.eq_1 ?_
   have e1 : ¬ (l.length : Int) < l.length := by omega
   rw [List.drop_length,fR] at ge
   simp only [go_sem,e1]
   exact ⟨g.sub,by rw [ge]⟩
def oC : aM := ⟨0,0,0,0⟩
def iC (l : List aH) (s : aM) : Bool := inB s.tail 0 (l.length - 1) && (inB s.slot 0 ((l.getD s.tail.toNat rX).ser.length - 1) && (inB s.serial (-1) 1000 && inB s.night 0 ((l.getD s.tail.toNat rX).days.length - 1)))
def oK (sw : List aM) (i : Nat) : Bool := decide (i = 0) || decide ((sw.getD (i - 1) oC).night ≤ (sw.getD i oC).night)
def cW (l : List aH) (sw : List aM) : Bool := (List.range sw.length).all fun i => iC l (sw.getD i oC) && oK sw i
theorem sH {l : List aH} {sw : List aM} {i : Nat} (hi : i < sw.length) (e : (iC l (sw.getD i oC) && oK sw i) = false) : cW l sw = false := by
 rw [cW,List.all_eq_false]
 exact ⟨i,List.mem_range.2 hi,by rw [e]; simp⟩
theorem iX {x lo hi : Int} : inB x lo hi = true ↔ lo ≤ x ∧ x ≤ hi := by simp [inB]
set_option maxRecDepth 20000 in
theorem zB {v sv : AV} {l : List aH} {sw : List aM} (hv : dF w0 h v l) (hw : eD w0 h sv sw) (hs : jD l) (hn : sw.length ≤ 1000) : bQ Tryz.prog w0 22 [v,sv] h (.bool (cW l sw)) h := by
 refine bG aQ aGH mf22_b mf22_g (qE rfl) (by simp [AV.bdd,AV.bdds]) fun hb ha => bV ?_
 obtain ⟨hll,hs⟩ := hs
 have hlen := hv.len
 have hlw := hw.len
 have vb := NS.bdd hv (Nat.le_refl _)
 have wb := NS.bdd hw (Nat.le_refl _)
 simp only [go_sem,mf22,hlw]
 refine hO (fun j => [(0,v),(1,sv),(7,sv),(8,.int .i64 sw.length),(9,.int .i64 j)]) (fun i => (iC l (sw.getD i oC) && oK sw i) = true) sw.length rfl (fun i hi hall ih => ?_) (fun hall => ?_)
 · refine aJ aQ aBT [0,1,7,8,9] L22_0.eq_1 ?_
   have e1 : (i : Int) < sw.length := by omega
   obtain ⟨p,i1,r1,r1'⟩ := hw.at_ hi
   have no := sH (l := l) hi
   obtain ⟨s,hsw⟩ : ∃ s,s = sw[i] := ⟨_,rfl⟩
   rw [← hsw] at r1 r1'
   rw [aS hi,← hsw] at ih no
   have bx : ∀ L,((h ++ some (Blk.row s.c) :: L) : aA)[h.length]? = some (some (.row s.c)) := fun L => by rw [qI (Nat.le_refl _),Nat.sub_self]; rfl
   have w1 : wi ((l.length : Int) - 1) = l.length - 1 := kP (by unfold I64; omega)
   simp only [go_sem,e1,i1,r1,r1',hlen,w1]
   refine aO (wB s.tail 0 (l.length - 1)).v ?_
   cases c1 : inB s.tail 0 (l.length - 1) with
   | false => simp only [go_sem]; rw [no (by rw [iC,c1]; rfl)]
   | true =>
   rw [iX] at c1
   obtain ⟨k,hk⟩ : ∃ k : Nat,s.tail = k := ⟨s.tail.toNat,by omega⟩
   have hkl : k < l.length := by omega
   obtain ⟨q,dv,tv,i2,r2,ra,rb,hd,hsv⟩ := hv.at_ hkl
   obtain ⟨t,ht⟩ : ∃ t,t = l[k] := ⟨_,rfl⟩
   have htm := hs t (ht ▸ qG hkl)
   rw [← ht] at hd hsv
   have ld := hd.len
   have ls := (SlI.use hsv.s).1
   have gt : l.getD s.tail.toNat rX = t := by rw [hk,Int.toNat_natCast,aS hkl,ht]
   have w2 : wi ((t.ser.length : Int) - 1) = t.ser.length - 1 := kP (by unfold I64; omega)
   have w3 : wi ((t.days.length : Int) - 1) = t.days.length - 1 := kP (by unfold I64; omega)
   rw [iC,gt,iX.2 c1,Bool.true_and] at no ih
   simp only [go_sem,hk,i2,rb,ls,w2]
   refine aO (wB s.slot 0 (t.ser.length - 1)).v ?_
   cases c2 : inB s.slot 0 (t.ser.length - 1) with
   | false => simp only [go_sem]; rw [no (by rw [c2]; rfl)]
   | true =>
   simp only [go_sem]
   refine aO (wB s.serial (-1) 1000).v ?_
   cases c3 : inB s.serial (-1) 1000 with
   | false => simp only [go_sem]; rw [no (by rw [c2,c3]; rfl)]
   | true =>
   simp only [go_sem,i2,ra,ld,w3]
   refine aO (wB s.night 0 (t.days.length - 1)).v ?_
   cases c4 : inB s.night 0 (t.days.length - 1) with
   | false => simp only [go_sem]; rw [no (by rw [c2,c3,c4]; rfl)]
   | true =>
   rw [c2,c3,c4] at ih no
   by_cases hi0 : i = 0
   · have d0 : ¬ (0 : Int) < (i : Int) := by omega
     simp only [go_sem,d0]
     refine ⟨(by unfold I64; omega),oZ 0 hb (by simp [HBs]) (by simp [nB,nC,pC,pD,vO,oW,AV.bdds,AV.bdd,Pl.bdd,kC]; exact ⟨vb,wb⟩) ?_⟩
     simpa using ih (by rw [oK,decide_eq_true hi0]; rfl)
   · have d0 : (0 : Int) < (i : Int) := by omega
     obtain ⟨p2,i3,r3,r3'⟩ := hw.at_ (j := i - 1) (by omega)
     obtain ⟨s2,hs2⟩ : ∃ s,s = sw[i - 1] := ⟨_,rfl⟩
     rw [← hs2] at r3 r3'
     have w4 : wi ((i : Int) - 1) = ((i - 1 : Nat) : Int) := by rw [kP (by unfold I64; omega)]; omega
     have r4 : ∀ L,rd w0 (h ++ L) (p2.add 0) = some (.int .i64 s2.night) := fun L => lI (r3 L) rfl
     have ho : oK sw i = decide (s2.night ≤ s.night) := by rw [oK,decide_eq_false hi0,aS hi,← hsw,aS (by omega),← hs2]; rfl
     rw [ho] at ih no
     by_cases d1 : s2.night ≤ s.night
     · have d1' : ¬ s.night < s2.night := by omega
       simp only [go_sem,d0,w4,i3,r4,d1']
       refine ⟨(by unfold I64; omega),oZ 0 hb (by simp [HBs]) (by simp [nB,nC,pC,pD,vO,oW,AV.bdds,AV.bdd,Pl.bdd,kC]; exact ⟨vb,wb⟩) ?_⟩
       simpa using ih (by rw [decide_eq_true d1]; rfl)
     · have d1' : s.night < s2.night := by omega
       simp only [go_sem,d0,w4,i3,r4,d1']
       rw [no (by rw [decide_eq_false d1]; rfl)]
 · refine aJ aQ aBT [0,1,7,8,9] L22_0.eq_1 ?_
   have e1 : ¬ (sw.length : Int) < sw.length := by omega
   simp only [go_sem,e1]
   have : cW l sw = true := by rw [cW,List.all_eq_true]; exact fun i hi => hall i (List.mem_range.1 hi)
   rw [this]
@[go_sem] def aB.c (x : aB) : List AV := [.int .i64 x.n,.int .i64 x.ml,.int .i64 x.mh,.int .i64 x.cl,.int .i64 x.ch,.int .i64 x.d]
def eA (M : List aB) : List (AV × AV) := M.map fun x => (.int .i64 x.n,.agg x.c)
def aZ : List aB → Int → Option aB
 | [],_ => none
 | m :: M,k => if m.n = k then some m else aZ M k
def eY : List aB → aB → List aB
 | [],x => [x]
 | m :: M,x => if m.n = x.n then x :: M else m :: eY M x
theorem iH (k : Int) (x : aB) : ∀ M,aZ (eY M x) k = if k = x.n then some x else aZ M k
 | [] => by
  simp only [eY,aZ]
  by_cases e : x.n = k
  · rw [if_pos e,if_pos e.symm]
  · rw [if_neg e,if_neg (fun q => e q.symm)]
 | m :: M => by
  have ih := iH k x M
  simp only [eY]
  by_cases e : m.n = x.n
  · rw [if_pos e]; simp only [aZ]
    by_cases e2 : k = x.n
    · subst e2; simp
    · rw [if_neg (fun q => e2 q.symm),if_neg e2,if_neg (by rw [e]; exact fun q => e2 q.symm)]
  · rw [if_neg e]; simp only [aZ,ih]
    by_cases e3 : m.n = k
    · rw [if_pos e3,if_neg (by rw [← e3]; exact e),if_pos e3]
    · rw [if_neg e3,if_neg e3]
theorem aAk (k : Int) (x : aB) (hx : x.n = k) : ∀ (M : List aB) (a : Nat),(fN (false,[true]) (.int .i64 k) (eA M) a = some none ∧ aZ M k = none ∧ eY M x = M ++ [x]) ∨
 ∃ j y,fN (false,[true]) (.int .i64 k) (eA M) a = some (some (a + j,.agg y.c)) ∧ aZ M k = some y ∧ (eA M).set j (.int .i64 k,.agg x.c) = eA (eY M x)
 | [],a => .inl ⟨rfl,rfl,rfl⟩
 | m :: M,a => by
  by_cases e : m.n = k
  · refine .inr ⟨0,m,?_,?_,?_⟩
    · simp [eA,fN,keq,cI,ceq,e]
    · simp [aZ,e]
    · simp [eA,eY,e,hx]
  · have e1 : fN (false,[true]) (.int .i64 k) (eA (m :: M)) a = fN (false,[true]) (.int .i64 k) (eA M) (a + 1) := by
     have e0 : (k == m.n) = false := by simpa using fun x => e x.symm
     simp [eA,fN,keq,cI,ceq,e0]
    have e2 : ¬ m.n = x.n := by rw [hx]; exact e
    rcases aAk k x hx M (a + 1) with ⟨h1,h2,h3⟩ | ⟨j,y,h1,h2,h3⟩
    · exact .inl ⟨by rw [e1,h1],by simp [aZ,e,h2],by simp [eY,e2,h3]⟩
    · refine .inr ⟨j + 1,y,by rw [e1,h1,show a + 1 + j = a + (j + 1) by omega],by simp [aZ,e,h2],?_⟩
      rw [eY,if_neg e2]
      simp only [eA,List.map_cons,List.set_cons_succ] at h3 ⊢
      rw [h3]
theorem uU {i : Nat} {M : List aB} (hi : h[i]? = some (some (.map (eA M)))) (k : Int) (z : AV) (ok : Bool) : xB h (false,[true]) z ok (.map i) (.int .i64 k) = some (match aZ M k with
 | some y => if ok then .tup [.agg y.c,.bool true] else .agg y.c
 | none => if ok then .tup [z,.bool false] else z) := by
 simp only [xB,hi]
 rw [if_neg (by simp [keq,cI,ceq])]
 rcases aAk k (zT k) rfl M 0 with ⟨h1,h2,_⟩ | ⟨j,y,h1,h2,_⟩
 · rw [h1,h2]
 · rw [h1,h2]
theorem aD0 {i : Nat} {M : List aB} (hi : h[i]? = some (some (.map (eA M)))) (x : aB) : aA9 h (false,[true]) (.map i) (.int .i64 x.n) (.agg x.c) = some (.undef,h.set i (some (.map (eA (eY M x))))) := by
 simp only [aA9,hi]
 rw [if_neg (by simp [keq,cI,ceq])]
 rcases aAk x.n x rfl M 0 with ⟨h1,_,h3⟩ | ⟨j,y,h1,_,h2⟩
 · rw [h1,h3]; simp [eA]
 · rw [h1]; simp only [Nat.zero_add,h2]
def slG (so n : Nat) : AV := if n = 0 then .nilS else .sl (.own so 0) n 1 false
def iN (h H : aA) (y : AV) (l : List Int) : Prop := (l = [] ∧ y = .nilS) ∨ ∃ b f,y = .sl (.own b 0) l.length 1 f ∧ h.length ≤ b ∧ H[b]? = some (some (.row (bI l)))
theorem iN.slo {H : aA} {y : AV} {l : List Int} (a : iN h H y l) : SlO w0 H y l := by
 rcases a with ⟨rfl,rfl⟩ | ⟨b,f,rfl,_,hb⟩
 · exact ⟨.inl ⟨rfl,rfl⟩,fun _ => rfl⟩
 · refine ⟨aAU hb rfl,fun e => ?_⟩
   subst e
   simp [fJ,jA,rdn,hb]
theorem iN.less {g H : aA} {y : AV} {l : List Int} (a : iN h H y l) (e : g.length ≤ h.length) : iN g H y l := by
 rcases a with a | ⟨b,f,e1,e2,e3⟩
 · exact .inl a
 · exact .inr ⟨b,f,e1,by omega,e3⟩
theorem iN.one {H : aA} {y : AV} {l : List Int} (a : iN h H y l) : Ab.one y = true ∧ cellsOf y = some [y] := by
 rcases a with ⟨_,rfl⟩ | ⟨b,f,rfl,_,_⟩ <;> exact ⟨rfl,rfl⟩
theorem aDf (l : List Int) (v : AV) (hv : SlO w0 h v l) (hl : l.length < 1000000) : ACall Tryz.prog w0 24 [v] h fun y h' => aG h h' ∧ iN h h' y l := by
 refine bZ aQ aGG mf24_b mf24_g (qE rfl) fun hb ha => bV ?_
 have hv1 := hv.s
 rcases hv1 with ⟨e1,e2⟩ | ⟨p,full,⟨es',e1,he⟩,hp,hr⟩
 · subst e1
   have : l = [] := by simpa using e2
   subst this
   simp only [go_sem,mf24]
   rw [List.append_nil]
   exact ⟨aG.refl,.inl ⟨rfl,rfl⟩⟩
 · have hv1 := hv.s
   by_cases hl0 : l = []
   · have h0 := (hv.sub (aG.refl.app (L := [some (.row [])]))).e hl0
     have hap : dR w0 (h ++ [some (Blk.row [])]) 1 8 (AV.sl (Pl.own (List.length h) 0) 0 1 true) v = some (AV.sl (Pl.own (List.length h) 0) 0 1 true,h ++ [some (Blk.row [])]) := by
      simp [dR,h0]
     rw [e1] at hap
     subst e1
     simp only [go_sem,mf24]
     rw [hap]
     simp only [go_sem]
     subst hl0
     exact ⟨aG.refl.app,.inr ⟨h.length,true,rfl,Nat.le_refl _,by simp [bI]⟩⟩
   · have hap := yN (w0 := w0) (H := h ++ [some (.row [])]) (es := 1) (b := 8) (n := 0) (old := []) (rows := l.map fun z => [AV.int .i64 z]) (p := .own h.length 0) hv1.app (by simpa using hl0) (fun c hc => by obtain ⟨z,_,rfl⟩ := List.mem_map.1 hc; rfl) (by simp [rdn]) (by omega) (by simp; omega)
     rw [← kD,e1] at hap
     subst e1
     simp only [go_sem,mf24]
     rw [hap]
     simp only [go_sem]
     exact ⟨aG.refl.app,.inr ⟨h.length + 1,false,by simp,by omega,by simp⟩⟩
structure dT (h H : aA) (fb mi so : Nat) (c : List AV) (g : List (List Int)) (M : List aB) : Prop where
 sub : aG h H
 lf : h.length ≤ fb
 lm : h.length ≤ mi
 box : H[fb]? = some (some (.row [slG so g.length,.map mi]))
 lst : g ≠ [] → h.length ≤ so ∧ H[so]? = some (some (.row c))
 len : c.length = g.length
 own : ∀ (j : Nat) x,g[j]? = some x → ∃ y,c[j]? = some y ∧ iN h H y x
 dis : ∀ (i j b n n' : Nat) (f f' : Bool),c[i]? = some (.sl (.own b 0) n 1 f) → c[j]? = some (.sl (.own b 0) n' 1 f') → i = j
 map : H[mi]? = some (some (.map (eA M)))
section
variable {H H' : aA} {fb mi so : Nat} {c : List AV} {g : List (List Int)} {M : List aB}
theorem dT.to (a : dT h H fb mi so c g M) (s : aG H H') : dT h H' fb mi so c g M where
 sub := a.sub.trans s
 lf := a.lf
 lm := a.lm
 box := s.2 _ _ a.box
 lst := fun e => ⟨(a.lst e).1,s.2 _ _ (a.lst e).2⟩
 len := a.len
 own := fun j x hx => by
  obtain ⟨y,h1,h2⟩ := a.own j x hx
  refine ⟨y,h1,?_⟩
  rcases h2 with h2 | ⟨b,f,e1,e2,e3⟩
  · exact .inl h2
  · exact .inr ⟨b,f,e1,e2,s.2 _ _ e3⟩
 dis := a.dis
 map := s.2 _ _ a.map
theorem dT.setM (a : dT h H fb mi so c g M) (s : cZ [mi] H H') {N : List aB} (hm : H'[mi]? = some (some (.map (eA N)))) : dT h H' fb mi so c g N := by
 have k : ∀ (i : Nat) (r : List AV),H[i]? = some (some (.row r)) → H'[i]? = some (some (.row r)) := fun i r e => s.at_ i _ (fun q => by
  rw [List.mem_singleton] at q
  subst q; rw [a.map] at e; cases e) e
 exact {
  sub := ⟨Nat.le_trans a.sub.1 s.le,fun i b e => s.at_ i b (fun q => by rw [List.mem_singleton] at q; have := aP e; have := a.lm; omega) (a.sub.2 i b e)⟩
  lf := a.lf
  lm := a.lm
  box := k _ _ a.box
  lst := fun e => ⟨(a.lst e).1,k _ _ (a.lst e).2⟩
  len := a.len
  own := fun j x hx => by
   obtain ⟨y,h1,h2⟩ := a.own j x hx
   refine ⟨y,h1,?_⟩
   rcases h2 with h2 | ⟨b,f,e1,e2,e3⟩
   · exact .inl h2
   · exact .inr ⟨b,f,e1,e2,k _ _ e3⟩
  dis := a.dis
  map := hm }
def bS (M : List aB) (n : Int) : List aB := if (aZ M n).isNone ∧ 0 ≤ n then eY M (zT n) else M
theorem aEi (a : dT h H fb mi so c g M) (n : Int) : ACall Tryz.prog w0 25 [.ptr (.own fb 0),.int .i64 n] H fun _ H' => dT h H' fb mi so c g (bS M n) ∧ cZ [mi] H H' := by
 refine bZ aQ aGF mf25_b mf25_g (qE rfl) fun hb ha => bV ?_
 have bx := a.box
 have bx' : ∀ L,((H ++ L) : aA)[fb]? = some (some (.row [slG so g.length,.map mi])) := fun L => aE bx
 have mp := a.map
 have mp' : ∀ L,((H ++ L) : aA)[mi]? = some (some (.map (eA M))) := fun L => aE mp
 have lk := fun L => uU (mp' L) n (.agg [.int .i64 0,.int .i64 0,.int .i64 0,.int .i64 0,.int .i64 0,.int .i64 0]) true
 have lk' := uU mp n (.agg [.int .i64 0,.int .i64 0,.int .i64 0,.int .i64 0,.int .i64 0,.int .i64 0]) true
 have pk : ∀ L,aA9 (H ++ L) (false,[true]) (.map mi) (.int .i64 n) (.agg [.int .i64 n,.int .i64 0,.int .i64 0,.int .i64 0,.int .i64 0,.int .i64 0]) = some (.undef,(H ++ L).set mi (some (.map (eA (eY M (zT n)))))) := fun L => aD0 (mp' L) (zT n)
 rw [List.append_nil]
 cases e : aZ M n with
 | some y =>
  rw [e] at lk'
  have e2 : bS M n = M := by rw [bS,e]; rfl
  rw [e2]
  simp only [go_sem,mf25,bx,lk']
  exact ⟨a.to aG.refl.app,aG.refl.app.toK⟩
 | none =>
  rw [e] at lk'
  by_cases h0 : 0 ≤ n
  · have e2 : bS M n = eY M (zT n) := by rw [bS,e,if_pos ⟨rfl,h0⟩]
    rw [e2]
    simp only [go_sem,mf25,bx,lk',h0,bx',pk]
    have hml := aP mp
    have kp : cZ [mi] H ((H ++ [some (Blk.row [.int .i64 0,.int .i64 0,.int .i64 0,.int .i64 0,.int .i64 0,.int .i64 0])]).set mi (some (.map (eA (eY M (zT n)))))) := (aG.refl.app.toK).set (.inl (List.mem_singleton.2 rfl))
    exact ⟨a.setM kp (qF (by simp; omega)),kp⟩
  · have e2 : bS M n = M := by rw [bS,e,if_neg (fun q => h0 q.2)]
    rw [e2]
    simp only [go_sem,mf25,bx,lk',h0]
    exact ⟨a.to aG.refl.app,aG.refl.app.toK⟩
end
theorem nN {b n j : Nat} {f : Bool} (hj : j < n) : fX 1 (.sl (.own b 0) n 1 f) (some j) = some (.ptr (.own b j)) := by
 simp [fX,jA,hj,Pl.add]
theorem oF {x : List Int} {a : AV} {i : Nat} : bI x ≠ [a,.map i] := fun e => by
 have : (AV.map i) ∈ bI x := by rw [e]; simp
 simp only [bI,List.mem_map] at this
 obtain ⟨z,_,e⟩ := this
 cases e
theorem pV {x : List Int} {p : Pl} {n es : Nat} {f : Bool} : AV.sl p n es f ∉ bI x := fun q => by
 simp only [bI,List.mem_map] at q
 obtain ⟨z,_,e⟩ := q
 cases e
theorem aDt {x : List Int} {m : Nat} (hm : m < x.length) (v : Int) : bF (bI x) m [.int .i64 v] = bI (x.set m v) := by
 simp only [bF,bI]
 rw [List.map_set,List.set_eq_take_append_cons_drop,if_pos (by simpa using hm)]
 simp
section
variable {H H' : aA} {fb mi so : Nat} {c : List AV} {g : List (List Int)} {M : List aB}
theorem dT.put (a : dT h H fb mi so c g M) {k b : Nat} {x x' : List Int} {f : Bool} (hk : g[k]? = some x) (hc : c[k]? = some (.sl (.own b 0) x.length 1 f)) (hb : H[b]? = some (some (.row (bI x)))) (hl : h.length ≤ b) (hx : x'.length = x.length) :
 dT h (H.set b (some (.row (bI x')))) fb mi so c (g.set k x') M := by
 have hkl := aP hk
 have hbl := aP hb
 have hg : g ≠ [] := fun e => by rw [e] at hkl; simp at hkl
 have nf : b ≠ fb := fun e => by
  have := a.box
  rw [← e,hb] at this
  simp only [Option.some.injEq,Blk.row.injEq] at this
  exact oF this
 have ns : b ≠ so := fun e => by
  have := (a.lst hg).2
  rw [← e,hb] at this
  simp only [Option.some.injEq,Blk.row.injEq] at this
  rw [← this] at hc
  exact pV (List.mem_of_getElem? hc)
 have nm : b ≠ mi := fun e => by
  have := a.map
  rw [← e,hb] at this
  cases this
 exact {
  sub := a.sub.setR hl
  lf := a.lf
  lm := a.lm
  box := by rw [qB nf,List.length_set]; exact a.box
  lst := fun _ => ⟨(a.lst hg).1,by rw [qB ns]; exact (a.lst hg).2⟩
  len := by rw [List.length_set]; exact a.len
  own := fun j y hy => by
   by_cases e : k = j
   · subst e
     rw [qF hkl] at hy
     cases hy
     exact ⟨_,hc,.inr ⟨b,f,by rw [hx],hl,qF hbl⟩⟩
   · rw [qB e] at hy
     obtain ⟨z,h1,h2⟩ := a.own j y hy
     refine ⟨z,h1,?_⟩
     rcases h2 with h2 | ⟨b',f',e1,e2,e3⟩
     · exact .inl h2
     · refine .inr ⟨b',f',e1,e2,?_⟩
       rw [qB]
       · exact e3
       · intro q
         subst q
         rw [e1] at h1
         exact e (a.dis _ _ _ _ _ _ _ hc h1)
  dis := a.dis
  map := by rw [qB nm]; exact a.map }
theorem dT.row (a : dT h H fb mi so c g M) {k : Nat} {x : List Int} (hk : g[k]? = some x) : ∃ y,c[k]? = some y ∧ SlO w0 H y x ∧ Ab.one y = true ∧ cellsOf y = some [y] ∧ (x ≠ [] → ∃ b f,y = .sl (.own b 0) x.length 1 f ∧ h.length ≤ b ∧ H[b]? = some (some (.row (bI x)))) := by
 obtain ⟨y,h1,h2⟩ := a.own k x hk
 refine ⟨y,h1,h2.slo,h2.one.1,h2.one.2,fun hx => ?_⟩
 rcases h2 with ⟨e,_⟩ | ⟨b,f,e1,e2,e3⟩
 · exact absurd e hx
 · exact ⟨b,f,e1,e2,e3⟩
def impV (i : Nat) : AV := .ifc 73 (.agg [.int .i64 i])
def PutK (h : aA) (fb mi so : Nat) (c : List AV) (g : List (List Int)) (M : List aB) (s : aM) (H' : aA) : Prop := fW g s = true ∧ dT h H' fb mi so c (lK g s) (bS M s.serial)
structure PutOK (g : List (List Int)) (s : aM) : Prop where
 n : g.length ≤ 1000
 r : ∀ x ∈ g,x.length ≤ 1000
 t0 : 0 ≤ s.tail
 t1 : s.tail < g.length
 s0 : 0 ≤ s.slot
 s1 : s.slot < (g.getD s.tail.toNat []).length
theorem put_c (a : dT h H fb mi so c g M) (i : Nat) (s : aM) (k : PutOK g s) : fU Tryz.prog w0 27 [.ptr (.own fb 0),.int .i64 i,.agg s.c] H (fun _ H' => PutK h fb mi so c g M s H') (fun ch H' => ch = pan (impV i) ∧ fW g s = false ∧ aG h H') := by
 refine aCW aQ aGD mf27_b mf27_g (qE rfl) fun hb ha => bV ?_
 rw [List.append_nil]
 obtain ⟨kt,hkt⟩ : ∃ n : Nat,s.tail = n := ⟨s.tail.toNat,by have := k.t0; omega⟩
 obtain ⟨ks,hks⟩ : ∃ n : Nat,s.slot = n := ⟨s.slot.toNat,by have := k.s0; omega⟩
 have ktl : kt < g.length := by have := k.t1; omega
 have hg : g ≠ [] := fun e => by rw [e] at ktl; simp at ktl
 obtain ⟨x,hx⟩ : ∃ x,x = g[kt] := ⟨_,rfl⟩
 have hgx : g[kt]? = some x := by rw [hx]; exact qA ktl
 have hsl : slG so g.length = .sl (.own so 0) g.length 1 false := by rw [slG,if_neg (fun e => hg (List.eq_nil_of_length_eq_zero e))]
 have gl := k.n
 have bx := a.box
 rw [hsl] at bx
 have bx' : ∀ L,((H ++ L) : aA)[fb]? = some (some (.row [.sl (.own so 0) g.length 1 false,.map mi])) := fun L => aE bx
 have sx' : ∀ L,((H ++ L) : aA)[so]? = some (some (.row c)) := fun L => aE (a.lst hg).2
 simp only [go_sem,mf27,bx']
 refine hO (fun j => [(0,.ptr (.own fb 0)),(1,.int .i64 i),(5,.ptr (.own H.length 0)),(11,.sl (.own so 0) g.length 1 false),(12,.int .i64 g.length),(13,.int .i64 j)]) (fun j => s.serial < 0 ∨ s.serial ∉ g.getD j []) g.length rfl (fun j hj hall ih => ?_) (fun hall => ?_)
 · refine aJ aQ aBQ [0,1,5,11,12,13] L27_0.eq_1 ?_
   have e1 : (j : Int) < g.length := by omega
   obtain ⟨y,hy,ys,yo,yc,_⟩ := a.row (qA hj)
   have i1 := nN (b := so) (f := false) hj
   have gj : g.getD j [] = g[j] := aS hj
   rw [gj] at ih
   have bx2 : ∀ L,((H ++ some (Blk.row s.c) :: L) : aA)[H.length]? = some (some (.row s.c)) := fun L => by rw [qI (Nat.le_refl _),Nat.sub_self]; rfl
   have gjl := k.r _ (qG hj)
   by_cases h0 : 0 ≤ s.serial
   · simp only [go_sem,e1,i1,sx',hy,bx2,h0]
     refine aO (aAP s.serial (ys.sub aG.refl.app).s (by omega)).v ?_
     by_cases hm : s.serial ∈ g[j]
     · rw [decide_eq_true hm]
       simp only [go_sem]
       refine aFF rfl ?_
       simp only [go_sem]
       have no : fW g s = false := by
        rw [fW,decide_eq_false (by omega),Bool.false_or,List.all_eq_false]
        exact ⟨g[j],qG hj,by simpa using hm⟩
       exact ⟨rfl,no,a.sub.app⟩
     · rw [decide_eq_false hm]
       simp only [go_sem]
       exact ⟨(by unfold I64; omega),ih (.inr hm)⟩
   · simp only [go_sem,e1,i1,sx',hy,bx2,h0]
     exact ⟨(by unfold I64; omega),ih (.inl (by omega))⟩
 · refine aJ aQ aBQ [0,1,5,11,12,13] L27_0.eq_1 ?_
   have e1 : ¬ (g.length : Int) < g.length := by omega
   obtain ⟨y,hy,ys,yo,yc,hy2⟩ := a.row (w0 := w0) hgx
   have ksl : ks < x.length := by
    have := k.s1
    rw [hkt,Int.toNat_natCast,aS ktl,← hx] at this
    omega
   obtain ⟨b,f,rfl,hbl,hbb⟩ := hy2 (fun e => by rw [e] at ksl; simp at ksl)
   have i1 := nN (b := so) (f := false) ktl
   have i2 := nN (b := b) (f := f) ksl
   have bb' : ∀ L,((H ++ L) : aA)[b]? = some (some (.row (bI x))) := fun L => aE hbb
   have bx2 : ∀ L,((H ++ some (Blk.row s.c) :: L) : aA)[H.length]? = some (some (.row s.c)) := fun L => by rw [qI (Nat.le_refl _),Nat.sub_self]; rfl
   have il : (bI x).length = x.length := by simp [bI]
   simp only [go_sem,e1,bx',sx',bx2,hkt,hks,i1,hy,i2,bb',il,ksl]
   refine ⟨by omega,?_⟩
   have hsp : (bI x).take ks ++ AV.int .i64 s.serial :: (bI x).drop (ks + 1) = bI (x.set ks s.serial) := by rw [← aDt ksl,sJ]; rfl
   rw [hsp]
   have F1 := (a.to (aG.refl.app (L := [some (Blk.row [AV.int IntKind.i64 s.night,AV.int IntKind.i64 kt,AV.int IntKind.i64 ks,AV.int IntKind.i64 s.serial])]))).put (x' := x.set ks s.serial) hgx hy (bb' _) hbl (List.length_set ..)
   have hbH := aP hbb
   have f1 : ((H ++ [some (Blk.row [AV.int IntKind.i64 s.night,AV.int IntKind.i64 kt,AV.int IntKind.i64 ks,AV.int IntKind.i64 s.serial])]).set b (some (.row (bI (x.set ks s.serial)))))[H.length]? = some (some (.row [AV.int IntKind.i64 s.night,AV.int IntKind.i64 kt,AV.int IntKind.i64 ks,AV.int IntKind.i64 s.serial])) := by
    rw [qB (by omega)]; simp
   obtain ⟨H1,eH1⟩ : ∃ H1,H1 = (H ++ [some (Blk.row [AV.int IntKind.i64 s.night,AV.int IntKind.i64 kt,AV.int IntKind.i64 ks,AV.int IntKind.i64 s.serial])]).set b (some (.row (bI (x.set ks s.serial)))) := ⟨_,rfl⟩
   rw [← eH1] at F1 f1 ⊢
   simp only [go_sem,f1]
   refine bX (ACall.vc (first := []) (args := [_,_]) (aEi F1 s.serial)) ?_
   rintro _ H2 ⟨F2,_⟩
   simp only [go_sem]
   refine ⟨.tup [],rfl,?_,?_⟩
   · rw [fW]
     by_cases h0 : s.serial < 0
     · rw [decide_eq_true h0]; rfl
     · rw [decide_eq_false h0,Bool.false_or,List.all_eq_true]
       intro z hz
       obtain ⟨j,hj,rfl⟩ := List.getElem_of_mem hz
       have := hall j hj
       rw [aS hj] at this
       simpa [h0] using this
   · rw [lK,hkt,hks,Int.toNat_natCast,Int.toNat_natCast,aS ktl,← hx]
     exact F2
end
section
variable {P : Program} {r : Option Nat} {nt Z : Nat} {l : List MIx} {bef : List (List Nat)} {fr0 : Fr}
theorem dr_st (hm : P.follows .mixedOrders = true) {Q : Exit → Fr → aA → Prop} {k : List It} (V : Nat → AV → aA → Prop) (dst : Nat → Option Nat) (C : (Nat → Bool) → aA → Prop) (low : Nat)
 (hd : ∀ i x,l[i]? = some x → x.dst = dst i) (inj : ∀ i j d,i < l.length → j < l.length → dst i = some d → dst j = some d → i = j) (hlow : ∀ i d,dst i = some d → low ≤ d) (c0 : C (fun _ => false) h)
 (step : ∀ (S : Nat → Bool) (i : Nat) (x : MIx) (fr : Fr) (H : aA),l[i]? = some x → S i = false → (∀ j,bfr bef i j = true → S j = true) → (∀ a b,S a = true → bfr bef a b = true → S b = true) → C S H → (∀ t,t < low → fr.get t = fr0.get t) → (∀ j d,S j = true → dst j = some d → V j (fr.get d) H) →
  opV P w0 x fr H fun v H' => C (cT S i) H' ∧ (∀ j u,V j u H → V j u H') ∧ V i v H')
 (hQ : ∀ (S : Nat → Bool) (fr : Fr) (H : aA),(∀ i,i < l.length → S i = true) → C S H → (∀ t,t < low → fr.get t = fr0.get t) → ∃ fr2 : Fr,(∀ t,fr2.get t = .undef ∨ fr2.get t = fr.get t) ∧ un P w0 r nt Z Q .normal k fr2 H) : dr P w0 r nt Z Q l bef k fr0 h := by
 refine dr_J hm (fun S fr H => ((∀ j,S j = true → j < l.length) ∧ ∀ a b,S a = true → bfr bef a b = true → S b = true) ∧ C S H ∧ (∀ t,t < low → fr.get t = fr0.get t) ∧ ∀ j d,S j = true → dst j = some d → V j (fr.get d) H) ⟨⟨fun _ e => (by cases e),fun _ _ e => (by cases e)⟩,c0,fun _ _ => rfl,fun _ _ e => (by cases e)⟩ ?_ fun S fr H hall ⟨_,a2,a3,_⟩ => hQ S fr H hall a2 a3
 rintro S i x fr H hx hS hb ⟨⟨a1,acl⟩,a2,a3,a4⟩
 have hi := aF hx
 have hdx := hd i x hx
 refine qQ (step S i x fr H hx hS hb acl a2 a3 a4) fun v H' ⟨b1,b2,b3⟩ => ⟨⟨fun j hj => ?_,fun p q hp hq => ?_⟩,b1,fun t ht => ?_,fun j d hj hdj => ?_⟩
 · by_cases e : j = i
   · rw [e]; exact hi
   · rw [aC e] at hj; exact a1 j hj
 · have hp' : S q = true := by
    by_cases e : p = i
    · subst e; exact hb q hq
    · rw [aC e] at hp; exact acl p q hp hq
   by_cases e : q = i
   · subst e; exact cG
   · rw [aC e]; exact hp'
 · rw [hdx,iZ (fun e => by have := hlow i t e; omega)]; exact a3 t ht
 · by_cases e : j = i
   · subst e
     rw [hdx,hdj,cE]; exact b3
   · rw [aC e] at hj
     rw [hdx,iZ (fun e2 => e (inj j i d (a1 j hj) hi hdj e2))]
     exact b2 _ _ (a4 j d hj hdj)
end
def fV (it iu : Nat) (x : aB) (u : bW) : Nat → AV → aA → Prop
 | 0,v,_ => v = .ptr (.own it 1)
 | 1,v,_ => v = ag2 x.ml x.mh
 | 2,v,_ => v = .ptr (.own iu 0)
 | 3,v,_ => v = ag2 u.ml u.mh
 | 4,v,H => ∃ b,b ≠ it ∧ v = .sl (.own b 0) 2 2 true ∧ H[b]? = some (some (.row [.int .i64 x.ml,.int .i64 x.mh,.int .i64 u.ml,.int .i64 u.mh]))
 | 5,v,_ => v = ag2 (aW x.ml u.ml) (aW x.mh u.mh)
 | 6,v,_ => v = .ptr (.own it 3)
 | 7,v,_ => v = ag2 x.cl x.ch
 | 8,v,_ => v = .ptr (.own iu 2)
 | 9,v,_ => v = ag2 u.cl u.ch
 | 10,v,H => ∃ b,b ≠ it ∧ v = .sl (.own b 0) 2 2 true ∧ H[b]? = some (some (.row [.int .i64 x.cl,.int .i64 x.ch,.int .i64 u.cl,.int .i64 u.ch]))
 | 11,v,_ => v = ag2 (aW x.cl u.cl) (aW x.ch u.ch)
 | 12,v,_ => v = .ptr (.own it 5)
 | 13,v,_ => v = .int .i64 x.d
 | 14,v,_ => v = .int .i64 (x.d + 1)
 | 15,v,_ => v = .ptr (.own it 1)
 | 17,v,_ => v = .ptr (.own it 3)
 | 19,v,_ => v = .ptr (.own it 5)
 | _,_,_ => True
def fDst (i : Nat) : Option Nat := if i < 16 then some (44 + i) else if i = 17 then some 60 else if i = 19 then some 61 else none
def rE (x : aB) (u : bW) (a b c : Bool) : List AV := [.int .i64 x.n,.int .i64 (cond a (aW x.ml u.ml) x.ml),.int .i64 (cond a (aW x.mh u.mh) x.mh),.int .i64 (cond b (aW x.cl u.cl) x.cl),.int .i64 (cond b (aW x.ch u.ch) x.ch),.int .i64 (cond c (x.d + 1) x.d)]
structure fC (X : aA) (it : Nat) (x : aB) (u : bW) (S : Nat → Bool) (H : aA) : Prop where
 s : aG (X.set it none) (H.set it none)
 b : H[it]? = some (some (.row (rE x u (S 16) (S 18) (S 20))))
theorem xV {it iu : Nat} {x : aB} {u : bW} {H H' : aA} (s : aG (H.set it none) (H'.set it none)) : ∀ j v,fV it iu x u j v H → fV it iu x u j v H' := fun j v e => by
 unfold fV at *
 split at e <;> first | exact e | (obtain ⟨b,e0,e1,e2⟩ := e; exact ⟨b,e0,e1,s.keep (Ne.symm e0) e2⟩)
theorem fC.to {X H H' : aA} {it : Nat} {x : aB} {u : bW} {S S' : Nat → Bool} (c : fC X it x u S H) (s : aG H H') (e : S' 16 = S 16 ∧ S' 18 = S 18 ∧ S' 20 = S 20) : fC X it x u S' H' := ⟨c.s.trans (s.set _),by rw [e.1,e.2.1,e.2.2]; exact s.2 _ _ c.b⟩
theorem aEz {d : Int} (bd : 0 ≤ d ∧ d ≤ 1000000) : bin .add (.int .i64 d) (.int .i64 1) = some (.int .i64 (d + 1)) := by
 have : inK .i64 (d + 1) = true := by
  unfold inK
  simp only [Bool.and_eq_true,decide_eq_true_eq]
  exact ⟨by show -(2 ^ (64 - 1) : Int) ≤ d + 1; have : (2 ^ (64 - 1) : Int) = 9223372036854775808 := (by decide); omega,by show d + 1 ≤ (2 ^ (64 - 1) - 1 : Int); have : (2 ^ (64 - 1) : Int) = 9223372036854775808 := (by decide); omega⟩
 simp [bin,eV,dI,this]
theorem fly_dr {X : aA} {fr0 : Fr} {it iu : Nat} {x : aB} {u : bW} {Q : Exit → Fr → aA → Prop} {its : List It} {nt Z : Nat} (hi : X[it]? = some (some (.row x.c))) (hu : X[iu]? = some (some (.row u.c))) (hne : it ≠ iu)
 (f10 : fr0.get 10 = .ptr (.own it 0)) (f11 : fr0.get 11 = .ptr (.own iu 0)) (ba : Sm x.ml ∧ Sm x.mh ∧ Sm x.cl ∧ Sm x.ch) (bu : Sm u.ml ∧ Sm u.mh ∧ Sm u.cl ∧ Sm u.ch) (bd : 0 ≤ x.d ∧ x.d ≤ 1000000)
 (fin : ∀ fr H,aG (X.set it none) (H.set it none) → H[it]? = some (some (.row (gB x u).c)) → (∀ t,t < 44 → fr.get t = fr0.get t) → un Tryz.prog w0 none nt Z Q .normal its fr H) :
 dr Tryz.prog w0 none nt Z Q D26_0 B26_0 its fr0 X := by
 have hil := aP hi
 refine dr_st aQ (fV it iu x u) fDst (fC X it x u) 44 ?_ ?_ ?_ ⟨aG.refl,by simpa [rE,aB.c] using hi⟩ ?_ ?_
 · intro i y hy
   have hlt := aF hy
   rcases i with _ | _ | _ | _ | _ | _ | _ | _ | _ | _ | _ | _ | _ | _ | _ | _ | _ | _ | _ | _ | _ | i <;> first | (cases hy; rfl) | (cases hy)
 · intro i j d hi hj e1 e2
   unfold fDst at e1 e2
   split at e1 <;> split at e2 <;> (try split at e1) <;> (try split at e2) <;> (try split at e1) <;> (try split at e2) <;> simp at e1 e2 <;> omega
 · intro i d e
   unfold fDst at e
   split at e <;> (try split at e) <;> (try split at e) <;> simp at e <;> omega
 · intro S i y fr H hy hS hb hcl c g v
   have hu' : H[iu]? = some (some (.row u.c)) := c.s.keep hne hu
   rcases i with _ | _ | _ | _ | _ | _ | _ | _ | _ | _ | _ | _ | _ | _ | _ | _ | _ | _ | _ | _ | _ | i
   all_goals first | (cases hy) | skip
   · exact ⟨_,_,by simp [aop,Opd.ev,g 10 (by omega),f10,Pl.add] <;> rfl,c.to aG.refl ⟨aC (by decide),aC (by decide),aC (by decide)⟩,fun _ _ e => e,rfl⟩
   · have e : fr.get 44 = .ptr (.own it 1) := v 0 44 (hb 0 (by decide)) rfl
     have z : ∀ k,k = 16 ∨ k = 18 ∨ k = 20 → S k = false := fun k hk => Bool.eq_false_iff.2 fun q => by
      have := hcl k 1 q (by rcases hk with rfl | rfl | rfl <;> decide)
      rw [hS] at this; cases this
     have hr := c.b
     rw [z 16 (.inl rfl),z 18 (.inr (.inl rfl)),z 20 (.inr (.inr rfl))] at hr
     exact ⟨_,_,by simp [aop,Opd.ev,e,rdv,rdn,rd,hr,rE] <;> rfl,c.to aG.refl ⟨aC (by decide),aC (by decide),aC (by decide)⟩,fun _ _ e => e,rfl⟩
   · exact ⟨_,_,by simp [aop,Opd.ev,g 11 (by omega),f11,Pl.add] <;> rfl,c.to aG.refl ⟨aC (by decide),aC (by decide),aC (by decide)⟩,fun _ _ e => e,rfl⟩
   · have e : fr.get 46 = .ptr (.own iu 0) := v 2 46 (hb 2 (by decide)) rfl
     exact ⟨_,_,by simp [aop,Opd.ev,e,rdv,rdn,hu',bW.c] <;> rfl,c.to aG.refl ⟨aC (by decide),aC (by decide),aC (by decide)⟩,fun _ _ e => e,rfl⟩
   · have e : fr.get 45 = ag2 x.ml x.mh := v 1 45 (hb 1 (by decide)) rfl
     have e' : fr.get 47 = ag2 u.ml u.mh := v 3 47 (hb 3 (by decide)) rfl
     exact ⟨.sl (.own H.length 0) 2 2 true,H ++ [some (.row _)],by simp [aop,Opd.ev,e,e',ag2,dA,cellsOf,Ab.one,dL,bF,eO] <;> rfl,c.to aG.refl.app ⟨aC (by decide),aC (by decide),aC (by decide)⟩,xV (aG.refl.app.set _),H.length,by have := aP c.b; omega,rfl,by rw [qI (Nat.le_refl _),Nat.sub_self]; rfl⟩
   · obtain ⟨b,_,e,e'⟩ := v 4 48 (hb 4 (by decide)) rfl
     have e : fr.get 48 = .sl (.own b 0) 2 2 true := e
     have := (pM (w0 := w0) (h := H) x.ml x.mh u.ml u.mh true e' ba.1 ba.2.1 bu.1 bu.2.1).v
     rw [← e] at this
     unfold dG at this
     exact bB.mono this (by rintro _ _ ⟨rfl,rfl⟩; exact ⟨c.to aG.refl ⟨aC (by decide),aC (by decide),aC (by decide)⟩,fun _ _ e => e,rfl⟩)
   · exact ⟨_,_,by simp [aop,Opd.ev,g 10 (by omega),f10,Pl.add] <;> rfl,c.to aG.refl ⟨aC (by decide),aC (by decide),aC (by decide)⟩,fun _ _ e => e,rfl⟩
   · have e : fr.get 50 = .ptr (.own it 3) := v 6 50 (hb 6 (by decide)) rfl
     have z : ∀ k,k = 16 ∨ k = 18 ∨ k = 20 → S k = false := fun k hk => Bool.eq_false_iff.2 fun q => by
      have := hcl k 7 q (by rcases hk with rfl | rfl | rfl <;> decide)
      rw [hS] at this; cases this
     have hr := c.b
     rw [z 16 (.inl rfl),z 18 (.inr (.inl rfl)),z 20 (.inr (.inr rfl))] at hr
     exact ⟨_,_,by simp [aop,Opd.ev,e,rdv,rdn,rd,hr,rE] <;> rfl,c.to aG.refl ⟨aC (by decide),aC (by decide),aC (by decide)⟩,fun _ _ e => e,rfl⟩
   · exact ⟨_,_,by simp [aop,Opd.ev,g 11 (by omega),f11,Pl.add] <;> rfl,c.to aG.refl ⟨aC (by decide),aC (by decide),aC (by decide)⟩,fun _ _ e => e,rfl⟩
   · have e : fr.get 52 = .ptr (.own iu 2) := v 8 52 (hb 8 (by decide)) rfl
     exact ⟨_,_,by simp [aop,Opd.ev,e,rdv,rdn,hu',bW.c] <;> rfl,c.to aG.refl ⟨aC (by decide),aC (by decide),aC (by decide)⟩,fun _ _ e => e,rfl⟩
   · have e : fr.get 51 = ag2 x.cl x.ch := v 7 51 (hb 7 (by decide)) rfl
     have e' : fr.get 53 = ag2 u.cl u.ch := v 9 53 (hb 9 (by decide)) rfl
     exact ⟨.sl (.own H.length 0) 2 2 true,H ++ [some (.row _)],by simp [aop,Opd.ev,e,e',ag2,dA,cellsOf,Ab.one,dL,bF,eO] <;> rfl,c.to aG.refl.app ⟨aC (by decide),aC (by decide),aC (by decide)⟩,xV (aG.refl.app.set _),H.length,by have := aP c.b; omega,rfl,by rw [qI (Nat.le_refl _),Nat.sub_self]; rfl⟩
   · obtain ⟨b,_,e,e'⟩ := v 10 54 (hb 10 (by decide)) rfl
     have e : fr.get 54 = .sl (.own b 0) 2 2 true := e
     have := (pM (w0 := w0) (h := H) x.cl x.ch u.cl u.ch true e' ba.2.2.1 ba.2.2.2 bu.2.2.1 bu.2.2.2).v
     rw [← e] at this
     unfold dG at this
     exact bB.mono this (by rintro _ _ ⟨rfl,rfl⟩; exact ⟨c.to aG.refl ⟨aC (by decide),aC (by decide),aC (by decide)⟩,fun _ _ e => e,rfl⟩)
   · exact ⟨_,_,by simp [aop,Opd.ev,g 10 (by omega),f10,Pl.add] <;> rfl,c.to aG.refl ⟨aC (by decide),aC (by decide),aC (by decide)⟩,fun _ _ e => e,rfl⟩
   · have e : fr.get 56 = .ptr (.own it 5) := v 12 56 (hb 12 (by decide)) rfl
     have z : ∀ k,k = 16 ∨ k = 18 ∨ k = 20 → S k = false := fun k hk => Bool.eq_false_iff.2 fun q => by
      have := hcl k 13 q (by rcases hk with rfl | rfl | rfl <;> decide)
      rw [hS] at this; cases this
     have hr := c.b
     rw [z 16 (.inl rfl),z 18 (.inr (.inl rfl)),z 20 (.inr (.inr rfl))] at hr
     exact ⟨_,_,by simp [aop,Opd.ev,e,rdv,rdn,rd,hr,rE] <;> rfl,c.to aG.refl ⟨aC (by decide),aC (by decide),aC (by decide)⟩,fun _ _ e => e,rfl⟩
   · have e : fr.get 57 = .int .i64 x.d := v 13 57 (hb 13 (by decide)) rfl
     exact ⟨_,_,by simp [aop,Opd.ev,e,aEz bd] <;> rfl,c.to aG.refl ⟨aC (by decide),aC (by decide),aC (by decide)⟩,fun _ _ e => e,rfl⟩
   · exact ⟨_,_,by simp [aop,Opd.ev,g 10 (by omega),f10,Pl.add] <;> rfl,c.to aG.refl ⟨aC (by decide),aC (by decide),aC (by decide)⟩,fun _ _ e => e,rfl⟩
   · have e : fr.get 59 = .ptr (.own it 1) := v 15 59 (hb 15 (by decide)) rfl
     have e' : fr.get 49 = ag2 (aW x.ml u.ml) (aW x.mh u.mh) := v 5 49 (hb 5 (by decide)) rfl
     have hr := c.b
     refine ⟨.undef,H.set it (some (.row (rE x u true (S 18) (S 20)))),by simp [aop,Opd.ev,e,e',ag2,cellsOf,Ab.one,hr,rE,bF],⟨c.s.trans (by rw [List.set_set]; exact aG.refl),?_⟩,xV (by rw [List.set_set]; exact aG.refl),trivial⟩
     rw [qF (aP hr)]
     rfl
   · exact ⟨_,_,by simp [aop,Opd.ev,g 10 (by omega),f10,Pl.add] <;> rfl,c.to aG.refl ⟨aC (by decide),aC (by decide),aC (by decide)⟩,fun _ _ e => e,rfl⟩
   · have e : fr.get 60 = .ptr (.own it 3) := v 17 60 (hb 17 (by decide)) rfl
     have e' : fr.get 55 = ag2 (aW x.cl u.cl) (aW x.ch u.ch) := v 11 55 (hb 11 (by decide)) rfl
     have hr := c.b
     refine ⟨.undef,H.set it (some (.row (rE x u (S 16) true (S 20)))),by simp [aop,Opd.ev,e,e',ag2,cellsOf,Ab.one,hr,rE,bF],⟨c.s.trans (by rw [List.set_set]; exact aG.refl),?_⟩,xV (by rw [List.set_set]; exact aG.refl),trivial⟩
     rw [qF (aP hr)]
     rfl
   · exact ⟨_,_,by simp [aop,Opd.ev,g 10 (by omega),f10,Pl.add] <;> rfl,c.to aG.refl ⟨aC (by decide),aC (by decide),aC (by decide)⟩,fun _ _ e => e,rfl⟩
   · have e : fr.get 61 = .ptr (.own it 5) := v 19 61 (hb 19 (by decide)) rfl
     have e' : fr.get 58 = .int .i64 (x.d + 1) := v 14 58 (hb 14 (by decide)) rfl
     have hr := c.b
     refine ⟨.undef,H.set it (some (.row (rE x u (S 16) (S 18) true))),by simp [aop,Opd.ev,e,e',ag2,cellsOf,Ab.one,hr,rE,bF],⟨c.s.trans (by rw [List.set_set]; exact aG.refl),?_⟩,xV (by rw [List.set_set]; exact aG.refl),trivial⟩
     rw [qF (aP hr)]
     rfl
 · intro S fr H hall c g
   have := c.b
   rw [hall 16 (by decide),hall 18 (by decide),hall 20 (by decide)] at this
   exact ⟨fr,fun _ => .inr rfl,fin fr H c.s this g⟩
def eJ (u : bW) (M : List aB) (n : Int) : List aB := if n < 0 then M else match aZ M n with
 | some x => eY M (gB x u)
 | none => M
def lF (u : bW) : List aB → List Int → List aB
 | M,[] => M
 | M,n :: r => lF u (eJ u M n) r
def jK (l : List aH) (d : Nat) : Nat → List aB → List (List Int) → List aB
 | _,M,[] => M
 | i,M,r :: g => jK l d (i + 1) (lF (dS l i d) M r) g
def TB (k : Nat) (M : List aB) : Prop := ∀ n x,aZ M n = some x → (0 ≤ x.ml ∧ x.ml ≤ 10000000) ∧ (0 ≤ x.mh ∧ x.mh ≤ 10000000) ∧ (0 ≤ x.cl ∧ x.cl ≤ 10000000) ∧ (0 ≤ x.ch ∧ x.ch ≤ 10000000) ∧ 0 ≤ x.d ∧ x.d ≤ k
def Cov (g : List (List Int)) (M : List aB) : Prop := ∀ r ∈ g,∀ n ∈ r,0 ≤ n → (aZ M n).isSome = true
theorem rB {M : List aB} {n : Int} {x : aB} (h : aZ M n = some x) : x.n = n := by
 induction M with
 | nil => cases h
 | cons m M ih =>
  simp only [aZ] at h
  split at h
  · rename_i e; cases h; exact e
  · exact ih h
theorem uE {a b : Int} (ha : 0 ≤ a) (hb : 0 ≤ b) : 0 ≤ aW a b ∧ aW a b ≤ 10000000 := by
 unfold aW kN
 split <;> split <;> omega
theorem zD {u : bW} (h : dJ u = true) : (0 ≤ u.ml ∧ u.ml ≤ 1440) ∧ (0 ≤ u.mh ∧ u.mh ≤ 1440) ∧ (0 ≤ u.cl ∧ u.cl ≤ 200) ∧ (0 ≤ u.ch ∧ u.ch ≤ 200) := by
 simp only [dJ,Bool.and_eq_true,decide_eq_true_eq] at h
 omega
theorem TB.step {k : Nat} {M : List aB} (a : TB k M) {u : bW} (hu : dJ u = true) (n : Int) : TB (k + 1) (eJ u M n) := by
 have up : TB (k + 1) M := fun m y hy => by have := a m y hy; omega
 unfold eJ
 split
 · exact up
 · split
   · rename_i x hx
     intro m y hy
     rw [iH] at hy
     split at hy
     · cases hy
       obtain ⟨b1,b2,b3,b4,b5⟩ := a n x hx
       obtain ⟨c1,c2,c3,c4⟩ := zD hu
       simp only [gB]
       exact ⟨uE b1.1 c1.1,uE b2.1 c2.1,uE b3.1 c3.1,uE b4.1 c4.1,by omega⟩
     · exact up m y hy
   · exact up
theorem aB7 {M : List aB} {u : bW} {n k : Int} : (aZ (eJ u M n) k).isSome = (aZ M k).isSome := by
 unfold eJ
 split
 · rfl
 · split
   · rename_i x hx
     rw [iH]
     have := rB hx
     split
     · rename_i e
       simp only [gB] at e
       rw [e,this,hx]; rfl
     · rfl
   · rfl
theorem Cov.step {g : List (List Int)} {M : List aB} (a : Cov g M) (u : bW) (n : Int) : Cov g (eJ u M n) := fun r hr m hm h0 => by rw [aB7]; exact a r hr m hm h0
section
variable {H : aA} {fb mi so : Nat} {c : List AV} {g : List (List Int)} {M : List aB}
structure aAI (h : aA) (fb mi so : Nat) (c : List AV) (g : List (List Int)) (k : Nat) (H : aA) (M : List aB) : Prop where
 f : dT h H fb mi so c g M
 b : TB k M
 c : Cov g M
structure FlyOK (l : List aH) (g : List (List Int)) (d : Nat) : Prop where
 n : g.length ≤ l.length
 n2 : g.length ≤ 1000
 r : ∀ x ∈ g,x.length ≤ 100
 d : ∀ t ∈ l,d < t.days.length
 u : ∀ t ∈ l,t.days.all dJ = true
set_option maxRecDepth 20000 in
theorem fly_c {v : AV} {l : List aH} {d k : Nat} (hv : dF w0 h v l) (a : aAI h fb mi so c g k H M) (ok : FlyOK l g d) (hk : k ≤ 100000) (hd : d ≤ 1000) : ACall Tryz.prog w0 26 [.ptr (.own fb 0),v,.int .i64 d] H fun _ H' => aAI h fb mi so c g (k + 100 * g.length) H' (jK l d 0 M g) := by
 refine bZ aQ aGE mf26_b mf26_g (qE rfl) fun hb ha => bV ?_
 rw [List.append_nil]
 have hsl : ∃ sv,slG so g.length = sv ∧ oL sv = some (.int .i64 g.length) ∧ ∀ j,j < g.length → fX 1 sv (some j) = some (.ptr (.own so j)) := by
  by_cases hg : g = []
  · subst hg; exact ⟨.nilS,rfl,rfl,fun j hj => by simp at hj⟩
  · exact ⟨.sl (.own so 0) g.length 1 false,by rw [slG,if_neg (fun e => hg (List.eq_nil_of_length_eq_zero e))],rfl,fun j hj => nN hj⟩
 obtain ⟨sv,hsl,svl,svi⟩ := hsl
 have bx := a.f.box
 rw [hsl] at bx
 have g2 := ok.n2
 simp only [go_sem,mf26,bx,svl]
 refine dB (S := aA × List aB) (fun i _ => [(0,.ptr (.own fb 0)),(1,v),(2,.int .i64 d),(15,sv),(16,.int .i64 g.length),(17,.int .i64 i)]) (fun _ s => s.1) (fun i s => aAI h fb mi so c g (k + 100 * i) s.1 s.2 ∧ jK l d i s.2 (g.drop i) = jK l d 0 M g) g.length (H,M) ⟨a,rfl⟩ rfl rfl ?_ ?_
 · rintro i ⟨H1,M1⟩ hi ⟨a1,q1⟩ ih
   simp only at a1 q1 ih ⊢
   refine aJ aQ aBR [0,1,2,15,16,17] L26_1.eq_1 ?_
   have e1 : (i : Int) < g.length := by omega
   obtain ⟨r,hr⟩ : ∃ r,r = g[i] := ⟨_,rfl⟩
   have hgr : g[i]? = some r := by rw [hr]; exact qA hi
   obtain ⟨y,hy,ys,yo,yc,_⟩ := a1.f.row (w0 := w0) hgr
   have hg : g ≠ [] := fun e => by rw [e] at hi; simp at hi
   have sx := (a1.f.lst hg).2
   have rl := ok.r r (hr ▸ qG hi)
   have ly := (SlI.use ys.s).1
   have dr' : g.drop i = r :: g.drop (i + 1) := by rw [List.drop_eq_getElem_cons hi,← hr]
   rw [dr',jK] at q1
   simp only [go_sem,e1,svi i hi,sx,hy,ly]
   refine dB (S := aA × List aB) (fun j _ => [(0,.ptr (.own fb 0)),(1,v),(2,.int .i64 d),(6,.int .i64 i),(15,sv),(16,.int .i64 g.length),(17,.int .i64 i),(22,y),(23,.int .i64 r.length),(24,.int .i64 j)]) (fun _ s => s.1) (fun j s => aAI h fb mi so c g (k + 100 * i + j) s.1 s.2 ∧ lF (dS l i d) s.2 (r.drop j) = lF (dS l i d) M1 r) r.length (H1,M1) ⟨a1,rfl⟩ rfl rfl ?_ ?_
   · rintro j ⟨H2,M2⟩ hj ⟨a2,q2⟩ ih2
     simp only at a2 q2 ih2 ⊢
     refine aJ aQ aBS [0,1,2,6,15,16,17,22,23,24] L26_0.eq_1 ?_
     have e2 : (j : Int) < r.length := by omega
     obtain ⟨y',hy',ys2,_,_,_⟩ := a2.f.row (w0 := w0) hgr
     obtain rfl : y' = y := by rw [hy] at hy'; exact (Option.some.inj hy').symm
     obtain ⟨p,i1,r1,r1'⟩ := ys2.s.at_ hj
     obtain ⟨n,hn⟩ : ∃ n,n = r[j] := ⟨_,rfl⟩
     have hnr : n ∈ r := hn ▸ qG hj
     rw [← hn] at r1 r1'
     have drj : r.drop j = n :: r.drop (j + 1) := by rw [List.drop_eq_getElem_cons hj,← hn]
     rw [drj,lF] at q2
     have hil : i < l.length := Nat.lt_of_lt_of_le hi ok.n
     have huo : dS l i d = (l[i].days).getD d aCk := by rw [dS,aS hil]
     have hdl := ok.d _ (qG hil)
     have hub : dJ (dS l i d) = true := by rw [huo,aS hdl]; exact List.all_eq_true.1 (ok.u _ (qG hil)) _ (qG hdl)
     have nxt := a2.b.step hub n
     have nxc := a2.c.step (dS l i d) n
     by_cases h0 : n < 0
     · simp only [go_sem,e2,i1,r1,r1',h0]
       have es : eJ (dS l i d) M2 n = M2 := by rw [eJ,if_pos h0]
       rw [es] at q2 nxt
       exact ⟨(by unfold I64; omega),ih2 (H2,M2) ⟨⟨a2.f,nxt,a2.c⟩,q2⟩⟩
     · obtain ⟨x,hx⟩ := Option.isSome_iff_exists.1 (a2.c r (hr ▸ qG hi) n hnr (by omega))
       have es : eJ (dS l i d) M2 n = eY M2 (gB x (dS l i d)) := by rw [eJ,if_neg h0,hx]
       rw [es] at q2 nxt nxc
       have bx2 := a2.f.box
       rw [hsl] at bx2
       have bx2' : ∀ L,((H2 ++ L) : aA)[fb]? = some (some (.row [sv,.map mi])) := fun L => aE bx2
       have lk := uU a2.f.map n (.agg [.int .i64 0,.int .i64 0,.int .i64 0,.int .i64 0,.int .i64 0,.int .i64 0]) false
       rw [hx] at lk
       obtain ⟨p1,dv,tv,i3,r3,ra,_,hdv,_⟩ := hv.at_ hil
       obtain ⟨p2,i4,r4,_⟩ := hdv.at_ hdl
       obtain ⟨u,hu⟩ : ∃ u,u = l[i].days[d] := ⟨_,rfl⟩
       rw [← hu] at r4
       have hu2 : dS l i d = u := by rw [huo,aS hdl,← hu]
       have ra' : ∀ L,rd w0 (H2 ++ L) (p1.add 0) = some dv := fun L => a2.f.sub.app.rd (fT ra)
       have r4' : ∀ L,rdn w0 (H2 ++ L) p2 7 = some u.c := fun L => a2.f.sub.app.rdn (uQ r4)
       simp only [go_sem,e2,i1,r1,r1',h0,bx2,lk,i3,ra',i4,r4']
       have hs0 : aG H2 ((H2 ++ [some (Blk.row x.c),some (Blk.row u.c)]).set H2.length none) := aG.refl.app.setR (Nat.le_refl _)
       have bM := a2.b n x hx
       have bU := zD hub
       rw [hu2] at bU q2 nxt nxc
       refine fly_dr (it := H2.length) (iu := H2.length + 1) (x := x) (u := u) (by simp [aB.c]) (by simp [bW.c]) (by omega) rfl rfl ⟨by unfold Sm; omega,by unfold Sm; omega,by unfold Sm; omega,by unfold Sm; omega⟩ ⟨by unfold Sm; omega,by unfold Sm; omega,by unfold Sm; omega,by unfold Sm; omega⟩ ?_ fun fr H3 s3 b3 kp => ?_
       · have := ok.n2; omega
       have f0 : fr.get 0 = .ptr (.own fb 0) := kp 0 (by omega)
       have f1 : fr.get 1 = v := kp 1 (by omega)
       have f2 : fr.get 2 = .int .i64 d := kp 2 (by omega)
       have f6 : fr.get 6 = .int .i64 i := kp 6 (by omega)
       have f9 : fr.get 9 = .int .i64 n := kp 9 (by omega)
       have f10 : fr.get 10 = .ptr (.own H2.length 0) := kp 10 (by omega)
       have f15 : fr.get 15 = sv := kp 15 (by omega)
       have f16 : fr.get 16 = .int .i64 g.length := kp 16 (by omega)
       have f17 : fr.get 17 = .int .i64 i := kp 17 (by omega)
       have f22 : fr.get 22 = y' := kp 22 (by omega)
       have f23 : fr.get 23 = .int .i64 r.length := kp 23 (by omega)
       have f24 : fr.get 24 = .int .i64 j := kp 24 (by omega)
       have hs3 : aG H2 H3 := (hs0.trans s3).trans aG.msk
       have a3 := a2.f.to hs3
       have bx3 := a3.box
       rw [hsl] at bx3
       have hnx := rB hx
       have pk := aD0 a3.map (gB x u)
       simp only [gB] at pk b3
       rw [hnx] at pk b3
       simp only [aB.c] at pk b3
       simp only [go_sem,f0,f9,f10,bx3,b3,pk,f24,f1,f2,f6,f15,f16,f17,f22,f23]
       refine ⟨(by unfold I64; omega),?_⟩
       have eadd : gB x u = ⟨n,aW x.ml u.ml,aW x.mh u.mh,aW x.cl u.cl,aW x.ch u.ch,x.d + 1⟩ := by rw [gB,hnx]
       rw [← eadd]
       have es2 : eJ u M2 n = eY M2 (gB x u) := by rw [hu2] at es; exact es
       have kp' : cZ [mi] H3 (H3.set mi (some (.map (eA (eY M2 (gB x u)))))) := cZ.refl.set (.inl (List.mem_singleton.2 rfl))
       exact ih2 (H3.set mi (some (.map (eA (eY M2 (gB x u))))),eY M2 (gB x u)) ⟨⟨a3.setM kp' (qF (aP a3.map)),nxt,nxc⟩,by rw [hu2]; exact q2⟩
   · rintro ⟨H2,M2⟩ ⟨a2,q2⟩
     simp only at a2 q2 ⊢
     refine aJ aQ aBS [0,1,2,6,15,16,17,22,23,24] L26_0.eq_1 ?_
     have e2 : ¬ (r.length : Int) < r.length := by omega
     rw [List.drop_length,lF] at q2
     simp only [go_sem,e2]
     exact ⟨(by unfold I64; omega),ih (H2,M2) ⟨⟨a2.f,fun n x e => by have := a2.b n x e; omega,a2.c⟩,by rw [q2]; exact q1⟩⟩
 · rintro ⟨H1,M1⟩ ⟨a1,q1⟩
   simp only at a1 q1 ⊢
   refine aJ aQ aBR [0,1,2,15,16,17] L26_1.eq_1 ?_
   have e1 : ¬ (g.length : Int) < g.length := by omega
   rw [List.drop_length,jK] at q1
   simp only [go_sem,e1]
   rw [← q1]
   exact a1
end
set_option maxRecDepth 20000 in
theorem qJ {v : AV} {l : List aH} (hv : dF w0 h v l) (hs : jD l) : bQ Tryz.prog w0 7 [v] h (.bool (fS l)) h := by
 refine eU (by simp [AV.bdd]) (bZ aQ mf7_ok mf7_b mf7_g (qE rfl) fun hb ha => bV ?_)
 obtain ⟨hn,hs⟩ := hs
 have hlen := hv.len
 simp only [go_sem,mf7]
 refine dB (S := aA × AV × List Int) (fun j s => [(0,v),(3,s.2.1),(4,.int .i64 j)]) (fun _ s => s.1) (fun j s => TInv l h j s.1 s.2.1 s.2.2) l.length (h,.nilS,[]) ⟨Gro.nil aG.refl,Nat.zero_le _,rfl⟩ rfl (List.append_nil h) ?_ ?_
 · rintro j ⟨H,ov,a⟩ hj ⟨g,ga,ge⟩ ih
   simp only at g ga ge ih ⊢
   refine aJ aQ aEP [0,3,4] L7_2.eq_1 ?_
   have e1 : (j : Int) < l.length := by omega
   obtain ⟨p,dv,sv,i1,r1,ra,rb,hd,hsv⟩ := hv.at_ hj
   have ra' := g.sub.rd (fT ra)
   have rb' := g.sub.rd (fT rb)
   obtain ⟨p0,dv0,sv0,i0,_,r0a,_,hd0,_⟩ := hv.at_ (j := 0) (by omega)
   have r0a' := g.sub.rd (fT r0a)
   have hdays0 : bD l = l[0].days.length := by rw [bD,aS]
   obtain ⟨t,ht⟩ : ∃ t,t = l[j] := ⟨_,rfl⟩
   obtain ⟨t0,ht0⟩ : ∃ t,t = l[0] := ⟨_,rfl⟩
   have htm := hs t (ht ▸ qG hj)
   have ht0m := hs t0 (ht0 ▸ qG (by omega))
   rw [← ht] at hd hsv
   rw [← ht0] at hd0 hdays0
   have ld := hd.len
   have ld0 := hd0.len
   have lsv := (SlI.use hsv.s).1
   have drop : l.drop j = t :: l.drop (j + 1) := by rw [List.drop_eq_getElem_cons hj,← ht]
   rw [drop,fR] at ge
   have no : fI (bD l) t = false → fS l = false := fun e => by rw [ge,e]; rfl
   by_cases c1 : t.days.length = t0.days.length
   · have c1' : ((t.days.length : Int) != (t0.days.length : Int)) = false := by rw [c1]; simp
     simp only [go_sem,e1,hlen,i1,ra',rb',i0,r0a',ld,ld0,c1',lsv]
     refine ⟨fun c2 => ⟨fun c3 => ⟨g.sub,by rw [no (by simp only [fI]; rw [decide_eq_false (p := t.ser.length ≤ 5) (by omega)]; simp)]⟩,fun c3 => ?_⟩,fun c2 => ⟨g.sub,by rw [no (by simp only [fI]; rw [decide_eq_false (p := t.days.length ≤ 30) (by omega)]; simp)]⟩⟩
     refine hO (fun i => [(0,v),(3,ov),(4,.int .i64 j),(5,.int .i64 i)]) (fun i => dJ (t.days.getD i aCk) = true) t.days.length rfl (fun i hi hall iu => ?_) (fun hall => ?_)
     · refine aJ aQ aER [0,3,4,5] L7_0.eq_1 ?_
       have e2 : (i : Int) < t.days.length := by omega
       obtain ⟨q,i2,_,r2⟩ := hd.at_ hi
       obtain ⟨u,hu⟩ : ∃ u,u = t.days[i] := ⟨_,rfl⟩
       rw [← hu] at r2
       rw [aS hi,← hu] at iu
       have r2' := g.sub.rdn r2
       simp only [go_sem,i1,ra',ld,e2,i2,r2']
       refine aO (rUse_c u).v ?_
       cases c4 : dJ u with
       | false =>
        simp only [go_sem]
        have : t.days.all dJ = false := List.all_eq_false.2 ⟨u,hu ▸ qG hi,by rw [c4]; simp⟩
        exact ⟨g.sub,by rw [no (by simp [fI,this])]⟩
       | true =>
        simp only [go_sem]
        exact ⟨(by unfold I64; omega),iu c4⟩
     · refine aJ aQ aER [0,3,4,5] L7_0.eq_1 ?_
       have e2 : ¬ (t.days.length : Int) < t.days.length := by omega
       have c4 : t.days.all dJ = true := List.all_eq_true.2 fun u hu => by
        obtain ⟨i,hi,rfl⟩ := List.getElem_of_mem hu
        have := hall i hi
        rwa [aS hi] at this
       have tb : fI (bD l) t = true := by simp only [fI,c4,hdays0]; simp only [c1,decide_true,Bool.and_true,Bool.true_and]; rw [Bool.and_eq_true]; exact ⟨decide_eq_true (by omega),decide_eq_true (by omega)⟩
       rw [tb,Bool.true_and] at ge
       simp only [go_sem,i1,ra',ld,e2]
       refine dB (S := aA × AV × List Int) (fun k s => [(0,v),(3,s.2.1),(4,.int .i64 j),(6,.int .i64 k)]) (fun _ s => s.1) (fun k s => aBJ l h j t k s.1 s.2.1 s.2.2) t.ser.length (H,ov,a) ⟨g,by omega,ge⟩ rfl rfl ?_ ?_
       · rintro k ⟨H2,ov2,a2⟩ hk ⟨g2,ga2,ge2⟩ ih2
         simp only at g2 ga2 ge2 ih2 ⊢
         refine aJ aQ aEQ [0,3,4,6] L7_1.eq_1 ?_
         have e2 : (k : Int) < t.ser.length := by omega
         have rb2 := g2.sub.rd (fT rb)
         obtain ⟨q,i2,r2,r2'⟩ := SlI.at_ (hsv.s.sub g2.sub) hk
         obtain ⟨n,hnn⟩ : ∃ n,n = t.ser[k] := ⟨_,rfl⟩
         rw [← hnn] at r2 r2'
         have dk : t.ser.drop k = n :: t.ser.drop (k + 1) := by rw [List.drop_eq_getElem_cons hk,← hnn]
         rw [dk,uF] at ge2
         have bk : ∀ L,((H2 ++ some (Blk.row [AV.int .i64 n]) :: L) : aA)[H2.length]? = some (some (.row [.int .i64 n])) := fun L => by rw [qI (Nat.le_refl _),Nat.sub_self]; rfl
         obtain ⟨G,ap,gG⟩ := (g2.app (L := [some (Blk.row [AV.int .i64 n])])).more (w0 := w0) (b := 8) (f := true) (x := [.int .i64 n]) (bk []) rfl rfl (by omega) (by omega)
         have gG' : Gro h G 1 (a2 ++ [n]).length (.sl (.own (H2.length + 1) 0) (a2.length + 1) 1 false) (bI (a2 ++ [n])) := by
          rw [List.length_append,List.length_singleton,bI,List.map_append]
          rw [List.length_append,List.length_singleton] at gG
          exact gG
         have nxt : (inB n (-1) 1000 && !(decide (0 ≤ n) && decide (n ∈ a2))) = true → aBJ l h j t (k + 1) G (.sl (.own (H2.length + 1) 0) (a2.length + 1) 1 false) (a2 ++ [n]) := fun q =>
          ⟨gG',by rw [List.length_append,List.length_singleton]; omega,by rw [ge2,q,Bool.true_and,List.append_assoc]; rfl⟩
         simp only [go_sem,i1,rb2,lsv,e2,i2,r2,r2']
         refine aO (lD n (-1) 1000).v ?_
         cases d1 : inB n (-1) 1000 with
         | false =>
          simp only [go_sem]
          exact ⟨g2.sub,by rw [ge2,d1]; rfl⟩
         | true =>
         simp only [go_sem]
         by_cases d2 : 0 ≤ n
         · simp only [go_sem,d2]
           refine aO (uK n (g2.sli rfl) (by omega)).v ?_
           cases d3 : decide (n ∈ a2) with
           | true =>
            simp only [go_sem]
            exact ⟨g2.sub,by rw [ge2,d1,d3,decide_eq_true d2]; rfl⟩
           | false =>
            simp only [go_sem,bk,ap]
            exact ⟨(by unfold I64; omega),ih2 (G,_,a2 ++ [n]) (nxt (by rw [d1,d3]; simp))⟩
         · simp only [go_sem,d2,bk,ap]
           exact ⟨(by unfold I64; omega),ih2 (G,_,a2 ++ [n]) (nxt (by rw [d1,decide_eq_false d2]; rfl))⟩
       · rintro ⟨H2,ov2,a2⟩ ⟨g2,ga2,ge2⟩
         simp only at g2 ga2 ge2 ⊢
         refine aJ aQ aEQ [0,3,4,6] L7_1.eq_1 ?_
         have e2 : ¬ (t.ser.length : Int) < t.ser.length := by omega
         have rb2 := g2.sub.rd (fT rb)
         rw [List.drop_length,uF,Bool.true_and,List.append_nil] at ge2
         simp only [go_sem,i1,rb2,lsv,e2]
         exact ⟨(by unfold I64; omega),ih (H2,ov2,a2) ⟨g2,by simp only; omega,ge2⟩⟩
   · have c1' : ((t.days.length : Int) != (t0.days.length : Int)) = true := by simp only [bne_iff_ne,ne_eq]; omega
     simp only [go_sem,e1,hlen,i1,ra',rb',i0,r0a',ld,ld0,c1',lsv]
     exact ⟨g.sub,by rw [no (by simp [fI,hdays0,c1])]⟩
 · rintro ⟨H,ov,a⟩ ⟨g,ga,ge⟩
   simp only at g ga ge ⊢
   refine aJ aQ aEP [0,3,4] L7_2.eq_1 ?_
   have e1 : ¬ (l.length : Int) < l.length := by omega
   rw [List.drop_length,fR] at ge
   simp only [go_sem,e1,hlen]
   exact ⟨g.sub,by rw [ge]⟩
set_option maxRecDepth 20000 in
theorem qL {v sv : AV} {l : List aH} {sw : List aM} (hv : dF w0 h v l) (hw : eD w0 h sv sw) (hs : jD l) (hn : sw.length ≤ 1000) : bQ Tryz.prog w0 8 [v,sv] h (.bool (cW l sw)) h := by
 refine bG aQ mf8_ok mf8_b mf8_g (qE rfl) (by simp [AV.bdd,AV.bdds]) fun hb ha => bV ?_
 obtain ⟨hll,hs⟩ := hs
 have hlen := hv.len
 have hlw := hw.len
 have vb := NS.bdd hv (Nat.le_refl _)
 have wb := NS.bdd hw (Nat.le_refl _)
 simp only [go_sem,mf8,hlw]
 refine hO (fun j => [(0,v),(1,sv),(5,.int .i64 j)]) (fun i => (iC l (sw.getD i oC) && oK sw i) = true) sw.length rfl (fun i hi hall ih => ?_) (fun hall => ?_)
 · refine aJ aQ aEO [0,1,5] L8_0.eq_1 ?_
   have e1 : (i : Int) < sw.length := by omega
   obtain ⟨p,i1,r1,r1'⟩ := hw.at_ hi
   have no := sH (l := l) hi
   obtain ⟨s,hsw⟩ : ∃ s,s = sw[i] := ⟨_,rfl⟩
   rw [← hsw] at r1 r1'
   rw [aS hi,← hsw] at ih no
   have w1 : wi ((l.length : Int) - 1) = l.length - 1 := kP (by unfold I64; omega)
   simp only [go_sem,e1,hlw,i1,r1,r1',hlen,w1]
   refine aO (lD s.tail 0 (l.length - 1)).v ?_
   cases c1 : inB s.tail 0 (l.length - 1) with
   | false => simp only [go_sem]; rw [no (by rw [iC,c1]; rfl)]
   | true =>
   rw [iX] at c1
   obtain ⟨k,hk⟩ : ∃ k : Nat,s.tail = k := ⟨s.tail.toNat,by omega⟩
   have hkl : k < l.length := by omega
   obtain ⟨q,dv,tv,i2,r2,ra,rb,hd,hsv⟩ := hv.at_ hkl
   obtain ⟨t,ht⟩ : ∃ t,t = l[k] := ⟨_,rfl⟩
   have htm := hs t (ht ▸ qG hkl)
   rw [← ht] at hd hsv
   have ld := hd.len
   have ls := (SlI.use hsv.s).1
   have gt : l.getD s.tail.toNat rX = t := by rw [hk,Int.toNat_natCast,aS hkl,ht]
   have w2 : wi ((t.ser.length : Int) - 1) = t.ser.length - 1 := kP (by unfold I64; omega)
   have w3 : wi ((t.days.length : Int) - 1) = t.days.length - 1 := kP (by unfold I64; omega)
   rw [iC,gt,iX.2 c1,Bool.true_and] at no ih
   simp only [go_sem,hk,i2,ra,ld,w3]
   refine aO (lD s.night 0 (t.days.length - 1)).v ?_
   cases c4 : inB s.night 0 (t.days.length - 1) with
   | false => simp only [go_sem]; rw [no (by rw [c4]; simp)]
   | true =>
   by_cases hi0 : i = 0
   · have d0 : ¬ (0 : Int) < (i : Int) := by omega
     have ho : oK sw i = true := by rw [oK,decide_eq_true hi0]; rfl
     simp only [go_sem,d0,hk,i2,rb,ls,w2]
     refine aO (lD s.slot 0 (t.ser.length - 1)).v ?_
     cases c2 : inB s.slot 0 (t.ser.length - 1) with
     | false => simp only [go_sem]; rw [no (by rw [c2]; rfl)]
     | true =>
     simp only [go_sem]
     refine aO (lD s.serial (-1) 1000).v ?_
     cases c3 : inB s.serial (-1) 1000 with
     | false => simp only [go_sem]; rw [no (by rw [c2,c3]; rfl)]
     | true =>
     simp only [go_sem]
     refine ⟨(by unfold I64; omega),oZ 0 hb (by simp [HBs]) (by simp [nB,nC,pC,pD,vO,oW,AV.bdds,AV.bdd,Pl.bdd,kC]; exact ⟨vb,wb⟩) ?_⟩
     simpa using ih (by rw [c2,c3,c4,ho]; rfl)
   · have d0 : (0 : Int) < (i : Int) := by omega
     obtain ⟨p2,i3,r3,r3'⟩ := hw.at_ (j := i - 1) (by omega)
     obtain ⟨s2,hs2⟩ : ∃ s,s = sw[i - 1] := ⟨_,rfl⟩
     rw [← hs2] at r3 r3'
     have w4 : wi ((i : Int) - 1) = ((i - 1 : Nat) : Int) := by rw [kP (by unfold I64; omega)]; omega
     have r4 : ∀ L,rd w0 (h ++ L) (p2.add 0) = some (.int .i64 s2.night) := fun L => lI (r3 L) rfl
     have ho : oK sw i = decide (s2.night ≤ s.night) := by rw [oK,decide_eq_false hi0,aS hi,← hsw,aS (by omega),← hs2]; rfl
     by_cases d1 : s2.night ≤ s.night
     · have d1' : ¬ s.night < s2.night := by omega
       simp only [go_sem,d0,w4,i3,r4,d1',hk,i2,rb,ls,w2]
       refine aO (lD s.slot 0 (t.ser.length - 1)).v ?_
       cases c2 : inB s.slot 0 (t.ser.length - 1) with
       | false => simp only [go_sem]; rw [no (by rw [c2]; rfl)]
       | true =>
       simp only [go_sem]
       refine aO (lD s.serial (-1) 1000).v ?_
       cases c3 : inB s.serial (-1) 1000 with
       | false => simp only [go_sem]; rw [no (by rw [c2,c3]; rfl)]
       | true =>
       simp only [go_sem]
       refine ⟨(by unfold I64; omega),oZ 0 hb (by simp [HBs]) (by simp [nB,nC,pC,pD,vO,oW,AV.bdds,AV.bdd,Pl.bdd,kC]; exact ⟨vb,wb⟩) ?_⟩
       simpa using ih (by rw [c2,c3,c4,ho,decide_eq_true d1]; rfl)
     · have d1' : s.night < s2.night := by omega
       simp only [go_sem,d0,w4,i3,r4,d1']
       rw [no (by rw [ho,decide_eq_false d1]; simp)]
 · refine aJ aQ aEO [0,1,5] L8_0.eq_1 ?_
   have e1 : ¬ (sw.length : Int) < sw.length := by omega
   simp only [go_sem,e1,hlw]
   have : cW l sw = true := by rw [cW,List.all_eq_true]; exact fun i hi => hall i (List.mem_range.1 hi)
   rw [this]
end Go.Proofs.Ab

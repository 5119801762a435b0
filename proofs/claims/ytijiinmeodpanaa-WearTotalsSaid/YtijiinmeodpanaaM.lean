/- The own layer under the proofs of this seat, part M: what calls of the program come to on an abstract heap. No condition. -/
import Derived.Test.YtijiinmeodpanaaL
import Derived.Test.YtijiinmeodpanaaJ
import Derived.Test.YtijiinmeodpanaaX
import Derived.Test.YtijiinmeodpanaaI
import Derived.Test.YtijiinmeodpanaaG
set_option linter.unusedSimpArgs false
set_option linter.unusedVariables false
namespace Go.Proofs.Ab
open Go Go.Proofs
variable {w0 : World} {h : aA}
attribute [local irreducible] ACall bD dI bQ dH rvC lp rg dr ex un rv
def wO (t : aG) : Bool := decide (t.days.length ≤ 40) && decide (t.ser.length ≤ 10)
def fI (l : List aG) (sw : List aJ) : Bool := l.all wO && (decide (l.length ≤ 6) && (decide (sw.length ≤ 30) || (decide (200 < sw.length) && decide (sw.length ≤ 210))))
theorem aCf {v sv : AV} {l : List aG} {sw : List aJ} (hv : eE w0 h v l) (hw : fW w0 h sv sw) (hln : l.length ≤ 9223372036854775807) : bQ Try.prog w0 4 [v,sv] h (.bool (fI l sw)) h := by
 refine bN aW mf4_ok mf4_b mf4_g (qE rfl) (by simp [AV.bdd,AV.bdds]) fun hb ha => bT ?_
 have hlen := hv.len
 have hlw := hw.len
 simp only [go_sem,mf4]
 refine jC (fun j => [(0,v),(1,sv),(5,.int .i64 j)]) (fun j => wO (l.getD j qZ) = true) l.length rfl (fun j hj hall ih => ?_) (fun hall => ?_)
 · refine aN aW aFd [0,1,5] L4_0.eq_1 ?_
   obtain ⟨p,dv,tv,i1,r1,ra,rb,hd,hsv⟩ := hv.at_ hj
   have e2 : (j : Int) < l.length := by omega
   have ld := hd.len
   have lt := (SlI.use hsv.s).1
   rw [aR hj] at ih
   have no : wO l[j] = false → fI l sw = false := fun e => by
    rw [fI,List.all_eq_false.2 ⟨l[j],qG hj,by rw [e]; simp⟩]; rfl
   by_cases c1 : l[j].days.length ≤ 40
   · have c1' : ¬ (l[j].days.length : Int) > 40 := by omega
     by_cases c2 : l[j].ser.length ≤ 10
     · have c2' : ¬ (l[j].ser.length : Int) > 10 := by omega
       simp only [go_sem,e2,hlen,i1,ra,rb,ld,lt,c1',c2']
       exact ⟨(by unfold I64; omega),ih (by rw [wO,decide_eq_true c1,decide_eq_true c2]; rfl)⟩
     · have c2' : (l[j].ser.length : Int) > 10 := by omega
       simp only [go_sem,e2,hlen,i1,ra,rb,ld,lt,c1',c2']
       rw [no (by rw [wO,decide_eq_false c2]; simp)]
   · have c1' : (l[j].days.length : Int) > 40 := by omega
     simp only [go_sem,e2,hlen,i1,ra,rb,ld,lt,c1']
     rw [no (by rw [wO,decide_eq_false c1]; rfl)]
 · refine aN aW aFd [0,1,5] L4_0.eq_1 ?_
   have e2 : ¬ (l.length : Int) < l.length := by omega
   have ha : l.all wO = true := List.all_eq_true.2 fun t ht => by
    obtain ⟨i,hi,rfl⟩ := List.getElem_of_mem ht
    have := hall i hi
    rwa [aR hi] at this
   have tb : fI l sw = (decide (l.length ≤ 6) && (decide (sw.length ≤ 30) || (decide (200 < sw.length) && decide (sw.length ≤ 210)))) := by rw [fI,ha]; rfl
   by_cases c1 : l.length ≤ 6
   · have c1' : (l.length : Int) ≤ 6 := by omega
     by_cases c2 : sw.length ≤ 30
     · have c2' : (sw.length : Int) ≤ 30 := by omega
       simp only [go_sem,hlen,hlw,e2,c1',c2']
       rw [tb,decide_eq_true c1,decide_eq_true c2]; rfl
     · have c2' : ¬ (sw.length : Int) ≤ 30 := by omega
       by_cases c3 : 200 < sw.length
       · have c3' : (sw.length : Int) > 200 := by omega
         by_cases c4 : sw.length ≤ 210
         · have c4' : (sw.length : Int) ≤ 210 := by omega
           simp only [go_sem,hlen,hlw,e2,c1',c2',c3',c4']
           rw [tb,decide_eq_true c1,decide_eq_false c2,decide_eq_true c3,decide_eq_true c4]; rfl
         · have c4' : ¬ (sw.length : Int) ≤ 210 := by omega
           simp only [go_sem,hlen,hlw,e2,c1',c2',c3',c4']
           rw [tb,decide_eq_true c1,decide_eq_false c2,decide_eq_true c3,decide_eq_false c4]; rfl
       · have c3' : ¬ (sw.length : Int) > 200 := by omega
         simp only [go_sem,hlen,hlw,e2,c1',c2',c3']
         rw [tb,decide_eq_true c1,decide_eq_false c2,decide_eq_false c3]; rfl
   · have c1' : ¬ (l.length : Int) ≤ 6 := by omega
     simp only [go_sem,hlen,hlw,e2,c1']
     rw [tb,decide_eq_false c1]; rfl
theorem wN {l : List aG} {sw : List aJ} (e : fI l sw = true) : jK l ∧ sw.length ≤ 1000 := by
 simp only [fI,Bool.and_eq_true,List.all_eq_true,decide_eq_true_eq,Bool.or_eq_true,wO] at e
 exact ⟨⟨by omega,fun t ht => by have := e.1 t ht; omega⟩,by omega⟩
theorem aCA {l : List aG} {sw : List aJ} {k : Nat} : (cP l sw k).length ≤ k := by
 rw [cP]
 refine Nat.le_trans (List.length_filter_le _ _) ?_
 simp
end Go.Proofs.Ab
namespace Go.Proofs.Ab
open Go Go.Proofs
def bF (F : aM → Int) (us : List aM) : Int := (us.map F).sum
theorem qJ {F : aM → Int} {a b : List aM} : bF F (a ++ b) = bF F a + bF F b := by rw [bF,List.map_append,List.sum_append]; rfl
theorem pZ {F : aM → Int} {u : aM} : bF F [u] = F u := by simp [bF]
theorem iK {α : Type} {F : aM → Int} {f : α → List aM} : ∀ {L : List α},bF F (L.flatMap f) = (L.map fun x => bF F (f x)).sum
 | [] => rfl
 | a :: L => by rw [List.flatMap_cons,qJ,iK,List.map_cons,List.sum_cons]
theorem aA2 {α : Type} {a b : α → Int} : ∀ {L : List α},(L.map fun x => a x + b x).sum = (L.map a).sum + (L.map b).sum
 | [] => rfl
 | x :: L => by simp only [List.map_cons,List.sum_cons]; rw [aA2]; omega
theorem wP {α : Type} : ∀ {L : List α},(L.map fun _ => (0 : Int)).sum = 0
 | [] => rfl
 | x :: L => by rw [List.map_cons,List.sum_cons,wP]; rfl
theorem pY {α β : Type} {f : α → β → Int} {L : List β} : ∀ {K : List α},(K.map fun n => (L.map fun x => f n x).sum).sum = (L.map fun x => (K.map fun n => f n x).sum).sum
 | [] => by simp only [List.map_nil,List.sum_nil]; exact wP.symm
 | n :: K => by
  rw [List.map_cons,List.sum_cons,pY (K := K),← aA2]
  refine congrArg List.sum (List.map_congr_left fun x _ => ?_)
  rw [List.map_cons,List.sum_cons]
theorem aDB {c : Int} {p : Int → Bool} : ∀ {K : List Int},(K.map fun n => if p n = true then c else 0).sum = ((K.filter p).length : Int) * c
 | [] => by simp
 | n :: K => by
  rw [List.map_cons,List.sum_cons,aDB]
  by_cases q : p n = true
  · rw [if_pos q,List.filter_cons_of_pos q,List.length_cons,Int.natCast_add,Int.add_mul]; omega
  · rw [if_neg q,List.filter_cons_of_neg q]; omega
def hP (l : List aG) (d t : Nat) (r : List Int) : List aM := (r.filter fun n => decide (0 ≤ n)).map fun _ => dA l t d
def iC (l : List aG) (g : List (List Int)) (d i : Nat) : List aM := (g.zipIdx i).flatMap fun p => hP l d p.2 p.1
def gS (l : List aG) (sw : List aJ) (D : Nat) : List aM := (List.range D).flatMap fun d => iC l (gD l sw d) d 0
theorem sN {α : Type} {c : Int} : ∀ {L : List α},(L.map fun _ => c).sum = (L.length : Int) * c
 | [] => by simp
 | x :: L => by rw [List.map_cons,List.sum_cons,sN,List.length_cons,Int.natCast_add,Int.add_mul]; omega
theorem aFV {F : aM → Int} {l : List aG} {d t : Nat} {r K : List Int} (hK : K.Nodup) (h0 : ∀ n ∈ K,0 ≤ n) (ho : iF r) (hr : ∀ n ∈ r,0 ≤ n → n ∈ K) :
 (K.map fun n => bF F (if n ∈ r then [dA l t d] else [])).sum = bF F (hP l d t r) := by
 have e1 : (K.map fun n => bF F (if n ∈ r then [dA l t d] else [])) = K.map fun n => if decide (n ∈ r) = true then F (dA l t d) else 0 := by
  refine List.map_congr_left fun n _ => ?_
  by_cases q : n ∈ r
  · rw [if_pos q,if_pos (decide_eq_true q),pZ]
  · rw [if_neg q,if_neg (by simpa using q)]; rfl
 have e2 : (K.filter fun n => decide (n ∈ r)).Perm (r.filter fun n => decide (0 ≤ n)) :=
  (List.perm_ext_iff_of_nodup (hK.filter _) ho).2 fun n => by
   simp only [List.mem_filter,decide_eq_true_eq]
   exact ⟨fun h => ⟨h.2,h0 n h.1⟩,fun h => ⟨hr n h.1 h.2,h.1⟩⟩
 rw [e1,aDB,e2.length_eq,hP,bF,List.map_map]
 exact sN.symm
theorem aHD {F : aM → Int} {l : List aG} {sw : List aJ} {D : Nat} {K : List Int} (hK : K.Nodup) (h0 : ∀ n ∈ K,0 ≤ n) (hg : ∀ d,d < D → ∀ r ∈ gD l sw d,iF r ∧ ∀ n ∈ r,0 ≤ n → n ∈ K) :
 (K.map fun n => bF F (cX l sw n D)).sum = bF F (gS l sw D) := by
 have e1 : (K.map fun n => bF F (cX l sw n D)) = K.map fun n => ((List.range D).map fun d => (((gD l sw d).zipIdx).map fun p => bF F (if n ∈ p.1 then [dA l p.2 d] else [])).sum).sum := by
  refine List.map_congr_left fun n _ => ?_
  rw [cX,iK]
  refine congrArg List.sum (List.map_congr_left fun d _ => ?_)
  rw [jX,iK]
 rw [e1,pY,gS,iK]
 refine congrArg List.sum (List.map_congr_left fun d hd => ?_)
 rw [pY,iC,iK]
 refine congrArg List.sum (List.map_congr_left fun p hp => ?_)
 have hm : p.1 ∈ gD l sw d := by
  obtain ⟨i,hi,e⟩ := List.getElem_of_mem hp
  rw [List.getElem_zipIdx] at e
  rw [← e]; exact qG _
 have := hg d (List.mem_range.1 hd) p.1 hm
 exact aFV hK h0 this.1 this.2
theorem yK : ∀ {us : List aM} {x : aD},(us.foldl mC x).n = x.n ∧ (us.foldl mC x).ml = x.ml + bF aM.ml us ∧ (us.foldl mC x).mh = x.mh + bF aM.mh us ∧ (us.foldl mC x).cl = x.cl + bF aM.cl us ∧ (us.foldl mC x).ch = x.ch + bF aM.ch us ∧ (us.foldl mC x).d = x.d + bF (fun _ => 1) us
 | [],x => by simp [bF]
 | u :: us,x => by
  have h := yK (us := us) (x := mC x u)
  rw [List.foldl_cons]
  have e : ∀ F,bF F (u :: us) = F u + bF F us := fun F => by simp [bF]
  simp only [e]
  simp only [mC] at h ⊢
  omega
theorem pW {l : List aG} {sw : List aJ} {n : Int} : (eX l sw n).n = n ∧ (eX l sw n).ml = bF aM.ml (cX l sw n (aO l)) ∧ (eX l sw n).mh = bF aM.mh (cX l sw n (aO l)) ∧ (eX l sw n).cl = bF aM.cl (cX l sw n (aO l)) ∧ (eX l sw n).ch = bF aM.ch (cX l sw n (aO l)) ∧ (eX l sw n).d = bF (fun _ => 1) (cX l sw n (aO l)) := by
 have h := yK (us := cX l sw n (aO l)) (x := zT n)
 simp only [eX]
 simp only [zT,Int.zero_add] at h ⊢
 exact h
theorem qN {l : List aG} {sw : List aJ} (k : TOK l) (h : cG l sw = true) {g : List (List Int)} (e : cS l sw (aO l) = some g) (d : Nat) : cS l sw d = some (gD l sw d) := by
 have es : cS l sw (aO l) = goF (l.map aG.ser) sw := by
  rw [cS,List.filter_eq_self.2 fun s hs => by have := (iX k (iI h hs)).2.1; simpa using this]
 rw [es] at e
 obtain ⟨m,_,h2,_⟩ := aCM (mM h) (d : Int)
 rw [← List.take_append_drop m sw,vF] at e
 cases q : goF (l.map aG.ser) (sw.take m) with
 | none => rw [q] at e; cases e
 | some g' => rw [gD,cS,h2,q]; rfl
theorem yO {l : List aG} {sw : List aJ} (k : TOK l) (h : cG l sw = true) {g : List (List Int)} (e : cS l sw (aO l) = some g) (d : Nat) : cW l (gD l sw d) ∧ ∀ r ∈ gD l sw d,iF r ∧ ∀ n ∈ r,0 ≤ n → n ∈ cP l sw 1001 := by
 have hs := qN k h e d
 rw [cS] at hs
 refine ⟨nA (cW.start l) hs,fun r hr => ⟨aBk (fun x hx => ?_) hs r hr,fun n hn h0 => ?_⟩⟩
 · obtain ⟨t,ht,rfl⟩ := List.mem_map.1 hx
   exact (iW k.e t ht).2
 · have hk : isK l sw n = true := by
    rw [isK,Bool.or_eq_true]
    rcases aAt hs ⟨r,hr,hn⟩ with ⟨x,hx,hm⟩ | q
    · obtain ⟨t,ht,rfl⟩ := List.mem_map.1 hx
      exact .inr (List.any_eq_true.2 ⟨t,ht,by simpa using hm⟩)
    · obtain ⟨s,hs,hq⟩ := List.any_eq_true.1 q
      exact .inl (List.any_eq_true.2 ⟨s,(List.mem_filter.1 hs).1,hq⟩)
   have := aEz k h hk
   rw [cP,List.mem_filter,List.mem_map]
   exact ⟨⟨n.toNat,List.mem_range.2 (by omega),by omega⟩,hk⟩
theorem xX {l : List aG} {sw : List aJ} {k : Nat} : (cP l sw k).Pairwise (· < ·) := by
 have hp : ((List.range k).map fun i : Nat => (i : Int)).Pairwise (· < ·) := by
  rw [List.pairwise_map]
  exact List.Pairwise.imp (fun h => by omega) List.pairwise_lt_range
 exact hp.filter _
theorem xY {l : List aG} {sw : List aJ} {k : Nat} : ∀ n ∈ cP l sw k,0 ≤ n := fun n hn => by
 rw [cP,List.mem_filter,List.mem_map] at hn
 obtain ⟨⟨i,_,rfl⟩,_⟩ := hn
 omega
def Mes (F : aM → Int) : Prop := ∀ u,cQ u = true → 0 ≤ F u ∧ F u ≤ 1440
theorem mes5 : Mes aM.ml ∧ Mes aM.mh ∧ Mes aM.cl ∧ Mes aM.ch ∧ Mes fun _ => 1 := by
 refine ⟨fun u h => ?_,fun u h => ?_,fun u h => ?_,fun u h => ?_,fun u _ => ⟨show (0 : Int) ≤ 1 by omega,show (1 : Int) ≤ 1440 by omega⟩⟩ <;> · have := uK h; omega
theorem Mes.bd {F : aM → Int} (m : Mes F) : ∀ {us : List aM},(∀ u ∈ us,cQ u = true) → 0 ≤ bF F us ∧ bF F us ≤ 1440 * us.length
 | [],_ => by simp [bF]
 | u :: us,h => by
  have h1 := m u (h u (by simp))
  have h2 := Mes.bd m (us := us) fun v hv => h v (by simp [hv])
  have e : bF F (u :: us) = F u + bF F us := by simp [bF]
  rw [e,List.length_cons]
  omega
def cL (F : aM → Int) (l : List aG) (sw : List aJ) (j : Nat) : Int := (((cP l sw 1001).take j).map fun n => bF F (cX l sw n (aO l))).sum
theorem sO {F : aM → Int} {l : List aG} {sw : List aJ} {j : Nat} (hj : j < (cP l sw 1001).length) : cL F l sw (j + 1) = cL F l sw j + bF F (cX l sw (cP l sw 1001)[j] (aO l)) := by
 rw [cL,List.take_add_one,qA hj,List.map_append,List.sum_append]
 simp [cL]
theorem aA3 {F : aM → Int} (m : Mes F) {l : List aG} {sw : List aJ} (k : TOK l) : ∀ {j : Nat},j ≤ (cP l sw 1001).length → 0 ≤ cL F l sw j ∧ cL F l sw j ≤ 200000 * j
 | 0,_ => by simp [cL]
 | j + 1,hj => by
  have ih := aA3 m (sw := sw) k (j := j) (by omega)
  rw [sO (by omega)]
  have h1 := m.bd (qX k (sw := sw) (n := (cP l sw 1001)[j]) (Nat.le_refl (aO l)))
  have h2 := @mT l sw (cP l sw 1001)[j] (aO l)
  have h3 : aO l * l.length ≤ 30 * 4 := Nat.mul_le_mul k.d k.n
  omega
theorem wZ {l : List aG} (k : TOK l) {d t : Nat} (hd : d < aO l) (ht : t < l.length) {r : List Int} : ∀ u ∈ hP l d t r,cQ u = true := fun u hu => by
 obtain ⟨_,_,rfl⟩ := List.mem_map.1 hu
 exact k.use ht hd
theorem xB {l : List aG} {d t : Nat} {r : List Int} : (hP l d t r).length ≤ r.length := by rw [hP,List.length_map]; exact List.length_filter_le _ _
theorem rL {l : List aG} {d : Nat} : ∀ {g : List (List Int)} {i : Nat},(∀ r ∈ g,r.length ≤ 5) → (iC l g d i).length ≤ 5 * g.length
 | [],_,_ => Nat.zero_le _
 | r :: g,i,h => by
  have h1 := rL (l := l) (d := d) (g := g) (i := i + 1) fun x hx => h x (by simp [hx])
  have h2 := @xB l d i r
  have h3 := h r (by simp)
  have e : iC l (r :: g) d i = hP l d i r ++ iC l g d (i + 1) := by rw [iC,List.zipIdx_cons,List.flatMap_cons]; rfl
  rw [e,List.length_append,List.length_cons]
  omega
theorem aCR {l : List aG} {g : List (List Int)} {x : List Int} {d : Nat} : iC l (g ++ [x]) d 0 = iC l g d 0 ++ hP l d g.length x := by
 rw [iC,iC,List.zipIdx_append,List.flatMap_append]
 simp
theorem aCn {l : List aG} {d t : Nat} {r : List Int} {n : Int} : hP l d t (r ++ [n]) = hP l d t r ++ if 0 ≤ n then [dA l t d] else [] := by
 rw [hP,List.filter_append,List.map_append]
 by_cases q : 0 ≤ n
 · rw [if_pos q]; simp [hP,q]
 · rw [if_neg q]; simp [hP,q]
theorem yP {l : List aG} (k : TOK l) {g : List (List Int)} (hg : g.length ≤ l.length) {d : Nat} (hd : d < aO l) : ∀ u ∈ iC l g d 0,cQ u = true := fun u hu => by
 obtain ⟨p,hp,hu⟩ := List.mem_flatMap.1 hu
 have := List.snd_lt_of_mem_zipIdx hp
 exact wZ k hd (by omega) u hu
theorem tZ {l : List aG} {sw : List aJ} {d : Nat} : gS l sw (d + 1) = gS l sw d ++ iC l (gD l sw d) d 0 := by
 rw [gS,List.range_succ,List.flatMap_append]; simp [gS]
theorem aEU {l : List aG} (k : TOK l) {sw : List aJ} {d : Nat} (hd : d ≤ aO l) : ∀ u ∈ gS l sw d,cQ u = true := fun u hu => by
 obtain ⟨e,he,hu⟩ := List.mem_flatMap.1 hu
 have := List.mem_range.1 he
 exact yP k vG (by omega) u hu
theorem cW.five {l : List aG} (k : TOK l) {g : List (List Int)} (s : cW l g) : ∀ r ∈ g,r.length ≤ 5 := fun x hx => by
 obtain ⟨i,hi,rfl⟩ := List.getElem_of_mem hx
 have := s.len
 rw [s.at_ hi,aR (by omega)]
 exact (k.day (qG _)).2.2.1
theorem aHu {l : List aG} (k : TOK l) {sw : List aJ} {d : Nat} : ∀ r ∈ gD l sw d,r.length ≤ 5 := by
 rw [gD]
 cases q : cS l sw d with
 | none => intro r hr; cases hr
 | some g => exact (nA (cW.start l) q).five k
theorem zD {l : List aG} (k : TOK l) {sw : List aJ} : ∀ {d : Nat},(gS l sw d).length ≤ 20 * d
 | 0 => by simp [gS]
 | d + 1 => by
  have ih := zD k (sw := sw) (d := d)
  have h1 := rL (l := l) (d := d) (i := 0) (aHu k (sw := sw) (d := d))
  have h2 := @vG l sw d
  have h3 := k.n
  rw [tZ,List.length_append]
  omega
theorem aDw {F : aM → Int} {l : List aG} {sw : List aJ} (k : TOK l) (h : cG l sw = true) {g : List (List Int)} (e : cS l sw (aO l) = some g) : cL F l sw (cP l sw 1001).length = bF F (gS l sw (aO l)) := by
 rw [cL,List.take_length]
 exact aHD (xX.imp fun h => by omega) xY fun d _ => (yO k h e d).2
end Go.Proofs.Ab
namespace Go.Proofs.Ab
open Go Go.Proofs
variable {w0 : World} {h : aA}
attribute [local irreducible] ACall bD dI bQ dH rvC lp rg dr ex un rv
theorem Rows.setN {K H : aA} {ov : AV} {so i : Nat} {c : List AV} {g : List (List Int)} {r : Option Blk} (a : Rows K H ov so c g) (hi : K[i]? = some none) : Rows K (H.set i r) ov so c g := by
 have hlt := aF hi
 refine ⟨⟨by rw [List.length_set]; exact a.sub.1,fun j b e => ?_⟩,a.val,fun e => ⟨(a.lst e).1,?_⟩,a.len,fun j x hx => ?_,a.dis⟩
 · rw [qB (fun q => by subst q; rw [hi] at e; cases e)]; exact a.sub.2 j b e
 · rw [qB (by have := (a.lst e).1; omega)]; exact (a.lst e).2
 · obtain ⟨y,h1,h2⟩ := a.own j x hx
   refine ⟨y,h1,?_⟩
   rcases h2 with h2 | ⟨b,f,e1,e2,e3⟩
   · exact .inl h2
   · exact .inr ⟨b,f,e1,e2,by rw [qB (by omega)]; exact e3⟩
theorem Rows.mask {K G H : aA} {ov : AV} {so : Nat} {c : List AV} {g : List (List Int)} (a : Rows G H ov so c g) (s : aH K G) (hl : K.length = G.length) : Rows K H ov so c g :=
 ⟨s.trans a.sub,a.val,fun e => ⟨by rw [hl]; exact (a.lst e).1,(a.lst e).2⟩,a.len,fun j x hx => by
  obtain ⟨y,h1,h2⟩ := a.own j x hx
  exact ⟨y,h1,h2.less (by omega)⟩,a.dis⟩
structure sI (H : aA) (l : List aG) (sw : List aJ) (N : Nat) (U : List aM) (G : aA) : Prop where
 s : aH H G
 a : G[H.length]? = some (some (.row [.int .i64 (cL aM.ml l sw N - bF aM.ml U),.int .i64 (cL aM.mh l sw N - bF aM.mh U)]))
 b : G[H.length + 1]? = some (some (.row [.int .i64 (cL aM.cl l sw N - bF aM.cl U),.int .i64 (cL aM.ch l sw N - bF aM.ch U)]))
theorem sI.to {H G G' : aA} {l : List aG} {sw : List aJ} {N : Nat} {U : List aM} (a : sI H l sw N U G) (s : aH G G') : sI H l sw N U G' := ⟨a.s.trans s,s.2 _ _ a.a,s.2 _ _ a.b⟩
theorem sI.step {H G : aA} {l : List aG} {sw : List aJ} {N : Nat} {U : List aM} (a : sI H l sw N U G) (u : aM) : sI H l sw N (U ++ [u]) ((G.set H.length (some (.row [.int .i64 (cL aM.ml l sw N - bF aM.ml U - u.ml),.int .i64 (cL aM.mh l sw N - bF aM.mh U - u.mh)]))).set (H.length + 1) (some (.row [.int .i64 (cL aM.cl l sw N - bF aM.cl U - u.cl),.int .i64 (cL aM.ch l sw N - bF aM.ch U - u.ch)]))) := by
 have e : ∀ F : aM → Int,cL F l sw N - bF F (U ++ [u]) = cL F l sw N - bF F U - F u := fun F => by rw [qJ,pZ]; omega
 have l1 := aQ a.a
 have l2 := aQ a.b
 refine ⟨(a.s.setR (Nat.le_refl _)).setR (by omega),?_,?_⟩
 · rw [qB (by omega),qF l1,e,e]
 · rw [qF (by simpa using l2),e,e]
set_option maxRecDepth 20000 in
theorem vP {v sv : AV} {l : List aG} {sw : List aJ} (hv : eE w0 h v l) (hw : fW w0 h sv sw) (hln : l.length ≤ 9223372036854775807) : bQ Try.prog w0 3 [v,sv] h (.bool true) h := by
 refine eU trivial (cB aW mf3_ok mf3_b mf3_g (qE rfl) fun hb ha => bT ?_)
 have hlen := hv.len
 have hlw := hw.len
 simp only [go_sem,mf3]
 rw [List.append_nil]
 refine aV (aCf hv hw hln).v ?_
 cases tb : fI l sw with
 | false =>
  simp only [go_sem]
  refine aV hC.v ?_
  simp only [go_sem]
  exact aH.refl
 | true =>
 obtain ⟨hs,hn⟩ := wN tb
 have hll := hs.1
 by_cases c1 : (l.length : Int) > 4
 · simp only [go_sem,hlen,hlw,c1]
   refine aV hC.v ?_
   simp only [go_sem]
   exact aH.refl
 by_cases c2 : (sw.length : Int) > 200
 · simp only [go_sem,hlen,hlw,c1,c2]
   refine aV hC.v ?_
   simp only [go_sem]
   exact aH.refl
 simp only [go_sem,hlen,hlw,c1,c2]
 refine aV (aD2 hv hs).v ?_
 cases d1 : fT l with
 | false =>
  simp only [go_sem]
  refine aV hC.v ?_
  simp only [go_sem]
  exact aH.refl
 | true =>
 simp only [go_sem]
 refine aV (aD3 hv hw hs hn).v ?_
 cases d2 : cG l sw with
 | false =>
  simp only [go_sem]
  refine aV hC.v ?_
  simp only [go_sem]
  exact aH.refl
 | true =>
 have k : TOK l := ⟨by omega,d1⟩
 have eq := aDv k d2
 simp only [go_sem]
 refine cH (ACall.vc (first := []) (args := [_,_]) (ACall.ofE (aHF hv hw hs hn))) ?_
 rintro y H ⟨s1,hy⟩
 rcases hy with ⟨c,rfl⟩ | ⟨c,d,rfl⟩ | ⟨c,d,hy⟩
 · exact absurd c (by omega)
 · rw [d1,d2] at d; cases d
 rcases hy with ⟨tn,rfl⟩ | ⟨ts,tv,tn,rfl,tsl⟩
 · simp only [go_sem]
   refine aV hC.v ?_
   simp only [go_sem]
   exact s1
 rw [eq,uL] at tn
 obtain ⟨g0,hg0⟩ : ∃ g0,cS l sw (aO l) = some g0 := by
  cases q : cS l sw (aO l) with
  | none => rw [q] at tn; cases tn
  | some g => exact ⟨g,rfl⟩
 rw [hg0] at tn
 obtain rfl : ts = (cP l sw 1001).map (eX l sw) := by cases tn; rfl
 obtain ⟨la,q1,ix1,rw1,_⟩ := tsl.use
 obtain ⟨N,hN⟩ : ∃ N,N = (cP l sw 1001).length := ⟨_,rfl⟩
 have hN1 : N ≤ 1001 := hN ▸ aCA
 rw [List.length_map,List.length_map,← hN] at la ix1
 obtain ⟨m1,m2,m3,m4,m5⟩ := mes5
 simp only [go_sem]
 have S0 : ∀ F,cL F l sw 0 = 0 := fun F => by simp [cL]
 have Sb : ∀ {F},Mes F → ∀ j,j ≤ N → 0 ≤ cL F l sw j ∧ cL F l sw j ≤ 300000000 := fun m j hj => by
  have := aA3 m (sw := sw) k (j := j) (by omega); omega
 have E0 : ∀ a b x : Option Blk,((H ++ [a,b]) : aA).set H.length x = H ++ [x,b] := fun a b x => by rw [List.set_append_right _ _ (Nat.le_refl _),Nat.sub_self]; rfl
 have E1 : ∀ a b x : Option Blk,((H ++ [a,b]) : aA).set (H.length + 1) x = H ++ [a,x] := fun a b x => by rw [List.set_append_right _ _ (by omega),show H.length + 1 - H.length = 1 by omega]; rfl
 have B0 : ∀ L : aA,((H ++ L) : aA)[H.length]? = L[0]? := fun L => by rw [qI (Nat.le_refl _),Nat.sub_self]
 have B1 : ∀ L : aA,((H ++ L) : aA)[H.length + 1]? = L[1]? := fun L => by rw [qI (by omega),show H.length + 1 - H.length = 1 by omega]
 refine dM (S := Unit) (fun j _ => [(0,v),(1,sv),(5,tv),(7,.ptr (.own H.length 0)),(8,.ptr (.own (H.length + 1) 0)),(9,.int .i64 (cL (fun _ => 1) l sw j)),(10,.int .i64 j)]) (fun j _ => H ++ [some (.row [.int .i64 (cL aM.ml l sw j),.int .i64 (cL aM.mh l sw j)]),some (.row [.int .i64 (cL aM.cl l sw j),.int .i64 (cL aM.ch l sw j)])]) (fun _ _ => True) N () trivial (by simp only [S0]; rfl) (by simp only [S0]) ?_ ?_
 · rintro j _ hj _ ih
   refine aN aW aFh [0,1,5,7,8,9,10] L3_0.eq_1 ?_
   have hjk : j < (cP l sw 1001).length := by omega
   have e1 : (j : Int) < N := by omega
   have ih2 := ih () trivial
   simp only [sO hjk] at ih2
   obtain ⟨n,hn'⟩ : ∃ n,n = (cP l sw 1001)[j] := ⟨_,rfl⟩
   rw [← hn'] at ih2
   have i1 := ix1 j hj
   obtain ⟨x1,x2,x3,x4,x5,x6⟩ := pW (l := l) (sw := sw) (n := n)
   have hr : (((cP l sw 1001).map (eX l sw)).map aD.c)[j]? = some (eX l sw n).c := by rw [List.getElem?_map,List.getElem?_map,qA hjk,hn']; rfl
   have r0 := rw1 j _ hr
   rw [aD.c,x1,x2,x3,x4,x5,x6] at r0
   have g0 : ∀ L,rd w0 (H ++ L) ((q1.add (j * 6)).add 0) = some (.int .i64 n) := fun L => hU (eY r0 (o := 0) rfl)
   have g1 : ∀ L,rd w0 (H ++ L) ((q1.add (j * 6)).add 1) = some (.int .i64 (bF aM.ml (cX l sw n (aO l)))) := fun L => hU (eY r0 (o := 1) rfl)
   have g2 : ∀ L,rd w0 (H ++ L) ((q1.add (j * 6)).add 2) = some (.int .i64 (bF aM.mh (cX l sw n (aO l)))) := fun L => hU (eY r0 (o := 2) rfl)
   have g3 : ∀ L,rd w0 (H ++ L) ((q1.add (j * 6)).add 3) = some (.int .i64 (bF aM.cl (cX l sw n (aO l)))) := fun L => hU (eY r0 (o := 3) rfl)
   have g4 : ∀ L,rd w0 (H ++ L) ((q1.add (j * 6)).add 4) = some (.int .i64 (bF aM.ch (cX l sw n (aO l)))) := fun L => hU (eY r0 (o := 4) rfl)
   have g5 : ∀ L,rd w0 (H ++ L) ((q1.add (j * 6)).add 5) = some (.int .i64 (bF (fun _ => 1) (cX l sw n (aO l)))) := fun L => hU (eY r0 (o := 5) rfl)
   have G1 : ∀ L,rd w0 (H ++ L) (((q1.add (j * 6)).add 1).add 0) = some (.int .i64 (bF aM.ml (cX l sw n (aO l)))) := fun L => by rw [Pl.add_add]; exact g1 L
   have G2 : ∀ L,rd w0 (H ++ L) (((q1.add (j * 6)).add 1).add 1) = some (.int .i64 (bF aM.mh (cX l sw n (aO l)))) := fun L => by rw [Pl.add_add]; exact g2 L
   have G3 : ∀ L,rd w0 (H ++ L) (((q1.add (j * 6)).add 3).add 0) = some (.int .i64 (bF aM.cl (cX l sw n (aO l)))) := fun L => by rw [Pl.add_add]; exact g3 L
   have G4 : ∀ L,rd w0 (H ++ L) (((q1.add (j * 6)).add 3).add 1) = some (.int .i64 (bF aM.ch (cX l sw n (aO l)))) := fun L => by rw [Pl.add_add]; exact g4 L
   have n0 : ¬ n < 0 := by have := xY n (hn' ▸ qG hjk); omega
   have us := qX k (sw := sw) (n := n) (Nat.le_refl (aO l))
   have ul : (cX l sw n (aO l)).length ≤ 120 := by
    have h2 := @mT l sw n (aO l)
    have h3 : aO l * l.length ≤ 30 * 4 := Nat.mul_le_mul k.d k.n
    omega
   have ub : ∀ {F},Mes F → 0 ≤ bF F (cX l sw n (aO l)) ∧ bF F (cX l sw n (aO l)) ≤ 172800 := fun m => by have := m.bd us; omega
   have u1 := ub m1; have u2 := ub m2; have u3 := ub m3; have u4 := ub m4; have u5 := ub m5
   have t1 := Sb m1 j (by omega); have t2 := Sb m2 j (by omega); have t3 := Sb m3 j (by omega); have t4 := Sb m4 j (by omega); have t5 := Sb m5 j (by omega)
   have n5 : ¬ bF (fun _ => 1) (cX l sw n (aO l)) < 0 := by omega
   have z1 := dV (n := cL aM.ml l sw j + bF aM.ml (cX l sw n (aO l))) (by unfold I64; omega)
   have z2 := dV (n := cL aM.mh l sw j + bF aM.mh (cX l sw n (aO l))) (by unfold I64; omega)
   have z3 := dV (n := cL aM.cl l sw j + bF aM.cl (cX l sw n (aO l))) (by unfold I64; omega)
   have z4 := dV (n := cL aM.ch l sw j + bF aM.ch (cX l sw n (aO l))) (by unfold I64; omega)
   have z5 := dV (n := cL (fun _ => 1) l sw j + bF (fun _ => 1) (cX l sw n (aO l))) (by unfold I64; omega)
   by_cases hj0 : j = 0
   · have e0 : ¬ (0 : Int) < j := by omega
     simp only [go_sem,la,e1,e0,i1,g0,G1,G2,G3,G4,g5,n0,n5,B0,B1,E0,E1,z1,z2,z3,z4,z5]
     exact ⟨(by unfold I64; omega),(by unfold I64; omega),(by unfold I64; omega),(by unfold I64; omega),(by unfold I64; omega),(by unfold I64; omega),ih2⟩
   · have e0 : (0 : Int) < j := by omega
     have em0 : wi ((j : Int) - 1) = ((j - 1 : Nat) : Int) := by rw [dV (by unfold I64; omega)]; omega
     have em : (if 0 ≤ wi ((j : Int) - 1) then some (wi ((j : Int) - 1)).toNat else none) = some (j - 1) := by rw [em0,if_pos (by omega)]; rfl
     have i2 := ix1 (j - 1) (by omega)
     have hjp : j - 1 < (cP l sw 1001).length := by omega
     have rp := rw1 (j - 1) _ (by rw [List.getElem?_map,List.getElem?_map,qA hjp]; rfl)
     have gp : ∀ L,rd w0 (H ++ L) ((q1.add ((j - 1) * 6)).add 0) = some (.int .i64 (cP l sw 1001)[j - 1]) := fun L => by
      have := hU (l := L) (eY rp (o := 0) rfl)
      rw [(pW (l := l) (sw := sw) (n := (cP l sw 1001)[j - 1])).1] at this
      exact this
     have np : ¬ n ≤ (cP l sw 1001)[j - 1] := by
      have := List.pairwise_iff_getElem.1 (xX (l := l) (sw := sw) (k := 1001)) (j - 1) j hjp hjk (by omega)
      rw [← hn'] at this
      omega
     simp only [go_sem,la,e1,e0,em,i1,i2,gp,np,g0,G1,G2,G3,G4,g5,n0,n5,B0,B1,E0,E1,z1,z2,z3,z4,z5]
     exact ⟨(by unfold I64; omega),(by unfold I64; omega),(by unfold I64; omega),(by unfold I64; omega),(by unfold I64; omega),(by unfold I64; omega),ih2⟩
 · rintro _ _
   refine aN aW aFh [0,1,5,7,8,9,10] L3_0.eq_1 ?_
   have e1 : ¬ (N : Int) < N := Int.lt_irrefl _
   simp only [go_sem,la,e1]
   have hok : ∀ s ∈ sw,vS l s := fun s hs => vS.of (iI d2 hs)
   obtain ⟨D,hD⟩ : ∃ D,D = aO l := ⟨_,rfl⟩
   have hD30 : D ≤ 30 := hD ▸ k.d
   have TB : ∀ {F},Mes F → 0 ≤ cL F l sw N ∧ cL F l sw N ≤ 300000000 := fun m => Sb m N (Nat.le_refl _)
   have T1 := TB m1; have T2 := TB m2; have T3 := TB m3; have T4 := TB m4; have T5 := TB m5
   refine dM (S := aA) (fun d _ => [(0,v),(1,sv),(7,.ptr (.own H.length 0)),(8,.ptr (.own (H.length + 1) 0)),(9,.int .i64 (cL (fun _ => 1) l sw N - bF (fun _ => 1) (gS l sw d))),(11,.int .i64 d)]) (fun _ s => s) (fun d s => sI H l sw N (gS l sw d) s) D _ ⟨aH.refl.app,?_,?_⟩ ?_ rfl ?_ ?_
   · simp [gS,bF]
   · simp [gS,bF]
   · simp [gS,bF]
   · rintro d G hd I ih
     simp only at I ih ⊢
     refine aN aW aFe [0,1,7,8,9,11] L3_3.eq_1 ?_
     have hl0 : l ≠ [] := fun e => by rw [e] at hD; simp [aO,qZ] at hD; omega
     have lp0 : 0 < l.length := List.length_pos_iff.2 hl0
     have e2 : (l.length : Int) > 0 := by omega
     have shG := s1.trans I.s
     obtain ⟨p0,dv0,sv0,i0,_,r0a,_,hd0,_⟩ := (hv.sub shG).at_ (j := 0) lp0
     have hdays0 : aO l = l[0].days.length := by rw [aO,aR]
     have ld0 := hd0.len
     rw [← hdays0,← hD] at ld0
     have r0a' := fU r0a
     have e3 : (d : Int) < D := by omega
     simp only [go_sem,hlen,e2,i0,r0a',ld0,e3]
     refine cH (ACall.vc (first := []) (args := [_,_,_]) (aD4 d (hv.sub shG) (hw.sub shG) hs hn hok)) ?_
     rw [qN k d2 hg0 d]
     rintro z G1 ⟨ov,so,c,rfl,R⟩
     obtain ⟨sh,rows⟩ := yO k d2 hg0 d
     obtain ⟨g,eg⟩ : ∃ g,g = gD l sw d := ⟨_,rfl⟩
     rw [← eg] at R sh rows
     have gl := sh.len
     have ln4 := k.n
     have I1 : sI H l sw N (gS l sw d) G1 := I.to R.sub
     obtain ⟨K,eK⟩ : ∃ K,K = (G.set H.length none).set (H.length + 1) none := ⟨_,rfl⟩
     have sK : aH K G := by rw [eK]; exact aH.msk.trans aH.msk
     have lK : K.length = G.length := by rw [eK]; simp
     have l7 := aQ I.a
     have l8 := aQ I.b
     have K7 : K[H.length]? = some none := by rw [eK,qB (by omega),qF l7]
     have K8 : K[H.length + 1]? = some none := by rw [eK,qF (by simpa using l8)]
     have RK := R.mask sK lK
     have U0 : ∀ {U : List aM},U.length ≤ 700 → (∀ u ∈ U,cQ u = true) → ∀ {F},Mes F → 0 ≤ bF F U ∧ bF F U ≤ 1100000 := fun h1 h2 F m => by have := m.bd h2; omega
     have lu := (iY (so := so) (n := g.length)).1
     rw [← R.val] at lu
     have five : ∀ r ∈ g,r.length ≤ 5 := sh.five k
     simp only [go_sem]
     refine dM (S := aA) (fun t _ => [(0,v),(1,sv),(7,.ptr (.own H.length 0)),(8,.ptr (.own (H.length + 1) 0)),(9,.int .i64 (cL (fun _ => 1) l sw N - bF (fun _ => 1) (gS l sw d ++ iC l (g.take t) d 0))),(11,.int .i64 d),(12,ov),(14,.int .i64 t)]) (fun _ s => s) (fun t s => sI H l sw N (gS l sw d ++ iC l (g.take t) d 0) s ∧ Rows K s ov so c g) g.length G1 ⟨?_,RK⟩ ?_ rfl ?_ ?_
     · simpa [iC] using I1
     · simp [iC]
     · rintro t G2 ht ⟨I2,R2⟩ ih2
       simp only at I2 R2 ih2 ⊢
       refine aN aW aFf [0,1,7,8,9,11,12,14] L3_2.eq_1 ?_
       have e4 : (t : Int) < g.length := by omega
       have htl : t < l.length := by omega
       obtain ⟨r,hr⟩ : ∃ r,r = g[t] := ⟨_,rfl⟩
       have hgr : g[t]? = some r := by rw [hr]; exact qA ht
       have hrm : r ∈ g := hr ▸ qG ht
       have rl := five r hrm
       have U1 : ∀ u ∈ gS l sw d ++ iC l (g.take t) d 0,cQ u = true := fun u hu => by
        rcases List.mem_append.1 hu with hu | hu
        · exact aEU k (by omega) u hu
        · exact yP k (by rw [List.length_take]; omega) (by omega) u hu
       have U2 : (gS l sw d ++ iC l (g.take t) d 0).length ≤ 620 := by
        have h1 := zD k (sw := sw) (d := d)
        have h2 := rL (l := l) (d := d) (i := 0) (g := g.take t) fun x hx => five x (List.mem_of_mem_take hx)
        rw [List.length_take] at h2
        rw [List.length_append]; omega
       have tk : iC l (g.take (t + 1)) d 0 = iC l (g.take t) d 0 ++ hP l d t r := by
        rw [List.take_succ_eq_append_getElem ht,aCR,List.length_take,Nat.min_eq_left (by omega),hr]
       obtain ⟨W,hW⟩ : ∃ W,W = gS l sw d ++ iC l (g.take t) d 0 := ⟨_,rfl⟩
       rw [← hW] at U1 U2 I2
       simp only [go_sem,lu,e4]
       refine dM (S := aA) (fun j _ => [(0,v),(1,sv),(7,.ptr (.own H.length 0)),(8,.ptr (.own (H.length + 1) 0)),(9,.int .i64 (cL (fun _ => 1) l sw N - bF (fun _ => 1) (W ++ hP l d t (r.take j)))),(11,.int .i64 d),(12,ov),(14,.int .i64 t),(15,.int .i64 j)]) (fun _ s => s) (fun j s => sI H l sw N (W ++ hP l d t (r.take j)) s ∧ Rows K s ov so c g) r.length G2 ⟨?_,R2⟩ ?_ rfl ?_ ?_
       · simpa [hP] using I2
       · simp [hP,hW]
       · rintro j G3 hj ⟨I3,R3⟩ ih3
         simp only at I3 R3 ih3 ⊢
         refine aN aW aFg [0,1,7,8,9,11,12,14,15] L3_1.eq_1 ?_
         have e5 : (j : Int) < r.length := by omega
         have hgg : g ≠ [] := fun e => by rw [e] at ht; simp at ht
         obtain ⟨y,hy,ys,_,_,_⟩ := R3.row (w0 := w0) hgr
         have u2 := (iY (so := so) (n := g.length)).2 t ht
         rw [← R3.val] at u2
         have sx := (R3.lst hgg).2
         have ly := (SlI.use ys.s).1
         obtain ⟨py,iy,ry,ry'⟩ := ys.s.at_ hj
         obtain ⟨n,hn'⟩ : ∃ n,n = r[j] := ⟨_,rfl⟩
         rw [← hn'] at ry ry'
         have tj : hP l d t (r.take (j + 1)) = hP l d t (r.take j) ++ if 0 ≤ n then [dA l t d] else [] := by
          rw [List.take_succ_eq_append_getElem hj,aCn,hn']
         rw [tj,← List.append_assoc] at ih3
         obtain ⟨V,hV⟩ : ∃ V,V = W ++ hP l d t (r.take j) := ⟨_,rfl⟩
         have V1 : ∀ u ∈ V,cQ u = true := fun u hu => by
          rw [hV] at hu
          rcases List.mem_append.1 hu with hu | hu
          · exact U1 u hu
          · exact wZ k (by omega) htl u hu
         have V2 : V.length ≤ 700 := by
          have := @xB l d t (r.take j)
          rw [List.length_take] at this
          rw [hV,List.length_append]; omega
         rw [← hV] at I3 ih3 ⊢
         by_cases n0 : 0 ≤ n
         · have n0' : n ≥ 0 := n0
           rw [if_pos n0] at ih3
           obtain ⟨p,dv,tv',i1,_,ra,_,hdv,_⟩ := hv.at_ htl
           have hdl : d < l[t].days.length := by rw [(k.day (qG htl)).1]; omega
           obtain ⟨p2,i2,_,r2⟩ := hdv.at_ hdl
           have sh3 := s1.trans I3.s
           have ra' := sh3.rd (fU ra)
           have r2' := sh3.rdn r2
           have hu : dA l t d = l[t].days[d] := by rw [dA,aR htl,aR hdl]
           rw [← hu] at r2'
           have hub := k.use htl (show d < aO l by omega)
           obtain ⟨u,eu⟩ : ∃ u,u = dA l t d := ⟨_,rfl⟩
           rw [← eu] at r2' hub ih3
           have bU := uK hub
           have w1 := U0 V2 V1 m1; have w2 := U0 V2 V1 m2; have w3 := U0 V2 V1 m3; have w4 := U0 V2 V1 m4; have w5 := U0 V2 V1 m5
           simp only [go_sem,sx,u2,hy,ly,e5,iy,ry',n0',i1,ra',i2,r2']
           obtain ⟨G4,eG4⟩ : ∃ G4,G4 = G3 ++ [some (Blk.row [AV.int .i64 u.ml,.int .i64 u.mh,.int .i64 u.cl,.int .i64 u.ch,.int .i64 u.sl,.int .i64 u.sh,.bool u.w])] := ⟨_,rfl⟩
           have s34 : aH G3 G4 := by rw [eG4]; exact aH.refl.app
           have I4 := I3.to s34
           have R4 := R3.to s34
           have l3 := aQ I3.b
           have b16 : G4[G3.length]? = some (some (.row [AV.int .i64 u.ml,.int .i64 u.mh,.int .i64 u.cl,.int .i64 u.ch,.int .i64 u.sl,.int .i64 u.sh,.bool u.w])) := by rw [eG4,qI (Nat.le_refl _),Nat.sub_self]; rfl
           have b7 := I4.a
           have b8 : ∀ X : Option Blk,(G4.set H.length X)[H.length + 1]? = _ := fun X => (qB (by omega)).trans I4.b
           have b16' : ∀ X : Option Blk,(G4.set H.length X)[G3.length]? = _ := fun X => (qB (by omega)).trans b16
           rw [← eG4]
           have z1 := dV (n := cL aM.ml l sw N - bF aM.ml V - u.ml) (by unfold I64; omega)
           have z2 := dV (n := cL aM.mh l sw N - bF aM.mh V - u.mh) (by unfold I64; omega)
           have z3 := dV (n := cL aM.cl l sw N - bF aM.cl V - u.cl) (by unfold I64; omega)
           have z4 := dV (n := cL aM.ch l sw N - bF aM.ch V - u.ch) (by unfold I64; omega)
           have z5 := dV (n := cL (fun _ => 1) l sw N - bF (fun _ => 1) V - 1) (by unfold I64; omega)
           simp only [go_sem,b7,b8,b16,b16',z1,z2,z3,z4,z5]
           have e9 : cL (fun _ => 1) l sw N - bF (fun _ => 1) (V ++ [u]) = cL (fun _ => 1) l sw N - bF (fun _ => 1) V - 1 := by rw [qJ,pZ]; omega
           have go := ih3 _ ⟨I4.step u,(R4.setN K7).setN K8⟩
           rw [e9] at go
           exact ⟨(by unfold I64; omega),go⟩
         · have n0' : ¬ n ≥ 0 := n0
           rw [if_neg n0,List.append_nil] at ih3
           simp only [go_sem,sx,u2,hy,ly,e5,iy,ry',n0']
           exact ⟨(by unfold I64; omega),ih3 G3 ⟨I3,R3⟩⟩
       · rintro G3 ⟨I3,R3⟩
         refine aN aW aFg [0,1,7,8,9,11,12,14,15] L3_1.eq_1 ?_
         have e5 : ¬ (r.length : Int) < r.length := Int.lt_irrefl _
         have hgg : g ≠ [] := fun e => by rw [e] at ht; simp at ht
         obtain ⟨y,hy,ys,_,_,_⟩ := R3.row (w0 := w0) hgr
         have u2 := (iY (so := so) (n := g.length)).2 t ht
         rw [← R3.val] at u2
         have sx := (R3.lst hgg).2
         have ly := (SlI.use ys.s).1
         rw [List.take_length] at I3
         rw [List.take_length]
         have go := ih2 G3
         rw [tk,← List.append_assoc,← hW] at go
         simp only [go_sem,sx,u2,hy,ly,e5]
         exact ⟨(by unfold I64; omega),go ⟨I3,R3⟩⟩
     · rintro G2 ⟨I2,R2⟩
       refine aN aW aFf [0,1,7,8,9,11,12,14] L3_2.eq_1 ?_
       have e4 : ¬ (g.length : Int) < g.length := Int.lt_irrefl _
       rw [List.take_length] at I2
       rw [List.take_length]
       have go := ih G2
       rw [tZ,← eg] at go
       simp only [go_sem,lu,e4]
       exact ⟨(by unfold I64; omega),go I2⟩
   · rintro G I
     refine aN aW aFe [0,1,7,8,9,11] L3_3.eq_1 ?_
     have tot : ∀ F : aM → Int,cL F l sw N - bF F (gS l sw D) = 0 := fun F => by rw [hN,hD,aDw k d2 hg0]; omega
     obtain ⟨sG,b7,b8⟩ := I
     rw [tot,tot] at b7 b8
     rw [tot]
     have ez : eqaV [true,true] false (.agg [.int .i64 0,.int .i64 0]) (.agg [.int .i64 0,.int .i64 0]) = some (.bool true) := by
      have hc : ∀ x : Int,ceq true (.int .i64 x) (.int .i64 x) = some true := fun x => by simp [ceq]
      simp [eqaV,cF,hc]
     have shG := s1.trans sG
     by_cases hl0 : l = []
     · have e2 : ¬ (l.length : Int) > 0 := by rw [hl0]; simp
       simp only [go_sem,hlen,e2,b7,b8,ez]
       refine aV hC.v ?_
       simp only [go_sem]
       exact shG
     · have lp0 : 0 < l.length := List.length_pos_iff.2 hl0
       have e2 : (l.length : Int) > 0 := by omega
       obtain ⟨p0,dv0,sv0,i0,_,r0a,_,hd0,_⟩ := (hv.sub shG).at_ (j := 0) lp0
       have hdays0 : aO l = l[0].days.length := by rw [aO,aR]
       have ld0 := hd0.len
       rw [← hdays0,← hD] at ld0
       have r0a' := fU r0a
       have e3 : ¬ (D : Int) < D := Int.lt_irrefl _
       simp only [go_sem,hlen,e2,i0,r0a',ld0,e3,b7,b8,ez]
       refine aV hC.v ?_
       simp only [go_sem]
       exact shG
end Go.Proofs.Ab
namespace Go.Proofs.Ab
open Go Go.Proofs
variable {w : World} {h : aA} {cs : List Value}
theorem slo_of {v : Value} (g : nH w (.int .nil) v) : ∃ l : List Int,SlO w h (inj v) l := by
 obtain ⟨l,hs,_⟩ := aHl (h := h) g
 refine ⟨l,hs,fun e => ?_⟩
 subst e
 have hl := (SlI.use hs).1
 rcases g with rfl | ⟨a,len,cap,rfl,h1,h2,h3⟩
 · rfl
 · simp only [inj,if_pos h1,sC,Option.some.injEq,AV.int.injEq,true_and] at hl
   obtain rfl : len = 0 := by simpa using hl
   simp [inj,fK,jI,rdn]
theorem ns_of {α : Type} {es : Nat} {v : AV} {l : List α} {f : α → List AV} (s : Sl w h es v (l.map f)) : NS w h es (fun u c => c = f u) v l :=
 ⟨l.map f,by simp,s,fun j x c hx hc => by rw [List.getElem?_map,hx] at hc; cases hc; rfl⟩
def useRw : Rw := .int (.int (.int (.int (.int (.int (.bool .nil))))))
theorem aFG {v : Value} (g : nH w useRw v) : ∃ l : List aM,iT w h (inj v) l := by
 obtain ⟨l,s,_⟩ := qO (h := h) aM.c rfl g fun _ g => by
  obtain ⟨a,_,rfl,_,b,_,rfl,_,c,_,rfl,_,d,_,rfl,_,e,_,rfl,_,f,_,rfl,_,k,_,rfl,rfl⟩ := g
  exact ⟨⟨a,b,c,d,e,f,k⟩,rfl⟩
 exact ⟨l,ns_of s⟩
def aDy : Rw := .sl useRw (.sl (.int .nil) .nil)
theorem aDx {v : Value} (g : Gd w (.sl aDy .nil) [v]) : ∃ l : List aG,eE w h (inj v) l ∧ l.length ≤ 9223372036854775807 := by
 obtain ⟨_,_,e,g,rfl⟩ := g
 cases e
 obtain ⟨rows,h1,h2,h3⟩ := aA9 (h := h) g
 obtain ⟨l,rfl,hl⟩ := qR (f := fun x : (AV × AV) × aG => [x.1.1,x.1.2]) (p := fun x => iT w h x.1.1 x.2.days ∧ SlO w h x.1.2 x.2.ser) (rows := rows) fun c hc => by
  obtain ⟨cs,rfl,u,_,rfl,g2,u2,_,rfl,g3,rfl⟩ := h3 c hc
  obtain ⟨q,hq⟩ := aFG (h := h) g2
  obtain ⟨q2,hq2⟩ := slo_of (h := h) g3
  exact ⟨((inj u,inj u2),⟨q,q2⟩),rfl,hq,hq2⟩
 refine ⟨l.map Prod.snd,⟨_,by simp,h1,fun j x c hx hc => ?_⟩,by simpa using h2⟩
 simp only [List.getElem?_map,qD] at hx hc
 obtain ⟨a,a1,rfl⟩ := hx
 obtain ⟨b,b1,rfl⟩ := hc
 rw [a1] at b1; cases b1
 have := hl _ (List.mem_of_getElem? a1)
 exact ⟨a.1.1,a.1.2,rfl,this.1,this.2⟩
def aDA : Rw := .int (.int (.int (.int .nil)))
theorem aDz {v : Value} (g : Gd w (.sl aDA .nil) [v]) : ∃ l : List aJ,fW w h (inj v) l ∧ l.length ≤ 9223372036854775807 := by
 obtain ⟨_,_,e,g,rfl⟩ := g
 cases e
 obtain ⟨l,s,hl⟩ := qO (h := h) aJ.c rfl g fun _ g => by
  obtain ⟨a,_,rfl,_,b,_,rfl,_,c,_,rfl,_,d,_,rfl,_,rfl⟩ := g
  exact ⟨⟨a,b,c,d⟩,rfl⟩
 exact ⟨l,ns_of s,hl⟩
end Go.Proofs.Ab

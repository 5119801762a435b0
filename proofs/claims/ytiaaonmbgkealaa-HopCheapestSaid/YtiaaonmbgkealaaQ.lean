/- The own layer under the proofs of this seat, part Q: what calls of the program come to on an abstract heap. No condition. -/
import Derived.Test.YtiaaonmbgkealaaP
set_option linter.unusedSimpArgs false
set_option linter.unusedVariables false
namespace Go.Proofs.Ab
open Go Go.Proofs
section
variable {d : aO}
def SIn (m : Nat) (l : List Int) : Prop := l.Pairwise (· < ·) ∧ ∀ n ∈ l,0 ≤ n ∧ n < m
theorem SIn.pk {m : Nat} {l : List Int} (a : SIn m l) : (List.range l.length).all (pkB m l) = true := by
 rw [cK]
 intro k hk
 have h1 := a.2 _ (List.getElem_mem hk)
 simp only [pkB,aG hk,inB,Bool.and_eq_true,Bool.or_eq_true,decide_eq_true_eq]
 refine ⟨by omega,?_⟩
 rcases k with _ | k
 · exact .inl rfl
 · right
   rw [Nat.add_sub_cancel,aG (by omega)]
   exact List.pairwise_iff_getElem.1 a.1 k (k + 1) (by omega) hk (by omega)
theorem xZ {s : aD} {at_ to : Int} : ∀ (k : Nat) (l : List Int) (seats : Int) (gone : Nat),k ≤ d.people.length → SIn (d.people.length - k) l → ∀ x ∈ kN d s at_ to k l seats gone,x.1.to = to ∧ SIn d.people.length x.1.people
 | 0,l,seats,gone,_,_,x,hx => by simp [kN] at hx
 | k + 1,l,seats,gone,hk,hl,x,hx => by
  have hl2 : SIn (d.people.length - k) l := ⟨hl.1,fun n hn => by have := hl.2 n hn; omega⟩
  have hl3 : SIn (d.people.length - k) (l ++ [((d.people.length - (k + 1) : Nat) : Int)]) := by
   refine ⟨?_,fun n hn => ?_⟩
   · rw [List.pairwise_append]
     refine ⟨hl.1,by simp,fun a ha b hb => ?_⟩
     simp only [List.mem_singleton] at hb
     subst hb
     have := hl.2 a ha; omega
   · rcases List.mem_append.1 hn with h | h
     · exact hl2.2 n h
     · simp only [List.mem_singleton] at h; omega
  have hl4 : SIn d.people.length (l ++ [((d.people.length - (k + 1) : Nat) : Int)]) := ⟨hl3.1,fun n hn => by have := hl3.2 n hn; omega⟩
  rw [kN] at hx
  rcases List.mem_append.1 hx with h | h
  · split at h
    · rcases List.mem_cons.1 h with h | h
      · subst h; exact ⟨rfl,hl4⟩
      · exact xZ k _ _ _ (by omega) hl3 x h
    · cases h
  · exact xZ k _ _ _ (by omega) hl2 x h
theorem vD {s : aD} {op : Int} {plane gone : Nat} : ∀ k,k ≤ d.places.length → ∀ x ∈ eJ d s op plane gone k,flB d x.1 = true
 | 0,_,x,hx => by simp [eJ] at hx
 | k + 1,hk,x,hx => by
  rw [eJ] at hx
  rcases List.mem_append.1 hx with h | h
  · split at h
    · have key : x.1.to = ((d.places.length - (k + 1) : Nat) : Int) ∧ SIn d.people.length x.1.people := by
       rw [uO] at h
       rcases List.mem_cons.1 h with h | h
       · subst h; exact ⟨rfl,by simp,fun n hn => by cases hn⟩
       · exact xZ _ _ _ _ (Nat.le_refl _) ⟨by simp,fun n hn => by cases hn⟩ x h
      simp only [flB,inB,key.2.pk,Bool.and_true,Bool.and_eq_true,Bool.or_eq_true,decide_eq_true_eq]
      omega
    · cases h
  · exact vD k (by omega) x h
theorem aCd {s : aD} {op : Int} {plane gone : Nat} (hp : 0 < d.places.length) : ∀ x ∈ fB d s op plane gone,flB d x.1 = true := fun x hx => by
 rw [fB] at hx
 rcases List.mem_cons.1 hx with h | h
 · subst h
   simp [flB,inB]; omega
 · exact vD _ (Nat.le_refl _) x h
theorem aAf {s : aD} {op : Int} (hp : 0 < d.places.length) : ∀ (k gone : Nat) (u : List aB),u.all (flB d) = true → ∀ y ∈ dP d s op k gone u,y.1.all (flB d) = true
 | 0,gone,u,hu,y,hy => by
  rw [dP] at hy
  split at hy
  · simp only [List.mem_singleton] at hy; subst hy; exact hu
  · cases hy
 | k + 1,gone,u,hu,y,hy => by
  rw [dP,List.mem_flatMap] at hy
  obtain ⟨x,hx,hy⟩ := hy
  refine aAf hp k x.2 (u ++ [x.1]) ?_ y hy
  rw [List.all_append,hu,Bool.true_and,List.all_cons,aCd hp x hx]; rfl
theorem aH7 {s : aD} {op : Int} {t : Nat} (dg : fD d) (a : StN d t s) {y : List aB × aD} (hy : y ∈ cN d s op) : dD d y.1 = true := by
 have h1 := aAf (by have := dg.p0; omega) _ _ _ (by simp) y hy
 have h2 := (jL dg a y hy).1
 rw [dD,h1,decide_eq_true h2]; rfl
def vR (d : aO) (P : List (List aB)) (V : Int) (w t : Nat) (s : aD) : Prop :=
 t ≤ aF d ∧ NC d s ∧ StN d t s ∧ ∃ ws,aV ws w = true ∧ P.drop t = fQ d (aF d - t) ws s w ∧ aW d (aF d - t) ws s ≤ V
theorem wD (dg : fD d) {P : List (List aB)} {V : Int} {w t : Nat} {s : aD} (hw : w < d.weathers.length) (I : vR d P V w t s) (ht : t < aF d) :
 ∃ h : t < P.length,dD d P[t] = true ∧ (cU d s (wAt d w t) P[t]).2.1 = 1 ∧ (cU d s (wAt d w t) P[t]).2.2 = -1 ∧ vR d P V w (t + 1) (cU d s (wAt d w t) P[t]).1 := by
 obtain ⟨_,hc,hs,ws,hb,hp,hv⟩ := I
 obtain ⟨k,ek⟩ : ∃ k,aF d - t = k + 1 := ⟨aF d - t - 1,by omega⟩
 rw [ek] at hp hv
 obtain ⟨g,x,h1,h2,h3,h4⟩ := aEn dg (k := k) (t := t) (by omega) hw hb hc
 rw [h1] at hp
 have hlt : t < P.length := by
  refine Classical.byContradiction fun hn => ?_
  rw [List.drop_eq_nil_of_le (by omega)] at hp; cases hp
 rw [List.drop_eq_getElem_cons hlt] at hp
 obtain ⟨hx,hr⟩ := List.cons.inj hp
 obtain ⟨q1,q2,q3,q4⟩ := jL dg hs x h3
 obtain ⟨f1,f2⟩ := aAW q3
 refine ⟨hlt,?_⟩
 rw [hx]
 refine ⟨aH7 dg hs h3,q3,f1,by omega,f2,?_,g,h2,?_,?_⟩
 · exact qN q1 q2 hs
 · rw [show aF d - (t + 1) = k by omega,hr,q4]
 · rw [show aF d - (t + 1) = k by omega,← q4]; omega
theorem aAd {P : List (List aB)} {V : Int} {w t : Nat} {s : aD} (I : vR d P V w t s) (ht : t = aF d) : P.length ≤ t ∧ iY d s ≤ V := by
 obtain ⟨_,_,_,ws,_,hp,hv⟩ := I
 subst ht
 rw [Nat.sub_self] at hp hv
 rw [fQ] at hp
 exact ⟨List.drop_eq_nil_iff.1 hp,hv⟩
theorem aAc (dg : fD d) {P : List (List aB)} {V : Int} {w : Nat} (hw : w < d.weathers.length) : ∀ (k t : Nat) (s : aD),t + k = aF d → vR d P V w t s → P.length ≤ aF d ∧ ∀ i,t ≤ i → i < aF d → ∃ h : i < P.length,dD d P[i] = true
 | 0,t,s,hk,I => ⟨by have := (aAd I (by omega)).1; omega,fun i h1 h2 => by omega⟩
 | k + 1,t,s,hk,I => by
  obtain ⟨h1,h2,_,_,h5⟩ := wD dg hw I (by omega)
  obtain ⟨i1,i2⟩ := aAc dg hw k (t + 1) _ (by omega) h5
  refine ⟨i1,fun i a b => ?_⟩
  rcases Nat.lt_or_ge t i with h | h
  · exact i2 i (by omega) b
  · obtain rfl : i = t := by omega
    exact ⟨h1,h2⟩
theorem kD (dg : fD d) {w : Nat} (hw : w < d.weathers.length) : (cL d).1.length = d.weathers.length ∧ (cL d).1.getD w [] = fQ d (aF d) (2 ^ d.weathers.length - 1) (bC d) w := by
 obtain ⟨h1,h2⟩ := xO (d := d) (aF d) (2 ^ d.weathers.length - 1) (bC d) (List.replicate d.weathers.length []) (by simp)
 refine ⟨by rw [cL,h1]; simp,?_⟩
 have := h2 w (by simpa using hw)
 rw [cL,this,List.getD_eq_getElem?_getD,List.getElem?_replicate,if_pos hw]; rfl
theorem qV {n w : Nat} (hw : w < n) : aV (2 ^ n - 1) w = true := by
 rw [dF,Nat.testBit_two_pow_sub_one]; exact decide_eq_true hw
theorem xR (hB : dO d = true) {w : Nat} (hw : w < d.weathers.length) : vR d ((cL d).1.getD w []) (cL d).2 w 0 (bC d) := by
 have dg := jF hB
 refine ⟨Nat.zero_le _,(tS.1 hB).cr,qW dg,2 ^ d.weathers.length - 1,qV hw,?_,Int.le_refl _⟩
 rw [List.drop_zero,(kD dg hw).2]; rfl
theorem aKW (hB : dO d = true) : mB d (cL d).1 = true := by
 have dg := jF hB
 have hw0 := dg.w0
 have hl := (kD dg (w := 0) (by omega)).1
 rw [mB,decide_eq_true hl,Bool.and_true,List.all_eq_true]
 intro r hr
 obtain ⟨w,hw,rfl⟩ := List.getElem_of_mem hr
 have I := xR hB (w := w) (by omega)
 rw [aG hw] at I
 obtain ⟨h1,h2⟩ := aAc dg (by omega) (aF d) 0 _ (by omega) I
 have hs := dg.s0
 obtain ⟨h3,_⟩ := h2 (aF d - 1) (by omega) (by omega)
 have h4 : (cL d).1[w].length = aF d := by omega
 rw [decide_eq_true h4,Bool.true_and,List.all_eq_true]
 intro u hu
 obtain ⟨i,hi,rfl⟩ := List.getElem_of_mem hu
 exact (h2 i (by omega) (by omega)).2
theorem aCt (hB : dO d = true) {w w' t : Nat} (hw : w < d.weathers.length) (hw' : w' < d.weathers.length) (ht : t < aF d) (hl : lB d w' w t = true) : ((cL d).1.getD w' []).getD t [] = ((cL d).1.getD w []).getD t [] := by
 have dg := jF hB
 rw [(kD dg hw).2,(kD dg hw').2]
 refine uI (aF d) _ _ t w' w (Nat.le_refl _) hw' hw (qV hw') (qV hw) fun j hj => ?_
 rw [Nat.sub_self,Nat.zero_add]
 have h1 := of_decide_eq_true hl
 have h2 : ((gE d w').take (t + 1))[j]? = ((gE d w).take (t + 1))[j]? := by rw [h1]
 rw [List.getElem?_take_of_lt (by omega),List.getElem?_take_of_lt (by omega)] at h2
 simp only [wAt,gE] at h2 ⊢
 have h3 : ∀ l : List Int,l.getD j 0 = l[j]?.getD 0 := fun l => List.getD_eq_getElem?_getD
 rw [h3,h3,h2]
end
end Go.Proofs.Ab
namespace Go.Proofs.Ab
open Go Go.Proofs
variable {w0 : World} {h : Heap}
attribute [local irreducible] ACall aS aZ aN aQ rvC rdC lp rg dr ex un rv rd'
def jI (d : aO) : Bool := jR d && (dO d && (decide (d.places.length ≤ 4) && (decide (d.people.length ≤ 3) && (decide (aF d ≤ 3) && (decide (d.planes.length < 2) || decide (d.people.length < 3))))))
theorem aGF (d : aO) (v : cE) (hS : DayS w0 h d v) (hW : d.weathers.length ≤ 9223372036854775807) : aN Try.prog w0 29 [.agg (aY v)] h (.bool (jI d)) h := by
 refine aJ aK aJc mf29_b mf29_g (Nat.le_of_ble_eq_true rfl) (by simp [AV.bdd,AV.bdds]) fun hb ha => aU ?_
 obtain ⟨y1,y2,y3,y4,y5⟩ := hS.ones
 obtain ⟨l1,l2,l3,l4,l5⟩ := hS.lens
 obtain ⟨K,eK⟩ : ∃ K,K = h ++ [some (Blk.row [v.pl,v.ln,v.pn,v.pe,v.we])] := ⟨_,rfl⟩
 have sK : aC h K := eK ▸ aC.refl.app
 have k0 : K[h.length]? = some (some (.row [v.pl,v.ln,v.pn,v.pe,v.we])) := by rw [eK]; simp
 have k0L : ∀ L,(K ++ L)[h.length]? = some (some (.row [v.pl,v.ln,v.pn,v.pe,v.we])) := fun L => aA k0
 have c5 : ∀ a b : Nat,((a : Int) ≤ b) = (a ≤ b) := fun a b => by simp only [eq_iff_iff]; omega
 have c6 : ∀ a b : Nat,((a : Int) < b) = (a < b) := fun a b => by simp only [eq_iff_iff]; omega
 simp only [go_sem,mf29,aY,y1,y2,y3,y4,y5]
 rw [← eK]
 refine aI (aIj d v (hS.sub sK) hW).v ?_
 cases e1 : jR d with
 | false => simp only [go_sem]; exact ⟨by simp [jI,e1],_,eK⟩
 | true =>
 have hR := (hS.sub sK).R e1
 simp only [go_sem,k0,k0L,y1,y2,y3,y4,y5]
 refine aI (rday_c d v hR).v ?_
 cases e2 : dO d with
 | false => simp only [go_sem]; exact ⟨by simp [jI,e2],_,eK⟩
 | true =>
 have dg := jF e2
 simp only [go_sem,k0,k0L,l1,l2,l3,l4,y1,y2,y3,y4,y5]
 refine ⟨fun e3 => ⟨fun e4 => ?_,fun e4 => ⟨by rw [jI,decide_eq_false (p := d.people.length ≤ 3) (by omega)]; simp,_,eK⟩⟩,fun e3 => ⟨by rw [jI,decide_eq_false (p := d.places.length ≤ 4) (by omega)]; simp,_,eK⟩⟩
 refine aI (aAs d v hR.toDayS (List.length_pos_iff.1 dg.w0)).v ?_
 have hm : jI d = (decide (aF d ≤ 3) && (decide (d.planes.length < 2) || decide (d.people.length < 3))) := by
  rw [jI,e1,e2,decide_eq_true (p := d.people.length ≤ 3) (by omega),decide_eq_true (p := d.places.length ≤ 4) (by omega)]; rfl
 by_cases e5 : (aF d : Int) ≤ 3
 · by_cases e6 : (d.planes.length : Int) < 2
   · simp only [go_sem,k0,k0L,l3,l4,e5,e6]
     exact ⟨by rw [hm,decide_eq_true (p := aF d ≤ 3) (by omega),decide_eq_true (p := d.planes.length < 2) (by omega)]; rfl,_,eK⟩
   · by_cases e7 : (d.people.length : Int) < 3
     · simp only [go_sem,k0,k0L,l3,l4,e5,e6,e7]
       exact ⟨by rw [hm,decide_eq_true (p := aF d ≤ 3) (by omega),decide_eq_true (p := d.people.length < 3) (by omega)]; simp,_,eK⟩
     · simp only [go_sem,k0,k0L,l3,l4,e5,e6,e7]
       exact ⟨by rw [hm,decide_eq_false (p := d.planes.length < 2) (by omega),decide_eq_false (p := d.people.length < 3) (by omega)]; simp,_,eK⟩
 · simp only [go_sem,k0,k0L,l3,l4,e5]
   exact ⟨by rw [hm,decide_eq_false (p := aF d ≤ 3) (by omega)]; rfl,_,eK⟩
end Go.Proofs.Ab
namespace Go.Proofs.Ab
open Go Go.Proofs
section
variable {d : aO}
theorem uP {next : aD → Int} : ∀ (l : List (List aB × aD)) (b : Int),(∀ x ∈ l,0 ≤ next x.2) → (0 ≤ b → l.foldl (kZ next) b ≤ b) ∧ ∀ x ∈ l,l.foldl (kZ next) b ≤ next x.2
 | [],b,_ => ⟨fun _ => Int.le_refl _,fun x hx => by cases hx⟩
 | x :: l,b,h => by
  obtain ⟨h1,h2⟩ := uP l (kZ next b x) fun y hy => h y (by simp [hy])
  have hx := h x (by simp)
  have hm : 0 ≤ kZ next b x ∧ kZ next b x ≤ next x.2 ∧ (0 ≤ b → kZ next b x ≤ b) := by
   rw [kZ]
   split
   · rename_i e
     simp only [Bool.or_eq_true,decide_eq_true_eq] at e
     exact ⟨hx,Int.le_refl _,fun _ => by omega⟩
   · rename_i e
     simp only [Bool.or_eq_true,decide_eq_true_eq,not_or] at e
     exact ⟨by omega,by omega,fun _ => Int.le_refl _⟩
  have h3 := h1 hm.1
  rw [List.foldl_cons]
  refine ⟨fun hb => by have := hm.2.2 hb; omega,fun y hy => ?_⟩
  rcases List.mem_cons.1 hy with e | e
  · subst e; omega
  · exact h2 y e
theorem yX {f : Nat → Int} : ∀ (l : List Nat) (b : Int),l.foldl (fun m g => max m (f g)) b = b ∨ ∃ g ∈ l,f g = l.foldl (fun m g => max m (f g)) b
 | [],b => .inl rfl
 | x :: l,b => by
  rw [List.foldl_cons]
  rcases yX (f := f) l (max b (f x)) with h | ⟨g,hg,h⟩
  · rcases Int.le_total b (f x) with e | e
    · right; exact ⟨x,by simp,by rw [h]; omega⟩
    · left; rw [h]; omega
  · exact .inr ⟨g,by simp [hg],h⟩
theorem grp_eq {ws slot g g' w : Nat} (hg : g ∈ bT d ws slot) (hg' : g' ∈ bT d ws slot) (hb : aV g w = true) (hb' : aV g' w = true) : g = g' := by
 obtain ⟨v,_,_,hv⟩ := cP.1 g hg
 obtain ⟨v',_,_,hv'⟩ := cP.1 g' hg'
 refine Nat.eq_of_testBit_eq fun i => ?_
 rw [← dF,← dF,Bool.eq_iff_iff,hv,hv']
 have h1 := ((hv w).1 hb).2.2
 have h2 := ((hv' w).1 hb').2.2
 rw [← h1,← h2]
theorem aAL (dg : fD d) {k ws g t : Nat} {s : aD} (hk : t + (k + 1) = aF d) (hg : g ∈ bT d ws t) (hc : NC d s) :
 ∃ x : List aB × aD,(∀ w,aV g w = true → fQ d (k + 1) ws s w = x.1 :: fQ d k g x.2 w ∧ x ∈ cN d s (wAt d w t)) ∧ aW d k g x.2 = fR d (aW d k) t g s := by
 have ht : aF d - (k + 1) = t := by omega
 obtain ⟨v,hv1,hv2,hv⟩ := cP.1 g hg
 have hgv : aV g v = true := (hv v).2 ⟨hv1,hv2,rfl⟩
 have hf := (gW d.weathers.length g ⟨v,hv1,hgv⟩).1
 have hfv := ((hv _).1 hf).2.2
 have hnn : ∀ y ∈ cN d s (wAt d (dI g d.weathers.length) t),0 ≤ aW d k g y.2 := fun y _ => tT dg k g y.2
 have hmin := (uP (next := aW d k g) (cN d s (wAt d (dI g d.weathers.length) t)) (-1) hnn).2
 have hex : ∃ x ∈ cN d s (wAt d (dI g d.weathers.length) t),aW d k g x.2 = fR d (aW d k) t g s := by
  rw [fR]
  rcases rM (next := aW d k g) (cN d s (wAt d (dI g d.weathers.length) t)) (-1) with ⟨_,h⟩ | h | h
  · omega
  · exact h
  · exact absurd h (rD hc _ _ _ (by simp))
 obtain ⟨y,hy,ey⟩ := hex
 obtain ⟨x,ex'⟩ : ∃ x,(cN d s (wAt d (dI g d.weathers.length) t)).find? (lP d k t g s) = some x := by
  cases e : (cN d s (wAt d (dI g d.weathers.length) t)).find? (lP d k t g s) with
  | some x => exact ⟨x,rfl⟩
  | none => exact absurd (by rw [lP,ey,dE]; simp) (List.find?_eq_none.1 e y hy)
 have hh : lP d k t g s x = true := List.find?_some ex'
 simp only [lP,Bool.not_eq_true',decide_eq_false_iff_not,dE] at hh
 have hxm := List.mem_of_find?_eq_some ex'
 have hxmin := hmin x hxm
 refine ⟨x,fun w hw => ?_,by have e : fR d (aW d k) t g s ≤ aW d k g x.2 := hxmin; have e2 : ¬ fR d (aW d k) t g s < aW d k g x.2 := of_decide_eq_false hh; omega⟩
 have hwa := ((hv w).1 hw).2.2
 obtain ⟨g',eg⟩ : ∃ g',(bT d ws (aF d - (k + 1))).find? (fun g => aV g w) = some g' := by
  cases e : (bT d ws (aF d - (k + 1))).find? (fun g => aV g w) with
  | some g => exact ⟨g,rfl⟩
  | none => exact absurd hw (List.find?_eq_none.1 e g (by rw [ht]; exact hg))
 have hb' : aV g' w = true := List.find?_some (p := fun g => aV g w) eg
 have hm' := List.mem_of_find?_eq_some eg
 rw [ht] at hm'
 obtain rfl := grp_eq hg hm' hw hb'
 refine ⟨?_,by rw [hwa,← hfv]; exact hxm⟩
 rw [fQ,eg]
 simp only
 rw [ht,ex']
def aAr (d : aO) (w : Nat) : List (List aB) → Nat → aD → aD
 | [],_,s => s
 | u :: r,t,s => aAr d w r (t + 1) (cU d s (wAt d w t) u).1
theorem aHn (dg : fD d) : ∀ (k ws t : Nat) (s : aD),t + k = aF d → (∃ w,w < d.weathers.length ∧ aV ws w = true) → NC d s → StN d t s → ∃ w,w < d.weathers.length ∧ aV ws w = true ∧ iY d (aAr d w (fQ d k ws s w) t s) = aW d k ws s
 | 0,ws,t,s,_,⟨w,hw,hb⟩,_,_ => ⟨w,hw,hb,rfl⟩
 | k + 1,ws,t,s,hk,⟨w0,hw0,hb0⟩,hc,hs => by
  have ht : aF d - (k + 1) = t := by omega
  have key : ∀ g ∈ bT d ws t,fR d (aW d k) t g s = aW d (k + 1) ws s → ∃ w,w < d.weathers.length ∧ aV ws w = true ∧ iY d (aAr d w (fQ d (k + 1) ws s w) t s) = aW d (k + 1) ws s := fun g hg e => by
   obtain ⟨x,hx,hxe⟩ := aAL dg hk hg hc
   obtain ⟨v,hv1,hv2,hv⟩ := cP.1 g hg
   have hgv : aV g v = true := (hv v).2 ⟨hv1,hv2,rfl⟩
   obtain ⟨_,hxm⟩ := hx v hgv
   obtain ⟨q1,q2,q3,q4⟩ := jL dg hs x hxm
   obtain ⟨f1,f2⟩ := aAW q3
   obtain ⟨w,hw,hb,hcost⟩ := aHn dg k g (t + 1) x.2 (by omega) ⟨v,hv1,hgv⟩ (by rw [q4]; exact f2) (by rw [q4]; exact qN q1 q2 hs)
   obtain ⟨hp,hxw⟩ := hx w hb
   refine ⟨w,hw,((hv w).1 hb).2.1,?_⟩
   rw [hp,aAr,← (jL dg hs x hxw).2.2.2,hcost,hxe,e]
  have hbeh : aW d (k + 1) ws s = (bT d ws t).foldl (fun m g => max m (fR d (aW d k) t g s)) 0 := by rw [aW,ht]
  rcases yX (f := fun g => fR d (aW d k) t g s) (bT d ws t) 0 with h | ⟨g,hg,h⟩
  · obtain ⟨g,hg,hgb⟩ := (cP (d := d) (ws := ws) (slot := t)).2.1 w0 hw0 hb0
    refine key g hg ?_
    obtain ⟨x,_,hxe⟩ := aAL dg hk hg hc
    have h1 := tT dg k g x.2
    have h2 := (qM (f := fun g => fR d (aW d k) t g s) (bT d ws t) 0).2 g hg
    rw [hbeh,h]
    rw [h] at h2
    omega
  · exact key g hg (by rw [hbeh]; exact h)
theorem zC {pol : dA} {S : Nat → aD} (hS : ∀ (w : Nat) (hw : w < pol.length),goW d pol w pol[w] 0 (bC d) = .ok (S w)) : ∀ (m w : Nat) (b bw : Int),w + m = pol.length → ∃ M bw',goP d pol (pol.drop w) w b bw = .ok (M,bw') ∧ b ≤ M ∧ (∀ j,w ≤ j → j < pol.length → iY d (S j) ≤ M) ∧ (M = b ∨ ∃ j,j < pol.length ∧ M = iY d (S j))
 | 0,w,b,bw,hm => ⟨b,bw,by rw [List.drop_eq_nil_of_le (by omega),goP],Int.le_refl _,fun j h1 h2 => by omega,.inl rfl⟩
 | m + 1,w,b,bw,hm => by
  have hw : w < pol.length := by omega
  rw [uY hw,hS w hw]
  simp only
  split
  · rename_i e
    obtain ⟨M,bw',h1,h2,h3,h4⟩ := zC hS m (w + 1) (iY d (S w)) w (by omega)
    refine ⟨M,bw',h1,by omega,fun j a b => ?_,?_⟩
    · rcases Nat.lt_or_ge w j with h | h
      · exact h3 j (by omega) b
      · obtain rfl : j = w := by omega
        exact h2
    · rcases h4 with h | h
      · exact .inr ⟨w,hw,h⟩
      · exact .inr h
  · rename_i e
    obtain ⟨M,bw',h1,h2,h3,h4⟩ := zC hS m (w + 1) b bw (by omega)
    refine ⟨M,bw',h1,h2,fun j a b => ?_,h4⟩
    rcases Nat.lt_or_ge w j with h | h
    · exact h3 j (by omega) b
    · obtain rfl : j = w := by omega
      omega
theorem uX (hB : dO d = true) {w : Nat} (hw : w < (cL d).1.length) : ∀ (k t : Nat) (s : aD),t + k = aF d → vR d (cL d).1[w] (cL d).2 w t s → goW d (cL d).1 w ((cL d).1[w].drop t) t s = .ok (aAr d w ((cL d).1[w].drop t) t s) ∧ iY d (aAr d w ((cL d).1[w].drop t) t s) ≤ (cL d).2
 | 0,t,s,hk,I => by
  obtain ⟨h1,h2⟩ := aAd I (by omega)
  rw [List.drop_eq_nil_of_le h1]
  exact ⟨rfl,h2⟩
 | k + 1,t,s,hk,I => by
  have dg := jF hB
  have hl := (kD dg (w := 0) dg.w0).1
  have hwd : w < d.weathers.length := by omega
  obtain ⟨h1,h2,h3,h4,h5⟩ := wD dg hwd I (by omega)
  obtain ⟨i1,i2⟩ := uX hB hw k (t + 1) _ (by omega) h5
  have hcf : cfB d (cL d).1 w t (cL d).1[w][t] = false := by
   rw [cfB,List.any_eq_false]
   intro v hv
   have hv := List.mem_range.1 hv
   cases c1 : lB d v w t with
   | false => simp
   | true =>
    have := aCt hB (w := w) (w' := v) hwd (by omega) (by omega) c1
    rw [this,aG hw,aG h1]
    simp
  rw [uW h1,hcf,if_neg (by simp),if_neg (fun x => x h3),i1,List.drop_eq_getElem_cons h1,aAr]
  exact ⟨rfl,i2⟩
theorem aCr (hB : dO d = true) : ∃ w,iP d (cL d).1 = ((cL d).2,w,0,0,1) := by
 have dg := jF hB
 have hl := (kD dg (w := 0) dg.w0).1
 have hI : ∀ w (hw : w < (cL d).1.length),vR d (cL d).1[w] (cL d).2 w 0 (bC d) := fun w hw => by
  have := xR hB (w := w) (by omega)
  rwa [aG hw] at this
 have hS : ∀ (w : Nat) (hw : w < (cL d).1.length),goW d (cL d).1 w (cL d).1[w] 0 (bC d) = .ok ((fun w => aAr d w ((cL d).1.getD w []) 0 (bC d)) w) := fun w hw => by
  have := (uX hB hw (aF d) 0 _ (by omega) (hI w hw)).1
  rw [List.drop_zero] at this
  simp only [aG hw]; exact this
 obtain ⟨M,bw,h1,h2,h3,h4⟩ := zC hS (cL d).1.length 0 (-1) 0 (by omega)
 rw [List.drop_zero] at h1
 obtain ⟨w,hw,_,hat⟩ := aHn dg (aF d) (2 ^ d.weathers.length - 1) 0 (bC d) (by omega) ⟨0,dg.w0,qV dg.w0⟩ (tS.1 hB).cr (qW dg)
 have hV : (cL d).2 = aW d (aF d) (2 ^ d.weathers.length - 1) (bC d) := rfl
 have hge := h3 w (Nat.zero_le _) (by omega)
 simp only [(kD dg hw).2,hat,← hV] at hge
 have hle : M ≤ (cL d).2 := by
  rcases h4 with h | ⟨j,hj,h⟩
  · have := tT dg (aF d) (2 ^ d.weathers.length - 1) (bC d)
    rw [← hV] at this; omega
  · have := (uX hB hj (aF d) 0 _ (by omega) (hI j hj)).2
    rw [List.drop_zero] at this
    simp only [aG hj] at h
    omega
 refine ⟨bw,?_⟩
 rw [iP,h1]
 have : M = (cL d).2 := by omega
 rw [this]
end
end Go.Proofs.Ab
namespace Go.Proofs.Ab
open Go Go.Proofs
section
variable {d : aO}
theorem aAq (n : Int) (l : List Int) : eU d (n :: l) = (d.people.getD n.toNat ⟨0,0,0,0,0⟩).seats + eU d l := by
 have key : ∀ (l : List Int) (a : Int),l.foldl (fun a n => a + (d.people.getD n.toNat ⟨0,0,0,0,0⟩).seats) a = a + l.foldl (fun a n => a + (d.people.getD n.toNat ⟨0,0,0,0,0⟩).seats) 0 := by
  intro l
  induction l with
  | nil => intro a; simp
  | cons x l ih =>
   intro a
   rw [List.foldl_cons,List.foldl_cons,ih,ih (0 + _)]
   omega
 unfold eU
 rw [List.foldl_cons,key]
 omega
def sX (r : List Int) (gone : Nat) : Nat := r.foldl (fun g n => g ||| 2 ^ n.toNat) gone
theorem aDi {g n m : Nat} : aV (g ||| 2 ^ n) m = (aV g m || decide (n = m)) := by
 rw [dF,dF,Nat.testBit_or,Nat.testBit_two_pow]
theorem xB (m : Nat) : ∀ (r : List Int) (gone : Nat),(∀ n ∈ r,0 ≤ n) → aV (sX r gone) m = (aV gone m || r.any fun n => n == (m : Int))
 | [],gone,_ => by simp [sX]
 | n :: r,gone,h => by
  have ih := xB m r (gone ||| 2 ^ n.toNat) fun x hx => h x (by simp [hx])
  have hn := h n (by simp)
  have e : sX (n :: r) gone = sX r (gone ||| 2 ^ n.toNat) := rfl
  have e2 : decide (n.toNat = m) = (n == (m : Int)) := by rw [Bool.eq_iff_iff]; simp; omega
  rw [e,ih,aDi,List.any_cons,Bool.or_assoc,e2]
theorem uA (dg : fD d) {s : aD} {at_ to : Int} : ∀ (k : Nat) (l r : List Int) (seats : Int) (gone : Nat),k ≤ d.people.length → r ≠ [] → r.Pairwise (· < ·) → (∀ n ∈ r,((d.people.length - k : Nat) : Int) ≤ n ∧ n < d.people.length) → (∀ n ∈ r,s.people.getD n.toNat 0 = at_) → (∀ n ∈ r,aV gone n.toNat = false) → eU d r ≤ seats →
 ((⟨to,l ++ r⟩ : aB),sX r gone) ∈ kN d s at_ to k l seats gone
 | _,l,[],seats,gone,_,h,_,_,_,_,_ => absurd rfl h
 | 0,l,n0 :: r,seats,gone,_,_,_,hb,_,_,_ => by have := hb n0 (by simp); omega
 | k + 1,l,n0 :: r,seats,gone,hk,_,hp,hb,ha,hg,hs => by
  obtain ⟨p1,p2⟩ := List.pairwise_cons.1 hp
  have b0 := hb n0 (by simp)
  have sb : ∀ p ∈ d.people,0 ≤ p.seats ∧ p.seats ≤ 1000 := fun p hp => by have := (dg.people p hp).2.2.1; omega
  rw [kN]
  by_cases e : n0 = ((d.people.length - (k + 1) : Nat) : Int)
  · have en : n0.toNat = d.people.length - (k + 1) := by omega
    have ha0 := ha n0 (by simp)
    have hg0 := hg n0 (by simp)
    rw [en] at ha0 hg0
    rw [aAq,en] at hs
    have h0 := (wN (d := d) (l := r) sb).1
    have hm : yW d s at_ (d.people.length - (k + 1)) seats gone = true := by
     rw [yW,decide_eq_true ha0,hg0,decide_eq_true (by omega)]; rfl
    rw [if_pos hm]
    refine List.mem_append.2 (.inl ?_)
    have eg : sX (n0 :: r) gone = sX r (gone ||| 2 ^ (d.people.length - (k + 1))) := by rw [← en]; rfl
    rw [eg,e]
    by_cases hr : r = []
    · subst hr
      exact List.mem_cons.2 (.inl rfl)
    · refine List.mem_cons.2 (.inr ?_)
      have := uA dg (s := s) (at_ := at_) (to := to) k (l ++ [((d.people.length - (k + 1) : Nat) : Int)]) r (seats - (d.people.getD (d.people.length - (k + 1)) ⟨0,0,0,0,0⟩).seats) (gone ||| 2 ^ (d.people.length - (k + 1))) (by omega) hr p2 (fun n hn => by
       have h1 := p1 n hn
       have h2 := hb n (by simp [hn])
       omega) (fun n hn => ha n (by simp [hn])) (fun n hn => by
       have h1 := p1 n hn
       rw [aDi,hg n (by simp [hn]),decide_eq_false (by omega)]; rfl) (by omega)
      rwa [List.append_assoc] at this
  · refine List.mem_append.2 (.inr ?_)
    exact uA dg k l (n0 :: r) seats gone (by omega) (by simp) hp (fun n hn => by
     have h2 := hb n hn
     refine ⟨?_,h2.2⟩
     rcases List.mem_cons.1 hn with h | h
     · subst h; omega
     · have := p1 n h; omega) ha hg hs
theorem qO {s : aD} {op : Int} {plane gone to : Nat} {y : aB × Nat} (hc : aCo d s op plane to = true) (hy : y ∈ uO d s (s.planes.getD plane 0) to d.people.length [] (d.planes.getD plane ⟨0,0,0,0,0⟩).seats gone) : ∀ k,k ≤ d.places.length → d.places.length - k ≤ to → to < d.places.length → y ∈ eJ d s op plane gone k
 | 0,_,h1,h2 => by omega
 | k + 1,hk,h1,h2 => by
  rw [eJ]
  by_cases e : to = d.places.length - (k + 1)
  · subst e
    rw [if_pos hc]
    exact List.mem_append.2 (.inl hy)
  · exact List.mem_append.2 (.inr (qO hc hy k (by omega) (by omega) h2))
theorem aCM {s : aD} {op : Int} {u : List aB} : ∀ (r : List aB) (i : Nat),rL d s op u r i = none → ∀ j,i ≤ j → j < i + r.length → yN d s op u j = 1
 | [],i,_,j,h1,h2 => by simp at h2; omega
 | x :: r,i,h,j,h1,h2 => by
  rw [rL] at h
  split at h
  · cases h
  · rename_i e
    rcases Nat.lt_or_ge i j with h3 | h3
    · exact aCM r (i + 1) h j (by omega) (by simp at h2; omega)
    · obtain rfl : j = i := by omega
      exact Classical.byContradiction fun hc => e hc
theorem aAg (dg : fD d) {s : aD} {op : Int} {u : List aB} (uk : tC d u) (hone : (cU d s op u).2.1 = 1) (hbr : ∀ i,i < u.length → yN d s op u i = 1) : ∀ (k gone : Nat) (u0 r : List aB),u = u0 ++ r → r.length = k → (∀ m,m < d.people.length → aV gone m = u0.any fun y => y.people.any fun z => z == (m : Int)) → (u,(cU d s op u).1) ∈ dP d s op k gone u0
 | 0,gone,u0,r,hu,hr,_ => by
  obtain rfl := List.length_eq_zero_iff.1 hr
  rw [List.append_nil] at hu
  subst hu
  rw [dP,if_pos hone]
  simp
 | k + 1,gone,u0,[],hu,hr,_ => by simp at hr
 | k + 1,gone,u0,x :: r,hu,hr,hg => by
  have hul : u.length = u0.length + (k + 1) := by rw [hu]; simp at hr ⊢; omega
  have hlen := uk.len
  have hpl : d.planes.length - (k + 1) = u0.length := by omega
  have hx : u.getD u0.length ⟨-1,[]⟩ = x := by rw [hu,List.getD_eq_getElem?_getD,List.getElem?_append_right (Nat.le_refl _)]; simp
  have hxm : x ∈ u := by rw [hu]; simp
  have htk : u.take u0.length = u0 := by rw [hu]; simp
  obtain ⟨pp1,pp2⟩ := uk.pp x hxm
  have hto := uk.to x hxm
  have hb := hbr u0.length (by omega)
  rw [dP,List.mem_flatMap]
  have hnext : ∀ gone',(∀ m,m < d.people.length → aV gone' m = (aV gone m || x.people.any fun z => z == (m : Int))) → (x,gone') ∈ fB d s op (d.planes.length - (k + 1)) gone → ∃ a ∈ fB d s op (d.planes.length - (k + 1)) gone,(u,(cU d s op u).1) ∈ dP d s op k a.2 (u0 ++ [a.1]) := fun gone' hg' hm => by
   refine ⟨_,hm,aAg dg uk hone hbr k gone' (u0 ++ [x]) r (by rw [hu]; simp) (by simpa using hr) fun m hmm => ?_⟩
   rw [hg' m hmm,hg m hmm,List.any_append]
   simp
  by_cases ht : x.to < 0
  · have hx2 : x = ⟨-1,[]⟩ := by
     have h1 := uk.no x hxm ht
     have h2 : x.to = -1 := by omega
     cases x
     simp only at h1 h2
     rw [h1,h2]
    refine hnext gone (fun m _ => by rw [hx2]; simp) ?_
    rw [fB,hx2]
    exact List.mem_cons.2 (.inl rfl)
  · rw [yN] at hb
    simp only [hx] at hb
    rw [if_neg ht] at hb
    have c1 : dX d (s.planes.getD u0.length 0) x.to = true := by
     cases e : dX d (s.planes.getD u0.length 0) x.to with
     | true => rfl
     | false => rw [e] at hb; simp at hb
    rw [c1] at hb
    simp only [Bool.not_true,Bool.false_eq_true,if_false] at hb
    have c2 : (aV op.toNat (s.planes.getD u0.length 0).toNat && aV op.toNat x.to.toNat) = true := by
     cases e : (aV op.toNat (s.planes.getD u0.length 0).toNat && aV op.toNat x.to.toNat) with
     | true => rfl
     | false => rw [e] at hb; simp at hb
    rw [c2] at hb
    simp only [Bool.not_true,Bool.false_eq_true,if_false] at hb
    have c3 : decide (s.legs.getD u0.length 0 < (d.planes.getD u0.length ⟨0,0,0,0,0⟩).duty) = true := by
     cases e : decide (s.legs.getD u0.length 0 < (d.planes.getD u0.length ⟨0,0,0,0,0⟩).duty) with
     | true => rfl
     | false => rw [e] at hb; simp at hb
    rw [c3] at hb
    simp only [Bool.not_true,Bool.false_eq_true,if_false] at hb
    have c4 : xA s u u0.length x = false := by
     cases e : xA s u u0.length x with
     | false => rfl
     | true => rw [e] at hb; simp at hb
    rw [c4] at hb
    simp only [Bool.false_eq_true,if_false] at hb
    have c5 : eU d x.people ≤ (d.planes.getD u0.length ⟨0,0,0,0,0⟩).seats := by
     refine Classical.byContradiction fun hc => ?_
     rw [decide_eq_false hc] at hb; simp at hb
    rw [xA,htk,List.any_eq_false] at c4
    have c6 : ∀ n ∈ x.people,s.people.getD n.toNat 0 = s.planes.getD u0.length 0 ∧ aV gone n.toNat = false := fun n hn => by
     have h1 := c4 n hn
     have h2 := pp1 n hn
     simp only [Bool.or_eq_true,Bool.not_eq_true',not_or,Bool.not_eq_false,beq_iff_eq,Bool.not_eq_true] at h1
     refine ⟨h1.1,?_⟩
     rw [hg n.toNat (by omega),show ((n.toNat : Nat) : Int) = n by omega]
     exact h1.2
    obtain ⟨t,et⟩ : ∃ t : Nat,x.to = t := ⟨x.to.toNat,by omega⟩
    refine hnext (sX x.people gone) (fun m _ => xB m x.people gone fun n hn => (pp1 n hn).1) ?_
    rw [fB,hpl]
    refine List.mem_cons.2 (.inr (qO (to := t) ?_ ?_ _ (Nat.le_refl _) (by omega) (by omega)))
    · rw [et] at c1 c2
      rw [Int.toNat_natCast] at c2
      rw [aCo,c1,c2,c3]; rfl
    · rw [uO]
      have hxe : x = ⟨(t : Int),x.people⟩ := by cases x; simp only at et; rw [et]
      by_cases hxp : x.people = []
      · rw [hxe,hxp]
        exact List.mem_cons.2 (.inl rfl)
      · refine List.mem_cons.2 (.inr ?_)
        have := uA dg (s := s) (at_ := s.planes.getD u0.length 0) (to := (t : Int)) d.people.length [] x.people (d.planes.getD u0.length ⟨0,0,0,0,0⟩).seats gone (Nat.le_refl _) hxp pp2 (fun n hn => by have := pp1 n hn; omega) (fun n hn => (c6 n hn).1) (fun n hn => (c6 n hn).2) c5
        rw [List.nil_append,← hxe] at this
        exact this
theorem aD7 (dg : fD d) {s : aD} {op : Int} {u : List aB} (hub : dD d u = true) (hone : (cU d s op u).2.1 = 1) : (u,(cU d s op u).1) ∈ cN d s op := by
 have uk := tK hub
 have hlen := uk.len
 refine aAg dg uk hone ?_ _ 0 [] u rfl hlen fun m _ => by simp [aV]
 rw [← aIn uk dg.pe,aFE] at hone
 cases e : rL d s op u u 0 with
 | none => exact fun i hi => aCM u 0 e i (Nat.zero_le _) (by omega)
 | some p =>
  rw [e] at hone
  have : ∀ (r : List aB) (i : Nat) (p : Int × Int),rL d s op u r i = some p → p.1 ≠ 1 := fun r => by
   induction r with
   | nil => intro i p h; cases h
   | cons x r ih =>
    intro i p h
    rw [rL] at h
    split at h
    · rename_i h2; cases h; exact h2
    · exact ih _ p h
  exact absurd hone (this u 0 p e)
end
end Go.Proofs.Ab
namespace Go.Proofs.Ab
open Go Go.Proofs
section
variable {d : aO} {pol : dA}
theorem zB {w t : Nat} {s X : aD} {l : List (List aB)} (ht : t < l.length) (h : goW d pol w (l.drop t) t s = .ok X) : cfB d pol w t l[t] = false ∧ (cU d s (wAt d w t) l[t]).2.1 = 1 ∧ goW d pol w (l.drop (t + 1)) (t + 1) (cU d s (wAt d w t) l[t]).1 = .ok X := by
 rw [uW ht] at h
 cases e : cfB d pol w t l[t] with
 | true => rw [e,if_pos rfl] at h; cases h
 | false =>
  rw [e,if_neg (by simp)] at h
  by_cases e2 : (cU d s (wAt d w t) l[t]).2.1 = 1
  · rw [if_neg (fun x => x e2)] at h
    exact ⟨rfl,e2,h⟩
  · rw [if_pos e2] at h; cases h
theorem aC8 {w : Nat} : ∀ (l : List (List aB)) (t : Nat) (s : aD) (x y z : Int),goW d pol w l t s = .error (x,y,z) → z ≠ 1
 | [],t,s,x,y,z,h => by cases h
 | u :: r,t,s,x,y,z,h => by
  rw [goW] at h
  split at h
  · cases h; omega
  · split at h
    · rename_i e; cases h; exact e
    · exact aC8 r _ _ x y z h
theorem zD : ∀ (l : dA) (w : Nat) (b bw x y z : Int),goP d pol l w b bw = .error (x,y,z) → z ≠ 1
 | [],w,b,bw,x,y,z,h => by cases h
 | p :: r,w,b,bw,x,y,z,h => by
  rw [goP] at h
  split at h
  · rename_i e he
    cases h
    exact aC8 _ _ _ _ _ _ he
  · split at h
    · exact zD r _ _ _ x y z h
    · exact zD r _ _ _ x y z h
theorem zE : ∀ (m w : Nat) (b bw : Int) (q : Int × Int),w + m = pol.length → goP d pol (pol.drop w) w b bw = .ok q → ∀ j (hj : j < pol.length),w ≤ j → ∃ X,goW d pol j pol[j] 0 (bC d) = .ok X
 | 0,w,b,bw,q,hm,h,j,hj,hw => by omega
 | m + 1,w,b,bw,q,hm,h,j,hj,hw => by
  have hwl : w < pol.length := by omega
  rw [uY hwl] at h
  cases e : goW d pol w pol[w] 0 (bC d) with
  | error x => rw [e] at h; cases h
  | ok X =>
   rw [e] at h
   simp only at h
   rcases Nat.lt_or_ge w j with h1 | h1
   · split at h
     · exact zE m (w + 1) _ _ q (by omega) h j hj (by omega)
     · exact zE m (w + 1) _ _ q (by omega) h j hj (by omega)
   · obtain rfl : j = w := by omega
     exact ⟨X,e⟩
theorem aGI {w w' t : Nat} (dg : fD d) (hw : w < d.weathers.length) (hw' : w' < d.weathers.length) (ht : t < aF d) (h : ∀ j,j ≤ t → wAt d w j = wAt d w' j) : lB d w w' t = true := by
 have h1 : (gE d w).length = aF d := by rw [nP hw]; exact (dg.rows _ (List.getElem_mem hw)).1
 have h2 : (gE d w').length = aF d := by rw [nP hw']; exact (dg.rows _ (List.getElem_mem hw')).1
 refine decide_eq_true (List.ext_getElem (by simp [h1,h2]) fun j a b => ?_)
 rw [List.length_take] at a b
 rw [List.getElem_take,List.getElem_take]
 have := h j (by omega)
 simp only [wAt] at this
 change (gE d w).getD j 0 = (gE d w').getD j 0 at this
 rw [aG (by omega),aG (by omega)] at this
 exact this
theorem lower (dg : fD d) (ok : aHI d pol) {S : Nat → aD} : ∀ (k ws t : Nat) (s : aD),t + k = aF d → (∃ w,w < d.weathers.length ∧ aV ws w = true) → StN d t s →
 (∀ w (hw : w < pol.length),aV ws w = true → goW d pol w (pol[w].drop t) t s = .ok (S w)) →
 (∀ w w',w < d.weathers.length → w' < d.weathers.length → aV ws w = true → aV ws w' = true → ∀ j,j < t → wAt d w j = wAt d w' j) →
 ∃ w,w < d.weathers.length ∧ aV ws w = true ∧ aW d k ws s ≤ iY d (S w)
 | 0,ws,t,s,hk,⟨w,hw,hb⟩,_,hS,_ => by
  have hlen := ok.len
  have h1 := hS w (by omega) hb
  have h2 := ok.row w (by omega)
  rw [List.drop_eq_nil_of_le (by omega),goW] at h1
  cases h1
  exact ⟨w,hw,hb,Int.le_refl _⟩
 | k + 1,ws,t,s,hk,⟨w0,hw0,hb0⟩,hs,hS,hal => by
  have ht : aF d - (k + 1) = t := by omega
  have hlen := ok.len
  have hbeh : aW d (k + 1) ws s = (bT d ws t).foldl (fun m g => max m (fR d (aW d k) t g s)) 0 := by rw [aW,ht]
  rcases yX (f := fun g => fR d (aW d k) t g s) (bT d ws t) 0 with h | ⟨g,hg,h⟩
  · refine ⟨w0,hw0,hb0,?_⟩
    rw [hbeh,h]
    exact cost0 dg _
  · obtain ⟨v,hv1,hv2,hv⟩ := cP.1 g hg
    have hgv : aV g v = true := (hv v).2 ⟨hv1,hv2,rfl⟩
    have hvp : v < pol.length := by omega
    have hrv := ok.row v hvp
    have htv : t < pol[v].length := by omega
    obtain ⟨a1,a2,a3⟩ := zB htv (hS v hvp hv2)
    have hub := ok.un v hvp t htv
    have uB := tK hub
    have hmem := aD7 dg hub a2
    have hf := (gW d.weathers.length g ⟨v,hv1,hgv⟩).1
    have hfv := ((hv _).1 hf).2.2
    have hmin : fR d (aW d k) t g s ≤ aW d k g (cU d s (wAt d v t) pol[v][t]).1 := by
     have := (uP (next := aW d k g) (cN d s (wAt d (dI g d.weathers.length) t)) (-1) fun y _ => tT dg k g y.2).2 _ (by rw [hfv]; exact hmem)
     exact this
    have hal2 : ∀ w,aV g w = true → ∀ j,j ≤ t → wAt d w j = wAt d v j := fun w hw j hj => by
     obtain ⟨b1,b2,b3⟩ := (hv w).1 hw
     rcases Nat.lt_or_ge j t with h1 | h1
     · exact hal w v b1 hv1 b2 hv2 j h1
     · obtain rfl : j = t := by omega
       exact b3
    have hsame : ∀ w (hw : w < pol.length),aV g w = true → ∃ h2 : t < pol[w].length,pol[w][t] = pol[v][t] := fun w hw hb => by
     obtain ⟨b1,b2,b3⟩ := (hv w).1 hb
     have hrw := ok.row w hw
     have htw : t < pol[w].length := by omega
     refine ⟨htw,?_⟩
     have hl := aGI dg b1 hv1 (by omega) (hal2 w hb)
     obtain ⟨c1,_,_⟩ := zB htw (hS w hw b2)
     rcases Nat.lt_trichotomy w v with h1 | h1 | h1
     · rw [cfB,List.any_eq_false] at a1
       have := a1 w (List.mem_range.2 h1)
       rw [hl,aG hw,aG htw] at this
       simpa using this
     · subst h1; rfl
     · rw [cfB,List.any_eq_false] at c1
       have := c1 v (List.mem_range.2 h1)
       rw [aB7,hl,aG hvp,aG htv] at this
       have : pol[v][t] = pol[w][t] := by simpa using this
       exact this.symm
    obtain ⟨w,hw,hb,hc⟩ := lower dg ok (S := S) k g (t + 1) (cU d s (wAt d v t) pol[v][t]).1 (by omega) ⟨v,hv1,hgv⟩ (qN uB.len (uB.fl dg.pe) hs) (fun w hw hb => by
     obtain ⟨b1,b2,b3⟩ := (hv w).1 hb
     obtain ⟨h2,h3⟩ := hsame w hw hb
     obtain ⟨_,_,c3⟩ := zB h2 (hS w hw b2)
     rw [h3,b3] at c3
     exact c3) (fun w w' h1 h2 h3 h4 j hj => by rw [hal2 w h3 j (by omega),hal2 w' h4 j (by omega)])
    refine ⟨w,hw,((hv w).1 hb).2.1,?_⟩
    rw [hbeh,← h]
    exact Int.le_trans hmin hc
theorem aEm (hB : dO d = true) (hP : mB d pol = true) : ¬ (iP d pol).2.2.2.2 = 1 ∨ (cL d).2 ≤ (iP d pol).1 := by
 have dg := jF hB
 have ok := yR hP
 have hlen := ok.len
 cases e : goP d pol pol 0 (-1) 0 with
 | error x =>
  obtain ⟨x,y,z⟩ := x
  left
  rw [iP,e]
  exact zD _ _ _ _ _ _ _ e
 | ok q =>
  right
  have hall := zE (d := d) (pol := pol) pol.length 0 (-1) 0 q (by omega) (by rw [List.drop_zero]; exact e)
  obtain ⟨S,hS⟩ : ∃ S : Nat → aD,∀ (w : Nat) (hw : w < pol.length),goW d pol w pol[w] 0 (bC d) = .ok (S w) := by
   refine ⟨fun w => match goW d pol w (pol.getD w []) 0 (bC d) with | .ok X => X | .error _ => bC d,fun w hw => ?_⟩
   obtain ⟨X,hX⟩ := hall w hw (Nat.zero_le _)
   have hX' : goW d pol w (pol.getD w []) 0 (bC d) = .ok X := by rw [aG hw]; exact hX
   simp only [hX']
   exact hX
  obtain ⟨M,bw,h1,_,h3,_⟩ := zC hS pol.length 0 (-1) 0 (by omega)
  rw [List.drop_zero] at h1
  obtain ⟨w,hw,_,hc⟩ := lower dg ok (S := S) (aF d) (2 ^ d.weathers.length - 1) 0 (bC d) (by omega) ⟨0,dg.w0,qV dg.w0⟩ (qW dg) (fun w hw _ => by rw [List.drop_zero]; exact hS w hw) (fun w w' _ _ _ _ j hj => by omega)
  have hge := h3 w (Nat.zero_le _) (by omega)
  rw [iP,h1]
  exact Int.le_trans hc hge
end
end Go.Proofs.Ab
namespace Go.Proofs.Ab
open Go Go.Proofs
variable {w0 : World} {h : Heap}
attribute [local irreducible] ACall aS aZ aN aQ rvC rdC lp rg dr ex un rv rd'
theorem eqa3n (x y z : Int) : aA4 [true,true,true] true (.agg [.int .i64 x,.int .i64 y,.int .i64 z]) (.agg [.int .i64 x,.int .i64 y,.int .i64 z]) = some (.bool false) := by
 have hc : ∀ x : Int,ceq true (.int .i64 x) (.int .i64 x) = some true := fun x => by simp [ceq]
 simp [aA4,dW,hc]
theorem aIv {d : aO} {pol : dA} (dg : fD d) (ok : aHI d pol) : pol.length < 1000000 ∧ ∀ r ∈ pol,r.length < 1000000 ∧ ∀ u ∈ r,u.length < 1000000 ∧ ∀ x ∈ u,x.people.length < 1000000 := by
 have hsl := dg.s1
 have hw1 := dg.w1
 have hlen := ok.len
 refine ⟨by omega,fun r hr => ?_⟩
 obtain ⟨i,hi,rfl⟩ := List.getElem_of_mem hr
 have hri := ok.row i hi
 refine ⟨by omega,fun u hu => ?_⟩
 obtain ⟨j,hj,rfl⟩ := List.getElem_of_mem hu
 have hub := (tK (ok.un i hi j hj)).ok dg.pe
 have h1 := hub.len
 have h2 := dg.pn
 exact ⟨by omega,hub.pl⟩
theorem wC (d : aO) (v : cE) (pol : dA) (pv : AV) (hS : DayS w0 h d v) (hW : d.weathers.length ≤ 9223372036854775807) (hP : pF w0 h pv pol) (hl : pol.length ≤ 9223372036854775807) (hr : ∀ r ∈ pol,r.length ≤ 9223372036854775807 ∧ ∀ u ∈ r,u.length ≤ 9223372036854775807) :
 ACall Try.prog w0 15 [.agg (aY v),pv] h fun y H => y = .bool true ∧ aC h H := by
 refine bL aK aJj mf15_b mf15_g (Nat.le_of_ble_eq_true rfl) fun hb ha => aU ?_
 obtain ⟨y1,y2,y3,y4,y5⟩ := hS.ones
 obtain ⟨K,eK⟩ : ∃ K,K = h ++ [some (Blk.row [v.pl,v.ln,v.pn,v.pe,v.we])] := ⟨_,rfl⟩
 have sK : aC h K := eK ▸ aC.refl.app
 have k0 : K[h.length]? = some (some (.row [v.pl,v.ln,v.pn,v.pe,v.we])) := by rw [eK]; simp
 have k0L : ∀ L,(K ++ L)[h.length]? = some (some (.row [v.pl,v.ln,v.pn,v.pe,v.we])) := fun L => aA k0
 simp only [go_sem,mf15,aY,y1,y2,y3,y4,y5]
 rw [← eK]
 refine aI (aGF d v (hS.sub sK) hW).v ?_
 cases e1 : jI d with
 | false =>
  simp only [go_sem]
  refine aI qE.v ?_
  simp only [go_sem]
  exact sK
 | true =>
 simp only [go_sem]
 refine aI (aFt (hP.sub sK) hl fun r h1 => (hr r h1).2).v ?_
 cases e2 : rF pol with
 | false =>
  simp only [go_sem]
  refine aI qE.v ?_
  simp only [go_sem]
  exact sK
 | true =>
 have hmm := e1
 simp only [jI,Bool.and_eq_true] at hmm
 have hB := hmm.2.1
 have dg := jF hB
 have hR := (hS.sub sK).R hmm.1
 have hPK := hP.sub sK
 simp only [rF,mR,Bool.and_eq_true,decide_eq_true_eq,List.all_eq_true] at e2
 have hr2 : ∀ r ∈ pol,r.length < 1000000 ∧ ∀ u ∈ r,u.length < 1000000 ∧ ∀ x ∈ u,x.people.length < 1000000 := fun r h1 => by
  obtain ⟨a,b⟩ := e2.1 r h1
  refine ⟨by omega,fun u hu => ?_⟩
  obtain ⟨b1,b2⟩ := b u hu
  exact ⟨by omega,fun x hx => by have := b1 x hx; omega⟩
 have hw0 := List.length_pos_iff.1 dg.w0
 have hs1 := dg.s1
 simp only [go_sem,k0,k0L,y1,y2,y3,y4,y5]
 refine aI (wP hR hPK hw0 (by omega) (by omega) hr2).v ?_
 cases e3 : mB d pol with
 | false =>
  simp only [go_sem]
  refine aI qE.v ?_
  simp only [go_sem]
  exact sK
 | true =>
 simp only [go_sem,k0,k0L,y1,y2,y3,y4,y5]
 refine aX (ACall.vc (first := []) (args := [_]) (aCs d v hR)) ?_
 rintro y H1 ⟨s1,hyes,_⟩
 obtain ⟨bv,rfl,hBP⟩ := hyes hB
 obtain ⟨V,eV⟩ : ∃ V,V = (cL d).2 := ⟨_,rfl⟩
 obtain ⟨bp,ebp⟩ : ∃ p,p = (cL d).1 := ⟨_,rfl⟩
 rw [← eV]
 rw [← ebp] at hBP
 have hPB : mB d bp = true := ebp ▸ aKW hB
 obtain ⟨bd1,bd2⟩ := aIv dg (yR hPB)
 have m0 := s1.2 _ _ k0
 have m0L : ∀ L,(H1 ++ L)[h.length]? = some (some (.row [v.pl,v.ln,v.pn,v.pe,v.we])) := fun L => aA m0
 have hR1 := hR.sub s1
 simp only [go_sem,m0,m0L,y1,y2,y3,y4,y5]
 refine aI (wP hR1 hBP hw0 (by omega) bd1 bd2).v ?_
 rw [hPB]
 simp only [go_sem,m0,m0L,y1,y2,y3,y4,y5]
 refine aX (ACall.vc (first := []) (args := [_,_]) (aDl d v bp bv hR1 hBP bd1 bd2)) ?_
 rintro y H2 ⟨s2,rfl⟩
 obtain ⟨bw,hbw⟩ := aCr hB
 rw [← ebp,← eV] at hbw
 have hRb : lV d bp = (V,bw,0,0,1) ∧ lW d bp = 0 := by rw [lV,lW,hB,hPB]; exact ⟨hbw,rfl⟩
 rw [hRb.1,hRb.2]
 simp only [go_sem,rC]
 obtain ⟨K2,eK2⟩ : ∃ K2,K2 = H2 ++ [some (Blk.row [AV.int .i64 0,AV.int .i64 0,AV.int .i64 1])] := ⟨_,rfl⟩
 have s3 : aC H2 K2 := eK2 ▸ aC.refl.app
 have sK2 := s1.trans (s2.trans s3)
 have n0 := sK2.2 _ _ k0
 have n1 : K2[H2.length]? = some (some (.row [.int .i64 0,.int .i64 0,.int .i64 1])) := by rw [eK2]; simp
 have n0L : ∀ L,(K2 ++ L)[h.length]? = some (some (.row [v.pl,v.ln,v.pn,v.pe,v.we])) := fun L => aA n0
 rw [← eK2]
 simp only [go_sem,n0,n0L,y1,y2,y3,y4,y5]
 refine aX (ACall.vc (first := []) (args := [_,_]) (aDl d v pol pv (hR.sub sK2) (hPK.sub sK2) (by omega) hr2)) ?_
 rintro y H3 ⟨s4,rfl⟩
 have hRp : lV d pol = iP d pol ∧ lW d pol = 0 := by rw [lV,lW,hB,e3]; exact ⟨rfl,rfl⟩
 rw [hRp.1,hRp.2]
 have hlaw := aEm hB e3
 rw [← eV] at hlaw
 obtain ⟨r,er⟩ : ∃ r,r = iP d pol := ⟨_,rfl⟩
 rw [← er] at hlaw ⊢
 obtain ⟨c,w',x,y,z⟩ := r
 simp only at hlaw
 have q1 := s4.2 _ _ n1
 have q1L : ∀ L,(H3 ++ L)[H2.length]? = some (some (.row [.int .i64 0,.int .i64 0,.int .i64 1])) := fun L => aA q1
 have fin : aC h (H3 ++ [some (Blk.row [AV.int .i64 x,AV.int .i64 y,AV.int .i64 z])]) := sK.trans (sK2.trans (s4.trans aC.refl.app))
 by_cases hz : z = 1
 · have hcv : V ≤ c := by rcases hlaw with h1 | h1; exact absurd hz h1; exact h1
   simp only [go_sem,rC,q1,q1L,eqa3n,hz,hcv]
   refine aI qE.v ?_
   simp only [go_sem]
   rw [← hz]
   exact fin
 · simp only [go_sem,rC,q1,q1L,eqa3n,hz]
   refine aI qE.v ?_
   simp only [go_sem]
   exact fin
end Go.Proofs.Ab

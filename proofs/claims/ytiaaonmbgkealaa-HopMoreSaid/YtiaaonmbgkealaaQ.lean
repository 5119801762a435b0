/- The own layer under the proofs of this seat, part Q: what calls of the program come to on an abstract heap. No condition. -/
import Derived.Test.YtiaaonmbgkealaaP
set_option linter.unusedSimpArgs false
set_option linter.unusedVariables false
namespace Go.Proofs.Ab
open Go Go.Proofs
section
variable {d : aO}
theorem pW {next : aB → Int} : ∀ (l : List (List aD × aB)) (b : Int),(∀ x ∈ l,0 ≤ next x.2) → (0 ≤ b → l.foldl (kW next) b ≤ b) ∧ ∀ x ∈ l,l.foldl (kW next) b ≤ next x.2
 | [],b,_ => ⟨fun _ => Int.le_refl _,fun x hx => by cases hx⟩
 | x :: l,b,h => by
  obtain ⟨h1,h2⟩ := pW l (kW next b x) fun y hy => h y (by simp [hy])
  have hx := h x (by simp)
  have hm : 0 ≤ kW next b x ∧ kW next b x ≤ next x.2 ∧ (0 ≤ b → kW next b x ≤ b) := by
   rw [kW]
   split
   · rename_i e
     simp only [Bool.or_eq_true,decide_eq_true_eq] at e
     exact ⟨hx,Int.le_refl _,fun _ => by omega⟩
   · rename_i e
     simp only [Bool.or_eq_true,decide_eq_true_eq,not_or] at e
     exact ⟨by omega,by omega,fun _ => Int.le_refl _⟩
  have h3 := h1 hm.1
  rw [List.foldl_cons]
  refine ⟨fun hb => by have := hm.2.2 hb; omega,fun y hy => ?_⟩
  rcases List.mem_cons.1 hy with e | e
  · subst e; omega
  · exact h2 y e
theorem yF {f : Nat → Int} : ∀ (l : List Nat) (b : Int),l.foldl (fun m g => max m (f g)) b = b ∨ ∃ g ∈ l,f g = l.foldl (fun m g => max m (f g)) b
 | [],b => .inl rfl
 | x :: l,b => by
  rw [List.foldl_cons]
  rcases yF (f := f) l (max b (f x)) with h | ⟨g,hg,h⟩
  · rcases Int.le_total b (f x) with e | e
    · right; exact ⟨x,by simp,by rw [h]; omega⟩
    · left; rw [h]; omega
  · exact .inr ⟨g,by simp [hg],h⟩
theorem grp_eq {ws slot g g' w : Nat} (hg : g ∈ bW d ws slot) (hg' : g' ∈ bW d ws slot) (hb : aZ g w = true) (hb' : aZ g' w = true) : g = g' := by
 obtain ⟨v,_,_,hv⟩ := fB.1 g hg
 obtain ⟨v',_,_,hv'⟩ := fB.1 g' hg'
 refine Nat.eq_of_testBit_eq fun i => ?_
 rw [← dD,← dD,Bool.eq_iff_iff,hv,hv']
 have h1 := ((hv w).1 hb).2.2
 have h2 := ((hv' w).1 hb').2.2
 rw [← h1,← h2]
theorem aAk (dg : gA d) {k ws g t : Nat} {s : aB} (hk : t + (k + 1) = aT d) (hg : g ∈ bW d ws t) (hc : NC d s) :
 ∃ x : List aD × aB,(∀ w,aZ g w = true → aCh d (k + 1) ws s w = x.1 :: aCh d k g x.2 w ∧ x ∈ dA d s (wAt d w t)) ∧ aR d k g x.2 = dO d (aR d k) t g s := by
 have ht : aT d - (k + 1) = t := by omega
 obtain ⟨v,hv1,hv2,hv⟩ := fB.1 g hg
 have hgv : aZ g v = true := (hv v).2 ⟨hv1,hv2,rfl⟩
 have hf := (gR d.weathers.length g ⟨v,hv1,hgv⟩).1
 have hfv := ((hv _).1 hf).2.2
 have hnn : ∀ y ∈ dA d s (wAt d (dR g d.weathers.length) t),0 ≤ aR d k g y.2 := fun y _ => tG dg k g y.2
 have hmin := (pW (next := aR d k g) (dA d s (wAt d (dR g d.weathers.length) t)) (-1) hnn).2
 have hex : ∃ x ∈ dA d s (wAt d (dR g d.weathers.length) t),aR d k g x.2 = dO d (aR d k) t g s := by
  rw [dO]
  rcases wG (next := aR d k g) (dA d s (wAt d (dR g d.weathers.length) t)) (-1) with ⟨_,h⟩ | h | h
  · omega
  · exact h
  · exact absurd h (vQ hc _ _ _ (by simp))
 obtain ⟨y,hy,ey⟩ := hex
 obtain ⟨x,ex'⟩ : ∃ x,(dA d s (wAt d (dR g d.weathers.length) t)).find? (uJ d k t g s) = some x := by
  cases e : (dA d s (wAt d (dR g d.weathers.length) t)).find? (uJ d k t g s) with
  | some x => exact ⟨x,rfl⟩
  | none => exact absurd (by rw [uJ,ey,dV]; simp) (List.find?_eq_none.1 e y hy)
 have hh : uJ d k t g s x = true := List.find?_some ex'
 simp only [uJ,Bool.not_eq_true',decide_eq_false_iff_not,dV] at hh
 have hxm := List.mem_of_find?_eq_some ex'
 have hxmin := hmin x hxm
 refine ⟨x,fun w hw => ?_,by have e : dO d (aR d k) t g s ≤ aR d k g x.2 := hxmin; have e2 : ¬ dO d (aR d k) t g s < aR d k g x.2 := of_decide_eq_false hh; omega⟩
 have hwa := ((hv w).1 hw).2.2
 obtain ⟨g',eg⟩ : ∃ g',(bW d ws (aT d - (k + 1))).find? (fun g => aZ g w) = some g' := by
  cases e : (bW d ws (aT d - (k + 1))).find? (fun g => aZ g w) with
  | some g => exact ⟨g,rfl⟩
  | none => exact absurd hw (List.find?_eq_none.1 e g (by rw [ht]; exact hg))
 have hb' : aZ g' w = true := List.find?_some (p := fun g => aZ g w) eg
 have hm' := List.mem_of_find?_eq_some eg
 rw [ht] at hm'
 obtain rfl := grp_eq hg hm' hw hb'
 refine ⟨?_,by rw [hwa,← hfv]; exact hxm⟩
 rw [aCh,eg]
 simp only
 rw [ht,ex']
end
end Go.Proofs.Ab
namespace Go.Proofs.Ab
open Go Go.Proofs
section
variable {d : aO}
theorem zP (n : Int) (l : List Int) : dT d (n :: l) = (d.people.getD n.toNat ⟨0,0,0,0,0⟩).seats + dT d l := by
 have key : ∀ (l : List Int) (a : Int),l.foldl (fun a n => a + (d.people.getD n.toNat ⟨0,0,0,0,0⟩).seats) a = a + l.foldl (fun a n => a + (d.people.getD n.toNat ⟨0,0,0,0,0⟩).seats) 0 := by
  intro l
  induction l with
  | nil => intro a; simp
  | cons x l ih =>
   intro a
   rw [List.foldl_cons,List.foldl_cons,ih,ih (0 + _)]
   omega
 unfold dT
 rw [List.foldl_cons,key]
 omega
def sF (r : List Int) (gone : Nat) : Nat := r.foldl (fun g n => g ||| 2 ^ n.toNat) gone
theorem aCI {g n m : Nat} : aZ (g ||| 2 ^ n) m = (aZ g m || decide (n = m)) := by
 rw [dD,dD,Nat.testBit_or,Nat.testBit_two_pow]
theorem wM (m : Nat) : ∀ (r : List Int) (gone : Nat),(∀ n ∈ r,0 ≤ n) → aZ (sF r gone) m = (aZ gone m || r.any fun n => n == (m : Int))
 | [],gone,_ => by simp [sF]
 | n :: r,gone,h => by
  have ih := wM m r (gone ||| 2 ^ n.toNat) fun x hx => h x (by simp [hx])
  have hn := h n (by simp)
  have e : sF (n :: r) gone = sF r (gone ||| 2 ^ n.toNat) := rfl
  have e2 : decide (n.toNat = m) = (n == (m : Int)) := by rw [Bool.eq_iff_iff]; simp; omega
  rw [e,ih,aCI,List.any_cons,Bool.or_assoc,e2]
theorem tP (dg : gA d) {s : aB} {at_ to : Int} : ∀ (k : Nat) (l r : List Int) (seats : Int) (gone : Nat),k ≤ d.people.length → r ≠ [] → r.Pairwise (· < ·) → (∀ n ∈ r,((d.people.length - k : Nat) : Int) ≤ n ∧ n < d.people.length) → (∀ n ∈ r,s.people.getD n.toNat 0 = at_) → (∀ n ∈ r,aZ gone n.toNat = false) → dT d r ≤ seats →
 ((⟨to,l ++ r⟩ : aD),sF r gone) ∈ iI d s at_ to k l seats gone
 | _,l,[],seats,gone,_,h,_,_,_,_,_ => absurd rfl h
 | 0,l,n0 :: r,seats,gone,_,_,_,hb,_,_,_ => by have := hb n0 (by simp); omega
 | k + 1,l,n0 :: r,seats,gone,hk,_,hp,hb,ha,hg,hs => by
  obtain ⟨p1,p2⟩ := List.pairwise_cons.1 hp
  have b0 := hb n0 (by simp)
  have sb : ∀ p ∈ d.people,0 ≤ p.seats ∧ p.seats ≤ 1000 := fun p hp => by have := (dg.people p hp).2.2.1; omega
  rw [iI]
  by_cases e : n0 = ((d.people.length - (k + 1) : Nat) : Int)
  · have en : n0.toNat = d.people.length - (k + 1) := by omega
    have ha0 := ha n0 (by simp)
    have hg0 := hg n0 (by simp)
    rw [en] at ha0 hg0
    rw [zP,en] at hs
    have h0 := (vW (d := d) (l := r) sb).1
    have hm : yD d s at_ (d.people.length - (k + 1)) seats gone = true := by
     rw [yD,decide_eq_true ha0,hg0,decide_eq_true (by omega)]; rfl
    rw [if_pos hm]
    refine List.mem_append.2 (.inl ?_)
    have eg : sF (n0 :: r) gone = sF r (gone ||| 2 ^ (d.people.length - (k + 1))) := by rw [← en]; rfl
    rw [eg,e]
    by_cases hr : r = []
    · subst hr
      exact List.mem_cons.2 (.inl rfl)
    · refine List.mem_cons.2 (.inr ?_)
      have := tP dg (s := s) (at_ := at_) (to := to) k (l ++ [((d.people.length - (k + 1) : Nat) : Int)]) r (seats - (d.people.getD (d.people.length - (k + 1)) ⟨0,0,0,0,0⟩).seats) (gone ||| 2 ^ (d.people.length - (k + 1))) (by omega) hr p2 (fun n hn => by
       have h1 := p1 n hn
       have h2 := hb n (by simp [hn])
       omega) (fun n hn => ha n (by simp [hn])) (fun n hn => by
       have h1 := p1 n hn
       rw [aCI,hg n (by simp [hn]),decide_eq_false (by omega)]; rfl) (by omega)
      rwa [List.append_assoc] at this
  · refine List.mem_append.2 (.inr ?_)
    exact tP dg k l (n0 :: r) seats gone (by omega) (by simp) hp (fun n hn => by
     have h2 := hb n hn
     refine ⟨?_,h2.2⟩
     rcases List.mem_cons.1 hn with h | h
     · subst h; omega
     · have := p1 n h; omega) ha hg hs
theorem qH {s : aB} {op : Int} {plane gone to : Nat} {y : aD × Nat} (hc : aBT d s op plane to = true) (hy : y ∈ rY d s (s.planes.getD plane 0) to d.people.length [] (d.planes.getD plane ⟨0,0,0,0,0⟩).seats gone) : ∀ k,k ≤ d.places.length → d.places.length - k ≤ to → to < d.places.length → y ∈ cW d s op plane gone k
 | 0,_,h1,h2 => by omega
 | k + 1,hk,h1,h2 => by
  rw [cW]
  by_cases e : to = d.places.length - (k + 1)
  · subst e
    rw [if_pos hc]
    exact List.mem_append.2 (.inl hy)
  · exact List.mem_append.2 (.inr (qH hc hy k (by omega) (by omega) h2))
theorem aCf {s : aB} {op : Int} {u : List aD} : ∀ (r : List aD) (i : Nat),rL d s op u r i = none → ∀ j,i ≤ j → j < i + r.length → xS d s op u j = 1
 | [],i,_,j,h1,h2 => by simp at h2; omega
 | x :: r,i,h,j,h1,h2 => by
  rw [rL] at h
  split at h
  · cases h
  · rename_i e
    rcases Nat.lt_or_ge i j with h3 | h3
    · exact aCf r (i + 1) h j (by omega) (by simp at h2; omega)
    · obtain rfl : j = i := by omega
      exact Classical.byContradiction fun hc => e hc
theorem zF (dg : gA d) {s : aB} {op : Int} {u : List aD} (uk : sO d u) (hone : (dC d s op u).2.1 = 1) (hbr : ∀ i,i < u.length → xS d s op u i = 1) : ∀ (k gone : Nat) (u0 r : List aD),u = u0 ++ r → r.length = k → (∀ m,m < d.people.length → aZ gone m = u0.any fun y => y.people.any fun z => z == (m : Int)) → (u,(dC d s op u).1) ∈ cR d s op k gone u0
 | 0,gone,u0,r,hu,hr,_ => by
  obtain rfl := List.length_eq_zero_iff.1 hr
  rw [List.append_nil] at hu
  subst hu
  rw [cR,if_pos hone]
  simp
 | k + 1,gone,u0,[],hu,hr,_ => by simp at hr
 | k + 1,gone,u0,x :: r,hu,hr,hg => by
  have hul : u.length = u0.length + (k + 1) := by rw [hu]; simp at hr ⊢; omega
  have hlen := uk.len
  have hpl : d.planes.length - (k + 1) = u0.length := by omega
  have hx : u.getD u0.length ⟨-1,[]⟩ = x := by rw [hu,List.getD_eq_getElem?_getD,List.getElem?_append_right (Nat.le_refl _)]; simp
  have hxm : x ∈ u := by rw [hu]; simp
  have htk : u.take u0.length = u0 := by rw [hu]; simp
  obtain ⟨pp1,pp2⟩ := uk.pp x hxm
  have hto := uk.to x hxm
  have hb := hbr u0.length (by omega)
  rw [cR,List.mem_flatMap]
  have hnext : ∀ gone',(∀ m,m < d.people.length → aZ gone' m = (aZ gone m || x.people.any fun z => z == (m : Int))) → (x,gone') ∈ cZ d s op (d.planes.length - (k + 1)) gone → ∃ a ∈ cZ d s op (d.planes.length - (k + 1)) gone,(u,(dC d s op u).1) ∈ cR d s op k a.2 (u0 ++ [a.1]) := fun gone' hg' hm => by
   refine ⟨_,hm,zF dg uk hone hbr k gone' (u0 ++ [x]) r (by rw [hu]; simp) (by simpa using hr) fun m hmm => ?_⟩
   rw [hg' m hmm,hg m hmm,List.any_append]
   simp
  by_cases ht : x.to < 0
  · have hx2 : x = ⟨-1,[]⟩ := by
     have h1 := uk.no x hxm ht
     have h2 : x.to = -1 := by omega
     cases x
     simp only at h1 h2
     rw [h1,h2]
    refine hnext gone (fun m _ => by rw [hx2]; simp) ?_
    rw [cZ,hx2]
    exact List.mem_cons.2 (.inl rfl)
  · rw [xS] at hb
    simp only [hx] at hb
    rw [if_neg ht] at hb
    have c1 : dK d (s.planes.getD u0.length 0) x.to = true := by
     cases e : dK d (s.planes.getD u0.length 0) x.to with
     | true => rfl
     | false => rw [e] at hb; simp at hb
    rw [c1] at hb
    simp only [Bool.not_true,Bool.false_eq_true,if_false] at hb
    have c2 : (aZ op.toNat (s.planes.getD u0.length 0).toNat && aZ op.toNat x.to.toNat) = true := by
     cases e : (aZ op.toNat (s.planes.getD u0.length 0).toNat && aZ op.toNat x.to.toNat) with
     | true => rfl
     | false => rw [e] at hb; simp at hb
    rw [c2] at hb
    simp only [Bool.not_true,Bool.false_eq_true,if_false] at hb
    have c3 : decide (s.legs.getD u0.length 0 < (d.planes.getD u0.length ⟨0,0,0,0,0⟩).duty) = true := by
     cases e : decide (s.legs.getD u0.length 0 < (d.planes.getD u0.length ⟨0,0,0,0,0⟩).duty) with
     | true => rfl
     | false => rw [e] at hb; simp at hb
    rw [c3] at hb
    simp only [Bool.not_true,Bool.false_eq_true,if_false] at hb
    have c4 : wL s u u0.length x = false := by
     cases e : wL s u u0.length x with
     | false => rfl
     | true => rw [e] at hb; simp at hb
    rw [c4] at hb
    simp only [Bool.false_eq_true,if_false] at hb
    have c5 : dT d x.people ≤ (d.planes.getD u0.length ⟨0,0,0,0,0⟩).seats := by
     refine Classical.byContradiction fun hc => ?_
     rw [decide_eq_false hc] at hb; simp at hb
    rw [wL,htk,List.any_eq_false] at c4
    have c6 : ∀ n ∈ x.people,s.people.getD n.toNat 0 = s.planes.getD u0.length 0 ∧ aZ gone n.toNat = false := fun n hn => by
     have h1 := c4 n hn
     have h2 := pp1 n hn
     simp only [Bool.or_eq_true,Bool.not_eq_true',not_or,Bool.not_eq_false,beq_iff_eq,Bool.not_eq_true] at h1
     refine ⟨h1.1,?_⟩
     rw [hg n.toNat (by omega),show ((n.toNat : Nat) : Int) = n by omega]
     exact h1.2
    obtain ⟨t,et⟩ : ∃ t : Nat,x.to = t := ⟨x.to.toNat,by omega⟩
    refine hnext (sF x.people gone) (fun m _ => wM m x.people gone fun n hn => (pp1 n hn).1) ?_
    rw [cZ,hpl]
    refine List.mem_cons.2 (.inr (qH (to := t) ?_ ?_ _ (Nat.le_refl _) (by omega) (by omega)))
    · rw [et] at c1 c2
      rw [Int.toNat_natCast] at c2
      rw [aBT,c1,c2,c3]; rfl
    · rw [rY]
      have hxe : x = ⟨(t : Int),x.people⟩ := by cases x; simp only at et; rw [et]
      by_cases hxp : x.people = []
      · rw [hxe,hxp]
        exact List.mem_cons.2 (.inl rfl)
      · refine List.mem_cons.2 (.inr ?_)
        have := tP dg (s := s) (at_ := s.planes.getD u0.length 0) (to := (t : Int)) d.people.length [] x.people (d.planes.getD u0.length ⟨0,0,0,0,0⟩).seats gone (Nat.le_refl _) hxp pp2 (fun n hn => by have := pp1 n hn; omega) (fun n hn => (c6 n hn).1) (fun n hn => (c6 n hn).2) c5
        rw [List.nil_append,← hxe] at this
        exact this
theorem aDl (dg : gA d) {s : aB} {op : Int} {u : List aD} (hub : pG d u = true) (hone : (dC d s op u).2.1 = 1) : (u,(dC d s op u).1) ∈ dA d s op := by
 have uk := aHb hub
 have hlen := uk.len
 refine zF dg uk hone ?_ _ 0 [] u rfl hlen fun m _ => by simp [aZ]
 rw [← aHp uk dg.pe,aEO] at hone
 cases e : rL d s op u u 0 with
 | none => exact fun i hi => aCf u 0 e i (Nat.zero_le _) (by omega)
 | some p =>
  rw [e] at hone
  have : ∀ (r : List aD) (i : Nat) (p : Int × Int),rL d s op u r i = some p → p.1 ≠ 1 := fun r => by
   induction r with
   | nil => intro i p h; cases h
   | cons x r ih =>
    intro i p h
    rw [rL] at h
    split at h
    · rename_i h2; cases h; exact h2
    · exact ih _ p h
  exact absurd hone (this u 0 p e)
end
end Go.Proofs.Ab
namespace Go.Proofs.Ab
open Go Go.Proofs
section
variable {d : aO}
end
end Go.Proofs.Ab
namespace Go.Proofs.Ab
open Go Go.Proofs
variable {w0 : World} {h : Heap}
attribute [local irreducible] ACall aS aV aM aP rvC rdC lp rg dr ex un rv rd'
def slK2 (p : Pl) (len es es' : Nat) (full : Bool) (b : Option (Nat × Nat × Option Nat)) : Option AV := b.map fun b => .sl (p.add (b.1 * es)) (b.2.1 - b.1) es' (eP b.2.2 b.2.1 (full && b.2.1 == len))
@[go_sem] theorem slK2_s {p : Pl} {len es es' l h : Nat} {full : Bool} {m : Option Nat} : slK2 p len es es' full (some (l,h,m)) = some (.sl (p.add (l * es)) (h - l) es' (eP m h (full && h == len))) := (rfl)
@[go_sem] theorem slK2_i {p : Pl} {len es es' : Nat} {full : Bool} {c : Prop} [Decidable c] {x : Nat × Nat × Option Nat} : slK2 p len es es' full (if c then some x else none) = if c then slK2 p len es es' full (some x) else none := by split <;> rfl
end Go.Proofs.Ab
namespace Go.Proofs.Ab
open Go Go.Proofs
section
variable {d : aO}
def reW (d : aO) (l : List (List Int)) : aO := ⟨d.places,d.links,d.planes,d.people,l⟩
theorem aHs (l' : List (List Int)) (s : aB) (op : Int) (u : List aD) : dC (reW d l') s op u = dC d s op u := by
 have hr : ∀ i x g,gX (reW d l') s op i x g = gX d s op i x g := fun i x g => rfl
 have hl : ∀ (u : List aD) (i : Nat) (n : aB) (g : List Bool),hZ (reW d l') s op u i n g = hZ d s op u i n g := by
  intro u
  induction u with
  | nil => intro i n g; rfl
  | cons x u ih =>
   intro i n g
   rw [hZ,hZ,hr,ih]
   split
   · rfl
   · split
     · rfl
     · rw [ih]
 rw [dC,dC,hl]
 rfl
theorem aDx (l' : List (List Int)) (s : aB) (op : Int) : dA (reW d l') s op = dA d s op := by
 have ht : ∀ (at_ to : Int) (k : Nat) (l : List Int) (seats : Int) (gone : Nat),iI (reW d l') s at_ to k l seats gone = iI d s at_ to k l seats gone := by
  intro at_ to k
  induction k with
  | zero => intro l seats gone; rfl
  | succ k ih =>
   intro l seats gone
   rw [iI,iI]
   simp only [ih]
   rfl
 have hf : ∀ (plane gone k : Nat),cW (reW d l') s op plane gone k = cW d s op plane gone k := by
  intro plane gone k
  induction k with
  | zero => rfl
  | succ k ih =>
   rw [cW,cW,ih]
   simp only [rY,ht]
   rfl
 have hu : ∀ (k gone : Nat) (u : List aD),cR (reW d l') s op k gone u = cR d s op k gone u := by
  intro k
  induction k with
  | zero => intro gone u; rw [cR,cR,aHs]
  | succ k ih =>
   intro gone u
   rw [cR,cR]
   have e : cZ (reW d l') s op ((reW d l').planes.length - (k + 1)) gone = cZ d s op (d.planes.length - (k + 1)) gone := by
    rw [cZ,cZ]
    have : (reW d l').places.length = d.places.length := rfl
    rw [this,hf]
    rfl
   rw [e]
   simp only [ih]
 exact hu _ _ _
def cM (d : aO) : aO := reW d (d.weathers.take (d.weathers.length - 1))
theorem uE {w t : Nat} (hw : w < d.weathers.length - 1) : wAt (cM d) w t = wAt d w t := by
 rw [wAt,wAt]
 have : (cM d).weathers.getD w [] = d.weathers.getD w [] := by
  rw [List.getD_eq_getElem?_getD,List.getD_eq_getElem?_getD]
  change ((d.weathers.take (d.weathers.length - 1))[w]?).getD [] = _
  rw [List.getElem?_take_of_lt hw]
 rw [this]
theorem jS : (cM d).weathers.length = d.weathers.length - 1 := by
 change (d.weathers.take (d.weathers.length - 1)).length = _
 rw [List.length_take]; omega
theorem lS (h : 1 < d.weathers.length) : aT (cM d) = aT d := by
 unfold aT
 have : (cM d).weathers.headD [] = d.weathers.headD [] := by
  change (d.weathers.take (d.weathers.length - 1)).headD [] = _
  cases e : d.weathers with
  | nil => rfl
  | cons a l =>
   rw [e] at h
   cases l with
   | nil => simp at h
   | cons b l => rfl
 rw [this]
theorem sC (dg : gA d) (h1 : 1 < d.weathers.length) : ∀ (k ws ws' t : Nat) (s : aB),t + k = aT d → (∀ i,i < d.weathers.length - 1 → aZ ws' i = true → aZ ws i = true) → NC d s → StN d t s → aR (cM d) k ws' s ≤ aR d k ws s
 | 0,_,_,_,_,_,_,_,_ => Int.le_refl _
 | k + 1,ws,ws',t,s,hk,hsub,hc,hs => by
  have hsl := lS h1
  have hnn : ∀ (k ws : Nat) (s : aB),0 ≤ aR (cM d) k ws s := fun k ws s => by
   cases k with
   | zero => exact cost0 dg s
   | succ k => rw [aR]; exact (mX (f := fun g => dO (cM d) (aR (cM d) k) (aT (cM d) - (k + 1)) g s) _ 0).1
  have key : ∀ g' ∈ bW (cM d) ws' (aT (cM d) - (k + 1)),dO (cM d) (aR (cM d) k) (aT (cM d) - (k + 1)) g' s ≤ aR d (k + 1) ws s := fun g' hg' => by
   obtain ⟨v,hv1,hv2,hv⟩ := fB.1 g' hg'
   rw [jS] at hv1 hv
   have hgv' : aZ g' v = true := (hv v).2 ⟨hv1,hv2,rfl⟩
   have hsl2 : aT (cM d) - (k + 1) = t := by omega
   rw [hsl2] at hv ⊢
   obtain ⟨g,hg,hgb⟩ := (fB (d := d) (ws := ws) (slot := t)).2.1 v (by omega) (hsub v hv1 hv2)
   obtain ⟨v2,_,_,hv3⟩ := fB.1 g hg
   obtain ⟨x,hx,hxe⟩ := aAk dg hk hg hc
   obtain ⟨_,hxm⟩ := hx v hgb
   obtain ⟨q1,q2,q3,q4⟩ := lE dg hs x hxm
   obtain ⟨f1,f2⟩ := aAu q3
   have hgsub : ∀ i,i < d.weathers.length - 1 → aZ g' i = true → aZ g i = true := fun i hi hb => by
    obtain ⟨a,b,c⟩ := (hv i).1 hb
    rw [uE hi,uE hv1] at c
    have e := ((hv3 v).1 hgb).2.2
    exact (hv3 i).2 ⟨by omega,hsub i hi b,by rw [c,e]⟩
   have ih := sC dg h1 k g g' (t + 1) x.2 (by omega) hgsub (by rw [q4]; exact f2) (by rw [q4]; exact yM q1 q2 hs)
   have hf := (gR (cM d).weathers.length g' ⟨v,by rw [jS]; exact hv1,hgv'⟩)
   have hf1 : dR g' (cM d).weathers.length < d.weathers.length - 1 := by have := hf.2.2; rw [jS] at this; rw [jS]; exact this
   have hop : wAt (cM d) (dR g' (cM d).weathers.length) t = wAt d v t := by
    have := ((hv _).1 hf.1).2.2
    rw [this,uE hv1]
   have hm := (pW (next := aR (cM d) k g') (dA (cM d) s (wAt (cM d) (dR g' (cM d).weathers.length) t)) (-1) fun y _ => hnn k g' y.2).2 x (by rw [hop]; exact (aDx (d := d) _ s _) ▸ hxm)
   have hle : dO d (aR d k) t g s ≤ aR d (k + 1) ws s := by
    have := (mX (f := fun g => dO d (aR d k) t g s) (bW d ws t) 0).2 g hg
    have e : aR d (k + 1) ws s = (bW d ws t).foldl (fun m g => max m (dO d (aR d k) t g s)) 0 := by rw [aR,show aT d - (k + 1) = t by omega]
    rw [e]; exact this
   rw [dO]
   omega
  rw [aR]
  rcases yF (f := fun g => dO (cM d) (aR (cM d) k) (aT (cM d) - (k + 1)) g s) (bW (cM d) ws' (aT (cM d) - (k + 1))) 0 with h | ⟨g',hg',h⟩
  · rw [h]; exact tG dg (k + 1) ws s
  · rw [← h]; exact key g' hg'
end
end Go.Proofs.Ab
namespace Go.Proofs.Ab
open Go Go.Proofs
section
variable {d : aO} {a b c : Int}
theorem aDE (hB : fC d = true) (h1 : 1 < d.weathers.length) : (iM (cM d)).2 ≤ (iM d).2 := by
 have dg := lZ hB
 have := sC dg h1 (aT d) (2 ^ d.weathers.length - 1) (2 ^ (cM d).weathers.length - 1) 0 (bP d) (by omega) (fun i hi _ => aJA (by omega)) (kR.1 hB).cr (aAM dg)
 have e : (iM (cM d)).2 = aR (cM d) (aT d) (2 ^ (cM d).weathers.length - 1) (bP d) := by rw [iM,lS h1]; rfl
 rw [e]; exact this
theorem aFQ (hB : fC d = true) (h1 : 1 < d.weathers.length) : fC (cM d) = true := by
 have sp := kR.1 hB
 have dg := lZ hB
 have w1 := dg.w1
 refine kR.2 ⟨sp.n,sp.l,sp.p,sp.q,by rw [jS]; simp only [inB,Bool.and_eq_true,decide_eq_true_eq]; omega,by rw [lS h1]; exact sp.s,sp.br,sp.lk,sp.pn,sp.pe,fun j hj => ?_,sp.cr⟩
 rw [jS] at hj
 rw [lS h1]
 have e : kT (cM d) j = kT d j := by
  rw [kT,kT,List.getD_eq_getElem?_getD,List.getD_eq_getElem?_getD]
  change ((d.weathers.take (d.weathers.length - 1))[j]?).getD [] = _
  rw [List.getElem?_take_of_lt hj]
 rw [e]
 exact sp.we j (by omega)
def mR (a b : Int) (p : bN) : bN := ⟨p.at_,p.home,p.seats + min b (20 - p.seats),p.duty + min a (20 - p.duty),p.away⟩
def mS (c : Int) (p : dI) : dI := ⟨p.berths + min c (2 - p.berths),p.lodge⟩
def bE (d : aO) (a b c : Int) : aO := ⟨d.places.map (mS c),d.links,d.planes.map (mR a b),d.people,d.weathers⟩
theorem oO (i : Nat) : (bE d a b c).planes.getD i ⟨0,0,0,0,0⟩ = if i < d.planes.length then mR a b (d.planes.getD i ⟨0,0,0,0,0⟩) else ⟨0,0,0,0,0⟩ := by
 change (d.planes.map (mR a b)).getD i ⟨0,0,0,0,0⟩ = _
 split
 · rename_i h
   rw [aH h,aH (by simpa using h),List.getElem_map]
 · rename_i h
   rw [List.getD_eq_getElem?_getD,List.getElem?_eq_none (by simp; omega)]; rfl
theorem lR (i : Nat) : (bE d a b c).places.getD i ⟨0,false⟩ = if i < d.places.length then mS c (d.places.getD i ⟨0,false⟩) else ⟨0,false⟩ := by
 change (d.places.map (mS c)).getD i ⟨0,false⟩ = _
 split
 · rename_i h
   rw [aH h,aH (by simpa using h),List.getElem_map]
 · rename_i h
   rw [List.getD_eq_getElem?_getD,List.getElem?_eq_none (by simp; omega)]; rfl
theorem tX {i : Nat} (h : ¬ i < d.planes.length) : d.planes.getD i ⟨0,0,0,0,0⟩ = ⟨0,0,0,0,0⟩ := by
 rw [List.getD_eq_getElem?_getD,List.getElem?_eq_none (by omega)]; rfl
theorem aBv {i : Nat} (h : ¬ i < d.places.length) : d.places.getD i ⟨0,false⟩ = ⟨0,false⟩ := by
 rw [List.getD_eq_getElem?_getD,List.getElem?_eq_none (by omega)]; rfl
theorem aDB (s : aB) : sM (bE d a b c) s = sM d s := by
 have h1 : ∀ i,jA (bE d a b c) s i = jA d s i := fun i => by
  rw [jA,jA,oO]
  split
  · rfl
  · rename_i h; rw [tX h]
 have h2 : ∀ i,fW (bE d a b c) s i = fW d s i := fun i => by
  have e : ((bE d a b c).places.getD (s.people.getD i 0).toNat ⟨0,false⟩).lodge = (d.places.getD (s.people.getD i 0).toNat ⟨0,false⟩).lodge := by
   rw [lR]
   split
   · rfl
   · rename_i h; rw [aBv h]
  rw [fW,fW,e]; rfl
 have hs : ∀ {f g : Nat → Int},(∀ i,f i = g i) → ∀ n,mM f n = mM g n := fun {f g} h n => by
  rw [show f = g from funext h]
 rw [sM,sM,hs h1,hs h2]
 have : (bE d a b c).planes.length = d.planes.length := by simp [bE]
 rw [this]; rfl
theorem aE2 (dg : gA d) (ha : 0 ≤ a) (hb : 0 ≤ b) (hc : 0 ≤ c) {s : aB} {op : Int} {u : List aD} (h : (dC d s op u).2.1 = 1) : dC (bE d a b c) s op u = dC d s op u := by
 have hpl : ∀ i,(d.planes.getD i ⟨0,0,0,0,0⟩).duty ≤ ((bE d a b c).planes.getD i ⟨0,0,0,0,0⟩).duty ∧ (d.planes.getD i ⟨0,0,0,0,0⟩).seats ≤ ((bE d a b c).planes.getD i ⟨0,0,0,0,0⟩).seats := fun i => by
  rw [oO]
  split
  · rename_i h
    have := dg.planes _ (List.getElem_mem h)
    rw [aH h]
    simp only [mR]
    omega
  · rename_i h; rw [tX h]; exact ⟨Int.le_refl _,Int.le_refl _⟩
 have hr : ∀ i x g g',gX d s op i x g = (none,g') → gX (bE d a b c) s op i x g = (none,g') := fun i x g g' h => by
  have h1 := hpl i
  simp only [gX] at h ⊢
  have e1 : dK (bE d a b c) (s.planes.getD i 0) x.to = dK d (s.planes.getD i 0) x.to := rfl
  have e2 : dT (bE d a b c) x.people = dT d x.people := rfl
  rw [e1,e2]
  split at h
  · cases h
  · rename_i c1
    rw [if_neg c1]
    split at h
    · cases h
    · rename_i c2
      rw [if_neg c2]
      split at h
      · cases h
      · rename_i c3
        rw [if_neg (by simp only [Bool.not_eq_true',decide_eq_false_iff_not,Int.not_lt,Int.not_le] at c3 ⊢; omega)]
        split at h
        · cases h
        · rename_i c4
          rw [if_neg c4]
          split at h
          · cases h
          · rename_i c5
            rw [if_neg (by simp only [Bool.not_eq_true',decide_eq_false_iff_not,Int.not_lt,Int.not_le] at c5 ⊢; omega)]
            exact h
 have hl : ∀ (u : List aD) (i : Nat) (n : aB) (g : List Bool) (n' : aB),hZ d s op u i n g = .ok n' → hZ (bE d a b c) s op u i n g = .ok n' := by
  intro u
  induction u with
  | nil => intro i n g n' h; exact h
  | cons x u ih =>
   intro i n g n' h
   rw [hZ] at h ⊢
   split at h
   · rename_i ht; rw [if_pos ht]; exact ih _ _ _ _ h
   · rename_i ht
     rw [if_neg ht]
     split at h
     · cases h
     · rename_i g' e
       rw [hr _ _ _ _ e]
       exact ih _ _ _ _ h
 rw [dC] at h ⊢
 rw [dC]
 cases e : hZ d s op u 0 s [false,false,false,false] with
 | error p => rw [e] at h; exact absurd h (tF _ _ _ _ _ _ e)
 | ok n =>
  rw [e] at h
  rw [hl _ _ _ _ _ e]
  simp only at h ⊢
  cases e2 : (List.range d.places.length).any (dH d n) with
  | true => rw [e2,if_pos rfl] at h; simp at h
  | false =>
   have : (List.range (bE d a b c).places.length).any (dH (bE d a b c) n) = false := by
    rw [List.any_eq_false] at e2 ⊢
    intro i hi
    have hlen : (bE d a b c).places.length = d.places.length := by simp [bE]
    rw [hlen] at hi
    have h2 := e2 i hi
    have hi := List.mem_range.1 hi
    have hbe := dg.berths _ (List.getElem_mem hi)
    simp only [dH,lR,if_pos hi,mS,decide_eq_true_eq,aH hi] at h2 ⊢
    omega
   rw [this]
end
end Go.Proofs.Ab
namespace Go.Proofs.Ab
open Go Go.Proofs
section
variable {d : aO} {a b c : Int}
theorem aBz (u : List aD) : pG (bE d a b c) u = pG d u := by
 have e : flB (bE d a b c) = flB d := by
  funext x
  have h1 : (bE d a b c).places.length = d.places.length := by simp [bE]
  simp only [flB,h1]
  rfl
 have h2 : (bE d a b c).planes.length = d.planes.length := by simp [bE]
 rw [pG,pG,e,h2]
theorem aAa (ws slot : Nat) : bW (bE d a b c) ws slot = bW d ws slot := by
 have hw : ∀ left w n,dP (bE d a b c) left slot w n = dP d left slot w n := by
  intro left w n
  induction n with
  | zero => rfl
  | succ n ih => rw [dP,dP,ih]; rfl
 have hf : ∀ n,bU (bE d a b c) ws slot n = bU d ws slot n := by
  intro n
  induction n with
  | zero => rfl
  | succ n ih =>
   rw [bU,bU,ih]
   simp only [hw]
   rfl
 rw [bW,bW,show (bE d a b c).weathers.length = d.weathers.length from rfl,hf]
theorem rX (dg : gA d) (dg' : gA (bE d a b c)) (ha : 0 ≤ a) (hb : 0 ≤ b) (hc0 : 0 ≤ c) : ∀ (k ws t : Nat) (s : aB),t + k = aT d → NC d s → StN d t s → aR (bE d a b c) k ws s ≤ aR d k ws s
 | 0,ws,t,s,_,_,_ => by
  rw [aR,aR,aDB]; exact Int.le_refl _
 | k + 1,ws,t,s,hk,hc,hs => by
  have ht : aT d - (k + 1) = t := by omega
  have hsl : aT (bE d a b c) = aT d := rfl
  have key : ∀ g ∈ bW d ws t,dO (bE d a b c) (aR (bE d a b c) k) t g s ≤ dO d (aR d k) t g s := fun g hg => by
   obtain ⟨v,hv1,hv2,hv⟩ := fB.1 g hg
   have hgv : aZ g v = true := (hv v).2 ⟨hv1,hv2,rfl⟩
   have hf := (gR d.weathers.length g ⟨v,hv1,hgv⟩).1
   have hfv := ((hv _).1 hf).2.2
   obtain ⟨x,hx,hxe⟩ := aAk dg hk hg hc
   obtain ⟨_,hxm⟩ := hx v hgv
   obtain ⟨q1,q2,q3,q4⟩ := lE dg hs x hxm
   obtain ⟨f1,f2⟩ := aAu q3
   have ih := rX dg dg' ha hb hc0 k g (t + 1) x.2 (by omega) (by rw [q4]; exact f2) (by rw [q4]; exact yM q1 q2 hs)
   have hfl := aE2 (a := a) (b := b) (c := c) dg ha hb hc0 q3
   have hmem := aDl dg' (u := x.1) (s := s) (op := wAt d v t) (by rw [aBz]; exact aHa dg hs hxm) (by rw [hfl]; exact q3)
   rw [hfl,← q4] at hmem
   have hop : wAt (bE d a b c) (dR g (bE d a b c).weathers.length) t = wAt d v t := hfv
   have hm := (pW (next := aR (bE d a b c) k g) (dA (bE d a b c) s (wAt (bE d a b c) (dR g (bE d a b c).weathers.length) t)) (-1) fun y _ => tG dg' k g y.2).2 x (by rw [hop]; exact hmem)
   rw [← hxe,dO]
   exact Int.le_trans hm ih
  have e1 : aR (bE d a b c) (k + 1) ws s = (bW d ws t).foldl (fun m g => max m (dO (bE d a b c) (aR (bE d a b c) k) t g s)) 0 := by rw [aR,hsl,ht,aAa]
  have e2 : aR d (k + 1) ws s = (bW d ws t).foldl (fun m g => max m (dO d (aR d k) t g s)) 0 := by rw [aR,ht]
  rw [e1]
  rcases yF (f := fun g => dO (bE d a b c) (aR (bE d a b c) k) t g s) (bW d ws t) 0 with h | ⟨g,hg,h⟩
  · rw [h]; exact tG dg (k + 1) ws s
  · rw [← h]
    have h1 := key g hg
    have h2 := (mX (f := fun g => dO d (aR d k) t g s) (bW d ws t) 0).2 g hg
    rw [e2]
    exact Int.le_trans h1 h2
theorem uD : bP (bE d a b c) = bP d := by
 simp only [bP,bE,List.map_map,List.length_map]
 congr 1
theorem aDC (hB : fC d = true) (hB' : fC (bE d a b c) = true) (ha : 0 ≤ a) (hb : 0 ≤ b) (hc : 0 ≤ c) : (iM (bE d a b c)).2 ≤ (iM d).2 := by
 have dg := lZ hB
 have := rX dg (lZ hB') ha hb hc (aT d) (2 ^ d.weathers.length - 1) 0 (bP d) (by omega) (kR.1 hB).cr (aAM dg)
 have e : (iM (bE d a b c)).2 = aR (bE d a b c) (aT d) (2 ^ d.weathers.length - 1) (bP d) := by rw [iM,uD]; rfl
 rw [e]; exact this
theorem aE3 (hB : fC d = true) (ha : 0 ≤ a) (hb : 0 ≤ b) (hc : 0 ≤ c) : fC (bE d a b c) = true := by
 have sp := kR.1 hB
 have dg := lZ hB
 have hl : (bE d a b c).places.length = d.places.length := by simp [bE]
 have hp : (bE d a b c).planes.length = d.planes.length := by simp [bE]
 refine kR.2 ⟨by rw [hl]; exact sp.n,sp.l,by rw [hp]; exact sp.p,sp.q,sp.w,sp.s,fun j hj => ?_,fun j hj => by rw [hl]; exact sp.lk j hj,fun j hj => ?_,fun j hj => by rw [hl]; exact sp.pe j hj,fun j hj => by rw [hl]; exact sp.we j hj,?_⟩
 · rw [hl] at hj
   have := sp.br j hj
   rw [lR,if_pos hj]
   obtain ⟨p,ep⟩ : ∃ p,p = d.places.getD j ⟨0,false⟩ := ⟨_,rfl⟩
   rw [← ep] at this ⊢
   simp only [inB,Bool.and_eq_true,decide_eq_true_eq] at this
   have e : (mS c p).berths = p.berths + min c (2 - p.berths) := rfl
   rw [inB,Bool.and_eq_true,e]
   exact ⟨decide_eq_true (by omega),decide_eq_true (by omega)⟩
 · rw [hp] at hj
   have := sp.pn j hj
   rw [oO,if_pos hj,hl]
   obtain ⟨p,ep⟩ : ∃ p,p = d.planes.getD j ⟨0,0,0,0,0⟩ := ⟨_,rfl⟩
   rw [← ep] at this ⊢
   have e : dN d.places.length (mR a b p) = (cI d.places.length p.at_ && (cI d.places.length p.home && (inB (p.seats + min b (20 - p.seats)) 0 20 && (inB (p.duty + min a (20 - p.duty)) 0 20 && inB p.away 0 1000000)))) := rfl
   rw [dN,Bool.and_eq_true,Bool.and_eq_true,Bool.and_eq_true,Bool.and_eq_true] at this
   obtain ⟨t1,t2,t3,t4,t5⟩ := this
   have h3 : inB (p.seats + min b (20 - p.seats)) 0 20 = true := by
    rw [inB,Bool.and_eq_true,decide_eq_true_eq,decide_eq_true_eq] at t3
    rw [inB,Bool.and_eq_true]
    exact ⟨decide_eq_true (by omega),decide_eq_true (by omega)⟩
   have h4 : inB (p.duty + min a (20 - p.duty)) 0 20 = true := by
    rw [inB,Bool.and_eq_true,decide_eq_true_eq,decide_eq_true_eq] at t4
    rw [inB,Bool.and_eq_true]
    exact ⟨decide_eq_true (by omega),decide_eq_true (by omega)⟩
   rw [e,t1,t2,h3,h4,t5]
   rfl
 · have := sp.cr
   rw [uD,List.any_eq_false] at *
   intro i hi
   rw [hl] at hi
   have h2 := this i hi
   have hi := List.mem_range.1 hi
   have hbe := dg.berths _ (List.getElem_mem hi)
   simp only [dH,lR,if_pos hi,mS,decide_eq_true_eq,aH hi] at h2 ⊢
   omega
end
end Go.Proofs.Ab
namespace Go.Proofs.Ab
open Go Go.Proofs
variable {w0 : World} {h : Heap}
attribute [local irreducible] ACall aS aV aM aP rvC rdC lp rg dr ex un rv rd'
theorem aEg (d : aO) (v : cJ) (a b c : Int) (hS : DayS w0 h d v) (hW : d.weathers.length ≤ 9223372036854775807) : ACall Try.prog w0 8 [.agg (bA v),.int .i64 a,.int .i64 b,.int .i64 c] h fun y H => y = .bool true ∧ aC h H := by
 refine bM aK mf8_ok mf8_b mf8_g (Nat.le_of_ble_eq_true rfl) fun hb ha => aX ?_
 obtain ⟨y1,y2,y3,y4,y5⟩ := hS.ones
 obtain ⟨l1,l2,l3,l4,l5⟩ := hS.lens
 obtain ⟨K,eK⟩ : ∃ K,K = h ++ [some (Blk.row [v.pl,v.ln,v.pn,v.pe,v.we])] := ⟨_,rfl⟩
 have sK : aC h K := eK ▸ aC.refl.app
 have k0 : K[h.length]? = some (some (.row [v.pl,v.ln,v.pn,v.pe,v.we])) := by rw [eK]; simp
 have k0L : ∀ L,(K ++ L)[h.length]? = some (some (.row [v.pl,v.ln,v.pn,v.pe,v.we])) := fun L => aA k0
 simp only [go_sem,mf8,bA,y1,y2,y3,y4,y5]
 rw [← eK]
 refine aJ (aFK d v (hS.sub sK) hW).v ?_
 cases e1 : jI d with
 | false =>
  simp only [go_sem]
  refine aJ nQ.v ?_
  simp only [go_sem]
  exact sK
 | true =>
 by_cases t1 : a < 0
 · simp only [go_sem,t1]
   refine aJ nQ.v ?_
   simp only [go_sem]
   exact sK
 by_cases t2 : b < 0
 · simp only [go_sem,t1,t2]
   refine aJ nQ.v ?_
   simp only [go_sem]
   exact sK
 by_cases t3 : c < 0
 · simp only [go_sem,t1,t2,t3]
   refine aJ nQ.v ?_
   simp only [go_sem]
   exact sK
 have hmm := e1
 simp only [jI,Bool.and_eq_true] at hmm
 have hB := hmm.2.1
 have dg := lZ hB
 have hR := (hS.sub sK).R hmm.1
 have pn := dg.pn
 have p1 := dg.p1
 obtain ⟨bx,ebx⟩ : ∃ bx,bx = K.length := ⟨_,rfl⟩
 obtain ⟨K0,eK0⟩ : ∃ K0 : Heap,K0 = K ++ [none] := ⟨_,rfl⟩
 have s0 : aC K K0 := eK0 ▸ aC.refl.app
 have xK : K0[bx]? = some none := by rw [eK0,ebx]; simp
 have gK := s0.2 _ _ k0
 have hRK := hR.sub s0
 simp only [go_sem,t1,t2,t3,k0,k0L,y1,y2,y3,y4,y5]
 rw [← ebx]
 refine fO (S := Nat × Heap × AV) (F := fun s => [(1,.int .i64 a),(2,.int .i64 b),(3,.int .i64 c),(4,.ptr (.own h.length 0)),(9,.ptr (.own bx 0)),(10,.int .i64 s.1)]) (H := fun s => s.2.1) (meas := fun s => d.planes.length - s.1)
  (Inv := fun s => s.1 ≤ d.planes.length ∧ Gro K0 s.2.1 5 s.1 s.2.2 (((d.planes.take s.1).map (mR a b)).map bN.c).flatten ∧ s.2.1[bx]? = some (some (.row [.nilS,v.ln,s.2.2,v.pe,v.we]))) (0,K ++ [some (Blk.row [.nilS,v.ln,.nilS,v.pe,v.we])],.nilS) ⟨by simp,Gro.nil ?_,by rw [ebx]; simp⟩ rfl rfl ?_
 · rw [eK0]
   refine ⟨by simp,fun i q e => ?_⟩
   rcases Nat.lt_or_ge i K.length with hi | hi
   · rw [List.getElem?_append_left hi] at e ⊢; exact e
   · rw [List.getElem?_append_right hi] at e
     have := aI e
     rw [List.length_singleton] at this
     rw [show i - K.length = 0 by omega] at e
     simp at e
 rintro ⟨j,H,lv⟩ ⟨hj,gr,gx⟩ ih
 simp only at hj gr gx ih
 refine aE aK L8_0_g [1,2,3,4,9,10] L8_0.eq_1 ?_
 have gH := gr.sub.2 _ _ gK
 have bH : ∀ L,(H ++ L)[h.length]? = some (some (.row [v.pl,v.ln,v.pn,v.pe,v.we])) := fun L => aA gH
 have bxH : ∀ L,(H ++ L)[bx]? = some (some (.row [.nilS,v.ln,lv,v.pe,v.we])) := fun L => aA gx
 have hRH := hRK.sub gr.sub
 rcases Nat.lt_or_ge j d.planes.length with hjl | hjl
 · have f1 : (j : Int) < d.planes.length := by omega
   obtain ⟨p,p1',p2⟩ := hRH.toDayS.plane hjl
   have p2' := p2 []
   rw [List.append_nil] at p2'
   obtain ⟨g,eg⟩ : ∃ g,g = d.planes[j] := ⟨_,rfl⟩
   rw [← eg] at p2 p2'
   have hg := dg.planes g (eg ▸ List.getElem_mem hjl)
   have og : g.c.all one = true := rfl
   simp only [go_sem,gH,bH,bxH,gx,l3,f1,p1',p2,p2',bN.c,og]
   obtain ⟨X,eX⟩ : ∃ X : List AV,X = [AV.int .i64 g.at_,AV.int .i64 g.home,AV.int .i64 (g.seats + min b (20 - g.seats)),AV.int .i64 (g.duty + min a (20 - g.duty)),AV.int .i64 g.away] := ⟨_,rfl⟩
   rw [← eX]
   have oX : X.all one = true := by rw [eX]; rfl
   have lX : X.length = 5 := by rw [eX]; rfl
   refine ⟨(by unfold I64; omega),(by unfold I64; omega),(by unfold I64; omega),(by unfold I64; omega),?_⟩
   obtain ⟨G2,eG,gG2⟩ := ((gr.at1 gx).app (L := [some (.row X),some (.row X)])).more (w0 := w0) (b := 40) (k := H.length + 1) (x := X) (f := true) (by simp) lX oX (by omega) (by omega)
   obtain ⟨gG3,gx3⟩ := gG2.unat xK
   have gx3' : ∀ L,(G2 ++ L)[bx]? = some (some (.row [.nilS,v.ln,lv,v.pe,v.we])) := fun L => aA gx3
   simp only [go_sem,eG,gx3,gx3']
   refine ⟨(by unfold I64; omega),?_⟩
   have hfl : (((d.planes.take (j + 1)).map (mR a b)).map bN.c).flatten = (((d.planes.take j).map (mR a b)).map bN.c).flatten ++ X := by
    rw [List.take_add_one,List.getElem?_eq_getElem hjl,Option.toList,List.map_append,List.map_append,List.flatten_append]
    simp [bN.c,mR,eX,eg]
   have := ih (j + 1,G2.set bx (some (.row [.nilS,v.ln,.sl (.own (H.length + 2) 0) (j + 1) 5 false,v.pe,v.we])),.sl (.own (H.length + 2) 0) (j + 1) 5 false) ⟨by simp only; omega,by simp only; rw [hfl]; exact (by simpa using gG3.setN xK),List.getElem?_set_self (by have := aF gx3; omega)⟩ (by simp only; omega)
   simpa using this
 have f1 : ¬ (j : Int) < d.planes.length := by omega
 obtain rfl : j = d.planes.length := by omega
 rw [List.take_length] at gr
 simp only [go_sem,gH,bH,l3,f1]
 obtain ⟨K1,eK1⟩ : ∃ K1 : Heap,K1 = H.set bx none := ⟨_,rfl⟩
 have gr1 : Gro K0 K1 5 d.planes.length lv ((d.planes.map (mR a b)).map bN.c).flatten := by rw [eK1]; exact gr.setN xK
 have xK1 : K1[bx]? = some none := by rw [eK1,List.getElem?_set_self (aF gx)]
 have gK1 := gr1.sub.2 _ _ gK
 have hRK1 := hRK.sub gr1.sub
 have hst : Sl w0 K1 5 lv ((d.planes.map (mR a b)).map bN.c) := gr1.sl (fun q hq => by obtain ⟨z,_,rfl⟩ := List.mem_map.1 hq; rfl) (by simp) (by omega)
 refine fO (S := Nat × Heap × AV) (F := fun s => [(3,.int .i64 c),(4,.ptr (.own h.length 0)),(9,.ptr (.own bx 0)),(12,.int .i64 s.1)]) (H := fun s => s.2.1) (meas := fun s => d.places.length - s.1)
  (Inv := fun s => s.1 ≤ d.places.length ∧ Gro K1 s.2.1 2 s.1 s.2.2 (((d.places.take s.1).map (mS c)).map dI.c).flatten ∧ s.2.1[bx]? = some (some (.row [s.2.2,v.ln,lv,v.pe,v.we]))) (0,H,.nilS) ⟨by simp,Gro.nil ?_,gx⟩ rfl rfl ?_
 · rw [eK1]
   refine ⟨by simp,fun i q e => ?_⟩
   by_cases e2 : bx = i
   · subst e2; rw [List.getElem?_set_self (aF gx)] at e; cases e
   · rwa [List.getElem?_set_ne e2] at e
 clear ih gx bxH gr gH bH hRH
 rintro ⟨j,H,qv⟩ ⟨hj,gr,gx⟩ ih
 simp only at hj gr gx ih
 refine aE aK L8_1_g [3,4,9,12] L8_1.eq_1 ?_
 have gH := gr.sub.2 _ _ gK1
 have bH : ∀ L,(H ++ L)[h.length]? = some (some (.row [v.pl,v.ln,v.pn,v.pe,v.we])) := fun L => aA gH
 have bxH : ∀ L,(H ++ L)[bx]? = some (some (.row [qv,v.ln,lv,v.pe,v.we])) := fun L => aA gx
 have hRH := hRK1.sub gr.sub
 rcases Nat.lt_or_ge j d.places.length with hjl | hjl
 · have f1 : (j : Int) < d.places.length := by omega
   obtain ⟨p,p1',p2⟩ := hRH.toDayS.place hjl
   have p2' := p2 []
   rw [List.append_nil] at p2'
   obtain ⟨g,eg⟩ : ∃ g,g = d.places[j] := ⟨_,rfl⟩
   rw [← eg] at p2 p2'
   have hg := dg.berths g (eg ▸ List.getElem_mem hjl)
   have og : g.c.all one = true := rfl
   simp only [go_sem,gH,bH,bxH,gx,l1,f1,p1',p2,p2',dI.c,og]
   obtain ⟨X,eX⟩ : ∃ X : List AV,X = [AV.int .i64 (g.berths + min c (2 - g.berths)),AV.bool g.lodge] := ⟨_,rfl⟩
   rw [← eX]
   have oX : X.all one = true := by rw [eX]; rfl
   have lX : X.length = 2 := by rw [eX]; rfl
   refine ⟨(by unfold I64; omega),(by unfold I64; omega),?_⟩
   obtain ⟨G2,eG,gG2⟩ := ((gr.at1 gx).app (L := [some (.row X),some (.row X)])).more (w0 := w0) (b := 16) (k := H.length + 1) (x := X) (f := true) (by simp) lX oX (by omega) (by omega)
   obtain ⟨gG3,gx3⟩ := gG2.unat xK1
   have gx3' : ∀ L,(G2 ++ L)[bx]? = some (some (.row [qv,v.ln,lv,v.pe,v.we])) := fun L => aA gx3
   simp only [go_sem,eG,gx3,gx3']
   refine ⟨(by unfold I64; omega),?_⟩
   have hfl : (((d.places.take (j + 1)).map (mS c)).map dI.c).flatten = (((d.places.take j).map (mS c)).map dI.c).flatten ++ X := by
    rw [List.take_add_one,List.getElem?_eq_getElem hjl,Option.toList,List.map_append,List.map_append,List.flatten_append]
    simp [dI.c,mS,eX,eg]
   have := ih (j + 1,G2.set bx (some (.row [.sl (.own (H.length + 2) 0) (j + 1) 2 false,v.ln,lv,v.pe,v.we])),.sl (.own (H.length + 2) 0) (j + 1) 2 false) ⟨by simp only; omega,by simp only; rw [hfl]; exact (by simpa using gG3.setN xK1),List.getElem?_set_self (by have := aF gx3; omega)⟩ (by simp only; omega)
   simpa using this
 have f1 : ¬ (j : Int) < d.places.length := by omega
 obtain rfl : j = d.places.length := by omega
 rw [List.take_length] at gr
 have hsp : Sl w0 H 2 qv ((d.places.map (mS c)).map dI.c) := gr.sl (fun q hq => by obtain ⟨z,_,rfl⟩ := List.mem_map.1 hq; rfl) (by simp) (by omega)
 have hX : mE w0 H (bE d a b c) ⟨qv,v.ln,lv,v.pe,v.we⟩ := by
  refine ⟨⟨hsp,hRH.links,hst.sub gr.sub,hRH.people,hRH.weathers⟩,by simpa [bE] using hRH.l1,hRH.l2,by simpa [bE] using hRH.l3,hRH.l4,hRH.l5,hRH.l6⟩
 simp only [go_sem,gH,bH,l1,f1,y1,y2,y3,y4,y5]
 refine aW (ACall.vc (first := []) (args := [_]) (vB d v hRH)) ?_
 rintro y H1 ⟨s1,hyes,_⟩
 obtain ⟨bv,rfl,_⟩ := hyes hB
 clear hyes
 obtain ⟨z1,z2,z3,z4,z5⟩ := hX.ones
 simp only at z1 z2 z3 z4 z5
 have gx1 := s1.2 _ _ gx
 have gx1L : ∀ L,(H1 ++ L)[bx]? = some (some (.row [qv,v.ln,lv,v.pe,v.we])) := fun L => aA gx1
 simp only [go_sem,gx1,gx1L,z1,z2,z3,z4,z5]
 refine aW (ACall.vc (first := []) (args := [_]) (vB (bE d a b c) ⟨qv,v.ln,lv,v.pe,v.we⟩ (hX.sub s1))) ?_
 rintro y H2 ⟨s2,hyes,_⟩
 have hB' := aE3 (a := a) (b := b) (c := c) hB (by omega) (by omega) (by omega)
 obtain ⟨bv2,rfl,_⟩ := hyes hB'
 clear hyes
 have hle := aDC hB hB' (a := a) (b := b) (c := c) (by omega) (by omega) (by omega)
 have hle' : ¬ (iM d).2 < (iM (bE d a b c)).2 := by omega
 have g2 := (s1.trans s2).2 _ _ gH
 have g2L : ∀ L,(H2 ++ L)[h.length]? = some (some (.row [v.pl,v.ln,v.pn,v.pe,v.we])) := fun L => aA g2
 simp only [go_sem,hle',g2,g2L,l5]
 have hH : aC h H := sK.trans (s0.trans (gr1.sub.trans gr.sub))
 have hH2 : aC h H2 := hH.trans (s1.trans s2)
 refine ⟨fun w1 => ?_,fun w1 => ?_⟩
 rotate_left
 · refine aJ nQ.v ?_
   simp only [go_sem]
   exact hH2
 have w1' : 1 < d.weathers.length := by omega
 have w6 := dg.w1
 have gx2 := (s1.trans s2).2 _ _ gx
 have hRh : mE w0 h d v := hS.R hmm.1
 obtain ⟨rows,r1,r2,r3⟩ := hRh.weathers
 rcases r2 with ⟨_,e⟩ | ⟨p,full,⟨es',ewe,he⟩,hp,hrr⟩
 · subst e; simp at r1; omega
 have hs : ∀ fr lo hi mx,sS 1 fr v.we lo hi mx = slK2 p rows.length 1 es' full (cO fr rows.length lo hi mx) := fun fr lo hi mx => by rw [ewe]; simp only [sS,he,if_true]; rfl
 obtain ⟨K5,eK5⟩ : ∃ K5,K5 = H2.set bx (some (Blk.row [v.pl,v.ln,v.pn,v.pe,v.we])) := ⟨_,rfl⟩
 have hbxl : h.length ≤ bx := by rw [ebx]; exact sK.1
 have hne : bx ≠ h.length := by rw [ebx,eK]; simp
 have q0 : K5[h.length]? = some (some (.row [v.pl,v.ln,v.pn,v.pe,v.we])) := by rw [eK5,List.getElem?_set_ne hne]; exact g2
 have q1 : K5[bx]? = some (some (.row [v.pl,v.ln,v.pn,v.pe,v.we])) := by rw [eK5]; exact List.getElem?_set_self (aF gx2)
 have q0L : ∀ L,(K5 ++ L)[h.length]? = some (some (.row [v.pl,v.ln,v.pn,v.pe,v.we])) := fun L => aA q0
 have d3 : (0 : Int) ≤ (d.weathers.length : Int) - 1 := by omega
 have d5 : ((d.weathers.length : Int) - 1).toNat = d.weathers.length - 1 := by omega
 have d7 : d.weathers.length - 1 ≤ rows.length := by omega
 simp only [go_sem,gx2,y1,y2,y3,y4,y5]
 rw [← eK5]
 simp only [go_sem,q0,q0L,q1,hs,d3,d5,d7]
 obtain ⟨fl,efl⟩ : ∃ fl,fl = (full && d.weathers.length - 1 == rows.length) := ⟨_,rfl⟩
 rw [← efl]
 obtain ⟨wv,ewv⟩ : ∃ wv,wv = AV.sl (p.add 0) (d.weathers.length - 1 - 0) es' fl := ⟨_,rfl⟩
 rw [← ewv]
 have owv : one wv = true := by rw [ewv]; rfl
 obtain ⟨K6,eK6⟩ : ∃ K6,K6 = K5.set bx (some (Blk.row [v.pl,v.ln,v.pn,v.pe,wv])) := ⟨_,rfl⟩
 have u1 : K6[bx]? = some (some (.row [v.pl,v.ln,v.pn,v.pe,wv])) := by rw [eK6]; exact List.getElem?_set_self (aF q1)
 rw [← eK6]
 refine ⟨(by unfold I64; omega),Nat.zero_le _,?_⟩
 have hK6 : aC h K6 := by rw [eK6,eK5]; exact (hH2.setR hbxl).setR hbxl
 have hLB := aFQ hB w1'
 have htk : ∀ {α : Type} {l : List α} {j : Nat} {c : α},(l.take (d.weathers.length - 1))[j]? = some c → l[j]? = some c := fun {α l j c} hc => by
  have hj := aI hc
  rw [List.length_take] at hj
  rwa [List.getElem?_take_of_lt (by omega)] at hc
 have hwe : LI w0 K6 wv (d.weathers.take (d.weathers.length - 1)) := by
  refine ⟨rows.take (d.weathers.length - 1),by rw [List.length_take,List.length_take,r1],.inr ⟨p.add 0,fl,⟨es',?_,(by cases p with | old a => simp [eD,Pl.add] | own i o => simpa [eD,Pl.add] using he)⟩,?_,fun j c hc => ?_⟩,fun j x c hx hc => ?_⟩
  · rw [ewv,List.length_take]
    congr 1
    omega
  · have := Pl.bdd_mono hK6.1 hp
    cases p with
    | old a => simp [Pl.bdd,Pl.add]
    | own i o => simpa [Pl.bdd,Pl.add] using this
  · rw [Pl.add_add,Nat.zero_add]
    exact hK6.rdn (hrr j c (htk hc))
  · exact Sl.sub (r3 j x c (htk hx) (htk hc)).choose_spec.2 hK6 |> fun h => ⟨_,(r3 j x c (htk hx) (htk hc)).choose_spec.1,h⟩
 have hR' : mE w0 K6 (cM d) ⟨v.pl,v.ln,v.pn,v.pe,wv⟩ := by
  have hk := hRh.sub hK6
  refine ⟨⟨hk.places,hk.links,hk.planes,hk.people,hwe⟩,hk.l1,hk.l2,hk.l3,hk.l4,by rw [jS]; omega,fun x hx => hk.l6 x (List.mem_of_mem_take hx)⟩
 simp only [go_sem,u1,y1,y2,y3,y4,owv]
 refine aW (ACall.vc (first := []) (args := [_]) (vB (cM d) ⟨v.pl,v.ln,v.pn,v.pe,wv⟩ hR')) ?_
 rintro y H3 ⟨s3,hyes,_⟩
 obtain ⟨bv3,rfl,_⟩ := hyes hLB
 clear hyes
 have hl3 : ¬ (iM d).2 < (iM (cM d)).2 := by have := aDE hB w1'; omega
 simp only [go_sem,hl3]
 refine aJ nQ.v ?_
 simp only [go_sem]
 exact hK6.trans s3
end Go.Proofs.Ab

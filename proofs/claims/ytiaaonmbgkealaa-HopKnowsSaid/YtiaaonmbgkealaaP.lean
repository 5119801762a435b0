/- The own layer under the proofs of this seat, part P: what calls of the program come to on an abstract heap. No condition. -/
import Derived.Test.YtiaaonmbgkealaaO
import Derived.Test.YtiaaonmbgkealaaM
set_option linter.unusedSimpArgs false
set_option linter.unusedVariables false
namespace Go.Proofs.Ab
open Go Go.Proofs
variable {w0 : World} {h : Heap}
theorem aCh.fl {d : aQ} {u : List aH} (a : aCh d u) (h4 : d.people.length ≤ 4) : ∀ x ∈ u,rJ d x := fun x hx => by
 have k := a.ok h4
 obtain ⟨h1,h2⟩ := a.pp x hx
 refine ⟨(a.to x hx).1,(a.to x hx).2,h1,?_⟩
 have key : ∀ (l : List Int) (b : Int),l.Pairwise (· < ·) → (∀ n ∈ l,b ≤ n ∧ n < d.people.length) → (l.length : Int) ≤ d.people.length - b ∨ l = [] := by
  intro l
  induction l with
  | nil => intro b _ _; exact .inr rfl
  | cons a l ih =>
   intro b hp hb
   obtain ⟨p1,p2⟩ := List.pairwise_cons.1 hp
   have hab := hb a (by simp)
   rcases ih (a + 1) p2 (fun n hn => ⟨by have := p1 n hn; omega,(hb n (by simp [hn])).2⟩) with h | h
   · left; simp; omega
   · subst h; left; simp; omega
 rcases key x.people 0 h2 (fun n hn => h1 n hn) with h | h
 · omega
 · rw [h]; simp
theorem uI {d : aQ} (dg : hZ d) : StN d 0 (bQ d) := ⟨by simp [bQ],by simp [bQ],by simp [bQ],fun x hx => by
 simp only [bQ,List.mem_map] at hx
 obtain ⟨p,hp,rfl⟩ := hx
 exact (dg.planes p hp).1,fun x hx => by
 simp only [bQ] at hx
 rw [(List.mem_replicate.1 hx).2]; simp,fun x hx => by
 simp only [bQ,List.mem_map] at hx
 obtain ⟨p,hp,rfl⟩ := hx
 exact (dg.people p hp).1⟩
end Go.Proofs.Ab
namespace Go.Proofs.Ab
open Go Go.Proofs
variable {w0 : World} {h : Heap}
attribute [local irreducible] ACall aS aW aM aP rvC rdC lp rg dr ex un rv rd'
end Go.Proofs.Ab
namespace Go.Proofs.Ab
open Go Go.Proofs
variable {w0 : World} {h : Heap}
attribute [local irreducible] ACall aS aW aM aP rvC rdC lp rg dr ex un rv rd'
end Go.Proofs.Ab
namespace Go.Proofs.Ab
open Go Go.Proofs
section
variable {d : aQ} {ws slot : Nat}
theorem bit_xa {a g i : Nat} : bM (a ^^^ (a &&& g)) i = (bM a i && !bM g i) := by
 rw [eT,eT,eT,Nat.testBit_xor,Nat.testBit_and]
 cases a.testBit i <;> cases g.testBit i <;> rfl
theorem pR : ∀ n,n ≤ d.weathers.length → (∀ i,i < d.weathers.length → (bM (cG d ws slot n).1 i = true ↔ bM ws i = true ∧ ∀ w,w < n → bM ws w = true → wAt d i slot ≠ wAt d w slot)) ∧
 (∀ g ∈ (cG d ws slot n).2,∃ w,w < n ∧ bM ws w = true ∧ ∀ i,bM g i = true ↔ i < d.weathers.length ∧ bM ws i = true ∧ wAt d i slot = wAt d w slot) ∧
 (∀ w,w < n → bM ws w = true → ∃ g ∈ (cG d ws slot n).2,bM g w = true) ∧
 (cG d ws slot n).2.Pairwise fun g g' => ∀ i,¬ (bM g i = true ∧ bM g' i = true)
 | 0,_ => ⟨fun i _ => by simp [cG],fun g hg => by simp [cG] at hg,fun w hw => by omega,by simp [cG]⟩
 | n + 1,hn => by
  obtain ⟨h1,h2,h3,h4⟩ := pR n (by omega)
  obtain ⟨l,el⟩ : ∃ l,l = (cG d ws slot n).1 := ⟨_,rfl⟩
  obtain ⟨gs,egs⟩ : ∃ gs,gs = (cG d ws slot n).2 := ⟨_,rfl⟩
  rw [← el] at h1
  rw [← egs] at h2 h3 h4
  rw [cG]
  simp only [← el,← egs]
  have hbit : ∀ i,bM (eV d l slot n d.weathers.length) i = true ↔ i < d.weathers.length ∧ bM l i = true ∧ wAt d i slot = wAt d n slot := fun i => by
   rw [oJ]; simp [and_assoc]
  cases hb : bM l n with
  | false =>
   rw [if_neg (by simp),← el,← egs]
   have hn0 : ¬ (bM ws n = true ∧ ∀ w,w < n → bM ws w = true → wAt d n slot ≠ wAt d w slot) := fun e => by
    have := (h1 n (by omega)).2 e; rw [hb] at this; cases this
   refine ⟨fun i hi => ?_,fun g hg => ?_,fun w hw hb2 => ?_,h4⟩
   · rw [h1 i hi]
     refine ⟨fun ⟨a,b⟩ => ⟨a,fun w hw hb2 => ?_⟩,fun ⟨a,b⟩ => ⟨a,fun w hw => b w (by omega)⟩⟩
     rcases Nat.lt_or_ge w n with h | h
     · exact b w h hb2
     · obtain rfl : w = n := by omega
       intro e
       refine hn0 ⟨hb2,fun w' hw' hb3 => ?_⟩
       rw [← e]; exact b w' hw' hb3
   · obtain ⟨w,a,b⟩ := h2 g hg
     exact ⟨w,by omega,b⟩
   · rcases Nat.lt_or_ge w n with h | h
     · exact h3 w h hb2
     · obtain rfl : w = n := by omega
       have : ∃ w',w' < w ∧ bM ws w' = true ∧ wAt d w slot = wAt d w' slot := by
        refine Classical.byContradiction fun hc => hn0 ⟨hb2,fun w' hw' hb3 e => hc ⟨w',hw',hb3,e⟩⟩
       obtain ⟨w',a,b,c⟩ := this
       obtain ⟨g,hg,hgw⟩ := h3 w' a b
       obtain ⟨v,_,_,hv⟩ := h2 g hg
       refine ⟨g,hg,(hv w).2 ⟨by omega,hb2,?_⟩⟩
       rw [c]; exact ((hv w').1 hgw).2.2
  | true =>
   rw [if_pos rfl]
   have hn1 := (h1 n (by omega)).1 hb
   have key : ∀ i,i < d.weathers.length → bM ws i = true → wAt d i slot = wAt d n slot → bM l i = true := fun i hi hb2 e => (h1 i hi).2 ⟨hb2,fun w hw hb3 => by rw [e]; exact hn1.2 w hw hb3⟩
   refine ⟨fun i hi => ?_,fun g hg => ?_,fun w hw hb2 => ?_,?_⟩
   · rw [bit_xa,Bool.and_eq_true,Bool.not_eq_true',Bool.eq_false_iff,ne_eq,hbit,h1 i hi]
     refine ⟨fun ⟨⟨a,b⟩,c⟩ => ⟨a,fun w hw hb2 => ?_⟩,fun ⟨a,b⟩ => ⟨⟨a,fun w hw => b w (by omega)⟩,fun c => b n (by omega) hn1.1 c.2.2⟩⟩
     rcases Nat.lt_or_ge w n with h | h
     · exact b w h hb2
     · obtain rfl : w = n := by omega
       exact fun e => c ⟨hi,⟨a,b⟩,e⟩
   · rcases List.mem_append.1 hg with hg | hg
     · obtain ⟨w,a,b⟩ := h2 g hg
       exact ⟨w,by omega,b⟩
     · simp only [List.mem_singleton] at hg
       subst hg
       refine ⟨n,by omega,hn1.1,fun i => ?_⟩
       rw [hbit]
       exact ⟨fun ⟨a,b,c⟩ => ⟨a,((h1 i a).1 b).1,c⟩,fun ⟨a,b,c⟩ => ⟨a,key i a b c,c⟩⟩
   · rcases Nat.lt_or_ge w n with h | h
     · obtain ⟨g,hg,hgw⟩ := h3 w h hb2
       exact ⟨g,List.mem_append.2 (.inl hg),hgw⟩
     · obtain rfl : w = n := by omega
       exact ⟨_,List.mem_append.2 (.inr (by simp)),(hbit w).2 ⟨by omega,hb,rfl⟩⟩
   · rw [List.pairwise_append]
     refine ⟨h4,by simp,fun g hg g' hg' i hi => ?_⟩
     simp only [List.mem_singleton] at hg'
     subst hg'
     obtain ⟨w,a,b,hv⟩ := h2 g hg
     obtain ⟨hi1,hi2⟩ := hi
     obtain ⟨c1,c2,c3⟩ := (hbit i).1 hi2
     exact ((h1 i c1).1 c2).2 w a b ((hv i).1 hi1).2.2
theorem lS : (∀ g ∈ cW d ws slot,∃ w,w < d.weathers.length ∧ bM ws w = true ∧ ∀ i,bM g i = true ↔ i < d.weathers.length ∧ bM ws i = true ∧ wAt d i slot = wAt d w slot) ∧
 (∀ w,w < d.weathers.length → bM ws w = true → ∃ g ∈ cW d ws slot,bM g w = true) ∧
 (cW d ws slot).Pairwise fun g g' => ∀ i,¬ (bM g i = true ∧ bM g' i = true) := (pR d.weathers.length (Nat.le_refl _)).2
end
def aBK (d : aQ) : Nat → Nat → aC → Nat → List (List aH)
 | 0,_,_,_ => []
 | k + 1,ws,s,w => match (cW d ws (aN d - (k + 1))).find? fun g => bM g w with
  | none => []
  | some g => match (dG d s (wAt d (fF g d.weathers.length) (aN d - (k + 1)))).find? (tS d k (aN d - (k + 1)) g s) with
   | none => []
   | some x => x.1 :: aBK d k g x.2 w
end Go.Proofs.Ab
namespace Go.Proofs.Ab
open Go Go.Proofs
section
variable {d : aQ}
def NC (d : aQ) (s : aC) : Prop := (List.range d.places.length).any (eX d s) = false
theorem aEi {s : aC} {op : Int} {i : Nat} {x : aH} {g g' : List Bool} {r : Int} (h : jJ d s op i x g = (some r,g')) : r ≠ 1 := by
 simp only [jJ] at h
 split at h
 · cases h; omega
 · split at h
   · cases h; omega
   · split at h
     · cases h; omega
     · split at h
       · cases h; omega
       · split at h
         · cases h; omega
         · cases h
theorem xG {s : aC} {op : Int} : ∀ (u : List aH) (i : Nat) (n : aC) (g : List Bool) (r p : Int),jY d s op u i n g = .error (r,p) → r ≠ 1
 | [],i,n,g,r,p,h => by cases h
 | x :: u,i,n,g,r,p,h => by
  rw [jY] at h
  split at h
  · exact xG u _ n g r p h
  · split at h
    · rename_i r' g' e
      cases h
      exact aEi e
    · exact xG u _ _ _ r p h
theorem aFB {s : aC} {op : Int} {u : List aH} (h : (eO d s op u).2.1 = 1) : (eO d s op u).2.2 = -1 ∧ NC d (eO d s op u).1 := by
 rw [eO] at h ⊢
 cases e : jY d s op u 0 s [false,false,false,false] with
 | error p =>
  rw [e] at h
  exact absurd h (xG _ _ _ _ _ _ e)
 | ok n =>
  rw [e] at h
  simp only at h ⊢
  cases e2 : (List.range d.places.length).any (eX d n) with
  | true => rw [e2,if_pos rfl] at h; simp at h
  | false => rw [if_neg (by simp)]; exact ⟨rfl,e2⟩
theorem qW {s : aC} {op : Int} : ∀ (u : List aH) (i : Nat) (n : aC) (g : List Bool),(∀ x ∈ u,x.to < 0) → jY d s op u i n g = .ok n
 | [],_,_,_,_ => rfl
 | x :: u,i,n,g,h => by
  rw [jY,if_pos (h x (by simp))]
  exact qW u _ n g fun y hy => h y (by simp [hy])
theorem uY {s : aC} {op : Int} (hc : NC d s) : ∀ (k gone : Nat) (u : List aH),(∀ x ∈ u,x.to < 0) → cY d s op k gone u ≠ []
 | 0,gone,u,hu => by
  rw [cY,eO,qW u _ _ _ hu]
  simp only
  rw [hc]
  simp
 | k + 1,gone,u,hu => by
  rw [cY,fE,List.flatMap_cons]
  intro e
  exact uY hc k gone (u ++ [⟨-1,[]⟩]) (fun x hx => by
   rcases List.mem_append.1 hx with h | h
   · exact hu x h
   · simp only [List.mem_singleton] at h; subst h; decide) (List.append_eq_nil_iff.1 e).1
theorem vO {next : aC → Int} : ∀ (l : List (List aH × aC)) (b : Int),(l.foldl (kS next) b = b ∧ 0 ≤ b) ∨ (∃ x ∈ l,next x.2 = l.foldl (kS next) b) ∨ l = []
 | [],b => .inr (.inr rfl)
 | x :: l,b => by
  rw [List.foldl_cons]
  have hm : kS next b x = next x.2 ∨ (kS next b x = b ∧ 0 ≤ b) := by
   rw [kS]
   split
   · exact .inl rfl
   · rename_i h
     refine .inr ⟨rfl,?_⟩
     simp only [Bool.or_eq_true,decide_eq_true_eq,not_or] at h
     omega
  rcases vO (next := next) l (kS next b x) with ⟨h1,h2⟩ | ⟨y,hy,h⟩ | h
  · rw [h1]
    rcases hm with e | ⟨e,e2⟩
    · exact .inr (.inl ⟨x,by simp,e.symm⟩)
    · exact .inl ⟨e,e2⟩
  · exact .inr (.inl ⟨y,by simp [hy],h⟩)
  · subst h
    rcases hm with e | ⟨e,e2⟩
    · exact .inr (.inl ⟨x,by simp,e.symm⟩)
    · exact .inl ⟨e,e2⟩
theorem pU {f : Nat → Int} : ∀ (l : List Nat) (b : Int),b ≤ l.foldl (fun m g => max m (f g)) b ∧ ∀ g ∈ l,f g ≤ l.foldl (fun m g => max m (f g)) b
 | [],b => ⟨Int.le_refl _,fun g hg => by cases hg⟩
 | x :: l,b => by
  obtain ⟨h1,h2⟩ := pU (f := f) l (max b (f x))
  rw [List.foldl_cons]
  refine ⟨by omega,fun g hg => ?_⟩
  rcases List.mem_cons.1 hg with h | h
  · subst h; omega
  · exact h2 g h
theorem aFL (dg : hZ d) (s : aC) : 0 ≤ oA d s := by
 have h1 := (nD (by omega) (uJ dg s) d.planes.length).1
 have h2 := (nD (by omega) (qP dg s) d.people.length).1
 rw [oA]; omega
theorem aCd (dg : hZ d) : ∀ (k ws : Nat) (s : aC),0 ≤ bA d k ws s
 | 0,_,s => aFL dg s
 | k + 1,ws,s => (pU _ _).1
theorem aC5 (dg : hZ d) {k ws w t : Nat} {s : aC} (hk : t + (k + 1) = aN d) (hw : w < d.weathers.length) (hb : bM ws w = true) (hc : NC d s) :
 ∃ (g : Nat) (x : List aH × aC),aBK d (k + 1) ws s w = x.1 :: aBK d k g x.2 w ∧ bM g w = true ∧ x ∈ dG d s (wAt d w t) ∧ bA d k g x.2 ≤ bA d (k + 1) ws s := by
 have ht : aN d - (k + 1) = t := by omega
 obtain ⟨g0,hg0,hb0⟩ := (lS (d := d) (ws := ws) (slot := aN d - (k + 1))).2.1 w hw hb
 obtain ⟨g,eg⟩ : ∃ g,(cW d ws (aN d - (k + 1))).find? (fun g => bM g w) = some g := by
  cases e : (cW d ws (aN d - (k + 1))).find? (fun g => bM g w) with
  | some g => exact ⟨g,rfl⟩
  | none => exact absurd hb0 (List.find?_eq_none.1 e g0 hg0)
 have hgb : bM g w = true := List.find?_some (p := fun g => bM g w) eg
 have hgm := List.mem_of_find?_eq_some eg
 obtain ⟨v,_,_,hv⟩ := lS.1 g hgm
 have hf := (kM d.weathers.length g ⟨w,hw,hgb⟩).1
 have hwa : wAt d (fF g d.weathers.length) (aN d - (k + 1)) = wAt d w t := by
  have h1 := ((hv _).1 hf).2.2
  have h2 := ((hv w).1 hgb).2.2
  rw [h1,← h2,ht]
 have hle : dE d k (aN d - (k + 1)) g s ≤ bA d (k + 1) ws s := (pU (f := fun g => iT d (bA d k) (aN d - (k + 1)) g s) (cW d ws (aN d - (k + 1))) 0).2 g hgm
 have hex : ∃ x ∈ dG d s (wAt d w t),bA d k g x.2 = dE d k (aN d - (k + 1)) g s := by
  rw [dE,iT,hwa]
  rcases vO (next := bA d k g) (dG d s (wAt d w t)) (-1) with ⟨_,h⟩ | h | h
  · omega
  · exact h
  · exact absurd h (uY hc _ _ _ (by simp))
 obtain ⟨y,hy,ey⟩ := hex
 obtain ⟨x,ex'⟩ : ∃ x,(dG d s (wAt d w t)).find? (tS d k (aN d - (k + 1)) g s) = some x := by
  cases e : (dG d s (wAt d w t)).find? (tS d k (aN d - (k + 1)) g s) with
  | some x => exact ⟨x,rfl⟩
  | none => exact absurd (by rw [tS,ey]; simp) (List.find?_eq_none.1 e y hy)
 have hh : tS d k (aN d - (k + 1)) g s x = true := List.find?_some ex'
 simp only [tS,Bool.not_eq_true',decide_eq_false_iff_not] at hh
 refine ⟨g,x,?_,hgb,List.mem_of_find?_eq_some ex',by omega⟩
 rw [aBK,eg]
 simp only
 rw [hwa,ex']
end
end Go.Proofs.Ab
namespace Go.Proofs.Ab
open Go Go.Proofs
section
variable {d : aQ}
theorem aJf {n w : Nat} (hw : w < n) : bM (2 ^ n - 1) w = true := by
 rw [eT,Nat.testBit_two_pow_sub_one]; exact decide_eq_true hw
theorem aD0 {s : aC} {t : Nat} (a : StN d t s) (ht : t ≤ 5) : fU d s = true := by
 rw [fU,decide_eq_true a.s1,decide_eq_true a.s2,decide_eq_true a.s3,List.all_eq_true.2 fun x hx => fW.2 (a.at_ x hx),List.all_eq_true.2 fun x hx => fW.2 (a.pat x hx),List.all_eq_true.2 fun x hx => by
  have := a.lg x hx
  simp only [inB,Bool.and_eq_true,decide_eq_true_eq]; omega]
 rfl
end
end Go.Proofs.Ab
namespace Go.Proofs.Ab
open Go Go.Proofs
variable {w0 : World} {h : Heap}
attribute [local irreducible] ACall aS aW aM aP rvC rdC lp rg dr ex un rv rd'
def iZ (d : aQ) : Bool := jH d && (dN d && (decide (d.places.length ≤ 4) && (decide (d.people.length ≤ 3) && (decide (aN d ≤ 3) && (decide (d.planes.length < 2) || decide (d.people.length < 3))))))
theorem aFh (d : aQ) (v : cD) (hS : DayS w0 h d v) (hW : d.weathers.length ≤ 9223372036854775807) : aM Try.prog w0 29 [.agg (aX v)] h (.bool (iZ d)) h := by
 refine aJ aL aHD mf29_b mf29_g (Nat.le_of_ble_eq_true rfl) (by simp [AV.bdd,AV.bdds]) fun hb ha => aV ?_
 obtain ⟨y1,y2,y3,y4,y5⟩ := hS.ones
 obtain ⟨l1,l2,l3,l4,l5⟩ := hS.lens
 obtain ⟨K,eK⟩ : ∃ K,K = h ++ [some (Blk.row [v.pl,v.ln,v.pn,v.pe,v.we])] := ⟨_,rfl⟩
 have sK : aB h K := eK ▸ aB.refl.app
 have k0 : K[h.length]? = some (some (.row [v.pl,v.ln,v.pn,v.pe,v.we])) := by rw [eK]; simp
 have k0L : ∀ L,(K ++ L)[h.length]? = some (some (.row [v.pl,v.ln,v.pn,v.pe,v.we])) := fun L => aA k0
 have c5 : ∀ a b : Nat,((a : Int) ≤ b) = (a ≤ b) := fun a b => by simp only [eq_iff_iff]; omega
 have c6 : ∀ a b : Nat,((a : Int) < b) = (a < b) := fun a b => by simp only [eq_iff_iff]; omega
 simp only [go_sem,mf29,aX,y1,y2,y3,y4,y5]
 rw [← eK]
 refine aF (aGV d v (hS.sub sK) hW).v ?_
 cases e1 : jH d with
 | false => simp only [go_sem]; exact ⟨by simp [iZ,e1],_,eK⟩
 | true =>
 have hR := (hS.sub sK).R e1
 simp only [go_sem,k0,k0L,y1,y2,y3,y4,y5]
 refine aF (rday_c d v hR).v ?_
 cases e2 : dN d with
 | false => simp only [go_sem]; exact ⟨by simp [iZ,e2],_,eK⟩
 | true =>
 have dg := jR e2
 simp only [go_sem,k0,k0L,l1,l2,l3,l4,y1,y2,y3,y4,y5]
 refine ⟨fun e3 => ⟨fun e4 => ?_,fun e4 => ⟨by rw [iZ,decide_eq_false (p := d.people.length ≤ 3) (by omega)]; simp,_,eK⟩⟩,fun e3 => ⟨by rw [iZ,decide_eq_false (p := d.places.length ≤ 4) (by omega)]; simp,_,eK⟩⟩
 refine aF (aEj d v hR.toDayS (List.length_pos_iff.1 dg.w0)).v ?_
 have hm : iZ d = (decide (aN d ≤ 3) && (decide (d.planes.length < 2) || decide (d.people.length < 3))) := by
  rw [iZ,e1,e2,decide_eq_true (p := d.people.length ≤ 3) (by omega),decide_eq_true (p := d.places.length ≤ 4) (by omega)]; rfl
 by_cases e5 : (aN d : Int) ≤ 3
 · by_cases e6 : (d.planes.length : Int) < 2
   · simp only [go_sem,k0,k0L,l3,l4,e5,e6]
     exact ⟨by rw [hm,decide_eq_true (p := aN d ≤ 3) (by omega),decide_eq_true (p := d.planes.length < 2) (by omega)]; rfl,_,eK⟩
   · by_cases e7 : (d.people.length : Int) < 3
     · simp only [go_sem,k0,k0L,l3,l4,e5,e6,e7]
       exact ⟨by rw [hm,decide_eq_true (p := aN d ≤ 3) (by omega),decide_eq_true (p := d.people.length < 3) (by omega)]; simp,_,eK⟩
     · simp only [go_sem,k0,k0L,l3,l4,e5,e6,e7]
       exact ⟨by rw [hm,decide_eq_false (p := d.planes.length < 2) (by omega),decide_eq_false (p := d.people.length < 3) (by omega)]; simp,_,eK⟩
 · simp only [go_sem,k0,k0L,l3,l4,e5]
   exact ⟨by rw [hm,decide_eq_false (p := aN d ≤ 3) (by omega)]; rfl,_,eK⟩
end Go.Proofs.Ab

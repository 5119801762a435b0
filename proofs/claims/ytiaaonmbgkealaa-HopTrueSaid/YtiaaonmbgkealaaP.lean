/- The own layer under the proofs of this seat, part P: what calls of the program come to on an abstract heap. No condition. -/
import Derived.Test.YtiaaonmbgkealaaO
import Derived.Test.YtiaaonmbgkealaaM
set_option linter.unusedSimpArgs false
set_option linter.unusedVariables false
namespace Go.Proofs.Ab
open Go Go.Proofs
variable {w0 : World} {h : Heap}
structure PolOK (d : aO) (pol : eY) : Prop where
 len : pol.length = d.weathers.length
 row : ∀ (w : Nat) (hw : w < pol.length),pol[w].length = aJ d
 un : ∀ (w : Nat) (hw : w < pol.length) (t : Nat) (ht : t < pol[w].length),eM d pol[w][t] = true
theorem aHL {d : aO} {pol : eY} (e : xN d pol = true) : PolOK d pol := by
 simp only [xN,Bool.and_eq_true,decide_eq_true_eq,List.all_eq_true] at e
 exact ⟨e.2,fun w hw => (e.1 _ (List.getElem_mem hw)).1,fun w hw t ht => (e.1 _ (List.getElem_mem hw)).2 _ (List.getElem_mem ht)⟩
theorem aAK.fl {d : aO} {u : List aF} (a : aAK d u) (h4 : d.people.length ≤ 4) : ∀ x ∈ u,rP d x := fun x hx => by
 have k := a.ok h4
 obtain ⟨h1,h2⟩ := a.pp x hx
 refine ⟨(a.to x hx).1,(a.to x hx).2,h1,?_⟩
 have key : ∀ (l : List Int) (b : Int),l.Pairwise (· < ·) → (∀ n ∈ l,b ≤ n ∧ n < d.people.length) → (l.length : Int) ≤ d.people.length - b ∨ l = [] := by
  intro l
  induction l with
  | nil => intro b _ _; exact .inr rfl
  | cons a l ih =>
   intro b hp hb
   obtain ⟨p1,p2⟩ := List.pairwise_cons.1 hp
   have hab := hb a (by simp)
   rcases ih (a + 1) p2 (fun n hn => ⟨by have := p1 n hn; omega,(hb n (by simp [hn])).2⟩) with h | h
   · left; simp; omega
   · subst h; left; simp; omega
 rcases key x.people 0 h2 (fun n hn => h1 n hn) with h | h
 · omega
 · rw [h]; simp
theorem aGF {d : aO} (dg : iC d) : StN d 0 (bS d) := ⟨by simp [bS],by simp [bS],by simp [bS],fun x hx => by
 simp only [bS,List.mem_map] at hx
 obtain ⟨p,hp,rfl⟩ := hx
 exact (dg.planes p hp).1,fun x hx => by
 simp only [bS] at hx
 rw [(List.mem_replicate.1 hx).2]; simp,fun x hx => by
 simp only [bS,List.mem_map] at hx
 obtain ⟨p,hp,rfl⟩ := hx
 exact (dg.people p hp).1⟩
theorem wAt_bd {d : aO} (dg : iC d) {w t : Nat} (hw : w < d.weathers.length) (ht : t < aJ d) : ∃ h2 : t < d.weathers[w].length,wAt d w t = d.weathers[w][t] ∧ 0 ≤ wAt d w t ∧ wAt d w t < 2 ^ 5 := by
 obtain ⟨h1,h2⟩ := dg.rows _ (List.getElem_mem hw)
 have h3 : t < d.weathers[w].length := by omega
 have e : wAt d w t = d.weathers[w][t] := by rw [wAt,aE hw,aE h3]
 exact ⟨h3,e,by rw [e]; exact h2 _ (List.getElem_mem h3)⟩
theorem aDQ {ms : List Nat} {A B : Heap} (s : aB A B) : aB (msk ms A) (msk ms B) := qY s.1 fun i b _ e => s.2 i b e
end Go.Proofs.Ab
namespace Go.Proofs.Ab
open Go Go.Proofs
variable {w0 : World} {h : Heap}
attribute [local irreducible] ACall aT aX aN aQ rvC rdC lp rg dr ex un rv rd'
end Go.Proofs.Ab
namespace Go.Proofs.Ab
open Go Go.Proofs
variable {w0 : World} {h : Heap}
attribute [local irreducible] ACall aT aX aN aQ rvC rdC lp rg dr ex un rv rd'
end Go.Proofs.Ab
namespace Go.Proofs.Ab
open Go Go.Proofs
section
variable {d : aO} {ws slot : Nat}
theorem bit_xa {a g i : Nat} : bA (a ^^^ (a &&& g)) i = (bA a i && !bA g i) := by
 rw [fO,fO,fO,Nat.testBit_xor,Nat.testBit_and]
 cases a.testBit i <;> cases g.testBit i <;> rfl
theorem pY : ∀ n,n ≤ d.weathers.length → (∀ i,i < d.weathers.length → (bA (cH d ws slot n).1 i = true ↔ bA ws i = true ∧ ∀ w,w < n → bA ws w = true → wAt d i slot ≠ wAt d w slot)) ∧
 (∀ g ∈ (cH d ws slot n).2,∃ w,w < n ∧ bA ws w = true ∧ ∀ i,bA g i = true ↔ i < d.weathers.length ∧ bA ws i = true ∧ wAt d i slot = wAt d w slot) ∧
 (∀ w,w < n → bA ws w = true → ∃ g ∈ (cH d ws slot n).2,bA g w = true) ∧
 (cH d ws slot n).2.Pairwise fun g g' => ∀ i,¬ (bA g i = true ∧ bA g' i = true)
 | 0,_ => ⟨fun i _ => by simp [cH],fun g hg => by simp [cH] at hg,fun w hw => by omega,by simp [cH]⟩
 | n + 1,hn => by
  obtain ⟨h1,h2,h3,h4⟩ := pY n (by omega)
  obtain ⟨l,el⟩ : ∃ l,l = (cH d ws slot n).1 := ⟨_,rfl⟩
  obtain ⟨gs,egs⟩ : ∃ gs,gs = (cH d ws slot n).2 := ⟨_,rfl⟩
  rw [← el] at h1
  rw [← egs] at h2 h3 h4
  rw [cH]
  simp only [← el,← egs]
  have hbit : ∀ i,bA (eT d l slot n d.weathers.length) i = true ↔ i < d.weathers.length ∧ bA l i = true ∧ wAt d i slot = wAt d n slot := fun i => by
   rw [oN]; simp [and_assoc]
  cases hb : bA l n with
  | false =>
   rw [if_neg (by simp),← el,← egs]
   have hn0 : ¬ (bA ws n = true ∧ ∀ w,w < n → bA ws w = true → wAt d n slot ≠ wAt d w slot) := fun e => by
    have := (h1 n (by omega)).2 e; rw [hb] at this; cases this
   refine ⟨fun i hi => ?_,fun g hg => ?_,fun w hw hb2 => ?_,h4⟩
   · rw [h1 i hi]
     refine ⟨fun ⟨a,b⟩ => ⟨a,fun w hw hb2 => ?_⟩,fun ⟨a,b⟩ => ⟨a,fun w hw => b w (by omega)⟩⟩
     rcases Nat.lt_or_ge w n with h | h
     · exact b w h hb2
     · obtain rfl : w = n := by omega
       intro e
       refine hn0 ⟨hb2,fun w' hw' hb3 => ?_⟩
       rw [← e]; exact b w' hw' hb3
   · obtain ⟨w,a,b⟩ := h2 g hg
     exact ⟨w,by omega,b⟩
   · rcases Nat.lt_or_ge w n with h | h
     · exact h3 w h hb2
     · obtain rfl : w = n := by omega
       have : ∃ w',w' < w ∧ bA ws w' = true ∧ wAt d w slot = wAt d w' slot := by
        refine Classical.byContradiction fun hc => hn0 ⟨hb2,fun w' hw' hb3 e => hc ⟨w',hw',hb3,e⟩⟩
       obtain ⟨w',a,b,c⟩ := this
       obtain ⟨g,hg,hgw⟩ := h3 w' a b
       obtain ⟨v,_,_,hv⟩ := h2 g hg
       refine ⟨g,hg,(hv w).2 ⟨by omega,hb2,?_⟩⟩
       rw [c]; exact ((hv w').1 hgw).2.2
  | true =>
   rw [if_pos rfl]
   have hn1 := (h1 n (by omega)).1 hb
   have key : ∀ i,i < d.weathers.length → bA ws i = true → wAt d i slot = wAt d n slot → bA l i = true := fun i hi hb2 e => (h1 i hi).2 ⟨hb2,fun w hw hb3 => by rw [e]; exact hn1.2 w hw hb3⟩
   refine ⟨fun i hi => ?_,fun g hg => ?_,fun w hw hb2 => ?_,?_⟩
   · rw [bit_xa,Bool.and_eq_true,Bool.not_eq_true',Bool.eq_false_iff,ne_eq,hbit,h1 i hi]
     refine ⟨fun ⟨⟨a,b⟩,c⟩ => ⟨a,fun w hw hb2 => ?_⟩,fun ⟨a,b⟩ => ⟨⟨a,fun w hw => b w (by omega)⟩,fun c => b n (by omega) hn1.1 c.2.2⟩⟩
     rcases Nat.lt_or_ge w n with h | h
     · exact b w h hb2
     · obtain rfl : w = n := by omega
       exact fun e => c ⟨hi,⟨a,b⟩,e⟩
   · rcases List.mem_append.1 hg with hg | hg
     · obtain ⟨w,a,b⟩ := h2 g hg
       exact ⟨w,by omega,b⟩
     · simp only [List.mem_singleton] at hg
       subst hg
       refine ⟨n,by omega,hn1.1,fun i => ?_⟩
       rw [hbit]
       exact ⟨fun ⟨a,b,c⟩ => ⟨a,((h1 i a).1 b).1,c⟩,fun ⟨a,b,c⟩ => ⟨a,key i a b c,c⟩⟩
   · rcases Nat.lt_or_ge w n with h | h
     · obtain ⟨g,hg,hgw⟩ := h3 w h hb2
       exact ⟨g,List.mem_append.2 (.inl hg),hgw⟩
     · obtain rfl : w = n := by omega
       exact ⟨_,List.mem_append.2 (.inr (by simp)),(hbit w).2 ⟨by omega,hb,rfl⟩⟩
   · rw [List.pairwise_append]
     refine ⟨h4,by simp,fun g hg g' hg' i hi => ?_⟩
     simp only [List.mem_singleton] at hg'
     subst hg'
     obtain ⟨w,a,b,hv⟩ := h2 g hg
     obtain ⟨hi1,hi2⟩ := hi
     obtain ⟨c1,c2,c3⟩ := (hbit i).1 hi2
     exact ((h1 i c1).1 c2).2 w a b ((hv i).1 hi1).2.2
theorem hJ : (∀ g ∈ cX d ws slot,∃ w,w < d.weathers.length ∧ bA ws w = true ∧ ∀ i,bA g i = true ↔ i < d.weathers.length ∧ bA ws i = true ∧ wAt d i slot = wAt d w slot) ∧
 (∀ w,w < d.weathers.length → bA ws w = true → ∃ g ∈ cX d ws slot,bA g w = true) ∧
 (cX d ws slot).Pairwise fun g g' => ∀ i,¬ (bA g i = true ∧ bA g' i = true) := (pY d.weathers.length (Nat.le_refl _)).2
theorem aAJ {g : Nat} {u : List aF} {pol : eY} {w : Nat} (hw : w < pol.length) : ∀ n,(jY g u pol n).getD w [] = pol.getD w [] ++ (if decide (w < n) && bA g w then [u] else [])
 | 0 => by simp [jY]
 | n + 1 => by
  have ih := aAJ (g := g) (u := u) hw n
  have hl := uT (g := g) (u := u) (pol := pol) n
  rw [jY]
  by_cases e : w = n
  · subst e
    have h1 : decide (w < w) = false := decide_eq_false (by omega)
    have h2 : decide (w < w + 1) = true := decide_eq_true (by omega)
    rw [h1,Bool.false_and,if_neg (by simp),List.append_nil] at ih
    rw [h2,Bool.true_and]
    split
    · rw [List.getD_eq_getElem?_getD,List.getElem?_set_self (by rw [hl]; exact hw),Option.getD_some,ih]
    · rw [ih,List.append_nil]
  · have h1 : decide (w < n + 1) = decide (w < n) := by rw [decide_eq_decide]; omega
    rw [h1,← ih]
    split
    · rw [List.getD_eq_getElem?_getD,List.getElem?_set_ne (by omega),← List.getD_eq_getElem?_getD]
    · rfl
end
def iH (d : aO) : Nat → Nat → aC → Nat → List (List aF)
 | 0,_,_,_ => []
 | k + 1,ws,s,w => match (cX d ws (aJ d - (k + 1))).find? fun g => bA g w with
  | none => []
  | some g => match (dJ d s (wAt d (fT g d.weathers.length) (aJ d - (k + 1)))).find? (oM d k (aJ d - (k + 1)) g s) with
   | none => []
   | some x => x.1 :: iH d k g x.2 w
theorem aE1 {d : aO} {w : Nat} : ∀ (k ws : Nat) (s : aC),bA ws w = false → iH d k ws s w = []
 | 0,_,_,_ => rfl
 | k + 1,ws,s,hb => by
  have : (cX d ws (aJ d - (k + 1))).find? (fun g => bA g w) = none := by
   rw [List.find?_eq_none]
   intro g hg hbg
   obtain ⟨v,_,_,hv⟩ := hJ.1 g hg
   have := ((hv w).1 hbg).2.1
   rw [hb] at this; cases this
  rw [iH,this]
theorem aAm {W w : Nat} {step : eY → Nat → eY} {F : Nat → List (List aF)} (hw : w < W) (hs : ∀ p g,p.length = W → (step p g).length = W ∧ (step p g).getD w [] = p.getD w [] ++ (if bA g w = true then F g else [])) : ∀ (gs : List Nat) (p : eY),p.length = W → gs.Pairwise (fun g g' => ∀ i,¬ (bA g i = true ∧ bA g' i = true)) →
 (gs.foldl step p).length = W ∧ (gs.foldl step p).getD w [] = p.getD w [] ++ (match gs.find? (fun g => bA g w) with | none => [] | some g => F g)
 | [],p,hp,_ => ⟨hp,by simp⟩
 | g :: gs,p,hp,hd => by
  obtain ⟨d1,d2⟩ := List.pairwise_cons.1 hd
  obtain ⟨s1,s2⟩ := hs p g hp
  obtain ⟨i1,i2⟩ := aAm hw hs gs (step p g) s1 d2
  rw [List.foldl_cons]
  refine ⟨i1,?_⟩
  rw [i2,s2]
  cases hb : bA g w with
  | true =>
   have : gs.find? (fun g => bA g w) = none := by
    rw [List.find?_eq_none]
    intro g' hg' hb'
    exact d1 g' hg' w ⟨hb,hb'⟩
   rw [this,List.find?_cons,hb]
   simp
  | false =>
   rw [List.find?_cons,hb]
   simp
theorem wP {d : aO} : ∀ (k ws : Nat) (s : aC) (pol : eY),pol.length = d.weathers.length → (gD d k ws s pol).length = pol.length ∧ ∀ w,w < pol.length → (gD d k ws s pol).getD w [] = pol.getD w [] ++ iH d k ws s w
 | 0,ws,s,pol,_ => ⟨rfl,fun w _ => by simp [gD,iH]⟩
 | k + 1,ws,s,pol,hp => by
  obtain ⟨_,_,h3⟩ := hJ (d := d) (ws := ws) (slot := aJ d - (k + 1))
  rw [rL]
  have step : ∀ (g : Nat) (p : eY),p.length = d.weathers.length → (gQ d k (aJ d - (k + 1)) s p g).length = p.length ∧ ∀ w,w < p.length → (gQ d k (aJ d - (k + 1)) s p g).getD w [] = p.getD w [] ++ (if bA g w = true then (match (dJ d s (wAt d (fT g d.weathers.length) (aJ d - (k + 1)))).find? (oM d k (aJ d - (k + 1)) g s) with
   | none => []
   | some x => x.1 :: iH d k g x.2 w) else []) := fun g p hpl => by
   rw [gQ]
   cases (dJ d s (wAt d (fT g d.weathers.length) (aJ d - (k + 1)))).find? (oM d k (aJ d - (k + 1)) g s) with
   | none => exact ⟨rfl,fun w _ => by simp [pL]⟩
   | some x =>
    have hal := uT (g := g) (u := x.1) (pol := p) d.weathers.length
    obtain ⟨b1,b2⟩ := wP k g x.2 (jY g x.1 p d.weathers.length) (by rw [hal,hpl])
    refine ⟨by simp only [pL]; rw [b1,hal],fun w hw => ?_⟩
    simp only [pL]
    rw [b2 w (by rw [hal]; exact hw),aAJ hw,decide_eq_true (show w < d.weathers.length by omega),Bool.true_and]
    cases hb : bA g w with
    | true => simp
    | false => rw [aE1 k g x.2 hb]; simp
  have hl : ∀ (gs : List Nat) (p : eY),p.length = d.weathers.length → (gs.foldl (gQ d k (aJ d - (k + 1)) s) p).length = p.length := fun gs => by
   induction gs with
   | nil => intro p _; rfl
   | cons g gs ih => intro p hpl; rw [List.foldl_cons,ih _ (by rw [(step g p hpl).1,hpl]),(step g p hpl).1]
  refine ⟨hl _ pol hp,fun w hw => ?_⟩
  obtain ⟨_,i2⟩ := aAm (W := d.weathers.length) (w := w) (step := gQ d k (aJ d - (k + 1)) s) (F := fun g => match (dJ d s (wAt d (fT g d.weathers.length) (aJ d - (k + 1)))).find? (oM d k (aJ d - (k + 1)) g s) with
   | none => []
   | some x => x.1 :: iH d k g x.2 w) (by omega) (fun p g hpl => by
   obtain ⟨a,b⟩ := step g p hpl
   exact ⟨a.trans hpl,b w (by omega)⟩) (cX d ws (aJ d - (k + 1))) pol hp h3
  rw [i2,iH]
end Go.Proofs.Ab
namespace Go.Proofs.Ab
open Go Go.Proofs
section
variable {d : aO}
def NC (d : aO) (s : aC) : Prop := (List.range d.places.length).any (eX d s) = false
theorem aES {s : aC} {op : Int} {i : Nat} {x : aF} {g g' : List Bool} {r : Int} (h : lF d s op i x g = (some r,g')) : r ≠ 1 := by
 simp only [lF] at h
 split at h
 · cases h; omega
 · split at h
   · cases h; omega
   · split at h
     · cases h; omega
     · split at h
       · cases h; omega
       · split at h
         · cases h; omega
         · cases h
theorem xX {s : aC} {op : Int} : ∀ (u : List aF) (i : Nat) (n : aC) (g : List Bool) (r p : Int),kV d s op u i n g = .error (r,p) → r ≠ 1
 | [],i,n,g,r,p,h => by cases h
 | x :: u,i,n,g,r,p,h => by
  rw [kV] at h
  split at h
  · exact xX u _ n g r p h
  · split at h
    · rename_i r' g' e
      cases h
      exact aES e
    · exact xX u _ _ _ r p h
theorem aGe {s : aC} {op : Int} {u : List aF} (h : (dC d s op u).2.1 = 1) : (dC d s op u).2.2 = -1 ∧ NC d (dC d s op u).1 := by
 rw [dC] at h ⊢
 cases e : kV d s op u 0 s [false,false,false,false] with
 | error p =>
  rw [e] at h
  exact absurd h (xX _ _ _ _ _ _ e)
 | ok n =>
  rw [e] at h
  simp only at h ⊢
  cases e2 : (List.range d.places.length).any (eX d n) with
  | true => rw [e2,if_pos rfl] at h; simp at h
  | false => rw [if_neg (by simp)]; exact ⟨rfl,e2⟩
theorem wG {s : aC} {op : Int} : ∀ (u : List aF) (i : Nat) (n : aC) (g : List Bool),(∀ x ∈ u,x.to < 0) → kV d s op u i n g = .ok n
 | [],_,_,_,_ => rfl
 | x :: u,i,n,g,h => by
  rw [kV,if_pos (h x (by simp))]
  exact wG u _ n g fun y hy => h y (by simp [hy])
theorem vM {s : aC} {op : Int} (hc : NC d s) : ∀ (k gone : Nat) (u : List aF),(∀ x ∈ u,x.to < 0) → fE d s op k gone u ≠ []
 | 0,gone,u,hu => by
  rw [fE,dC,wG u _ _ _ hu]
  simp only
  rw [hc]
  simp
 | k + 1,gone,u,hu => by
  rw [fE,iW,List.flatMap_cons]
  intro e
  exact vM hc k gone (u ++ [⟨-1,[]⟩]) (fun x hx => by
   rcases List.mem_append.1 hx with h | h
   · exact hu x h
   · simp only [List.mem_singleton] at h; subst h; decide) (List.append_eq_nil_iff.1 e).1
theorem wB {next : aC → Int} : ∀ (l : List (List aF × aC)) (b : Int),(l.foldl (pQ next) b = b ∧ 0 ≤ b) ∨ (∃ x ∈ l,next x.2 = l.foldl (pQ next) b) ∨ l = []
 | [],b => .inr (.inr rfl)
 | x :: l,b => by
  rw [List.foldl_cons]
  have hm : pQ next b x = next x.2 ∨ (pQ next b x = b ∧ 0 ≤ b) := by
   rw [pQ]
   split
   · exact .inl rfl
   · rename_i h
     refine .inr ⟨rfl,?_⟩
     simp only [Bool.or_eq_true,decide_eq_true_eq,not_or] at h
     omega
  rcases wB (next := next) l (pQ next b x) with ⟨h1,h2⟩ | ⟨y,hy,h⟩ | h
  · rw [h1]
    rcases hm with e | ⟨e,e2⟩
    · exact .inr (.inl ⟨x,by simp,e.symm⟩)
    · exact .inl ⟨e,e2⟩
  · exact .inr (.inl ⟨y,by simp [hy],h⟩)
  · subst h
    rcases hm with e | ⟨e,e2⟩
    · exact .inr (.inl ⟨x,by simp,e.symm⟩)
    · exact .inl ⟨e,e2⟩
theorem aAl {f : Nat → Int} : ∀ (l : List Nat) (b : Int),b ≤ l.foldl (fun m g => max m (f g)) b ∧ ∀ g ∈ l,f g ≤ l.foldl (fun m g => max m (f g)) b
 | [],b => ⟨Int.le_refl _,fun g hg => by cases hg⟩
 | x :: l,b => by
  obtain ⟨h1,h2⟩ := aAl (f := f) l (max b (f x))
  rw [List.foldl_cons]
  refine ⟨by omega,fun g hg => ?_⟩
  rcases List.mem_cons.1 hg with h | h
  · subst h; omega
  · exact h2 g h
theorem uH {α : Type} {p q : α → Bool} : ∀ {l : List α},(∀ x ∈ l,p x = q x) → l.find? p = l.find? q
 | [],_ => rfl
 | x :: l,h => by rw [List.find?_cons,List.find?_cons,h x (by simp),uH fun y hy => h y (by simp [hy])]
theorem aDE (dg : iC d) {k ws w t : Nat} {s : aC} (hk : t + (k + 1) = aJ d) (hw : w < d.weathers.length) (hb : bA ws w = true) (hc : NC d s) :
 ∃ (g : Nat) (x : List aF × aC),iH d (k + 1) ws s w = x.1 :: iH d k g x.2 w ∧ bA g w = true ∧ x ∈ dJ d s (wAt d w t) ∧ cK d k g x.2 ≤ cK d (k + 1) ws s := by
 have ht : aJ d - (k + 1) = t := by omega
 obtain ⟨g0,hg0,hb0⟩ := (hJ (d := d) (ws := ws) (slot := aJ d - (k + 1))).2.1 w hw hb
 obtain ⟨g,eg⟩ : ∃ g,(cX d ws (aJ d - (k + 1))).find? (fun g => bA g w) = some g := by
  cases e : (cX d ws (aJ d - (k + 1))).find? (fun g => bA g w) with
  | some g => exact ⟨g,rfl⟩
  | none => exact absurd hb0 (List.find?_eq_none.1 e g0 hg0)
 have hgb : bA g w = true := List.find?_some (p := fun g => bA g w) eg
 have hgm := List.mem_of_find?_eq_some eg
 obtain ⟨v,_,_,hv⟩ := hJ.1 g hgm
 have hf := (kP d.weathers.length g ⟨w,hw,hgb⟩).1
 have hwa : wAt d (fT g d.weathers.length) (aJ d - (k + 1)) = wAt d w t := by
  have h1 := ((hv _).1 hf).2.2
  have h2 := ((hv w).1 hgb).2.2
  rw [h1,← h2,ht]
 have hle : dH d k (aJ d - (k + 1)) g s ≤ cK d (k + 1) ws s := (aAl (f := fun g => tU d (cK d k) (aJ d - (k + 1)) g s) (cX d ws (aJ d - (k + 1))) 0).2 g hgm
 have hex : ∃ x ∈ dJ d s (wAt d w t),cK d k g x.2 = dH d k (aJ d - (k + 1)) g s := by
  rw [dH,tU,hwa]
  rcases wB (next := cK d k g) (dJ d s (wAt d w t)) (-1) with ⟨_,h⟩ | h | h
  · omega
  · exact h
  · exact absurd h (vM hc _ _ _ (by simp))
 obtain ⟨y,hy,ey⟩ := hex
 obtain ⟨x,ex'⟩ : ∃ x,(dJ d s (wAt d w t)).find? (oM d k (aJ d - (k + 1)) g s) = some x := by
  cases e : (dJ d s (wAt d w t)).find? (oM d k (aJ d - (k + 1)) g s) with
  | some x => exact ⟨x,rfl⟩
  | none => exact absurd (by rw [oM,ey]; simp) (List.find?_eq_none.1 e y hy)
 have hh : oM d k (aJ d - (k + 1)) g s x = true := List.find?_some ex'
 simp only [oM,Bool.not_eq_true',decide_eq_false_iff_not] at hh
 refine ⟨g,x,?_,hgb,List.mem_of_find?_eq_some ex',by omega⟩
 rw [iH,eg]
 simp only
 rw [hwa,ex']
theorem tO : ∀ (k ws : Nat) (s : aC) (i w w' : Nat),k ≤ aJ d → w < d.weathers.length → w' < d.weathers.length → bA ws w = true → bA ws w' = true → (∀ j,j ≤ i → wAt d w (aJ d - k + j) = wAt d w' (aJ d - k + j)) →
 (iH d k ws s w).getD i [] = (iH d k ws s w').getD i []
 | 0,_,_,_,_,_,_,_,_,_,_,_ => rfl
 | k + 1,ws,s,i,w,w',hk,hw,hw',hb,hb',h => by
  have hfe : (cX d ws (aJ d - (k + 1))).find? (fun g => bA g w) = (cX d ws (aJ d - (k + 1))).find? (fun g => bA g w') := uH fun g hg => by
   obtain ⟨v,_,_,hv⟩ := hJ.1 g hg
   have h0 := h 0 (by omega)
   rw [Nat.add_zero] at h0
   rw [Bool.eq_iff_iff,hv,hv,h0]
   simp [hw,hw',hb,hb']
  rw [iH,iH,hfe]
  cases eg : (cX d ws (aJ d - (k + 1))).find? (fun g => bA g w') with
  | none => rfl
  | some g =>
   have hgb' : bA g w' = true := List.find?_some (p := fun g => bA g w') eg
   have hgb : bA g w = true := by rw [← hfe] at eg; exact List.find?_some (p := fun g => bA g w) eg
   simp only
   cases (dJ d s (wAt d (fT g d.weathers.length) (aJ d - (k + 1)))).find? (oM d k (aJ d - (k + 1)) g s) with
   | none => rfl
   | some x =>
    rcases i with _ | i
    · rfl
    · simp only [List.getD_cons_succ]
      refine tO k g x.2 i w w' (by omega) hw hw' hgb hgb' fun j hj => ?_
      have := h (j + 1) (by omega)
      rw [show aJ d - (k + 1) + (j + 1) = aJ d - k + j by omega] at this
      exact this
end
end Go.Proofs.Ab
namespace Go.Proofs.Ab
open Go Go.Proofs
section
variable {d : aO}
def SIn (m : Nat) (l : List Int) : Prop := l.Pairwise (· < ·) ∧ ∀ n ∈ l,0 ≤ n ∧ n < m
theorem SIn.pk {m : Nat} {l : List Int} (a : SIn m l) : (List.range l.length).all (pkB m l) = true := by
 rw [bQ]
 intro k hk
 have h1 := a.2 _ (List.getElem_mem hk)
 simp only [pkB,aE hk,inB,Bool.and_eq_true,Bool.or_eq_true,decide_eq_true_eq]
 refine ⟨by omega,?_⟩
 rcases k with _ | k
 · exact .inl rfl
 · right
   rw [Nat.add_sub_cancel,aE (by omega)]
   exact List.pairwise_iff_getElem.1 a.1 k (k + 1) (by omega) hk (by omega)
theorem wZ {s : aC} {at_ to : Int} : ∀ (k : Nat) (l : List Int) (seats : Int) (gone : Nat),k ≤ d.people.length → SIn (d.people.length - k) l → ∀ x ∈ mF d s at_ to k l seats gone,x.1.to = to ∧ SIn d.people.length x.1.people
 | 0,l,seats,gone,_,_,x,hx => by simp [mF] at hx
 | k + 1,l,seats,gone,hk,hl,x,hx => by
  have hl2 : SIn (d.people.length - k) l := ⟨hl.1,fun n hn => by have := hl.2 n hn; omega⟩
  have hl3 : SIn (d.people.length - k) (l ++ [((d.people.length - (k + 1) : Nat) : Int)]) := by
   refine ⟨?_,fun n hn => ?_⟩
   · rw [List.pairwise_append]
     refine ⟨hl.1,by simp,fun a ha b hb => ?_⟩
     simp only [List.mem_singleton] at hb
     subst hb
     have := hl.2 a ha; omega
   · rcases List.mem_append.1 hn with h | h
     · exact hl2.2 n h
     · simp only [List.mem_singleton] at h; omega
  have hl4 : SIn d.people.length (l ++ [((d.people.length - (k + 1) : Nat) : Int)]) := ⟨hl3.1,fun n hn => by have := hl3.2 n hn; omega⟩
  rw [mF] at hx
  rcases List.mem_append.1 hx with h | h
  · split at h
    · rcases List.mem_cons.1 h with h | h
      · subst h; exact ⟨rfl,hl4⟩
      · exact wZ k _ _ _ (by omega) hl3 x h
    · cases h
  · exact wZ k _ _ _ (by omega) hl2 x h
theorem uF {s : aC} {op : Int} {plane gone : Nat} : ∀ k,k ≤ d.places.length → ∀ x ∈ fH d s op plane gone k,flB d x.1 = true
 | 0,_,x,hx => by simp [fH] at hx
 | k + 1,hk,x,hx => by
  rw [fH] at hx
  rcases List.mem_append.1 hx with h | h
  · split at h
    · have key : x.1.to = ((d.places.length - (k + 1) : Nat) : Int) ∧ SIn d.people.length x.1.people := by
       rw [zS] at h
       rcases List.mem_cons.1 h with h | h
       · subst h; exact ⟨rfl,by simp,fun n hn => by cases hn⟩
       · exact wZ _ _ _ _ (Nat.le_refl _) ⟨by simp,fun n hn => by cases hn⟩ x h
      simp only [flB,inB,key.2.pk,Bool.and_true,Bool.and_eq_true,Bool.or_eq_true,decide_eq_true_eq]
      omega
    · cases h
  · exact uF k (by omega) x h
theorem aBB {s : aC} {op : Int} {plane gone : Nat} (hp : 0 < d.places.length) : ∀ x ∈ iW d s op plane gone,flB d x.1 = true := fun x hx => by
 rw [iW] at hx
 rcases List.mem_cons.1 hx with h | h
 · subst h
   simp [flB,inB]; omega
 · exact uF _ (Nat.le_refl _) x h
theorem yW {s : aC} {op : Int} (hp : 0 < d.places.length) : ∀ (k gone : Nat) (u : List aF),u.all (flB d) = true → ∀ y ∈ fE d s op k gone u,y.1.all (flB d) = true
 | 0,gone,u,hu,y,hy => by
  rw [fE] at hy
  split at hy
  · simp only [List.mem_singleton] at hy; subst hy; exact hu
  · cases hy
 | k + 1,gone,u,hu,y,hy => by
  rw [fE,List.mem_flatMap] at hy
  obtain ⟨x,hx,hy⟩ := hy
  refine yW hp k x.2 (u ++ [x.1]) ?_ y hy
  rw [List.all_append,hu,Bool.true_and,List.all_cons,aBB hp x hx]; rfl
theorem aHp {s : aC} {op : Int} {t : Nat} (dg : iC d) (a : StN d t s) {y : List aF × aC} (hy : y ∈ dJ d s op) : eM d y.1 = true := by
 have h1 := yW (by have := dg.p0; omega) _ _ _ (by simp) y hy
 have h2 := (nI dg a y hy).1
 rw [eM,h1,decide_eq_true h2]; rfl
def uU (d : aO) (P : List (List aF)) (V : Int) (w t : Nat) (s : aC) : Prop :=
 t ≤ aJ d ∧ NC d s ∧ StN d t s ∧ ∃ ws,bA ws w = true ∧ P.drop t = iH d (aJ d - t) ws s w ∧ cK d (aJ d - t) ws s ≤ V
theorem vH (dg : iC d) {P : List (List aF)} {V : Int} {w t : Nat} {s : aC} (hw : w < d.weathers.length) (I : uU d P V w t s) (ht : t < aJ d) :
 ∃ h : t < P.length,eM d P[t] = true ∧ (dC d s (wAt d w t) P[t]).2.1 = 1 ∧ (dC d s (wAt d w t) P[t]).2.2 = -1 ∧ uU d P V w (t + 1) (dC d s (wAt d w t) P[t]).1 := by
 obtain ⟨_,hc,hs,ws,hb,hp,hv⟩ := I
 obtain ⟨k,ek⟩ : ∃ k,aJ d - t = k + 1 := ⟨aJ d - t - 1,by omega⟩
 rw [ek] at hp hv
 obtain ⟨g,x,h1,h2,h3,h4⟩ := aDE dg (k := k) (t := t) (by omega) hw hb hc
 rw [h1] at hp
 have hlt : t < P.length := by
  refine Classical.byContradiction fun hn => ?_
  rw [List.drop_eq_nil_of_le (by omega)] at hp; cases hp
 rw [List.drop_eq_getElem_cons hlt] at hp
 obtain ⟨hx,hr⟩ := List.cons.inj hp
 obtain ⟨q1,q2,q3,q4⟩ := nI dg hs x h3
 obtain ⟨f1,f2⟩ := aGe q3
 refine ⟨hlt,?_⟩
 rw [hx]
 refine ⟨aHp dg hs h3,q3,f1,by omega,f2,?_,g,h2,?_,?_⟩
 · exact aCw q1 q2 hs
 · rw [show aJ d - (t + 1) = k by omega,hr,q4]
 · rw [show aJ d - (t + 1) = k by omega,← q4]; omega
theorem yU {P : List (List aF)} {V : Int} {w t : Nat} {s : aC} (I : uU d P V w t s) (ht : t = aJ d) : P.length ≤ t ∧ uL d s ≤ V := by
 obtain ⟨_,_,_,ws,_,hp,hv⟩ := I
 subst ht
 rw [Nat.sub_self] at hp hv
 rw [iH] at hp
 exact ⟨List.drop_eq_nil_iff.1 hp,hv⟩
theorem yT (dg : iC d) {P : List (List aF)} {V : Int} {w : Nat} (hw : w < d.weathers.length) : ∀ (k t : Nat) (s : aC),t + k = aJ d → uU d P V w t s → P.length ≤ aJ d ∧ ∀ i,t ≤ i → i < aJ d → ∃ h : i < P.length,eM d P[i] = true
 | 0,t,s,hk,I => ⟨by have := (yU I (by omega)).1; omega,fun i h1 h2 => by omega⟩
 | k + 1,t,s,hk,I => by
  obtain ⟨h1,h2,_,_,h5⟩ := vH dg hw I (by omega)
  obtain ⟨i1,i2⟩ := yT dg hw k (t + 1) _ (by omega) h5
  refine ⟨i1,fun i a b => ?_⟩
  rcases Nat.lt_or_ge t i with h | h
  · exact i2 i (by omega) b
  · obtain rfl : i = t := by omega
    exact ⟨h1,h2⟩
theorem qH (dg : iC d) {w : Nat} (hw : w < d.weathers.length) : (iK d).1.length = d.weathers.length ∧ (iK d).1.getD w [] = iH d (aJ d) (2 ^ d.weathers.length - 1) (bS d) w := by
 obtain ⟨h1,h2⟩ := wP (d := d) (aJ d) (2 ^ d.weathers.length - 1) (bS d) (List.replicate d.weathers.length []) (by simp)
 refine ⟨by rw [iK,h1]; simp,?_⟩
 have := h2 w (by simpa using hw)
 rw [iK,this,List.getD_eq_getElem?_getD,List.getElem?_replicate,if_pos hw]; rfl
theorem yF {n w : Nat} (hw : w < n) : bA (2 ^ n - 1) w = true := by
 rw [fO,Nat.testBit_two_pow_sub_one]; exact decide_eq_true hw
theorem wS (hB : dM d = true) {w : Nat} (hw : w < d.weathers.length) : uU d ((iK d).1.getD w []) (iK d).2 w 0 (bS d) := by
 have dg := kZ hB
 refine ⟨Nat.zero_le _,(sY.1 hB).cr,aGF dg,2 ^ d.weathers.length - 1,yF hw,?_,Int.le_refl _⟩
 rw [List.drop_zero,(qH dg hw).2]; rfl
theorem aKa (hB : dM d = true) : xN d (iK d).1 = true := by
 have dg := kZ hB
 have hw0 := dg.w0
 have hl := (qH dg (w := 0) (by omega)).1
 rw [xN,decide_eq_true hl,Bool.and_true,List.all_eq_true]
 intro r hr
 obtain ⟨w,hw,rfl⟩ := List.getElem_of_mem hr
 have I := wS hB (w := w) (by omega)
 rw [aE hw] at I
 obtain ⟨h1,h2⟩ := yT dg (by omega) (aJ d) 0 _ (by omega) I
 have hs := dg.s0
 obtain ⟨h3,_⟩ := h2 (aJ d - 1) (by omega) (by omega)
 have h4 : (iK d).1[w].length = aJ d := by omega
 rw [decide_eq_true h4,Bool.true_and,List.all_eq_true]
 intro u hu
 obtain ⟨i,hi,rfl⟩ := List.getElem_of_mem hu
 exact (h2 i (by omega) (by omega)).2
theorem aBP (hB : dM d = true) {w w' t : Nat} (hw : w < d.weathers.length) (hw' : w' < d.weathers.length) (ht : t < aJ d) (hl : qT d w' w t = true) : ((iK d).1.getD w' []).getD t [] = ((iK d).1.getD w []).getD t [] := by
 have dg := kZ hB
 rw [(qH dg hw).2,(qH dg hw').2]
 refine tO (aJ d) _ _ t w' w (Nat.le_refl _) hw' hw (yF hw') (yF hw) fun j hj => ?_
 rw [Nat.sub_self,Nat.zero_add]
 have h1 := of_decide_eq_true hl
 have h2 : ((fR d w').take (t + 1))[j]? = ((fR d w).take (t + 1))[j]? := by rw [h1]
 rw [List.getElem?_take_of_lt (by omega),List.getElem?_take_of_lt (by omega)] at h2
 simp only [wAt,fR] at h2 ⊢
 have h3 : ∀ l : List Int,l.getD j 0 = l[j]?.getD 0 := fun l => List.getD_eq_getElem?_getD
 rw [h3,h3,h2]
theorem aHo (hB : dM d = true) {w t : Nat} (hw : w < d.weathers.length) (ht : t < aJ d) : nC d.places.length (wAt d w t) = true := by
 obtain ⟨h1,h2⟩ := (sY.1 hB).we w hw
 exact h2 t (by omega)
theorem tF {s : aC} {t : Nat} (a : StN d t s) (ht : t ≤ 5) : cZ d s = true := by
 rw [cZ,decide_eq_true a.s1,decide_eq_true a.s2,decide_eq_true a.s3,List.all_eq_true.2 fun x hx => gB.2 (a.at_ x hx),List.all_eq_true.2 fun x hx => gB.2 (a.pat x hx),List.all_eq_true.2 fun x hx => by
  have := a.lg x hx
  simp only [inB,Bool.and_eq_true,decide_eq_true_eq]; omega]
 rfl
theorem aEz {f : Nat → Int} (hf : ∀ i,0 ≤ f i) : ∀ (n i : Nat),i < n → f i ≤ lR f n
 | 0,i,h => by omega
 | n + 1,i,h => by
  rw [lR]
  have h0 : 0 ≤ lR f n := by
   clear h
   induction n with
   | zero => exact Int.le_refl _
   | succ n ih => rw [lR]; have := hf n; omega
  have hn := hf n
  rcases Nat.lt_or_ge i n with h1 | h1
  · have := aEz hf n i h1; omega
  · obtain rfl : i = n := by omega
    omega
theorem aDr (dg : iC d) {s : aC} {i : Nat} (hi : i < d.people.length) (h1 : ¬ s.people.getD i 0 = (d.people.getD i ⟨0,0,0,0,0⟩).to) (h2 : (d.places.getD (s.people.getD i 0).toNat ⟨0,false⟩).lodge = false) : (d.people.getD i ⟨0,0,0,0,0⟩).strand ≤ uL d s := by
 have a := aEz (f := gY d s) (fun i => (qU dg s i).1) d.people.length i hi
 have b := (oZ (by omega) (uS dg s) d.planes.length).1
 rw [gY,if_neg h1,h2,if_neg (by simp)] at a
 rw [uL]; omega
end
end Go.Proofs.Ab
namespace Go.Proofs.Ab
open Go Go.Proofs
variable {w0 : World} {h : Heap}
attribute [local irreducible] ACall aT aX aN aQ rvC rdC lp rg dr ex un rv rd'
def jE (d : aO) : Bool := jM d && (dM d && (decide (d.places.length ≤ 4) && (decide (d.people.length ≤ 3) && (decide (aJ d ≤ 3) && (decide (d.planes.length < 2) || decide (d.people.length < 3))))))
theorem aFT (d : aO) (v : cC) (hS : DayS w0 h d v) (hW : d.weathers.length ≤ 9223372036854775807) : aN Try.prog w0 29 [.agg (aV v)] h (.bool (jE d)) h := by
 refine aI aL aIr mf29_b mf29_g (Nat.le_of_ble_eq_true rfl) (by simp [AV.bdd,AV.bdds]) fun hb ha => aU ?_
 obtain ⟨y1,y2,y3,y4,y5⟩ := hS.ones
 obtain ⟨l1,l2,l3,l4,l5⟩ := hS.lens
 obtain ⟨K,eK⟩ : ∃ K,K = h ++ [some (Blk.row [v.pl,v.ln,v.pn,v.pe,v.we])] := ⟨_,rfl⟩
 have sK : aB h K := eK ▸ aB.refl.app
 have k0 : K[h.length]? = some (some (.row [v.pl,v.ln,v.pn,v.pe,v.we])) := by rw [eK]; simp
 have k0L : ∀ L,(K ++ L)[h.length]? = some (some (.row [v.pl,v.ln,v.pn,v.pe,v.we])) := fun L => aA k0
 have c5 : ∀ a b : Nat,((a : Int) ≤ b) = (a ≤ b) := fun a b => by simp only [eq_iff_iff]; omega
 have c6 : ∀ a b : Nat,((a : Int) < b) = (a < b) := fun a b => by simp only [eq_iff_iff]; omega
 simp only [go_sem,mf29,aV,y1,y2,y3,y4,y5]
 rw [← eK]
 refine aH (aHB d v (hS.sub sK) hW).v ?_
 cases e1 : jM d with
 | false => simp only [go_sem]; exact ⟨by simp [jE,e1],_,eK⟩
 | true =>
 have hR := (hS.sub sK).R e1
 simp only [go_sem,k0,k0L,y1,y2,y3,y4,y5]
 refine aH (rday_c d v hR).v ?_
 cases e2 : dM d with
 | false => simp only [go_sem]; exact ⟨by simp [jE,e2],_,eK⟩
 | true =>
 have dg := kZ e2
 simp only [go_sem,k0,k0L,l1,l2,l3,l4,y1,y2,y3,y4,y5]
 refine ⟨fun e3 => ⟨fun e4 => ?_,fun e4 => ⟨by rw [jE,decide_eq_false (p := d.people.length ≤ 3) (by omega)]; simp,_,eK⟩⟩,fun e3 => ⟨by rw [jE,decide_eq_false (p := d.places.length ≤ 4) (by omega)]; simp,_,eK⟩⟩
 refine aH (zH d v hR.toDayS (List.length_pos_iff.1 dg.w0)).v ?_
 have hm : jE d = (decide (aJ d ≤ 3) && (decide (d.planes.length < 2) || decide (d.people.length < 3))) := by
  rw [jE,e1,e2,decide_eq_true (p := d.people.length ≤ 3) (by omega),decide_eq_true (p := d.places.length ≤ 4) (by omega)]; rfl
 by_cases e5 : (aJ d : Int) ≤ 3
 · by_cases e6 : (d.planes.length : Int) < 2
   · simp only [go_sem,k0,k0L,l3,l4,e5,e6]
     exact ⟨by rw [hm,decide_eq_true (p := aJ d ≤ 3) (by omega),decide_eq_true (p := d.planes.length < 2) (by omega)]; rfl,_,eK⟩
   · by_cases e7 : (d.people.length : Int) < 3
     · simp only [go_sem,k0,k0L,l3,l4,e5,e6,e7]
       exact ⟨by rw [hm,decide_eq_true (p := aJ d ≤ 3) (by omega),decide_eq_true (p := d.people.length < 3) (by omega)]; simp,_,eK⟩
     · simp only [go_sem,k0,k0L,l3,l4,e5,e6,e7]
       exact ⟨by rw [hm,decide_eq_false (p := d.planes.length < 2) (by omega),decide_eq_false (p := d.people.length < 3) (by omega)]; simp,_,eK⟩
 · simp only [go_sem,k0,k0L,l3,l4,e5]
   exact ⟨by rw [hm,decide_eq_false (p := aJ d ≤ 3) (by omega)]; rfl,_,eK⟩
theorem aEl (d : aO) (v : cC) (w : Int) (hS : DayS w0 h d v) (hW : d.weathers.length ≤ 9223372036854775807) : ACall Try.prog w0 12 [.agg (aV v),.int .i64 w] h fun y H => y = .bool true ∧ aB h H := by
 refine bD aL aI4 mf12_b mf12_g (Nat.le_of_ble_eq_true rfl) fun hb ha => aU ?_
 obtain ⟨y1,y2,y3,y4,y5⟩ := hS.ones
 obtain ⟨l1,l2,l3,l4,l5⟩ := hS.lens
 obtain ⟨K,eK⟩ : ∃ K,K = h ++ [some (Blk.row [v.pl,v.ln,v.pn,v.pe,v.we])] := ⟨_,rfl⟩
 have sK : aB h K := eK ▸ aB.refl.app
 have k0 : K[h.length]? = some (some (.row [v.pl,v.ln,v.pn,v.pe,v.we])) := by rw [eK]; simp
 have k0L : ∀ L,(K ++ L)[h.length]? = some (some (.row [v.pl,v.ln,v.pn,v.pe,v.we])) := fun L => aA k0
 simp only [go_sem,mf12,aV,y1,y2,y3,y4,y5]
 rw [← eK]
 refine aH (aFT d v (hS.sub sK) hW).v ?_
 cases e1 : jE d with
 | false =>
  simp only [go_sem]
  refine aH sX.v ?_
  simp only [go_sem]
  exact sK
 | true =>
 by_cases t1 : w < 0
 · simp only [go_sem,t1]
   refine aH sX.v ?_
   simp only [go_sem]
   exact sK
 by_cases t2 : (d.weathers.length : Int) ≤ w
 · simp only [go_sem,t1,k0,k0L,l5,t2]
   refine aH sX.v ?_
   simp only [go_sem]
   exact sK
 obtain ⟨n,rfl⟩ : ∃ n : Nat,w = n := ⟨w.toNat,by omega⟩
 have hn : n < d.weathers.length := by omega
 have hmm := e1
 simp only [jE,Bool.and_eq_true] at hmm
 have hB := hmm.2.1
 have dg := kZ hB
 have hR := (hS.sub sK).R hmm.1
 simp only [go_sem,t1,k0,k0L,l5,t2,y1,y2,y3,y4,y5]
 refine aW (ACall.vc (first := []) (args := [_]) (aBO d v hR)) ?_
 rintro y H1 ⟨s1,hyes,_⟩
 obtain ⟨pv,rfl,hP⟩ := hyes hB
 obtain ⟨pol,epol⟩ : ∃ p,p = (iK d).1 := ⟨_,rfl⟩
 obtain ⟨V,eV⟩ : ∃ V,V = (iK d).2 := ⟨_,rfl⟩
 rw [← epol] at hP
 rw [← eV]
 have m0 := s1.2 _ _ k0
 have m0L : ∀ L,(H1 ++ L)[h.length]? = some (some (.row [v.pl,v.ln,v.pn,v.pe,v.we])) := fun L => aA m0
 have hR1 := hR.sub s1
 have hPB : xN d pol = true := epol ▸ aKa hB
 have ok := aHL hPB
 have hsl := dg.s1
 have hw1 := dg.w1
 have hlen := ok.len
 have uok : ∀ r ∈ pol,r.length < 1000000 ∧ ∀ u ∈ r,u.length < 1000000 ∧ ∀ x ∈ u,x.people.length < 1000000 := fun r hr => by
  obtain ⟨i,hi,rfl⟩ := List.getElem_of_mem hr
  have hri := ok.row i hi
  refine ⟨by omega,fun u hu => ?_⟩
  obtain ⟨j,hj,rfl⟩ := List.getElem_of_mem hu
  have hub := (aB3 (ok.un i hi j hj)).ok dg.pe
  have h1 := hub.len
  have h2 := dg.pn
  exact ⟨by omega,hub.pl⟩
 simp only [go_sem,m0,m0L,y1,y2,y3,y4,y5]
 refine aH (aDA hR1 hP (List.length_pos_iff.1 dg.w0) (by omega) (by omega) uok).v ?_
 rw [hPB]
 simp only [go_sem,m0,m0L,y1,y2,y3,y4,y5]
 refine aW (ACall.vc (first := []) (args := [_]) (zK d v hR1)) ?_
 rintro y H2 ⟨s2,nv,rfl,hst⟩
 obtain ⟨o1,o2,o3⟩ := hst.ones
 simp only [go_sem,stC,o1,o2,o3]
 have hnp : n < pol.length := by omega
 have hI0 : uU d (pol.getD n []) V n 0 (bS d) := by rw [epol,eV]; exact wS hB hn
 have hrow : pol.getD n [] = pol[n] := aE hnp
 rw [hrow] at hI0
 have hrl := ok.row n hnp
 obtain ⟨M0,eM0⟩ : ∃ M0,M0 = H2 ++ [some (Blk.row [nv.pl,nv.le,nv.pe])] := ⟨_,rfl⟩
 have sM0 : aB H2 M0 := eM0 ▸ aB.refl.app
 rw [← eM0]
 refine dG (S := Heap × aC × StV) (fun t st => [(1,.int .i64 n),(2,.ptr (.own h.length 0)),(5,pv),(6,.int .i64 V),(8,.ptr (.own H2.length 0)),(9,.int .i64 t)]) (fun _ st => st.1)
  (fun t st => aB H2 st.1 ∧ st.1[H2.length]? = some (some (.row (stC st.2.2))) ∧ StS w0 (msk [H2.length] st.1) st.2.1 st.2.2 ∧ uU d pol[n] V n t st.2.1) (aJ d) (M0,bS d,nv) ⟨sM0,by rw [eM0]; simp [stC],?_,hI0⟩ rfl rfl (fun t st ht I ih => ?_) (fun st I => ?_)
 · have := (aB.toK (C := []) sM0).mskm (ms := []) (ns := [H2.length]) (by simp) fun c hc => .inr (by simp only [List.mem_singleton] at hc; omega)
   exact hst.sub (by simpa [msk] using this)
 · refine aD aL aDh [1,2,5,6,8,9] L12_1.eq_1 ?_
   obtain ⟨M,s,sv⟩ := st
   obtain ⟨sM,hk,hs,hW⟩ := I
   simp only at sM hk hs hW ih ⊢
   have sKM := s1.trans (s2.trans sM)
   have hPM := hP.sub (s2.trans sM)
   have hRM := hR.sub sKM
   obtain ⟨pj,xj,ij,tj,tj',sxj⟩ := hPM.row hnp
   have lxj := NS.len sxj
   have lpl := NS.len hPM
   obtain ⟨h1,hub,hf1,hf2,hW2⟩ := vH dg hn hW ht
   obtain ⟨p2,uv,i2,t2',t2'',hU⟩ := aA9 sxj h1
   have d1 : bV (.int .i64 (n : Int)) = some n := qI
   have i5 : (t : Int) < pol[n].length := by omega
   have n0 := sKM.2 _ _ k0
   have n0L : ∀ L,(M ++ L)[h.length]? = some (some (.row [v.pl,v.ln,v.pn,v.pe,v.we])) := fun L => aA n0
   simp only [go_sem,ij,tj,tj',lxj,i5]
   refine cR (fun a => [(1,.int .i64 n),(2,.ptr (.own h.length 0)),(5,pv),(6,.int .i64 V),(8,.ptr (.own H2.length 0)),(9,.int .i64 t),(10,.int .i64 a)]) (fun _ => True) pol.length rfl (fun a hap _ ia => ?_) (fun _ => ?_)
   · refine aD aL aDi [1,2,5,6,8,9,10] L12_0.eq_1 ?_
     have i6 : (a : Int) < pol.length := by omega
     have hal := ok.row a hap
     obtain ⟨p3,x3,i3a,t3,t3',s3⟩ := hPM.row hap
     obtain ⟨p4,y4a,i4a,t4,t4',s4⟩ := aA9 s3 (show t < pol[a].length by omega)
     have wa : ∀ (w : Nat),w < d.weathers.length → (fR d w).length = aJ d := fun w hw => by rw [sN hw]; exact (dg.rows _ (List.getElem_mem hw)).1
     have hua := (uok _ (List.getElem_mem hap)).2 _ (List.getElem_mem (show t < pol[a].length by omega))
     have hc1 := aJV (h := M) d v a n t hRM.toDayS (by omega) hn (by rw [wa a (by omega)]; omega) (by rw [wa n hn]; omega) (by omega)
     simp only [go_sem,lpl,i6,n0,n0L,y1,y2,y3,y4,y5]
     refine dE hc1.v ?_
     cases c1 : qT d a n t with
     | false =>
      simp only [go_sem]
      exact ⟨(by unfold I64; omega),ia trivial⟩
     | true =>
     simp only [go_sem,i3a,t3,t3',i4a,t4,t4',ij,tj,tj',i2,t2',t2'']
     have hc2 := tJ (h := M) pol[a][t] pol[n][t] y4a uv s4 hU hua.1 hua.2
     refine dE hc2.v ?_
     have heq : pol[a][t] = pol[n][t] := by
      have := aBP hB (w := n) (w' := a) hn (by omega) ht c1
      rw [← epol,aE hap,aE hnp,aE (show t < pol[a].length by omega),aE h1] at this
      exact this
     rw [decide_eq_true heq]
     simp only [go_sem]
     exact ⟨(by unfold I64; omega),ia trivial⟩
   · refine aD aL aDi [1,2,5,6,8,9,10] L12_0.eq_1 ?_
     have i6 : ¬ (pol.length : Int) < pol.length := by omega
     obtain ⟨h2,ew,ew0,ew1⟩ := wAt_bd dg hn ht
     obtain ⟨pw,xw,iw,tw,sw⟩ := hRM.toDayS.weathers.at_ hn
     obtain ⟨po,io,ro,ro'⟩ := SlI.at_ sw h2
     obtain ⟨v1,v2,v3⟩ := (hs.sub cG).ones
     have hkL : ∀ L,(M ++ L)[H2.length]? = some (some (.row [sv.pl,sv.le,sv.pe])) := fun L => aA hk
     have hk' := hk
     simp only [stC] at hk'
     have tw' := tw []
     rw [List.append_nil] at tw'
     rw [← ew] at ro ro'
     simp only [go_sem,lpl,i6]
     refine aCB aL D12_0.eq_1 (by kernel_rfl) ?_
     simp only [go_sem,hk',hkL,v1,v2,v3,n0,n0L,iw,tw,tw',io,ro,ro',y1,y2,y3,y4,y5,ij,tj,tj',i2,t2',t2'']
     have hsn := hW.2.2.1
     have huu := (uok _ (List.getElem_mem hnp)).2 _ (List.getElem_mem h1)
     have hsl2 := hsn.s1
     have hsl3 := hsn.s2
     have hsl4 := hsn.s3
     have dpn := dg.pn
     have dpe := dg.pe
     refine aW (ACall.vc (first := []) (args := [_,_,_,_]) (Fly_c d v s sv (wAt d n t) pol[n][t] uv hRM (hs.sub cG) hU (by omega) (by omega) (by omega) huu.1 huu.2)) ?_
     rintro y H3 ⟨s3,nw,rfl,hnw,how⟩
     have hok : mP d s (wAt d n t) pol[n][t] = true := by
      rw [mP,hB,tF hsn (by omega),aHo hB hn ht,hub]; rfl
     have how := how hok
     rw [aAn,if_pos hok] at hnw how ⊢
     simp only [hf1,hf2] at hnw how ⊢
     obtain ⟨s',es'⟩ : ∃ s',s' = (dC d s (wAt d n t) pol[n][t]).1 := ⟨_,rfl⟩
     rw [← es'] at hnw how hW2
     obtain ⟨u1,u2,u3⟩ := hnw.ones
     obtain ⟨H4,eH4⟩ : ∃ H4,H4 = H3 ++ [some (Blk.row [nw.pl,nw.le,nw.pe])] := ⟨_,rfl⟩
     have s4 : aB H3 H4 := eH4 ▸ aB.refl.app
     have f1 : H4[H3.length]? = some (some (.row [nw.pl,nw.le,nw.pe])) := by rw [eH4]; simp
     have f1L : ∀ L,(H4 ++ L)[H3.length]? = some (some (.row [nw.pl,nw.le,nw.pe])) := fun L => aA f1
     have s34 := s3.trans s4
     have f3 := s34.2 _ _ hk'
     have f0 := s34.2 _ _ n0
     have f0L : ∀ L,(H4 ++ L)[h.length]? = some (some (.row [v.pl,v.ln,v.pn,v.pe,v.we])) := fun L => aA f0
     simp only [go_sem,stC,u1,u2,u3]
     rw [← eH4]
     have hsn2 := hW2.2.2.1
     have hm1 := hsn2.s1
     have hm3 := hsn2.s3
     simp only [go_sem,f0,f0L,f1,f1L,u1,u2,u3,y1,y2,y3,y4,y5]
     refine aH (aET d v s' nw (hRM.sub s34) (hnw.sub s4) (by omega) (by omega)).v ?_
     rw [tF hsn2 (by omega)]
     simp only [go_sem,f1,f1L,u1,u2,u3,f3]
     have lM := aK hk
     have l3' := s3.1
     have hso : StS w0 (msk [H2.length] H4) s' nw := (how.st (C := [H2.length]) fun i hi => by simp only [List.mem_singleton] at hi; omega).sub (aDQ s4)
     have := ih (H4.set H2.length (some (.row (stC nw))),s',nw) ⟨(sM.trans s34).setR (Nat.le_refl _),by simp only; exact List.getElem?_set_self (aK f3),by simp only; rw [sU (by simp)]; exact hso,hW2⟩
     exact ⟨(by unfold I64; omega),by simpa [stC] using this⟩
 refine aD aL aDh [1,2,5,6,8,9] L12_1.eq_1 ?_
 obtain ⟨M,s,sv⟩ := st
 obtain ⟨sM,hk,hs,hW⟩ := I
 simp only at sM hk hs hW ⊢
 have sKM := s1.trans (s2.trans sM)
 have hRM := hR.sub sKM
 obtain ⟨pj,xj,ij,tj,tj',sxj⟩ := (hP.sub (s2.trans sM)).row hnp
 have lxj := NS.len sxj
 have i5 : ¬ (aJ d : Int) < pol[n].length := by omega
 have n0 := sKM.2 _ _ k0
 have n0L : ∀ L,(M ++ L)[h.length]? = some (some (.row [v.pl,v.ln,v.pn,v.pe,v.we])) := fun L => aA n0
 have hsU := hs.sub cG
 obtain ⟨v1,v2,v3⟩ := hsU.ones
 obtain ⟨q1,q2,q3⟩ := hsU.lens
 have hkL : ∀ L,(M ++ L)[H2.length]? = some (some (.row [sv.pl,sv.le,sv.pe])) := fun L => aA hk
 have hk' := hk
 simp only [stC] at hk'
 obtain ⟨_,hcost⟩ := yU hW rfl
 have hsn := hW.2.2.1
 have hsl2 := hsn.s1
 have hsl3 := hsn.s2
 have hsl4 := hsn.s3
 have dpn := dg.pn
 have dpe := dg.pe
 simp only [go_sem,ij,tj,tj',lxj,i5,n0,n0L,hk',hkL,v1,v2,v3,y1,y2,y3,y4,y5]
 refine aH (Cost_c d v s sv hRM hsU (by omega) (by omega) (by omega)).v ?_
 have hcs : (dM d && cZ d s) = true := by rw [hB,tF hsn (by omega)]; rfl
 rw [if_pos hcs,if_pos hcs]
 have hcv : ¬ V < uL d s := by omega
 simp only [go_sem,hcv]
 refine dG (S := Heap) (fun j _ => [(2,.ptr (.own h.length 0)),(6,.int .i64 V),(8,.ptr (.own H2.length 0)),(17,.int .i64 j)]) (fun _ H => H) (fun _ H => aB M H) d.people.length M aB.refl rfl rfl (fun j H hj sH ih => ?_) (fun H sH => ?_)
 · refine aD aL aDg [2,6,8,17] L12_2.eq_1 ?_
   have i6 : (j : Int) < s.people.length := by omega
   have hjs : j < s.people.length := by omega
   have r0 := sH.2 _ _ n0
   have rk := sH.2 _ _ hk'
   have r0L : ∀ L,(H ++ L)[h.length]? = some (some (.row [v.pl,v.ln,v.pn,v.pe,v.we])) := fun L => aA r0
   have rkL : ∀ L,(H ++ L)[H2.length]? = some (some (.row [sv.pl,sv.le,sv.pe])) := fun L => aA rk
   obtain ⟨p,p1,p2⟩ := (hRM.sub sH).toDayS.person hj
   have p2' := p2 []
   rw [List.append_nil] at p2'
   obtain ⟨a,a1,a2,a3⟩ := (hsU.sub sH).people.s.at_ hjs
   obtain ⟨x,ex⟩ : ∃ x,x = d.people[j] := ⟨_,rfl⟩
   rw [← ex] at p2 p2'
   have hxm : x ∈ d.people := ex ▸ List.getElem_mem hj
   have hat := hsn.pat _ (List.getElem_mem hjs)
   obtain ⟨z,ez⟩ : ∃ z : Nat,s.people[j] = z := ⟨s.people[j].toNat,by omega⟩
   have hz : z < d.places.length := by omega
   obtain ⟨q,q1',q2'⟩ := (hRM.sub sH).toDayS.place hz
   have q3' : ∀ L,rd w0 (H ++ L) (q.add 1) = some (.bool d.places[z].lodge) := fun L => cQ (q2' L) rfl
   have q4' := q3' []
   rw [List.append_nil] at q4'
   have at0 := hat.1
   have an : s.people[j].toNat = z := by omega
   have hst' : ¬ s.people[j] = x.to → d.places[z].lodge = false → x.strand ≤ V := fun e1 e2 => by
    have := aDr dg (s := s) hj (by rw [aE hjs,aE hj,← ex]; exact e1) (by rw [aE hjs,an,aE hz]; exact e2)
    rw [aE hj,← ex] at this; omega
   have nxt : ∀ X,I64 ((j : Int) + 1) ∧ lp Try.prog w0 none 181 h.length (resK w0 [RV.t 4] fun y H => y = AV.bool true ∧ aB h H) L12_2 [It.inBlk 4,It.code ((SC.reg [MIx.call (some 180) none (Opd.k (AV.fn (Fn.func 17) [] [])) [],MIx.op (some 4) none (MOp.mov (Opd.t 180))]).seq SC.ret)] [(2,AV.ptr (Pl.own h.length 0)),(6,AV.int IntKind.i64 V),(8,AV.ptr (Pl.own H2.length 0)),(17,AV.int IntKind.i64 ((j : Int) + 1))] (H ++ [X]) := fun X => ⟨(by unfold I64; omega),ih _ sH.app⟩
   by_cases e1 : V < x.strand
   rotate_left
   · simp only [go_sem,rk,rkL,q3,i6,r0,r0L,p1,p2,p2',cM.c,e1]
     exact nxt _
   by_cases e2 : s.people[j] = x.to
   · simp only [go_sem,rk,rkL,q3,i6,r0,r0L,p1,p2,p2',cM.c,e1,a1,a2,a3,e2]
     exact nxt _
   cases e3 : d.places[z].lodge with
   | false => exact absurd (hst' e2 e3) (by omega)
   | true =>
    rw [e3] at q3' q4'
    have e4 : (s.people[j] != x.to) = true := by simpa using e2
    simp only [go_sem,rk,rkL,q3,i6,r0,r0L,p1,p2,p2',cM.c,e1,a1,a2,a3,e4,at0,an,q1',q3',q4']
    exact nxt _
 refine aD aL aDg [2,6,8,17] L12_2.eq_1 ?_
 have i6 : ¬ (d.people.length : Int) < s.people.length := by omega
 have rk := sH.2 _ _ hk'
 have rkL : ∀ L,(H ++ L)[H2.length]? = some (some (.row [sv.pl,sv.le,sv.pe])) := fun L => aA rk
 simp only [go_sem,rk,rkL,q3,i6]
 refine aH sX.v ?_
 simp only [go_sem]
 exact sK.trans (sKM.trans sH)
end Go.Proofs.Ab

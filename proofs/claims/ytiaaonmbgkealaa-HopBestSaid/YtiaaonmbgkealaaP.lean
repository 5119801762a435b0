/- The own layer under the proofs of this seat, part P: what calls of the program come to on an abstract heap. No condition. -/
import Derived.Test.YtiaaonmbgkealaaO
import Derived.Test.YtiaaonmbgkealaaM
set_option linter.unusedSimpArgs false
set_option linter.unusedVariables false
namespace Go.Proofs.Ab
open Go Go.Proofs
variable {w0 : World} {h : Heap}
structure PolOK (d : aO) (pol : fO) : Prop where
 len : pol.length = d.weathers.length
 row : ∀ (w : Nat) (hw : w < pol.length),pol[w].length = aJ d
 un : ∀ (w : Nat) (hw : w < pol.length) (t : Nat) (ht : t < pol[w].length),tO d pol[w][t] = true
theorem aIH {d : aO} {pol : fO} (e : polB d pol = true) : PolOK d pol := by
 simp only [polB,Bool.and_eq_true,decide_eq_true_eq,List.all_eq_true] at e
 exact ⟨e.2,fun w hw => (e.1 _ (qG hw)).1,fun w hw t ht => (e.1 _ (qG hw)).2 _ (qG ht)⟩
theorem kI.fl {d : aO} {u : List aC} (a : kI d u) (h4 : d.people.length ≤ 4) : ∀ x ∈ u,tK d x := fun x hx => by
 have k := a.ok h4
 obtain ⟨h1,h2⟩ := a.pp x hx
 refine ⟨(a.to x hx).1,(a.to x hx).2,h1,?_⟩
 have key : ∀ (l : List Int) (b : Int),l.Pairwise (· < ·) → (∀ n ∈ l,b ≤ n ∧ n < d.people.length) → (l.length : Int) ≤ d.people.length - b ∨ l = [] := by
  intro l
  induction l with
  | nil => intro b _ _; exact .inr rfl
  | cons a l ih =>
   intro b hp hb
   obtain ⟨p1,p2⟩ := List.pairwise_cons.1 hp
   have hab := hb a (by simp)
   rcases ih (a + 1) p2 (fun n hn => ⟨by have := p1 n hn; omega,(hb n (by simp [hn])).2⟩) with h | h
   · left; simp; omega
   · subst h; left; simp; omega
 rcases key x.people 0 h2 (fun n hn => h1 n hn) with h | h
 · omega
 · rw [h]; simp
theorem mM {d : aO} (dg : dC d) : StN d 0 (bL d) := ⟨by simp [bL],by simp [bL],by simp [bL],fun x hx => by
 simp only [bL,List.mem_map] at hx
 obtain ⟨p,hp,rfl⟩ := hx
 exact (dg.planes p hp).1,fun x hx => by
 simp only [bL] at hx
 rw [(List.mem_replicate.1 hx).2]; simp,fun x hx => by
 simp only [bL,List.mem_map] at hx
 obtain ⟨p,hp,rfl⟩ := hx
 exact (dg.people p hp).1⟩
theorem wAt_bd {d : aO} (dg : dC d) {w t : Nat} (hw : w < d.weathers.length) (ht : t < aJ d) : ∃ h2 : t < d.weathers[w].length,wAt d w t = d.weathers[w][t] ∧ 0 ≤ wAt d w t ∧ wAt d w t < 2 ^ 5 := by
 obtain ⟨h1,h2⟩ := dg.rows _ (qG hw)
 have h3 : t < d.weathers[w].length := by omega
 have e : wAt d w t = d.weathers[w][t] := by rw [wAt,aI hw,aI h3]
 exact ⟨h3,e,by rw [e]; exact h2 _ (qG h3)⟩
theorem kT {ms : List Nat} {A B : Heap} (s : aB A B) : aB (msk ms A) (msk ms B) := jG s.1 fun i b _ e => s.2 i b e
end Go.Proofs.Ab
namespace Go.Proofs.Ab
open Go Go.Proofs
variable {w0 : World} {h : Heap}
attribute [local irreducible] ACall bY dD bA bX rvC lp rg dr ex un rv
end Go.Proofs.Ab
namespace Go.Proofs.Ab
open Go Go.Proofs
section
variable {d : aO} {ws slot : Nat}
theorem bit_xa {a g i : Nat} : aV (a ^^^ (a &&& g)) i = (aV a i && !aV g i) := by
 rw [dM,dM,dM,Nat.testBit_xor,Nat.testBit_and]
 cases a.testBit i <;> cases g.testBit i <;> rfl
theorem rU : ∀ n,n ≤ d.weathers.length → (∀ i,i < d.weathers.length → (aV (cI d ws slot n).1 i = true ↔ aV ws i = true ∧ ∀ w,w < n → aV ws w = true → wAt d i slot ≠ wAt d w slot)) ∧
 (∀ g ∈ (cI d ws slot n).2,∃ w,w < n ∧ aV ws w = true ∧ ∀ i,aV g i = true ↔ i < d.weathers.length ∧ aV ws i = true ∧ wAt d i slot = wAt d w slot) ∧
 (∀ w,w < n → aV ws w = true → ∃ g ∈ (cI d ws slot n).2,aV g w = true) ∧
 (cI d ws slot n).2.Pairwise fun g g' => ∀ i,¬ (aV g i = true ∧ aV g' i = true)
 | 0,_ => ⟨fun i _ => by simp [cI],fun g hg => by simp [cI] at hg,fun w hw => by omega,by simp [cI]⟩
 | n + 1,hn => by
  obtain ⟨h1,h2,h3,h4⟩ := rU n (by omega)
  obtain ⟨l,el⟩ : ∃ l,l = (cI d ws slot n).1 := ⟨_,rfl⟩
  obtain ⟨gs,egs⟩ : ∃ gs,gs = (cI d ws slot n).2 := ⟨_,rfl⟩
  rw [← el] at h1
  rw [← egs] at h2 h3 h4
  rw [cI]
  simp only [← el,← egs]
  have hbit : ∀ i,aV (fW d l slot n d.weathers.length) i = true ↔ i < d.weathers.length ∧ aV l i = true ∧ wAt d i slot = wAt d n slot := fun i => by
   rw [qK]; simp [and_assoc]
  cases hb : aV l n with
  | false =>
   rw [if_neg (by simp),← el,← egs]
   have hn0 : ¬ (aV ws n = true ∧ ∀ w,w < n → aV ws w = true → wAt d n slot ≠ wAt d w slot) := fun e => by
    have := (h1 n (by omega)).2 e; rw [hb] at this; cases this
   refine ⟨fun i hi => ?_,fun g hg => ?_,fun w hw hb2 => ?_,h4⟩
   · rw [h1 i hi]
     refine ⟨fun ⟨a,b⟩ => ⟨a,fun w hw hb2 => ?_⟩,fun ⟨a,b⟩ => ⟨a,fun w hw => b w (by omega)⟩⟩
     rcases Nat.lt_or_ge w n with h | h
     · exact b w h hb2
     · obtain rfl : w = n := by omega
       intro e
       refine hn0 ⟨hb2,fun w' hw' hb3 => ?_⟩
       rw [← e]; exact b w' hw' hb3
   · obtain ⟨w,a,b⟩ := h2 g hg
     exact ⟨w,by omega,b⟩
   · rcases Nat.lt_or_ge w n with h | h
     · exact h3 w h hb2
     · obtain rfl : w = n := by omega
       have : ∃ w',w' < w ∧ aV ws w' = true ∧ wAt d w slot = wAt d w' slot := by
        refine Classical.byContradiction fun hc => hn0 ⟨hb2,fun w' hw' hb3 e => hc ⟨w',hw',hb3,e⟩⟩
       obtain ⟨w',a,b,c⟩ := this
       obtain ⟨g,hg,hgw⟩ := h3 w' a b
       obtain ⟨v,_,_,hv⟩ := h2 g hg
       refine ⟨g,hg,(hv w).2 ⟨by omega,hb2,?_⟩⟩
       rw [c]; exact ((hv w').1 hgw).2.2
  | true =>
   rw [if_pos rfl]
   have hn1 := (h1 n (by omega)).1 hb
   have key : ∀ i,i < d.weathers.length → aV ws i = true → wAt d i slot = wAt d n slot → aV l i = true := fun i hi hb2 e => (h1 i hi).2 ⟨hb2,fun w hw hb3 => by rw [e]; exact hn1.2 w hw hb3⟩
   refine ⟨fun i hi => ?_,fun g hg => ?_,fun w hw hb2 => ?_,?_⟩
   · rw [bit_xa,Bool.and_eq_true,Bool.not_eq_true',Bool.eq_false_iff,ne_eq,hbit,h1 i hi]
     refine ⟨fun ⟨⟨a,b⟩,c⟩ => ⟨a,fun w hw hb2 => ?_⟩,fun ⟨a,b⟩ => ⟨⟨a,fun w hw => b w (by omega)⟩,fun c => b n (by omega) hn1.1 c.2.2⟩⟩
     rcases Nat.lt_or_ge w n with h | h
     · exact b w h hb2
     · obtain rfl : w = n := by omega
       exact fun e => c ⟨hi,⟨a,b⟩,e⟩
   · rcases List.mem_append.1 hg with hg | hg
     · obtain ⟨w,a,b⟩ := h2 g hg
       exact ⟨w,by omega,b⟩
     · simp only [List.mem_singleton] at hg
       subst hg
       refine ⟨n,by omega,hn1.1,fun i => ?_⟩
       rw [hbit]
       exact ⟨fun ⟨a,b,c⟩ => ⟨a,((h1 i a).1 b).1,c⟩,fun ⟨a,b,c⟩ => ⟨a,key i a b c,c⟩⟩
   · rcases Nat.lt_or_ge w n with h | h
     · obtain ⟨g,hg,hgw⟩ := h3 w h hb2
       exact ⟨g,List.mem_append.2 (.inl hg),hgw⟩
     · obtain rfl : w = n := by omega
       exact ⟨_,List.mem_append.2 (.inr (by simp)),(hbit w).2 ⟨by omega,hb,rfl⟩⟩
   · rw [List.pairwise_append]
     refine ⟨h4,by simp,fun g hg g' hg' i hi => ?_⟩
     simp only [List.mem_singleton] at hg'
     subst hg'
     obtain ⟨w,a,b,hv⟩ := h2 g hg
     obtain ⟨hi1,hi2⟩ := hi
     obtain ⟨c1,c2,c3⟩ := (hbit i).1 hi2
     exact ((h1 i c1).1 c2).2 w a b ((hv i).1 hi1).2.2
theorem cS : (∀ g ∈ cV d ws slot,∃ w,w < d.weathers.length ∧ aV ws w = true ∧ ∀ i,aV g i = true ↔ i < d.weathers.length ∧ aV ws i = true ∧ wAt d i slot = wAt d w slot) ∧
 (∀ w,w < d.weathers.length → aV ws w = true → ∃ g ∈ cV d ws slot,aV g w = true) ∧
 (cV d ws slot).Pairwise fun g g' => ∀ i,¬ (aV g i = true ∧ aV g' i = true) := (rU d.weathers.length (Nat.le_refl _)).2
theorem aBl {g : Nat} {u : List aC} {pol : fO} {w : Nat} (hw : w < pol.length) : ∀ n,(lH g u pol n).getD w [] = pol.getD w [] ++ (if decide (w < n) && aV g w then [u] else [])
 | 0 => by simp [lH]
 | n + 1 => by
  have ih := aBl (g := g) (u := u) hw n
  have hl := wU (g := g) (u := u) (pol := pol) n
  rw [lH]
  by_cases e : w = n
  · subst e
    have h1 : decide (w < w) = false := decide_eq_false (by omega)
    have h2 : decide (w < w + 1) = true := decide_eq_true (by omega)
    rw [h1,Bool.false_and,if_neg (by simp),List.append_nil] at ih
    rw [h2,Bool.true_and]
    split
    · rw [List.getD_eq_getElem?_getD,qF (by rw [hl]; exact hw),Option.getD_some,ih]
    · rw [ih,List.append_nil]
  · have h1 : decide (w < n + 1) = decide (w < n) := by rw [decide_eq_decide]; omega
    rw [h1,← ih]
    split
    · rw [List.getD_eq_getElem?_getD,qB (by omega),← List.getD_eq_getElem?_getD]
    · rfl
end
def kD (d : aO) : Nat → Nat → aD → Nat → List (List aC)
 | 0,_,_,_ => []
 | k + 1,ws,s,w => match (cV d ws (aJ d - (k + 1))).find? fun g => aV g w with
  | none => []
  | some g => match (cK d s (wAt d (gD g d.weathers.length) (aJ d - (k + 1)))).find? (pF d k (aJ d - (k + 1)) g s) with
   | none => []
   | some x => x.1 :: kD d k g x.2 w
theorem aFP {d : aO} {w : Nat} : ∀ (k ws : Nat) (s : aD),aV ws w = false → kD d k ws s w = []
 | 0,_,_,_ => rfl
 | k + 1,ws,s,hb => by
  have : (cV d ws (aJ d - (k + 1))).find? (fun g => aV g w) = none := by
   rw [List.find?_eq_none]
   intro g hg hbg
   obtain ⟨v,_,_,hv⟩ := cS.1 g hg
   have := ((hv w).1 hbg).2.1
   rw [hb] at this; cases this
  rw [kD,this]
theorem aAY {W w : Nat} {step : fO → Nat → fO} {F : Nat → List (List aC)} (hw : w < W) (hs : ∀ p g,p.length = W → (step p g).length = W ∧ (step p g).getD w [] = p.getD w [] ++ (if aV g w = true then F g else [])) : ∀ (gs : List Nat) (p : fO),p.length = W → gs.Pairwise (fun g g' => ∀ i,¬ (aV g i = true ∧ aV g' i = true)) →
 (gs.foldl step p).length = W ∧ (gs.foldl step p).getD w [] = p.getD w [] ++ (match gs.find? (fun g => aV g w) with | none => [] | some g => F g)
 | [],p,hp,_ => ⟨hp,by simp⟩
 | g :: gs,p,hp,hd => by
  obtain ⟨d1,d2⟩ := List.pairwise_cons.1 hd
  obtain ⟨s1,s2⟩ := hs p g hp
  obtain ⟨i1,i2⟩ := aAY hw hs gs (step p g) s1 d2
  rw [List.foldl_cons]
  refine ⟨i1,?_⟩
  rw [i2,s2]
  cases hb : aV g w with
  | true =>
   have : gs.find? (fun g => aV g w) = none := by
    rw [List.find?_eq_none]
    intro g' hg' hb'
    exact d1 g' hg' w ⟨hb,hb'⟩
   rw [this,List.find?_cons,hb]
   simp
  | false =>
   rw [List.find?_cons,hb]
   simp
theorem yQ {d : aO} : ∀ (k ws : Nat) (s : aD) (pol : fO),pol.length = d.weathers.length → (iB d k ws s pol).length = pol.length ∧ ∀ w,w < pol.length → (iB d k ws s pol).getD w [] = pol.getD w [] ++ kD d k ws s w
 | 0,ws,s,pol,_ => ⟨rfl,fun w _ => by simp [iB,kD]⟩
 | k + 1,ws,s,pol,hp => by
  obtain ⟨_,_,h3⟩ := cS (d := d) (ws := ws) (slot := aJ d - (k + 1))
  rw [tI]
  have step : ∀ (g : Nat) (p : fO),p.length = d.weathers.length → (iM d k (aJ d - (k + 1)) s p g).length = p.length ∧ ∀ w,w < p.length → (iM d k (aJ d - (k + 1)) s p g).getD w [] = p.getD w [] ++ (if aV g w = true then (match (cK d s (wAt d (gD g d.weathers.length) (aJ d - (k + 1)))).find? (pF d k (aJ d - (k + 1)) g s) with
   | none => []
   | some x => x.1 :: kD d k g x.2 w) else []) := fun g p hpl => by
   rw [iM]
   cases (cK d s (wAt d (gD g d.weathers.length) (aJ d - (k + 1)))).find? (pF d k (aJ d - (k + 1)) g s) with
   | none => exact ⟨rfl,fun w _ => by simp [rK]⟩
   | some x =>
    have hal := wU (g := g) (u := x.1) (pol := p) d.weathers.length
    obtain ⟨b1,b2⟩ := yQ k g x.2 (lH g x.1 p d.weathers.length) (by rw [hal,hpl])
    refine ⟨by simp only [rK]; rw [b1,hal],fun w hw => ?_⟩
    simp only [rK]
    rw [b2 w (by rw [hal]; exact hw),aBl hw,decide_eq_true (show w < d.weathers.length by omega),Bool.true_and]
    cases hb : aV g w with
    | true => simp
    | false => rw [aFP k g x.2 hb]; simp
  have hl : ∀ (gs : List Nat) (p : fO),p.length = d.weathers.length → (gs.foldl (iM d k (aJ d - (k + 1)) s) p).length = p.length := fun gs => by
   induction gs with
   | nil => intro p _; rfl
   | cons g gs ih => intro p hpl; rw [List.foldl_cons,ih _ (by rw [(step g p hpl).1,hpl]),(step g p hpl).1]
  refine ⟨hl _ pol hp,fun w hw => ?_⟩
  obtain ⟨_,i2⟩ := aAY (W := d.weathers.length) (w := w) (step := iM d k (aJ d - (k + 1)) s) (F := fun g => match (cK d s (wAt d (gD g d.weathers.length) (aJ d - (k + 1)))).find? (pF d k (aJ d - (k + 1)) g s) with
   | none => []
   | some x => x.1 :: kD d k g x.2 w) (by omega) (fun p g hpl => by
   obtain ⟨a,b⟩ := step g p hpl
   exact ⟨a.trans hpl,b w (by omega)⟩) (cV d ws (aJ d - (k + 1))) pol hp h3
  rw [i2,kD]
section
variable {d : aO}
def NC (d : aO) (s : aD) : Prop := (List.range d.places.length).any (eJ d s) = false
theorem aFE {s : aD} {op : Int} {i : Nat} {x : aC} {g g' : List Bool} {r : Int} (h : lK d s op i x g = (some r,g')) : r ≠ 1 := by
 simp only [lK] at h
 split at h
 · cases h; omega
 · split at h
   · cases h; omega
   · split at h
     · cases h; omega
     · split at h
       · cases h; omega
       · split at h
         · cases h; omega
         · cases h
theorem zS {s : aD} {op : Int} : ∀ (u : List aC) (i : Nat) (n : aD) (g : List Bool) (r p : Int),lY d s op u i n g = .error (r,p) → r ≠ 1
 | [],i,n,g,r,p,h => by cases h
 | x :: u,i,n,g,r,p,h => by
  rw [lY] at h
  split at h
  · exact zS u _ n g r p h
  · split at h
    · rename_i r' g' e
      cases h
      exact aFE e
    · exact zS u _ _ _ r p h
theorem vZ {s : aD} {op : Int} {u : List aC} (h : (fC d s op u).2.1 = 1) : (fC d s op u).2.2 = -1 ∧ NC d (fC d s op u).1 := by
 rw [fC] at h ⊢
 cases e : lY d s op u 0 s [false,false,false,false] with
 | error p =>
  rw [e] at h
  exact absurd h (zS _ _ _ _ _ _ e)
 | ok n =>
  rw [e] at h
  simp only at h ⊢
  cases e2 : (List.range d.places.length).any (eJ d n) with
  | true => rw [e2,if_pos rfl] at h; simp at h
  | false => rw [if_neg (by simp)]; exact ⟨rfl,e2⟩
theorem yI {s : aD} {op : Int} : ∀ (u : List aC) (i : Nat) (n : aD) (g : List Bool),(∀ x ∈ u,x.to < 0) → lY d s op u i n g = .ok n
 | [],_,_,_,_ => rfl
 | x :: u,i,n,g,h => by
  rw [lY,if_pos (h x (by simp))]
  exact yI u _ n g fun y hy => h y (by simp [hy])
theorem sJ {s : aD} {op : Int} (hc : NC d s) : ∀ (k gone : Nat) (u : List aC),(∀ x ∈ u,x.to < 0) → eX d s op k gone u ≠ []
 | 0,gone,u,hu => by
  rw [eX,fC,yI u _ _ _ hu]
  simp only
  rw [hc]
  simp
 | k + 1,gone,u,hu => by
  rw [eX,gX,List.flatMap_cons]
  intro e
  exact sJ hc k gone (u ++ [⟨-1,[]⟩]) (fun x hx => by
   rcases List.mem_append.1 hx with h | h
   · exact hu x h
   · simp only [List.mem_singleton] at h; subst h; decide) (List.append_eq_nil_iff.1 e).1
theorem xY {next : aD → Int} : ∀ (l : List (List aC × aD)) (b : Int),(l.foldl (gV next) b = b ∧ 0 ≤ b) ∨ (∃ x ∈ l,next x.2 = l.foldl (gV next) b) ∨ l = []
 | [],b => .inr (.inr rfl)
 | x :: l,b => by
  rw [List.foldl_cons]
  have hm : gV next b x = next x.2 ∨ (gV next b x = b ∧ 0 ≤ b) := by
   rw [gV]
   split
   · exact .inl rfl
   · rename_i h
     refine .inr ⟨rfl,?_⟩
     simp only [Bool.or_eq_true,decide_eq_true_eq,not_or] at h
     omega
  rcases xY (next := next) l (gV next b x) with ⟨h1,h2⟩ | ⟨y,hy,h⟩ | h
  · rw [h1]
    rcases hm with e | ⟨e,e2⟩
    · exact .inr (.inl ⟨x,by simp,e.symm⟩)
    · exact .inl ⟨e,e2⟩
  · exact .inr (.inl ⟨y,by simp [hy],h⟩)
  · subst h
    rcases hm with e | ⟨e,e2⟩
    · exact .inr (.inl ⟨x,by simp,e.symm⟩)
    · exact .inl ⟨e,e2⟩
theorem lD {f : Nat → Int} : ∀ (l : List Nat) (b : Int),b ≤ l.foldl (fun m g => max m (f g)) b ∧ ∀ g ∈ l,f g ≤ l.foldl (fun m g => max m (f g)) b
 | [],b => ⟨Int.le_refl _,fun g hg => by cases hg⟩
 | x :: l,b => by
  obtain ⟨h1,h2⟩ := lD (f := f) l (max b (f x))
  rw [List.foldl_cons]
  refine ⟨by omega,fun g hg => ?_⟩
  rcases List.mem_cons.1 hg with h | h
  · subst h; omega
  · exact h2 g h
theorem cost0 (dg : dC d) (s : aD) : 0 ≤ wJ d s := by
 have h1 := (kK (by omega) (oH dg s) d.planes.length).1
 have h2 := (kK (by omega) (oR dg s) d.people.length).1
 rw [wJ]; omega
theorem aK6 (dg : dC d) : ∀ (k ws : Nat) (s : aD),0 ≤ bF d k ws s
 | 0,_,s => cost0 dg s
 | k + 1,ws,s => (lD _ _).1
theorem wF {α : Type} {p q : α → Bool} : ∀ {l : List α},(∀ x ∈ l,p x = q x) → l.find? p = l.find? q
 | [],_ => rfl
 | x :: l,h => by rw [List.find?_cons,List.find?_cons,h x (by simp),wF fun y hy => h y (by simp [hy])]
theorem aEo (dg : dC d) {k ws w t : Nat} {s : aD} (hk : t + (k + 1) = aJ d) (hw : w < d.weathers.length) (hb : aV ws w = true) (hc : NC d s) :
 ∃ (g : Nat) (x : List aC × aD),kD d (k + 1) ws s w = x.1 :: kD d k g x.2 w ∧ aV g w = true ∧ x ∈ cK d s (wAt d w t) ∧ bF d k g x.2 ≤ bF d (k + 1) ws s := by
 have ht : aJ d - (k + 1) = t := by omega
 obtain ⟨g0,hg0,hb0⟩ := (cS (d := d) (ws := ws) (slot := aJ d - (k + 1))).2.1 w hw hb
 obtain ⟨g,eg⟩ : ∃ g,(cV d ws (aJ d - (k + 1))).find? (fun g => aV g w) = some g := by
  cases e : (cV d ws (aJ d - (k + 1))).find? (fun g => aV g w) with
  | some g => exact ⟨g,rfl⟩
  | none => exact absurd hb0 (List.find?_eq_none.1 e g0 hg0)
 have hgb : aV g w = true := List.find?_some (p := fun g => aV g w) eg
 have hgm := List.mem_of_find?_eq_some eg
 obtain ⟨v,_,_,hv⟩ := cS.1 g hgm
 have hf := (jS d.weathers.length g ⟨w,hw,hgb⟩).1
 have hwa : wAt d (gD g d.weathers.length) (aJ d - (k + 1)) = wAt d w t := by
  have h1 := ((hv _).1 hf).2.2
  have h2 := ((hv w).1 hgb).2.2
  rw [h1,← h2,ht]
 have hle : dS d k (aJ d - (k + 1)) g s ≤ bF d (k + 1) ws s := (lD (f := fun g => jF d (bF d k) (aJ d - (k + 1)) g s) (cV d ws (aJ d - (k + 1))) 0).2 g hgm
 have hex : ∃ x ∈ cK d s (wAt d w t),bF d k g x.2 = dS d k (aJ d - (k + 1)) g s := by
  rw [dS,jF,hwa]
  rcases xY (next := bF d k g) (cK d s (wAt d w t)) (-1) with ⟨_,h⟩ | h | h
  · omega
  · exact h
  · exact absurd h (sJ hc _ _ _ (by simp))
 obtain ⟨y,hy,ey⟩ := hex
 obtain ⟨x,ex'⟩ : ∃ x,(cK d s (wAt d w t)).find? (pF d k (aJ d - (k + 1)) g s) = some x := by
  cases e : (cK d s (wAt d w t)).find? (pF d k (aJ d - (k + 1)) g s) with
  | some x => exact ⟨x,rfl⟩
  | none => exact absurd (by rw [pF,ey]; simp) (List.find?_eq_none.1 e y hy)
 have hh : pF d k (aJ d - (k + 1)) g s x = true := List.find?_some ex'
 simp only [pF,Bool.not_eq_true',decide_eq_false_iff_not] at hh
 refine ⟨g,x,?_,hgb,List.mem_of_find?_eq_some ex',by omega⟩
 rw [kD,eg]
 simp only
 rw [hwa,ex']
end
section
variable {d : aO}
def SIn (m : Nat) (l : List Int) : Prop := l.Pairwise (· < ·) ∧ ∀ n ∈ l,0 ≤ n ∧ n < m
theorem SIn.pk {m : Nat} {l : List Int} (a : SIn m l) : (List.range l.length).all (pkB m l) = true := by
 rw [cR]
 intro k hk
 have h1 := a.2 _ (qG hk)
 simp only [pkB,aI hk,inB,Bool.and_eq_true,Bool.or_eq_true,decide_eq_true_eq]
 refine ⟨by omega,?_⟩
 rcases k with _ | k
 · exact .inl rfl
 · right
   rw [Nat.add_sub_cancel,aI (by omega)]
   exact List.pairwise_iff_getElem.1 a.1 k (k + 1) (by omega) hk (by omega)
theorem yX {s : aD} {at_ to : Int} : ∀ (k : Nat) (l : List Int) (seats : Int) (gone : Nat),k ≤ d.people.length → SIn (d.people.length - k) l → ∀ x ∈ lJ d s at_ to k l seats gone,x.1.to = to ∧ SIn d.people.length x.1.people
 | 0,l,seats,gone,_,_,x,hx => by simp [lJ] at hx
 | k + 1,l,seats,gone,hk,hl,x,hx => by
  have hl2 : SIn (d.people.length - k) l := ⟨hl.1,fun n hn => by have := hl.2 n hn; omega⟩
  have hl3 : SIn (d.people.length - k) (l ++ [((d.people.length - (k + 1) : Nat) : Int)]) := by
   refine ⟨?_,fun n hn => ?_⟩
   · rw [List.pairwise_append]
     refine ⟨hl.1,by simp,fun a ha b hb => ?_⟩
     simp only [List.mem_singleton] at hb
     subst hb
     have := hl.2 a ha; omega
   · rcases List.mem_append.1 hn with h | h
     · exact hl2.2 n h
     · simp only [List.mem_singleton] at h; omega
  have hl4 : SIn d.people.length (l ++ [((d.people.length - (k + 1) : Nat) : Int)]) := ⟨hl3.1,fun n hn => by have := hl3.2 n hn; omega⟩
  rw [lJ] at hx
  rcases List.mem_append.1 hx with h | h
  · split at h
    · rcases List.mem_cons.1 h with h | h
      · subst h; exact ⟨rfl,hl4⟩
      · exact yX k _ _ _ (by omega) hl3 x h
    · cases h
  · exact yX k _ _ _ (by omega) hl2 x h
theorem wA {s : aD} {op : Int} {plane gone : Nat} : ∀ k,k ≤ d.places.length → ∀ x ∈ fD d s op plane gone k,flB d x.1 = true
 | 0,_,x,hx => by simp [fD] at hx
 | k + 1,hk,x,hx => by
  rw [fD] at hx
  rcases List.mem_append.1 hx with h | h
  · split at h
    · have key : x.1.to = ((d.places.length - (k + 1) : Nat) : Int) ∧ SIn d.people.length x.1.people := by
       rw [xX] at h
       rcases List.mem_cons.1 h with h | h
       · subst h; exact ⟨rfl,by simp,fun n hn => by cases hn⟩
       · exact yX _ _ _ _ (Nat.le_refl _) ⟨by simp,fun n hn => by cases hn⟩ x h
      simp only [flB,inB,key.2.pk,Bool.and_true,Bool.and_eq_true,Bool.or_eq_true,decide_eq_true_eq]
      omega
    · cases h
  · exact wA k (by omega) x h
theorem aCg {s : aD} {op : Int} {plane gone : Nat} (hp : 0 < d.places.length) : ∀ x ∈ gX d s op plane gone,flB d x.1 = true := fun x hx => by
 rw [gX] at hx
 rcases List.mem_cons.1 hx with h | h
 · subst h
   simp [flB,inB]; omega
 · exact wA _ (Nat.le_refl _) x h
theorem aAo {s : aD} {op : Int} (hp : 0 < d.places.length) : ∀ (k gone : Nat) (u : List aC),u.all (flB d) = true → ∀ y ∈ eX d s op k gone u,y.1.all (flB d) = true
 | 0,gone,u,hu,y,hy => by
  rw [eX] at hy
  split at hy
  · simp only [List.mem_singleton] at hy; subst hy; exact hu
  · cases hy
 | k + 1,gone,u,hu,y,hy => by
  rw [eX,List.mem_flatMap] at hy
  obtain ⟨x,hx,hy⟩ := hy
  refine aAo hp k x.2 (u ++ [x.1]) ?_ y hy
  rw [List.all_append,hu,Bool.true_and,List.all_cons,aCg hp x hx]; rfl
theorem aIf {s : aD} {op : Int} {t : Nat} (dg : dC d) (a : StN d t s) {y : List aC × aD} (hy : y ∈ cK d s op) : tO d y.1 = true := by
 have h1 := aAo (by have := dg.p0; omega) _ _ _ (by simp) y hy
 have h2 := (kR dg a y hy).1
 rw [tO,h1,decide_eq_true h2]; rfl
def aBm (d : aO) (P : List (List aC)) (V : Int) (w t : Nat) (s : aD) : Prop :=
 t ≤ aJ d ∧ NC d s ∧ StN d t s ∧ ∃ ws,aV ws w = true ∧ P.drop t = kD d (aJ d - t) ws s w ∧ bF d (aJ d - t) ws s ≤ V
theorem aD7 (dg : dC d) {P : List (List aC)} {V : Int} {w t : Nat} {s : aD} (hw : w < d.weathers.length) (I : aBm d P V w t s) (ht : t < aJ d) :
 ∃ h : t < P.length,tO d P[t] = true ∧ (fC d s (wAt d w t) P[t]).2.1 = 1 ∧ (fC d s (wAt d w t) P[t]).2.2 = -1 ∧ aBm d P V w (t + 1) (fC d s (wAt d w t) P[t]).1 := by
 obtain ⟨_,hc,hs,ws,hb,hp,hv⟩ := I
 obtain ⟨k,ek⟩ : ∃ k,aJ d - t = k + 1 := ⟨aJ d - t - 1,by omega⟩
 rw [ek] at hp hv
 obtain ⟨g,x,h1,h2,h3,h4⟩ := aEo dg (k := k) (t := t) (by omega) hw hb hc
 rw [h1] at hp
 have hlt : t < P.length := by
  refine Classical.byContradiction fun hn => ?_
  rw [List.drop_eq_nil_of_le (by omega)] at hp; cases hp
 rw [List.drop_eq_getElem_cons hlt] at hp
 obtain ⟨hx,hr⟩ := List.cons.inj hp
 obtain ⟨q1,q2,q3,q4⟩ := kR dg hs x h3
 obtain ⟨f1,f2⟩ := vZ q3
 refine ⟨hlt,?_⟩
 rw [hx]
 refine ⟨aIf dg hs h3,q3,f1,by omega,f2,?_,g,h2,?_,?_⟩
 · exact zU q1 q2 hs
 · rw [show aJ d - (t + 1) = k by omega,hr,q4]
 · rw [show aJ d - (t + 1) = k by omega,← q4]; omega
theorem aFe {P : List (List aC)} {V : Int} {w t : Nat} {s : aD} (I : aBm d P V w t s) (ht : t = aJ d) : P.length ≤ t ∧ wJ d s ≤ V := by
 obtain ⟨_,_,_,ws,_,hp,hv⟩ := I
 subst ht
 rw [Nat.sub_self] at hp hv
 rw [kD] at hp
 exact ⟨List.drop_eq_nil_iff.1 hp,hv⟩
theorem aAm (dg : dC d) {P : List (List aC)} {V : Int} {w : Nat} (hw : w < d.weathers.length) : ∀ (k t : Nat) (s : aD),t + k = aJ d → aBm d P V w t s → P.length ≤ aJ d ∧ ∀ i,t ≤ i → i < aJ d → ∃ h : i < P.length,tO d P[i] = true
 | 0,t,s,hk,I => ⟨by have := (aFe I (by omega)).1; omega,fun i h1 h2 => by omega⟩
 | k + 1,t,s,hk,I => by
  obtain ⟨h1,h2,_,_,h5⟩ := aD7 dg hw I (by omega)
  obtain ⟨i1,i2⟩ := aAm dg hw k (t + 1) _ (by omega) h5
  refine ⟨i1,fun i a b => ?_⟩
  rcases Nat.lt_or_ge t i with h | h
  · exact i2 i (by omega) b
  · obtain rfl : i = t := by omega
    exact ⟨h1,h2⟩
theorem sD (dg : dC d) {w : Nat} (hw : w < d.weathers.length) : (fK d).1.length = d.weathers.length ∧ (fK d).1.getD w [] = kD d (aJ d) (2 ^ d.weathers.length - 1) (bL d) w := by
 obtain ⟨h1,h2⟩ := yQ (d := d) (aJ d) (2 ^ d.weathers.length - 1) (bL d) (List.replicate d.weathers.length []) (by simp)
 refine ⟨by rw [fK,h1]; simp,?_⟩
 have := h2 w (by simpa using hw)
 rw [fK,this,List.getD_eq_getElem?_getD,List.getElem?_replicate,if_pos hw]; rfl
theorem uU {n w : Nat} (hw : w < n) : aV (2 ^ n - 1) w = true := by
 rw [dM,Nat.testBit_two_pow_sub_one]; exact decide_eq_true hw
theorem aE2 (hB : eE d = true) {w : Nat} (hw : w < d.weathers.length) : aBm d ((fK d).1.getD w []) (fK d).2 w 0 (bL d) := by
 have dg := gT hB
 refine ⟨Nat.zero_le _,(lQ.1 hB).cr,mM dg,2 ^ d.weathers.length - 1,uU hw,?_,Int.le_refl _⟩
 rw [List.drop_zero,(sD dg hw).2]; rfl
theorem aK4 (hB : eE d = true) : polB d (fK d).1 = true := by
 have dg := gT hB
 have hw0 := dg.w0
 have hl := (sD dg (w := 0) (by omega)).1
 rw [polB,decide_eq_true hl,Bool.and_true,List.all_eq_true]
 intro r hr
 obtain ⟨w,hw,rfl⟩ := List.getElem_of_mem hr
 have I := aE2 hB (w := w) (by omega)
 rw [aI hw] at I
 obtain ⟨h1,h2⟩ := aAm dg (by omega) (aJ d) 0 _ (by omega) I
 have hs := dg.s0
 obtain ⟨h3,_⟩ := h2 (aJ d - 1) (by omega) (by omega)
 have h4 : (fK d).1[w].length = aJ d := by omega
 rw [decide_eq_true h4,Bool.true_and,List.all_eq_true]
 intro u hu
 obtain ⟨i,hi,rfl⟩ := List.getElem_of_mem hu
 exact (h2 i (by omega) (by omega)).2
end
end Go.Proofs.Ab
namespace Go.Proofs.Ab
open Go Go.Proofs
variable {w0 : World} {h : Heap}
attribute [local irreducible] ACall bY dD bA bX rvC lp rg dr ex un rv
end Go.Proofs.Ab

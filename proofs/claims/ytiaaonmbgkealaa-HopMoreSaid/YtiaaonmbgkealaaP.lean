/- The own layer under the proofs of this seat, part P: what calls of the program come to on an abstract heap. No condition. -/
import Derived.Test.YtiaaonmbgkealaaO
import Derived.Test.YtiaaonmbgkealaaM
set_option linter.unusedSimpArgs false
set_option linter.unusedVariables false
namespace Go.Proofs.Ab
open Go Go.Proofs
variable {w0 : World} {h : Heap}
theorem sO.fl {d : aO} {u : List aD} (a : sO d u) (h4 : d.people.length ≤ 4) : ∀ x ∈ u,rR d x := fun x hx => by
 have k := a.ok h4
 obtain ⟨h1,h2⟩ := a.pp x hx
 refine ⟨(a.to x hx).1,(a.to x hx).2,h1,?_⟩
 have key : ∀ (l : List Int) (b : Int),l.Pairwise (· < ·) → (∀ n ∈ l,b ≤ n ∧ n < d.people.length) → (l.length : Int) ≤ d.people.length - b ∨ l = [] := by
  intro l
  induction l with
  | nil => intro b _ _; exact .inr rfl
  | cons a l ih =>
   intro b hp hb
   obtain ⟨p1,p2⟩ := List.pairwise_cons.1 hp
   have hab := hb a (by simp)
   rcases ih (a + 1) p2 (fun n hn => ⟨by have := p1 n hn; omega,(hb n (by simp [hn])).2⟩) with h | h
   · left; simp; omega
   · subst h; left; simp; omega
 rcases key x.people 0 h2 (fun n hn => h1 n hn) with h | h
 · omega
 · rw [h]; simp
theorem aAM {d : aO} (dg : gA d) : StN d 0 (bP d) := ⟨by simp [bP],by simp [bP],by simp [bP],fun x hx => by
 simp only [bP,List.mem_map] at hx
 obtain ⟨p,hp,rfl⟩ := hx
 exact (dg.planes p hp).1,fun x hx => by
 simp only [bP] at hx
 rw [(List.mem_replicate.1 hx).2]; simp,fun x hx => by
 simp only [bP,List.mem_map] at hx
 obtain ⟨p,hp,rfl⟩ := hx
 exact (dg.people p hp).1⟩
end Go.Proofs.Ab
namespace Go.Proofs.Ab
open Go Go.Proofs
variable {w0 : World} {h : Heap}
attribute [local irreducible] ACall aS aV aM aP rvC rdC lp rg dr ex un rv rd'
end Go.Proofs.Ab
namespace Go.Proofs.Ab
open Go Go.Proofs
variable {w0 : World} {h : Heap}
attribute [local irreducible] ACall aS aV aM aP rvC rdC lp rg dr ex un rv rd'
end Go.Proofs.Ab
namespace Go.Proofs.Ab
open Go Go.Proofs
section
variable {d : aO} {ws slot : Nat}
theorem bit_xa {a g i : Nat} : aZ (a ^^^ (a &&& g)) i = (aZ a i && !aZ g i) := by
 rw [dD,dD,dD,Nat.testBit_xor,Nat.testBit_and]
 cases a.testBit i <;> cases g.testBit i <;> rfl
theorem qE : ∀ n,n ≤ d.weathers.length → (∀ i,i < d.weathers.length → (aZ (bU d ws slot n).1 i = true ↔ aZ ws i = true ∧ ∀ w,w < n → aZ ws w = true → wAt d i slot ≠ wAt d w slot)) ∧
 (∀ g ∈ (bU d ws slot n).2,∃ w,w < n ∧ aZ ws w = true ∧ ∀ i,aZ g i = true ↔ i < d.weathers.length ∧ aZ ws i = true ∧ wAt d i slot = wAt d w slot) ∧
 (∀ w,w < n → aZ ws w = true → ∃ g ∈ (bU d ws slot n).2,aZ g w = true) ∧
 (bU d ws slot n).2.Pairwise fun g g' => ∀ i,¬ (aZ g i = true ∧ aZ g' i = true)
 | 0,_ => ⟨fun i _ => by simp [bU],fun g hg => by simp [bU] at hg,fun w hw => by omega,by simp [bU]⟩
 | n + 1,hn => by
  obtain ⟨h1,h2,h3,h4⟩ := qE n (by omega)
  obtain ⟨l,el⟩ : ∃ l,l = (bU d ws slot n).1 := ⟨_,rfl⟩
  obtain ⟨gs,egs⟩ : ∃ gs,gs = (bU d ws slot n).2 := ⟨_,rfl⟩
  rw [← el] at h1
  rw [← egs] at h2 h3 h4
  rw [bU]
  simp only [← el,← egs]
  have hbit : ∀ i,aZ (dP d l slot n d.weathers.length) i = true ↔ i < d.weathers.length ∧ aZ l i = true ∧ wAt d i slot = wAt d n slot := fun i => by
   rw [oS]; simp [and_assoc]
  cases hb : aZ l n with
  | false =>
   rw [if_neg (by simp),← el,← egs]
   have hn0 : ¬ (aZ ws n = true ∧ ∀ w,w < n → aZ ws w = true → wAt d n slot ≠ wAt d w slot) := fun e => by
    have := (h1 n (by omega)).2 e; rw [hb] at this; cases this
   refine ⟨fun i hi => ?_,fun g hg => ?_,fun w hw hb2 => ?_,h4⟩
   · rw [h1 i hi]
     refine ⟨fun ⟨a,b⟩ => ⟨a,fun w hw hb2 => ?_⟩,fun ⟨a,b⟩ => ⟨a,fun w hw => b w (by omega)⟩⟩
     rcases Nat.lt_or_ge w n with h | h
     · exact b w h hb2
     · obtain rfl : w = n := by omega
       intro e
       refine hn0 ⟨hb2,fun w' hw' hb3 => ?_⟩
       rw [← e]; exact b w' hw' hb3
   · obtain ⟨w,a,b⟩ := h2 g hg
     exact ⟨w,by omega,b⟩
   · rcases Nat.lt_or_ge w n with h | h
     · exact h3 w h hb2
     · obtain rfl : w = n := by omega
       have : ∃ w',w' < w ∧ aZ ws w' = true ∧ wAt d w slot = wAt d w' slot := by
        refine Classical.byContradiction fun hc => hn0 ⟨hb2,fun w' hw' hb3 e => hc ⟨w',hw',hb3,e⟩⟩
       obtain ⟨w',a,b,c⟩ := this
       obtain ⟨g,hg,hgw⟩ := h3 w' a b
       obtain ⟨v,_,_,hv⟩ := h2 g hg
       refine ⟨g,hg,(hv w).2 ⟨by omega,hb2,?_⟩⟩
       rw [c]; exact ((hv w').1 hgw).2.2
  | true =>
   rw [if_pos rfl]
   have hn1 := (h1 n (by omega)).1 hb
   have key : ∀ i,i < d.weathers.length → aZ ws i = true → wAt d i slot = wAt d n slot → aZ l i = true := fun i hi hb2 e => (h1 i hi).2 ⟨hb2,fun w hw hb3 => by rw [e]; exact hn1.2 w hw hb3⟩
   refine ⟨fun i hi => ?_,fun g hg => ?_,fun w hw hb2 => ?_,?_⟩
   · rw [bit_xa,Bool.and_eq_true,Bool.not_eq_true',Bool.eq_false_iff,ne_eq,hbit,h1 i hi]
     refine ⟨fun ⟨⟨a,b⟩,c⟩ => ⟨a,fun w hw hb2 => ?_⟩,fun ⟨a,b⟩ => ⟨⟨a,fun w hw => b w (by omega)⟩,fun c => b n (by omega) hn1.1 c.2.2⟩⟩
     rcases Nat.lt_or_ge w n with h | h
     · exact b w h hb2
     · obtain rfl : w = n := by omega
       exact fun e => c ⟨hi,⟨a,b⟩,e⟩
   · rcases List.mem_append.1 hg with hg | hg
     · obtain ⟨w,a,b⟩ := h2 g hg
       exact ⟨w,by omega,b⟩
     · simp only [List.mem_singleton] at hg
       subst hg
       refine ⟨n,by omega,hn1.1,fun i => ?_⟩
       rw [hbit]
       exact ⟨fun ⟨a,b,c⟩ => ⟨a,((h1 i a).1 b).1,c⟩,fun ⟨a,b,c⟩ => ⟨a,key i a b c,c⟩⟩
   · rcases Nat.lt_or_ge w n with h | h
     · obtain ⟨g,hg,hgw⟩ := h3 w h hb2
       exact ⟨g,List.mem_append.2 (.inl hg),hgw⟩
     · obtain rfl : w = n := by omega
       exact ⟨_,List.mem_append.2 (.inr (by simp)),(hbit w).2 ⟨by omega,hb,rfl⟩⟩
   · rw [List.pairwise_append]
     refine ⟨h4,by simp,fun g hg g' hg' i hi => ?_⟩
     simp only [List.mem_singleton] at hg'
     subst hg'
     obtain ⟨w,a,b,hv⟩ := h2 g hg
     obtain ⟨hi1,hi2⟩ := hi
     obtain ⟨c1,c2,c3⟩ := (hbit i).1 hi2
     exact ((h1 i c1).1 c2).2 w a b ((hv i).1 hi1).2.2
theorem fB : (∀ g ∈ bW d ws slot,∃ w,w < d.weathers.length ∧ aZ ws w = true ∧ ∀ i,aZ g i = true ↔ i < d.weathers.length ∧ aZ ws i = true ∧ wAt d i slot = wAt d w slot) ∧
 (∀ w,w < d.weathers.length → aZ ws w = true → ∃ g ∈ bW d ws slot,aZ g w = true) ∧
 (bW d ws slot).Pairwise fun g g' => ∀ i,¬ (aZ g i = true ∧ aZ g' i = true) := (qE d.weathers.length (Nat.le_refl _)).2
end
def aCh (d : aO) : Nat → Nat → aB → Nat → List (List aD)
 | 0,_,_,_ => []
 | k + 1,ws,s,w => match (bW d ws (aT d - (k + 1))).find? fun g => aZ g w with
  | none => []
  | some g => match (dA d s (wAt d (dR g d.weathers.length) (aT d - (k + 1)))).find? (uJ d k (aT d - (k + 1)) g s) with
   | none => []
   | some x => x.1 :: aCh d k g x.2 w
end Go.Proofs.Ab
namespace Go.Proofs.Ab
open Go Go.Proofs
section
variable {d : aO}
def NC (d : aO) (s : aB) : Prop := (List.range d.places.length).any (dH d s) = false
theorem aEL {s : aB} {op : Int} {i : Nat} {x : aD} {g g' : List Bool} {r : Int} (h : gX d s op i x g = (some r,g')) : r ≠ 1 := by
 simp only [gX] at h
 split at h
 · cases h; omega
 · split at h
   · cases h; omega
   · split at h
     · cases h; omega
     · split at h
       · cases h; omega
       · split at h
         · cases h; omega
         · cases h
theorem tF {s : aB} {op : Int} : ∀ (u : List aD) (i : Nat) (n : aB) (g : List Bool) (r p : Int),hZ d s op u i n g = .error (r,p) → r ≠ 1
 | [],i,n,g,r,p,h => by cases h
 | x :: u,i,n,g,r,p,h => by
  rw [hZ] at h
  split at h
  · exact tF u _ n g r p h
  · split at h
    · rename_i r' g' e
      cases h
      exact aEL e
    · exact tF u _ _ _ r p h
theorem aAu {s : aB} {op : Int} {u : List aD} (h : (dC d s op u).2.1 = 1) : (dC d s op u).2.2 = -1 ∧ NC d (dC d s op u).1 := by
 rw [dC] at h ⊢
 cases e : hZ d s op u 0 s [false,false,false,false] with
 | error p =>
  rw [e] at h
  exact absurd h (tF _ _ _ _ _ _ e)
 | ok n =>
  rw [e] at h
  simp only at h ⊢
  cases e2 : (List.range d.places.length).any (dH d n) with
  | true => rw [e2,if_pos rfl] at h; simp at h
  | false => rw [if_neg (by simp)]; exact ⟨rfl,e2⟩
theorem wP {s : aB} {op : Int} : ∀ (u : List aD) (i : Nat) (n : aB) (g : List Bool),(∀ x ∈ u,x.to < 0) → hZ d s op u i n g = .ok n
 | [],_,_,_,_ => rfl
 | x :: u,i,n,g,h => by
  rw [hZ,if_pos (h x (by simp))]
  exact wP u _ n g fun y hy => h y (by simp [hy])
theorem vQ {s : aB} {op : Int} (hc : NC d s) : ∀ (k gone : Nat) (u : List aD),(∀ x ∈ u,x.to < 0) → cR d s op k gone u ≠ []
 | 0,gone,u,hu => by
  rw [cR,dC,wP u _ _ _ hu]
  simp only
  rw [hc]
  simp
 | k + 1,gone,u,hu => by
  rw [cR,cZ,List.flatMap_cons]
  intro e
  exact vQ hc k gone (u ++ [⟨-1,[]⟩]) (fun x hx => by
   rcases List.mem_append.1 hx with h | h
   · exact hu x h
   · simp only [List.mem_singleton] at h; subst h; decide) (List.append_eq_nil_iff.1 e).1
theorem wG {next : aB → Int} : ∀ (l : List (List aD × aB)) (b : Int),(l.foldl (kW next) b = b ∧ 0 ≤ b) ∨ (∃ x ∈ l,next x.2 = l.foldl (kW next) b) ∨ l = []
 | [],b => .inr (.inr rfl)
 | x :: l,b => by
  rw [List.foldl_cons]
  have hm : kW next b x = next x.2 ∨ (kW next b x = b ∧ 0 ≤ b) := by
   rw [kW]
   split
   · exact .inl rfl
   · rename_i h
     refine .inr ⟨rfl,?_⟩
     simp only [Bool.or_eq_true,decide_eq_true_eq,not_or] at h
     omega
  rcases wG (next := next) l (kW next b x) with ⟨h1,h2⟩ | ⟨y,hy,h⟩ | h
  · rw [h1]
    rcases hm with e | ⟨e,e2⟩
    · exact .inr (.inl ⟨x,by simp,e.symm⟩)
    · exact .inl ⟨e,e2⟩
  · exact .inr (.inl ⟨y,by simp [hy],h⟩)
  · subst h
    rcases hm with e | ⟨e,e2⟩
    · exact .inr (.inl ⟨x,by simp,e.symm⟩)
    · exact .inl ⟨e,e2⟩
theorem mX {f : Nat → Int} : ∀ (l : List Nat) (b : Int),b ≤ l.foldl (fun m g => max m (f g)) b ∧ ∀ g ∈ l,f g ≤ l.foldl (fun m g => max m (f g)) b
 | [],b => ⟨Int.le_refl _,fun g hg => by cases hg⟩
 | x :: l,b => by
  obtain ⟨h1,h2⟩ := mX (f := f) l (max b (f x))
  rw [List.foldl_cons]
  refine ⟨by omega,fun g hg => ?_⟩
  rcases List.mem_cons.1 hg with h | h
  · subst h; omega
  · exact h2 g h
theorem cost0 (dg : gA d) (s : aB) : 0 ≤ sM d s := by
 have h1 := (nN (by omega) (aAN dg s) d.planes.length).1
 have h2 := (nN (by omega) (wI dg s) d.people.length).1
 rw [sM]; omega
theorem tG (dg : gA d) : ∀ (k ws : Nat) (s : aB),0 ≤ aR d k ws s
 | 0,_,s => cost0 dg s
 | k + 1,ws,s => (mX _ _).1
end
end Go.Proofs.Ab
namespace Go.Proofs.Ab
open Go Go.Proofs
section
variable {d : aO}
def SIn (m : Nat) (l : List Int) : Prop := l.Pairwise (· < ·) ∧ ∀ n ∈ l,0 ≤ n ∧ n < m
theorem SIn.pk {m : Nat} {l : List Int} (a : SIn m l) : (List.range l.length).all (pkB m l) = true := by
 rw [cL]
 intro k hk
 have h1 := a.2 _ (List.getElem_mem hk)
 simp only [pkB,aH hk,inB,Bool.and_eq_true,Bool.or_eq_true,decide_eq_true_eq]
 refine ⟨by omega,?_⟩
 rcases k with _ | k
 · exact .inl rfl
 · right
   rw [Nat.add_sub_cancel,aH (by omega)]
   exact List.pairwise_iff_getElem.1 a.1 k (k + 1) (by omega) hk (by omega)
theorem xH {s : aB} {at_ to : Int} : ∀ (k : Nat) (l : List Int) (seats : Int) (gone : Nat),k ≤ d.people.length → SIn (d.people.length - k) l → ∀ x ∈ iI d s at_ to k l seats gone,x.1.to = to ∧ SIn d.people.length x.1.people
 | 0,l,seats,gone,_,_,x,hx => by simp [iI] at hx
 | k + 1,l,seats,gone,hk,hl,x,hx => by
  have hl2 : SIn (d.people.length - k) l := ⟨hl.1,fun n hn => by have := hl.2 n hn; omega⟩
  have hl3 : SIn (d.people.length - k) (l ++ [((d.people.length - (k + 1) : Nat) : Int)]) := by
   refine ⟨?_,fun n hn => ?_⟩
   · rw [List.pairwise_append]
     refine ⟨hl.1,by simp,fun a ha b hb => ?_⟩
     simp only [List.mem_singleton] at hb
     subst hb
     have := hl.2 a ha; omega
   · rcases List.mem_append.1 hn with h | h
     · exact hl2.2 n h
     · simp only [List.mem_singleton] at h; omega
  have hl4 : SIn d.people.length (l ++ [((d.people.length - (k + 1) : Nat) : Int)]) := ⟨hl3.1,fun n hn => by have := hl3.2 n hn; omega⟩
  rw [iI] at hx
  rcases List.mem_append.1 hx with h | h
  · split at h
    · rcases List.mem_cons.1 h with h | h
      · subst h; exact ⟨rfl,hl4⟩
      · exact xH k _ _ _ (by omega) hl3 x h
    · cases h
  · exact xH k _ _ _ (by omega) hl2 x h
theorem uQ {s : aB} {op : Int} {plane gone : Nat} : ∀ k,k ≤ d.places.length → ∀ x ∈ cW d s op plane gone k,flB d x.1 = true
 | 0,_,x,hx => by simp [cW] at hx
 | k + 1,hk,x,hx => by
  rw [cW] at hx
  rcases List.mem_append.1 hx with h | h
  · split at h
    · have key : x.1.to = ((d.places.length - (k + 1) : Nat) : Int) ∧ SIn d.people.length x.1.people := by
       rw [rY] at h
       rcases List.mem_cons.1 h with h | h
       · subst h; exact ⟨rfl,by simp,fun n hn => by cases hn⟩
       · exact xH _ _ _ _ (Nat.le_refl _) ⟨by simp,fun n hn => by cases hn⟩ x h
      simp only [flB,inB,key.2.pk,Bool.and_true,Bool.and_eq_true,Bool.or_eq_true,decide_eq_true_eq]
      omega
    · cases h
  · exact uQ k (by omega) x h
theorem aBI {s : aB} {op : Int} {plane gone : Nat} (hp : 0 < d.places.length) : ∀ x ∈ cZ d s op plane gone,flB d x.1 = true := fun x hx => by
 rw [cZ] at hx
 rcases List.mem_cons.1 hx with h | h
 · subst h
   simp [flB,inB]; omega
 · exact uQ _ (Nat.le_refl _) x h
theorem zE {s : aB} {op : Int} (hp : 0 < d.places.length) : ∀ (k gone : Nat) (u : List aD),u.all (flB d) = true → ∀ y ∈ cR d s op k gone u,y.1.all (flB d) = true
 | 0,gone,u,hu,y,hy => by
  rw [cR] at hy
  split at hy
  · simp only [List.mem_singleton] at hy; subst hy; exact hu
  · cases hy
 | k + 1,gone,u,hu,y,hy => by
  rw [cR,List.mem_flatMap] at hy
  obtain ⟨x,hx,hy⟩ := hy
  refine zE hp k x.2 (u ++ [x.1]) ?_ y hy
  rw [List.all_append,hu,Bool.true_and,List.all_cons,aBI hp x hx]; rfl
theorem aHa {s : aB} {op : Int} {t : Nat} (dg : gA d) (a : StN d t s) {y : List aD × aB} (hy : y ∈ dA d s op) : pG d y.1 = true := by
 have h1 := zE (by have := dg.p0; omega) _ _ _ (by simp) y hy
 have h2 := (lE dg a y hy).1
 rw [pG,h1,decide_eq_true h2]; rfl
theorem aJA {n w : Nat} (hw : w < n) : aZ (2 ^ n - 1) w = true := by
 rw [dD,Nat.testBit_two_pow_sub_one]; exact decide_eq_true hw
end
end Go.Proofs.Ab
namespace Go.Proofs.Ab
open Go Go.Proofs
variable {w0 : World} {h : Heap}
attribute [local irreducible] ACall aS aV aM aP rvC rdC lp rg dr ex un rv rd'
def jI (d : aO) : Bool := jP d && (fC d && (decide (d.places.length ≤ 4) && (decide (d.people.length ≤ 3) && (decide (aT d ≤ 3) && (decide (d.planes.length < 2) || decide (d.people.length < 3))))))
theorem aFK (d : aO) (v : cJ) (hS : DayS w0 h d v) (hW : d.weathers.length ≤ 9223372036854775807) : aM Try.prog w0 29 [.agg (bA v)] h (.bool (jI d)) h := by
 refine aL aK aH3 mf29_b mf29_g (Nat.le_of_ble_eq_true rfl) (by simp [AV.bdd,AV.bdds]) fun hb ha => aX ?_
 obtain ⟨y1,y2,y3,y4,y5⟩ := hS.ones
 obtain ⟨l1,l2,l3,l4,l5⟩ := hS.lens
 obtain ⟨K,eK⟩ : ∃ K,K = h ++ [some (Blk.row [v.pl,v.ln,v.pn,v.pe,v.we])] := ⟨_,rfl⟩
 have sK : aC h K := eK ▸ aC.refl.app
 have k0 : K[h.length]? = some (some (.row [v.pl,v.ln,v.pn,v.pe,v.we])) := by rw [eK]; simp
 have k0L : ∀ L,(K ++ L)[h.length]? = some (some (.row [v.pl,v.ln,v.pn,v.pe,v.we])) := fun L => aA k0
 have c5 : ∀ a b : Nat,((a : Int) ≤ b) = (a ≤ b) := fun a b => by simp only [eq_iff_iff]; omega
 have c6 : ∀ a b : Nat,((a : Int) < b) = (a < b) := fun a b => by simp only [eq_iff_iff]; omega
 simp only [go_sem,mf29,bA,y1,y2,y3,y4,y5]
 rw [← eK]
 refine aJ (aHn d v (hS.sub sK) hW).v ?_
 cases e1 : jP d with
 | false => simp only [go_sem]; exact ⟨by simp [jI,e1],_,eK⟩
 | true =>
 have hR := (hS.sub sK).R e1
 simp only [go_sem,k0,k0L,y1,y2,y3,y4,y5]
 refine aJ (rday_c d v hR).v ?_
 cases e2 : fC d with
 | false => simp only [go_sem]; exact ⟨by simp [jI,e2],_,eK⟩
 | true =>
 have dg := lZ e2
 simp only [go_sem,k0,k0L,l1,l2,l3,l4,y1,y2,y3,y4,y5]
 refine ⟨fun e3 => ⟨fun e4 => ?_,fun e4 => ⟨by rw [jI,decide_eq_false (p := d.people.length ≤ 3) (by omega)]; simp,_,eK⟩⟩,fun e3 => ⟨by rw [jI,decide_eq_false (p := d.places.length ≤ 4) (by omega)]; simp,_,eK⟩⟩
 refine aJ (aEM d v hR.toDayS (List.length_pos_iff.1 dg.w0)).v ?_
 have hm : jI d = (decide (aT d ≤ 3) && (decide (d.planes.length < 2) || decide (d.people.length < 3))) := by
  rw [jI,e1,e2,decide_eq_true (p := d.people.length ≤ 3) (by omega),decide_eq_true (p := d.places.length ≤ 4) (by omega)]; rfl
 by_cases e5 : (aT d : Int) ≤ 3
 · by_cases e6 : (d.planes.length : Int) < 2
   · simp only [go_sem,k0,k0L,l3,l4,e5,e6]
     exact ⟨by rw [hm,decide_eq_true (p := aT d ≤ 3) (by omega),decide_eq_true (p := d.planes.length < 2) (by omega)]; rfl,_,eK⟩
   · by_cases e7 : (d.people.length : Int) < 3
     · simp only [go_sem,k0,k0L,l3,l4,e5,e6,e7]
       exact ⟨by rw [hm,decide_eq_true (p := aT d ≤ 3) (by omega),decide_eq_true (p := d.people.length < 3) (by omega)]; simp,_,eK⟩
     · simp only [go_sem,k0,k0L,l3,l4,e5,e6,e7]
       exact ⟨by rw [hm,decide_eq_false (p := d.planes.length < 2) (by omega),decide_eq_false (p := d.people.length < 3) (by omega)]; simp,_,eK⟩
 · simp only [go_sem,k0,k0L,l3,l4,e5]
   exact ⟨by rw [hm,decide_eq_false (p := aT d ≤ 3) (by omega)]; rfl,_,eK⟩
end Go.Proofs.Ab

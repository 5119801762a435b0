/- The own layer under the proofs of this seat, part R: what calls of the program come to on an abstract heap. No condition. -/
import Derived.Test.YtiaaonmbgkealaaG
import Derived.Test.YtiaaonmbgkealaaF
import Derived.Test.YtiaaonmbgkealaaQ
import Derived.Test.YtiaaonmbgkealaaM
import Derived.Test.YtiaaonmbgkealaaO
import Derived.Test.YtiaaonmbgkealaaP
set_option linter.unusedSimpArgs false
set_option linter.unusedVariables false
namespace Go.Proofs.Ab
open Go
section
variable {P : Program} {w0 : World} {r lr : Option Nat} {nt Z : Nat} {B : Bs} {m m0 : Emb} {fr : Fr} {h : Heap} {a a0 : Act} {w w' : World} {l : List MIx} {bef : List (List Nat)} {n : Nat}
theorem aEN {ops : Array Oper} (b : BOK ops l bef n)
 (hx : ∀ (i : Nat) o,ops[i]? = some o → ∃ x,l[i]? = some x ∧ gF P nt ops o = some x)
 (J : (Nat → Bool) → Fr → Heap → Prop)
 (hv : ∀ S i x fr h,l[i]? = some x → S i = false → (∀ j,bfr bef i j = true → S j = true) → J S fr h → gU P w0 [x] fr h (J (dY S i)))
 {Q : Exit → Fr → Heap → Prop} (hQ : ∀ S fr h,(∀ i,i < n → S i = true) → J S fr h → ∃ fr2 : Fr,(∀ t,fr2.get t = .undef ∨ fr2.get t = fr.get t) ∧ Q .normal fr2 h) :
 ∀ (fuel : Nat) (listed : Array Bool) (m : Emb) (fr' : Fr) (h' : Heap) (a : Act) (w' : World),listed.size = n → listed.toList.count false ≤ fuel → (∀ i j,listed.getD i false = true → bfr bef i j = true → listed.getD j false = true) →
  hE Z w0 m0 m h h' w w' → SA w0 r lr nt Z B m fr' h' a w' → J (fun j => listed.getD j false) fr' h' → wpAnyIn (Wd lr) 0 P .any ops (nK w0 r lr nt Z B m0 h w Q) fuel listed a w' := by
 have hgd : ∀ (listed : Array Bool) (i : Nat),listed.size = n → i < n → listed.getD i true = listed.getD i false := fun listed i h1 h2 => by
  rw [Array.getD_eq_getD_getElem?,Array.getD_eq_getD_getElem?,Array.getElem?_eq_getElem (by omega)]; rfl
 have hdone : ∀ (listed : Array Bool) (m : Emb) (fr' : Fr) (h' : Heap) (a : Act) (w' : World),listed.size = n → Region.ready .any ops listed = [] → hE Z w0 m0 m h h' w w' → SA w0 r lr nt Z B m fr' h' a w' → J (fun j => listed.getD j false) fr' h' →
  nK w0 r lr nt Z B m0 h w Q .normal a w' := by
  intro listed m fr' h' a w' hls hr st sa j
  have hall : ∀ i,i < n → listed.getD i false = true := by
   intro i
   induction i using Nat.strongRecOn with
   | ind i ih =>
    intro hi
    cases hli : listed.getD i false with
    | true => rfl
    | false =>
     exfalso
     obtain ⟨o,ho⟩ : ∃ o,ops[i]? = some o := ⟨_,Array.getElem?_eq_getElem (by rw [b.size]; exact hi)⟩
     have : i ∈ Region.ready .any ops listed := mem_ready.2 ⟨by rw [hgd listed i hls hi]; exact hli,o,ho,fun e he hb => by
      have := b.edge i o ho e he hb
      exact ih e.on this (by omega)⟩
     rw [hr] at this; cases this
  obtain ⟨fr2,hf,q⟩ := hQ _ _ _ hall j
  exact ⟨m,fr2,h',st,sa.frame' hf,q⟩
 intro fuel
 induction fuel with
 | zero =>
  intro listed m fr' h' a w' hls hc hcl st sa j
  have hr : Region.ready .any ops listed = [] := by
   rw [List.eq_nil_iff_forall_not_mem]
   intro i hi
   obtain ⟨h1,o,ho,_⟩ := mem_ready.1 hi
   have hin : i < n := by
    rw [← b.size]
    rcases Nat.lt_or_ge i ops.size with hlt | hge
    · exact hlt
    · rw [Array.getElem?_eq_none hge] at ho; cases ho
   have : false ∉ listed.toList := List.count_eq_zero.1 (by omega)
   apply this
   rw [Array.getD_eq_getD_getElem?,Array.getElem?_eq_getElem (by omega)] at h1
   simp at h1
   rw [← h1]
   simp
  exact ⟨hr,hdone listed m fr' h' a w' hls hr st sa j⟩
 | succ fuel ih =>
  intro listed m fr' h' a w' hls hc hcl st sa j
  refine ⟨fun hr => hdone listed m fr' h' a w' hls hr st sa j,fun i hi => ?_⟩
  obtain ⟨h1,o,ho,hall⟩ := mem_ready.1 hi
  have hin : i < n := by
   rw [← b.size]
   rcases Nat.lt_or_ge i ops.size with hlt | hge
   · exact hlt
   · rw [Array.getElem?_eq_none hge] at ho; cases ho
  obtain ⟨x,hxl,hxc⟩ := hx i o ho
  have hs : listed.getD i false = false := by rw [← hgd listed i hls hin]; exact h1
  have hb : ∀ j,bfr bef i j = true → listed.getD j false = true := fun j hj => by
   obtain ⟨e,he,hbd,h2⟩ := b.bef_ i o ho j hj
   have h3 := hall e he hbd
   rcases h2 with rfl | h2
   · exact h3
   · exact hcl _ _ h3 h2
  have hset : ∀ j,(listed.setIfInBounds i true).getD j false = dY (fun j => listed.getD j false) i j := fun j => by
   simp only [dY,Array.getD_eq_getD_getElem?]
   by_cases e : j = i
   · subst e
     simp [hls,hin]
   · rw [Array.getElem?_setIfInBounds_ne (fun e' => e e'.symm)]
     have : Nat.beq j i = false := by
      cases hb : Nat.beq j i with
      | false => rfl
      | true => exact absurd (cO.1 hb) e
     simp [this]
  unfold wpOpIn
  rw [ho]
  refine rG (P := P) (ops := ops) hxc sa (hv _ i x fr' h' hxl hs hb j) fun m2 fr2 h2 a2 w2 s2 sa2 j2 _ => ?_
  refine ih (listed.setIfInBounds i true) m2 fr2 h2 a2 w2 (by simp [hls]) ?_ ?_ (st.trans (s2.toZ sa.hz)) sa2 (by rw [show (fun j => (listed.setIfInBounds i true).getD j false) = dY (fun j => listed.getD j false) i from funext hset]; exact j2)
  · have hil : i < listed.toList.length := by simp [hls,hin]
    have hf : listed.toList[i] = false := by
     rw [Array.getD_eq_getD_getElem?,Array.getElem?_eq_getElem (by omega)] at hs
     simpa using hs
    have hpos : 0 < listed.toList.count false := List.count_pos_iff.2 (by rw [← hf]; exact qG hil)
    rw [Array.toList_setIfInBounds,List.count_set hil,hf]
    have e1 : (false == false) = true := rfl
    have e2 : (true == false) = false := rfl
    rw [e1,e2,if_pos rfl,if_neg (by simp)]
    omega
  · intro p q hp hq
    rw [hset] at hp ⊢
    simp only [dY,Bool.or_eq_true] at hp ⊢
    rcases hp with hp | hp
    · rw [cO.1 hp] at hq; exact .inr (hb q hq)
    · exact .inr (hcl p q hp hq)
theorem aFa (hm : P.follows .mixedOrders = true) (J : (Nat → Bool) → Fr → Heap → Prop) (h0 : J (fun _ => false) fr h)
 (hv : ∀ S i x fr h,l[i]? = some x → S i = false → (∀ j,bfr bef i j = true → S j = true) → J S fr h → gU P w0 [x] fr h (J (dY S i)))
 {Q : Exit → Fr → Heap → Prop} (hQ : ∀ S fr h,(∀ i,i < l.length → S i = true) → J S fr h → ∃ fr2 : Fr,(∀ t,fr2.get t = .undef ∨ fr2.get t = fr.get t) ∧ Q .normal fr2 h) : EvM P w0 r nt Z (.draw l bef) fr h Q := fun c hc m a w B lr sa => by
 obtain ⟨id,ops,rfl,hl,rfl,hbo,hop⟩ := wQ hc
 obtain ⟨hbok,hdst,hx⟩ := wS hbo hl
 refine wpIn_region_any hm ?_
 have hsz := hbok.size
 have hdr : bP w0 m m h h w { w with drawn := w.drawn + 1 } :=
  ⟨⟨sa.sim.size,sa.sim.old,sa.sim.at_,sa.sim.inj⟩,.refl _ _,⟨Nat.le_refl _,fun _ _ _ => rfl,rfl,rfl,rfl⟩,Nat.le_refl _,fun i b hi _ => ⟨i,b,hi,rfl⟩⟩
 have e0 : (fun j => (Array.replicate ops.size false).getD j false) = fun _ => false := funext fun j => by
  rw [Array.getD_eq_getD_getElem?,Array.getElem?_replicate]; split <;> rfl
 exact aEN (w := w) hbok hx J hv hQ ops.size _ m fr h a _ (by simp [hsz]) (by simp) (fun i j hi _ => by rw [congrFun e0 i] at hi; cases hi) (hdr.toZ sa.hz) (sa.step hdr) (by rw [e0]; exact h0)
theorem dr_J (hm : P.follows .mixedOrders = true) {Q : Exit → Fr → Heap → Prop} {k : List It} (J : (Nat → Bool) → Fr → Heap → Prop) (h0 : J (fun _ => false) fr h)
 (hv : ∀ S i x fr h,l[i]? = some x → S i = false → (∀ j,bfr bef i j = true → S j = true) → J S fr h → gU P w0 [x] fr h (J (dY S i)))
 (hQ : ∀ S fr h,(∀ i,i < l.length → S i = true) → J S fr h → ∃ fr2 : Fr,(∀ t,fr2.get t = .undef ∨ fr2.get t = fr.get t) ∧ un P w0 r nt Z Q .normal k fr2 h) : dr P w0 r nt Z Q l bef k fr h :=
 aFa hm J h0 hv hQ
end
end Go.Proofs.Ab
namespace Go.Proofs.Ab
open Go Go.Proofs
def jA (many : Nat) : Nat → List Int → List (List Int)
 | 0,_ => []
 | k + 1,b => (b ++ [((many - (k + 1) : Nat) : Int)]) :: jA many k (b ++ [((many - (k + 1) : Nat) : Int)]) ++ jA many k b
def jO (many k : Nat) (b : List Int) : List (List Int) := b :: jA many k b
def fR (d : aO) : List aC := ⟨-1,[]⟩ :: (List.range d.places.length).flatMap fun (p : Nat) => (jO d.people.length d.people.length []).map fun l => ⟨(p : Int),l⟩
def lS (F : List aC) : Nat → List (List aC)
 | 0 => [[]]
 | k + 1 => (lS F k).flatMap fun u => F.map fun x => u ++ [x]
def jC (F : List aC) : Nat → List (List aC)
 | 0 => [[]]
 | k + 1 => F.flatMap fun x => (jC F k).map fun r => x :: r
def cA (d : aO) : List (List aC) := lS (fR d) d.planes.length
section
variable {d : aO}
theorem kN {α β : Type} {f g : α → Option β} : ∀ {l : List α},(∀ x ∈ l,f x = g x) → l.filterMap f = l.filterMap g
 | [],_ => rfl
 | x :: l,h => by rw [List.filterMap_cons,List.filterMap_cons,h x (by simp),kN fun y hy => h y (by simp [hy])]
theorem mG (many : Nat) : ∀ (k : Nat) (b : List Int),jA many k b = (jA many k []).map (b ++ ·)
 | 0,b => rfl
 | k + 1,b => by
  rw [jA,jA,mG many k (b ++ _),mG many k b,mG many k ([] ++ _)]
  simp [List.map_append,Function.comp_def]
theorem mD (F : List aC) : ∀ k,lS F k = jC F k
 | 0 => rfl
 | k + 1 => by
  rw [lS,mD F k]
  clear mD
  induction k with
  | zero =>
   simp only [jC,List.flatMap_cons,List.flatMap_nil,List.append_nil,List.map_cons,List.map_nil,List.nil_append]
   induction F with
   | nil => rfl
   | cons x F ih => rw [List.map_cons,List.flatMap_cons,← ih]; rfl
  | succ k ih =>
   have e : jC F (k + 1 + 1) = F.flatMap fun x => (jC F (k + 1)).map fun r => x :: r := rfl
   have e2 : jC F (k + 1) = F.flatMap fun x => (jC F k).map fun r => x :: r := rfl
   rw [e]
   conv => rhs; rw [← ih]
   conv => lhs; rw [e2]
   rw [List.flatMap_assoc]
   congr 1
   funext x
   rw [List.flatMap_map,List.map_flatMap]
   congr 1
   funext u
   simp [Function.comp_def]
def okR (d : aO) (s : aD) (at_ : Int) : List Int → Int → Nat → Bool
 | [],_,_ => true
 | n :: r,seats,gone => xE d s at_ n.toNat seats gone && okR d s at_ r (seats - (d.people.getD n.toNat ⟨0,0,0,0,0⟩).seats) (gone ||| 2 ^ n.toNat)
theorem vE {s : aD} {at_ to : Int} : ∀ (k : Nat) (l : List Int) (seats : Int) (gone : Nat),
 lJ d s at_ to k l seats gone = (jA d.people.length k []).filterMap fun r => if okR d s at_ r seats gone then some (⟨to,l ++ r⟩,lO r gone) else none
 | 0,l,seats,gone => rfl
 | k + 1,l,seats,gone => by
  rw [lJ,jA,List.nil_append,mG,List.cons_append,List.filterMap_cons,List.filterMap_append,← vE k l seats gone]
  obtain ⟨i,ei⟩ : ∃ i,i = d.people.length - (k + 1) := ⟨_,rfl⟩
  rw [← ei]
  have hi : ((i : Nat) : Int).toNat = i := Int.toNat_natCast i
  cases e : xE d s at_ i seats gone with
  | true =>
   rw [if_pos rfl,okR,hi,e,okR,if_pos (by simp),vE k]
   simp only [List.filterMap_map,List.cons_append,List.append_assoc,List.nil_append]
   have hh : lO [(i : Int)] gone = gone ||| 2 ^ i := by simp [lO]
   rw [hh]
   congr 2
   refine kN fun r _ => ?_
   simp only [Function.comp,okR,hi,e,Bool.true_and]
   have eg : lO ((i : Int) :: r) gone = lO r (gone ||| 2 ^ i) := by simp [lO]
   rw [eg]
  | false =>
   rw [if_neg (by simp),okR,hi,e,if_neg (by simp)]
   simp only [List.filterMap_map,List.nil_append]
   have : (jA d.people.length k []).filterMap ((fun r => if okR d s at_ r seats gone = true then some ((⟨to,l ++ r⟩ : aC),lO r gone) else none) ∘ fun x => [(i : Int)] ++ x) = [] := by
    rw [List.filterMap_eq_nil_iff]
    intro r _
    simp only [Function.comp,List.cons_append,List.nil_append,okR,hi,e,Bool.false_and]
    simp
   rw [this,List.nil_append]
def uH (d : aO) (s : aD) (op : Int) (plane gone : Nat) (x : aC) : Bool := decide (x.to < 0) || (zY d s op plane x.to.toNat && okR d s (s.planes.getD plane 0) x.people (d.planes.getD plane ⟨0,0,0,0,0⟩).seats gone)
theorem tX {s : aD} {op : Int} {plane gone : Nat} : ∀ k,k ≤ d.places.length →
 fD d s op plane gone k = ((List.range' (d.places.length - k) k).flatMap fun (p : Nat) => (jO d.people.length d.people.length []).map fun l => (⟨(p : Int),l⟩ : aC)).filterMap fun x => if uH d s op plane gone x then some (x,lO x.people gone) else none
 | 0,_ => rfl
 | k + 1,hk => by
  rw [fD,tX k (by omega),List.range'_succ,List.flatMap_cons,List.filterMap_append,show d.places.length - (k + 1) + 1 = d.places.length - k by omega]
  congr 1
  obtain ⟨i,ei⟩ : ∃ i,i = d.places.length - (k + 1) := ⟨_,rfl⟩
  rw [← ei]
  have hi : ((i : Nat) : Int).toNat = i := Int.toNat_natCast i
  have hn : ¬ (i : Int) < 0 := by omega
  rw [List.filterMap_map]
  cases e : zY d s op plane i with
  | true =>
   rw [if_pos rfl,xX,jO,List.filterMap_cons,vE]
   have h0 : uH d s op plane gone ⟨(i : Int),[]⟩ = true := by simp [uH,hi,e,okR]
   simp only [Function.comp,h0,if_true]
   congr 1
   refine kN fun r _ => ?_
   have : uH d s op plane gone ⟨(i : Int),r⟩ = okR d s (s.planes.getD plane 0) r (d.planes.getD plane ⟨0,0,0,0,0⟩).seats gone := by simp [uH,hi,e,hn]
   simp only [Function.comp,this,List.nil_append]
  | false =>
   rw [if_neg (by simp)]
   symm
   rw [List.filterMap_eq_nil_iff]
   intro r _
   have : uH d s op plane gone ⟨(i : Int),r⟩ = false := by simp [uH,hi,e,hn]
   simp only [Function.comp,this]
   simp
theorem aAZ {s : aD} {op : Int} {plane gone : Nat} : gX d s op plane gone = (fR d).filterMap fun x => if uH d s op plane gone x then some (x,lO x.people gone) else none := by
 have h0 : uH d s op plane gone ⟨-1,[]⟩ = true := rfl
 rw [gX,fR,List.filterMap_cons,tX _ (Nat.le_refl _),Nat.sub_self,List.range_eq_range']
 simp only [h0,if_true]
 rfl
theorem aAw (many : Nat) : ∀ (k : Nat),k ≤ many → ∀ r ∈ jA many k [],r.Pairwise (· < ·) ∧ ∀ n ∈ r,((many - k : Nat) : Int) ≤ n ∧ n < many
 | 0,_,r,hr => by cases hr
 | k + 1,hk,r,hr => by
  have ih := aAw many k (by omega)
  rw [jA,mG] at hr
  simp only [List.nil_append,List.cons_append,List.mem_cons,List.mem_append,List.mem_map] at hr
  rcases hr with rfl | ⟨r',h1,rfl⟩ | h1
  · exact ⟨by simp,fun n hn => by simp only [List.mem_singleton] at hn; omega⟩
  · obtain ⟨i1,i2⟩ := ih r' h1
    refine ⟨List.pairwise_cons.2 ⟨fun n hn => by have := i2 n hn; omega,i1⟩,fun n hn => ?_⟩
    rcases List.mem_cons.1 hn with rfl | hn
    · omega
    · have := i2 n hn; omega
  · obtain ⟨i1,i2⟩ := ih r h1
    exact ⟨i1,fun n hn => by have := i2 n hn; omega⟩
theorem gC (x : aC) (hx : x ∈ fR d) : (-1 ≤ x.to ∧ x.to < d.places.length) ∧ (x.to < 0 → x.people = []) ∧ (∀ n ∈ x.people,0 ≤ n ∧ n < d.people.length) ∧ x.people.Pairwise (· < ·) := by
 rw [fR,List.mem_cons,List.mem_flatMap] at hx
 rcases hx with rfl | ⟨p,hp,hx⟩
 · exact ⟨by simp only; omega,fun _ => rfl,(fun n hn => by cases hn),List.Pairwise.nil⟩
 · have hp := List.mem_range.1 hp
   obtain ⟨l,hl,rfl⟩ := List.mem_map.1 hx
   simp only
   refine ⟨by omega,fun h => by omega,?_⟩
   rcases List.mem_cons.1 hl with rfl | hl
   · exact ⟨(fun n hn => by cases hn),List.Pairwise.nil⟩
   · obtain ⟨h1,h2⟩ := aAw d.people.length d.people.length (Nat.le_refl _) l hl
     exact ⟨fun n hn => by have := h2 n hn; omega,h1⟩
theorem oL {F : List aC} : ∀ (k : Nat),∀ u ∈ jC F k,u.length = k ∧ ∀ x ∈ u,x ∈ F
 | 0,u,hu => by
  simp only [jC,List.mem_singleton] at hu
  subst hu; exact ⟨rfl,fun x hx => by cases hx⟩
 | k + 1,u,hu => by
  rw [jC,List.mem_flatMap] at hu
  obtain ⟨x,hx,hu⟩ := hu
  obtain ⟨r,hr,rfl⟩ := List.mem_map.1 hu
  obtain ⟨h1,h2⟩ := oL k r hr
  exact ⟨by simp [h1],fun y hy => (List.mem_cons.1 hy).elim (fun e => e ▸ hx) (h2 y)⟩
theorem qW {u : List aC} (hu : u ∈ cA d) : kI d u := by
 rw [cA,mD] at hu
 obtain ⟨h1,h2⟩ := oL _ u hu
 exact ⟨h1,fun x hx => (gC x (h2 x hx)).1,fun x hx => (gC x (h2 x hx)).2.1,fun x hx => (gC x (h2 x hx)).2.2⟩
theorem aFU (sb : ∀ p ∈ d.people,0 ≤ p.seats ∧ p.seats ≤ 1000) {s : aD} {at_ : Int} : ∀ (r : List Int) (seats : Int) (gone : Nat),r.Pairwise (· < ·) → (∀ n ∈ r,0 ≤ n) → (∀ n ∈ r,s.people.getD n.toNat 0 = at_) → (∀ n ∈ r,aV gone n.toNat = false) → dI d r ≤ seats → okR d s at_ r seats gone = true
 | [],_,_,_,_,_,_,_ => rfl
 | n :: r,seats,gone,hp,h0,ha,hg,hs => by
  obtain ⟨p1,p2⟩ := List.pairwise_cons.1 hp
  rw [aAx] at hs
  have hr := (sP (d := d) (l := r) sb).1
  have h1 := h0 n (by simp)
  rw [okR,xE,decide_eq_true (ha n (by simp)),hg n (by simp),decide_eq_true (by omega)]
  refine aFU sb r _ _ p2 (fun m hm => h0 m (by simp [hm])) (fun m hm => ha m (by simp [hm])) (fun m hm => ?_) (by omega)
  have := p1 m hm
  rw [aDh,hg m (by simp [hm]),decide_eq_false (by omega)]
  rfl
theorem aIC (dg : dC d) {s : aD} {op : Int} {u u0 r : List aC} {x : aC} {gone : Nat} (uk : kI d u) (hu : u = u0 ++ x :: r) (hg : ∀ m,m < d.people.length → aV gone m = u0.any fun y => y.people.any fun z => z == (m : Int))
 (hb : mR d s op u u0.length = 1) : uH d s op u0.length gone x = true := by
 have hx : u.getD u0.length ⟨-1,[]⟩ = x := by rw [hu,List.getD_eq_getElem?_getD,qI (Nat.le_refl _)]; simp
 have hxm : x ∈ u := by rw [hu]; simp
 have htk : u.take u0.length = u0 := by rw [hu]; simp
 obtain ⟨pp1,pp2⟩ := uk.pp x hxm
 rw [uH]
 by_cases ht : x.to < 0
 · rw [decide_eq_true ht]; rfl
 rw [mR] at hb
 simp only [hx] at hb
 rw [if_neg ht] at hb
 have c1 : cN d (s.planes.getD u0.length 0) x.to = true := by
  cases e : cN d (s.planes.getD u0.length 0) x.to with
  | true => rfl
  | false => rw [e] at hb; simp at hb
 rw [c1] at hb
 simp only [Bool.not_true,Bool.false_eq_true,if_false] at hb
 have c2 : (aV op.toNat (s.planes.getD u0.length 0).toNat && aV op.toNat x.to.toNat) = true := by
  cases e : (aV op.toNat (s.planes.getD u0.length 0).toNat && aV op.toNat x.to.toNat) with
  | true => rfl
  | false => rw [e] at hb; simp at hb
 rw [c2] at hb
 simp only [Bool.not_true,Bool.false_eq_true,if_false] at hb
 have c3 : decide (s.legs.getD u0.length 0 < (d.planes.getD u0.length ⟨0,0,0,0,0⟩).duty) = true := by
  cases e : decide (s.legs.getD u0.length 0 < (d.planes.getD u0.length ⟨0,0,0,0,0⟩).duty) with
  | true => rfl
  | false => rw [e] at hb; simp at hb
 rw [c3] at hb
 simp only [Bool.not_true,Bool.false_eq_true,if_false] at hb
 have c4 : nV s u u0.length x = false := by
  cases e : nV s u u0.length x with
  | false => rfl
  | true => rw [e] at hb; simp at hb
 rw [c4] at hb
 simp only [Bool.false_eq_true,if_false] at hb
 have c5 : dI d x.people ≤ (d.planes.getD u0.length ⟨0,0,0,0,0⟩).seats := by
  refine Classical.byContradiction fun hc => ?_
  rw [decide_eq_false hc] at hb; simp at hb
 rw [nV,htk,List.any_eq_false] at c4
 have c6 : ∀ n ∈ x.people,s.people.getD n.toNat 0 = s.planes.getD u0.length 0 ∧ aV gone n.toNat = false := fun n hn => by
  have h1 := c4 n hn
  have h2 := pp1 n hn
  simp only [Bool.or_eq_true,Bool.not_eq_true',not_or,Bool.not_eq_false,beq_iff_eq,Bool.not_eq_true] at h1
  refine ⟨h1.1,?_⟩
  rw [hg n.toNat (by omega),show ((n.toNat : Nat) : Int) = n by omega]
  exact h1.2
 have e2 : ((x.to.toNat : Nat) : Int) = x.to := by omega
 have hcan : zY d s op u0.length x.to.toNat = true := by rw [zY,e2,c1,c2,c3]; rfl
 have sb : ∀ p ∈ d.people,0 ≤ p.seats ∧ p.seats ≤ 1000 := fun p hp => by have := (dg.people p hp).2.2.1; omega
 rw [hcan,aFU sb x.people _ gone pp2 (fun n hn => (pp1 n hn).1) (fun n hn => (c6 n hn).1) (fun n hn => (c6 n hn).2) c5]
 simp
theorem aEE (dg : dC d) {s : aD} {op : Int} {u : List aC} (uk : kI d u) (hone : (fC d s op u).2.1 = 1) : ∀ i,i < u.length → mR d s op u i = 1 := by
 rw [← uP uk dg.pe,gN] at hone
 cases e : rL d s op u u 0 with
 | none => exact fun i hi => aCQ u 0 e i (Nat.zero_le _) (by omega)
 | some p =>
  rw [e] at hone
  have : ∀ (r : List aC) (i : Nat) (p : Int × Int),rL d s op u r i = some p → p.1 ≠ 1 := fun r => by
   induction r with
   | nil => intro i p h; cases h
   | cons x r ih =>
    intro i p h
    rw [rL] at h
    split at h
    · rename_i h2; cases h; exact h2
    · exact ih _ p h
  exact absurd hone (this u 0 p e)
def tZ (d : aO) (s : aD) (op : Int) (u : List aC) : Option (List aC × aD) := if (fC d s op u).2.1 = 1 then some (u,(fC d s op u).1) else none
theorem nX {α β γ : Type} {f : β → Option γ} {g : α → List β} : ∀ l : List α,(l.flatMap g).filterMap f = l.flatMap fun x => (g x).filterMap f
 | [] => rfl
 | x :: l => by rw [List.flatMap_cons,List.filterMap_append,nX l,List.flatMap_cons]
theorem lE {α β γ : Type} {p : α → Option β} {g : β → List γ} : ∀ l : List α,(l.filterMap p).flatMap g = l.flatMap fun x => match p x with | some y => g y | none => []
 | [] => rfl
 | x :: l => by
  rw [List.filterMap_cons,List.flatMap_cons]
  cases e : p x with
  | none => simp [lE l]
  | some y => simp [lE l]
theorem wC {α β : Type} {f g : α → List β} : ∀ {l : List α},(∀ x ∈ l,f x = g x) → l.flatMap f = l.flatMap g
 | [],_ => rfl
 | x :: l,h => by rw [List.flatMap_cons,List.flatMap_cons,h x (by simp),wC fun y hy => h y (by simp [hy])]
theorem xJ (dg : dC d) {s : aD} {op : Int} : ∀ (k gone : Nat) (u0 : List aC),u0.length + k = d.planes.length → (∀ x ∈ u0,x ∈ fR d) → (∀ m,m < d.people.length → aV gone m = u0.any fun y => y.people.any fun z => z == (m : Int)) →
 eX d s op k gone u0 = (jC (fR d) k).filterMap fun r => tZ d s op (u0 ++ r)
 | 0,gone,u0,_,_,_ => by
  rw [eX,jC]
  simp only [List.filterMap_cons,List.filterMap_nil,tZ,List.append_nil]
  split <;> simp_all
 | k + 1,gone,u0,hl,hF,hg => by
  have e1 : d.planes.length - (k + 1) = u0.length := by omega
  rw [eX,jC,nX,e1,aAZ,lE]
  refine wC fun x hx => ?_
  rw [List.filterMap_map]
  have hfl := gC x hx
  cases e : uH d s op u0.length gone x with
  | true =>
   simp only [if_true]
   rw [xJ dg k (lO x.people gone) (u0 ++ [x]) (by simp; omega) (fun y hy => by
    rcases List.mem_append.1 hy with h | h
    · exact hF y h
    · simp only [List.mem_singleton] at h; subst h; exact hx) fun m hm => ?_]
   · refine kN fun r _ => ?_
     simp [Function.comp]
   · rw [yF m x.people gone fun n hn => (hfl.2.2.1 n hn).1,hg m hm,List.any_append]
     simp
  | false =>
   simp only [Bool.false_eq_true,if_false]
   symm
   rw [List.filterMap_eq_nil_iff]
   intro r hr
   obtain ⟨r1,r2⟩ := oL k r hr
   simp only [Function.comp,tZ]
   rw [if_neg]
   intro hone
   have uk : kI d (u0 ++ x :: r) := by
    have hall : ∀ y ∈ u0 ++ x :: r,y ∈ fR d := fun y hy => by
     rcases List.mem_append.1 hy with h | h
     · exact hF y h
     · rcases List.mem_cons.1 h with rfl | h
       · exact hx
       · exact r2 y h
    exact ⟨by simp; omega,fun y hy => (gC y (hall y hy)).1,fun y hy => (gC y (hall y hy)).2.1,fun y hy => (gC y (hall y hy)).2.2⟩
   have := aIC (s := s) (op := op) (gone := gone) dg uk rfl hg (aEE dg uk hone _ (by simp))
   rw [e] at this
   cases this
theorem sL (dg : dC d) {s : aD} {op : Int} : cK d s op = (cA d).filterMap (tZ d s op) := by
 rw [cK,cA,mD,xJ dg _ 0 [] (by simp) (by simp) fun m _ => by simp [aV]]
 simp
end
def iA (d : aO) (slot : Nat) : List Nat → List Nat → List Nat
 | [],_ => []
 | w :: r,pre => if pre.any (fun v => aZ d v w slot) then iA d slot r (pre ++ [w]) else w :: iA d slot r (pre ++ [w])
def qN (d : aO) (set : List Nat) (slot : Nat) : List Nat := iA d slot set []
def pJ (d : aO) (next : aD → Int) (s : aD) (op : Int) (a : Int × List aC) (u : List aC) : Int × List aC :=
 if (gN d s op u).2.1 = 1 then if a.1 < 0 || decide (next (gN d s op u).1 < a.1) then (next (gN d s op u).1,u) else a else a
def gP (d : aO) (next : aD → Int) (slot : Nat) (set : List Nat) (s : aD) : Int × List aC := (cA d).foldl (pJ d next s (wAt d (set.headD 0) slot)) (-1,[])
def cQ (d : aO) : Nat → List Nat → aD → Int
 | 0,_,s => wJ d s
 | k + 1,set,s => (qN d set (aJ d - (k + 1))).foldl (fun m v => max m (gP d (cQ d k (set.filter fun w => aZ d v w (aJ d - (k + 1)))) (aJ d - (k + 1)) (set.filter fun w => aZ d v w (aJ d - (k + 1))) s).1) 0
def fU (d : aO) (w : Nat) : Nat → aD
 | 0 => bL d
 | t + 1 => (gN d (fU d w t) (wAt d w t) (gP d (cQ d (aJ d - (t + 1)) ((List.range d.weathers.length).filter fun i => aZ d i w t)) t ((List.range d.weathers.length).filter fun i => aZ d i w t) (fU d w t)).2).1
def eY (d : aO) (w t : Nat) : List aC := (gP d (cQ d (aJ d - (t + 1)) ((List.range d.weathers.length).filter fun i => aZ d i w t)) t ((List.range d.weathers.length).filter fun i => aZ d i w t) (fU d w t)).2
def dZ (d : aO) : fO := (List.range d.weathers.length).map fun w => (List.range (aJ d)).map (eY d w)
def zN (d : aO) : Int := cQ d (aJ d) (List.range d.weathers.length) (bL d)
section
variable {d : aO}
theorem jI {slot : Nat} : ∀ (r pre : List Nat),∀ v ∈ iA d slot r pre,v ∈ r
 | [],pre,v,hv => by cases hv
 | w :: r,pre,v,hv => by
  rw [iA] at hv
  split at hv
  · exact List.mem_cons_of_mem _ (jI r _ v hv)
  · rcases List.mem_cons.1 hv with rfl | hv
    · simp
    · exact List.mem_cons_of_mem _ (jI r _ v hv)
theorem qO {slot : Nat} (tr : ∀ a b c,aZ d a b slot = true → aZ d b c slot = true → aZ d a c slot = true) (rf : ∀ a,aZ d a a slot = true) : ∀ (r pre : List Nat),∀ w ∈ r,(∃ v ∈ pre,aZ d v w slot = true) ∨ ∃ v ∈ iA d slot r pre,aZ d v w slot = true
 | [],pre,w,hw => by cases hw
 | x :: r,pre,w,hw => by
  rw [iA]
  cases e : pre.any (fun v => aZ d v x slot) with
  | true =>
   rw [if_pos rfl]
   obtain ⟨v,hv,hl⟩ := List.any_eq_true.1 e
   rcases List.mem_cons.1 hw with rfl | hw
   · exact .inl ⟨v,hv,hl⟩
   · rcases qO tr rf r (pre ++ [x]) w hw with ⟨v',hv',h⟩ | h
     · rcases List.mem_append.1 hv' with h1 | h1
       · exact .inl ⟨v',h1,h⟩
       · simp only [List.mem_singleton] at h1
         subst h1
         exact .inl ⟨v,hv,tr _ _ _ hl h⟩
     · exact .inr h
  | false =>
   rw [if_neg (by simp)]
   rcases List.mem_cons.1 hw with rfl | hw
   · exact .inr ⟨w,by simp,rf w⟩
   · rcases qO tr rf r (pre ++ [x]) w hw with ⟨v',hv',h⟩ | ⟨v',hv',h⟩
     · rcases List.mem_append.1 hv' with h1 | h1
       · exact .inl ⟨v',h1,h⟩
       · simp only [List.mem_singleton] at h1
         subst h1
         exact .inr ⟨v',by simp,h⟩
     · exact .inr ⟨v',by simp [hv'],h⟩
def nN (next : aD → Int) (a : Int × List aC) (x : List aC × aD) : Int × List aC := if a.1 < 0 || decide (next x.2 < a.1) then (next x.2,x.1) else a
theorem sM {next : aD → Int} : ∀ (l : List (List aC × aD)) (b : Int) (u0 : List aC),(∀ x ∈ l,0 ≤ next x.2) →
 (l.foldl (nN next) (b,u0)).1 = l.foldl (gV next) b ∧
 (0 ≤ b → ((l.foldl (nN next) (b,u0)) = (b,u0) ∧ ∀ x ∈ l,b ≤ next x.2) ∨
  (l.foldl (gV next) b < b ∧ ∃ x,l.find? (fun x => !decide (l.foldl (gV next) b < next x.2)) = some x ∧ x.1 = (l.foldl (nN next) (b,u0)).2))
 | [],b,u0,_ => ⟨rfl,fun _ => .inl ⟨rfl,fun x hx => by cases hx⟩⟩
 | x :: l,b,u0,h => by
  have hx := h x (by simp)
  have hl : ∀ y ∈ l,0 ≤ next y.2 := fun y hy => h y (by simp [hy])
  by_cases e : (b < 0 || decide (next x.2 < b)) = true
  · have em : gV next b x = next x.2 := by rw [gV,if_pos e]
    have es : nN next (b,u0) x = (next x.2,x.1) := by rw [nN,if_pos e]
    rw [List.foldl_cons,List.foldl_cons,em,es]
    obtain ⟨i1,i2⟩ := sM l (next x.2) x.1 hl
    refine ⟨i1,fun hb => .inr ?_⟩
    have e' : next x.2 < b := by simpa [show ¬ b < 0 by omega] using e
    rcases i2 hx with ⟨j1,j2⟩ | ⟨j1,j2⟩
    · have e3 : l.foldl (gV next) (next x.2) = next x.2 := by rw [← i1,j1]
      refine ⟨by rw [e3]; exact e',x,?_,by rw [j1]⟩
      rw [e3,List.find?_cons]
      simp
    · refine ⟨by omega,?_⟩
      obtain ⟨y,y1,y2⟩ := j2
      refine ⟨y,?_,y2⟩
      rw [List.find?_cons,decide_eq_true j1]
      exact y1
  · have em : gV next b x = b := by rw [gV,if_neg e]
    have es : nN next (b,u0) x = (b,u0) := by rw [nN,if_neg e]
    rw [List.foldl_cons,List.foldl_cons,em,es]
    obtain ⟨i1,i2⟩ := sM l b u0 hl
    refine ⟨i1,fun hb => ?_⟩
    have e' : b ≤ next x.2 := by
     simp only [Bool.or_eq_true,decide_eq_true_eq,not_or] at e
     omega
    rcases i2 hb with ⟨j1,j2⟩ | ⟨j1,j2⟩
    · exact .inl ⟨j1,fun y hy => (List.mem_cons.1 hy).elim (fun q => q ▸ e') (j2 y)⟩
    · obtain ⟨y,y1,y2⟩ := j2
      refine .inr ⟨j1,y,?_,y2⟩
      rw [List.find?_cons,decide_eq_true (by omega)]
      exact y1
theorem aHt (dg : dC d) {next : aD → Int} {slot : Nat} {set : List Nat} {s : aD} (hn : ∀ x ∈ cK d s (wAt d (set.headD 0) slot),0 ≤ next x.2) (hne : cK d s (wAt d (set.headD 0) slot) ≠ []) :
 (gP d next slot set s).1 = (cK d s (wAt d (set.headD 0) slot)).foldl (gV next) (-1) ∧
 ∃ x,(cK d s (wAt d (set.headD 0) slot)).find? (fun x => !decide ((cK d s (wAt d (set.headD 0) slot)).foldl (gV next) (-1) < next x.2)) = some x ∧ x.1 = (gP d next slot set s).2 := by
 have key : gP d next slot set s = (cK d s (wAt d (set.headD 0) slot)).foldl (nN next) (-1,[]) := by
  rw [gP,sL dg]
  have : ∀ (l : List (List aC)) (a : Int × List aC),(∀ u ∈ l,kI d u) → l.foldl (pJ d next s (wAt d (set.headD 0) slot)) a = (l.filterMap (tZ d s (wAt d (set.headD 0) slot))).foldl (nN next) a := by
   intro l
   induction l with
   | nil => intro a _; rfl
   | cons u l ih =>
    intro a hu
    rw [List.foldl_cons,List.filterMap_cons,ih _ fun v hv => hu v (by simp [hv])]
    rw [pJ,tZ,uP (hu u (by simp)) dg.pe]
    by_cases e : (fC d s (wAt d (set.headD 0) slot) u).2.1 = 1
    · rw [if_pos e,if_pos e]
      rfl
    · rw [if_neg e,if_neg e]
  exact this _ _ fun u hu => qW hu
 rw [key]
 obtain ⟨l,el⟩ : ∃ l,l = cK d s (wAt d (set.headD 0) slot) := ⟨_,rfl⟩
 rw [← el] at hn hne ⊢
 cases l with
 | nil => exact absurd rfl hne
 | cons x l =>
  have hx := hn x (by simp)
  obtain ⟨i1,i2⟩ := sM (next := next) l (next x.2) x.1 fun y hy => hn y (by simp [hy])
  have e : ((-1 : Int) < 0 || decide (next x.2 < -1)) = true := by simp
  have em : gV next (-1) x = next x.2 := by rw [gV,if_pos e]
  have es : nN next (-1,[]) x = (next x.2,x.1) := by rw [nN,if_pos e]
  rw [List.foldl_cons,List.foldl_cons,em,es]
  refine ⟨i1,?_⟩
  rcases i2 hx with ⟨j1,j2⟩ | ⟨j1,j2⟩
  · have e3 : l.foldl (gV next) (next x.2) = next x.2 := by rw [← i1,j1]
    refine ⟨x,?_,by rw [j1]⟩
    rw [e3,List.find?_cons]
    simp
  · obtain ⟨y,y1,y2⟩ := j2
    refine ⟨y,?_,y2⟩
    rw [List.find?_cons,decide_eq_true j1]
    exact y1
structure Rel (d : aO) (ws : Nat) (set : List Nat) (t : Nat) : Prop where
 eq : set = (List.range d.weathers.length).filter (aV ws)
 al : ∀ w w',w < d.weathers.length → w' < d.weathers.length → aV ws w = true → aV ws w' = true → ∀ j,j < t → wAt d w j = wAt d w' j
theorem Rel.mem {ws t : Nat} {set : List Nat} (R : Rel d ws set t) {w : Nat} : w ∈ set ↔ w < d.weathers.length ∧ aV ws w = true := by rw [R.eq,List.mem_filter,List.mem_range]
theorem oQ (dg : dC d) {a b t : Nat} (ha : a < d.weathers.length) (hb : b < d.weathers.length) (ht : t < aJ d) : aZ d a b t = true ↔ ∀ j,j ≤ t → wAt d a j = wAt d b j := by
 refine ⟨fun h => ?_,aGN dg ha hb ht⟩
 have h1 : (fJ d a).length = aJ d := by rw [jK ha]; exact (dg.rows _ (qG ha)).1
 have h2 : (fJ d b).length = aJ d := by rw [jK hb]; exact (dg.rows _ (qG hb)).1
 exact fun j hj => (sW (by omega) (by omega)).1 h j (by omega)
theorem Rel.grp (dg : dC d) {ws t g v : Nat} {set : List Nat} (R : Rel d ws set t) (ht : t < aJ d) (hv : v < d.weathers.length) (hvw : aV ws v = true) (hg : ∀ i,aV g i = true ↔ i < d.weathers.length ∧ aV ws i = true ∧ wAt d i t = wAt d v t) : Rel d g (set.filter fun w => aZ d v w t) (t + 1) := by
 refine ⟨?_,fun w w' hw hw' h1 h2 j hj => ?_⟩
 · rw [R.eq,List.filter_filter]
   refine List.filter_congr fun i hi => ?_
   have hi := List.mem_range.1 hi
   rw [Bool.eq_iff_iff,Bool.and_eq_true,hg i,oQ dg hv hi ht]
   constructor
   · rintro ⟨h1,h2⟩
     exact ⟨hi,h2,(h1 t (Nat.le_refl _)).symm⟩
   · rintro ⟨_,h2,h3⟩
     refine ⟨fun j hj => ?_,h2⟩
     rcases Nat.lt_or_ge j t with h | h
     · exact R.al v i hv hi hvw h2 j h
     · obtain rfl : j = t := by omega
       exact h3.symm
 · obtain ⟨_,b2,b3⟩ := (hg w).1 h1
   obtain ⟨_,c2,c3⟩ := (hg w').1 h2
   rcases Nat.lt_or_ge j t with h | h
   · exact R.al w w' hw hw' b2 c2 j h
   · obtain rfl : j = t := by omega
     rw [b3,c3]
theorem Rel.head (dg : dC d) {ws t : Nat} {set : List Nat} (R : Rel d ws set (t + 1)) {v : Nat} (hv : v < d.weathers.length) (hb : aV ws v = true) : wAt d (set.headD 0) t = wAt d v t ∧ wAt d (gD ws d.weathers.length) t = wAt d v t := by
 have hm : v ∈ set := R.mem.2 ⟨hv,hb⟩
 have h1 : set.headD 0 ∈ set := by cases set with
  | nil => cases hm
  | cons x l => simp
 obtain ⟨a1,a2⟩ := R.mem.1 h1
 obtain ⟨f1,f2,f3⟩ := jS d.weathers.length ws ⟨v,hv,hb⟩
 exact ⟨R.al _ _ a1 hv a2 hb t (by omega),R.al _ _ f3 hv f1 hb t (by omega)⟩
theorem oG (dg : dC d) {k g t v : Nat} {set : List Nat} {s : aD} {next : aD → Int} (R : Rel d g set (t + 1)) (hv : v < d.weathers.length) (hb : aV g v = true) (hc : NC d s) (hs : StN d t s) (hnx : ∀ y,NC d y → StN d (t + 1) y → next y = bF d k g y) :
 (gP d next t set s).1 = jF d (bF d k) t g s ∧ ∃ x,(cK d s (wAt d (gD g d.weathers.length) t)).find? (pF d k t g s) = some x ∧ x.1 = (gP d next t set s).2 ∧ x.2 = (gN d s (wAt d v t) (gP d next t set s).2).1 ∧ NC d x.2 ∧ StN d (t + 1) x.2 := by
 obtain ⟨h1,h2⟩ := R.head dg hv hb
 have hall : ∀ x ∈ cK d s (wAt d (set.headD 0) t),next x.2 = bF d k g x.2 := fun x hx => by
  obtain ⟨q1,q2,q3,q4⟩ := kR dg hs x hx
  exact hnx _ (by rw [q4]; exact (vZ q3).2) (oM dg hs hx)
 have hnn : ∀ x ∈ cK d s (wAt d (set.headD 0) t),0 ≤ next x.2 := fun x hx => by rw [hall x hx]; exact aK6 dg k g x.2
 obtain ⟨a1,x,a2,a3⟩ := aHt dg hnn (sJ hc _ _ _ (by simp))
 have hmin : ∀ (l : List (List aC × aD)) (b : Int),(∀ x ∈ l,next x.2 = bF d k g x.2) → l.foldl (gV next) b = l.foldl (gV (bF d k g)) b := by
  intro l
  induction l with
  | nil => intro b _; rfl
  | cons y l ih =>
   intro b hy
   rw [List.foldl_cons,List.foldl_cons,ih _ fun z hz => hy z (by simp [hz]),gV,gV,hy y (by simp)]
 have e1 : (cK d s (wAt d (set.headD 0) t)).foldl (gV next) (-1) = jF d (bF d k) t g s := by
  rw [hmin _ _ hall,jF,h1,h2]
 rw [e1] at a1 a2
 refine ⟨a1,x,?_,a3,?_⟩
 · rw [h2,← h1,← a2]
   exact wF fun y hy => by rw [pF,dS,hall y hy]
 · have hxm := List.mem_of_find?_eq_some a2
   obtain ⟨q1,q2,q3,q4⟩ := kR dg hs x hxm
   have hxm2 := hxm
   rw [sL dg,List.mem_filterMap] at hxm2
   obtain ⟨u,hu,hfu⟩ := hxm2
   rw [tZ] at hfu
   split at hfu
   · cases hfu
     refine ⟨?_,(by rw [q4]; exact (vZ q3).2),oM dg hs hxm⟩
     rw [← a3,uP (qW hu) dg.pe,← h1]
   · cases hfu
theorem oZ (dg : dC d) : ∀ (k ws t : Nat) (set : List Nat) (s : aD),t + k = aJ d → Rel d ws set t → NC d s → StN d t s → cQ d k set s = bF d k ws s
 | 0,ws,t,set,s,_,_,_,_ => rfl
 | k + 1,ws,t,set,s,hk,R,hc,hs => by
  have ht : aJ d - (k + 1) = t := by omega
  rw [cQ,bF,ht]
  have ht2 : t < aJ d := by omega
  have keyB : ∀ g v,v < d.weathers.length → aV ws v = true → (∀ i,aV g i = true ↔ i < d.weathers.length ∧ aV ws i = true ∧ wAt d i t = wAt d v t) →
   (gP d (cQ d k (set.filter fun w => aZ d v w t)) t (set.filter fun w => aZ d v w t) s).1 = jF d (bF d k) t g s := fun g v hv hvw hg => by
   have R' := R.grp dg ht2 hv hvw hg
   exact (oG dg R' hv ((hg v).2 ⟨hv,hvw,rfl⟩) hc hs fun y yc ys => oZ dg k g (t + 1) _ y (by omega) R' yc ys).1
  have s1 : ∀ v ∈ qN d set t,∃ g ∈ cV d ws t,(gP d (cQ d k (set.filter fun w => aZ d v w t)) t (set.filter fun w => aZ d v w t) s).1 = jF d (bF d k) t g s := fun v hv => by
   obtain ⟨v1,v2⟩ := R.mem.1 (jI _ _ v hv)
   obtain ⟨g,hg,hgv⟩ := (cS (d := d) (ws := ws) (slot := t)).2.1 v v1 v2
   obtain ⟨w,_,_,hw⟩ := (cS (d := d) (ws := ws) (slot := t)).1 g hg
   have h3 := ((hw v).1 hgv).2.2
   exact ⟨g,hg,keyB g v v1 v2 fun i => by rw [hw i,h3]⟩
  have s2 : ∀ g ∈ cV d ws t,∃ v ∈ qN d set t,(gP d (cQ d k (set.filter fun w => aZ d v w t)) t (set.filter fun w => aZ d v w t) s).1 = jF d (bF d k) t g s := fun g hg => by
   obtain ⟨w,w1,w2,hw⟩ := (cS (d := d) (ws := ws) (slot := t)).1 g hg
   rcases qO (d := d) (slot := t) (fun _ _ _ h1 h2 => by rw [aAM h1]; exact h2) (fun _ => pX) set [] w (R.mem.2 ⟨w1,w2⟩) with ⟨v,hv,_⟩ | ⟨v,hv,hl⟩
   · cases hv
   · obtain ⟨v1,v2⟩ := R.mem.1 (jI _ _ v hv)
     have h3 := (oQ dg v1 w1 ht2).1 hl t (Nat.le_refl _)
     exact ⟨v,hv,keyB g v v1 v2 fun i => by rw [hw i,h3]⟩
  refine Int.le_antisymm ?_ ?_
  · rcases zK (f := fun v => (gP d (cQ d k (set.filter fun w => aZ d v w t)) t (set.filter fun w => aZ d v w t) s).1) (qN d set t) 0 with h | ⟨v,hv,h⟩
    · rw [h]; exact (lD _ _).1
    · obtain ⟨g,hg,e⟩ := s1 v hv
      rw [← h,e]
      exact (lD (f := fun g => jF d (bF d k) t g s) _ _).2 g hg
  · rcases zK (f := fun g => jF d (bF d k) t g s) (cV d ws t) 0 with h | ⟨g,hg,h⟩
    · rw [h]; exact (lD _ _).1
    · obtain ⟨v,hv,e⟩ := s2 g hg
      rw [← h,← e]
      exact (lD (f := fun v => (gP d (cQ d k (set.filter fun w => aZ d v w t)) t (set.filter fun w => aZ d v w t) s).1) _ _).2 v hv
theorem aIy : Rel d (2 ^ d.weathers.length - 1) (List.range d.weathers.length) 0 := by
 refine ⟨(List.filter_eq_self.2 fun i hi => uU (List.mem_range.1 hi)).symm,fun w w' _ _ _ _ j hj => by omega⟩
theorem yC (hB : eE d = true) : zN d = (fK d).2 := by
 have dg := gT hB
 exact oZ dg (aJ d) _ 0 _ _ (by omega) aIy (lQ.1 hB).cr (mM dg)
theorem tR (dg : dC d) {w : Nat} (hw : w < d.weathers.length) : ∀ (k ws t : Nat) (s : aD),t + k = aJ d → (∀ i,aV ws i = true ↔ i < d.weathers.length ∧ ∀ j,j < t → wAt d i j = wAt d w j) → NC d s → StN d t s → s = fU d w t →
 kD d k ws s w = (List.range' t k).map (eY d w)
 | 0,ws,t,s,hk,hws,hc,hs,he => rfl
 | k + 1,ws,t,s,hk,hws,hc,hs,he => by
  have ht : aJ d - (k + 1) = t := by omega
  have hbw : aV ws w = true := (hws w).2 ⟨hw,fun _ _ => rfl⟩
  obtain ⟨g,hg,hgw⟩ := (cS (d := d) (ws := ws) (slot := t)).2.1 w hw hbw
  obtain ⟨g',eg⟩ : ∃ g',(cV d ws (aJ d - (k + 1))).find? (fun g => aV g w) = some g' := by
   cases e : (cV d ws (aJ d - (k + 1))).find? (fun g => aV g w) with
   | some g => exact ⟨g,rfl⟩
   | none => exact absurd hgw (List.find?_eq_none.1 e g (by rw [ht]; exact hg))
  have hb' : aV g' w = true := List.find?_some (p := fun g => aV g w) eg
  have hm' := List.mem_of_find?_eq_some eg
  rw [ht] at hm'
  obtain ⟨v,_,_,hv⟩ := (cS (d := d) (ws := ws) (slot := t)).1 g' hm'
  have h3 := ((hv w).1 hb').2.2
  have hg2 : ∀ i,aV g' i = true ↔ i < d.weathers.length ∧ ∀ j,j < t + 1 → wAt d i j = wAt d w j := fun i => by
   rw [hv i,hws i,← h3]
   constructor
   · rintro ⟨h1,⟨_,h2⟩,h4⟩
     refine ⟨h1,fun j hj => ?_⟩
     rcases Nat.lt_or_ge j t with h | h
     · exact h2 j h
     · obtain rfl : j = t := by omega
       exact h4
   · rintro ⟨h1,h2⟩
     exact ⟨h1,⟨h1,fun j hj => h2 j (by omega)⟩,h2 t (by omega)⟩
  have R : Rel d g' ((List.range d.weathers.length).filter fun i => aZ d i w t) (t + 1) := by
   refine ⟨List.filter_congr fun i hi => ?_,fun a b ha hb h1 h2 j hj => by rw [((hg2 a).1 h1).2 j hj,((hg2 b).1 h2).2 j hj]⟩
   have hi := List.mem_range.1 hi
   rw [Bool.eq_iff_iff,oQ dg hi hw (by omega),hg2 i]
   exact ⟨fun h => ⟨hi,fun j hj => h j (by omega)⟩,fun h j hj => h.2 j (by omega)⟩
  have hk2 : aJ d - (t + 1) = k := by omega
  obtain ⟨_,x,x1,x2,x3,x4,x5⟩ := oG (k := k) (next := cQ d k ((List.range d.weathers.length).filter fun i => aZ d i w t)) dg R hw hb' hc hs fun y yc ys => oZ dg k g' (t + 1) _ y (by omega) R yc ys
  rw [kD,eg]
  simp only
  rw [ht,x1,List.range'_succ,List.map_cons]
  simp only
  have eu : x.1 = eY d w t := by rw [x2,he,eY,hk2]
  rw [eu,tR dg hw k g' (t + 1) x.2 (by omega) hg2 x4 x5 (by rw [x3,he,fU,hk2])]
theorem aB5 (hB : eE d = true) : dZ d = (fK d).1 := by
 have dg := gT hB
 have hl := (sD dg (w := 0) dg.w0).1
 refine List.ext_getElem (by rw [dZ,List.length_map,List.length_range]; omega) fun w h1 h2 => ?_
 have hw : w < d.weathers.length := by omega
 have h3 := (sD dg hw).2
 rw [aI h2] at h3
 rw [h3]
 simp only [dZ,List.getElem_map,List.getElem_range]
 rw [tR dg hw (aJ d) _ 0 _ (by omega) (fun i => ⟨fun h => ⟨?_,fun j hj => by omega⟩,fun h => uU h.1⟩) (lQ.1 hB).cr (mM dg) rfl,List.range_eq_range']
 refine Classical.byContradiction fun hi => ?_
 rw [dM,Nat.testBit_two_pow_sub_one] at h
 simp at h
 omega
end
end Go.Proofs.Ab
namespace Go.Proofs.Ab
open Go Go.Proofs
variable {w0 : World} {h : Heap}
attribute [local irreducible] ACall bY dD bA bX rvC lp rg dr ex un rv
theorem aB.set2 {A B : Heap} {i : Nat} (s : aB A B) (hi : i < A.length) : aB (A.set i none) (B.set i none) := ⟨by simp only [List.length_set]; exact s.1,fun j b e => by
 by_cases q : i = j
 · subst q; rw [qF hi] at e; cases e
 · rw [qB q] at e ⊢; exact s.2 _ _ e⟩
structure OL {α : Type} (w0 : World) (R : Heap → α → List AV → Prop) (H : Heap) (es io : Nat) (ov : AV) (l : List α) : Prop where
 ex : ∃ (rows : List (List AV)) (f : Bool),rows.length = l.length ∧ ov = .sl (.own io 0) l.length es f ∧ H[io]? = some (some (.row rows.flatten)) ∧ (∀ c ∈ rows,c.length = es ∧ c.all one = true) ∧ ∀ (j : Nat) x c,l[j]? = some x → rows[j]? = some c → R (H.set io none) x c
section
variable {α : Type} {R : Heap → α → List AV → Prop}
theorem OL.one {H : Heap} {es k : Nat} {f : Bool} {x : α} {c : List AV} (hk : H[k]? = some (some (.row c))) (hc : c.length = es) (ho : c.all Ab.one = true) (hx : R (H.set k none) x c) : OL w0 R H es k (.sl (.own k 0) 1 es f) [x] :=
 ⟨[c],f,rfl,rfl,by simpa using hk,fun d hd => by simp only [List.mem_singleton] at hd; subst hd; exact ⟨hc,ho⟩,fun j y d hy hd => by
  have := aN hy
  obtain rfl : j = 0 := by simpa using this
  simp at hy hd
  subst hy; subst hd; exact hx⟩
theorem OL.ns {H : Heap} {es io : Nat} {ov : AV} {l : List α} (g : OL w0 R H es io ov l) (hm : ∀ {A B : Heap} {x c},aB A B → R A x c → R B x c) : NS w0 H es (R H) ov l := by
 obtain ⟨rows,f,h1,h2,h3,h4,h5⟩ := g.ex
 refine ⟨rows,h1,?_,fun j x c a b => hm aB.msk (h5 j x c a b)⟩
 rw [h2,← h1]
 exact eP h3 fun c hc => (h4 c hc).1
theorem OL.lt {H : Heap} {es io : Nat} {ov : AV} {l : List α} (g : OL w0 R H es io ov l) : io < H.length := by
 obtain ⟨rows,f,h1,h2,h3,h4,h5⟩ := g.ex
 exact aN h3
theorem OL.sub' {H G : Heap} {es io : Nat} {ov : AV} {l : List α} (g : OL w0 R H es io ov l) (s : aB H G) (hm : ∀ {A B : Heap} {x c},aB A B → R A x c → R B x c) : OL w0 R G es io ov l := by
 obtain ⟨rows,f,h1,h2,h3,h4,h5⟩ := g.ex
 exact ⟨rows,f,h1,h2,s.2 _ _ h3,h4,fun j x c a b => hm (s.set2 (aN h3)) (h5 j x c a b)⟩
theorem OL.more {H : Heap} {es io b : Nat} {ov y : AV} {l l' : List α} (g : OL w0 R H es io ov l) (hm : ∀ {A B : Heap} {x c},aB A B → R A x c → R B x c) (ho : ∀ {A : Heap} {x c},R A x c → c.all Ab.one = true) (hcl : ∀ {A : Heap} {x c},R A x c → c.length = es)
 (s : NS w0 (H.set io none) es (R (H.set io none)) y l') (hne : l' ≠ []) (hb : b ≤ 1000000) (hn : l.length + l'.length ≤ 1000000) :
 ∃ G,dH w0 H es b ov y = some (.sl (.own H.length 0) (l.length + l'.length) es false,G) ∧ OL w0 R G es H.length (.sl (.own H.length 0) (l.length + l'.length) es false) (l ++ l') ∧ aB (H.set io none) (G.set H.length none) ∧ G.length = H.length + 1 := by
 obtain ⟨rows,f,h1,h2,h3,h4,h5⟩ := g.ex
 obtain ⟨rows',r1,r2,r3⟩ := s
 have hlt := aN h3
 have hrne : rows' ≠ [] := fun e => hne (List.eq_nil_of_length_eq_zero (by rw [← r1,e]; rfl))
 have hr' : ∀ c ∈ rows',c.length = es ∧ c.all Ab.one = true := fun c hc => by
  obtain ⟨j,hj,e⟩ := List.mem_iff_getElem.1 hc
  have e1 : rows'[j]? = some c := by rw [qA hj,e]
  have e2 := qA (show j < l'.length by omega)
  exact ⟨hcl (r3 j _ c e2 e1),ho (r3 j _ c e2 e1)⟩
 have hp : rdn w0 H (.own io 0) (l.length * es) = some rows.flatten := by
  have : rows.flatten.length = l.length * es := by
   rw [← h1]
   clear h1 h2 h3 h5
   induction rows with
   | nil => simp
   | cons c rows ih => rw [List.flatten_cons,List.length_append,ih fun d hd => h4 d (by simp [hd]),(h4 c (by simp)).1,List.length_cons,Nat.succ_mul]; omega
  simp only [rdn,h3]
  rw [if_pos (by omega),List.drop_zero,← this,List.take_length]
 have key : ∀ G : Heap,G.length = H.length + 1 → (∀ i c,i ≠ io → H[i]? = some (some c) → G[i]? = some (some c)) → G[H.length]? = some (some (.row (rows.flatten ++ rows'.flatten))) →
  OL w0 R G es H.length (.sl (.own H.length 0) (l.length + l'.length) es false) (l ++ l') ∧ aB (H.set io none) (G.set H.length none) := fun G g1 g2 g3 => by
  have hs : aB (H.set io none) (G.set H.length none) := by
   refine ⟨by simp only [List.length_set]; omega,fun i c e => ?_⟩
   have hi := aN e
   rw [List.length_set] at hi
   rw [qB (by omega)]
   by_cases q : io = i
   · subst q; rw [qF hlt] at e; cases e
   · rw [qB q] at e
     exact g2 i c (Ne.symm q) e
  refine ⟨⟨rows ++ rows',false,by simp [h1,r1],by simp,by simpa using g3,fun c hc => ?_,fun j x c hx hc => ?_⟩,hs⟩
  · rcases List.mem_append.1 hc with hc | hc
    · exact h4 c hc
    · exact hr' c hc
  · by_cases hj : j < l.length
    · rw [qH hj] at hx
      rw [qH (by omega)] at hc
      exact hm hs (h5 j x c hx hc)
    · rw [qI (by omega)] at hx
      rw [qI (by omega),h1] at hc
      exact hm hs (r3 _ x c hx hc)
 have r2H : Sl w0 H es y rows' := r2.sub aB.msk
 cases f with
 | true =>
  have := wT (b := b) r2H hrne (fun c hc => (hr' c hc).2) hp hb (by omega)
  rw [r1] at this
  refine ⟨_,by rw [h2]; exact this,?_⟩
  obtain ⟨k1,k2⟩ := key (H ++ [some (.row (rows.flatten ++ rows'.flatten))]) (by simp) (fun i c _ e => aA e) (by simp)
  exact ⟨k1,k2,by simp⟩
 | false =>
  rcases r2H with ⟨_,e⟩ | ⟨q,full,s1,s2,s3⟩
  · exact absurd e hrne
  obtain ⟨es',rfl,he⟩ := s1
  have hr2 := Sl.all hrne s3
  have hne2 : rows'.length ≠ 0 := fun e => hrne (List.eq_nil_of_length_eq_zero e)
  have hsz : (l.length + rows'.length) * (b + 1) ≤ 2 ^ 40 := Nat.le_trans (Nat.mul_le_mul (show l.length + rows'.length ≤ 1000001 by omega) (show b + 1 ≤ 1000001 by omega)) (by decide)
  have ho2 : rows'.flatten.all Ab.one = true := by
   rw [List.all_eq_true]; intro x hx
   obtain ⟨c,hc,hx⟩ := List.mem_flatten.1 hx
   exact List.all_eq_true.1 (hr' c hc).2 x hx
  have ea : dH w0 H es b (.sl (.own io 0) l.length es false) (.sl q rows'.length es' full) = some (.sl (.own H.length 0) (l.length + l'.length) es false,H.set io none ++ [some (.row (rows.flatten ++ rows'.flatten))]) := by
   simp only [dH,srcOf,he,nA,if_true,hr2,Option.map_some,Option.bind_some]
   rw [if_neg hne2,if_pos ⟨trivial,hsz,ho2⟩]
   simp only [Bool.false_eq_true,if_false,hp,Option.bind_some]
   simp [r1]
  refine ⟨_,by rw [h2]; exact ea,?_⟩
  obtain ⟨k1,k2⟩ := key (H.set io none ++ [some (.row (rows.flatten ++ rows'.flatten))]) (by simp) (fun i c q e => aA (by rw [qB (Ne.symm q)]; exact e)) (by simp)
  exact ⟨k1,k2,by simp⟩
end
theorem InR.one {A : Heap} {l : List Int} {c : List AV} (r : InR w0 A l c) : c.all Ab.one = true := by
 obtain ⟨x,rfl,hx⟩ := r
 simp [(Sl.one hx).1]
theorem InR.len1 {A : Heap} {l : List Int} {c : List AV} (r : InR w0 A l c) : c.length = 1 := by
 obtain ⟨x,rfl,hx⟩ := r
 rfl
theorem aIs {H : Heap} {b : List Int} {io n : Nat} {f : Bool} (e : H[io]? = some (some (.row (aS b)))) (hn : n = b.length) : SlI w0 H (.sl (.own io 0) n 1 f) b := by
 have := eP (w0 := w0) (H := H) (es := 1) (io := io) (full := f) (rows := b.map fun z => [AV.int .i64 z]) (by rw [e,dL]) (by intro c hc; obtain ⟨a,_,rfl⟩ := List.mem_map.1 hc; rfl)
 rw [List.length_map] at this
 rw [hn]; exact this
theorem aK7 {H : Heap} {v : AV} {b : List Int} (s : SlO w0 H v b) (i : Int) (hn : b.length ≤ 1000) :
 ∃ u L,dH w0 H 1 8 .nilS v = some (u,H ++ L) ∧ ∃ G,dH w0 (H ++ (L ++ [some (.row [.int .i64 i])])) 1 8 u (.sl (.own (H.length + L.length) 0) 1 1 true) = some (.sl (.own (H.length + (L.length + 1)) 0) (b.length + 1) 1 false,G) ∧ aB H G ∧ G[H.length + (L.length + 1)]? = some (some (.row (aS (b ++ [i])))) ∧ G.length = H.length + L.length + 2 := by
 have hfin : ∀ (L : Heap) (u : AV),(∃ io,(b.length ≠ 0 → H.length ≤ io) ∧ (b.length = 0 ∧ u = .nilS ∧ aS b = [] ∨ b.length ≠ 0 ∧ u = .sl (.own io 0) b.length 1 false ∧ (H ++ (L ++ [some (.row [.int .i64 i])]))[io]? = some (some (.row (aS b))) ∧ (aS b).length = b.length * 1)) →
  ∃ G,dH w0 (H ++ (L ++ [some (.row [.int .i64 i])])) 1 8 u (.sl (.own (H.length + L.length) 0) 1 1 true) = some (.sl (.own (H.length + (L.length + 1)) 0) (b.length + 1) 1 false,G) ∧ aB H G ∧ G[H.length + (L.length + 1)]? = some (some (.row (aS (b ++ [i])))) ∧ G.length = H.length + L.length + 2 := fun L u ⟨io,h0,h1⟩ => by
  have hk : (H ++ (L ++ [some (Blk.row [AV.int .i64 i])]))[H.length + L.length]? = some (some (.row [.int .i64 i])) := by
   rw [qI (by omega),Nat.add_sub_cancel_left,qI (by omega)]; simp
  obtain ⟨G,e1,e2,e3,e4⟩ := mN (w0 := w0) (b := 8) (f := true) h1 hk rfl rfl (by omega) (by omega)
  have hl : (H ++ (L ++ [some (Blk.row [AV.int .i64 i])])).length = H.length + (L.length + 1) := by simp
  rw [hl] at e1 e2 e3
  refine ⟨G,e1,⟨by omega,fun j c e => e4 j c (fun q => ?_) (aA e)⟩,?_,by omega⟩
  · have := h0 q
    have := aN e
    omega
  · rw [e3]; simp [aS]
 by_cases hb : b = []
 · subst hb
   refine ⟨.nilS,[],?_,hfin [] .nilS ⟨0,fun q => absurd rfl q,.inl ⟨rfl,rfl,rfl⟩⟩⟩
   rw [List.append_nil]
   simp only [dH,s.e rfl,Option.bind_some]
   rfl
 · obtain ⟨L,eL⟩ : ∃ L : Heap,L = [some (.row (aS b))] := ⟨_,rfl⟩
   refine ⟨.sl (.own H.length 0) b.length 1 false,L,?_,hfin L _ ⟨H.length,fun _ => Nat.le_refl _,.inr ⟨fun q => hb (List.eq_nil_of_length_eq_zero q),rfl,by rw [eL]; simp,by simp⟩⟩⟩
   have := aBh (b := 8) s.s (by simpa using hb) (by simp [Ab.one]) (by omega) (by simp; omega)
   rw [← dL,List.length_map] at this
   rw [eL]; exact this
theorem oN (many : Nat) : ∀ (k : Nat) (b : List Int),(jA many k b).length + 1 = 2 ^ k
 | 0,_ => rfl
 | k + 1,b => by
  have h1 := oN many k (b ++ [((many - (k + 1) : Nat) : Int)])
  have h2 := oN many k b
  rw [jA,List.length_append,List.length_cons,Nat.pow_succ]
  omega
theorem oO {many k : Nat} {b : List Int} : (jO many k b).length = 2 ^ k := by rw [jO,List.length_cons]; exact oN many k b
theorem aIv (many : Nat) (hm : many ≤ 10) : ∀ (k : Nat) (b : List Int) (vb : AV) (ms : List Nat) (h : Heap),k ≤ many → b.length ≤ many - k → (∀ c ∈ ms,c < h.length) → SlO w0 (msk ms h) vb b →
 ACall Try.prog w0 149 [.int .i64 (many : Int),.int .i64 ((many - k : Nat) : Int),vb] h fun y H => aB h H ∧ ∃ io,h.length ≤ io ∧ OL w0 (fun A => InR w0 (msk ms A)) H 1 io y (jO many k b) := by
 intro k
 induction k using Nat.strongRecOn with
 | _ k IH => ?_
 intro b vb ms h hk hbl hms hb0
 refine aY aM aF7 aJA aJz (qE rfl) fun hb ha => aU ?_
 have o1 := Sl.one hb0.s
 have hR : ∀ {A B : Heap} {x : List Int} {c : List AV},aB A B → InR w0 (msk ms A) x c → InR w0 (msk ms B) x c := fun s r => r.sub (jG s.1 fun i b _ e => s.2 i b e)
 simp only [go_sem,mf149,o1.1,o1.2]
 obtain ⟨K,eK⟩ : ∃ K,K = h ++ [some (Blk.row [vb])] := ⟨_,rfl⟩
 have kl : K.length = h.length + 1 := by rw [eK]; simp
 have k0 : K[h.length]? = some (some (.row [vb])) := by rw [eK]; simp
 have sK : aB h (K.set h.length none) := aB.setR (eK ▸ aB.refl.app) (Nat.le_refl _)
 rw [← eK]
 refine cM (S := Nat × Heap × AV × Nat × List (List Int)) (F := fun x => [(0,.int .i64 (many : Int)),(2,vb),(7,x.2.2.1),(8,.int .i64 x.1)]) (H := fun x => x.2.1) (meas := fun x => many - x.1)
  (Inv := fun x => many - k ≤ x.1 ∧ x.1 ≤ many ∧ h.length ≤ x.2.2.2.1 ∧ aB h (x.2.1.set x.2.2.2.1 none) ∧ OL w0 (fun A => InR w0 (msk ms A)) x.2.1 1 x.2.2.2.1 x.2.2.1 x.2.2.2.2 ∧ x.2.2.2.2 ++ jA many (many - x.1) b = jO many k b)
  (many - k,K,.sl (.own h.length 0) 1 1 true,h.length,[b]) ⟨Nat.le_refl _,by simp only; omega,Nat.le_refl _,sK,OL.one k0 rfl (by simp [o1.1]) ⟨vb,rfl,Sl.sub hb0.s ((jG sK.1 fun i b _ e => sK.2 i b e))⟩,by
   simp only [jO]; rw [show many - (many - k) = k by omega]; rfl⟩ rfl rfl ?_
 rintro ⟨i,H,ov,io,l⟩ ⟨hi1,hi2,hio,sH,g,hl⟩ ih
 simp only at hi1 hi2 hio sH g hl ih
 refine aE aM aHR [0,2,7,8] L149_0.eq_1 ?_
 have hio2 := g.lt
 have hH : h.length ≤ H.length := by omega
 rcases Nat.lt_or_ge i many with hil | hil
 · have f0 : (i : Int) < many := by omega
   obtain ⟨j,ej⟩ : ∃ j,many - i = j + 1 := ⟨many - i - 1,by omega⟩
   have hmH : ∀ c ∈ io :: ms,c < H.length := fun c hc => by
    rcases List.mem_cons.1 hc with rfl | hc
    · exact hio2
    · have := hms c hc; omega
   have hmm : ∀ A : Heap,msk (io :: ms) A = msk ms (A.set io none) := fun A => rfl
   have sHm : aB (msk ms h) (msk (io :: ms) H) := by rw [hmm]; exact jG sH.1 fun i b _ e => sH.2 i b e
   obtain ⟨u,L,e1,G,e2,sG,sli,lG⟩ := aK7 (hb0.sub (sHm.trans bS)) (i : Int) (by omega)
   obtain ⟨nv,env⟩ : ∃ nv,nv = AV.sl (.own (H.length + (L.length + 1)) 0) (b.length + 1) 1 false := ⟨_,rfl⟩
   rw [← env] at e2
   simp only [go_sem,f0,e1,e2]
   refine ⟨(by unfold I64; omega),?_⟩
   have hmG : ∀ c ∈ io :: ms,c < G.length := fun c hc => by have := hmH c hc; omega
   have sliM : SlI w0 (msk (io :: ms) G) nv (b ++ [(i : Int)]) := by
    rw [env]
    refine aIs ?_ (by simp)
    rw [bE fun hc => by have := hmH _ hc; omega]; exact sli
   have hC := IH j (by omega) (b ++ [(i : Int)]) nv (io :: ms) G (by omega) (by simp; omega) hmG ⟨sliM,fun e => by simp at e⟩
   rw [show many - j = i + 1 by omega] at hC
   rw [show ((i : Int) + 1) = ((i + 1 : Nat) : Int) by omega]
   refine aR (ACall.vc (first := []) (args := [_,_,_]) hC) ?_
   rintro y H2 ⟨s2,io2,hio2',g2⟩
   have s3 : aB H H2 := sG.trans s2
   have g' := g.sub' s3 hR
   have hns : NS w0 (H2.set io none) 1 (InR w0 (msk ms (H2.set io none))) y (jO many j (b ++ [(i : Int)])) := by
    obtain ⟨rows,f,h1,h2,h3,h4,h5⟩ := g2.ex
    have hs : aB (msk (io :: ms) (H2.set io2 none)) (msk ms (H2.set io none)) := by
     rw [hmm]
     have h0 : aB ((H2.set io2 none).set io none) (H2.set io none) := aB.msk.set2 (by simp; have := s3.1; omega)
     exact jG h0.1 fun z b' _ e => h0.2 z b' e
    refine ⟨rows,h1,?_,fun q x c a b => (h5 q x c a b).sub hs⟩
    rw [h2,← h1]
    exact eP (by rw [qB (by omega)]; exact h3) fun c hc => (h4 c hc).1
   have hlen : l.length + 2 ^ (j + 1) = 2 ^ k + 1 := by
    have := congrArg List.length hl
    rw [List.length_append,oO] at this
    have h2 := oN many (many - i) b
    rw [ej] at h2 this
    omega
   have hp2 : 2 ^ k ≤ 2 ^ 10 := Nat.pow_le_pow_right (by omega) (by omega)
   have hp3 : 2 ^ (j + 1) = 2 * 2 ^ j := by rw [Nat.pow_succ]; omega
   obtain ⟨G3,a1,a2,a3,a4⟩ := g'.more (b := 24) hR (fun r => r.one) (fun r => r.len1) hns (by rw [jO]; simp) (by omega) (by rw [oO]; omega)
   simp only [go_sem,a1]
   have hstep : (l ++ jO many j (b ++ [(i : Int)])) ++ jA many (many - (i + 1)) b = jO many k b := by
    rw [← hl,ej,jA,show many - (j + 1) = i by omega,show many - (i + 1) = j by omega]
    simp [jO]
   have := ih (i + 1,G3,_,H2.length,l ++ jO many j (b ++ [(i : Int)])) ⟨by simp only; omega,by simp only; omega,by have := s3.1; simp only; omega,sH.trans ((s3.set2 hio2).trans a3),a2,hstep⟩ (by simp only; omega)
   exact ⟨(by unfold I64; omega),by simpa using this⟩
 · obtain rfl : i = many := by omega
   have f0 : ¬ (i : Int) < i := by omega
   simp only [go_sem,f0]
   rw [Nat.sub_self,jA,List.append_nil] at hl
   refine ⟨sH.trans aB.msk,io,hio,?_⟩
   rw [← hl]; exact g
theorem mP.sub {A B : Heap} {x : aC} {c : List AV} (s : aB A B) (r : mP w0 A x c) : mP w0 B x c := by
 obtain ⟨pv,e,r⟩ := r
 exact ⟨pv,e,Sl.sub r s⟩
theorem mP.one {A : Heap} {x : aC} {c : List AV} (r : mP w0 A x c) : c.all Ab.one = true := by
 obtain ⟨pv,rfl,hx⟩ := r
 simp only [List.all_cons,List.all_nil,(Sl.one hx).1]
 rfl
theorem mP.len {A : Heap} {x : aC} {c : List AV} (r : mP w0 A x c) : c.length = 2 := by
 obtain ⟨pv,rfl,hx⟩ := r
 rfl
theorem OL.push {α : Type} {R : Heap → α → List AV → Prop} {H : Heap} {es io b : Nat} {ov : AV} {l : List α} {x : α} {c : List AV} {f : Bool} (g : OL w0 R H es io ov l) (hm : ∀ {A B : Heap} {x c},aB A B → R A x c → R B x c) (ho : ∀ {A : Heap} {x c},R A x c → c.all Ab.one = true) (hcl : ∀ {A : Heap} {x c},R A x c → c.length = es)
 (hx : R (H.set io none) x c) (hb : b ≤ 1000000) (hn : l.length + 1 ≤ 1000000) :
 ∃ G,dH w0 (H ++ [some (.row c)]) es b ov (.sl (.own H.length 0) 1 es f) = some (.sl (.own (H.length + 1) 0) (l.length + 1) es false,G) ∧ OL w0 R G es (H.length + 1) (.sl (.own (H.length + 1) 0) (l.length + 1) es false) (l ++ [x]) ∧ aB (H.set io none) (G.set (H.length + 1) none) ∧ G.length = H.length + 2 := by
 have hio := g.lt
 obtain ⟨H1,eH1⟩ : ∃ H1,H1 = H ++ [some (Blk.row c)] := ⟨_,rfl⟩
 have s1 : aB H H1 := eH1 ▸ aB.refl.app
 have k1 : H1[H.length]? = some (some (.row c)) := by rw [eH1]; simp
 have l1 : H1.length = H.length + 1 := by rw [eH1]; simp
 have hs : aB (H.set io none) (H1.set io none) := s1.set2 hio
 have hns : NS w0 (H1.set io none) es (R (H1.set io none)) (.sl (.own H.length 0) 1 es f) [x] := by
  refine ⟨[c],rfl,eP (rows := [c]) (by rw [qB (by omega)]; simpa using k1) (fun d hd => by simp only [List.mem_singleton] at hd; subst hd; exact hcl hx),fun j y d hy hd => ?_⟩
  have := aN hy
  obtain rfl : j = 0 := by simpa using this
  simp at hy hd
  subst hy; subst hd; exact hm hs hx
 obtain ⟨G,a1,a2,a3,a4⟩ := (g.sub' s1 hm).more (b := b) hm ho hcl hns (by simp) hb (by simpa using hn)
 rw [l1] at a1 a2 a3 a4
 rw [← eH1]
 exact ⟨G,a1,a2,hs.trans a3,a4⟩
theorem aBX (d : aO) (v : bO) (hR : gJ w0 h d v) (dg : dC d) : ACall Try.prog w0 129 [.agg (aX v)] h fun y H => aB h H ∧ NS w0 H 2 (mP w0 H) y (fR d) := by
 refine aY aM aGi aJW aJV (qE rfl) fun hb ha => aU ?_
 obtain ⟨y1,y2,y3,y4,y5⟩ := hR.ones
 obtain ⟨l1,l2,l3,l4,l5⟩ := hR.lens
 have p1 := dg.p1
 have pe := dg.pe
 simp only [go_sem,mf129,aX,y1,y2,y3,y4,y5,l4]
 obtain ⟨K,eK⟩ : ∃ K,K = h ++ [some (Blk.row [v.pl,v.ln,v.pn,v.pe,v.we]),some (Blk.row [AV.int .i64 (-1),AV.nilS])] := ⟨_,rfl⟩
 have kl : K.length = h.length + 2 := by rw [eK]; simp
 have k0 : K[h.length]? = some (some (.row [v.pl,v.ln,v.pn,v.pe,v.we])) := by rw [eK]; simp
 have k1 : K[h.length + 1]? = some (some (.row [.int .i64 (-1),.nilS])) := by rw [eK]; simp
 have sK : aB h (K.set (h.length + 1) none) := aB.setR (eK ▸ aB.refl.app) (by omega)
 rw [← eK]
 have hC := aIv (w0 := w0) d.people.length (by omega) d.people.length [] .nilS [h.length + 1] K (Nat.le_refl _) (by simp) (fun c hc => by simp only [List.mem_singleton] at hc; omega) ⟨.inl ⟨rfl,rfl⟩,fun _ => rfl⟩
 rw [Nat.sub_self] at hC
 refine aR (ACall.vc (first := []) (args := [_,_,_]) hC) ?_
 rintro y H1 ⟨s1,io,hio,g⟩
 have hS : NS w0 (H1.set (h.length + 1) none) 1 (InR w0 (H1.set (h.length + 1) none)) y (jO d.people.length d.people.length []) := by
  obtain ⟨rows,f,h1,h2,h3,h4,h5⟩ := g.ex
  refine ⟨rows,h1,?_,fun q x c a b => (h5 q x c a b).sub (aB.msk.set2 (by simp; have := s1.1; omega))⟩
  rw [h2,← h1]
  exact eP (by rw [qB (by omega)]; exact h3) fun c hc => (h4 c hc).1
 obtain ⟨K2,eK2⟩ : ∃ K2,K2 = H1.set (h.length + 1) none := ⟨_,rfl⟩
 rw [← eK2] at hS
 have j0 := s1.2 _ _ k0
 have j1 := s1.2 _ _ k1
 have sl := s1.1
 have s2 : aB h K2 := eK2 ▸ sK.trans (s1.set2 (by omega))
 have q0 : K2[h.length]? = some (some (.row [v.pl,v.ln,v.pn,v.pe,v.we])) := by rw [eK2,qB (by omega)]; exact j0
 have q2l : K2.length = H1.length := by rw [eK2,List.length_set]
 have hns := hS.len
 obtain ⟨A,eA⟩ : ∃ A,A = jO d.people.length d.people.length [] := ⟨_,rfl⟩
 have hAl : A.length ≤ 16 := by
  rw [eA,oO]
  exact Nat.le_trans (Nat.pow_le_pow_right (by omega) pe) (by decide)
 rw [← eA] at hS hns
 simp only [go_sem]
 have hR2 : ∀ {A B : Heap} {x : aC} {c : List AV},aB A B → mP w0 A x c → mP w0 B x c := fun s r => r.sub s
 refine cM (S := Nat × Heap × AV × Nat × List aC) (F := fun x => [(1,.ptr (.own h.length 0)),(3,x.2.2.1),(4,y),(5,.int .i64 x.1)]) (H := fun x => x.2.1) (meas := fun x => d.places.length - x.1)
  (Inv := fun x => x.1 ≤ d.places.length ∧ h.length < x.2.2.2.1 ∧ aB K2 (x.2.1.set x.2.2.2.1 none) ∧ OL w0 (mP w0) x.2.1 2 x.2.2.2.1 x.2.2.1 x.2.2.2.2 ∧ x.2.2.2.2 = ⟨-1,[]⟩ :: (List.range x.1).flatMap fun (p : Nat) => A.map fun l => ⟨(p : Int),l⟩)
  (0,H1,.sl (.own (h.length + 1) 0) 1 2 true,h.length + 1,[⟨-1,[]⟩]) ⟨Nat.zero_le _,by simp only; omega,eK2 ▸ aB.refl,OL.one j1 rfl rfl ⟨.nilS,rfl,.inl ⟨rfl,rfl⟩⟩,by simp⟩ rfl rfl ?_
 rintro ⟨p,H,ov,io,l⟩ ⟨hp,hio,sH,g,hl⟩ ih
 simp only at hp hio sH g hl ih
 refine aE aM aHV [1,3,4,5] L129_1.eq_1 ?_
 have sHH : aB K2 H := sH.trans aB.msk
 have r0 := sHH.2 _ _ q0
 have r0L := xL r0
 rcases Nat.lt_or_ge p d.places.length with hpl | hpl
 · have f0 : (p : Int) < d.places.length := by omega
   simp only [go_sem,r0,r0L,l1,f0]
   clear r0 r0L sHH
   refine cM (S := Nat × Heap × AV × Nat × List aC) (F := fun x => [(1,.ptr (.own h.length 0)),(3,x.2.2.1),(4,y),(5,.int .i64 p),(6,.int .i64 x.1)]) (H := fun x => x.2.1) (meas := fun x => A.length - x.1)
    (Inv := fun x => x.1 ≤ A.length ∧ h.length < x.2.2.2.1 ∧ aB K2 (x.2.1.set x.2.2.2.1 none) ∧ OL w0 (mP w0) x.2.1 2 x.2.2.2.1 x.2.2.1 x.2.2.2.2 ∧ x.2.2.2.2 = l ++ (A.take x.1).map fun l => ⟨(p : Int),l⟩)
    (0,H,ov,io,l) ⟨Nat.zero_le _,hio,sH,g,by simp⟩ rfl rfl ?_
   rintro ⟨q,H',ov',io',l'⟩ ⟨hq,hio',sH',g',hl'⟩ ih2
   simp only at hq hio' sH' g' hl' ih2
   refine aE aM aHW [1,3,4,5,6] L129_0.eq_1 ?_
   have sHH : aB K2 H' := sH'.trans aB.msk
   rcases Nat.lt_or_ge q A.length with hql | hql
   · have f1 : (q : Int) < A.length := by omega
     obtain ⟨pp,c,i1,i2,x,rfl,i3⟩ := NS.at_ hS hql
     have t : ∀ L,rd w0 (H' ++ L) pp = some x := fun L => (sHH.app (L := L)).rd (vK (by simpa using i2 []) rfl)
     have t' := t []
     rw [List.append_nil] at t'
     have ox := Sl.one i3
     obtain ⟨G,a1,a2,a3,a4⟩ := g'.push (b := 32) (f := true) (c := [.int .i64 (p : Int),x]) (x := (⟨(p : Int),A[q]⟩ : aC)) hR2 (fun r => r.one) (fun r => r.len) ⟨x,rfl,(show SlI w0 K2 x (aC.mk (p : Int) A[q]).people from i3).sub sH'⟩ (by omega) (by
      have hll : l.length ≤ 1 + p * 16 := by
       rw [hl,List.length_cons]
       clear hl hl'
       have : ∀ p,((List.range p).flatMap fun (p : Nat) => A.map fun l => (⟨(p : Int),l⟩ : aC)).length ≤ p * 16 := fun p => by
        induction p with
        | zero => simp
        | succ p ih => rw [List.range_succ,List.flatMap_append,List.length_append]; simp at ih ⊢; omega
       have := this p
       omega
      rw [hl',List.length_append,List.length_map,List.length_take]
      omega)
     simp only [go_sem,hns,f1,i1,t,t',ox.1,ox.2,a1]
     have := ih2 (q + 1,G,_,H'.length + 1,l' ++ [⟨(p : Int),A[q]⟩]) ⟨by simp only; omega,by simp only; have := g'.lt; omega,sH'.trans a3,a2,by simp only; rw [hl',List.take_add_one,qA hql,List.map_append]; simp⟩ (by simp only; omega)
     exact ⟨(by unfold I64; omega),by simpa using this⟩
   · obtain rfl : q = A.length := by omega
     have f1 : ¬ (A.length : Int) < A.length := by omega
     simp only [go_sem,hns,f1]
     rw [List.take_length] at hl'
     have := ih (p + 1,H',ov',io',l') ⟨by simp only; omega,hio',sH',g',by simp only; rw [hl',hl,List.range_succ,List.flatMap_append]; simp⟩ (by simp only; omega)
     exact ⟨(by unfold I64; omega),by simpa using this⟩
 · obtain rfl : p = d.places.length := by omega
   have f0 : ¬ (d.places.length : Int) < d.places.length := by omega
   simp only [go_sem,r0,r0L,l1,f0]
   refine ⟨s2.trans sHH,?_⟩
   have := g.ns hR2
   rw [hl,eA] at this
   exact this
structure UnZ (w0 : World) (H : Heap) (v : AV) (u : List aC) : Prop where
 n : UnV w0 H v u
 e : u = [] → v = .nilS
theorem UnZ.sub {A B : Heap} {v : AV} {u : List aC} (r : UnZ w0 A v u) (s : aB A B) : UnZ w0 B v u := ⟨r.n.sub s,r.e⟩
def xH (w0 : World) (H : Heap) (u : List aC) (c : List AV) : Prop := ∃ y,c = [y] ∧ UnZ w0 H y u
theorem xH.sub {A B : Heap} {x : List aC} {c : List AV} (s : aB A B) (r : xH w0 A x c) : xH w0 B x c := by
 obtain ⟨y,e,r⟩ := r
 exact ⟨y,e,r.sub s⟩
theorem kV {S : Nat → Bool} {i j : Nat} (h : S j = false) (hne : j ≠ i) : dY S i j = false := by rw [cW hne]; exact h
structure UJ (G : Heap) (fr0 : Fr) (ov av fv uv : AV) (k j : Int) (p q : Pl) (n : Nat) (cells fl : List AV) (S : Nat → Bool) (a b : Nat) (fr : Fr) (H : Heap) : Prop where
 sub : aB G H
 keep : ∀ t,t < 31 → fr.get t = fr0.get t
 v0 : S 0 = true → fr.get 31 = ov
 v1 : S 1 = true → fr.get 32 = av
 v2 : S 2 = true → fr.get 33 = .int .i64 k
 v3 : S 3 = true → fr.get 34 = .ptr p
 v4 : S 4 = true → fr.get 35 = uv
 v5 : S 5 = true → (n = 0 ∧ fr.get 36 = .nilS) ∨ (n ≠ 0 ∧ G.length ≤ a ∧ fr.get 36 = .sl (.own a 0) n 2 false ∧ H[a]? = some (some (.row cells)))
 v6 : S 6 = true → fr.get 37 = fv
 v7 : S 7 = true → fr.get 38 = .int .i64 j
 v8 : S 8 = true → fr.get 39 = .ptr q
 v9 : S 9 = true → fr.get 40 = .agg fl
 v10 : S 10 = true → G.length ≤ b ∧ fr.get 41 = .sl (.own b 0) 1 2 true ∧ H[b]? = some (some (.row fl))
def vC (G : Heap) (ov av fv uv : AV) (k j : Int) (p q : Pl) (n : Nat) (cells fl : List AV) (a b : Nat) (H : Heap) : Nat → AV → Prop
 | 0,v => v = ov
 | 1,v => v = av
 | 2,v => v = .int .i64 k
 | 3,v => v = .ptr p
 | 4,v => v = uv
 | 5,v => (n = 0 ∧ v = .nilS) ∨ (n ≠ 0 ∧ G.length ≤ a ∧ v = .sl (.own a 0) n 2 false ∧ H[a]? = some (some (.row cells)))
 | 6,v => v = fv
 | 7,v => v = .int .i64 j
 | 8,v => v = .ptr q
 | 9,v => v = .agg fl
 | 10,v => G.length ≤ b ∧ v = .sl (.own b 0) 1 2 true ∧ H[b]? = some (some (.row fl))
 | _,_ => True
section
variable {G : Heap} {fr0 : Fr} {ov av fv uv : AV} {k j : Int} {p q : Pl} {n : Nat} {cells fl : List AV} {S : Nat → Bool} {a b : Nat} {fr : Fr} {H : Heap}
theorem UJ.get (u : UJ G fr0 ov av fv uv k j p q n cells fl S a b fr H) : ∀ i,i < 11 → S i = true → vC G ov av fv uv k j p q n cells fl a b H i (fr.get (i + 31)) := fun i hi hs => by
 match i,hi with
 | 0,_ => exact u.v0 hs
 | 1,_ => exact u.v1 hs
 | 2,_ => exact u.v2 hs
 | 3,_ => exact u.v3 hs
 | 4,_ => exact u.v4 hs
 | 5,_ => exact u.v5 hs
 | 6,_ => exact u.v6 hs
 | 7,_ => exact u.v7 hs
 | 8,_ => exact u.v8 hs
 | 9,_ => exact u.v9 hs
 | 10,_ => exact u.v10 hs
theorem UJ.of (sub : aB G H) (keep : ∀ t,t < 31 → fr.get t = fr0.get t) (hv : ∀ i,i < 11 → S i = true → vC G ov av fv uv k j p q n cells fl a b H i (fr.get (i + 31))) : UJ G fr0 ov av fv uv k j p q n cells fl S a b fr H :=
 ⟨sub,keep,hv 0 (by omega),hv 1 (by omega),hv 2 (by omega),hv 3 (by omega),hv 4 (by omega),hv 5 (by omega),hv 6 (by omega),hv 7 (by omega),hv 8 (by omega),hv 9 (by omega),hv 10 (by omega)⟩
theorem aD8 {H' : Heap} (s : aB H H') : ∀ {i : Nat} {v : AV},vC G ov av fv uv k j p q n cells fl a b H i v → vC G ov av fv uv k j p q n cells fl a b H' i v := fun {i} {v} e => by
 match i with
 | 5 => exact e.imp (fun x => x) fun ⟨e1,e2,e3,e4⟩ => ⟨e1,e2,e3,s.2 _ _ e4⟩
 | 10 => exact ⟨e.1,e.2.1,s.2 _ _ e.2.2⟩
 | 0 | 1 | 2 | 3 | 4 | 6 | 7 | 8 | 9 => exact e
 | n + 11 => trivial
theorem UJ.step {H' : Heap} {v : AV} {a' b' : Nat} (u : UJ G fr0 ov av fv uv k j p q n cells fl S a b fr H) {i : Nat} (hi : i < 11) (s : aB H H') (ha : S 5 = true → a' = a) (hb : S 10 = true → b' = b)
 (hv : vC G ov av fv uv k j p q n cells fl a' b' H' i v) (hne : S i = false) : UJ G fr0 ov av fv uv k j p q n cells fl (dY S i) a' b' (fr.put (some (i + 31)) v) H' := by
 refine .of (u.sub.trans s) (fun t ht => by rw [dG (by simp; omega)]; exact u.keep t ht) fun m hm hs => ?_
 by_cases e : m = i
 · subst e; rw [cE]; exact hv
 · rw [cW e] at hs
   rw [dG (by simp; omega)]
   have := aD8 s (u.get m hm hs)
   match m with
   | 5 => rw [ha hs]; exact this
   | 10 => rw [hb hs]; exact this
   | 0 | 1 | 2 | 3 | 4 | 6 | 7 | 8 | 9 => exact this
   | n + 11 => trivial
def aHZ (fr0 : Fr) (Q : Fr → Heap → Prop) (y : AV) (H : Heap) : Prop := ∀ fr : Fr,(∀ t,t < 31 → t ≠ 6 → fr.get t = fr0.get t) → fr.get 6 = y → Q fr H
inductive PJ (w0 : World) (G : Heap) (fr0 : Fr) (Q : Fr → Heap → Prop) (ov av fv uv : AV) (k j : Int) (p q : Pl) (n : Nat) (cells fl : List AV) (S : Nat → Bool) (fr : Fr) (H : Heap) : Prop where
 | a (h1 : S 11 = false) (h2 : S 12 = false) (h3 : S 13 = false) (h4 : S 14 = false) (a b : Nat) (u : UJ G fr0 ov av fv uv k j p q n cells fl S a b fr H)
 | b (h0 : ∀ m,1 ≤ m → m < 12 → S m = true) (h2 : S 12 = false) (h3 : S 13 = false) (h4 : S 14 = false) (c : Nat) (hc : G.length ≤ c) (s : aB G H) (kp : ∀ t,t < 31 → fr.get t = fr0.get t) (v0 : S 0 = true → fr.get 31 = ov)
  (v : fr.get 42 = .sl (.own c 0) (n + 1) 2 false) (x : H[c]? = some (some (.row (cells ++ fl))))
 | c (h0 : ∀ m,1 ≤ m → m < 13 → S m = true) (h3 : S 13 = false) (h4 : S 14 = false) (c e : Nat) (hc : G.length ≤ c) (s : aB G H) (kp : ∀ t,t < 31 → fr.get t = fr0.get t) (v0 : S 0 = true → fr.get 31 = ov)
  (x : H[c]? = some (some (.row (cells ++ fl)))) (v : fr.get 43 = .sl (.own e 0) 1 1 true) (z : H[e]? = some (some (.row [.sl (.own c 0) (n + 1) 2 false])))
 | d (h0 : ∀ m,m < 14 → S m = true) (h4 : S 14 = false) (y : AV) (kp : ∀ t,t < 31 → t ≠ 6 → fr.get t = fr0.get t) (v : fr.get 44 = y) (f : aHZ fr0 Q y H)
 | e (h0 : ∀ m,m < 15 → S m = true) (y : AV) (kp : ∀ t,t < 31 → t ≠ 6 → fr.get t = fr0.get t) (v : fr.get 6 = y) (f : aHZ fr0 Q y H)
theorem aE4 {o : Nat} {P : Pl} {x : AV} {fr : Fr} {H : Heap} (h1 : fr.get o = .ptr P) (h2 : rd w0 H P = some x) : aop w0 (.load (.t o) none) fr H = some (x,H) := by simp [aop,Opd.ev,h1,rdv,h2]
theorem aFh {Q : Exit → Fr → Heap → Prop} {its : List It} {nt Z : Nat} {kn jn : Nat} (h3 : fr0.get 3 = av) (h4 : fr0.get 4 = fv) (h6 : fr0.get 6 = ov) (h7 : fr0.get 7 = .int .i64 (kn : Int)) (h8 : fr0.get 8 = .int .i64 (jn : Int))
 (i1 : bT 1 av (some kn) = some (.ptr p)) (r1 : rd w0 G p = some uv) (i2 : bT 2 fv (some jn) = some (.ptr q)) (r2 : rdn w0 G q 2 = some fl) (hfl : fl.length = 2) (hfo : fl.all Ab.one = true) (hn : n ≤ 1000)
 (cu : (n = 0 ∧ uv = .nilS ∧ cells = []) ∨ (n ≠ 0 ∧ cells.length = n * 2 ∧ ∀ H,aB G H → dH w0 H 2 32 .nilS uv = some (.sl (.own H.length 0) n 2 false,H ++ [some (.row cells)])))
 (hA : ∀ (H : Heap) (c e : Nat),aB G H → G.length ≤ c → H[c]? = some (some (.row (cells ++ fl))) → H[e]? = some (some (.row [.sl (.own c 0) (n + 1) 2 false])) → ∃ y H',dH w0 H 1 24 ov (.sl (.own e 0) 1 1 true) = some (y,H') ∧
  aHZ fr0 (fun fr H => ∃ fr2 : Fr,(∀ t,fr2.get t = .undef ∨ fr2.get t = fr.get t) ∧ un Try.prog w0 none nt Z Q .normal its fr2 H) y H') : dr Try.prog w0 none nt Z Q D87_0 B87_0 its fr0 G := by
 obtain ⟨QQ,eQQ⟩ : ∃ QQ : Fr → Heap → Prop,QQ = (fun fr H => ∃ fr2 : Fr,(∀ t,fr2.get t = .undef ∨ fr2.get t = fr.get t) ∧ un Try.prog w0 none nt Z Q .normal its fr2 H) := ⟨_,rfl⟩
 rw [← eQQ] at hA
 refine dr_J aM (PJ w0 G fr0 QQ ov av fv uv (kn : Int) (jn : Int) p q n cells fl) ?_ ?_ ?_
 · exact .a rfl rfl rfl rfl 0 0 (.of aB.refl (fun _ _ => rfl) fun i _ hs => by cases hs)
 · intro S i x fr H hx hS hb hJ
   have hi15 : i < 15 := by
    have := aP hx
    exact this
   cases hJ with
   | a g1 g2 g3 g4 a b u =>
    have w11 : ∀ {i : Nat},i < 11 → ∀ m,11 ≤ m → m < 15 → S m = false → dY S i m = false := fun {i} hi m h1 _ h => by rw [cW (by omega)]; exact h
    have fin : ∀ {i : Nat},i < 11 → S i = false → ∀ {H' : Heap} {v : AV},aB H H' → i ≠ 5 → i ≠ 10 → vC G ov av fv uv (kn : Int) (jn : Int) p q n cells fl a b H' i v → PJ w0 G fr0 QQ ov av fv uv (kn : Int) (jn : Int) p q n cells fl (dY S i) (fr.put (some (i + 31)) v) H' := fun {i} hi hSi {H'} {v} s h5 h10 hv =>
     .a (w11 hi 11 (by omega) (by omega) g1) (w11 hi 12 (by omega) (by omega) g2) (w11 hi 13 (by omega) (by omega) g3) (w11 hi 14 (by omega) (by omega) g4) a b (u.step hi s (fun _ => rfl) (fun _ => rfl) hv hSi)
    have fin5 : ∀ {i : Nat},i < 11 → S i = false → ∀ {H' : Heap} {v : AV} {a' b' : Nat},aB H H' → (S 5 = true → a' = a) → (S 10 = true → b' = b) → vC G ov av fv uv (kn : Int) (jn : Int) p q n cells fl a' b' H' i v → PJ w0 G fr0 QQ ov av fv uv (kn : Int) (jn : Int) p q n cells fl (dY S i) (fr.put (some (i + 31)) v) H' := fun {i} hi hSi {H'} {v} {a'} {b'} s h5 h10 hv =>
     .a (w11 hi 11 (by omega) (by omega) g1) (w11 hi 12 (by omega) (by omega) g2) (w11 hi 13 (by omega) (by omega) g3) (w11 hi 14 (by omega) (by omega) g4) a' b' (u.step hi s h5 h10 hv hSi)
    rcases i with _ | _ | _ | _ | _ | _ | _ | _ | _ | _ | _ | _ | _ | _ | _ | i
    · cases hx
      exact ⟨ov,H,by simp [aop,Opd.ev,u.keep 6 (by omega),h6],fin (i := 0) (by omega) hS aB.refl (by omega) (by omega) rfl⟩
    · cases hx
      exact ⟨av,H,by simp [aop,Opd.ev,u.keep 3 (by omega),h3],fin (i := 1) (by omega) hS aB.refl (by omega) (by omega) rfl⟩
    · cases hx
      exact ⟨.int .i64 kn,H,by simp [aop,Opd.ev,u.keep 7 (by omega),h7],fin (i := 2) (by omega) hS aB.refl (by omega) (by omega) rfl⟩
    · cases hx
      have e1 := u.v1 (hb 1 rfl)
      have e2 := u.v2 (hb 2 rfl)
      refine ⟨.ptr p,H,?_,fin (i := 3) (by omega) hS aB.refl (by omega) (by omega) rfl⟩
      simp only [aBi,Opd.ev,e1,e2,kQ,i1]; rfl
    · cases hx
      exact ⟨uv,H,aE4 (u.v3 (hb 3 rfl)) (u.sub.rd r1),fin (i := 4) (by omega) hS aB.refl (by omega) (by omega) rfl⟩
    · cases hx
      have e1 := u.v4 (hb 4 rfl)
      rcases cu with ⟨c1,c2,c3⟩ | ⟨c1,_,c2⟩
      · refine ⟨.nilS,H,?_,fin5 (i := 5) (a' := a) (b' := b) (by omega) hS aB.refl (fun _ => rfl) (fun _ => rfl) (.inl ⟨c1,rfl⟩)⟩
        simp only [uV,Opd.ev,e1,c2]; rfl
      · refine ⟨.sl (.own H.length 0) n 2 false,H ++ [some (.row cells)],?_,fin5 (i := 5) (a' := H.length) (b' := b) (by omega) hS aB.refl.app (fun e => by rw [hS] at e; cases e) (fun _ => rfl) (.inr ⟨c1,u.sub.1,rfl,by simp⟩)⟩
        simp only [uV,Opd.ev,e1,c2 H u.sub]
    · cases hx
      exact ⟨fv,H,by simp [aop,Opd.ev,u.keep 4 (by omega),h4],fin (i := 6) (by omega) hS aB.refl (by omega) (by omega) rfl⟩
    · cases hx
      exact ⟨.int .i64 jn,H,by simp [aop,Opd.ev,u.keep 8 (by omega),h8],fin (i := 7) (by omega) hS aB.refl (by omega) (by omega) rfl⟩
    · cases hx
      have e1 := u.v6 (hb 6 rfl)
      have e2 := u.v7 (hb 7 rfl)
      refine ⟨.ptr q,H,?_,fin (i := 8) (by omega) hS aB.refl (by omega) (by omega) rfl⟩
      simp only [aBi,Opd.ev,e1,e2,kQ,i2]; rfl
    · cases hx
      have e1 := u.v8 (hb 8 rfl)
      refine ⟨.agg fl,H,?_,fin (i := 9) (by omega) hS aB.refl (by omega) (by omega) rfl⟩
      simp [aop,Opd.ev,e1,rdv,u.sub.rdn r2]
    · cases hx
      have e1 := u.v9 (hb 9 rfl)
      refine ⟨.sl (.own H.length 0) 1 2 true,H ++ [some (.row fl)],?_,fin5 (i := 10) (a' := a) (b' := H.length) (by omega) hS aB.refl.app (fun _ => rfl) (fun e => by rw [hS] at e; cases e) ⟨u.sub.1,rfl,by simp⟩⟩
      obtain ⟨x1,x2,rfl⟩ : ∃ x1 x2,fl = [x1,x2] := by
       match fl,hfl with
       | [x1,x2],_ => exact ⟨x1,x2,rfl⟩
      have ho : Ab.one x1 = true ∧ Ab.one x2 = true := by simpa using hfo
      simp [aop,Opd.ev,e1,iK,cellsOf,ho.1,ho.2,fL,cB,lA]
    · cases hx
      have e1 := u.v5 (hb 5 rfl)
      obtain ⟨e2,e3,e4⟩ := u.v10 (hb 10 rfl)
      have hall : ∀ m,1 ≤ m → m < 11 → S m = true := fun m m1 m2 => hb m (by
       rcases m with _ | _ | _ | _ | _ | _ | _ | _ | _ | _ | _ | m
       · omega
       all_goals first | rfl | omega)
      have hov : n = 0 ∧ fr.get 36 = .nilS ∧ cells = [] ∨ n ≠ 0 ∧ fr.get 36 = .sl (.own a 0) n 2 false ∧ H[a]? = some (some (.row cells)) ∧ cells.length = n * 2 := by
       rcases e1 with ⟨c1,c2⟩ | ⟨c1,c2,c3,c4⟩
       · rcases cu with ⟨_,_,c3⟩ | ⟨c3,_⟩
         · exact .inl ⟨c1,c2,c3⟩
         · exact absurd c1 c3
       · rcases cu with ⟨c5,_⟩ | ⟨_,c5,_⟩
         · exact absurd c5 c1
         · exact .inr ⟨c1,c3,c4,c5⟩
      obtain ⟨H',a1,a2,a3,a4⟩ := mN (w0 := w0) (b := 32) (f := true) hov e4 hfl hfo (by omega) (by omega)
      have hio : n ≠ 0 → G.length ≤ a := fun hn0 => by
       rcases e1 with ⟨c1,_⟩ | ⟨_,c2,_⟩
       · exact absurd c1 hn0
       · exact c2
      refine ⟨_,_,by simp only [uV,Opd.ev,e3]; exact a1,.b (fun m m1 m2 => ?_) (kV g2 (by omega)) (kV g3 (by omega)) (kV g4 (by omega)) H.length u.sub.1 ⟨by have := u.sub.1; omega,fun i c e => a4 i c (fun h0 => ?_) (u.sub.2 _ _ e)⟩ (fun t ht => ?_) (fun hs => ?_) cE a3⟩
      · by_cases e : m = 11
        · subst e; exact eT
        · exact dX (hall m m1 (by omega))
      · have := hio h0
        have := aN e
        omega
      · rw [dG (by simp [MIx.dst]; omega)]; exact u.keep t ht
      · rw [cW (by omega)] at hs
        rw [dG (by simp [MIx.dst])]
        exact u.v0 hs
    · cases hx
      have := hb 11 rfl
      rw [g1] at this; cases this
    · cases hx
      have := hb 11 rfl
      rw [g1] at this; cases this
    · cases hx
      have := hb 11 rfl
      rw [g1] at this; cases this
    · omega
   | b h0 g2 g3 g4 c hc s kp v0 v x' =>
    rcases Nat.eq_zero_or_pos i with rfl | hpos
    · cases hx
      refine ⟨ov,H,by simp [aop,Opd.ev,kp 6 (by omega),h6],.b (fun m m1 m2 => dX (h0 m m1 m2)) (kV g2 (by omega)) (kV g3 (by omega)) (kV g4 (by omega)) c hc s (fun t ht => ?_) (fun _ => cE) ?_ x'⟩
      · rw [dG (by simp [MIx.dst]; omega)]; exact kp t ht
      · rw [dG (by simp [MIx.dst])]; exact v
    by_cases hi : i < 12
    · rw [h0 i hpos hi] at hS; cases hS
    by_cases e12 : i = 12
    · subst e12
      cases hx
      refine ⟨.sl (.own H.length 0) 1 1 true,H ++ [some (.row [.sl (.own c 0) (n + 1) 2 false])],?_,.c (fun m m1 m2 => ?_) (kV g3 (by omega)) (kV g4 (by omega)) c H.length hc s.app (fun t ht => ?_) (fun hs => ?_) (aA x') cE (by simp)⟩
      · simp [aop,Opd.ev,v,iK,cellsOf,fL,cB,lA]
      · by_cases e : m = 12
        · subst e; exact eT
        · exact dX (h0 m m1 (by omega))
      · rw [dG (by simp [MIx.dst]; omega)]; exact kp t ht
      · rw [cW (by omega)] at hs
        rw [dG (by simp [MIx.dst])]
        exact v0 hs
    · have : S 12 = true := by
       rcases (show i = 13 ∨ i = 14 by omega) with rfl | rfl
       · exact hb 12 rfl
       · exact hb 12 rfl
      rw [g2] at this; cases this
   | c h0 g3 g4 c e hc s kp v0 x' v z =>
    rcases Nat.eq_zero_or_pos i with rfl | hpos
    · cases hx
      refine ⟨ov,H,by simp [aop,Opd.ev,kp 6 (by omega),h6],.c (fun m m1 m2 => dX (h0 m m1 m2)) (kV g3 (by omega)) (kV g4 (by omega)) c e hc s (fun t ht => ?_) (fun _ => cE) x' ?_ z⟩
      · rw [dG (by simp [MIx.dst]; omega)]; exact kp t ht
      · rw [dG (by simp [MIx.dst])]; exact v
    by_cases hi : i < 13
    · rw [h0 i hpos hi] at hS; cases hS
    by_cases e13 : i = 13
    · subst e13
      cases hx
      have e0 := v0 (hb 0 rfl)
      obtain ⟨y,H',a1,a2⟩ := hA H c e s hc x' z
      refine ⟨_,_,by simp only [uV,Opd.ev,e0,v]; exact a1,.d (fun m m1 => ?_) (kV g4 (by omega)) y (fun t ht ht2 => ?_) cE a2⟩
      · by_cases e : m = 13
        · subst e; exact eT
        · by_cases em : m = 0
          · subst em; exact dX (hb 0 rfl)
          · exact dX (h0 m (by omega) (by omega))
      · rw [dG (by simp [MIx.dst]; omega)]; exact kp t ht
    · obtain rfl : i = 14 := by omega
      have := hb 13 rfl
      rw [g3] at this; cases this
   | d h0 g4 y kp v f =>
    by_cases hi : i < 14
    · rw [h0 i hi] at hS; cases hS
    obtain rfl : i = 14 := by omega
    cases hx
    refine ⟨y,H,by simp [aop,Opd.ev,v],.e (fun m m1 => ?_) y (fun t ht ht2 => ?_) cE f⟩
    · by_cases e : m = 14
      · subst e; exact eT
      · exact dX (h0 m (by omega))
    · rw [dG (by simp [MIx.dst]; omega)]; exact kp t ht ht2
   | e h0 y kp v f =>
    rw [h0 i hi15] at hS; cases hS
 · intro S fr H hall hJ
   have hall' : ∀ m,m < 15 → S m = true := fun m hm => hall m hm
   cases hJ with
   | a g1 => rw [hall' 11 (by omega)] at g1; cases g1
   | b h0 g2 => rw [hall' 12 (by omega)] at g2; cases g2
   | c h0 g3 => rw [hall' 13 (by omega)] at g3; cases g3
   | d h0 g4 => rw [hall' 14 (by omega)] at g4; cases g4
   | e h0 y kp v f =>
    have := f fr kp v
    rw [eQQ] at this; exact this
end
theorem Wk.nil {fr : Fr} : Wk [] fr := fun _ => .inl rfl
theorem xP (d : aO) : (fR d).length = 1 + d.places.length * 2 ^ d.people.length := by
 rw [fR,List.length_cons]
 have : ∀ p,((List.range p).flatMap fun (p : Nat) => (jO d.people.length d.people.length []).map fun l => (⟨(p : Int),l⟩ : aC)).length = p * 2 ^ d.people.length := fun p => by
  induction p with
  | zero => simp
  | succ p ih => rw [List.range_succ,List.flatMap_append,List.length_append,ih]; simp [oO,Nat.succ_mul]
 rw [this]; omega
theorem pR (F : List aC) : ∀ k,(lS F k).length = F.length ^ k
 | 0 => rfl
 | k + 1 => by
  rw [lS,Nat.pow_succ,← pR F k]
  generalize lS F k = A
  induction A with
  | nil => simp
  | cons a A ih => rw [List.flatMap_cons,List.length_append,ih]; simp [Nat.succ_mul]; omega
theorem aEa (F : List aC) (k : Nat) : ∀ u ∈ lS F k,u.length = k := fun u hu => by
 rw [mD] at hu
 exact (oL k u hu).1
theorem aAy (d : aO) (v : bO) (hR : gJ w0 h d v) (dg : dC d) : ACall Try.prog w0 87 [.agg (aX v)] h fun y H => aB h H ∧ NS w0 H 1 (nJ w0 H) y (cA d) := by
 refine aY aM aIP mf87_b mf87_g (qE rfl) fun hb ha => aU ?_
 obtain ⟨y1,y2,y3,y4,y5⟩ := hR.ones
 obtain ⟨l1,l2,l3,l4,l5⟩ := hR.lens
 have p1 := dg.p1
 have pe := dg.pe
 have pn := dg.pn
 simp only [go_sem,mf87,aX,y1,y2,y3,y4,y5,l3]
 obtain ⟨K,eK⟩ : ∃ K,K = h ++ [some (Blk.row [v.pl,v.ln,v.pn,v.pe,v.we]),some (Blk.row [AV.nilS])] := ⟨_,rfl⟩
 have k0 : K[h.length]? = some (some (.row [v.pl,v.ln,v.pn,v.pe,v.we])) := by rw [eK]; simp
 have k1 : K[h.length + 1]? = some (some (.row [.nilS])) := by rw [eK]; simp
 have sK : aB h K := eK ▸ aB.refl.app
 rw [← eK]
 refine aR (ACall.vc (first := []) (args := [_]) (aBX d v (hR.sub sK) dg)) ?_
 rintro fv H1 ⟨s1,hF⟩
 obtain ⟨F,eF⟩ : ∃ F,F = fR d := ⟨_,rfl⟩
 have hFl : F.length ≤ 81 := by
  rw [eF,xP]
  have : 2 ^ d.people.length ≤ 2 ^ 4 := Nat.pow_le_pow_right (by omega) pe
  have := Nat.mul_le_mul p1 this
  omega
 rw [← eF] at hF
 have hfl := hF.len
 simp only [go_sem]
 have hR2 : ∀ {A B : Heap} {x : List aC} {c : List AV},aB A B → xH w0 A x c → xH w0 B x c := fun s r => r.sub s
 refine cM (S := Nat × Heap × AV) (F := fun x => [(1,.ptr (.own h.length 0)),(3,x.2.2),(4,fv),(5,.int .i64 x.1)]) (H := fun x => x.2.1) (meas := fun x => d.planes.length - x.1)
  (Inv := fun x => x.1 ≤ d.planes.length ∧ aB H1 x.2.1 ∧ NS w0 x.2.1 1 (xH w0 x.2.1) x.2.2 (lS F x.1))
  (0,H1,.sl (.own (h.length + 1) 0) 1 1 true) ⟨Nat.zero_le _,aB.refl,(OL.one (w0 := w0) (R := xH w0) (es := 1) (x := ([] : List aC)) (f := true) (s1.2 _ _ k1) rfl rfl ⟨.nilS,rfl,⟨[],rfl,.inl ⟨rfl,rfl⟩,fun j x c a _ => by simp at a⟩,fun _ => rfl⟩).ns hR2⟩ rfl rfl ?_
 rintro ⟨i,G0,ov⟩ ⟨hi,sG0,hO⟩ ih
 simp only at hi sG0 hO ih
 refine aE aM aLc [1,3,4,5] L87_2.eq_1 ?_
 have g0 := sG0.2 _ _ (s1.2 _ _ k0)
 have g0L := xL g0
 rcases Nat.lt_or_ge i d.planes.length with hil | hil
 · have f0 : (i : Int) < d.planes.length := by omega
   obtain ⟨A,eA⟩ : ∃ A,A = lS F i := ⟨_,rfl⟩
   rw [← eA] at hO
   have hAl : A.length ≤ 81 := by
    rw [eA,pR]
    have : i ≤ 1 := by omega
    rcases (show i = 0 ∨ i = 1 by omega) with rfl | rfl
    · simp
    · simpa using hFl
   have hol := hO.len
   simp only [go_sem,g0,g0L,l3,f0]
   refine cM (S := Nat × Heap × AV × Nat × List (List aC)) (F := fun x => [(1,.ptr (.own h.length 0)),(3,ov),(4,fv),(5,.int .i64 i),(6,x.2.2.1),(7,.int .i64 x.1)]) (H := fun x => x.2.1) (meas := fun x => A.length - x.1)
    (Inv := fun x => x.1 ≤ A.length ∧ GN w0 G0 (xH w0) x.2.1 1 x.2.2.2.1 x.2.2.1 x.2.2.2.2 ∧ x.2.2.2.2 = (A.take x.1).flatMap fun u => F.map fun x => u ++ [x])
    (0,G0,.nilS,0,[]) ⟨Nat.zero_le _,GN.nil aB.refl,by simp⟩ rfl rfl ?_
   rintro ⟨k,G1,nv,io,l⟩ ⟨hk,gn,hl⟩ ihk
   simp only at hk gn hl ihk
   refine aE aM aLd [1,3,4,5,6,7] L87_1.eq_1 ?_
   rcases Nat.lt_or_ge k A.length with hkl | hkl
   · have f1 : (k : Int) < A.length := by omega
     obtain ⟨p,c,q1,q2,uv,rfl,hu⟩ := NS.at_ hO hkl
     have hul : A[k].length = i := aEa F i _ (eA ▸ qG hkl)
     have hll : l.length = k * F.length := by
      rw [hl]
      have : ∀ B : List (List aC),(B.flatMap fun u => F.map fun x => u ++ [x]).length = B.length * F.length := fun B => by
       induction B with
       | nil => simp
       | cons b B ih => rw [List.flatMap_cons,List.length_append,ih]; simp [Nat.succ_mul]; omega
      rw [this,List.length_take,Nat.min_eq_left (by omega)]
     have hkF : k * F.length ≤ 81 * 81 := Nat.mul_le_mul (by omega) hFl
     simp only [go_sem,hol,f1]
     refine cM (S := Nat × Heap × AV × Nat × List (List aC)) (F := fun x => [(1,.ptr (.own h.length 0)),(3,ov),(4,fv),(5,.int .i64 i),(6,x.2.2.1),(7,.int .i64 k),(8,.int .i64 x.1)]) (H := fun x => x.2.1) (meas := fun x => F.length - x.1)
      (Inv := fun x => x.1 ≤ F.length ∧ GN w0 G0 (xH w0) x.2.1 1 x.2.2.2.1 x.2.2.1 x.2.2.2.2 ∧ x.2.2.2.2 = l ++ (F.take x.1).map fun x => A[k] ++ [x])
      (0,G1,nv,io,l) ⟨Nat.zero_le _,gn,by simp⟩ rfl rfl ?_
     clear gn
     rintro ⟨j,G,ov',io',l'⟩ ⟨hj,gn,hl'⟩ ihj
     simp only at hj gn hl' ihj
     refine aE aM aLe [1,3,4,5,6,7,8] L87_0.eq_1 ?_
     have sG : aB G0 G := gn.sub.trans kZ
     rcases Nat.lt_or_ge j F.length with hjl | hjl
     · have f2 : (j : Int) < F.length := by omega
       obtain ⟨q,fl,z1,z2,hfr⟩ := NS.at_ hF hjl
       have hlen' : l'.length = k * F.length + j := by rw [hl',List.length_append,List.length_map,List.length_take,hll]; omega
       obtain ⟨rows,r1,r2,r3⟩ := hu.n
       have hrow : ∀ c ∈ rows,c.length = 2 ∧ c.all Ab.one = true := fun c hc => by
        obtain ⟨m,hm,e⟩ := List.mem_iff_getElem.1 hc
        have e1 : rows[m]? = some c := by rw [qA hm,e]
        have := r3 m _ c (qA (show m < A[k].length by omega)) e1
        exact ⟨this.len,this.one⟩
       have hflat : rows.flatten.length = A[k].length * 2 := by
        rw [← r1]
        clear r1 r2 r3
        induction rows with
        | nil => simp
        | cons c rows ih => rw [List.flatten_cons,List.length_append,ih fun d hd => hrow d (by simp [hd]),(hrow c (by simp)).1,List.length_cons]; omega
       simp only [go_sem,hfl,f2]
       refine aFh (p := p) (q := q) (uv := uv) (fl := fl) (cells := rows.flatten) (n := A[k].length) (kn := k) (jn := j) (av := ov) (fv := fv) (ov := ov') rfl rfl rfl rfl rfl q1 (sG.rd (vK (by simpa using q2 []) rfl)) z1 ((sG0.trans sG).rdn (by simpa using z2 [])) hfr.len hfr.one (by omega) ?_ ?_
       · by_cases hz : A[k] = []
         · have hr0 : rows = [] := List.eq_nil_of_length_eq_zero (by rw [r1,hz]; rfl)
           exact .inl ⟨by rw [hz]; rfl,hu.e hz,by rw [hr0]; rfl⟩
         · refine .inr ⟨fun e => hz (List.eq_nil_of_length_eq_zero e),hflat,fun H s => ?_⟩
           have := aBh (b := 32) (r2.sub (sG.trans s)) (fun e => hz (List.eq_nil_of_length_eq_zero (by rw [← r1,e]; rfl))) (fun c hc => (hrow c hc).2) (by omega) (by omega)
           rw [r1] at this
           exact this
       · intro H c e s hc x z
         have hfl2 := hfr.len
         have hx : xH w0 (Ab.mk l'.length io' H) (A[k] ++ [F[j]]) [.sl (.own c 0) (A[k].length + 1) 2 false] := by
          have hcm : (Ab.mk l'.length io' H)[c]? = some (some (.row (rows.flatten ++ fl))) := by
           unfold Ab.mk
           split
           · exact x
           · rename_i hne
             have := gn.lt hne
             rw [qB (by omega)]; exact x
          have hs : aB G0 (Ab.mk l'.length io' H) := gn.sub.trans (kM s)
          refine ⟨_,rfl,⟨rows ++ [fl],by simp [r1],?_,fun m y d hy hd => ?_⟩,fun e => by simp at e⟩
          · have := eP (w0 := w0) (full := false) (io := c) (H := Ab.mk l'.length io' H) (rows := rows ++ [fl]) (es := 2) (by simpa using hcm) (fun d hd => by
             rcases List.mem_append.1 hd with hd | hd
             · exact (hrow d hd).1
             · simp only [List.mem_singleton] at hd; subst hd; exact hfl2)
            simpa [r1] using this
          · by_cases hm : m < A[k].length
            · rw [qH hm] at hy
              rw [qH (by omega)] at hd
              exact (r3 m y d hy hd).sub hs
            · have hm2 : m = A[k].length := by have := aN hy; simp at this; omega
              subst hm2
              rw [qI (Nat.le_refl _),Nat.sub_self] at hy
              rw [qI (by omega),r1,Nat.sub_self] at hd
              simp at hy hd
              subst hy; subst hd
              exact hfr.sub (sG0.trans hs)
         obtain ⟨H',a1,a2,a3,a4⟩ := (gn.sub' s hR2).push (b := 24) (f := true) hR2 z rfl (by simp [Ab.one]) hx (by omega) (by omega)
         refine ⟨_,H',a1,fun fr hkp h6 => ⟨[(1,.ptr (.own h.length 0)),(3,ov),(4,fv),(5,.int .i64 i),(6,.sl (.own H.length 0) (l'.length + 1) 1 false),(7,.int .i64 k),(8,.int .i64 j)],?_,?_⟩⟩
         · exact Wk.cons (Wk.cons (Wk.cons (Wk.cons (Wk.cons (Wk.cons (Wk.cons Wk.nil (hkp 8 (by omega) (by omega))) (hkp 7 (by omega) (by omega))) h6) (hkp 5 (by omega) (by omega))) (hkp 4 (by omega) (by omega))) (hkp 3 (by omega) (by omega))) (hkp 1 (by omega) (by omega))
         · simp only [go_sem]
           have := ihj (j + 1,H',_,H.length,l' ++ [A[k] ++ [F[j]]]) ⟨by simp only; omega,a2,by simp only; rw [hl',List.take_add_one,qA hjl,List.map_append]; simp⟩ (by simp only; omega)
           exact ⟨(by unfold I64; omega),by simpa using this⟩
     · obtain rfl : j = F.length := by omega
       have f2 : ¬ (F.length : Int) < F.length := by omega
       simp only [go_sem,hfl,f2]
       rw [List.take_length] at hl'
       have := ihk (k + 1,G,ov',io',l') ⟨by simp only; omega,gn,by simp only; rw [hl',hl,List.take_add_one,qA hkl,List.flatMap_append]; simp⟩ (by simp only; omega)
       exact ⟨(by unfold I64; omega),by simpa using this⟩
   · obtain rfl : k = A.length := by omega
     have f1 : ¬ (A.length : Int) < A.length := by omega
     simp only [go_sem,hol,f1]
     rw [List.take_length] at hl
     have := ih (i + 1,G1,nv) ⟨by simp only; omega,sG0.trans (gn.sub.trans kZ),by
      have := gn.ns hR2 (by omega)
      rw [hl,eA] at this
      exact this⟩ (by simp only; omega)
     exact ⟨(by unfold I64; omega),by simpa using this⟩
 · obtain rfl : i = d.planes.length := by omega
   have f0 : ¬ (d.planes.length : Int) < d.planes.length := by omega
   simp only [go_sem,g0,g0L,l3,f0]
   refine ⟨sK.trans (s1.trans sG0),?_⟩
   rw [cA,← eF]
   exact NS.mono hO aB.refl fun x c ⟨y,e,r⟩ => ⟨y,e,r.n⟩
def kE (l : List Nat) : List Int := l.map fun (i : Nat) => (i : Int)
theorem fG {l : List Nat} : (kE l).length = l.length := by simp [kE]
theorem rZ {l : List Nat} {j : Nat} (hj : j < l.length) : (kE l)[j]'(by rw [fG]; exact hj) = (l[j] : Int) := by simp [kE]
theorem rall_c (d : aO) (v : bO) (hR : gJ w0 h d v) : ACall Try.prog w0 88 [.agg (aX v)] h fun y H => aB h H ∧ SlI w0 H y (kE (List.range d.weathers.length)) := by
 refine aY aM aIO mf88_b mf88_g (qE rfl) fun hb ha => aU ?_
 obtain ⟨y1,y2,y3,y4,y5⟩ := hR.ones
 obtain ⟨l1,l2,l3,l4,l5⟩ := hR.lens
 have hn := hR.l5
 simp only [go_sem,mf88,aX,y1,y2,y3,y4,y5]
 obtain ⟨K,eK⟩ : ∃ K,K = h ++ [some (Blk.row [v.pl,v.ln,v.pn,v.pe,v.we])] := ⟨_,rfl⟩
 have k0 : K[h.length]? = some (some (.row [v.pl,v.ln,v.pn,v.pe,v.we])) := by rw [eK]; simp
 have sK : aB h K := eK ▸ aB.refl.app
 rw [← eK]
 refine cM (S := Nat × Heap × AV) (F := fun x => [(1,.ptr (.own h.length 0)),(3,x.2.2),(4,.int .i64 x.1)]) (H := fun x => x.2.1) (meas := fun x => d.weathers.length - x.1)
  (Inv := fun x => x.1 ≤ d.weathers.length ∧ Gro K x.2.1 1 x.1 x.2.2 (aS (kE (List.range x.1)))) (0,K,.nilS) ⟨Nat.zero_le _,Gro.nil aB.refl⟩ rfl rfl ?_
 rintro ⟨j,H,ov⟩ ⟨hj,g⟩ ih
 simp only at hj g ih
 refine aE aM aLb [1,3,4] L88_0.eq_1 ?_
 have gH := g.sub.2 _ _ k0
 have gL := xL gH
 rcases Nat.lt_or_ge j d.weathers.length with hjl | hjl
 · have f0 : (j : Int) < d.weathers.length := by omega
   obtain ⟨G,eG,gG⟩ := (g.app (L := [some (.row [.int .i64 (j : Int)])])).more (w0 := w0) (b := 8) (k := H.length) (x := [.int .i64 (j : Int)]) (f := true) (by simp) rfl rfl (by omega) (by omega)
   simp only [go_sem,gH,gL,l5,f0,eG]
   have := ih (j + 1,G,_) ⟨by simp only; omega,by simp only; rw [List.range_succ]; simpa [kE,aS] using gG⟩ (by simp only; omega)
   exact ⟨(by unfold I64; omega),by simpa using this⟩
 · obtain rfl : j = d.weathers.length := by omega
   have f0 : ¬ (d.weathers.length : Int) < d.weathers.length := by omega
   simp only [go_sem,gH,gL,l5,f0]
   exact ⟨sK.trans g.sub,g.sli (by simp [kE])⟩
theorem wE {d : aO} {slot : Nat} : ∀ (r pre : List Nat),(iA d slot r pre).length ≤ r.length
 | [],pre => Nat.le_refl _
 | w :: r,pre => by
  have := wE (d := d) (slot := slot) r (pre ++ [w])
  rw [iA]
  split <;> simp <;> omega
theorem aFH (d : aO) (v : bO) (set : List Nat) (sv : AV) (s : Nat) (hR : gJ w0 h d v) (hS : SlI w0 h sv (kE set)) (hset : ∀ w ∈ set,w < d.weathers.length) (hsl : set.length ≤ 1000) (hs : ∀ i,i < d.weathers.length → s < (fJ d i).length) (hs1 : s < 1000000) :
 ACall Try.prog w0 128 [.agg (aX v),sv,.int .i64 (s : Int)] h fun y H => aB h H ∧ SlI w0 H y (kE (qN d set s)) := by
 refine aY aM aGj aJY aJX (qE rfl) fun hb ha => aU ?_
 obtain ⟨y1,y2,y3,y4,y5⟩ := hR.ones
 obtain ⟨lsv,q,qi,qr⟩ := SlI.use hS
 rw [fG] at lsv qi
 simp only [go_sem,mf128,aX,y1,y2,y3,y4,y5]
 obtain ⟨K,eK⟩ : ∃ K,K = h ++ [some (Blk.row [v.pl,v.ln,v.pn,v.pe,v.we])] := ⟨_,rfl⟩
 have k0 : K[h.length]? = some (some (.row [v.pl,v.ln,v.pn,v.pe,v.we])) := by rw [eK]; simp
 have sK : aB h K := eK ▸ aB.refl.app
 rw [← eK]
 refine cM (S := Nat × Heap × AV × List Nat) (F := fun x => [(1,sv),(2,.int .i64 (s : Int)),(3,.ptr (.own h.length 0)),(7,x.2.2.1),(8,.int .i64 x.1)]) (H := fun x => x.2.1) (meas := fun x => set.length - x.1)
  (Inv := fun x => x.1 ≤ set.length ∧ Gro K x.2.1 1 x.2.2.2.length x.2.2.1 (aS (kE x.2.2.2)) ∧ x.2.2.2 ++ iA d s (set.drop x.1) (set.take x.1) = qN d set s ∧ x.2.2.2.length ≤ x.1) (0,K,.nilS,[]) ⟨Nat.zero_le _,Gro.nil aB.refl,rfl,Nat.zero_le _⟩ rfl rfl ?_
 rintro ⟨i,H,ov,out⟩ ⟨hi,g,ho,hol⟩ ih
 simp only at hi g ho hol ih
 refine aE aM aHX [1,2,3,7,8] L128_1.eq_1 ?_
 have gH := g.sub.2 _ _ k0
 have gL := xL gH
 have sH := sK.trans g.sub
 have rH : ∀ j (hj : j < set.length) L,rd w0 (H ++ L) (q.add j) = some (.int .i64 (set[j] : Int)) := fun j hj L => by
  have := qr j (by rw [fG]; exact hj) []
  rw [List.append_nil,rZ hj] at this
  exact (sH.app (L := L)).rd this
 have rH' : ∀ j (hj : j < set.length),rd w0 H (q.add j) = some (.int .i64 (set[j] : Int)) := fun j hj => by simpa using rH j hj []
 rcases Nat.lt_or_ge i set.length with hil | hil
 · have f0 : (i : Int) < set.length := by omega
   have hiw := hset _ (qG hil)
   simp only [go_sem,lsv,f0]
   refine cU (S := Unit) (fun k _ => [(1,sv),(2,.int .i64 (s : Int)),(3,.ptr (.own h.length 0)),(7,ov),(8,.int .i64 i),(9,.bool (!(set.take k).any fun w => aZ d w set[i] s)),(10,.int .i64 k)]) (fun _ _ => H) (fun k _ => k ≤ i) i () (Nat.zero_le _) rfl rfl (fun k _ hk _ ih2 => ?_) (fun _ _ => ?_)
   · refine aE aM aBs [1,2,3,7,8,9,10] L128_0.eq_1 ?_
     have f1 : (k : Int) < i := by omega
     have hkl : k < set.length := by omega
     have hnext : (set.take (k + 1)).any (fun w => aZ d w set[i] s) = ((set.take k).any (fun w => aZ d w set[i] s) || aZ d set[k] set[i] s) := by
      rw [List.take_add_one,qA hkl,List.any_append]; simp
     have := ih2 () (by omega)
     rw [hnext] at this
     cases e : (set.take k).any fun w => aZ d w set[i] s with
     | true =>
      rw [e] at this
      simp only [go_sem,f1,e]
      exact ⟨(by unfold I64; omega),this⟩
     | false =>
      rw [e] at this
      have q1 := qi k hkl
      have q2 := qi i hil
      have r1 := rH k hkl
      have r2 := rH i hil
      have r1' := rH' k hkl
      have r2' := rH' i hil
      simp only [go_sem,f1,e,gH,gL,y1,y2,y3,y4,y5,q1,q2,r1,r2,r1',r2']
      refine aF (zM d v set[k] set[i] s (hR.toDayS.sub sH) (hset _ (qG hkl)) hiw (hs _ (hset _ (qG hkl))) (hs _ hiw) hs1).v ?_
      simp only [go_sem]
      exact ⟨(by unfold I64; omega),this⟩
   · refine aE aM aBs [1,2,3,7,8,9,10] L128_0.eq_1 ?_
     have f1 : ¬ (i : Int) < i := by omega
     have hst : iA d s (set.drop i) (set.take i) = if (set.take i).any (fun v => aZ d v set[i] s) then iA d s (set.drop (i + 1)) (set.take (i + 1)) else set[i] :: iA d s (set.drop (i + 1)) (set.take (i + 1)) := by
      rw [List.drop_eq_getElem_cons hil,iA,List.take_add_one,qA hil]; rfl
     rw [hst] at ho
     cases e : (set.take i).any fun w => aZ d w set[i] s with
     | true =>
      rw [e,if_pos rfl] at ho
      simp only [go_sem,f1]
      exact ⟨(by unfold I64; omega),by simpa using ih (i + 1,H,ov,out) ⟨by simp only; omega,g,ho,by simp only; omega⟩ (by simp only; omega)⟩
     | false =>
      rw [e,if_neg (by simp)] at ho
      have q2 := qi i hil
      have r2 := rH i hil
      have r2' := rH' i hil
      obtain ⟨G,eG,gG⟩ := (g.app (L := [some (.row [.int .i64 (set[i] : Int)])])).more (w0 := w0) (b := 8) (k := H.length) (x := [.int .i64 (set[i] : Int)]) (f := true) (by simp) rfl rfl (by omega) (by omega)
      simp only [go_sem,f1,q2,r2,r2',eG]
      have := ih (i + 1,G,_,out ++ [set[i]]) ⟨by simp only; omega,by simpa [kE,aS] using gG,by simpa using ho,by simp; omega⟩ (by simp only; omega)
      exact ⟨(by unfold I64; omega),by simpa using this⟩
 · obtain rfl : i = set.length := by omega
   have f0 : ¬ (set.length : Int) < set.length := by omega
   simp only [go_sem,lsv,f0]
   rw [List.drop_length,iA,List.append_nil] at ho
   exact ⟨sH,by rw [← ho]; exact g.sli fG.symm⟩
theorem aBM {d : aO} (dg : dC d) : (cA d).length ≤ 6561 := by
 rw [cA,pR,xP]
 have h1 : 2 ^ d.people.length ≤ 2 ^ 4 := Nat.pow_le_pow_right (by omega) dg.pe
 have h2 := Nat.mul_le_mul dg.p1 h1
 have h3 : 1 + d.places.length * 2 ^ d.people.length ≤ 81 := by omega
 have h4 : (1 + d.places.length * 2 ^ d.people.length) ^ d.planes.length ≤ 81 ^ d.planes.length := Nat.pow_le_pow_left h3 _
 have h5 : 81 ^ d.planes.length ≤ 81 ^ 2 := Nat.pow_le_pow_right (by omega) dg.pn
 omega
structure SrR (w0 : World) (h : Heap) (d : aO) (v : bO) (uv : AV) (set : List Nat) (cv : AV) (s : aD) (sv : StV) (t : Nat) : Prop where
 hR : gJ w0 h d v
 hU : NS w0 h 1 (nJ w0 h) uv (cA d)
 hC : SlI w0 h cv (kE set)
 hset : ∀ w ∈ set,w < d.weathers.length
 hn : set.length ≤ 6
 hne : set ≠ []
 hs : StS w0 h s sv
 st : StN d t s
theorem nJ.sub {A B : Heap} {x : List aC} {c : List AV} (s : aB A B) (r : nJ w0 A x c) : nJ w0 B x c := by
 obtain ⟨y,e,r⟩ := r
 exact ⟨y,e,r.sub s⟩
theorem SrR.sub {H : Heap} {d : aO} {v : bO} {uv cv : AV} {set : List Nat} {s : aD} {sv : StV} {t : Nat} (a : SrR w0 h d v uv set cv s sv t) (k : aB h H) : SrR w0 H d v uv set cv s sv t :=
 ⟨a.hR.sub k,NS.mono a.hU k fun _ _ r => r.sub k,Sl.sub a.hC k,a.hset,a.hn,a.hne,a.hs.sub k,a.st⟩
def AftC (w0 : World) (d : aO) (k : Nat) : Prop := ∀ (h : Heap) (v : bO) (uv cv : AV) (set : List Nat) (s : aD) (sv : StV) (t : Nat),t + k = aJ d → SrR w0 h d v uv set cv s sv t →
 ACall Try.prog w0 86 [.agg (aX v),uv,.agg (stC sv),.int .i64 (t : Int),cv] h fun y H => aB h H ∧ y = .int .i64 (cQ d k set s)
theorem aCP (d : aO) (dg : dC d) (k : Nat) (IH : AftC w0 d k) (v : bO) (uv cv : AV) (set : List Nat) (s : aD) (sv : StV) (t : Nat) (hk : t + (k + 1) = aJ d) (a : SrR w0 h d v uv set cv s sv t) :
 ACall Try.prog w0 89 [.agg (aX v),uv,.agg (stC sv),.int .i64 (t : Int),cv] h fun y H => aB h H ∧ ∃ x,y = .tup [.int .i64 (gP d (cQ d k set) t set s).1,x] ∧ ∀ A,aB A h → NS w0 A 1 (nJ w0 A) uv (cA d) → UnV w0 A x (gP d (cQ d k set) t set s).2 := by
 refine aY aM aIN mf89_b mf89_g (qE rfl) fun hb ha => aU ?_
 obtain ⟨y1,y2,y3,y4,y5⟩ := a.hR.ones
 obtain ⟨l1,l2,l3,l4,l5⟩ := a.hR.lens
 obtain ⟨z1,z2,z3⟩ := a.hs.ones
 have s1 := dg.s1
 have ulen := aBM dg
 simp only [go_sem,mf89,aX,y1,y2,y3,y4,y5,stC,z1,z2,z3]
 obtain ⟨K,eK⟩ : ∃ K,K = h ++ [some (Blk.row [v.pl,v.ln,v.pn,v.pe,v.we]),some (Blk.row [sv.pl,sv.le,sv.pe])] := ⟨_,rfl⟩
 have sK : aB h K := eK ▸ aB.refl.app
 have k0 : K[h.length]? = some (some (.row [v.pl,v.ln,v.pn,v.pe,v.we])) := by rw [eK]; simp
 have k1 : K[h.length + 1]? = some (some (.row [sv.pl,sv.le,sv.pe])) := by rw [eK]; simp
 rw [← eK]
 have aK := a.sub sK
 have hset0 : 0 < set.length := List.length_pos_iff.2 a.hne
 have hw0 : set.headD 0 < d.weathers.length := by
  cases set with
  | nil => simp at hset0
  | cons x l => exact a.hset _ (by simp)
 have hcv : ∃ p : Pl,bT 1 cv (some 0) = some (.ptr p) ∧ ∀ H,aB K H → rd w0 H p = some (.int .i64 (set.headD 0 : Nat)) := by
  obtain ⟨_,q,qi,qr⟩ := SlI.use aK.hC
  refine ⟨_,qi 0 (by rw [fG]; exact hset0),fun H s => ?_⟩
  have := qr 0 (by rw [fG]; exact hset0) []
  rw [List.append_nil,rZ hset0] at this
  have e : set.headD 0 = set[0] := by cases set with
   | nil => simp at hset0
   | cons x l => rfl
  rw [e]
  exact s.rd this
 obtain ⟨cp,c1,c2⟩ := hcv
 obtain ⟨wp,wx,w1,w2,w3⟩ := aK.hR.weathers.at_ hw0
 have hwl : d.weathers[set.headD 0].length = aJ d := (dg.rows _ (qG hw0)).1
 obtain ⟨_,tq,ti,tr⟩ := SlI.use w3
 have ti := ti t (by omega)
 have hop : d.weathers[set.headD 0][t]'(by omega) = wAt d (set.headD 0) t := by rw [wAt,aI hw0,aI (by omega)]
 obtain ⟨op,eop⟩ : ∃ op,op = wAt d (set.headD 0) t := ⟨_,rfl⟩
 have hopb : 0 ≤ op ∧ op < 2 ^ 50 := by
  have := (dg.rows _ (qG hw0)).2 (d.weathers[set.headD 0][t]'(by omega)) (qG _)
  rw [hop,← eop] at this
  omega
 refine cM (S := Nat × Heap × AV × (Int × List aC)) (F := fun x => [(1,uv),(3,.int .i64 (t : Int)),(4,cv),(5,.ptr (.own h.length 0)),(7,.ptr (.own (h.length + 1) 0)),(12,.int .i64 x.2.2.2.1),(13,x.2.2.1),(14,.int .i64 x.1)]) (H := fun x => x.2.1) (meas := fun x => (cA d).length - x.1)
  (Inv := fun x => x.1 ≤ (cA d).length ∧ aB K x.2.1 ∧ (∀ A,aB A h → NS w0 A 1 (nJ w0 A) uv (cA d) → UnV w0 A x.2.2.1 x.2.2.2.2) ∧ ((cA d).drop x.1).foldl (pJ d (cQ d k set) s op) x.2.2.2 = gP d (cQ d k set) t set s)
  (0,K,.nilS,(-1,[])) ⟨Nat.zero_le _,aB.refl,fun _ _ _ => NS.nil,by rw [eop]; rfl⟩ rfl rfl ?_
 rintro ⟨i,H,xv,acc⟩ ⟨hi,sH,hx,hf⟩ ih
 simp only at hi sH hx hf ih
 refine aE aM aLa [1,3,4,5,7,12,13,14] L89_0.eq_1 ?_
 have lu := a.hU.len
 have j0 := sH.2 _ _ k0
 have j1 := sH.2 _ _ k1
 have j0L := xL j0
 have j1L := xL j1
 rcases Nat.lt_or_ge i (cA d).length with hil | hil
 · have f0 : (i : Int) < (cA d).length := by omega
   obtain ⟨p,y,u1,u2,u2',hu⟩ := aFg aK.hU hil
   have hany : ∀ A,aB A h → NS w0 A 1 (nJ w0 A) uv (cA d) → UnV w0 A y (cA d)[i] := fun A sA hA => by
    obtain ⟨p',y',v1,_,v2,v3⟩ := aFg hA hil
    rw [u1] at v1
    cases v1
    have := (sA.trans sK).rd v2
    rw [u2'] at this
    cases this
    exact v3
   have uk : kI d (cA d)[i] := qW (qG hil)
   have c2H := c2 H sH
   have c2L : ∀ L,rd w0 (H ++ L) cp = some (.int .i64 (set.headD 0 : Nat)) := fun L => c2 _ sH.app
   have w2H : rd w0 H wp = some wx := sH.rd (by simpa using w2 [])
   have w2L : ∀ L,rd w0 (H ++ L) wp = some wx := fun L => (sH.app (L := L)).rd (by simpa using w2 [])
   have trH : rd w0 H (tq.add t) = some (.int .i64 op) := by
    have := tr t (by omega) []
    rw [List.append_nil,hop,← eop] at this
    exact sH.rd this
   have trL : ∀ L,rd w0 (H ++ L) (tq.add t) = some (.int .i64 op) := fun L => aB.refl.app.rd trH
   have u2H : rd w0 H p = some y := sH.rd u2'
   have u2L : ∀ L,rd w0 (H ++ L) p = some y := fun L => aB.refl.app.rd u2H
   simp only [go_sem,lu,f0]
   refine yJ aM D89_0.eq_1 (by kernel_rfl) ?_
   simp only [go_sem,j0,j0L,j1,j1L,y1,y2,y3,y4,y5,z1,z2,z3,c1,c2H,c2L,w1,w2H,w2L,ti,trH,trL,u1,u2H,u2L]
   refine aR (ACall.vc (first := []) (args := [_,_,_,_]) (aFG d v s sv op (cA d)[i] y (aK.hR.sub sH) (aK.hs.sub sH) (hu.sub sH) dg (aK.st.ok (by omega)) uk hopb.1 hopb.2)) ?_
   rintro _ H2 ⟨s2,nv,rfl,hst,_⟩
   obtain ⟨n1,n2,n3⟩ := hst.ones
   obtain ⟨H3,eH3⟩ : ∃ H3,H3 = H2 ++ [some (Blk.row [nv.pl,nv.le,nv.pe])] := ⟨_,rfl⟩
   have s3 : aB H2 H3 := eH3 ▸ aB.refl.app
   have g3 : H3[H2.length]? = some (some (.row [nv.pl,nv.le,nv.pe])) := by rw [eH3]; simp
   have sKH3 : aB K H3 := sH.trans (s2.trans s3)
   have hnext : ((cA d).drop (i + 1)).foldl (pJ d (cQ d k set) s op) (pJ d (cQ d k set) s op acc (cA d)[i]) = gP d (cQ d k set) t set s := by
    rw [← hf,List.drop_eq_getElem_cons hil,List.foldl_cons]
   have hfe := uP (s := s) (op := op) uk dg.pe
   simp only [go_sem,n1,n2,n3]
   rw [← eH3]
   by_cases hone : (gN d s op (cA d)[i]).2.1 = 1
   · have hnb : (gN d s op (cA d)[i]).2.1 = 1 := hone
     have g3L := xL g3
     have m0 := sKH3.2 _ _ k0
     have m0L := xL m0
     have stn : StN d (t + 1) (gN d s op (cA d)[i]).1 := by rw [hfe]; exact zU uk.len (uk.fl dg.pe) aK.st
     have b : SrR w0 H3 d v uv set cv (gN d s op (cA d)[i]).1 nv (t + 1) := by
      have := aK.sub sKH3
      exact ⟨this.hR,this.hU,this.hC,this.hset,this.hn,this.hne,hst.sub s3,stn⟩
     have hC := IH H3 v uv cv set _ nv (t + 1) (by omega) b
     have et : ((t : Int) + 1) = ((t + 1 : Nat) : Int) := by omega
     simp only [go_sem,hnb,m0,m0L,g3,g3L,y1,y2,y3,y4,y5,n1,n2,n3]
     refine ⟨(by unfold I64; omega),?_⟩
     rw [et]
     refine aR (ACall.vc (first := []) (args := [_,_,_,_,_]) hC) ?_
     rintro _ H4 ⟨s4,rfl⟩
     obtain ⟨C,eC⟩ : ∃ C,C = cQ d k set (gN d s op (cA d)[i]).1 := ⟨_,rfl⟩
     rw [← eC]
     have hst2 : pJ d (cQ d k set) s op acc (cA d)[i] = if acc.1 < 0 || decide (C < acc.1) then (C,(cA d)[i]) else acc := by rw [pJ,if_pos hone,← eC]
     have sH4 : aB H H4 := s2.trans (s3.trans s4)
     have u2F : rd w0 H4 p = some y := sH4.rd u2H
     have u2FL : ∀ L,rd w0 (H4 ++ L) p = some y := fun L => aB.refl.app.rd u2F
     rw [hst2] at hnext
     by_cases e1 : acc.1 < 0
     · rw [if_pos (by simp [e1])] at hnext
       simp only [go_sem,e1,u1,u2F,u2FL]
       have := ih (i + 1,H4,y,(C,(cA d)[i])) ⟨by simp only; omega,sH.trans sH4,hany,hnext⟩ (by simp only; omega)
       exact ⟨(by unfold I64; omega),by simpa using this⟩
     · by_cases e2 : C < acc.1
       · rw [if_pos (by simp [e2])] at hnext
         simp only [go_sem,e1,e2,u1,u2F,u2FL]
         have := ih (i + 1,H4,y,(C,(cA d)[i])) ⟨by simp only; omega,sH.trans sH4,hany,hnext⟩ (by simp only; omega)
         exact ⟨(by unfold I64; omega),by simpa using this⟩
       · rw [if_neg (by simp [e1,e2])] at hnext
         simp only [go_sem,e1,e2]
         have := ih (i + 1,H4,xv,acc) ⟨by simp only; omega,sH.trans sH4,hx,hnext⟩ (by simp only; omega)
         exact ⟨(by unfold I64; omega),by simpa using this⟩
   · have hst2 : pJ d (cQ d k set) s op acc (cA d)[i] = acc := by rw [pJ,if_neg hone]
     rw [hst2] at hnext
     simp only [go_sem,hone]
     have := ih (i + 1,H3,xv,acc) ⟨by simp only; omega,sKH3,hx,hnext⟩ (by simp only; omega)
     exact ⟨(by unfold I64; omega),by simpa using this⟩
 · obtain rfl : i = (cA d).length := by omega
   have f0 : ¬ ((cA d).length : Int) < (cA d).length := by omega
   simp only [go_sem,lu,f0]
   rw [List.drop_length,List.foldl_nil] at hf
   subst hf
   exact ⟨sK.trans sH,xv,rfl,hx⟩
theorem aAC (d : aO) (dg : dC d) : ∀ k,AftC w0 d k := by
 intro k
 induction k with
 | zero =>
  intro h v uv cv set s sv t hk a
  refine aY aM aCU aFY aFX (qE rfl) fun hb ha => aU ?_
  obtain ⟨y1,y2,y3,y4,y5⟩ := a.hR.ones
  obtain ⟨z1,z2,z3⟩ := a.hs.ones
  have s1 := dg.s1
  have w0' := dg.w0
  simp only [go_sem,mf86,aX,y1,y2,y3,y4,y5,stC,z1,z2,z3]
  refine aF (rC d v (a.hR.toDayS.sub aB.refl.app) (List.length_pos_iff.1 dg.w0)).v ?_
  have f0 : (t : Int) = (aJ d : Nat) := by omega
  simp only [go_sem,f0,y1,y2,y3,y4,y5,z1,z2,z3]
  refine aF (aIB (a.hR.sub aB.refl.app) (a.hs.sub aB.refl.app) dg (a.st.ok (by omega)) a.st.pat).v ?_
  simp only [go_sem]
  exact ⟨aB.refl.app,rfl⟩
 | succ k IH =>
  intro h v uv cv set s sv t hk a
  refine aY aM aCU aFY aFX (qE rfl) fun hb ha => aU ?_
  obtain ⟨y1,y2,y3,y4,y5⟩ := a.hR.ones
  obtain ⟨z1,z2,z3⟩ := a.hs.ones
  have s1 := dg.s1
  have ht : aJ d - (k + 1) = t := by omega
  have hws : ∀ i,i < d.weathers.length → t < (fJ d i).length := fun i hi => by
   rw [jK hi,(dg.rows _ (qG hi)).1]; omega
  simp only [go_sem,mf86,aX,y1,y2,y3,y4,y5,stC,z1,z2,z3]
  obtain ⟨K,eK⟩ : ∃ K,K = h ++ [some (Blk.row [v.pl,v.ln,v.pn,v.pe,v.we]),some (Blk.row [sv.pl,sv.le,sv.pe])] := ⟨_,rfl⟩
  have sK : aB h K := eK ▸ aB.refl.app
  have k0 : K[h.length]? = some (some (.row [v.pl,v.ln,v.pn,v.pe,v.we])) := by rw [eK]; simp
  have k1 : K[h.length + 1]? = some (some (.row [sv.pl,sv.le,sv.pe])) := by rw [eK]; simp
  have k0L := xL k0
  rw [← eK]
  have aK := a.sub sK
  refine aF (rC d v aK.hR.toDayS (List.length_pos_iff.1 dg.w0)).v ?_
  have f0 : ¬ (t : Int) = (aJ d : Nat) := by omega
  simp only [go_sem,f0,k0,k0L,y1,y2,y3,y4,y5]
  refine aR (ACall.vc (first := []) (args := [_,_,_]) (aFH d v set cv t aK.hR aK.hC aK.hset (by have := a.hn; omega) hws (by omega))) ?_
  rintro fv H1 ⟨e1,hF⟩
  have aH := aK.sub e1
  obtain ⟨L0,eL0⟩ : ∃ L0,L0 = qN d set t := ⟨_,rfl⟩
  have hL0 : L0.length ≤ set.length := eL0 ▸ wE _ _
  have hL0m : ∀ x ∈ L0,x < d.weathers.length := fun x hx => a.hset x (jI _ _ x (eL0 ▸ hx))
  have hL0s : ∀ x ∈ L0,x ∈ set := fun x hx => jI _ _ x (eL0 ▸ hx)
  rw [← eL0] at hF
  have hn6 := a.hn
  obtain ⟨lf,q,qi,qr⟩ := SlI.use hF
  rw [fG] at lf qi
  obtain ⟨lc,r,ri,rr⟩ := SlI.use aH.hC
  rw [fG] at lc ri
  have h10 := e1.2 _ _ k0
  have h11 := e1.2 _ _ k1
  obtain ⟨B,eB⟩ : ∃ B : Nat → Int,B = fun v => (gP d (cQ d k (set.filter fun w => aZ d v w t)) t (set.filter fun w => aZ d v w t) s).1 := ⟨_,rfl⟩
  have hres : L0.foldl (fun m v => max m (B v)) 0 = cQ d (k + 1) set s := by rw [eB,eL0,cQ,ht]
  simp only [go_sem]
  refine cM (S := Nat × Heap × Int) (F := fun x => [(1,uv),(3,.int .i64 (t : Int)),(4,cv),(5,.ptr (.own h.length 0)),(7,.ptr (.own (h.length + 1) 0)),(11,.int .i64 x.2.2),(12,fv),(13,.int .i64 x.1)]) (H := fun x => x.2.1) (meas := fun x => L0.length - x.1)
   (Inv := fun x => x.1 ≤ L0.length ∧ aB H1 x.2.1 ∧ (L0.drop x.1).foldl (fun m v => max m (B v)) x.2.2 = cQ d (k + 1) set s)
   (0,H1,0) ⟨Nat.zero_le _,aB.refl,hres⟩ rfl rfl ?_
  rintro ⟨i,H,m⟩ ⟨hi,sH,hm⟩ ih
  simp only at hi sH hm ih
  refine aE aM aLf [1,3,4,5,7,11,12,13] L86_1.eq_1 ?_
  rcases Nat.lt_or_ge i L0.length with hil | hil
  · have f1 : (i : Int) < L0.length := by omega
    have hvm := hL0m _ (qG hil)
    simp only [go_sem,lf,f1]
    refine cM (S := Nat × Heap × AV × List Nat) (F := fun x => [(1,uv),(3,.int .i64 (t : Int)),(4,cv),(5,.ptr (.own h.length 0)),(7,.ptr (.own (h.length + 1) 0)),(11,.int .i64 m),(12,fv),(13,.int .i64 i),(14,x.2.2.1),(15,.int .i64 x.1)]) (H := fun x => x.2.1) (meas := fun x => set.length - x.1)
     (Inv := fun x => x.1 ≤ set.length ∧ Gro H x.2.1 1 x.2.2.2.length x.2.2.1 (aS (kE x.2.2.2)) ∧ x.2.2.2 = (set.take x.1).filter fun w => aZ d L0[i] w t)
     (0,H,.nilS,[]) ⟨Nat.zero_le _,Gro.nil aB.refl,rfl⟩ rfl rfl ?_
    rintro ⟨j,G,ov,out⟩ ⟨hj,g,ho⟩ ih2
    simp only at hj g ho ih2
    refine aE aM aLg [1,3,4,5,7,11,12,13,14,15] L86_0.eq_1 ?_
    have sG : aB H1 G := sH.trans g.sub
    have g0 := sG.2 _ _ h10
    have g1 := sG.2 _ _ h11
    have g0L := xL g0
    have g1L := xL g1
    have hol : out.length ≤ j := by
     rw [ho]
     exact Nat.le_trans (List.length_filter_le _ _) (by rw [List.length_take]; omega)
    rcases Nat.lt_or_ge j set.length with hjl | hjl
    · have f2 : (j : Int) < set.length := by omega
      have i1 := qi i hil
      have i2 := ri j hjl
      have r1 : rd w0 G (q.add i) = some (.int .i64 (L0[i] : Int)) := by
       have := qr i (by rw [fG]; exact hil) []
       rw [List.append_nil,rZ hil] at this
       exact sG.rd this
      have r2 : rd w0 G (r.add j) = some (.int .i64 (set[j] : Int)) := by
       have := rr j (by rw [fG]; exact hjl) []
       rw [List.append_nil,rZ hjl] at this
       exact sG.rd this
      have r1L : ∀ L,rd w0 (G ++ L) (q.add i) = some (.int .i64 (L0[i] : Int)) := fun L => aB.refl.app.rd r1
      have r2L : ∀ L,rd w0 (G ++ L) (r.add j) = some (.int .i64 (set[j] : Int)) := fun L => aB.refl.app.rd r2
      have hjm := a.hset _ (qG hjl)
      have hnext : (set.take (j + 1)).filter (fun w => aZ d L0[i] w t) = if aZ d L0[i] set[j] t = true then out ++ [set[j]] else out := by
       rw [List.take_add_one,qA hjl,List.filter_append,← ho,Option.toList_some,List.filter_cons,List.filter_nil]
       split <;> simp
      simp only [go_sem,lc,f2,g0,g0L,y1,y2,y3,y4,y5,i1,i2,r1,r2,r1L,r2L]
      refine aF (zM d v L0[i] set[j] t (aH.hR.toDayS.sub sG) hvm hjm (hws _ hvm) (hws _ hjm) (by omega)).v ?_
      cases e : aZ d L0[i] set[j] t with
      | true =>
       rw [if_pos e] at hnext
       obtain ⟨G2,eG,gG⟩ := (g.app (L := [some (.row [.int .i64 (set[j] : Int)])])).more (w0 := w0) (b := 8) (k := G.length) (x := [.int .i64 (set[j] : Int)]) (f := true) (by simp) rfl rfl (by omega) (by omega)
       simp only [go_sem,i2,r2,r2L,eG]
       have := ih2 (j + 1,G2,_,out ++ [set[j]]) ⟨by simp only; omega,by simpa [kE,aS] using gG,hnext.symm⟩ (by simp only; omega)
       exact ⟨(by unfold I64; omega),by simpa using this⟩
      | false =>
       rw [if_neg (by rw [e]; simp)] at hnext
       simp only [go_sem]
       have := ih2 (j + 1,G,ov,out) ⟨by simp only; omega,g,hnext.symm⟩ (by simp only; omega)
       exact ⟨(by unfold I64; omega),by simpa using this⟩
    · obtain rfl : j = set.length := by omega
      have f2 : ¬ (set.length : Int) < set.length := by omega
      rw [List.take_length] at ho
      have aG := aH.sub sG
      have hout : ∀ w ∈ out,w ∈ set := fun w hw => by rw [ho] at hw; exact (List.mem_filter.1 hw).1
      have hne2 : out ≠ [] := fun e => by
       have h1 : L0[i] ∈ out := by rw [ho]; exact List.mem_filter.2 ⟨hL0s _ (qG hil),pX⟩
       rw [e] at h1; cases h1
      have b : SrR w0 G d v uv out ov s sv t := ⟨aG.hR,aG.hU,g.sli fG.symm,fun w hw => a.hset w (hout w hw),by omega,hne2,aG.hs,aG.st⟩
      have eo : out = set.filter fun w => aZ d L0[i] w t := ho
      simp only [go_sem,lc,f2,g0,g0L,g1,g1L,y1,y2,y3,y4,y5,z1,z2,z3]
      refine aR (ACall.vc (first := []) (args := [_,_,_,_,_]) (aCP d dg k IH v uv ov out s sv t hk b)) ?_
      rintro _ H4 ⟨s4,x,rfl,hx⟩
      have eBi : (gP d (cQ d k out) t out s).1 = B L0[i] := by rw [eB,eo]
      simp only [go_sem,eBi]
      have := ih (i + 1,H4,max m (B L0[i])) ⟨by simp only; omega,sG.trans s4,by simp only; rw [← hm,List.drop_eq_getElem_cons hil,List.foldl_cons]⟩ (by simp only; omega)
      exact ⟨(by unfold I64; omega),by simpa using this⟩
  · obtain rfl : i = L0.length := by omega
    have f1 : ¬ (L0.length : Int) < L0.length := by omega
    rw [List.drop_length,List.foldl_nil] at hm
    simp only [go_sem,lf,f1]
    exact ⟨sK.trans (e1.trans sH),by rw [hm]⟩
section
variable {d : aO}
theorem sN (hB : eE d = true) {w : Nat} (hw : w < d.weathers.length) : ∀ t,t ≤ aJ d → (∃ ws,∀ i,aV ws i = true ↔ i < d.weathers.length ∧ ∀ j,j < t → wAt d i j = wAt d w j) ∧ NC d (fU d w t) ∧ StN d t (fU d w t) ∧ ∀ q,q < t → kI d (eY d w q)
 | 0,_ => ⟨⟨2 ^ d.weathers.length - 1,fun i => ⟨fun h => ⟨by
  refine Classical.byContradiction fun hi => ?_
  rw [dM,Nat.testBit_two_pow_sub_one] at h
  simp at h
  omega,fun j hj => by omega⟩,fun h => uU h.1⟩⟩,(lQ.1 hB).cr,mM (gT hB),fun q hq => by omega⟩
 | t + 1,ht => by
  have dg := gT hB
  obtain ⟨⟨ws,hws⟩,hc,hs,hu⟩ := sN hB hw t (by omega)
  have hbw : aV ws w = true := (hws w).2 ⟨hw,fun _ _ => rfl⟩
  obtain ⟨g,hg,hgw⟩ := (cS (d := d) (ws := ws) (slot := t)).2.1 w hw hbw
  obtain ⟨v,_,_,hv⟩ := (cS (d := d) (ws := ws) (slot := t)).1 g hg
  have h3 := ((hv w).1 hgw).2.2
  have hg2 : ∀ i,aV g i = true ↔ i < d.weathers.length ∧ ∀ j,j < t + 1 → wAt d i j = wAt d w j := fun i => by
   rw [hv i,hws i,← h3]
   constructor
   · rintro ⟨h1,⟨_,h2⟩,h4⟩
     refine ⟨h1,fun j hj => ?_⟩
     rcases Nat.lt_or_ge j t with h | h
     · exact h2 j h
     · obtain rfl : j = t := by omega
       exact h4
   · rintro ⟨h1,h2⟩
     exact ⟨h1,⟨h1,fun j hj => h2 j (by omega)⟩,h2 t (by omega)⟩
  have R : Rel d g ((List.range d.weathers.length).filter fun i => aZ d i w t) (t + 1) := by
   refine ⟨List.filter_congr fun i hi => ?_,fun a b ha hb h1 h2 j hj => by rw [((hg2 a).1 h1).2 j hj,((hg2 b).1 h2).2 j hj]⟩
   have hi := List.mem_range.1 hi
   rw [Bool.eq_iff_iff,oQ dg hi hw (by omega),hg2 i]
   exact ⟨fun h => ⟨hi,fun j hj => h j (by omega)⟩,fun h j hj => h.2 j (by omega)⟩
  obtain ⟨_,x,x1,x2,x3,x4,x5⟩ := oG (k := aJ d - (t + 1)) (next := cQ d (aJ d - (t + 1)) ((List.range d.weathers.length).filter fun i => aZ d i w t)) dg R hw hgw hc hs fun y yc ys => oZ dg (aJ d - (t + 1)) g (t + 1) _ y (by omega) R yc ys
  refine ⟨⟨g,hg2⟩,by rw [fU,← x3]; exact x4,by rw [fU,← x3]; exact x5,fun q hq => ?_⟩
  rcases Nat.lt_or_ge q t with h | h
  · exact hu q h
  · obtain rfl : q = t := by omega
    have hxm := List.mem_of_find?_eq_some x1
    rw [sL dg,List.mem_filterMap] at hxm
    obtain ⟨u,hu,hfu⟩ := hxm
    rw [tZ] at hfu
    split at hfu
    · cases hfu
      rw [eY,← x2]; exact qW hu
    · cases hfu
end
theorem aAB (d : aO) (v : bO) (hR : gJ w0 h d v) (dg : dC d) : ACall Try.prog w0 35 [.agg (aX v)] h fun y H => aB h H ∧ y = .int .i64 (zN d) := by
 refine aY aM aJk mf35_b mf35_g (qE rfl) fun hb ha => aU ?_
 obtain ⟨y1,y2,y3,y4,y5⟩ := hR.ones
 have w1 := dg.w1
 simp only [go_sem,mf35,aX,y1,y2,y3,y4,y5]
 obtain ⟨K,eK⟩ : ∃ K,K = h ++ [some (Blk.row [v.pl,v.ln,v.pn,v.pe,v.we])] := ⟨_,rfl⟩
 have sK : aB h K := eK ▸ aB.refl.app
 have k0 : K[h.length]? = some (some (.row [v.pl,v.ln,v.pn,v.pe,v.we])) := by rw [eK]; simp
 have k0L := xL k0
 rw [← eK]
 refine jT aM [0,1,3,5,2,4,6,7,8] [o_ 3 (.load (.t 1) (some 5)),o_ 4 (.load (.t 1) (some 5)),o_ 6 (.load (.t 1) (some 5)),o_ 8 (.load (.t 1) (some 5)),.call (some 5) none (f_ 87) [(.t 4)]] [([(0,o_ 3 (.load (.t 1) (some 5))),(2,o_ 6 (.load (.t 1) (some 5))),(3,o_ 8 (.load (.t 1) (some 5)))],[.call (some 7) none (f_ 40) [(.t 6)]]),([(0,o_ 3 (.load (.t 1) (some 5))),(3,o_ 8 (.load (.t 1) (some 5)))],[.call (some 9) none (f_ 88) [(.t 8)]]),([(0,o_ 3 (.load (.t 1) (some 5)))],[.call (some 10) none (f_ 86) [(.t 3),(.t 5),(.t 7),(i_ 0),(.t 9)],o_ 2 (m_ 10)])] rfl rfl (by kernel_rfl) ?_
 simp only [go_sem,k0,k0L,y1,y2,y3,y4,y5]
 refine aR (ACall.vc (first := []) (args := [_]) (aAy d v (hR.sub sK) dg)) ?_
 rintro uv H1 ⟨s1,hU⟩
 have m0 := s1.2 _ _ k0
 have m0L := xL m0
 simp only [go_sem,m0,m0L,y1,y2,y3,y4,y5]
 refine aR (ACall.vc (first := []) (args := [_]) (vL d v (hR.sub (sK.trans s1)))) ?_
 rintro _ H2 ⟨s2,nv,rfl,hst⟩
 have n0 := s2.2 _ _ m0
 have n0L := xL n0
 obtain ⟨o1,o2,o3⟩ := hst.ones
 simp only [go_sem,n0,n0L,y1,y2,y3,y4,y5]
 refine aR (ACall.vc (first := []) (args := [_]) (rall_c d v (hR.sub (sK.trans (s1.trans s2))))) ?_
 rintro cv H3 ⟨s3,hC⟩
 have q0 := s3.2 _ _ n0
 have q0L := xL q0
 simp only [go_sem,q0,q0L,y1,y2,y3,y4,y5]
 have a : SrR w0 H3 d v uv (List.range d.weathers.length) cv (bL d) nv 0 := ⟨hR.sub (sK.trans (s1.trans (s2.trans s3))),NS.mono hU (s2.trans s3) fun _ _ r => r.sub (s2.trans s3),hC,fun w hw => List.mem_range.1 hw,by simpa using w1,fun e => by
  have q1 := congrArg List.length e
  have q2 := dg.w0
  rw [List.length_range,List.length_nil] at q1
  omega,hst.sub s3,mM dg⟩
 refine aR (ACall.vc (first := []) (args := [_,_,_,_,_]) (aAC d dg (aJ d) H3 v uv cv _ _ nv 0 (by omega) a)) ?_
 rintro _ H4 ⟨s4,rfl⟩
 simp only [go_sem]
 exact ⟨sK.trans (s1.trans (s2.trans (s3.trans s4))),rfl⟩
theorem GN.setB {α : Type} {R : Heap → α → List AV → Prop} {K H : Heap} {es io b : Nat} {ov : AV} {l : List α} {r : Option Blk} (hR : ∀ {A x c},R A x c → R (A.set b r) x c) (g : GN w0 K R H es io ov l) (hb : K.length ≤ b) (hne : l.length ≠ 0 → io ≠ b) : GN w0 K R (H.set b r) es io ov l := by
 obtain ⟨rows,h1,h2,h3,h4⟩ := g.ex
 have em : Ab.mk l.length io (H.set b r) = (Ab.mk l.length io H).set b r := by
  unfold Ab.mk
  split
  · rfl
  · rename_i h0
    exact List.set_comm _ _ (Ne.symm (hne h0))
 refine ⟨by rw [em]; exact aB.setR g.sub hb,rows,h1,?_,h3,fun j x c a b' => by rw [em]; exact hR (h4 j x c a b')⟩
 rcases h2 with h2 | ⟨q1,q2,q3,q4⟩
 · exact .inl h2
 · exact .inr ⟨q1,q2,by rw [qB (Ne.symm (hne q1))]; exact q3,q4⟩
theorem aIF (d : aO) (v : bO) (hR : gJ w0 h d v) (hB : eE d = true) : ACall Try.prog w0 37 [.agg (aX v)] h fun y H => aB h H ∧ wW w0 H y (dZ d) := by
 have dg := gT hB
 refine aY aM aJi mf37_b mf37_g (qE rfl) fun hb ha => aU ?_
 obtain ⟨y1,y2,y3,y4,y5⟩ := hR.ones
 obtain ⟨l1,l2,l3,l4,l5⟩ := hR.lens
 have w1 := dg.w1
 have ss := dg.s1
 simp only [go_sem,mf37,aX,y1,y2,y3,y4,y5]
 obtain ⟨K,eK⟩ : ∃ K,K = h ++ [some (Blk.row [v.pl,v.ln,v.pn,v.pe,v.we])] := ⟨_,rfl⟩
 have sK : aB h K := eK ▸ aB.refl.app
 have k0 : K[h.length]? = some (some (.row [v.pl,v.ln,v.pn,v.pe,v.we])) := by rw [eK]; simp
 have k0L := xL k0
 rw [← eK]
 refine aR (ACall.vc (first := []) (args := [_]) (aAy d v (hR.sub sK) dg)) ?_
 rintro uv H1 ⟨s1,hU⟩
 have hR1 := hR.sub (sK.trans s1)
 simp only [go_sem]
 refine cM (S := Nat × Heap × AV × Nat) (F := fun x => [(1,.ptr (.own h.length 0)),(3,uv),(4,x.2.2.1),(5,.int .i64 x.1)]) (H := fun x => x.2.1) (meas := fun x => d.weathers.length - x.1)
  (Inv := fun x => x.1 ≤ d.weathers.length ∧ GN w0 H1 (aE5 w0) x.2.1 1 x.2.2.2 x.2.2.1 ((dZ d).take x.1))
  (0,H1,.nilS,0) ⟨Nat.zero_le _,by simpa using GN.nil aB.refl⟩ rfl rfl ?_
 rintro ⟨w,H,ov,io⟩ ⟨hw,gn⟩ ih
 simp only at hw gn ih
 refine aE aM aLp [1,3,4,5] L37_1.eq_1 ?_
 have sH := gn.sub.trans kZ
 have m0 := sH.2 _ _ (s1.2 _ _ k0)
 have m0L := xL m0
 have hpl : (dZ d).length = d.weathers.length := by simp [dZ]
 rcases Nat.lt_or_ge w d.weathers.length with hwl | hwl
 · have f0 : (w : Int) < d.weathers.length := by omega
   simp only [go_sem,m0,m0L,l5,f0,y1,y2,y3,y4,y5]
   refine aR (ACall.vc (first := []) (args := [_]) (vL d v (hR1.sub sH))) ?_
   rintro _ H2 ⟨s2,nv,rfl,hst⟩
   obtain ⟨o1,o2,o3⟩ := hst.ones
   simp only [go_sem,stC,o1,o2,o3]
   obtain ⟨M0,eM0⟩ : ∃ M0,M0 = H2 ++ [some (Blk.row [nv.pl,nv.le,nv.pe])] := ⟨_,rfl⟩
   have sM0 : aB H2 M0 := eM0 ▸ aB.refl.app
   rw [← eM0]
   have hws : ∀ i,i < d.weathers.length → ∀ t,t < aJ d → t < (fJ d i).length := fun i hi t ht => by
    rw [jK hi,(dg.rows _ (qG hi)).1]; omega
   have hlm : ((dZ d).take w).length = w := by rw [List.length_take]; omega
   obtain ⟨b,eb⟩ : ∃ b,b = H2.length := ⟨_,rfl⟩
   rw [← eb]
   have hlio : ((dZ d).take w).length ≠ 0 → io < H.length := fun h0 => gn.lt h0
   obtain ⟨C,hCb,hC1,hC2⟩ : ∃ C : List Nat,b ∈ C ∧ (∀ A,aB (msk C A) (Ab.mk ((dZ d).take w).length io A)) ∧ (∀ A,aB H2 A → aB H1 (msk C A)) := by
    have hgs := gn.sub
    by_cases h0 : ((dZ d).take w).length = 0
    · refine ⟨[b],by simp,fun A => ?_,fun A sA => ?_⟩
      · unfold Ab.mk
        rw [if_pos h0]
        exact bS
      · have := (aB.toK (C := []) (sH.trans (s2.trans sA))).mskm (ms := []) (ns := [b]) (by simp) fun c hc => .inr (by
         have := sH.1
         have := s2.1
         simp only [List.mem_singleton] at hc; omega)
        simpa [msk] using this
    · refine ⟨[b,io],by simp,fun A => ?_,fun A sA => ?_⟩
      · unfold Ab.mk
        rw [if_neg h0]
        exact jH (ms := [io]) fun i hi => by simp only [List.mem_singleton] at hi; simp [hi]
      · refine ⟨by rw [fM]; have := sH.1; have := s2.1; have := sA.1; omega,fun i c e => ?_⟩
        have e1 := hgs.2 _ _ e
        have e2 := aN e
        have e3 := sH.1
        have e4 := s2.1
        have hne : i ≠ io := fun q => by
         unfold Ab.mk at e1
         rw [if_neg h0,← q,qF (by omega)] at e1
         cases e1
        rw [bE (by simp only [List.mem_cons,List.not_mem_nil,or_false,not_or]; exact ⟨by omega,hne⟩)]
        exact sA.2 _ _ (s2.2 _ _ (sH.2 _ _ e))
   have hR3 : ∀ {A B : Heap} {x : List aC} {c : List AV},aB A B → nJ w0 (msk C A) x c → nJ w0 (msk C B) x c := fun s r => r.sub (kT s)
   have g0 : GN w0 H2 (fun A => nJ w0 (msk C A)) M0 1 (b + 1) .nilS ([] : List (List aC)) := GN.nil sM0
   refine cM (S := Nat × Heap × AV × Nat × StV) (F := fun x => [(1,.ptr (.own h.length 0)),(3,uv),(4,ov),(5,.int .i64 w),(6,.ptr (.own b 0)),(7,x.2.2.1),(8,.int .i64 x.1)]) (H := fun x => x.2.1) (meas := fun x => aJ d - x.1)
    (Inv := fun x => x.1 ≤ aJ d ∧ b < x.2.2.2.1 ∧ GN w0 H2 (fun A => nJ w0 (msk C A)) x.2.1 1 x.2.2.2.1 x.2.2.1 ((List.range x.1).map (eY d w)) ∧ x.2.1[b]? = some (some (.row (stC x.2.2.2.2))) ∧ StS w0 (msk [b] (Ab.mk x.1 x.2.2.2.1 x.2.1)) (fU d w x.1) x.2.2.2.2)
    (0,M0,.nilS,b + 1,nv) ⟨Nat.zero_le _,by simp,g0,by rw [eM0,eb]; simp [stC],?_⟩ rfl rfl ?_
   · have := (aB.toK (C := []) sM0).mskm (ms := []) (ns := [b]) (by simp) fun c hc => .inr (by simp only [List.mem_singleton] at hc; omega)
     exact hst.sub (by simpa [msk,Ab.mk] using this)
   rintro ⟨t,G,lv,il,sv⟩ ⟨ht,hil,gl,hbx,hs⟩ ih2
   simp only at ht hil gl hbx hs ih2
   refine aE aM aLq [1,3,4,5,6,7,8] L37_0.eq_1 ?_
   have sG : aB H2 G := gl.sub.trans kZ
   have sHG : aB H1 G := sH.trans (s2.trans sG)
   have n0 := sHG.2 _ _ (s1.2 _ _ k0)
   have n0L := xL n0
   have hll : ((List.range t).map (eY d w)).length = t := by simp
   simp only [go_sem,n0,n0L,y1,y2,y3,y4,y5]
   refine aF (rC d v (hR1.sub sHG).toDayS (List.length_pos_iff.1 dg.w0)).v ?_
   rcases Nat.lt_or_ge t (aJ d) with htl | htl
   · have f1 : (t : Int) < (aJ d : Nat) := by omega
     obtain ⟨o1,o2,o3⟩ := (hs.sub bS).ones
     have hsG : StS w0 G (fU d w t) sv := (hs.sub bS).sub kZ
     have hbx' := hbx
     simp only [stC] at hbx'
     have hbxL := xL hbx'
     simp only [go_sem,f1]
     refine jT aM [0,1,2,3,4,5,6,7,8,9,10,11,12,13] [o_ 29 (.load (.t 1) (some 5)),o_ 30 (m_ 3),o_ 31 (.load (.t 6) (some 3)),o_ 32 (m_ 8),o_ 33 (.load (.t 1) (some 5)),o_ 34 (m_ 5),o_ 35 (m_ 8),.call (some 36) none (f_ 43) [(.t 33),(.t 34),(.t 35)]] [([(0,o_ 29 (.load (.t 1) (some 5))),(2,o_ 31 (.load (.t 6) (some 3)))],[.call (some 37) none (f_ 89) [(.t 29),(.t 30),(.t 31),(.t 32),(.t 36)],o_ 28 (m_ 37),o_ 38 (.ext (.t 28) 0),o_ 39 (.ext (.t 28) 1),o_ 9 (m_ 38),o_ 10 (m_ 39)])] rfl rfl (by kernel_rfl) ?_
     simp only [go_sem,n0,n0L,hbx',hbxL,y1,y2,y3,y4,y5,o1,o2,o3]
     refine aR (ACall.vc (first := []) (args := [_,_,_]) (aFL d v w t (hR1.sub sHG) hwl (fun i hi => hws i hi t htl) (by omega))) ?_
     rintro cv Ha ⟨sa,hC⟩
     have a0 := sa.2 _ _ n0
     have a0L := xL a0
     have a1 := sa.2 _ _ hbx'
     have a1L := xL a1
     simp only [go_sem,a0,a0L,a1,a1L,y1,y2,y3,y4,y5,o1,o2,o3]
     obtain ⟨_,hnc,hstn,_⟩ := sN hB hwl t (by omega)
     obtain ⟨set,eset⟩ : ∃ set,set = (List.range d.weathers.length).filter fun i => aZ d i w t := ⟨_,rfl⟩
     have hC' : SlI w0 Ha cv (kE set) := by rw [eset]; exact hC
     have hsne : set ≠ [] := fun e => by
      have : w ∈ set := by rw [eset]; exact List.mem_filter.2 ⟨List.mem_range.2 hwl,pX⟩
      rw [e] at this; cases this
     have a : SrR w0 Ha d v uv set cv (fU d w t) sv t := ⟨hR1.sub (sHG.trans sa),NS.mono hU (sHG.trans sa) fun _ _ r => r.sub (sHG.trans sa),hC',fun i hi => by rw [eset] at hi; exact List.mem_range.1 (List.mem_filter.1 hi).1,by
      rw [eset]
      have := List.length_filter_le (fun i => aZ d i w t) (List.range d.weathers.length)
      rw [List.length_range] at this
      omega,hsne,hsG.sub sa,hstn⟩
     obtain ⟨k,ek⟩ : ∃ k,k = aJ d - (t + 1) := ⟨_,rfl⟩
     refine aR (ACall.vc (first := []) (args := [_,_,_,_,_]) (aCP d dg k (aAC d dg k) v uv cv set (fU d w t) sv t (by omega) a)) ?_
     rintro _ Hb ⟨sb,x,rfl,hx⟩
     have eU : (gP d (cQ d k set) t set (fU d w t)).2 = eY d w t := by rw [eY,ek,eset]
     rw [eU] at hx
     obtain ⟨_,_,_,hUB⟩ := sN hB hwl (t + 1) (by omega)
     have uB := hUB t (by omega)
     obtain ⟨h2,ew,ew0,ew1⟩ := wAt_bd dg hwl htl
     have sGb : aB G Hb := sa.trans sb
     obtain ⟨pw,xw,iw,tw,sw⟩ := (hR1.sub (sHG.trans sGb)).toDayS.weathers.at_ hwl
     obtain ⟨po,io',ro,ro'⟩ := SlI.at_ sw h2
     have tw' := tw []
     rw [List.append_nil] at tw'
     rw [← ew] at ro ro'
     have b0 := sb.2 _ _ a0
     have b0L := xL b0
     have b1 := sb.2 _ _ a1
     have b1L := xL b1
     simp only [go_sem]
     refine yJ aM D37_0.eq_1 (by kernel_rfl) ?_
     simp only [go_sem,b0,b0L,b1,b1L,y1,y2,y3,y4,y5,o1,o2,o3,iw,tw,tw',io',ro,ro']
     have hUx : UnV w0 Hb x (eY d w t) := (hx Ha aB.refl a.hU).sub sb
     refine aR (ACall.vc (first := []) (args := [_,_,_,_]) (aFG d v (fU d w t) sv (wAt d w t) (eY d w t) x (hR1.sub (sHG.trans sGb)) (hsG.sub sGb) hUx dg (hstn.ok (by omega)) uB ew0 (by omega))) ?_
     rintro _ Hc ⟨sc,nw,rfl,hnw,how⟩
     have eS : (gN d (fU d w t) (wAt d w t) (eY d w t)).1 = fU d w (t + 1) := rfl
     rw [eS] at hnw how
     obtain ⟨q1,q2,q3⟩ := hnw.ones
     have c1 := sc.2 _ _ b1
     simp only [go_sem,q1,q2,q3,c1]
     obtain ⟨G2,eG2⟩ : ∃ G2,G2 = Hc.set b (some (Blk.row [nw.pl,nw.le,nw.pe])) := ⟨_,rfl⟩
     rw [← eG2]
     have sGc : aB G Hc := sGb.trans sc
     have gl2 : GN w0 H2 (fun A => nJ w0 (msk C A)) G2 1 il lv ((List.range t).map (eY d w)) := by
      rw [eG2]
      exact (gl.sub' sGc hR3).setB (fun r => by rw [mV hCb]; exact r) (by omega) fun _ => by omega
     have hG2l : G2.length = Hc.length := by rw [eG2,List.length_set]
     have hG2b : G2[b]? = some (some (.row [nw.pl,nw.le,nw.pe])) := by rw [eG2]; exact qF (aN c1)
     have s3 : aB G2 (G2 ++ [some (Blk.row [x])]) := aB.refl.app
     have hxo := (NS.one hUx).1
     have hmG : ∀ A : Heap,Ab.mk ((List.range t).map (eY d w)).length il A = Ab.mk t il A := fun A => by rw [hll]
     have smC : aB (msk C (Ab.mk t il G)) (msk C (Ab.mk t il G2)) := by
      have h1 : aB (msk C (Ab.mk t il G)) (msk C (Ab.mk t il Hc)) := kT (kM sGc)
      have h2 : Ab.mk t il G2 = (Ab.mk t il Hc).set b (some (Blk.row [nw.pl,nw.le,nw.pe])) := by
       rw [eG2]
       unfold Ab.mk
       split
       · rfl
       · exact List.set_comm _ _ (by omega)
      rw [h2,mV hCb]
      exact h1
     have smG : aB (msk [b] (Ab.mk t il G)) (msk [b] (Ab.mk t il G2)) := by
      have h1 : aB (msk [b] (Ab.mk t il G)) (msk [b] (Ab.mk t il Hc)) := kT (kM sGc)
      have h2 : Ab.mk t il G2 = (Ab.mk t il Hc).set b (some (Blk.row [nw.pl,nw.le,nw.pe])) := by
       rw [eG2]
       unfold Ab.mk
       split
       · rfl
       · exact List.set_comm _ _ (by omega)
      rw [h2,mV (by simp)]
      exact h1
     have hUm : UnV w0 (msk C (Ab.mk t il G)) x (eY d w t) := by
      have hs0 : aB H1 (msk C (Ab.mk t il G)) := hC2 _ (by rw [← hmG]; exact gl.sub)
      exact hx _ ((bS.trans kZ).trans sa) (NS.mono hU hs0 fun _ _ r => r.sub hs0)
     have hpx : nJ w0 (msk C (Ab.mk ((List.range t).map (eY d w)).length il (G2 ++ [some (Blk.row [x])]))) (eY d w t) [x] := by
      rw [hmG]
      exact ⟨x,rfl,(hUm.sub smC).sub (kT (kM s3))⟩
     obtain ⟨G',p1,p2,p3,p4⟩ := (gl2.sub' s3 hR3).push (b := 24) (k := G2.length) (f := true) (c := [x]) hR3 (by simp) rfl (by simp [hxo]) hpx (by omega) (by rw [hll]; omega)
     rw [hll] at p1 p2 p3
     have hlen1 : (G2 ++ [some (Blk.row [x])]).length = G2.length + 1 := by simp
     rw [hlen1] at p1 p2 p3 p4
     simp only [go_sem,hxo,(NS.one hUx).2,p1]
     have hso : StS w0 (msk [b] (Ab.mk t il G2)) (fU d w (t + 1)) nw := by
      rcases how with ⟨e1,e2⟩ | ho
      · rw [e1,e2]; exact hs.sub smG
      · have hlb := sb.1
        have hla := sa.1
        have hbl := aN hbx
        have h2 : Ab.mk t il G2 = (Ab.mk t il Hc).set b (some (Blk.row [nw.pl,nw.le,nw.pe])) := by
         rw [eG2]
         unfold Ab.mk
         split
         · rfl
         · exact List.set_comm _ _ (by omega)
        rw [h2,mV (by simp)]
        by_cases h0 : t = 0
        · have : Ab.mk t il Hc = Hc := by unfold Ab.mk; rw [if_pos h0]
          rw [this]
          exact ho.st (C := [b]) fun i hi => by simp only [List.mem_singleton] at hi; omega
        · have : Ab.mk t il Hc = Hc.set il none := by unfold Ab.mk; rw [if_neg h0]
          rw [this]
          have hl := gl.lt (by rw [hll]; exact h0)
          exact ho.st (C := [il,b]) fun i hi => by simp only [List.mem_cons,List.not_mem_nil,or_false] at hi; omega
     have := ih2 (t + 1,G',.sl (.own (G2.length + 1) 0) (t + 1) 1 false,G2.length + 1,nw) ⟨by simp only; omega,?_,?_,?_,?_⟩ (by simp only; omega)
     · exact ⟨(by unfold I64; omega),by simpa using this⟩
     · have := aN hbx
       have := sGc.1
       simp only; omega
     · simp only
       rw [List.range_succ,List.map_append]
       exact p2
     · have h1 : (Ab.mk t il (G2 ++ [some (Blk.row [x])]))[b]? = some (some (.row [nw.pl,nw.le,nw.pe])) := by
        have := aA (k := [some (Blk.row [x])]) hG2b
        unfold Ab.mk
        split
        · exact this
        · rw [qB (by omega)]; exact this
       have h2 := p3.2 _ _ h1
       exact kZ.2 _ _ h2
     · exact (hso.sub (kT (kM s3))).sub (kT p3)
   · obtain rfl : t = aJ d := by omega
     have f1 : ¬ ((aJ d : Nat) : Int) < (aJ d : Nat) := by omega
     have hlo : Ab.one lv = true ∧ cellsOf lv = some [lv] := by
      obtain ⟨rows,_,h2,_⟩ := gl.ex
      exact h2.one
     obtain ⟨G1,eG1⟩ : ∃ G1,G1 = G ++ [some (Blk.row [lv])] := ⟨_,rfl⟩
     have sG1 : aB G G1 := eG1 ▸ aB.refl.app
     have hpw : (dZ d)[w]'(by omega) = (List.range (aJ d)).map (eY d w) := by simp [dZ]
     have hns := gl.ns hR3 (by omega)
     have hwr : aE5 w0 (Ab.mk ((dZ d).take w).length io G1) ((dZ d)[w]'(by omega)) [lv] := by
      rw [hpw]
      refine ⟨lv,rfl,?_⟩
      obtain ⟨rows,r1,r2,r3,r4⟩ := gl.ex
      have hne : ((dZ d).take w).length ≠ 0 → il ≠ io := fun h0 => by
       have q1 := hlio h0
       have q2 := s2.1
       omega
      refine ⟨rows,r1,?_,fun j x c q1 q2 => (r4 j x c q1 q2).sub ((hC1 _).trans (kM (kZ.trans sG1)))⟩
      refine Gr2.sl (io := il) (n := ((List.range (aJ d)).map (eY d w)).length) ?_ r3 r1.symm (by omega)
      rcases r2 with r2 | ⟨z1,z2,z3,z4⟩
      · exact .inl r2
      · refine .inr ⟨z1,z2,?_,z4⟩
        have := sG1.2 _ _ z3
        unfold Ab.mk
        split
        · exact this
        · rename_i h0
          rw [qB (Ne.symm (hne h0))]; exact this
     obtain ⟨G',p1,p2,p3,p4⟩ := (gn.sub' (s2.trans (sG.trans sG1)) (fun s r => r.sub s)).push (b := 24) (k := G.length) (f := true) (c := [lv]) (fun s r => r.sub s) (by rw [eG1]; simp) rfl (by simp [hlo.1]) hwr (by omega) (by omega)
     rw [hlm] at p1 p2 p3
     simp only [go_sem,f1,hlo.1,hlo.2]
     rw [← eG1]
     simp only [go_sem,p1]
     have := ih (w + 1,G',.sl (.own G1.length 0) (w + 1) 1 false,G1.length) ⟨by simp only; omega,by
      simp only
      rw [List.take_add_one,qA (show w < (dZ d).length by omega)]
      exact p2⟩ (by simp only; omega)
     exact ⟨(by unfold I64; omega),by simpa using this⟩
 · obtain rfl : w = d.weathers.length := by omega
   have f0 : ¬ (d.weathers.length : Int) < d.weathers.length := by omega
   simp only [go_sem,m0,m0L,l5,f0]
   refine ⟨sK.trans (s1.trans sH),?_⟩
   have := gn.ns (fun s r => r.sub s) (by omega)
   rwa [List.take_of_length_le (by omega)] at this
theorem aGP (d : aO) (v : bO) (hR : gJ w0 h d v) (dg : dC d) : ACall Try.prog w0 33 [.agg (aX v)] h fun y H => aB h H ∧ ∃ b,y = .bool b := by
 refine aY aM aJl mf33_b mf33_g (qE rfl) fun hb ha => aU ?_
 obtain ⟨y1,y2,y3,y4,y5⟩ := hR.ones
 obtain ⟨l1,l2,l3,l4,l5⟩ := hR.lens
 have p0 := dg.p0
 have p1 := dg.p1
 have pn := dg.pn
 have pe := dg.pe
 have s1 := dg.s1
 obtain ⟨K,eK⟩ : ∃ K,K = h ++ [some (Blk.row [v.pl,v.ln,v.pn,v.pe,v.we])] := ⟨_,rfl⟩
 have sK : aB h K := eK ▸ aB.refl.app
 have k0 : K[h.length]? = some (some (.row [v.pl,v.ln,v.pn,v.pe,v.we])) := by rw [eK]; simp
 have k0L := xL k0
 obtain ⟨one,eo⟩ : ∃ o : Int,o = 1 + ((d.places.length : Int) - 1) * 2 ^ d.people.length := ⟨_,rfl⟩
 have ho : 1 ≤ one ∧ one ≤ 65 := by
  have h2 : (1 : Int) ≤ 2 ^ d.people.length ∧ (2 : Int) ^ d.people.length ≤ 16 := by
   match d.people.length,pe with
   | 0,_ => decide
   | 1,_ => decide
   | 2,_ => decide
   | 3,_ => decide
   | 4,_ => decide
  have h3 : ((d.places.length : Int) - 1) * 2 ^ d.people.length ≤ 4 * 16 := Int.mul_le_mul (by omega) h2.2 (by omega) (by omega)
  have h4 : 0 ≤ ((d.places.length : Int) - 1) * 2 ^ d.people.length := Int.mul_nonneg (by omega) (by omega)
  omega
 have hshl : bin .shl (.int .i64 ((d.places.length : Int) - 1)) (.int .i64 d.people.length) = some (.int .i64 (one - 1)) := by
  have e1 : one - 1 = ((d.places.length : Int) - 1) * 2 ^ d.people.length := by omega
  have e2 : min ((d.people.length : Int).toNat) IntKind.i64.bits = d.people.length := by
   have : IntKind.i64.bits = 64 := rfl
   rw [this,Int.toNat_natCast]; omega
  have e3 : inK .i64 (one - 1) = true := by
   rw [inK,Bool.and_eq_true,decide_eq_true_eq,decide_eq_true_eq]
   have : IntKind.i64.min = -9223372036854775808 := rfl
   have : IntKind.i64.max = 9223372036854775807 := rfl
   omega
  simp only [bin,mQ]
  rw [if_neg (by omega),e2,← e1,gQ,if_pos e3]
 simp only [go_sem,mf33,aX,y1,y2,y3,y4,y5,l1,l4,hshl]
 refine ⟨(by unfold I64; omega),(by unfold I64; omega),?_⟩
 rw [show (1 : Int) + (one - 1) = one by omega,← eK]
 refine cU (S := Int) (fun i m => [(1,.ptr (.own h.length 0)),(3,.int .i64 one),(4,.int .i64 m),(5,.int .i64 i)]) (fun _ _ => K) (fun i m => 1 ≤ m ∧ m ≤ 65 ^ i) d.planes.length 1 ⟨by omega,by simp⟩ rfl rfl (fun i m hi hm ih => ?_) (fun m hm => ?_)
 · refine aE aM aDS [1,3,4,5] L33_0.eq_1 ?_
   have f0 : (i : Int) < d.planes.length := by omega
   have hmm : 1 ≤ m * one ∧ m * one ≤ 65 ^ (i + 1) := by
    obtain ⟨m1,m2⟩ := hm
    refine ⟨?_,?_⟩
    · have := Int.mul_le_mul m1 ho.1 (by omega) (by omega)
      omega
    · have := Int.mul_le_mul m2 ho.2 (by omega) (by omega)
      rw [Int.pow_succ]; exact this
   have hb2 : (65 : Int) ^ (i + 1) ≤ 65 ^ 2 := by
    rcases (show i = 0 ∨ i = 1 by omega) with rfl | rfl <;> decide
   have e : m * one < 10000 := by omega
   simp only [go_sem,k0,k0L,l3,f0]
   exact ⟨(by unfold I64; omega),(by unfold I64; omega),ih _ hmm⟩
 · refine aE aM aDS [1,3,4,5] L33_0.eq_1 ?_
   have f0 : ¬ (d.planes.length : Int) < d.planes.length := by omega
   have hb2 : (65 : Int) ^ d.planes.length ≤ 4225 := by
    rcases (show d.planes.length = 0 ∨ d.planes.length = 1 ∨ d.planes.length = 2 by omega) with e | e | e <;> rw [e] <;> decide
   have m1 := hm.1
   have m2 : m ≤ 4225 := Int.le_trans hm.2 hb2
   simp only [go_sem,k0,k0L,l3,f0]
   refine cM (S := Nat × Int) (F := fun x => [(1,.ptr (.own h.length 0)),(4,.int .i64 m),(6,.int .i64 x.2),(7,.int .i64 x.1)]) (H := fun _ => K) (meas := fun x => aJ d - x.1)
    (Inv := fun x => x.1 ≤ aJ d ∧ 1 ≤ x.2 ∧ x.2 ≤ 84500000) (0,1) ⟨Nat.zero_le _,by simp,by simp⟩ rfl rfl ?_
   rintro ⟨t,n⟩ ⟨ht,hn1,hn2⟩ ih
   simp only at ht hn1 hn2 ih
   refine aE aM aLr [1,4,6,7] L33_1.eq_1 ?_
   simp only [go_sem,k0,k0L,y1,y2,y3,y4,y5]
   refine aF (rC d v (hR.sub sK).toDayS (List.length_pos_iff.1 dg.w0)).v ?_
   rcases Nat.lt_or_ge t (aJ d) with htl | htl
   · have f1 : (t : Int) < (aJ d : Nat) := by omega
     by_cases e : n ≤ 20000
     · have hnm : 1 ≤ n * m ∧ n * m ≤ 84500000 := by
        refine ⟨?_,?_⟩
        · have := Int.mul_le_mul hn1 m1 (by omega) (by omega)
          omega
        · have := Int.mul_le_mul e m2 (by omega) (by omega)
          omega
       simp only [go_sem,f1,e]
       exact ⟨(by unfold I64; omega),(by unfold I64; omega),by simpa using ih (t + 1,n * m) ⟨by simp only; omega,hnm.1,hnm.2⟩ (by simp only; omega)⟩
     · simp only [go_sem,f1,e]
       exact ⟨sK,_,rfl⟩
   · have f1 : ¬ (t : Int) < (aJ d : Nat) := by omega
     simp only [go_sem,f1]
     exact ⟨sK,_,rfl⟩
theorem aBA (d : aO) (v : bO) (w : Int) (hR : gJ w0 h d v) (hno : eE d = false ∨ inB w 0 ((d.weathers.length : Int) - 1) = false) : ACall Try.prog w0 34 [.agg (aX v),.int .i64 w] h fun y H => aB h H ∧ y = .tup [.int .i64 0,.int .i64 2] := by
 refine aY aM aCX aF4 aF3 (qE rfl) fun hb ha => aU ?_
 obtain ⟨y1,y2,y3,y4,y5⟩ := hR.ones
 obtain ⟨l1,l2,l3,l4,l5⟩ := hR.lens
 obtain ⟨K,eK⟩ : ∃ K,K = h ++ [some (Blk.row [v.pl,v.ln,v.pn,v.pe,v.we])] := ⟨_,rfl⟩
 have sK : aB h K := eK ▸ aB.refl.app
 have k0 : K[h.length]? = some (some (.row [v.pl,v.ln,v.pn,v.pe,v.we])) := by rw [eK]; simp
 have k0L := xL k0
 have hn := hR.l5
 simp only [go_sem,mf34,aX,y1,y2,y3,y4,y5]
 rw [← eK]
 refine aF (tG d v (hR.sub sK)).v ?_
 cases hB : eE d with
 | false =>
  simp only [go_sem]
  exact sK
 | true =>
  have hin : inB w 0 ((d.weathers.length : Int) - 1) = false := by
   rcases hno with e | e
   · rw [hB] at e; cases e
   · exact e
  simp only [go_sem,k0,k0L,l5]
  refine ⟨(by unfold I64; omega),?_⟩
  refine aF (lX _ _ _).v ?_
  rw [hin]
  simp only [go_sem]
  exact sK
theorem aE8 (d : aO) (v : bO) (w : Int) (hS : DayS w0 h d v) (hW : d.weathers.length ≤ 9223372036854775807) : ACall Try.prog w0 9 [.agg (aX v),.int .i64 w] h fun y H => y = .bool true ∧ aB h H := by
 refine aY aM mf9_ok mf9_b mf9_g (qE rfl) fun hb ha => aU ?_
 obtain ⟨y1,y2,y3,y4,y5⟩ := hS.ones
 obtain ⟨l1,l2,l3,l4,l5⟩ := hS.lens
 obtain ⟨K,eK⟩ : ∃ K,K = h ++ [some (Blk.row [v.pl,v.ln,v.pn,v.pe,v.we])] := ⟨_,rfl⟩
 have sK : aB h K := eK ▸ aB.refl.app
 have k0 : K[h.length]? = some (some (.row [v.pl,v.ln,v.pn,v.pe,v.we])) := by rw [eK]; simp
 have k0L := xL k0
 simp only [go_sem,mf9,aX,y1,y2,y3,y4,y5]
 rw [← eK]
 refine aF (aIt d v (hS.sub sK) hW).v ?_
 cases e1 : lU d with
 | false =>
  simp only [go_sem]
  refine aF oS.v ?_
  simp only [go_sem]
  exact sK
 | true =>
 have hR := (hS.sub sK).R e1
 simp only [go_sem,k0,k0L,y1,y2,y3,y4,y5]
 refine aF (aB1 d v hR).v ?_
 cases hB : eE d with
 | false =>
  simp only [go_sem,k0,k0L,y1,y2,y3,y4,y5]
  refine aR (ACall.vc (first := []) (args := [_]) (aAa d v hR)) ?_
  rintro _ H1 ⟨s1,_,hno⟩
  obtain rfl := hno hB
  have m0 := s1.2 _ _ k0
  have m0L := xL m0
  simp only [go_sem,m0,m0L,y1,y2,y3,y4,y5]
  refine aR (ACall.vc (first := []) (args := [_,_]) (aBA d v w (hR.sub s1) (.inl hB))) ?_
  rintro _ H2 ⟨s2,rfl⟩
  have n0 := s2.2 _ _ m0
  have n0L := xL n0
  simp only [go_sem,n0,n0L,y1,y2,y3,y4,y5]
  refine aF (aB1 d v (hR.sub (s1.trans s2))).v ?_
  rw [hB]
  simp only [go_sem]
  refine aF oS.v ?_
  simp only [go_sem]
  exact sK.trans (s1.trans s2)
 | true =>
 have dg := gT hB
 simp only [go_sem,k0,k0L,y1,y2,y3,y4,y5]
 refine aR (ACall.vc (first := []) (args := [_]) (aGP d v hR dg)) ?_
 rintro _ H0 ⟨s0,lb,rfl⟩
 have i0 := s0.2 _ _ k0
 have i0L := xL i0
 cases lb with
 | false =>
  simp only [go_sem]
  refine aF oS.v ?_
  simp only [go_sem]
  exact sK.trans s0
 | true =>
 simp only [go_sem,i0,i0L,y1,y2,y3,y4,y5]
 refine aR (ACall.vc (first := []) (args := [_]) (aAa d v (hR.sub s0))) ?_
 rintro _ H1 ⟨s1,hyes,_⟩
 obtain ⟨pv,rfl,hP⟩ := hyes hB
 have s01 := s0.trans s1
 have m0 := s01.2 _ _ k0
 have m0L := xL m0
 simp only [go_sem,m0,m0L,y1,y2,y3,y4,y5]
 have hpol := aIH (aK4 hB)
 have hlen : ((fK d).1.length < 1000000) ∧ ∀ l ∈ (fK d).1,l.length < 1000000 ∧ ∀ u ∈ l,u.length < 1000000 ∧ ∀ x ∈ u,x.people.length < 1000000 := by
  have w1 := dg.w1
  have s1 := dg.s1
  have pn := dg.pn
  refine ⟨by rw [hpol.len]; omega,fun l hl => ?_⟩
  obtain ⟨i,hi,rfl⟩ := List.getElem_of_mem hl
  have hr := hpol.row i hi
  refine ⟨by omega,fun u hu => ?_⟩
  obtain ⟨t,ht,rfl⟩ := List.getElem_of_mem hu
  have uB := aIg (hpol.un i hi t ht)
  exact ⟨by rw [uB.len]; omega,fun x hx => (uB.ok dg.pe).pl x hx⟩
 obtain ⟨kv,fe,hK,hcase⟩ : ∃ kv fe : Int,ACall Try.prog w0 34 [.agg (aX v),.int .i64 w] H1 (fun y H => aB H1 H ∧ y = .tup [.int .i64 kv,.int .i64 fe]) ∧ ((∃ n : Nat,w = n ∧ n < d.weathers.length ∧ fe = 0 ∧ kv = (fK (gB d n)).2) ∨ ((w < 0 ∨ (d.weathers.length : Int) ≤ w) ∧ kv = 0 ∧ fe = 2)) := by
  by_cases hw : 0 ≤ w ∧ w < d.weathers.length
  · obtain ⟨n,rfl⟩ : ∃ n : Nat,w = n := ⟨w.toNat,by omega⟩
    have hn : n < d.weathers.length := by omega
    exact ⟨_,_,aLy d v n (hR.sub s01) hB hn,.inl ⟨n,rfl,hn,rfl,rfl⟩⟩
  · refine ⟨_,_,aBA d v w (hR.sub s01) (.inr ?_),.inr ⟨by omega,rfl,rfl⟩⟩
    rw [inB,Bool.and_eq_false_iff,decide_eq_false_iff_not,decide_eq_false_iff_not]
    omega
 refine aR (ACall.vc (first := []) (args := [_,_]) hK) ?_
 rintro _ H2 ⟨s2,rfl⟩
 have s02 := s01.trans s2
 have n0 := s02.2 _ _ k0
 have n0L := xL n0
 simp only [go_sem,n0,n0L,y1,y2,y3,y4,y5]
 refine aF (aB1 d v (hR.sub s02)).v ?_
 rw [hB]
 simp only [go_sem,n0,n0L,y1,y2,y3,y4,y5]
 refine aR (ACall.vc (first := []) (args := [_]) (aAB d v (hR.sub s02) dg)) ?_
 rintro _ H3 ⟨s3,rfl⟩
 have hle : zN d = (fK d).2 := yC hB
 have s03 := s02.trans s3
 have q0 := s03.2 _ _ k0
 have q0L := xL q0
 simp only [go_sem,hle,q0,q0L,y1,y2,y3,y4,y5]
 refine aR (ACall.vc (first := []) (args := [_]) (aIF d v (hR.sub s03) hB)) ?_
 rintro rv H4 ⟨s4,hP2⟩
 rw [aB5 hB] at hP2
 simp only [go_sem]
 refine aF (rA (fK d).1 (fK d).1 pv rv (hP.sub (s2.trans (s3.trans s4))) hP2 hlen.1 hlen.2).v ?_
 have s04 := s03.trans s4
 have r0 := s04.2 _ _ k0
 have r0L := xL r0
 have hdec : decide ((fK d).1 = (fK d).1) = true := decide_eq_true rfl
 rw [hdec]
 rcases hcase with ⟨n,rfl,hn,rfl,rfl⟩ | ⟨hw,rfl,rfl⟩
 · have f1 : ¬ (n : Int) < 0 := by omega
   have f2 : ¬ (d.weathers.length : Int) ≤ n := by omega
   simp only [go_sem,f1,f2,r0,r0L,l5,y1,y2,y3,y4,y5]
   refine aR (ACall.vc (first := []) (args := [_,_]) (Only_c d v n (hR.sub s04) hB hn)) ?_
   rintro _ H5 ⟨s5,v',rfl,hR'⟩
   have hB' := vP hB hn
   simp only [go_sem]
   refine aR (ACall.vc (first := []) (args := [_]) (aAB (gB d n) v' hR' (gT hB'))) ?_
   rintro _ H6 ⟨s6,rfl⟩
   have hle' : zN (gB d n) = (fK (gB d n)).2 := yC hB'
   simp only [go_sem,hle']
   refine aF oS.v ?_
   simp only [go_sem]
   exact sK.trans (s04.trans (s5.trans s6))
 · rcases hw with f1 | f2
   · simp only [go_sem,f1]
     refine aF oS.v ?_
     simp only [go_sem]
     exact sK.trans s04
   · have f1 : ¬ w < 0 := by omega
     simp only [go_sem,f1,f2,r0,r0L,l5]
     refine aF oS.v ?_
     simp only [go_sem]
     exact sK.trans s04
end Go.Proofs.Ab

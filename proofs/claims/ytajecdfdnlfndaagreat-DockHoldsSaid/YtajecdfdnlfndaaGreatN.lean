/- The own layer under the proofs of this seat, part N: what calls of the program come to on an abstract heap. No condition. -/
import Derived.Test.YtajecdfdnlfndaaGreatG
import Derived.Test.YtajecdfdnlfndaaGreatF
import Derived.Test.YtajecdfdnlfndaaGreatM
import Derived.Test.YtajecdfdnlfndaaGreatK
import Derived.Test.YtajecdfdnlfndaaGreatL
set_option linter.unusedSimpArgs false
set_option linter.unusedVariables false
namespace Go.Proofs.Ab
open Go
section
variable {P : Program} {w0 : World} {r lr : Option Nat} {nt Z : Nat} {B : Bs} {m m0 : Emb} {fr : Fr} {h : aA} {a a0 : Act} {w w' : World} {l : List MIx} {bef : List (List Nat)} {n : Nat}
theorem aAw {ops : Array Oper} (b : BOK ops l bef n)
 (hx : ∀ (i : Nat) o,ops[i]? = some o → ∃ x,l[i]? = some x ∧ cE P nt ops o = some x)
 (J : (Nat → Bool) → Fr → aA → Prop)
 (hv : ∀ S i x fr h,l[i]? = some x → S i = false → (∀ j,bfr bef i j = true → S j = true) → J S fr h → dE P w0 [x] fr h (J (bU S i)))
 {Q : Exit → Fr → aA → Prop} (hQ : ∀ S fr h,(∀ i,i < n → S i = true) → J S fr h → ∃ fr2 : Fr,(∀ t,fr2.get t = .undef ∨ fr2.get t = fr.get t) ∧ Q .normal fr2 h) :
 ∀ (fuel : Nat) (listed : Array Bool) (m : Emb) (fr' : Fr) (h' : aA) (a : Act) (w' : World),listed.size = n → listed.toList.count false ≤ fuel → (∀ i j,listed.getD i false = true → bfr bef i j = true → listed.getD j false = true) →
  bK Z w0 m0 m h h' w w' → SA w0 r lr nt Z B m fr' h' a w' → J (fun j => listed.getD j false) fr' h' → wpAnyIn (Wd lr) 0 P .any ops (fM w0 r lr nt Z B m0 h w Q) fuel listed a w' := by
 have hgd : ∀ (listed : Array Bool) (i : Nat),listed.size = n → i < n → listed.getD i true = listed.getD i false := fun listed i h1 h2 => by
  rw [Array.getD_eq_getD_getElem?,Array.getD_eq_getD_getElem?,Array.getElem?_eq_getElem (by omega)]; rfl
 have hdone : ∀ (listed : Array Bool) (m : Emb) (fr' : Fr) (h' : aA) (a : Act) (w' : World),listed.size = n → Region.ready .any ops listed = [] → bK Z w0 m0 m h h' w w' → SA w0 r lr nt Z B m fr' h' a w' → J (fun j => listed.getD j false) fr' h' →
  fM w0 r lr nt Z B m0 h w Q .normal a w' := by
  intro listed m fr' h' a w' hls hr st sa j
  have hall : ∀ i,i < n → listed.getD i false = true := by
   intro i
   induction i using Nat.strongRecOn with
   | ind i ih =>
    intro hi
    cases hli : listed.getD i false with
    | true => rfl
    | false =>
     exfalso
     obtain ⟨o,ho⟩ : ∃ o,ops[i]? = some o := ⟨_,Array.getElem?_eq_getElem (by rw [b.size]; exact hi)⟩
     have : i ∈ Region.ready .any ops listed := mem_ready.2 ⟨by rw [hgd listed i hls hi]; exact hli,o,ho,fun e he hb => by
      have := b.edge i o ho e he hb
      exact ih e.on this (by omega)⟩
     rw [hr] at this; cases this
  obtain ⟨fr2,hf,q⟩ := hQ _ _ _ hall j
  exact ⟨m,fr2,h',st,sa.frame' hf,q⟩
 intro fuel
 induction fuel with
 | zero =>
  intro listed m fr' h' a w' hls hc hcl st sa j
  have hr : Region.ready .any ops listed = [] := by
   rw [List.eq_nil_iff_forall_not_mem]
   intro i hi
   obtain ⟨h1,o,ho,_⟩ := mem_ready.1 hi
   have hin : i < n := by
    rw [← b.size]
    rcases Nat.lt_or_ge i ops.size with hlt | hge
    · exact hlt
    · rw [Array.getElem?_eq_none hge] at ho; cases ho
   have : false ∉ listed.toList := List.count_eq_zero.1 (by omega)
   apply this
   rw [Array.getD_eq_getD_getElem?,Array.getElem?_eq_getElem (by omega)] at h1
   simp at h1
   rw [← h1]
   simp
  exact ⟨hr,hdone listed m fr' h' a w' hls hr st sa j⟩
 | succ fuel ih =>
  intro listed m fr' h' a w' hls hc hcl st sa j
  refine ⟨fun hr => hdone listed m fr' h' a w' hls hr st sa j,fun i hi => ?_⟩
  obtain ⟨h1,o,ho,hall⟩ := mem_ready.1 hi
  have hin : i < n := by
   rw [← b.size]
   rcases Nat.lt_or_ge i ops.size with hlt | hge
   · exact hlt
   · rw [Array.getElem?_eq_none hge] at ho; cases ho
  obtain ⟨x,hxl,hxc⟩ := hx i o ho
  have hs : listed.getD i false = false := by rw [← hgd listed i hls hin]; exact h1
  have hb : ∀ j,bfr bef i j = true → listed.getD j false = true := fun j hj => by
   obtain ⟨e,he,hbd,h2⟩ := b.bef_ i o ho j hj
   have h3 := hall e he hbd
   rcases h2 with rfl | h2
   · exact h3
   · exact hcl _ _ h3 h2
  have hset : ∀ j,(listed.setIfInBounds i true).getD j false = bU (fun j => listed.getD j false) i j := fun j => by
   simp only [bU,Array.getD_eq_getD_getElem?]
   by_cases e : j = i
   · subst e
     simp [hls,hin]
   · rw [Array.getElem?_setIfInBounds_ne (fun e' => e e'.symm)]
     have : Nat.beq j i = false := by
      cases hb : Nat.beq j i with
      | false => rfl
      | true => exact absurd (aO.1 hb) e
     simp [this]
  unfold wpOpIn
  rw [ho]
  refine cI (P := P) (ops := ops) hxc sa (hv _ i x fr' h' hxl hs hb j) fun m2 fr2 h2 a2 w2 s2 sa2 j2 _ => ?_
  refine ih (listed.setIfInBounds i true) m2 fr2 h2 a2 w2 (by simp [hls]) ?_ ?_ (st.trans (s2.toZ sa.hz)) sa2 (by rw [show (fun j => (listed.setIfInBounds i true).getD j false) = bU (fun j => listed.getD j false) i from funext hset]; exact j2)
  · have hil : i < listed.toList.length := by simp [hls,hin]
    have hf : listed.toList[i] = false := by
     rw [Array.getD_eq_getD_getElem?,Array.getElem?_eq_getElem (by omega)] at hs
     simpa using hs
    have hpos : 0 < listed.toList.count false := List.count_pos_iff.2 (by rw [← hf]; exact qG hil)
    rw [Array.toList_setIfInBounds,List.count_set hil,hf]
    have e1 : (false == false) = true := rfl
    have e2 : (true == false) = false := rfl
    rw [e1,e2,if_pos rfl,if_neg (by simp)]
    omega
  · intro p q hp hq
    rw [hset] at hp ⊢
    simp only [bU,Bool.or_eq_true] at hp ⊢
    rcases hp with hp | hp
    · rw [aO.1 hp] at hq; exact .inr (hb q hq)
    · exact .inr (hcl p q hp hq)
theorem aAS (hm : P.follows .mixedOrders = true) (J : (Nat → Bool) → Fr → aA → Prop) (h0 : J (fun _ => false) fr h)
 (hv : ∀ S i x fr h,l[i]? = some x → S i = false → (∀ j,bfr bef i j = true → S j = true) → J S fr h → dE P w0 [x] fr h (J (bU S i)))
 {Q : Exit → Fr → aA → Prop} (hQ : ∀ S fr h,(∀ i,i < l.length → S i = true) → J S fr h → ∃ fr2 : Fr,(∀ t,fr2.get t = .undef ∨ fr2.get t = fr.get t) ∧ Q .normal fr2 h) : EvM P w0 r nt Z (.draw l bef) fr h Q := fun c hc m a w B lr sa => by
 obtain ⟨id,ops,rfl,hl,rfl,hbo,hop⟩ := jK hc
 obtain ⟨hbok,hdst,hx⟩ := jM hbo hl
 refine wpIn_region_any hm ?_
 have hsz := hbok.size
 have hdr : bB w0 m m h h w { w with drawn := w.drawn + 1 } :=
  ⟨⟨sa.sim.size,sa.sim.old,sa.sim.at_,sa.sim.inj⟩,.refl _ _,⟨Nat.le_refl _,fun _ _ _ => rfl,rfl,rfl,rfl⟩,Nat.le_refl _,fun i b hi _ => ⟨i,b,hi,rfl⟩⟩
 have e0 : (fun j => (Array.replicate ops.size false).getD j false) = fun _ => false := funext fun j => by
  rw [Array.getD_eq_getD_getElem?,Array.getElem?_replicate]; split <;> rfl
 exact aAw (w := w) hbok hx J hv hQ ops.size _ m fr h a _ (by simp [hsz]) (by simp) (fun i j hi _ => by rw [congrFun e0 i] at hi; cases hi) (hdr.toZ sa.hz) (sa.step hdr) (by rw [e0]; exact h0)
theorem dr_J (hm : P.follows .mixedOrders = true) {Q : Exit → Fr → aA → Prop} {k : List It} (J : (Nat → Bool) → Fr → aA → Prop) (h0 : J (fun _ => false) fr h)
 (hv : ∀ S i x fr h,l[i]? = some x → S i = false → (∀ j,bfr bef i j = true → S j = true) → J S fr h → dE P w0 [x] fr h (J (bU S i)))
 (hQ : ∀ S fr h,(∀ i,i < l.length → S i = true) → J S fr h → ∃ fr2 : Fr,(∀ t,fr2.get t = .undef ∨ fr2.get t = fr.get t) ∧ un P w0 r nt Z Q .normal k fr2 h) : dr P w0 r nt Z Q l bef k fr h :=
 aAS hm J h0 hv hQ
end
end Go.Proofs.Ab
namespace Go.Proofs.Ab
open Go Go.Proofs
def cst (l : List Nat) : List Int := l.map fun i : Nat => (i : Int)
theorem bE {l : List Nat} : (cst l).length = l.length := by simp [cst]
theorem yQ : ∀ {a b : List Nat},cst a = cst b → a = b
 | [],[],_ => rfl
 | [],_ :: _,h => by simp [cst] at h
 | _ :: _,[],h => by simp [cst] at h
 | x :: a,y :: b,h => by
  simp only [cst,List.map_cons,List.cons.injEq] at h
  rw [yQ (a := a) (b := b) h.2,show x = y by omega]
theorem fK {a : List Nat} {x : Nat} : cst (a ++ [x]) = cst a ++ [(x : Int)] := by simp [cst]
def few (a b : List Nat) : Bool := decide (a.length < b.length) || (decide (a.length = b.length) && eE (cst a) (cst b))
theorem lD : ∀ {a b c : List Int},a.length = b.length → b.length = c.length → eE a b = true → eE b c = true → eE a c = true
 | [],_,_,_,_,h,_ => by simp [eE] at h
 | x :: a,y :: b,[],_,h2,_,_ => by simp at h2
 | x :: a,y :: b,z :: c,h1,h2,e1,e2 => by
  rw [eE] at e1 e2 ⊢
  by_cases p : x = y
  · subst p
    rw [if_pos rfl] at e1
    by_cases q : x = z
    · rw [if_pos q] at e2 ⊢
      exact lD (by simpa using h1) (by simpa using h2) e1 e2
    · rw [if_neg q] at e2 ⊢; exact e2
  · rw [if_neg p,decide_eq_true_eq] at e1
    by_cases q : y = z
    · subst q
      rw [if_neg p]; simpa using e1
    · rw [if_neg q,decide_eq_true_eq] at e2
      rw [if_neg (by omega)]; simp; omega
theorem pA : ∀ {a b : List Int},a.length = b.length → a = b ∨ eE a b = true ∨ eE b a = true
 | [],[],_ => .inl rfl
 | x :: a,y :: b,h => by
  rw [eE,eE]
  by_cases p : x = y
  · subst p
    rw [if_pos rfl,if_pos rfl]
    rcases pA (a := a) (b := b) (by simpa using h) with h1 | h1
    · exact .inl (by rw [h1])
    · exact .inr h1
  · rw [if_neg p,if_neg (fun e => p e.symm)]
    simp only [decide_eq_true_eq]; omega
theorem dI {a b : List Nat} : few a b = true ↔ a.length < b.length ∨ a.length = b.length ∧ eE (cst a) (cst b) = true := by
 rw [few,Bool.or_eq_true,Bool.and_eq_true,decide_eq_true_eq,decide_eq_true_eq]
theorem aAq {a b c : List Nat} (h1 : few a b = true) (h2 : few b c = true) : few a c = true := by
 rw [dI] at *
 rcases h1 with h1 | ⟨h1,e1⟩ <;> rcases h2 with h2 | ⟨h2,e2⟩
 · exact .inl (by omega)
 · exact .inl (by omega)
 · exact .inl (by omega)
 · exact .inr ⟨by omega,lD (by rw [bE,bE,h1]) (by rw [bE,bE,h2]) e1 e2⟩
theorem aAr {a b : List Nat} (h1 : few a b = false) (h2 : few b a = false) : a = b := by
 have g1 : ¬ few a b = true := by rw [h1]; simp
 have g2 : ¬ few b a = true := by rw [h2]; simp
 rw [dI] at g1 g2
 have hl : a.length = b.length := by omega
 rcases pA (a := cst a) (b := cst b) (by rw [bE,bE,hl]) with h | h | h
 · exact yQ h
 · exact absurd (.inr ⟨hl,h⟩) g1
 · exact absurd (.inr ⟨hl.symm,h⟩) g2
def aN (n b : Nat) : List Nat := (List.range n).filter fun i => b.testBit i
theorem nL {n b : Nat} : aN (n + 1) b = aN n b ++ if b.testBit n then [n] else [] := by
 rw [aN,List.range_succ,List.filter_append,aN]
 congr 1
 cases h : b.testBit n <;> simp [h]
structure Inc (n : Nat) (s : List Nat) : Prop where
 so : s.Pairwise (· < ·)
 lt : ∀ x ∈ s,x < n
theorem jL {n b : Nat} : Inc n (aN n b) := ⟨List.Pairwise.filter _ List.pairwise_lt_range,fun x hx => by
 have := (List.mem_filter.1 hx).1
 exact List.mem_range.1 this⟩
theorem aF4 {n b x : Nat} (hx : x < 2 ^ n) : aN n (2 ^ n + x) = aN n x := by
 rw [aN,aN]
 refine List.filter_congr fun i hi => ?_
 rw [Nat.testBit_two_pow_add_gt (List.mem_range.1 hi)]
theorem kD : ∀ {n : Nat} {s : List Nat},Inc n s → ∃ b,b < 2 ^ n ∧ aN n b = s
 | 0,s,h => by
  refine ⟨0,by simp,?_⟩
  match s,h with
  | [],_ => rfl
  | x :: s,h => have := h.lt x (by simp); omega
 | n + 1,s,h => by
  by_cases hm : n ∈ s
  · obtain ⟨a,b,rfl⟩ := List.append_of_mem hm
    have hb : b = [] := by
     match b,h with
     | [],_ => rfl
     | y :: b,h =>
      have h1 := h.lt y (by simp)
      have h2 := (List.pairwise_cons.1 (List.pairwise_append.1 h.so).2.1).1 y (by simp)
      omega
    subst hb
    obtain ⟨c,hc,e⟩ := kD (n := n) (s := a) ⟨(List.pairwise_append.1 h.so).1,fun x hx => (List.pairwise_append.1 h.so).2.2 x hx n (by simp)⟩
    refine ⟨2 ^ n + c,by rw [Nat.pow_succ]; omega,?_⟩
    rw [nL,aF4 (b := c) hc,e,Nat.testBit_two_pow_add_eq,Nat.testBit_lt_two_pow hc]; rfl
  · obtain ⟨c,hc,e⟩ := kD (n := n) (s := s) ⟨h.so,fun x hx => by
     have h1 := h.lt x hx
     have : x ≠ n := fun e => hm (e ▸ hx)
     omega⟩
    refine ⟨c,by rw [Nat.pow_succ]; omega,?_⟩
    rw [nL,e,Nat.testBit_lt_two_pow hc]; simp
def ofR (l : List aD) (s : List Nat) : List aD := s.map fun i => l.getD i ⟨0,0,0⟩
theorem wT {l : List aD} {n : Nat} {s : List Nat} (hl : l.all bC = true) (hs : ∀ x ∈ s,x < l.length) : (ofR l s).all bC = true := by
 rw [List.all_eq_true]
 intro r hr
 obtain ⟨i,hi,rfl⟩ := List.mem_map.1 hr
 rw [getD_at (hs i hi)]
 exact List.all_eq_true.1 hl _ (qG _)
def dC (l : List aD) (w : bJ) (s : List Nat) : Bool := (bS (ofR l s) w).isNone
def gK (l : List aD) (w : bJ) (best : Option (List Nat)) (b : Nat) : Option (List Nat) :=
 match best with
 | none => if dC l w (aN l.length b) then some (aN l.length b) else none
 | some t => if few (aN l.length b) t then (if dC l w (aN l.length b) then some (aN l.length b) else some t) else some t
def nF (l : List aD) (w : bJ) (B : Nat) : Option (List Nat) := (List.range B).foldl (gK l w) none
theorem yO {l : List aD} {w : bJ} {B : Nat} : nF l w (B + 1) = gK l w (nF l w B) B := by
 rw [nF,List.range_succ,List.foldl_append]; rfl
def tO (l : List aD) (w : bJ) : Option (List Nat) := nF l w (2 ^ l.length)
def lS (l : List aD) (w : bJ) (P : List Nat → Prop) : Option (List Nat) → Prop
 | none => ∀ t,P t → dC l w t = false
 | some s => P s ∧ dC l w s = true ∧ ∀ t,P t → dC l w t = true → few t s = false
theorem lS.congr {l : List aD} {w : bJ} {P Q : List Nat → Prop} {o : Option (List Nat)} (h : lS l w P o) (e : ∀ t,P t ↔ Q t) : lS l w Q o := by
 have : P = Q := funext fun t => propext (e t)
 rw [← this]; exact h
theorem lS.uniq {l : List aD} {w : bJ} {P : List Nat → Prop} : ∀ {o o' : Option (List Nat)},lS l w P o → lS l w P o' → o = o'
 | none,none,_,_ => rfl
 | none,some s,h,h' => by have := h s h'.1; rw [h'.2.1] at this; cases this
 | some s,none,h,h' => by have := h' s h.1; rw [h.2.1] at this; cases this
 | some s,some t,h,h' => by rw [aAr (h'.2.2 s h.1 h.2.1) (h.2.2 t h'.1 h'.2.1)]
theorem lS.step {l : List aD} {w : bJ} {B : Nat} {o : Option (List Nat)} (h : lS l w (fun t => ∃ b,b < B ∧ t = aN l.length b) o) : lS l w (fun t => ∃ b,b < B + 1 ∧ t = aN l.length b) (gK l w o B) := by
 have sp : ∀ {Q : List Nat → Prop},(∀ t,(∃ b,b < B ∧ t = aN l.length b) → Q t) → Q (aN l.length B) → ∀ t,(∃ b,b < B + 1 ∧ t = aN l.length b) → Q t := fun h1 h2 t ⟨b,hb,e⟩ => by
  by_cases q : b = B
  · subst q; subst e; exact h2
  · exact h1 t ⟨b,by omega,e⟩
 have up : ∀ {t},(∃ b,b < B ∧ t = aN l.length b) → ∃ b,b < B + 1 ∧ t = aN l.length b := fun ⟨b,hb,e⟩ => ⟨b,by omega,e⟩
 match o,h with
 | none,h =>
  rw [gK]
  cases c : dC l w (aN l.length B) with
  | true =>
   refine ⟨⟨B,by omega,rfl⟩,c,sp (fun t ht hh => ?_) fun _ => ?_⟩
   · rw [h t ht] at hh; cases hh
   · cases e : few (aN l.length B) (aN l.length B) with
     | false => rfl
     | true =>
      rw [dI] at e
      rcases e with e | e
      · omega
      · have := gD (cst (aN l.length B)) [] []
        rw [List.append_nil,e.2] at this; cases this
  | false => exact sp h c
 | some s,h =>
  obtain ⟨h1,h2,h3⟩ := h
  rw [gK]
  cases c1 : few (aN l.length B) s with
  | false => exact ⟨up h1,h2,sp h3 fun _ => c1⟩
  | true =>
   cases c : dC l w (aN l.length B) with
   | false =>
    refine ⟨up h1,h2,sp h3 fun hh => ?_⟩
    rw [c] at hh; cases hh
   | true =>
    refine ⟨⟨B,by omega,rfl⟩,c,sp (fun t ht hh => ?_) fun _ => ?_⟩
    · cases e : few t (aN l.length B) with
      | false => rfl
      | true =>
       have := h3 t ht hh
       rw [aAq e c1] at this; cases this
    · cases e : few (aN l.length B) (aN l.length B) with
      | false => rfl
      | true =>
       rw [dI] at e
       rcases e with e | e
       · omega
       · have := gD (cst (aN l.length B)) [] []
         rw [List.append_nil,e.2] at this; cases this
theorem nE {l : List aD} {w : bJ} : ∀ B,lS l w (fun t => ∃ b,b < B ∧ t = aN l.length b) (nF l w B)
 | 0 => fun t ⟨b,hb,_⟩ => by omega
 | B + 1 => by rw [yO]; exact (nE B).step
theorem oM {l : List aD} {w : bJ} : lS l w (Inc l.length) (tO l w) :=
 (nE (l := l) (w := w) (2 ^ l.length)).congr fun t => ⟨fun ⟨b,_,e⟩ => e ▸ jL,fun h => by
  obtain ⟨b,hb,e⟩ := kD h
  exact ⟨b,hb,e.symm⟩⟩
def bI (n : Nat) : Nat → List (List Nat)
 | 0 => [[]]
 | k + 1 => (bI n k).flatMap fun s => (List.range' (match s.getLast? with
  | none => 0
  | some x => x + 1) (n - match s.getLast? with
  | none => 0
  | some x => x + 1)).map fun x => s ++ [x]
def eF (s : List Nat) : Nat := match s.getLast? with
 | none => 0
 | some x => x + 1
theorem pK {n k : Nat} : bI n (k + 1) = (bI n k).flatMap fun s => (List.range' (eF s) (n - eF s)).map fun x => s ++ [x] := rfl
theorem nB {s : List Nat} {x : Nat} : eF (s ++ [x]) = x + 1 := by simp [eF]
theorem tH {n : Nat} {s : List Nat} {x : Nat} : Inc n (s ++ [x]) ↔ Inc n s ∧ eF s ≤ x ∧ x < n := by
 constructor
 · intro h
   have hp := List.pairwise_append.1 h.so
   refine ⟨⟨hp.1,fun y hy => h.lt y (by simp [hy])⟩,?_,h.lt x (by simp)⟩
   rw [eF]
   cases e : s.getLast? with
   | none => simp
   | some y =>
    have := List.mem_of_getLast? e
    have := hp.2.2 y this x (by simp)
    simp only; omega
 · rintro ⟨h1,h2,h3⟩
   refine ⟨List.pairwise_append.2 ⟨h1.so,by simp,fun y hy z hz => ?_⟩,fun y hy => ?_⟩
   · simp at hz; subst hz
     obtain ⟨a,b,rfl⟩ := List.append_of_mem hy
     rw [eF] at h2
     cases e : (a ++ y :: b).getLast? with
     | none => simp at e
     | some u =>
      rw [e] at h2
      simp only at h2
      have hu : y = u ∨ y < u := by
       rw [List.getLast?_append,List.getLast?_cons] at e
       simp only [Option.some_or,Option.some.injEq] at e
       cases eb : b.getLast? with
       | none => rw [eb] at e; exact .inl e
       | some v =>
        rw [eb] at e
        simp only [Option.getD_some] at e
        subst e
        have := (List.pairwise_append.1 h1.so).2.1
        exact .inr ((List.pairwise_cons.1 this).1 v (List.mem_of_getLast? eb))
      omega
   · rcases List.mem_append.1 hy with hy | hy
     · exact h1.lt y hy
     · simp at hy; omega
theorem cR {n : Nat} : ∀ {k : Nat} {s : List Nat},s ∈ bI n k ↔ Inc n s ∧ s.length = k
 | 0,s => by
  rw [bI,List.mem_singleton]
  constructor
  · rintro rfl; exact ⟨⟨by simp,fun x hx => by simp at hx⟩,rfl⟩
  · rintro ⟨_,h⟩; exact List.eq_nil_of_length_eq_zero h
 | k + 1,s => by
  rw [pK,List.mem_flatMap]
  constructor
  · rintro ⟨t,ht,hs⟩
    obtain ⟨x,hx,rfl⟩ := List.mem_map.1 hs
    rw [List.mem_range'_1] at hx
    have ⟨h1,h2⟩ := cR.1 ht
    exact ⟨tH.2 ⟨h1,hx.1,by omega⟩,by simp [h2]⟩
  · rintro ⟨h1,h2⟩
    have hne : s ≠ [] := fun e => by rw [e] at h2; cases h2
    obtain ⟨t,x,rfl⟩ : ∃ t x,s = t ++ [x] := ⟨s.dropLast,s.getLast hne,(List.dropLast_concat_getLast hne).symm⟩
    obtain ⟨a,b,c⟩ := tH.1 h1
    exact ⟨t,cR.2 ⟨a,by simpa using h2⟩,List.mem_map.2 ⟨x,by rw [List.mem_range'_1]; omega,rfl⟩⟩
theorem yT : ∀ {a b r s : List Int},a.length = b.length → eE a b = true → eE (a ++ r) (b ++ s) = true
 | [],[],r,s,_,h => by simp [eE] at h
 | x :: a,y :: b,r,s,h,e => by
  rw [List.cons_append,List.cons_append]
  rw [eE] at e ⊢
  by_cases p : x = y
  · rw [if_pos p] at e ⊢
    exact yT (by simpa using h) e
  · rw [if_neg p] at e ⊢; exact e
theorem rW {n : Nat} : ∀ {k : Nat},(bI n k).Pairwise fun a b => few a b = true
 | 0 => by simp [bI]
 | k + 1 => by
  rw [pK,List.pairwise_flatMap]
  refine ⟨fun s hs => ?_,?_⟩
  · rw [List.pairwise_map]
    refine List.Pairwise.imp (fun {x y} (h : x < y) => ?_) (List.pairwise_lt_range' (step := 1))
    rw [dI,fK,fK]
    refine .inr ⟨by simp,?_⟩
    rw [gD,eE,if_neg (by omega)]; simpa using h
  · refine List.Pairwise.imp_of_mem (fun {a b} ha hb h x hx y hy => ?_) (rW (k := k))
    obtain ⟨u,_,rfl⟩ := List.mem_map.1 hx
    obtain ⟨v,_,rfl⟩ := List.mem_map.1 hy
    have la := (cR.1 ha).2
    have lb := (cR.1 hb).2
    rw [dI] at h ⊢
    rcases h with h | h
    · omega
    · refine .inr ⟨by simp; omega,?_⟩
      rw [fK,fK]
      exact yT (by rw [bE,bE,h.1]) h.2
def oC (l : List aD) (w : bJ) : Option (List Nat) := (List.range (l.length + 1)).findSome? fun k => (bI l.length k).find? (dC l w)
theorem qN {n : Nat} {s : List Nat} (h : Inc n s) : s.length ≤ n := by
 obtain ⟨b,_,rfl⟩ := kD h
 have := List.length_filter_le (fun i => b.testBit i) (List.range n)
 rw [List.length_range] at this
 exact this
theorem zU {l : List aD} {w : bJ} : lS l w (Inc l.length) (oC l w) := by
 rw [oC]
 cases e : (List.range (l.length + 1)).findSome? fun k => (bI l.length k).find? (dC l w) with
 | none =>
  intro t ht
  rw [List.findSome?_eq_none_iff] at e
  have := e t.length (List.mem_range.2 (by have := qN ht; omega))
  rw [List.find?_eq_none] at this
  simpa using this t (cR.2 ⟨ht,rfl⟩)
 | some s =>
  rw [List.findSome?_eq_some_iff] at e
  obtain ⟨l1,k,l2,e1,e2,e3⟩ := e
  have hs := List.mem_of_find?_eq_some e2
  have hh := List.find?_some e2
  obtain ⟨hi,hk⟩ := cR.1 hs
  refine ⟨hi,hh,fun t ht hth => ?_⟩
  cases c : few t s with
  | false => rfl
  | true =>
   rw [dI] at c
   have hl1 : l1 = List.range k := by
    have hkl : l1.length = k := by
     have := congrArg (fun z => z[l1.length]?) e1
     simp only [qI (Nat.le_refl _),Nat.sub_self,List.getElem?_cons_zero] at this
     have hlt := (List.getElem?_eq_some_iff.1 this).1
     rw [List.length_range] at hlt
     rw [List.getElem?_range hlt] at this
     simpa using this
    have := congrArg (List.take l1.length) e1
    rw [List.take_left,hkl] at this
    rw [← this,List.take_range]
    have hlt : k < (List.range (l.length + 1)).length := by rw [e1]; simp; omega
    rw [List.length_range] at hlt
    congr 1; omega
   rcases c with c | c
   · have := e3 t.length (by rw [hl1,List.mem_range]; omega)
     rw [List.find?_eq_none] at this
     have := this t (cR.2 ⟨ht,rfl⟩)
     exact absurd hth this
   · rw [List.find?_eq_some_iff_append] at e2
     obtain ⟨_,ua,ub,e4,e5⟩ := e2
     have hm : t ∈ bI l.length k := cR.2 ⟨ht,by omega⟩
     have hp := rW (n := l.length) (k := k)
     rw [e4] at hm hp
     rcases List.mem_append.1 hm with hm | hm
     · have := e5 t hm
       rw [hth] at this; cases this
     · have irr : ∀ z : List Nat,eE (cst z) (cst z) = false := fun s => by
        have := gD (cst s) [] []
        rw [List.append_nil] at this
        rw [this]; rfl
       rcases List.mem_cons.1 hm with rfl | hm
       · have := c.2; rw [irr] at this; cases this
       · have h1 := (List.pairwise_cons.1 (List.pairwise_append.1 hp).2.1).1 t hm
         rw [dI] at h1
         rcases h1 with h1 | h1
         · omega
         · have := lD (by rw [bE,bE,c.1]) (by rw [bE,bE,h1.1]) c.2 h1.2
           rw [irr] at this; cases this
theorem wO {l : List aD} {w : bJ} : oC l w = tO l w := zU.uniq oM
end Go.Proofs.Ab
namespace Go.Proofs.Ab
open Go Go.Proofs
variable {w0 : World} {h : aA}
def qZ : List Value → Nat → Array Value → Array Value
 | [],_,c => c
 | v :: r,o,c => qZ r (o + 1) (c.setIfInBounds o v)
theorem iQ : ∀ {vs : List Value} {o : Nat} {c : Array Value},(qZ vs o c).size = c.size
 | [],_,_ => rfl
 | v :: r,o,c => by rw [qZ,iQ]; simp
theorem nM : ∀ {vs : List Value} {o : Nat} {c : Array Value} {k : Nat},o + vs.length ≤ c.size → (qZ vs o c)[k]? = if o ≤ k ∧ k < o + vs.length then vs[k - o]? else c[k]?
 | [],o,c,k,_ => by rw [qZ,if_neg (by simp)]
 | v :: r,o,c,k,h => by
  simp only [List.length_cons] at h
  rw [qZ,nM (by simp; omega),Array.getElem?_setIfInBounds]
  simp only [List.length_cons]
  by_cases h1 : k = o
  · subst h1
    rw [if_neg (by omega),if_pos rfl,if_pos (by omega),if_pos (by omega),Nat.sub_self]; rfl
  · by_cases h2 : o + 1 ≤ k ∧ k < o + 1 + r.length
    · rw [if_pos h2,if_pos (by omega),show k - o = (k - (o + 1)) + 1 by omega,List.getElem?_cons_succ]
    · rw [if_neg h2,if_neg (fun e => h1 e.symm),if_neg (by omega)]
theorem fU (b : Nat) : ∀ (vs : List Value) (o : Nat) (w : World) {c : Array Value} {e : TypeId} {fr : Nat × Nat},w.heap[b]? = some (.cells c e fr) → (w.setCells b o vs).heap[b]? = some (.cells (qZ vs o c) e fr) ∧ (∀ i,i ≠ b → (w.setCells b o vs).heap[i]? = w.heap[i]?) ∧ (w.setCells b o vs).heap.size = w.heap.size ∧
 (w.setCells b o vs).os = w.os ∧ (w.setCells b o vs).tape = w.tape ∧ (w.setCells b o vs).output = w.output
 | [],o,w,c,e,fr,h => ⟨h,fun _ _ => rfl,rfl,rfl,rfl,rfl⟩
 | v :: r,o,w,c,e,fr,h => by
  have h1 : (w.setCell ⟨b,o,none⟩ v).heap[b]? = some (.cells (c.setIfInBounds o v) e fr) := by
   simp [World.setCell,Array.getElem?_modify,h]
  obtain ⟨g1,g2,g3,g4,g5,g6⟩ := fU b r (o + 1) _ h1
  rw [World.setCells]
  refine ⟨g1,fun i hi => (g2 i hi).trans ?_,g3.trans ?_,g4.trans rfl,g5.trans rfl,g6.trans rfl⟩
  · have hi' : ¬ b = i := fun e => hi e.symm
    simp [World.setCell,Array.getElem?_modify,hi']
  · simp [World.setCell]
def aD.v (r : aD) : List Value := [.int .i64 r.x,.int .i64 r.y,.int .i64 r.s]
theorem mN {m : Emb} : ∀ {l : List aD} {k : Nat} {x : AV},(l.map aD.c).flatten[k]? = some x → ∃ y,(l.map aD.v).flatten[k]? = some y ∧ ∀ z,VR m x z → z = y
 | [],k,x,h => by simp at h
 | r :: l,0,x,h => by simp [aD.c] at h; subst h; exact ⟨_,rfl,fun z hz => hz⟩
 | r :: l,1,x,h => by simp [aD.c] at h; subst h; exact ⟨_,rfl,fun z hz => hz⟩
 | r :: l,2,x,h => by simp [aD.c] at h; subst h; exact ⟨_,rfl,fun z hz => hz⟩
 | r :: l,k + 3,x,h => by
  have := mN (m := m) (l := l) (k := k) (x := x) (by simpa [aD.c] using h)
  simpa [aD.v] using this
theorem mO {m : Emb} : ∀ {l : List aD} {k : Nat} {x : AV},(l.map aD.c).flatten[k]? = some x → ∃ y,(l.map aD.v).flatten[k]? = some y ∧ VR m x y
 | [],k,x,h => by simp at h
 | r :: l,0,x,h => by simp [aD.c] at h; subst h; exact ⟨_,rfl,rfl⟩
 | r :: l,1,x,h => by simp [aD.c] at h; subst h; exact ⟨_,rfl,rfl⟩
 | r :: l,2,x,h => by simp [aD.c] at h; subst h; exact ⟨_,rfl,rfl⟩
 | r :: l,k + 3,x,h => by
  have := mO (m := m) (l := l) (k := k) (x := x) (by simpa [aD.c] using h)
  simpa [aD.v] using this
theorem uS (l : List aD) : (l.map aD.v).flatten.length = l.length * 3 := by
 induction l with
 | nil => rfl
 | cons r l ih => simp only [List.map_cons,List.flatten_cons,List.length_append,ih,List.length_cons,aD.v,List.length_nil]; omega
theorem gE (l : List aD) : (l.map aD.c).flatten.length = l.length * 3 := by
 induction l with
 | nil => rfl
 | cons r l ih => simp only [List.map_cons,List.flatten_cons,List.length_append,ih,List.length_cons,aD.c,List.length_nil]; omega
theorem uU (l : List aD) (j : Nat) : (l.map aD.v).flatten.drop (j * 3) = ((l.drop j).map aD.v).flatten := by
 induction l generalizing j with
 | nil => simp
 | cons r l ih =>
  cases j with
  | zero => simp
  | succ j =>
   rw [List.drop_succ_cons,← ih,Nat.succ_mul,Nat.add_comm]
   simp [aD.v,← List.drop_drop]
theorem uT (l : List aD) (j : Nat) : (l.map aD.v).flatten.take (j * 3) = ((l.take j).map aD.v).flatten := by
 induction l generalizing j with
 | nil => simp
 | cons r l ih =>
  cases j with
  | zero => simp
  | succ j =>
   rw [List.take_succ_cons,List.map_cons,List.flatten_cons,List.map_cons,List.flatten_cons,← ih,Nat.succ_mul]
   rfl
theorem rope1 (l : List aD) : ∀ u ∈ (l.map aD.v).flatten,u.oneCell' = true := fun u hu => by
 obtain ⟨c,hc,hu⟩ := List.mem_flatten.1 hu
 obtain ⟨r,_,rfl⟩ := List.mem_map.1 hc
 simp [aD.v] at hu
 rcases hu with rfl | rfl | rfl <;> rfl
def vB : aD := ⟨0,0,0⟩
theorem aCK {H : aA} {b i : Nat} {l : List aD} (hb : H[b]? = some (some (.row (l.map aD.c).flatten))) (hi : i < l.length) (hn : l.length ≤ 1000000) :
 ACall Tryz.prog w0 104 [.sl (.own b 0) l.length 3 false,.int .i64 i,.int .i64 ((i + 1 : Nat) : Int)] H fun v H' => v = .sl (.own b 0) (l.length - 1) 3 false ∧ H' = H.set b (some (.row ((l.eraseIdx i ++ [vB]).map aD.c).flatten)) := by
 refine ⟨by kernel_rfl,fun m w vs s hvs hbd => callsIn_wide.2 ?_⟩
 obtain ⟨v1,r1,e1,h1,h2⟩ := hvs
 obtain ⟨v2,r2,rfl,h3,h4⟩ := h2
 obtain ⟨v3,r3,rfl,h5,h6⟩ := h4
 simp only [VRs] at h6
 subst h6
 simp only [VR] at h1 h3 h5
 subst h3; subst h5
 obtain ⟨a,cap,rfl,hc1,_,hc2⟩ := h1
 obtain ⟨ha,hsz⟩ : a = m.pl (.own b 0) ∧ ∀ i off,Pl.own b 0 = .own i off → off + cap * 3 ≤ m.sz i := by
  rcases hc2 with h | h
  · omega
  · exact h
 have hsz := hsz b 0 rfl
 obtain ⟨g1,⟨ca,ty,g2,g3,g4⟩,_⟩ := s.at_ b _ hb
 have hvs' : vs = #[.slice (some a) l.length cap,.int .i64 i,.int .i64 ((i + 1 : Nat) : Int)] := by
  rw [← Array.toArray_toList (xs := vs),e1]
 have ha' : a = ⟨m.blk b,m.base b,none⟩ := by rw [ha]; rfl
 rw [hvs',ha']
 obtain ⟨vals,hvals⟩ : ∃ vals,vals = (l.map aD.v).flatten := ⟨_,rfl⟩
 have vlen : vals.length = l.length * 3 := by rw [hvals,uS]
 have hcv : ∀ k,k < l.length * 3 → ca[m.base b + k]? = vals[k]? := fun k hk => by
  have hk' : k < (l.map aD.c).flatten.length := by rw [gE]; exact hk
  obtain ⟨y,hy,hvr⟩ := g4 k _ (qA hk')
  obtain ⟨z,hz,hzz⟩ := mN (m := m) (qA hk')
  rw [hy,hvals,hz,hzz y hvr]
 have hH : Sort.Holds id w (m.blk b) (m.base b) vals.toArray := fun k hk => by
  have hk' : k < l.length * 3 := by rw [← vlen]; simpa using hk
  refine ⟨?_,by simp [World.frozen?,g2]⟩
  have := hcv k hk'
  simp only [World.cell?,g2]
  rw [getElem!_pos _ k hk]
  simp only [Option.isSome_none,Bool.false_eq_true,if_false,id_eq]
  rw [this,qA (by omega)]
  simp
 refine (tP (m.blk b) (m.base b) cap i (i + 1) l.length vals.toArray w (by simpa using vlen) hH (by rw [hvals]; simpa using rope1 l) hc1 hn hi rfl).mono fun e w' ⟨he,hw'⟩ => ?_
 have g2d : w.drew.heap[m.blk b]? = some (.cells ca ty (0,0)) := g2
 obtain ⟨k1,k2,k3,k4,k5,k6⟩ := fU (m.blk b) (vals.drop ((i + 1) * 3)) (m.base b + i * 3) w.drew g2d
 obtain ⟨j1,j2,j3,j4,j5,j6⟩ := fU (m.blk b) z3 (m.base b + (l.length - 1) * 3) _ k1
 rw [← hw'] at j1 j2 j3 j4 j5 j6
 have hsame : ∀ c,c ≠ m.blk b → w'.heap[c]? = w.heap[c]? := fun c hc => (j2 c hc).trans (k2 c hc)
 have hdl : (vals.drop ((i + 1) * 3)).length = (l.length - (i + 1)) * 3 := by rw [List.length_drop,vlen]; omega
 have hl' : (l.eraseIdx i ++ [vB]).length = l.length := by rw [List.length_append,List.length_eraseIdx,if_pos hi,List.length_singleton]; omega
 have hvals' : ((l.eraseIdx i ++ [vB]).map aD.v).flatten = vals.take (i * 3) ++ vals.drop ((i + 1) * 3) ++ z3 := by
  rw [hvals,uT,uU,List.eraseIdx_eq_take_drop_succ,List.map_append,List.map_append,List.flatten_append,List.flatten_append]; rfl
 have hnew : ∀ k,k < l.length * 3 → (qZ z3 (m.base b + (l.length - 1) * 3) (qZ (vals.drop ((i + 1) * 3)) (m.base b + i * 3) ca))[m.base b + k]? = (vals.take (i * 3) ++ vals.drop ((i + 1) * 3) ++ z3)[k]? := fun k hk => by
  have hz : z3.length = 3 := rfl
  rw [nM (by rw [iQ,hz]; omega),hz]
  by_cases q1 : (l.length - 1) * 3 ≤ k
  · rw [if_pos (by omega),qI (by rw [List.length_append,List.length_take,hdl]; omega)]
    congr 1
    rw [List.length_append,List.length_take,hdl]; omega
  · rw [if_neg (by omega),nM (by rw [hdl]; omega),hdl,qH (by rw [List.length_append,List.length_take,hdl]; omega)]
    by_cases q2 : i * 3 ≤ k
    · rw [if_pos (by omega),qI (by rw [List.length_take]; omega)]
      congr 1
      rw [List.length_take]; omega
    · rw [if_neg (by omega),qH (by rw [List.length_take]; omega),List.getElem?_take_of_lt (by omega)]
      exact hcv k hk
 refine ⟨_,he,m,.sl (.own b 0) (l.length - 1) 3 false,H.set b (some (.row ((l.eraseIdx i ++ [vB]).map aD.c).flatten)),⟨⟨by rw [j3,k3]; exact s.size,fun c hc => by rw [hsame c (by omega)]; exact s.old c hc,fun t x hx => ?_,fun t u x y htu hx hy => ?_⟩,.refl _ _,⟨by rw [j3,k3]; exact Nat.le_refl _,fun c hc hno => hsame c fun e => hno b _ hb e.symm,j4.trans k4,j5.trans k5,j6.trans k6⟩,by simp,fun t x hx hlt => ?_⟩,?_,?_,rfl,rfl⟩
 · by_cases q : b = t
   · subst q
     rw [qF (aI hb)] at hx
     cases hx
     refine ⟨g1,⟨_,ty,j1,by rw [iQ,iQ]; exact g3,fun k x hk => ?_⟩,?_⟩
     · obtain ⟨y,hy,hvr⟩ := mO (m := m) hk
       have hk2 : k < l.length * 3 := by
        have := aI hk
        rwa [gE,hl'] at this
       rw [hvals'] at hy
       exact ⟨y,by rw [hnew k hk2]; exact hy,hvr⟩
     · rw [List.length_set]
       intro x hx
       obtain ⟨c,hc,hx⟩ := List.mem_flatten.1 hx
       obtain ⟨r,_,rfl⟩ := List.mem_map.1 hc
       simp [aD.c] at hx
       rcases hx with rfl | rfl | rfl <;> trivial
   · rw [qB q] at hx
     obtain ⟨a1,a2,a3⟩ := s.at_ t x hx
     rw [List.length_set]
     exact ⟨a1,by rw [hsame _ (s.inj t b x _ (fun e => q e.symm) hx hb)]; exact a2,a3⟩
 · have old : ∀ t x,(H.set b (some (.row ((l.eraseIdx i ++ [vB]).map aD.c).flatten)))[t]? = some (some x) → ∃ x',H[t]? = some (some x') := fun t x h => by
    by_cases q : b = t
    · subst q; exact ⟨_,hb⟩
    · rw [qB q] at h; exact ⟨x,h⟩
   obtain ⟨x',hx'⟩ := old t x hx
   obtain ⟨y',hy'⟩ := old u y hy
   exact s.inj t u x' y' htu hx' hy'
 · by_cases q : b = t
   · subst q; exact ⟨_,_,hb,rfl⟩
   · rw [qB q] at hx; exact ⟨t,x,hx,rfl⟩
 · simp only [VR]
   exact ⟨_,cap,rfl,by omega,by simp,.inr ⟨rfl,fun i' off e => by cases e; omega⟩⟩
 · simp only [AV.bdd,Pl.bdd,List.length_set]; exact aI hb
end Go.Proofs.Ab
namespace Go.Proofs.Ab
open Go Go.Proofs
variable {w0 : World} {h : aA}
attribute [local irreducible] ACall bF cU aZ dN rvC lp rg dr ex un rv
theorem shr_bt {a n : Nat} : ((a / 2 ^ n % 2 : Nat) : Int) = if a.testBit n = true then 1 else 0 := by
 rw [Nat.testBit_eq_decide_div_mod_eq]
 by_cases q : a / 2 ^ n % 2 = 1
 · simp [q]
 · have : a / 2 ^ n % 2 = 0 := by omega
   simp [this]
structure PF where
 a3 : Nat
 a7 : Nat
 b2 : Nat
 b6 : Nat
structure GX where
 sv : AV
 mv : AV
 i : Int
 ns : Nat
 nm : Nat
 ios : Nat
 iom : Nat
 sc : List AV
 mc : List AV
 rc : List AV
def uM (k : Nat) : Nat := if k = 8 then 10 else if k = 9 then 11 else k + 40
def jR (G : aA) (x : GX) (p : PF) (H : aA) : Nat → AV → Prop
 | 0,v => v = x.sv
 | 1,v => v = .int .i64 x.i
 | 2,v => G.length ≤ p.b2 ∧ v = .sl (.own p.b2 0) 1 1 true ∧ H[p.b2]? = some (some (.row [.int .i64 x.i]))
 | 3,v => G.length ≤ p.a3 ∧ v = .sl (.own p.a3 0) (x.ns + 1) 1 false ∧ H[p.a3]? = some (some (.row (x.sc ++ [.int .i64 x.i])))
 | 4,v => v = x.mv
 | 5,v => v = .agg x.rc
 | 6,v => G.length ≤ p.b6 ∧ v = .sl (.own p.b6 0) 1 3 true ∧ H[p.b6]? = some (some (.row x.rc))
 | 7,v => p.a3 < p.a7 ∧ v = .sl (.own p.a7 0) (x.nm + 1) 3 false ∧ H[p.a7]? = some (some (.row (x.mc ++ x.rc)))
 | 8,v => v = .sl (.own p.a3 0) (x.ns + 1) 1 false
 | 9,v => v = .sl (.own p.a7 0) (x.nm + 1) 3 false
 | _,_ => True
structure FJ (G : aA) (x : GX) (fr0 : Fr) (p : PF) (S : Nat → Bool) (fr : Fr) (H : aA) : Prop where
 sub : aF (mk x.ns x.ios (mk x.nm x.iom G)) H
 hs : S 3 = false → x.ns ≠ 0 → H[x.ios]? = some (some (.row x.sc))
 hm : S 7 = false → x.nm ≠ 0 → H[x.iom]? = some (some (.row x.mc))
 keep : ∀ t,t < 40 → (t = 10 → S 8 = false) → (t = 11 → S 9 = false) → fr.get t = fr0.get t
 val : ∀ k,k < 10 → S k = true → jR G x p H k (fr.get (uM k))
 o3 : ∀ k,k < 7 → S k = false → S 7 = false
 o7 : S 7 = false → S 8 = false ∧ S 9 = false
structure GO (w0 : World) (G : aA) (x : GX) (rp : Pl) : Prop where
 gs : (x.ns = 0 ∧ x.sv = .nilS ∧ x.sc = []) ∨ (x.ns ≠ 0 ∧ x.sv = .sl (.own x.ios 0) x.ns 1 false ∧ G[x.ios]? = some (some (.row x.sc)) ∧ x.sc.length = x.ns * 1)
 gm : (x.nm = 0 ∧ x.mv = .nilS ∧ x.mc = []) ∨ (x.nm ≠ 0 ∧ x.mv = .sl (.own x.iom 0) x.nm 3 false ∧ G[x.iom]? = some (some (.row x.mc)) ∧ x.mc.length = x.nm * 3)
 ne : x.ns ≠ 0 → x.nm ≠ 0 → x.ios ≠ x.iom
 rr : rdn w0 (mk x.ns x.ios (mk x.nm x.iom G)) rp 3 = some x.rc
 r3 : x.rc.length = 3
 r1 : x.rc.all Ab.one = true
 n : x.ns ≤ 1000 ∧ x.nm ≤ 1000
section
variable {G : aA} {x : GX} {fr0 : Fr} {p : PF} {S : Nat → Bool} {fr : Fr} {H : aA} {rp : Pl}
theorem zL {H' : aA} (s : ∀ c b,G.length ≤ c → H[c]? = some (some b) → H'[c]? = some (some b)) : ∀ {k : Nat} {v : AV},(k = 7 → G.length ≤ p.a3) → jR G x p H k v → jR G x p H' k v := fun {k} {v} h7 e => by
 match k with
 | 2 => exact ⟨e.1,e.2.1,s _ _ e.1 e.2.2⟩
 | 3 => exact ⟨e.1,e.2.1,s _ _ e.1 e.2.2⟩
 | 6 => exact ⟨e.1,e.2.1,s _ _ e.1 e.2.2⟩
 | 7 => exact ⟨e.1,e.2.1,s _ _ (by have := h7 rfl; have := e.1; omega) e.2.2⟩
 | 0 | 1 | 4 | 5 | 8 | 9 => exact e
 | n + 10 => trivial
theorem aDA {k i : Nat} (hk : k < 10) (hi : i < 10) (h : k ≠ i) : uM k ≠ uM i := by
 unfold uM; split <;> split <;> (try split) <;> (try split) <;> omega
theorem FJ.step (u : FJ G x fr0 p S fr H) {i : Nat} (hi : i < 10) (hS : S i = false) {H' : aA} {v : AV} {p' : PF} (sub : aF (Ab.mk x.ns x.ios (Ab.mk x.nm x.iom G)) H') (hp : ∀ k,k ≠ i → k < 10 → S k = true → ∀ w,jR G x p H k w → jR G x p' H' k w)
 (hs : bU S i 3 = false → x.ns ≠ 0 → H'[x.ios]? = some (some (.row x.sc))) (hm : bU S i 7 = false → x.nm ≠ 0 → H'[x.iom]? = some (some (.row x.mc))) (o3 : i = 7 → ∀ k,k < 7 → S k = true) (o7 : i = 8 ∨ i = 9 → S 7 = true) (hv : jR G x p' H' i v) :
 FJ G x fr0 p' (bU S i) (fr.put (some (uM i)) v) H' := by
 have wf : ∀ {j : Nat},bU S i j = false → j ≠ i ∧ S j = false := fun {j} e => by
  by_cases q : j = i
  · subst q; rw [bL] at e; cases e
  · rw [aQ q] at e; exact ⟨q,e⟩
 refine ⟨sub,hs,hm,fun t ht h10 h11 => ?_,fun k hk hsk => ?_,fun k hk e => ?_,fun e => ?_⟩
 · rw [nA (by
    intro e
    cases e
    unfold uM at ht h10 h11
    split at ht
    · rename_i q; subst q
      have := h10 rfl
      rw [bL] at this; cases this
    · split at ht
      · rename_i q; subst q
        have := h11 rfl
        rw [bL] at this; cases this
      · omega)]
   exact u.keep t ht (fun e => (wf (h10 e)).2) (fun e => (wf (h11 e)).2)
 · by_cases q : k = i
   · subst q; rw [bY]; exact hv
   · rw [aQ q] at hsk
     rw [nA (fun e => aDA hk hi q (Option.some.inj e).symm)]
     exact hp k q hk hsk _ (u.val k hk hsk)
 · obtain ⟨e1,e2⟩ := wf e
   have e3 := u.o3 k hk e2
   by_cases q : i = 7
   · subst q
     rw [o3 rfl k hk] at e2; cases e2
   · rw [aQ (fun e => q e.symm)]; exact e3
 · obtain ⟨e1,e2⟩ := wf e
   obtain ⟨e3,e4⟩ := u.o7 e2
   have n8 : i ≠ 8 := fun q => by have := o7 (.inl q); rw [e2] at this; cases this
   have n9 : i ≠ 9 := fun q => by have := o7 (.inr q); rw [e2] at this; cases this
   rw [aQ n8.symm,aQ n9.symm]
   exact ⟨e3,e4⟩
theorem sL {c : Nat} {b : Blk} (h : (mk x.ns x.ios (mk x.nm x.iom G))[c]? = some (some b)) : (x.ns ≠ 0 → c ≠ x.ios) ∧ (x.nm ≠ 0 → c ≠ x.iom) := by
 unfold mk at h
 refine ⟨fun h1 e => ?_,fun h1 e => ?_⟩
 · subst e
   rw [if_neg h1] at h
   have := aI h
   rw [List.length_set] at this
   rw [qF this] at h; cases h
 · subst e
   rw [if_neg h1] at h
   split at h
   · have := aI h
     rw [List.length_set] at this
     rw [qF this] at h; cases h
   · by_cases q : x.ios = x.iom
     · rw [q] at h
       have := aI h
       rw [List.length_set] at this
       rw [qF this] at h; cases h
     · rw [qB q] at h
       have := aI h
       rw [List.length_set] at this
       rw [qF this] at h; cases h
theorem aDR : (mk x.ns x.ios (mk x.nm x.iom G)).length = G.length := by unfold mk; split <;> split <;> simp
theorem aDB {Q : Exit → Fr → aA → Prop} {its : List It} {nt Z r : Nat} (o : GO w0 G x rp) (f10 : fr0.get 10 = x.sv) (f11 : fr0.get 11 = x.mv) (f12 : fr0.get 12 = .int .i64 x.i) (f13 : fr0.get 13 = .ptr rp)
 (fin : ∀ fr H a3 a7,(∀ t,t < 40 → t ≠ 10 → t ≠ 11 → fr.get t = fr0.get t) → fr.get 10 = .sl (.own a3 0) (x.ns + 1) 1 false → fr.get 11 = .sl (.own a7 0) (x.nm + 1) 3 false → aF (mk x.ns x.ios (mk x.nm x.iom G)) H → G.length ≤ a3 → a3 < a7 →
  H[a3]? = some (some (.row (x.sc ++ [.int .i64 x.i]))) → H[a7]? = some (some (.row (x.mc ++ x.rc))) → un Tryz.prog w0 none nt Z Q .normal its fr H) : dr Tryz.prog w0 none nt Z Q D56_0 B56_0 its fr0 G := by
 refine dr_J aU (fun S fr H => ∃ p,FJ G x fr0 p S fr H) ⟨⟨0,0,0,0⟩,?_,?_,?_,fun _ _ _ _ => rfl,fun k _ e => (by cases e),fun _ _ _ => rfl,fun _ => ⟨rfl,rfl⟩⟩ ?_ ?_
 · exact (by unfold mk; split <;> split <;> first | exact aF.refl | exact aF.msk | exact aF.msk.trans aF.msk)
 · intro _ h0
   rcases o.gs with h | h
   · exact absurd h.1 h0
   · exact h.2.2.1
 · intro _ h0
   rcases o.gm with h | h
   · exact absurd h.1 h0
   · exact h.2.2.1
 · rintro S i y fr H hx hS hb ⟨p,u⟩
   have hi10 : i < 10 := aE hx
   have k3 : S 3 = true → G.length ≤ p.a3 := fun e => (u.val 3 (by omega) e).1
   have k7 : S 7 = true → S 3 = true := fun e => by
    cases h : S 3 with
    | true => rfl
    | false => rw [u.o3 3 (by omega) h] at e; cases e
   have hGl : G.length ≤ H.length := by have := u.sub.1; rw [aDR] at this; exact this
   have quiet : ∀ {v : AV},i ≠ 3 → i ≠ 7 → (i = 8 ∨ i = 9 → S 7 = true) → jR G x p H i v → ∃ p,FJ G x fr0 p (bU S i) (fr.put (some (uM i)) v) H := fun n3 n7 h8 hv =>
    ⟨p,u.step hi10 hS u.sub (fun _ _ _ _ _ e => e) (fun e => u.hs (by rwa [aQ (fun q => n3 q.symm)] at e)) (fun e => u.hm (by rwa [aQ (fun q => n7 q.symm)] at e)) (fun q => absurd q n7) h8 hv⟩
   have up : ∀ {H' : aA} {p' : PF},(∀ c b,G.length ≤ c → H[c]? = some (some b) → H'[c]? = some (some b)) → (p'.a3 = p.a3 ∨ S 3 = false ∧ i = 3) → (p'.a7 = p.a7 ∨ i = 7) → (p'.b2 = p.b2 ∨ i = 2) → (p'.b6 = p.b6 ∨ i = 6) → ∀ k,k ≠ i → k < 10 → S k = true → ∀ w,jR G x p H k w → jR G x p' H' k w := fun {H' p'} s h3 h7 h2 h6 k hk hk10 hsk w e => by
    have e' := zL s (fun q => k3 (k7 (q ▸ hsk))) e
    match k,hk10 with
    | 0,_ => exact e'
    | 1,_ => exact e'
    | 2, _ => rcases h2 with h | h
              · simp only [jR] at e' ⊢; rw [h]; exact e'
              · exact absurd h.symm hk
    | 3, _ => rcases h3 with h | h
              · simp only [jR] at e' ⊢; rw [h]; exact e'
              · rw [h.1] at hsk; cases hsk
    | 4,_ => exact e'
    | 5,_ => exact e'
    | 6, _ => rcases h6 with h | h
              · simp only [jR] at e' ⊢; rw [h]; exact e'
              · exact absurd h.symm hk
    | 7,_ =>
     rcases h7 with h | h
     · rcases h3 with g | g
       · show p'.a3 < p'.a7 ∧ _
         rw [g,h]; exact e'
       · have := k7 hsk; rw [g.1] at this; cases this
     · exact absurd h.symm hk
    | 8,_ =>
     rcases h3 with g | g
     · simp only [jR] at e' ⊢; rw [g]; exact e'
     · have := u.o7 (u.o3 3 (by omega) g.1); rw [this.1] at hsk; cases hsk
    | 9,_ =>
     rcases h7 with g | g
     · simp only [jR] at e' ⊢; rw [g]; exact e'
     · rw [g] at hS; have := u.o7 hS; rw [this.2] at hsk; cases hsk
   have no8 : i < 8 → S 8 = false ∧ S 9 = false := fun h => by
    by_cases q : i = 7
    · exact u.o7 (q ▸ hS)
    · exact u.o7 (u.o3 i (by omega) hS)
   rcases i with _ | _ | _ | _ | _ | _ | _ | _ | _ | _ | i
   · cases hx
     exact ⟨x.sv,H,by simp [aop,Opd.ev,u.keep 10 (by omega) (fun _ => (no8 (by omega)).1) (by omega),f10],quiet (by omega) (by omega) (by omega) rfl⟩
   · cases hx
     exact ⟨.int .i64 x.i,H,by simp [aop,Opd.ev,u.keep 12 (by omega) (by omega) (by omega),f12],quiet (by omega) (by omega) (by omega) rfl⟩
   · cases hx
     have e1 : fr.get 41 = .int .i64 x.i := u.val 1 (by omega) (hb 1 (by decide))
     refine ⟨.sl (.own H.length 0) 1 1 true,H ++ [some (.row [.int .i64 x.i])],by simp [aop,Opd.ev,e1,dQ,cellsOf,Ab.one,dK,bW,eD],⟨p.a3,p.a7,H.length,p.b6⟩,?_⟩
     exact u.step hi10 hS u.sub.app (up (fun c b _ e => aC e) (.inl rfl) (.inl rfl) (.inr rfl) (.inl rfl)) (fun e n => aC (u.hs (by rwa [aQ (by omega)] at e) n)) (fun e n => aC (u.hm (by rwa [aQ (by omega)] at e) n)) (by omega) (by omega) ⟨hGl,rfl,by rw [qI (Nat.le_refl _),Nat.sub_self]; rfl⟩
   · cases hx
     have e0 : fr.get 40 = x.sv := u.val 0 (by omega) (hb 0 (by decide))
     obtain ⟨g1,e2,e3⟩ := u.val 2 (by omega) (hb 2 (by decide))
     have e2 : fr.get 42 = .sl (.own p.b2 0) 1 1 true := e2
     have hov : x.ns = 0 ∧ fr.get 40 = .nilS ∧ x.sc = [] ∨ x.ns ≠ 0 ∧ fr.get 40 = .sl (.own x.ios 0) x.ns 1 false ∧ H[x.ios]? = some (some (.row x.sc)) ∧ x.sc.length = x.ns * 1 := by
      rcases o.gs with ⟨h1,h2,h3⟩ | ⟨h1,h2,h3,h4⟩
      · exact .inl ⟨h1,by rw [e0,h2],h3⟩
      · exact .inr ⟨h1,by rw [e0,h2],u.hs hS h1,h4⟩
     obtain ⟨H',a1,a2,a3,a4⟩ := kM (w0 := w0) (b := 8) (f := true) hov e3 rfl rfl (by omega) (by have := o.n; omega)
     have hoG : x.ns ≠ 0 → x.ios < G.length := fun n => by
      rcases o.gs with h | h
      · exact absurd h.1 n
      · exact aI h.2.2.1
     refine ⟨_,_,by simp only [yW,Opd.ev,e2]; exact a1,⟨H.length,p.a7,p.b2,p.b6⟩,?_⟩
     exact u.step hi10 hS ⟨by have := u.sub.1; omega,fun c b e => a4 c _ (fun n => (sL e).1 n) (u.sub.2 c b e)⟩ (up (fun c b hc e => a4 c _ (fun n => by have := hoG n; omega) e) (.inr ⟨hS,rfl⟩) (.inl rfl) (.inl rfl) (.inl rfl)) (fun e => by rw [bL] at e; cases e)
      (fun e n => a4 _ _ (fun n2 e2 => o.ne n2 n e2.symm) (u.hm (by rwa [aQ (by omega)] at e) n)) (by omega) (by omega) ⟨hGl,rfl,a3⟩
   · cases hx
     exact ⟨x.mv,H,by simp [aop,Opd.ev,u.keep 11 (by omega) (by omega) (fun _ => (no8 (by omega)).2),f11],quiet (by omega) (by omega) (by omega) rfl⟩
   · cases hx
     have e1 : fr.get 13 = .ptr rp := by rw [u.keep 13 (by omega) (by omega) (by omega),f13]
     exact ⟨.agg x.rc,H,by simp [aop,Opd.ev,e1,rdv,u.sub.rdn o.rr],quiet (by omega) (by omega) (by omega) rfl⟩
   · cases hx
     have e1 : fr.get 45 = .agg x.rc := u.val 5 (by omega) (hb 5 (by decide))
     refine ⟨.sl (.own H.length 0) 1 3 true,H ++ [some (.row x.rc)],?_,⟨p.a3,p.a7,p.b2,H.length⟩,?_⟩
     · have r3 := o.r3
       have r1 := o.r1
       obtain ⟨x1,x2,x3,hrc⟩ : ∃ x1 x2 x3,x.rc = [x1,x2,x3] := by
        match h : x.rc,r3 with
        | [x1,x2,x3],_ => exact ⟨x1,x2,x3,rfl⟩
       rw [hrc] at r1 e1 ⊢
       have ho : Ab.one x1 = true ∧ Ab.one x2 = true ∧ Ab.one x3 = true := by simpa using r1
       simp [aop,Opd.ev,e1,dQ,cellsOf,ho.1,ho.2.1,ho.2.2,dK,bW,eD]
     · exact u.step hi10 hS u.sub.app (up (fun c b _ e => aC e) (.inl rfl) (.inl rfl) (.inl rfl) (.inr rfl)) (fun e n => aC (u.hs (by rwa [aQ (by omega)] at e) n)) (fun e n => aC (u.hm (by rwa [aQ (by omega)] at e) n)) (by omega) (by omega) ⟨hGl,rfl,by rw [qI (Nat.le_refl _),Nat.sub_self]; rfl⟩
   · cases hx
     have e0 : fr.get 44 = x.mv := u.val 4 (by omega) (hb 4 (by decide))
     obtain ⟨g1,e2,e3⟩ := u.val 6 (by omega) (hb 6 (by decide))
     have e2 : fr.get 46 = .sl (.own p.b6 0) 1 3 true := e2
     have hall : ∀ k,k < 7 → S k = true := fun k hk => hb k (by
      rcases k with _ | _ | _ | _ | _ | _ | _ | k
      all_goals first | decide | omega)
     obtain ⟨g3,_,e4⟩ := u.val 3 (by omega) (hall 3 (by omega))
     have hov : x.nm = 0 ∧ fr.get 44 = .nilS ∧ x.mc = [] ∨ x.nm ≠ 0 ∧ fr.get 44 = .sl (.own x.iom 0) x.nm 3 false ∧ H[x.iom]? = some (some (.row x.mc)) ∧ x.mc.length = x.nm * 3 := by
      rcases o.gm with ⟨h1,h2,h3⟩ | ⟨h1,h2,h3,h4⟩
      · exact .inl ⟨h1,by rw [e0,h2],h3⟩
      · exact .inr ⟨h1,by rw [e0,h2],u.hm hS h1,h4⟩
     obtain ⟨H',a1,a2,a3,a4⟩ := kM (w0 := w0) (b := 24) (f := true) hov e3 o.r3 o.r1 (by omega) (by have := o.n; omega)
     have hoG : x.nm ≠ 0 → x.iom < G.length := fun n => by
      rcases o.gm with h | h
      · exact absurd h.1 n
      · exact aI h.2.2.1
     refine ⟨_,_,by simp only [yW,Opd.ev,e2]; exact a1,⟨p.a3,H.length,p.b2,p.b6⟩,?_⟩
     exact u.step hi10 hS ⟨by have := u.sub.1; omega,fun c b e => a4 c _ (fun n => (sL e).2 n) (u.sub.2 c b e)⟩ (up (fun c b hc e => a4 c _ (fun n => by have := hoG n; omega) e) (.inl rfl) (.inr rfl) (.inl rfl) (.inl rfl))
      (fun e => by rw [aQ (by omega),hall 3 (by omega)] at e; cases e) (fun e => by rw [bL] at e; cases e) (fun _ => hall) (by omega) ⟨aI e4,rfl,a3⟩
   · cases hx
     have h7 := hb 7 (by decide)
     have e1 := (u.val 3 (by omega) (k7 h7)).2.1
     exact ⟨_,H,by simp only [yV,Opd.ev]; rfl,quiet (by omega) (by omega) (fun _ => h7) e1⟩
   · cases hx
     have h7 := hb 7 (by decide)
     have e1 := (u.val 7 (by omega) h7).2.1
     exact ⟨_,H,by simp only [yV,Opd.ev]; rfl,quiet (by omega) (by omega) (fun _ => h7) e1⟩
   · omega
 · rintro S fr H hS ⟨p,u⟩
   have v3 := u.val 3 (by omega) (hS 3 (by decide))
   have v7 := u.val 7 (by omega) (hS 7 (by decide))
   exact ⟨fr,fun t => .inr rfl,fin fr H p.a3 p.a7 (fun t ht h1 h2 => u.keep t ht (fun e => absurd e h1) (fun e => absurd e h2)) (u.val 8 (by omega) (hS 8 (by decide))) (u.val 9 (by omega) (hS 9 (by decide))) u.sub v3.1 v7.1 v3.2.2 v7.2.2⟩
end
end Go.Proofs.Ab

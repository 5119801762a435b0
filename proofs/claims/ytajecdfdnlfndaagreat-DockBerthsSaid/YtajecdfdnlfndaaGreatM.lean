/- The own layer under the proofs of this seat, part M: what calls of the program come to on an abstract heap. No condition. -/
import Derived.Test.YtajecdfdnlfndaaGreatK
import Derived.Test.YtajecdfdnlfndaaGreatI
set_option linter.unusedSimpArgs false
set_option linter.unusedVariables false
namespace Go.Proofs.Ab
open Go Go.Proofs
theorem fM {l : List aG} {t : Int} : t ∈ cB l ↔ ∃ s ∈ l,s.cl = t := by rw [cB,rU,List.mem_map]
theorem wU {l : List aG} : (cB l).Pairwise (· ≤ ·) := lN
def bV (s : aG) (t : Int) : Bool := inB t s.cl s.gh
def cD (a b : aG) : Bool := bV a b.cl || bV b a.cl
def aY (l : List aG) (i : Nat) : aG := l.getD i ⟨0,0,0,0⟩
def bI (t : Int) : List aG → Nat → List Int
 | [],_ => []
 | s :: r,i => if bV s t then (i : Int) :: bI t r (i + 1) else bI t r (i + 1)
def cO (l : List aG) (t : Int) : List Int := bI t l 0
def eI (l : List aG) (bs : Int) (t : Int) : Bool := decide (bs < (cO l t).length)
def cT (l : List aG) (bs : Int) : Option Int := (cB l).find? (eI l bs)
def eQ (lo hi a b : Int) : Bool := decide (a ≤ lo) && (decide (lo ≤ hi) && decide (hi ≤ b))
def bH (s : aG) : Bool := eQ s.cl s.ch 0 1440 && (eQ s.gl s.gh 0 1440 && (decide (s.cl ≤ s.gl) && decide (s.ch ≤ s.gh)))
theorem dU {s : aG} : bH s = true ↔ (0 ≤ s.cl ∧ s.cl ≤ s.ch ∧ s.ch ≤ 1440) ∧ (0 ≤ s.gl ∧ s.gl ≤ s.gh ∧ s.gh ≤ 1440) ∧ s.cl ≤ s.gl ∧ s.ch ≤ s.gh := by
 simp [bH,eQ,and_assoc]
def jM (l : List aG) (out : List Int) (b : Int) : Bool := (List.range out.length).all fun i => !(decide (out.getD i 0 = b) && cD (aY l i) (aY l out.length))
def bsD (l : List aG) (bs : Nat) : Nat → List Int → Option (List Int)
 | 0,out => some out
 | k + 1,out => (List.range bs).findSome? fun b : Nat => if jM l out (b : Int) then bsD l bs k (out ++ [(b : Int)]) else none
def dP (l : List aG) (at' : List Int) : Prop := ∀ i,i < at'.length → ∀ k,k < i → at'.getD i 0 = at'.getD k 0 → cD (aY l k) (aY l i) = false
def iY (bs : Nat) (at' : List Int) : Prop := ∀ x ∈ at',0 ≤ x ∧ x < bs
theorem bQ {l m : List Int} {i : Nat} (h : i < l.length) : (l ++ m).getD i 0 = l.getD i 0 := by
 simp [List.getD_eq_getElem?_getD,qH h]
theorem iJ {l : List Int} {x : Int} : (l ++ [x]).getD l.length 0 = x := by simp [List.getD_eq_getElem?_getD]
theorem aBp {l : List aG} {out : List Int} {b : Int} : jM l out b = true ↔ ∀ i,i < out.length → out.getD i 0 = b → cD (aY l i) (aY l out.length) = false := by
 simp only [jM,List.all_eq_true,List.mem_range,Bool.not_eq_true',Bool.and_eq_false_imp,decide_eq_true_eq]
theorem iU {l : List aG} {out : List Int} {b : Int} : dP l (out ++ [b]) ↔ dP l out ∧ jM l out b = true := by
 rw [aBp]
 constructor
 · intro h
   refine ⟨fun i hi k hk e => ?_,fun i hi e => ?_⟩
   · exact h i (by simp; omega) k hk (by rw [bQ hi,bQ (by omega),e])
   · exact h out.length (by simp) i hi (by rw [iJ,bQ hi,e])
 · rintro ⟨h1,h2⟩ i hi k hk e
   simp only [List.length_append,List.length_singleton] at hi
   by_cases hi' : i < out.length
   · rw [bQ hi',bQ (by omega)] at e; exact h1 i hi' k hk e
   · obtain rfl : i = out.length := by omega
     rw [iJ,bQ hk] at e
     exact h2 k hk e.symm
theorem mK {l : List aG} {bs : Nat} : ∀ (k : Nat) (out x : List Int),bsD l bs k out = some x → dP l out → iY bs out → dP l x ∧ iY bs x ∧ x.length = out.length + k ∧ x.take out.length = out
 | 0,out,x,h,ha,hr => by simp only [bsD,Option.some.injEq] at h; subst h; exact ⟨ha,hr,by simp,by simp⟩
 | k + 1,out,x,h,ha,hr => by
  simp only [bsD] at h
  obtain ⟨b,hb,h1⟩ := List.exists_of_findSome?_eq_some h
  rw [List.mem_range] at hb
  split at h1
  · rename_i hf
    obtain ⟨a,c,d,e⟩ := mK k _ x h1 (iU.2 ⟨ha,hf⟩) (fun y hy => by
     rcases List.mem_append.1 hy with hy | hy
     · exact hr y hy
     · rw [List.mem_singleton] at hy; subst hy; omega)
    refine ⟨a,c,by rw [d]; simp; omega,?_⟩
    have := congrArg (List.take out.length) e
    rw [List.take_take] at this
    simpa using this
  · cases h1
def befD : List Int → List Int → Bool
 | a :: r,b :: s => if a = b then befD r s else decide (a < b)
 | _,_ => false
theorem kF {l : List aG} {bs : Nat} : ∀ (k : Nat) (out y : List Int),dP l (out ++ y) → iY bs y → y.length = k → ∃ x,bsD l bs k out = some (out ++ x) ∧ x.length = k ∧ befD y x = false
 | 0,out,y,ha,hr,hk => ⟨[],by simp [bsD],rfl,by cases y <;> rfl⟩
 | k + 1,out,[],ha,hr,hk => by simp at hk
 | k + 1,out,b :: y,ha,hr,hk => by
  have ha' : dP l ((out ++ [b]) ++ y) := by simpa using ha
  have hb : 0 ≤ b ∧ b < bs := hr b (by simp)
  obtain ⟨x,hx,hxl,hx2⟩ := kF k (out ++ [b]) y ha' (fun z hz => hr z (by simp [hz])) (by simpa using hk)
  have hpre : ∀ m : Nat,∀ p : List Int,dP l (p ++ y.take m) → dP l p := by
   intro m p h i hi j hj e
   exact h i (by simp; omega) j hj (by rw [bQ hi,bQ (by omega),e])
  have hf : jM l out b = true := (iU.1 (hpre y.length _ (by simpa using ha'))).2
  have hG : ∀ c : Nat,∀ z,(if jM l out (c : Int) then bsD l bs k (out ++ [(c : Int)]) else none) = some z → ∃ x',z = out ++ ((c : Int) :: x') ∧ x'.length = k := by
   intro c z hz
   split at hz
   · rename_i hc
     have : ∀ (k : Nat) (out z : List Int),bsD l bs k out = some z → ∃ x',z = out ++ x' ∧ x'.length = k := by
      intro k
      induction k with
      | zero => intro out z h; simp only [bsD,Option.some.injEq] at h; exact ⟨[],by simp [h]⟩
      | succ k ih =>
       intro out z h
       simp only [bsD] at h
       obtain ⟨b',_,h1⟩ := List.exists_of_findSome?_eq_some h
       split at h1
       · obtain ⟨x',rfl,hl⟩ := ih _ _ h1; exact ⟨(b' : Int) :: x',by simp,by simp [hl]⟩
       · cases h1
     obtain ⟨x',rfl,hl⟩ := this k _ z hz
     exact ⟨x',by simp,hl⟩
   · cases hz
  obtain ⟨n,rfl⟩ : ∃ n : Nat,b = n := ⟨b.toNat,by omega⟩
  have hlt : n < bs := by omega
  cases hd : bsD l bs (k + 1) out with
  | none =>
   exfalso
   simp only [bsD,List.findSome?_eq_none_iff,List.mem_range] at hd
   have := hd n hlt
   rw [if_pos hf,hx] at this; cases this
  | some z =>
   simp only [bsD] at hd
   rw [List.findSome?_eq_some_iff] at hd
   obtain ⟨l1,c,l2,e,hz,hno⟩ := hd
   obtain ⟨x',rfl,hl⟩ := hG c z hz
   refine ⟨_,rfl,by simp [hl],?_⟩
   have hc : c = l1.length := by
    have h1 := congrArg (fun q => q[l1.length]?) e
    have hlen := congrArg List.length e
    simp only [List.length_range,List.length_append,List.length_cons] at hlen
    simp only [List.getElem?_range (show l1.length < bs by omega)] at h1
    simp at h1; omega
   have hcn : c ≤ n := by
    refine Nat.le_of_not_lt fun hlt' => ?_
    have hmem : n ∈ l1 := by
     have : (List.range bs)[n]? = some n := by simp [hlt]
     rw [e,qH (by omega)] at this
     exact List.mem_of_getElem? this
    have := hno n hmem
    rw [if_pos hf,hx] at this; cases this
   simp only [befD]
   split
   · rename_i hh
     obtain rfl : n = c := by omega
     rw [if_pos hf,hx] at hz
     simp only [Option.some.injEq,List.append_assoc,List.singleton_append,List.append_cancel_left_eq,List.cons.injEq,true_and] at hz
     rw [← hz]; exact hx2
   · simp; omega
theorem fS {t : Int} : ∀ (l : List aG) (i : Nat) (x : Int),x ∈ bI t l i ↔ ∃ j,j < l.length ∧ bV (aY l j) t = true ∧ x = ((i + j : Nat) : Int)
 | [],i,x => by simp [bI]
 | s :: r,i,x => by
  have key : (∃ j,j < (s :: r).length ∧ bV (aY (s :: r) j) t = true ∧ x = ((i + j : Nat) : Int)) ↔ (bV s t = true ∧ x = i) ∨ ∃ j,j < r.length ∧ bV (aY r j) t = true ∧ x = ((i + 1 + j : Nat) : Int) := by
   constructor
   · rintro ⟨j,hj,h1,h2⟩
     cases j with
     | zero => exact .inl ⟨h1,by omega⟩
     | succ j => exact .inr ⟨j,by simpa using hj,h1,by omega⟩
   · rintro (⟨h1,h2⟩ | ⟨j,hj,h1,h2⟩)
     · exact ⟨0,by simp,h1,by omega⟩
     · exact ⟨j + 1,by simpa using hj,h1,by omega⟩
  rw [key,bI]
  split
  · rename_i h; rw [List.mem_cons,fS r (i + 1)]; simp [h]
  · rename_i h; rw [fS r (i + 1)]; simp [h]
theorem dW {l : List aG} {t x : Int} : x ∈ cO l t ↔ ∃ j,j < l.length ∧ bV (aY l j) t = true ∧ x = (j : Int) := by
 simp [cO,fS]
theorem hJ {t : Int} : ∀ (l : List aG) (i : Nat),(bI t l i).Pairwise (· < ·)
 | [],i => by simp [bI]
 | s :: r,i => by
  rw [bI]
  split
  · rw [List.pairwise_cons]
    refine ⟨fun x hx => ?_,hJ r (i + 1)⟩
    obtain ⟨j,_,_,rfl⟩ := (fS r (i + 1) x).1 hx; omega
  · exact hJ r (i + 1)
theorem qJ (l : List aG) (t : Int) : (cO l t).Nodup := (hJ l 0).imp fun h => by omega
theorem gK {α} [DecidableEq α] : ∀ {a b : List α},a.Nodup → (∀ x ∈ a,x ∈ b) → a.length ≤ b.length
 | [],b,_,_ => by simp
 | x :: a,b,hn,h => by
  rw [List.nodup_cons] at hn
  have hx := h x (by simp)
  have := gK (a := a) (b := b.erase x) hn.2 fun y hy => by
   rw [List.mem_erase_of_ne (show y ≠ x from fun e => hn.1 (e ▸ hy))]; exact h y (by simp [hy])
  rw [List.length_erase_of_mem hx] at this
  have : 0 < b.length := List.length_pos_of_mem hx
  simp; omega
theorem aBm {bs : Nat} {l : List Int} (h : l.length < bs) : ∃ b : Nat,b < bs ∧ (b : Int) ∉ l := by
 refine Classical.byContradiction fun hc => ?_
 have : ((List.range bs).map fun n : Nat => (n : Int)).length ≤ l.length := gK (by
  rw [List.nodup_iff_pairwise_ne,List.pairwise_map]
  exact List.pairwise_lt_range.imp fun h => by omega) (by
  intro x hx
  obtain ⟨b,hb,rfl⟩ := List.mem_map.1 hx
  exact Classical.byContradiction fun hn => hc ⟨b,List.mem_range.1 hb,hn⟩)
 simp at this; omega
theorem aA7 {f : Nat → Int} : ∀ l : List Nat,l ≠ [] → ∃ i ∈ l,∀ j ∈ l,f j ≤ f i
 | [x],_ => ⟨x,by simp,by simp⟩
 | x :: y :: r,_ => by
  obtain ⟨i,hi,hm⟩ := aA7 (f := f) (y :: r) (by simp)
  by_cases h : f x ≤ f i
  · exact ⟨i,by simp [List.mem_cons.1 hi],fun j hj => by
     rcases List.mem_cons.1 hj with rfl | hj
     · exact h
     · exact hm j hj⟩
  · exact ⟨x,by simp,fun j hj => by
     rcases List.mem_cons.1 hj with rfl | hj
     · omega
     · have := hm j hj; omega⟩
theorem lV (a b : aG) : cD a b = cD b a := by simp [cD,Bool.or_comm]
theorem vZ {l : List aG} {bs : Nat} (hl : ∀ s ∈ l,bH s = true) (hc : ∀ s ∈ l,(cO l s.cl).length ≤ bs) :
 ∀ (m : Nat) (I : List Nat),I.length = m → I.Nodup → (∀ i ∈ I,i < l.length) → ∃ c : Nat → Nat,(∀ i ∈ I,c i < bs) ∧ ∀ i ∈ I,∀ j ∈ I,i ≠ j → cD (aY l i) (aY l j) = true → c i ≠ c j
 | 0,I,h0,_,_ => by
  obtain rfl : I = [] := List.length_eq_zero_iff.1 h0
  exact ⟨fun _ => 0,by simp,by simp⟩
 | m + 1,I,hm,hn,hi => by
  obtain ⟨i,hiI,hmax⟩ := aA7 (f := fun j => (aY l j).cl) I (by intro e; simp [e] at hm)
  obtain ⟨c,c1,c2⟩ := vZ hl hc m (I.erase i) (by rw [List.length_erase_of_mem hiI]; omega) (hn.erase i) fun j hj => hi j (List.mem_of_mem_erase hj)
  have ht : ∀ j ∈ I,cD (aY l j) (aY l i) = true → bV (aY l j) (aY l i).cl = true := by
   intro j hj h
   have h1 := hmax j hj
   have h2 : ∀ k ∈ I,(aY l k).cl ≤ (aY l k).gh := fun k hk => by
    have : aY l k ∈ l := by
     have := hi k hk
     simp only [aY,List.getD_eq_getElem?_getD,qA this,Option.getD_some]
     exact qG this
    have := dU.1 (hl _ this); omega
   have := h2 j hj; have := h2 i hiI
   simp only [cD,bV,inB,Bool.or_eq_true,Bool.and_eq_true,decide_eq_true_eq] at h ⊢
   omega
  have hself : bV (aY l i) (aY l i).cl = true := ht i hiI (by
   have : aY l i ∈ l := by
    have := hi i hiI
    simp only [aY,List.getD_eq_getElem?_getD,qA this,Option.getD_some]
    exact qG this
   have := dU.1 (hl _ this)
   simp only [cD,bV,inB,Bool.or_eq_true,Bool.and_eq_true,decide_eq_true_eq]; omega)
  obtain ⟨N,hN⟩ : ∃ N,N = (I.erase i).filter fun j => cD (aY l j) (aY l i) := ⟨_,rfl⟩
  have hlen : N.length < bs := by
   have h1 : ((i :: N).map fun n : Nat => (n : Int)).length ≤ (cO l (aY l i).cl).length := gK (by
    rw [List.nodup_iff_pairwise_ne,List.pairwise_map]
    have : (i :: N).Nodup := by
     rw [List.nodup_cons,hN]
     refine ⟨fun h => ?_,(hn.erase i).filter _⟩
     have := (List.mem_filter.1 h).1
     rw [hn.mem_erase_iff] at this
     exact this.1 rfl
    exact this.imp fun h => by omega) (by
    intro x hx
    obtain ⟨j,hj,rfl⟩ := List.mem_map.1 hx
    rw [dW]
    rcases List.mem_cons.1 hj with rfl | hj
    · exact ⟨j,hi _ hiI,hself,rfl⟩
    · rw [hN,List.mem_filter] at hj
      have hjI := List.mem_of_mem_erase hj.1
      exact ⟨j,hi _ hjI,ht j hjI hj.2,rfl⟩)
   have h2 := hc (aY l i) (by
    have := hi i hiI
    simp only [aY,List.getD_eq_getElem?_getD,qA this,Option.getD_some]
    exact qG this)
   simp at h1; omega
  obtain ⟨b,hb,hbf⟩ := aBm (bs := bs) (l := N.map fun j => (c j : Int)) (by simpa using hlen)
  have hfree : ∀ j ∈ I,j ≠ i → cD (aY l j) (aY l i) = true → c j ≠ b := by
   intro j hj hne h e
   refine hbf (List.mem_map.2 ⟨j,?_,by rw [e]⟩)
   rw [hN,List.mem_filter,hn.mem_erase_iff]
   exact ⟨⟨hne,hj⟩,h⟩
  refine ⟨fun j => if j = i then b else c j,fun j hj => ?_,fun j hj k hk hne h => ?_⟩
  · by_cases e : j = i
    · simp [e,hb]
    · simp only [e,if_false]; exact c1 j (by rw [hn.mem_erase_iff]; exact ⟨e,hj⟩)
  · by_cases ej : j = i
    · subst ej
      have ek : k ≠ j := fun e => hne e.symm
      simp only [if_true,ek,if_false]
      exact fun e => hfree k hk ek (by rw [lV]; exact h) e.symm
    · by_cases ek : k = i
      · subst ek
        simp only [ej,if_false,if_true]
        exact hfree j hj ej h
      · simp only [ej,ek,if_false]
        exact c2 j (by rw [hn.mem_erase_iff]; exact ⟨ej,hj⟩) k (by rw [hn.mem_erase_iff]; exact ⟨ek,hk⟩) hne h
theorem tS {l : List aG} {bs : Nat} (hl : ∀ s ∈ l,bH s = true) (hc : cT l bs = none) : ∃ y,dP l y ∧ iY bs y ∧ y.length = l.length := by
 have hc' : ∀ s ∈ l,(cO l s.cl).length ≤ bs := fun s hs => by
  simp only [cT,List.find?_eq_none] at hc
  have := hc s.cl (fM.2 ⟨s,hs,rfl⟩)
  simp only [eI,decide_eq_true_eq] at this; omega
 obtain ⟨c,c1,c2⟩ := vZ hl hc' l.length (List.range l.length) (by simp) List.nodup_range (by simp)
 have hg : ∀ i,i < l.length → ((List.range l.length).map fun i => (c i : Int)).getD i 0 = c i := fun i hi => by simp [List.getD_eq_getElem?_getD,hi]
 refine ⟨(List.range l.length).map fun i => (c i : Int),fun i hi k hk e => ?_,fun x hx => ?_,by simp⟩
 · simp only [List.length_map,List.length_range] at hi
   rw [hg i hi,hg k (by omega)] at e
   cases hm : cD (aY l k) (aY l i)
   · rfl
   · exact absurd (by omega) (c2 k (by simp; omega) i (by simp [hi]) (by omega) hm)
 · obtain ⟨i,hi,rfl⟩ := List.mem_map.1 hx
   have := c1 i hi; omega
theorem aBt {l : List aG} {bs : Nat} (t : Int) (hc : bs < (cO l t).length) {y : List Int} (ha : dP l y) (hr : iY bs y) (hy : y.length = l.length) : False := by
 have hinj : ((cO l t).map fun x => y.getD x.toNat 0).Nodup := by
  rw [List.nodup_iff_pairwise_ne,List.pairwise_map]
  refine (List.Pairwise.and_mem.1 (hJ l 0)).imp fun {a b} h => ?_
  obtain ⟨h1,h2,h3⟩ := h
  obtain ⟨j,hj,tj,rfl⟩ := dW.1 h1
  obtain ⟨k,hk,tk,rfl⟩ := dW.1 h2
  intro e
  have := ha k (by omega) j (by omega) (by simpa using e.symm)
  simp only [cD,bV,inB,Bool.or_eq_false_iff,Bool.and_eq_false_imp,decide_eq_true_eq,decide_eq_false_iff_not] at this tj tk
  simp only [Bool.and_eq_true,decide_eq_true_eq] at tj tk
  omega
 have := gK (b := (List.range bs).map fun n : Nat => (n : Int)) hinj fun x hx => by
  obtain ⟨z,hz,rfl⟩ := List.mem_map.1 hx
  obtain ⟨j,hj,_,rfl⟩ := dW.1 hz
  have := hr (y.getD (j : Int).toNat 0) (by
   have : j < y.length := by omega
   simp [List.getD_eq_getElem?_getD,this])
  rw [List.mem_map]
  exact ⟨(y.getD (j : Int).toNat 0).toNat,by rw [List.mem_range]; omega,by omega⟩
 simp at this; omega
theorem aBz {a b : aG} (ha : bH a = true) (hb : bH b = true) : cD a b = (decide (a.cl ≤ b.gh) && decide (b.cl ≤ a.gh)) := by
 have h1 := dU.1 ha
 have h2 := dU.1 hb
 rw [Bool.eq_iff_iff]
 simp only [cD,bV,inB,Bool.or_eq_true,Bool.and_eq_true,decide_eq_true_eq]
 omega
theorem lF {p : Int → Bool} {t u : Int} : ∀ {l : List Int},l.Pairwise (· ≤ ·) → l.find? p = some t → u ∈ l → p u = true → t ≤ u
 | [],_,h,_,_ => by simp at h
 | x :: r,hp,h,hu,hpu => by
  rw [List.pairwise_cons] at hp
  rw [List.find?_cons] at h
  split at h
  · simp only [Option.some.injEq] at h; subst h
    rcases List.mem_cons.1 hu with rfl | hu
    · omega
    · exact hp.1 u hu
  · rename_i hx
    rcases List.mem_cons.1 hu with rfl | hu
    · rw [hpu] at hx; cases hx
    · exact lF hp.2 h hu hpu
theorem xY {l : List aG} {bs : Int} (hl : ∀ s ∈ l,bH s = true) (hbs : 0 ≤ bs) {ts : List Int} (hts : ts.Pairwise (· ≤ ·)) (hm : ∀ t,t ∈ ts ↔ 0 ≤ t ∧ t ≤ 1440) : ts.find? (eI l bs) = cT l bs := by
 have hin : ∀ t ∈ cB l,0 ≤ t ∧ t ≤ 1440 := fun t ht => by
  obtain ⟨s,hs,rfl⟩ := fM.1 ht
  have := dU.1 (hl s hs); omega
 cases h : ts.find? (eI l bs) with
 | none =>
  symm
  simp only [cT,List.find?_eq_none] at h ⊢
  exact fun t ht => h t ((hm t).2 (hin t ht))
 | some t =>
  have hto := List.find?_some h
  have htm := (hm t).1 (List.mem_of_find?_eq_some h)
  have hmem : t ∈ cB l := by
   rw [fM]
   refine Classical.byContradiction fun hc => ?_
   have hsub : ∀ x ∈ cO l t,x ∈ cO l (t - 1) := fun x hx => by
    obtain ⟨j,hj,h1,rfl⟩ := dW.1 hx
    refine dW.2 ⟨j,hj,?_,rfl⟩
    have hsm : aY l j ∈ l := by
     simp only [aY,List.getD_eq_getElem?_getD,qA hj,Option.getD_some]
     exact qG hj
    have : (aY l j).cl ≠ t := fun e => hc ⟨_,hsm,e⟩
    simp only [bV,inB,Bool.and_eq_true,decide_eq_true_eq] at h1 ⊢
    omega
   have hlen := gK (qJ l t) hsub
   have h1 : eI l bs (t - 1) = true := by
    simp only [eI,decide_eq_true_eq] at hto ⊢; omega
   have h0 : 0 ≤ t - 1 := by
    simp only [eI,decide_eq_true_eq] at hto
    cases hp : cO l t with
    | nil => rw [hp] at hto; simp at hto; omega
    | cons x r =>
     obtain ⟨j,hj,h1,_⟩ := dW.1 (show x ∈ cO l t by rw [hp]; simp)
     have hsm : aY l j ∈ l := by
      simp only [aY,List.getD_eq_getElem?_getD,qA hj,Option.getD_some]
      exact qG hj
     have h3 := dU.1 (hl _ hsm)
     have : (aY l j).cl ≠ t := fun e => hc ⟨_,hsm,e⟩
     simp only [bV,inB,Bool.and_eq_true,decide_eq_true_eq] at h1
     omega
   have := lF hts h ((hm (t - 1)).2 (by omega)) h1
   omega
  cases h2 : cT l bs with
  | none =>
   simp only [cT,List.find?_eq_none] at h2
   exact absurd hto (h2 t hmem)
  | some u =>
   have a := lF wU h2 hmem hto
   have b := lF hts h ((hm u).2 (hin u (List.mem_of_find?_eq_some h2))) (List.find?_some h2)
   rw [show t = u by omega]
end Go.Proofs.Ab
namespace Go.Proofs.Ab
open Go Go.Proofs
variable {w0 : World} {h : aA}
attribute [local irreducible] ACall bC dB bE eH rvC lp rg dr ex un rv
theorem oA (s : aG) (t : Int) : bE Tryz.prog w0 119 [.agg s.c,.int .i64 t] h (.bool (bV s t)) h := by
 refine aX aW qS vE vD (qE rfl) (by simp [AV.bdd,AV.bdds]) fun hb ha => bA ?_
 simp only [go_sem,mf119]
 refine aP (in_c t s.cl s.gh).v ?_
 simp only [go_sem]
 rfl
theorem meet_c (a b : aG) : bE Tryz.prog w0 72 [.agg a.c,.agg b.c] h (.bool (cD a b)) h := by
 refine aX aW uP aAm aAl (qE rfl) (by simp [AV.bdd,AV.bdds]) fun hb ha => bA ?_
 simp only [go_sem,mf72]
 refine aP (oA a b.cl).v ?_
 cases e : bV a b.cl with
 | true => simp only [go_sem]; simp [cD,e]
 | false =>
 simp only [go_sem]
 refine aP (oA b a.cl).v ?_
 simp only [go_sem]
 simp [cD,e]
theorem wV (s : aG) : bE Tryz.prog w0 114 [.agg s.c] h (.bool (bH s)) h := by
 refine aX aW qW vM vL (qE rfl) (by simp [AV.bdd,AV.bdds]) fun hb ha => bA ?_
 have s1 : ∀ {H : aA},bE Tryz.prog w0 115 [.agg [.int .i64 s.cl,.int .i64 s.ch],.int .i64 0,.int .i64 1440] H (.bool (eQ s.cl s.ch 0 1440)) H := by
  intro H
  have := zB (w0 := w0) (h := H) s.cl s.ch 0 1440
  rwa [show eQ s.cl s.ch 0 1440 = (decide (0 ≤ s.cl) && (decide (s.cl ≤ s.ch) && decide (s.ch ≤ 1440))) from rfl]
 have s2 : ∀ {H : aA},bE Tryz.prog w0 115 [.agg [.int .i64 s.gl,.int .i64 s.gh],.int .i64 0,.int .i64 1440] H (.bool (eQ s.gl s.gh 0 1440)) H := by
  intro H
  have := zB (w0 := w0) (h := H) s.gl s.gh 0 1440
  rwa [show eQ s.gl s.gh 0 1440 = (decide (0 ≤ s.gl) && (decide (s.gl ≤ s.gh) && decide (s.gh ≤ 1440))) from rfl]
 simp only [go_sem,mf114]
 refine aP s1.v ?_
 cases e1 : eQ s.cl s.ch 0 1440 with
 | false => simp only [go_sem]; simp [bH,e1]
 | true =>
 simp only [go_sem]
 refine aP s2.v ?_
 cases e2 : eQ s.gl s.gh 0 1440 with
 | false => simp only [go_sem]; simp [bH,e2]
 | true =>
 simp only [go_sem]
 exact ⟨fun a => by simp [bH,e1,e2,a],fun a => by simp [bH,a]⟩
def bL (l : List aG) (bs : Int) : Int := if 12 < l.length then 3 else cond (inB bs 0 6 && l.all bH) 0 2
theorem pL (bs : Int) {v : AV} {l : List aG} (hv : Sl w0 h 4 v (l.map aG.c)) : bE Tryz.prog w0 69 [v,.int .i64 bs] h (.int .i64 (bL l bs)) h := by
 refine aX aW uR aAq aAp (qE rfl) (by simp [AV.bdd,AV.bdds]) fun hb ha => bA ?_
 have hlen : gL v = some (.int .i64 l.length) := by have := hv.use.1; rwa [List.length_map] at this
 by_cases hL : 12 < l.length
 · have e1 : (l.length : Int) > 12 := by omega
   simp only [go_sem,mf69,hlen,e1]
   rw [bL,if_pos hL]
 have e1 : ¬ (l.length : Int) > 12 := by omega
 simp only [go_sem,mf69,hlen,e1]
 refine aP (in_c bs 0 6).v ?_
 rw [bL,if_neg hL]
 cases e2 : inB bs 0 6 with
 | false => simp only [go_sem]; simp
 | true =>
 simp only [go_sem]
 have hall := mW (w0 := w0) (h := h ++ []) (l.map aG.c) v (.fn (.func 114) [] []) (fun j => bH (l.getD j ⟨0,0,0,0⟩)) hv.app (fun c hc => by
  obtain ⟨z,_,rfl⟩ := List.mem_map.1 hc; rfl) (by rw [List.length_map]; omega) (fun j c hc _ L => by
  rw [List.getElem?_map] at hc
  obtain ⟨z,hz,rfl⟩ := qD.1 hc
  rw [aBk hz]
  exact bE.vc (P := Tryz.prog) (first := []) (capt := []) (wV z))
 rw [List.length_map,lQ] at hall
 refine aP hall.v ?_
 cases e3 : l.all bH with
 | false => simp only [go_sem]; simp
 | true => simp only [go_sem]; simp
theorem mY {l : List aG} {bs : Int} (e : bL l bs = 0) : l.length ≤ 12 ∧ (0 ≤ bs ∧ bs ≤ 6) ∧ l.all bH = true := by
 unfold bL at e
 split at e
 · omega
 · cases h2 : inB bs 0 6 && l.all bH with
   | false => rw [h2] at e; simp at e
   | true =>
    rw [Bool.and_eq_true,inB,Bool.and_eq_true,decide_eq_true_eq,decide_eq_true_eq] at h2
    exact ⟨by omega,h2⟩
theorem dH {l : List aG} {j : Nat} (hj : j < l.length) : (l.map aG.c)[j]? = some l[j].c := by rw [List.getElem?_map,qA hj]; rfl
theorem gJ (t : Int) (s : aG) : ∀ (l : List aG) (i : Nat),bI t (l ++ [s]) i = bI t l i ++ (if bV s t then [((i + l.length : Nat) : Int)] else [])
 | [],i => by simp [bI]
 | a :: l,i => by
  have := gJ t s l (i + 1)
  rw [show i + 1 + l.length = i + (a :: l).length by simp; omega] at this
  simp only [List.cons_append,bI,this]
  split <;> simp
theorem fT (t : Int) : ∀ (l : List aG) (i : Nat),(bI t l i).length ≤ l.length
 | [],_ => by simp [bI]
 | a :: l,i => by
  have := fT t l (i + 1)
  simp only [bI]; split <;> simp <;> omega
theorem Gro.len {H : aA} {es n : Nat} {ov : AV} {vs : List AV} (g : Gro h H es n ov vs) : gL ov = some (.int .i64 n) := by
 rcases g.own with ⟨rfl,rfl,_⟩ | ⟨_,_,_,rfl,_⟩ <;> rfl
theorem nB (t : Int) {v : AV} {l : List aG} (hv : Sl w0 h 4 v (l.map aG.c)) (hn : l.length < 1000) :
 ACall Tryz.prog w0 73 [v,.int .i64 t] h fun y H => Gro h H 1 (cO l t).length y (cI (cO l t)) := by
 refine aV aW uO aAk aAj (qE rfl) fun hb ha => bA ?_
 have hlen : gL v = some (.int .i64 l.length) := by have := hv.use.1; rwa [List.length_map] at this
 simp only [go_sem,mf73,hlen]
 refine fU (S := Nat × aA × AV) (F := fun s => [(1,.int .i64 t),(5,s.2.2),(8,v),(9,.int .i64 l.length),(10,.int .i64 s.1)]) (H := fun s => s.2.1) (meas := fun s => l.length - s.1)
  (Inv := fun s => s.1 ≤ l.length ∧ Gro h s.2.1 1 (bI t (l.take s.1) 0).length s.2.2 (cI (bI t (l.take s.1) 0))) (0,h,.nilS) ⟨Nat.zero_le _,by simpa [bI,cI] using Gro.nil aJ.refl⟩ rfl (by simp) ?_
 rintro ⟨j,H,ov⟩ ⟨hj,hG⟩ ih
 simp only at hj hG ih ⊢
 refine bD aW aEc [1,5,8,9,10] L73_0.eq_1 ?_
 by_cases hjl : j < l.length
 · have e1 : (j : Int) < l.length := by omega
   obtain ⟨_,q,hix,hrow,_⟩ := (hv.sub hG.sub).use
   rw [List.length_map] at hix
   have e2 := hix j hjl
   have e3 : ∀ L,rdn w0 (H ++ L) (q.add (j * 4)) 4 = some l[j].c := fun L => dJ (hrow j _ (dH hjl))
   have e3' := hrow j _ (dH hjl)
   have hs := gJ t l[j] (l.take j) 0
   rw [← List.take_succ_eq_append_getElem hjl,List.length_take,Nat.min_eq_left hj,Nat.zero_add] at hs
   simp only [go_sem,e1,e2,e3,e3']
   refine aP (oA l[j] t).v ?_
   cases e4 : bV l[j] t with
   | false =>
    rw [e4] at hs
    simp only [go_sem]
    refine ⟨(by unfold I64; omega),ih (j + 1,_,ov) ⟨by simp only; omega,by rw [hs]; simpa using hG.app⟩ (by simp only; omega)⟩
   | true =>
    rw [e4] at hs
    obtain ⟨X,eX⟩ : ∃ X,X = H ++ [some (.row l[j].c),some (.row [.int .i64 j])] := ⟨_,rfl⟩
    have gX : Gro h X 1 (bI t (l.take j) 0).length ov (cI (bI t (l.take j) 0)) := eX ▸ hG.app
    have hk : X[H.length + 1]? = some (some (.row [.int .i64 j])) := by rw [eX,qI (by omega)]; simp
    have hpl := fT t (l.take j) 0
    rw [List.length_take] at hpl
    obtain ⟨G,e5,e6⟩ := gX.more (w0 := w0) (b := 8) (f := true) hk rfl rfl (by omega) (by omega)
    simp only [go_sem]
    simp only [aG.c] at eX
    rw [← eX,e5]
    simp only [go_sem]
    refine ⟨(by unfold I64; omega),ih (j + 1,G,_) ⟨by simp only; omega,?_⟩ (by simp only; omega)⟩
    rw [hs]
    simpa [cI] using e6
 · have e1 : ¬ (j : Int) < l.length := by omega
   obtain rfl : j = l.length := by omega
   simp only [go_sem,e1]
   simpa [List.take_length,cO] using hG
theorem tH (t bs : Int) {p q : Pl} {v : AV} {l : List aG} (hp : rd w0 h p = some v) (hq : rd w0 h q = some (.int .i64 bs)) (hv : Sl w0 h 4 v (l.map aG.c)) (hn : l.length < 1000) :
 bE Tryz.prog w0 118 [.int .i64 t,.ptr p,.ptr q] h (.bool (eI l bs t)) h := by
 refine eM trivial (aV aW qT vG vF (qE rfl) fun hb ha => bA ?_)
 have e2 : ∀ L,rd w0 (h ++ L) q = some (.int .i64 bs) := fun L => fO hq
 simp only [go_sem,mf118]
 refine dr_fp aW [0,1,4,2,3,5,6] [o_ 5 (l_ 1),o_ 6 (m_ 0),o_ 9 (l_ 2),.call (some 7) none (f_ 73) [(.t 5),(.t 6)]] [([(2,o_ 9 (l_ 2))],[o_ 8 (.len (.t 7)),o_ 10 (.bin .gtr (.t 8) (.t 9)),o_ 4 (m_ 10)])] rfl rfl (by kernel_rfl) ?_
 have e1 : ∀ L,rd w0 (h ++ L) p = some v := fun L => fO hp
 simp only [go_sem,e1,e2]
 rw [List.append_nil]
 refine aN (ACall.vc (first := []) (args := [v,.int .i64 t]) (nB t hv hn)) ?_
 intro y H hG
 have hq' := hG.sub.rd hq
 have e3 : ∀ L,rd w0 (H ++ L) q = some (.int .i64 bs) := fun L => fO hq'
 simp only [go_sem,hq',e3,hG.len,true_and]
 exact ⟨hG.sub,rfl⟩
def IV (x : Int) (_ : aA) (args : List AV) : Prop := args = [.int .i64 x]
theorem wS {C : List Nat} {q : Nat} {p : Pl} {v : AV} {l : List Int} {K : aA → Prop} (hp : rd w0 (msk C h) p = some v) (hv : SlI w0 (msk C h) v l) (hn : l.length ≤ 1000)
 (hI : fE Tryz.prog w0 q C IV (· = []) K l [] h) : ACall Tryz.prog w0 148 [.yld q,.ptr p] h fun _ H => K H := by
 refine aV aW qR vC vB (qE rfl) fun hb ha => bA ?_
 have e0 : ∀ L,rd w0 (h ++ L) p = some v := fun L => fO (vV.rd hp)
 have hlen := (SlI.use hv).1
 simp only [go_sem,mf148,e0,hlen]
 refine fU (S := Nat × aA) (F := fun s => [(0,.yld q),(5,v),(6,.int .i64 l.length),(7,.int .i64 s.1)]) (H := fun s => s.2) (meas := fun s => l.length - s.1)
  (Inv := fun s => s.1 ≤ l.length ∧ bT C h s.2 ∧ fE Tryz.prog w0 q C IV (· = []) K (l.drop s.1) [] s.2) (0,h) ⟨Nat.zero_le _,bT.refl,hI⟩ rfl (by simp) ?_
 rintro ⟨j,H⟩ ⟨hj,kH,iH⟩ ih
 simp only at hj kH iH ih ⊢
 refine bD aW aBJ [0,5,6,7] L148_0.eq_1 ?_
 by_cases hjl : j < l.length
 · have e1 : (j : Int) < l.length := by omega
   have hvH := Sl.sub hv ((kH.msk (ms := C) fun i hi => .inl hi).trans (vV (ms := C)))
   obtain ⟨pp,i1,r1,r1'⟩ := SlI.at_ hvH hjl
   rw [List.drop_eq_getElem_cons hjl] at iH
   simp only [go_sem,e1,i1,r1,r1']
   refine aN (fE.call iH bT.refl [] rfl (fun i hi => by cases hi) (fun i hi => by cases hi) rfl) ?_
   rintro y G1 ⟨k1,r1⟩
   have k2 : bT C h G1 := kH.trans k1
   rcases r1 with ⟨rfl,it⟩ | ⟨rfl,kk⟩
   · simp only [go_sem]
     exact ⟨(by unfold I64; omega),ih (j + 1,G1) ⟨by simp only; omega,k2,it⟩ (by simp only; omega)⟩
   · simp only [go_sem]
     exact kk _ bT.refl
 · have e1 : ¬ (j : Int) < l.length := by omega
   obtain rfl : j = l.length := by omega
   rw [List.drop_length] at iH
   simp only [go_sem,e1]
   exact iH _ bT.refl
def dX (o : Option Int) : AV := match o with
 | some d => .tup [.int .i64 d,.bool true]
 | none => .tup [.int .i64 0,.bool false]
theorem rD {p : Pl} {v fv : AV} {l : List Int} (P : Int → Bool) (hp : rd w0 h p = some v) (hv : SlI w0 h v l) (hn : l.length ≤ 1000) (hfo : cellsOf fv = some [fv])
 (hf : ∀ d ∈ l,∀ H,aJ h H → eH Tryz.prog w0 fv [.int .i64 d] H (.bool (P d)) H) :
 bE Tryz.prog w0 116 [.fn (.func 148) [] [.ptr p],fv] h (dX (l.find? P)) h := by
 have hbv : ∀ N,(dX (l.find? P)).bdd N := fun N => by unfold dX; split <;> simp [AV.bdd,AV.bdds]
 refine eM (hbv _) (aV aW qU vI vH (qE rfl) fun hb ha => bA ?_)
 simp only [go_sem,mf116,hfo]
 refine uG [3,4,5,8] ?_
 simp only [go_sem]
 refine zS (fid := 148) (first := []) rfl (.inl rfl) fun hca hcb hps => ?_
 simp only [go_sem]
 obtain ⟨N,eN⟩ : ∃ N,N = h.length := ⟨_,rfl⟩
 obtain ⟨LB,hLB⟩ : ∃ LB : LoopState → Option Code → Blk,LB = Blk.loop 15 [(3,AV.ptr (Pl.own (List.length h) 0)),(4,AV.ptr (Pl.own (List.length h + 1) 0)),(5,AV.ptr (Pl.own (List.length h + 2) 0)),(8,AV.fn (Fn.func 148) [] [AV.ptr p])] #[9] (bK (cR 116) [1,0,1,0,0]) (bK (cR 116) [1,0,1,0,1]) := ⟨_,rfl⟩
 rw [← hLB]
 obtain ⟨C,eC⟩ : ∃ C,C = [N + 1,N + 2,N + 3] := ⟨_,rfl⟩
 obtain ⟨G0,eG0⟩ : ∃ G0 : aA,G0 = h ++ [some (.row [fv]),some (.row [.int .i64 0]),some (.row [.bool false]),some (LB .ready none)] := ⟨_,rfl⟩
 have hm : aJ h (msk C G0) := by
  rw [eG0]
  refine ⟨by rw [fA]; simp,fun i b e => ?_⟩
  have := aQ e
  rw [lB (by rw [eC]; simp; omega)]; exact aC e
 rw [← eG0,← eN]
 refine wS (C := C) (hm.rd hp) (Sl.sub hv hm) hn ?_
 have claim : ∀ (r : List Int),(∀ d ∈ r,d ∈ l) → l.find? P = r.find? P → ∀ H,aJ h H → H[N]? = some (some (.row [fv])) → H[N + 1]? = some (some (.row [.int .i64 0])) → H[N + 2]? = some (some (.row [.bool false])) → H[N + 3]? = some (some (LB .ready none)) →
  fE Tryz.prog w0 (N + 3) C IV (· = []) (fun h' => rgE Tryz.prog w0 none 15 N (xF w0 [RV.c 4 none,RV.c 5 none] fun v' h' => aJ h h' ∧ v' = dX (List.find? P l))
  [It.inBlk 0,It.code ((SC.reg [MIx.op (some 7) none (MOp.mov (Opd.k (AV.int IntKind.i64 0)))]).seq ((SC.reg [MIx.op (some 14) none (MOp.mov (Opd.t 7)),MIx.op none none (MOp.store (Opd.t 4) (Opd.t 14) 1),MIx.op none none (MOp.store (Opd.t 5) (Opd.k (AV.bool false)) 1)]).seq SC.ret))]
  [(3,AV.ptr (Pl.own N 0)),(4,AV.ptr (Pl.own (N + 1) 0)),(5,AV.ptr (Pl.own (N + 2) 0)),(8,AV.fn (Fn.func 148) [] [AV.ptr p])] h'[N + 3]? (List.set h' (N + 3) none)) r [] H := by
  intro r
  induction r with
  | nil =>
   intro hr hfd H sH g0 g1 g2 g3 H2 kp
   have f1 := kp.at_ _ _ (by simp) g1
   have f2 := kp.at_ _ _ (by simp) g2
   have f3 := kp.at_ _ _ (by simp) g3
   have s2 : aJ h H2 := ⟨Nat.le_trans sH.1 kp.le,fun i b e => kp.at_ _ _ (by simp) (sH.2 _ _ e)⟩
   obtain ⟨X,eX⟩ : ∃ X,X = H2.set (N + 3) none := ⟨_,rfl⟩
   have lX : X.length = H2.length := by rw [eX,List.length_set]
   have q3 := aQ f3
   have x1 : X[N + 1]? = some (some (.row [.int .i64 0])) := by rw [eX,qB (by omega)]; exact f1
   have x2 : ∀ b,(X.set (N + 1) b)[N + 2]? = some (some (.row [.bool false])) := fun b => by
    rw [qB (by omega),eX,qB (by omega)]; exact f2
   have x3 : ∀ b b',((X.set (N + 1) b).set (N + 2) b')[N + 1]? = some b := fun b b' => by
    rw [qB (by omega),qF (by omega)]
   have x4 : ∀ b b',((X.set (N + 1) b).set (N + 2) b')[N + 2]? = some b' := fun b b' => by
    rw [qF (by simp; omega)]
   simp only [f3,← eX,hLB]
   simp only [go_sem,x1,x2,x3,x4]
   have s3 : aJ h X := by rw [eX]; exact s2.setR (by omega)
   exact ⟨(s3.setR (by omega)).setR (by omega),by rw [hfd]; rfl⟩
  | cons x r ih =>
   intro hr hfd H sH g0 g1 g2 g3 H2 args O2 hO kp hO1 hO2 hV
   subst hV
   have f0 := kp.at_ _ _ (by simp) g0
   have f1 := kp.at_ _ _ (by simp) g1
   have f2 := kp.at_ _ _ (by simp) g2
   have f3 := kp.at_ _ _ (by simp) g3
   have s2 : aJ h H2 := ⟨Nat.le_trans sH.1 kp.le,fun i b e => kp.at_ _ _ (by simp) (sH.2 _ _ e)⟩
   have q3 := aQ f3
   have f3' := f3
   rw [hLB,← eN] at f3'
   refine nX (psl := [9]) aW rfl yR yQ pC.eq_1 R116_0b.eq_1 f3' rfl hps hca hcb fun hb2 ha2 => ?_
   obtain ⟨LY,hLY⟩ : ∃ b,b = Blk.loop 15 [(3,AV.ptr (Pl.own N 0)),(4,AV.ptr (Pl.own (N + 1) 0)),(5,AV.ptr (Pl.own (N + 2) 0)),(8,AV.fn (Fn.func 148) [] [AV.ptr p])] #[9] (bK (cR 116) [1,0,1,0,0]) (bK (cR 116) [1,0,1,0,1]) LoopState.busy none := ⟨_,rfl⟩
   simp only [go_sem,f3']
   rw [← hLY]
   obtain ⟨Y,eY⟩ : ∃ Y,Y = H2.set (N + 3) (some LY) := ⟨_,rfl⟩
   have lY : Y.length = H2.length := by rw [eY]; simp
   have old : ∀ (i : Nat) b,i ≠ N + 3 → H2[i]? = some (some b) → Y[i]? = some (some b) := fun i b hi e => by
    rw [eY,qB (fun e => hi e.symm)]; exact e
   have y0 := old _ _ (by omega) f0
   have y1 := old _ _ (by omega) f1
   have y2 := old _ _ (by omega) f2
   have y3 : Y[N + 3]? = some (some LY) := by rw [eY,qF (by omega)]
   have sY : aJ h Y := ⟨by have := s2.1; omega,fun i b e => old i b (by have := aQ e; omega) (s2.2 _ _ e)⟩
   have kY : bT C H2 Y := ⟨by omega,fun i b hi e => old i b (fun e => hi (by rw [eC,e]; simp)) e⟩
   rw [← eY]
   simp only [go_sem,y0]
   refine aP (hf x (hr x (by simp)) Y sY) ?_
   cases hP : P x with
   | true =>
    have y5 : ∀ b,(Y.set (N + 1) b)[N + 2]? = some (some (.row [.bool false])) := fun b => by rw [qB (by omega)]; exact y2
    have y6 : ∀ b b',((Y.set (N + 1) b).set (N + 2) b')[N + 3]? = some (some LY) := fun b b' => by rw [qB (by omega),qB (by omega)]; exact y3
    simp only [go_sem,y1,y5,y6]
    refine ⟨⟨_,_,by rw [hLY]⟩,?_⟩
    refine ⟨((kY.set (.inl (by rw [eC]; simp))).set (.inl (by rw [eC]; simp))).set (.inl (by rw [eC]; simp)),.inr fun H4 k4 => ?_⟩
    subst hO
    have z1 := k4.at_ (N + 1) (.row [AV.int IntKind.i64 x]) (by simp) (by rw [qB (by omega),qB (by omega),qF (by omega)])
    have z2 := k4.at_ (N + 2) (.row [AV.bool true]) (by simp) (by rw [qB (by omega),qF (by simp; omega)])
    have z3 := k4.at_ (N + 3) _ (by simp) (qF (by simp; omega))
    have z4 : (H4.set (N + 3) none)[N + 1]? = some (some (.row [AV.int IntKind.i64 x])) := by rw [qB (by omega)]; exact z1
    have z5 : (H4.set (N + 3) none)[N + 2]? = some (some (.row [AV.bool true])) := by rw [qB (by omega)]; exact z2
    have s4 : aJ h H4 := ⟨by have := k4.le; simp at this; have := sY.1; omega,fun i b e => k4.at_ _ _ (by simp) (by
     have := aQ e
     rw [qB (by omega),qB (by omega),qB (by omega)]; exact sY.2 _ _ e)⟩
    simp only [go_sem,z3,z4,z5]
    exact ⟨s4.setR (by omega),by rw [hfd,List.find?_cons_of_pos hP]; rfl⟩
   | false =>
    simp only [go_sem,y3]
    refine ⟨⟨_,_,by rw [hLY]⟩,?_⟩
    refine ⟨kY.set (.inl (by rw [eC]; simp)),.inl ?_⟩
    subst hO
    refine ih (fun d hd => hr d (by simp [hd])) (by rw [hfd,List.find?_cons_of_neg (by simp [hP])]) _ (sY.setR (by omega)) ?_ ?_ ?_ ?_
    · rw [qB (by omega)]; exact y0
    · rw [qB (by omega)]; exact y1
    · rw [qB (by omega)]; exact y2
    · rw [qF (by omega),hLB,← eN]
 refine claim _ (fun _ hd => hd) rfl G0 (eG0 ▸ aJ.refl.app) ?_ ?_ ?_ ?_
 all_goals
  rw [eG0,eN,qI (by omega)]; simp
theorem slO_i {n0 : Nat} {ys : List Int} {H : aA} (e : H[n0]? = some (blO ys)) : SlI w0 H (slO n0 ys) ys := by
 unfold slO
 split
 · rename_i h0; subst h0; exact .inl ⟨rfl,rfl⟩
 · rename_i h0
   rw [blO,if_neg h0] at e
   have e2 : iis ys = (ys.map fun z => [AV.int .i64 z]).flatten := hT ys
   have := mN (w0 := w0) (H := H) (es := 1) (io := n0) (full := false) (rows := ys.map fun z => [AV.int .i64 z]) (by rw [← e2]; exact e) (fun c hc => by obtain ⟨x,_,rfl⟩ := List.mem_map.1 hc; rfl)
   rwa [List.length_map] at this
theorem tA (o : Option Int) (N : Nat) : (dX o).bdd N := by unfold dX; split <;> simp [AV.bdd,AV.bdds]
theorem rW (l : List aG) : (cB l).length ≤ l.length := by
 have := rV (l := l.map (·.cl))
 simpa [cB] using this
theorem nN (bs : Int) {v : AV} {l : List aG} (hv : Sl w0 h 4 v (l.map aG.c)) (hn : l.length ≤ 12) : bE Tryz.prog w0 70 [v,.int .i64 bs] h (dX (cT l bs)) h := by
 refine eM (tA _ _) (aV aW uQ aAo aAn (qE rfl) fun hb ha => bA ?_)
 have o := Sl.one hv
 simp only [go_sem,mf70,o.1,o.2]
 refine aN (ACall.vc (first := []) (args := [v]) (nT hv.app hn)) ?_
 rintro _ _ ⟨rfl,rfl⟩
 simp only [go_sem]
 obtain ⟨X,eX⟩ : ∃ X,X = h ++ [some (Blk.row [v]),some (.row [.int .i64 bs]),blO (cB l),some (.row [slO (h.length + 2) (cB l)])] := ⟨_,rfl⟩
 rw [← eX]
 have sX : aJ h X := eX ▸ aJ.refl.app
 have x0 : X[h.length]? = some (some (.row [v])) := by rw [eX,qI (by omega)]; simp
 have x1 : X[h.length + 1]? = some (some (.row [.int .i64 bs])) := by rw [eX,qI (by omega)]; simp
 have x2 : X[h.length + 2]? = some (blO (cB l)) := by rw [eX,qI (by omega)]; simp
 have x3 : X[h.length + 3]? = some (some (.row [slO (h.length + 2) (cB l)])) := by rw [eX,qI (by omega)]; simp
 have hl := rW l
 have hfirst := rD (w0 := w0) (h := X) (p := .own (h.length + 3) 0) (v := slO (h.length + 2) (cB l)) (fv := .fn (.func 118) [] [.ptr (.own h.length 0),.ptr (.own (h.length + 1) 0)]) (l := cB l) (eI l bs)
  (by simp [rd,x3]) (slO_i x2) (by omega) rfl fun d hd H sH => bE.vc (P := Tryz.prog) (first := []) (capt := [.ptr (.own h.length 0),.ptr (.own (h.length + 1) 0)]) (tH d bs (v := v) (by simp [rd,sH.2 _ _ x0]) (by simp [rd,sH.2 _ _ x1]) (hv.sub (sX.trans sH)) (by omega))
 refine aP hfirst.v ?_
 rw [show (cB l).find? (eI l bs) = cT l bs from rfl]
 cases cT l bs with
 | none =>
  simp only [go_sem,dX]
  exact sX
 | some t =>
  simp only [go_sem,dX]
  exact sX
def fZ (h H : aA) (y : AV) (l : List aG) (bs : Int) : Prop :=
 if bL l bs = 0 then match cT l bs with
  | none => y = .tup [.int .i64 0,.nilS,.int .i64 6]
  | some t => ∃ pv,y = .tup [.int .i64 t,pv,.int .i64 0] ∧ Gro h H 1 (cO l t).length pv (cI (cO l t))
 else y = .tup [.int .i64 0,.nilS,.int .i64 (bL l bs)]
theorem jU (bs : Int) {v : AV} {l : List aG} (hv : Sl w0 h 4 v (l.map aG.c)) : ACall Tryz.prog w0 18 [v,.int .i64 bs] h fun y H => aJ h H ∧ fZ h H y l bs := by
 refine aV aW uT aAu aAt (qE rfl) fun hb ha => bA ?_
 simp only [go_sem,mf18]
 rw [List.append_nil]
 refine aP (pL bs hv).v ?_
 by_cases e : bL l bs = 0
 · obtain ⟨h12,_,hst⟩ := mY e
   simp only [go_sem,e]
   refine aP (nN bs hv h12).v ?_
   cases e2 : cT l bs with
   | none =>
    simp only [go_sem,dX]
    exact ⟨aJ.refl,by rw [fZ,if_pos e,e2]⟩
   | some t =>
    simp only [go_sem,dX]
    refine aN (ACall.vc (first := []) (args := [v,.int .i64 t]) (nB t hv (by omega))) ?_
    intro y H hG
    simp only [go_sem]
    exact ⟨hG.sub,by rw [fZ,if_pos e,e2]; exact ⟨y,rfl,hG⟩⟩
 · simp only [go_sem,e]
   exact ⟨aJ.refl,by rw [fZ,if_neg e]⟩
theorem bT.setN {o : Nat} {A B : aA} (k : bT [o] A B) : aJ (A.set o none) B := ⟨by simpa using k.le,fun i b e => by
 by_cases hi : o = i
 · subst hi
   have := aQ e
   rw [List.length_set] at this
   rw [qF this] at e; cases e
 · rw [qB hi] at e
   exact k.at_ _ _ (by simp only [List.mem_singleton]; exact fun x => hi x.symm) e⟩
structure fY (h0 H : aA) (o : Nat) (ov : AV) (out : List Int) : Prop where
 keep : bT [o] h0 H
 box : H[o]? = some (some (.row [ov]))
 val : (ov = .nilS ∧ out = []) ∨ ∃ io c,h0.length ≤ io ∧ ov = .sl (.own io 0) out.length 1 false ∧ H[io]? = some (some (.row c)) ∧ out.length ≤ c.length ∧ c.take out.length = cI out
theorem fY.len {h0 H : aA} {o : Nat} {ov : AV} {out : List Int} (a : fY h0 H o ov out) : gL ov = some (.int .i64 out.length) := by
 rcases a.val with ⟨rfl,rfl⟩ | ⟨io,c,_,rfl,_⟩ <;> rfl
theorem fY.slI {h0 H : aA} {o : Nat} {ov : AV} {out : List Int} (a : fY h0 H o ov out) : SlI w0 H ov out := by
 rcases a.val with ⟨rfl,rfl⟩ | ⟨io,c,h1,rfl,h3,h4,h5⟩
 · exact .inl ⟨rfl,rfl⟩
 · refine .inr ⟨_,false,⟨1,by rw [List.length_map],fV⟩,by simp only [Pl.bdd]; exact aQ h3,fun j d hd => ?_⟩
   rw [List.getElem?_map,qD] at hd
   obtain ⟨x,hx,rfl⟩ := hd
   have hj := aQ hx
   simp only [Pl.add,rdn,h3]
   rw [if_pos (by omega)]
   have : (c.take out.length)[j]? = (cI out)[j]? := by rw [h5]
   rw [List.getElem?_take,if_pos hj,aBg,hx] at this
   have hc : j < c.length := by omega
   rw [qA hc] at this
   simp only [Option.map_some,Option.some.injEq] at this
   simp only [Nat.zero_add,Nat.mul_one,List.drop_eq_getElem_cons hc,this,List.take_succ_cons,List.take_zero]
theorem fY.app {h0 H L : aA} {o : Nat} {ov : AV} {out : List Int} (a : fY h0 H o ov out) : fY h0 (H ++ L) o ov out := by
 refine ⟨a.keep.app,aC a.box,?_⟩
 rcases a.val with h1 | ⟨io,c,h1,h2,h3,h4,h5⟩
 · exact .inl h1
 · exact .inr ⟨io,c,h1,h2,aC h3,h4,h5⟩
theorem fY.more {h0 H : aA} {o k : Nat} {ov : AV} {out : List Int} (a : fY h0 H o ov out) (ho : o < h0.length) {f : Bool} {x : Int} (hk : H[k]? = some (some (.row [.int .i64 x]))) (hn : out.length ≤ 1000) :
 ∃ G,dA w0 H 1 8 ov (.sl (.own k 0) 1 1 f) = some (.sl (.own H.length 0) (out.length + 1) 1 false,G) ∧ G[o]? = some (some (.row [ov])) ∧ G.length = H.length + 1 ∧
  fY h0 (G.set o (some (.row [.sl (.own H.length 0) (out.length + 1) 1 false]))) o (.sl (.own H.length 0) (out.length + 1) 1 false) (out ++ [x]) := by
 have r1 : rdn w0 H (.own k 0) (1 * 1) = some [.int .i64 x] := by simp [rdn,hk]
 have hkl := a.keep.le
 rcases a.val with ⟨rfl,rfl⟩ | ⟨io,c,h1,rfl,h3,h4,h5⟩
 · refine ⟨H ++ [some (.row [.int .i64 x])],?_,aC a.box,by simp,(a.keep.app).set (.inl (by simp)),by rw [qF (by simp; omega)],.inr ⟨H.length,[.int .i64 x],by omega,rfl,?_,by simp,rfl⟩⟩
   · simp only [dA,fG,fV,if_true,r1,Option.map_some,Option.bind_some]
     rw [if_neg (by omega),if_pos ⟨by omega,rfl⟩]
     simp [eV]
   · rw [qB (by omega),qI (Nat.le_refl _),Nat.sub_self]; rfl
 · have hio := aQ h3
   have r2 : rdn w0 H (.own io 0) (out.length * 1) = some (cI out) := by
    simp only [rdn,h3]
    rw [if_pos (by omega),List.drop_zero,Nat.mul_one,h5]
   rw [Nat.mul_one] at r2
   refine ⟨H.set io none ++ [some (.row (cI out ++ [.int .i64 x]))],?_,aC (by rw [qB (by omega)]; exact a.box),by simp,?_,by rw [qF (by simp; omega)],.inr ⟨H.length,cI out ++ [.int .i64 x],by omega,by simp,?_,by simp,?_⟩⟩
   · simp only [dA,fG,fV,if_true,r1,Option.map_some,Option.bind_some]
     rw [if_neg (by omega),if_pos ⟨trivial,by omega,rfl⟩]
     simp [r2]
   · exact ((a.keep.set (.inr h1)).app).set (.inl (by simp))
   · rw [qB (by omega),qI (by simp)]; simp
   · rw [List.take_of_length_le (by simp)]; simp [cI]
theorem fY.less {h0 H : aA} {o : Nat} {ov : AV} {out : List Int} {x : Int} (a : fY h0 H o ov (out ++ [x])) (ho : o < h0.length) : ∃ io,ov = .sl (.own io 0) (out.length + 1) 1 false ∧ fY h0 (H.set o (some (.row [.sl (.own io 0) out.length 1 false]))) o (.sl (.own io 0) out.length 1 false) out := by
 have hkl := a.keep.le
 rcases a.val with ⟨_,h1⟩ | ⟨io,c,h1,h2,h3,h4,h5⟩
 · simp at h1
 · simp only [List.length_append,List.length_singleton] at h2 h4 h5
   refine ⟨io,h2,a.keep.set (.inl (by simp)),by rw [qF (by omega)],.inr ⟨io,c,h1,rfl,by rw [qB (by omega)]; exact h3,by omega,?_⟩⟩
   have := congrArg (List.take out.length) h5
   rw [List.take_take,Nat.min_eq_left (by omega)] at this
   rw [this]; simp [cI]
structure BSt (w0 : World) (h0 : aA) (o s b f : Nat) (v : AV) (l : List aG) (bs : Int) : Prop where
 ol : o < h0.length
 so : s ≠ o
 bo : b ≠ o
 fo : f ≠ o
 bs' : h0[s]? = some (some (.row [v]))
 bb : h0[b]? = some (some (.row [.int .i64 bs]))
 bf : h0[f]? = some (some (.row [.fn (.func 71) [] [.ptr (.own o 0),.ptr (.own s 0),.ptr (.own b 0),.ptr (.own f 0)]]))
 hv : Sl w0 (h0.set o none) 4 v (l.map aG.c)
theorem yI {h0 : aA} {o s b f : Nat} {v : AV} {l : List aG} {bs : Nat} (st : BSt w0 h0 o s b f v l bs) (hn : l.length ≤ 12) (hbs : bs ≤ 6) :
 ∀ (k : Nat) (out : List Int) (H : aA) (ov : AV),out.length + k = l.length → fY h0 H o ov out →
  ACall Tryz.prog w0 71 [.ptr (.own o 0),.ptr (.own s 0),.ptr (.own b 0),.ptr (.own f 0)] H fun y H' => ∃ ov',match bsD l bs k out with
   | some x => y = .bool true ∧ fY h0 H' o ov' x
   | none => y = .bool false ∧ fY h0 H' o ov' out := by
 intro k
 induction k with
 | zero =>
  intro out H ov hk hO
  refine aV aW oM sP sO (qE rfl) fun hb ha => bA ?_
  have e1 : ∀ L,(H ++ L)[o]? = some (some (.row [ov])) := fun L => aC hO.box
  have e2 : ∀ L,(H ++ L)[s]? = some (some (.row [v])) := fun L => aC (hO.keep.at_ _ _ (by simp [st.so]) st.bs')
  have hlen : gL v = some (.int .i64 l.length) := by have := st.hv.use.1; rwa [List.length_map] at this
  have e3 : (out.length : Int) = l.length := by omega
  simp only [go_sem,mf71,e1,e2,hO.len,hlen,e3]
  exact ⟨ov,hO.app⟩
 | succ k ih =>
  intro out H ov hk hO
  refine aV aW oM sP sO (qE rfl) fun hb ha => bA ?_
  have e1 : ∀ L,(H ++ L)[o]? = some (some (.row [ov])) := fun L => aC hO.box
  have e2 : ∀ L,(H ++ L)[s]? = some (some (.row [v])) := fun L => aC (hO.keep.at_ _ _ (by simp [st.so]) st.bs')
  have e4 : ∀ L,(H ++ L)[b]? = some (some (.row [.int .i64 bs])) := fun L => aC (hO.keep.at_ _ _ (by simp [st.bo]) st.bb)
  have hlen : gL v = some (.int .i64 l.length) := by have := st.hv.use.1; rwa [List.length_map] at this
  have e3 : ¬ (out.length : Int) = l.length := by omega
  simp only [go_sem,mf71,e1,e2,e4,hO.len,hlen,e3]
  refine fU (S := Nat × aA × AV) (F := fun t => [(0,.ptr (.own o 0)),(1,.ptr (.own s 0)),(3,.ptr (.own f 0)),(5,.int .i64 out.length),(15,.int .i64 bs),(16,.int .i64 t.1)]) (H := fun t => t.2.1) (meas := fun t => bs - t.1)
   (Inv := fun t => t.1 ≤ bs ∧ fY h0 t.2.1 o t.2.2 out ∧ bsD l bs (k + 1) out = ((List.range bs).drop t.1).findSome? fun c : Nat => if jM l out (c : Int) then bsD l bs k (out ++ [(c : Int)]) else none) (0,H,ov) ⟨Nat.zero_le _,hO,rfl⟩ rfl (by simp) ?_
  rintro ⟨c,G,gv⟩ ⟨hc,gO,hG⟩ ih2
  simp only at hc gO hG ih2 ⊢
  refine bD aW aEd [0,1,3,5,15,16] L71_1.eq_1 ?_
  by_cases hcl : c < bs
  · have e5 : (c : Int) < bs := by omega
    rw [List.drop_eq_getElem_cons (by simpa using hcl),List.findSome?_cons,List.getElem_range] at hG
    have g1 : ∀ L,(G ++ L)[o]? = some (some (.row [gv])) := fun L => aC gO.box
    have g2 : ∀ L,(G ++ L)[s]? = some (some (.row [v])) := fun L => aC (gO.keep.at_ _ _ (by simp [st.so]) st.bs')
    have g1' := g1 []; have g2' := g2 []
    rw [List.append_nil] at g1' g2'
    have hvG := st.hv.sub gO.keep.setN
    obtain ⟨_,q,hix,hrow,_⟩ := hvG.use
    rw [List.length_map] at hix
    simp only [go_sem,e5,g1,g1',gO.len]
    refine jY (fun j => [(0,.ptr (.own o 0)),(1,.ptr (.own s 0)),(3,.ptr (.own f 0)),(5,.int .i64 out.length),(6,.int .i64 c),(15,.int .i64 bs),(16,.int .i64 c),(19,gv),(20,.int .i64 out.length),(21,.int .i64 j)]) (fun j => (!(decide (out.getD j 0 = (c : Int)) && cD (aY l j) (aY l out.length))) = true) out.length rfl (fun j hj hall ih3 => ?_) (fun hall => ?_)
    · refine bD aW wG [0,1,3,5,6,15,16,19,20,21] L71_0.eq_1 ?_
      have e6 : (j : Int) < out.length := by omega
      obtain ⟨pp,i1,r1,r1'⟩ := SlI.at_ (gO.slI (w0 := w0)) hj
      have hjl : j < l.length := by omega
      have hol : out.length < l.length := by omega
      have x1 := hix j hjl
      have x2 := hix out.length hol
      have y1 : ∀ L,rdn w0 (G ++ L) (q.add (j * 4)) 4 = some l[j].c := fun L => dJ (hrow j _ (dH hjl))
      have y2 : ∀ L,rdn w0 (G ++ L) (q.add (out.length * 4)) 4 = some l[out.length].c := fun L => dJ (hrow _ _ (dH hol))
      have y1' := hrow j _ (dH hjl)
      have y2' := hrow _ _ (dH hol)
      have s1 : aY l j = l[j] := by rw [aY,cV hjl]
      have s2 : aY l out.length = l[out.length] := by rw [aY,cV hol]
      rw [cV hj,s1,s2] at ih3
      have nofit : out[j] = (c : Int) → cD l[j] l[out.length] = true → jM l out c = false := fun a b => by
       rw [jM,List.all_eq_false]
       refine ⟨j,List.mem_range.2 hj,?_⟩
       rw [cV hj,s1,s2]; simp [a,b]
      by_cases q1 : out[j] = (c : Int)
      · simp only [go_sem,e6,i1,r1,r1',q1,g2,g2',x1,x2,y1,y2,y1',y2']
        refine aP (meet_c l[j] l[out.length]).v ?_
        cases q2 : cD l[j] l[out.length] with
        | true =>
         simp only [go_sem]
         refine ⟨(by unfold I64; omega),ih2 (c + 1,G,gv) ⟨by simp only; omega,gO,?_⟩ (by simp only; omega)⟩
         rw [hG,nofit q1 q2]; rfl
        | false =>
         simp only [go_sem]
         exact ⟨(by unfold I64; omega),ih3 (by simp [q2])⟩
      · simp only [go_sem,e6,i1,r1,r1',q1]
        exact ⟨(by unfold I64; omega),ih3 (by simp [q1])⟩
    · refine bD aW wG [0,1,3,5,6,15,16,19,20,21] L71_0.eq_1 ?_
      have e6 : ¬ (out.length : Int) < out.length := by omega
      have hfit : jM l out (c : Int) = true := by rw [jM,List.all_eq_true]; exact fun j hj => hall j (List.mem_range.1 hj)
      rw [hfit,if_pos rfl] at hG
      simp only [go_sem,e6,g1,g1']
      have hO1 : fY h0 (G ++ [some (.row [.int .i64 c])]) o gv out := gO.app
      obtain ⟨G1,a1,a2,a3,a4⟩ := hO1.more (w0 := w0) st.ol (k := G.length) (f := true) (x := c) (by rw [qI (Nat.le_refl _),Nat.sub_self]; rfl) (by omega)
      rw [a1]
      obtain ⟨G2,eG2⟩ : ∃ G2,G2 = G1.set o (some (.row [.sl (.own (G ++ [some (Blk.row [AV.int .i64 c])]).length 0) (out.length + 1) 1 false])) := ⟨_,rfl⟩
      rw [← eG2] at a4
      have b1 : G2[f]? = _ := a4.keep.at_ _ _ (by simp [st.fo]) st.bf
      have bl : (G ++ [some (Blk.row [AV.int .i64 c])]).length = G.length + 1 := by simp
      rw [bl] at eG2 a4 ⊢
      simp only [go_sem,a2]
      rw [← eG2]
      simp only [go_sem,b1]
      refine aN (ACall.vc (first := []) (args := []) (capt := [.ptr (.own o 0),.ptr (.own s 0),.ptr (.own b 0),.ptr (.own f 0)]) (ih (out ++ [(c : Int)]) G2 _ (by simp; omega) a4)) ?_
      rintro y H' ⟨ov',hy⟩
      cases hbs : bsD l bs k (out ++ [(c : Int)]) with
      | some x =>
       rw [hbs] at hy hG
       obtain ⟨rfl,hy⟩ := hy
       simp only [go_sem]
       rw [hG]
       exact ⟨ov',hy⟩
      | none =>
       rw [hbs] at hy hG
       obtain ⟨rfl,hy⟩ := hy
       obtain ⟨io,rfl,hl⟩ := hy.less st.ol
       have c1 : ∀ L,(H' ++ L)[o]? = _ := fun L => aC (k := L) hy.box
       simp only [go_sem,hy.box,c1,nat_ix]
       refine ⟨by omega,(by unfold I64; omega),?_⟩
       rw [Nat.sub_zero,Bool.false_and]
       exact ih2 (c + 1,_,_) ⟨by simp only; omega,hl,by rw [hG]⟩ (by simp only; omega)
  · have e5 : ¬ (c : Int) < bs := by omega
    obtain rfl : c = bs := by omega
    rw [List.drop_of_length_le (by simp),List.findSome?_nil] at hG
    simp only [go_sem,e5]
    rw [hG]
    exact ⟨gv,gO⟩
def gS (w0 : World) (H : aA) (y : AV) (l : List aG) (bs : Int) : Prop :=
 if bL l bs = 0 then match cT l bs with
  | some _ => y = .tup [.nilS,.int .i64 5]
  | none => ∃ lv,y = .tup [lv,.int .i64 0] ∧ SlI w0 H lv ((bsD l bs.toNat l.length []).getD [])
 else y = .tup [.nilS,.int .i64 (bL l bs)]
theorem wQ (bs : Int) {v : AV} {l : List aG} (hv : Sl w0 h 4 v (l.map aG.c)) : ACall Tryz.prog w0 17 [v,.int .i64 bs] h fun y H => aJ h H ∧ gS w0 H y l bs := by
 refine aV aW uU aAw aAv (qE rfl) fun hb ha => bA ?_
 have o := Sl.one hv
 simp only [go_sem,mf17,o.1,o.2]
 refine aP (pL bs hv.app).v ?_
 by_cases e : bL l bs = 0
 · obtain ⟨h12,hbs,hst⟩ := mY e
   simp only [go_sem,e]
   refine aP (nN bs hv.app h12).v ?_
   cases e2 : cT l bs with
   | some t =>
    simp only [go_sem,dX]
    exact ⟨aJ.refl.app,by rw [gS,if_pos e,e2]⟩
   | none =>
    simp only [go_sem,dX]
    obtain ⟨n,rfl⟩ : ∃ n : Nat,bs = n := ⟨bs.toNat,by omega⟩
    obtain ⟨X,eX⟩ : ∃ X,X = h ++ [some (Blk.row [v]),some (.row [.int .i64 n]),some (.row [.nilS]),some (.row [.fn (.func 71) [] [.ptr (.own (h.length + 2) 0),.ptr (.own h.length 0),.ptr (.own (h.length + 1) 0),.ptr (.own (h.length + 3) 0)]])] := ⟨_,rfl⟩
    have sX : aJ h X := eX ▸ aJ.refl.app
    have x0 : X[h.length]? = some (some (.row [v])) := by rw [eX,qI (by omega)]; simp
    have x1 : X[h.length + 1]? = some (some (.row [.int .i64 n])) := by rw [eX,qI (by omega)]; simp
    have x2 : X[h.length + 2]? = some (some (.row [.nilS])) := by rw [eX,qI (by omega)]; simp
    have x3 : X[h.length + 3]? = some (some (.row [.fn (.func 71) [] [.ptr (.own (h.length + 2) 0),.ptr (.own h.length 0),.ptr (.own (h.length + 1) 0),.ptr (.own (h.length + 3) 0)]])) := by rw [eX,qI (by omega)]; simp
    have st : BSt w0 X (h.length + 2) h.length (h.length + 1) (h.length + 3) v l n := ⟨aQ x2,by omega,by omega,by omega,x0,x1,x3,hv.sub (sX.setR (by omega) |> fun t => ⟨by simpa using t.1,fun i b e => t.2 i b e⟩)⟩
    rw [← eX]
    refine aN (ACall.vc (first := []) (args := []) (capt := [.ptr (.own (h.length + 2) 0),.ptr (.own h.length 0),.ptr (.own (h.length + 1) 0),.ptr (.own (h.length + 3) 0)]) (yI st h12 (by omega) l.length [] X .nilS (by simp) ⟨bT.refl,x2,.inl ⟨rfl,rfl⟩⟩)) ?_
    rintro y H ⟨ov,hy⟩
    have fin : ∀ x,(bsD l n l.length []).getD [] = x → fY X H (h.length + 2) ov x → aJ h H ∧ gS w0 H (.tup [ov,.int .i64 0]) l n := fun x ex hy => by
     refine ⟨⟨Nat.le_trans sX.1 hy.keep.le,fun i b e => hy.keep.at_ _ _ (by have := aQ e; simp; omega) (sX.2 _ _ e)⟩,?_⟩
     rw [gS,if_pos e,e2]
     exact ⟨ov,rfl,by rw [show (n : Int).toNat = n from rfl,ex]; exact hy.slI⟩
    have hbox : H[h.length + 2]? = some (some (.row [ov])) := by
     cases hB : bsD l n l.length [] with
     | some x => rw [hB] at hy; exact hy.2.box
     | none => rw [hB] at hy; exact hy.2.box
    have hbL : ∀ L,(H ++ L)[h.length + 2]? = some (some (.row [ov])) := fun L => aC hbox
    simp only [go_sem,hbox,hbL]
    cases hB : bsD l n l.length [] with
    | some x => rw [hB] at hy fin; exact fin x rfl hy.2
    | none => rw [hB] at hy fin; exact fin [] rfl hy.2
 · simp only [go_sem,e]
   exact ⟨aJ.refl.app,by rw [gS,if_neg e]⟩
theorem lP (a b : Int) : bE Tryz.prog w0 74 [.agg [.int .i64 a,.int .i64 b]] h (.bool (eQ a b 0 1440)) h := by
 refine aX aW aCy mf74_b mf74_g (qE rfl) (by simp [AV.bdd,AV.bdds]) fun hb ha => bA ?_
 simp only [go_sem,mf74]
 exact ⟨fun x => ⟨fun y => by simp [eQ,x,y],fun y => by simp [eQ,x,y]⟩,fun x => by simp [eQ,x]⟩
theorem jD {v : AV} {l : List aG} (hv : Sl w0 h 4 v (l.map aG.c)) (hn : l.length < 1000000) : bE Tryz.prog w0 19 [v] h (.bool (l.all bH)) h := by
 refine aX aW aCL mf19_b mf19_g (qE rfl) (by simp [AV.bdd,AV.bdds]) fun hb ha => bA ?_
 obtain ⟨hlen,q,hix,hrow,_⟩ := hv.use
 rw [List.length_map] at hlen hix
 have vb := hv.bdd (Nat.le_refl _)
 simp only [go_sem,mf19]
 refine jY (fun j => [(0,v),(3,.int .i64 j)]) (fun j => bH (l.getD j ⟨0,0,0,0⟩) = true) l.length rfl (fun j hj hall ih => ?_) (fun hall => ?_)
 · refine bD aW wK [0,3] L19_0.eq_1 ?_
   have e1 : (j : Int) < l.length := by omega
   have e2 := hix j hj
   have e3 : ∀ L,rdn w0 (h ++ L) (q.add (j * 4)) 4 = some l[j].c := fun L => dJ (hrow j _ (dH hj))
   have e3' := hrow j _ (dH hj)
   obtain ⟨r,hr⟩ : ∃ r,r = l[j] := ⟨_,rfl⟩
   rw [cV hj,← hr] at ih
   have no : bH r = false → l.all bH = false := fun x => by
    rw [List.all_eq_false]; exact ⟨_,qG hj,by rw [← hr,x]; simp⟩
   simp only [go_sem,hlen,e1,e2,e3,e3',← hr]
   refine aP (lP r.cl r.ch).v ?_
   cases c1 : eQ r.cl r.ch 0 1440 with
   | false => simp only [go_sem]; rw [no (by simp [bH,c1])]
   | true =>
   simp only [go_sem]
   refine aP (lP r.gl r.gh).v ?_
   cases c2 : eQ r.gl r.gh 0 1440 with
   | false => simp only [go_sem]; rw [no (by simp [bH,c2])]
   | true =>
   simp only [go_sem]
   refine ⟨fun c3 => ⟨fun c4 => ?_,fun c4 => ⟨(by unfold I64; omega),oO 0 hb (by simp [HBs]) (by simp [jR,jS,lG,lH,pH,kZ,AV.bdds,AV.bdd,Pl.bdd,hM]; exact vb) ?_⟩⟩,fun c3 => ?_⟩
   · rw [no (by simp [bH]; omega)]
   · simpa using ih (by simp only [bH,c1,c2,Bool.true_and,Bool.and_eq_true,decide_eq_true_eq]; omega)
   · rw [no (by simp [bH]; omega)]
 · refine bD aW wK [0,3] L19_0.eq_1 ?_
   have e1 : ¬ (l.length : Int) < l.length := by omega
   have : l.all bH = true := by rw [← lQ ⟨0,0,0,0⟩,List.all_eq_true]; exact fun j hj => hall j (List.mem_range.1 hj)
   simp only [go_sem,hlen,e1]
   rw [this]
theorem aCc (a b : aG) : bE Tryz.prog w0 77 [.agg a.c,.agg b.c] h (.bool (decide (a.cl ≤ b.gh) && decide (b.cl ≤ a.gh))) h := by
 refine aX aW aCw mf77_b mf77_g (qE rfl) (by simp [AV.bdd,AV.bdds]) fun hb ha => bA ?_
 simp only [go_sem,mf77]
 exact ⟨fun x => by simp [x],fun x => by simp [x]⟩
def eG (l : List aG) (at' : List Int) : Bool := (List.range at'.length).all fun i => (List.range i).all fun k => !(decide (at'.getD i 0 = at'.getD k 0) && cD (aY l k) (aY l i))
theorem iV {l : List aG} {at' : List Int} : eG l at' = true ↔ dP l at' := by
 simp only [eG,dP,List.all_eq_true,List.mem_range,Bool.not_eq_true',Bool.and_eq_false_imp,decide_eq_true_eq]
theorem pX {v av : AV} {l : List aG} {at' : List Int} (hv : Sl w0 h 4 v (l.map aG.c)) (hat : SlI w0 h av at') (hl : l.all bH = true) (hn : at'.length ≤ l.length) (hn2 : l.length < 1000) :
 bE Tryz.prog w0 24 [v,av] h (.bool (eG l at')) h := by
 refine aX aW aCI mf24_b mf24_g (qE rfl) (by simp [AV.bdd,AV.bdds]) fun hb ha => bA ?_
 obtain ⟨_,q,hix,hrow,_⟩ := hv.use
 rw [List.length_map] at hix
 have hlen := (SlI.use hat).1
 have vb := hv.bdd (Nat.le_refl _)
 have ab := hat.bdd (Nat.le_refl _)
 simp only [go_sem,mf24]
 refine jY (fun j => [(0,v),(1,av),(5,.int .i64 j)]) (fun j => ((List.range j).all fun k => !(decide (at'.getD j 0 = at'.getD k 0) && cD (aY l k) (aY l j))) = true) at'.length rfl (fun j hj hall ih => ?_) (fun hall => ?_)
 · refine bD aW wH [0,1,5] L24_1.eq_1 ?_
   have e1 : (j : Int) < at'.length := by omega
   simp only [go_sem,hlen,e1]
   refine jY (fun k => [(0,v),(1,av),(5,.int .i64 j),(6,.int .i64 k)]) (fun k => (!(decide (at'.getD j 0 = at'.getD k 0) && cD (aY l k) (aY l j))) = true) j rfl (fun k hk _ ih2 => ?_) (fun hall2 => ?_)
   · refine bD aW wI [0,1,5,6] L24_0.eq_1 ?_
     have e2 : (k : Int) < j := by omega
     have hjl : j < l.length := by omega
     have hkl : k < l.length := by omega
     obtain ⟨p1,i1,r1,r1'⟩ := SlI.at_ hat hj
     obtain ⟨p2,i2,r2,r2'⟩ := SlI.at_ hat (j := k) (by omega)
     rw [← cV (d := 0)] at r1 r1' r2 r2'
     have x1 := hix j hjl
     have x2 := hix k hkl
     have y1 : ∀ L,rdn w0 (h ++ L) (q.add (j * 4)) 4 = some (aY l j).c := fun L => dJ (hrow j _ (by rw [aY,cV hjl]; exact dH hjl))
     have y2 : ∀ L,rdn w0 (h ++ L) (q.add (k * 4)) 4 = some (aY l k).c := fun L => dJ (hrow k _ (by rw [aY,cV hkl]; exact dH hkl))
     have y1' := y1 []; have y2' := y2 []
     rw [List.append_nil] at y1' y2'
     have b1 : bH (aY l j) = true := List.all_eq_true.1 hl _ (by rw [aY,cV hjl]; exact qG hjl)
     have b2 : bH (aY l k) = true := List.all_eq_true.1 hl _ (by rw [aY,cV hkl]; exact qG hkl)
     have hm : (decide ((aY l j).cl ≤ (aY l k).gh) && decide ((aY l k).cl ≤ (aY l j).gh)) = cD (aY l k) (aY l j) := by rw [← aBz b1 b2,lV]
     by_cases q1 : at'.getD j 0 = at'.getD k 0
     · simp only [go_sem,e2,i1,i2,r1,r2,r1',r2',q1,x1,x2,y1,y2,y1',y2']
       refine aP (aCc (aY l j) (aY l k)).v ?_
       rw [hm]
       cases q2 : cD (aY l k) (aY l j) with
       | true =>
        simp only [go_sem]
        have : eG l at' = false := by
         cases h' : eG l at'
         · rfl
         · exact absurd (iV.1 h' j hj k hk q1) (by simp [q2])
        rw [this]
       | false =>
        simp only [go_sem]
        exact ⟨(by unfold I64; omega),ih2 (by rw [q2,Bool.and_false]; rfl)⟩
     · simp only [go_sem,e2,i1,i2,r1,r2,r1',r2',q1]
       exact ⟨(by unfold I64; omega),ih2 (by rw [decide_eq_false q1]; rfl)⟩
   · refine bD aW wI [0,1,5,6] L24_0.eq_1 ?_
     have e2 : ¬ (j : Int) < j := by omega
     simp only [go_sem,e2]
     exact ⟨(by unfold I64; omega),ih (by rw [List.all_eq_true]; exact fun k hk => hall2 k (List.mem_range.1 hk))⟩
 · refine bD aW wH [0,1,5] L24_1.eq_1 ?_
   have e1 : ¬ (at'.length : Int) < at'.length := by omega
   have : eG l at' = true := by rw [eG,List.all_eq_true]; exact fun j hj => hall j (List.mem_range.1 hj)
   simp only [go_sem,hlen,e1]
   rw [this]
end Go.Proofs.Ab
namespace Go.Proofs.Ab
open Go Go.Proofs
variable {w : World} {h : aA} {cs : List Value}
theorem yZ {v : Value} (g : Gd w (.sl sS .nil) [v]) : ∃ l : List aG,Sl w h 4 (inj v) (l.map aG.c) ∧ l.length ≤ 9223372036854775807 := by
 obtain ⟨_,_,e,h,rfl⟩ := g
 cases e
 exact zN aG.c rfl h fun _ g => by
  obtain ⟨a,b,c,d,e,_⟩ := aD3 g
  exact ⟨⟨a,b,c,d⟩,e⟩
end Go.Proofs.Ab
namespace Go.Proofs.Ab
open Go Go.Proofs
variable {w0 : World} {h : aA}
attribute [local irreducible] ACall bC dB bE eH rvC lp rg dr ex un rv
theorem yN {l : List aG} {n : Nat} (hl : l.all bH = true) (hc : cT l n = none) : ∃ x,bsD l n l.length [] = some x ∧ dP l x ∧ iY n x ∧ x.length = l.length ∧ ∀ y,dP l y → iY n y → y.length = l.length → befD y x = false := by
 obtain ⟨y,y1,y2,y3⟩ := tS (fun s hs => List.all_eq_true.1 hl s hs) hc
 obtain ⟨x,hx,_⟩ := kF l.length [] y (by simpa using y1) y2 y3
 obtain ⟨a,b,c,_⟩ := mK l.length [] _ hx (fun i hi => by simp at hi) (fun x hx => by simp at hx)
 refine ⟨_,hx,a,b,by simpa using c,fun z z1 z2 z3 => ?_⟩
 obtain ⟨x',hx',_,hb⟩ := kF l.length [] z (by simpa using z1) z2 z3
 rw [hx] at hx'
 simp only [List.nil_append,Option.some.injEq] at hx'
 rw [List.nil_append,hx']; exact hb
theorem zQ (t : Int) {v : AV} {l : List aG} (hv : Sl w0 h 4 v (l.map aG.c)) (hn : l.length < 1000) :
 ACall Tryz.prog w0 76 [v,.int .i64 t] h fun y H => Gro h H 1 (cO l t).length y (cI (cO l t)) := by
 refine aV aW aCx mf76_b mf76_g (qE rfl) fun hb ha => bA ?_
 have hlen : gL v = some (.int .i64 l.length) := by have := hv.use.1; rwa [List.length_map] at this
 simp only [go_sem,mf76]
 refine fU (S := Nat × aA × AV) (F := fun s => [(0,v),(1,.int .i64 t),(5,s.2.2),(6,.int .i64 s.1)]) (H := fun s => s.2.1) (meas := fun s => l.length - s.1)
  (Inv := fun s => s.1 ≤ l.length ∧ Gro h s.2.1 1 (bI t (l.take s.1) 0).length s.2.2 (cI (bI t (l.take s.1) 0))) (0,h,.nilS) ⟨Nat.zero_le _,by simpa [bI,cI] using Gro.nil aJ.refl⟩ rfl (by simp) ?_
 rintro ⟨j,H,ov⟩ ⟨hj,hG⟩ ih
 simp only at hj hG ih ⊢
 refine bD aW aEa [0,1,5,6] L76_0.eq_1 ?_
 by_cases hjl : j < l.length
 · have e1 : (j : Int) < l.length := by omega
   obtain ⟨_,q,hix,hrow,_⟩ := (hv.sub hG.sub).use
   rw [List.length_map] at hix
   have e2 := hix j hjl
   have r0 := hrow j _ (dH hjl)
   have f1 : ∀ L,rd w0 (H ++ L) (((q.add (j * 4)).add 0).add 0) = some (.int .i64 l[j].cl) := fun L => by rw [Pl.add_add]; exact fO (sJ r0 (o := 0) rfl)
   have f2 : ∀ L,rd w0 (H ++ L) (((q.add (j * 4)).add 2).add 1) = some (.int .i64 l[j].gh) := fun L => by rw [Pl.add_add]; exact fO (sJ r0 (o := 3) rfl)
   have f1' := f1 []; have f2' := f2 []
   rw [List.append_nil] at f1' f2'
   have hs := gJ t l[j] (l.take j) 0
   rw [← List.take_succ_eq_append_getElem hjl,List.length_take,Nat.min_eq_left hj,Nat.zero_add] at hs
   simp only [go_sem,hlen,e1,e2,f1,f2,f1',f2']
   refine aP (rin_c t l[j].cl l[j].gh).v ?_
   rw [show inB t l[j].cl l[j].gh = bV l[j] t from rfl]
   cases e4 : bV l[j] t with
   | false =>
    rw [e4] at hs
    simp only [go_sem]
    refine ⟨(by unfold I64; omega),ih (j + 1,_,ov) ⟨by simp only; omega,by rw [hs]; simpa using hG⟩ (by simp only; omega)⟩
   | true =>
    rw [e4] at hs
    obtain ⟨X,eX⟩ : ∃ X,X = H ++ [some (.row [.int .i64 j])] := ⟨_,rfl⟩
    have gX : Gro h X 1 (bI t (l.take j) 0).length ov (cI (bI t (l.take j) 0)) := eX ▸ hG.app
    have hk : X[H.length]? = some (some (.row [.int .i64 j])) := by rw [eX,qI (Nat.le_refl _),Nat.sub_self]; rfl
    have hpl := fT t (l.take j) 0
    rw [List.length_take] at hpl
    obtain ⟨G,e5,e6⟩ := gX.more (w0 := w0) (b := 8) (f := true) hk rfl rfl (by omega) (by omega)
    simp only [go_sem]
    rw [← eX,e5]
    simp only [go_sem]
    refine ⟨(by unfold I64; omega),ih (j + 1,G,_) ⟨by simp only; omega,?_⟩ (by simp only; omega)⟩
    rw [hs]
    simpa [cI] using e6
 · have e1 : ¬ (j : Int) < l.length := by omega
   obtain rfl : j = l.length := by omega
   simp only [go_sem,hlen,e1]
   simpa [List.take_length,cO] using hG
def lU : List Int := (List.range 1441).map fun n : Nat => (n : Int)
theorem aCg : lU.Pairwise (· ≤ ·) := by
 rw [lU,List.pairwise_map]; exact List.pairwise_lt_range.imp fun h => by omega
theorem aAe (t : Int) : t ∈ lU ↔ 0 ≤ t ∧ t ≤ 1440 := by
 rw [lU,List.mem_map]
 constructor
 · rintro ⟨n,hn,rfl⟩; rw [List.mem_range] at hn; omega
 · rintro ⟨h1,h2⟩; exact ⟨t.toNat,by rw [List.mem_range]; omega,by omega⟩
theorem pW (bs : Int) {v : AV} {l : List aG} (hv : Sl w0 h 4 v (l.map aG.c)) (hn : l.length < 1000) (hl : l.all bH = true) (hbs : 0 ≤ bs) :
 ACall Tryz.prog w0 22 [v,.int .i64 bs] h fun y H => aJ h H ∧ match cT l bs with
  | some t => ∃ pv,y = .tup [.int .i64 t,pv] ∧ SlI w0 H pv (cO l t)
  | none => y = .tup [.int .i64 (-1),.nilS] := by
 rw [← xY (fun s hs => List.all_eq_true.1 hl s hs) hbs aCg aAe]
 refine aV aW aCJ mf22_b mf22_g (qE rfl) fun hb ha => bA ?_
 simp only [go_sem,mf22]
 refine fU (S := Nat × aA) (F := fun s => [(0,v),(1,.int .i64 bs),(6,.int .i64 s.1)]) (H := fun s => s.2) (meas := fun s => 1441 - s.1)
  (Inv := fun s => s.1 ≤ 1441 ∧ aJ h s.2 ∧ lU.find? (eI l bs) = (lU.drop s.1).find? (eI l bs)) (0,h) ⟨Nat.zero_le _,aJ.refl,rfl⟩ rfl (by simp) ?_
 rintro ⟨j,H⟩ ⟨hj,sH,hf⟩ ih
 simp only at hj sH hf ih ⊢
 refine bD aW aEe [0,1,6] L22_0.eq_1 ?_
 have hml : lU.length = 1441 := by rw [lU,List.length_map,List.length_range]
 by_cases hjl : j < 1441
 · have e1 : (j : Int) ≤ 1440 := by omega
   have hjm : j < lU.length := by omega
   have hmj : lU[j] = (j : Int) := by simp [lU]
   rw [List.drop_eq_getElem_cons hjm,hmj] at hf
   simp only [go_sem,e1]
   refine aN (ACall.vc (first := []) (args := [v,.int .i64 j]) (zQ j (hv.sub sH) hn)) ?_
   intro y G hG
   have s2 := sH.trans hG.sub
   cases e4 : eI l bs j with
   | true =>
    rw [List.find?_cons_of_pos e4] at hf
    have e5 : ((cO l j).length : Int) > bs := by simpa [eI] using e4
    simp only [go_sem,hG.len,e5]
    rw [hf]
    exact ⟨s2,y,rfl,hG.sli rfl⟩
   | false =>
    rw [List.find?_cons_of_neg (by simp [e4])] at hf
    have e5 : ¬ ((cO l j).length : Int) > bs := by simpa [eI] using e4
    simp only [go_sem,hG.len,e5]
    exact ⟨(by unfold I64; omega),ih (j + 1,G) ⟨by simp only; omega,s2,hf⟩ (by simp only; omega)⟩
 · have e1 : ¬ (j : Int) ≤ 1440 := by omega
   obtain rfl : j = 1441 := by omega
   rw [List.drop_of_length_le (by omega),List.find?_nil] at hf
   simp only [go_sem,e1]
   rw [hf]
   exact ⟨sH,trivial⟩
theorem zV {bs : Nat} {v : AV} {l : List aG} {h0 : aA} (hv : Sl w0 h0 4 v (l.map aG.c)) (hn : l.length ≤ 12) (hl : l.all bH = true) (hbs : bs ≤ 6) :
 ∀ (k : Nat) (out : List Int) (H : aA) (bv : AV),out.length + k = l.length → aJ h0 H → SlO w0 H bv out →
  ACall Tryz.prog w0 75 [v,.int .i64 bs,bv] H fun y H' => aJ H H' ∧ match (if eG l out then bsD l bs k out else none) with
   | some x => ∃ xv,y = .tup [xv,.bool true] ∧ SlI w0 H' xv x
   | none => y = .tup [.nilS,.bool false] := by
 intro k
 induction k with
 | zero =>
  intro out H bv hk sH hb0
  refine aV aW uN aAi aAh (qE rfl) fun hb ha => bA ?_
  have hlen : gL v = some (.int .i64 l.length) := by have := hv.use.1; rwa [List.length_map] at this
  have hlb := (SlI.use hb0.s).1
  simp only [go_sem,mf75]
  rw [List.append_nil]
  refine aP (pX (hv.sub sH) hb0.s hl (by omega) (by omega)).v ?_
  cases e : eG l out with
  | false =>
   simp only [go_sem]
   exact aJ.refl
  | true =>
   have e3 : (out.length : Int) = l.length := by omega
   simp only [go_sem,hlen,hlb,e3]
   exact ⟨aJ.refl,bv,rfl,hb0.s⟩
 | succ k ih =>
  intro out H bv hk sH hb0
  refine aV aW uN aAi aAh (qE rfl) fun hb ha => bA ?_
  have hlen : gL v = some (.int .i64 l.length) := by have := hv.use.1; rwa [List.length_map] at this
  have hlb := (SlI.use hb0.s).1
  simp only [go_sem,mf75]
  rw [List.append_nil]
  refine aP (pX (hv.sub sH) hb0.s hl (by omega) (by omega)).v ?_
  cases e : eG l out with
  | false =>
   simp only [go_sem]
   exact aJ.refl
  | true =>
  have hA := iV.1 e
  have e3 : ¬ (out.length : Int) = l.length := by omega
  simp only [go_sem,hlen,hlb,e3,if_true]
  refine fU (S := Nat × aA) (F := fun t => [(0,v),(1,.int .i64 bs),(2,bv),(8,.int .i64 t.1)]) (H := fun t => t.2) (meas := fun t => bs - t.1)
   (Inv := fun t => t.1 ≤ bs ∧ aJ H t.2 ∧ bsD l bs (k + 1) out = ((List.range bs).drop t.1).findSome? fun c : Nat => if jM l out (c : Int) then bsD l bs k (out ++ [(c : Int)]) else none) (0,H) ⟨Nat.zero_le _,aJ.refl,rfl⟩ rfl rfl ?_
  rintro ⟨c,G⟩ ⟨hc,sG,hG⟩ ih2
  simp only at hc sG hG ih2 ⊢
  refine bD aW aEb [0,1,2,8] L75_0.eq_1 ?_
  by_cases hcl : c < bs
  · have e5 : (c : Int) < bs := by omega
    rw [List.drop_eq_getElem_cons (by simpa using hcl),List.findSome?_cons,List.getElem_range] at hG
    obtain ⟨u,L,a1,G2,a2,a3,a4,_⟩ := aD8 (hb0.sub sG) c (by omega)
    simp only [go_sem,e5,a1,a2]
    have hb2 : SlO w0 G2 (.sl (.own (G.length + (L.length + 1)) 0) (out.length + 1) 1 false) (out ++ [(c : Int)]) := ⟨aB6 a4 (by simp),fun e => by simp at e⟩
    refine aN (ACall.vc (first := []) (args := [v,.int .i64 bs,_]) (ih (out ++ [(c : Int)]) G2 _ (by simp; omega) (sH.trans (sG.trans a3)) hb2)) ?_
    rintro y H' ⟨s1,hy⟩
    have hap : eG l (out ++ [(c : Int)]) = jM l out c := by
     rw [Bool.eq_iff_iff,iV,iU]; simp [hA]
    rw [hap] at hy
    have s3 := (sG.trans a3).trans s1
    cases hf : (if jM l out (c : Int) = true then bsD l bs k (out ++ [(c : Int)]) else none) with
    | some x =>
     rw [hf] at hy hG
     obtain ⟨xv,rfl,hx⟩ := hy
     simp only [go_sem]
     rw [hG]
     exact ⟨s3,xv,rfl,hx⟩
    | none =>
     rw [hf] at hy hG
     subst hy
     simp only [go_sem]
     exact ⟨(by unfold I64; omega),ih2 (c + 1,H') ⟨by simp only; omega,s3,hG⟩ (by simp only; omega)⟩
  · have e5 : ¬ (c : Int) < bs := by omega
    obtain rfl : c = bs := by omega
    rw [List.drop_of_length_le (by simp),List.findSome?_nil] at hG
    simp only [go_sem,e5]
    rw [hG]
    exact ⟨sG,trivial⟩
theorem pY {bs : Nat} {v : AV} {l : List aG} (hv : Sl w0 h 4 v (l.map aG.c)) (hn : l.length ≤ 12) (hl : l.all bH = true) (hbs : bs ≤ 6) :
 ACall Tryz.prog w0 20 [v,.int .i64 bs] h fun y H => aJ h H ∧ match bsD l bs l.length [] with
  | some x => ∃ xv,y = .tup [xv,.bool true] ∧ SlI w0 H xv x
  | none => y = .tup [.nilS,.bool false] := by
 refine aV aW aCK mf20_b mf20_g (qE rfl) fun hb ha => bA ?_
 simp only [go_sem,mf20]
 rw [List.append_nil]
 refine aN (ACall.vc (first := []) (args := [v,.int .i64 bs,.nilS]) (zV hv hn hl hbs l.length [] h .nilS (by simp) aJ.refl ⟨.inl ⟨rfl,rfl⟩,fun _ => rfl⟩)) ?_
 rintro y H ⟨s1,hy⟩
 rw [show eG l [] = true from rfl,if_pos rfl] at hy
 cases hB : bsD l bs l.length [] with
 | some x =>
  rw [hB] at hy
  obtain ⟨xv,rfl,hx⟩ := hy
  simp only [go_sem]
  exact ⟨s1,xv,rfl,hx⟩
 | none =>
  rw [hB] at hy
  subst hy
  simp only [go_sem]
  exact s1
theorem pJ {v : AV} {l : List aG} (bs : Int) (hv : Sl w0 h 4 v (l.map aG.c)) (hn : l.length ≤ 9223372036854775807) : bE Tryz.prog w0 3 [v,.int .i64 bs] h (.bool true) h := by
 refine eM trivial (aV aW mf3_ok mf3_b mf3_g (qE rfl) fun hb ha => bA ?_)
 have hlen : gL v = some (.int .i64 l.length) := by have := hv.use.1; rwa [List.length_map] at this
 by_cases q1 : (l.length : Int) > 30
 · have q2 : (l.length : Int) > 6 := by omega
   have q3 : ¬ (l.length : Int) ≤ 12 := by omega
   simp only [go_sem,mf3,hlen,q1,q2,q3]
   refine aP fB.v ?_
   simp only [go_sem]
   exact aJ.refl.app
 by_cases q3 : (l.length : Int) > 12
 · have q2 : (l.length : Int) > 6 := by omega
   have q4 : ¬ (l.length : Int) ≤ 12 := by omega
   have e0 : bL l bs = 3 := by rw [bL,if_pos (by omega)]
   simp only [go_sem,mf3,hlen,q1,q2,q4]
   rw [List.append_nil]
   refine aN (ACall.vc (first := []) (args := [v,.int .i64 bs]) (wQ bs hv)) ?_
   rintro y H ⟨s1,hy⟩
   rw [gS,if_neg (by omega),e0] at hy
   subst hy
   simp only [go_sem]
   refine aN (ACall.vc (first := []) (args := [v,.int .i64 bs]) (jU bs (hv.sub s1))) ?_
   rintro z H2 ⟨s2,hz⟩
   rw [fZ,if_neg (by omega),e0] at hz
   subst hz
   simp only [go_sem,hlen,q3]
   refine ⟨(by unfold I64; omega),?_⟩
   refine aP fB.v ?_
   simp only [go_sem]
   exact s1.trans s2
 by_cases q2 : (l.length : Int) > 6
 · have q4 : (l.length : Int) ≤ 12 := by omega
   simp only [go_sem,mf3,hlen,q2,q4]
   refine aP fB.v ?_
   simp only [go_sem]
   exact aJ.refl.app
 simp only [go_sem,mf3,hlen,q1,q2]
 rw [List.append_nil]
 refine aN (ACall.vc (first := []) (args := [v,.int .i64 bs]) (wQ bs hv)) ?_
 rintro y H ⟨s1,hy⟩
 have bad : bL l bs = 2 → y = .tup [.nilS,.int .i64 2] := fun e => by rw [gS,if_neg (by omega),e] at hy; exact hy
 cases hl : l.all bH with
 | false =>
  have e0 : bL l bs = 2 := by rw [bL,if_neg (by omega),hl,Bool.and_false]; rfl
  obtain rfl := bad e0
  simp only [go_sem]
  refine aN (ACall.vc (first := []) (args := [v,.int .i64 bs]) (jU bs (hv.sub s1))) ?_
  rintro z H2 ⟨s2,hz⟩
  rw [fZ,if_neg (by omega),e0] at hz
  subst hz
  simp only [go_sem,hlen,q3]
  refine aP (jD ((hv.sub s1).sub s2) (by omega)).v ?_
  rw [hl]
  simp only [go_sem]
  refine ⟨(by unfold I64; omega),?_⟩
  refine aP fB.v ?_
  simp only [go_sem]
  exact s1.trans s2
 | true =>
 by_cases hbs : 0 ≤ bs ∧ bs ≤ 6
 rotate_left
 · have e0 : bL l bs = 2 := by
    rw [bL,if_neg (by omega),hl,show inB bs 0 6 = false by
     cases e : inB bs 0 6
     · rfl
     · simp only [inB,Bool.and_eq_true,decide_eq_true_eq] at e; exact absurd e hbs]; rfl
   obtain rfl := bad e0
   simp only [go_sem]
   refine aN (ACall.vc (first := []) (args := [v,.int .i64 bs]) (jU bs (hv.sub s1))) ?_
   rintro z H2 ⟨s2,hz⟩
   rw [fZ,if_neg (by omega),e0] at hz
   subst hz
   simp only [go_sem,hlen,q3]
   refine aP (jD ((hv.sub s1).sub s2) (by omega)).v ?_
   rw [hl]
   by_cases c1 : bs < 0
   · simp only [go_sem,c1]
     refine ⟨(by unfold I64; omega),?_⟩
     refine aP fB.v ?_
     simp only [go_sem]
     exact s1.trans s2
   · have c2 : bs > 6 := by omega
     simp only [go_sem,c1,c2]
     refine ⟨(by unfold I64; omega),?_⟩
     refine aP fB.v ?_
     simp only [go_sem]
     exact s1.trans s2
 obtain ⟨n,rfl⟩ : ∃ n : Nat,bs = n := ⟨bs.toNat,by omega⟩
 have c1 : ¬ (n : Int) < 0 := by omega
 have c2 : ¬ (n : Int) > 6 := by omega
 have e0 : bL l n = 0 := by
  rw [bL,if_neg (by omega),hl,show inB (n : Int) 0 6 = true by simp only [inB,Bool.and_eq_true,decide_eq_true_eq]; omega]; rfl
 rw [gS,if_pos e0] at hy
 cases hcr : cT l n with
 | some t =>
  rw [hcr] at hy
  subst hy
  have hno : bsD l n l.length [] = none := by
   cases hB : bsD l n l.length [] with
   | none => rfl
   | some x =>
    obtain ⟨a,b,c,_⟩ := mK l.length [] x hB (fun i hi => by simp at hi) (fun x hx => by simp at hx)
    exact (aBt t (by have := List.find?_some hcr; simpa [eI] using this) a b (by simpa using c)).elim
  have ht : ¬ t < 0 := by
   obtain ⟨s,hs,rfl⟩ := fM.1 (List.mem_of_find?_eq_some hcr)
   have := dU.1 (List.all_eq_true.1 hl s hs); omega
  simp only [go_sem]
  refine aN (ACall.vc (first := []) (args := [v,.int .i64 n]) (jU n (hv.sub s1))) ?_
  rintro z H2 ⟨s2,hz⟩
  rw [fZ,if_pos e0,hcr] at hz
  obtain ⟨pv,rfl,hp⟩ := hz
  have t2 := s1.trans s2
  simp only [go_sem,hlen,q3]
  refine aP (jD (hv.sub t2) (by omega)).v ?_
  rw [hl]
  simp only [go_sem,c1,c2]
  refine aN (ACall.vc (first := []) (args := [v,.int .i64 n]) (pY (hv.sub t2) (by omega) hl (by omega))) ?_
  rintro z2 H3 ⟨s3,hz2⟩
  rw [hno] at hz2
  subst hz2
  have t3 := t2.trans s3
  simp only [go_sem]
  refine aN (ACall.vc (first := []) (args := [v,.int .i64 n]) (pW n (hv.sub t3) (by omega) hl (by omega))) ?_
  rintro z3 H4 ⟨s4,hz3⟩
  rw [hcr] at hz3
  obtain ⟨qv,rfl,hq⟩ := hz3
  have hpl := fT t l 0
  simp only [go_sem,ht]
  refine aP (uE (Sl.sub (hp.sli (w0 := w0) rfl) (s3.trans s4)) hq (by simp only [cO]; omega)).v ?_
  simp only [go_sem,decide_true]
  refine aP fB.v ?_
  simp only [go_sem]
  exact t3.trans s4
 | none =>
  rw [hcr] at hy
  obtain ⟨lv,rfl,hlv⟩ := hy
  obtain ⟨x,hx,xa,xr,xl,xb⟩ := yN hl hcr
  rw [show (n : Int).toNat = n from rfl,hx,Option.getD_some] at hlv
  simp only [go_sem]
  refine aN (ACall.vc (first := []) (args := [v,.int .i64 n]) (jU n (hv.sub s1))) ?_
  rintro z H2 ⟨s2,hz⟩
  rw [fZ,if_pos e0,hcr] at hz
  subst hz
  have t2 := s1.trans s2
  simp only [go_sem,hlen,q3]
  refine aP (jD (hv.sub t2) (by omega)).v ?_
  rw [hl]
  simp only [go_sem,c1,c2]
  refine aN (ACall.vc (first := []) (args := [v,.int .i64 n]) (pY (hv.sub t2) (by omega) hl (by omega))) ?_
  rintro z2 H3 ⟨s3,hz2⟩
  rw [hx] at hz2
  obtain ⟨xv,rfl,hxv⟩ := hz2
  have t3 := t2.trans s3
  simp only [go_sem]
  refine aP (uE (Sl.sub hlv (s2.trans s3)) hxv (by omega)).v ?_
  simp only [go_sem,decide_true]
  refine aN (ACall.vc (first := []) (args := [v,.int .i64 n]) (pW n (hv.sub t3) (by omega) hl (by omega))) ?_
  rintro z3 H4 ⟨s4,hz3⟩
  rw [hcr] at hz3
  subst hz3
  simp only [go_sem]
  refine aP fB.v ?_
  simp only [go_sem]
  exact t3.trans s4
end Go.Proofs.Ab

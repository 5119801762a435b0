/- The own layer under the proofs of this seat, part M: what calls of the program come to on an abstract heap. No condition. -/
import Derived.Test.YtajecdfdnlfndaaGreatK
import Derived.Test.YtajecdfdnlfndaaGreatI
set_option linter.unusedSimpArgs false
set_option linter.unusedVariables false
namespace Go.Proofs.Ab
open Go Go.Proofs
theorem rV {l : List aI} {t : Int} : t ∈ cO l ↔ ∃ s ∈ l,s.cl = t := by rw [cO,rT,List.mem_map]
def bZ (s : aI) (t : Int) : Bool := inB t s.cl s.gh
def cB (a b : aI) : Bool := bZ a b.cl || bZ b a.cl
def aX (l : List aI) (i : Nat) : aI := l.getD i ⟨0,0,0,0⟩
def bV (t : Int) : List aI → Nat → List Int
 | [],_ => []
 | s :: r,i => if bZ s t then (i : Int) :: bV t r (i + 1) else bV t r (i + 1)
def cS (l : List aI) (t : Int) : List Int := bV t l 0
def lL (l : List aI) (bs : Int) (t : Int) : Bool := decide (bs < (cS l t).length)
def eM (l : List aI) (bs : Int) : Option Int := (cO l).find? (lL l bs)
def eJ (lo hi a b : Int) : Bool := decide (a ≤ lo) && (decide (lo ≤ hi) && decide (hi ≤ b))
def bP (s : aI) : Bool := eJ s.cl s.ch 0 1440 && (eJ s.gl s.gh 0 1440 && (decide (s.cl ≤ s.gl) && decide (s.ch ≤ s.gh)))
theorem gJ {s : aI} : bP s = true ↔ (0 ≤ s.cl ∧ s.cl ≤ s.ch ∧ s.ch ≤ 1440) ∧ (0 ≤ s.gl ∧ s.gl ≤ s.gh ∧ s.gh ≤ 1440) ∧ s.cl ≤ s.gl ∧ s.ch ≤ s.gh := by
 simp [bP,eJ,and_assoc]
def mA (l : List aI) (out : List Int) (b : Int) : Bool := (List.range out.length).all fun i => !(decide (out.getD i 0 = b) && cB (aX l i) (aX l out.length))
def bsD (l : List aI) (bs : Nat) : Nat → List Int → Option (List Int)
 | 0,out => some out
 | k + 1,out => (List.range bs).findSome? fun b : Nat => if mA l out (b : Int) then bsD l bs k (out ++ [(b : Int)]) else none
def dM (l : List aI) (at' : List Int) : Prop := ∀ i,i < at'.length → ∀ k,k < i → at'.getD i 0 = at'.getD k 0 → cB (aX l k) (aX l i) = false
def iS (bs : Nat) (at' : List Int) : Prop := ∀ x ∈ at',0 ≤ x ∧ x < bs
theorem bN {l m : List Int} {i : Nat} (h : i < l.length) : (l ++ m).getD i 0 = l.getD i 0 := by
 simp [List.getD_eq_getElem?_getD,qH h]
theorem hY {l : List Int} {x : Int} : (l ++ [x]).getD l.length 0 = x := by simp [List.getD_eq_getElem?_getD]
theorem aBc {l : List aI} {out : List Int} {b : Int} : mA l out b = true ↔ ∀ i,i < out.length → out.getD i 0 = b → cB (aX l i) (aX l out.length) = false := by
 simp only [mA,List.all_eq_true,List.mem_range,Bool.not_eq_true',Bool.and_eq_false_imp,decide_eq_true_eq]
theorem mH {l : List aI} {out : List Int} {b : Int} : dM l (out ++ [b]) ↔ dM l out ∧ mA l out b = true := by
 rw [aBc]
 constructor
 · intro h
   refine ⟨fun i hi k hk e => ?_,fun i hi e => ?_⟩
   · exact h i (by simp; omega) k hk (by rw [bN hi,bN (by omega),e])
   · exact h out.length (by simp) i hi (by rw [hY,bN hi,e])
 · rintro ⟨h1,h2⟩ i hi k hk e
   simp only [List.length_append,List.length_singleton] at hi
   by_cases hi' : i < out.length
   · rw [bN hi',bN (by omega)] at e; exact h1 i hi' k hk e
   · obtain rfl : i = out.length := by omega
     rw [hY,bN hk] at e
     exact h2 k hk e.symm
theorem rF {l : List aI} {bs : Nat} : ∀ (k : Nat) (out x : List Int),bsD l bs k out = some x → dM l out → iS bs out → dM l x ∧ iS bs x ∧ x.length = out.length + k ∧ x.take out.length = out
 | 0,out,x,h,ha,hr => by simp only [bsD,Option.some.injEq] at h; subst h; exact ⟨ha,hr,by simp,by simp⟩
 | k + 1,out,x,h,ha,hr => by
  simp only [bsD] at h
  obtain ⟨b,hb,h1⟩ := List.exists_of_findSome?_eq_some h
  rw [List.mem_range] at hb
  split at h1
  · rename_i hf
    obtain ⟨a,c,d,e⟩ := rF k _ x h1 (mH.2 ⟨ha,hf⟩) (fun y hy => by
     rcases List.mem_append.1 hy with hy | hy
     · exact hr y hy
     · rw [List.mem_singleton] at hy; subst hy; omega)
    refine ⟨a,c,by rw [d]; simp; omega,?_⟩
    have := congrArg (List.take out.length) e
    rw [List.take_take] at this
    simpa using this
  · cases h1
def kO : List Int → List Int → Bool
 | a :: r,b :: s => if a = b then kO r s else decide (a < b)
 | _,_ => false
theorem aBn (p r s : List Int) : kO (p ++ r) (p ++ s) = kO r s := by
 induction p with
 | nil => rfl
 | cons a p ih => simp [kO,ih]
theorem jX {l : List aI} {bs : Nat} : ∀ (k : Nat) (out y : List Int),dM l (out ++ y) → iS bs y → y.length = k → ∃ x,bsD l bs k out = some (out ++ x) ∧ x.length = k ∧ kO y x = false
 | 0,out,y,ha,hr,hk => ⟨[],by simp [bsD],rfl,by cases y <;> rfl⟩
 | k + 1,out,[],ha,hr,hk => by simp at hk
 | k + 1,out,b :: y,ha,hr,hk => by
  have ha' : dM l ((out ++ [b]) ++ y) := by simpa using ha
  have hb : 0 ≤ b ∧ b < bs := hr b (by simp)
  obtain ⟨x,hx,hxl,hx2⟩ := jX k (out ++ [b]) y ha' (fun z hz => hr z (by simp [hz])) (by simpa using hk)
  have hpre : ∀ m : Nat,∀ p : List Int,dM l (p ++ y.take m) → dM l p := by
   intro m p h i hi j hj e
   exact h i (by simp; omega) j hj (by rw [bN hi,bN (by omega),e])
  have hf : mA l out b = true := (mH.1 (hpre y.length _ (by simpa using ha'))).2
  have hG : ∀ c : Nat,∀ z,(if mA l out (c : Int) then bsD l bs k (out ++ [(c : Int)]) else none) = some z → ∃ x',z = out ++ ((c : Int) :: x') ∧ x'.length = k := by
   intro c z hz
   split at hz
   · rename_i hc
     have : ∀ (k : Nat) (out z : List Int),bsD l bs k out = some z → ∃ x',z = out ++ x' ∧ x'.length = k := by
      intro k
      induction k with
      | zero => intro out z h; simp only [bsD,Option.some.injEq] at h; exact ⟨[],by simp [h]⟩
      | succ k ih =>
       intro out z h
       simp only [bsD] at h
       obtain ⟨b',_,h1⟩ := List.exists_of_findSome?_eq_some h
       split at h1
       · obtain ⟨x',rfl,hl⟩ := ih _ _ h1; exact ⟨(b' : Int) :: x',by simp,by simp [hl]⟩
       · cases h1
     obtain ⟨x',rfl,hl⟩ := this k _ z hz
     exact ⟨x',by simp,hl⟩
   · cases hz
  obtain ⟨n,rfl⟩ : ∃ n : Nat,b = n := ⟨b.toNat,by omega⟩
  have hlt : n < bs := by omega
  cases hd : bsD l bs (k + 1) out with
  | none =>
   exfalso
   simp only [bsD,List.findSome?_eq_none_iff,List.mem_range] at hd
   have := hd n hlt
   rw [if_pos hf,hx] at this; cases this
  | some z =>
   simp only [bsD] at hd
   rw [List.findSome?_eq_some_iff] at hd
   obtain ⟨l1,c,l2,e,hz,hno⟩ := hd
   obtain ⟨x',rfl,hl⟩ := hG c z hz
   refine ⟨_,rfl,by simp [hl],?_⟩
   have hc : c = l1.length := by
    have h1 := congrArg (fun q => q[l1.length]?) e
    have hlen := congrArg List.length e
    simp only [List.length_range,List.length_append,List.length_cons] at hlen
    simp only [List.getElem?_range (show l1.length < bs by omega)] at h1
    simp at h1; omega
   have hcn : c ≤ n := by
    refine Nat.le_of_not_lt fun hlt' => ?_
    have hmem : n ∈ l1 := by
     have : (List.range bs)[n]? = some n := by simp [hlt]
     rw [e,qH (by omega)] at this
     exact List.mem_of_getElem? this
    have := hno n hmem
    rw [if_pos hf,hx] at this; cases this
   simp only [kO]
   split
   · rename_i hh
     obtain rfl : n = c := by omega
     rw [if_pos hf,hx] at hz
     simp only [Option.some.injEq,List.append_assoc,List.singleton_append,List.append_cancel_left_eq,List.cons.injEq,true_and] at hz
     rw [← hz]; exact hx2
   · simp; omega
theorem fM {t : Int} : ∀ (l : List aI) (i : Nat) (x : Int),x ∈ bV t l i ↔ ∃ j,j < l.length ∧ bZ (aX l j) t = true ∧ x = ((i + j : Nat) : Int)
 | [],i,x => by simp [bV]
 | s :: r,i,x => by
  have key : (∃ j,j < (s :: r).length ∧ bZ (aX (s :: r) j) t = true ∧ x = ((i + j : Nat) : Int)) ↔ (bZ s t = true ∧ x = i) ∨ ∃ j,j < r.length ∧ bZ (aX r j) t = true ∧ x = ((i + 1 + j : Nat) : Int) := by
   constructor
   · rintro ⟨j,hj,h1,h2⟩
     cases j with
     | zero => exact .inl ⟨h1,by omega⟩
     | succ j => exact .inr ⟨j,by simpa using hj,h1,by omega⟩
   · rintro (⟨h1,h2⟩ | ⟨j,hj,h1,h2⟩)
     · exact ⟨0,by simp,h1,by omega⟩
     · exact ⟨j + 1,by simpa using hj,h1,by omega⟩
  rw [key,bV]
  split
  · rename_i h; rw [List.mem_cons,fM r (i + 1)]; simp [h]
  · rename_i h; rw [fM r (i + 1)]; simp [h]
theorem fD {l : List aI} {t x : Int} : x ∈ cS l t ↔ ∃ j,j < l.length ∧ bZ (aX l j) t = true ∧ x = (j : Int) := by
 simp [cS,fM]
theorem gN {t : Int} : ∀ (l : List aI) (i : Nat),(bV t l i).Pairwise (· < ·)
 | [],i => by simp [bV]
 | s :: r,i => by
  rw [bV]
  split
  · rw [List.pairwise_cons]
    refine ⟨fun x hx => ?_,gN r (i + 1)⟩
    obtain ⟨j,_,_,rfl⟩ := (fM r (i + 1) x).1 hx; omega
  · exact gN r (i + 1)
theorem jB {α} [DecidableEq α] : ∀ {a b : List α},a.Nodup → (∀ x ∈ a,x ∈ b) → a.length ≤ b.length
 | [],b,_,_ => by simp
 | x :: a,b,hn,h => by
  rw [List.nodup_cons] at hn
  have hx := h x (by simp)
  have := jB (a := a) (b := b.erase x) hn.2 fun y hy => by
   rw [List.mem_erase_of_ne (show y ≠ x from fun e => hn.1 (e ▸ hy))]; exact h y (by simp [hy])
  rw [List.length_erase_of_mem hx] at this
  have : 0 < b.length := List.length_pos_of_mem hx
  simp; omega
theorem aA9 {bs : Nat} {l : List Int} (h : l.length < bs) : ∃ b : Nat,b < bs ∧ (b : Int) ∉ l := by
 refine Classical.byContradiction fun hc => ?_
 have : ((List.range bs).map fun n : Nat => (n : Int)).length ≤ l.length := jB (by
  rw [List.nodup_iff_pairwise_ne,List.pairwise_map]
  exact List.pairwise_lt_range.imp fun h => by omega) (by
  intro x hx
  obtain ⟨b,hb,rfl⟩ := List.mem_map.1 hx
  exact Classical.byContradiction fun hn => hc ⟨b,List.mem_range.1 hb,hn⟩)
 simp at this; omega
theorem aAU {f : Nat → Int} : ∀ l : List Nat,l ≠ [] → ∃ i ∈ l,∀ j ∈ l,f j ≤ f i
 | [x],_ => ⟨x,by simp,by simp⟩
 | x :: y :: r,_ => by
  obtain ⟨i,hi,hm⟩ := aAU (f := f) (y :: r) (by simp)
  by_cases h : f x ≤ f i
  · exact ⟨i,by simp [List.mem_cons.1 hi],fun j hj => by
     rcases List.mem_cons.1 hj with rfl | hj
     · exact h
     · exact hm j hj⟩
  · exact ⟨x,by simp,fun j hj => by
     rcases List.mem_cons.1 hj with rfl | hj
     · omega
     · have := hm j hj; omega⟩
theorem lP (a b : aI) : cB a b = cB b a := by simp [cB,Bool.or_comm]
theorem vV {l : List aI} {bs : Nat} (hl : ∀ s ∈ l,bP s = true) (hc : ∀ s ∈ l,(cS l s.cl).length ≤ bs) :
 ∀ (m : Nat) (I : List Nat),I.length = m → I.Nodup → (∀ i ∈ I,i < l.length) → ∃ c : Nat → Nat,(∀ i ∈ I,c i < bs) ∧ ∀ i ∈ I,∀ j ∈ I,i ≠ j → cB (aX l i) (aX l j) = true → c i ≠ c j
 | 0,I,h0,_,_ => by
  obtain rfl : I = [] := List.length_eq_zero_iff.1 h0
  exact ⟨fun _ => 0,by simp,by simp⟩
 | m + 1,I,hm,hn,hi => by
  obtain ⟨i,hiI,hmax⟩ := aAU (f := fun j => (aX l j).cl) I (by intro e; simp [e] at hm)
  obtain ⟨c,c1,c2⟩ := vV hl hc m (I.erase i) (by rw [List.length_erase_of_mem hiI]; omega) (hn.erase i) fun j hj => hi j (List.mem_of_mem_erase hj)
  have ht : ∀ j ∈ I,cB (aX l j) (aX l i) = true → bZ (aX l j) (aX l i).cl = true := by
   intro j hj h
   have h1 := hmax j hj
   have h2 : ∀ k ∈ I,(aX l k).cl ≤ (aX l k).gh := fun k hk => by
    have : aX l k ∈ l := by
     have := hi k hk
     simp only [aX,List.getD_eq_getElem?_getD,qA this,Option.getD_some]
     exact qG this
    have := gJ.1 (hl _ this); omega
   have := h2 j hj; have := h2 i hiI
   simp only [cB,bZ,inB,Bool.or_eq_true,Bool.and_eq_true,decide_eq_true_eq] at h ⊢
   omega
  have hself : bZ (aX l i) (aX l i).cl = true := ht i hiI (by
   have : aX l i ∈ l := by
    have := hi i hiI
    simp only [aX,List.getD_eq_getElem?_getD,qA this,Option.getD_some]
    exact qG this
   have := gJ.1 (hl _ this)
   simp only [cB,bZ,inB,Bool.or_eq_true,Bool.and_eq_true,decide_eq_true_eq]; omega)
  obtain ⟨N,hN⟩ : ∃ N,N = (I.erase i).filter fun j => cB (aX l j) (aX l i) := ⟨_,rfl⟩
  have hlen : N.length < bs := by
   have h1 : ((i :: N).map fun n : Nat => (n : Int)).length ≤ (cS l (aX l i).cl).length := jB (by
    rw [List.nodup_iff_pairwise_ne,List.pairwise_map]
    have : (i :: N).Nodup := by
     rw [List.nodup_cons,hN]
     refine ⟨fun h => ?_,(hn.erase i).filter _⟩
     have := (List.mem_filter.1 h).1
     rw [hn.mem_erase_iff] at this
     exact this.1 rfl
    exact this.imp fun h => by omega) (by
    intro x hx
    obtain ⟨j,hj,rfl⟩ := List.mem_map.1 hx
    rw [fD]
    rcases List.mem_cons.1 hj with rfl | hj
    · exact ⟨j,hi _ hiI,hself,rfl⟩
    · rw [hN,List.mem_filter] at hj
      have hjI := List.mem_of_mem_erase hj.1
      exact ⟨j,hi _ hjI,ht j hjI hj.2,rfl⟩)
   have h2 := hc (aX l i) (by
    have := hi i hiI
    simp only [aX,List.getD_eq_getElem?_getD,qA this,Option.getD_some]
    exact qG this)
   simp at h1; omega
  obtain ⟨b,hb,hbf⟩ := aA9 (bs := bs) (l := N.map fun j => (c j : Int)) (by simpa using hlen)
  have hfree : ∀ j ∈ I,j ≠ i → cB (aX l j) (aX l i) = true → c j ≠ b := by
   intro j hj hne h e
   refine hbf (List.mem_map.2 ⟨j,?_,by rw [e]⟩)
   rw [hN,List.mem_filter,hn.mem_erase_iff]
   exact ⟨⟨hne,hj⟩,h⟩
  refine ⟨fun j => if j = i then b else c j,fun j hj => ?_,fun j hj k hk hne h => ?_⟩
  · by_cases e : j = i
    · simp [e,hb]
    · simp only [e,if_false]; exact c1 j (by rw [hn.mem_erase_iff]; exact ⟨e,hj⟩)
  · by_cases ej : j = i
    · subst ej
      have ek : k ≠ j := fun e => hne e.symm
      simp only [if_true,ek,if_false]
      exact fun e => hfree k hk ek (by rw [lP]; exact h) e.symm
    · by_cases ek : k = i
      · subst ek
        simp only [ej,if_false,if_true]
        exact hfree j hj ej h
      · simp only [ej,ek,if_false]
        exact c2 j (by rw [hn.mem_erase_iff]; exact ⟨ej,hj⟩) k (by rw [hn.mem_erase_iff]; exact ⟨ek,hk⟩) hne h
theorem tR {l : List aI} {bs : Nat} (hl : ∀ s ∈ l,bP s = true) (hc : eM l bs = none) : ∃ y,dM l y ∧ iS bs y ∧ y.length = l.length := by
 have hc' : ∀ s ∈ l,(cS l s.cl).length ≤ bs := fun s hs => by
  simp only [eM,List.find?_eq_none] at hc
  have := hc s.cl (rV.2 ⟨s,hs,rfl⟩)
  simp only [lL,decide_eq_true_eq] at this; omega
 obtain ⟨c,c1,c2⟩ := vV hl hc' l.length (List.range l.length) (by simp) List.nodup_range (by simp)
 have hg : ∀ i,i < l.length → ((List.range l.length).map fun i => (c i : Int)).getD i 0 = c i := fun i hi => by simp [List.getD_eq_getElem?_getD,hi]
 refine ⟨(List.range l.length).map fun i => (c i : Int),fun i hi k hk e => ?_,fun x hx => ?_,by simp⟩
 · simp only [List.length_map,List.length_range] at hi
   rw [hg i hi,hg k (by omega)] at e
   cases hm : cB (aX l k) (aX l i)
   · rfl
   · exact absurd (by omega) (c2 k (by simp; omega) i (by simp [hi]) (by omega) hm)
 · obtain ⟨i,hi,rfl⟩ := List.mem_map.1 hx
   have := c1 i hi; omega
theorem aBg {l : List aI} {bs : Nat} (t : Int) (hc : bs < (cS l t).length) {y : List Int} (ha : dM l y) (hr : iS bs y) (hy : y.length = l.length) : False := by
 have hinj : ((cS l t).map fun x => y.getD x.toNat 0).Nodup := by
  rw [List.nodup_iff_pairwise_ne,List.pairwise_map]
  refine (List.Pairwise.and_mem.1 (gN l 0)).imp fun {a b} h => ?_
  obtain ⟨h1,h2,h3⟩ := h
  obtain ⟨j,hj,tj,rfl⟩ := fD.1 h1
  obtain ⟨k,hk,tk,rfl⟩ := fD.1 h2
  intro e
  have := ha k (by omega) j (by omega) (by simpa using e.symm)
  simp only [cB,bZ,inB,Bool.or_eq_false_iff,Bool.and_eq_false_imp,decide_eq_true_eq,decide_eq_false_iff_not] at this tj tk
  simp only [Bool.and_eq_true,decide_eq_true_eq] at tj tk
  omega
 have := jB (b := (List.range bs).map fun n : Nat => (n : Int)) hinj fun x hx => by
  obtain ⟨z,hz,rfl⟩ := List.mem_map.1 hx
  obtain ⟨j,hj,_,rfl⟩ := fD.1 hz
  have := hr (y.getD (j : Int).toNat 0) (by
   have : j < y.length := by omega
   simp [List.getD_eq_getElem?_getD,this])
  rw [List.mem_map]
  exact ⟨(y.getD (j : Int).toNat 0).toNat,by rw [List.mem_range]; omega,by omega⟩
 simp at this; omega
theorem aBm {a b : aI} (ha : bP a = true) (hb : bP b = true) : cB a b = (decide (a.cl ≤ b.gh) && decide (b.cl ≤ a.gh)) := by
 have h1 := gJ.1 ha
 have h2 := gJ.1 hb
 rw [Bool.eq_iff_iff]
 simp only [cB,bZ,inB,Bool.or_eq_true,Bool.and_eq_true,decide_eq_true_eq]
 omega
end Go.Proofs.Ab
namespace Go.Proofs.Ab
open Go Go.Proofs
variable {w0 : World} {h : aA}
attribute [local irreducible] ACall aZ cZ bE eD rvC lp rg dr ex un rv
theorem nW (s : aI) (t : Int) : bE Tryz.prog w0 119 [.agg s.c,.int .i64 t] h (.bool (bZ s t)) h := by
 refine aV bA qP vA uZ (qE rfl) (by simp [AV.bdd,AV.bdds]) fun hb ha => bC ?_
 simp only [go_sem,mf119]
 refine aO (in_c t s.cl s.gh).v ?_
 simp only [go_sem]
 rfl
theorem meet_c (a b : aI) : bE Tryz.prog w0 72 [.agg a.c,.agg b.c] h (.bool (cB a b)) h := by
 refine aV bA uM aAb aAa (qE rfl) (by simp [AV.bdd,AV.bdds]) fun hb ha => bC ?_
 simp only [go_sem,mf72]
 refine aO (nW a b.cl).v ?_
 cases e : bZ a b.cl with
 | true => simp only [go_sem]; simp [cB,e]
 | false =>
 simp only [go_sem]
 refine aO (nW b a.cl).v ?_
 simp only [go_sem]
 simp [cB,e]
theorem wQ (s : aI) : bE Tryz.prog w0 114 [.agg s.c] h (.bool (bP s)) h := by
 refine aV bA qT vI vH (qE rfl) (by simp [AV.bdd,AV.bdds]) fun hb ha => bC ?_
 have s1 : ∀ {H : aA},bE Tryz.prog w0 115 [.agg [.int .i64 s.cl,.int .i64 s.ch],.int .i64 0,.int .i64 1440] H (.bool (eJ s.cl s.ch 0 1440)) H := by
  intro H
  have := yV (w0 := w0) (h := H) s.cl s.ch 0 1440
  rwa [show eJ s.cl s.ch 0 1440 = (decide (0 ≤ s.cl) && (decide (s.cl ≤ s.ch) && decide (s.ch ≤ 1440))) from rfl]
 have s2 : ∀ {H : aA},bE Tryz.prog w0 115 [.agg [.int .i64 s.gl,.int .i64 s.gh],.int .i64 0,.int .i64 1440] H (.bool (eJ s.gl s.gh 0 1440)) H := by
  intro H
  have := yV (w0 := w0) (h := H) s.gl s.gh 0 1440
  rwa [show eJ s.gl s.gh 0 1440 = (decide (0 ≤ s.gl) && (decide (s.gl ≤ s.gh) && decide (s.gh ≤ 1440))) from rfl]
 simp only [go_sem,mf114]
 refine aO s1.v ?_
 cases e1 : eJ s.cl s.ch 0 1440 with
 | false => simp only [go_sem]; simp [bP,e1]
 | true =>
 simp only [go_sem]
 refine aO s2.v ?_
 cases e2 : eJ s.gl s.gh 0 1440 with
 | false => simp only [go_sem]; simp [bP,e2]
 | true =>
 simp only [go_sem]
 exact ⟨fun a => by simp [bP,e1,e2,a],fun a => by simp [bP,a]⟩
def cQ (l : List aI) (bs : Int) : Int := if 12 < l.length then 3 else cond (inB bs 0 6 && l.all bP) 0 2
theorem pK (bs : Int) {v : AV} {l : List aI} (hv : Sl w0 h 4 v (l.map aI.c)) : bE Tryz.prog w0 69 [v,.int .i64 bs] h (.int .i64 (cQ l bs)) h := by
 refine aV bA uO aAf aAe (qE rfl) (by simp [AV.bdd,AV.bdds]) fun hb ha => bC ?_
 have hlen : jC v = some (.int .i64 l.length) := by have := hv.use.1; rwa [List.length_map] at this
 by_cases hL : 12 < l.length
 · have e1 : (l.length : Int) > 12 := by omega
   simp only [go_sem,mf69,hlen,e1]
   rw [cQ,if_pos hL]
 have e1 : ¬ (l.length : Int) > 12 := by omega
 simp only [go_sem,mf69,hlen,e1]
 refine aO (in_c bs 0 6).v ?_
 rw [cQ,if_neg hL]
 cases e2 : inB bs 0 6 with
 | false => simp only [go_sem]; simp
 | true =>
 simp only [go_sem]
 have hall := mQ (w0 := w0) (h := h ++ []) (l.map aI.c) v (.fn (.func 114) [] []) (fun j => bP (l.getD j ⟨0,0,0,0⟩)) hv.app (fun c hc => by
  obtain ⟨z,_,rfl⟩ := List.mem_map.1 hc; rfl) (by rw [List.length_map]; omega) (fun j c hc _ L => by
  rw [List.getElem?_map] at hc
  obtain ⟨z,hz,rfl⟩ := qD.1 hc
  rw [aA7 hz]
  exact bE.vc (P := Tryz.prog) (first := []) (capt := []) (wQ z))
 rw [List.length_map,iD] at hall
 refine aO hall.v ?_
 cases e3 : l.all bP with
 | false => simp only [go_sem]; simp
 | true => simp only [go_sem]; simp
theorem mT {l : List aI} {bs : Int} (e : cQ l bs = 0) : l.length ≤ 12 ∧ (0 ≤ bs ∧ bs ≤ 6) ∧ l.all bP = true := by
 unfold cQ at e
 split at e
 · omega
 · cases h2 : inB bs 0 6 && l.all bP with
   | false => rw [h2] at e; simp at e
   | true =>
    rw [Bool.and_eq_true,inB,Bool.and_eq_true,decide_eq_true_eq,decide_eq_true_eq] at h2
    exact ⟨by omega,h2⟩
theorem dF {l : List aI} {j : Nat} (hj : j < l.length) : (l.map aI.c)[j]? = some l[j].c := by rw [List.getElem?_map,qA hj]; rfl
theorem kC (t : Int) (s : aI) : ∀ (l : List aI) (i : Nat),bV t (l ++ [s]) i = bV t l i ++ (if bZ s t then [((i + l.length : Nat) : Int)] else [])
 | [],i => by simp [bV]
 | a :: l,i => by
  have := kC t s l (i + 1)
  rw [show i + 1 + l.length = i + (a :: l).length by simp; omega] at this
  simp only [List.cons_append,bV,this]
  split <;> simp
theorem iF (t : Int) : ∀ (l : List aI) (i : Nat),(bV t l i).length ≤ l.length
 | [],_ => by simp [bV]
 | a :: l,i => by
  have := iF t l (i + 1)
  simp only [bV]; split <;> simp <;> omega
theorem Gro.len {H : aA} {es n : Nat} {ov : AV} {vs : List AV} (g : Gro h H es n ov vs) : jC ov = some (.int .i64 n) := by
 rcases g.own with ⟨rfl,rfl,_⟩ | ⟨_,_,_,rfl,_⟩ <;> rfl
theorem mW (t : Int) {v : AV} {l : List aI} (hv : Sl w0 h 4 v (l.map aI.c)) (hn : l.length < 1000) :
 ACall Tryz.prog w0 73 [v,.int .i64 t] h fun y H => Gro h H 1 (cS l t).length y (dS (cS l t)) := by
 refine bD bA uL zZ zY (qE rfl) fun hb ha => bC ?_
 have hlen : jC v = some (.int .i64 l.length) := by have := hv.use.1; rwa [List.length_map] at this
 simp only [go_sem,mf73,hlen]
 refine iK (S := Nat × aA × AV) (F := fun s => [(1,.int .i64 t),(5,s.2.2),(8,v),(9,.int .i64 l.length),(10,.int .i64 s.1)]) (H := fun s => s.2.1) (meas := fun s => l.length - s.1)
  (Inv := fun s => s.1 ≤ l.length ∧ Gro h s.2.1 1 (bV t (l.take s.1) 0).length s.2.2 (dS (bV t (l.take s.1) 0))) (0,h,.nilS) ⟨Nat.zero_le _,by simpa [bV,dS] using Gro.nil aK.refl⟩ rfl (by simp) ?_
 rintro ⟨j,H,ov⟩ ⟨hj,hG⟩ ih
 simp only at hj hG ih ⊢
 refine bB bA aDV [1,5,8,9,10] L73_0.eq_1 ?_
 by_cases hjl : j < l.length
 · have e1 : (j : Int) < l.length := by omega
   obtain ⟨_,q,hix,hrow,_⟩ := (hv.sub hG.sub).use
   rw [List.length_map] at hix
   have e2 := hix j hjl
   have e3 : ∀ L,rdn w0 (H ++ L) (q.add (j * 4)) 4 = some l[j].c := fun L => cT (hrow j _ (dF hjl))
   have e3' := hrow j _ (dF hjl)
   have hs := kC t l[j] (l.take j) 0
   rw [← List.take_succ_eq_append_getElem hjl,List.length_take,Nat.min_eq_left hj,Nat.zero_add] at hs
   simp only [go_sem,e1,e2,e3,e3']
   refine aO (nW l[j] t).v ?_
   cases e4 : bZ l[j] t with
   | false =>
    rw [e4] at hs
    simp only [go_sem]
    refine ⟨(by unfold I64; omega),ih (j + 1,_,ov) ⟨by simp only; omega,by rw [hs]; simpa using hG.app⟩ (by simp only; omega)⟩
   | true =>
    rw [e4] at hs
    obtain ⟨X,eX⟩ : ∃ X,X = H ++ [some (.row l[j].c),some (.row [.int .i64 j])] := ⟨_,rfl⟩
    have gX : Gro h X 1 (bV t (l.take j) 0).length ov (dS (bV t (l.take j) 0)) := eX ▸ hG.app
    have hk : X[H.length + 1]? = some (some (.row [.int .i64 j])) := by rw [eX,qI (by omega)]; simp
    have hpl := iF t (l.take j) 0
    rw [List.length_take] at hpl
    obtain ⟨G,e5,e6⟩ := gX.more (w0 := w0) (b := 8) (f := true) hk rfl rfl (by omega) (by omega)
    simp only [go_sem]
    simp only [aI.c] at eX
    rw [← eX,e5]
    simp only [go_sem]
    refine ⟨(by unfold I64; omega),ih (j + 1,G,_) ⟨by simp only; omega,?_⟩ (by simp only; omega)⟩
    rw [hs]
    simpa [dS] using e6
 · have e1 : ¬ (j : Int) < l.length := by omega
   obtain rfl : j = l.length := by omega
   simp only [go_sem,e1]
   simpa [List.take_length,cS] using hG
theorem tG (t bs : Int) {p q : Pl} {v : AV} {l : List aI} (hp : rd w0 h p = some v) (hq : rd w0 h q = some (.int .i64 bs)) (hv : Sl w0 h 4 v (l.map aI.c)) (hn : l.length < 1000) :
 bE Tryz.prog w0 118 [.int .i64 t,.ptr p,.ptr q] h (.bool (lL l bs t)) h := by
 refine eG trivial (bD bA qQ vC vB (qE rfl) fun hb ha => bC ?_)
 have e2 : ∀ L,rd w0 (h ++ L) q = some (.int .i64 bs) := fun L => iC hq
 simp only [go_sem,mf118]
 refine dr_fp bA [0,1,4,2,3,5,6] [o_ 5 (l_ 1),o_ 6 (m_ 0),o_ 9 (l_ 2),.call (some 7) none (f_ 73) [(.t 5),(.t 6)]] [([(2,o_ 9 (l_ 2))],[o_ 8 (.len (.t 7)),o_ 10 (.bin .gtr (.t 8) (.t 9)),o_ 4 (m_ 10)])] rfl rfl (by kernel_rfl) ?_
 have e1 : ∀ L,rd w0 (h ++ L) p = some v := fun L => iC hp
 simp only [go_sem,e1,e2]
 rw [List.append_nil]
 refine aU (ACall.vc (first := []) (args := [v,.int .i64 t]) (mW t hv hn)) ?_
 intro y H hG
 have hq' := hG.sub.rd hq
 have e3 : ∀ L,rd w0 (H ++ L) q = some (.int .i64 bs) := fun L => iC hq'
 simp only [go_sem,hq',e3,hG.len,true_and]
 exact ⟨hG.sub,rfl⟩
def IV (x : Int) (_ : aA) (args : List AV) : Prop := args = [.int .i64 x]
theorem wO {C : List Nat} {q : Nat} {p : Pl} {v : AV} {l : List Int} {K : aA → Prop} (hp : rd w0 (msk C h) p = some v) (hv : SlI w0 (msk C h) v l) (hn : l.length ≤ 1000)
 (hI : eW Tryz.prog w0 q C IV (· = []) K l [] h) : ACall Tryz.prog w0 148 [.yld q,.ptr p] h fun _ H => K H := by
 refine bD bA qO uY uX (qE rfl) fun hb ha => bC ?_
 have e0 : ∀ L,rd w0 (h ++ L) p = some v := fun L => iC (vR.rd hp)
 have hlen := (SlI.use hv).1
 simp only [go_sem,mf148,e0,hlen]
 refine iK (S := Nat × aA) (F := fun s => [(0,.yld q),(5,v),(6,.int .i64 l.length),(7,.int .i64 s.1)]) (H := fun s => s.2) (meas := fun s => l.length - s.1)
  (Inv := fun s => s.1 ≤ l.length ∧ bR C h s.2 ∧ eW Tryz.prog w0 q C IV (· = []) K (l.drop s.1) [] s.2) (0,h) ⟨Nat.zero_le _,bR.refl,hI⟩ rfl (by simp) ?_
 rintro ⟨j,H⟩ ⟨hj,kH,iH⟩ ih
 simp only at hj kH iH ih ⊢
 refine bB bA aBw [0,5,6,7] L148_0.eq_1 ?_
 by_cases hjl : j < l.length
 · have e1 : (j : Int) < l.length := by omega
   have hvH := Sl.sub hv ((kH.msk (ms := C) fun i hi => .inl hi).trans (vR (ms := C)))
   obtain ⟨pp,i1,r1,r1'⟩ := SlI.at_ hvH hjl
   rw [List.drop_eq_getElem_cons hjl] at iH
   simp only [go_sem,e1,i1,r1,r1']
   refine aU (eW.call iH bR.refl [] rfl (fun i hi => by cases hi) (fun i hi => by cases hi) rfl) ?_
   rintro y G1 ⟨k1,r1⟩
   have k2 : bR C h G1 := kH.trans k1
   rcases r1 with ⟨rfl,it⟩ | ⟨rfl,kk⟩
   · simp only [go_sem]
     exact ⟨(by unfold I64; omega),ih (j + 1,G1) ⟨by simp only; omega,k2,it⟩ (by simp only; omega)⟩
   · simp only [go_sem]
     exact kk _ bR.refl
 · have e1 : ¬ (j : Int) < l.length := by omega
   obtain rfl : j = l.length := by omega
   rw [List.drop_length] at iH
   simp only [go_sem,e1]
   exact iH _ bR.refl
def dT (o : Option Int) : AV := match o with
 | some d => .tup [.int .i64 d,.bool true]
 | none => .tup [.int .i64 0,.bool false]
theorem rA {p : Pl} {v fv : AV} {l : List Int} (P : Int → Bool) (hp : rd w0 h p = some v) (hv : SlI w0 h v l) (hn : l.length ≤ 1000) (hfo : cellsOf fv = some [fv])
 (hf : ∀ d ∈ l,∀ H,aK h H → eD Tryz.prog w0 fv [.int .i64 d] H (.bool (P d)) H) :
 bE Tryz.prog w0 116 [.fn (.func 148) [] [.ptr p],fv] h (dT (l.find? P)) h := by
 have hbv : ∀ N,(dT (l.find? P)).bdd N := fun N => by unfold dT; split <;> simp [AV.bdd,AV.bdds]
 refine eG (hbv _) (bD bA qR vE vD (qE rfl) fun hb ha => bC ?_)
 simp only [go_sem,mf116,hfo]
 refine uE [3,4,5,8] ?_
 simp only [go_sem]
 refine zL (fid := 148) (first := []) rfl (.inl rfl) fun hca hcb hps => ?_
 simp only [go_sem]
 obtain ⟨N,eN⟩ : ∃ N,N = h.length := ⟨_,rfl⟩
 obtain ⟨LB,hLB⟩ : ∃ LB : LoopState → Option Code → Blk,LB = Blk.loop 15 [(3,AV.ptr (Pl.own (List.length h) 0)),(4,AV.ptr (Pl.own (List.length h + 1) 0)),(5,AV.ptr (Pl.own (List.length h + 2) 0)),(8,AV.fn (Fn.func 148) [] [AV.ptr p])] #[9] (bI (cP 116) [1,0,1,0,0]) (bI (cP 116) [1,0,1,0,1]) := ⟨_,rfl⟩
 rw [← hLB]
 obtain ⟨C,eC⟩ : ∃ C,C = [N + 1,N + 2,N + 3] := ⟨_,rfl⟩
 obtain ⟨G0,eG0⟩ : ∃ G0 : aA,G0 = h ++ [some (.row [fv]),some (.row [.int .i64 0]),some (.row [.bool false]),some (LB .ready none)] := ⟨_,rfl⟩
 have hm : aK h (msk C G0) := by
  rw [eG0]
  refine ⟨by rw [eS]; simp,fun i b e => ?_⟩
  have := aQ e
  rw [kW (by rw [eC]; simp; omega)]; exact aC e
 rw [← eG0,← eN]
 refine wO (C := C) (hm.rd hp) (Sl.sub hv hm) hn ?_
 have claim : ∀ (r : List Int),(∀ d ∈ r,d ∈ l) → l.find? P = r.find? P → ∀ H,aK h H → H[N]? = some (some (.row [fv])) → H[N + 1]? = some (some (.row [.int .i64 0])) → H[N + 2]? = some (some (.row [.bool false])) → H[N + 3]? = some (some (LB .ready none)) →
  eW Tryz.prog w0 (N + 3) C IV (· = []) (fun h' => rgE Tryz.prog w0 none 15 N (xA w0 [RV.c 4 none,RV.c 5 none] fun v' h' => aK h h' ∧ v' = dT (List.find? P l))
  [It.inBlk 0,It.code ((SC.reg [MIx.op (some 7) none (MOp.mov (Opd.k (AV.int IntKind.i64 0)))]).seq ((SC.reg [MIx.op (some 14) none (MOp.mov (Opd.t 7)),MIx.op none none (MOp.store (Opd.t 4) (Opd.t 14) 1),MIx.op none none (MOp.store (Opd.t 5) (Opd.k (AV.bool false)) 1)]).seq SC.ret))]
  [(3,AV.ptr (Pl.own N 0)),(4,AV.ptr (Pl.own (N + 1) 0)),(5,AV.ptr (Pl.own (N + 2) 0)),(8,AV.fn (Fn.func 148) [] [AV.ptr p])] h'[N + 3]? (List.set h' (N + 3) none)) r [] H := by
  intro r
  induction r with
  | nil =>
   intro hr hfd H sH g0 g1 g2 g3 H2 kp
   have f1 := kp.at_ _ _ (by simp) g1
   have f2 := kp.at_ _ _ (by simp) g2
   have f3 := kp.at_ _ _ (by simp) g3
   have s2 : aK h H2 := ⟨Nat.le_trans sH.1 kp.le,fun i b e => kp.at_ _ _ (by simp) (sH.2 _ _ e)⟩
   obtain ⟨X,eX⟩ : ∃ X,X = H2.set (N + 3) none := ⟨_,rfl⟩
   have lX : X.length = H2.length := by rw [eX,List.length_set]
   have q3 := aQ f3
   have x1 : X[N + 1]? = some (some (.row [.int .i64 0])) := by rw [eX,qB (by omega)]; exact f1
   have x2 : ∀ b,(X.set (N + 1) b)[N + 2]? = some (some (.row [.bool false])) := fun b => by
    rw [qB (by omega),eX,qB (by omega)]; exact f2
   have x3 : ∀ b b',((X.set (N + 1) b).set (N + 2) b')[N + 1]? = some b := fun b b' => by
    rw [qB (by omega),qF (by omega)]
   have x4 : ∀ b b',((X.set (N + 1) b).set (N + 2) b')[N + 2]? = some b' := fun b b' => by
    rw [qF (by simp; omega)]
   simp only [f3,← eX,hLB]
   simp only [go_sem,x1,x2,x3,x4]
   have s3 : aK h X := by rw [eX]; exact s2.setR (by omega)
   exact ⟨(s3.setR (by omega)).setR (by omega),by rw [hfd]; rfl⟩
  | cons x r ih =>
   intro hr hfd H sH g0 g1 g2 g3 H2 args O2 hO kp hO1 hO2 hV
   subst hV
   have f0 := kp.at_ _ _ (by simp) g0
   have f1 := kp.at_ _ _ (by simp) g1
   have f2 := kp.at_ _ _ (by simp) g2
   have f3 := kp.at_ _ _ (by simp) g3
   have s2 : aK h H2 := ⟨Nat.le_trans sH.1 kp.le,fun i b e => kp.at_ _ _ (by simp) (sH.2 _ _ e)⟩
   have q3 := aQ f3
   have f3' := f3
   rw [hLB,← eN] at f3'
   refine nT (psl := [9]) bA rfl yM yL pB.eq_1 R116_0b.eq_1 f3' rfl hps hca hcb fun hb2 ha2 => ?_
   obtain ⟨LY,hLY⟩ : ∃ b,b = Blk.loop 15 [(3,AV.ptr (Pl.own N 0)),(4,AV.ptr (Pl.own (N + 1) 0)),(5,AV.ptr (Pl.own (N + 2) 0)),(8,AV.fn (Fn.func 148) [] [AV.ptr p])] #[9] (bI (cP 116) [1,0,1,0,0]) (bI (cP 116) [1,0,1,0,1]) LoopState.busy none := ⟨_,rfl⟩
   simp only [go_sem,f3']
   rw [← hLY]
   obtain ⟨Y,eY⟩ : ∃ Y,Y = H2.set (N + 3) (some LY) := ⟨_,rfl⟩
   have lY : Y.length = H2.length := by rw [eY]; simp
   have old : ∀ (i : Nat) b,i ≠ N + 3 → H2[i]? = some (some b) → Y[i]? = some (some b) := fun i b hi e => by
    rw [eY,qB (fun e => hi e.symm)]; exact e
   have y0 := old _ _ (by omega) f0
   have y1 := old _ _ (by omega) f1
   have y2 := old _ _ (by omega) f2
   have y3 : Y[N + 3]? = some (some LY) := by rw [eY,qF (by omega)]
   have sY : aK h Y := ⟨by have := s2.1; omega,fun i b e => old i b (by have := aQ e; omega) (s2.2 _ _ e)⟩
   have kY : bR C H2 Y := ⟨by omega,fun i b hi e => old i b (fun e => hi (by rw [eC,e]; simp)) e⟩
   rw [← eY]
   simp only [go_sem,y0]
   refine aO (hf x (hr x (by simp)) Y sY) ?_
   cases hP : P x with
   | true =>
    have y5 : ∀ b,(Y.set (N + 1) b)[N + 2]? = some (some (.row [.bool false])) := fun b => by rw [qB (by omega)]; exact y2
    have y6 : ∀ b b',((Y.set (N + 1) b).set (N + 2) b')[N + 3]? = some (some LY) := fun b b' => by rw [qB (by omega),qB (by omega)]; exact y3
    simp only [go_sem,y1,y5,y6]
    refine ⟨⟨_,_,by rw [hLY]⟩,?_⟩
    refine ⟨((kY.set (.inl (by rw [eC]; simp))).set (.inl (by rw [eC]; simp))).set (.inl (by rw [eC]; simp)),.inr fun H4 k4 => ?_⟩
    subst hO
    have z1 := k4.at_ (N + 1) (.row [AV.int IntKind.i64 x]) (by simp) (by rw [qB (by omega),qB (by omega),qF (by omega)])
    have z2 := k4.at_ (N + 2) (.row [AV.bool true]) (by simp) (by rw [qB (by omega),qF (by simp; omega)])
    have z3 := k4.at_ (N + 3) _ (by simp) (qF (by simp; omega))
    have z4 : (H4.set (N + 3) none)[N + 1]? = some (some (.row [AV.int IntKind.i64 x])) := by rw [qB (by omega)]; exact z1
    have z5 : (H4.set (N + 3) none)[N + 2]? = some (some (.row [AV.bool true])) := by rw [qB (by omega)]; exact z2
    have s4 : aK h H4 := ⟨by have := k4.le; simp at this; have := sY.1; omega,fun i b e => k4.at_ _ _ (by simp) (by
     have := aQ e
     rw [qB (by omega),qB (by omega),qB (by omega)]; exact sY.2 _ _ e)⟩
    simp only [go_sem,z3,z4,z5]
    exact ⟨s4.setR (by omega),by rw [hfd,List.find?_cons_of_pos hP]; rfl⟩
   | false =>
    simp only [go_sem,y3]
    refine ⟨⟨_,_,by rw [hLY]⟩,?_⟩
    refine ⟨kY.set (.inl (by rw [eC]; simp)),.inl ?_⟩
    subst hO
    refine ih (fun d hd => hr d (by simp [hd])) (by rw [hfd,List.find?_cons_of_neg (by simp [hP])]) _ (sY.setR (by omega)) ?_ ?_ ?_ ?_
    · rw [qB (by omega)]; exact y0
    · rw [qB (by omega)]; exact y1
    · rw [qB (by omega)]; exact y2
    · rw [qF (by omega),hLB,← eN]
 refine claim _ (fun _ hd => hd) rfl G0 (eG0 ▸ aK.refl.app) ?_ ?_ ?_ ?_
 all_goals
  rw [eG0,eN,qI (by omega)]; simp
theorem slO_i {n0 : Nat} {ys : List Int} {H : aA} (e : H[n0]? = some (blO ys)) : SlI w0 H (slO n0 ys) ys := by
 unfold slO
 split
 · rename_i h0; subst h0; exact .inl ⟨rfl,rfl⟩
 · rename_i h0
   rw [blO,if_neg h0] at e
   have e2 : iis ys = (ys.map fun z => [AV.int .i64 z]).flatten := nC ys
   have := oY (w0 := w0) (H := H) (es := 1) (io := n0) (full := false) (rows := ys.map fun z => [AV.int .i64 z]) (by rw [← e2]; exact e) (fun c hc => by obtain ⟨x,_,rfl⟩ := List.mem_map.1 hc; rfl)
   rwa [List.length_map] at this
theorem tA (o : Option Int) (N : Nat) : (dT o).bdd N := by unfold dT; split <;> simp [AV.bdd,AV.bdds]
theorem rW (l : List aI) : (cO l).length ≤ l.length := by
 have := rU (l := l.map (·.cl))
 simpa [cO] using this
theorem nJ (bs : Int) {v : AV} {l : List aI} (hv : Sl w0 h 4 v (l.map aI.c)) (hn : l.length ≤ 12) : bE Tryz.prog w0 70 [v,.int .i64 bs] h (dT (eM l bs)) h := by
 refine eG (tA _ _) (bD bA uN aAd aAc (qE rfl) fun hb ha => bC ?_)
 have o := Sl.one hv
 simp only [go_sem,mf70,o.1,o.2]
 refine aU (ACall.vc (first := []) (args := [v]) (nP hv.app hn)) ?_
 rintro _ _ ⟨rfl,rfl⟩
 simp only [go_sem]
 obtain ⟨X,eX⟩ : ∃ X,X = h ++ [some (Blk.row [v]),some (.row [.int .i64 bs]),blO (cO l),some (.row [slO (h.length + 2) (cO l)])] := ⟨_,rfl⟩
 rw [← eX]
 have sX : aK h X := eX ▸ aK.refl.app
 have x0 : X[h.length]? = some (some (.row [v])) := by rw [eX,qI (by omega)]; simp
 have x1 : X[h.length + 1]? = some (some (.row [.int .i64 bs])) := by rw [eX,qI (by omega)]; simp
 have x2 : X[h.length + 2]? = some (blO (cO l)) := by rw [eX,qI (by omega)]; simp
 have x3 : X[h.length + 3]? = some (some (.row [slO (h.length + 2) (cO l)])) := by rw [eX,qI (by omega)]; simp
 have hl := rW l
 have hfirst := rA (w0 := w0) (h := X) (p := .own (h.length + 3) 0) (v := slO (h.length + 2) (cO l)) (fv := .fn (.func 118) [] [.ptr (.own h.length 0),.ptr (.own (h.length + 1) 0)]) (l := cO l) (lL l bs)
  (by simp [rd,x3]) (slO_i x2) (by omega) rfl fun d hd H sH => bE.vc (P := Tryz.prog) (first := []) (capt := [.ptr (.own h.length 0),.ptr (.own (h.length + 1) 0)]) (tG d bs (v := v) (by simp [rd,sH.2 _ _ x0]) (by simp [rd,sH.2 _ _ x1]) (hv.sub (sX.trans sH)) (by omega))
 refine aO hfirst.v ?_
 rw [show (cO l).find? (lL l bs) = eM l bs from rfl]
 cases eM l bs with
 | none =>
  simp only [go_sem,dT]
  exact sX
 | some t =>
  simp only [go_sem,dT]
  exact sX
def jZ (h H : aA) (y : AV) (l : List aI) (bs : Int) : Prop :=
 if cQ l bs = 0 then match eM l bs with
  | none => y = .tup [.int .i64 0,.nilS,.int .i64 6]
  | some t => ∃ pv,y = .tup [.int .i64 t,pv,.int .i64 0] ∧ Gro h H 1 (cS l t).length pv (dS (cS l t))
 else y = .tup [.int .i64 0,.nilS,.int .i64 (cQ l bs)]
theorem wL (bs : Int) {v : AV} {l : List aI} (hv : Sl w0 h 4 v (l.map aI.c)) : ACall Tryz.prog w0 18 [v,.int .i64 bs] h fun y H => aK h H ∧ jZ h H y l bs := by
 refine bD bA uP aAh aAg (qE rfl) fun hb ha => bC ?_
 simp only [go_sem,mf18]
 rw [List.append_nil]
 refine aO (pK bs hv).v ?_
 by_cases e : cQ l bs = 0
 · obtain ⟨h12,_,hst⟩ := mT e
   simp only [go_sem,e]
   refine aO (nJ bs hv h12).v ?_
   cases e2 : eM l bs with
   | none =>
    simp only [go_sem,dT]
    exact ⟨aK.refl,by rw [jZ,if_pos e,e2]⟩
   | some t =>
    simp only [go_sem,dT]
    refine aU (ACall.vc (first := []) (args := [v,.int .i64 t]) (mW t hv (by omega))) ?_
    intro y H hG
    simp only [go_sem]
    exact ⟨hG.sub,by rw [jZ,if_pos e,e2]; exact ⟨y,rfl,hG⟩⟩
 · simp only [go_sem,e]
   exact ⟨aK.refl,by rw [jZ,if_neg e]⟩
theorem bR.setN {o : Nat} {A B : aA} (k : bR [o] A B) : aK (A.set o none) B := ⟨by simpa using k.le,fun i b e => by
 by_cases hi : o = i
 · subst hi
   have := aQ e
   rw [List.length_set] at this
   rw [qF this] at e; cases e
 · rw [qB hi] at e
   exact k.at_ _ _ (by simp only [List.mem_singleton]; exact fun x => hi x.symm) e⟩
structure fR (h0 H : aA) (o : Nat) (ov : AV) (out : List Int) : Prop where
 keep : bR [o] h0 H
 box : H[o]? = some (some (.row [ov]))
 val : (ov = .nilS ∧ out = []) ∨ ∃ io c,h0.length ≤ io ∧ ov = .sl (.own io 0) out.length 1 false ∧ H[io]? = some (some (.row c)) ∧ out.length ≤ c.length ∧ c.take out.length = dS out
theorem fR.len {h0 H : aA} {o : Nat} {ov : AV} {out : List Int} (a : fR h0 H o ov out) : jC ov = some (.int .i64 out.length) := by
 rcases a.val with ⟨rfl,rfl⟩ | ⟨io,c,_,rfl,_⟩ <;> rfl
theorem fR.slI {h0 H : aA} {o : Nat} {ov : AV} {out : List Int} (a : fR h0 H o ov out) : SlI w0 H ov out := by
 rcases a.val with ⟨rfl,rfl⟩ | ⟨io,c,h1,rfl,h3,h4,h5⟩
 · exact .inl ⟨rfl,rfl⟩
 · refine .inr ⟨_,false,⟨1,by rw [List.length_map],fN⟩,by simp only [Pl.bdd]; exact aQ h3,fun j d hd => ?_⟩
   rw [List.getElem?_map,qD] at hd
   obtain ⟨x,hx,rfl⟩ := hd
   have hj := aQ hx
   simp only [Pl.add,rdn,h3]
   rw [if_pos (by omega)]
   have : (c.take out.length)[j]? = (dS out)[j]? := by rw [h5]
   rw [List.getElem?_take,if_pos hj,aA3,hx] at this
   have hc : j < c.length := by omega
   rw [qA hc] at this
   simp only [Option.map_some,Option.some.injEq] at this
   simp only [Nat.zero_add,Nat.mul_one,List.drop_eq_getElem_cons hc,this,List.take_succ_cons,List.take_zero]
theorem fR.app {h0 H L : aA} {o : Nat} {ov : AV} {out : List Int} (a : fR h0 H o ov out) : fR h0 (H ++ L) o ov out := by
 refine ⟨a.keep.app,aC a.box,?_⟩
 rcases a.val with h1 | ⟨io,c,h1,h2,h3,h4,h5⟩
 · exact .inl h1
 · exact .inr ⟨io,c,h1,h2,aC h3,h4,h5⟩
theorem fR.more {h0 H : aA} {o k : Nat} {ov : AV} {out : List Int} (a : fR h0 H o ov out) (ho : o < h0.length) {f : Bool} {x : Int} (hk : H[k]? = some (some (.row [.int .i64 x]))) (hn : out.length ≤ 1000) :
 ∃ G,eB w0 H 1 8 ov (.sl (.own k 0) 1 1 f) = some (.sl (.own H.length 0) (out.length + 1) 1 false,G) ∧ G[o]? = some (some (.row [ov])) ∧ G.length = H.length + 1 ∧
  fR h0 (G.set o (some (.row [.sl (.own H.length 0) (out.length + 1) 1 false]))) o (.sl (.own H.length 0) (out.length + 1) 1 false) (out ++ [x]) := by
 have r1 : rdn w0 H (.own k 0) (1 * 1) = some [.int .i64 x] := by simp [rdn,hk]
 have hkl := a.keep.le
 rcases a.val with ⟨rfl,rfl⟩ | ⟨io,c,h1,rfl,h3,h4,h5⟩
 · refine ⟨H ++ [some (.row [.int .i64 x])],?_,aC a.box,by simp,(a.keep.app).set (.inl (by simp)),by rw [qF (by simp; omega)],.inr ⟨H.length,[.int .i64 x],by omega,rfl,?_,by simp,rfl⟩⟩
   · simp only [eB,fS,fN,if_true,r1,Option.map_some,Option.bind_some]
     rw [if_neg (by omega),if_pos ⟨by omega,rfl⟩]
     simp [eZ]
   · rw [qB (by omega),qI (Nat.le_refl _),Nat.sub_self]; rfl
 · have hio := aQ h3
   have r2 : rdn w0 H (.own io 0) (out.length * 1) = some (dS out) := by
    simp only [rdn,h3]
    rw [if_pos (by omega),List.drop_zero,Nat.mul_one,h5]
   rw [Nat.mul_one] at r2
   refine ⟨H.set io none ++ [some (.row (dS out ++ [.int .i64 x]))],?_,aC (by rw [qB (by omega)]; exact a.box),by simp,?_,by rw [qF (by simp; omega)],.inr ⟨H.length,dS out ++ [.int .i64 x],by omega,by simp,?_,by simp,?_⟩⟩
   · simp only [eB,fS,fN,if_true,r1,Option.map_some,Option.bind_some]
     rw [if_neg (by omega),if_pos ⟨trivial,by omega,rfl⟩]
     simp [r2]
   · exact ((a.keep.set (.inr h1)).app).set (.inl (by simp))
   · rw [qB (by omega),qI (by simp)]; simp
   · rw [List.take_of_length_le (by simp)]; simp [dS]
theorem fR.less {h0 H : aA} {o : Nat} {ov : AV} {out : List Int} {x : Int} (a : fR h0 H o ov (out ++ [x])) (ho : o < h0.length) : ∃ io,ov = .sl (.own io 0) (out.length + 1) 1 false ∧ fR h0 (H.set o (some (.row [.sl (.own io 0) out.length 1 false]))) o (.sl (.own io 0) out.length 1 false) out := by
 have hkl := a.keep.le
 rcases a.val with ⟨_,h1⟩ | ⟨io,c,h1,h2,h3,h4,h5⟩
 · simp at h1
 · simp only [List.length_append,List.length_singleton] at h2 h4 h5
   refine ⟨io,h2,a.keep.set (.inl (by simp)),by rw [qF (by omega)],.inr ⟨io,c,h1,rfl,by rw [qB (by omega)]; exact h3,by omega,?_⟩⟩
   have := congrArg (List.take out.length) h5
   rw [List.take_take,Nat.min_eq_left (by omega)] at this
   rw [this]; simp [dS]
structure BSt (w0 : World) (h0 : aA) (o s b f : Nat) (v : AV) (l : List aI) (bs : Int) : Prop where
 ol : o < h0.length
 so : s ≠ o
 bo : b ≠ o
 fo : f ≠ o
 bs' : h0[s]? = some (some (.row [v]))
 bb : h0[b]? = some (some (.row [.int .i64 bs]))
 bf : h0[f]? = some (some (.row [.fn (.func 71) [] [.ptr (.own o 0),.ptr (.own s 0),.ptr (.own b 0),.ptr (.own f 0)]]))
 hv : Sl w0 (h0.set o none) 4 v (l.map aI.c)
theorem yC {h0 : aA} {o s b f : Nat} {v : AV} {l : List aI} {bs : Nat} (st : BSt w0 h0 o s b f v l bs) (hn : l.length ≤ 12) (hbs : bs ≤ 6) :
 ∀ (k : Nat) (out : List Int) (H : aA) (ov : AV),out.length + k = l.length → fR h0 H o ov out →
  ACall Tryz.prog w0 71 [.ptr (.own o 0),.ptr (.own s 0),.ptr (.own b 0),.ptr (.own f 0)] H fun y H' => ∃ ov',match bsD l bs k out with
   | some x => y = .bool true ∧ fR h0 H' o ov' x
   | none => y = .bool false ∧ fR h0 H' o ov' out := by
 intro k
 induction k with
 | zero =>
  intro out H ov hk hO
  refine bD bA oJ sP sO (qE rfl) fun hb ha => bC ?_
  have e1 : ∀ L,(H ++ L)[o]? = some (some (.row [ov])) := fun L => aC hO.box
  have e2 : ∀ L,(H ++ L)[s]? = some (some (.row [v])) := fun L => aC (hO.keep.at_ _ _ (by simp [st.so]) st.bs')
  have hlen : jC v = some (.int .i64 l.length) := by have := st.hv.use.1; rwa [List.length_map] at this
  have e3 : (out.length : Int) = l.length := by omega
  simp only [go_sem,mf71,e1,e2,hO.len,hlen,e3]
  exact ⟨ov,hO.app⟩
 | succ k ih =>
  intro out H ov hk hO
  refine bD bA oJ sP sO (qE rfl) fun hb ha => bC ?_
  have e1 : ∀ L,(H ++ L)[o]? = some (some (.row [ov])) := fun L => aC hO.box
  have e2 : ∀ L,(H ++ L)[s]? = some (some (.row [v])) := fun L => aC (hO.keep.at_ _ _ (by simp [st.so]) st.bs')
  have e4 : ∀ L,(H ++ L)[b]? = some (some (.row [.int .i64 bs])) := fun L => aC (hO.keep.at_ _ _ (by simp [st.bo]) st.bb)
  have hlen : jC v = some (.int .i64 l.length) := by have := st.hv.use.1; rwa [List.length_map] at this
  have e3 : ¬ (out.length : Int) = l.length := by omega
  simp only [go_sem,mf71,e1,e2,e4,hO.len,hlen,e3]
  refine iK (S := Nat × aA × AV) (F := fun t => [(0,.ptr (.own o 0)),(1,.ptr (.own s 0)),(3,.ptr (.own f 0)),(5,.int .i64 out.length),(15,.int .i64 bs),(16,.int .i64 t.1)]) (H := fun t => t.2.1) (meas := fun t => bs - t.1)
   (Inv := fun t => t.1 ≤ bs ∧ fR h0 t.2.1 o t.2.2 out ∧ bsD l bs (k + 1) out = ((List.range bs).drop t.1).findSome? fun c : Nat => if mA l out (c : Int) then bsD l bs k (out ++ [(c : Int)]) else none) (0,H,ov) ⟨Nat.zero_le _,hO,rfl⟩ rfl (by simp) ?_
  rintro ⟨c,G,gv⟩ ⟨hc,gO,hG⟩ ih2
  simp only at hc gO hG ih2 ⊢
  refine bB bA aDW [0,1,3,5,15,16] L71_1.eq_1 ?_
  by_cases hcl : c < bs
  · have e5 : (c : Int) < bs := by omega
    rw [List.drop_eq_getElem_cons (by simpa using hcl),List.findSome?_cons,List.getElem_range] at hG
    have g1 : ∀ L,(G ++ L)[o]? = some (some (.row [gv])) := fun L => aC gO.box
    have g2 : ∀ L,(G ++ L)[s]? = some (some (.row [v])) := fun L => aC (gO.keep.at_ _ _ (by simp [st.so]) st.bs')
    have g1' := g1 []; have g2' := g2 []
    rw [List.append_nil] at g1' g2'
    have hvG := st.hv.sub gO.keep.setN
    obtain ⟨_,q,hix,hrow,_⟩ := hvG.use
    rw [List.length_map] at hix
    simp only [go_sem,e5,g1,g1',gO.len]
    refine iL (fun j => [(0,.ptr (.own o 0)),(1,.ptr (.own s 0)),(3,.ptr (.own f 0)),(5,.int .i64 out.length),(6,.int .i64 c),(15,.int .i64 bs),(16,.int .i64 c),(19,gv),(20,.int .i64 out.length),(21,.int .i64 j)]) (fun j => (!(decide (out.getD j 0 = (c : Int)) && cB (aX l j) (aX l out.length))) = true) out.length rfl (fun j hj hall ih3 => ?_) (fun hall => ?_)
    · refine bB bA wB [0,1,3,5,6,15,16,19,20,21] L71_0.eq_1 ?_
      have e6 : (j : Int) < out.length := by omega
      obtain ⟨pp,i1,r1,r1'⟩ := SlI.at_ (gO.slI (w0 := w0)) hj
      have hjl : j < l.length := by omega
      have hol : out.length < l.length := by omega
      have x1 := hix j hjl
      have x2 := hix out.length hol
      have y1 : ∀ L,rdn w0 (G ++ L) (q.add (j * 4)) 4 = some l[j].c := fun L => cT (hrow j _ (dF hjl))
      have y2 : ∀ L,rdn w0 (G ++ L) (q.add (out.length * 4)) 4 = some l[out.length].c := fun L => cT (hrow _ _ (dF hol))
      have y1' := hrow j _ (dF hjl)
      have y2' := hrow _ _ (dF hol)
      have s1 : aX l j = l[j] := by rw [aX,cN hjl]
      have s2 : aX l out.length = l[out.length] := by rw [aX,cN hol]
      rw [cN hj,s1,s2] at ih3
      have nofit : out[j] = (c : Int) → cB l[j] l[out.length] = true → mA l out c = false := fun a b => by
       rw [mA,List.all_eq_false]
       refine ⟨j,List.mem_range.2 hj,?_⟩
       rw [cN hj,s1,s2]; simp [a,b]
      by_cases q1 : out[j] = (c : Int)
      · simp only [go_sem,e6,i1,r1,r1',q1,g2,g2',x1,x2,y1,y2,y1',y2']
        refine aO (meet_c l[j] l[out.length]).v ?_
        cases q2 : cB l[j] l[out.length] with
        | true =>
         simp only [go_sem]
         refine ⟨(by unfold I64; omega),ih2 (c + 1,G,gv) ⟨by simp only; omega,gO,?_⟩ (by simp only; omega)⟩
         rw [hG,nofit q1 q2]; rfl
        | false =>
         simp only [go_sem]
         exact ⟨(by unfold I64; omega),ih3 (by simp [q2])⟩
      · simp only [go_sem,e6,i1,r1,r1',q1]
        exact ⟨(by unfold I64; omega),ih3 (by simp [q1])⟩
    · refine bB bA wB [0,1,3,5,6,15,16,19,20,21] L71_0.eq_1 ?_
      have e6 : ¬ (out.length : Int) < out.length := by omega
      have hfit : mA l out (c : Int) = true := by rw [mA,List.all_eq_true]; exact fun j hj => hall j (List.mem_range.1 hj)
      rw [hfit,if_pos rfl] at hG
      simp only [go_sem,e6,g1,g1']
      have hO1 : fR h0 (G ++ [some (.row [.int .i64 c])]) o gv out := gO.app
      obtain ⟨G1,a1,a2,a3,a4⟩ := hO1.more (w0 := w0) st.ol (k := G.length) (f := true) (x := c) (by rw [qI (Nat.le_refl _),Nat.sub_self]; rfl) (by omega)
      rw [a1]
      obtain ⟨G2,eG2⟩ : ∃ G2,G2 = G1.set o (some (.row [.sl (.own (G ++ [some (Blk.row [AV.int .i64 c])]).length 0) (out.length + 1) 1 false])) := ⟨_,rfl⟩
      rw [← eG2] at a4
      have b1 : G2[f]? = _ := a4.keep.at_ _ _ (by simp [st.fo]) st.bf
      have bl : (G ++ [some (Blk.row [AV.int .i64 c])]).length = G.length + 1 := by simp
      rw [bl] at eG2 a4 ⊢
      simp only [go_sem,a2]
      rw [← eG2]
      simp only [go_sem,b1]
      refine aU (ACall.vc (first := []) (args := []) (capt := [.ptr (.own o 0),.ptr (.own s 0),.ptr (.own b 0),.ptr (.own f 0)]) (ih (out ++ [(c : Int)]) G2 _ (by simp; omega) a4)) ?_
      rintro y H' ⟨ov',hy⟩
      cases hbs : bsD l bs k (out ++ [(c : Int)]) with
      | some x =>
       rw [hbs] at hy hG
       obtain ⟨rfl,hy⟩ := hy
       simp only [go_sem]
       rw [hG]
       exact ⟨ov',hy⟩
      | none =>
       rw [hbs] at hy hG
       obtain ⟨rfl,hy⟩ := hy
       obtain ⟨io,rfl,hl⟩ := hy.less st.ol
       have c1 : ∀ L,(H' ++ L)[o]? = _ := fun L => aC (k := L) hy.box
       simp only [go_sem,hy.box,c1,sN]
       refine ⟨by omega,(by unfold I64; omega),?_⟩
       rw [Nat.sub_zero,Bool.false_and]
       exact ih2 (c + 1,_,_) ⟨by simp only; omega,hl,by rw [hG]⟩ (by simp only; omega)
  · have e5 : ¬ (c : Int) < bs := by omega
    obtain rfl : c = bs := by omega
    rw [List.drop_of_length_le (by simp),List.findSome?_nil] at hG
    simp only [go_sem,e5]
    rw [hG]
    exact ⟨gv,gO⟩
def kA (w0 : World) (H : aA) (y : AV) (l : List aI) (bs : Int) : Prop :=
 if cQ l bs = 0 then match eM l bs with
  | some _ => y = .tup [.nilS,.int .i64 5]
  | none => ∃ lv,y = .tup [lv,.int .i64 0] ∧ SlI w0 H lv ((bsD l bs.toNat l.length []).getD [])
 else y = .tup [.nilS,.int .i64 (cQ l bs)]
theorem aD1 (bs : Int) {v : AV} {l : List aI} (hv : Sl w0 h 4 v (l.map aI.c)) : ACall Tryz.prog w0 17 [v,.int .i64 bs] h fun y H => aK h H ∧ kA w0 H y l bs := by
 refine bD bA uQ aAj aAi (qE rfl) fun hb ha => bC ?_
 have o := Sl.one hv
 simp only [go_sem,mf17,o.1,o.2]
 refine aO (pK bs hv.app).v ?_
 by_cases e : cQ l bs = 0
 · obtain ⟨h12,hbs,hst⟩ := mT e
   simp only [go_sem,e]
   refine aO (nJ bs hv.app h12).v ?_
   cases e2 : eM l bs with
   | some t =>
    simp only [go_sem,dT]
    exact ⟨aK.refl.app,by rw [kA,if_pos e,e2]⟩
   | none =>
    simp only [go_sem,dT]
    obtain ⟨n,rfl⟩ : ∃ n : Nat,bs = n := ⟨bs.toNat,by omega⟩
    obtain ⟨X,eX⟩ : ∃ X,X = h ++ [some (Blk.row [v]),some (.row [.int .i64 n]),some (.row [.nilS]),some (.row [.fn (.func 71) [] [.ptr (.own (h.length + 2) 0),.ptr (.own h.length 0),.ptr (.own (h.length + 1) 0),.ptr (.own (h.length + 3) 0)]])] := ⟨_,rfl⟩
    have sX : aK h X := eX ▸ aK.refl.app
    have x0 : X[h.length]? = some (some (.row [v])) := by rw [eX,qI (by omega)]; simp
    have x1 : X[h.length + 1]? = some (some (.row [.int .i64 n])) := by rw [eX,qI (by omega)]; simp
    have x2 : X[h.length + 2]? = some (some (.row [.nilS])) := by rw [eX,qI (by omega)]; simp
    have x3 : X[h.length + 3]? = some (some (.row [.fn (.func 71) [] [.ptr (.own (h.length + 2) 0),.ptr (.own h.length 0),.ptr (.own (h.length + 1) 0),.ptr (.own (h.length + 3) 0)]])) := by rw [eX,qI (by omega)]; simp
    have st : BSt w0 X (h.length + 2) h.length (h.length + 1) (h.length + 3) v l n := ⟨aQ x2,by omega,by omega,by omega,x0,x1,x3,hv.sub (sX.setR (by omega) |> fun t => ⟨by simpa using t.1,fun i b e => t.2 i b e⟩)⟩
    rw [← eX]
    refine aU (ACall.vc (first := []) (args := []) (capt := [.ptr (.own (h.length + 2) 0),.ptr (.own h.length 0),.ptr (.own (h.length + 1) 0),.ptr (.own (h.length + 3) 0)]) (yC st h12 (by omega) l.length [] X .nilS (by simp) ⟨bR.refl,x2,.inl ⟨rfl,rfl⟩⟩)) ?_
    rintro y H ⟨ov,hy⟩
    have fin : ∀ x,(bsD l n l.length []).getD [] = x → fR X H (h.length + 2) ov x → aK h H ∧ kA w0 H (.tup [ov,.int .i64 0]) l n := fun x ex hy => by
     refine ⟨⟨Nat.le_trans sX.1 hy.keep.le,fun i b e => hy.keep.at_ _ _ (by have := aQ e; simp; omega) (sX.2 _ _ e)⟩,?_⟩
     rw [kA,if_pos e,e2]
     exact ⟨ov,rfl,by rw [show (n : Int).toNat = n from rfl,ex]; exact hy.slI⟩
    have hbox : H[h.length + 2]? = some (some (.row [ov])) := by
     cases hB : bsD l n l.length [] with
     | some x => rw [hB] at hy; exact hy.2.box
     | none => rw [hB] at hy; exact hy.2.box
    have hbL : ∀ L,(H ++ L)[h.length + 2]? = some (some (.row [ov])) := fun L => aC hbox
    simp only [go_sem,hbox,hbL]
    cases hB : bsD l n l.length [] with
    | some x => rw [hB] at hy fin; exact fin x rfl hy.2
    | none => rw [hB] at hy fin; exact fin [] rfl hy.2
 · simp only [go_sem,e]
   exact ⟨aK.refl.app,by rw [kA,if_neg e]⟩
theorem lJ (a b : Int) : bE Tryz.prog w0 74 [.agg [.int .i64 a,.int .i64 b]] h (.bool (eJ a b 0 1440)) h := by
 refine aV bA aCh mf74_b mf74_g (qE rfl) (by simp [AV.bdd,AV.bdds]) fun hb ha => bC ?_
 simp only [go_sem,mf74]
 exact ⟨fun x => ⟨fun y => by simp [eJ,x,y],fun y => by simp [eJ,x,y]⟩,fun x => by simp [eJ,x]⟩
theorem zJ {v : AV} {l : List aI} (hv : Sl w0 h 4 v (l.map aI.c)) (hn : l.length < 1000000) : bE Tryz.prog w0 19 [v] h (.bool (l.all bP)) h := by
 refine aV bA aCv mf19_b mf19_g (qE rfl) (by simp [AV.bdd,AV.bdds]) fun hb ha => bC ?_
 obtain ⟨hlen,q,hix,hrow,_⟩ := hv.use
 rw [List.length_map] at hlen hix
 have vb := hv.bdd (Nat.le_refl _)
 simp only [go_sem,mf19]
 refine iL (fun j => [(0,v),(3,.int .i64 j)]) (fun j => bP (l.getD j ⟨0,0,0,0⟩) = true) l.length rfl (fun j hj hall ih => ?_) (fun hall => ?_)
 · refine bB bA wG [0,3] L19_0.eq_1 ?_
   have e1 : (j : Int) < l.length := by omega
   have e2 := hix j hj
   have e3 : ∀ L,rdn w0 (h ++ L) (q.add (j * 4)) 4 = some l[j].c := fun L => cT (hrow j _ (dF hj))
   have e3' := hrow j _ (dF hj)
   obtain ⟨r,hr⟩ : ∃ r,r = l[j] := ⟨_,rfl⟩
   rw [cN hj,← hr] at ih
   have no : bP r = false → l.all bP = false := fun x => by
    rw [List.all_eq_false]; exact ⟨_,qG hj,by rw [← hr,x]; simp⟩
   simp only [go_sem,hlen,e1,e2,e3,e3',← hr]
   refine aO (lJ r.cl r.ch).v ?_
   cases c1 : eJ r.cl r.ch 0 1440 with
   | false => simp only [go_sem]; rw [no (by simp [bP,c1])]
   | true =>
   simp only [go_sem]
   refine aO (lJ r.gl r.gh).v ?_
   cases c2 : eJ r.gl r.gh 0 1440 with
   | false => simp only [go_sem]; rw [no (by simp [bP,c2])]
   | true =>
   simp only [go_sem]
   refine ⟨fun c3 => ⟨fun c4 => ?_,fun c4 => ⟨(by unfold I64; omega),oL 0 hb (by simp [HBs]) (by simp [jL,jM,lB,lC,pG,kU,AV.bdds,AV.bdd,Pl.bdd,gP]; exact vb) ?_⟩⟩,fun c3 => ?_⟩
   · rw [no (by simp [bP]; omega)]
   · simpa using ih (by simp only [bP,c1,c2,Bool.true_and,Bool.and_eq_true,decide_eq_true_eq]; omega)
   · rw [no (by simp [bP]; omega)]
 · refine bB bA wG [0,3] L19_0.eq_1 ?_
   have e1 : ¬ (l.length : Int) < l.length := by omega
   have : l.all bP = true := by rw [← iD ⟨0,0,0,0⟩,List.all_eq_true]; exact fun j hj => hall j (List.mem_range.1 hj)
   simp only [go_sem,hlen,e1]
   rw [this]
def oG (l : List Int) (many most : Int) : Bool := l.all (fun x => inB x 0 most) && decide ((l.length : Int) = many)
theorem lO {l : List Int} {many most : Int} : oG l many most = true ↔ (∀ x ∈ l,0 ≤ x ∧ x ≤ most) ∧ (l.length : Int) = many := by
 simp only [oG,inB,Bool.and_eq_true,List.all_eq_true,decide_eq_true_eq]
theorem iG (many most : Int) {v : AV} {l : List Int} (hv : SlI w0 h v l) (hn : l.length ≤ 9223372036854775807) : bE Tryz.prog w0 23 [v,.int .i64 many,.int .i64 most] h (.bool (oG l many most)) h := by
 refine aV bA aCt mf23_b mf23_g (qE rfl) (by simp [AV.bdd,AV.bdds]) fun hb ha => bC ?_
 have hlen := (SlI.use hv).1
 simp only [go_sem,mf23]
 refine iL (fun j => [(0,v),(1,.int .i64 many),(2,.int .i64 most),(7,.int .i64 j)]) (fun j => inB (l.getD j 0) 0 most = true) l.length rfl (fun j hj hall ih => ?_) (fun hall => ?_)
 · refine bB bA wF [0,1,2,7] L23_0.eq_1 ?_
   obtain ⟨p,i1,r1,r1'⟩ := hv.at_ hj
   have e1 : (j : Int) < l.length := by omega
   have no : inB l[j] 0 most = false → oG l many most = false := fun x => by
    rw [oG,List.all_eq_false.2 ⟨_,qG hj,by simp [x]⟩]; rfl
   rw [cN hj] at ih
   simp only [go_sem,hlen,e1,i1,r1,r1']
   refine ⟨fun a => ⟨fun b => ?_,fun b => ⟨(by unfold I64; omega),ih (by simp only [inB,Bool.and_eq_true,decide_eq_true_eq]; omega)⟩⟩,fun a => ?_⟩
   · rw [no (by simp only [inB,Bool.and_eq_false_imp,decide_eq_true_eq,decide_eq_false_iff_not]; omega)]
   · rw [no (by simp only [inB,Bool.and_eq_false_imp,decide_eq_true_eq,decide_eq_false_iff_not]; omega)]
 · refine bB bA wF [0,1,2,7] L23_0.eq_1 ?_
   have e1 : ¬ (l.length : Int) < l.length := by omega
   have : l.all (fun x => inB x 0 most) = true := by rw [← iD 0,List.all_eq_true]; exact fun j hj => hall j (List.mem_range.1 hj)
   simp only [go_sem,hlen,e1]
   rw [oG,this]
   simp
   rfl
theorem aBY (a b : aI) : bE Tryz.prog w0 77 [.agg a.c,.agg b.c] h (.bool (decide (a.cl ≤ b.gh) && decide (b.cl ≤ a.gh))) h := by
 refine aV bA aCg mf77_b mf77_g (qE rfl) (by simp [AV.bdd,AV.bdds]) fun hb ha => bC ?_
 simp only [go_sem,mf77]
 exact ⟨fun x => by simp [x],fun x => by simp [x]⟩
def fB (l : List aI) (at' : List Int) : Bool := (List.range at'.length).all fun i => (List.range i).all fun k => !(decide (at'.getD i 0 = at'.getD k 0) && cB (aX l k) (aX l i))
theorem fQ {l : List aI} {at' : List Int} : fB l at' = true ↔ dM l at' := by
 simp only [fB,dM,List.all_eq_true,List.mem_range,Bool.not_eq_true',Bool.and_eq_false_imp,decide_eq_true_eq]
theorem lK {v av : AV} {l : List aI} {at' : List Int} (hv : Sl w0 h 4 v (l.map aI.c)) (hat : SlI w0 h av at') (hl : l.all bP = true) (hn : at'.length ≤ l.length) (hn2 : l.length < 1000) :
 bE Tryz.prog w0 24 [v,av] h (.bool (fB l at')) h := by
 refine aV bA aCs mf24_b mf24_g (qE rfl) (by simp [AV.bdd,AV.bdds]) fun hb ha => bC ?_
 obtain ⟨_,q,hix,hrow,_⟩ := hv.use
 rw [List.length_map] at hix
 have hlen := (SlI.use hat).1
 have vb := hv.bdd (Nat.le_refl _)
 have ab := hat.bdd (Nat.le_refl _)
 simp only [go_sem,mf24]
 refine iL (fun j => [(0,v),(1,av),(5,.int .i64 j)]) (fun j => ((List.range j).all fun k => !(decide (at'.getD j 0 = at'.getD k 0) && cB (aX l k) (aX l j))) = true) at'.length rfl (fun j hj hall ih => ?_) (fun hall => ?_)
 · refine bB bA wD [0,1,5] L24_1.eq_1 ?_
   have e1 : (j : Int) < at'.length := by omega
   simp only [go_sem,hlen,e1]
   refine iL (fun k => [(0,v),(1,av),(5,.int .i64 j),(6,.int .i64 k)]) (fun k => (!(decide (at'.getD j 0 = at'.getD k 0) && cB (aX l k) (aX l j))) = true) j rfl (fun k hk _ ih2 => ?_) (fun hall2 => ?_)
   · refine bB bA wE [0,1,5,6] L24_0.eq_1 ?_
     have e2 : (k : Int) < j := by omega
     have hjl : j < l.length := by omega
     have hkl : k < l.length := by omega
     obtain ⟨p1,i1,r1,r1'⟩ := SlI.at_ hat hj
     obtain ⟨p2,i2,r2,r2'⟩ := SlI.at_ hat (j := k) (by omega)
     rw [← cN (d := 0)] at r1 r1' r2 r2'
     have x1 := hix j hjl
     have x2 := hix k hkl
     have y1 : ∀ L,rdn w0 (h ++ L) (q.add (j * 4)) 4 = some (aX l j).c := fun L => cT (hrow j _ (by rw [aX,cN hjl]; exact dF hjl))
     have y2 : ∀ L,rdn w0 (h ++ L) (q.add (k * 4)) 4 = some (aX l k).c := fun L => cT (hrow k _ (by rw [aX,cN hkl]; exact dF hkl))
     have y1' := y1 []; have y2' := y2 []
     rw [List.append_nil] at y1' y2'
     have b1 : bP (aX l j) = true := List.all_eq_true.1 hl _ (by rw [aX,cN hjl]; exact qG hjl)
     have b2 : bP (aX l k) = true := List.all_eq_true.1 hl _ (by rw [aX,cN hkl]; exact qG hkl)
     have hm : (decide ((aX l j).cl ≤ (aX l k).gh) && decide ((aX l k).cl ≤ (aX l j).gh)) = cB (aX l k) (aX l j) := by rw [← aBm b1 b2,lP]
     by_cases q1 : at'.getD j 0 = at'.getD k 0
     · simp only [go_sem,e2,i1,i2,r1,r2,r1',r2',q1,x1,x2,y1,y2,y1',y2']
       refine aO (aBY (aX l j) (aX l k)).v ?_
       rw [hm]
       cases q2 : cB (aX l k) (aX l j) with
       | true =>
        simp only [go_sem]
        have : fB l at' = false := by
         cases h' : fB l at'
         · rfl
         · exact absurd (fQ.1 h' j hj k hk q1) (by simp [q2])
        rw [this]
       | false =>
        simp only [go_sem]
        exact ⟨(by unfold I64; omega),ih2 (by rw [q2,Bool.and_false]; rfl)⟩
     · simp only [go_sem,e2,i1,i2,r1,r2,r1',r2',q1]
       exact ⟨(by unfold I64; omega),ih2 (by rw [decide_eq_false q1]; rfl)⟩
   · refine bB bA wE [0,1,5,6] L24_0.eq_1 ?_
     have e2 : ¬ (j : Int) < j := by omega
     simp only [go_sem,e2]
     exact ⟨(by unfold I64; omega),ih (by rw [List.all_eq_true]; exact fun k hk => hall2 k (List.mem_range.1 hk))⟩
 · refine bB bA wD [0,1,5] L24_1.eq_1 ?_
   have e1 : ¬ (at'.length : Int) < at'.length := by omega
   have : fB l at' = true := by rw [fB,List.all_eq_true]; exact fun j hj => hall j (List.mem_range.1 hj)
   simp only [go_sem,hlen,e1]
   rw [this]
theorem xB {x y : AV} {a b : List Int} (hx : SlI w0 h x a) (hy : SlI w0 h y b) (hn : a.length < 1000000) : bE Tryz.prog w0 25 [x,y] h (.bool (kO a b)) h := by
 refine aV bA aCr mf25_b mf25_g (qE rfl) (by simp [AV.bdd,AV.bdds]) fun hb ha => bC ?_
 have la := (SlI.use hx).1
 have lb := (SlI.use hy).1
 simp only [go_sem,mf25]
 refine iL (fun j => [(0,x),(1,y),(5,.int .i64 j)]) (fun j => a[j]? = b[j]?) (min a.length b.length) rfl (fun j hj hall ih => ?_) (fun hall => ?_)
 all_goals
  have hb' : ∀ j,j ≤ a.length → j ≤ b.length → (∀ i,i < j → a[i]? = b[i]?) → kO a b = kO (a.drop j) (b.drop j) := fun j h1 h2 h3 => by
   have : a.take j = b.take j := List.ext_getElem? fun i => by
    rw [List.getElem?_take,List.getElem?_take]; split
    · rename_i hi; exact h3 i hi
    · rfl
   have e := aBn (a.take j) (a.drop j) (b.drop j)
   rwa [List.take_append_drop,this,List.take_append_drop] at e
 · refine bB bA wC [0,1,5] L25_0.eq_1 ?_
   have hja : j < a.length := by omega
   have hb2 : j < b.length := by omega
   obtain ⟨p1,i1,r1,r1'⟩ := SlI.at_ hx hja
   obtain ⟨p2,i2,r2,r2'⟩ := SlI.at_ hy hb2
   have e1 : (j : Int) < a.length := by omega
   have e2 : (j : Int) < b.length := by omega
   have hbd := hb' j (by omega) (by omega) hall
   rw [List.drop_eq_getElem_cons hja,List.drop_eq_getElem_cons hb2,kO] at hbd
   by_cases q1 : a[j] = b[j]
   · simp only [go_sem,la,lb,e1,e2,i1,i2,r1,r2,r1',r2',q1]
     exact ⟨(by unfold I64; omega),ih (by rw [qA hja,qA hb2,q1])⟩
   · simp only [go_sem,la,lb,e1,e2,i1,i2,r1,r2,r1',r2',q1]
     rw [hbd,if_neg q1]
 · refine bB bA wC [0,1,5] L25_0.eq_1 ?_
   have hbd := hb' (min a.length b.length) (by omega) (by omega) hall
   have hf : kO a b = false := by
    rw [hbd]
    by_cases hc : a.length ≤ b.length
    · rw [List.drop_of_length_le (by omega)]; rfl
    · rw [List.drop_of_length_le (l := b) (by omega)]
      cases a.drop (min a.length b.length) <;> rfl
   by_cases hc : a.length ≤ b.length
   · have e1 : ¬ ((min a.length b.length : Nat) : Int) < a.length := by omega
     simp only [go_sem,la,lb,e1]
     rw [hf]
   · have e1 : ((min a.length b.length : Nat) : Int) < a.length := by omega
     have e2 : ¬ ((min a.length b.length : Nat) : Int) < b.length := by omega
     simp only [go_sem,la,lb,e1,e2]
     rw [hf]
end Go.Proofs.Ab
namespace Go.Proofs.Ab
open Go Go.Proofs
variable {w : World} {h : aA} {cs : List Value}
theorem yT {v : Value} (g : Gd w (.sl sS .nil) [v]) : ∃ l : List aI,Sl w h 4 (inj v) (l.map aI.c) ∧ l.length ≤ 9223372036854775807 := by
 obtain ⟨_,_,e,h,rfl⟩ := g
 cases e
 exact pT aI.c rfl h fun _ g => by
  obtain ⟨a,b,c,d,e,_⟩ := aDP g
  exact ⟨⟨a,b,c,d⟩,e⟩
end Go.Proofs.Ab
namespace Go.Proofs.Ab
open Go Go.Proofs
variable {w0 : World} {h : aA}
attribute [local irreducible] ACall aZ cZ bE eD rvC lp rg dr ex un rv
theorem yI {l : List aI} {n : Nat} (hl : l.all bP = true) (hc : eM l n = none) : ∃ x,bsD l n l.length [] = some x ∧ dM l x ∧ iS n x ∧ x.length = l.length ∧ ∀ y,dM l y → iS n y → y.length = l.length → kO y x = false := by
 obtain ⟨y,y1,y2,y3⟩ := tR (fun s hs => List.all_eq_true.1 hl s hs) hc
 obtain ⟨x,hx,_⟩ := jX l.length [] y (by simpa using y1) y2 y3
 obtain ⟨a,b,c,_⟩ := rF l.length [] _ hx (fun i hi => by simp at hi) (fun x hx => by simp at hx)
 refine ⟨_,hx,a,b,by simpa using c,fun z z1 z2 z3 => ?_⟩
 obtain ⟨x',hx',_,hb⟩ := jX l.length [] z (by simpa using z1) z2 z3
 rw [hx] at hx'
 simp only [List.nil_append,Option.some.injEq] at hx'
 rw [List.nil_append,hx']; exact hb
theorem pI {v ov : AV} {l : List aI} {os : List Int} (bs : Int) (hv : Sl w0 h 4 v (l.map aI.c)) (hos : SlI w0 h ov os) (hn : l.length ≤ 9223372036854775807) (hon : os.length ≤ 9223372036854775807) :
 bE Tryz.prog w0 4 [v,.int .i64 bs,ov] h (.bool true) h := by
 refine eG trivial (bD bA mf4_ok mf4_b mf4_g (qE rfl) fun hb ha => bC ?_)
 have hlen : jC v = some (.int .i64 l.length) := by have := hv.use.1; rwa [List.length_map] at this
 by_cases q1 : (l.length : Int) > 9
 · simp only [go_sem,mf4,hlen,q1]
   refine aO eT.v ?_
   simp only [go_sem]
   exact aK.refl.app
 simp only [go_sem,mf4,hlen,q1]
 rw [List.append_nil]
 refine aO (zJ hv (by omega)).v ?_
 cases hl : l.all bP with
 | false =>
  simp only [go_sem]
  refine aO eT.v ?_
  simp only [go_sem]
  exact aK.refl
 | true =>
 by_cases p1 : bs < 0
 · simp only [go_sem,hlen,p1]
   refine aO eT.v ?_
   simp only [go_sem]
   exact aK.refl
 by_cases p2 : bs > 6
 · simp only [go_sem,hlen,p1,p2]
   refine aO eT.v ?_
   simp only [go_sem]
   exact aK.refl
 have w1 : wi (bs - 1) = bs - 1 := mR (by unfold I64; omega)
 simp only [go_sem,hlen,p1,p2,w1]
 refine aO (iG l.length (bs - 1) hos hon).v ?_
 cases hO : oG os l.length (bs - 1) with
 | false =>
  simp only [go_sem]
  refine aO eT.v ?_
  simp only [go_sem]
  exact aK.refl
 | true =>
 obtain ⟨hO1,hO2⟩ := lO.1 hO
 obtain ⟨n,rfl⟩ : ∃ n : Nat,bs = n := ⟨bs.toNat,by omega⟩
 have e0 : cQ l n = 0 := by
  rw [cQ,if_neg (by omega),hl,show inB (n : Int) 0 6 = true by simp only [inB,Bool.and_eq_true,decide_eq_true_eq]; omega]; rfl
 simp only [go_sem]
 refine aU (ACall.vc (first := []) (args := [v,.int .i64 n]) (aD1 n hv)) ?_
 rintro y H ⟨sH,hy⟩
 rw [kA,if_pos e0] at hy
 cases hcr : eM l n with
 | some t =>
  rw [hcr] at hy
  subst hy
  simp only [go_sem]
  refine aU (ACall.vc (first := []) (args := [v,.int .i64 n]) (wL n (hv.sub sH))) ?_
  rintro z H2 ⟨sH2,hz⟩
  rw [jZ,if_pos e0,hcr] at hz
  obtain ⟨pv,rfl,hp⟩ := hz
  have s2 := sH.trans sH2
  have hpI := hp.sli (w0 := w0) rfl
  have hlp := hp.len
  have hap : fB l os = false := by
   cases e : fB l os
   · rfl
   · exact (aBg t (by have := List.find?_some hcr; simpa [lL] using this) (fQ.1 e) (fun x hx => by have := hO1 x hx; omega) (by omega)).elim
  have hpl : n < (cS l t).length := by have := List.find?_some hcr; simpa [lL] using this
  have e5 : ¬ ((cS l t).length : Int) ≤ n := by omega
  have hpm : ∀ x ∈ cS l t,∃ j,j < l.length ∧ bZ (aX l j) t = true ∧ x = (j : Int) := fun x hx => fD.1 hx
  have hnum : oG (cS l t) (cS l t).length (l.length - 1) = true := lO.2 ⟨fun x hx => by
   obtain ⟨j,h1,_,rfl⟩ := hpm x hx; omega,rfl⟩
  have w2 : wi ((l.length : Int) - 1) = l.length - 1 := mR (by unfold I64; omega)
  have hpll := iF t l 0
  simp only [go_sem]
  refine aO (lK (hv.sub s2) (Sl.sub hos s2) hl (by omega) (by omega)).v ?_
  rw [hap]
  simp only [go_sem,hlp,e5,hlen,w2]
  refine aO (iG (cS l t).length (l.length - 1) hpI (by simp only [cS]; omega)).v ?_
  rw [hnum]
  simp only [go_sem]
  obtain ⟨M,hM⟩ : ∃ M,M = cS l t := ⟨_,rfl⟩
  rw [← hM] at hpI hlp hpm
  have hpw : M.Pairwise (· < ·) := hM ▸ gN l 0
  have hMl : M.length ≤ 9 := by rw [hM,cS]; omega
  refine iK (S := Nat × aA) (F := fun s => [(0,v),(9,.int .i64 t),(10,pv),(13,.int .i64 s.1)]) (H := fun s => s.2) (meas := fun s => M.length - s.1) (Inv := fun s => s.1 ≤ M.length ∧ aK H2 s.2) (0,H2) ⟨Nat.zero_le _,aK.refl⟩ rfl rfl ?_
  rintro ⟨j,G⟩ ⟨hj,sG⟩ ih
  simp only at hj sG ih ⊢
  refine bB bA L4_0_g [0,9,10,13] L4_0.eq_1 ?_
  by_cases hjl : j < M.length
  · have e6 : (j : Int) < M.length := by omega
    obtain ⟨_,q,hix,hrow,_⟩ := ((hv.sub s2).sub sG).use
    rw [List.length_map] at hix
    have hpG := Sl.sub hpI sG
    obtain ⟨pp,i1,r1,r1'⟩ := SlI.at_ hpG hjl
    obtain ⟨k,hk,hth,hMk⟩ := hpm _ (qG hjl)
    rw [hMk] at r1 r1'
    have x1 := hix k hk
    have y1 : ∀ L,rdn w0 (G ++ L) (q.add (k * 4)) 4 = some (aX l k).c := fun L => cT (hrow k _ (by rw [aX,cN hk]; exact dF hk))
    have y1' := y1 []
    rw [List.append_nil] at y1'
    simp only [bZ,inB,Bool.and_eq_true,decide_eq_true_eq] at hth
    have c1 : ¬ t < (aX l k).cl := by omega
    have c2 : ¬ t > (aX l k).gh := by omega
    by_cases hj0 : j = 0
    · subst hj0
      have c3 : ¬ ((0 : Nat) : Int) > 0 := by omega
      simp only [go_sem,hlp,e6,i1,r1,r1',sN,x1,y1,y1',c1,c2,c3]
      exact ⟨(by unfold I64; omega),ih (1,_) ⟨by simp only; omega,sG.app⟩ (by simp only; omega)⟩
    · have c3 : (j : Int) > 0 := by omega
      have w3 : wi ((j : Int) - 1) = ((j - 1 : Nat) : Int) := by rw [mR (by unfold I64; omega)]; omega
      obtain ⟨p2,i2,r2,r2'⟩ := SlI.at_ hpG (j := j - 1) (by omega)
      have hlt : M[j - 1]'(by omega) < M[j] := List.pairwise_iff_getElem.1 hpw (j - 1) j (by omega) hjl (by omega)
      have c4 : ¬ (k : Int) ≤ M[j - 1]'(by omega) := by rw [← hMk]; omega
      simp only [go_sem,hlp,e6,i1,r1,r1',sN,x1,y1,y1',c1,c2,c3,w3,i2,r2,r2',c4]
      exact ⟨(by unfold I64; omega),ih (j + 1,_) ⟨by simp only; omega,sG.app⟩ (by simp only; omega)⟩
  · have e6 : ¬ (j : Int) < M.length := by omega
    simp only [go_sem,hlp,e6]
    refine aO eT.v ?_
    simp only [go_sem]
    exact s2.trans sG
 | none =>
 rw [hcr] at hy
 obtain ⟨lv,rfl,hlv⟩ := hy
 obtain ⟨x,hx,xa,xr,xl,xb⟩ := yI hl hcr
 rw [show (n : Int).toNat = n from rfl,hx,Option.getD_some] at hlv
 have hnx : oG x l.length (n - 1) = true := lO.2 ⟨fun z hz => by have := xr z hz; omega,by omega⟩
 simp only [go_sem]
 refine aU (ACall.vc (first := []) (args := [v,.int .i64 n]) (wL n (hv.sub sH))) ?_
 rintro z H2 ⟨sH2,hz⟩
 rw [jZ,if_pos e0,hcr] at hz
 subst hz
 have s2 := sH.trans sH2
 simp only [go_sem]
 refine aO (lK (hv.sub s2) (Sl.sub hos s2) hl (by omega) (by omega)).v ?_
 simp only [go_sem,hlen,w1]
 refine aO (iG l.length (n - 1) (Sl.sub hlv sH2) (by omega)).v ?_
 rw [hnx]
 simp only [go_sem]
 refine aO (lK (hv.sub s2) (Sl.sub hlv sH2) hl (by omega) (by omega)).v ?_
 rw [fQ.2 xa]
 cases hap : fB l os with
 | false =>
  simp only [go_sem]
  refine aO eT.v ?_
  simp only [go_sem]
  exact s2
 | true =>
  simp only [go_sem]
  refine aO (xB (Sl.sub hos s2) (Sl.sub hlv sH2) (by omega)).v ?_
  rw [xb os (fQ.1 hap) (fun x hx => by have := hO1 x hx; omega) (by omega)]
  simp only [go_sem]
  refine aO eT.v ?_
  simp only [go_sem]
  exact s2
end Go.Proofs.Ab

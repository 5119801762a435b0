/- The own layer under the proofs of this seat, part M: what calls of the program come to on an abstract heap. No condition. -/
import Derived.Test.YtajecdfdnlfndaaK
import Derived.Test.YtajecdfdnlfndaaI
set_option linter.unusedSimpArgs false
set_option linter.unusedVariables false
namespace Go.Proofs.Ab
open Go Go.Proofs
def fR (lo hi p : Int) : Int := lo + ((hi - lo) * p).tdiv 100
theorem kM {lo hi p : Int} (h : lo ≤ hi) (h0 : 0 ≤ p) (h1 : p ≤ 100) : lo ≤ fR lo hi p ∧ fR lo hi p ≤ hi := by
 have a : 0 ≤ (hi - lo) * p := Int.mul_nonneg (by omega) h0
 have b : (hi - lo) * p ≤ (hi - lo) * 100 := Int.mul_le_mul_of_nonneg_left h1 (by omega)
 unfold fR
 rw [Int.tdiv_eq_ediv_of_nonneg a]; omega
theorem aBh {x y m n : Int} (h0 : -m ≤ x) (h1 : x ≤ m) (g0 : -n ≤ y) (g1 : y ≤ n) : -(m * n) ≤ x * y ∧ x * y ≤ m * n := by
 have e1 : 0 ≤ (m - x) * (n - y) := Int.mul_nonneg (by omega) (by omega)
 have e2 : 0 ≤ (m + x) * (n + y) := Int.mul_nonneg (by omega) (by omega)
 have e3 : 0 ≤ (m - x) * (n + y) := Int.mul_nonneg (by omega) (by omega)
 have e4 : 0 ≤ (m + x) * (n - y) := Int.mul_nonneg (by omega) (by omega)
 simp only [Int.sub_mul,Int.mul_sub,Int.add_mul,Int.mul_add] at e1 e2 e3 e4
 omega
end Go.Proofs.Ab
namespace Go.Proofs.Ab
open Go Go.Proofs
variable {w0 : World} {h : aA}
attribute [local irreducible] ACall aV cR bE dR rvC lp rg dr ex un rv
theorem nW (a b p : Int) (ha : -1000000000 ≤ a ∧ a ≤ 1000000000) (hb : -1000000000 ≤ b ∧ b ≤ 1000000000) (hp : 0 ≤ p ∧ p ≤ 100) : bE Try.prog w0 11 [.agg [.int .i64 a,.int .i64 b],.int .i64 p] h (.int .i64 (fR a b p)) h := by
 refine aY bA aCg mf11_b mf11_g (qE rfl) (by simp [AV.bdd,AV.bdds]) fun hb ha => bC ?_
 have w1 := oW (n := b - a) (by unfold I64; omega)
 have m1 := aBh (x := b - a) (y := p) (m := 2000000000) (n := 100) (by omega) (by omega) (by omega) (by omega)
 have m2 : -(2000000000 * 100) ≤ ((b - a) * p).tdiv 100 ∧ ((b - a) * p).tdiv 100 ≤ 2000000000 * 100 := by
  obtain ⟨n,hn⟩ : ∃ n,n = (b - a) * p := ⟨_,rfl⟩
  rw [← hn] at m1 ⊢
  rcases Int.le_total 0 n with h0 | h0
  · rw [Int.tdiv_eq_ediv_of_nonneg h0]; omega
  · have := Int.neg_tdiv (a := n) (b := 100)
    have h1 : 0 ≤ -n := by omega
    rw [Int.tdiv_eq_ediv_of_nonneg h1] at this
    omega
 simp only [go_sem,mf11,w1]
 exact ⟨(by unfold I64; omega),(by unfold I64; omega),(by unfold I64; omega),rfl⟩
end Go.Proofs.Ab
namespace Go.Proofs.Ab
open Go Go.Proofs
theorem qX {l : List aJ} {t : Int} : t ∈ cK l ↔ ∃ s ∈ l,s.cl = t := by rw [cK,qV,List.mem_map]
def cM (s : aJ) (t : Int) : Bool := inB t s.cl s.gh
def cQ (a b : aJ) : Bool := cM a b.cl || cM b a.cl
def aZ (l : List aJ) (i : Nat) : aJ := l.getD i ⟨0,0,0,0⟩
def cI (t : Int) : List aJ → Nat → List Int
 | [],_ => []
 | s :: r,i => if cM s t then (i : Int) :: cI t r (i + 1) else cI t r (i + 1)
def iR (l : List aJ) (t : Int) : List Int := cI t l 0
def pM (l : List aJ) (bs : Int) (t : Int) : Bool := decide (bs < (iR l t).length)
def fK (l : List aJ) (bs : Int) : Option Int := (cK l).find? (pM l bs)
def eH (lo hi a b : Int) : Bool := decide (a ≤ lo) && (decide (lo ≤ hi) && decide (hi ≤ b))
def bP (s : aJ) : Bool := eH s.cl s.ch 0 1440 && (eH s.gl s.gh 0 1440 && (decide (s.cl ≤ s.gl) && decide (s.ch ≤ s.gh)))
theorem cZ {s : aJ} : bP s = true ↔ (0 ≤ s.cl ∧ s.cl ≤ s.ch ∧ s.ch ≤ 1440) ∧ (0 ≤ s.gl ∧ s.gl ≤ s.gh ∧ s.gh ≤ 1440) ∧ s.cl ≤ s.gl ∧ s.ch ≤ s.gh := by
 simp [bP,eH,and_assoc]
def lO (l : List aJ) (out : List Int) (b : Int) : Bool := (List.range out.length).all fun i => !(decide (out.getD i 0 = b) && cQ (aZ l i) (aZ l out.length))
def bsD (l : List aJ) (bs : Nat) : Nat → List Int → Option (List Int)
 | 0,out => some out
 | k + 1,out => (List.range bs).findSome? fun b : Nat => if lO l out (b : Int) then bsD l bs k (out ++ [(b : Int)]) else none
def eW (l : List aJ) (at' : List Int) : Prop := ∀ i,i < at'.length → ∀ k,k < i → at'.getD i 0 = at'.getD k 0 → cQ (aZ l k) (aZ l i) = false
def mA (bs : Nat) (at' : List Int) : Prop := ∀ x ∈ at',0 ≤ x ∧ x < bs
theorem bN {l m : List Int} {i : Nat} (h : i < l.length) : (l ++ m).getD i 0 = l.getD i 0 := by
 simp [List.getD_eq_getElem?_getD,qH h]
theorem gW {l : List Int} {x : Int} : (l ++ [x]).getD l.length 0 = x := by simp [List.getD_eq_getElem?_getD]
theorem aAp {l : List aJ} {out : List Int} {b : Int} : lO l out b = true ↔ ∀ i,i < out.length → out.getD i 0 = b → cQ (aZ l i) (aZ l out.length) = false := by
 simp only [lO,List.all_eq_true,List.mem_range,Bool.not_eq_true',Bool.and_eq_false_imp,decide_eq_true_eq]
theorem lW {l : List aJ} {out : List Int} {b : Int} : eW l (out ++ [b]) ↔ eW l out ∧ lO l out b = true := by
 rw [aAp]
 constructor
 · intro h
   refine ⟨fun i hi k hk e => ?_,fun i hi e => ?_⟩
   · exact h i (by simp; omega) k hk (by rw [bN hi,bN (by omega),e])
   · exact h out.length (by simp) i hi (by rw [gW,bN hi,e])
 · rintro ⟨h1,h2⟩ i hi k hk e
   simp only [List.length_append,List.length_singleton] at hi
   by_cases hi' : i < out.length
   · rw [bN hi',bN (by omega)] at e; exact h1 i hi' k hk e
   · obtain rfl : i = out.length := by omega
     rw [gW,bN hk] at e
     exact h2 k hk e.symm
theorem qJ {l : List aJ} {bs : Nat} : ∀ (k : Nat) (out x : List Int),bsD l bs k out = some x → eW l out → mA bs out → eW l x ∧ mA bs x ∧ x.length = out.length + k ∧ x.take out.length = out
 | 0,out,x,h,ha,hr => by simp only [bsD,Option.some.injEq] at h; subst h; exact ⟨ha,hr,by simp,by simp⟩
 | k + 1,out,x,h,ha,hr => by
  simp only [bsD] at h
  obtain ⟨b,hb,h1⟩ := List.exists_of_findSome?_eq_some h
  rw [List.mem_range] at hb
  split at h1
  · rename_i hf
    obtain ⟨a,c,d,e⟩ := qJ k _ x h1 (lW.2 ⟨ha,hf⟩) (fun y hy => by
     rcases List.mem_append.1 hy with hy | hy
     · exact hr y hy
     · rw [List.mem_singleton] at hy; subst hy; omega)
    refine ⟨a,c,by rw [d]; simp; omega,?_⟩
    have := congrArg (List.take out.length) e
    rw [List.take_take] at this
    simpa using this
  · cases h1
def befD : List Int → List Int → Bool
 | a :: r,b :: s => if a = b then befD r s else decide (a < b)
 | _,_ => false
theorem nF {l : List aJ} {bs : Nat} : ∀ (k : Nat) (out y : List Int),eW l (out ++ y) → mA bs y → y.length = k → ∃ x,bsD l bs k out = some (out ++ x) ∧ x.length = k ∧ befD y x = false
 | 0,out,y,ha,hr,hk => ⟨[],by simp [bsD],rfl,by cases y <;> rfl⟩
 | k + 1,out,[],ha,hr,hk => by simp at hk
 | k + 1,out,b :: y,ha,hr,hk => by
  have ha' : eW l ((out ++ [b]) ++ y) := by simpa using ha
  have hb : 0 ≤ b ∧ b < bs := hr b (by simp)
  obtain ⟨x,hx,hxl,hx2⟩ := nF k (out ++ [b]) y ha' (fun z hz => hr z (by simp [hz])) (by simpa using hk)
  have hpre : ∀ m : Nat,∀ p : List Int,eW l (p ++ y.take m) → eW l p := by
   intro m p h i hi j hj e
   exact h i (by simp; omega) j hj (by rw [bN hi,bN (by omega),e])
  have hf : lO l out b = true := (lW.1 (hpre y.length _ (by simpa using ha'))).2
  have hG : ∀ c : Nat,∀ z,(if lO l out (c : Int) then bsD l bs k (out ++ [(c : Int)]) else none) = some z → ∃ x',z = out ++ ((c : Int) :: x') ∧ x'.length = k := by
   intro c z hz
   split at hz
   · rename_i hc
     have : ∀ (k : Nat) (out z : List Int),bsD l bs k out = some z → ∃ x',z = out ++ x' ∧ x'.length = k := by
      intro k
      induction k with
      | zero => intro out z h; simp only [bsD,Option.some.injEq] at h; exact ⟨[],by simp [h]⟩
      | succ k ih =>
       intro out z h
       simp only [bsD] at h
       obtain ⟨b',_,h1⟩ := List.exists_of_findSome?_eq_some h
       split at h1
       · obtain ⟨x',rfl,hl⟩ := ih _ _ h1; exact ⟨(b' : Int) :: x',by simp,by simp [hl]⟩
       · cases h1
     obtain ⟨x',rfl,hl⟩ := this k _ z hz
     exact ⟨x',by simp,hl⟩
   · cases hz
  obtain ⟨n,rfl⟩ : ∃ n : Nat,b = n := ⟨b.toNat,by omega⟩
  have hlt : n < bs := by omega
  cases hd : bsD l bs (k + 1) out with
  | none =>
   exfalso
   simp only [bsD,List.findSome?_eq_none_iff,List.mem_range] at hd
   have := hd n hlt
   rw [if_pos hf,hx] at this; cases this
  | some z =>
   simp only [bsD] at hd
   rw [List.findSome?_eq_some_iff] at hd
   obtain ⟨l1,c,l2,e,hz,hno⟩ := hd
   obtain ⟨x',rfl,hl⟩ := hG c z hz
   refine ⟨_,rfl,by simp [hl],?_⟩
   have hc : c = l1.length := by
    have h1 := congrArg (fun q => q[l1.length]?) e
    have hlen := congrArg List.length e
    simp only [List.length_range,List.length_append,List.length_cons] at hlen
    simp only [List.getElem?_range (show l1.length < bs by omega)] at h1
    simp at h1; omega
   have hcn : c ≤ n := by
    refine Nat.le_of_not_lt fun hlt' => ?_
    have hmem : n ∈ l1 := by
     have : (List.range bs)[n]? = some n := by simp [hlt]
     rw [e,qH (by omega)] at this
     exact List.mem_of_getElem? this
    have := hno n hmem
    rw [if_pos hf,hx] at this; cases this
   simp only [befD]
   split
   · rename_i hh
     obtain rfl : n = c := by omega
     rw [if_pos hf,hx] at hz
     simp only [Option.some.injEq,List.append_assoc,List.singleton_append,List.append_cancel_left_eq,List.cons.injEq,true_and] at hz
     rw [← hz]; exact hx2
   · simp; omega
theorem iA {t : Int} : ∀ (l : List aJ) (i : Nat) (x : Int),x ∈ cI t l i ↔ ∃ j,j < l.length ∧ cM (aZ l j) t = true ∧ x = ((i + j : Nat) : Int)
 | [],i,x => by simp [cI]
 | s :: r,i,x => by
  have key : (∃ j,j < (s :: r).length ∧ cM (aZ (s :: r) j) t = true ∧ x = ((i + j : Nat) : Int)) ↔ (cM s t = true ∧ x = i) ∨ ∃ j,j < r.length ∧ cM (aZ r j) t = true ∧ x = ((i + 1 + j : Nat) : Int) := by
   constructor
   · rintro ⟨j,hj,h1,h2⟩
     cases j with
     | zero => exact .inl ⟨h1,by omega⟩
     | succ j => exact .inr ⟨j,by simpa using hj,h1,by omega⟩
   · rintro (⟨h1,h2⟩ | ⟨j,hj,h1,h2⟩)
     · exact ⟨0,by simp,h1,by omega⟩
     · exact ⟨j + 1,by simpa using hj,h1,by omega⟩
  rw [key,cI]
  split
  · rename_i h; rw [List.mem_cons,iA r (i + 1)]; simp [h]
  · rename_i h; rw [iA r (i + 1)]; simp [h]
theorem vU {l : List aJ} {t x : Int} : x ∈ iR l t ↔ ∃ j,j < l.length ∧ cM (aZ l j) t = true ∧ x = (j : Int) := by
 simp [iR,iA]
theorem lG {α} [DecidableEq α] : ∀ {a b : List α},a.Nodup → (∀ x ∈ a,x ∈ b) → a.length ≤ b.length
 | [],b,_,_ => by simp
 | x :: a,b,hn,h => by
  rw [List.nodup_cons] at hn
  have hx := h x (by simp)
  have := lG (a := a) (b := b.erase x) hn.2 fun y hy => by
   rw [List.mem_erase_of_ne (show y ≠ x from fun e => hn.1 (e ▸ hy))]; exact h y (by simp [hy])
  rw [List.length_erase_of_mem hx] at this
  have : 0 < b.length := List.length_pos_of_mem hx
  simp; omega
theorem aAm {bs : Nat} {l : List Int} (h : l.length < bs) : ∃ b : Nat,b < bs ∧ (b : Int) ∉ l := by
 refine Classical.byContradiction fun hc => ?_
 have : ((List.range bs).map fun n : Nat => (n : Int)).length ≤ l.length := lG (by
  rw [List.nodup_iff_pairwise_ne,List.pairwise_map]
  exact List.pairwise_lt_range.imp fun h => by omega) (by
  intro x hx
  obtain ⟨b,hb,rfl⟩ := List.mem_map.1 hx
  exact Classical.byContradiction fun hn => hc ⟨b,List.mem_range.1 hb,hn⟩)
 simp at this; omega
theorem zX {f : Nat → Int} : ∀ l : List Nat,l ≠ [] → ∃ i ∈ l,∀ j ∈ l,f j ≤ f i
 | [x],_ => ⟨x,by simp,by simp⟩
 | x :: y :: r,_ => by
  obtain ⟨i,hi,hm⟩ := zX (f := f) (y :: r) (by simp)
  by_cases h : f x ≤ f i
  · exact ⟨i,by simp [List.mem_cons.1 hi],fun j hj => by
     rcases List.mem_cons.1 hj with rfl | hj
     · exact h
     · exact hm j hj⟩
  · exact ⟨x,by simp,fun j hj => by
     rcases List.mem_cons.1 hj with rfl | hj
     · omega
     · have := hm j hj; omega⟩
theorem rO (a b : aJ) : cQ a b = cQ b a := by simp [cQ,Bool.or_comm]
theorem uQ {l : List aJ} {bs : Nat} (hl : ∀ s ∈ l,bP s = true) (hc : ∀ s ∈ l,(iR l s.cl).length ≤ bs) :
 ∀ (m : Nat) (I : List Nat),I.length = m → I.Nodup → (∀ i ∈ I,i < l.length) → ∃ c : Nat → Nat,(∀ i ∈ I,c i < bs) ∧ ∀ i ∈ I,∀ j ∈ I,i ≠ j → cQ (aZ l i) (aZ l j) = true → c i ≠ c j
 | 0,I,h0,_,_ => by
  obtain rfl : I = [] := List.length_eq_zero_iff.1 h0
  exact ⟨fun _ => 0,by simp,by simp⟩
 | m + 1,I,hm,hn,hi => by
  obtain ⟨i,hiI,hmax⟩ := zX (f := fun j => (aZ l j).cl) I (by intro e; simp [e] at hm)
  obtain ⟨c,c1,c2⟩ := uQ hl hc m (I.erase i) (by rw [List.length_erase_of_mem hiI]; omega) (hn.erase i) fun j hj => hi j (List.mem_of_mem_erase hj)
  have ht : ∀ j ∈ I,cQ (aZ l j) (aZ l i) = true → cM (aZ l j) (aZ l i).cl = true := by
   intro j hj h
   have h1 := hmax j hj
   have h2 : ∀ k ∈ I,(aZ l k).cl ≤ (aZ l k).gh := fun k hk => by
    have : aZ l k ∈ l := by
     have := hi k hk
     simp only [aZ,List.getD_eq_getElem?_getD,qA this,Option.getD_some]
     exact qG this
    have := cZ.1 (hl _ this); omega
   have := h2 j hj; have := h2 i hiI
   simp only [cQ,cM,inB,Bool.or_eq_true,Bool.and_eq_true,decide_eq_true_eq] at h ⊢
   omega
  have hself : cM (aZ l i) (aZ l i).cl = true := ht i hiI (by
   have : aZ l i ∈ l := by
    have := hi i hiI
    simp only [aZ,List.getD_eq_getElem?_getD,qA this,Option.getD_some]
    exact qG this
   have := cZ.1 (hl _ this)
   simp only [cQ,cM,inB,Bool.or_eq_true,Bool.and_eq_true,decide_eq_true_eq]; omega)
  obtain ⟨N,hN⟩ : ∃ N,N = (I.erase i).filter fun j => cQ (aZ l j) (aZ l i) := ⟨_,rfl⟩
  have hlen : N.length < bs := by
   have h1 : ((i :: N).map fun n : Nat => (n : Int)).length ≤ (iR l (aZ l i).cl).length := lG (by
    rw [List.nodup_iff_pairwise_ne,List.pairwise_map]
    have : (i :: N).Nodup := by
     rw [List.nodup_cons,hN]
     refine ⟨fun h => ?_,(hn.erase i).filter _⟩
     have := (List.mem_filter.1 h).1
     rw [hn.mem_erase_iff] at this
     exact this.1 rfl
    exact this.imp fun h => by omega) (by
    intro x hx
    obtain ⟨j,hj,rfl⟩ := List.mem_map.1 hx
    rw [vU]
    rcases List.mem_cons.1 hj with rfl | hj
    · exact ⟨j,hi _ hiI,hself,rfl⟩
    · rw [hN,List.mem_filter] at hj
      have hjI := List.mem_of_mem_erase hj.1
      exact ⟨j,hi _ hjI,ht j hjI hj.2,rfl⟩)
   have h2 := hc (aZ l i) (by
    have := hi i hiI
    simp only [aZ,List.getD_eq_getElem?_getD,qA this,Option.getD_some]
    exact qG this)
   simp at h1; omega
  obtain ⟨b,hb,hbf⟩ := aAm (bs := bs) (l := N.map fun j => (c j : Int)) (by simpa using hlen)
  have hfree : ∀ j ∈ I,j ≠ i → cQ (aZ l j) (aZ l i) = true → c j ≠ b := by
   intro j hj hne h e
   refine hbf (List.mem_map.2 ⟨j,?_,by rw [e]⟩)
   rw [hN,List.mem_filter,hn.mem_erase_iff]
   exact ⟨⟨hne,hj⟩,h⟩
  refine ⟨fun j => if j = i then b else c j,fun j hj => ?_,fun j hj k hk hne h => ?_⟩
  · by_cases e : j = i
    · simp [e,hb]
    · simp only [e,if_false]; exact c1 j (by rw [hn.mem_erase_iff]; exact ⟨e,hj⟩)
  · by_cases ej : j = i
    · subst ej
      have ek : k ≠ j := fun e => hne e.symm
      simp only [if_true,ek,if_false]
      exact fun e => hfree k hk ek (by rw [rO]; exact h) e.symm
    · by_cases ek : k = i
      · subst ek
        simp only [ej,if_false,if_true]
        exact hfree j hj ej h
      · simp only [ej,ek,if_false]
        exact c2 j (by rw [hn.mem_erase_iff]; exact ⟨ej,hj⟩) k (by rw [hn.mem_erase_iff]; exact ⟨ek,hk⟩) hne h
theorem sL {l : List aJ} {bs : Nat} (hl : ∀ s ∈ l,bP s = true) (hc : fK l bs = none) : ∃ y,eW l y ∧ mA bs y ∧ y.length = l.length := by
 have hc' : ∀ s ∈ l,(iR l s.cl).length ≤ bs := fun s hs => by
  simp only [fK,List.find?_eq_none] at hc
  have := hc s.cl (qX.2 ⟨s,hs,rfl⟩)
  simp only [pM,decide_eq_true_eq] at this; omega
 obtain ⟨c,c1,c2⟩ := uQ hl hc' l.length (List.range l.length) (by simp) List.nodup_range (by simp)
 have hg : ∀ i,i < l.length → ((List.range l.length).map fun i => (c i : Int)).getD i 0 = c i := fun i hi => by simp [List.getD_eq_getElem?_getD,hi]
 refine ⟨(List.range l.length).map fun i => (c i : Int),fun i hi k hk e => ?_,fun x hx => ?_,by simp⟩
 · simp only [List.length_map,List.length_range] at hi
   rw [hg i hi,hg k (by omega)] at e
   cases hm : cQ (aZ l k) (aZ l i)
   · rfl
   · exact absurd (by omega) (c2 k (by simp; omega) i (by simp [hi]) (by omega) hm)
 · obtain ⟨i,hi,rfl⟩ := List.mem_map.1 hx
   have := c1 i hi; omega
theorem aAy {a b : aJ} (ha : bP a = true) (hb : bP b = true) : cQ a b = (decide (a.cl ≤ b.gh) && decide (b.cl ≤ a.gh)) := by
 have h1 := cZ.1 ha
 have h2 := cZ.1 hb
 rw [Bool.eq_iff_iff]
 simp only [cQ,cM,inB,Bool.or_eq_true,Bool.and_eq_true,decide_eq_true_eq]
 omega
end Go.Proofs.Ab
namespace Go.Proofs.Ab
open Go Go.Proofs
variable {w0 : World} {h : aA}
attribute [local irreducible] ACall aV cR bE dR rvC lp rg dr ex un rv
theorem nL (s : aJ) (t : Int) : bE Try.prog w0 59 [.agg s.c,.int .i64 t] h (.bool (cM s t)) h := by
 refine aY bA tT yY yX (qE rfl) (by simp [AV.bdd,AV.bdds]) fun hb ha => bC ?_
 simp only [go_sem,mf59]
 refine aQ (in_c t s.cl s.gh).v ?_
 simp only [go_sem]
 rfl
theorem meet_c (a b : aJ) : bE Try.prog w0 32 [.agg a.c,.agg b.c] h (.bool (cQ a b)) h := by
 refine aY bA uB zO zN (qE rfl) (by simp [AV.bdd,AV.bdds]) fun hb ha => bC ?_
 simp only [go_sem,mf32]
 refine aQ (nL a b.cl).v ?_
 cases e : cM a b.cl with
 | true => simp only [go_sem]; simp [cQ,e]
 | false =>
 simp only [go_sem]
 refine aQ (nL b a.cl).v ?_
 simp only [go_sem]
 simp [cQ,e]
theorem vI (s : aJ) : bE Try.prog w0 54 [.agg s.c] h (.bool (bP s)) h := by
 refine aY bA tX zG zF (qE rfl) (by simp [AV.bdd,AV.bdds]) fun hb ha => bC ?_
 have s1 : ∀ {H : aA},bE Try.prog w0 55 [.agg [.int .i64 s.cl,.int .i64 s.ch],.int .i64 0,.int .i64 1440] H (.bool (eH s.cl s.ch 0 1440)) H := by
  intro H
  have := xL (w0 := w0) (h := H) s.cl s.ch 0 1440
  rwa [show eH s.cl s.ch 0 1440 = (decide (0 ≤ s.cl) && (decide (s.cl ≤ s.ch) && decide (s.ch ≤ 1440))) from rfl]
 have s2 : ∀ {H : aA},bE Try.prog w0 55 [.agg [.int .i64 s.gl,.int .i64 s.gh],.int .i64 0,.int .i64 1440] H (.bool (eH s.gl s.gh 0 1440)) H := by
  intro H
  have := xL (w0 := w0) (h := H) s.gl s.gh 0 1440
  rwa [show eH s.gl s.gh 0 1440 = (decide (0 ≤ s.gl) && (decide (s.gl ≤ s.gh) && decide (s.gh ≤ 1440))) from rfl]
 simp only [go_sem,mf54]
 refine aQ s1.v ?_
 cases e1 : eH s.cl s.ch 0 1440 with
 | false => simp only [go_sem]; simp [bP,e1]
 | true =>
 simp only [go_sem]
 refine aQ s2.v ?_
 cases e2 : eH s.gl s.gh 0 1440 with
 | false => simp only [go_sem]; simp [bP,e2]
 | true =>
 simp only [go_sem]
 exact ⟨fun a => by simp [bP,e1,e2,a],fun a => by simp [bP,a]⟩
def dT (l : List aJ) (bs : Int) : Int := if 12 < l.length then 3 else cond (inB bs 0 6 && l.all bP) 0 2
theorem xI (bs : Int) {v : AV} {l : List aJ} (hv : Sl w0 h 4 v (l.map aJ.c)) : bE Try.prog w0 29 [v,.int .i64 bs] h (.int .i64 (dT l bs)) h := by
 refine aY bA uD zS zR (qE rfl) (by simp [AV.bdd,AV.bdds]) fun hb ha => bC ?_
 have hlen : iU v = some (.int .i64 l.length) := by have := hv.use.1; rwa [List.length_map] at this
 by_cases hL : 12 < l.length
 · have e1 : (l.length : Int) > 12 := by omega
   simp only [go_sem,mf29,hlen,e1]
   rw [dT,if_pos hL]
 have e1 : ¬ (l.length : Int) > 12 := by omega
 simp only [go_sem,mf29,hlen,e1]
 refine aQ (in_c bs 0 6).v ?_
 rw [dT,if_neg hL]
 cases e2 : inB bs 0 6 with
 | false => simp only [go_sem]; simp
 | true =>
 simp only [go_sem]
 have hall := mI (w0 := w0) (h := h ++ []) (l.map aJ.c) v (.fn (.func 54) [] []) (fun j => bP (l.getD j ⟨0,0,0,0⟩)) hv.app (fun c hc => by
  obtain ⟨z,_,rfl⟩ := List.mem_map.1 hc; rfl) (by rw [List.length_map]; omega) (fun j c hc _ L => by
  rw [List.getElem?_map] at hc
  obtain ⟨z,hz,rfl⟩ := qD.1 hc
  rw [aAk hz]
  exact bE.vc (P := Try.prog) (first := []) (capt := []) (vI z))
 rw [List.length_map,hY] at hall
 refine aQ hall.v ?_
 cases e3 : l.all bP with
 | false => simp only [go_sem]; simp
 | true => simp only [go_sem]; simp
theorem vH {l : List aJ} {bs : Int} (e : dT l bs = 0) : l.length ≤ 12 ∧ (0 ≤ bs ∧ bs ≤ 6) ∧ l.all bP = true := by
 unfold dT at e
 split at e
 · omega
 · cases h2 : inB bs 0 6 && l.all bP with
   | false => rw [h2] at e; simp at e
   | true =>
    rw [Bool.and_eq_true,inB,Bool.and_eq_true,decide_eq_true_eq,decide_eq_true_eq] at h2
    exact ⟨by omega,h2⟩
theorem eB {l : List aJ} {j : Nat} (hj : j < l.length) : (l.map aJ.c)[j]? = some l[j].c := by rw [List.getElem?_map,qA hj]; rfl
theorem jU (t : Int) (s : aJ) : ∀ (l : List aJ) (i : Nat),cI t (l ++ [s]) i = cI t l i ++ (if cM s t then [((i + l.length : Nat) : Int)] else [])
 | [],i => by simp [cI]
 | a :: l,i => by
  have := jU t s l (i + 1)
  rw [show i + 1 + l.length = i + (a :: l).length by simp; omega] at this
  simp only [List.cons_append,cI,this]
  split <;> simp
theorem lC (t : Int) : ∀ (l : List aJ) (i : Nat),(cI t l i).length ≤ l.length
 | [],_ => by simp [cI]
 | a :: l,i => by
  have := lC t l (i + 1)
  simp only [cI]; split <;> simp <;> omega
theorem Gro.len {H : aA} {es n : Nat} {ov : AV} {vs : List AV} (g : Gro h H es n ov vs) : iU ov = some (.int .i64 n) := by
 rcases g.own with ⟨rfl,rfl,_⟩ | ⟨_,_,_,rfl,_⟩ <;> rfl
theorem vT (t : Int) {v : AV} {l : List aJ} (hv : Sl w0 h 4 v (l.map aJ.c)) (hn : l.length < 1000) :
 ACall Try.prog w0 41 [v,.int .i64 t] h fun y H => Gro h H 1 (iR l t).length y (dY (iR l t)) := by
 refine bF bA tZ zK zJ (qE rfl) fun hb ha => bC ?_
 have hlen : iU v = some (.int .i64 l.length) := by have := hv.use.1; rwa [List.length_map] at this
 simp only [go_sem,mf41,hlen]
 refine jJ (S := Nat × aA × AV) (F := fun s => [(1,.int .i64 t),(5,s.2.2),(8,v),(9,.int .i64 l.length),(10,.int .i64 s.1)]) (H := fun s => s.2.1) (meas := fun s => l.length - s.1)
  (Inv := fun s => s.1 ≤ l.length ∧ Gro h s.2.1 1 (cI t (l.take s.1) 0).length s.2.2 (dY (cI t (l.take s.1) 0))) (0,h,.nilS) ⟨Nat.zero_le _,by simpa [cI,dY] using Gro.nil aL.refl⟩ rfl (by simp) ?_
 rintro ⟨j,H,ov⟩ ⟨hj,hG⟩ ih
 simp only at hj hG ih ⊢
 refine bG bA aCB [1,5,8,9,10] L41_0.eq_1 ?_
 by_cases hjl : j < l.length
 · have e1 : (j : Int) < l.length := by omega
   obtain ⟨_,q,hix,hrow,_⟩ := (hv.sub hG.sub).use
   rw [List.length_map] at hix
   have e2 := hix j hjl
   have e3 : ∀ L,rdn w0 (H ++ L) (q.add (j * 4)) 4 = some l[j].c := fun L => dE (hrow j _ (eB hjl))
   have e3' := hrow j _ (eB hjl)
   have hs := jU t l[j] (l.take j) 0
   rw [← List.take_succ_eq_append_getElem hjl,List.length_take,Nat.min_eq_left hj,Nat.zero_add] at hs
   simp only [go_sem,e1,e2,e3,e3']
   refine aQ (nL l[j] t).v ?_
   cases e4 : cM l[j] t with
   | false =>
    rw [e4] at hs
    simp only [go_sem]
    refine ⟨(by unfold I64; omega),ih (j + 1,_,ov) ⟨by simp only; omega,by rw [hs]; simpa using hG.app⟩ (by simp only; omega)⟩
   | true =>
    rw [e4] at hs
    obtain ⟨X,eX⟩ : ∃ X,X = H ++ [some (.row l[j].c),some (.row [.int .i64 j])] := ⟨_,rfl⟩
    have gX : Gro h X 1 (cI t (l.take j) 0).length ov (dY (cI t (l.take j) 0)) := eX ▸ hG.app
    have hk : X[H.length + 1]? = some (some (.row [.int .i64 j])) := by rw [eX,qI (by omega)]; simp
    have hpl := lC t (l.take j) 0
    rw [List.length_take] at hpl
    obtain ⟨G,e5,e6⟩ := gX.more (w0 := w0) (b := 8) (f := true) hk rfl rfl (by omega) (by omega)
    simp only [go_sem]
    simp only [aJ.c] at eX
    rw [← eX,e5]
    simp only [go_sem]
    refine ⟨(by unfold I64; omega),ih (j + 1,G,_) ⟨by simp only; omega,?_⟩ (by simp only; omega)⟩
    rw [hs]
    simpa [dY] using e6
 · have e1 : ¬ (j : Int) < l.length := by omega
   obtain rfl : j = l.length := by omega
   simp only [go_sem,e1]
   simpa [List.take_length,iR] using hG
theorem sA (t bs : Int) {p q : Pl} {v : AV} {l : List aJ} (hp : rd w0 h p = some v) (hq : rd w0 h q = some (.int .i64 bs)) (hv : Sl w0 h 4 v (l.map aJ.c)) (hn : l.length < 1000) :
 bE Try.prog w0 58 [.int .i64 t,.ptr p,.ptr q] h (.bool (pM l bs t)) h := by
 refine eE trivial (bF bA tU zA yZ (qE rfl) fun hb ha => bC ?_)
 have e2 : ∀ L,rd w0 (h ++ L) q = some (.int .i64 bs) := fun L => hU hq
 simp only [go_sem,mf58]
 refine dr_fp bA [0,1,4,2,3,5,6] [o_ 5 (l_ 1),o_ 6 (m_ 0),o_ 9 (l_ 2),.call (some 7) none (f_ 41) [(.t 5),(.t 6)]] [([(2,o_ 9 (l_ 2))],[o_ 8 (.len (.t 7)),o_ 10 (.bin .gtr (.t 8) (.t 9)),o_ 4 (m_ 10)])] rfl rfl (by kernel_rfl) ?_
 have e1 : ∀ L,rd w0 (h ++ L) p = some v := fun L => hU hp
 simp only [go_sem,e1,e2]
 rw [List.append_nil]
 refine aX (ACall.vc (first := []) (args := [v,.int .i64 t]) (vT t hv hn)) ?_
 intro y H hG
 have hq' := hG.sub.rd hq
 have e3 : ∀ L,rd w0 (H ++ L) q = some (.int .i64 bs) := fun L => hU hq'
 simp only [go_sem,hq',e3,hG.len,true_and]
 exact ⟨hG.sub,rfl⟩
def IV (x : Int) (_ : aA) (args : List AV) : Prop := args = [.int .i64 x]
theorem vF {C : List Nat} {q : Nat} {p : Pl} {v : AV} {l : List Int} {K : aA → Prop} (hp : rd w0 (msk C h) p = some v) (hv : SlI w0 (msk C h) v l) (hn : l.length ≤ 1000)
 (hI : eT Try.prog w0 q C IV (· = []) K l [] h) : ACall Try.prog w0 87 [.yld q,.ptr p] h fun _ H => K H := by
 refine bF bA tS yW yV (qE rfl) fun hb ha => bC ?_
 have e0 : ∀ L,rd w0 (h ++ L) p = some v := fun L => hU (uM.rd hp)
 have hlen := (SlI.use hv).1
 simp only [go_sem,mf87,e0,hlen]
 refine jJ (S := Nat × aA) (F := fun s => [(0,.yld q),(5,v),(6,.int .i64 l.length),(7,.int .i64 s.1)]) (H := fun s => s.2) (meas := fun s => l.length - s.1)
  (Inv := fun s => s.1 ≤ l.length ∧ bR C h s.2 ∧ eT Try.prog w0 q C IV (· = []) K (l.drop s.1) [] s.2) (0,h) ⟨Nat.zero_le _,bR.refl,hI⟩ rfl (by simp) ?_
 rintro ⟨j,H⟩ ⟨hj,kH,iH⟩ ih
 simp only at hj kH iH ih ⊢
 refine bG bA aCz [0,5,6,7] L87_0.eq_1 ?_
 by_cases hjl : j < l.length
 · have e1 : (j : Int) < l.length := by omega
   have hvH := Sl.sub hv ((kH.msk (ms := C) fun i hi => .inl hi).trans (uM (ms := C)))
   obtain ⟨pp,i1,r1,r1'⟩ := SlI.at_ hvH hjl
   rw [List.drop_eq_getElem_cons hjl] at iH
   simp only [go_sem,e1,i1,r1,r1']
   refine aX (eT.call iH bR.refl [] rfl (fun i hi => by cases hi) (fun i hi => by cases hi) rfl) ?_
   rintro y G1 ⟨k1,r1⟩
   have k2 : bR C h G1 := kH.trans k1
   rcases r1 with ⟨rfl,it⟩ | ⟨rfl,kk⟩
   · simp only [go_sem]
     exact ⟨(by unfold I64; omega),ih (j + 1,G1) ⟨by simp only; omega,k2,it⟩ (by simp only; omega)⟩
   · simp only [go_sem]
     exact kk _ bR.refl
 · have e1 : ¬ (j : Int) < l.length := by omega
   obtain rfl : j = l.length := by omega
   rw [List.drop_length] at iH
   simp only [go_sem,e1]
   exact iH _ bR.refl
def eK (o : Option Int) : AV := match o with
 | some d => .tup [.int .i64 d,.bool true]
 | none => .tup [.int .i64 0,.bool false]
theorem pV {p : Pl} {v fv : AV} {l : List Int} (P : Int → Bool) (hp : rd w0 h p = some v) (hv : SlI w0 h v l) (hn : l.length ≤ 1000) (hfo : cellsOf fv = some [fv])
 (hf : ∀ d ∈ l,∀ H,aL h H → dR Try.prog w0 fv [.int .i64 d] H (.bool (P d)) H) :
 bE Try.prog w0 56 [.fn (.func 87) [] [.ptr p],fv] h (eK (l.find? P)) h := by
 have hbv : ∀ N,(eK (l.find? P)).bdd N := fun N => by unfold eK; split <;> simp [AV.bdd,AV.bdds]
 refine eE (hbv _) (bF bA tV zC zB (qE rfl) fun hb ha => bC ?_)
 simp only [go_sem,mf56,hfo]
 refine tH [3,4,5,8] ?_
 simp only [go_sem]
 refine yD (fid := 87) (first := []) rfl (.inl rfl) fun hca hcb hps => ?_
 simp only [go_sem]
 obtain ⟨N,eN⟩ : ∃ N,N = h.length := ⟨_,rfl⟩
 obtain ⟨LB,hLB⟩ : ∃ LB : LoopState → Option Code → Blk,LB = Blk.loop 15 [(3,AV.ptr (Pl.own (List.length h) 0)),(4,AV.ptr (Pl.own (List.length h + 1) 0)),(5,AV.ptr (Pl.own (List.length h + 2) 0)),(8,AV.fn (Fn.func 87) [] [AV.ptr p])] #[9] (bI (cN 56) [1,0,1,0,0]) (bI (cN 56) [1,0,1,0,1]) := ⟨_,rfl⟩
 rw [← hLB]
 obtain ⟨C,eC⟩ : ∃ C,C = [N + 1,N + 2,N + 3] := ⟨_,rfl⟩
 obtain ⟨G0,eG0⟩ : ∃ G0 : aA,G0 = h ++ [some (.row [fv]),some (.row [.int .i64 0]),some (.row [.bool false]),some (LB .ready none)] := ⟨_,rfl⟩
 have hm : aL h (msk C G0) := by
  rw [eG0]
  refine ⟨by rw [eP]; simp,fun i b e => ?_⟩
  have := aP e
  rw [kO (by rw [eC]; simp; omega)]; exact aC e
 rw [← eG0,← eN]
 refine vF (C := C) (hm.rd hp) (Sl.sub hv hm) hn ?_
 have claim : ∀ (r : List Int),(∀ d ∈ r,d ∈ l) → l.find? P = r.find? P → ∀ H,aL h H → H[N]? = some (some (.row [fv])) → H[N + 1]? = some (some (.row [.int .i64 0])) → H[N + 2]? = some (some (.row [.bool false])) → H[N + 3]? = some (some (LB .ready none)) →
  eT Try.prog w0 (N + 3) C IV (· = []) (fun h' => rgE Try.prog w0 none 15 N (vS w0 [RV.c 4 none,RV.c 5 none] fun v' h' => aL h h' ∧ v' = eK (List.find? P l))
  [It.inBlk 0,It.code ((SC.reg [MIx.op (some 7) none (MOp.mov (Opd.k (AV.int IntKind.i64 0)))]).seq ((SC.reg [MIx.op (some 14) none (MOp.mov (Opd.t 7)),MIx.op none none (MOp.store (Opd.t 4) (Opd.t 14) 1),MIx.op none none (MOp.store (Opd.t 5) (Opd.k (AV.bool false)) 1)]).seq SC.ret))]
  [(3,AV.ptr (Pl.own N 0)),(4,AV.ptr (Pl.own (N + 1) 0)),(5,AV.ptr (Pl.own (N + 2) 0)),(8,AV.fn (Fn.func 87) [] [AV.ptr p])] h'[N + 3]? (List.set h' (N + 3) none)) r [] H := by
  intro r
  induction r with
  | nil =>
   intro hr hfd H sH g0 g1 g2 g3 H2 kp
   have f1 := kp.at_ _ _ (by simp) g1
   have f2 := kp.at_ _ _ (by simp) g2
   have f3 := kp.at_ _ _ (by simp) g3
   have s2 : aL h H2 := ⟨Nat.le_trans sH.1 kp.le,fun i b e => kp.at_ _ _ (by simp) (sH.2 _ _ e)⟩
   obtain ⟨X,eX⟩ : ∃ X,X = H2.set (N + 3) none := ⟨_,rfl⟩
   have lX : X.length = H2.length := by rw [eX,List.length_set]
   have q3 := aP f3
   have x1 : X[N + 1]? = some (some (.row [.int .i64 0])) := by rw [eX,qB (by omega)]; exact f1
   have x2 : ∀ b,(X.set (N + 1) b)[N + 2]? = some (some (.row [.bool false])) := fun b => by
    rw [qB (by omega),eX,qB (by omega)]; exact f2
   have x3 : ∀ b b',((X.set (N + 1) b).set (N + 2) b')[N + 1]? = some b := fun b b' => by
    rw [qB (by omega),qF (by omega)]
   have x4 : ∀ b b',((X.set (N + 1) b).set (N + 2) b')[N + 2]? = some b' := fun b b' => by
    rw [qF (by simp; omega)]
   simp only [f3,← eX,hLB]
   simp only [go_sem,x1,x2,x3,x4]
   have s3 : aL h X := by rw [eX]; exact s2.setR (by omega)
   exact ⟨(s3.setR (by omega)).setR (by omega),by rw [hfd]; rfl⟩
  | cons x r ih =>
   intro hr hfd H sH g0 g1 g2 g3 H2 args O2 hO kp hO1 hO2 hV
   subst hV
   have f0 := kp.at_ _ _ (by simp) g0
   have f1 := kp.at_ _ _ (by simp) g1
   have f2 := kp.at_ _ _ (by simp) g2
   have f3 := kp.at_ _ _ (by simp) g3
   have s2 : aL h H2 := ⟨Nat.le_trans sH.1 kp.le,fun i b e => kp.at_ _ _ (by simp) (sH.2 _ _ e)⟩
   have q3 := aP f3
   have f3' := f3
   rw [hLB,← eN] at f3'
   refine nI (psl := [9]) bA rfl aAK aAJ sO.eq_1 R56_0b.eq_1 f3' rfl hps hca hcb fun hb2 ha2 => ?_
   obtain ⟨LY,hLY⟩ : ∃ b,b = Blk.loop 15 [(3,AV.ptr (Pl.own N 0)),(4,AV.ptr (Pl.own (N + 1) 0)),(5,AV.ptr (Pl.own (N + 2) 0)),(8,AV.fn (Fn.func 87) [] [AV.ptr p])] #[9] (bI (cN 56) [1,0,1,0,0]) (bI (cN 56) [1,0,1,0,1]) LoopState.busy none := ⟨_,rfl⟩
   simp only [go_sem,f3']
   rw [← hLY]
   obtain ⟨Y,eY⟩ : ∃ Y,Y = H2.set (N + 3) (some LY) := ⟨_,rfl⟩
   have lY : Y.length = H2.length := by rw [eY]; simp
   have old : ∀ (i : Nat) b,i ≠ N + 3 → H2[i]? = some (some b) → Y[i]? = some (some b) := fun i b hi e => by
    rw [eY,qB (fun e => hi e.symm)]; exact e
   have y0 := old _ _ (by omega) f0
   have y1 := old _ _ (by omega) f1
   have y2 := old _ _ (by omega) f2
   have y3 : Y[N + 3]? = some (some LY) := by rw [eY,qF (by omega)]
   have sY : aL h Y := ⟨by have := s2.1; omega,fun i b e => old i b (by have := aP e; omega) (s2.2 _ _ e)⟩
   have kY : bR C H2 Y := ⟨by omega,fun i b hi e => old i b (fun e => hi (by rw [eC,e]; simp)) e⟩
   rw [← eY]
   simp only [go_sem,y0]
   refine aQ (hf x (hr x (by simp)) Y sY) ?_
   cases hP : P x with
   | true =>
    have y5 : ∀ b,(Y.set (N + 1) b)[N + 2]? = some (some (.row [.bool false])) := fun b => by rw [qB (by omega)]; exact y2
    have y6 : ∀ b b',((Y.set (N + 1) b).set (N + 2) b')[N + 3]? = some (some LY) := fun b b' => by rw [qB (by omega),qB (by omega)]; exact y3
    simp only [go_sem,y1,y5,y6]
    refine ⟨⟨_,_,by rw [hLY]⟩,?_⟩
    refine ⟨((kY.set (.inl (by rw [eC]; simp))).set (.inl (by rw [eC]; simp))).set (.inl (by rw [eC]; simp)),.inr fun H4 k4 => ?_⟩
    subst hO
    have z1 := k4.at_ (N + 1) (.row [AV.int IntKind.i64 x]) (by simp) (by rw [qB (by omega),qB (by omega),qF (by omega)])
    have z2 := k4.at_ (N + 2) (.row [AV.bool true]) (by simp) (by rw [qB (by omega),qF (by simp; omega)])
    have z3 := k4.at_ (N + 3) _ (by simp) (qF (by simp; omega))
    have z4 : (H4.set (N + 3) none)[N + 1]? = some (some (.row [AV.int IntKind.i64 x])) := by rw [qB (by omega)]; exact z1
    have z5 : (H4.set (N + 3) none)[N + 2]? = some (some (.row [AV.bool true])) := by rw [qB (by omega)]; exact z2
    have s4 : aL h H4 := ⟨by have := k4.le; simp at this; have := sY.1; omega,fun i b e => k4.at_ _ _ (by simp) (by
     have := aP e
     rw [qB (by omega),qB (by omega),qB (by omega)]; exact sY.2 _ _ e)⟩
    simp only [go_sem,z3,z4,z5]
    exact ⟨s4.setR (by omega),by rw [hfd,List.find?_cons_of_pos hP]; rfl⟩
   | false =>
    simp only [go_sem,y3]
    refine ⟨⟨_,_,by rw [hLY]⟩,?_⟩
    refine ⟨kY.set (.inl (by rw [eC]; simp)),.inl ?_⟩
    subst hO
    refine ih (fun d hd => hr d (by simp [hd])) (by rw [hfd,List.find?_cons_of_neg (by simp [hP])]) _ (sY.setR (by omega)) ?_ ?_ ?_ ?_
    · rw [qB (by omega)]; exact y0
    · rw [qB (by omega)]; exact y1
    · rw [qB (by omega)]; exact y2
    · rw [qF (by omega),hLB,← eN]
 refine claim _ (fun _ hd => hd) rfl G0 (eG0 ▸ aL.refl.app) ?_ ?_ ?_ ?_
 all_goals
  rw [eG0,eN,qI (by omega)]; simp
theorem slO_i {n0 : Nat} {ys : List Int} {H : aA} (e : H[n0]? = some (blO ys)) : SlI w0 H (slO n0 ys) ys := by
 unfold slO
 split
 · rename_i h0; subst h0; exact .inl ⟨rfl,rfl⟩
 · rename_i h0
   rw [blO,if_neg h0] at e
   have e2 : iis ys = (ys.map fun z => [AV.int .i64 z]).flatten := wE ys
   have := oP (w0 := w0) (H := H) (es := 1) (io := n0) (full := false) (rows := ys.map fun z => [AV.int .i64 z]) (by rw [← e2]; exact e) (fun c hc => by obtain ⟨x,_,rfl⟩ := List.mem_map.1 hc; rfl)
   rwa [List.length_map] at this
theorem rW (o : Option Int) (N : Nat) : (eK o).bdd N := by unfold eK; split <;> simp [AV.bdd,AV.bdds]
theorem qY (l : List aJ) : (cK l).length ≤ l.length := by
 have := qW (l := l.map (·.cl))
 simpa [cK] using this
theorem wO (bs : Int) {v : AV} {l : List aJ} (hv : Sl w0 h 4 v (l.map aJ.c)) (hn : l.length ≤ 12) : bE Try.prog w0 30 [v,.int .i64 bs] h (eK (fK l bs)) h := by
 refine eE (rW _ _) (bF bA uC zQ zP (qE rfl) fun hb ha => bC ?_)
 have o := Sl.one hv
 simp only [go_sem,mf30,o.1,o.2]
 refine aX (ACall.vc (first := []) (args := [v]) (nD hv.app hn)) ?_
 rintro _ _ ⟨rfl,rfl⟩
 simp only [go_sem]
 obtain ⟨X,eX⟩ : ∃ X,X = h ++ [some (Blk.row [v]),some (.row [.int .i64 bs]),blO (cK l),some (.row [slO (h.length + 2) (cK l)])] := ⟨_,rfl⟩
 rw [← eX]
 have sX : aL h X := eX ▸ aL.refl.app
 have x0 : X[h.length]? = some (some (.row [v])) := by rw [eX,qI (by omega)]; simp
 have x1 : X[h.length + 1]? = some (some (.row [.int .i64 bs])) := by rw [eX,qI (by omega)]; simp
 have x2 : X[h.length + 2]? = some (blO (cK l)) := by rw [eX,qI (by omega)]; simp
 have x3 : X[h.length + 3]? = some (some (.row [slO (h.length + 2) (cK l)])) := by rw [eX,qI (by omega)]; simp
 have hl := qY l
 have hfirst := pV (w0 := w0) (h := X) (p := .own (h.length + 3) 0) (v := slO (h.length + 2) (cK l)) (fv := .fn (.func 58) [] [.ptr (.own h.length 0),.ptr (.own (h.length + 1) 0)]) (l := cK l) (pM l bs)
  (by simp [rd,x3]) (slO_i x2) (by omega) rfl fun d hd H sH => bE.vc (P := Try.prog) (first := []) (capt := [.ptr (.own h.length 0),.ptr (.own (h.length + 1) 0)]) (sA d bs (v := v) (by simp [rd,sH.2 _ _ x0]) (by simp [rd,sH.2 _ _ x1]) (hv.sub (sX.trans sH)) (by omega))
 refine aQ hfirst.v ?_
 rw [show (cK l).find? (pM l bs) = fK l bs from rfl]
 cases fK l bs with
 | none =>
  simp only [go_sem,eK]
  exact sX
 | some t =>
  simp only [go_sem,eK]
  exact sX
theorem bR.setN {o : Nat} {A B : aA} (k : bR [o] A B) : aL (A.set o none) B := ⟨by simpa using k.le,fun i b e => by
 by_cases hi : o = i
 · subst hi
   have := aP e
   rw [List.length_set] at this
   rw [qF this] at e; cases e
 · rw [qB hi] at e
   exact k.at_ _ _ (by simp only [List.mem_singleton]; exact fun x => hi x.symm) e⟩
structure fN (h0 H : aA) (o : Nat) (ov : AV) (out : List Int) : Prop where
 keep : bR [o] h0 H
 box : H[o]? = some (some (.row [ov]))
 val : (ov = .nilS ∧ out = []) ∨ ∃ io c,h0.length ≤ io ∧ ov = .sl (.own io 0) out.length 1 false ∧ H[io]? = some (some (.row c)) ∧ out.length ≤ c.length ∧ c.take out.length = dY out
theorem fN.len {h0 H : aA} {o : Nat} {ov : AV} {out : List Int} (a : fN h0 H o ov out) : iU ov = some (.int .i64 out.length) := by
 rcases a.val with ⟨rfl,rfl⟩ | ⟨io,c,_,rfl,_⟩ <;> rfl
theorem fN.slI {h0 H : aA} {o : Nat} {ov : AV} {out : List Int} (a : fN h0 H o ov out) : SlI w0 H ov out := by
 rcases a.val with ⟨rfl,rfl⟩ | ⟨io,c,h1,rfl,h3,h4,h5⟩
 · exact .inl ⟨rfl,rfl⟩
 · refine .inr ⟨_,false,⟨1,by rw [List.length_map],fJ⟩,by simp only [Pl.bdd]; exact aP h3,fun j d hd => ?_⟩
   rw [List.getElem?_map,qD] at hd
   obtain ⟨x,hx,rfl⟩ := hd
   have hj := aP hx
   simp only [Pl.add,rdn,h3]
   rw [if_pos (by omega)]
   have : (c.take out.length)[j]? = (dY out)[j]? := by rw [h5]
   rw [List.getElem?_take,if_pos hj,aAg,hx] at this
   have hc : j < c.length := by omega
   rw [qA hc] at this
   simp only [Option.map_some,Option.some.injEq] at this
   simp only [Nat.zero_add,Nat.mul_one,List.drop_eq_getElem_cons hc,this,List.take_succ_cons,List.take_zero]
theorem fN.app {h0 H L : aA} {o : Nat} {ov : AV} {out : List Int} (a : fN h0 H o ov out) : fN h0 (H ++ L) o ov out := by
 refine ⟨a.keep.app,aC a.box,?_⟩
 rcases a.val with h1 | ⟨io,c,h1,h2,h3,h4,h5⟩
 · exact .inl h1
 · exact .inr ⟨io,c,h1,h2,aC h3,h4,h5⟩
theorem fN.more {h0 H : aA} {o k : Nat} {ov : AV} {out : List Int} (a : fN h0 H o ov out) (ho : o < h0.length) {f : Bool} {x : Int} (hk : H[k]? = some (some (.row [.int .i64 x]))) (hn : out.length ≤ 1000) :
 ∃ G,dZ w0 H 1 8 ov (.sl (.own k 0) 1 1 f) = some (.sl (.own H.length 0) (out.length + 1) 1 false,G) ∧ G[o]? = some (some (.row [ov])) ∧ G.length = H.length + 1 ∧
  fN h0 (G.set o (some (.row [.sl (.own H.length 0) (out.length + 1) 1 false]))) o (.sl (.own H.length 0) (out.length + 1) 1 false) (out ++ [x]) := by
 have r1 : rdn w0 H (.own k 0) (1 * 1) = some [.int .i64 x] := by simp [rdn,hk]
 have hkl := a.keep.le
 rcases a.val with ⟨rfl,rfl⟩ | ⟨io,c,h1,rfl,h3,h4,h5⟩
 · refine ⟨H ++ [some (.row [.int .i64 x])],?_,aC a.box,by simp,(a.keep.app).set (.inl (by simp)),by rw [qF (by simp; omega)],.inr ⟨H.length,[.int .i64 x],by omega,rfl,?_,by simp,rfl⟩⟩
   · simp only [dZ,fO,fJ,if_true,r1,Option.map_some,Option.bind_some]
     rw [if_neg (by omega),if_pos ⟨by omega,rfl⟩]
     simp [eU]
   · rw [qB (by omega),qI (Nat.le_refl _),Nat.sub_self]; rfl
 · have hio := aP h3
   have r2 : rdn w0 H (.own io 0) (out.length * 1) = some (dY out) := by
    simp only [rdn,h3]
    rw [if_pos (by omega),List.drop_zero,Nat.mul_one,h5]
   rw [Nat.mul_one] at r2
   refine ⟨H.set io none ++ [some (.row (dY out ++ [.int .i64 x]))],?_,aC (by rw [qB (by omega)]; exact a.box),by simp,?_,by rw [qF (by simp; omega)],.inr ⟨H.length,dY out ++ [.int .i64 x],by omega,by simp,?_,by simp,?_⟩⟩
   · simp only [dZ,fO,fJ,if_true,r1,Option.map_some,Option.bind_some]
     rw [if_neg (by omega),if_pos ⟨trivial,by omega,rfl⟩]
     simp [r2]
   · exact ((a.keep.set (.inr h1)).app).set (.inl (by simp))
   · rw [qB (by omega),qI (by simp)]; simp
   · rw [List.take_of_length_le (by simp)]; simp [dY]
theorem fN.less {h0 H : aA} {o : Nat} {ov : AV} {out : List Int} {x : Int} (a : fN h0 H o ov (out ++ [x])) (ho : o < h0.length) : ∃ io,ov = .sl (.own io 0) (out.length + 1) 1 false ∧ fN h0 (H.set o (some (.row [.sl (.own io 0) out.length 1 false]))) o (.sl (.own io 0) out.length 1 false) out := by
 have hkl := a.keep.le
 rcases a.val with ⟨_,h1⟩ | ⟨io,c,h1,h2,h3,h4,h5⟩
 · simp at h1
 · simp only [List.length_append,List.length_singleton] at h2 h4 h5
   refine ⟨io,h2,a.keep.set (.inl (by simp)),by rw [qF (by omega)],.inr ⟨io,c,h1,rfl,by rw [qB (by omega)]; exact h3,by omega,?_⟩⟩
   have := congrArg (List.take out.length) h5
   rw [List.take_take,Nat.min_eq_left (by omega)] at this
   rw [this]; simp [dY]
structure BSt (w0 : World) (h0 : aA) (o s b f : Nat) (v : AV) (l : List aJ) (bs : Int) : Prop where
 ol : o < h0.length
 so : s ≠ o
 bo : b ≠ o
 fo : f ≠ o
 bs' : h0[s]? = some (some (.row [v]))
 bb : h0[b]? = some (some (.row [.int .i64 bs]))
 bf : h0[f]? = some (some (.row [.fn (.func 31) [] [.ptr (.own o 0),.ptr (.own s 0),.ptr (.own b 0),.ptr (.own f 0)]]))
 hv : Sl w0 (h0.set o none) 4 v (l.map aJ.c)
theorem wV {h0 : aA} {o s b f : Nat} {v : AV} {l : List aJ} {bs : Nat} (st : BSt w0 h0 o s b f v l bs) (hn : l.length ≤ 12) (hbs : bs ≤ 6) :
 ∀ (k : Nat) (out : List Int) (H : aA) (ov : AV),out.length + k = l.length → fN h0 H o ov out →
  ACall Try.prog w0 31 [.ptr (.own o 0),.ptr (.own s 0),.ptr (.own b 0),.ptr (.own f 0)] H fun y H' => ∃ ov',match bsD l bs k out with
   | some x => y = .bool true ∧ fN h0 H' o ov' x
   | none => y = .bool false ∧ fN h0 H' o ov' out := by
 intro k
 induction k with
 | zero =>
  intro out H ov hk hO
  refine bF bA oA rN rM (qE rfl) fun hb ha => bC ?_
  have e1 : ∀ L,(H ++ L)[o]? = some (some (.row [ov])) := fun L => aC hO.box
  have e2 : ∀ L,(H ++ L)[s]? = some (some (.row [v])) := fun L => aC (hO.keep.at_ _ _ (by simp [st.so]) st.bs')
  have hlen : iU v = some (.int .i64 l.length) := by have := st.hv.use.1; rwa [List.length_map] at this
  have e3 : (out.length : Int) = l.length := by omega
  simp only [go_sem,mf31,e1,e2,hO.len,hlen,e3]
  exact ⟨ov,hO.app⟩
 | succ k ih =>
  intro out H ov hk hO
  refine bF bA oA rN rM (qE rfl) fun hb ha => bC ?_
  have e1 : ∀ L,(H ++ L)[o]? = some (some (.row [ov])) := fun L => aC hO.box
  have e2 : ∀ L,(H ++ L)[s]? = some (some (.row [v])) := fun L => aC (hO.keep.at_ _ _ (by simp [st.so]) st.bs')
  have e4 : ∀ L,(H ++ L)[b]? = some (some (.row [.int .i64 bs])) := fun L => aC (hO.keep.at_ _ _ (by simp [st.bo]) st.bb)
  have hlen : iU v = some (.int .i64 l.length) := by have := st.hv.use.1; rwa [List.length_map] at this
  have e3 : ¬ (out.length : Int) = l.length := by omega
  simp only [go_sem,mf31,e1,e2,e4,hO.len,hlen,e3]
  refine jJ (S := Nat × aA × AV) (F := fun t => [(0,.ptr (.own o 0)),(1,.ptr (.own s 0)),(3,.ptr (.own f 0)),(5,.int .i64 out.length),(15,.int .i64 bs),(16,.int .i64 t.1)]) (H := fun t => t.2.1) (meas := fun t => bs - t.1)
   (Inv := fun t => t.1 ≤ bs ∧ fN h0 t.2.1 o t.2.2 out ∧ bsD l bs (k + 1) out = ((List.range bs).drop t.1).findSome? fun c : Nat => if lO l out (c : Int) then bsD l bs k (out ++ [(c : Int)]) else none) (0,H,ov) ⟨Nat.zero_le _,hO,rfl⟩ rfl (by simp) ?_
  rintro ⟨c,G,gv⟩ ⟨hc,gO,hG⟩ ih2
  simp only at hc gO hG ih2 ⊢
  refine bG bA aCC [0,1,3,5,15,16] L31_1.eq_1 ?_
  by_cases hcl : c < bs
  · have e5 : (c : Int) < bs := by omega
    rw [List.drop_eq_getElem_cons (by simpa using hcl),List.findSome?_cons,List.getElem_range] at hG
    have g1 : ∀ L,(G ++ L)[o]? = some (some (.row [gv])) := fun L => aC gO.box
    have g2 : ∀ L,(G ++ L)[s]? = some (some (.row [v])) := fun L => aC (gO.keep.at_ _ _ (by simp [st.so]) st.bs')
    have g1' := g1 []; have g2' := g2 []
    rw [List.append_nil] at g1' g2'
    have hvG := st.hv.sub gO.keep.setN
    obtain ⟨_,q,hix,hrow,_⟩ := hvG.use
    rw [List.length_map] at hix
    simp only [go_sem,e5,g1,g1',gO.len]
    refine jK (fun j => [(0,.ptr (.own o 0)),(1,.ptr (.own s 0)),(3,.ptr (.own f 0)),(5,.int .i64 out.length),(6,.int .i64 c),(15,.int .i64 bs),(16,.int .i64 c),(19,gv),(20,.int .i64 out.length),(21,.int .i64 j)]) (fun j => (!(decide (out.getD j 0 = (c : Int)) && cQ (aZ l j) (aZ l out.length))) = true) out.length rfl (fun j hj hall ih3 => ?_) (fun hall => ?_)
    · refine bG bA uY [0,1,3,5,6,15,16,19,20,21] L31_0.eq_1 ?_
      have e6 : (j : Int) < out.length := by omega
      obtain ⟨pp,i1,r1,r1'⟩ := SlI.at_ (gO.slI (w0 := w0)) hj
      have hjl : j < l.length := by omega
      have hol : out.length < l.length := by omega
      have x1 := hix j hjl
      have x2 := hix out.length hol
      have y1 : ∀ L,rdn w0 (G ++ L) (q.add (j * 4)) 4 = some l[j].c := fun L => dE (hrow j _ (eB hjl))
      have y2 : ∀ L,rdn w0 (G ++ L) (q.add (out.length * 4)) 4 = some l[out.length].c := fun L => dE (hrow _ _ (eB hol))
      have y1' := hrow j _ (eB hjl)
      have y2' := hrow _ _ (eB hol)
      have s1 : aZ l j = l[j] := by rw [aZ,cO hjl]
      have s2 : aZ l out.length = l[out.length] := by rw [aZ,cO hol]
      rw [cO hj,s1,s2] at ih3
      have nofit : out[j] = (c : Int) → cQ l[j] l[out.length] = true → lO l out c = false := fun a b => by
       rw [lO,List.all_eq_false]
       refine ⟨j,List.mem_range.2 hj,?_⟩
       rw [cO hj,s1,s2]; simp [a,b]
      by_cases q1 : out[j] = (c : Int)
      · simp only [go_sem,e6,i1,r1,r1',q1,g2,g2',x1,x2,y1,y2,y1',y2']
        refine aQ (meet_c l[j] l[out.length]).v ?_
        cases q2 : cQ l[j] l[out.length] with
        | true =>
         simp only [go_sem]
         refine ⟨(by unfold I64; omega),ih2 (c + 1,G,gv) ⟨by simp only; omega,gO,?_⟩ (by simp only; omega)⟩
         rw [hG,nofit q1 q2]; rfl
        | false =>
         simp only [go_sem]
         exact ⟨(by unfold I64; omega),ih3 (by simp [q2])⟩
      · simp only [go_sem,e6,i1,r1,r1',q1]
        exact ⟨(by unfold I64; omega),ih3 (by simp [q1])⟩
    · refine bG bA uY [0,1,3,5,6,15,16,19,20,21] L31_0.eq_1 ?_
      have e6 : ¬ (out.length : Int) < out.length := by omega
      have hfit : lO l out (c : Int) = true := by rw [lO,List.all_eq_true]; exact fun j hj => hall j (List.mem_range.1 hj)
      rw [hfit,if_pos rfl] at hG
      simp only [go_sem,e6,g1,g1']
      have hO1 : fN h0 (G ++ [some (.row [.int .i64 c])]) o gv out := gO.app
      obtain ⟨G1,a1,a2,a3,a4⟩ := hO1.more (w0 := w0) st.ol (k := G.length) (f := true) (x := c) (by rw [qI (Nat.le_refl _),Nat.sub_self]; rfl) (by omega)
      rw [a1]
      obtain ⟨G2,eG2⟩ : ∃ G2,G2 = G1.set o (some (.row [.sl (.own (G ++ [some (Blk.row [AV.int .i64 c])]).length 0) (out.length + 1) 1 false])) := ⟨_,rfl⟩
      rw [← eG2] at a4
      have b1 : G2[f]? = _ := a4.keep.at_ _ _ (by simp [st.fo]) st.bf
      have bl : (G ++ [some (Blk.row [AV.int .i64 c])]).length = G.length + 1 := by simp
      rw [bl] at eG2 a4 ⊢
      simp only [go_sem,a2]
      rw [← eG2]
      simp only [go_sem,b1]
      refine aX (ACall.vc (first := []) (args := []) (capt := [.ptr (.own o 0),.ptr (.own s 0),.ptr (.own b 0),.ptr (.own f 0)]) (ih (out ++ [(c : Int)]) G2 _ (by simp; omega) a4)) ?_
      rintro y H' ⟨ov',hy⟩
      cases hbs : bsD l bs k (out ++ [(c : Int)]) with
      | some x =>
       rw [hbs] at hy hG
       obtain ⟨rfl,hy⟩ := hy
       simp only [go_sem]
       rw [hG]
       exact ⟨ov',hy⟩
      | none =>
       rw [hbs] at hy hG
       obtain ⟨rfl,hy⟩ := hy
       obtain ⟨io,rfl,hl⟩ := hy.less st.ol
       have c1 : ∀ L,(H' ++ L)[o]? = _ := fun L => aC (k := L) hy.box
       simp only [go_sem,hy.box,c1,nat_ix]
       refine ⟨by omega,(by unfold I64; omega),?_⟩
       rw [Nat.sub_zero,Bool.false_and]
       exact ih2 (c + 1,_,_) ⟨by simp only; omega,hl,by rw [hG]⟩ (by simp only; omega)
  · have e5 : ¬ (c : Int) < bs := by omega
    obtain rfl : c = bs := by omega
    rw [List.drop_of_length_le (by simp),List.findSome?_nil] at hG
    simp only [go_sem,e5]
    rw [hG]
    exact ⟨gv,gO⟩
def jS (w0 : World) (H : aA) (y : AV) (l : List aJ) (bs : Int) : Prop :=
 if dT l bs = 0 then match fK l bs with
  | some _ => y = .tup [.nilS,.int .i64 5]
  | none => ∃ lv,y = .tup [lv,.int .i64 0] ∧ SlI w0 H lv ((bsD l bs.toNat l.length []).getD [])
 else y = .tup [.nilS,.int .i64 (dT l bs)]
theorem aCH (bs : Int) {v : AV} {l : List aJ} (hv : Sl w0 h 4 v (l.map aJ.c)) : ACall Try.prog w0 10 [v,.int .i64 bs] h fun y H => aL h H ∧ jS w0 H y l bs := by
 refine bF bA uE zV zU (qE rfl) fun hb ha => bC ?_
 have o := Sl.one hv
 simp only [go_sem,mf10,o.1,o.2]
 refine aQ (xI bs hv.app).v ?_
 by_cases e : dT l bs = 0
 · obtain ⟨h12,hbs,hst⟩ := vH e
   simp only [go_sem,e]
   refine aQ (wO bs hv.app h12).v ?_
   cases e2 : fK l bs with
   | some t =>
    simp only [go_sem,eK]
    exact ⟨aL.refl.app,by rw [jS,if_pos e,e2]⟩
   | none =>
    simp only [go_sem,eK]
    obtain ⟨n,rfl⟩ : ∃ n : Nat,bs = n := ⟨bs.toNat,by omega⟩
    obtain ⟨X,eX⟩ : ∃ X,X = h ++ [some (Blk.row [v]),some (.row [.int .i64 n]),some (.row [.nilS]),some (.row [.fn (.func 31) [] [.ptr (.own (h.length + 2) 0),.ptr (.own h.length 0),.ptr (.own (h.length + 1) 0),.ptr (.own (h.length + 3) 0)]])] := ⟨_,rfl⟩
    have sX : aL h X := eX ▸ aL.refl.app
    have x0 : X[h.length]? = some (some (.row [v])) := by rw [eX,qI (by omega)]; simp
    have x1 : X[h.length + 1]? = some (some (.row [.int .i64 n])) := by rw [eX,qI (by omega)]; simp
    have x2 : X[h.length + 2]? = some (some (.row [.nilS])) := by rw [eX,qI (by omega)]; simp
    have x3 : X[h.length + 3]? = some (some (.row [.fn (.func 31) [] [.ptr (.own (h.length + 2) 0),.ptr (.own h.length 0),.ptr (.own (h.length + 1) 0),.ptr (.own (h.length + 3) 0)]])) := by rw [eX,qI (by omega)]; simp
    have st : BSt w0 X (h.length + 2) h.length (h.length + 1) (h.length + 3) v l n := ⟨aP x2,by omega,by omega,by omega,x0,x1,x3,hv.sub (sX.setR (by omega) |> fun t => ⟨by simpa using t.1,fun i b e => t.2 i b e⟩)⟩
    rw [← eX]
    refine aX (ACall.vc (first := []) (args := []) (capt := [.ptr (.own (h.length + 2) 0),.ptr (.own h.length 0),.ptr (.own (h.length + 1) 0),.ptr (.own (h.length + 3) 0)]) (wV st h12 (by omega) l.length [] X .nilS (by simp) ⟨bR.refl,x2,.inl ⟨rfl,rfl⟩⟩)) ?_
    rintro y H ⟨ov,hy⟩
    have fin : ∀ x,(bsD l n l.length []).getD [] = x → fN X H (h.length + 2) ov x → aL h H ∧ jS w0 H (.tup [ov,.int .i64 0]) l n := fun x ex hy => by
     refine ⟨⟨Nat.le_trans sX.1 hy.keep.le,fun i b e => hy.keep.at_ _ _ (by have := aP e; simp; omega) (sX.2 _ _ e)⟩,?_⟩
     rw [jS,if_pos e,e2]
     exact ⟨ov,rfl,by rw [show (n : Int).toNat = n from rfl,ex]; exact hy.slI⟩
    have hbox : H[h.length + 2]? = some (some (.row [ov])) := by
     cases hB : bsD l n l.length [] with
     | some x => rw [hB] at hy; exact hy.2.box
     | none => rw [hB] at hy; exact hy.2.box
    have hbL : ∀ L,(H ++ L)[h.length + 2]? = some (some (.row [ov])) := fun L => aC hbox
    simp only [go_sem,hbox,hbL]
    cases hB : bsD l n l.length [] with
    | some x => rw [hB] at hy fin; exact fin x rfl hy.2
    | none => rw [hB] at hy fin; exact fin [] rfl hy.2
 · simp only [go_sem,e]
   exact ⟨aL.refl.app,by rw [jS,if_neg e]⟩
theorem lB (a b : Int) : bE Try.prog w0 21 [.agg [.int .i64 a,.int .i64 b]] h (.bool (eH a b 0 1440)) h := by
 refine aY bA aCb mf21_b mf21_g (qE rfl) (by simp [AV.bdd,AV.bdds]) fun hb ha => bC ?_
 simp only [go_sem,mf21]
 exact ⟨fun x => ⟨fun y => by simp [eH,x,y],fun y => by simp [eH,x,y]⟩,fun x => by simp [eH,x]⟩
theorem xZ {v : AV} {l : List aJ} (hv : Sl w0 h 4 v (l.map aJ.c)) (hn : l.length < 1000000) : bE Try.prog w0 7 [v] h (.bool (l.all bP)) h := by
 refine aY bA mf7_ok mf7_b mf7_g (qE rfl) (by simp [AV.bdd,AV.bdds]) fun hb ha => bC ?_
 obtain ⟨hlen,q,hix,hrow,_⟩ := hv.use
 rw [List.length_map] at hlen hix
 have vb := hv.bdd (Nat.le_refl _)
 simp only [go_sem,mf7]
 refine jK (fun j => [(0,v),(3,.int .i64 j)]) (fun j => bP (l.getD j ⟨0,0,0,0⟩) = true) l.length rfl (fun j hj hall ih => ?_) (fun hall => ?_)
 · refine bG bA aAM [0,3] L7_0.eq_1 ?_
   have e1 : (j : Int) < l.length := by omega
   have e2 := hix j hj
   have e3 : ∀ L,rdn w0 (h ++ L) (q.add (j * 4)) 4 = some l[j].c := fun L => dE (hrow j _ (eB hj))
   have e3' := hrow j _ (eB hj)
   obtain ⟨r,hr⟩ : ∃ r,r = l[j] := ⟨_,rfl⟩
   rw [cO hj,← hr] at ih
   have no : bP r = false → l.all bP = false := fun x => by
    rw [List.all_eq_false]; exact ⟨_,qG hj,by rw [← hr,x]; simp⟩
   simp only [go_sem,hlen,e1,e2,e3,e3',← hr]
   refine aQ (lB r.cl r.ch).v ?_
   cases c1 : eH r.cl r.ch 0 1440 with
   | false => simp only [go_sem]; rw [no (by simp [bP,c1])]
   | true =>
   simp only [go_sem]
   refine aQ (lB r.gl r.gh).v ?_
   cases c2 : eH r.gl r.gh 0 1440 with
   | false => simp only [go_sem]; rw [no (by simp [bP,c2])]
   | true =>
   simp only [go_sem]
   refine ⟨fun c3 => ⟨fun c4 => ?_,fun c4 => ⟨(by unfold I64; omega),oC 0 hb (by simp [HBs]) (by simp [jD,jE,kS,kT,oT,kK,AV.bdds,AV.bdd,Pl.bdd,gJ]; exact vb) ?_⟩⟩,fun c3 => ?_⟩
   · rw [no (by simp [bP]; omega)]
   · simpa using ih (by simp only [bP,c1,c2,Bool.true_and,Bool.and_eq_true,decide_eq_true_eq]; omega)
   · rw [no (by simp [bP]; omega)]
 · refine bG bA aAM [0,3] L7_0.eq_1 ?_
   have e1 : ¬ (l.length : Int) < l.length := by omega
   have : l.all bP = true := by rw [← hY ⟨0,0,0,0⟩,List.all_eq_true]; exact fun j hj => hall j (List.mem_range.1 hj)
   simp only [go_sem,hlen,e1]
   rw [this]
def nX (l : List Int) (many most : Int) : Bool := l.all (fun x => inB x 0 most) && decide ((l.length : Int) = many)
theorem lF {l : List Int} {many most : Int} : nX l many most = true ↔ (∀ x ∈ l,0 ≤ x ∧ x ≤ most) ∧ (l.length : Int) = many := by
 simp only [nX,inB,Bool.and_eq_true,List.all_eq_true,decide_eq_true_eq]
theorem iB (many most : Int) {v : AV} {l : List Int} (hv : SlI w0 h v l) (hn : l.length ≤ 9223372036854775807) : bE Try.prog w0 8 [v,.int .i64 many,.int .i64 most] h (.bool (nX l many most)) h := by
 refine aY bA mf8_ok mf8_b mf8_g (qE rfl) (by simp [AV.bdd,AV.bdds]) fun hb ha => bC ?_
 have hlen := (SlI.use hv).1
 simp only [go_sem,mf8]
 refine jK (fun j => [(0,v),(1,.int .i64 many),(2,.int .i64 most),(7,.int .i64 j)]) (fun j => inB (l.getD j 0) 0 most = true) l.length rfl (fun j hj hall ih => ?_) (fun hall => ?_)
 · refine bG bA aAL [0,1,2,7] L8_0.eq_1 ?_
   obtain ⟨p,i1,r1,r1'⟩ := hv.at_ hj
   have e1 : (j : Int) < l.length := by omega
   have no : inB l[j] 0 most = false → nX l many most = false := fun x => by
    rw [nX,List.all_eq_false.2 ⟨_,qG hj,by simp [x]⟩]; rfl
   rw [cO hj] at ih
   simp only [go_sem,hlen,e1,i1,r1,r1']
   refine ⟨fun a => ⟨fun b => ?_,fun b => ⟨(by unfold I64; omega),ih (by simp only [inB,Bool.and_eq_true,decide_eq_true_eq]; omega)⟩⟩,fun a => ?_⟩
   · rw [no (by simp only [inB,Bool.and_eq_false_imp,decide_eq_true_eq,decide_eq_false_iff_not]; omega)]
   · rw [no (by simp only [inB,Bool.and_eq_false_imp,decide_eq_true_eq,decide_eq_false_iff_not]; omega)]
 · refine bG bA aAL [0,1,2,7] L8_0.eq_1 ?_
   have e1 : ¬ (l.length : Int) < l.length := by omega
   have : l.all (fun x => inB x 0 most) = true := by rw [← hY 0,List.all_eq_true]; exact fun j hj => hall j (List.mem_range.1 hj)
   simp only [go_sem,hlen,e1]
   rw [nX,this]
   simp
   rfl
end Go.Proofs.Ab
namespace Go.Proofs.Ab
open Go Go.Proofs
variable {w : World} {h : aA} {cs : List Value}
theorem xH {v : Value} (g : Gd w (.sl rR .nil) [v]) : ∃ l : List aJ,Sl w h 4 (inj v) (l.map aJ.c) ∧ l.length ≤ 9223372036854775807 := by
 obtain ⟨_,_,e,h,rfl⟩ := g
 cases e
 exact pG aJ.c rfl h fun _ g => by
  obtain ⟨a,b,c,d,e,_⟩ := aCs g
  exact ⟨⟨a,b,c,d⟩,e⟩
end Go.Proofs.Ab
namespace Go.Proofs.Ab
open Go Go.Proofs
variable {w0 : World} {h : aA}
attribute [local irreducible] ACall aV cR bE dR rvC lp rg dr ex un rv
theorem xA {l : List aJ} {n : Nat} (hl : l.all bP = true) (hc : fK l n = none) : ∃ x,bsD l n l.length [] = some x ∧ eW l x ∧ mA n x ∧ x.length = l.length := by
 obtain ⟨y,y1,y2,y3⟩ := sL (fun s hs => List.all_eq_true.1 hl s hs) hc
 obtain ⟨x,hx,_⟩ := nF l.length [] y (by simpa using y1) y2 y3
 obtain ⟨a,b,c,_⟩ := qJ l.length [] _ hx (fun i hi => by simp at hi) (fun x hx => by simp at hx)
 exact ⟨_,hx,a,b,by simpa using c⟩
theorem mR {α : Type} {l : List α} {d : α} {i : Nat} (h : i < l.length) : l.getD i d ∈ l := by rw [cO h]; exact qG h
theorem xJ {l : List aJ} {j : Nat} (hj : j < l.length) : aZ l j ∈ l := by rw [aZ,cO hj]; exact qG hj
theorem qU {a b : aJ} (ha : bP a = true) (hb : bP b = true) (hm : cQ b a = false) {p q r s : Int} (hp : 0 ≤ p ∧ p ≤ 100) (hq : 0 ≤ q ∧ q ≤ 100) (hr : 0 ≤ r ∧ r ≤ 100) (hs : 0 ≤ s ∧ s ≤ 100) :
 ¬ (fR a.cl a.ch p ≤ max (fR b.cl b.ch r) (fR b.gl b.gh s) ∧ fR b.cl b.ch r ≤ max (fR a.cl a.ch p) (fR a.gl a.gh q)) := by
 rw [aAy hb ha] at hm
 have h1 := cZ.1 ha
 have h2 := cZ.1 hb
 have a1 := kM (show a.cl ≤ a.ch by omega) hp.1 hp.2
 have a2 := kM (show a.gl ≤ a.gh by omega) hq.1 hq.2
 have b1 := kM (show b.cl ≤ b.ch by omega) hr.1 hr.2
 have b2 := kM (show b.gl ≤ b.gh by omega) hs.1 hs.2
 simp only [Bool.and_eq_false_imp,decide_eq_true_eq,decide_eq_false_iff_not] at hm
 omega
theorem sW {v cv gv : AV} {l : List aJ} {cs gs : List Int} (bs : Int) (hv : Sl w0 h 4 v (l.map aJ.c)) (hcs : SlI w0 h cv cs) (hgs : SlI w0 h gv gs) (hn : l.length ≤ 9223372036854775807) (hcn : cs.length ≤ 9223372036854775807) (hgn : gs.length ≤ 9223372036854775807) :
 bE Try.prog w0 3 [v,.int .i64 bs,cv,gv] h (.bool true) h := by
 refine eE trivial (bF bA mf3_ok mf3_b mf3_g (qE rfl) fun hb ha => bC ?_)
 have hlen : iU v = some (.int .i64 l.length) := by have := hv.use.1; rwa [List.length_map] at this
 by_cases q1 : (l.length : Int) > 9
 · simp only [go_sem,mf3,hlen,q1]
   refine aQ fI.v ?_
   simp only [go_sem]
   exact aL.refl.app
 simp only [go_sem,mf3,hlen,q1]
 rw [List.append_nil]
 refine aQ (xZ hv (by omega)).v ?_
 cases hl : l.all bP with
 | false =>
  simp only [go_sem]
  refine aQ fI.v ?_
  simp only [go_sem]
  exact aL.refl
 | true =>
 simp only [go_sem,hlen]
 repeat' (refine And.intro (fun _ => ?_) (fun _ => ?_))
 all_goals first | (refine aQ fI.v ?_; simp only [go_sem]; exact aL.refl) | skip
 rename_i p1 p2
 refine aQ (iB l.length 100 hcs hcn).v ?_
 cases hC : nX cs l.length 100 with
 | false =>
  simp only [go_sem]
  refine aQ fI.v ?_
  simp only [go_sem]
  exact aL.refl
 | true =>
 simp only [go_sem,hlen]
 refine aQ (iB l.length 100 hgs hgn).v ?_
 cases hG : nX gs l.length 100 with
 | false =>
  simp only [go_sem]
  refine aQ fI.v ?_
  simp only [go_sem]
  exact aL.refl
 | true =>
 obtain ⟨hC1,hC2⟩ := lF.1 hC
 obtain ⟨hG1,hG2⟩ := lF.1 hG
 obtain ⟨n,rfl⟩ : ∃ n : Nat,bs = n := ⟨bs.toNat,by omega⟩
 have e0 : dT l n = 0 := by
  rw [dT,if_neg (by omega),hl,show inB (n : Int) 0 6 = true by simp only [inB,Bool.and_eq_true,decide_eq_true_eq]; omega]; rfl
 simp only [go_sem]
 refine aX (ACall.vc (first := []) (args := [v,.int .i64 n]) (aCH n hv)) ?_
 rintro y H ⟨sH,hy⟩
 rw [jS,if_pos e0] at hy
 cases hcr : fK l n with
 | some t =>
  rw [hcr] at hy
  subst hy
  simp only [go_sem]
  refine aQ fI.v ?_
  simp only [go_sem]
  exact sH
 | none =>
 rw [hcr] at hy
 obtain ⟨lv,rfl,hlv⟩ := hy
 obtain ⟨x,hx,xa,xr,xl⟩ := xA hl hcr
 rw [show (n : Int).toNat = n from rfl,hx,Option.getD_some] at hlv
 have hnx : nX x l.length (n - 1) = true := lF.2 ⟨fun z hz => by have := xr z hz; omega,by omega⟩
 have w1 : wi ((n : Int) - 1) = n - 1 := oW (by unfold I64; omega)
 simp only [go_sem,hlen,w1]
 refine aQ (iB l.length (n - 1) hlv (by omega)).v ?_
 rw [hnx]
 have hlx := (SlI.use hlv).1
 have hcs' := Sl.sub hcs sH
 have hgs' := Sl.sub hgs sH
 obtain ⟨_,q,hix,hrow,_⟩ := (hv.sub sH).use
 rw [List.length_map] at hix
 obtain ⟨A,hA⟩ : ∃ A : Nat → Int,∀ j,A j = fR (aZ l j).cl (aZ l j).ch (cs.getD j 0) := ⟨_,fun _ => rfl⟩
 obtain ⟨B,hB⟩ : ∃ B : Nat → Int,∀ j,B j = max (A j) (fR (aZ l j).gl (aZ l j).gh (gs.getD j 0)) := ⟨_,fun _ => rfl⟩
 have fact : ∀ j,j < l.length → (∀ L,rdn w0 (H ++ L) ((q.add (j * 4)).add 0) 2 = some [.int .i64 (aZ l j).cl,.int .i64 (aZ l j).ch]) ∧ (∀ L,rdn w0 (H ++ L) ((q.add (j * 4)).add 2) 2 = some [.int .i64 (aZ l j).gl,.int .i64 (aZ l j).gh]) := fun j hj => by
  have r0 := hrow j _ (eB hj)
  have hs : aZ l j = l[j] := by rw [aZ,cO hj]
  rw [hs]
  exact ⟨fun L => dE ((nT r0).2 0 2 (by omega)),fun L => dE ((nT r0).2 2 2 (by omega))⟩
 have hst : ∀ j,j < l.length → bP (aZ l j) = true := fun j hj => List.all_eq_true.1 hl _ (xJ hj)
 have hcj : ∀ j,j < l.length → 0 ≤ cs.getD j 0 ∧ cs.getD j 0 ≤ 100 := fun j hj => hC1 _ (mR (by omega))
 have hgj : ∀ j,j < l.length → 0 ≤ gs.getD j 0 ∧ gs.getD j 0 ≤ 100 := fun j hj => hG1 _ (mR (by omega))
 simp only [go_sem]
 refine jK (fun j => [(0,v),(2,cv),(3,gv),(9,lv),(11,.int .i64 j)]) (fun _ => True) l.length rfl (fun j hj _ ih => ?_) (fun _ => ?_)
 · refine bG bA aAN [0,2,3,9,11] L3_1.eq_1 ?_
   have e1 : (j : Int) < x.length := by omega
   have e2 := hix j hj
   obtain ⟨f1,f2⟩ := fact j hj
   obtain ⟨pc,i1,r1,r1'⟩ := SlI.at_ hcs' (j := j) (by omega)
   obtain ⟨pg,i2,r2,r2'⟩ := SlI.at_ hgs' (j := j) (by omega)
   rw [← cO (d := 0)] at r1 r1' r2 r2'
   have f1' := f1 []; have f2' := f2 []
   rw [List.append_nil] at f1' f2'
   have hs := cZ.1 (hst j hj)
   simp only [go_sem,hlx,e1,e2,f1,f2,f1',f2',i1,r1,r1',i2,r2,r2']
   refine aQ (nW (aZ l j).cl (aZ l j).ch (cs.getD j 0) (by omega) (by omega) (hcj j hj)).v ?_
   simp only [go_sem,hlx,e1,e2,f1,f2,f1',f2',i1,r1,r1',i2,r2,r2']
   refine aQ (nW (aZ l j).gl (aZ l j).gh (gs.getD j 0) (by omega) (by omega) (hgj j hj)).v ?_
   rw [← hA]
   simp only [go_sem]
   rw [← hB]
   refine jK (fun k => [(0,v),(2,cv),(3,gv),(9,lv),(11,.int .i64 j),(12,.int .i64 (A j)),(13,.int .i64 (B j)),(14,.int .i64 k)]) (fun _ => True) j rfl (fun k hk _ ih2 => ?_) (fun _ => ?_)
   · refine bG bA aAO [0,2,3,9,11,12,13,14] L3_0.eq_1 ?_
     have hkl : k < l.length := by omega
     have e3 : (k : Int) < j := by omega
     have e4 := hix k hkl
     obtain ⟨g1,g2⟩ := fact k hkl
     obtain ⟨pc2,j1,t1,t1'⟩ := SlI.at_ hcs' (j := k) (by omega)
     obtain ⟨pg2,j2,t2,t2'⟩ := SlI.at_ hgs' (j := k) (by omega)
     obtain ⟨px,j3,t3,t3'⟩ := SlI.at_ hlv (j := j) (by omega)
     obtain ⟨py,j4,t4,t4'⟩ := SlI.at_ hlv (j := k) (by omega)
     rw [← cO (d := 0)] at t1 t1' t2 t2' t3 t3' t4 t4'
     have g1' := g1 []; have g2' := g2 []
     rw [List.append_nil] at g1' g2'
     have hs2 := cZ.1 (hst k hkl)
     simp only [go_sem,e3,e4,g1,g2,g1',g2',j1,t1,t1',j2,t2,t2']
     refine aQ (nW (aZ l k).cl (aZ l k).ch (cs.getD k 0) (by omega) (by omega) (hcj k hkl)).v ?_
     simp only [go_sem,e3,e4,g1,g2,g1',g2',j1,t1,t1',j2,t2,t2']
     refine aQ (nW (aZ l k).gl (aZ l k).gh (gs.getD k 0) (by omega) (by omega) (hgj k hkl)).v ?_
     rw [← hA]
     by_cases c1 : x.getD j 0 = x.getD k 0
     · have hm := xa j (by omega) k hk c1
       have htr := qU (hst j hj) (hst k hkl) hm (hcj j hj) (hgj j hj) (hcj k hkl) (hgj k hkl)
       rw [← hA,← hA,← hB,← hB] at htr
       by_cases c2 : A j ≤ B k
       · have c3 : ¬ A k ≤ B j := fun h => htr ⟨c2,h⟩
         simp only [go_sem,j3,j4,t3,t3',t4,t4',c1]
         rw [← hB]
         simp only [go_sem,c2,c3]
         exact ⟨(by unfold I64; omega),ih2 trivial⟩
       · simp only [go_sem,j3,j4,t3,t3',t4,t4',c1]
         rw [← hB]
         simp only [go_sem,c2]
         exact ⟨(by unfold I64; omega),ih2 trivial⟩
     · simp only [go_sem,j3,j4,t3,t3',t4,t4',c1]
       exact ⟨(by unfold I64; omega),ih2 trivial⟩
   · refine bG bA aAO [0,2,3,9,11,12,13,14] L3_0.eq_1 ?_
     have e3 : ¬ (j : Int) < j := by omega
     simp only [go_sem,e3]
     exact ⟨(by unfold I64; omega),ih trivial⟩
 · refine bG bA aAN [0,2,3,9,11] L3_1.eq_1 ?_
   have e1 : ¬ (l.length : Int) < x.length := by omega
   simp only [go_sem,hlx,e1]
   refine aQ fI.v ?_
   simp only [go_sem]
   exact sH
end Go.Proofs.Ab

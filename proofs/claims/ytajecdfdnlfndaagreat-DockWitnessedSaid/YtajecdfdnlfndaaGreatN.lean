/- The own layer under the proofs of this seat, part N: what calls of the program come to on an abstract heap. No condition. -/
import Derived.Test.YtajecdfdnlfndaaGreatM
import Derived.Test.YtajecdfdnlfndaaGreatK
set_option linter.unusedSimpArgs false
set_option linter.unusedVariables false
namespace Go.Proofs.Ab
open Go Go.Proofs
variable {w0 : World} {h : Heap}
attribute [local irreducible] ACall aR bR bD cI rvC lp rg dr ex un rv
structure CallD where
 who : Int
 kind : Int
 thing : Int
 other : Int
 begin_ : Int
 end_ : Int
 result : Int
@[go_sem] def CallD.c (c : CallD) : List AV := [.int .i64 c.who,.int .i64 c.kind,.int .i64 c.thing,.int .i64 c.other,.int .i64 c.begin_,.int .i64 c.end_,.int .i64 c.result]
def cU (tm : Int) (c : CallD) : Bool := if c.kind = 4 then inB c.other 0 tm && decide (c.other ≠ c.thing) else decide (c.other = 0)
def bA (tm : Int) (c : CallD) : Bool := inB c.who 0 3 && (decide (c.kind ≥ 1) && (decide (c.kind ≤ 4) && (inB c.thing 0 tm && (cU tm c && (decide (c.begin_ ≥ 0) && (decide (c.begin_ < c.end_) && (decide (c.end_ ≤ 1000) && inB c.result (-1) 3)))))))
def eV (things : Int) (l : List CallD) : Bool := inB things 1 4 && l.all (bA (wi (things - 1)))
def doD (ho : List Int) (c : CallD) : List Int × Int :=
 if c.kind = 1 then (if ho.getD c.thing.toNat 0 = -1 then (ho.set c.thing.toNat c.who,1) else (ho,0))
 else if c.kind = 2 then (if ho.getD c.thing.toNat 0 = c.who then (ho.set c.thing.toNat (-1),1) else (ho,0))
 else if c.kind = 3 then (ho,ho.getD c.thing.toNat 0)
 else if c.kind = 4 then (if ho.getD c.thing.toNat 0 = c.who ∧ ho.getD c.other.toNat 0 = -1 then ((ho.set c.thing.toNat (-1)).set c.other.toNat c.who,1) else (ho,0))
 else (ho,0)
theorem oX {ho : List Int} {c : CallD} : (doD ho c).1.length = ho.length := by
 unfold doD
 repeat' split
 all_goals simp
section
variable {σ : Type} (n : Nat) (stp : σ → Nat → Option σ)
def dfs : Nat → σ → Option (List Nat)
 | 0,_ => some []
 | k + 1,p => (List.range n).findSome? fun i => (stp p i).bind fun q => (dfs k q).map (i :: ·)
def hY : σ → List Nat → Option σ
 | p,[] => some p
 | p,i :: r => (if i < n then stp p i else none).bind fun q => hY q r
end
section
variable {σ τ : Type} {n : Nat} {stp : σ → Nat → Option σ} {stq : τ → Nat → Option τ}
theorem jH : ∀ {k : Nat} {p : σ} {r : List Nat},dfs n stp k p = none → r.length = k → hY n stp p r = none
 | 0,p,r,h,_ => by rw [dfs] at h; cases h
 | k + 1,p,[],h,e => by simp at e
 | k + 1,p,i :: r,h,e => by
  rw [dfs,List.findSome?_eq_none_iff] at h
  rw [hY]
  split
  · rename_i hi
    have h1 := h i (List.mem_range.2 hi)
    cases hq : stp p i with
    | none => rfl
    | some q =>
     rw [hq] at h1
     have h2 : dfs n stp k q = none := by
      cases hd : dfs n stp k q with
      | none => rfl
      | some t => rw [Option.bind_some,hd] at h1; cases h1
     exact jH (r := r) h2 (by simpa using e)
  · rfl
end
end Go.Proofs.Ab
namespace Go.Proofs.Ab
open Go
def aL (l : List CallD) (i : Nat) : CallD := l.getD i ⟨0,0,0,0,0,0,0⟩
def hZ (l : List CallD) (bits i : Nat) : Bool := (List.range l.length).any fun k => !bits.testBit k && decide ((aL l k).end_ < (aL l i).begin_)
def eL (l : List CallD) (p : Nat × List Int) (i : Nat) : Option (Nat × List Int) :=
 if p.1.testBit i then none else if hZ l p.1 i then none
 else if (doD p.2 (aL l i)).2 = (aL l i).result then some (p.1 ||| 2 ^ i,(doD p.2 (aL l i)).1) else none
def mV (l : List CallD) : List Nat → List Int → List Nat → Bool
 | _,_,[] => true
 | seen,ho,i :: r => (seen.all fun k => !decide ((aL l i).end_ < (aL l k).begin_)) && (decide ((doD ho (aL l i)).2 = (aL l i).result) && mV l (seen ++ [i]) (doD ho (aL l i)).1 r)
def begB (l : List CallD) (t : Nat) (r : List Nat) : Bool := mV l [] (cY t) r
def goodO (l : List CallD) (t : Nat) (r : List Nat) : Prop := r.Nodup ∧ (∀ i ∈ r,i < l.length) ∧ begB l t r = true
theorem eD : ∀ {a b : List Nat},a.Nodup → (∀ x ∈ a,x ∈ b) → a.length ≤ b.length
 | [],b,_,_ => by simp
 | x :: a,b,h,s => by
  have hx := s x (by simp)
  have := eD (a := a) (b := b.erase x) (List.nodup_cons.1 h).2 fun y hy => by
   have hne : y ≠ x := fun e => (List.nodup_cons.1 h).1 (e ▸ hy)
   exact (List.mem_erase_of_ne hne).2 (s y (by simp [hy]))
  rw [List.length_erase_of_mem hx] at this
  have := List.length_pos_of_mem hx
  simp only [List.length_cons]; omega
theorem aA8 {n : Nat} {r : List Nat} (h : r.Nodup) (hi : ∀ i ∈ r,i < n) (hl : r.length = n) {k : Nat} (hk : k < n) : k ∈ r := by
 apply Classical.byContradiction
 intro hm
 have := eD (a := k :: r) (b := List.range n) (List.nodup_cons.2 ⟨hm,h⟩) fun x hx => by
  rw [List.mem_range]
  rcases List.mem_cons.1 hx with rfl | hx
  · exact hk
  · exact hi x hx
 simp at this; omega
def hoR (t : Nat) (a b : List Int) : Prop := a.length = 4 ∧ t ≤ 4 ∧ b = a.take t
theorem wJ {tm : Int} {t : Nat} {a b : List Int} {c : CallD} (h : hoR t a b) (hc : bA tm c = true) (ht : tm < t) : (doD a c).2 = (doD b c).2 ∧ hoR t (doD a c).1 (doD b c).1 := by
 obtain ⟨h1,h2,rfl⟩ := h
 simp only [bA,inB,Bool.and_eq_true,decide_eq_true_eq] at hc
 obtain ⟨_,k1,k4,⟨t0,t1⟩,ho,_⟩ := hc
 obtain ⟨x,hx⟩ : ∃ x : Nat,c.thing = x := ⟨c.thing.toNat,by omega⟩
 have hxt : x < t := by omega
 have e1 : (a.take t).getD c.thing.toNat 0 = a.getD c.thing.toNat 0 := mY (by rw [hx]; exact hxt)
 have e2 : c.kind = 4 → (a.take t).getD c.other.toNat 0 = a.getD c.other.toNat 0 := fun k => by
  rw [cU,if_pos k] at ho
  simp only [inB,Bool.and_eq_true,decide_eq_true_eq] at ho
  exact mY (by omega)
 unfold doD
 rw [e1]
 repeat' split
 all_goals first
  | exact ⟨rfl,h1,h2,rfl⟩
  | exact ⟨rfl,by simpa using h1,h2,by simp only [List.take_set]⟩
  | (rename_i hk q q'; rw [e2 hk] at q'; exact absurd q q')
  | (rename_i hk q q'; rw [e2 hk] at q'; exact absurd q' q)
  | skip
theorem tD {a i k : Nat} : (a ||| 2 ^ i).testBit k = (a.testBit k || decide (i = k)) := by rw [Nat.testBit_or,Nat.testBit_two_pow]
theorem fB {l : List CallD} {bits i : Nat} : hZ l bits i = false ↔ ∀ k,k < l.length → bits.testBit k = false → ¬ (aL l k).end_ < (aL l i).begin_ := by
 simp only [hZ,List.any_eq_false,List.mem_range,Bool.and_eq_true,Bool.not_eq_true',decide_eq_true_eq,not_and]
theorem nY {l : List CallD} : ∀ {r seen : List Nat} {ho : List Int},mV l seen ho r = true → ∀ k ∈ r,∀ a ∈ seen,¬ (aL l k).end_ < (aL l a).begin_
 | [],_,_,_,k,hk,_,_ => by simp at hk
 | i :: r,seen,ho,h,k,hk,a,ha => by
  rw [mV,Bool.and_eq_true,Bool.and_eq_true,List.all_eq_true] at h
  rcases List.mem_cons.1 hk with rfl | hk
  · have := h.1 a ha
    simpa using this
  · exact nY h.2.2 k hk a (by simp [ha])
section
variable {l : List CallD} {tm : Int} {t : Nat} (hc : ∀ c ∈ l,bA tm c = true) (ht : tm < t)
include hc
theorem wN {i : Nat} (hi : i < l.length) : bA tm (aL l i) = true := by
 rw [aL,List.getD_eq_getElem?_getD,qA hi]; exact hc _ (qG hi)
include ht
theorem qN : ∀ {r seen : List Nat} {bits : Nat} {a b : List Int},(∀ k,bits.testBit k = true ↔ k ∈ seen) → hoR t a b → seen.Nodup →
 (∀ x ∈ seen,∀ k,k < l.length → k ∉ seen → ¬ (aL l k).end_ < (aL l x).begin_) → (hY l.length (eL l) (bits,a) r).isSome = true → (seen ++ r).Nodup ∧ (∀ i ∈ r,i < l.length) ∧ mV l seen b r = true
 | [],seen,bits,a,b,_,_,h3,_,_ => ⟨by simpa using h3,by simp,rfl⟩
 | i :: r,seen,bits,a,b,h1,h2,h3,h4,h5 => by
  rw [hY] at h5
  by_cases hi : i < l.length
  case neg => rw [if_neg hi] at h5; cases h5
  rw [if_pos hi,eL] at h5
  by_cases hb : bits.testBit i = true
  · simp only [hb,if_true] at h5; cases h5
  have hm : i ∉ seen := fun hm => hb ((h1 i).2 hm)
  simp only [hb,Bool.false_eq_true,if_false] at h5
  cases hL : hZ l bits i with
  | true => simp only [hL,if_true] at h5; cases h5
  | false =>
  simp only [hL,Bool.false_eq_true,if_false] at h5
  have hL := fB.1 hL
  obtain ⟨d1,d2⟩ := wJ h2 (wN hc hi) ht
  split at h5
  case isFalse => cases h5
  rename_i hres
  rw [Option.bind_some] at h5
  have hn : (seen ++ [i]).Nodup := by
   rw [List.nodup_append]
   exact ⟨h3,by simp,fun a ha b hb e => hm (by simp at hb; subst hb; subst e; exact ha)⟩
  have := qN (r := r) (seen := seen ++ [i]) (fun k => by rw [tD,Bool.or_eq_true,h1 k,decide_eq_true_eq,List.mem_append,List.mem_singleton]; exact or_congr Iff.rfl ⟨Eq.symm,Eq.symm⟩) d2 hn (fun x hx k hk hks => by
   rcases List.mem_append.1 hx with hx | hx
   · exact h4 x hx k hk (fun h => hks (by simp [h]))
   · simp at hx; subst hx
     refine hL k hk ?_
     cases hbk : bits.testBit k with
     | false => rfl
     | true => exact absurd ((h1 k).1 hbk) (fun h => hks (by simp [h]))) h5
  rw [List.append_assoc,List.singleton_append] at this
  refine ⟨this.1,fun j hj => ?_,?_⟩
  · rcases List.mem_cons.1 hj with rfl | hj
    · exact hi
    · exact this.2.1 j hj
  · rw [mV,Bool.and_eq_true,Bool.and_eq_true]
    refine ⟨List.all_eq_true.2 fun x hx => ?_,decide_eq_true (by rw [← d1]; exact hres),this.2.2⟩
    simpa using h4 x hx i hi hm
theorem qO : ∀ {r seen : List Nat} {bits : Nat} {a b : List Int},(∀ k,bits.testBit k = true ↔ k ∈ seen) → hoR t a b → (seen ++ r).Nodup → (∀ i ∈ r,i < l.length) →
 (∀ k,k < l.length → k ∈ seen ∨ k ∈ r) → mV l seen b r = true → (hY l.length (eL l) (bits,a) r).isSome = true
 | [],_,_,_,_,_,_,_,_,_,_ => rfl
 | i :: r,seen,bits,a,b,h1,h2,h3,h4,h5,h6 => by
  have hi := h4 i (by simp)
  have hm : i ∉ seen := fun hm => by
   rw [List.nodup_append] at h3
   exact h3.2.2 i hm i (by simp) rfl
  have h6' := h6
  rw [mV,Bool.and_eq_true,Bool.and_eq_true] at h6
  obtain ⟨d1,d2⟩ := wJ h2 (wN hc hi) ht
  have hb : bits.testBit i = false := by
   cases hb : bits.testBit i with
   | false => rfl
   | true => exact absurd ((h1 i).1 hb) hm
  have hL : hZ l bits i = false := fB.2 fun k hk hkb => by
   rcases h5 k hk with h | h
   · have := (h1 k).2 h; rw [hkb] at this; cases this
   · rcases List.mem_cons.1 h with rfl | h
     · have := wN hc hi
       simp only [bA,Bool.and_eq_true,decide_eq_true_eq] at this
       omega
     · exact nY h6.2.2 k h i (by simp)
  rw [hY,if_pos hi,eL]
  simp only [hb,hL,Bool.false_eq_true,if_false]
  rw [if_pos (by rw [d1]; exact of_decide_eq_true h6.2.1),Option.bind_some]
  exact qO (seen := seen ++ [i]) (fun k => by rw [tD,Bool.or_eq_true,h1 k,decide_eq_true_eq,List.mem_append,List.mem_singleton]; exact or_congr Iff.rfl ⟨Eq.symm,Eq.symm⟩) d2 (by rw [List.append_assoc,List.singleton_append]; exact h3) (fun j hj => h4 j (by simp [hj])) (fun k hk => by
   rcases h5 k hk with h | h
   · exact .inl (by simp [h])
   · rcases List.mem_cons.1 h with rfl | h
     · exact .inl (by simp)
     · exact .inr h) h6.2.2
theorem pathP {r : List Nat} (t4 : t ≤ 4) (hr : r.length = l.length) : (hY l.length (eL l) (0,cY 4) r).isSome = true ↔ goodO l t r := by
 have hz : ∀ k,Nat.testBit 0 k = true ↔ k ∈ ([] : List Nat) := by simp
 have hh : hoR t (cY 4) (cY t) := ⟨rfl,t4,by rw [cY,cY,List.take_replicate,Nat.min_eq_left t4]⟩
 constructor
 · intro h
   have := qN hc ht (seen := []) hz hh (by simp) (by simp) h
   exact ⟨by simpa using this.1,this.2⟩
 · rintro ⟨h1,h2,h3⟩
   exact qO hc ht (seen := []) hz hh (by simpa using h1) h2 (fun k hk => .inr (aA8 h1 h2 hr hk)) h3
end
end Go.Proofs.Ab
namespace Go.Proofs.Ab
open Go Go.Proofs
variable {w0 : World} {h : Heap}
attribute [local irreducible] ACall aR bR bD cI rvC lp rg dr ex un rv
theorem yY (z things : Int) {p : Pl} (hp : ∀ L,rd w0 (h ++ L) p = some (.int .i64 things)) : bD Tryz.prog w0 131 [.int .i64 z,.ptr p] h (.bool (inB z 0 (wi (things - 1)))) h := by
 refine bH aZ rF vT vS (qE rfl) (by simp [AV.bdd,AV.bdds]) fun hb ha => bB ?_
 have hp' := hp []
 rw [List.append_nil] at hp'
 simp only [go_sem,mf131,hp,hp']
 refine aK (rK z 0 (wi (things - 1))).v ?_
 simp only [go_sem]
theorem aDR (c : CallD) (things : Int) {p q : Pl} (hq : ∀ L,rd w0 (h ++ L) q = some (.fn (.func 131) [] [.ptr p])) (hp : ∀ L,rd w0 (h ++ L) p = some (.int .i64 things)) : bD Tryz.prog w0 133 [.agg c.c,.ptr q] h (.bool (bA (wi (things - 1)) c)) h := by
 refine bH aZ rD vP vO (qE rfl) (by simp [AV.bdd,AV.bdds]) fun hb ha => bB ?_
 obtain ⟨ob,hob⟩ : ∃ ob,cU (wi (things - 1)) c = ob := ⟨_,rfl⟩
 have hcb : bA (wi (things - 1)) c = (inB c.who 0 3 && (decide (c.kind ≥ 1) && (decide (c.kind ≤ 4) && (inB c.thing 0 (wi (things - 1)) && (ob && (decide (c.begin_ ≥ 0) && (decide (c.begin_ < c.end_) && (decide (c.end_ ≤ 1000) && inB c.result (-1) 3)))))))) := by rw [bA,hob]
 rw [hcb]
 clear hcb
 have th : ∀ (z : Int) (L : Heap),cI Tryz.prog w0 (.fn (.func 131) [] [.ptr p]) [.int .i64 z] (h ++ L) (.bool (inB z 0 (wi (things - 1)))) (h ++ L) := fun z L =>
  bD.vc (P := Tryz.prog) (first := []) (capt := [.ptr p]) (yY (h := h ++ L) z things fun L2 => by rw [List.append_assoc]; exact hp _)
 by_cases k4 : c.kind = 4
 · rw [cU,if_pos k4] at hob
   simp only [go_sem,mf133,hq,hp,k4]
   refine aK (th c.other _) ?_
   cases e1 : inB c.other 0 (wi (things - 1)) with
   | false =>
    rw [e1,Bool.false_and] at hob
    subst hob
    simp only [go_sem]
    refine aK (rK c.who 0 3).v ?_
    cases c1 : inB c.who 0 3 with
    | false => simp only [go_sem]; simp [c1]
    | true =>
    have c2 : c.kind ≥ 1 := by omega
    have c3 : c.kind ≤ 4 := by omega
    simp only [go_sem,hq]
    refine aK (th c.thing _) ?_
    cases c4 : inB c.thing 0 (wi (things - 1)) with
    | false => simp only [go_sem]; simp [c4]
    | true =>
    simp only [go_sem]; simp
   | true =>
    rw [e1,Bool.true_and] at hob
    have e2 : (c.other != c.thing) = ob := by rw [← hob]; by_cases q : c.other = c.thing <;> simp [q]
    simp only [go_sem,e2]
    refine aK (rK c.who 0 3).v ?_
    cases c1 : inB c.who 0 3 with
    | false => simp only [go_sem]; simp [c1]
    | true =>
    have c2 : c.kind ≥ 1 := by omega
    have c3 : c.kind ≤ 4 := by omega
    simp only [go_sem,hq]
    refine aK (th c.thing _) ?_
    cases c4 : inB c.thing 0 (wi (things - 1)) with
    | false => simp only [go_sem]; simp [c4]
    | true =>
    cases ob with
    | false => simp only [go_sem]; simp
    | true =>
    by_cases c5 : c.begin_ ≥ 0
    case neg => simp only [go_sem,c5]; simp [c5]
    by_cases c6 : c.begin_ < c.end_
    case neg => simp only [go_sem,c5,c6]; simp [c6]
    by_cases c7 : c.end_ ≤ 1000
    case neg => simp only [go_sem,c5,c6,c7]; simp [c7]
    simp only [go_sem,c5,c6,c7]
    refine aK (rK c.result (-1) 3).v ?_
    cases c8 : inB c.result (-1) 3 with
    | false => simp only [go_sem]; simp [c8]
    | true => simp only [go_sem]; simp [c2,c3,c5,c6,c7]
 · rw [cU,if_neg k4] at hob
   have e2 : (c.other == 0) = ob := by rw [← hob]; by_cases q : c.other = 0 <;> simp [q]
   simp only [go_sem,mf133,hq,hp,k4,e2]
   refine aK (rK c.who 0 3).v ?_
   cases c1 : inB c.who 0 3 with
   | false => simp only [go_sem]; simp [c1]
   | true =>
   by_cases c2 : c.kind ≥ 1
   case neg => simp only [go_sem,c2]; simp [c2]
   by_cases c3 : c.kind ≤ 4
   case neg => simp only [go_sem,c2,c3]; simp [c3]
   simp only [go_sem,c2,c3,hq]
   refine aK (th c.thing _) ?_
   cases c4 : inB c.thing 0 (wi (things - 1)) with
   | false => simp only [go_sem]; simp [c4]
   | true =>
   cases ob with
   | false => simp only [go_sem]; simp
   | true =>
   by_cases c5 : c.begin_ ≥ 0
   case neg => simp only [go_sem,c5]; simp [c5]
   by_cases c6 : c.begin_ < c.end_
   case neg => simp only [go_sem,c5,c6]; simp [c6]
   by_cases c7 : c.end_ ≤ 1000
   case neg => simp only [go_sem,c5,c6,c7]; simp [c7]
   simp only [go_sem,c5,c6,c7]
   refine aK (rK c.result (-1) 3).v ?_
   cases c8 : inB c.result (-1) 3 with
   | false => simp only [go_sem]
   | true => simp only [go_sem]
def CL (w0 : World) (h : Heap) (v : AV) (l : List CallD) : Prop := Sl w0 h 7 v (l.map CallD.c)
theorem CL.sub {H : Heap} {v : AV} {l : List CallD} (s : CL w0 h v l) (t : aH h H) : CL w0 H v l := Sl.sub s t
theorem CL.app {L : Heap} {v : AV} {l : List CallD} (s : CL w0 h v l) : CL w0 (h ++ L) v l := Sl.app s
theorem CL.len {v : AV} {l : List CallD} (s : CL w0 h v l) : kP v = some (.int .i64 l.length) := by
 have := (Sl.use s).1; rwa [List.length_map] at this
theorem fJ {l : List CallD} {j : Nat} (hj : j < l.length) : (l.map CallD.c)[j]? = some l[j].c := by rw [List.getElem?_map,qA hj]; rfl
def cH (things : Int) (l : List CallD) : Int := if 7 < l.length then 3 else if eV things l then 0 else 2
theorem rT {v : AV} {l : List CallD} (things : Int) (hv : CL w0 h v l) : bD Tryz.prog w0 98 [.int .i64 things,v] h (.int .i64 (cH things l)) h := by
 refine bH aZ uU aAh aAg (qE rfl) (by simp [AV.bdd,AV.bdds]) fun hb ha => bB ?_
 have hlen := hv.len
 by_cases q : (l.length : Int) > 7
 · simp only [go_sem,mf98,hlen,q]
   rw [cH,if_pos (by omega)]
 simp only [go_sem,mf98,hlen,q]
 have hall := mW (w0 := w0) (h := h ++ [some (.row [.int .i64 things]),some (.row [.fn (.func 131) [] [.ptr (.own h.length 0)]])]) (l.map CallD.c) v (.fn (.func 133) [] [.ptr (.own (h.length + 1) 0)]) (fun j => bA (wi (things - 1)) (aL l j)) (Sl.app hv) (fun c hc => by
  obtain ⟨x,_,rfl⟩ := List.mem_map.1 hc; rfl) (by rw [List.length_map]; omega) (fun j c hc _ L => by
  have hj := aF hc
  rw [List.length_map] at hj
  rw [fJ hj] at hc
  cases hc
  have : aL l j = l[j] := by rw [aL,List.getD_eq_getElem?_getD,qA hj]; rfl
  rw [this]
  refine bD.vc (P := Tryz.prog) (first := []) (capt := [.ptr (.own (h.length + 1) 0)]) (aDR (p := .own h.length 0) l[j] things (fun L2 => ?_) (fun L2 => ?_))
  · rw [List.append_assoc,List.append_assoc,rd,qI (by omega),show h.length + 1 - h.length = 1 by omega]; rfl
  · rw [List.append_assoc,List.append_assoc,rd,qI (by omega),Nat.sub_self]; rfl)
 rw [List.length_map] at hall
 have hr : ((List.range l.length).all fun j => bA (wi (things - 1)) (aL l j)) = l.all (bA (wi (things - 1))) := by
  rw [Bool.eq_iff_iff,List.all_eq_true,List.all_eq_true]
  constructor
  · intro a x hx
    obtain ⟨j,hj,rfl⟩ := List.getElem_of_mem hx
    have := a j (List.mem_range.2 hj)
    rwa [aL,List.getD_eq_getElem?_getD,qA hj] at this
  · intro a j hj
    have hj := List.mem_range.1 hj
    rw [aL,List.getD_eq_getElem?_getD,qA hj]
    exact a _ (qG hj)
 rw [hr] at hall
 refine aK hall.v ?_
 simp only [go_sem]
 refine aK (rK things 1 4).v ?_
 rw [cH,if_neg (by omega),eV]
 cases c1 : inB things 1 4 with
 | false => simp only [go_sem]; rfl
 | true =>
  cases c2 : l.all (bA (wi (things - 1))) with
  | false => simp only [go_sem]
  | true => simp only [go_sem]
end Go.Proofs.Ab
namespace Go.Proofs.Ab
open Go Go.Proofs
variable {w : World} {h : Heap} {cs : List Value}
def aBk : Rw := .int (.int (.int (.int (.int (.int (.int .nil))))))
theorem aBj {v : Value} (g : Gd w (.sl aBk .nil) [v]) : ∃ l : List CallD,CL w h (inj v) l ∧ l.length ≤ 9223372036854775807 := by
 obtain ⟨_,_,e,h,rfl⟩ := g
 cases e
 exact pZ CallD.c rfl h fun _ g => by
  obtain ⟨a,_,rfl,_,b,_,rfl,_,c,_,rfl,_,d,_,rfl,_,e,_,rfl,_,f,_,rfl,_,k,_,rfl,_,rfl⟩ := g
  exact ⟨⟨a,b,c,d,e,f,k⟩,rfl⟩
end Go.Proofs.Ab
namespace Go.Proofs.Ab
open Go Go.Proofs
variable {w0 : World} {h : Heap}
attribute [local irreducible] ACall aR bR bD cI rvC lp rg dr ex un rv
def cP : List (AV × AV) := [(.int .i64 1,.fn (.func 134) [] []),(.int .i64 2,.fn (.func 135) [] []),(.int .i64 3,.fn (.func 136) [] []),(.int .i64 4,.fn (.func 137) [] [])]
theorem iZ {es : List (AV × AV)} {k v : AV} {sh : Bool × List Bool} (h1 : keq sh k k = some true) (h2 : dS sh k es 0 = some none) : lN (h ++ [some (.map es)]) sh (.map h.length) k v = some (.undef,h ++ [some (.map (es ++ [(k,v)]))]) := by
 simp only [lN]
 rw [if_neg (by rw [h1]; simp),qI (Nat.le_refl _),Nat.sub_self]
 simp only [List.getElem?_cons_zero,h2]
 rw [List.set_append_right _ _ (Nat.le_refl _),Nat.sub_self]; rfl
theorem wB : ACall Tryz.prog w0 99 [] h fun y H => y = .map h.length ∧ H = h ++ [some (.map cP)] := by
 refine dG aZ uT aAf aAe (qE rfl) fun hb ha => bB ?_
 simp only [go_sem,mf99]
 rw [iZ rfl rfl]
 simp only [go_sem,List.nil_append]
 rw [iZ rfl rfl]
 simp only [go_sem,List.cons_append,List.nil_append]
 rw [iZ rfl rfl]
 simp only [go_sem,List.cons_append,List.nil_append]
 rw [iZ rfl rfl]
 simp only [go_sem,List.cons_append,List.nil_append]
 have hbh : HB (h ++ [some (.map cP)]) := uB hb (cM.2 ⟨fun e he => by
  simp only [cP,List.mem_cons,List.not_mem_nil,or_false] at he
  rcases he with rfl | rfl | rfl | rfl <;> exact ⟨trivial,by simp [AV.bdd,AV.bdds]⟩,cX.2 trivial⟩)
 exact ⟨_,[],(List.append_nil _).symm,by simp,hbh,by simp [AV.bdd,Pl.bdd],rfl⟩
theorem mI (b : Bool) : bD Tryz.prog w0 146 [.bool b] h (.int .i64 (if b = true then 1 else 0)) h := by
 refine bH aZ qY vF vE (qE rfl) (by simp [AV.bdd,AV.bdds]) fun hb ha => bB ?_
 cases b <;> simp only [go_sem,mf146] <;> rfl
def DoK (h : Heap) (d : Int) (ho : List Int) (c : CallD) (b : Nat) (y : AV) (H : Heap) : Prop :=
 y = .int .i64 (doD ho c).2 ∧ aH (h.set b none) (H.set b none) ∧ H[b]? = some (some (.row (aE (d :: (doD ho c).1))))
section
variable {c : CallD} {d : Int} {ho : List Int} {b : Nat} (hbx : h[b]? = some (some (.row (aE (d :: ho))))) (hl : ho.length = 4) (hth : 0 ≤ c.thing ∧ c.thing < 4)
include hbx hl hth
theorem take_c (hk : c.kind = 1) : ACall Tryz.prog w0 134 [.ptr (.own b 1),.agg c.c] h (DoK h d ho c b) := by
 refine aX aZ rC vN vM (qE rfl) fun hb ha => bB ?_
 obtain ⟨t,ht⟩ : ∃ t : Nat,c.thing = t := ⟨c.thing.toNat,by omega⟩
 have t4 : t < 4 := by omega
 have hbl : b < h.length := aF hbx
 have g1 : (aE (d :: ho))[1 + t]? = some (.int .i64 (ho.getD t 0)) := by
  rw [jC (by simp; omega),Nat.add_comm,List.getD_cons_succ]
 have g2 : 1 + (t + 1) ≤ (aE (d :: ho)).length := by rw [bC,List.length_cons]; omega
 by_cases q : ho.getD t 0 = -1
 · have hd : doD ho c = (ho.set t c.who,1) := by rw [doD,if_pos hk,ht,Int.toNat_natCast,if_pos q]
   simp only [go_sem,mf134,ht,cG,t4,xL hbx,Nat.mul_one,g1,q,Nat.add_assoc,g2]
   rw [← Nat.add_assoc,eF (by simp; omega)]
   refine aK (mI true).v ?_
   simp only [go_sem]
   refine ⟨by rw [hd],?_,?_⟩
   · rw [List.set_set]; exact (aH.refl.app).set b
   · rw [qF (by simp; omega),hd,Nat.add_comm,List.set_cons_succ]
 · have hd : doD ho c = (ho,0) := by rw [doD,if_pos hk,ht,Int.toNat_natCast,if_neg q]
   have q' : (ho.getD t 0 == -1) = false := by simpa using q
   simp only [go_sem,mf134,ht,cG,t4,xL hbx,Nat.mul_one,g1,q,q']
   refine aK (mI false).v ?_
   simp only [go_sem]
   refine ⟨by rw [hd],(aH.refl.app).set b,?_⟩
   rw [hd]; exact xL hbx _
theorem aDM (hk : c.kind = 2) : ACall Tryz.prog w0 135 [.ptr (.own b 1),.agg c.c] h (DoK h d ho c b) := by
 refine aX aZ rB vL vK (qE rfl) fun hb ha => bB ?_
 obtain ⟨t,ht⟩ : ∃ t : Nat,c.thing = t := ⟨c.thing.toNat,by omega⟩
 have t4 : t < 4 := by omega
 have hbl : b < h.length := aF hbx
 have g1 : (aE (d :: ho))[1 + t]? = some (.int .i64 (ho.getD t 0)) := by
  rw [jC (by simp; omega),Nat.add_comm,List.getD_cons_succ]
 have g2 : 1 + (t + 1) ≤ (aE (d :: ho)).length := by rw [bC,List.length_cons]; omega
 have hd0 : doD ho c = if ho.getD t 0 = c.who then (ho.set t (-1),1) else (ho,0) := by rw [doD,if_neg (by omega),if_pos hk,ht]; rfl
 by_cases q : ho.getD t 0 = c.who
 · have hd : doD ho c = (ho.set t (-1),1) := by rw [hd0,if_pos q]
   simp only [go_sem,mf135,ht,cG,t4,xL hbx,Nat.mul_one,g1,q,Nat.add_assoc,g2,beq_self_eq_true]
   rw [← Nat.add_assoc,eF (by simp; omega)]
   refine aK (mI true).v ?_
   simp only [go_sem]
   refine ⟨by rw [hd],?_,?_⟩
   · rw [List.set_set]; exact (aH.refl.app).set b
   · rw [qF (by simp; omega),hd,Nat.add_comm,List.set_cons_succ]
 · have hd : doD ho c = (ho,0) := by rw [hd0,if_neg q]
   have q' : (ho.getD t 0 == c.who) = false := by simpa using q
   simp only [go_sem,mf135,ht,cG,t4,xL hbx,Nat.mul_one,g1,q,q']
   refine aK (mI false).v ?_
   simp only [go_sem]
   refine ⟨by rw [hd],(aH.refl.app).set b,?_⟩
   rw [hd]; exact xL hbx _
theorem ask_c (hk : c.kind = 3) : ACall Tryz.prog w0 136 [.ptr (.own b 1),.agg c.c] h (DoK h d ho c b) := by
 refine aX aZ rA vJ vI (qE rfl) fun hb ha => bB ?_
 obtain ⟨t,ht⟩ : ∃ t : Nat,c.thing = t := ⟨c.thing.toNat,by omega⟩
 have t4 : t < 4 := by omega
 have g1 : (aE (d :: ho))[1 + t]? = some (.int .i64 (ho.getD t 0)) := by
  rw [jC (by simp; omega),Nat.add_comm,List.getD_cons_succ]
 have hd : doD ho c = (ho,ho.getD t 0) := by rw [doD,if_neg (by omega),if_neg (by omega),if_pos hk,ht]; rfl
 simp only [go_sem,mf136,ht,cG,t4,xL hbx,Nat.mul_one,g1]
 refine ⟨by rw [hd],(aH.refl.app).set b,?_⟩
 rw [hd]; exact xL hbx _
theorem move_c (hk : c.kind = 4) (hoth : 0 ≤ c.other ∧ c.other < 4) (hne : c.other ≠ c.thing) : ACall Tryz.prog w0 137 [.ptr (.own b 1),.agg c.c] h (DoK h d ho c b) := by
 refine aX aZ qZ vH vG (qE rfl) fun hb ha => bB ?_
 obtain ⟨t,ht⟩ : ∃ t : Nat,c.thing = t := ⟨c.thing.toNat,by omega⟩
 obtain ⟨u,hu⟩ : ∃ u : Nat,c.other = u := ⟨c.other.toNat,by omega⟩
 have t4 : t < 4 := by omega
 have u4 : u < 4 := by omega
 have hbl : b < h.length := aF hbx
 have g1 : (aE (d :: ho))[1 + t]? = some (.int .i64 (ho.getD t 0)) := by
  rw [jC (by simp; omega),Nat.add_comm,List.getD_cons_succ]
 have g1u : (aE (d :: ho))[1 + u]? = some (.int .i64 (ho.getD u 0)) := by
  rw [jC (by simp; omega),Nat.add_comm,List.getD_cons_succ]
 have g2 : 1 + (t + 1) ≤ (aE (d :: ho)).length := by rw [bC,List.length_cons]; omega
 have hd0 : doD ho c = if ho.getD t 0 = c.who ∧ ho.getD u 0 = -1 then ((ho.set t (-1)).set u c.who,1) else (ho,0) := by
  rw [doD,if_neg (by omega),if_neg (by omega),if_neg (by omega),if_pos hk,ht,hu]; rfl
 have no : ¬ (ho.getD t 0 = c.who ∧ ho.getD u 0 = -1) → doD ho c = (ho,0) := fun q => by rw [hd0,if_neg q]
 by_cases q : ho.getD t 0 = c.who
 · by_cases q2 : ho.getD u 0 = -1
   · have hd : doD ho c = ((ho.set t (-1)).set u c.who,1) := by rw [hd0,if_pos ⟨q,q2⟩]
     simp only [go_sem,mf137,ht,hu,cG,t4,u4,xL hbx,Nat.mul_one,g1,g1u,q,q2,beq_self_eq_true]
     refine wI aZ [0,1,2,3,4,5,6,7,8,9,10,11,12,13] [o_ 25 (m_ 0),o_ 26 (.addr (.t 3) 2),o_ 27 (l_ 26),o_ 28 (m_ 0),o_ 29 (.addr (.t 3) 3),o_ 30 (l_ 29),o_ 31 (.addr (.t 3) 0),o_ 32 (l_ 31),o_ 33 (.nilck (.t 25)),o_ 34 (.idxa 4 1 (.t 33) (.t 27)),.op none none (.store (.t 34) (i_ (-1)) 1)] [([(5,o_ 30 (l_ 29)),(7,o_ 32 (l_ 31))],[o_ 35 (.nilck (.t 28)),o_ 36 (.idxa 4 1 (.t 35) (.t 30)),.op none none (.store (.t 36) (.t 32) 1)])] rfl rfl (by kernel_rfl) ?_
     have x0 : ∀ R X,(List.set (h ++ [some (Blk.row R)]) b X)[h.length]? = some (some (Blk.row R)) := fun R X => by rw [qB (by omega),qI (Nat.le_refl _),Nat.sub_self]; rfl
     have x1 : ∀ L X,(List.set (h ++ L) b X)[b]? = some X := fun L X => by rw [qF (by simp; omega)]
     have g3 : 1 + (t + 1) ≤ (aE (d :: ho)).length := by rw [bC,List.length_cons]; omega
     have p1 : (aE (d :: ho)).take (1 + t) ++ .int .i64 (-1) :: (aE (d :: ho)).drop (1 + (t + 1)) = aE (d :: ho.set t (-1)) := by rw [← Nat.add_assoc,eF (by simp; omega),Nat.add_comm,List.set_cons_succ]
     have g4 : 1 + (u + 1) ≤ (aE (d :: ho.set t (-1))).length := by rw [bC,List.length_cons,List.length_set]; omega
     have p2 : (aE (d :: ho.set t (-1))).take (1 + u) ++ .int .i64 c.who :: (aE (d :: ho.set t (-1))).drop (1 + (u + 1)) = aE (d :: (ho.set t (-1)).set u c.who) := by rw [← Nat.add_assoc,eF (by simp; omega),Nat.add_comm,List.set_cons_succ]
     simp only [go_sem,ht,hu,cG,t4,u4,xL hbx,Nat.mul_one,g3,p1,x0,x1,g4,p2]
     refine aK (mI true).v ?_
     simp only [go_sem]
     refine ⟨by rw [hd],?_,?_⟩
     · rw [List.set_set,List.set_set]; exact (aH.refl.app).set b
     · rw [qF (by simp; omega),hd]
   · have hd := no fun x => q2 x.2
     have q2' : (ho.getD u 0 == -1) = false := by simpa using q2
     simp only [go_sem,mf137,ht,hu,cG,t4,u4,xL hbx,Nat.mul_one,g1,g1u,q,q2,q2',beq_self_eq_true]
     refine aK (mI false).v ?_
     simp only [go_sem]
     refine ⟨by rw [hd],(aH.refl.app).set b,?_⟩
     rw [hd]; exact xL hbx _
 · have hd := no fun x => q x.1
   have q' : (ho.getD t 0 == c.who) = false := by simpa using q
   simp only [go_sem,mf137,ht,hu,cG,t4,xL hbx,Nat.mul_one,g1,q,q']
   refine aK (mI false).v ?_
   simp only [go_sem]
   refine ⟨by rw [hd],(aH.refl.app).set b,?_⟩
   rw [hd]; exact xL hbx _
end
theorem tG {H : Heap} {dm : Nat} (hd : H[dm]? = some (some (.map cP))) (k : Int) (hk : k = 1 ∨ k = 2 ∨ k = 3 ∨ k = 4) :
 kF H (false,[true]) .nilF false (.map dm) (.int .i64 k) = some (.fn (.func (if k = 1 then 134 else if k = 2 then 135 else if k = 3 then 136 else 137)) [] []) := by
 simp only [kF,hd]
 rcases hk with rfl | rfl | rfl | rfl <;> rfl
theorem do_c {c : CallD} {tm d : Int} {ho : List Int} {b : Nat} (hbx : h[b]? = some (some (.row (aE (d :: ho))))) (hl : ho.length = 4) (hc : bA tm c = true) (htm : tm < 4) :
 aR Tryz.prog w0 (.fn (.func (if c.kind = 1 then 134 else if c.kind = 2 then 135 else if c.kind = 3 then 136 else 137)) [] []) [.ptr (.own b 1),.agg c.c] h (DoK h d ho c b) := by
 simp only [bA,inB,Bool.and_eq_true,decide_eq_true_eq] at hc
 obtain ⟨_,k1,k4,⟨t0,t1⟩,hoB,_⟩ := hc
 rcases (by omega : c.kind = 1 ∨ c.kind = 2 ∨ c.kind = 3 ∨ c.kind = 4) with k | k | k | k
 · rw [if_pos k]; exact ACall.vc (first := []) (capt := []) (take_c hbx hl ⟨t0,by omega⟩ k)
 · rw [if_neg (by omega),if_pos k]; exact ACall.vc (first := []) (capt := []) (aDM hbx hl ⟨t0,by omega⟩ k)
 · rw [if_neg (by omega),if_neg (by omega),if_pos k]; exact ACall.vc (first := []) (capt := []) (ask_c hbx hl ⟨t0,by omega⟩ k)
 · rw [if_neg (by omega),if_neg (by omega),if_neg (by omega)]
   rw [cU,if_pos k] at hoB
   simp only [inB,Bool.and_eq_true,decide_eq_true_eq] at hoB
   exact ACall.vc (first := []) (capt := []) (move_c hbx hl ⟨t0,by omega⟩ k ⟨hoB.1.1,by omega⟩ hoB.2)
def kE (l : List CallD) (bits : Nat) (ho : List Int) (i : Nat) : List AV :=
 if hZ l bits i = true then [.agg (aE ((bits : Int) :: ho)),.bool false]
 else if (doD ho (aL l i)).2 = (aL l i).result then [.agg (aE (((bits ||| 2 ^ i : Nat) : Int) :: (doD ho (aL l i)).1)),.bool true]
 else [.agg (aE ((bits : Int) :: (doD ho (aL l i)).1)),.bool false]
theorem oF {a n : Nat} : ((a / 2 ^ n % 2 : Nat) : Int) = if a.testBit n = true then 1 else 0 := by
 rw [Nat.testBit_eq_decide_div_mod_eq]
 by_cases q : a / 2 ^ n % 2 = 1
 · simp [q]
 · have : a / 2 ^ n % 2 = 0 := by omega
   simp [this]
theorem aAd {cv : AV} {l : List CallD} {dm : Nat} {tm : Int} {bits i : Nat} {ho : List Int} (hv : CL w0 h cv l) (hd : h[dm]? = some (some (.map cP))) (hall : ∀ c ∈ l,bA tm c = true) (htm : tm < 4) (hn : l.length ≤ 7) (hi : i < l.length) (hb7 : bits < 2 ^ 7) (hl : ho.length = 4) :
 bD Tryz.prog w0 101 [.agg [cv,.map dm],.agg (aE ((bits : Int) :: ho)),.int .i64 i] h (.tup (kE l bits ho i)) h := by
 refine fS (by unfold kE; repeat' split <;> simp [AV.bdd,AV.bdds]) (aX aZ rG vV vU (qE rfl) fun hb ha => bB ?_)
 have o := Sl.one hv
 have hlen := hv.len
 have vb := Sl.bdd hv (Nat.le_refl _)
 have c5 : (aE ((bits : Int) :: ho)).length = 5 := by rw [bC,List.length_cons,hl]
 have t5 : (aE ((bits : Int) :: ho)).take 5 = aE ((bits : Int) :: ho) := List.take_of_length_le (by omega)
 simp only [go_sem,mf101,o.1,o.2,cQ,c5,t5,hlen]
 have hib : (i : Int) < l.length := by omega
 obtain ⟨_,q,hix,hrow,_⟩ := Sl.use hv
 rw [List.length_map] at hix
 have hci : aL l i = l[i] := by rw [aL,List.getD_eq_getElem?_getD,qA hi]; rfl
 have bi := wN hall hi
 have i1 := hix i hi
 have ri := hrow i _ (fJ hi)
 have ri' : ∀ L,rdn w0 (h ++ L) (q.add (i * 7)) 7 = some l[i].c := fun L => eM ri
 have ri4 : ∀ L,rd w0 (h ++ L) ((q.add (i * 7)).add 4) = some (.int .i64 l[i].begin_) := fun L => oM (sV ri (o := 4) rfl)
 obtain ⟨X,eX⟩ : ∃ X,X = h ++ [some (Blk.row [cv,AV.map dm]),some (Blk.row (aE ((bits : Int) :: ho))),some (Blk.row [AV.int .i64 0,AV.int .i64 0,AV.int .i64 0,AV.int .i64 0,AV.int .i64 0])] := ⟨_,rfl⟩
 have hb62 : bits < 2 ^ 62 := by omega
 have b0 : (aE ((bits : Int) :: ho))[0]? = some (.int .i64 bits) := rfl
 have hlate : hZ l bits i = true ↔ ∃ k,k < l.length ∧ bits.testBit k = false ∧ (aL l k).end_ < (aL l i).begin_ := by
  constructor
  · intro e
    apply Classical.byContradiction
    intro hno
    rw [fB.2 fun k hk hb he => hno ⟨k,hk,hb,he⟩] at e; cases e
  · rintro ⟨k,h1,h2,h3⟩
    cases e : hZ l bits i with
    | true => rfl
    | false => exact absurd h3 (fB.1 e k h1 h2)
 have hdl := aF hd
 have d5 : (aE ((bits : Int) :: ho)).drop 5 = [] := List.drop_of_length_le (by omega)
 have hIB : ∀ N,AV.bdds N (aE ((bits : Int) :: ho)) := fun N => rI N _
 refine oU (fun j => [(2,.int .i64 i),(3,.ptr (.own h.length 0)),(4,.ptr (.own (h.length + 1) 0)),(6,.ptr (.own (h.length + 2) 0)),(12,cv),(13,.int .i64 l.length),(14,.int .i64 j)]) (fun j => bits.testBit j = false → ¬ (aL l j).end_ < (aL l i).begin_) l.length rfl (fun j hj hok ih => ?_) (fun hok => ?_)
 · refine bI aZ sD [2,3,4,6,12,13,14] L101_0.eq_1 ?_
   have e1 : (j : Int) < l.length := by omega
   have hcj : aL l j = l[j] := by rw [aL,List.getD_eq_getElem?_getD,qA hj]; rfl
   have j1 := hix j hj
   have rj : ∀ L,rdn w0 (h ++ L) (q.add (j * 7)) 7 = some l[j].c := fun L => eM (hrow j _ (fJ hj))
   have s1 := pF (a := bits) (n := j) (by omega)
   have s2 := mJ (a := bits / 2 ^ j) (by have := Nat.div_le_self bits (2 ^ j); omega)
   rw [oF] at s2
   rw [hci,hcj] at ih
   cases hbt : bits.testBit j with
   | true =>
    rw [hbt,if_pos rfl] at s2
    simp only [go_sem,e1,j1,rj,b0,s1,s2]
    refine ⟨(by unfold I64; omega),fO 3 hb (by simp [cM,cS,cX,dR,eW,dJ,AV.bdds,AV.bdd,Pl.bdd,cA]; exact ⟨AV.bdd_mono (by omega) _ vb,by omega⟩) (by simp [cM,cS,cX,dR,eW,dJ,AV.bdds,AV.bdd,Pl.bdd,cA]; exact AV.bdd_mono (by omega) _ vb) ?_⟩
    exact ih fun e => by rw [hbt] at e; cases e
   | false =>
    rw [hbt,if_neg (by simp)] at s2
    by_cases q1 : l[j].end_ < l[i].begin_
    · simp only [go_sem,e1,j1,rj,b0,s1,s2,i1,ri4,q1,c5,t5,d5,cQ,List.append_nil,List.take_zero,List.nil_append]
      refine ⟨aH.refl.app,?_⟩
      rw [kE,if_pos (hlate.2 ⟨j,hj,hbt,by rw [hci,hcj]; exact q1⟩)]
    · simp only [go_sem,e1,j1,rj,b0,s1,s2,i1,ri4,q1]
      refine ⟨(by unfold I64; omega),fO 3 hb (by simp [cM,cS,cX,dR,eW,dJ,AV.bdds,AV.bdd,Pl.bdd,cA]; exact ⟨AV.bdd_mono (by omega) _ vb,by omega⟩) (by simp [cM,cS,cX,dR,eW,dJ,AV.bdds,AV.bdd,Pl.bdd,cA]; exact AV.bdd_mono (by omega) _ vb) ?_⟩
      exact ih fun _ => q1
 · have hnl : ¬ hZ l bits i = true := fun e => by
    obtain ⟨k,h1,h2,h3⟩ := hlate.1 e
    exact hok k h1 h2 h3
   refine bI aZ sD [2,3,4,6,12,13,14] L101_0.eq_1 ?_
   have e1 : ¬ (l.length : Int) < l.length := by omega
   simp only [go_sem,e1,i1,ri']
   refine wI aZ [0,1,2,3,5,6,8,9,4,7,10] [o_ 43 (.addr (.t 3) 1),o_ 44 (l_ 43),o_ 45 (.addr (.t 10) 1),o_ 46 (l_ 45),o_ 48 (.addr (.t 4) 1),o_ 49 (.load (.t 10) (some 7)),o_ 51 (.addr (.t 10) 6),o_ 52 (l_ 51),o_ 47 (.look (false,[true]) .nilF false (.t 44) (.t 46))] [([(5,o_ 49 (.load (.t 10) (some 7))),(7,o_ 52 (l_ 51))],[.call (some 50) none (.t 47) [(.t 48),(.t 49)]]),([(7,o_ 52 (l_ 51))],[o_ 53 (.bin .neq (.t 50) (.t 52))])] rfl rfl (by kernel_rfl) ?_
   have hk : l[i].kind = 1 ∨ l[i].kind = 2 ∨ l[i].kind = 3 ∨ l[i].kind = 4 := by
    have := bi
    rw [hci] at this
    simp only [bA,Bool.and_eq_true,decide_eq_true_eq] at this
    omega
   have lk : ∀ L,kF (h ++ L) (false,[true]) .nilF false (.map dm) (.int .i64 l[i].kind) = _ := fun L => tG (xL hd L) l[i].kind hk
   simp only [go_sem,lk]
   obtain ⟨Y,eY⟩ : ∃ Y,Y = h ++ [some (Blk.row [cv,AV.map dm]),some (Blk.row (aE ((bits : Int) :: ho))),some (Blk.row [AV.int .i64 0,AV.int .i64 0,AV.int .i64 0,AV.int .i64 0,AV.int .i64 0]),some (Blk.row l[i].c)] := ⟨_,rfl⟩
   have y1 : Y[h.length + 1]? = some (some (.row (aE ((bits : Int) :: ho)))) := by rw [eY,qI (by omega),show h.length + 1 - h.length = 1 by omega]; rfl
   have y2 : Y[h.length + 2]? = some (some (.row [AV.int .i64 0,AV.int .i64 0,AV.int .i64 0,AV.int .i64 0,AV.int .i64 0])) := by rw [eY,qI (by omega),show h.length + 2 - h.length = 2 by omega]; rfl
   have y3 : Y[h.length + 3]? = some (some (.row l[i].c)) := by rw [eY,qI (by omega),show h.length + 3 - h.length = 3 by omega]; rfl
   have sY : aH h Y := eY ▸ aH.refl.app
   have hD := do_c (w0 := w0) (b := h.length + 1) (c := l[i]) y1 hl (hci ▸ bi) htm
   rw [eY] at hD
   refine aV hD ?_
   rw [← eY]
   rintro y H ⟨rfl,hs,hb1⟩
   have hne1 : h.length + 1 ≠ h.length + 2 := by omega
   have hne2 : h.length + 1 ≠ h.length + 3 := by omega
   have z2 := hs.keep hne1 y2
   have z3 := hs.keep hne2 y3
   have sH : aH h H := ⟨by have := hs.len; have := sY.1; omega,fun j b e => hs.keep (by have := aF e; omega) (sY.2 j b e)⟩
   have hho := oX (ho := ho) (c := l[i])
   obtain ⟨⟨ho',res⟩,hr⟩ : ∃ r,r = doD ho l[i] := ⟨_,rfl⟩
   rw [← hr] at hb1 hho ⊢
   simp only at hb1 hho ⊢
   have c5' : (aE ((bits : Int) :: ho')).length = 5 := by rw [bC,List.length_cons,hho,hl]
   have t5' : (aE ((bits : Int) :: ho')).take 5 = aE ((bits : Int) :: ho') := List.take_of_length_le (by omega)
   have d5' : (aE ((bits : Int) :: ho')).drop 5 = [] := List.drop_of_length_le (by omega)
   have b0' : (aE ((bits : Int) :: ho'))[0]? = some (.int .i64 bits) := rfl
   by_cases q2 : res = l[i].result
   · have s1 := aBl (n := i) (by omega)
     have hp7 : 2 ^ i < 2 ^ 7 := Nat.pow_lt_pow_right (by omega) (by omega)
     have s2 := bin_or (a := bits) (b := 2 ^ i) hb62 (by omega)
     obtain ⟨nb,hnb⟩ : ∃ nb,nb = (bits ||| 2 ^ i) := ⟨_,rfl⟩
     rw [← hnb] at s2
     have x1 : ∀ X,(List.set H (h.length + 1) X)[h.length + 1]? = some X := fun X => by rw [qF (aF hb1)]
     have x2 : ∀ X,(List.set H (h.length + 1) X)[h.length + 2]? = some (some (.row [AV.int .i64 0,AV.int .i64 0,AV.int .i64 0,AV.int .i64 0,AV.int .i64 0])) := fun X => by rw [qB (by omega)]; exact z2
     have x3 : ∀ X Z,(List.set (List.set H (h.length + 1) X) (h.length + 2) Z)[h.length + 2]? = some Z := fun X Z => by rw [qF (by rw [List.length_set]; exact aF z2)]
     have g1 : 1 ≤ (aE ((bits : Int) :: ho')).length := by omega
     have dd : (aE ((bits : Int) :: ho')).drop 1 = aE ho' := rfl
     have c4 : (aE ho').length = 4 := by rw [bC,hho,hl]
     have t4 : (aE ho').take 4 = aE ho' := List.take_of_length_le (by omega)
     have oo : (AV.int .i64 nb :: aE ho').all one = true := cQ (l := (nb : Int) :: ho')
     simp only [go_sem,z3,q2,bne_self_eq_false,hb1,z2,b0',s1,s2,x1,x2,x3,g1,dd,c4,t4,oo,List.append_nil,List.take_zero,List.nil_append]
     refine ⟨(sH.setR (by omega)).setR (by omega),?_⟩
     rw [kE,if_neg hnl,hci,← hr,if_pos (by simpa using q2),hnb]
     rfl
   · have x4 : ∀ Z,(List.set H (h.length + 2) Z)[h.length + 2]? = some Z := fun Z => by rw [qF (aF z2)]
     simp only [go_sem,z3,q2,hb1,z2,c5',t5',d5',x4,cQ,List.append_nil,List.take_zero,List.nil_append]
     refine ⟨sH.setR (by omega),?_⟩
     rw [kE,if_neg hnl,hci,← hr,if_neg (by simpa using q2)]
theorem nW : ∀ (a b : List Int),a.length = b.length → bW (List.replicate a.length true) (aE a) (aE b) = some (a == b)
 | [],[],_ => rfl
 | x :: xs,y :: ys,e => by
  have ih := nW xs ys (by simpa using e)
  simp only [aE,List.map_cons,List.length_cons,List.replicate_succ,bW,ceq] at ih ⊢
  rw [ih]
  by_cases h : x = y
  · subst h; simp
  · have h2 : (x == y) = false := beq_eq_false_iff_ne.2 h
    have h3 : (x :: xs == y :: ys) = false := by rw [List.cons_beq_cons,h2]; rfl
    rw [h2,h3]; simp
theorem aA0 {a b : List Int} (ha : a.length = 5) (hb : b.length = 5) : keq (true,[true,true,true,true,true]) (.agg (aE a)) (.agg (aE b)) = some (decide (a = b)) := by
 have := nW a b (by omega)
 rw [ha] at this
 simp only [keq,if_true]
 refine Eq.trans this ?_
 congr 1
 by_cases e : a = b <;> simp [e]
def fH (M : List (List Int)) : List (AV × AV) := M.map fun m => (.agg (aE m),.bool true)
theorem jT {K : List Int} (hK : K.length = 5) : ∀ (M : List (List Int)) (i : Nat),(∀ m ∈ M,m.length = 5) →
 (K ∉ M ∧ dS (true,[true,true,true,true,true]) (.agg (aE K)) (fH M) i = some none) ∨ ∃ j : Nat,M[j]? = some K ∧ dS (true,[true,true,true,true,true]) (.agg (aE K)) (fH M) i = some (some (i + j,.bool true))
 | [],i,_ => .inl ⟨by simp,rfl⟩
 | K' :: M,i,hM => by
  have hK' := hM _ List.mem_cons_self
  have ih := jT hK M (i + 1) fun m hm => hM m (List.mem_cons_of_mem _ hm)
  simp only [fH,List.map_cons,dS] at ih ⊢
  rw [aA0 hK hK']
  by_cases e : K = K'
  · subst e
    exact .inr ⟨0,rfl,by simp⟩
  · simp only [e,decide_false]
    rcases ih with ⟨h0,h1⟩ | ⟨j,h1,h2⟩
    · exact .inl ⟨by simp [e,h0],h1⟩
    · exact .inr ⟨j + 1,by simpa using h1,by rw [h2,Nat.add_assoc,Nat.add_comm 1 j]⟩
theorem xN {H : Heap} {dd : Nat} {M : List (List Int)} {K : List Int} (hd : H[dd]? = some (some (.map (fH M)))) (hK : K.length = 5) (hM : ∀ m ∈ M,m.length = 5) :
 kF H (true,[true,true,true,true,true]) (.bool false) false (.map dd) (.agg (aE K)) = some (.bool (decide (K ∈ M))) := by
 simp only [kF,hd]
 rw [if_neg (by rw [aA0 hK hK]; simp)]
 rcases jT hK M 0 hM with ⟨h0,h1⟩ | ⟨j,h0,h1⟩
 · rw [h1]; simp [h0]
 · rw [h1]; simp [List.mem_of_getElem? h0]
theorem zW {H : Heap} {dd : Nat} {M : List (List Int)} {K : List Int} (hd : H[dd]? = some (some (.map (fH M)))) (hK : K.length = 5) (hM : ∀ m ∈ M,m.length = 5) :
 ∃ M',lN H (true,[true,true,true,true,true]) (.map dd) (.agg (aE K)) (.bool true) = some (.undef,H.set dd (some (.map (fH M')))) ∧ ∀ m ∈ M',m = K ∨ m ∈ M := by
 simp only [lN,hd]
 rw [if_neg (by rw [aA0 hK hK]; simp)]
 rcases jT hK M 0 hM with ⟨h0,h1⟩ | ⟨j,h0,h1⟩
 · rw [h1]
   exact ⟨M ++ [K],by simp [fH],fun m hm => by simp at hm; exact hm.symm⟩
 · rw [h1]
   refine ⟨M,?_,fun m hm => .inr hm⟩
   have : (fH M).set (0 + j) (.agg (aE K),.bool true) = fH M := by
    rw [Nat.zero_add]
    apply List.ext_getElem?
    intro i
    by_cases e : j = i
    · subst e
      rw [qF (by simp only [fH,List.length_map]; exact aF h0)]
      simp only [fH,List.getElem?_map,h0,Option.map_some]
    · rw [qB e]
   simp only [this]
structure OutOf (n bits : Nat) (out : List Nat) : Prop where
 nd : out.Nodup
 lt : ∀ i ∈ out,i < n
 bit : ∀ i,bits.testBit i = true ↔ i ∈ out
theorem OutOf.len {n bits : Nat} {a b : List Nat} (x : OutOf n bits a) (y : OutOf n bits b) : a.length = b.length :=
 Nat.le_antisymm (eD x.nd fun i hi => (y.bit i).1 ((x.bit i).2 hi)) (eD y.nd fun i hi => (x.bit i).1 ((y.bit i).2 hi))
theorem OutOf.next {n bits i : Nat} {out : List Nat} (x : OutOf n bits out) (hi : i < n) (hb : bits.testBit i = false) : OutOf n (bits ||| 2 ^ i) (out ++ [i]) := by
 have hm : i ∉ out := fun hm => by have := (x.bit i).2 hm; rw [hb] at this; cases this
 refine ⟨?_,fun j hj => ?_,fun k => ?_⟩
 · rw [List.nodup_append]
   exact ⟨x.nd,by simp,fun a ha b hb e => hm (by simp at hb; subst hb; subst e; exact ha)⟩
 · rcases List.mem_append.1 hj with hj | hj
   · exact x.lt j hj
   · simp at hj; subst hj; exact hi
 · rw [tD,Bool.or_eq_true,x.bit k,decide_eq_true_eq,List.mem_append,List.mem_singleton]; exact or_congr Iff.rfl ⟨Eq.symm,Eq.symm⟩
def kB (l : List CallD) (M : List (List Int)) : Prop := ∀ m ∈ M,∃ (bits k : Nat) (ho : List Int) (out : List Nat),m = (bits : Int) :: ho ∧ ho.length = 4 ∧ OutOf l.length bits out ∧ out.length + k = l.length ∧ dfs l.length (eL l) k (bits,ho) = none
theorem kB.five {l : List CallD} {M : List (List Int)} (a : kB l M) : ∀ m ∈ M,m.length = 5 := fun m hm => by
 obtain ⟨_,_,ho,_,rfl,h2,_⟩ := a m hm
 rw [List.length_cons,h2]
theorem kB.use {l : List CallD} {M : List (List Int)} (a : kB l M) {bits k : Nat} {ho : List Int} {out : List Nat} (x : OutOf l.length bits out) (hk : out.length + k = l.length) (hm : ((bits : Int) :: ho) ∈ M) : dfs l.length (eL l) k (bits,ho) = none := by
 obtain ⟨b2,k2,ho2,out2,e,_,h3,h4,h5⟩ := a _ hm
 obtain ⟨e1,rfl⟩ := List.cons.inj e
 obtain rfl : bits = b2 := by omega
 obtain rfl : k = k2 := by have := x.len h3; omega
 exact h5
def cR (l : List Nat) : List Int := l.map fun i : Nat => (i : Int)
theorem fI {l : List Nat} : (cR l).length = l.length := by simp [cR]
structure OutS (B H : Heap) (o dd dm : Nat) (cv : AV) (l : List CallD) (ov : AV) (out : List Nat) : Prop where
 sub : aH B H
 box : H[o]? = some (some (.row [cv,.map dm,ov,.map dd]))
 fo : ∀ b,B[o]? ≠ some (some b)
 fd : ∀ b,B[dd]? ≠ some (some b)
 od : o ≠ dd
 memo : ∃ M,H[dd]? = some (some (.map (fH M))) ∧ kB l M
 val : (ov = .nilS ∧ out = []) ∨ ∃ io c,(∀ b,B[io]? ≠ some (some b)) ∧ io ≠ o ∧ io ≠ dd ∧ ov = .sl (.own io 0) out.length 1 false ∧ H[io]? = some (some (.row c)) ∧ out.length ≤ c.length ∧ c.take out.length = aE (cR out)
section
variable {B H : Heap} {o dd dm : Nat} {cv ov : AV} {l : List CallD} {out : List Nat}
theorem OutS.len (a : OutS B H o dd dm cv l ov out) : kP ov = some (.int .i64 out.length) := by
 rcases a.val with ⟨rfl,rfl⟩ | ⟨io,c,_,_,_,rfl,_⟩ <;> rfl
theorem OutS.app {L : Heap} (a : OutS B H o dd dm cv l ov out) : OutS B (H ++ L) o dd dm cv l ov out := by
 obtain ⟨M,m1,m2⟩ := a.memo
 refine ⟨a.sub.app,aA a.box,a.fo,a.fd,a.od,⟨M,aA m1,m2⟩,?_⟩
 rcases a.val with h1 | ⟨io,c,h1,h2,h3,h4,h5,h6⟩
 · exact .inl h1
 · exact .inr ⟨io,c,h1,h2,h3,h4,aA h5,h6⟩
theorem aH.setF {B H : Heap} {i : Nat} {x : Option Blk} (s : aH B H) (f : ∀ b,B[i]? ≠ some (some b)) : aH B (H.set i x) := ⟨by simpa using s.1,fun j b e => by
 by_cases q : i = j
 · subst q; exact absurd e (f b)
 · rw [qB q]; exact s.2 j b e⟩
theorem OutS.more (a : OutS B H o dd dm cv l ov out) {k : Nat} {f : Bool} {x : Nat} (hk : H[k]? = some (some (.row [.int .i64 (x : Int)]))) (hn : out.length ≤ 1000) :
 ∃ G,dH w0 H 1 8 ov (.sl (.own k 0) 1 1 f) = some (.sl (.own H.length 0) (out.length + 1) 1 false,G) ∧ G[o]? = some (some (.row [cv,.map dm,ov,.map dd])) ∧ G.length = H.length + 1 ∧
  OutS B (G.set o (some (.row [cv,.map dm,.sl (.own H.length 0) (out.length + 1) 1 false,.map dd]))) o dd dm cv l (.sl (.own H.length 0) (out.length + 1) 1 false) (out ++ [x]) ∧
  ∀ i b,i < H.length → i ≠ o → (∀ io n e,ov = .sl (.own io 0) n 1 e → io ≠ i) → H[i]? = some b → (G.set o (some (.row [cv,.map dm,.sl (.own H.length 0) (out.length + 1) 1 false,.map dd])))[i]? = some b := by
 have r1 : rdn w0 H (.own k 0) (1 * 1) = some [.int .i64 (x : Int)] := by simp [rdn,hk]
 have hBH := a.sub.1
 have hoH := aF a.box
 have hnB : ∀ b,B[H.length]? ≠ some (some b) := fun b e => by have := aF e; omega
 obtain ⟨M,m1,m2⟩ := a.memo
 have hdH := aF m1
 rcases a.val with ⟨rfl,rfl⟩ | ⟨io,c,h1,h2,h3,rfl,h5,h6,h7⟩
 · refine ⟨H ++ [some (.row [.int .i64 (x : Int)])],?_,aA a.box,by simp,⟨a.sub.app.setF a.fo,by rw [qF (by simp; omega)],a.fo,a.fd,a.od,⟨M,by rw [qB a.od]; exact aA m1,m2⟩,.inr ⟨H.length,[.int .i64 (x : Int)],hnB,by omega,by omega,rfl,?_,by simp,rfl⟩⟩,fun i b hi hio _ e => ?_⟩
   · simp only [dH,eP,eJ,if_true,r1,Option.map_some,Option.bind_some]
     rw [if_neg (by omega),if_pos ⟨by omega,rfl⟩]
     simp [eQ]
   · rw [qB (by omega),qI (Nat.le_refl _),Nat.sub_self]; rfl
   · rw [qB (fun e => hio e.symm)]; exact aA e
 · have hio := aF h5
   have r2 : rdn w0 H (.own io 0) (out.length * 1) = some (aE (cR out)) := by
    simp only [rdn,h5]
    rw [if_pos (by omega),List.drop_zero,Nat.mul_one,h7]
   rw [Nat.mul_one] at r2
   refine ⟨H.set io none ++ [some (.row (aE (cR out) ++ [.int .i64 (x : Int)]))],?_,aA (by rw [qB h2]; exact a.box),by simp,
    ⟨((a.sub.setF h1).app).setF a.fo,by rw [qF (by simp; omega)],a.fo,a.fd,a.od,⟨M,by rw [qB a.od]; exact aA (by rw [qB h3]; exact m1),m2⟩,.inr ⟨H.length,aE (cR out) ++ [.int .i64 (x : Int)],hnB,by omega,by omega,by simp,?_,by simp [cR],?_⟩⟩,fun i b hi hio2 hne e => ?_⟩
   · simp only [dH,eP,eJ,if_true,r1,Option.map_some,Option.bind_some]
     rw [if_neg (by omega),if_pos ⟨trivial,by omega,rfl⟩]
     simp [r2]
   · rw [qB (by omega),qI (by simp)]; simp
   · rw [List.take_of_length_le (by simp [cR])]; simp [aE,cR]
   · rw [qB (fun e => hio2 e.symm)]
     exact aA (by rw [qB (hne io _ _ rfl)]; exact e)
theorem OutS.less {x : Nat} (a : OutS B H o dd dm cv l ov (out ++ [x])) : ∃ io,ov = .sl (.own io 0) (out.length + 1) 1 false ∧ OutS B (H.set o (some (.row [cv,.map dm,.sl (.own io 0) out.length 1 false,.map dd]))) o dd dm cv l (.sl (.own io 0) out.length 1 false) out := by
 have hoH := aF a.box
 obtain ⟨M,m1,m2⟩ := a.memo
 rcases a.val with ⟨_,h1⟩ | ⟨io,c,h1,h2,h3,h4,h5,h6,h7⟩
 · simp at h1
 · simp only [List.length_append,List.length_singleton] at h4 h6 h7
   refine ⟨io,h4,a.sub.setF a.fo,by rw [qF hoH],a.fo,a.fd,a.od,⟨M,by rw [qB a.od]; exact m1,m2⟩,.inr ⟨io,c,h1,h2,h3,rfl,by rw [qB (fun e => h2 e.symm)]; exact h5,by omega,?_⟩⟩
   have := congrArg (List.take out.length) h7
   rw [List.take_take,Nat.min_eq_left (by omega)] at this
   rw [this]; simp [aE,cR]
theorem OutS.slI (a : OutS B H o dd dm cv l ov out) : SlI w0 H ov (cR out) := by
 rcases a.val with ⟨rfl,rfl⟩ | ⟨io,c,_,_,_,rfl,h3,h4,h5⟩
 · exact .inl ⟨rfl,rfl⟩
 · refine .inr ⟨_,false,⟨1,by rw [List.length_map,fI],eJ⟩,by simp only [Pl.bdd]; exact aF h3,fun j d hd => ?_⟩
   rw [List.getElem?_map,qD] at hd
   obtain ⟨x,hx,rfl⟩ := hd
   have hj := aF hx
   rw [fI] at hj
   simp only [Pl.add,rdn,h3]
   rw [if_pos (by omega)]
   have hc : j < c.length := by omega
   have : c[j] = .int .i64 x := by
    have := congrArg (fun t => t[j]?) h5
    simp only [List.getElem?_take_of_lt hj,qA hc,lU,hx] at this
    simpa using this
   simp only [Nat.zero_add,Nat.mul_one,List.drop_eq_getElem_cons hc,this,List.take_succ_cons,List.take_zero]
def vW (H : Heap) (o dd : Nat) (ov : AV) : Heap := match ov with
 | .sl (.own io _) _ _ _ => ((H.set o none).set dd none).set io none
 | _ => (H.set o none).set dd none
theorem OutS.mask (a : OutS B H o dd dm cv l ov out) : OutS (vW H o dd ov) H o dd dm cv l ov out ∧ aH B (vW H o dd ov) ∧ ∀ i b,i ≠ o → i ≠ dd → (∀ io n e,ov = .sl (.own io 0) n 1 e → io ≠ i) → H[i]? = some b → (vW H o dd ov)[i]? = some b := by
 obtain ⟨M,m1,m2⟩ := a.memo
 have ho := aF a.box
 have hd := aF m1
 have base : ∀ (X : Heap) (i : Nat),aH X H → aH (X.set i none) H := fun X i s => aH.msk.trans s
 have nn : ∀ (X : Heap) (i j : Nat) b,(X.set i none)[j]? = some (some b) → i ≠ j ∧ X[j]? = some (some b) := fun X i j b e => by
  by_cases q : i = j
  · subst q
    have := aF e
    rw [List.length_set] at this
    rw [qF this] at e; cases e
  · rw [qB q] at e; exact ⟨q,e⟩
 have bm : ∀ (X : Heap) (i : Nat),aH B X → (∀ b,B[i]? ≠ some (some b)) → aH B (X.set i none) := fun X i s f => s.setF f
 rcases a.val with ⟨rfl,rfl⟩ | ⟨io,c,h1,h2,h3,rfl,h5,h6,h7⟩
 · refine ⟨⟨base _ _ (base _ _ aH.refl),a.box,fun b e => ?_,fun b e => ?_,a.od,⟨M,m1,m2⟩,.inl ⟨rfl,rfl⟩⟩,bm _ _ (bm _ _ a.sub a.fo) a.fd,fun i b n1 n2 _ e => ?_⟩
   · exact (nn _ _ _ _ (nn _ _ _ _ e).2).1 rfl
   · exact (nn _ _ _ _ e).1 rfl
   · show ((H.set o none).set dd none)[i]? = _
     rw [qB (fun e => n2 e.symm),qB (fun e => n1 e.symm)]; exact e
 · refine ⟨⟨base _ _ (base _ _ (base _ _ aH.refl)),a.box,fun b e => ?_,fun b e => ?_,a.od,⟨M,m1,m2⟩,.inr ⟨io,c,fun b e => (nn _ _ _ _ e).1 rfl,h2,h3,rfl,h5,h6,h7⟩⟩,bm _ _ (bm _ _ (bm _ _ a.sub a.fo) a.fd) h1,fun i b n1 n2 n3 e => ?_⟩
   · exact (nn _ _ _ _ (nn _ _ _ _ (nn _ _ _ _ e).2).2).1 rfl
   · exact (nn _ _ _ _ (nn _ _ _ _ e).2).1 rfl
   · show (((H.set o none).set dd none).set io none)[i]? = _
     rw [qB (n3 io _ _ rfl),qB (fun e => n2 e.symm),qB (fun e => n1 e.symm)]; exact e
theorem OutS.base {B' : Heap} (a : OutS B' H o dd dm cv l ov out) (s : aH B B') : OutS B H o dd dm cv l ov out := by
 have f : ∀ {i : Nat},(∀ b,B'[i]? ≠ some (some b)) → ∀ b,B[i]? ≠ some (some b) := fun h b e => h b (s.2 _ _ e)
 refine ⟨s.trans a.sub,a.box,f a.fo,f a.fd,a.od,a.memo,?_⟩
 rcases a.val with h1 | ⟨io,c,h1,h2⟩
 · exact .inl h1
 · exact .inr ⟨io,c,f h1,h2⟩
end
theorem OutS.dead {B H : Heap} {o dd dm : Nat} {cv ov : AV} {l : List CallD} {out : List Nat} {M : List (List Int)} (a : OutS B H o dd dm cv l ov out) (hM : kB l M) : OutS B (H.set dd (some (.map (fH M)))) o dd dm cv l ov out := by
 obtain ⟨M0,m1,_⟩ := a.memo
 refine ⟨a.sub.setF a.fd,by rw [qB (fun e => a.od e.symm)]; exact a.box,a.fo,a.fd,a.od,⟨M,by rw [qF (aF m1)],hM⟩,?_⟩
 rcases a.val with h1 | ⟨io,c,h1,h2,h3,h4,h5,h6⟩
 · exact .inl h1
 · exact .inr ⟨io,c,h1,h2,h3,h4,by rw [qB (fun e => h3 e.symm)]; exact h5,h6⟩
theorem nE {l : List CallD} {bits i : Nat} {ho : List Int} (hl : ho.length = 4) (hb : bits.testBit i = false) :
 (∃ ps : List Int,ps.length = 5 ∧ kE l bits ho i = [.agg (aE ps),.bool false] ∧ eL l (bits,ho) i = none) ∨
 ∃ ho' : List Int,ho'.length = 4 ∧ kE l bits ho i = [.agg (aE (((bits ||| 2 ^ i : Nat) : Int) :: ho')),.bool true] ∧ eL l (bits,ho) i = some (bits ||| 2 ^ i,ho') := by
 have hho := oX (ho := ho) (c := aL l i)
 unfold kE eL
 simp only [hb,Bool.false_eq_true,if_false]
 by_cases q : hZ l bits i = true
 · simp only [q,if_true]
   exact .inl ⟨_,by rw [List.length_cons,hl],rfl,trivial⟩
 · simp only [q,Bool.false_eq_true,if_false]
   by_cases q2 : (doD ho (aL l i)).2 = (aL l i).result
   · rw [if_pos q2,if_pos q2]
     exact .inr ⟨_,by rw [hho,hl],rfl,rfl⟩
   · rw [if_neg q2,if_neg q2]
     exact .inl ⟨_,by rw [List.length_cons,hho,hl],rfl,rfl⟩
structure FSt (w0 : World) (B : Heap) (dm : Nat) (cv : AV) (l : List CallD) (tm : Int) : Prop where
 cl : CL w0 B cv l
 kd : B[dm]? = some (some (.map cP))
 all : ∀ c ∈ l,bA tm c = true
 tm4 : tm < 4
 n7 : l.length ≤ 7
theorem FSt.sub {B H : Heap} {dm : Nat} {cv : AV} {l : List CallD} {tm : Int} (a : FSt w0 B dm cv l tm) (s : aH B H) : FSt w0 H dm cv l tm := ⟨a.cl.sub s,s.2 _ _ a.kd,a.all,a.tm4,a.n7⟩
theorem OutOf.lt7 {n bits : Nat} {out : List Nat} (x : OutOf n bits out) (hn : n ≤ 7) : bits < 2 ^ 7 := by
 apply Nat.lt_pow_two_of_testBit
 intro i hi
 cases hb : bits.testBit i with
 | false => rfl
 | true => have := x.lt i ((x.bit i).1 hb); omega
theorem find_c : ∀ (k : Nat) (B : Heap) {o dd dm : Nat} {cv : AV} {l : List CallD} {tm : Int} (st : FSt w0 B dm cv l tm) (out : List Nat) (bits : Nat) (ho : List Int) (H : Heap) (ov : AV), out.length + k = l.length → OutOf l.length bits out → ho.length = 4 → OutS B H o dd dm cv l ov out →
      ACall Tryz.prog w0 100 [.ptr (.own o 0),.agg (aE ((bits : Int) :: ho))] H fun y H' => ∃ ov',match dfs l.length (eL l) k (bits,ho) with
       | some x => y = .bool true ∧ OutS B H' o dd dm cv l ov' (out ++ x)
       | none => y = .bool false ∧ OutS B H' o dd dm cv l ov' out := by
 intro k
 induction k with
 | zero =>
  intro B o dd dm cv l tm st out bits ho H ov hk hx h4 hO
  refine aX aZ lO oS oR (qE rfl) fun hb ha => bB ?_
  have c5 : (aE ((bits : Int) :: ho)).length = 5 := by rw [bC,List.length_cons,h4]
  have t5 : (aE ((bits : Int) :: ho)).take 5 = aE ((bits : Int) :: ho) := List.take_of_length_le (by omega)
  have e1 : ∀ L,(H ++ L)[o]? = some (some (.row [cv,.map dm,ov,.map dd])) := fun L => aA hO.box
  have hlen := (st.cl.sub hO.sub).len
  have e3 : (out.length : Int) = l.length := by omega
  simp only [go_sem,mf100,cQ,c5,t5,e1,hO.len,hlen,e3,beq_self_eq_true]
  rw [dfs]
  exact ⟨ov,by simp only [List.append_nil,true_and]; exact hO.app⟩
 | succ k ih =>
  intro B o dd dm cv l tm st out bits ho H ov hk hx h4 hO
  refine aX aZ lO oS oR (qE rfl) fun hb ha => bB ?_
  have c5 : (aE ((bits : Int) :: ho)).length = 5 := by rw [bC,List.length_cons,h4]
  have t5 : (aE ((bits : Int) :: ho)).take 5 = aE ((bits : Int) :: ho) := List.take_of_length_le (by omega)
  have e1 : ∀ L,(H ++ L)[o]? = some (some (.row [cv,.map dm,ov,.map dd])) := fun L => aA hO.box
  have hlen := (st.cl.sub hO.sub).len
  have e3 : ¬ (out.length : Int) = l.length := by omega
  have e3' : ((out.length : Int) == l.length) = false := by simpa using e3
  obtain ⟨M,m1,m2⟩ := hO.memo
  have k5 : ((bits : Int) :: ho).length = 5 := by rw [List.length_cons,h4]
  have lk : ∀ L,kF (H ++ L) (true,[true,true,true,true,true]) (.bool false) false (.map dd) (.agg (aE ((bits : Int) :: ho))) = _ := fun L => xN (xL m1 L) k5 m2.five
  simp only [go_sem,mf100,cQ,c5,t5,e1,hO.len,hlen,e3',lk]
  refine ⟨fun hm => ?_,fun hm => ?_⟩
  · rw [m2.use hx hk hm]
    exact ⟨ov,hO.app⟩
  clear m1 m2 lk
  obtain ⟨pb,hpb⟩ : ∃ pb,pb = H.length := ⟨_,rfl⟩
  have hb7 := hx.lt7 st.n7
  have n7 := st.n7
  have pbo : pb ≠ o := fun e => by have := aF hO.box; omega
  have pbd : pb ≠ dd := fun e => by obtain ⟨M,m1,_⟩ := hO.memo; have := aF m1; omega
  have oio : ∀ io n e,ov = .sl (.own io 0) n 1 e → io ≠ pb := fun io n e h1 h2 => by
   rcases hO.val with ⟨q,_⟩ | ⟨io',c,_,_,_,q,q2,_⟩
   · rw [q] at h1; cases h1
   · rw [q] at h1; cases h1
     have := aF q2; omega
  have hBp : ∀ b,B[pb]? ≠ some (some b) := fun b e => by have := aF e; have := hO.sub.1; omega
  refine iJ (S := Nat × Heap × AV) (F := fun t => [(0,.ptr (.own o 0)),(3,.ptr (.own pb 0)),(31,.int .i64 l.length),(32,.int .i64 t.1)]) (H := fun t => t.2.1) (meas := fun t => l.length - t.1)
   (Inv := fun t => t.1 ≤ l.length ∧ OutS B t.2.1 o dd dm cv l t.2.2 out ∧ t.2.1[pb]? = some (some (.row (aE ((bits : Int) :: ho)))) ∧ (∀ io n e,t.2.2 = .sl (.own io 0) n 1 e → io ≠ pb) ∧
    dfs l.length (eL l) (k + 1) (bits,ho) = ((List.range l.length).drop t.1).findSome? fun i => (eL l (bits,ho) i).bind fun q => (dfs l.length (eL l) k q).map (i :: ·)) (0,H ++ [some (.row (aE ((bits : Int) :: ho)))],ov)
   ⟨Nat.zero_le _,hO.app,by rw [hpb,qI (Nat.le_refl _),Nat.sub_self]; rfl,oio,rfl⟩ (by rw [hpb]; rfl) rfl ?_
  rintro ⟨i,G,gv⟩ ⟨hi,gO,gp,gio,hG⟩ ih2
  simp only at hi gO gp gio hG ih2 ⊢
  have b0 : (aE ((bits : Int) :: ho))[0]? = some (.int .i64 bits) := rfl
  have g1 : ∀ L,(G ++ L)[o]? = some (some (.row [cv,.map dm,gv,.map dd])) := fun L => aA gO.box
  refine bI aZ aBx [0,3,31,32] L100_0.eq_1 ?_
  by_cases hil : i < l.length
  · have e5 : (i : Int) < l.length := by omega
    rw [List.drop_eq_getElem_cons (by simpa using hil),List.findSome?_cons,List.getElem_range] at hG
    have s1 := pF (a := bits) (n := i) (by omega)
    have s2 := mJ (a := bits / 2 ^ i) (by have := Nat.div_le_self bits (2 ^ i); omega)
    rw [oF] at s2
    cases hbt : bits.testBit i with
    | true =>
     rw [hbt,if_pos rfl] at s2
     have hn : eL l (bits,ho) i = none := by unfold eL; rw [if_pos hbt]
     rw [hn,Option.bind_none] at hG
     simp only [go_sem,e5,gp,b0,s1,s2]
     exact ⟨(by unfold I64; omega),ih2 (i + 1,G,gv) ⟨by simp only; omega,gO,gp,gio,hG⟩ (by simp only; omega)⟩
    | false =>
     rw [hbt,if_neg (by simp)] at s2
     simp only [go_sem,e5,gp,b0,s1,s2,gO.box,c5,t5]
     have stG := st.sub gO.sub
     refine aK (aAd (w0 := w0) (h := G) stG.cl stG.kd st.all st.tm4 st.n7 hil hb7 h4).v ?_
     rcases nE (l := l) h4 hbt with ⟨ps,p5,hv,hn⟩ | ⟨ho',h4',hv,hn⟩
     · rw [hn,Option.bind_none] at hG
       have c6 : (aE ps).length = 5 := by rw [bC,p5]
       have t6 : (aE ps).take 5 = aE ps := List.take_of_length_le (by omega)
       rw [hv]
       simp only [go_sem,cQ,c6,t6]
       exact ⟨(by unfold I64; omega),ih2 (i + 1,_,gv) ⟨by simp only; omega,gO.app,aA gp,gio,hG⟩ (by simp only; omega)⟩
     · rw [hn,Option.bind_some] at hG
       obtain ⟨nb,hnb⟩ : ∃ nb,nb = (bits ||| 2 ^ i) := ⟨_,rfl⟩
       rw [hv,← hnb]
       have hx' := hx.next hil hbt
       rw [← hnb] at hx' hG
       have c6 : (aE ((nb : Int) :: ho')).length = 5 := by rw [bC,List.length_cons,h4']
       have t6 : (aE ((nb : Int) :: ho')).take 5 = aE ((nb : Int) :: ho') := List.take_of_length_le (by omega)
       have d6 : (aE ((nb : Int) :: ho')).drop 5 = [] := List.drop_of_length_le (by omega)
       simp only [go_sem,cQ,c6,t6,d6,g1,List.append_nil]
       obtain ⟨X,eX⟩ : ∃ X,X = G ++ [some (Blk.row (aE ((nb : Int) :: ho'))),some (Blk.row [AV.int .i64 i])] := ⟨_,rfl⟩
       have hXO : OutS B X o dd dm cv l gv out := eX ▸ gO.app
       have x1 : X[G.length + 1]? = some (some (.row [.int .i64 (i : Int)])) := by rw [eX,qI (by omega),show G.length + 1 - G.length = 1 by omega]; rfl
       have x2 : X[G.length]? = some (some (.row (aE ((nb : Int) :: ho')))) := by rw [eX,qI (Nat.le_refl _),Nat.sub_self]; rfl
       have x3 : X[pb]? = some (some (.row (aE ((bits : Int) :: ho)))) := eX ▸ aA gp
       have hXl : X.length = G.length + 2 := by rw [eX]; simp
       obtain ⟨G1,a1,a2,a3,a4,a5⟩ := hXO.more (w0 := w0) (f := true) x1 (by omega)
       rw [← eX,a1]
       obtain ⟨G2,eG2⟩ : ∃ G2,G2 = G1.set o (some (.row [cv,.map dm,.sl (.own X.length 0) (out.length + 1) 1 false,.map dd])) := ⟨_,rfl⟩
       rw [← eG2] at a4 a5
       have goG := aF gO.box
       have y2 : G2[G.length]? = _ := a5 G.length _ (by omega) (by omega) (fun io n e he => by
        rcases gO.val with ⟨q,_⟩ | ⟨io',c,_,_,_,q,q2,_⟩
        · rw [q] at he; cases he
        · rw [q] at he; cases he
          have := aF q2; omega) x2
       have y3 : G2[pb]? = _ := a5 pb _ (aF x3) pbo gio x3
       simp only [go_sem,a2]
       rw [← eG2]
       simp only [go_sem,y2,c6,t6]
       obtain ⟨mk1,mk2,mk3⟩ := a4.mask
       obtain ⟨B1,eB1⟩ : ∃ B1,B1 = vW G2 o dd (.sl (.own X.length 0) (out.length + 1) 1 false) := ⟨_,rfl⟩
       rw [← eB1] at mk1 mk2 mk3
       have y4 := mk3 pb _ pbo pbd (fun io n e he => by cases he; have := aF x3; omega) y3
       refine aV (ACall.vc (first := []) (capt := []) (ih B1 (st.sub mk2) (out ++ [i]) nb ho' G2 _ (by simp; omega) hx' h4' mk1)) ?_
       rintro y H' ⟨ov',hy⟩
       cases hbs : dfs l.length (eL l) k (nb,ho') with
       | some x =>
        rw [hbs] at hy hG
        obtain ⟨rfl,hy⟩ := hy
        simp only [go_sem]
        rw [hG]
        exact ⟨ov',by rw [List.append_assoc] at hy; exact hy.base mk2⟩
       | none =>
        rw [hbs] at hy hG
        obtain ⟨rfl,hy⟩ := hy
        have z1 := hy.sub.2 _ _ y4
        obtain ⟨io,rfl,hl⟩ := hy.less
        have zio : io ≠ pb := fun e => by
         rcases hy.val with ⟨q,_⟩ | ⟨io',c,q1,_,_,q,_⟩
         · cases q
         · have hq := Pl.own.inj (AV.sl.inj q).1
           rw [← hq.1,e] at q1; exact q1 _ y4
        have c1 : ∀ L,(H' ++ L)[o]? = _ := fun L => aA (k := L) hy.box
        have w1 : wi (((out.length + 1 : Nat) : Int) - 1) = out.length := by rw [hJ (by unfold I64; omega)]; omega
        simp only [go_sem,hy.box,c1,w1,cG]
        refine ⟨by omega,(by unfold I64; omega),?_⟩
        rw [Nat.sub_zero,Bool.false_and]
        exact ih2 (i + 1,_,_) ⟨by simp only; omega,hl.base mk2,by simp only; rw [qB (fun e => pbo e.symm)]; exact z1,fun io' n e he => by cases he; exact zio,by rw [hG]; rfl⟩ (by simp only; omega)
  · have e5 : ¬ (i : Int) < l.length := by omega
    obtain rfl : i = l.length := by omega
    rw [List.drop_of_length_le (by simp),List.findSome?_nil] at hG
    obtain ⟨M,m1,m2⟩ := gO.memo
    have k5 : ((bits : Int) :: ho).length = 5 := by rw [List.length_cons,h4]
    obtain ⟨M',p1,p2⟩ := zW m1 k5 m2.five
    simp only [go_sem,e5,gO.box,gp,c5,t5,p1]
    rw [hG]
    refine ⟨gv,gO.dead fun m hm => ?_⟩
    rcases p2 m hm with rfl | hm
    · exact ⟨bits,k + 1,ho,out,rfl,h4,hx,hk,hG⟩
    · exact m2 m hm
end Go.Proofs.Ab
